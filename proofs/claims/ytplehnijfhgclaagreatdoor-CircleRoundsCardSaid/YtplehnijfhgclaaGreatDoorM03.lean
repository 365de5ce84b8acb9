/- A part of the proof. -/
import Derived.Recover
import Derived.Test.YtplehnijfhgclaaGreatDoorM02
set_option linter.unusedSimpArgs false
set_option linter.unusedVariables false
set_option linter.defProp false
set_option maxRecDepth 100000
set_option maxHeartbeats 4000000
noncomputable section
open Bool renaming and_eq_false_iff->acX,and_eq_true->dH,false_eq_true->df,not_eq_false'->Jd,not_eq_true'->na,rec->fJ,true_and->gy
open Classical renaming choose_spec->rn
open Decidable renaming em->eC
open Int renaming fdiv_eq_ediv_of_nonneg->SH,lt_trichotomy->pQ,mul_comm->mC,mul_fdiv_add_fmod->MM,mul_ne_zero->wi,mul_one->rE,natAbs_natCast->ih,one_mul->ny,sign_eq_neg_one_of_neg->kF,sign_eq_one_of_pos->gJ,sign_mul->nC,sign_neg->D8,sign_zero->wk,sub_zero->HQ,zero_mul->xX,zero_sub->aaV
open List renaming any_eq_false->s6,append_assoc->hh,append_nil->nZ,drop->pK,drop_append->DA,drop_drop->xo,drop_eq_getElem_cons->fY,drop_eq_nil_of_le->lq,drop_zero->oF,ext_getElem?->tB,findIdx?_eq_none_iff->abj,findIdx?_eq_some_iff_getElem->abi,flatten_append->TH,flatten_cons->lj,getD_eq_getElem?_getD->eF,getElem?_append_right->Av,getElem?_drop->sC,getElem?_eq_getElem->bB,getElem?_eq_none->mO,getElem?_eq_some_iff->dn,getElem?_inj->abE,getElem?_map->bG,getElem?_set->lO,getElem?_zipIdx->Ts,getElem_drop->EB,getElem_mem->kT,length->D,length_append->lk,length_cons->jG,length_drop->rq,length_map->az,length_replicate->nJ,length_set->fN,length_take->hf,map->Nk,mapM_cons->mx,map_append->pU,map_cons->hv,map_map->rj,map_nil->cl,map_replicate->BR,map_set->BK,mem_append->hs,mem_cons->ia,mem_cons_of_mem->td,mem_cons_self->kV,mem_iff_getElem?->sG,mem_map->h3,mem_of_getElem?->du,mem_of_mem_drop->D1,mem_or_eq_of_mem_set->n8,mem_singleton->v3,nil_append->jR,range->je,range'->I6,range'_succ->acL,replicate->cK,replicate_append_replicate->TG,replicate_succ->pw,set_append_right->Nd,set_cons_succ->EK,set_cons_zero->wu,set_set->abM,take->oK,take_add_one->jj,take_append_of_le_length->TI,take_length->sW,take_of_length_le->dz,zipIdx_map->acR
open List.cons renaming injEq->bs
open Nat renaming add_sub_cancel_left->DC,add_zero->kv,beq->gB,beq_eq->TY,blt->zY,eq_of_beq_eq_true->B0,eq_zero_or_pos->iK,exists_eq_add_of_le->aco,gcd->fO,le_refl->bM,lt_or_ge->fE,mul_one->dE,ne_of_beq_eq_false->mH,reduceEqDiff->zO,reduceLeDiff->abL,sub_self->lW,zero_le->eL
open Option renaming bind_none->s9,bind_some->y7,isNone_iff_eq_none->NH,map->acA,map_bind->NF,map_eq_some_iff->cO,map_map->acz,map_some->kx,rec->ko
open Option.some renaming inj->mT,injEq->bH
open Prod renaming ext->cy,fst->wc
open Prod.mk renaming injEq->ei
open Rat renaming divInt->jW,divInt_mul_divInt->aaN,neg_divInt_neg->aaK,num_divInt_den->ud,sub_eq_add_neg->Iq
namespace Go.Mini
open Go
def aaz:bQ:=b9 35 1 [.t 2] (Y [cS 1 116001 0,cI 2 false] (.seq (Y [aX 5 0 1,bd 6 2 5,dv 7 jS 6,fj 8 7,F 9 8,gP 10 9 2 1,hz 11 9 2 10,gz 12 9 (.call jS [.t 11]),j9 13 9 12,dk 14 9 13,F 15 14,gP 16 15 2 1,gP 17 15 0 16,gd 18 15 1 17,hA 19 15 .neq 18 1,dk 20 15 19] (cn 20 [cI 2 false])) (Y [aX 22 0 1,bd 23 2 22,aX 24 2 1,bd 25 2 24,bV 26 Hs 23 25,F 21 26,bb 27 0 21,bb 28 1 21,cC 3 116003 dg,bo 2 3 27,F 4 28] (Y [F 29 4,bt 30 .eql 29 0,F 31 30,zf 32 31 2 3,fx 33 31 (.call Rd [.t 32]),gb 34 31 33,F 2 34] .ret))))
def aaA:bQ:=b9 46 2 [.cell 4 4 true,.t 5] (Y [cS 2 119002 0,cS 3 119003 1,cC 4 119004 dU,bz 5 0] (.seq (Y [bd 10 4 2,dv 11 lG 10,fj 12 11,F 13 12,hz 14 13 4 3,gz 15 13 (.call lG [.t 14]),j9 16 13 15,dk 17 13 16] (cn 17 [aO 18 (.build dU []),bo 4 4 18,bz 5 1])) (Y [aX 20 0 2,bd 21 2 20,aX 22 2 3,bd 23 2 22,aX 24 0 3,bd 25 2 24,aX 26 2 2,bd 27 2 26,xJ 28 Re 21 23 25 27,F 19 28,bb 29 0 19,bb 30 1 19,cC 6 119006 dg,bo 2 6 29,F 7 30] (Y [aX 32 2 2,bd 33 2 32,aX 34 2 3,bd 35 2 34,bV 36 sI 33 35,F 31 36,bb 37 0 31,bb 38 1 31,cC 8 119008 dg,bo 2 8 37,F 9 38] (Y [bd 39 2 6,F 40 7,bd 41 2 8,F 42 9,xJ 43 A5 39 40 41 42,bb 44 0 43,bb 45 1 43,bo 4 4 44,F 5 45] .ret)))))
def aaB:bQ:=b9 13 2 [.cell 4 4 true,.t 5] (Y [cC 4 130004 dU,bz 5 0] (Y [F 6 0,dv 7 LR 6,F 8 1,dv 9 LR 8,bV 10 Hu 7 9,bb 11 0 10,bb 12 1 10,bo 4 4 11,F 5 12] .ret))
def aaC:bQ:=b9 25 2 [.cell 4 4 true,.t 5] (Y [cS 2 132002 0,cS 3 132003 1,cC 4 132004 dU,bz 5 0] (.seq (Y [bd 6 4 2,dv 7 lG 6,fj 8 7,F 9 8,hz 10 9 4 3,gz 11 9 (.call lG [.t 10]),j9 12 9 11,dk 13 9 12] (cn 13 [aO 14 (.build dU []),bo 4 4 14,bz 5 1])) (fk [bd 15 4 2,aX 16 0 3,bd 17 2 16,dv 18 DI 17,aX 19 2 3,bd 20 2 19,aO 21 (.build dU [(0,2,.t 18),(2,2,.t 20)]),bV 22 vH 15 21,bb 23 0 22,bb 24 1 22,bo 4 4 23,F 5 24] YO .ret)))
def aaD:bQ:=b9 42 2 [.cell 4 4 true,.t 5] (Y [cS 2 134002 0,cS 3 134003 1,cC 4 134004 dU,bz 5 0] (.seq (Y [bd 10 4 2,dv 11 lG 10,fj 12 11,F 13 12,hz 14 13 4 3,gz 15 13 (.call lG [.t 14]),j9 16 13 15,dk 17 13 16] (cn 17 [aO 18 (.build dU []),bo 4 4 18,bz 5 1])) (Y [aX 20 0 2,bd 21 2 20,aX 22 0 3,bd 23 2 22,bV 24 sI 21 23,F 19 24,bb 25 0 19,bb 26 1 19,cC 6 134006 dg,bo 2 6 25,F 7 26] (Y [aX 28 2 2,bd 29 2 28,aX 30 2 3,bd 31 2 30,bV 32 sI 29 31,F 27 32,bb 33 0 27,bb 34 1 27,cC 8 134008 dg,bo 2 8 33,F 9 34] (Y [bd 35 2 6,F 36 7,bd 37 2 8,F 38 9,xJ 39 A5 35 36 37 38,bb 40 0 39,bb 41 1 39,bo 4 4 40,F 5 41] .ret)))))
def aaE:bQ:=b9 78 2 [.t 4] (Y [cS 2 135002 0,cS 3 135003 1,bz 4 0] (.seq (Y [bd 17 4 2,dv 18 lG 17,fj 19 18,F 20 19,hz 21 20 4 3,gz 22 20 (.call lG [.t 21]),j9 23 20 22,dk 24 20 23] (cn 24 [bz 4 0])) (fk [aX 25 0 2,bd 26 2 25,aX 27 2 2,bd 28 2 27,aX 29 0 3,bd 30 2 29,aX 31 2 3,bd 32 2 31,cC 5 135005 dg,cC 6 135006 dg,cC 7 135007 dg,cC 8 135008 dg,bo 2 5 26,bo 2 6 28,bo 2 7 30,bo 2 8 32] [[],[],[],[],[],[],[],[],[1,3,5,7],[1,3,5,7,8],[1,3,5,7,8,9],[1,3,5,7,8,9,10],[3,5,7],[5,7],[7],[]] (Y [bz 9 1] (eW 0 (.seq (.block 1 (Y [bd 36 2 5,bd 37 2 6,bV 38 A6 36 37,F 35 38,bb 39 0 35,bb 40 1 35,bb 41 2 35,cC 10 135010 dg,cC 11 135011 dg,bo 2 10 39,bo 2 11 40,F 12 41] (Y [bd 43 2 7,bd 44 2 8,bV 45 A6 43 44,F 42 45,bb 46 0 42,bb 47 1 42,bb 48 2 42,cC 13 135013 dg,cC 14 135014 dg,bo 2 13 46,bo 2 14 47,F 15 48] (.seq (Y [bd 49 2 10,bd 50 2 13,bV 51 Rj 49 50,F 16 51] (.block 2 (Y [F 53 16,bt 54 .neq 53 0,F 52 54] (fT 52 (Y [F 55 9,F 56 16,bE 57 .mul 55 56,F 4 57] .ret) (Y [aX 59 0 11,aR 60 1 59,bt 61 .eql 60 0,F 62 61,gP 63 62 0 14,gd 64 62 1 63,hA 65 62 .eql 64 0,dk 66 62 65,F 58 66] (cn 58 [F 67 9,aX 68 0 11,aR 69 1 68,aX 70 0 14,aR 71 1 70,bE 72 .sub 69 71,bE 73 .mul 67 72,F 4 73])))))) (.ov [bd 74 2 6,bd 75 2 11,bd 76 2 8,bd 77 2 14,bo 2 5 74,bo 2 6 75,bo 2 7 76,bo 2 8 77] [[],[],[],[],[1,2,3],[2,3],[3],[]]))))) (.ops [F 33 9,aO 34 (.un .neg (.t 33)),F 9 34])))))))
def aaF:bQ:=b9 15 1 [.t 2] (Y [cS 1 138001 0,cI 2 false] (Y [bd 6 2 1,dv 7 Rk 6,F 5 7,bb 8 0 5,bb 9 1 5,F 3 8,F 4 9] (Y [F 10 4,F 11 10,ey 12 11 3,ka 13 11 .eql 12 1,gb 14 11 13,F 2 14] .ret)))
def aaG:bQ:=b9 38 4 [.cell 8 2 true,.t 9] (Y [cS 4 139004 0,cS 5 139005 1,cS 6 139006 2,cS 7 139007 3,cC 8 139008 dg,bz 9 0] (Y [bd 14 2 4,bd 15 2 5,bV 16 sI 14 15,F 13 16,bb 17 0 13,bb 18 1 13,cC 10 139010 dg,bo 2 10 17,F 11 18] (.seq (Y [F 19 11,bt 20 .neq 19 0] (cn 20 [aO 21 (.build dg []),F 22 11,bo 2 8 21,F 9 22])) (Y [bd 24 2 6,bd 25 2 7,bV 26 sI 24 25,F 23 26,bb 27 0 23,bb 28 1 23,cC 12 139012 dg,bo 2 12 27,F 11 28] (.seq (Y [F 29 11,bt 30 .neq 29 0] (cn 30 [aO 31 (.build dg []),F 32 11,bo 2 8 31,F 9 32])) (Y [bd 33 2 10,bd 34 2 12,bV 35 Rl 33 34,bb 36 0 35,bb 37 1 35,bo 2 8 36,F 9 37] .ret))))))
def aaH:bQ:=b9 22 4 [.cell 8 4 true,.t 9] (Y [cS 4 141004 0,cS 6 141006 2,cC 8 141008 dU,bz 9 0] (.seq (Y [F 10 1,bt 11 .neq 10 0,F 12 11,gf 13 12 3,hA 14 12 .neq 13 0,dk 15 12 14] (cn 15 [aO 16 (.build dU []),bo 4 8 16,bz 9 6])) (Y [bd 17 2 4,bd 18 2 6,bV 19 Hu 17 18,bb 20 0 19,bb 21 1 19,bo 4 8 20,F 9 21] .ret)))
def aaI:bQ:=b9 60 2 [.cell 4 4 true,.t 5] (Y [cS 2 149002 0,cS 3 149003 1,cC 4 149004 dU,bz 5 0] (.seq (.block 0 (Y [bd 15 2 2,dv 16 jS 15,fj 17 16,F 18 17,hz 19 18 2 3,gz 20 18 (.call jS [.t 19]),j9 21 18 20,dk 22 18 21,F 14 22] (fT 14 (Y [aO 23 (.build dU []),bo 4 4 23,bz 5 1] .ret) (Y [aX 25 0 3,aR 26 1 25,bt 27 .eql 26 0,F 24 27] (fT 24 (Y [aO 28 (.build dU []),bo 4 4 28,bz 5 15] .ret) (Y [aX 30 0 3,aR 31 1 30,bt 32 .lss 31 0,F 29 32] (fT 29 (.ov [bd 33 2 2,dv 34 DI 33,bd 35 2 3,dv 36 DI 35,bo 2 2 34,bo 2 3 36] YN) .skip))))))) (Y [bd 38 2 2,bd 39 2 3,bV 40 Hs 38 39,F 37 40,bb 41 0 37,bb 42 1 37,cC 6 149006 dg,bo 2 6 41,F 7 42] (Y [bd 44 2 2,bd 45 2 6,bV 46 A6 44 45,F 43 46,bb 47 0 43,bb 48 1 43,bb 49 2 43,cC 8 149008 dg,cC 9 149009 dg,bo 2 8 47,bo 2 9 48,F 10 49] (Y [bd 51 2 3,bd 52 2 6,bV 53 A6 51 52,F 50 53,bb 54 0 50,bb 55 1 50,bb 56 2 50,cC 11 149011 dg,cC 12 149012 dg,bo 2 11 54,bo 2 12 55,F 13 56] (Y [bd 57 2 8,bd 58 2 11,aO 59 (.build dU [(0,2,.t 57),(2,2,.t 58)]),bo 4 4 59,bz 5 0] .ret))))))
def aaJ:bQ:=b9 49 2 [.cell 4 4 true,.t 5] (Y [cS 2 169002 0,cS 3 169003 1,cC 4 169004 dU,bz 5 0] (.seq (.block 0 (Y [bd 11 4 2,dv 12 lG 11,fj 13 12,F 14 13,hz 15 14 4 3,gz 16 14 (.call lG [.t 15]),j9 17 14 16,dk 18 14 17,F 10 18] (fT 10 (Y [aO 19 (.build dU []),bo 4 4 19,bz 5 1] .ret) (Y [aX 21 0 3,aX 22 0 21,aR 23 1 22,bt 24 .eql 23 0,F 20 24] (cn 20 [aO 25 (.build dU []),bo 4 4 25,bz 5 15]))))) (Y [aX 27 0 2,bd 28 2 27,aX 29 2 3,bd 30 2 29,bV 31 sI 28 30,F 26 31,bb 32 0 26,bb 33 1 26,cC 6 169006 dg,bo 2 6 32,F 7 33] (Y [aX 35 2 2,bd 36 2 35,aX 37 0 3,bd 38 2 37,bV 39 sI 36 38,F 34 39,bb 40 0 34,bb 41 1 34,cC 8 169008 dg,bo 2 8 40,F 9 41] (Y [bd 42 2 6,F 43 7,bd 44 2 8,F 45 9,xJ 46 A5 42 43 44 45,bb 47 0 46,bb 48 1 46,bo 4 4 47,F 5 48] .ret)))))
abbrev aJ:=Raw×Raw
def aS (f:aJ):List Data:=[.int .i64 f.1.1,.ay (f.1.2.map aH),.int .i64 f.2.1,.ay (f.2.2.map aH)]
def dx (x:aJ×Int):Data:=.de [.agg (aS x.1),.int .i64 x.2]
def bW (x:Rat):aJ:=(bu x.num,bu x.den)
def ed (x:Rat):Prop:=x.num.natAbs<da/\x.den<da
def bK:aJ:=((0,[]),(0,[]))
def cU (f:aJ):Bool:=cx f.1&&(cx f.2&&(f.2.1==1&&(fO (gI f.1).natAbs (gI f.2).natAbs==1)))
def dV (f:aJ):Rat:=jW (gI f.1) (gI f.2)
def Il (x:Rat):dV (bW x)=x:=by
 unfold dV bW;rw[eI,eI,ud]
def den_pos (x:Rat):0<(x.den:Int):=Int.natCast_pos.2 x.den_pos
def ame {n:Int}(h:0<n):(bu n).1=1:=gJ h
def MB (f:aJ):cU f=true↔∃x,ed x/\f=bW x:=by
 unfold cU;simp only[dH,beq_iff_eq]
 constructor
 ·rintro⟨E,G,ad,aK⟩;obtain⟨p,aD,aL⟩:=(gR _).1 E;obtain⟨q,aM,ax⟩:=(gR _).1 G;obtain⟨f1,f2⟩:=f;simp only at aL ax ad aK;subst aL ax;rw[eI,eI] at aK
  have Su:0<q:=by
   rcases jC q with ⟨_,h⟩|⟨e,_⟩|⟨e,_⟩
   ·exact h
   ·have:q.sign=1:=ad;omega
   ·have:q.sign=1:=ad;omega
  refine⟨⟨p,q.natAbs,by omega,aK⟩,⟨aD,aM⟩,?_⟩
  unfold bW;rw[show ((q.natAbs:Nat):Int)=q by omega]
 ·rintro⟨x,⟨E,G⟩,rfl⟩;have ae:(x.den:Int).natAbs<da:=by rw[ih];exact G
  refine⟨jV E,jV ae,ame (den_pos x),?_⟩;unfold bW;rw[eI,eI,ih];exact x.reduced
def sX {x:Rat}(h:ed x):cU (bW x)=true:=(MB _).2 ⟨x,h,rfl⟩
def ue {x:Rat}(h:ed x):(x.den:Int).natAbs<da:=by rw[ih];exact h.2
def k4 {z:Int}(h:z.natAbs<da):(aG z.natAbs).length<=1000000:=by have:=l9 h;omega
def Im (a:Raw):Bool:=(wa a).2&&((wa a).1==1)
def amf {z:Int}(h:z.natAbs<da):Im (bu z)=decide (z=1):=by
 unfold Im wa;rw[jV h,eI]
 by_cases O:er z
 ·rw[aq ⟨rfl,O⟩];simp only[gy]
  rfl
 ·rw[ar λh=>O h.2];have:z≠1:=by rintro rfl;exact O (by unfold er;omega)
  simp[this]
def MC:=b1 oL λ(s,l)=>cu (D l<=1000000) (.same (.bool (Im (s,l))))
@[go_sem] def aze (s l):=cL MC rfl Be (s,l) rfl
def amg (T:bl)(MD:T Rk=aT My):WF T aaF MC:=by
 refine cq λ(s,l)=>cR λZ=>⟨rfl,cr ?_⟩;simp only[aaF,oL,b8];unfold Im;rcases h:(wa (s,l)).2
 ·simp only[go_sem,go_sem_proc,MD,Z,h];repeat' (first|refine aj ?_ ?_|fail)<;>intro h<;>simp only[h,go_sem,go_sem_proc,MD,Z,h]
 ·simp only[go_sem,go_sem_proc,MD,Z,h];repeat' (first|refine aj ?_ ?_|fail)<;>intro h<;>simp only[h,go_sem,go_sem_proc,MD,Z,h]
abbrev k5:Int×(List Int)×Int×(List Int)->List Data:=λ(s,l,s2,ab)=>[.agg [.int .i64 s,.ay (l.map aH),.int .i64 s2,.ay (ab.map aH)]]
def uf:=b1 k5 λ(s,l,s2,ab)=>cu (D l<=1000000/\D ab<=1000000) (.same (.bool (cU ((s,l),(s2,ab)))))
def ug:∀a b,k5 a=k5 b->a=b:=by
  rintro⟨s1,ig,rM,qz⟩ ⟨s2,ab,rN,qA⟩ h;simp only[bs,Data.agg.injEq,Data.int.injEq,Data.ay.injEq] at h;exact cy h.1.1.2 (cy (map_inj fi _ _ h.1.2.1) (cy h.1.2.2.1.2 (map_inj fi _ _ h.1.2.2.2.1)))
@[go_sem] def azf (s l s2 ab):=cL uf rfl ug (s,l,s2,ab) rfl
def amh (T:bl)(eD:T jS=aT sM)(wb:T Hs=aT Ic)(ME:T Rd=aT MC):WF T aaz uf:=by
 refine cq λ(s,l,s2,ab)=>cR λZ=>⟨rfl,cr ?_⟩;simp only[aaz,k5,b8];obtain⟨br,bq⟩:=Z
 by_cases M:cx (s,l)=true
 ·by_cases aP:cx (s2,ab)=true
  ·by_cases R:s2=1
   ·obtain⟨x,J,e⟩:=(gR _).1 M;obtain⟨y,ag,ax⟩:=(gR _).1 aP
    have aC:lL (s,l) (s2,ab)=(bu ((fO x.natAbs y.natAbs:Nat):Int),0):=by
     unfold lL;rw[M,aP,e,ax,eI,eI];rfl
    have ji:=Ee J ag
    have aZ:Im (bu ((fO x.natAbs y.natAbs:Nat):Int))=(fO x.natAbs y.natAbs==1):=by
     rw[amf (by rw[ih];exact ji)];rw[Bool.eq_iff_iff];simp;omega
    have sD:gI (s,l)=x:=by rw[e,eI]
    have mQ:gI (s2,ab)=y:=by rw[ax,eI]
    have ew:cU ((s,l),(s2,ab))=(fO x.natAbs y.natAbs==1):=by
     show (cx (s,l)&&(cx (s2,ab)&&((s2==1)&&(fO (gI (s,l)).natAbs (gI (s2,ab)).natAbs==1))))=_;rw[M,aP,sD,mQ,show (s2==1)=true by simpa using R]
     simp only[gy]
    have SF:((bu ((fO x.natAbs y.natAbs:Nat):Int)).2).length<=1000000:=k4 (by rw[ih];exact ji);rw[ew,<-aZ];generalize bu ((fO x.natAbs y.natAbs:Nat):Int)=a9 at *;obtain⟨cA,cY⟩:=a9;have dI:(s2==1)=true:=by simpa using R
    refine an ?_;repeat' (intro h<;>simp only[h,go_sem,go_sem_proc,eD,wb,ME,M,aP,br,bq,dI,aC,SF,eJ,c0,show ((0:Int)==0)=true from rfl]<;>try refine aj ?_ ?_)
   ·have ew:cU ((s,l),(s2,ab))=false:=by unfold cU;simp[R]
    have dI:(s2==1)=false:=by simpa using R
    rw[ew];refine an ?_;repeat' (intro h<;>simp only[h,go_sem,go_sem_proc,eD,wb,ME,M,aP,br,bq,dI]<;>try refine aj ?_ ?_)
  ·have aP:cx (s2,ab)=false:=by simpa using aP
   have ew:cU ((s,l),(s2,ab))=false:=by unfold cU;simp[aP]
   rw[ew];refine an ?_;repeat' (intro h<;>simp only[h,go_sem,go_sem_proc,eD,wb,ME,M,aP,br,bq]<;>try refine aj ?_ ?_)
 ·have M:cx (s,l)=false:=by simpa using M
  have ew:cU ((s,l),(s2,ab))=false:=by unfold cU;simp[M]
  rw[ew];refine an ?_;repeat' (intro h<;>simp only[h,go_sem,go_sem_proc,eD,wb,ME,M,br,bq]<;>try refine aj ?_ ?_)
def hB (p q:Raw):aJ×Int :=
 if (cx p&&cx q)=true then (if gI q=0 then (bK,15) else (bW (jW (gI p) (gI q)),0)) else (bK,1)
def zz {p q:Int}(aD:p.natAbs<da)(aM:q.natAbs<da)(al:q≠0):hB (bu p) (bu q)=(bW (jW p q),0):=by
 unfold hB;rw[jV aD,jV aM,eI,eI,aq (by rfl),ar al]
def SG {p q:Int}(aM:0<q):(jW p q).num=p.fdiv ((fO p.natAbs q.natAbs:Nat):Int)/\((jW p q).den:Int)=q.fdiv ((fO p.natAbs q.natAbs:Nat):Int):=by
 rw[Rat.num_divInt,Rat.den_divInt,ar (by omega),gJ aM,ny];have aC:q.gcd p=fO p.natAbs q.natAbs:=by rw[Int.gcd_comm];rfl
 rw[aC];have al:(0:Int)<=((fO p.natAbs q.natAbs:Nat):Int):=Int.natCast_nonneg _;rw[SH _ al,SH _ al];refine⟨rfl,?_⟩;rw[Int.natCast_ediv]
 congr 1
 omega
def SI {p q:Int}(aM:q≠0):0<fO p.natAbs q.natAbs:=Nat.gcd_pos_of_pos_right _ (by omega)
def MF {p q:Int}(aD:p.natAbs<da)(aM:q.natAbs<da):ed (jW p q):=by
 have main:∀{p q:Int},p.natAbs<da->q.natAbs<da->0<q->ed (jW p q):=by
  intro p q aD aM al;obtain⟨E,G⟩:=SG (p:=p) al;have aC:=SI (p:=p) (q:=q) (by omega);refine⟨?_,?_⟩
  ·rw[E];exact Ef aD (by omega)
  ·have:=Ef (y:=((fO p.natAbs q.natAbs:Nat):Int)) aM (by omega);rw[<-G,ih] at this;exact this
 rcases pQ q 0 with h|h|h
 ·rw[<-aaK];exact main (by omega) (by omega) (by omega)
 ·subst h;rw[Rat.divInt_zero];unfold ed da;exact⟨Nat.pow_pos (by omega),Nat.one_lt_pow (by omega) (by omega)⟩
 ·exact main aD aM h
def Io:=b1 iB λ(s,l,s2,ab)=>cu (D l<=1000000/\D ab<=1000000) (.same (dx (hB (s,l) (s2,ab))))
@[go_sem] def azg (s l s2 ab):=cL Io rfl qy (s,l,s2,ab) rfl
def ami (T:bl)(eD:T jS=aT sM)(x2:T DI=aT Ia)(wb:T Hs=aT Ic)(oV:T A6=aT Ii):WF T aaI Io:=by
 refine cq λ(s,l,s2,ab)=>cR λZ=>⟨rfl,cr ?_⟩;simp only[aaI,iB,b8];obtain⟨br,bq⟩:=Z
 by_cases M:cx (s,l)=true
 ·by_cases aP:cx (s2,ab)=true
  ·obtain⟨x,J,e⟩:=(gR _).1 M;obtain⟨y,ag,ax⟩:=(gR _).1 aP
   by_cases al:y=0
   ·have hm:hB (s,l) (s2,ab)=(bK,15):=by
     unfold hB;rw[M,aP,ax,eI,aq (by rfl),aq al]
    rw[hm]
    cases e
    cases ax;have R:(y.sign==0)=true:=by rw[al];rfl
    refine an ?_;repeat' (intro h<;>simp only[h,go_sem,go_sem_proc,eD,x2,wb,oV,M,aP,br,bq,R,dx,aS,bK,cl]<;>try refine aj ?_ ?_)
   ·have main:∀p q:Int,p.natAbs<da->q.natAbs<da->0<q->∃g:Raw,lL (bu p) (bu q)=(g,0)/\g.2.length<=1000000/\k2 (bu p) g=(bu (jW p q).num,bu (p.fmod ((fO p.natAbs q.natAbs:Nat):Int)),0)/\k2 (bu q) g=(bu (jW p q).den,bu (q.fmod ((fO p.natAbs q.natAbs:Nat):Int)),0):=by
     intro p q aD aM kY;have ji:=Ee aD aM;have BA:((fO p.natAbs q.natAbs:Nat):Int).natAbs<da:=by rw[ih];exact ji
     have Bo:=SI (p:=p) (q:=q) (by omega);obtain⟨E,G⟩:=SG (p:=p) kY;refine⟨bu ((fO p.natAbs q.natAbs:Nat):Int),?_,k4 BA,?_,?_⟩
     ·unfold lL;rw[jV aD,jV aM,eI,eI];rfl
     ·rw[Bv aD BA (by omega),E]
     ·rw[Bv aM BA (by omega),G]
    have nD:(y.sign==0)=false:=by simpa using al
    rcases Int.lt_or_gt_of_ne al with k0|hn
    ·have eX:decide (y.sign<0)=true:=by rw[kF k0];rfl
     obtain⟨⟨cA,cY⟩,aC,ji,jm,ki⟩:=main (-x) (-y) (by omega) (by omega) (by omega)
     have hm:hB (s,l) (s2,ab)=(bW (jW (-x) (-y)),0):=by
      rw[e,ax,zz J ag al,aaK]
     rw[hm];have tv:kk (s,l)=bu (-x):=by unfold kk;rw[aq M,e,eI]
     have pt:kk (s2,ab)=bu (-y):=by unfold kk;rw[aq aP,ax,eI]
     have sY:s2=y.sign:=congrArg wc ax;have e5:(bu (-x)).2.length<=1000000:=k4 (by omega);have fz:(bu (-y)).2.length<=1000000:=k4 (by omega);clear e ax;unfold bW;generalize bu (-x)=X at *;generalize bu (-y)=c5 at *;obtain⟨e9,fy⟩:=X;obtain⟨oO,qv⟩:=c5;rw[<-sY] at nD eX;refine an ?_;repeat' (intro h<;>simp only[h,go_sem,go_sem_proc,eD,x2,wb,oV,M,aP,br,bq,nD,eX,tv,pt,e5,fz,aC,ji,jm,ki,dx,aS,eJ,k3,c0]<;>try refine aj ?_ ?_)
    ·have eX:decide (y.sign<0)=false:=by rw[gJ hn];rfl
     obtain⟨⟨cA,cY⟩,aC,ji,jm,ki⟩:=main x y J ag hn
     have hm:hB (s,l) (s2,ab)=(bW (jW x y),0):=by
      rw[e,ax,zz J ag al]
     rw[hm];have sY:s2=y.sign:=congrArg wc ax;rw[<-e] at aC jm;rw[<-ax] at aC ki;rw[<-sY] at nD eX;unfold bW;refine an ?_;repeat' (intro h<;>simp only[h,go_sem,go_sem_proc,eD,x2,wb,oV,M,aP,br,bq,nD,eX,aC,ji,jm,ki,dx,aS,eJ,k3,c0]<;>try refine aj ?_ ?_)
  ·have aP:cx (s2,ab)=false:=by simpa using aP
   have hm:hB (s,l) (s2,ab)=(bK,1):=by unfold hB;rw[aP,Bool.and_false];rfl
   rw[hm];refine an ?_;repeat' (intro h<;>simp only[h,go_sem,go_sem_proc,eD,x2,wb,oV,M,aP,br,bq,dx,aS,bK,cl]<;>try refine aj ?_ ?_)
 ·have M:cx (s,l)=false:=by simpa using M
  have hm:hB (s,l) (s2,ab)=(bK,1):=by unfold hB;rw[M,Bool.false_and];rfl
  rw[hm];refine an ?_;repeat' (intro h<;>simp only[h,go_sem,go_sem_proc,eD,x2,wb,oV,M,br,bq,dx,aS,bK,cl]<;>try refine aj ?_ ?_)
def El:=b1 vO λ(p,q)=>cu (er p/\er q) (.same (dx (hB (bu p) (bu q))))
@[go_sem] def amj (p q):=cL El rfl Mc (p,q) rfl
def amk (T:bl)(aml:T LR=aT Mx)(Ip:T Hu=aT Io):WF T aaB El:=by
 refine cq λ(p,q)=>cR λZ=>⟨rfl,cr ?_⟩;simp only[aaB,vO,b8];obtain⟨E,G⟩:=Z;have ig:(bu p).2.length<=1000000:=k4 (x0 E);have ab:(bu q).2.length<=1000000:=k4 (x0 G);generalize dh:bu p=P at *;generalize eO:bu q=ak at *;obtain⟨e9,fy⟩:=P;obtain⟨oO,qv⟩:=ak;refine an ?_;repeat' (intro h<;>simp only[h,go_sem,go_sem_proc,aml,Ip,E,G,dh,eO,ig,ab,c0,dx,aS]<;>try refine aj ?_ ?_)
def we (a b c d:Raw):Raw×Int :=
 if ((mulR a b).2==0)=true then (if ((mulR c d).2==0)=true then mb (mulR a b).1 (mulR c d).1 else ((0,[]),(mulR c d).2)) else ((0,[]),(mulR a b).2)
def aaL (z:Int):(oT z).1.2.length<=1000000:=by
 unfold oT
 split
 ·exact k4 (by assumption)
 ·simp
def sZ (a b:Raw):(mulR a b).1.2.length<=1000000:=by
 unfold mulR
 split
 ·exact aaL _
 ·simp
def aaM (a b:Raw):(mb a b).1.2.length<=1000000:=by
 unfold mb
 split
 ·exact aaL _
 ·simp
def amm (a b c d:Raw):(we a b c d).1.2.length<=1000000:=by
 unfold we
 split
 ·split
  ·exact aaM _ _
  ·simp
 ·simp
abbrev MG:Int×(List Int)×Int×(List Int)×Int×(List Int)×Int×(List Int)->List Data:=λ(s,l,s2,ab,cv,cJ,cD,cE)=>[.agg [.int .i64 s,.ay (l.map aH)],.agg [.int .i64 s2,.ay (ab.map aH)],.agg [.int .i64 cv,.ay (cJ.map aH)],.agg [.int .i64 cD,.ay (cE.map aH)]]
def MH:=b1 MG λ(s,l,s2,ab,cv,cJ,cD,cE)=>cu (D l<=1000000/\D ab<=1000000/\D cJ<=1000000/\D cE<=1000000) (.same (eJ (we (s,l) (s2,ab) (cv,cJ) (cD,cE))))
def amn:∀a b,MG a=MG b->a=b:=by
  rintro⟨s1,ig,rM,qz,amo,amp,amq,amr⟩ ⟨s2,ab,rN,qA,ams,amt,amu,amv⟩ h;simp only[bs,Data.agg.injEq,Data.int.injEq,Data.ay.injEq] at h;exact cy h.1.1.2 (cy (map_inj fi _ _ h.1.2.1) (cy h.2.1.1.2 (cy (map_inj fi _ _ h.2.1.2.1) (cy h.2.2.1.1.2 (cy (map_inj fi _ _ h.2.2.1.2.1) (cy h.2.2.2.1.1.2 (map_inj fi _ _ h.2.2.2.1.2.1)))))))
@[go_sem] def azh (s l s2 ab cv cJ cD cE):=cL MH rfl amn (s,l,s2,ab,cv,cJ,cD,cE) rfl
def amw (T:bl)(oW:T sI=aT Br)(SJ:T Rl=aT Ms):WF T aaG MH:=by
 refine cq λ(s,l,s2,ab,cv,cJ,cD,cE)=>cR λZ=>⟨rfl,cr ?_⟩;simp only[aaG,MG,b8];obtain⟨br,bq,e5,fz⟩:=Z;have ba:=sZ (s,l) (s2,ab);have bJ:=sZ (cv,cJ) (cD,cE);unfold we;generalize jB:mulR (s,l) (s2,ab)=gA at *;generalize nE:mulR (cv,cJ) (cD,cE)=M2 at *;obtain⟨⟨cz,dj⟩,aL⟩:=gA;obtain⟨⟨cQ,dO⟩,ax⟩:=M2;rcases E:(aL==0)
 ·refine an ?_;repeat' (intro h<;>simp only[h,go_sem,go_sem_proc,oW,SJ,br,bq,e5,fz,jB,E,ba,bJ,eJ,c0,cl]<;>try refine aj ?_ ?_)
 ·have hO:aL=0:=by simpa using E
  subst hO;rcases G:(ax==0)
  ·refine an ?_;repeat' (intro h<;>simp only[h,go_sem,go_sem_proc,oW,SJ,br,bq,e5,fz,jB,nE,E,G,ba,bJ,eJ,c0,cl]<;>try refine aj ?_ ?_)
  ·have iQ:ax=0:=by simpa using G
   subst iQ;refine an ?_;repeat' (intro h<;>simp only[h,go_sem,go_sem_proc,oW,SJ,br,bq,e5,fz,jB,nE,E,ba,bJ,eJ,c0,cl]<;>try refine aj ?_ ?_)
def s0 (p:Raw×Int)(q:Raw×Int):aJ×Int:=if (p.2==0)=true then (if (q.2==0)=true then hB p.1 q.1 else (bK,6)) else (bK,6)
abbrev MI:Int×(List Int)×Int×Int×(List Int)×Int->List Data:=λ(s,l,e,s2,ab,ax)=>[.agg [.int .i64 s,.ay (l.map aH)],.int .i64 e,.agg [.int .i64 s2,.ay (ab.map aH)],.int .i64 ax]
def Em:=b1 MI λ(s,l,e,s2,ab,ax)=>cu (D l<=1000000/\D ab<=1000000) (.same (dx (s0 ((s,l),e) ((s2,ab),ax))))
def amx:∀a b,MI a=MI b->a=b:=by
  rintro⟨s1,ig,aL,rM,qz,azi⟩ ⟨s2,ab,ax,rN,qA,azj⟩ h;simp only[bs,Data.agg.injEq,Data.int.injEq,Data.ay.injEq] at h;exact cy h.1.1.2 (cy (map_inj fi _ _ h.1.2.1) (cy h.2.1.2 (cy h.2.2.1.1.2 (cy (map_inj fi _ _ h.2.2.1.2.1) h.2.2.2.1.2))))
@[go_sem] def azk (s l e s2 ab ax):=cL Em rfl amx (s,l,e,s2,ab,ax) rfl
def amy (T:bl)(Ip:T Hu=aT Io):WF T aaH Em:=by
 refine cq λ(s,l,e,s2,ab,ax)=>cR λZ=>⟨rfl,cr ?_⟩;simp only[aaH,MI,b8];obtain⟨br,bq⟩:=Z;unfold s0;rcases E:(e==0)
 ·refine an ?_;repeat' (intro h<;>simp only[h,go_sem,go_sem_proc,Ip,br,bq,E,dx,aS,bK,cl]<;>try refine aj ?_ ?_)
 ·have hO:e=0:=by simpa using E
  subst hO;rcases G:(ax==0)
  ·refine an ?_;repeat' (intro h<;>simp only[h,go_sem,go_sem_proc,Ip,br,bq,E,G,dx,aS,bK,cl]<;>try refine aj ?_ ?_)
  ·have iQ:ax=0:=by simpa using G
   subst iQ;refine an ?_;repeat' (intro h<;>simp only[h,go_sem,go_sem_proc,Ip,br,bq,E,dx,aS,bK,cl]<;>try refine aj ?_ ?_)
def iC (a b:aJ):aJ×Int:=if cU a=true then (if cU b=true then s0 (we a.1 b.2 b.1 a.2) (mulR a.2 b.2) else (bK,1)) else (bK,1)
def nF (a b:aJ):aJ×Int:=if cU a=true then (if cU b=true then iC a (kk b.1,b.2) else (bK,1)) else (bK,1)
def jq (a b:aJ):aJ×Int:=if cU a=true then (if cU b=true then s0 (mulR a.1 b.1) (mulR a.2 b.2) else (bK,1)) else (bK,1)
def jD (a b:aJ):aJ×Int:=if cU a=true then (if cU b=true then (if (b.1.1==0)=true then (bK,15) else s0 (mulR a.1 b.2) (mulR a.2 b.1)) else (bK,1)) else (bK,1)
def amz (a:Raw)(h:a.2.length<=1000000):(kk a).2.length<=1000000:=by
 unfold kk
 split
 ·rename_i M;obtain⟨z,aQ,e⟩:=(gR _).1 M;rw[e,eI];exact k4 (by omega)
 ·simp
abbrev nG:Int×(List Int)×Int×(List Int)×Int×(List Int)×Int×(List Int)->List Data:=λ(s,l,s2,ab,cv,cJ,cD,cE)=>[.agg [.int .i64 s,.ay (l.map aH),.int .i64 s2,.ay (ab.map aH)],.agg [.int .i64 cv,.ay (cJ.map aH),.int .i64 cD,.ay (cE.map aH)]]
def zA:=b1 nG λ(s,l,s2,ab,cv,cJ,cD,cE)=>cu (D l<=1000000/\D ab<=1000000/\D cJ<=1000000/\D cE<=1000000) (.same (dx (iC ((s,l),(s2,ab)) ((cv,cJ),(cD,cE)))))
def zB:∀a b,nG a=nG b->a=b:=by
  rintro⟨s1,ig,rM,qz,amo,amp,amq,amr⟩ ⟨s2,ab,rN,qA,ams,amt,amu,amv⟩ h;simp only[bs,Data.agg.injEq,Data.int.injEq,Data.ay.injEq] at h;exact cy h.1.1.2 (cy (map_inj fi _ _ h.1.2.1) (cy h.1.2.2.1.2 (cy (map_inj fi _ _ h.1.2.2.2.1) (cy h.2.1.1.2 (cy (map_inj fi _ _ h.2.1.2.1) (cy h.2.1.2.2.1.2 (map_inj fi _ _ h.2.1.2.2.2.1)))))))
@[go_sem] def amA (s l s2 ab cv cJ cD cE):=cL zA rfl zB (s,l,s2,ab,cv,cJ,cD,cE) rfl
def amB (T:bl)(hC:T lG=aT uf)(SK:T Re=aT MH)(oW:T sI=aT Br)(s3:T A5=aT Em):WF T aaA zA:=by
 refine cq λ(s,l,s2,ab,cv,cJ,cD,cE)=>cR λZ=>⟨rfl,cr ?_⟩;simp only[aaA,nG,b8];obtain⟨br,bq,e5,fz⟩:=Z;unfold iC
 by_cases M:cU ((s,l),(s2,ab))=true
 ·by_cases aP:cU ((cv,cJ),(cD,cE))=true
  ·have ba:=amm (s,l) (cD,cE) (cv,cJ) (s2,ab);have bJ:=sZ (s2,ab) (cD,cE);rw[aq M,aq aP];dsimp only;generalize jB:we (s,l) (cD,cE) (cv,cJ) (s2,ab)=gA at *;generalize nE:mulR (s2,ab) (cD,cE)=M2 at *;obtain⟨⟨cz,dj⟩,aL⟩:=gA;obtain⟨⟨cQ,dO⟩,ax⟩:=M2;refine an ?_;repeat' (intro h<;>simp only[h,go_sem,go_sem_proc,hC,SK,oW,s3,br,bq,e5,fz,M,aP,jB,nE,ba,bJ,eJ,c0,dx,aS]<;>try refine aj ?_ ?_)
  ·have aP:cU ((cv,cJ),(cD,cE))=false:=by simpa using aP
   rw[aq M,ar (by simp[aP])];refine an ?_;repeat' (intro h<;>simp only[h,go_sem,go_sem_proc,hC,SK,oW,s3,br,bq,e5,fz,M,aP,dx,aS,bK,cl]<;>try refine aj ?_ ?_)
 ·have M:cU ((s,l),(s2,ab))=false:=by simpa using M
  rw[ar (by simp[M])];refine an ?_;repeat' (intro h<;>simp only[h,go_sem,go_sem_proc,hC,SK,oW,s3,br,bq,e5,fz,M,dx,aS,bK,cl]<;>try refine aj ?_ ?_)
def BB:=b1 nG λ(s,l,s2,ab,cv,cJ,cD,cE)=>cu (D l<=1000000/\D ab<=1000000/\D cJ<=1000000/\D cE<=1000000) (.same (dx (nF ((s,l),(s2,ab)) ((cv,cJ),(cD,cE)))))
@[go_sem] def azl (s l s2 ab cv cJ cD cE):=cL BB rfl zB (s,l,s2,ab,cv,cJ,cD,cE) rfl
def amC (T:bl)(hC:T lG=aT uf)(x2:T DI=aT Ia)(jr:T vH=aT zA):WF T aaC BB:=by
 refine cq λ(s,l,s2,ab,cv,cJ,cD,cE)=>cR λZ=>⟨rfl,cr ?_⟩;simp only[aaC,nG,b8];obtain⟨br,bq,e5,fz⟩:=Z;unfold nF
 by_cases M:cU ((s,l),(s2,ab))=true
 ·by_cases aP:cU ((cv,cJ),(cD,cE))=true
  ·have ba:=amz (cv,cJ) e5;rw[aq M,aq aP];dsimp only;generalize jB:kk (cv,cJ)=gA at *;obtain⟨cz,dj⟩:=gA;refine an ?_;repeat' (intro h<;>simp only[h,go_sem,go_sem_proc,hC,x2,jr,br,bq,e5,fz,M,aP,jB,ba,eJ,c0,dx,aS]<;>try refine aj ?_ ?_)
  ·have aP:cU ((cv,cJ),(cD,cE))=false:=by simpa using aP
   rw[aq M,ar (by simp[aP])];refine an ?_;repeat' (intro h<;>simp only[h,go_sem,go_sem_proc,hC,x2,jr,br,bq,e5,fz,M,aP,dx,aS,bK,cl]<;>try refine aj ?_ ?_)
 ·have M:cU ((s,l),(s2,ab))=false:=by simpa using M
  rw[ar (by simp[M])];refine an ?_;repeat' (intro h<;>simp only[h,go_sem,go_sem_proc,hC,x2,jr,br,bq,e5,fz,M,dx,aS,bK,cl]<;>try refine aj ?_ ?_)
def x3:=b1 nG λ(s,l,s2,ab,cv,cJ,cD,cE)=>cu (D l<=1000000/\D ab<=1000000/\D cJ<=1000000/\D cE<=1000000) (.same (dx (jq ((s,l),(s2,ab)) ((cv,cJ),(cD,cE)))))
@[go_sem] def amD (s l s2 ab cv cJ cD cE):=cL x3 rfl zB (s,l,s2,ab,cv,cJ,cD,cE) rfl
def amE (T:bl)(hC:T lG=aT uf)(oW:T sI=aT Br)(s3:T A5=aT Em):WF T aaD x3:=by
 refine cq λ(s,l,s2,ab,cv,cJ,cD,cE)=>cR λZ=>⟨rfl,cr ?_⟩;simp only[aaD,nG,b8];obtain⟨br,bq,e5,fz⟩:=Z;unfold jq
 by_cases M:cU ((s,l),(s2,ab))=true
 ·by_cases aP:cU ((cv,cJ),(cD,cE))=true
  ·have ba:=sZ (s,l) (cv,cJ);have bJ:=sZ (s2,ab) (cD,cE);rw[aq M,aq aP];dsimp only;generalize jB:mulR (s,l) (cv,cJ)=gA at *;generalize nE:mulR (s2,ab) (cD,cE)=M2 at *;obtain⟨⟨cz,dj⟩,aL⟩:=gA;obtain⟨⟨cQ,dO⟩,ax⟩:=M2;refine an ?_;repeat' (intro h<;>simp only[h,go_sem,go_sem_proc,hC,oW,s3,br,bq,e5,fz,M,aP,jB,nE,ba,bJ,eJ,c0,dx,aS]<;>try refine aj ?_ ?_)
  ·have aP:cU ((cv,cJ),(cD,cE))=false:=by simpa using aP
   rw[aq M,ar (by simp[aP])];refine an ?_;repeat' (intro h<;>simp only[h,go_sem,go_sem_proc,hC,oW,s3,br,bq,e5,fz,M,aP,dx,aS,bK,cl]<;>try refine aj ?_ ?_)
 ·have M:cU ((s,l),(s2,ab))=false:=by simpa using M
  rw[ar (by simp[M])];refine an ?_;repeat' (intro h<;>simp only[h,go_sem,go_sem_proc,hC,oW,s3,br,bq,e5,fz,M,dx,aS,bK,cl]<;>try refine aj ?_ ?_)
def BC:=b1 nG λ(s,l,s2,ab,cv,cJ,cD,cE)=>cu (D l<=1000000/\D ab<=1000000/\D cJ<=1000000/\D cE<=1000000) (.same (dx (jD ((s,l),(s2,ab)) ((cv,cJ),(cD,cE)))))
@[go_sem] def amF (s l s2 ab cv cJ cD cE):=cL BC rfl zB (s,l,s2,ab,cv,cJ,cD,cE) rfl
def amG (T:bl)(hC:T lG=aT uf)(oW:T sI=aT Br)(s3:T A5=aT Em):WF T aaJ BC:=by
 refine cq λ(s,l,s2,ab,cv,cJ,cD,cE)=>cR λZ=>⟨rfl,cr ?_⟩;simp only[aaJ,nG,b8];obtain⟨br,bq,e5,fz⟩:=Z;unfold jD
 by_cases M:cU ((s,l),(s2,ab))=true
 ·by_cases aP:cU ((cv,cJ),(cD,cE))=true
  ·rw[aq M,aq aP];dsimp only;rcases al:(cv==0)
   ·have ba:=sZ (s,l) (cD,cE);have bJ:=sZ (s2,ab) (cv,cJ);rw[ar (by simp)];generalize jB:mulR (s,l) (cD,cE)=gA at *;generalize nE:mulR (s2,ab) (cv,cJ)=M2 at *;obtain⟨⟨cz,dj⟩,aL⟩:=gA;obtain⟨⟨cQ,dO⟩,ax⟩:=M2;refine an ?_;repeat' (intro h<;>simp only[h,go_sem,go_sem_proc,hC,oW,s3,br,bq,e5,fz,M,aP,al,jB,nE,ba,bJ,eJ,c0,dx,aS]<;>try refine aj ?_ ?_)
   ·rw[aq rfl];refine an ?_;repeat' (intro h<;>simp only[h,go_sem,go_sem_proc,hC,oW,s3,br,bq,e5,fz,M,aP,al,dx,aS,bK,cl]<;>try refine aj ?_ ?_)
  ·have aP:cU ((cv,cJ),(cD,cE))=false:=by simpa using aP
   rw[aq M,ar (by simp[aP])];refine an ?_;repeat' (intro h<;>simp only[h,go_sem,go_sem_proc,hC,oW,s3,br,bq,e5,fz,M,aP,dx,aS,bK,cl]<;>try refine aj ?_ ?_)
 ·have M:cU ((s,l),(s2,ab))=false:=by simpa using M
  rw[ar (by simp[M])];refine an ?_;repeat' (intro h<;>simp only[h,go_sem,go_sem_proc,hC,oW,s3,br,bq,e5,fz,M,dx,aS,bK,cl]<;>try refine aj ?_ ?_)
def zC (c:Bool)(v:Rat):aJ×Int:=if c=true then (bW v,0) else (bK,6)
def hP (z:Int):Bool:=decide (z.natAbs<da)
def s4 (x y:Rat):Bool:=hP (x.num*y.den)&&(hP (y.num*x.den)&&(hP (x.num*y.den+y.num*x.den)&&hP ((x.den:Int)*y.den)))
def x4 (x y:Rat):Bool:=hP (x.num*y.num)&&hP ((x.den:Int)*y.den)
def wg (x y:Rat):Bool:=hP (x.num*y.den)&&hP ((x.den:Int)*y.num)
def zD {z:Int}(h:hP z=true):oT z=(bu z,0):=aq (by simpa [hP] using h)
def zE {z:Int}(h:hP z=false):oT z=((0,[]),6):=ar (by simpa [hP] using h)
def qD {z:Int}(h:hP z=true):z.natAbs<da:=by simpa [hP] using h
def amH {a b c d:Int}(a5:a.natAbs<da)(U:b.natAbs<da)(Z:c.natAbs<da)(ae:d.natAbs<da):
  we (bu a) (bu b) (bu c) (bu d)=if (hP (a*b)&&(hP (c*d)&&hP (a*b+c*d)))=true then (bu (a*b+c*d),0) else ((0,[]),6):=by
 unfold we;rw[xV a5 U,xV Z ae];rcases E:hP (a*b)
 ·rw[zE E];rfl
 ·rw[zD E];rcases G:hP (c*d)
  ·rw[zE G];rfl
  ·rw[zD G];show mb (bu (a*b)) (bu (c*d))=_;rw[Sv (qD E) (qD G)];rcases ad:hP (a*b+c*d)
   ·rw[zE ad];rfl
   ·rw[zD ad];rfl
def SL (x y:Rat):jW (x.num*y.den+y.num*x.den) ((x.den:Int)*y.den)=x+y:=by
 rw[<-Rat.divInt_add_divInt _ _ (by have:=den_pos x;omega) (by have:=den_pos y;omega),ud,ud]
def SM (x y:Rat):jW (x.num*y.num) ((x.den:Int)*y.den)=x*y:=by
 rw[<-aaN,ud,ud]
def aaO (x y:Rat):jW (x.num*y.den) ((x.den:Int)*y.num)=x/y:=by
 rw[<-aaN,ud,<-Rat.inv_divInt,ud]
 rfl
def wh (x:Rat):(x.den:Int)≠0:=by have:=den_pos x;omega
def MJ {x y:Rat}(J:ed x)(ag:ed y):iC (bW x) (bW y)=zC (s4 x y) (x+y):=by
 unfold iC;rw[aq (sX J),aq (sX ag)];show s0 (we (bu x.num) (bu y.den) (bu y.num) (bu x.den)) (mulR (bu x.den) (bu y.den))=_;rw[amH J.1 (ue ag) ag.1 (ue J),xV (ue J) (ue ag)];unfold s4;rcases E:hP (x.num*y.den)
 ·rfl
 ·rcases G:hP (y.num*x.den)
  ·rfl
  ·rcases ad:hP (x.num*y.den+y.num*x.den)
   ·rfl
   ·rcases aK:hP ((x.den:Int)*y.den)
    ·rw[zE aK];rfl
    ·rw[zD aK];show hB (bu (x.num*y.den+y.num*x.den)) (bu ((x.den:Int)*y.den))=(bW (x+y),0)
     rw[zz (qD ad) (qD aK) (wi (wh x) (wh y)),SL]
def amI {x:Rat}(h:ed x):ed (-x):=⟨by rw[Rat.neg_num];have:=h.1;omega,by rw[Rat.neg_den];exact h.2⟩
def MK {x y:Rat}(J:ed x)(ag:ed y):nF (bW x) (bW y)=zC (s4 x (-y)) (x-y):=by
 unfold nF;rw[aq (sX J),aq (sX ag)]
 have:(kk (bW y).1,(bW y).2)=bW (-y):=by
  unfold bW;have:kk (bu y.num)=bu (-y.num):=by unfold kk;rw[aq (jV ag.1),eI]
  dsimp only;rw[this];rfl
 rw[this,MJ J (amI ag),Iq]
def SN {x y:Rat}(J:ed x)(ag:ed y):jq (bW x) (bW y)=zC (x4 x y) (x*y):=by
 unfold jq;rw[aq (sX J),aq (sX ag)];show s0 (mulR (bu x.num) (bu y.num)) (mulR (bu x.den) (bu y.den))=_;rw[xV J.1 ag.1,xV (ue J) (ue ag)];unfold x4;rcases E:hP (x.num*y.num)
 ·rw[zE E];rfl
 ·rw[zD E];rcases aK:hP ((x.den:Int)*y.den)
  ·rw[zE aK];rfl
  ·rw[zD aK];show hB (bu (x.num*y.num)) (bu ((x.den:Int)*y.den))=(bW (x*y),0)
   rw[zz (qD E) (qD aK) (wi (wh x) (wh y)),SM]
def SO {x y:Rat}(J:ed x)(ag:ed y)(al:y≠0):jD (bW x) (bW y)=zC (wg x y) (x/y):=by
 unfold jD;rw[aq (sX J),aq (sX ag)];have aE:y.num≠0:=λh=>al (Rat.num_eq_zero.1 h)
 have:((bW y).1.1==0)=false:=by
  show (y.num.sign==0)=false
  simpa using aE
 rw[this,ar (by simp)];show s0 (mulR (bu x.num) (bu y.den)) (mulR (bu x.den) (bu y.num))=_;rw[xV J.1 (ue ag),xV (ue J) ag.1];unfold wg;rcases E:hP (x.num*y.den)
 ·rw[zE E];rfl
 ·rw[zD E];rcases aK:hP ((x.den:Int)*y.num)
  ·rw[zE aK];rfl
  ·rw[zD aK];show hB (bu (x.num*y.den)) (bu ((x.den:Int)*y.num))=(bW (x/y),0)
   rw[zz (qD E) (qD aK) (wi (wh x) aE),aaO]
def amJ {x y:Rat}(h:s4 x y=true):ed (x+y):=by
 unfold s4 at h;simp only[dH] at h;rw[<-SL];exact MF (qD h.2.2.1) (qD h.2.2.2)
def aaP {x y:Rat}(h:s4 x (-y)=true):ed (x-y):=by rw[Iq];exact amJ h
def aaQ {x y:Rat}(h:x4 x y=true):ed (x*y):=by
 unfold x4 at h;simp only[dH] at h;rw[<-SM];exact MF (qD h.1) (qD h.2)
def amK {x y:Rat}(h:wg x y=true):ed (x/y):=by
 unfold wg at h;simp only[dH] at h;rw[<-aaO];exact MF (qD h.1) (qD h.2)
def rR (x y:Rat):Int:=(x.num*y.den-y.num*x.den).sign
def lM (a b:aJ):Int:=if cU a=true then (if cU b=true then (gI a.1*gI b.2-gI b.1*gI a.2).sign else 0) else 0
def En {x y:Rat}(J:ed x)(ag:ed y):lM (bW x) (bW y)=rR x y:=by
 unfold lM;rw[aq (sX J),aq (sX ag)];unfold bW rR;rw[eI,eI,eI,eI]
def amL {x y:Rat}:rR x y=0↔x=y:=by
 unfold rR;rw[Int.sign_eq_zero_iff_zero,Rat.eq_iff_mul_eq_mul];omega
def ML {p q:Int}(aM:0<q):0<=p.fmod q/\p.fmod q<q:=⟨Int.fmod_nonneg_of_pos _ aM,Int.fmod_lt_of_pos _ aM⟩
def aaR {p q r s:Int}(aM:0<q)(R:0<s)(h:p.fdiv q<r.fdiv s):p*s-r*q<0:=by
 have aL:=MM p q;have ax:=MM r s;have cQ:=ML (p:=p) aM;have dO:=ML (p:=r) R;generalize p.fdiv q=x at *;generalize r.fdiv s=y at *;generalize p.fmod q=u at *;generalize r.fmod s=v at *;subst aL ax;have E:q*s*(x+1)<=q*s*y:=Int.mul_le_mul_of_nonneg_left (by omega) (Int.le_of_lt (Int.mul_pos aM R));have G:u*s<q*s:=Int.mul_lt_mul_of_pos_right cQ.2 R;have ad:0<=v*q:=Int.mul_nonneg dO.1 (by omega);have eo:(q*x+u)*s-(s*y+v)*q=q*s*(x+1)-q*s*y+(u*s-q*s)-v*q:=by grind
 omega
def amM {p q r s:Int}(h:p.fdiv q=r.fdiv s):p*s-r*q=p.fmod q*s-r.fmod s*q:=by
 have aL:=MM p q;have ax:=MM r s;rw[h] at aL;generalize r.fdiv s=y at *;generalize p.fmod q=u at *;generalize r.fmod s=v at *;subst aL ax;grind
def aaS (a b:Int):(a-b).sign = -(b-a).sign:=by rw[<-D8];congr 1;omega
def aaT {p q:Int}(aD:p.natAbs<da)(aM:q.natAbs<da)(al:0<q):
  k2 (p.sign,aG p.natAbs) (q.sign,aG q.natAbs)=(((p.fdiv q).sign,aG (p.fdiv q).natAbs),((p.fmod q).sign,aG (p.fmod q).natAbs),0):=Bv aD aM (by omega)
def zF:=b1 nG λ(s,l,s2,ab,cv,cJ,cD,cE)=>cu (D l<=1000000/\D ab<=1000000/\D cJ<=1000000/\D cE<=1000000) (.same (.int .i64 (lM ((s,l),(s2,ab)) ((cv,cJ),(cD,cE)))))
@[go_sem] def azm (s l s2 ab cv cJ cD cE):=cL zF rfl zB (s,l,s2,ab,cv,cJ,cD,cE) rfl
def amN (T:bl)(hC:T lG=aT uf)(oV:T A6=aT Ii)(wj:T Rj=aT Mu):WF T aaE zF:=by
 refine cq λ(s,l,s2,ab,cv,cJ,cD,cE)=>cR λZ=>⟨rfl,cr ?_⟩;simp only[aaE,nG,b8];obtain⟨br,bq,e5,fz⟩:=Z
 by_cases M:cU ((s,l),(s2,ab))=true
 ·by_cases aP:cU ((cv,cJ),(cD,cE))=true
  ·obtain⟨x,J,e⟩:=(MB _).1 M;obtain⟨y,ag,ax⟩:=(MB _).1 aP;have hm:lM ((s,l),(s2,ab)) ((cv,cJ),(cD,cE))=rR x y:=by rw[e,ax,En J ag]
   rw[hm];clear hm;have amO:(s,l)=bu x.num:=congrArg wc e;have SP:(s2,ab)=bu x.den:=congrArg Prod.snd e;have amP:(cv,cJ)=bu y.num:=congrArg wc ax;have amQ:(cD,cE)=bu y.den:=congrArg Prod.snd ax;clear e ax;have amR:=ue J;have amS:=ue ag;have Ir:=den_pos x;have g4:=den_pos y;have uh:=J.1;have Dn:=ag.1;unfold rR;generalize x.num=P at *;generalize (x.den:Int)=ak at *;generalize y.num=bS at *;generalize (y.den:Int)=S at *
   cases amO
   cases SP
   cases amP
   cases amQ;simp only[go_sem,go_sem_proc,hC,oV,wj,br,bq,e5,fz,M,aP];refine dM [5,6,7,8] [135002,135003] (λ((qE,p,q,r,t):Int×Int×Int×Int×Int) tm mem=>(qE=1\/qE = -1)/\0<q/\0<t/\p.natAbs<da/\q.natAbs<da/\r.natAbs<da/\t.natAbs<da/\(P*S-bS*ak).sign=qE*(p*t-r*q).sign/\tm 9=.L (.int .i64 qE)/\mem 135005=some (0,[.L (.int .i64 p.sign),.L (.ay ((aG p.natAbs).map aH))])/\mem 135006=some (0,[.L (.int .i64 q.sign),.L (.ay ((aG q.natAbs).map aH))])/\mem 135007=some (0,[.L (.int .i64 r.sign),.L (.ay ((aG r.natAbs).map aH))])/\mem 135008=some (0,[.L (.int .i64 t.sign),.L (.ay ((aG t.natAbs).map aH))])) (λ(_,_,q,_,_)=>q.natAbs) (1,P,ak,bS,S) (by refine⟨.inl rfl,Ir,g4,uh,amR,Dn,amS,by rw[ny],rfl,?_,?_,?_,?_⟩<;>rfl) ?_;intro vs ms a7 aY;simp only[go_sem,go_sem_proc,hC,oV,wj] at a7 aY;subst a7 aY;rintro⟨qE,p,q,r,t⟩ tm mem Q hm ⟨MN,kY,BD,aD,aM,SQ,bC,g1,jh,iD,s5,Is,lN⟩;simp only[go_sem,go_sem_proc,hC,oV,wj,bs] at Q hm;obtain⟨bp,bD,bL,ct⟩:=Q;have Eo:=k4 aD;have h7:=k4 aM;have It:=k4 SQ;have lt:=k4 bC;have jm:=aaT aD aM kY;have ki:=aaT SQ bC BD;have aaU:=Ef (y:=q) aD (by omega);have Iu:=Ef (y:=t) SQ (by omega);have Ep:=k4 aaU;have Iv:=k4 Iu;have g0:oU ((p.fdiv q).sign,aG (p.fdiv q).natAbs) ((r.fdiv t).sign,aG (r.fdiv t).natAbs)=gH (p.fdiv q) (r.fdiv t):=Mt aaU Iu;have azn:=ML (p:=p) kY;have bv:=ML (p:=r) BD;have amT:IntKind.i64.wrap (0-qE) = -qE:=by rcases MN with rfl|rfl<;>rfl
   rcases pQ (p.fdiv q) (r.fdiv t) with au|heq|lz
   ·have ai:=aaR kY BD au;rw[Bt au] at g0;rw[g1,kF ai];have hw:IntKind.i64.wrap (qE * -1)=qE * -1:=by rcases MN with rfl|rfl<;>rfl
    refine an ?_;repeat' (intro h<;>simp only[h,go_sem,go_sem_proc,hC,oV,wj,bp,bD,bL,ct,jh,hm,iD,s5,Is,lN,Eo,h7,It,lt,Ep,Iv,jm,ki,g0,hw,k3,c0,show ((-1:Int)==0)=false from rfl]<;>try refine aj ?_ ?_)
   ·have ai:=amM heq;rw[heq,Ed] at g0
    have fI:∀a:Int,-1<=a->a<=1->IntKind.i64.wrap (qE*a)=qE*a:=by
     intro a E G;rcases MN with rfl|rfl<;>exact wrap64 _ (by omega) (by omega)
    rw[heq] at jm Ep;have azo:(p.fmod q).natAbs<da:=by omega
    have azp:(r.fmod t).natAbs<da:=by omega
    rw[ai] at g1;generalize p.fmod q=u at *;generalize r.fmod t=v at *
    by_cases hu:u=0
    ·subst hu
     have R:(0*t-v*q).sign=(0:Int).sign-v.sign:=by
      rw[xX,aaV,D8,nC,gJ kY,rE,wk,aaV]
     rw[R] at g1;rw[g1];have ad:=ma v;have zs:IntKind.i64.wrap ((0:Int).sign-v.sign)=(0:Int).sign-v.sign:=wrap64 _ (by rw[wk];omega) (by rw[wk];omega);have hw:=fI ((0:Int).sign-v.sign) (by rw[wk];omega) (by rw[wk];omega);refine an ?_;repeat' (intro h<;>simp only[h,go_sem,go_sem_proc,hC,oV,wj,bp,bD,bL,ct,jh,hm,iD,s5,Is,lN,Eo,h7,It,lt,Ep,Iv,jm,ki,g0,hw,zs,k3,c0,show ((0:Int)==0)=true from rfl,show ((0:Int).sign==0)=true from rfl]<;>try refine aj ?_ ?_)
    ·have Ej:0<u:=by omega
     have aaW:(u.sign==0)=false:=by simpa using hu
     by_cases xi:v=0
     ·subst xi
      have R:(u*t-0*q).sign=u.sign-(0:Int).sign:=by
       rw[xX,HQ,nC,gJ BD,rE,wk,HQ]
      rw[R] at g1;rw[g1];have ad:=ma u;have zs:IntKind.i64.wrap (u.sign-(0:Int).sign)=u.sign-(0:Int).sign:=wrap64 _ (by rw[wk];omega) (by rw[wk];omega);have hw:=fI (u.sign-(0:Int).sign) (by rw[wk];omega) (by rw[wk];omega);refine an ?_;repeat' (intro h<;>simp only[h,go_sem,go_sem_proc,hC,oV,wj,bp,bD,bL,ct,jh,hm,iD,s5,Is,lN,Eo,h7,It,lt,Ep,Iv,jm,ki,g0,hw,zs,aaW,k3,c0,show ((0:Int)==0)=true from rfl,show ((0:Int).sign==0)=true from rfl]<;>try refine aj ?_ ?_)
     ·have sD:(v.sign==0)=false:=by simpa using xi
      refine an ?_;repeat' (intro h<;>simp only[h,go_sem,go_sem_proc,hC,oV,wj,bp,bD,bL,ct,jh,hm,iD,s5,Is,lN,Eo,h7,It,lt,Ep,Iv,jm,ki,g0,aaW,sD,amT,k3,c0,show ((0:Int)==0)=true from rfl]<;>try refine aj ?_ ?_)
      refine⟨(-qE,q,u,t,v),by dsimp only;omega,by dsimp only;omega,by dsimp only;omega,by dsimp only;omega,by dsimp only;omega,by dsimp only;omega,by dsimp only;omega,by dsimp only;omega,?_,by simp[go_sem],by simp[go_sem],by simp[go_sem],by simp[go_sem],by simp[go_sem]⟩
      dsimp only;rw[g1,aaS (q*v) (t*u),Int.neg_mul_neg,mC t u,mC q v]
   ·have ai:=aaR BD kY lz;rw[Bu lz] at g0;rw[g1,aaS,kF ai];have hw:IntKind.i64.wrap (qE*1)=qE * -(-1):=by rcases MN with rfl|rfl<;>rfl
    refine an ?_;repeat' (intro h<;>simp only[h,go_sem,go_sem_proc,hC,oV,wj,bp,bD,bL,ct,jh,hm,iD,s5,Is,lN,Eo,h7,It,lt,Ep,Iv,jm,ki,g0,hw,k3,c0,show ((1:Int)==0)=false from rfl]<;>try refine aj ?_ ?_)
  ·have aP:cU ((cv,cJ),(cD,cE))=false:=by simpa using aP
   have hm:lM ((s,l),(s2,ab)) ((cv,cJ),(cD,cE))=0:=by unfold lM;rw[aq M,ar (by simp[aP])]
   rw[hm];refine an ?_;repeat' (intro h<;>simp only[h,go_sem,go_sem_proc,hC,oV,wj,br,bq,e5,fz,M,aP]<;>try refine aj ?_ ?_)
 ·have M:cU ((s,l),(s2,ab))=false:=by simpa using M
  have hm:lM ((s,l),(s2,ab)) ((cv,cJ),(cD,cE))=0:=by unfold lM;rw[ar (by simp[M])]
  rw[hm];refine an ?_;repeat' (intro h<;>simp only[h,go_sem,go_sem_proc,hC,oV,wj,br,bq,e5,fz,M]<;>try refine aj ?_ ?_)
def aaX:bQ:=b9 22 2 [.t 4] (Y [cS 3 108003 1,cI 4 false] (.seq (Y [aR 6 1 3,bt 7 .lss 6 0,F 8 7,gd 9 8 1 3,hA 10 8 .gtr 9 40,dk 11 8 10,F 12 11,gf 13 12 0,rC 14 12 13,gd 15 12 1 3,qu 16 12 .neq 14 15,dk 17 12 16] (cn 17 [cI 4 false])) (Y [aO 5 (.alloc 108005 [.L .qY]),⟨none,none,.store 1 (.t 5) (.c (.dK ry []))⟩] (Y [F 18 0,aO 19 (.vb LO [.t 3,.t 5]),bV 20 Rb 18 19,fj 21 20,F 4 21] .ret))))
def aaY:bQ:=b9 48 2 [.t 4,.t 5] (Y [eG 4,bz 5 0] (.seq (Y [F 11 0,F 12 1,bV 13 Q8 11 12,fj 14 13] (cn 14 [eG 4,bz 5 1])) (Y [F 16 0,F 17 1,aO 18 (.call Rc [.t 16,.t 17,.c (.L (.bool true))]),F 15 18,bb 19 0 15,bb 20 1 15,F 6 19,F 7 20] (.seq (.block 0 (Y [F 22 6,n1 23 22,aX 24 2 23,aR 25 1 24,F 21 25] (fT 21 (Y [eG 4,bz 5 6] .ret) (Y [F 27 7,ch 28 27,bt 29 .gtr 28 0,F 26 29] (cn 26 [eG 4,bz 5 17]))))) (Y [eG 8] (.seq (Y [F 30 6,n1 31 30,aX 32 0 31,aR 33 1 32,ch 34 33,bz 35 0] (.block 1 (.ghost (.q1 8 109045 4) (.loop  (Y [bE 36 .lss 35 34] (.seq (en 36 1) (.seq (.block 2 (Y [bZ 37 1 33 35,aR 38 1 37,F 10 38] (.ops [F 39 8,F 40 10,F 41 1,bZ 42 4 40 41,bd 43 4 42,aO 44 (.eg 109044 false dU 4 1 [(0,4,.t 43)]),aO 45 (.app 109045 dU 64 (.t 39) (.t 44)),F 8 45]))) (.ops [bt 46 .add 35 1,F 35 46])))))))) (Y [F 47 8,F 4 47,bz 5 0] .ret)))))))
def aaZ:bQ:=b9 6 1 [.t 2] (Y [cS 1 125001 0,cI 2 false] (Y [bd 3 4 1,dv 4 lG 3,fj 5 4,F 2 5] .ret))
def aa0:bQ:=b9 22 3 [.t 4] (Y [cS 3 127003 0,cI 4 false] (Y [aX 5 0 3,aR 6 1 5,ch 7 6,aR 8 1 1,bE 9 .neq 7 8,F 10 9,gd 11 10 1 2,gP 12 10 1 3,hz 13 10 4 12,gz 14 10 (.jH (.t 11) [.t 13]),dk 15 10 14,F 16 15,gP 17 16 0 3,gd 18 16 1 17,gd 19 16 1 2,gz 20 16 (.call vI [.t 18,.t 19]),dk 21 16 20,F 4 21] .ret))
def MO:bQ:=b9 65 3 [.t 6,.t 7] (Y [aO 6 (.hG (.c (.L .p8))),eG 7] (Y [F 13 1,aO 14 (.build [.nil,bh 0,.L (.bool false)] [(1,1,.t 13)]),cS 15 129015 14,F 8 15] (.seq (Y [F 16 0,ch 17 16,bz 18 0] (eW 0 (Y [bE 19 .lss 18 17] (.seq (en 19 0) (.seq (.block 1 (Y [bZ 20 5 16 18,bd 21 5 20,cC 10 129010 tX,bo 5 10 21] (.ov [F 22 8,F 23 8,n1 24 23,aX 25 0 24,aR 26 1 25,aX 27 0 10,aR 28 1 27,aO 29 (.ln 129029 4 LQ [.t 28]),aX 30 1 10,bd 31 4 30,aO 32 (.eg 129032 false dU 4 1 [(0,4,.t 31)]),aO 33 (.app 129033 dU 64 (.t 29) (.t 32)),aO 34 (.eg 129034 true [.nil] 1 1 [(0,1,.t 33)]),aO 35 (.app 129035 [.nil] 24 (.t 26) (.t 34)),n1 36 22,aX 37 0 36,bo 1 37 35] [[],[],[],[],[],[],[],[4],[],[7],[],[4],[4],[],[],[],[]]))) (.ghost (.move) (.ops [bt 38 .add 18 1,F 18 38]))))))) (Y [eG 11] (.seq (Y [bz 12 0] (.block 2 (.ghost (.q1 11 129061 1) (.loop  (.seq (Y [F 39 12,F 40 1,bE 41 .lss 39 40,F 42 41,ey 43 42 8,fx 44 42 (.tn (.t 43)),mD 45 42 2 44,kD 46 42 1 45,L1 47 42 46,gb 48 42 47] (en 48 2)) (.seq (.block 3 (Y [F 51 8,F 52 12,F 53 11,ch 54 53,bE 55 .sub 52 54,F 56 12,L2 57 Rh 51 55 56] (fT 57 (Y [F 58 11,F 59 12,aO 60 (.eg 129060 false [bh 0] 1 1 [(0,1,.t 59)]),aO 61 (.app 129061 [bh 0] 8 (.t 58) (.t 60)),F 11 61] (Y [F 62 2] (fT 62 (.exit 2) .skip))) .skip))) (.ops [F 49 12,bt 50 .add 49 1,F 12 50]))))))) (Y [F 63 8,F 64 11,F 6 63,F 7 64] .ret))))))
def wm:bQ:=b9 172 3 [.t 6] (Y [cI 6 false] (Y [F 15 1,F 7 15] (.seq (eW 0 (.seq (Y [F 16 7,F 17 0,n1 18 17,aX 19 1 18,aR 20 1 19,bE 21 .lss 16 20,F 22 21,ey 23 22 0,fx 24 22 (.tn (.t 23)),mD 25 22 0 24,kD 26 22 1 25,ey 27 22 7,rD 28 22 1 26 27,kD 29 22 1 28,ey 30 22 2,rD 31 22 4 29 30,zf 32 22 4 31,fx 33 22 (.call Hx [.t 32]),gb 34 22 33] (en 34 0)) (.block 1 (.ops [F 35 7,bt 36 .add 35 1,F 7 36])))) (.seq (Y [F 37 7,F 38 0,n1 39 38,aX 40 1 39,aR 41 1 40,bE 42 .eql 37 41] (cn 42 [cI 6 true])) (fk [F 43 0,n1 44 43,aX 45 0 44,aR 46 1 45,F 47 1,F 48 0,n1 49 48,aX 50 0 49,aR 51 1 50,F 52 7,F 53 0,n1 54 53,aX 55 0 54,aR 56 1 55,F 57 7,bZ 58 1 56 57,aR 59 1 58,F 60 0,n1 61 60,aX 62 0 61,aR 63 1 62,F 64 1,bZ 65 1 63 64,aR 66 1 65,bZ 67 1 46 47,bo 1 67 59,bZ 68 1 51 52,bo 1 68 66] akz (Y [F 69 0,n1 70 69,aX 71 0 70,aR 72 1 71,F 73 1,bZ 74 1 72 73,aR 75 1 74,F 76 2,bZ 77 4 75 76,bd 78 4 77,cC 8 148008 dU,bo 4 8 78] (.seq (Y [F 79 0,n1 80 79,aX 81 0 80,aR 82 1 81,F 83 1,bZ 84 1 82 83,aR 85 1 84,ch 86 85,bz 87 0] (eW 2 (Y [bE 88 .lss 87 86] (.seq (en 88 2) (.seq (.block 3 (Y [F 89 87,bZ 90 4 85 87,bd 91 4 90,cC 10 148010 dU,F 9 89,bo 4 10 91] (.ov [F 92 0,n1 93 92,aX 94 0 93,aR 95 1 94,F 96 1,bZ 97 1 95 96,aR 98 1 97,F 99 9,F 100 0,bd 101 4 10,bd 102 4 8,bV 103 DK 101 102,bb 104 0 103,bb 105 1 103,aO 106 (.j4 2 za [.t 100,.t 104,.t 105]),bZ 107 4 98 99,bo 4 107 106] [[],[],[],[],[],[],[],[],[],[],[],[],[],[],[3,6],[],[]]))) (.ops [bt 108 .add 87 1,F 87 108])))))) (.seq (Y [F 109 0,n1 110 109,aX 111 0 110,aR 112 1 111,ch 113 112,bz 114 0] (eW 4 (Y [bE 115 .lss 114 113] (.seq (en 115 4) (.seq (.block 5 (Y [F 116 114,bZ 117 1 112 114,aR 118 1 117,F 11 116,F 12 118] (Y [F 119 12,F 120 2,bZ 121 4 119 120,bd 122 4 121,cC 13 148013 dU,bo 4 13 122] (.seq (Y [F 123 11,F 124 1,bE 125 .eql 123 124,F 126 125,hz 127 126 4 13,gz 128 126 (.call Hx [.t 127]),dk 129 126 128] (fT 129 (.exit 5) .skip)) (Y [bz 14 0] (eW 6 (.seq (Y [F 130 14,F 131 12,ch 132 131,bE 133 .lss 130 132,F 134 133,ey 135 134 0,fx 136 134 (.tn (.t 135)),mD 137 134 2 136,kD 138 134 1 137,L1 139 134 138,gb 140 134 139] (en 140 6)) (.seq (.block 7 (.ov [F 143 12,F 144 14,F 145 0,F 146 12,F 147 14,bZ 148 4 146 147,bd 149 4 148,F 150 0,bd 151 4 13,F 152 0,n1 153 152,aX 154 0 153,aR 155 1 154,F 156 1,bZ 157 1 155 156,aR 158 1 157,F 159 14,bZ 160 4 158 159,bd 161 4 160,bV 162 xG 151 161,bb 163 0 162,bb 164 1 162,aO 165 (.j4 2 za [.t 150,.t 163,.t 164]),bV 166 A4 149 165,bb 167 0 166,bb 168 1 166,aO 169 (.j4 2 za [.t 145,.t 167,.t 168]),bZ 170 4 143 144,bo 4 170 169] [[],[],[],[],[],[],[],[],[],[],[],[],[],[],[],[],[],[],[],[],[],[],[6],[],[],[],[],[],[]])) (.ops [F 141 14,bt 142 .add 141 1,F 14 142]))))))))) (.ops [bt 171 .add 114 1,F 114 171])))))) (Y [cI 6 false] .ret)))))))))
def aa1:bQ:=b9 7 1 [.t 2] (Y [cS 1 167001 0,cI 2 false] (Y [aX 3 0 1,aX 4 0 3,aR 5 1 4,bt 6 .eql 5 0,F 2 6] .ret))
def MP:bQ:=b9 19 3 [.cell 6 4 true] (Y [cS 4 168004 1,cC 6 168006 dU] (Y [F 7 0,F 8 0,n1 9 8,aX 10 2 9,aR 11 1 10,F 12 11,gf 13 12 2,hA 14 12 .neq 13 0,dk 15 12 14,n1 16 7,aX 17 2 16,bo 1 17 15] (Y [bd 18 4 4,bo 4 6 18] .ret)))


def aa2:bQ:=b9 69 2 [.t 4,.t 5,.t 6] (Y [eG 4,eG 5,bz 6 0] (.seq (Y [F 16 0,F 17 1,bV 18 Bc 16 17,fj 19 18] (cn 19 [eG 4,eG 5,bz 6 1])) (Y [aO 20 (.call vK [.c (bh 1)]),aO 21 (.eg 386021 false dU 4 1 [(0,4,.t 20)]),F 22 1,bV 23 DG 21 22,aO 24 (.call vK [.c (bh 0)]),aO 25 (.eg 386025 false dU 4 1 [(0,4,.t 24)]),F 26 1,bV 27 DG 25 26,F 28 0,aO 29 (.build HE [(0,1,.t 23),(1,1,.t 27),(2,1,.t 28)]),cC 7 386007 HE,bo 3 7 29] (Y [bd 31 3 7,dv 32 ze 31,F 30 32,bb 33 0 30,bb 34 1 30,bb 35 2 30,F 8 33,F 9 34,F 10 35] (.seq (Y [F 36 10,bt 37 .neq 36 0] (cn 37 [F 38 10,eG 4,eG 5,F 6 38])) (.seq (Y [F 39 8,aO 40 (.call vI [.t 39,.c (.dK tU [])])] (cn 40 [F 41 8,eG 4,F 5 41,bz 6 16])) (Y [eG 11] (.seq (Y [F 42 1,bz 43 0] (.block 0 (.ghost (.q1 11 386059 5) (.loop  (Y [bE 44 .lss 43 42] (.seq (en 44 0) (.seq (.block 1 (Y [F 45 43,F 12 45] (Y [aO 47 (.call vK [.c (bh 1)]),F 48 0,F 49 1,F 50 12,xJ 51 HC 47 48 49 50,F 46 51,bb 52 0 46,bb 53 1 46,cC 13 386013 tX,bo 5 13 52,F 14 53] (.seq (Y [F 54 14,fj 55 54] (cn 55 [eG 4,eG 5,bz 6 6])) (.ops [F 56 11,bd 57 5 13,aO 58 (.eg 386058 false tX 5 1 [(0,5,.t 57)]),aO 59 (.app 386059 tX 88 (.t 56) (.t 58)),F 11 59]))))) (.ops [bt 60 .add 43 1,F 43 60])))))))) (.seq (.ghost (.freeze 11) (.ops [F 62 11,F 63 1,bV 64 Hq 62 63,F 61 64,bb 65 0 61,bb 66 1 61,F 15 65,F 10 66])) (Y [F 67 15,F 68 10,F 4 67,eG 5,F 6 68] .ret))))))))))
def aa3:bQ:=b9 7 1 [.t 2] (Y [cS 1 387001 0,cI 2 false] (Y [aX 3 0 1,aX 4 0 3,aR 5 1 4,bt 6 .neq 5 0,F 2 6] .ret))
def aa4:bQ:=b9 49 3 [.t 6] (Y [cI 6 false] (.seq (Y [F 11 0,F 12 1,bV 13 Bc 11 12,fj 14 13,F 15 14,gf 16 15 2,rC 17 15 16,gf 18 15 1,qu 19 15 .neq 17 18,dk 20 15 19,F 21 20,gf 22 21 2,gz 23 21 (.call vI [.t 22,.c (.dK tV [])]),dk 24 21 23] (cn 24 [cI 6 false])) (.seq (Y [F 25 2,ch 26 25,bz 27 0] (eW 0 (Y [bE 28 .lss 27 26] (.seq (en 28 0) (.seq (.block 1 (Y [F 29 27,bZ 30 4 25 27,bd 31 4 30,cC 8 388008 dU,F 7 29,bo 4 8 31] (Y [aO 33 (.call vK [.c (bh 0)]),F 34 0,F 35 2,F 36 7,xJ 37 HD 33 34 35 36,F 32 37,bb 38 0 32,bb 39 1 32,cC 9 388009 dU,bo 4 9 38,F 10 39] (Y [F 40 10,fj 41 40,F 42 41,hz 43 42 4 8,hz 44 42 4 9,gz 45 42 (.call rz [.t 43,.t 44]),hA 46 42 .leq 45 0,dk 47 42 46] (cn 47 [cI 6 false]))))) (.ops [bt 48 .add 27 1,F 27 48])))))) (Y [cI 6 true] .ret))))
def aa5:bQ:=b9 12 1 [.t 2] (Y [cS 1 389001 0,cI 2 false] (Y [bd 3 4 1,dv 4 Bb 3,fj 5 4,F 6 5,gP 7 6 0 1,gP 8 6 0 7,gd 9 6 1 8,hA 10 6 .eql 9 0,dk 11 6 10,F 2 11] .ret))
def aa6:bQ:=b9 6 1 [.t 2] (Y [cS 1 391001 0,cI 2 false] (Y [bd 3 4 1,dv 4 lG 3,fj 5 4,F 2 5] .ret))
def aa7:bQ:=b9 86 1 [.t 2,.t 3,.t 4] (Y [cS 1 394001 0,eG 2,eG 3,bz 4 0] (.seq (Y [bd 16 3 1,dv 17 Rw 16,fj 18 17] (cn 18 [eG 2,eG 3,bz 4 1])) (Y [aX 19 0 1,aR 20 1 19,ch 21 20,aO 22 (.ll 394022 [.L (.bool false)] 1 (.t 21) (.t 21)),F 5 22] (Y [eG 6] (.block 0 (.ghost (.q1 6 394085 1) (.loop  (.block 1 (Y [bd 24 3 1,F 25 5,bV 26 Rx 24 25,F 23 26,bb 27 0 23,bb 28 1 23,F 7 27,F 8 28] (.seq (Y [F 29 8,fj 30 29] (cn 30 [eG 2,eG 3,bz 4 6])) (Y [eG 9] (.seq (Y [aX 31 0 1,aR 32 1 31,ch 33 32,bz 34 0] (.block 2 (.ghost (.q1 9 394065 1) (.loop  (Y [bE 35 .lss 34 33] (.seq (en 35 2) (.seq (.block 3 (Y [F 36 34,bZ 37 4 32 34,bd 38 4 37,cC 11 394011 dU,F 10 36,bo 4 11 38] (.seq (Y [F 39 5,F 40 10,bZ 41 1 39 40,aR 42 1 41] (fT 42 (.exit 3) .skip)) (fk [aX 44 1 1,aR 45 1 44,F 46 10,bZ 47 4 45 46,bd 48 4 47,aX 49 2 1,aR 50 1 49,F 51 7,F 52 10,xJ 53 HD 48 50 51 52,F 43 53,bb 54 0 43,bb 55 1 43,cC 12 394012 dU,bo 4 12 54,F 13 55] [[],[],[],[],[],[],[],[],[],[],[],[],[],[1,4,6],[],[]] (.seq (Y [F 56 13,fj 57 56] (cn 57 [eG 2,eG 3,bz 4 6])) (Y [bd 58 4 12,bd 59 4 11,bV 60 rz 58 59,bt 61 .lss 60 0] (fT 61 (.ops [F 62 9,F 63 10,aO 64 (.eg 394064 false [bh 0] 1 1 [(0,1,.t 63)]),aO 65 (.app 394065 [bh 0] 8 (.t 62) (.t 64)),F 9 65]) .skip))))))) (.ops [bt 66 .add 34 1,F 34 66])))))))) (.seq (Y [F 67 9,ch 68 67,bt 69 .eql 68 0] (cn 69 [F 70 7,F 71 6,F 2 70,F 3 71,bz 4 0])) (.seq (Y [F 72 9,ch 73 72,bz 74 0] (eW 4 (Y [bE 75 .lss 74 73] (.seq (en 75 4) (.seq (.block 5 (Y [bZ 76 1 72 74,aR 77 1 76,F 15 77] (.ops [F 78 5,F 79 15,bZ 80 1 78 79,⟨none,none,.store 1 (.t 80) (.c (.L (.bool true)))⟩]))) (.ops [bt 81 .add 74 1,F 74 81])))))) (.ghost (.freeze 9) (.ops [F 82 6,F 83 9,aO 84 (.eg 394084 false [.nil] 1 1 [(0,1,.t 83)]),aO 85 (.app 394085 [.nil] 24 (.t 82) (.t 84)),F 6 85]))))))))))))))))
def aa8:bQ:=b9 59 4 [.cell 8 5 true,.t 9] (Y [cS 4 395004 0,cC 8 395008 tX,cI 9 false] (fk [aO 15 (.call vK [.c (bh 0)]),aO 16 (.eg 395016 false dU 4 1 [(0,4,.t 15)]),F 17 2,aO 18 (.ln 395018 4 DG [.t 16,.t 17]),bd 19 4 4,aO 20 (.build tX [(0,1,.t 18),(1,4,.t 19)]),cC 10 395010 tX,bo 5 10 20] [[],[],[],[],[3],[],[3,4],[]] (fk [aX 21 0 10,aR 22 1 21,F 23 3,aO 24 (.call vK [.c (bh 1)]),bZ 25 4 22 23,bo 4 25 24] YN (.seq (Y [F 26 1,ch 27 26,bz 28 0] (eW 0 (Y [bE 29 .lss 28 27] (.seq (en 29 0) (.seq (.block 1 (Y [bZ 30 6 26 28,bd 31 6 30,aO 12 (.alloc 395012 [bh 0,bh 0,bh 0,.nil,bh 0,.nil]),bo 6 12 31] (.seq (Y [aX 32 1 12,aR 33 1 32,F 34 3,bE 35 .neq 33 34] (fT 35 (.exit 1) .skip)) (fk [aX 37 0 10,aR 38 1 37,aX 39 0 12,aR 40 1 39,bZ 41 4 38 40,bd 42 4 41,aX 43 2 12,bd 44 4 43,bV 45 A4 42 44,F 36 45,bb 46 0 36,bb 47 1 36,cC 13 395013 dU,bo 4 13 46,F 14 47] [[],[],[],[],[],[],[],[],[],[],[],[],[1,3,5,7],[],[]] (.seq (Y [F 48 14,bt 49 .neq 48 0] (cn 49 [aO 50 (.build tX []),bo 5 8 50,cI 9 false])) (.ops [aX 51 0 10,aR 52 1 51,aX 53 0 12,aR 54 1 53,bd 55 4 13,bZ 56 4 52 54,bo 4 56 55])))))) (.ops [bt 57 .add 28 1,F 28 57])))))) (Y [bd 58 5 10,bo 5 8 58,cI 9 true] .ret)))))
def aa9:bQ:=b9 34 4 [.cell 8 4 true,.t 9] (Y [cS 4 396004 0,cS 6 396006 2,cC 8 396008 dU,cI 9 false] (Y [aO 10 (.alloc 396010 [.L (.bool false)]),⟨none,none,.store 1 (.t 10) (.c (.L (.bool true)))⟩] (Y [aO 14 (.vb Rv [.t 6,.t 4,.t 10]),F 11 14] (.seq (Y [F 15 1,ch 16 15,bz 17 0] (eW 0 (Y [bE 18 .lss 17 16] (.seq (en 18 0) (.seq (.block 1 (Y [bZ 19 6 15 17,bd 20 6 19,aO 13 (.alloc 396013 [bh 0,bh 0,bh 0,.nil,bh 0,.nil]),bo 6 13 20] (Y [aX 21 1 13,aR 22 1 21,F 23 3,bE 24 .eql 22 23,F 25 24,kD 26 25 1 10,gb 27 25 26] (fT 27 (.ops [F 28 11,bd 29 6 13,aO 30 (.jH (.t 28) [.t 29])]) .skip)))) (.ops [bt 31 .add 17 1,F 17 31])))))) (fk [bd 32 4 4,aR 33 1 10,bo 4 8 32,F 9 33] [[],[],[1],[]] .ret)))))
def MQ:bQ:=b9 36 4 [] (Y [cS 4 397004 0] (fk [aX 10 2 4,bd 11 4 10,aR 12 1 1,aX 13 0 4,aR 14 1 13,bZ 15 4 12 14,bd 16 4 15,bV 17 xG 11 16,F 9 17,bb 18 0 9,bb 19 1 9,cC 5 397005 dU,bo 4 5 18,F 6 19] [[],[],[],[],[],[],[],[],[],[],[],[1,2,4,6],[],[]] (Y [bd 21 4 2,bd 22 4 5,bV 23 vH 21 22,F 20 23,bb 24 0 20,bb 25 1 20,cC 7 397007 dU,bo 4 7 24,F 8 25] (Y [aR 26 1 3,F 27 26,ey 28 27 6,ka 29 27 .eql 28 0,gb 30 27 29,F 31 30,ey 32 31 8,ka 33 31 .eql 32 0,gb 34 31 33,bo 1 3 34] (.ops [bd 35 4 7,bo 4 2 35])))))
def aba:bQ:=b9 11 1 [.t 2] (Y [cS 1 398001 0,cI 2 false] (Y [bd 3 4 1,dv 4 lG 3,F 5 4,mD 6 5 0 1,mD 7 5 0 6,kD 8 5 1 7,ka 9 5 .geq 8 0,gb 10 5 9,F 2 10] .ret))
def abb:bQ:=b9 33 1 [.t 2] (Y [cS 1 399001 0,cI 2 false] (Y [aO 3 (.hG (.c (.dK tW [])))] (Y [aX 4 0 1,aR 5 1 4,ch 6 5,aX 7 1 1,aR 8 1 7,ch 9 8,bE 10 .eql 6 9,F 11 10,mD 12 11 2 1,kD 13 11 1 12,mD 14 11 0 1,kD 15 11 1 14,RG 16 11 15,fx 17 11 (.call Bc [.t 13,.t 16]),gb 18 11 17,F 19 18,mD 20 19 0 1,kD 21 19 1 20,ey 22 19 3,fx 23 19 (.call vI [.t 21,.t 22]),L1 24 19 23,gb 25 19 24,F 26 25,mD 27 26 1 1,kD 28 26 1 27,ey 29 26 3,fx 30 26 (.call vI [.t 28,.t 29]),L1 31 26 30,gb 32 26 31,F 2 32] .ret)))
def abc:bQ:=b9 6 1 [.t 2] (Y [cS 1 400001 0,cI 2 false] (Y [bd 3 4 1,dv 4 Bb 3,fj 5 4,F 2 5] .ret))
def abd:bQ:=b9 20 2 [.t 4] (Y [cS 3 401003 1,cI 4 false] (.seq (Y [aR 5 1 3,bt 6 .lss 5 0,F 7 6,gd 8 7 1 3,hA 9 7 .gtr 8 40,dk 10 7 9,F 11 10,gf 12 11 0,rC 13 11 12,hA 14 11 .gtr 13 400,dk 15 11 14] (cn 15 [cI 4 false])) (Y [F 16 0,aO 17 (.vb LY [.t 3]),bV 18 RE 16 17,fj 19 18,F 4 19] .ret)))
def abe:bQ:=b9 30 2 [.t 3] (Y [cS 2 402002 0,cI 3 false] (Y [aX 4 0 2,aR 5 1 4,bt 6 .lss 5 0,F 7 6,gP 8 7 0 2,gd 9 7 1 8,gd 10 7 1 1,qu 11 7 .geq 9 10,dk 12 7 11,F 13 12,gP 14 13 1 2,gd 15 13 1 14,hA 16 13 .lss 15 0,dk 17 13 16,F 18 17,gP 19 18 1 2,gd 20 18 1 19,gd 21 18 1 1,qu 22 18 .geq 20 21,dk 23 18 22,F 24 23,gP 25 24 2 2,hz 26 24 4 25,gz 27 24 (.call Bb [.t 26]),j9 28 24 27,dk 29 24 28,F 3 29] .ret))
def MR:bQ:=b9 62 2 [.t 4,.t 5] (Y [cS 2 403002 0,eG 4,cI 5 false] (Y [aX 15 0 2,aR 16 1 15,ch 17 16,F 6 17] (Y [eG 7] (.seq (Y [F 18 6,bz 19 0] (.block 0 (.ghost (.q1 7 403051 5) (.loop  (Y [bE 20 .lss 19 18] (.seq (en 20 0) (.seq (.block 1 (Y [F 21 19,F 8 21] (Y [aX 22 0 2,aR 23 1 22,F 24 8,bZ 25 4 23 24,bd 26 4 25,cC 9 403009 dU,bo 4 9 26,eG 10] (.seq (Y [F 27 1,F 28 8,bZ 29 1 27 28,aR 30 1 29] (fT 30 (.ov [aX 31 1 2,aR 32 1 31,F 33 8,bZ 34 4 32 33,bd 35 4 34,aX 36 2 2,aR 37 1 36,bo 4 9 35,F 10 37] [[],[],[],[],[],[],[],[6],[]]) .skip)) (Y [bd 39 4 9,F 40 10,F 41 6,F 42 8,xJ 43 HC 39 40 41 42,F 38 43,bb 44 0 38,bb 45 1 38,cC 11 403011 tX,bo 5 11 44,F 12 45] (.seq (Y [F 46 12,fj 47 46] (cn 47 [eG 4,cI 5 false])) (.ops [F 48 7,bd 49 5 11,aO 50 (.eg 403050 false tX 5 1 [(0,5,.t 49)]),aO 51 (.app 403051 tX 88 (.t 48) (.t 50)),F 7 51]))))))) (.ops [bt 52 .add 19 1,F 19 52])))))))) (.seq (.ghost (.freeze 7) (.ops [F 54 7,F 55 6,bV 56 Hq 54 55,F 53 56,bb 57 0 53,bb 58 1 53,F 13 57,F 14 58])) (Y [F 59 13,F 60 14,bt 61 .eql 60 0,F 4 59,F 5 61] .ret))))))
def abf:bQ:=b9 11 1 [.cell 2 4 true] (Y [cC 2 404002 dU] (Y [F 6 0,aO 7 (.call Hr [.t 6,.c (bh 1)]),F 5 7,bb 8 0 5,bb 9 1 5,cC 3 404003 dU,bo 4 3 8,F 4 9] (Y [bd 10 4 3,bo 4 2 10] .ret)))
abbrev ej:=List aJ×aJ
def kH (r:ej):List Data:=.ay (r.1.map aS)::aS r.2
def oX (f:aJ):(aS f).length=4:=rfl
def MS (r:ej):(kH r).length=5:=rfl
def MT (f:aJ):((aS f).map I.L).all I.one=true:=rfl
def m8:∀a b:aJ,aS a=aS b->a=b:=by
 rintro⟨⟨s,l⟩,⟨s2,ab⟩⟩ ⟨⟨t,m⟩,⟨t2,bJ⟩⟩ h;simp only[aS,bs,Data.int.injEq,Data.ay.injEq,true_and,and_true] at h;obtain⟨rfl,E,rfl,G⟩:=h;rw[map_inj fi _ _ E,map_inj fi _ _ G]
def SR:∀a b:ej,kH a=kH b->a=b:=by
 rintro⟨a,b⟩ ⟨c,d⟩ h;simp only[kH,bs,Data.ay.injEq] at h;rw[map_inj m8 _ _ h.1,m8 _ _ h.2]
def okF (f:aJ):Prop:=f.1.2.length<=1000000/\f.2.2.length<=1000000
def iE (l:List aJ):Prop:=D l<=1000000/\∀f∈l,okF f
def ui (r:ej):Prop:=iE r.1/\okF r.2
def BE (rs:List ej):Prop:=D rs<=1000000/\∀r∈rs,ui r
def Iw:=b1 k5 λ(s,l,s2,ab)=>cu (D l<=1000000/\D ab<=1000000) (.same (.bool (!cU ((s,l),(s2,ab)))))
@[go_sem] def amU (s l s2 ab):=cL Iw rfl ug (s,l,s2,ab) rfl
def amV (T:bl)(hC:T lG=aT uf):WF T aaZ Iw:=by
 refine cq λ(s,l,s2,ab)=>cR λZ=>⟨rfl,cr ?_⟩;simp only[aaZ,k5,b8];obtain⟨br,bq⟩:=Z;refine an ?_;repeat' (intro h<;>simp only[h,go_sem,go_sem_proc,hC,br,bq]<;>try refine aj ?_ ?_)
def abg:=b1 k5 λ(s,l,s2,ab)=>cu (D l<=1000000/\D ab<=1000000) (.same (.bool (!cU ((s,l),(s2,ab))||decide (s<0))))
@[go_sem] def amW (s l s2 ab):=cL abg rfl ug (s,l,s2,ab) rfl
abbrev SU:Int×(List Int)×Int×(List Int)->List Data:=λ(s,l,s2,ab)=>[.agg [.int .i64 s,.ay (l.map aH),.int .i64 s2,.ay (ab.map aH)],.ptr [.fn YM []]]
def abh:=b1 SU λ(s,l,s2,ab)=>cu (D l<=1000000/\D ab<=1000000) (.same (.bool (!(cU ((s,l),(s2,ab))&&decide (s>=0)))))
def amX:∀a b,SU a=SU b->a=b:=by
  rintro⟨s1,ig,rM,qz⟩ ⟨s2,ab,rN,qA⟩ h;simp only[bs,Data.agg.injEq,Data.int.injEq,Data.ay.injEq] at h;exact cy h.1.1.2 (cy (map_inj fi _ _ h.1.2.1) (cy h.1.2.2.1.2 (map_inj fi _ _ h.1.2.2.2.1)))
@[go_sem] def amY (s l s2 ab):=cL abh rfl amX (s,l,s2,ab) rfl
def fP (f:aJ):Bool:=cU f&&decide (f.1.1>=0)
def Er:=b1 k5 λ(s,l,s2,ab)=>cu (D l<=1000000/\D ab<=1000000) (.same (.bool (fP ((s,l),(s2,ab)))))
@[go_sem] def azq (s l s2 ab):=cL Er rfl ug (s,l,s2,ab) rfl
def amZ (T:bl)(hC:T lG=aT uf):WF T aba Er:=by
 refine cq λ(s,l,s2,ab)=>cR λZ=>⟨rfl,cr ?_⟩;simp only[aba,k5,b8];obtain⟨br,bq⟩:=Z;unfold fP;rcases M:cU ((s,l),(s2,ab))
 ·refine an ?_;repeat' (intro h<;>simp only[h,go_sem,go_sem_proc,hC,br,bq,M]<;>try refine aj ?_ ?_)
 ·refine an ?_;repeat' (intro h<;>simp only[h,go_sem,go_sem_proc,hC,br,bq,M]<;>try refine aj ?_ ?_)
def MU:=b1 k5 λ(s,l,s2,ab)=>cu (D l<=1000000/\D ab<=1000000) (.same (.bool (!fP ((s,l),(s2,ab)))))
@[go_sem] def am0 (s l s2 ab):=cL MU rfl ug (s,l,s2,ab) rfl
def am1 (T:bl)(wo:T Bb=aT Er):WF T abc MU:=by
 refine cq λ(s,l,s2,ab)=>cR λZ=>⟨rfl,cr ?_⟩;simp only[abc,k5,b8];obtain⟨br,bq⟩:=Z;refine an ?_;repeat' (intro h<;>simp only[h,go_sem,go_sem_proc,wo,br,bq]<;>try refine aj ?_ ?_)
def MV:=b1 k5 λ(s,l,s2,ab)=>cu (D l<=1000000/\D ab<=1000000) (.same (.bool (!cU ((s,l),(s2,ab)))))
@[go_sem] def am2 (s l s2 ab):=cL MV rfl ug (s,l,s2,ab) rfl
def am3 (T:bl)(hC:T lG=aT uf):WF T aa6 MV:=by
 refine cq λ(s,l,s2,ab)=>cR λZ=>⟨rfl,cr ?_⟩;simp only[aa6,k5,b8];obtain⟨br,bq⟩:=Z;refine an ?_;repeat' (intro h<;>simp only[h,go_sem,go_sem_proc,hC,br,bq]<;>try refine aj ?_ ?_)
def MW:=b1 k5 λ(s,l,s2,ab)=>cu (D l<=1000000/\D ab<=1000000) (.same (.bool (!(s==0))))
@[go_sem] def am4 (s l s2 ab):=cL MW rfl ug (s,l,s2,ab) rfl
def am5 (T:bl):WF T aa3 MW:=by
 refine cq λ(s,l,s2,ab)=>cR λZ=>⟨rfl,cr ?_⟩;simp only[aa3,k5,b8];obtain⟨br,bq⟩:=Z;refine an ?_;repeat' (intro h<;>simp only[h,go_sem,go_sem_proc,br,bq]<;>try refine aj ?_ ?_)
def MX:=b1 k5 λ(s,l,s2,ab)=>cu (D l<=1000000/\D ab<=1000000) (.same (.bool (!fP ((s,l),(s2,ab))||(s==0))))
@[go_sem] def am6 (s l s2 ab):=cL MX rfl ug (s,l,s2,ab) rfl
def am7 (T:bl)(wo:T Bb=aT Er):WF T aa5 MX:=by
 refine cq λ(s,l,s2,ab)=>cR λZ=>⟨rfl,cr ?_⟩;simp only[aa5,k5,b8];obtain⟨br,bq⟩:=Z;rcases M:fP ((s,l),(s2,ab))
 ·refine an ?_;repeat' (intro h<;>simp only[h,go_sem,go_sem_proc,wo,br,bq,M]<;>try refine aj ?_ ?_)
 ·refine an ?_;repeat' (intro h<;>simp only[h,go_sem,go_sem_proc,wo,br,bq,M]<;>try refine aj ?_ ?_)
def wq {α:Type}(p:α->Bool)(l:List α):Int:=match l.findIdx? p with
 |some i=>i
 |none => -1
def SV {α:Type}{p:α->Bool}{l:List α}{i:Nat}(h:∀x∈l.take i,p x=false){x:α}(J:l[i]?=some x)(aD:p x=true):wq p l=i:=by
 unfold wq
 have:l.findIdx? p=some i:=by
  rw[abi];obtain⟨au,rfl⟩:=dn.1 J;refine⟨au,aD,λj aa=>?_⟩;have:=h l[j] (sG.2 ⟨j,by rw[List.getElem?_take_of_lt aa];exact bB _⟩);rw[this];decide
 rw[this]
def SW {α:Type}{p:α->Bool}{l:List α}(h:∀x∈l,p x=false):wq p l = -1:=by
 unfold wq;rw[abj.2 h]
def SX {α:Type}(p:α->Bool)(l:List α):decide (wq p l>=0)=l.any p:=by
 unfold wq
 cases h:l.findIdx? p with
 |none =>
  have:=abj.1 h;have G:l.any p=false:=by rw[s6];intro x J;simp[this x J]
  rw[G];rfl
 |some i =>
  rw[abi] at h;obtain⟨E,G,-⟩:=h;have ad:l.any p=true:=List.any_eq_true.2 ⟨_,kT E,G⟩;rw[ad];exact lU (by simp)
def x5 (f:aJ):Bool:=!cU f
def mc (f:FuncId):aJ->Bool:=if f=tW then λx => !fP x else if f=tU then λx => !(x.1.1==0) else if f=tV then λx => !fP x||(x.1.1==0) else if f=DN then λx => !cU x||decide (x.1.1<0) else if f=Ba then λx => !(cU x&&decide (x.1.1>=0)) else x5
def am8 (f:FuncId):List Data:=if f=Ba then [.ptr [.fn YM []]] else []
@[go_sem] def am9:mc ry=x5:=by
 unfold mc;rw[ar (mH rfl),ar (mH rfl),ar (mH rfl),ar (mH rfl),ar (mH rfl)]
@[go_sem] def ana:mc DN=λx => !cU x||decide (x.1.1<0):=by
 unfold mc;rw[ar (mH rfl),ar (mH rfl),ar (mH rfl),aq rfl]
def anb:mc Ba=λx => !(cU x&&decide (x.1.1>=0)):=by
 unfold mc;rw[ar (mH rfl),ar (mH rfl),ar (mH rfl),ar (mH rfl),aq rfl]
@[go_sem] def anc:mc tW=λx => !fP x:=by
 unfold mc;rw[aq rfl]
@[go_sem] def ane:mc xI=x5:=by
 unfold mc;rw[ar (mH rfl),ar (mH rfl),ar (mH rfl),ar (mH rfl),ar (mH rfl)]
@[go_sem] def SY:mc tU=λx => !(x.1.1==0):=by
 unfold mc;rw[ar (mH rfl),aq rfl]
@[go_sem] def SZ:mc tV=λx => !fP x||(x.1.1==0):=by
 unfold mc;rw[ar (mH rfl),ar (mH rfl),aq rfl]
def S0 {α:Type}{p:α->Bool}{l:List α}{i:Nat}(h:∀x∈l.take i,p x=false){x:α}(J:l[i]?=some x)(aD:p x=false):∀y∈l.take (i+1),p y=false:=by
 intro y ag;rw[jj,J] at ag;simp only[Option.toList_some,hs,v3] at ag;rcases ag with ag|rfl
 ·exact h y ag
 ·exact aD
def BF {T:bl}{c:eh}{K:eZ->a1->Prop}{st:a1}(h:wp T c K st):wp T c (cg T K []) st:=by
 have:cg T K []=K:=by funext e st;cases e<;>rfl
 rwa [this]
def BG (T:bl)(id:FuncId)(cZ:List Data)(bR:List Data->Option dd)(cp:T id=aT bR)(p:aJ->Bool)(l:List aJ)(af:iE l)(ff:∀a b c d,D b<=1000000->(D d)<=1000000->bR (.agg [.int .i64 a,.ay (b.map aH),.int .i64 c,.ay (d.map aH)]::cZ)=some (.same (.bool (p ((a,b),(c,d)))))):
  wp T HH.body (tN HH.res (.same (.int .i64 (wq p l)))) ⟨j5 [.L (.ay (l.map aS)),.L (.fn id cZ)],emp⟩:=by
 obtain⟨af,dp⟩:=af;refine yU ?_;simp only[HH];simp only[go_sem,go_sem_proc,az];refine dM [0,1,7] [] (λ(i:Nat) tm mem=>i<=D l/\(∀x∈l.take i,p x=false)/\tm 8=.L (.int .i64 i)) (λi=>D l-i) 0 (by refine⟨eL _,by simp,rfl⟩) ?_;intro vs ms a7 aY;simp only[go_sem,go_sem_proc,az] at a7 aY;subst a7 aY;rintro i tm mem Q hm ⟨O,dQ,ct⟩;simp only[go_sem,go_sem_proc,bs] at Q hm;obtain⟨al,E,bL⟩:=Q;have HW:∀m:Mem,(cZ.map I.L).mapM (c2 6 m)=some cZ:=λm=>AS (c2 6 m) (λd=>rfl) cZ;rcases eC (i<D l) with au|bO
 ·have J:=bB au;obtain⟨gn,g5⟩:=dp _ (kT au);have gO:=λh=>SV (p:=p) dQ J h;have nr:=λh=>S0 (p:=p) dQ J h;generalize l[i]=x at *;obtain⟨⟨e9,fy⟩,⟨g6,iR⟩⟩:=x;have MY:=ff e9 fy g6 iR gn g5;have mI:decide ((i:Int)<(D l:Int))=true:=dW;have hw:=h4 (i:=i) (by omega);rcases U:p ((e9,fy),(g6,iR))
  ·rw[U] at MY;refine an ?_;repeat' (intro (aw:_=_)<;>simp only[aw,go_sem,go_sem_proc,cp,al,E,bL,ct,J,mI,hw,MY,HW,aS,az,bG,y7]<;>try refine aj ?_ ?_)
   exact⟨i+1,by omega,by omega,nr U,rfl⟩
  ·rw[U] at MY;rw[gO U];refine an ?_;repeat' (intro (aw:_=_)<;>simp only[aw,go_sem,go_sem_proc,cp,al,E,bL,ct,J,mI,hw,MY,HW,aS,az,bG,y7]<;>try refine aj ?_ ?_)
 ·have mI:decide ((i:Int)<(D l:Int))=false:=ef;obtain rfl:i=D l:=by omega
  rw[sW] at dQ;rw[SW dQ];refine an ?_;repeat' (intro (aw:_=_)<;>simp only[aw,go_sem,go_sem_proc,al,E,bL,ct,mI,az]<;>try refine aj ?_ ?_)
def abk (f:FuncId):Prop:=f=ry\/(f=DN/\DN<900000)\/(f=Ba/\Ba<900000)\/(f=tW/\tW<900000)\/(f=xI/\xI<900000)\/(f=tU/\tU<900000)\/(f=tV/\tV<900000)
abbrev Es:(List aJ)×FuncId->List Data:=λ(l,f)=>[.ay (l.map aS),.fn f (am8 f)]
def MZ:=b1 Es λ(l,f)=>cu (iE l/\abk f) (.same (.int .i64 (wq (mc f) l)))
def abl:∀a b,Es a=Es b->a=b:=by
  rintro⟨ig,f1⟩ ⟨ab,f2⟩ h;simp only[bs,Data.ay.injEq,Data.fn.injEq] at h;exact cy (map_inj m8 _ _ h.1) h.2.1.1
@[go_sem] def azr (l f):=cL MZ rfl abl (l,f) rfl
def anf (T:bl)(Ix:T ry=aT Iw)(ang:DN<900000->T DN=aT abg)(anh:Ba<900000->T Ba=aT abh)(ani:tW<900000->T tW=aT MU)(anj:xI<900000->T xI=aT MV)(ank:tU<900000->T tU=aT MW)(anl:tV<900000->T tV=aT MX):WF T HH MZ:=by
 refine cq λ(l,f)=>cR λZ=>⟨rfl,cr ?_⟩;simp only[HH,Es,b8];obtain⟨af,ao⟩:=Z;rcases ao with rfl|⟨rfl,O⟩|⟨rfl,O⟩|⟨rfl,O⟩|⟨rfl,O⟩|⟨rfl,O⟩|⟨rfl,O⟩
 ·rw[am9];exact BF (BG T _ _ _ Ix x5 l af λa b c d E G=>amU a b c d ⟨E,G⟩)
 ·rw[ana];exact BF (BG T _ _ _ (ang O) (λx => !cU x||decide (x.1.1<0)) l af λa b c d E G=>amW a b c d ⟨E,G⟩)
 ·rw[anb];exact BF (BG T _ _ _ (anh O) (λx => !(cU x&&decide (x.1.1>=0))) l af λa b c d E G=>amY a b c d ⟨E,G⟩)
 ·rw[anc];exact BF (BG T _ _ _ (ani O) (λx => !fP x) l af λa b c d E G=>am0 a b c d ⟨E,G⟩)
 ·rw[ane];exact BF (BG T _ _ _ (anj O) x5 l af λa b c d E G=>am2 a b c d ⟨E,G⟩)
 ·rw[SY];exact BF (BG T _ _ _ (ank O) (λx => !(x.1.1==0)) l af λa b c d E G=>am4 a b c d ⟨E,G⟩)
 ·rw[SZ];exact BF (BG T _ _ _ (anl O) (λx => !fP x||(x.1.1==0)) l af λa b c d E G=>am6 a b c d ⟨E,G⟩)
def s7:=b1 Es λ(l,f)=>cu (iE l/\abk f) (.same (.bool (l.any (mc f))))
@[go_sem] def Iy (l f):=cL s7 rfl abl (l,f) rfl
def anm (T:bl)(ann:T Rg=aT MZ):WF T Za s7:=by
 refine cq λ(l,f)=>cR λZ=>⟨rfl,cr ?_⟩;simp only[Za,Es,b8];rw[<-SX];refine an ?_;repeat' (intro h<;>simp only[h,go_sem,go_sem_proc,ann,Z]<;>try refine aj ?_ ?_)
@[go_sem] def azs (l:List aJ)(h:iE l):s7 [.ay (l.map aS),.fn ry []]=some (.same (.bool (l.any (mc ry)))):=Iy l ry ⟨h,.inl rfl⟩
@[go_sem] def azt (l:List aJ)(h:iE l):s7 [.ay (l.map aS),.fn tW []]=some (.same (.bool (l.any (mc tW)))):=Iy l tW ⟨h,.inr (.inr (.inr (.inl ⟨rfl,by decide⟩)))⟩
@[go_sem] def azu (l:List aJ)(h:iE l):s7 [.ay (l.map aS),.fn xI []]=some (.same (.bool (l.any (mc xI)))):=Iy l xI ⟨h,.inr (.inr (.inr (.inr (.inl ⟨rfl,by decide⟩))))⟩
@[go_sem] def abm (l:List aJ)(h:iE l):s7 [.ay (l.map aS),.fn tU []]=some (.same (.bool (l.any (mc tU)))):=Iy l tU ⟨h,.inr (.inr (.inr (.inr (.inr (.inl ⟨rfl,by decide⟩)))))⟩
@[go_sem] def abn (l:List aJ)(h:iE l):s7 [.ay (l.map aS),.fn tV []]=some (.same (.bool (l.any (mc tV)))):=Iy l tV ⟨h,.inr (.inr (.inr (.inr (.inr (.inr ⟨rfl,by decide⟩)))))⟩
def s8 (n:Int)(r:ej):Bool:=!(((r.1.length:Int)==n)&&(cU r.2 && !(r.1.any x5)))
abbrev M0:(List aJ)×Int×(List Int)×Int×(List Int)×Int->List Data:=λ(a,s,l,s2,ab,n)=>[.agg [.ay (a.map aS),.int .i64 s,.ay (l.map aH),.int .i64 s2,.ay (ab.map aH)],.ptr [.int .i64 n],.ptr [.fn ry []]]
def M1:=b1 M0 λ(a,s,l,s2,ab,n)=>cu (iE a/\D l<=1000000/\D ab<=1000000) (.same (.bool (s8 n (a,((s,l),(s2,ab))))))
def ano:∀a b,M0 a=M0 b->a=b:=by
  rintro⟨cz,s1,ig,rM,qz,pA⟩ ⟨dj,s2,ab,rN,qA,sE⟩ h;simp only[bs,Data.agg.injEq,Data.int.injEq,Data.ay.injEq,Data.ptr.injEq] at h;exact cy (map_inj m8 _ _ h.1.1) (cy h.1.2.1.2 (cy (map_inj fi _ _ h.1.2.2.1) (cy h.1.2.2.2.1.2 (cy (map_inj fi _ _ h.1.2.2.2.2.1) h.2.1.1.2))))
@[go_sem] def azv (a s l s2 ab n):=cL M1 rfl ano (a,s,l,s2,ab,n) rfl
def anp (T:bl)(Ix:T ry=aT Iw)(iS:T vI=aT s7):WF T aa0 M1:=by
 refine cq λ(a,s,l,s2,ab,n)=>cR λZ=>⟨rfl,cr ?_⟩;simp only[aa0,M0,b8];obtain⟨a5,br,bq⟩:=Z;unfold s8;rcases E:((D a:Int)==n)
 ·refine an ?_;repeat' (intro h<;>simp only[h,go_sem,go_sem_proc,Ix,iS,a5,br,bq,E,az]<;>try refine aj ?_ ?_)
 ·rcases G:cU ((s,l),(s2,ab))
  ·refine an ?_;repeat' (intro h<;>simp only[h,go_sem,go_sem_proc,Ix,iS,a5,br,bq,E,G,az]<;>try refine aj ?_ ?_)
  ·refine an ?_;repeat' (intro h<;>simp only[h,go_sem,go_sem_proc,Ix,iS,a5,br,bq,E,G,az,show (ry=ry)=True from by simp,true_or,Bool.not_not]<;>try refine aj ?_ ?_)
abbrev Et:(List ej)×Int->List Data:=λ(rs,n)=>[.ay (rs.map kH),.fn LO [.ptr [.int .i64 n],.ptr [.fn ry []]]]
def M5:=b1 Et λ(rs,n)=>cu (BE rs) (.same (.int .i64 (wq (s8 n) rs)))
def abo:∀a b,Et a=Et b->a=b:=by
  rintro⟨abp,pA⟩ ⟨abq,sE⟩ h;simp only[bs,Data.ay.injEq,Data.fn.injEq,Data.ptr.injEq,Data.int.injEq] at h;exact cy (map_inj SR _ _ h.1) h.2.1.2.1.1.2
@[go_sem] def azw (rs n):=cL M5 rfl abo (rs,n) rfl
def anq (T:bl)(Eu:T LO=aT M1):WF T Zc M5:=by
 refine cq λ(rs,n)=>cR λZ=>⟨rfl,cr ?_⟩;simp only[Zc,Et,b8];obtain⟨af,dp⟩:=Z;simp only[go_sem,go_sem_proc,Eu,az];refine dM [0,1,7] [] (λ(i:Nat) tm mem=>i<=D rs/\(∀x∈rs.take i,s8 n x=false)/\tm 8=.L (.int .i64 i)) (λi=>D rs-i) 0 (by refine⟨eL _,?_,rfl⟩;simp) ?_;intro vs ms a7 aY;simp only[go_sem,go_sem_proc,Eu,az] at a7 aY;subst a7 aY;rintro i tm mem Q hm ⟨O,dQ,ct⟩;simp only[go_sem,go_sem_proc,Eu,bs] at Q hm;obtain⟨al,E,bL⟩:=Q;rcases eC (i<D rs) with au|bO
 ·have J:=bB au;obtain⟨Ir,gn,g5⟩:=dp _ (kT au);have gO:=λh=>SV (p:=s8 n) dQ J h;have nr:=λh=>S0 (p:=s8 n) dQ J h;generalize rs[i]=x at *;have mI:decide ((i:Int)<(D rs:Int))=true:=dW;have hw:=h4 (i:=i) (by omega);obtain⟨a,⟨e9,fy⟩,⟨g6,iR⟩⟩:=x;dsimp only at Ir gn g5;rcases U:s8 n (a,((e9,fy),(g6,iR)))
  ·refine an ?_;repeat' (intro (aw:_=_)<;>simp only[aw,go_sem,go_sem_proc,Eu,al,E,bL,ct,J,mI,hw,Ir,gn,g5,U,az,bG,kH,aS]<;>try refine aj ?_ ?_)
   exact⟨i+1,by omega,by omega,nr U,rfl⟩
  ·rw[gO U];refine an ?_;repeat' (intro (aw:_=_)<;>simp only[aw,go_sem,go_sem_proc,Eu,al,E,bL,ct,J,mI,hw,Ir,gn,g5,U,az,bG,kH,aS]<;>try refine aj ?_ ?_)
 ·have mI:decide ((i:Int)<(D rs:Int))=false:=ef;have kl:i=D rs:=by omega
  subst kl;rw[sW] at dQ;rw[SW dQ];refine an ?_;repeat' (intro (aw:_=_)<;>simp only[aw,go_sem,go_sem_proc,Eu,al,E,bL,ct,mI,az]<;>try refine aj ?_ ?_)
def M6:=b1 Et λ(rs,n)=>cu (BE rs) (.same (.bool (rs.any (s8 n))))
@[go_sem] def azx (rs n):=cL M6 rfl abo (rs,n) rfl
def anr (T:bl)(ans:T Rf=aT M5):WF T Y9 M6:=by
 refine cq λ(rs,n)=>cR λZ=>⟨rfl,cr ?_⟩;simp only[Y9,Et,b8];rw[<-SX];refine an ?_;repeat' (intro h<;>simp only[h,go_sem,go_sem_proc,ans,Z]<;>try refine aj ?_ ?_)
def n7 (rs:List ej)(n:Int):Bool:=!(decide (n<0))&&(!(decide (n>40))&&(((D rs:Int)==n) && !(rs.any (s8 n))))
abbrev Ev:(List ej)×Int->List Data:=λ(rs,n)=>[.ay (rs.map kH),.int .i64 n]
def M7:=b1 Ev λ(rs,n)=>cu (BE rs) (.same (.bool (n7 rs n)))
def abr:∀a b,Ev a=Ev b->a=b:=by
  rintro⟨abp,pA⟩ ⟨abq,sE⟩ h;simp only[bs,Data.ay.injEq,Data.int.injEq] at h;exact cy (map_inj SR _ _ h.1) h.2.1.2
@[go_sem] def azy (rs n):=cL M7 rfl abr (rs,n) rfl
def ant (T:bl)(M8:T Rb=aT M6):WF T aaX M7:=by
 refine cq λ(rs,n)=>cR λZ=>⟨rfl,cr ?_⟩;simp only[aaX,Ev,b8];unfold n7;rcases E:decide (n<0)
 ·rcases G:decide (n>40)
  ·rcases ad:((D rs:Int)==n)
   ·refine an ?_;repeat' (intro h<;>simp only[h,go_sem,go_sem_proc,M8,Z,E,G,ad,az]<;>try refine aj ?_ ?_)
   ·refine an ?_;repeat' (intro h<;>simp only[h,go_sem,go_sem_proc,M8,Z,E,G,ad,az,c2,w4,s9,scalar]<;>try refine aj ?_ ?_)
  ·refine an ?_;repeat' (intro h<;>simp only[h,go_sem,go_sem_proc,M8,Z,E,G,az]<;>try refine aj ?_ ?_)
 ·refine an ?_;repeat' (intro h<;>simp only[h,go_sem,go_sem_proc,M8,Z,E,az]<;>try refine aj ?_ ?_)
def abt {es:List (List Data)}(h:∀x∈es,Fit (.int .i64) x):∃l:List Int,es=l.map aH:=by
 obtain⟨l,e,-⟩:=LL (e:=aH) (good:=λ_=>True) λx J=>by
  have:=h x J;simp only[Fit] at this;obtain⟨n,rfl,-⟩:=this;exact⟨n,rfl,trivial⟩
 exact⟨l,e⟩
def S1 {x:List Data}(h:Fits [.st [.int .i64,.ay (.int .i64)],.st [.int .i64,.ay (.int .i64)]] x):∃f:aJ,x=aS f:=by
 simp only[Fit,Fits] at h;obtain⟨_,_,rfl,⟨_,_,rfl,⟨s,rfl,-⟩,_,_,rfl,⟨es,rfl,-,E⟩,rfl⟩,_,_,rfl,⟨_,_,rfl,⟨s2,rfl,-⟩,_,_,rfl,⟨abu,rfl,-,G⟩,rfl⟩,rfl⟩:=h;obtain⟨l,rfl⟩:=abt λx J=>by simp only[Fit];exact E x J
 obtain⟨ab,rfl⟩:=abt λx J=>by simp only[Fit];exact G x J
 exact⟨((s,l),(s2,ab)),rfl⟩
def abv {es:List (List Data)}(h:∀x∈es,Fit (.st [.st [.int .i64,.ay (.int .i64)],.st [.int .i64,.ay (.int .i64)]]) x):∃l:List aJ,es=l.map aS:=by
 obtain⟨l,e,-⟩:=LL (e:=aS) (good:=λ_=>True) λx J=>by
  have:=h x J;unfold Fit at this;obtain⟨f,rfl⟩:=S1 this;exact⟨f,rfl,trivial⟩
 exact⟨l,e⟩
def anu {n:Int}(h:(Lit.int .u8 n).wf=true):∃m:Nat,n=m/\m<256:=by
 have:0<=n/\n<=255:=by simpa [Lit.wf,IntKind.min,IntKind.max,IntKind.signed,IntKind.bits] using h
 exact⟨n.toNat,by omega,by omega⟩
end Go.Mini
namespace Go.Mini
open Go
variable {P:Program} {A:Nat->Prop} {w ah:World} {B aB:cG} {mem mem':Mem}
structure m9 (P:Program) (f:FuncId) (b6:List I->Mem->Option fR):Prop where
 real:Real P f
 run:∀args mem nq,b6 args mem=some nq->∀A w B vs,dq A w B mem->cj w (bg A B) B args vs->Qk P f vs A w B mem nq
def uj (res:List jI)(bS:I->Mem->Prop):eZ->a1->Prop
 |.exit _,_=>False
 |.normal,st=>∃m,jc st res=some m/\bS m st.mem
 |.ret,st=>∃m,jc st res=some m/\bS m st.mem
@[go_sem] def azz {res:List jI}{st:a1}(bS:I->Mem->Prop)(id:Nat):uj res bS (.exit id) st=False:=bj
@[go_sem] def azA {res:List jI}{st:a1}(bS:I->Mem->Prop):uj res bS .normal st=∃m,jc st res=some m/\bS m st.mem:=bj
@[go_sem] def azB {res:List jI}{st:a1}(bS:I->Mem->Prop):uj res bS .ret st=∃m,jc st res=some m/\bS m st.mem:=bj
def S2 {mf:bQ}{bS:I->Mem->Prop}{e:eZ}{st:a1}(h:uj mf.res bS e st):QF mf bS e st:=by
 cases e with
 |exit id=>exact h
 |normal=>exact h
 |ret=>exact h
def S3 {kb : Nat}{own : List Nat}{f : FuncId}{fn : Func}{mf : bQ}(ao : P.funcs[f]? = some fn)(tO : (fn.name == "runtime.NumGoroutine") = false)(aA : ps P kb own fn = some mf): Real P f := by
 cases U:fn.body with
 |none=>simp[ps,U] at aA
 |some c=>exact⟨fn,c,ao,U,tO⟩
def BH (ak:List I->Mem->Option (I->Mem->Prop))(args:List I)(mem:Mem):Option fR:=(ak args mem).map .rel
@[go_sem] def azC (ak:List I->Mem->Option (I->Mem->Prop))(args:List I)(mem:Mem):BH ak args mem=(ak args mem).map .rel:=bj
def abw {T : bl}{kb : Nat}{own : List Nat}(cp : mX P T)(hm : P.follows .mixedOrders = true){f : FuncId}{fn : Func}{mf : bQ}(ao : P.funcs[f]? = some fn)(tO : (fn.name == "runtime.NumGoroutine") = false)(aA : ps P kb own fn = some { mf with body := erase mf.body })
  {ak:List I->Mem->Option (I->Mem->Prop)} (h:∀args mem bS,ak args mem=some bS->(D args)<=mf.n/\wp T mf.body (uj mf.res bS) ⟨j5 args,mem⟩):m9 P f (BH ak):=by
 refine⟨S3 ao tO aA,λargs mem nq eB A w B vs a3 ai=>?_⟩;unfold BH at eB;rw[cO] at eB;obtain⟨bS,ew,rfl⟩:=eB;obtain⟨hlen,xx⟩:=h args mem bS ew;refine Calls.mono (Hb (Post:=bS) cp hm ao aA hlen (λe st Q=>S2 Q) xx a3 ai) λe ah he=>?_;obtain⟨v,m,mem',aB,rfl,R,j6,aD⟩:=he;exact⟨v,m,mem',aB,rfl,R,j6,aD⟩
inductive pS (cB:Key->Prop):I->Prop
 |L {d:Data}:pS cB (.L d)
 |nil:pS cB .nil
 |ref {k g sz off len:Nat} (h:¬ cB k):pS cB (.ref k g sz off len)
 |ptr {k g off:Nat} (h:¬ cB k):pS cB (.ptr k g off)
 |dK {f:FuncId} {cZ:List I} (h:∀(i:Nat) (m:I),cZ[i]?=some m->pS cB m):pS cB (.dK f cZ)
 |agg {cs:List I} (h:∀(i:Nat) (m:I),cs[i]?=some m->pS cB m):pS cB (.agg cs)
 |de {cs:List I} (h:∀(i:Nat) (m:I),cs[i]?=some m->pS cB m):pS cB (.de cs)
 |gV {k g:Nat} (h:¬ cB k):pS cB (.gV k g)
 |no:pS cB .no
 |undef:pS cB .undef
def clean_of {cB:Key->Prop}{av:Nat->Prop}(uk:∀k,cB k->B k=none){m:I}{v:Value}(h:aN w av B m v):pS cB m:=by
 induction h with
 |L h=>exact .L
 |nil=>exact .nil
 |ref he aC ai=>exact .ref λaa=>by rw[uk _ aa] at he;cases he
 |ptr he aC ai=>exact .ptr λaa=>by rw[uk _ aa] at he;cases he
 |gV he aC ai=>exact .gV λaa=>by rw[uk _ aa] at he;cases he
 |dK af ae aF=>exact .dK λi m O=>aF i m _ O (bB (by have au:=(dn.1 O).1;omega))
 |agg af ae aF=>exact .agg λi m O=>aF i m _ O (bB (by have au:=(dn.1 O).1;omega))
 |de af ae aF=>exact .de λi m O=>aF i m _ O (bB (by have au:=(dn.1 O).1;omega))
 |no=>exact .no
 |undef=>exact .undef
open Classical in
def rS (cB:Key->Prop)(B:cG):cG:=λk=>if cB k then none else B k
def BI {cB:Key->Prop}{b:Nat}(h:nj (rS cB B) b):nj B b:=by
 obtain⟨k,e,he,U⟩:=h;unfold rS at he
 split at he
 ·cases he
 ·exact⟨k,e,he,U⟩
def anv {cB:Key->Prop}{m:I}{v:Value}(h:aN w (bg A B) B m v)(Z:pS cB m):aN w (bg A (rS cB B)) (rS cB B) m v:=by
 have at_:∀{k:Key} {e:gN},¬ cB k->B k=some e->rS cB B k=some e:=λQ he=>by unfold rS;rw[ar Q];exact he
 induction h with
 |L h=>exact .L (h.less λb U=>U.imp BI id)
 |nil=>exact .nil
 |ref he aC ai=>cases Z with|ref Q=>exact .ref (at_ Q he) aC ai
 |ptr he aC ai=>cases Z with|ptr Q=>exact .ptr (at_ Q he) aC ai
 |gV he aC ai=>cases Z with|gV Q=>exact .gV (at_ Q he) aC ai
 |dK af ae aF=>cases Z with|dK Z=>exact .dK af λi d v O ai=>aF i d v O ai (Z i d O)
 |agg af ae aF=>cases Z with|agg Z=>exact .agg af λi d v O ai=>aF i d v O ai (Z i d O)
 |de af ae aF=>cases Z with|de Z=>exact .de af λi d v O ai=>aF i d v O ai (Z i d O)
 |no=>exact .no
 |undef=>exact .undef
def cX.drop {cB:Key->Prop}{M9:Mem}(al:dq A w B mem)(uk:∀k,cB k->mem k=none)(h:cX A w B ah aB mem')(E:∀k,cB k->M9 k=none)(G:∀k,¬ cB k->M9 k=mem' k)
  (Z:∀k g cs,M9 k=some (g,cs)->∀m∈cs,(∃d,m=.L d)\/∃fq GY rh,mem fq=some (GY,rh)/\m∈rh):cX A w B ah (rS cB aB) M9:=by
 have hq:∀k,cB k->B k=none:=λk Q=>al.qZ k (uk k Q);have at_:∀{k:Key},¬ cB k->rS cB aB k=aB k:=λQ=>by unfold rS;rw[ar Q]
 have S4:∀{k:Key},cB k->rS cB aB k=none:=λQ=>by unfold rS;rw[aq Q]
 refine⟨⟨λk Q=>?_,λk k' e e' b he ea U gX=>?_,λb a5 aZ=>h.b4.sep b a5 (BI aZ),h.b4.lt,h.b4.gl,λb o U aZ=>h.b4.va b o U (BI aZ),λk g cs Q=>?_⟩,⟨h.hW.size,λb U aZ=>?_,λk e he=>?_⟩,h.fs,λb U=>h.fresh b (BI U)⟩
 ·by_cases aa:cB k
  ·exact S4 aa
  ·rw[at_ aa];exact h.b4.qZ k (by rw[<-G k aa];exact Q)
 ·by_cases aa:cB k
  ·rw[S4 aa] at he;cases he
  ·by_cases jz:cB k'
   ·rw[S4 jz] at ea;cases ea
   ·rw[at_ aa] at he;rw[at_ jz] at ea;exact h.b4.inj k k' e e' b he ea U gX
 ·by_cases aa:cB k
  ·rw[E k aa] at Q;cases Q
  ·obtain⟨e,he,aC,aE,U⟩:=h.b4.c1 k g cs (by rw[<-G k aa];exact Q);refine⟨e,by rw[at_ aa];exact he,aC,aE,λb fp=>?_⟩
   refine (U b fp).imp rfl rfl λm O v iw=>anv iw ?_;rcases Z k g cs Q m O with ⟨d,rfl⟩|⟨fq,GY,rh,mV,gw⟩
   ·exact .L
   ·obtain⟨fF,qh,Bo,lx,zi⟩:=al.c1 fq GY rh mV
    cases DV:fF.c1 with
    |none=>rw[lx DV] at gw;cases gw
    |some qp =>
     obtain⟨v0,anw⟩:=(zi qp DV).has m gw;exact clean_of hq anw
 ·obtain⟨ad,aK⟩:=h.hW.CQ b U aZ;exact⟨ad,λJ=>aK (BI J)⟩
 ·have aa:¬ cB k:=λaa=>by rw[hq k aa] at he;cases he
  rw[at_ aa];exact h.hW.key k e he
def zG (BJ:List I->Mem->Option (Data×Key×Nat×Nat×Data))(args:List I)(mem:Mem):Option fR:=(BJ args mem).map λx => .eM x.1 x.2.1 x.2.2.1 x.2.2.2.1 (.L x.2.2.2.2)
@[go_sem] def azD (BJ:List I->Mem->Option (Data×Key×Nat×Nat×Data))(args:List I)(mem:Mem):zG BJ args mem=(BJ args mem).map λx => .eM x.1 x.2.1 x.2.2.1 x.2.2.2.1 (.L x.2.2.2.2):=bj
def anx {T : bl}{kb : Nat}{own : List Nat}(cp : mX P T)(hm : P.follows .mixedOrders = true){f : FuncId}{fn : Func}{mf : bQ}(ao : P.funcs[f]? = some fn)(tO : (fn.name == "runtime.NumGoroutine") = false)(aA : ps P kb own fn = some { mf with body := erase mf.body })
  (cB:Key->Prop) {BJ:List I->Mem->Option (Data×Key×Nat×Nat×Data)}
  (h:∀args mem r k g i d,BJ args mem=some (r,k,g,i,d)->(D args)<=mf.n/\(∀j,cB j->mem j=none)/\¬ cB k/\(∃cs,mem k=some (g,cs)) /\
   wp T mf.body (uj mf.res λm mem'=>c2 6 emp m=some r/\∀j,¬ cB j->mem' j=aV mem k g ((pn mem k).set i (.L d)) j) ⟨j5 args,mem⟩):m9 P f (zG BJ):=by
 refine⟨S3 ao tO aA,λargs mem nq eB A w B vs a3 ai=>?_⟩;unfold zG at eB;rw[cO] at eB;obtain⟨⟨r,k,g,i,d⟩,S5,rfl⟩:=eB;obtain⟨hlen,uk,Q,⟨cs,jK⟩,xx⟩:=h args mem r k g i d S5;refine Calls.mono (Hb (Post:=λm mem'=>c2 6 emp m=some r/\∀j,¬ cB j->mem' j=aV mem k g ((pn mem k).set i (.L d)) j) cp hm ao aA hlen (λe st Q=>S2 Q) xx a3 ai) λe ah he=>?_;obtain⟨v,m,mem',aB,rfl,R,j6,ae,gw⟩:=he;refine⟨v,rS cB aB,rfl,R.drop a3 uk (λj aa=>?_) (λj aa=>(gw j aa).symm) ?_,.L ((QG 6 m v r ae j6).less λb U=>U.imp BI id)⟩
 ·have:j≠k:=λe=>Q (e ▸ aa);simp only[aV,this,if_false];exact uk j aa
 ·intro e0 cY GK G m v5
  by_cases gm:e0=k
  ·subst gm;simp only[aV,if_true,bH,ei] at G;obtain⟨-,rfl⟩:=G;rcases n8 v5 with J|rfl
   ·refine .inr ⟨e0,g,cs,jK,?_⟩
    simpa [pn,jK] using J
   ·exact .inl ⟨d,rfl⟩
  ·simp only[aV,gm,if_false] at G;exact .inr ⟨e0,cY,GK,G,v5⟩
def S6:Option fR->Option fR->Option fR
 |some x,_=>some x
 |none,e=>e
@[go_sem] def azE (x:fR)(e:Option fR):S6 (some x) e=some x:=bj
@[go_sem] def azF (e:Option fR):S6 none e=e:=bj
def rT (fH:FuncId->Option (List Data->Option dd))(qF:FuncId->Option (List I->Mem->Option fR)):bl:=λf args mem=>match qF f with
 |some b6=>S6 (b6 args mem) (tP fH f args mem)
 |none=>tP fH f args mem
def zH {fH:FuncId->Option (List Data->Option dd)}{qF:FuncId->Option (List I->Mem->Option fR)}(h:∀f bR,fH f=some bR->h1 P f bR)(M:∀f b6,qF f=some b6->m9 P f b6):mX P (rT fH qF):=by
 intro f args mem nq cp;unfold rT at cp
 split at cp
 ·rename_i b6 eB;have R:=M f b6 eB
  cases J:b6 args mem with
  |none =>
   rw[J] at cp;exact QH h f args mem nq cp
  |some y =>
   rw[J] at cp
   cases cp;exact⟨R.real,λA w B vs a3 ai=>R.run args mem nq J A w B vs a3 ai⟩
 ·exact QH h f args mem nq cp
def Hn.abx {f:FuncId}{a9:List I->Mem->Option (I×Mem)}(h:Hn P f a9):m9 P f (y9 a9):=by
 refine⟨h.real,λargs mem nq eB A w B vs a3 ai=>?_⟩;unfold y9 at eB;rw[cO] at eB;obtain⟨x,J,rfl⟩:=eB;exact h.run args mem x J A w B vs a3 ai
section
variable {fH:FuncId->Option (List Data->Option dd)} {qF:FuncId->Option (List I->Mem->Option fR)} {f:FuncId}
def x6 {bR:List Data->Option dd}(h:qF f=none)(bT:fH f=some bR):rT fH qF f=aT bR:=by
 funext args mem
 unfold rT;rw[h];exact congrFun (congrFun (Yp bT) args) mem
def Iz {b6:List I->Mem->Option fR}(h:qF f=some b6)(bT:fH f=none):rT fH qF f=b6:=by
 funext args mem
 unfold rT tP;rw[h,bT];dsimp only
 cases b6 args mem<;>rfl
def Ew {bR:List Data->Option dd}{a9:List I->Mem->Option (I×Mem)}(h:qF f=some (y9 a9))(bT:fH f=some bR):rT fH qF f=xA bR a9:=by
 funext args mem
 unfold rT;rw[h];unfold xA y9;rw[show tP fH f args mem=aT bR args mem from congrFun (congrFun (Yp bT) args) mem];dsimp only
 cases a9 args mem<;>rfl
end
def Ex (l:List (FuncId×(List I->Mem->Option fR))):FuncId->Option (List I->Mem->Option fR):=λf=>(l.find? λp=>p.1==f).map (·.2)
def zI {l:List (FuncId×(List I->Mem->Option fR))}(h:∀p∈l,m9 P p.1 p.2):∀f a9,Ex l f=some a9->m9 P f a9:=by
 intro f bR ao;unfold Ex at ao;rw[cO] at ao;obtain⟨p,aD,rfl⟩:=ao;have E:=List.mem_of_find?_eq_some aD;have G:=List.find?_some aD;have ad:p.1=f:=by simpa using G
 exact ad ▸ h p E
def n9:∀p∈([]:List (FuncId×(List I->Mem->Option fR))),m9 P p.1 p.2:=by simp
def um {f:FuncId}{bR:List I->Mem->Option fR}{l:List (FuncId×(List I->Mem->Option fR))}(h:m9 P f bR)(af:∀p∈l,m9 P p.1 p.2):∀p∈(f,bR)::l,m9 P p.1 p.2:=by
 intro p aD;rcases ia.1 aD with rfl|aD
 ·exact h
 ·exact af p aD
open Classical in
def Ey {α:Type}(a4:α->List I->Mem->Prop)(bS:α->Mem->I->Mem->Prop):List I->Mem->Option (I->Mem->Prop):=λargs mem=>if h:∃a,a4 a args mem then some (bS (Classical.choose h) mem) else none
def aby {α:Type}{a4:α->List I->Mem->Prop}{bS:α->Mem->I->Mem->Prop}(uniq:∀a b args mem,a4 a args mem->a4 b args mem->a=b){a:α}{args:List I}{mem:Mem}(h:a4 a args mem):Ey a4 bS args mem=some (bS a mem):=by
 have J:∃b,a4 b args mem:=⟨a,h⟩;unfold Ey;rw[dif_pos J,uniq _ _ _ _ (rn J) h]
def abz {α:Type}{a4:α->List I->Mem->Prop}{bS:α->Mem->I->Mem->Prop}{args:List I}{mem:Mem}{x:I->Mem->Prop}(h:Ey a4 bS args mem=some x):∃a,a4 a args mem/\x=bS a mem:=by
 unfold Ey at h
 split at h
 ·rename_i J;exact⟨_,rn J,(mT h).symm⟩
 ·cases h
end Go.Mini
namespace Go.Mini
open Go
def IA:=b1 k5 λ(s,l,s2,ab)=>some (.same (.bool (s==0)))
@[go_sem] def azG (s l s2 ab):=tS IA rfl ug (s,l,s2,ab) rfl
def anz (T:bl):WF T aa1 IA:=by
 refine cq λ(s,l,s2,ab)=>⟨rfl,cr ?_⟩;simp only[aa1,k5,b8];refine an ?_;repeat' (intro h<;>simp only[h,go_sem,go_sem_proc]<;>try refine aj ?_ ?_)
def x7 (args:List I)(mem:Mem):Option (Data×Key×Nat×Nat×Data) :=
 match args with
 | [.ptr k g 0,.L (.agg [.int .i64 s,.ay l,.int .i64 s2,.ay ab]),.L (.int .i64 e)]=>match mem k,mem 168004,mem 168006 with
  |some (cf,[_,_,.L (.bool c)]),none,none=>if cf=g/\k≠168004/\k≠168006 then some (.agg [.int .i64 s,.ay l,.int .i64 s2,.ay ab],k,g,2,.bool (c||e != 0)) else none
  |_,_,_=>none
 |_=>none
def Na (j:Key):Prop:=j=168004\/j=168006
def anA (T:bl)(args:List I)(mem:Mem)(r:Data)(k g i:Nat)(d:Data)(h:x7 args mem=some (r,k,g,i,d)):
  (D args)<=19/\(∀j,Na j->mem j=none)/\¬ Na k/\(∃cs,mem k=some (g,cs)) /\
   wp T MP.body (uj MP.res λm mem'=>c2 6 emp m=some r/\∀j,¬ Na j->mem' j=aV mem k g ((pn mem k).set i (.L d)) j) ⟨j5 args,mem⟩:=by
 unfold x7 at h
 split at h
 ·rename_i fq GY s l s2 ab e
  split at h
  ·rename_i cA a b c hm aK bD
   split at h
   ·rename_i aC;obtain⟨rfl,zJ,IB⟩:=aC;simp only[bH,ei] at h;obtain⟨rfl,rfl,rfl,rfl,rfl⟩:=h;refine⟨by simp,?_,?_,⟨_,hm⟩,?_⟩
    ·rintro j (rfl|rfl)
     ·exact aK
     ·exact bD
    ·rintro (h|h)
     ·exact zJ h
     ·exact IB h
    ·have kX:∀x:Bool,pn mem fq=[a,b,.L (.bool c)]:=λ_=>by simp only[pn,hm]
     have abA:(fq=168004)=False:=eq_false zJ;have abB:(fq=168006)=False:=eq_false IB;have abC:(168004=fq)=False:=eq_false (Ne.symm zJ);have abD:(168006=fq)=False:=eq_false (Ne.symm IB);refine yU ?_;simp only[MP]
     cases c
     ·refine an ?_;repeat' (intro (aw:_=_)<;>simp only[aw,go_sem,go_sem_proc,hm,aK,bD,abA,abB,abC,abD]<;>try refine aj ?_ ?_)
      refine⟨_,rfl,by first|rfl|simp[go_sem,c2],λj aa=>?_⟩
      have S7:j≠168004:=λh=>aa (.inl h);have S8:j≠168006:=λh=>aa (.inr h)
      by_cases bN:j=fq<;>simp[aV,pn,hm,S7,S8,bN,zJ,IB,bne]
     ·refine an ?_;repeat' (intro (aw:_=_)<;>simp only[aw,go_sem,go_sem_proc,hm,aK,bD,abA,abB,abC,abD]<;>try refine aj ?_ ?_)
      refine⟨_,rfl,by first|rfl|simp[go_sem,c2],λj aa=>?_⟩
      have S7:j≠168004:=λh=>aa (.inl h);have S8:j≠168006:=λh=>aa (.inr h)
      by_cases bN:j=fq<;>simp[aV,pn,hm,S7,S8,bN,zJ,IB,bne]
   ·cases h
  ·cases h
 ·cases h
abbrev cV:=Nat×Nat×List aJ
def refsOf (N:Nat)(rows:List cV):List I:=rows.map λx => .ref (x.1+900000) x.2.1 4 0 (N+1)
structure x8 (go N:Nat) (rows:List cV) (bad:Bool) (mem:Mem):Prop where
 m:mem 129015=some (0,[.ref 129035 go 1 0 N,.L (.int .i64 N),.L (.bool bad)])
 o:mem 129035=some (go,refsOf N rows)
 r:∀x∈rows,mem (x.1+900000)=some (x.2.1,a6 aS x.2.2)
structure iT (N:Nat) (rows:List cV):Prop where
 len:(D rows)=N
 Nb:(rows.map (·.1)).Nodup
 row:∀x∈rows,x.2.2.length=N+1/\∀f∈x.2.2,okF f
def Ez (k:Nat):Prop:=k<900000/\k≠129015/\k≠129035/\k≠148008/\k≠148010/\k≠148013
def js (gG:Mem)(go N:Nat)(rows:List cV)(bad:Bool)(mem:Mem):Prop:=x8 go N rows bad mem/\∀k,Ez k->mem k=gG k
section
variable {gG mem:Mem} {go N:Nat} {rows:List cV} {kI:Bool}
def js.flag (b:Bool)(h:js gG go N rows kI mem):js gG go N rows b (aV mem 129015 0 [.ref 129035 go 1 0 N,.L (.int .i64 N),.L (.bool b)]):=by
 refine⟨⟨by simp[aV],by simp[aV,h.1.o],λx J=>?_⟩,λk Q=>?_⟩
 ·rw[<-h.1.r x J];exact ar (show ¬ ((x.1+900000:Nat)=129015) by omega)
 ·rw[<-h.2 k Q];exact ar Q.2.1
def js.own {k g:Nat}{cs:List I}(Q:k=148008\/k=148010\/k=148013)(h:js gG go N rows kI mem):js gG go N rows kI (aV mem k g cs):=by
 have bc:∀j:Nat,j≠k->aV mem k g cs j=mem j:=λj aa=>ar aa;refine⟨⟨by rw[bc _ (by omega)];exact h.1.m,by rw[bc _ (by omega)];exact h.1.o,λx J=>by rw[bc _ (by omega)];exact h.1.r x J⟩,λj aa=>?_⟩
 have:=aa.2;rw[bc _ (by omega)];exact h.2 j aa
def js.set {i:Nat}{x:cV}(dp:iT N rows)(O:rows[i]?=some x)(l:List aJ)(h:js gG go N rows kI mem):js gG go N (rows.set i (x.1,x.2.1,l)) kI (aV mem (x.1+900000) x.2.1 (a6 aS l)):=by
 have bc:∀j:Nat,j≠x.1+900000->aV mem (x.1+900000) x.2.1 (a6 aS l) j=mem j:=λj aa=>ar aa;obtain⟨au,jt⟩:=dn.1 O;refine⟨⟨by rw[bc _ (by omega)];exact h.1.m,?_,λy ag=>?_⟩,λj aa=>?_⟩
 ·rw[bc _ (by omega),h.1.o]
  congr 2
  unfold refsOf;apply tB;intro j;rw[bG,bG,lO]
  by_cases hJ:i=j
  ·subst hJ;rw[aq rfl,aq au,O]
   rfl
  ·rw[ar hJ]
 ·obtain⟨j,aa⟩:=sG.1 ag;rw[lO] at aa
  by_cases hJ:i=j
  ·subst hJ;rw[aq rfl,aq au] at aa
   cases aa;simp[aV]
  ·rw[ar hJ] at aa
   have azH:y.1≠x.1:=by
    intro he;have E:(rows.map (·.1))[j]?=some y.1:=by rw[bG,aa];rfl
    have G:(rows.map (·.1))[i]?=some y.1:=by rw[bG,O,he];rfl
    have af:i<(rows.map (·.1)).length:=by rw[az];exact au
    exact hJ ((abE af dp.Nb).1 (G.trans E.symm))
   rw[bc (y.1+900000) (by omega)];exact h.1.r y (du aa)
 ·have:=aa.1;rw[bc j (by omega)];exact h.2 j aa
def js.swap {i j:Nat}{a b:cV}(O:rows[i]?=some a)(aa:rows[j]?=some b)(h:js gG go N rows kI mem):js gG go N ((rows.set i b).set j a) kI (aV (aV mem 129035 go (refsOf N (rows.set i b))) 129035 go (refsOf N ((rows.set i b).set j a))):=by
 have bc:∀k:Nat,k≠129035->aV (aV mem 129035 go (refsOf N (rows.set i b))) 129035 go (refsOf N ((rows.set i b).set j a)) k=mem k:=λk Q=>by simp[aV,Q]
 refine⟨⟨by rw[bc _ (by omega)];exact h.1.m,by simp[aV],λx J=>?_⟩,λk Q=>?_⟩
 ·rw[bc _ (by omega)];apply h.1.r;rcases n8 J with J|rfl
  ·rcases n8 J with J|rfl
   ·exact J
   ·exact du aa
  ·exact du O
 ·rw[bc _ Q.2.2.1];exact h.2 k Q
def iT.set {i:Nat}{x:cV}(dp:iT N rows)(O:rows[i]?=some x){l:List aJ}(af:(D l)=N+1)(ao:∀f∈l,okF f):iT N (rows.set i (x.1,x.2.1,l)):=by
 obtain⟨au,jt⟩:=dn.1 O;refine⟨by rw[fN];exact dp.len,?_,λy ag=>?_⟩
 ·have:(rows.set i (x.1,x.2.1,l)).map (·.1)=rows.map (·.1):=by
   rw[BK];apply tB;intro j;rw[lO]
   by_cases hJ:i=j
   ·subst hJ;rw[aq rfl,az,aq au,bG,O];rfl
   ·rw[ar hJ]
  rw[this];exact dp.Nb
 ·rcases n8 ag with ag|rfl
  ·exact dp.row y ag
  ·exact⟨af,ao⟩
def anB {α:Type}{l:List α}{i j:Nat}{a b:α}(O:l[i]?=some a)(aa:l[j]?=some b)(h:l.Nodup):((l.set i b).set j a).Nodup:=by
 obtain⟨kl,x9⟩:=dn.1 O;obtain⟨iv,Df⟩:=dn.1 aa
 have main:∀p q,p<q->q<(D l)->((l.set i b).set j a)[p]?≠((l.set i b).set j a)[q]?:=by
  intro p q EA aM;rw[lO,lO,lO,lO];have inj:∀p q,p<(D l)->l[p]?=l[q]?->p=q:=λp q aD he=>(abE aD h).1 he;simp only[fN]
  by_cases E:j=p
  ·subst E;have G:¬ j=q:=by omega
   rw[aq rfl,aq iv,ar G]
   by_cases ad:i=q
   ·subst ad;rw[aq rfl,aq kl];intro he;rw[<-O,<-aa] at he;have:=inj _ _ kl he;omega
   ·rw[ar ad,<-O];intro he;exact ad (inj _ _ kl he)
  ·rw[ar E]
   by_cases ad:i=p
   ·subst ad;rw[aq rfl,aq kl]
    by_cases G:j=q
    ·subst G;rw[aq rfl,aq iv,<-O,<-aa];intro he;have:=inj _ _ iv he;omega
    ·rw[ar G,ar (by omega),<-aa];intro he;exact G (inj _ _ iv he)
   ·rw[ar ad]
    by_cases G:j=q
    ·subst G;rw[aq rfl,aq iv,<-O];intro he;exact ad (inj _ _ kl he.symm)
    ·rw[ar G]
     by_cases aK:i=q
     ·subst aK;rw[aq rfl,aq kl,<-aa];intro he;exact E (inj _ _ iv he.symm)
     ·rw[ar aK];intro he;have:=inj _ _ (by omega) he;omega
 refine List.pairwise_iff_getElem.2 λp q aD aM EA he=>?_;simp only[fN] at aD aM;refine main p q EA aM ?_;rw[bB (by simpa using aD),bB (by simpa using aM),he]
def iT.swap {i j:Nat}{a b:cV}(dp:iT N rows)(O:rows[i]?=some a)(aa:rows[j]?=some b):iT N ((rows.set i b).set j a):=by
 refine⟨by rw[fN,fN];exact dp.len,?_,λx J=>?_⟩
 ·rw[BK,BK];exact anB (by rw[bG,O];rfl) (by rw[bG,aa];rfl) dp.Nb
 ·rcases n8 J with J|rfl
  ·rcases n8 J with J|rfl
   ·exact dp.row x J
   ·exact dp.row _ (du aa)
  ·exact dp.row _ (du O)
end
def anC {l:List aJ}{i:Nat}{a b c d}(h:l[i]?=some ((a,b),(c,d))):cut (a6 aS l) (i*4) 4=some [.L (.int .i64 a),.L (.ay (b.map aH)),.L (.int .i64 c),.L (.ay (d.map aH))]:=by
 have:=Hf oX h (f:=0) (n:=4) (by omega);rw[kv] at this;rw[this]
 rfl
def anD {N:Nat}{rows:List cV}{i:Nat}{x:cV}(h:rows[i]?=some x):cut (refsOf N rows) i 1=some [.ref (x.1+900000) x.2.1 4 0 (N+1)]:=by
 obtain⟨au,rfl⟩:=dn.1 h;unfold cut refsOf;rw[aq (by rw[az];omega),<-List.map_drop,fY au]
 rfl
def anE {l m:List aJ}(h:a6 aS l=a6 aS m):l=m:=RK oX m8 _ _ h (by omega)
def md (f:aJ):Bool:=f.1.1==0
def cellOf (x:cV)(c:Nat):aJ:=x.2.2.getD c bK
def findAt (rows:List cV)(r c:Nat):Nat:=r+(rows.drop r).findIdx λx => !md (cellOf x c)
def ij (eU:aJ):List aJ->List aJ->Bool->List aJ×Bool
 |f::db,p::cH,false=>((nF f (jq eU p).1).1::(ij eU db cH ((jq eU p).2 != 0||(nF f (jq eU p).1).2 != 0)).1,(ij eU db cH ((jq eU p).2 != 0||(nF f (jq eU p).1).2 != 0)).2)
 |db,_,b=>(db,b)
def iU (e6:List aJ)(r c:Nat):Nat->List cV->Bool->List cV×Bool
 |_,[],bad=>([],bad)
 |i,x::xs,bad=>if (i==r||md (cellOf x c))=true then (x::(iU e6 r c (i+1) xs bad).1,(iU e6 r c (i+1) xs bad).2) else
  ((x.1,x.2.1,(ij (cellOf x c) x.2.2 e6 bad).1)::(iU e6 r c (i+1) xs (ij (cellOf x c) x.2.2 e6 bad).2).1,(iU e6 r c (i+1) xs (ij (cellOf x c) x.2.2 e6 bad).2).2)
def g7 (Iu:aJ)(l:List aJ):List aJ×Bool:=(l.map λf=>(jD f Iu).1,l.any λf=>(jD f Iu).2 != 0)
def rowAt (rows:List cV)(i:Nat):cV:=rows.getD i (0,0,[])
def oY (rows:List cV)(i j:Nat):List cV:=(rows.set i (rowAt rows j)).set j (rowAt rows i)
def BL (rows:List cV)(r c:Nat):List cV:=rows.set r ((rowAt rows r).1,(rowAt rows r).2.1,(g7 (cellOf (rowAt rows r) c) (rowAt rows r).2.2).1)
def hQ (rows:List cV)(r c:Nat):Bool×List cV×Bool :=
 if findAt rows r c=(D rows) then (true,rows,false) else
  (false,iU (g7 (cellOf (rowAt (oY rows r (findAt rows r c)) r) c) (rowAt (oY rows r (findAt rows r c)) r).2.2).1 r c 0 (BL (oY rows r (findAt rows r c)) r c)
   (g7 (cellOf (rowAt (oY rows r (findAt rows r c)) r) c) (rowAt (oY rows r (findAt rows r c)) r).2.2).2)
def anF {rows:List cV}{r c i:Nat}{x:cV}(J:rows[i]?=some x)(M:r<=i)(aQ:∀j y,r<=j->j<i->rows[j]?=some y->md (cellOf y c)=true)(h:md (cellOf x c)=false):findAt rows r c=i:=by
 unfold findAt;obtain⟨au,jt⟩:=dn.1 J
 have:(rows.drop r).findIdx (λx => !md (cellOf x c))=i-r:=by
  rw[List.findIdx_eq (by rw[rq];omega)];refine⟨?_,λj aa=>?_⟩
  ·rw[EB];have:rows[r+(i-r)]?=some x:=by rw[show r+(i-r)=i by omega];exact J
   rw[(dn.1 this).2,h];rfl
  ·rw[EB];have:=aQ (r+j) _ (by omega) (by omega) (bB (by omega));rw[this];rfl
 omega
def anG {rows:List cV}{r c:Nat}(M:r<=D rows)(aQ:∀j y,r<=j->rows[j]?=some y->md (cellOf y c)=true):findAt rows r c=D rows:=by
 unfold findAt
 have:(rows.drop r).findIdx (λx => !md (cellOf x c))=(rows.drop r).length:=by
  rw[List.findIdx_eq_length];intro y ag;obtain⟨j,aa⟩:=sG.1 ag;rw[sC] at aa;rw[aQ (r+j) y (by omega) aa];rfl
 rw[this,rq];omega
def S9 {x:Rat}(h:ed x):okF (bW x):=⟨k4 h.1,k4 (ue h)⟩
def pT:okF bK:=⟨by simp[bK],by simp[bK]⟩
def anH (p q:Raw):okF (hB p q).1:=by
 unfold hB
 split
 ·rename_i h;rw[dH] at h;obtain⟨x,J,aL⟩:=(gR _).1 h.1;obtain⟨y,ag,ax⟩:=(gR _).1 h.2
  split
  ·exact pT
  ·rw[aL,ax,eI,eI];exact S9 (MF J ag)
 ·exact pT
def Ta (p q:Raw×Int):okF (s0 p q).1:=by
 unfold s0
 split
 ·split
  ·exact anH _ _
  ·exact pT
 ·exact pT
def IC (a b:aJ):okF (iC a b).1:=by
 unfold iC
 split
 ·split
  ·exact Ta _ _
  ·exact pT
 ·exact pT
def Nc (a b:aJ):okF (nF a b).1:=by
 unfold nF
 split
 ·split
  ·exact IC _ _
  ·exact pT
 ·exact pT
def Tb (a b:aJ):okF (jq a b).1:=by
 unfold jq
 split
 ·split
  ·exact Ta _ _
  ·exact pT
 ·exact pT
def abF (a b:aJ):okF (jD a b).1:=by
 unfold jD
 split
 ·split
  ·split
   ·exact pT
   ·exact Ta _ _
  ·exact pT
 ·exact pT
def Tc {x:cV}{c:Nat}{f:aJ}(h:x.2.2[c]?=some f):cellOf x c=f:=by
 unfold cellOf;rw[eF,h]
 rfl
def uo {rows:List cV}{i:Nat}{x:cV}(h:rows[i]?=some x):rowAt rows i=x:=by
 unfold rowAt;rw[eF,h]
 rfl
def ya {l:List aJ}{k:Nat}(h:k<D l):(k*4+4<=(a6 aS l).length)=True:=eq_true (by rw[mA oX];omega)
def EC {l:List aJ}{k:Nat}{a b c d}(h:l[k]?=some ((a,b),(c,d))):oK 4 (pK (k*4) (a6 aS l))=[.L (.int .i64 a),.L (.ay (b.map aH)),.L (.int .i64 c),.L (.ay (d.map aH))]:=by
 have:=anC h;unfold cut at this;rw[aq (by rw[mA oX];have:=(dn.1 h).1;omega)] at this;exact mT this
def ED {l:List aJ}{k:Nat}(h:k<D l)(a:Int)(b:List Int)(c:Int)(d:List Int):
  oK (k*4) (a6 aS l)++[I.L (.int .i64 a),.L (.ay (b.map aH)),.L (.int .i64 c),.L (.ay (d.map aH))]++pK (k*4+4) (a6 aS l)=a6 aS (l.set k ((a,b),(c,d))):=by
 rw[<-QQ oX h]
 rfl
def BM {N:Nat}{rows:List cV}{i:Nat}(h:i<D rows):(i+1<=(refsOf N rows).length)=True:=eq_true (by unfold refsOf;rw[az];omega)
def EE {N:Nat}{rows:List cV}{i:Nat}{x:cV}(h:rows[i]?=some x):oK 1 (pK i (refsOf N rows))=[.ref (x.1+900000) x.2.1 4 0 (N+1)]:=by
 have:=anD (N:=N) h;unfold cut at this;rw[aq (by unfold refsOf;rw[az];have:=(dn.1 h).1;omega)] at this;exact mT this
def abG {N:Nat}{rows:List cV}{i:Nat}(h:i<D rows)(b:cV):oK i (refsOf N rows)++[I.ref (b.1+900000) b.2.1 4 0 (N+1)]++pK (i+1) (refsOf N rows)=refsOf N (rows.set i b):=by
 unfold refsOf;rw[BK,List.set_eq_take_append_cons_drop,aq (by rw[az];exact h),hh]
 rfl
def abH (eU:aJ):∀(l p:List aJ) (b:Bool),(ij eU l p b).1.length=D l
 | [],_,_=>by simp[ij]
 |f::db,[],b=>by cases b<;>simp[ij]
 |f::db,p::cH,true=>by simp[ij]
 |f::db,p::cH,false=>by simp[ij,abH eU db cH]
def Td (eU:aJ)(l p:List aJ):ij eU l p true=(l,true):=by
 cases l<;>cases p<;>simp[ij]
def abI (eU:aJ)(p:List aJ)(b:Bool):ij eU [] p b=([],b):=by
 cases b<;>simp[ij]
def anI {α:Type}(f:α->α){l:List α}{k:Nat}{x:α}(h:l[k]?=some x):((l.take k).map f++l.drop k).set k (f x)=(l.take (k+1)).map f++l.drop (k+1):=by
 obtain⟨au,J⟩:=dn.1 h;have af:((l.take k).map f).length=k:=by rw[az,hf];omega
 rw[Nd _ _ (by omega),af,lW,fY au,wu,jj,h,pU,hh]
 rfl
def anJ {α:Type}(f:α->α){l:List α}{k:Nat}:((l.take k).map f++l.drop k)[k]?=l[k]?:=by
 rcases fE k (D l) with h|h
 ·have af:((l.take k).map f).length=k:=by rw[az,hf];omega
  rw[Av (by omega),af,lW,sC,kv]
 ·rw[mO h,mO (by rw[lk,az,hf,rq];omega)]
def Te {α:Type}{rows:List α}{r i:Nat}{x uq:α}(J:rows[i]?=some x)(nH:rows[r]?=some uq):((rows.set r x).set i uq)[r]?=some x:=by
 have E:=(dn.1 J).1;have G:=(dn.1 nH).1;rw[lO,lO,fN]
 by_cases h:i=r
 ·subst h;rw[J] at nH
  cases nH;rw[aq rfl,aq E]
 ·rw[ar h,aq rfl,aq G]
def Tf {α:Type}{l:List α}{i:Nat}{x:α}(h:l[i]?=some x):l.set i x=l:=by
 obtain⟨au,J⟩:=dn.1 h;apply tB;intro j;rw[lO]
 by_cases hJ:i=j
 ·subst hJ;rw[aq rfl,aq au,h]
 ·rw[ar hJ]
def anK (a b:Nat):(!(a+900000==129015)||decide (2<b*4))=true:=by
 have:(a+900000==129015)=false:=by simp
 rw[this];rfl
def Tg:Ez 168004:=by unfold Ez;omega
def Th:Ez 168006:=by unfold Ez;omega
def eh.sub:eh->List Nat->eh
 |.seq a _,0::p=>a.sub p
 |.seq _ b,_::p=>b.sub p
 |.cond _ a _,0::p=>a.sub p
 |.cond _ _ b,_::p=>b.sub p
 |.block _ c,_::p=>c.sub p
 |.ghost _ c,_::p=>c.sub p
 |.loop c,_::p=>c.sub p
 |c,_=>c
def lP (f:aJ):List I:=[.L (.int .i64 f.1.1),.L (.ay (f.1.2.map aH)),.L (.int .i64 f.2.1),.L (.ay (f.2.2.map aH))]
def anL (T:bl)(ur:T za=zG x7)(rU:T A4=aT BB)(zK:T xG=aT x3){K:eZ->a1->Prop}{gY:List hI}
  (go N r c i2:Nat) (mem:Mem) (zL:mem 168004=none) (zM:mem 168006=none) (hN:N<=40) (rV:List cV) (qG:iT N rV) (x y:cV) (e6:List aJ) (wv:rV[i2]?=some y) (aP:rV[r]?=some (x.1,x.2.1,e6)) (BN:i2≠r) (rW:r<N) (kI:Bool)
  (cA:Int) (cY:List Int) (ht:Int) (g8:List Int) (ji:okF ((cA,cY),(ht,g8))) (tm:Nat->I) (m:Mem) (a9:Nat)
  (fF:tm 0=.ptr 129015 0 0) (aL:tm 1=.L (.int .i64 r)) (ax:tm 2=.L (.int .i64 c)) (v8:tm 12=.ref (y.1+900000) y.2.1 4 0 (N+1)) (EF:tm 13=.ptr 148013 a9 0) (ID:tm 112=.ref 129035 go 1 0 N) (IE:tm 113=.L (.int .i64 N)) (IF:tm 114=.L (.int .i64 i2)) (Nf:tm 14=.L (.int .i64 0))
  (em:m 148013=some (a9,[.L (.int .i64 cA),.L (.ay (cY.map aH)),.L (.int .i64 ht),.L (.ay (g8.map aH))])) (h8:js mem go N rV kI m)
  (ep:∀tm' m' l b,tm' 0=.ptr 129015 0 0->tm' 1=.L (.int .i64 r)->tm' 2=.L (.int .i64 c)->tm' 112=.ref 129035 go 1 0 N->tm' 113=.L (.int .i64 N)->tm' 114=.L (.int .i64 i2)->(l,b)=ij ((cA,cY),(ht,g8)) y.2.2 e6 kI->iT N (rV.set i2 (y.1,y.2.1,l))->js mem go N (rV.set i2 (y.1,y.2.1,l)) b m'->cg T K gY (.exit 6) ⟨tm',m'⟩) :
  wp T (wm.body.sub [1,1,1,1,1,1,1,0,1,0,0,1,1,0,0,1,1,1,1,0]) (cg T K gY) ⟨tm,m⟩:=by
 simp only[wm,eh.sub];have anM:i2<N:=by rw[<-qG.len];exact (dn.1 wv).1
 obtain⟨PU,Ng⟩:=qG.row y (du wv);have anN:rV.set i2 (y.1,y.2.1,[]++y.2.2.drop 0)=rV:=Tf wv
 refine dM [0,1,2,12,13,112,113,114] [148013] (λ((k,pre,b):Nat×List aJ×Bool) tm m=>k<=N+1/\D pre=k/\(∀f∈pre,okF f)/\ij ((cA,cY),(ht,g8)) y.2.2 e6 kI=(pre++(ij ((cA,cY),(ht,g8)) (y.2.2.drop k) (e6.drop k) b).1,(ij ((cA,cY),(ht,g8)) (y.2.2.drop k) (e6.drop k) b).2)/\tm 14=.L (.int .i64 k)/\js mem go N (rV.set i2 (y.1,y.2.1,pre++y.2.2.drop k)) b m) (λ(k,_,_)=>N+1-k) (0,[],kI) (by
  refine⟨eL _,rfl,(by simp),rfl,Nf,?_⟩;rw[anN];exact h8) ?_
 intro vs ms a7 aY;simp only[go_sem,go_sem_proc,fF,aL,ax,v8,EF,ID,IE,IF,em] at a7 aY;subst a7 aY;clear fF aL ax v8 EF ID IE IF em Nf h8 tm m;rintro⟨c9,pre,b⟩ tm dD Q hm ⟨azI,D4,EG,IG,oR,rX⟩;simp only[go_sem,go_sem_proc,bs] at Q hm;obtain⟨al,E,G,oM,l5,uu,uv,uw⟩:=Q;have anO:(pre++y.2.2.drop c9).length=N+1:=by rw[lk,rq];omega
 have EH:iT N (rV.set i2 (y.1,y.2.1,pre++y.2.2.drop c9)):=qG.set wv anO λf ao=>by
  rw[hs] at ao;rcases ao with ao|ao
  ·exact EG f ao
  ·exact Ng f (D1 ao)
 have abJ:(rV.set i2 (y.1,y.2.1,pre++y.2.2.drop c9))[i2]?=some (y.1,y.2.1,pre++y.2.2.drop c9):=by
  rw[lO,aq rfl,aq (by rw[qG.len];exact anM)]
 have Eh:(rV.set i2 (y.1,y.2.1,pre++y.2.2.drop c9))[r]?=some (x.1,x.2.1,e6):=by
  rw[lO,ar BN];exact aP
 have ta:=rX.1.m;have wx:=rX.1.o;rcases eC (c9<N+1) with anP|azJ
 ·have zN:decide ((c9:Int)<((N+1:Nat):Int))=true:=dW
  cases b
  ·obtain⟨⟨⟨cz,dj⟩,⟨hR,iV⟩⟩,ux⟩:∃f,y.2.2[c9]?=some f:=⟨_,bB (by omega)⟩;have azK:(D e6)=N+1:=(qG.row _ (du aP)).1;obtain⟨⟨⟨qk,pE⟩,⟨rY,Nh⟩⟩,Ti⟩:∃f,e6[c9]?=some f:=⟨_,bB (by omega)⟩;have xd:=Ng _ (du ux);have abK:=(qG.row _ (du aP)).2 _ (du Ti)
   have Tj:(pre++y.2.2.drop c9)[c9]?=some ((cz,dj),(hR,iV)):=by
    rw[Av (by omega),D4,lW,sC,kv,ux]
   have jm:y.2.2.drop c9=((cz,dj),(hR,iV))::y.2.2.drop (c9+1):=by
    obtain⟨af,e⟩:=dn.1 ux;rw[fY af,e]
   have ki:e6.drop c9=((qk,pE),(rY,Nh))::e6.drop (c9+1):=by
    obtain⟨af,e⟩:=dn.1 Ti;rw[fY af,e]
   have xf:∀s:aJ,(pre++y.2.2.drop c9).set c9 s=(pre++[s])++y.2.2.drop (c9+1):=λs=>by
    rw[Nd _ _ (by omega),D4,lW,jm,wu,hh];rfl
   have anQ:=rX.1.r _ (du abJ);have anR:=rX.1.r _ (du Eh);have uy:dD 168004=none:=(rX.2 _ Tg).trans zL;have EI:dD 168006=none:=(rX.2 _ Th).trans zM;have t1:=EE (N:=N) Eh;have t2:=BM (N:=N) (rows:=rV.set i2 (y.1,y.2.1,pre++y.2.2.drop c9)) (i:=r) (by rw[EH.len];exact rW);have t3:=EC Tj;have t4:=ya (l:=pre++y.2.2.drop c9) (k:=c9) (by omega);have t5:=EC Ti;have t6:=ya (l:=e6) (k:=c9) (by omega);have lI:=h4 (i:=c9) (by omega);have tb:=Tb ((cA,cY),(ht,g8)) ((qk,pE),(rY,Nh));have uz:=Nc ((cz,dj),(hR,iV)) (jq ((cA,cY),(ht,g8)) ((qk,pE),(rY,Nh))).1;have IH:=IG;rw[jm,ki] at IH;simp only[ij] at IH;generalize h6:jq ((cA,cY),(ht,g8)) ((qk,pE),(rY,Nh))=a4 at *;obtain⟨⟨⟨j7,hp⟩,⟨yb,EJ⟩⟩,aL⟩:=a4;dsimp only at uz IH tb;generalize cm:nF ((cz,dj),(hR,iV)) ((j7,hp),(yb,EJ))=S at *;obtain⟨⟨⟨v1,v2⟩,⟨hr,v4⟩⟩,ax⟩:=S;dsimp only at uz IH;have t7:=ED (l:=pre++y.2.2.drop c9) (k:=c9) (by omega) v1 v2 hr v4;refine an ?_;repeat' (intro h<;>simp only[h,go_sem,go_sem_proc,ur,zK,rU,al,E,G,oM,l5,oR,uu,uv,uw,hm,ta,wx,anQ,anR,uy,EI,t1,t2,t3,t4,t5,t6,t7,zN,anP,rW,lI,h6,cm,xd.1,xd.2,abK.1,abK.2,ji.1,ji.2,tb.1,tb.2,lP,dx,aS,dE,x7,EK,wu,decide_true,decide_false,abL,ne_eq,not_false_eq_true,and_self]<;>try refine aj ?_ ?_)
   have qH:=js.set EH abJ ((pre++y.2.2.drop c9).set c9 ((v1,v2),(hr,v4))) ((rX.flag (aL != 0)).flag (aL != 0||ax != 0));rw[abM,xf] at qH;refine⟨anK _ _,(c9+1,pre++[((v1,v2),(hr,v4))],(aL != 0||ax != 0)),by dsimp only;omega,by dsimp only;omega,by simp[D4],?_,?_,rfl,?_⟩
   ·intro f ao;rw[hs,v3] at ao;rcases ao with ao|rfl
    ·exact EG f ao
    ·exact uz
   ·rw[IH];dsimp only;rw[hh]
    rfl
   ·dsimp only;rw[xf];exact qH
  ·rw[Td] at IG;refine an ?_;repeat' (intro h<;>simp only[h,go_sem,go_sem_proc,al,E,G,oM,l5,oR,uu,uv,uw,ta,wx,zN]<;>try refine aj ?_ ?_)
   refine ep _ _ (pre++y.2.2.drop c9) true ?_ ?_ ?_ ?_ ?_ ?_ IG.symm EH rX<;>simp only[vd,zO,if_false,al,E,G,uu,uv,uw]
 ·have zN:decide ((c9:Int)<((N+1:Nat):Int))=false:=ef;have mW:y.2.2.drop c9=[]:=lq (by omega);rw[mW,abI,<-mW] at IG;refine an ?_;repeat' (intro h<;>simp only[h,go_sem,go_sem_proc,al,E,G,oM,l5,oR,uu,uv,uw,ta,wx,zN]<;>try refine aj ?_ ?_)
  refine ep _ _ (pre++y.2.2.drop c9) b ?_ ?_ ?_ ?_ ?_ ?_ IG.symm EH rX<;>simp only[vd,zO,if_false,al,E,G,uu,uv,uw]
def anS (T:bl)(zP:T Hx=aT IA)(ur:T za=zG x7)(rU:T A4=aT BB)(zK:T xG=aT x3){K:eZ->a1->Prop}{gY:List hI}
  (go N r c:Nat) (mem:Mem) (zL:mem 168004=none) (zM:mem 168006=none) (hN:N<=40) (rW:r<N) (BO:c<N+1) (hS:List cV) (BP:iT N hS) (x:cV) (e6:List aJ) (rO:hS[r]?=some (x.1,x.2.1,e6)) (EL:Bool) (tm:Nat->I) (m:Mem)
  (fF:tm 0=.ptr 129015 0 0) (aL:tm 1=.L (.int .i64 r)) (ax:tm 2=.L (.int .i64 c)) (ID:tm 112=.ref 129035 go 1 0 N) (IE:tm 113=.L (.int .i64 N)) (IF:tm 114=.L (.int .i64 0)) (h8:js mem go N hS EL m)
  (ep:∀tm' m',js mem go N (iU e6 r c 0 hS EL).1 (iU e6 r c 0 hS EL).2 m'->cg T K gY (.exit 4) ⟨tm',m'⟩) :
  wp T (wm.body.sub [1,1,1,1,1,1,1,0,1,0]) (cg T K gY) ⟨tm,m⟩:=by
 simp only[wm,eh.sub]
 refine dM [0,1,2,112,113] [] (λ((i2,kJ,kI):Nat×List cV×Bool) tm m=>i2<=N/\D kJ=i2/\iU e6 r c 0 hS EL=(kJ++(iU e6 r c i2 (hS.drop i2) kI).1,(iU e6 r c i2 (hS.drop i2) kI).2)/\iT N (kJ++hS.drop i2)/\(kJ++hS.drop i2)[r]?=some (x.1,x.2.1,e6)/\tm 114=.L (.int .i64 i2)/\js mem go N (kJ++hS.drop i2) kI m) (λ(i2,_,_)=>N-i2) (0,[],EL) (by
  exact⟨eL _,rfl,rfl,BP,rO,IF,h8⟩) ?_
 intro vs ms a7 aY;simp only[go_sem,go_sem_proc,fF,aL,ax,ID,IE] at a7 aY;subst a7 aY;clear fF aL ax ID IE IF h8 tm m;rintro⟨i2,kJ,kI⟩ tm bJ Q hm ⟨dX,jn,jL,qG,aP,uw,tc⟩;simp only[go_sem,go_sem_proc,bs] at Q hm;obtain⟨al,E,G,uu,uv⟩:=Q;have ta:=tc.1.m;have wx:=tc.1.o;have azL:(D hS)=N:=BP.len;rcases eC (i2<N) with Ni|azM
 ·obtain⟨y,ag⟩:∃y,hS[i2]?=some y:=⟨_,bB (by omega)⟩
  have oS:hS.drop i2=y::hS.drop (i2+1):=by
   obtain⟨af,rfl⟩:=dn.1 ag;exact fY af
  have wv:(kJ++hS.drop i2)[i2]?=some y:=by
   rw[Av (by omega),jn,lW,sC,kv,ag]
  obtain⟨PU,Ng⟩:=qG.row y (du wv);have Tk:=tc.1.r y (du wv);obtain⟨⟨⟨cA,cY⟩,⟨ht,g8⟩⟩,aC⟩:∃f,y.2.2[c]?=some f:=⟨_,bB (by omega)⟩;have uc:=Tc aC;have t1:=EE (N:=N) wv;have t2:=BM (N:=N) (rows:=kJ++hS.drop i2) (i:=i2) (by rw[qG.len];exact Ni);have t3:=EC aC;have t4:=ya (l:=y.2.2) (k:=c) (by omega);have kl:decide ((i2:Int)<(N:Int))=true:=dW;have hw:=h4 (i:=i2) (by omega)
  have xa:∀z:cV,(kJ++[z])++hS.drop (i2+1)=(kJ++hS.drop i2).set i2 z:=λz=>by
   rw[Nd _ _ (by omega),jn,lW,oS,wu,hh];rfl
  have EM:(kJ++[y])++hS.drop (i2+1)=kJ++hS.drop i2:=by rw[xa];exact Tf wv
  have II:∀b:Bool,(b=true->i2=r\/(cA==0)=true)->b=true->iU e6 r c 0 hS EL=((kJ++[y])++(iU e6 r c (i2+1) (hS.drop (i2+1)) kI).1,(iU e6 r c (i2+1) (hS.drop (i2+1)) kI).2):=by
   intro b U Tl
   have Tm:(i2==r||md (cellOf y c))=true:=by
    rcases U Tl with h|h
    ·rw[h,beq_self_eq_true];rfl
    ·rw[uc];have:md ((cA,cY),(ht,g8))=true:=h;rw[this,Bool.or_true]
   rw[jL,oS];simp only[iU];rw[aq Tm,hh]
   rfl
  rcases pV:((i2:Int)==(r:Int))
  ·have BN:i2≠r:=by intro h;rw[h] at pV;simp at pV
   rcases Nj:(cA==0)
   ·have ji:okF ((cA,cY),(ht,g8)):=Ng _ (du aC);simp only[go_sem,go_sem_proc,zP,al,E,G,uu,uv,uw,ta,wx,Tk,t1,t2,t3,t4,Ni,kl,BO,pV,Nj,dE];refine anL T ur rU zK go N r c i2 mem zL zM hN (kJ++hS.drop i2) qG x y e6 wv aP BN rW kI cA cY ht g8 ji _ _ (j8 (bJ 148013)) ?_ ?_ ?_ ?_ ?_ ?_ ?_ ?_ ?_ ?_ ((tc.own (.inr (.inr rfl))).own (.inr (.inr rfl))) ?_
    ·exact al
    ·exact E
    ·exact G
    ·rfl
    ·rfl
    ·exact uu
    ·exact uv
    ·exact uw
    ·rfl
    ·simp[aV]
    ·intro tm' m' l b fq cP e0 anT anU anV pM EH rX;refine an ?_;repeat' (intro (aw:_=_)<;>simp only[aw,go_sem,go_sem_proc,al,E,G,fq,cP,e0,anT,anU,anV,hw]<;>try refine aj ?_ ?_)
     refine⟨(i2+1,kJ++[(y.1,y.2.1,l)],b),by dsimp only;omega,by dsimp only;omega,by simp[jn],?_,by dsimp only;rw[xa];exact EH,by dsimp only;rw[xa,lO,ar BN];exact aP,rfl,?_⟩
     ·have Tm:¬ (i2==r||md (cellOf y c))=true:=by
       rw[uc];have E:md ((cA,cY),(ht,g8))=false:=Nj;have G:(i2==r)=false:=by simpa using BN
       rw[E,G];simp
      rw[jL,oS];simp only[iU];rw[ar Tm,uc,<-pM,hh]
      rfl
     ·dsimp only;rw[xa];exact rX
   ·refine an ?_;repeat' (intro (aw:_=_)<;>simp only[aw,go_sem,go_sem_proc,zP,al,E,G,uu,uv,uw,ta,wx,Tk,t1,t2,t3,t4,Ni,kl,BO,hw,pV,Nj,dE]<;>try refine aj ?_ ?_)
    refine⟨(i2+1,kJ++[y],kI),by dsimp only;omega,by dsimp only;omega,by simp[jn],II true (λ_ => .inr Nj) rfl,by dsimp only;rw[EM];exact qG,by dsimp only;rw[EM];exact aP,rfl,?_⟩
    dsimp only;rw[EM];exact (tc.own (.inr (.inr rfl))).own (.inr (.inr rfl))
  ·have BN:i2=r:=by have h:=beq_iff_eq.1 pV;omega
   refine an ?_;repeat' (intro (aw:_=_)<;>simp only[aw,go_sem,go_sem_proc,zP,al,E,G,uu,uv,uw,ta,wx,Tk,t1,t2,t3,t4,Ni,kl,BO,hw,pV,dE]<;>try refine aj ?_ ?_)
   refine⟨(i2+1,kJ++[y],kI),by dsimp only;omega,by dsimp only;omega,by simp[jn],II true (λ_ => .inl BN) rfl,by dsimp only;rw[EM];exact qG,by dsimp only;rw[EM];exact aP,rfl,?_⟩
   dsimp only;rw[EM];exact (tc.own (.inr (.inr rfl))).own (.inr (.inr rfl))
 ·have ga:i2=N:=by omega
  have kl:decide ((i2:Int)<(N:Int))=false:=ef;have Ly:hS.drop i2=[]:=lq (by omega);rw[Ly] at jL tc;simp only[iU,nZ] at jL tc;rw[jL] at ep;refine an ?_;repeat' (intro (aw:_=_)<;>simp only[aw,go_sem,go_sem_proc,al,E,G,uu,uv,uw,ta,wx,kl]<;>try refine aj ?_ ?_)
  exact ep _ _ tc
def anW (T:bl)(ur:T za=zG x7)(Tn:T DK=aT BC){K:eZ->a1->Prop}{gY:List hI}
  (go N r c:Nat) (mem:Mem) (zL:mem 168004=none) (zM:mem 168006=none) (hN:N<=40) (rW:r<N) (hk:List cV) (EN:iT N hk) (x:cV) (wy:hk[r]?=some x) (f1:Int) (f2:List Int) (f3:Int) (f4:List Int) (oz:okF ((f1,f2),(f3,f4))) (tm:Nat->I) (m:Mem) (a9:Nat)
  (fF:tm 0=.ptr 129015 0 0) (aL:tm 1=.L (.int .i64 r)) (ax:tm 2=.L (.int .i64 c)) (oZ:tm 8=.ptr 148008 a9 0) (abN:tm 85=.ref (x.1+900000) x.2.1 4 0 (N+1)) (abO:tm 86=.L (.int .i64 ((N+1:Nat):Int))) (abP:tm 87=.L (.int .i64 0))
  (em:m 148008=some (a9,[.L (.int .i64 f1),.L (.ay (f2.map aH)),.L (.int .i64 f3),.L (.ay (f4.map aH))])) (h8:js mem go N hk false m)
  (ep:∀tm' m',tm' 0=.ptr 129015 0 0->tm' 1=.L (.int .i64 r)->tm' 2=.L (.int .i64 c)->iT N (hk.set r (x.1,x.2.1,(g7 ((f1,f2),(f3,f4)) x.2.2).1))->js mem go N (hk.set r (x.1,x.2.1,(g7 ((f1,f2),(f3,f4)) x.2.2).1)) (g7 ((f1,f2),(f3,f4)) x.2.2).2 m'->cg T K gY (.exit 2) ⟨tm',m'⟩) :
  wp T (wm.body.sub [1,1,1,1,1,1,0,1,0]) (cg T K gY) ⟨tm,m⟩:=by
 simp only[wm,eh.sub];obtain⟨tu,km⟩:=EN.row x (du wy)
 have anX:∀l:List aJ,(hk.set r (x.1,x.2.1,l))[r]?=some (x.1,x.2.1,l):=λl=>by
  rw[lO,aq rfl,aq (by rw[EN.len];exact rW)]
 refine dM [0,1,2,8,85,86] [148008] (λ(k:Nat) tm m=>k<=N+1/\tm 87=.L (.int .i64 k)/\js mem go N (hk.set r (x.1,x.2.1,(x.2.2.take k).map (λf=>(jD f ((f1,f2),(f3,f4))).1)++x.2.2.drop k)) ((x.2.2.take k).any λf=>(jD f ((f1,f2),(f3,f4))).2 != 0) m) (λk=>N+1-k) 0 (by
  refine⟨eL _,abP,?_⟩;have e:hk.set r (x.1,x.2.1,(x.2.2.take 0).map (λf=>(jD f ((f1,f2),(f3,f4))).1)++x.2.2.drop 0)=hk:=Tf wy;rw[e];exact h8) ?_
 intro vs ms a7 aY;simp only[go_sem,go_sem_proc,fF,aL,ax,oZ,abN,abO,em] at a7 aY;subst a7 aY;clear fF aL ax oZ abN abO abP em h8 tm m;rintro k tm m Q hm ⟨ju,abQ,h8⟩;simp only[go_sem,go_sem_proc,bs] at Q hm;obtain⟨al,E,G,ct,abR,abS⟩:=Q
 have dP:((x.2.2.take k).map (λf=>(jD f ((f1,f2),(f3,f4))).1)++x.2.2.drop k).length=N+1:=by
  rw[lk,az,hf,rq];omega
 have BP:iT N (hk.set r (x.1,x.2.1,(x.2.2.take k).map (λf=>(jD f ((f1,f2),(f3,f4))).1)++x.2.2.drop k)):=by
  refine EN.set wy dP λf ao=>?_;rw[hs] at ao;rcases ao with ao|ao
  ·obtain⟨zQ,-,rfl⟩:=h3.1 ao;exact abF _ _
  ·exact km f (D1 ao)
 have rO:=anX ((x.2.2.take k).map (λf=>(jD f ((f1,f2),(f3,f4))).1)++x.2.2.drop k);rcases eC (k<N+1) with anY|azN
 ·obtain⟨⟨⟨cz,dj⟩,⟨hR,iV⟩⟩,ux⟩:∃f,x.2.2[k]?=some f:=⟨_,bB (by omega)⟩;have Tj:=(anJ (λf=>(jD f ((f1,f2),(f3,f4))).1) (l:=x.2.2) (k:=k)).trans ux;have xf:=anI (λf=>(jD f ((f1,f2),(f3,f4))).1) ux
  have tM:(x.2.2.take (k+1)).any (λf=>(jD f ((f1,f2),(f3,f4))).2 != 0)=((x.2.2.take k).any (λf=>(jD f ((f1,f2),(f3,f4))).2 != 0)||(jD ((cz,dj),(hR,iV)) ((f1,f2),(f3,f4))).2 != 0):=by
   rw[jj,ux,List.any_append];simp
  obtain⟨anZ,an0⟩:=km _ (du ux);generalize (x.2.2.take k).map (λf=>(jD f ((f1,f2),(f3,f4))).1)++x.2.2.drop k=cur at *;generalize ((x.2.2.take k).any λf=>(jD f ((f1,f2),(f3,f4))).2 != 0)=kI at *;have ta:=h8.1.m;have wx:=h8.1.o;have an1:=h8.1.r _ (du rO);have uy:m 168004=none:=(h8.2 _ Tg).trans zL;have EI:m 168006=none:=(h8.2 _ Th).trans zM;have t1:=EE (N:=N) rO;have t2:=BM (N:=N) (rows:=hk.set r (x.1,x.2.1,cur)) (i:=r) (by rw[BP.len];exact rW);have t3:=EC Tj;have t4:=ya (l:=cur) (k:=k) (by omega);have zN:decide ((k:Int)<((N+1:Nat):Int))=true:=dW;have hw:=h4 (i:=k) (by omega);generalize pI:jD ((cz,dj),(hR,iV)) ((f1,f2),(f3,f4))=V at *;obtain⟨⟨⟨v1,v2⟩,⟨hr,v4⟩⟩,rQ⟩:=V;dsimp only at xf tM;have t5:=ED (l:=cur) (k:=k) (by omega) v1 v2 hr v4;refine an ?_;repeat' (intro h<;>simp only[h,go_sem,go_sem_proc,ur,Tn,al,E,G,ct,abR,abS,abQ,hm,ta,wx,an1,uy,EI,t1,t2,t3,t4,t5,zN,anY,rW,hw,pI,anZ,an0,oz.1,oz.2,dx,aS,dE,x7,EK,wu,decide_true,decide_false,abL,ne_eq,not_false_eq_true,and_self]<;>try refine aj ?_ ?_)
  have aL:=js.set BP rO (cur.set k ((v1,v2),(hr,v4))) (((h8.own (k:=148010) (g:=j8 (m 148010)) (cs:=[I.L (Data.int IntKind.i64 0),I.nil,I.L (Data.int IntKind.i64 0),I.nil]) (.inr (.inl rfl))).own (k:=148010) (g:=j8 (m 148010)) (cs:=[I.L (Data.int IntKind.i64 cz),I.L (Data.ay (Nk aH dj)),I.L (Data.int IntKind.i64 hR),I.L (Data.ay (Nk aH iV))]) (.inr (.inl rfl))).flag (kI||rQ != 0));rw[abM,xf] at aL;refine⟨k+1,by omega,by omega,rfl,?_⟩
  show js mem go N _ ((x.2.2.take (k+1)).any λf=>(jD f ((f1,f2),(f3,f4))).2 != 0) _;rw[tM,xf];exact aL
 ·have azO:k=N+1:=by omega
  have an2:(x.2.2.take k).map (λf=>(jD f ((f1,f2),(f3,f4))).1)++x.2.2.drop k=(g7 ((f1,f2),(f3,f4)) x.2.2).1:=by
   unfold g7;rw[dz (by omega),lq (by omega),nZ]
  have an3:((x.2.2.take k).any λf=>(jD f ((f1,f2),(f3,f4))).2 != 0)=(g7 ((f1,f2),(f3,f4)) x.2.2).2:=by
   unfold g7;rw[dz (by omega)]
  rw[an2] at BP h8;rw[an3] at h8;have zN:decide ((k:Int)<((N+1:Nat):Int))=false:=ef;refine an ?_;repeat' (intro h<;>simp only[h,go_sem,go_sem_proc,al,E,G,ct,abR,abS,abQ,hm,zN]<;>try refine aj ?_ ?_)
  refine ep _ _ ?_ ?_ ?_ BP h8<;>simp only[vd,zO,if_false,al,E,G]
def an4 (T:bl)(zP:T Hx=aT IA)(ur:T za=zG x7)(Tn:T DK=aT BC)(rU:T A4=aT BB)(zK:T xG=aT x3)
  (go N:Nat) (rows:List cV) (r c:Nat) (gG:Mem) (dp:iT N rows) (gO:x8 go N rows false gG) (zL:gG 168004=none) (zM:gG 168006=none) (hN:N<=40) (yP:r<=c) (an5:c<N) :
  wp T wm.body (uj wm.res λm mem'=>m=.L (.bool (hQ rows r c).1)/\js gG go N (hQ rows r c).2.1 (hQ rows r c).2.2 mem') ⟨j5 [.ptr 129015 0 0,.L (.int .i64 r),.L (.int .i64 c)],gG⟩:=by
 refine yU ?_;simp only[wm];simp only[go_sem,go_sem_proc];refine dM [0,1,2] [] (λ(i:Nat) tm mem=>r<=i/\i<=N/\(∀j y,r<=j->j<i->rows[j]?=some y->md (cellOf y c)=true)/\tm 7=.L (.int .i64 i)/\mem=gG) (λi=>N-i) r (by refine⟨bM _,by omega,λj y E G=>by omega,rfl,rfl⟩) ?_;intro vs ms a7 aY;simp only[go_sem,go_sem_proc] at a7 aY;subst a7 aY;rintro i tm mem Q hm ⟨ly,abT,aQ,bL,rfl⟩;simp only[go_sem,go_sem_proc,bs] at Q hm;obtain⟨al,E,G⟩:=Q;have uA:=gO.m;have IJ:=gO.o;have hlen:=dp.len;rcases eC (i<N) with au|bO
 ·have J:∃x,rows[i]?=some x:=⟨_,bB (by omega)⟩;obtain⟨x,J⟩:=J;obtain⟨tu,km⟩:=dp.row x (du J);have abU:=gO.r x (du J);have ao:∃f,x.2.2[c]?=some f:=⟨_,bB (by omega)⟩;obtain⟨⟨⟨f1,f2⟩,⟨f3,f4⟩⟩,ao⟩:=ao;have abV:=EE (N:=N) J;have abW:=BM (N:=N) (rows:=rows) (i:=i) (by omega);have abX:=EC ao;have abY:=ya (l:=x.2.2) (k:=c) (by omega);have sB:=Tc ao;have mI:decide ((i:Int)<(N:Int))=true:=dW;have BO:c<N+1:=by omega
  rcases sK:(f1==0)
  ·have an6:findAt rows r c=i:=anF J ly aQ (by rw[sB];exact sK);obtain⟨uq,nH⟩:∃x,rows[r]?=some x:=⟨_,bB (by omega)⟩
   have iW:hQ rows r c=(false,iU (g7 ((f1,f2),(f3,f4)) x.2.2).1 r c 0 (((rows.set r x).set i uq).set r (x.1,x.2.1,(g7 ((f1,f2),(f3,f4)) x.2.2).1)) (g7 ((f1,f2),(f3,f4)) x.2.2).2):=by
    unfold hQ BL;rw[ar (by omega),an6];have:rowAt (oY rows r i) r=x:=uo (by unfold oY;rw[uo J,uo nH];exact Te J nH);rw[this,sB];unfold oY;rw[uo J,uo nH]
   rw[iW];clear iW;have EN:iT N ((rows.set r x).set i uq):=dp.swap nH J;have an7:js mem go N ((rows.set r x).set i uq) false _:=js.swap nH J ⟨gO,λ_ _=>rfl⟩;have wy:((rows.set r x).set i uq)[r]?=some x:=Te J nH;have rW:r<N:=by omega
   have s1:=EE (N:=N) nH;have s2:=BM (N:=N) (rows:=rows) (i:=r) (by omega);have cv:=abG (N:=N) (rows:=rows) (i:=r) (by omega) x;have cD:=BM (N:=N) (rows:=rows.set r x) (i:=i) (by rw[fN];omega);have EO:=abG (N:=N) (rows:=rows.set r x) (i:=i) (by rw[fN];omega) uq;have an8:=EE (N:=N) wy;have an9:=BM (N:=N) (rows:=(rows.set r x).set i uq) (i:=r) (by rw[fN,fN];omega);generalize yc:(rows.set r x).set i uq=hk at *;have oz:=km _ (du ao);have azP:decide ((i:Int)<(N:Int))=true:=mI;have aoa:((i:Int)==(N:Int))=false:=by simp;omega
   simp only[go_sem,go_sem_proc,zP,ur,al,E,G,bL,uA,IJ,abU,abV,abW,abX,abY,au,mI,BO,sK,dE,rW,s1,s2,cv,cD,EO,an8,an9,aoa];refine anW T ur Tn go N r c mem zL zM hN rW hk EN x wy f1 f2 f3 f4 oz _ _ (j8 (mem 148008)) ?_ ?_ ?_ ?_ ?_ ?_ ?_ ?_ ((an7.own (.inl rfl)).own (.inl rfl)) ?_
   ·exact al
   ·exact E
   ·exact G
   ·rfl
   ·rfl
   ·rfl
   ·rfl
   ·simp[aV]
   intro tm' m' fq cP e0 qG tc;have ta:=tc.1.m
   have aP:(hk.set r (x.1,x.2.1,(g7 ((f1,f2),(f3,f4)) x.2.2).1))[r]?=some (x.1,x.2.1,(g7 ((f1,f2),(f3,f4)) x.2.2).1):=by
    rw[lO,aq rfl,aq (by rw[EN.len];exact rW)]
   simp only[go_sem,go_sem_proc,fq,cP,e0,ta];refine anS T zP ur rU zK go N r c mem zL zM hN rW BO _ qG x _ aP _ _ _ ?_ ?_ ?_ ?_ ?_ ?_ tc ?_
   ·exact fq
   ·exact cP
   ·exact e0
   ·rfl
   ·rfl
   ·rfl
   intro abZ dD rX;refine an ?_;repeat' (intro h<;>simp only[h,go_sem,go_sem_proc]<;>try refine aj ?_ ?_)
   exact⟨_,rfl,rfl,rX⟩
  ·have hw:=h4 (i:=i) (by omega);refine an ?_;repeat' (intro h<;>simp only[h,go_sem,go_sem_proc,zP,ur,al,E,G,bL,uA,IJ,abU,abV,abW,abX,abY,au,mI,BO,sK,hw,dE]<;>try refine aj ?_ ?_)
   refine⟨i+1,by omega,by omega,by omega,?_,rfl⟩
   intro j y oa yR ag
   by_cases hK:j=i
   ·subst hK;rw[J] at ag
    cases ag;rw[sB];exact sK
   ·exact aQ j y oa (by omega) ag
 ·have aob:i=N:=by omega
  subst aob;have mI:decide ((i:Int)<(i:Int))=false:=ef;have aoc:=anG (rows:=rows) (r:=r) (c:=c) (by omega) (λj y aa ag=>aQ j y aa (by have:=(dn.1 ag).1;omega) ag);have aD:hQ rows r c=(true,rows,false):=by unfold hQ;rw[aq aoc]
  rw[aD];refine an ?_;repeat' (intro h<;>simp only[h,go_sem,go_sem_proc,zP,ur,al,E,G,bL,uA,IJ,mI,beq_self_eq_true]<;>try refine aj ?_ ?_)
  exact⟨_,rfl,rfl,gO,λ_ _=>rfl⟩
structure Nl where
 go:Nat
 N:Nat
 rows:List cV
 r:Nat
 c:Nat
def To (a:Nl)(mem:Mem):Prop:=iT a.N a.rows/\x8 a.go a.N a.rows false mem/\mem 168004=none/\mem 168006=none/\a.N<=40/\a.r<=a.c/\a.c<a.N
def Tp (a:Nl)(mem:Mem):I->Mem->Prop:=λm mem'=>m=.L (.bool (hQ a.rows a.r a.c).1)/\js mem a.go a.N (hQ a.rows a.r a.c).2.1 (hQ a.rows a.r a.c).2.2 mem'
def IK:List I->Mem->Option (I->Mem->Prop):=Ey (λ(a:Nl) args mem=>args=[.ptr 129015 0 0,.L (.int .i64 a.r),.L (.int .i64 a.c)]/\To a mem) Tp
def aod {N:Nat}{a b:List cV}(h:refsOf N a=refsOf N b):a.map (λx=>(x.1,x.2.1))=b.map λx=>(x.1,x.2.1):=by
 induction a generalizing b with
 |nil=>cases b with
  |nil=>rfl
  |cons y r=>simp[refsOf] at h
 |cons x a aF=>cases b with
  |nil=>simp[refsOf] at h
  |cons y b =>
   simp only[refsOf,hv,bs,I.ref.injEq] at h;have E:x.1=y.1:=by have:=h.1.1;simp only[Key] at this;omega
   simp only[hv,bs,ei];exact⟨⟨E,h.1.2.1⟩,aF h.2⟩
def aoe (a:Nl)(mem:Mem)(h:To a mem):IK [.ptr 129015 0 0,.L (.int .i64 a.r),.L (.int .i64 a.c)] mem=some (Tp a mem):=by
 unfold IK;refine aby (a:=a) ?_ ⟨rfl,h⟩;rintro a b args mem ⟨E,G,ad,_⟩ ⟨aK,bp,bD,_⟩;rw[E] at aK;simp only[bs,I.L.injEq,Data.int.injEq,true_and,and_true] at aK;have hm:=ad.m;rw[bD.m] at hm;simp only[bH,ei,bs,I.ref.injEq,true_and,and_true] at hm;obtain⟨⟨aC,aE⟩,-⟩:=hm;have aZ:=ad.o;rw[bD.o] at aZ;simp only[bH,ei] at aZ;obtain⟨bF,azQ,Tq,cz,dj⟩:=a;obtain⟨azR,azS,Tr,cQ,dO⟩:=b;dsimp only at *;subst aC aE
 have M:Tr=Tq:=by
  have bL:=aod aZ.2;have af:(D Tr)=D Tq:=by have:=congrArg D bL;simpa using this
  apply List.ext_getElem af;intro i qc dX;have ct:(Tr.map λx=>(x.1,x.2.1))[i]?=(Tq.map λx=>(x.1,x.2.1))[i]?:=by rw[bL]
  rw[bG,bG,bB qc,bB dX] at ct;simp only[kx,bH,ei] at ct;have fK:=bD.r _ (kT qc);have hd:=ad.r _ (kT dX);rw[ct.1,hd] at fK;simp only[bH,ei] at fK;have:=anE fK.2;exact cy ct.1 (cy ct.2 this.symm)
 subst M;have aL:cz=cQ:=by omega
 have ax:dj=dO:=by omega
 subst aL ax
 rfl
def aof {args:List I}{mem:Mem}{bS:I->Mem->Prop}(h:IK args mem=some bS):∃a,args=[.ptr 129015 0 0,.L (.int .i64 a.r),.L (.int .i64 a.c)]/\To a mem/\bS=Tp a mem:=by
 obtain⟨a,⟨E,G⟩,ad⟩:=abz h;exact⟨a,E,G,ad⟩
def ab0 (l:List aJ):((l.map aS).all λe=>D e==4)=true:=by simp[aS]
abbrev Nm:List aJ->List Data:=λ(l:List aJ)=>[.ay (l.map aS)]
def IL:=b1 Nm λ(l:List aJ)=>cu (D l<=1000000) (.own 4 (l.map aS))
def aog:∀a b,Nm a=Nm b->a=b:=by
  intro ig ab h;exact map_inj m8 _ _ (by simpa using h)
@[go_sem] def azT (l):=cL IL rfl aog l rfl
def aoh (T:bl):WF T Zd IL:=by
 refine cq λl=>cR λZ=>⟨rfl,cr ?_⟩;simp only[Zd,Nm,b8]
 have dS:mw 147005 0 4 0 64 (D l) ((l.map aS).flatten.map .L) (some (0,[]))=some (.ref 147005 1 4 0 (D l),some (147005,1,a6 aS l)):=by
  have:=DB oX MT 147005 0 64 [] l (by simp;omega) (by simp;omega)
  simpa [a6] using this
 have hlen:(a6 aS l).length=D l*4:=mA oX l;refine an ?_;repeat' (intro h<;>simp only[h,go_sem,go_sem_proc,ab0,dS,az]<;>try refine aj ?_ ?_)
 rintro b U
 cases b
 ·refine an ?_;repeat' (intro h<;>simp only[h,go_sem,go_sem_proc,ab0,dS,az,ql,hlen]<;>try refine aj ?_ ?_)
  rw[aq (by omega),dz (by omega)];unfold a6;rw[AS _ λd=>rfl];have:=AT (sz:=4) (l.map aS) (by intro e he;obtain⟨f,-,rfl⟩:=h3.1 he;rfl);rw[az] at this;simp[this]
 ·cases l with
  |nil =>
       refine an ?_;repeat' (intro h<;>simp only[h,go_sem,go_sem_proc,ql,cl]<;>try refine aj ?_ ?_)
  |cons x r=>simp at U
def g9 (rs:List ej):List cV:=rs.zipIdx.map λp=>(p.2,0,p.1.1++[p.1.2])
def BQ (rs:List ej):(g9 rs).length=D rs:=by simp[g9]
def ab1 {rs:List ej}{i:Nat}{r:ej}(h:rs[i]?=some r):(g9 rs)[i]?=some (i,0,r.1++[r.2]):=by
 unfold g9;rw[bG,Ts,h];simp
def Tt {rs:List ej}{i:Nat}{r:ej}(h:rs[i]?=some r):(g9 rs).take (i+1)=(g9 rs).take i++[(i,0,r.1++[r.2])]:=by
 rw[jj,ab1 h]
 rfl
def aoi {rs:List ej}{i:Nat}{x:cV}(h:x∈(g9 rs).take i):x.1<i/\x.2.1=0:=by
 obtain⟨j,aa⟩:=sG.1 h;rw[List.getElem?_take] at aa
 split at aa
 ·rename_i hK;unfold g9 at aa;rw[bG,Ts] at aa
  cases M:rs[j]? with
  |none=>rw[M] at aa;cases aa
  |some r =>
   rw[M] at aa;simp only[kx,bH] at aa;subst aa;exact⟨by simpa using hK,rfl⟩
 ·cases aa
def aoj (N:Nat)(a b:List cV):refsOf N (a++b)=refsOf N a++refsOf N b:=by simp[refsOf]
def EP (N:Nat)(a:List cV):(refsOf N a).length=D a:=by simp[refsOf]
structure yd (N:Nat) (rs:List ej) (i go:Nat) (mem:Mem):Prop where
 z:i=0->mem 129015=some (0,[.nil,.L (.int .i64 N),.L (.bool false)])
 p:0<i->mem 129015=some (0,[.ref 129035 go 1 0 i,.L (.int .i64 N),.L (.bool false)])/\mem 129035=some (go,refsOf N ((g9 rs).take i))
 r:∀x∈(g9 rs).take i,mem (x.1+900000)=some (x.2.1,a6 aS x.2.2)
 n:∀j:Nat,i<=j->mem (j+900000)=none
 a:mem 168004=none
 b:mem 168006=none
def ab2 (l:List aJ):(l.map aS).flatten.map I.L=a6 aS l:=rfl
def aok (a9:Nat)(l:List aJ)(v1:Int)(v2:List Int)(hr:Int)(v4:List Int)(h:(D l)<=1000000):mw 129029 a9 4 (D l) 64 1 [.L (.int .i64 v1),.L (.ay (v2.map aH)),.L (.int .i64 hr),.L (.ay (v4.map aH))] (some (a9,a6 aS l))=some (.ref 129029 (a9+1) 4 0 (D l+1),some (129029,a9+1,a6 aS (l++[((v1,v2),(hr,v4))]))) :=
 qm oX MT 129029 a9 64 l ((v1,v2),(hr,v4)) rfl (by omega) (by omega)
def aol (N a9 i g:Nat)(a:List cV)(O:(D a)=i)(h:i<=1000)(m:I)(hm:m=.ref 129029 g 4 0 (N+1)):mw 129035 a9 1 i 24 1 [m] (some (a9,refsOf N a))=some (.ref 129035 (a9+1) 1 0 (i+1),some (129035,a9+1,refsOf N a++[m])):=by
 subst hm;unfold mw;dsimp only;rw[aq ⟨rfl,by rw[EP];omega,by omega,by unfold maxLen;omega,rfl⟩,dz (by rw[EP];omega)]
def aom {N i go go' a9:Nat}{rs:List ej}{r:ej}{m m':Mem}(U:yd N rs i go m)(M:rs[i]?=some r)(zu:m' 129015=some (0,[.ref 129035 go' 1 0 (i+1),.L (.int .i64 N),.L (.bool false)]))(ao:∀k:Nat,900000<=k\/k=168004\/k=168006->m' k=m k):
  yd N rs (i+1) go' (aV (aV (aV m' 129029 (bw m' 129029) []) (i+900000) (bw m' (i+900000)) (a6 aS (r.1++[r.2]))) 129035 go' ((refsOf N ((g9 rs).take i)++[I.ref 129029 a9 4 0 (N+1)]).set i (I.ref (i+900000) (bw m' (i+900000)) 4 0 (N+1)))):=by
 have au:=(dn.1 M).1
 have aC:bw m' (i+900000)=0:=by
  unfold bw;rw[ao _ (.inl (by omega)),U.n i (bM _)]
 have rZ:(refsOf N ((g9 rs).take i)).length=i:=by rw[EP,hf,BQ];omega
 rw[aC]
 have GM:(refsOf N ((g9 rs).take i)++[I.ref 129029 a9 4 0 (N+1)]).set i (.ref (i+900000) 0 4 0 (N+1))=refsOf N ((g9 rs).take (i+1)):=by
  rw[Nd _ _ (by omega),rZ,lW,wu,Tt M,aoj]
  rfl
 rw[GM];have IM:∀(k:Nat),k≠129029->k≠129035->k≠i+900000->aV (aV (aV m' 129029 (bw m' 129029) []) (i+900000) 0 (a6 aS (r.1++[r.2]))) 129035 go' (refsOf N ((g9 rs).take (i+1))) k=m' k:=λk E G ad=>by simp[aV,E,G,ad]
 refine⟨λh=>by omega,λ_=>⟨by rw[IM _ (by omega) (by omega) (by omega)];exact zu,by simp[aV]⟩,λx J=>?_,λj aa=>?_,?_,?_⟩
 ·rw[Tt M,hs,v3] at J;rcases J with J|rfl
  ·obtain⟨gn,g5⟩:=aoi J;rw[IM _ (by omega) (by omega) (by omega),ao _ (.inl (by omega))];exact U.r x J
  ·have G:(i+900000:Nat)≠129035:=by omega
   simp[aV]
 ·rw[IM _ (by omega) (by omega) (by omega),ao _ (.inl (by omega))];exact U.n j (by omega)
 ·rw[IM _ (by omega) (by omega) (by omega),ao _ (.inr (.inl rfl))];exact U.a
 ·rw[IM _ (by omega) (by omega) (by omega),ao _ (.inr (.inr rfl))];exact U.b
def ab3 {K:a1->Prop}{tm:Nat->I}{N i go:Nat}(go' a9:Nat){rs:List ej}{r:ej}{m m':Mem}(U:yd N rs i go m)(M:rs[i]?=some r)(zu:m' 129015=some (0,[.ref 129035 go' 1 0 (i+1),.L (.int .i64 N),.L (.bool false)]))
  (Nn:m' 129035=some (go',refsOf N ((g9 rs).take i)++[.ref 129029 a9 4 0 (N+1)])) (aon:m' 129029=some (a9,a6 aS (r.1++[r.2]))) (ao:∀k:Nat,900000<=k\/k=168004\/k=168006->m' k=m k) (h:∀a4,yd N rs (i+1) go' a4->K ⟨tm,a4⟩):mM K ⟨tm,m'⟩ .move:=by
 have au:=(dn.1 M).1;have rZ:(refsOf N ((g9 rs).take i)).length=i:=by rw[EP,hf,BQ];omega
 exact ajU 129035 i 129029 (i+900000) Nn (by rw[Av (by omega),rZ,lW];rfl) aon (by omega) (show (i+900000:Nat)≠129029 by omega) (show (i+900000:Nat)≠129035 by omega) (h _ (aom U M zu ao))
def jX {m:Mem}{k g:Nat}{cs:List I}{j:Nat}(h:j≠k):aV m k g cs j=m j:=ar h
def aoo (T:bl)(nI:T LQ=aT IL){K:eZ->a1->Prop}{gY:List hI}(N:Nat)(rs:List ej)(stop:Bool)(hN:N<=40)(hlen:(D rs)=N)(lB:∀r∈rs,r.1.length=N/\ui r)(tm:Nat->I)(m:Mem)
  (aL:tm 1=.L (.int .i64 N)) (ax:tm 2=.L (.bool stop)) (oZ:tm 8=.ptr 129015 0 0) (No:tm 16=.L (.ay (rs.map kH))) (ab4:tm 17=.L (.int .i64 N)) (ab5:tm 18=.L (.int .i64 0)) (U:yd N rs 0 0 m)
  (ep:∀tm' m' go,tm' 1=.L (.int .i64 N)->tm' 2=.L (.bool stop)->tm' 8=.ptr 129015 0 0->yd N rs N go m'->cg T K gY (.exit 0) ⟨tm',m'⟩) :
  wp T (MO.body.sub [1,1,0,1,0]) (cg T K gY) ⟨tm,m⟩:=by
 simp only[MO,eh.sub];refine dM [1,2,8,16,17] [] (λ((i,go):Nat×Nat) tm m=>i<=N/\tm 18=.L (.int .i64 i)/\yd N rs i go m) (λ(i,_)=>N-i) (0,0) (by exact⟨eL _,ab5,U⟩) ?_;intro vs ms a7 aY;simp only[go_sem,go_sem_proc,aL,ax,oZ,No,ab4] at a7 aY;subst a7 aY;clear aL ax oZ No ab4 ab5 U tm m;rintro⟨i,go⟩ tm m Q hm ⟨abT,l6,U⟩;simp only[go_sem,go_sem_proc,bs] at Q hm;obtain⟨E,G,ct,m5,mG⟩:=Q;rcases eC (i<N) with au|bO
 ·obtain⟨⟨A,⟨v1,v2⟩,⟨hr,v4⟩⟩,M⟩:∃r,rs[i]?=some r:=⟨_,bB (by omega)⟩;obtain⟨wz,⟨ab6,Tu⟩,aop,Bn⟩:=lB _ (du M);dsimp only at wz ab6 Tu aop Bn;have kl:decide ((i:Int)<(N:Int))=true:=dW;have hw:=h4 (i:=i) (by omega);have dS:∀a9,mw 129029 a9 4 N 64 1 _ _=_:=λa9=>wz ▸ aok a9 A v1 v2 hr v4 ab6;have ab7:N<=1000000:=by omega
  have gk:(1<=maxLen)=True:=eq_true (by unfold maxLen;omega);have azU:=Tt M;have rZ:((g9 rs).take i).length=i:=by rw[hf,BQ];omega
  rcases iK i with al|hn
  ·have uA:=U.z al;refine an ?_;repeat' (intro h<;>simp only[h,go_sem,go_sem_proc,nI,E,G,ct,m5,mG,l6,uA,kl,M,hw,ab7,wz,dS,gk,ab2,az,bG,kH,aS,decide_true,decide_false,ne_eq,not_false_eq_true,and_self]<;>try refine aj ?_ ?_)
   refine ab3 (j8 (m 129035)) (j8 (m 129029)+1) U M (by simp[aV,al]) (by simp[aV,al,refsOf]) (by simp[aV]) (λk Q=>?_) λa4 hq=>?_
   ·rw[jX (by omega),jX (by omega),jX (by omega),jX (by omega),jX (by omega),jX (by omega),jX (by omega)]
   ·refine an ?_;repeat' (intro h<;>simp only[h,go_sem,go_sem_proc,E,G,ct,m5,mG,l6,hw]<;>try refine aj ?_ ?_)
    exact⟨(i+1,j8 (m 129035)),by dsimp only;omega,by dsimp only;omega,rfl,hq⟩
  ·obtain⟨uA,IJ⟩:=U.p hn;have aoq:=aol N go i (j8 (m 129029)+1) ((g9 rs).take i) rZ (by omega) _ rfl;refine an ?_;repeat' (intro h<;>simp only[h,go_sem,go_sem_proc,nI,E,G,ct,m5,mG,l6,uA,IJ,kl,M,hw,ab7,wz,dS,aoq,ab2,az,bG,kH,aS,decide_true,decide_false,ne_eq,not_false_eq_true,and_self]<;>try refine aj ?_ ?_)
   refine ab3 (go+1) (j8 (m 129029)+1) U M (by simp[aV]) (by simp[aV]) (by simp[aV]) (λk Q=>?_) λa4 hq=>?_
   ·rw[jX (by omega),jX (by omega),jX (by omega),jX (by omega),jX (by omega),jX (by omega),jX (by omega)]
   ·refine an ?_;repeat' (intro h<;>simp only[h,go_sem,go_sem_proc,E,G,ct,m5,mG,l6,hw]<;>try refine aj ?_ ?_)
    exact⟨(i+1,go+1),by dsimp only;omega,by dsimp only;omega,rfl,hq⟩
 ·have kl:decide ((i:Int)<(N:Int))=false:=ef;obtain rfl:i=N:=by omega
  refine an ?_;repeat' (intro h<;>simp only[h,go_sem,go_sem_proc,E,G,ct,m5,mG,l6,kl]<;>try refine aj ?_ ?_)
  refine ep _ _ go ?_ ?_ ?_ U<;>simp only[vd,zO,if_false,E,G,ct]
def lQ (stop:Bool):Nat->Nat->List cV->List Nat->Bool->List cV×List Nat×Bool
 |0,_,rows,free,bad=>(rows,free,bad)
 |_+1,_,rows,free,true=>(rows,free,true)
 |k+1,c,rows,free,false =>
  if (hQ rows (c-D free) c).1=true then
   (if stop=true then ((hQ rows (c-D free) c).2.1,free++[c],(hQ rows (c-D free) c).2.2) else lQ stop k (c+1) (hQ rows (c-D free) c).2.1 (free++[c]) (hQ rows (c-D free) c).2.2)
  else lQ stop k (c+1) (hQ rows (c-D free) c).2.1 free (hQ rows (c-D free) c).2.2
def ab8 (stop:Bool)(k c:Nat)(rows:List cV)(free:List Nat):lQ stop k c rows free true=(rows,free,true):=by
 cases k<;>rfl
def kK (n:Nat):List Data:=[.int .i64 n]
def zR (n:Nat):(kK n).length=1:=rfl
def ab9 (n:Nat):((kK n).map I.L).all I.one=true:=rfl
def Tv (N:Nat)(rows:List cV)(bad:Bool):Data:=.ptr [.ay (rows.map λx=>[.ay (x.2.2.map aS)]),.int .i64 N,.bool bad]
def Np (N:Nat)(p:List cV×List Nat×Bool):Data:=.de [Tv N p.1 p.2.2,.ay (p.2.1.map kK)]
def Nq (e6:List aJ)(r c:Nat):∀(i:Nat) (l:List cV) (b:Bool),(iU e6 r c i l b).1.map (λx=>(x.1,x.2.1,x.2.2.length))=l.map λx=>(x.1,x.2.1,x.2.2.length)
 |_,[],_=>rfl
 |i,x::xs,b=>by
  unfold iU
  split
  ·simp only[hv,Nq e6 r c (i+1) xs b]
  ·simp only[hv,Nq e6 r c (i+1) xs,abH]
def aca (eU:aJ):∀(l p:List aJ) (b:Bool),(∀f∈l,okF f)->∀f∈(ij eU l p b).1,okF f
 | [],p,b,h=>by rw[abI];exact h
 |f::db,[],b,h=>by cases b<;>(simp only[ij];exact h)
 |f::db,p::cH,true,h=>by simp only[ij];exact h
 |f::db,p::cH,false,h=>by
  simp only[ij];intro g aC;rcases ia.1 aC with rfl|aC
  ·exact Nc _ _
  ·exact aca eU db cH _ (λx J=>h x (td _ J)) g aC
def Tw (e6:List aJ)(r c:Nat):∀(i:Nat) (l:List cV) (b:Bool),(∀x∈l,∀f∈x.2.2,okF f)->∀x∈(iU e6 r c i l b).1,∀f∈x.2.2,okF f
 |_,[],_,h=>h
 |i,x::xs,b,h=>by
  unfold iU
  split
  ·intro y ag;rcases ia.1 ag with rfl|ag
   ·exact h _ kV
   ·exact Tw e6 r c (i+1) xs b (λz aQ=>h z (td _ aQ)) y ag
  ·intro y ag;rcases ia.1 ag with rfl|ag
   ·exact aca _ _ _ _ (h _ kV)
   ·exact Tw e6 r c (i+1) xs _ (λz aQ=>h z (td _ aQ)) y ag
def acb (rows:List cV)(r c:Nat)(M:r<=D rows):r<=findAt rows r c/\findAt rows r c<=D rows:=by
 unfold findAt;have:=List.findIdx_le_length (p:=λx => !md (cellOf x c)) (xs:=rows.drop r);rw[rq] at this;omega
def iT.zS {N:Nat}{rows:List cV}(h:iT N rows){r c:Nat}(M:r<N):iT N (hQ rows r c).2.1:=by
 unfold hQ
 split
 ·exact h
 ·rename_i bc;have oz:=acb rows r c (by rw[h.len];omega);have af:=h.len;obtain⟨x,J⟩:∃x,rows[findAt rows r c]?=some x:=⟨_,bB (by omega)⟩;obtain⟨uq,nH⟩:∃x,rows[r]?=some x:=⟨_,bB (by omega)⟩
  have yc:iT N (oY rows r (findAt rows r c)):=by
   unfold oY;rw[uo J,uo nH];exact h.swap nH J
  have wy:(oY rows r (findAt rows r c))[r]?=some x:=by
   unfold oY;rw[uo J,uo nH];exact Te J nH
  generalize oY rows r (findAt rows r c)=hk at *;obtain⟨tu,km⟩:=yc.row x (du wy)
  have xS:iT N (BL hk r c):=by
   unfold BL;rw[uo wy];refine yc.set wy (by simp[g7,tu]) λf ao=>?_;obtain⟨g,-,rfl⟩:=h3.1 ao;exact abF _ _
  generalize BL hk r c=hS at *;have l1:=Nq (g7 (cellOf (rowAt hk r) c) (rowAt hk r).2.2).1 r c 0 hS (g7 (cellOf (rowAt hk r) c) (rowAt hk r).2.2).2;have dp:=Tw (g7 (cellOf (rowAt hk r) c) (rowAt hk r).2.2).1 r c 0 hS (g7 (cellOf (rowAt hk r) c) (rowAt hk r).2.2).2 λx J=>(xS.row x J).2;dsimp only;generalize (iU (g7 (cellOf (rowAt hk r) c) (rowAt hk r).2.2).1 r c 0 hS (g7 (cellOf (rowAt hk r) c) (rowAt hk r).2.2).2).1=el at *;refine⟨?_,?_,λy ag=>⟨?_,dp y ag⟩⟩
  ·have:=congrArg D l1;rw[az,az] at this;rw[this,xS.len]
  ·have E:el.map (·.1)=hS.map (·.1):=by
    have:=congrArg (Nk λp:Nat×Nat×Nat=>p.1) l1
    simpa [rj,Function.comp_def] using this
   rw[E];exact xS.Nb
  ·have E:el.map (λx=>x.2.2.length)=hS.map λx=>x.2.2.length:=by
    have:=congrArg (Nk λp:Nat×Nat×Nat=>p.2.2) l1
    simpa [rj,Function.comp_def] using this
   have G:y.2.2.length∈hS.map λx=>x.2.2.length:=by rw[<-E];exact h3.2 ⟨y,ag,rfl⟩
   obtain⟨z,aQ,e⟩:=h3.1 G;rw[<-e];exact (xS.row z aQ).1
def aor {n k g N:Nat}{mem:Mem}{l:List aJ}(af:(D l)=N+1)(hm:mem k=some (g,a6 aS l)):c2 (n+1) mem (.ref k g 4 0 (N+1))=some (.ay (l.map aS)):=by
 rw[<-af];exact pG oX hm
def aos {n N:Nat}{mem:Mem}{rows:List cV}(h:∀x∈rows,mem (x.1+900000)=some (x.2.1,a6 aS x.2.2))(af:∀x∈rows,x.2.2.length=N+1):(refsOf N rows).mapM (c2 (n+1) mem)=some (rows.map λx => .ay (x.2.2.map aS)):=by
 unfold refsOf
 induction rows with
 |nil=>rfl
 |cons x xs aF =>
  have E:=aor (n:=n) (af x kV) (h x kV);have G:=aF (λy ag=>h y (td _ ag)) λy ag=>af y (td _ ag);simp only[hv,mx,E,G]
  rfl
def Tx {n N go:Nat}{mem:Mem}{rows:List cV}{bad:Bool}(dp:iT N rows)(h:x8 go N rows bad mem):c2 (n+3) mem (.ptr 129015 0 0)=some (Tv N rows bad):=by
 have E:=aos (n:=n) h.r λx J=>(dp.row x J).1
 have G:c2 (n+2) mem (.ref 129035 go 1 0 N)=some (.ay (rows.map λx=>[.ay (x.2.2.map aS)])):=by
  unfold c2;rw[h.o];simp only[if_true];unfold cut;rw[aq (by rw[EP,dp.len];omega),oF,dz (by rw[EP,dp.len];omega)];dsimp only;rw[E];have:=AT (sz:=1) (rows.map λx=>[Data.ay (x.2.2.map aS)]) (by intro e he;obtain⟨x,-,rfl⟩:=h3.1 he;rfl);rw[az,dp.len] at this;simp only[kx,bH,Data.ay.injEq]
  have oz:∀l:List cV,(l.map λx=>Data.ay (x.2.2.map aS))=(l.map λx=>[Data.ay (x.2.2.map aS)]).flatten:=by
   intro l
   induction l with
   |nil=>rfl
   |cons x xs aF=>simp only[hv,lj,aF];rfl
  rw[oz,this]
 unfold c2;rw[h.m];simp only[if_true,oF,mx,List.mapM_nil,G,true_and,eL];simp only[ajM]
 rfl
def yd.aot {N go:Nat}{rs:List ej}{m:Mem}(af:(D rs)=N)(hN:0<N)(h:yd N rs N go m):x8 go N (g9 rs) false m:=by
 have bC:(g9 rs).take N=g9 rs:=dz (by rw[BQ];omega);have aD:=h.p hN;rw[bC] at aD;exact⟨aD.1,aD.2,by have:=h.r;rw[bC] at this;exact this⟩
def x8.other {go N:Nat}{rows:List cV}{bad:Bool}{mem:Mem}{k g:Nat}{cs:List I}(h:x8 go N rows bad mem)(E:k≠129015)(G:k≠129035)(ad:k<900000):x8 go N rows bad (aV mem k g cs) :=
 ⟨(jX (Ne.symm E)).trans h.m,(jX (Ne.symm G)).trans h.o,λx J=>(jX (show (x.1+900000:Nat)≠k by omega)).trans (h.r x J)⟩
def acd {N:Nat}{rs:List ej}(af:(D rs)=N)(h:∀r∈rs,r.1.length=N/\ui r):iT N (g9 rs):=by
 refine⟨by rw[BQ,af],?_,λx J=>?_⟩
 ·have:(g9 rs).map (·.1)=je (D rs):=by
   unfold g9;rw[rj];apply tB;intro i;rw[bG,Ts];rcases fE i (D rs) with h|h
   ·rw[bB h];simp[h]
   ·rw[mO h];simp[h]
  rw[this];exact List.nodup_range
 ·unfold g9 at J;obtain⟨⟨r,i⟩,aD,rfl⟩:=h3.1 J;have M:=List.fst_mem_of_mem_zipIdx aD;obtain⟨E,G,ad⟩:=h r M;refine⟨by simp[E],λf ao=>?_⟩
  rw[hs,v3] at ao;rcases ao with ao|rfl
  ·exact G.2 f ao
  ·exact ad
abbrev Nr:(List ej)×Int×Bool->List Data:=λ(rs,n,stop)=>[.ay (rs.map kH),.int .i64 n,.bool stop]
def IN:=b1 Nr λ(rs,n,stop)=>cu ((D rs:Int)=n/\D rs<=40/\∀r∈rs,r.1.length=D rs/\ui r) (.same (Np (D rs) (lQ stop (D rs) 0 (g9 rs) [] false)))
def aou:∀a b,Nr a=Nr b->a=b:=by
  rintro⟨abp,pA,azV⟩ ⟨abq,sE,azW⟩ h;simp only[bs,Data.ay.injEq,Data.int.injEq,Data.bool.injEq] at h;exact cy (map_inj SR _ _ h.1) (cy h.2.1.2 h.2.2.1)
@[go_sem] def aov (rs n stop):=cL IN rfl aou (rs,n,stop) rfl
def aow (T:bl)(nI:T LQ=aT IL)(pW:T Rh=BH IK):WF T MO IN:=by
 refine cq λ(rs,n,stop)=>cR λZ=>⟨rfl,cr ?_⟩;simp only[MO,Nr,b8];obtain⟨aE,hN,lB⟩:=Z;subst aE;simp only[go_sem,go_sem_proc,nI,pW,az];generalize Ty:(D rs)=N at *;refine aoo T nI N rs stop hN Ty lB _ _ rfl rfl rfl rfl rfl rfl ⟨λ_=>by simp[aV],λh=>by omega,λx J=>by simp at J,λj _=>jX (show (j+900000:Nat)≠129015 by omega),jX (by omega),jX (by omega)⟩ ?_
 intro tm m go E G ct U;rcases iK N with al|hn
 ·have rJ:rs=[]:=List.eq_nil_of_length_eq_zero (by omega);have aQ:=U.z al;subst al;subst rJ;simp only[go_sem,go_sem_proc,nI,pW,E,G,ct];refine dM [1,2,8] [129015] (λ(_:Unit) tm' m'=>tm' 11=.ref 129061 (j8 (m 129061)) 1 0 0/\m' 129061=some (j8 (m 129061),[])/\tm' 12=.L (.int .i64 0)) (λ_=>0) () (by refine⟨rfl,?_,rfl⟩;simp[aV]) ?_;intro vs ms a7 aY;simp only[go_sem,go_sem_proc,nI,pW,E,G,ct,aQ] at a7 aY;subst a7 aY;rintro _ tm' m' Q hm ⟨fa,IP,gQ⟩;simp only[go_sem,go_sem_proc,nI,pW,bs] at Q hm;obtain⟨cP,e0,eH⟩:=Q;refine an ?_;repeat' (intro (aw:_=_)<;>simp only[aw,go_sem,go_sem_proc,nI,pW,cP,e0,eH,hm,fa,IP,gQ,show decide ((0:Int)<((0:Nat):Int))=false from rfl,c2,q3,oF]<;>try refine aj ?_ ?_)
  rfl
 ·have r0:=U.aot Ty hn;have dp:=acd Ty lB;have IQ:=U.a;have IS:=U.b;clear U;simp only[go_sem,go_sem_proc,nI,pW,E,G,ct]
  refine dM [1,2,8] [] (λ((c,rows,free,bad,g):Nat×List cV×List Nat×Bool×Nat) tm m=>c<=N/\D free<=c/\lQ stop N 0 (g9 rs) [] false=lQ stop (N-c) c rows free bad/\iT N rows/\x8 go N rows bad m/\m 168004=none/\m 168006=none/\tm 11=.ref 129061 g 1 0 (D free)/\m 129061=some (g,a6 kK free)/\tm 12=.L (.int .i64 c)) (λ(c,_,_,_,_)=>N-c) (0,g9 rs,[],false,j8 (m 129061)) (by
   refine⟨eL _,bM _,rfl,dp,⟨?_,?_,λx J=>?_⟩,?_,?_,rfl,?_,rfl⟩
   ·rw[jX (by omega)];exact r0.m
   ·rw[jX (by omega)];exact r0.o
   ·rw[jX (show (x.1+900000:Nat)≠129061 by omega)];exact r0.r x J
   ·rw[jX (by omega)];exact IQ
   ·rw[jX (by omega)];exact IS
   ·simp[aV,a6]) ?_
  intro vs ms a7 aY;simp only[go_sem,go_sem_proc,nI,pW,E,G,ct] at a7 aY;subst a7 aY;clear E G ct r0 IQ IS;rintro⟨c,rows,free,bad,g⟩ tm m Q hm ⟨an5,azX,jL,dp,r0,IQ,IS,fa,IP,gQ⟩;simp only[go_sem,go_sem_proc,nI,pW,bs] at Q hm;obtain⟨E,G,ct⟩:=Q;have uA:=r0.m
  have St:lQ stop N 0 (g9 rs) [] false=(rows,free,bad)->((c2 5 m (.ptr 129015 0 0)).bind λd=>(c2 5 m (.ref 129061 g 1 0 (D free))).bind λe=>some (Data.de [d,e]))=some (Np N (lQ stop N 0 (g9 rs) [] false)):=by
   intro h;rw[h,Tx (n:=2) dp r0,pG zR IP]
   rfl
  have IT:=Tx (n:=2) dp r0;have IU:=pG (n:=4) zR IP;rcases eC (c<N) with au|bO
  ·have dP:decide ((c:Int)<(N:Int))=true:=dW
   cases bad
   ·have kf:IntKind.i64.wrap ((c:Int)-(D free:Int))=((c-D free:Nat):Int):=by rw[fg _];omega
    have fI:=h4 (i:=c) (by omega);have eO:=aoe ⟨go,N,rows,c-D free,c⟩ m ⟨dp,r0,IQ,IS,hN,Nat.sub_le _ _,au⟩;dsimp only at eO;have Tz:N-c=(N-(c+1))+1:=by omega
    rw[Tz] at jL;simp only[lQ] at jL;have EG:=dp.zS (r:=c-D free) (c:=c) (by omega);simp only[go_sem,go_sem_proc,nI,pW,pW,E,G,ct,fa,gQ,uA,dP,kf,eO];intro zT m' ew;obtain⟨IV,h8⟩:=ew;dsimp only at IV h8;subst IV;have uy:m' 168004=none:=(h8.2 _ Tg).trans IQ;have EI:m' 168006=none:=(h8.2 _ Th).trans IS;have TA:m' 129061=some (g,a6 kK free):=(h8.2 129061 (by unfold Ez;omega)).trans IP;have dS:mw 129061 g 1 (D free) 8 1 [.L (.int .i64 c)] (some (g,a6 kK free))=_:=qm zR ab9 129061 g 8 free c rfl (by omega) (by omega);generalize azY:hQ rows (c-D free) c=dJ at *;obtain⟨aox,ace,acf⟩:=dJ;dsimp only at *
    cases aox
    ·simp only[df,if_false] at jL;refine an ?_;repeat' (intro (aw:_=_)<;>simp only[aw,go_sem,go_sem_proc,nI,pW,E,G,ct,fa,gQ,fI]<;>try refine aj ?_ ?_)
     exact⟨(c+1,ace,free,acf,g),by dsimp only;omega,by dsimp only;omega,by dsimp only;omega,jL,EG,h8.1,uy,EI,rfl,TA,rfl⟩
    ·simp only[if_true] at jL;have acg:=h8.1.other (k:=129061) (g:=g+1) (cs:=a6 kK (free++[c])) (by omega) (by omega) (by omega)
     cases stop
     ·simp only[df,if_false] at jL;refine an ?_;repeat' (intro (aw:_=_)<;>simp only[aw,go_sem,go_sem_proc,nI,pW,E,G,ct,fa,gQ,fI,TA,dS]<;>try refine aj ?_ ?_)
      exact⟨(c+1,ace,free++[c],acf,g+1),by dsimp only;omega,by dsimp only;omega,by simp;omega,jL,EG,acg,uy,EI,by simp,rfl,rfl⟩
     ·simp only[if_true] at jL;refine an ?_;repeat' (intro (aw:_=_)<;>simp only[aw,go_sem,go_sem_proc,nI,pW,E,G,ct,fa,gQ,fI,TA,dS]<;>try refine aj ?_ ?_)
      have ER:(D free)+1=(free++[c]).length:=by simp
      rw[Tx (n:=2) EG acg,ER,pG (n:=4) zR (g:=g+1) (l:=free++[c]) (by simp[aV]),jL]
      rfl
   ·rw[ab8] at jL;refine an ?_;repeat' (intro (aw:_=_)<;>simp only[aw,go_sem,go_sem_proc,nI,pW,E,G,ct,fa,gQ,uA,dP,IT,IU]<;>try refine aj ?_ ?_)
    rw[jL]
    rfl
  ·have dP:decide ((c:Int)<(N:Int))=false:=ef;have Tz:N-c=0:=by omega
   rw[Tz] at jL;simp only[lQ] at jL;refine an ?_;repeat' (intro (aw:_=_)<;>simp only[aw,go_sem,go_sem_proc,nI,pW,E,G,ct,fa,gQ,uA,dP,IT,IU]<;>try refine aj ?_ ?_)
   rw[jL]
   rfl
def Ns {rs:List ej}{n:Int}(aZ:BE rs)(h:n7 rs n=true):(D rs:Int)=n/\D rs<=40/\∀r∈rs,r.1.length=D rs/\ui r:=by
 unfold n7 at h;simp only[dH,na,decide_eq_false_iff_not,beq_iff_eq] at h;obtain⟨E,G,ad,aK⟩:=h;refine⟨ad,by omega,λr M=>⟨?_,aZ.2 r M⟩⟩
 rw[s6] at aK;have:=aK r M;unfold s8 at this;simp at this;omega
def TB {stop:Bool}{N:Nat}:∀(k c:Nat) (rows:List cV) (free:List Nat) (bad:Bool),c+k=N->iT N rows->iT N (lQ stop k c rows free bad).1
 |0,_,rows,_,_,_,h=>h
 |k+1,c,rows,free,true,Z,h=>h
 |k+1,c,rows,free,false,Z,h=>by
  have aD:=h.zS (r:=c-D free) (c:=c) (by omega);unfold lQ
  split
  ·split
   ·exact aD
   ·exact TB k (c+1) _ _ _ (by omega) aD
  ·exact TB k (c+1) _ _ _ (by omega) aD
def o0 (stop:Bool)(rs:List ej):List cV×List Nat×Bool:=lQ stop (D rs) 0 (g9 rs) [] false
def TC (stop:Bool):∀(k c:Nat) (rows:List cV) (free:List Nat) (bad:Bool),(lQ stop k c rows free bad).2.1.length<=D free+k
 |0,_,_,_,_=>by simp[lQ]
 |k+1,c,rows,free,true=>by simp[lQ]
 |k+1,c,rows,free,false=>by
  unfold lQ
  split
  ·split
   ·simp
   ·have:=TC stop k (c+1) (hQ rows (c-D free) c).2.1 (free++[c]) (hQ rows (c-D free) c).2.2;simp at this;omega
  ·have:=TC stop k (c+1) (hQ rows (c-D free) c).2.1 free (hQ rows (c-D free) c).2.2;omega
def aoy (stop:Bool)(rs:List ej):(o0 stop rs).2.1.length<=D rs:=by
 have:=TC stop (D rs) 0 (g9 rs) [] false;unfold o0
 simpa using this
def ach {rs:List ej}{stop:Bool}(h:∀r∈rs,r.1.length=D rs/\ui r):iT (D rs) (o0 stop rs).1:=TB _ _ _ _ _ (by omega) (acd rfl h)
def te (N:Nat)(x:cV):aJ:=x.2.2.getD N bK
def me (rs:List ej)(n:Int):List aJ×Int :=
 if n7 rs n=true then (if (o0 true rs).2.2=true then ([],6) else if (o0 true rs).2.1.length>0 then ([],17) else ((o0 true rs).1.map (te (D rs)),0)) else ([],1)
def aci {N:Nat}{x:cV}{f:aJ}(h:x.2.2[N]?=some f):te N x=f:=by
 unfold te;rw[eF,h]
 rfl
def IW:=b1 Ev λ(rs,n)=>cu (BE rs) (.same (.de [.ay ((me rs n).1.map aS),.int .i64 (me rs n).2]))
@[go_sem] def acj (rs n):=cL IW rfl abr (rs,n) rfl
def aoz (T:bl)(zU:T Q8=aT M7)(zV:T Rc=aT IN):WF T aaY IW:=by
 refine cq λ(rs,n)=>cR λZ=>⟨rfl,cr ?_⟩;simp only[aaY,Ev,b8];unfold me;rcases M:n7 rs n
 ·refine an ?_;repeat' (intro h<;>simp only[h,go_sem,go_sem_proc,zU,zV,Z,M,cl]<;>try refine aj ?_ ?_)
 ·have dp:=ach (stop:=true) (Ns Z M).2.2;have ff:IN [.ay (rs.map kH),.int .i64 n,.bool true]=some (.same (Np (D rs) (o0 true rs))):=aov rs n true (Ns Z M);have oz:=aoy true rs;obtain⟨aE,hN,-⟩:=Ns Z M;rcases dh:o0 true rs with ⟨rows,free,bad⟩;rw[dh] at oz dp ff;dsimp only at oz dp;simp only[Np,Tv] at ff
  cases bad
  ·cases free with
   |nil =>
    simp only[go_sem,go_sem_proc,zU,zV,Z,M,ff,az,show decide (((0:Nat):Int)>0)=false from rfl,cl];rw[ar (by simp)];refine dM [1,33,34] [] (λ((i,g):Nat×Nat) tm m=>i<=D rs/\tm 35=.L (.int .i64 i)/\tm 8=.ref 109045 g 4 0 i/\m 109045=some (g,a6 aS ((rows.take i).map (te (D rs))))) (λ(i,_)=>D rs-i) (0,0) (by refine⟨eL _,rfl,rfl,?_⟩;simp[aV,a6,bw,emp]) ?_;intro vs ms a7 aY;simp only[go_sem,go_sem_proc,zU,zV] at a7 aY;subst a7 aY;rintro⟨i,g⟩ tm m Q hm ⟨abT,Nn,ct,TD⟩;simp only[go_sem,go_sem_proc,zU,zV,bs] at Q hm;obtain⟨E,MA,wA⟩:=Q;have bY:=dp.len;rcases eC (i<D rs) with au|bO
    ·obtain⟨x,J⟩:∃x,rows[i]?=some x:=⟨_,bB (by omega)⟩;obtain⟨tu,km⟩:=dp.row x (du J);obtain⟨⟨⟨cz,dj⟩,⟨hR,iV⟩⟩,ux⟩:∃f,x.2.2[D rs]?=some f:=⟨_,bB (by omega)⟩;have mB:=aci ux;have rZ:((rows.take i).map (te (D rs))).length=i:=by rw[az,hf];omega
     have dS:=qm oX MT 109045 g 64 ((rows.take i).map (te (D rs))) ((cz,dj),(hR,iV)) (cs:=[.L (.int .i64 cz),.L (.ay (dj.map aH)),.L (.int .i64 hR),.L (.ay (iV.map aH))]) rfl (by omega) (by omega);rw[rZ] at dS
     have aoA:(rows.take (i+1)).map (te (D rs))=(rows.take i).map (te (D rs))++[((cz,dj),(hR,iV))]:=by
      rw[jj,J,pU];simp[mB]
     have kl:decide ((i:Int)<(D rs:Int))=true:=dW;have TE:decide ((i:Int)<(D rows:Int))=true:=dW;have hw:=h4 (i:=i) (by omega);have lx:decide (0<=n)=true:=dW;have aoB:n=((D rs:Nat):Int):=aE.symm;refine an ?_;repeat' (intro h<;>simp only[h,go_sem,go_sem_proc,zU,zV,E,MA,wA,Nn,ct,TD,J,ux,dS,kl,TE,hw,aoB,az,bG,aS]<;>try refine aj ?_ ?_)
     exact⟨(i+1,g+1),by dsimp only;omega,by dsimp only;omega,rfl,rfl,by dsimp only;rw[aoA]⟩
    ·have ga:i=D rs:=by omega
     have TE:decide ((i:Int)<(D rows:Int))=false:=ef;have dQ:rows.take i=rows:=dz (by omega);rw[dQ] at TD
     have iN:∀n,c2 (n+1) m (.ref 109045 g 4 0 i)=some (.ay ((rows.map (te (D rs))).map aS)):=λn=>by
      have:=pG (n:=n) oX TD;rw[show (rows.map (te (D rs))).length=i by rw[az];omega] at this
      exact this
     have aoC:=iN 4;refine an ?_;repeat' (intro h<;>simp only[h,go_sem,go_sem_proc,zU,zV,E,MA,wA,Nn,ct,TE,aoC]<;>try refine aj ?_ ?_)
   |cons f db =>
    have lz:decide ((((f::db).length:Nat):Int)>0)=true:=lU (by simp only[jG];omega);simp only[jG] at lz;refine an ?_;repeat' (intro h<;>simp only[h,go_sem,go_sem_proc,zU,zV,Z,M,ff,az,lz,cl]<;>try refine aj ?_ ?_)
    rw[aq (by omega)]
    rfl
  ·refine an ?_;repeat' (intro h<;>simp only[h,go_sem,go_sem_proc,zU,zV,Z,M,ff,az,cl]<;>try refine aj ?_ ?_)
def ack:bQ:=b9 30 2 [.t 4,.t 5] (Y [aO 4 (.hG (.c (.L (.int .u64 0)))),aO 5 (.hG (.c (.L (.int .u64 0))))] (.seq (.cond (.c (.L (.bool false))) (Y [F 11 0,aO 12 (.conv .u32 (.t 11)),F 13 1,aO 14 (.conv .u32 (.t 13)),bV 15 akq 12 14,F 10 15,bb 16 0 10,bb 17 1 10,F 6 16,F 7 17] (Y [F 18 6,aO 19 (.conv .u64 (.t 18)),F 20 7,aO 21 (.conv .u64 (.t 20)),F 4 19,F 5 21] .ret)) .skip) (Y [F 23 0,F 24 1,bV 25 Rm 23 24,F 22 25,bb 26 0 22,bb 27 1 22,F 8 26,F 9 27] (Y [F 28 8,F 29 9,F 4 28,F 5 29] .ret))))
def acm:bQ:=b9 51 2 [.t 4,.t 5] (Y [aO 4 (.hG (.c (.L (.int .u64 0)))),aO 5 (.hG (.c (.L (.int .u64 0))))] (Y [F 14 0,aO 15 (.bin .and (.t 14) (.c (.L (.int .u64 4294967295)))),F 6 15] (Y [F 16 0,aO 17 (.bin .shr (.t 16) (.c (.L (.int .u64 32)))),F 7 17] (Y [F 18 1,aO 19 (.bin .and (.t 18) (.c (.L (.int .u64 4294967295)))),F 8 19] (Y [F 20 1,aO 21 (.bin .shr (.t 20) (.c (.L (.int .u64 32)))),F 9 21] (Y [F 22 6,F 23 8,bE 24 .mul 22 23,F 10 24] (Y [F 25 7,F 26 8,bE 27 .mul 25 26,F 28 10,aO 29 (.bin .shr (.t 28) (.c (.L (.int .u64 32)))),bE 30 .add 27 29,F 11 30] (Y [F 31 11,aO 32 (.bin .and (.t 31) (.c (.L (.int .u64 4294967295)))),F 12 32] (Y [F 33 11,aO 34 (.bin .shr (.t 33) (.c (.L (.int .u64 32)))),F 13 34] (Y [F 35 12,F 36 6,F 37 9,bE 38 .mul 36 37,bE 39 .add 35 38,F 12 39] (Y [F 40 7,F 41 9,bE 42 .mul 40 41,F 43 13,bE 44 .add 42 43,F 45 12,aO 46 (.bin .shr (.t 45) (.c (.L (.int .u64 32)))),bE 47 .add 44 46,F 4 47] (Y [F 48 0,F 49 1,bE 50 .mul 48 49,F 5 50] .ret))))))))))))
def TF:∀y:Nat,y<41->bits .and .u64 (y:Int) 4294967295=y:=by decide
def aoD (y:Nat)(h:y<41):(y:Int).fdiv 4294967296=0:=by
 rw[SH _ (by omega)];omega
abbrev ES:Nat->List Data:=λ(y:Nat)=>[.int .u64 1,.int .u64 y]
def Nt:=b1 ES λ(y:Nat)=>cu (y<41) (.same (.de [.int .u64 0,.int .u64 y]))
def acn:∀a b,ES a=ES b->a=b:=by
  intro oO qv h;simp only[bs,Data.int.injEq] at h;omega
@[go_sem] def azZ (y):=cL Nt rfl acn y rfl
def aoE (T:bl):WF T acm Nt:=by
 refine cq λy=>cR λZ=>⟨rfl,cr ?_⟩;simp only[acm,ES,b8];have E:=TF y Z;have G:=aoD y Z;have ad:=TF 1 (by omega);have aK:=TF 0 (by omega);have bp:((1:Int)).fdiv 4294967296=0:=by decide
 have bD:((0:Int)).fdiv 4294967296=0:=by decide
 have hw:∀x:Int,0<=x/\x<18446744073709551616->IntKind.u64.wrap x=x:=λx h=>xE x h;have b5:=hw 0 (by omega);have w1:=hw y (by omega);simp only[Int.natCast_zero,Int.cast_ofNat_Int,Int.natCast_one] at ad aK;refine an ?_;repeat' (intro (aw:_=_)<;>simp only[aw,go_sem,go_sem_proc,E,G,ad,aK,bp,bD,b5,w1,show ((32:Int)<0)=False from by simp,if_false,show (2:Int)^min (Int.toNat 32) 64=4294967296 from rfl,ny,xX,Int.mul_zero,Int.add_zero,Int.zero_add]<;>try refine aj ?_ ?_)
def Nu:=b1 ES λ(y:Nat)=>cu (y<41) (.same (.de [.int .u64 0,.int .u64 y]))
@[go_sem] def az0 (y):=cL Nu rfl acn y rfl
def aoF (T:bl)(aoG:T Rm=aT Nt):WF T ack Nu:=by
 refine cq λy=>cR λZ=>⟨rfl,cr ?_⟩;simp only[ack,ES,b8];refine an ?_;repeat' (intro h<;>simp only[h,go_sem,go_sem_proc,aoG,Z]<;>try refine aj ?_ ?_)
def pX {α:Type}{A:List α}{k:Nat}(c3:(D A)=k)(n:Nat):(cK n A).flatten.length=n*k:=by
 rw[List.length_flatten,BR,c3,List.sum_replicate_nat]
def aoH {α:Type}{A:List α}{k:Nat}(c3:(D A)=k){q j:Nat}(h:q<=j):(cK j A).flatten.take (q*k)=(cK q A).flatten:=by
 obtain⟨d,rfl⟩:=aco h;rw[<-TG,TH,TI (by rw[pX c3];omega),dz (by rw[pX c3];omega)]
def aoI {α:Type}{A:List α}{k:Nat}(c3:(D A)=k){q j:Nat}(h:q<=j):(cK j A).flatten.drop (q*k)=(cK (j-q) A).flatten:=by
 obtain⟨d,rfl⟩:=aco h;rw[<-TG,TH,DA,lq (by rw[pX c3];omega),pX c3,lW,oF,jR,DC]
def BS:List I:=[.L (.int .i64 0),.nil,.L (.int .i64 0),.nil]
def ob (A:List I)(N j:Nat):List I:=(cK j A).flatten++(cK (N-j) BS).flatten
def acp {A:List I}(c3:(D A)=4){N j:Nat}(h:j<=N):(ob A N j).length=N*4:=by
 unfold ob;rw[lk,pX c3,pX (show (D BS)=4 from rfl)];omega
def acq {A:List I}(c3:(D A)=4){N j q:Nat}(h:j+q<=N):(ob A N j).take (j*4)++(cK q A).flatten++(ob A N j).drop (j*4+q*4)=ob A N (j+q):=by
 unfold ob;rw[TI (by rw[pX c3];omega),dz (by rw[pX c3];omega),DA,lq (by rw[pX c3];omega),pX c3,DC,aoI (show (D BS)=4 from rfl) (by omega),jR,<-TG (n:=j),TH,Nat.sub_sub]
def aoJ {A:List I}(c3:(D A)=4){N j:Nat}:(ob A N j).take (j*4)=(cK j A).flatten:=by
 unfold ob;rw[TI (by rw[pX c3];omega),dz (by rw[pX c3];omega)]
def acr {A:List I}(h:A.all I.one=true)(q:Nat):(cK q A).flatten.all I.one=true:=by
 induction q with
 |zero=>rfl
 |succ n aF=>rw[pw,lj,List.all_append,h,aF];rfl
def aoK (f:aJ)(N:Nat):ob ((aS f).map .L) N N=a6 aS (cK N f):=by
 unfold ob a6;rw[lW,BR];simp only[List.replicate_zero,List.flatten_nil,nZ]
 induction N with
 |zero=>rfl
 |succ n aF=>rw[pw,lj,pw,lj,pU,aF]
def aoL {A:List I}(c3:(D A)=4)(E:A.all I.one=true)(N:Nat):yH 131030 0 4 0 N 1 A (some (0,(cK N BS).flatten))=some (.L (.int .i64 ((min 1 N:Nat):Int)),some (131030,0,ob A N (min 1 N))):=by
 unfold yH;dsimp only;rw[aq ⟨rfl,by rw[pX (show (D BS)=4 from rfl)];omega,E⟩]
 have al:(cK N BS).flatten=ob A N 0:=by simp[ob]
 have bC:A.take (min 1 N*4)=(cK (min 1 N) A).flatten:=by
  rcases iK N with h|h
  ·subst h;simp
  ·rw[show min 1 N=1 by omega];simp[dz (Nat.le_of_eq c3)]
 have:=acq c3 (N:=N) (j:=0) (q:=min 1 N) (by omega);rw[al,bC];unfold jJ;rw[pX c3];simp only[Nat.zero_mul,Nat.zero_add] at this ⊢;rw[this]
def aoM {A:List I}(c3:(D A)=4)(E:A.all I.one=true){N j:Nat}(h:j<N):yH 131030 0 4 (j*4) (N-j) j (cK j A).flatten (some (0,ob A N j))=some (.L (.int .i64 ((min j (N-j):Nat):Int)),some (131030,0,ob A N (j+min j (N-j)))):=by
 unfold yH;dsimp only;rw[aq ⟨rfl,by rw[acp c3 (by omega)];omega,acr E j⟩]
 rw[aoH c3 (show min j (N-j)<=j by omega)];have:=acq c3 (N:=N) (j:=j) (q:=min j (N-j)) (by omega);unfold jJ;rw[pX c3,this]
abbrev Nv:Int×(List Int)×Int×(List Int)×Nat->List Data:=λ(s,l,s2,ab,N)=>[.ay [[.int .i64 s,.ay (l.map aH),.int .i64 s2,.ay (ab.map aH)]],.int .i64 N]
def IX:=b1 Nv λ(s,l,s2,ab,N)=>cu (N<41) (.own 4 (cK N (aS ((s,l),(s2,ab)))))
def aoN:∀a b,Nv a=Nv b->a=b:=by
  rintro⟨s1,ig,rM,qz,az1⟩ ⟨s2,ab,rN,qA,az2⟩ h;simp only[bs,Data.int.injEq,Data.ay.injEq] at h;exact cy h.1.1.1.2 (cy (map_inj fi _ _ h.1.1.2.1) (cy h.1.1.2.2.1.2 (cy (map_inj fi _ _ h.1.1.2.2.2.1) (by have:=h.2.1.2;dsimp only;omega))))
@[go_sem] def acs (s l s2 ab N):=cL IX rfl aoN (s,l,s2,ab,N) rfl
def aoO (T:bl)(BT:T Ri=aT Nu):WF T Zb IX:=by
 refine cq λ(s,l,s2,ab,N)=>cR λZ=>⟨rfl,cr ?_⟩;simp only[Zb,Nv,b8];have al:decide ((N:Int)<0)=false:=ef;have hw:IntKind.u64.wrap (N:Int)=N:=xE _ ⟨by omega,by omega⟩
 have XM:IntKind.i64.wrap (N:Int)=N:=wrap64 _ (by omega) (by omega);have kf:IntKind.u64.wrap ((1:Nat):Int)=1:=by decide
 have aC:decide ((N:Int)>9223372036854775807)=false:=ef;have IY:(64*N<=140737488355328)=True:=eq_true (by omega);have IZ:(N<=maxLen)=True:=eq_true (by unfold maxLen;omega);have c3:((aS ((s,l),(s2,ab))).map I.L).length=4:=rfl;have ye:((aS ((s,l),(s2,ab))).map I.L).all I.one=true:=rfl;have yS:=aoL c3 ye N;have Dh:=λj (h:j<N)=>aoM c3 ye h;have I0:(aS ((s,l),(s2,ab))).map I.L=[.L (.int .i64 s),.L (.ay (l.map aH)),.L (.int .i64 s2),.L (.ay (ab.map aH))]:=rfl;simp only[BS] at yS;rw[I0] at yS;simp only[go_sem,go_sem_proc,BT] at yS;simp only[go_sem,go_sem_proc,BT,al,hw,XM,kf,Z,aC,IY,IZ,show decide ((0:Int)>0)=false from rfl,yS];rw[I0] at c3 ye;have kX:=aoK ((s,l),(s2,ab)) N;rw[I0] at kX;simp only[I0] at Dh;clear I0 yS;generalize [I.L (.int .i64 s),.L (.ay (l.map aH)),.L (.int .i64 s2),.L (.ay (ab.map aH))]=A at *;refine dM [7] [] (λ(j:Nat) tm m=>j<=N/\(0<N->0<j)/\tm 8=.L (.int .i64 j)/\m 131030=some (0,ob A N j)) (λj=>N-j) (min 1 N) (by refine⟨by omega,by omega,rfl,?_⟩;simp[aV]) ?_;intro vs ms a7 aY;simp only[go_sem,go_sem_proc,BT] at a7 aY;subst a7 aY;rintro j tm m Q hm ⟨acu,TJ,ct,TK⟩;simp only[go_sem,go_sem_proc,BT,bs] at Q hm;have bL:=Q;rcases eC (j<N) with au|bO
 ·have iv:decide ((j:Int)<(N:Int))=true:=dW;have aE:=Dh j au;have oA:=aoJ c3 (N:=N) (j:=j);have hlen:(j*4<=(ob A N j).length)=True:=eq_true (by rw[acp c3 acu];omega);have aoP:(j<=N)=True:=eq_true acu;have dQ:=acr ye j;simp only[go_sem,go_sem_proc,BT,dQ,ye,oA] at aE;have fI:IntKind.i64.wrap ((j:Int)+((min j (N-j):Nat):Int))=((j+min j (N-j):Nat):Int):=by rw[fg _];omega
  refine an ?_;repeat' (intro (aw:_=_)<;>simp only[aw,go_sem,go_sem_proc,BT,bL,ct,TK,iv,oA,hlen,aoP,dQ,aE,fI,bM,Nat.sub_zero,eL]<;>try refine aj ?_ ?_)
  exact⟨j+min j (N-j),by have:=TJ (by omega);omega,by omega,by omega,rfl,rfl⟩
 ·have iv:decide ((j:Int)<(N:Int))=false:=ef;obtain rfl:j=N:=by omega
  rw[kX] at TK;have Ei:=mA oX (cK j ((s,l),(s2,ab)));rw[nJ] at Ei;refine an ?_;repeat' (intro (aw:_=_)<;>simp only[aw,go_sem,go_sem_proc,BT,bL,ct,TK,iv,ql,Ei]<;>try refine aj ?_ ?_)
  rw[aq (bM _),dz (by omega)];unfold a6;rw[AS _ λd=>rfl];have:=AT (sz:=4) ((cK j ((s,l),(s2,ab))).map aS) (by intro e he;obtain⟨f,-,rfl⟩:=h3.1 he;rfl);rw[az,nJ] at this;rw[kx,this,BR]
def Nw:aJ:=((0,[]),(1,[1]))
def TL:aJ:=((1,[1]),(1,[1]))
def acv:bW 0=Nw:=by
 unfold bW bu Nw;simp[A0,qt]
def aoQ:bW 1=TL:=by
 unfold bW bu TL;simp[A0]
def I1 (rows:List cV)(f N i:Nat):List aJ:=(je N).map λk=>if k<i then (nF Nw (cellOf (rowAt rows k) f)).1 else if k=f then TL else Nw
def aoR (rows:List cV)(f N i:Nat):(I1 rows f N i).length=N:=by simp[I1]
def TM (rs:List ej)(n:Int):List aJ×Bool :=
 if n7 rs n=true then (if ((o0 true rs).2.2||(o0 true rs).2.1.length==0)=true then ([],false) else (I1 (o0 true rs).1 ((o0 true rs).2.1.headD 0) (D rs) ((o0 true rs).2.1.headD 0),true)) else ([],false)

abbrev b0:=Int×Int×aJ
def hl (l:b0):List Data:=.int .i64 l.1 :: .int .i64 l.2.1::aS l.2.2
def yf:∀a b:b0,hl a=hl b->a=b:=by
 rintro⟨a,b,w⟩ ⟨c,d,v⟩ h;simp only[hl,bs,Data.int.injEq,true_and] at h;obtain⟨rfl,rfl,h⟩:=h;rw[m8 _ _ h]
def uB (l:List b0):Prop:=D l<=1000000/\∀x∈l,okF x.2.2
def uC (n:Int)(l:b0):Bool:=decide (l.1<0)||(decide (l.1>=n)||(decide (l.2.1<0)||(decide (l.2.1>=n) || !fP l.2.2)))
abbrev Nx:Int×Int×Int×(List Int)×Int×(List Int)×Int->List Data:=λ(a,b,s,l,s2,ab,n)=>[.agg [.int .i64 a,.int .i64 b,.int .i64 s,.ay (l.map aH),.int .i64 s2,.ay (ab.map aH)],.ptr [.int .i64 n]]
def Ny:=b1 Nx λ(a,b,s,l,s2,ab,n)=>cu (D l<=1000000/\D ab<=1000000) (.same (.bool (uC n (a,b,((s,l),(s2,ab))))))
def aoS:∀a b,Nx a=Nx b->a=b:=by
  rintro⟨cz,cQ,s1,ig,rM,qz,pA⟩ ⟨dj,dO,s2,ab,rN,qA,sE⟩ h;simp only[bs,Data.agg.injEq,Data.int.injEq,Data.ay.injEq,Data.ptr.injEq] at h;exact cy h.1.1.2 (cy h.1.2.1.2 (cy h.1.2.2.1.2 (cy (map_inj fi _ _ h.1.2.2.2.1) (cy h.1.2.2.2.2.1.2 (cy (map_inj fi _ _ h.1.2.2.2.2.2.1) h.2.1.1.2)))))
@[go_sem] def az3 (a b s l s2 ab n):=cL Ny rfl aoS (a,b,s,l,s2,ab,n) rfl
def aoT (T:bl)(wo:T Bb=aT Er):WF T abe Ny:=by
 refine cq λ(a,b,s,l,s2,ab,n)=>cR λZ=>⟨rfl,cr ?_⟩;simp only[abe,Nx,b8];obtain⟨br,bq⟩:=Z;unfold uC;rcases E:decide (a<0)
 ·rcases G:decide (a>=n)
  ·rcases ad:decide (b<0)
   ·rcases aK:decide (b>=n)
    ·refine an ?_;repeat' (intro h<;>simp only[h,go_sem,go_sem_proc,wo,br,bq,E,G,ad,aK]<;>try refine aj ?_ ?_)
    ·refine an ?_;repeat' (intro h<;>simp only[h,go_sem,go_sem_proc,wo,br,bq,E,G,ad,aK]<;>try refine aj ?_ ?_)
   ·refine an ?_;repeat' (intro h<;>simp only[h,go_sem,go_sem_proc,wo,br,bq,E,G,ad]<;>try refine aj ?_ ?_)
  ·refine an ?_;repeat' (intro h<;>simp only[h,go_sem,go_sem_proc,wo,br,bq,E,G]<;>try refine aj ?_ ?_)
 ·refine an ?_;repeat' (intro h<;>simp only[h,go_sem,go_sem_proc,wo,br,bq,E]<;>try refine aj ?_ ?_)
abbrev ET:(List b0)×Int->List Data:=λ(ls,n)=>[.ay (ls.map hl),.fn LY [.ptr [.int .i64 n]]]
def Nz:=b1 ET λ(ls,n)=>cu (uB ls) (.same (.int .i64 (wq (uC n) ls)))
def acw:∀a b,ET a=ET b->a=b:=by
  rintro⟨BU,pA⟩ ⟨BV,sE⟩ h;simp only[bs,Data.ay.injEq,Data.fn.injEq,Data.ptr.injEq,Data.int.injEq] at h;exact cy (map_inj yf _ _ h.1) h.2.1.2.1.1.2
@[go_sem] def az4 (ls n):=cL Nz rfl acw (ls,n) rfl
def aoU (T:bl)(EU:T LY=aT Ny):WF T Zg Nz:=by
 refine cq λ(ls,n)=>cR λZ=>⟨rfl,cr ?_⟩;simp only[Zg,ET,b8];obtain⟨af,dp⟩:=Z;simp only[go_sem,go_sem_proc,EU,az];refine dM [0,1,7] [] (λ(i:Nat) tm mem=>i<=D ls/\(∀x∈ls.take i,uC n x=false)/\tm 8=.L (.int .i64 i)) (λi=>D ls-i) 0 (by refine⟨eL _,?_,rfl⟩;simp) ?_;intro vs ms a7 aY;simp only[go_sem,go_sem_proc,EU,az] at a7 aY;subst a7 aY;rintro i tm mem Q hm ⟨O,dQ,ct⟩;simp only[go_sem,go_sem_proc,EU,bs] at Q hm;obtain⟨al,E,bL⟩:=Q;rcases eC (i<D ls) with au|bO
 ·have J:=bB au;obtain⟨gn,g5⟩:=dp _ (kT au);have gO:=λh=>SV (p:=uC n) dQ J h;have nr:=λh=>S0 (p:=uC n) dQ J h;generalize ls[i]=x at *;have mI:decide ((i:Int)<(D ls:Int))=true:=dW;have hw:=h4 (i:=i) (by omega);obtain⟨a,b,⟨e9,fy⟩,⟨g6,iR⟩⟩:=x;dsimp only at gn g5;rcases U:uC n (a,b,((e9,fy),(g6,iR)))
  ·refine an ?_;repeat' (intro (aw:_=_)<;>simp only[aw,go_sem,go_sem_proc,EU,al,E,bL,ct,J,mI,hw,gn,g5,U,az,bG,hl,aS]<;>try refine aj ?_ ?_)
   exact⟨i+1,by omega,by omega,nr U,rfl⟩
  ·rw[gO U];refine an ?_;repeat' (intro (aw:_=_)<;>simp only[aw,go_sem,go_sem_proc,EU,al,E,bL,ct,J,mI,hw,gn,g5,U,az,bG,hl,aS]<;>try refine aj ?_ ?_)
 ·have mI:decide ((i:Int)<(D ls:Int))=false:=ef;have kl:i=D ls:=by omega
  subst kl;rw[sW] at dQ;rw[SW dQ];refine an ?_;repeat' (intro (aw:_=_)<;>simp only[aw,go_sem,go_sem_proc,EU,al,E,bL,ct,mI,az]<;>try refine aj ?_ ?_)
def NA:=b1 ET λ(ls,n)=>cu (uB ls) (.same (.bool (ls.any (uC n))))
@[go_sem] def az5 (ls n):=cL NA rfl acw (ls,n) rfl
def aoV (T:bl)(aoW:T RF=aT Nz):WF T Zf NA:=by
 refine cq λ(ls,n)=>cR λZ=>⟨rfl,cr ?_⟩;simp only[Zf,ET,b8];rw[<-SX];refine an ?_;repeat' (intro h<;>simp only[h,go_sem,go_sem_proc,aoW,Z]<;>try refine aj ?_ ?_)
def uD (ls:List b0)(n:Int):Bool:=!(decide (n<0))&&(!(decide (n>40))&&(!(decide ((D ls:Int)>400)) && !(ls.any (uC n))))
abbrev EV:(List b0)×Int->List Data:=λ(ls,n)=>[.ay (ls.map hl),.int .i64 n]
def EW:=b1 EV λ(ls,n)=>cu (uB ls) (.same (.bool (uD ls n)))
def acx:∀a b,EV a=EV b->a=b:=by
  rintro⟨BU,pA⟩ ⟨BV,sE⟩ h;simp only[bs,Data.ay.injEq,Data.int.injEq] at h;exact cy (map_inj yf _ _ h.1) h.2.1.2
@[go_sem] def az6 (ls n):=cL EW rfl acx (ls,n) rfl
def aoX (T:bl)(NB:T RE=aT NA):WF T abd EW:=by
 refine cq λ(ls,n)=>cR λZ=>⟨rfl,cr ?_⟩;simp only[abd,EV,b8];unfold uD;rcases E:decide (n<0)
 ·rcases G:decide (n>40)
  ·rcases ad:decide ((D ls:Int)>400)
   ·refine an ?_;repeat' (intro h<;>simp only[h,go_sem,go_sem_proc,NB,Z,E,G,ad,az,c2,w4,s9,scalar]<;>try refine aj ?_ ?_)
   ·refine an ?_;repeat' (intro h<;>simp only[h,go_sem,go_sem_proc,NB,Z,E,G,ad,az]<;>try refine aj ?_ ?_)
  ·refine an ?_;repeat' (intro h<;>simp only[h,go_sem,go_sem_proc,NB,Z,E,G,az]<;>try refine aj ?_ ?_)
 ·refine an ?_;repeat' (intro h<;>simp only[h,go_sem,go_sem_proc,NB,Z,E,az]<;>try refine aj ?_ ?_)
def qI (cap base:List aJ)(ls:List b0):Bool:=((D cap:Int)==(D base:Int))&&(uD ls (D cap)&&(!(cap.any λf => !fP f) && !(base.any λf => !fP f)))
def yg (cap base:List aJ)(ls:List b0):Prop:=iE cap/\iE base/\uB ls
abbrev zW:(List aJ)×(List aJ)×(List b0)->List Data:=λ(cap,base,ls)=>[.agg [.ay (cap.map aS),.ay (base.map aS),.ay (ls.map hl)]]
def NC:=b1 zW λ(cap,base,ls)=>cu (yg cap base ls) (.same (.bool (qI cap base ls)))
def TN:∀a b,zW a=zW b->a=b:=by
  rintro⟨aoY,aoZ,BU⟩ ⟨ao0,ao1,BV⟩ h;simp only[bs,Data.agg.injEq,Data.ay.injEq] at h;exact cy (map_inj m8 _ _ h.1.1) (cy (map_inj m8 _ _ h.1.2.1) (map_inj yf _ _ h.1.2.2.1))
@[go_sem] def az7 (cap base ls):=cL NC rfl TN (cap,base,ls) rfl
def ao2 (T:bl)(kn:T Bc=aT EW)(iS:T vI=aT s7):WF T abb NC:=by
 refine cq λ(cap,base,ls)=>cR λZ=>⟨rfl,cr ?_⟩;simp only[abb,zW,b8];obtain⟨E,G,ad⟩:=Z;unfold qI;rcases aL:((D cap:Int)==(D base:Int))
 ·refine an ?_;repeat' (intro h<;>simp only[h,go_sem,go_sem_proc,kn,iS,E,G,ad,aL,az]<;>try refine aj ?_ ?_)
 ·rcases ax:uD ls (D cap)
  ·refine an ?_;repeat' (intro h<;>simp only[h,go_sem,go_sem_proc,kn,iS,E,G,ad,aL,ax,az]<;>try refine aj ?_ ?_)
  ·rcases eo:cap.any λf => !fP f
   ·refine an ?_;repeat' (intro h<;>simp only[h,go_sem,go_sem_proc,kn,iS,E,G,ad,aL,ax,eo,az]<;>try refine aj ?_ ?_)
   ·refine an ?_;repeat' (intro h<;>simp only[h,go_sem,go_sem_proc,kn,iS,E,G,ad,aL,ax,eo,az]<;>try refine aj ?_ ?_)
def ao3 {n:Int}(h:er n):hB (bu n) (bu 1)=(bW (n:Rat),0):=by
 rw[zz (x0 h) (by decide +kernel) (by decide),Rat.divInt_eq_div,show ((1:Int):Rat)=1 from rfl,show (n:Rat)/1=n by grind]
def EX:=b1 vN λ(n:Int)=>cu (er n) (.same (.agg (aS (bW (n:Rat)))))
@[go_sem] def I2 (n):=cL EX rfl Mb n rfl
def ao4 (T:bl)(ao5:T Hr=aT El):WF T abf EX:=by
 refine cq λn=>cR λZ=>⟨rfl,cr ?_⟩;simp only[abf,vN,b8];have E:er 1:=by unfold er;omega
 have h:=ao3 Z;generalize bW (n:Rat)=bR at *;obtain⟨⟨a,b⟩,⟨c,d⟩⟩:=bR;refine an ?_;repeat' (intro (aw:_=_)<;>simp only[aw,go_sem,go_sem_proc,ao5,Z,E,h,dx,aS]<;>try refine aj ?_ ?_)
def ao6 {x:List Data}(h:Fits [.int .i64,.int .i64,.st [.st [.int .i64,.ay (.int .i64)],.st [.int .i64,.ay (.int .i64)]]] x):∃r:b0,x=hl r:=by
 unfold Fits at h;obtain⟨a,b,rfl,E,G⟩:=h;unfold Fit at E;obtain⟨f,rfl,-⟩:=E;unfold Fits at G;obtain⟨a,b,rfl,ad,aK⟩:=G;unfold Fit at ad;obtain⟨t,rfl,-⟩:=ad;unfold Fits at aK;obtain⟨c,d,rfl,bp,bD⟩:=aK;unfold Fit at bp;obtain⟨w,rfl⟩:=S1 bp;unfold Fits at bD;subst bD;exact⟨(f,t,w),by simp[hl]⟩
def ao7 {es:List (List Data)}(h:∀x∈es,Fit (.st [.int .i64,.int .i64,.st [.st [.int .i64,.ay (.int .i64)],.st [.int .i64,.ay (.int .i64)]]]) x):∃l:List b0,es=l.map hl:=by
 obtain⟨l,e,-⟩:=LL (e:=hl) (good:=λ_=>True) λx J=>by
  have:=h x J;unfold Fit at this;obtain⟨r,rfl⟩:=ao6 this;exact⟨r,rfl,trivial⟩
 exact⟨l,e⟩
def ao8 {x:List Data}(h:Fits [.ay (.st [.st [.int .i64,.ay (.int .i64)],.st [.int .i64,.ay (.int .i64)]]),.ay (.st [.st [.int .i64,.ay (.int .i64)],.st [.int .i64,.ay (.int .i64)]]),.ay (.st [.int .i64,.int .i64,.st [.st [.int .i64,.ay (.int .i64)],.st [.int .i64,.ay (.int .i64)]]])] x):∃(cap base:List aJ) (ls:List b0),x=[.ay (cap.map aS),.ay (base.map aS),.ay (ls.map hl)]:=by
 unfold Fits at h;obtain⟨a,b,rfl,E,G⟩:=h;unfold Fit at E;obtain⟨es,rfl,-,E⟩:=E;obtain⟨cap,rfl⟩:=abv E;unfold Fits at G;obtain⟨a,b,rfl,ad,aK⟩:=G;unfold Fit at ad;obtain⟨es,rfl,-,ad⟩:=ad;obtain⟨base,rfl⟩:=abv ad;unfold Fits at aK;obtain⟨c,d,rfl,bp,bD⟩:=aK;unfold Fit at bp;obtain⟨es,rfl,-,bp⟩:=bp;obtain⟨ls,rfl⟩:=ao7 bp;unfold Fits at bD;subst bD;exact⟨cap,base,ls,rfl⟩
end Go.Mini
namespace Go.Mini
open Go
inductive dy (α:Type) where
 |e
 |n (l:dy α) (v:Option α) (r:dy α)
variable {α:Type}
def dy.get (t:dy α):Nat->Option α :=
 dy.rec (motive:=λ_=>Nat->Option α) (λ_=>none) (λ_ v _ uE TO k=>fJ (fJ (TO ((k-2)/2)) (uE ((k-1)/2)) (gB (k%2) 1)) v (gB k 0)) t
def dy.set (v:Option α)(fuel:Nat):Nat->dy α->dy α :=
 Nat.rec (motive:=λ_=>Nat->dy α->dy α) (λ_ t=>t) (λ_ aF k t=>dy.rec (motive:=λ_=>dy α)
  (fJ (fJ (.n .e none (aF ((k-2)/2) .e)) (.n (aF ((k-1)/2) .e) none .e) (gB (k%2) 1)) (.n .e v .e) (gB k 0))
  (λl w r _ _=>fJ (fJ (.n l w (aF ((k-2)/2) r)) (.n (aF ((k-1)/2) l) w r) (gB (k%2) 1)) (.n l v r) (gB k 0)) t) fuel
def dy.ao9 (k:Nat):(dy.e:dy α).get k=none:=rfl
def dy.wB (l:dy α)(v:Option α)(r:dy α)(k:Nat):(dy.n l v r).get k=if k=0 then v else if k%2=1 then l.get ((k-1)/2) else r.get ((k-2)/2):=by
 show (fJ (fJ (r.get ((k-2)/2)) (l.get ((k-1)/2)) (gB (k%2) 1)) v (gB k 0):Option α)=_
 by_cases h:k=0
 ·subst h;rfl
 ·have E:gB k 0=false:=by cases k with|zero=>exact absurd rfl h|succ k=>rfl
  rw[E,ar h]
  by_cases G:k%2=1
  ·rw[G,aq rfl];rfl
  ·have ad:k%2=0:=by omega
   rw[ad,ar (by omega)];rfl
def dy.apa (v:Option α)(n k:Nat)(t:dy α):dy.set v (n+1) k t=(match t with
  |.e=>if k=0 then .n .e v .e else if k%2=1 then .n (dy.set v n ((k-1)/2) .e) none .e else .n .e none (dy.set v n ((k-2)/2) .e)
  |.n l w r=>if k=0 then .n l v r else if k%2=1 then .n (dy.set v n ((k-1)/2) l) w r else .n l w (dy.set v n ((k-2)/2) r)):=by
 have U:∀{β:Type} (a b c:β),(fJ (fJ a b (gB (k%2) 1)) c (gB k 0):β)=if k=0 then c else if k%2=1 then b else a:=by
  intro β a b c
  by_cases h:k=0
  ·subst h;rfl
  ·have E:gB k 0=false:=by cases k with|zero=>exact absurd rfl h|succ k=>rfl
   rw[E,ar h]
   by_cases G:k%2=1
   ·rw[G,aq rfl];rfl
   ·have ad:k%2=0:=by omega
    rw[ad,ar (by omega)];rfl
 cases t with
 |e=>exact U _ _ _
 |n l w r=>exact U _ _ _
def dy.EY (v:Option α):∀(fuel k:Nat) (t:dy α) (j:Nat),k+1<2^fuel->(dy.set v fuel k t).get j=if j=k then v else t.get j
 |0,k,t,j,h=>by simp at h
 |m+1,k,t,j,h=>by
  have aD:2^(m+1)=2*2^m:=by rw[Nat.pow_succ];omega
  rw[dy.apa]
  cases t with
  |e =>
   simp only
   split
   ·rename_i Q;subst Q;rw[dy.wB]
    split
    ·rfl
    ·split<;>simp[dy.ao9]
   ·rename_i Q
    split
    ·rename_i E;rw[dy.wB,dy.EY v m _ _ _ (by omega)]
     by_cases aa:j=0
     ·rw[aq aa,ar (by omega)];rfl
     ·rw[ar aa]
      by_cases oa:j%2=1
      ·rw[aq oa]
       by_cases bN:j=k
       ·rw[aq (by omega),aq bN]
       ·rw[ar (by omega),ar bN];rfl
      ·rw[ar oa,ar (by omega)];rfl
    ·rename_i E;rw[dy.wB,dy.EY v m _ _ _ (by omega)]
     by_cases aa:j=0
     ·rw[aq aa,ar (by omega)];rfl
     ·rw[ar aa]
      by_cases oa:j%2=1
      ·rw[aq oa,ar (by omega)];rfl
      ·rw[ar oa]
       by_cases bN:j=k
       ·rw[aq (by omega),aq bN]
       ·rw[ar (by omega),ar bN];rfl
  |n l w r =>
   simp only
   split
   ·rename_i Q;subst Q;rw[dy.wB,dy.wB]
    split<;>simp_all
   ·rename_i Q
    split
    ·rename_i E;rw[dy.wB,dy.wB,dy.EY v m _ _ _ (by omega)]
     by_cases aa:j=0
     ·rw[aq aa,ar (by omega),aq aa]
     ·rw[ar aa,ar aa]
      by_cases oa:j%2=1
      ·rw[aq oa,aq oa]
       by_cases bN:j=k
       ·rw[aq (by omega),aq bN]
       ·rw[ar (by omega),ar bN]
      ·rw[ar oa,ar (by omega),ar oa]
    ·rename_i E;rw[dy.wB,dy.wB,dy.EY v m _ _ _ (by omega)]
     by_cases aa:j=0
     ·rw[aq aa,ar (by omega),aq aa]
     ·rw[ar aa,ar aa]
      by_cases oa:j%2=1
      ·rw[aq oa,ar (by omega),aq oa]
      ·rw[ar oa,ar oa]
       by_cases bN:j=k
       ·rw[aq (by omega),aq bN]
       ·rw[ar (by omega),ar bN]
abbrev eY:=dy I
abbrev ez:=dy (Nat×List I)
def cF (t:eY):Nat->I:=λk=>ko I.no (λv=>v) (t.get k)
def b3 (m:ez):Mem:=λk=>m.get k
def wC (k:Nat)(v:I)(t:eY):eY:=dy.set (some v) 20 k t
def ND (k:Nat)(g:Nat)(cs:List I)(m:ez):ez:=dy.set (some (g,cs)) 40 k m
def TP {k:Nat}(h:k<1000000)(v:I)(t:eY):cF (wC k v t)=eM (cF t) k v:=by
 funext j
 unfold cF wC;rw[dy.EY _ _ _ _ _ (by omega)];simp only[eM]
 split<;>rfl
def acy {k:Nat}(h:k<1000000000000)(g:Nat)(cs:List I)(m:ez):b3 (ND k g cs m)=aV (b3 m) k g cs:=by
 funext j
 unfold b3 ND;rw[dy.EY _ _ _ _ _ (by omega)]
 rfl
end Go.Mini
namespace Go.Mini
open Go
def e3 (kb:Nat):fe->fe
 |.alloc k z => .alloc (kb+k) z
 |.box k x => .box (kb+k) x
 |.eg k o z sz len cH => .eg (kb+k) o z sz len cH
 |.ll k z b x y => .ll (kb+k) z b x y
 |.app k z b s x => .app (kb+k) z b s x
 |.ln k sz f l => .ln (kb+k) sz f l
 |.vc k => .vc (kb+k)
 |op=>op
variable {P:Program} {own:List Nat} {dst:Option Nat} {ty:TypeId}
def apb (kb:Nat){GP:BinOp}{t:TypeId}{x y:Operand}{m:fe}(h:sx P GP t x y=some m):e3 kb m=m:=by
 unfold sx sw at h
 (repeat' split at h)<;>simp_all [cO]
 all_goals first
  |(obtain⟨_,_,rfl⟩:=h;rfl)
  |(subst h;rfl)
def apc (kb:Nat){c:Call}:q6 P kb own dst ty c=(q6 P 0 own dst ty c).map (e3 kb):=by
 unfold q6
 (repeat' split)<;>simp[NF,Function.comp_def,acz,e3,apply_ite (acA (e3 kb))]
def apd (kb:Nat){op:Op}:gj P kb own dst ty op=(gj P 0 own dst ty op).map (e3 kb):=by
 cases op
 case binOp GP t x y z =>
  simp only[gj]
  cases h:sx P GP t x y with
  |none=>rfl
  |some m=>simp[apb kb h]
 case call c=>exact apc kb
 case makeFunc fn a b =>
  cases fn<;>simp only[gj]<;>try rfl
  split<;>simp[NF,Function.comp_def,e3]
 case makeMap t r =>
  cases r<;>simp only[gj]<;>try rfl
  (repeat' split)<;>simp[NF,Function.comp_def,e3]
 all_goals
  simp only[gj]
  try rfl
  try ((repeat' split)<;>simp[NF,Function.comp_def,acz,e3,apply_ite (acA (e3 kb))])
end Go.Mini
namespace Go.Mini
open Go
inductive X where
 |k6
 |oc (i:Nat)
 |ret
 |gC (v:I)
inductive ca where
 |no
 |ok (x:X) (t:eY) (m:ez) (c:Nat) (d:Option I)
inductive W (α:Type) where
 |mk (f:α)
def W.ap {α:Type}(w:W α):α:=W.rec (motive:=λ_=>α) (λf=>f) w
def nK {α:Type}(f:α):W.ap (.mk f)=f:=rfl
inductive iF where
 |no
 |ok (v:I) (m:ez) (c:Nat)
 |gC (v:I) (m:ez) (c:Nat)
abbrev iX:=FuncId->List I->ez->Nat->iF
abbrev yh:=eY->ez->Nat->Option I->ca
abbrev EZ:=iX->Nat->eY->ez->Nat->Option I->yh->ca
def iY:bm->W (eY->I)
 |.t k => .mk λt=>ko I.no (λv=>v) (t.get k)
 |.c m => .mk λ_=>m
def nL (x:bm)(t:eY):W.ap (iY x) t=aI (cF t) x:=by cases x<;>rfl
def ape (l:List bm)(t:eY):(l.map λx=>W.ap (iY x) t)=l.map (aI (cF t)):=List.map_congr_left λx _=>nL x t
def hT (d:Option Nat)(t:eY)(v:I):eY:=ko t (λk=>wC k v t) d
def zX {d:Option Nat}{n:Nat}(aE:n<=1000000)(h:d.all (λd=>decide (d<n))=true)(t:eY)(v:I):cF (hT d t v)=put (cF t) d v:=by
 cases d with
 |none=>rfl
 |some k =>
  simp only[Option.all_some,decide_eq_true_eq] at h;exact TP (by omega) v t
def BW (d:Option Nat)(m:Option I)(t:eY)(K:eY->ca):ca:=ko ca.no (λv=>K (hT d t v)) m
def BX (dst:Option Nat)(run:iX)(f:FuncId)(l:List I)(t:eY)(m:ez)(c:Nat)(d:Option I)(K:yh):ca :=
 iF.rec ca.no (λv m c=>K (hT dst t v) m c d) (λv m c=>ca.ok (.gC v) t m c d) (run f l m c)
def I3 (dst:Option Nat)(op:fe)(kb:Nat)(t:eY)(m:ez)(K:eY->ez->ca):ca :=
 match bx (b3 m) (cF t) (e3 kb op) with
 |some (v,none)=>K (hT dst t v) m
 |some (v,some x)=>fJ ca.no (K (hT dst t v) (ND x.1 x.2.1 x.2.2 m)) (zY x.1 1000000000000)
 |none=>ca.no
def qJ (dst:Option Nat)(op:fe):W EZ :=
 match op with
 |.hG x => .mk λ_ _ t m c d K=>K (hT dst t (W.ap (iY x) t)) m c d
 |.bin op x y => .mk λ_ _ t m c d K=>BW dst (CU op (W.ap (iY x) t) (W.ap (iY y) t)) t λt=>K t m c d
 |.beq n x y => .mk λ_ _ t m c d K=>BW dst (CV n (W.ap (iY x) t) (W.ap (iY y) t)) t λt=>K t m c d
 |.load n bF x => .mk λ_ _ t m c d K=>BW dst (ib (b3 m) n bF (W.ap (iY x) t)) t λt=>K t m c d
 |.w0 o n bF x => .mk λ_ _ t m c d K=>BW dst (CY o n bF (W.ap (iY x) t)) t λt=>K t m c d
 |.sm o x => .mk λ_ _ t m c d K=>BW dst (CX o (W.ap (iY x) t)) t λt=>K t m c d
 |.call f l => .mk λrun _ t m c d K=>BX dst run f (l.map λx=>W.ap (iY x) t) t m c d K
 |.jH f l => .mk λrun _ t m c d K=>match W.ap (iY f) t with
  |.dK g cZ=>BX dst run g ((l.map λx=>W.ap (iY x) t)++cZ) t m c d K
  |.L (.fn g ds)=>BX dst run g ((l.map λx=>W.ap (iY x) t)++ds.map .L) t m c d K
  |_=>ca.no
 |.kQ neg x => .mk λ_ _ t m c d K=>match w6 (W.ap (iY x) t) with
  |some true=>K (hT dst t (.L (.bool neg))) m c d
  |_=>ca.no
 |op => .mk λ_ kb t m c d K=>I3 dst op kb t m λt m=>K t m c d
def TQ (dst:Option Nat)(op:fe)(kb:Nat)(t:eY)(m:ez)(r:ca)(K:eY->ez->ca):Prop :=
 r=ca.no\/∃v e m',bx (b3 m) (cF t) (e3 kb op)=some (v,e)/\b3 m'=fA (b3 m) e/\r=K (hT dst t v) m'
def I4 {dst:Option Nat}{op:fe}{kb:Nat}{t:eY}{m:ez}{K:eY->ez->ca}{x:Option I}(h:bx (b3 m) (cF t) (e3 kb op)=hH x):TQ dst op kb t m (BW dst x t λt=>K t m) K:=by
 cases x with
 |none=>exact .inl rfl
 |some v=>exact .inr ⟨v,none,m,h,rfl,rfl⟩
def acB {dst:Option Nat}{op:fe}{kb:Nat}{t:eY}{m:ez}{K:eY->ez->ca}:TQ dst op kb t m (I3 dst op kb t m K) K:=by
 unfold I3
 split
 ·rename_i v h;exact .inr ⟨v,none,m,h,rfl,rfl⟩
 ·rename_i v x h
  cases U:zY x.1 1000000000000 with
  |false=>exact .inl rfl
  |true =>
   obtain⟨k,g,cs⟩:=x;refine .inr ⟨v,_,_,h,acy ?_ g cs m,rfl⟩;exact of_decide_eq_true (by simpa [Nat.blt_eq] using U)
 ·exact .inl rfl
inductive apf (dst:Option Nat) (op:fe) (run:iX) (kb:Nat) (t:eY) (m:ez) (c:Nat) (d:Option I) (r:ca) (K:yh):Prop
 |no (h:r=ca.no)
 |bx (h:TQ dst op kb t m r λt m=>K t m c d)
 |call (f:FuncId) (l:List bm) (aZ:op=.call f l) (h:r=BX dst run f (l.map (aI (cF t))) t m c d K)
 |jH (f:bm) (l:List bm) (g:FuncId) (cZ:List I) (aZ:op=.jH f l) (ao:aI (cF t) f=.dK g cZ\/∃ds,aI (cF t) f=.L (.fn g ds)/\cZ=ds.map .L) (h:r=BX dst run g (l.map (aI (cF t))++cZ) t m c d K)
 |kQ (neg:Bool) (x:bm) (aZ:op=.kQ neg x) (ao:w6 (aI (cF t) x)=some true) (h:r=K (hT dst t (.L (.bool neg))) m c d)
def apg {dst:Option Nat}{op:fe}{run:iX}{kb:Nat}{t:eY}{m:ez}{c:Nat}{d:Option I}{K:yh}:apf dst op run kb t m c d (W.ap (qJ dst op) run kb t m c d K) K:=by
 cases op
 case hG x=>exact .bx (.inr ⟨_,none,m,rfl,rfl,by simp only[qJ,nK,nL]⟩)
 case bin o x y=>exact .bx (by simp only[qJ,nK,nL];exact I4 (K:=λt m=>K t m c d) rfl)
 case beq o x y=>exact .bx (by simp only[qJ,nK,nL];exact I4 (K:=λt m=>K t m c d) rfl)
 case load n bF x=>exact .bx (by simp only[qJ,nK,nL];exact I4 (K:=λt m=>K t m c d) rfl)
 case w0 o n bF x=>exact .bx (by simp only[qJ,nK,nL];exact I4 (K:=λt m=>K t m c d) rfl)
 case sm o x=>exact .bx (by simp only[qJ,nK,nL];exact I4 (K:=λt m=>K t m c d) rfl)
 case call f l=>exact .call f l rfl (by simp only[qJ,nK,nL])
 case jH f l =>
  simp only[qJ,nK,nL]
  split
  ·rename_i g cZ ao;exact .jH f l g cZ rfl (.inl ao) rfl
  ·rename_i g ds ao;exact .jH f l g _ rfl (.inr ⟨ds,ao,rfl⟩) rfl
  ·exact .no rfl
 case kQ neg x =>
  simp only[qJ,nK,nL]
  split
  ·rename_i ao;exact .kQ neg x rfl ao rfl
  ·exact .no rfl
 all_goals exact .bx (acB (K:=λt m=>K t m c d))
end Go.Mini
namespace Go.Mini
open Go
def r1 (P:Program)(run:iX):Prop:=∀f args m c,match run f args m c with
 |.no=>True
 |.ok v m' _=>Real P f/\∀A w B vs,dq A w B (b3 m)->cj w (bg A B) B args vs->Calls P f vs.toArray w λe ah=>∃u aB,e=.returned u/\cX A w B ah aB (b3 m')/\aN ah (bg A aB) aB v u
 |.gC v m' _=>Real P f/\∀A w B vs,dq A w B (b3 m)->cj w (bg A B) B args vs->Calls P f vs.toArray w λe ah=>∃u aB,e=.panicked [{ v:=u,recovered:=false }]/\cX A w B ah aB (b3 m')/\aN ah (bg A aB) aB v u
def aph (o:Oper):List Nat:=match o.op with
 |.buildSlice ..=>o.dst.toList
 |_=>[]
def TR (y:bm)(t:eY)(m:ez)(c:Nat)(d:Option I):ca:=match W.ap (iY y) t with
 |.L (.ni ty v)=>ca.ok (.gC (.L (.ni ty v))) t m c d
 |_=>ca.no
def TS (y:bm)(t:eY)(m:ez)(c:Nat)(d:Option I)(K:yh):ca:=match d,W.ap (iY y) t with
 |none,.dK f cZ=>K t m c (some (.dK f cZ))
 |_,_=>ca.no
def acC:W EZ:=.mk λ_ _ _ _ _ _ _=>ca.no
def acD (i:bn):W EZ:=match i.g with
 |none=>qJ i.dst i.op
 |some (s,b) => .mk λrun kb t m c d K=>match cF t s with
  |.L (.bool q)=>fJ (K (hT i.dst t .no) m c d) (W.ap (qJ i.dst i.op) run kb t m c d K) (q==b)
  |.no=>K (hT i.dst t .no) m c d
  |_=>ca.no
def acE (o:Oper):Option bm:=match o.op with
 |.defer { callee:=.value f,args:=⟨[]⟩,.. }=>if o.dst.isNone=true/\o.guard.isNone=true then cw f else none
 |_=>none
def acF (o:Oper):Option bm:=match o.op with
 |.panic x=>if o.guard.isNone=true then cw x else none
 |_=>none
def acG (P:Program)(o:Oper):Option I:=match o.op with
 |.load ty (.global g)=>match KI g,e8 P ty,su P ty with
  |some l,some n,some true=>if (D l)=n/\o.guard.isNone=true then some (.agg (l.map λs => .L (.str s))) else none
  |_,_,_=>none
 |_=>none
def NG (P:Program)(n:Nat)(ops:Array Oper)(o:Oper):W EZ :=
 match mN P n 0 (aph o) ops o with
 |none=>acC
 |some i=>match i.op with
  |.bad=>match acF o with
   |some y => .mk λ_ _ t m c d _=>TR y t m c d
   |none=>match acE o with
    |some y => .mk λ_ _ t m c d K=>TS y t m c d K
    |none=>match acG P o with
     |some v => .mk λ_ _ t m c d K=>K (hT o.dst t v) m c d
     |none=>acC
  |_=>acD i
variable {P:Program} {A:Nat->Prop} {b5 w:World} {c8 B:cG} {n kb:Nat} {ops:Array Oper} {o:Oper} {run:iX} {t:eY} {m:ez} {c:Nat} {d:Option I}
def TT (P:Program)(ops:Array Oper)(o:Oper)(next:Act->World->Prop)(ak:Exit->Act->World->Prop)(a:Act)(w:World):Prop :=
 (Region.wanted o (yielded ops a.tmps)=true/\o.wp P a w next ak)\/(Region.wanted o (yielded ops a.tmps)=false/\next (a.put o.dst undef) w)
def toQ (A:Nat->Prop)(ak:Exit->Act->World->Prop):X->Act->World->cG->Prop
 |.k6,a,w,_=>ak .normal a w
 |.oc i,a,w,_=>ak (.exit i) a w
 |.ret,a,w,_=>ak .ret a w
 |.gC v,a,w,B=>∀u,aN w (bg A B) B v u->ak (.panic [{ v:=u,recovered:=false }]) a w
def gg (kb:Nat)(i:bn):bn:=⟨i.dst,i.g,e3 kb i.op⟩
def acH {own:List Nat}{i:bn}(h:mN P n 0 own ops o=some i):mN P n kb own ops o=some (gg kb i):=by
 unfold mN at *
 split at h
 ·rename_i g aC
  split at h
  ·rename_i au;simp only[bH] at h;subst h;simp only[aq au,gg,bH,bn.mk.injEq,true_and];rw[apd kb]
   cases gj P 0 own o.dst o.type o.op<;>rfl
  ·cases h
 ·cases h
def acI {a:Act}{f:FuncId}{l:List I}{vs:List Value}{K:yh}{r:ca}{next:Act->World->Prop}{ak:Exit->Act->World->Prop}(eb:r1 P run)(aE:n<=1000000)(M:r=BX o.dst run f l t m c d K)(bc:r ≠ .no)
  (R:dr d n A b5 c8 a ⟨cF t,b3 m⟩ w B) (au:o.dst.all (λd=>decide (d<n))=true) (ai:cj w (bg A B) B l vs) (acJ:Real P f->(execOp a.eval o).run P w=.ok (.enter f vs.toArray) w)
  (ep:∀t1 ba bU d1 ck ah aB,r=K t1 ba bU d1->dr d1 n A b5 c8 ck ⟨cF t1,b3 ba⟩ ah aB->next ck ah)
  (dh:∀x t1 ba bU d1 ck ah aB,r=ca.ok (.gC x) t1 ba bU d1->dr d1 n A b5 c8 ck ⟨cF t1,b3 ba⟩ ah aB->toQ A ak (.gC x) ck ah aB):o.wp P a w next ak:=by
 have h:=eb f l m c;unfold BX at M;unfold Oper.wp
 cases ew:run f l m c with
 |no=>rw[ew] at M;exact absurd M bc
 |ok v m' c' =>
  rw[ew] at h M;obtain⟨fM,Z⟩:=h;rw[acJ fM];refine Calls.mono (Z A w B vs R.ok.b4 ai) λe ah he=>?_;obtain⟨u,aB,rfl,dc,iw⟩:=he;refine ep (hT o.dst t v) m' c' d _ ah aB M ?_;rw[zX aE au];exact R.put dc iw au
 |gC v m' c' =>
  rw[ew] at h M;obtain⟨fM,Z⟩:=h;rw[acJ fM];refine Calls.mono (Z A w B vs R.ok.b4 ai) λe ah he=>?_;obtain⟨u,aB,rfl,dc,iw⟩:=he;exact dh v t m' c' d a ah aB M (R.put (dst:=none) dc iw rfl) u iw
def acK {own:List Nat}{a:Act}{i:bn}{K:yh}{r:ca}{next:Act->World->Prop}{ak:Exit->Act->World->Prop}(eb:r1 P run)(aE:n<=1000000)(O:Dm P n kb own ops o (gg kb i))(M:r=W.ap (qJ i.dst i.op) run kb t m c d K)(bc:r ≠ .no)
  (R:dr d n A b5 c8 a ⟨cF t,b3 m⟩ w B)
  (ep:∀t1 ba bU d1 ck ah aB,r=K t1 ba bU d1->dr d1 n A b5 c8 ck ⟨cF t1,b3 ba⟩ ah aB->next ck ah)
  (dh:∀x t1 ba bU d1 ck ah aB,r=ca.ok (.gC x) t1 ba bU d1->dr d1 n A b5 c8 ck ⟨cF t1,b3 ba⟩ ah aB->toQ A ak (.gC x) ck ah aB):o.wp P a w next ak:=by
 have ev:=O.op;have tf:i.dst=o.dst:=O.dst;have au:=O.lt;simp only[gg] at ev;have c3:=apg (dst:=i.dst) (op:=i.op) (run:=run) (kb:=kb) (t:=t) (m:=m) (c:=c) (d:=d) (K:=K);rw[<-M] at c3
 cases c3 with
 |no h=>exact absurd h bc
 |bx h =>
  rcases h with h|⟨v,e,m',G7,tL,api⟩
  ·exact absurd h bc
  ·have aA:gj P kb own o.dst o.type o.op=some (e3 kb i.op):=getD_some ev (by
    intro U;rw[U] at G7
    cases G7)
   obtain⟨yY,u,ah,aB,hex,nr,dc,ai⟩:=Qh R.ok.b4 R.jA (λ_=>rfl) aA G7;unfold Oper.wp;rw[hex];have xk:=R.put dc ai au;have:=ep _ _ _ _ (a.put o.dst u) ah aB api (by rw[tf,zX aE au,tL];exact xk);rcases nr with rfl|⟨rfl,rfl⟩
   ·exact this
   ·exact this
 |call f l aZ h =>
  rw[aZ] at ev;have aA:=getD_some ev (by simp[e3]);obtain⟨I5,Z,hg,iy⟩:=GS aA;refine acI eb aE (by rw[<-tf];exact h) bc R au (py R.jA iy) (λfM=>vz Z hg fM) ep dh
 |jH f l g cZ aZ ao h =>
  rw[aZ] at ev;have aA:=getD_some ev (by simp[e3]);obtain⟨I5,x,Z,hg,J,iy⟩:=Qm aA;obtain⟨cs,hu,bY⟩:=GV (R.jA _ _ J) ao;refine acI eb aE (by rw[<-tf];exact h) bc R au ((py R.jA iy).append bY) (λfM=>?_) ep dh;obtain⟨dst,op,type,pos,after,guard⟩:=o;simp only at Z;subst Z;obtain⟨callee,rf,yZ⟩:=I5;simp only at hg;subst hg;simp only[execOp,resolve,hu,Deferred.ofValue,invoke,Sem.run_bind,Sem.run_pure,Result.andThen_ok,AI fM];rw[vr rf];simp
 |kQ neg x aZ ao h =>
  rw[aZ] at ev;have aA:=getD_some ev (by simp[e3]);obtain⟨ty,e,y,y',z,Z,mW,bC,ag⟩:=Xy aA
  have Dn:a.eval y' = .slice none 0 0:=by
   unfold K2 at mW
   split at mW
   ·rfl
   ·cases mW
  obtain⟨b,U,hex⟩:=Xz (y:=y) (y':=y') neg bC (R.jA _ _ ag) ao Dn;have gX:=U rfl;subst gX
  have xk:dr d n A b5 c8 (a.put o.dst (.bool (neg != false))) ⟨cF (hT i.dst t (.L (.bool neg))),b3 m⟩ w B:=by
   rw[tf,zX aE au];have:(neg != false)=neg:=by cases neg<;>rfl
   rw[this];exact R.put (.refl R.ok.b4) (.L .bool) au
  have:=ep _ _ _ _ _ w B h xk;obtain⟨dst,op,type,pos,after,guard⟩:=o;simp only at Z;subst Z;unfold Oper.wp
  have J:(execOp a.eval ⟨dst,.binOp (if neg then .neq else .eql) ty y y' z,type,pos,after,guard⟩).run P w=.ok (.value (.bool (neg != false))) w:=by
   simp only[execOp];rw[Sem.run_bind,hex]
   rfl
  rw[J];exact this
def apj {a:Act}{K:yh}{r:ca}{next:Act->World->Prop}{ak:Exit->Act->World->Prop}(eb:r1 P run)(aE:n<=1000000)(M:r=W.ap (NG P n ops o) run kb t m c d K)(bc:r ≠ .no)
  (R:dr d n A b5 c8 a ⟨cF t,b3 m⟩ w B)
  (ep:∀t1 ba bU d1 ck ah aB,r=K t1 ba bU d1->dr d1 n A b5 c8 ck ⟨cF t1,b3 ba⟩ ah aB->next ck ah)
  (dh:∀x t1 ba bU d1 ck ah aB,r=ca.ok (.gC x) t1 ba bU d1->dr d1 n A b5 c8 ck ⟨cF t1,b3 ba⟩ ah aB->toQ A ak (.gC x) ck ah aB):TT P ops o next ak a w:=by
 unfold NG at M
 split at M
 ·exact absurd M bc
 ·rename_i i aA;have O:=GU (acH (kb:=kb) aA)
  split at M
  ·split at M
   ·rename_i y ag;unfold acF at ag
    split at ag
    ·rename_i x J
     split at ag
     ·rename_i aC
      have hw:Region.wanted o (yielded ops a.tmps)=true:=by
       unfold Region.wanted;rw[NH.1 aC]
      refine .inl ⟨hw,?_⟩;have c7:r=TR y t m c d:=M;unfold TR at c7;rw[nL] at c7
      split at c7
      ·rename_i ty v mU;have ai:=R.jA x y ag;rw[mU] at ai;have j6:=ai;generalize a.eval x=u at ai j6;unfold Oper.wp
       have qj:(execOp a.eval o).run P w=.halt (.panic (a.eval x)) w:=by
        have mQ:=R.jA x y ag;rw[mU] at mQ
        have l1:∃u,a.eval x=.iface ty u:=by
         generalize a.eval x=u at mQ
         cases mQ with
         |L mQ=>cases mQ with
          |ni h=>exact⟨_,rfl⟩
        obtain⟨u,hu⟩:=l1;simp only[execOp,J,hu,Sem.run_bind]
        rfl
       rw[qj];refine dh _ t m c d a w B c7 R (a.eval x) ?_;have mQ:=R.jA x y ag;rw[mU] at mQ;exact mQ
      ·exact absurd c7 bc
     ·cases ag
    ·cases ag
   ·split at M
    ·rename_i y ag;unfold acE at ag
     split at ag
     ·rename_i f yZ J
      split at ag
      ·rename_i aC
       have hw:Region.wanted o (yielded ops a.tmps)=true:=by
        unfold Region.wanted;rw[NH.1 aC.2]
       refine .inl ⟨hw,?_⟩;have c7:r=TS y t m c d K:=M;unfold TS at c7;rw[nL] at c7
       split at c7
       ·rename_i g cZ mU;have ai:=R.jA f y ag;rw[mU] at ai;obtain⟨cs,hu,bY⟩:=GV ai (.inl rfl);rw[hu] at ai;unfold Oper.wp
        have qj:(execOp a.eval o).run P w=.ok (.defer { target:=.fn (.func g) cs.toArray,args:=#[] }) w:=by
         simp only[execOp,J,resolve,hu,Deferred.ofValue,Sem.run_bind,Sem.run_pure,Result.andThen_ok];simp
        rw[qj];have jn:o.dst=none:=NH.1 aC.1;refine ep t m c (some (.dK g cZ)) _ w B c7 ?_;rw[jn];refine⟨R.ok,R.tm,R.sz,⟨g,cZ,cs.toArray,rfl,?_,ai⟩⟩;have:=R.vu;simp only[GR] at this;show _::a.defers=_;rw[this]
       ·exact absurd c7 bc
      ·cases ag
     ·cases ag
    ·split at M
     ·rename_i v ai;have c7:r=K (hT o.dst t v) m c d:=M;unfold acG at ai
      split at ai
      ·rename_i ty g J
       split at ai
       ·rename_i l nb ji dC tx
        split at ai
        ·rename_i Z;obtain⟨af,aC⟩:=Z;simp only[bH] at ai
         have hw:Region.wanted o (yielded ops a.tmps)=true:=by
          unfold Region.wanted;rw[NH.1 aC]
         refine .inl ⟨hw,?_⟩;obtain⟨T,cp⟩:=R.ok.b4.gl g l ji
         have bY:cj w (bg A B) B (l.map λs => .L (.str s)) (yD l):=⟨by simp[yD],λi x u E G=>by
          unfold yD at G;rw[bG,cO] at E G;obtain⟨s,ad,rfl⟩:=E;obtain⟨yT,aK,rfl⟩:=G;rw[ad] at aK
          cases aK;exact .L .str⟩
         have gO:=lV.row cp;simp only at gO;obtain⟨u,E,G⟩:=PX (P:=P) (r:=v) dC tx (by simp[af]) bY gO (by rw[<-ai];rfl);unfold Oper.wp
         have qj:(execOp a.eval o).run P w=.ok (.value u) w:=by
          have ad:(Instr.loadAt ty (a.eval (.global g))).run P w=.ok u w:=by
           simpa [Instr.loadAt,Instr.sureAddr,Act.eval] using E
          simp only[execOp,J,Sem.run_bind,ad]
          rfl
         rw[qj];refine ep _ _ _ _ _ w B c7 ?_;rw[zX aE O.lt];exact R.put (.refl R.ok.b4) G O.lt
        ·cases ai
       ·cases ai
      ·cases ai
     ·exact absurd M bc
  ·unfold acD at M
   split at M
   ·rename_i aC;have hw:Region.wanted o (yielded ops a.tmps)=true:=yX R O.guard (by simp only[gg,aC];rfl);exact .inl ⟨hw,acK eb aE O M bc R ep dh⟩
   ·rename_i s b aC
    have c7:r=(match cF t s with
     |.L (.bool q)=>fJ (K (hT i.dst t .no) m c d) (W.ap (qJ i.dst i.op) run kb t m c d K) (q==b)
     |.no=>K (hT i.dst t .no) m c d
     |_=>ca.no):=M
    have II:r=K (hT i.dst t .no) m c d->gv (cF t) i.g=some false->TT P ops o next ak a w:=λE G=>by
     refine .inr ⟨yX R O.guard G,ep _ _ _ _ _ w B E ?_⟩;have tf:i.dst=o.dst:=O.dst;rw[tf,zX aE O.lt];exact R.put (.refl R.ok.b4) .no O.lt
    split at c7
    ·rename_i q aM
     cases v9:(q==b) with
     |false =>
      rw[v9] at c7;exact II c7 (by rw[aC];simp only[gv,aM,v9])
     |true =>
      rw[v9] at c7;have hw:Region.wanted o (yielded ops a.tmps)=true:=yX R O.guard (by simp only[gg,aC,gv,aM,v9]);exact .inl ⟨hw,acK eb aE O c7 bc R ep dh⟩
    ·rename_i aM;exact II c7 (by rw[aC];simp only[gv,aM])
    ·exact absurd c7 bc
def E0 (P:Program)(n:Nat)(ops:Array Oper)(l:List Oper):W EZ :=
 List.rec (motive:=λ_=>W EZ) (.mk λ_ _ t m c d K=>K t m c d) (λo _ uE => .mk λrun kb t m c d K=>W.ap (NG P n ops o) run kb t m c d λt m c d=>W.ap uE run kb t m c d K) l
def NI (P:Program)(ops:Array Oper)(ak:Exit->Act->World->Prop):List Oper->Act->World->Prop
 | [],a,w=>ak .normal a w
 |o::l,a,w=>TT P ops o (NI P ops ak l) ak a w
def TU {ak:Exit->Act->World->Prop}(eb:r1 P run)(aE:n<=1000000){K:yh}{r:ca}(bc:r ≠ .no)(ep:∀t1 ba bU d1 ck ah aB,r=K t1 ba bU d1->dr d1 n A b5 c8 ck ⟨cF t1,b3 ba⟩ ah aB->ak .normal ck ah)
  (dh:∀x t1 ba bU d1 ck ah aB,r=ca.ok (.gC x) t1 ba bU d1->dr d1 n A b5 c8 ck ⟨cF t1,b3 ba⟩ ah aB->toQ A ak (.gC x) ck ah aB):∀(l:List Oper) (t:eY) (m:ez) (c:Nat) (d:Option I) (a:Act) (w:World) (B:cG),r=W.ap (E0 P n ops l) run kb t m c d K ->
  dr d n A b5 c8 a ⟨cF t,b3 m⟩ w B->NI P ops ak l a w
 | [],t,m,c,d,a,w,B,M,R=>ep t m c d a w B M R
 |o::l,t,m,c,d,a,w,B,M,R=>by
  have c7:r=W.ap (NG P n ops o) run kb t m c d λt m c d=>W.ap (E0 P n ops l) run kb t m c d K:=M;exact apj eb aE c7 bc R (λt1 ba bU d1 ck ah aB E G=>TU eb aE bc ep dh l t1 ba bU d1 ck ah aB E G) dh
def TV {ak:Exit->Act->World->Prop}:∀(l:List Oper) (j:Nat) (a:Act) (w:World),ops.toList.drop j=l->NI P ops ak l a w->wpOps P ops ak (I6 j (D l)) a w
 | [],j,a,w,_,h=>h
 |o::l,j,a,w,af,h=>by
  have aZ:ops[j]?=some o:=by
   have:(ops.toList.drop j)[0]?=some o:=by rw[af];rfl
   simpa using this
  have sy:ops.toList.drop (j+1)=l:=by rw[<-xo,af];rfl
  simp only[jG,acL,wpOps,aZ];rcases h with ⟨E,G⟩|⟨E,G⟩
  ·rw[aq E];exact .inl (Oper.wp_mono (λa w h=>TV l (j+1) a w sy h) G)
  ·rw[ar (by simp[E])];exact TV l (j+1) _ w sy G
def TW {ak:Exit->Act->List Frame->World->Prop}{cs:List Frame}:∀(l:List Oper) (j:Nat) (a:Act) (w:World),ops.toList.drop j=l->NI P ops (λe a w=>ak e a cs w) l a w->wpOpsS P ops ak (I6 j (D l)) a cs w
 | [],j,a,w,_,h=>h
 |o::l,j,a,w,af,h=>by
  have aZ:ops[j]?=some o:=by
   have:(ops.toList.drop j)[0]?=some o:=by rw[af];rfl
   simpa using this
  have sy:ops.toList.drop (j+1)=l:=by rw[<-xo,af];rfl
  simp only[jG,acL,wpOpsS,aZ];rcases h with ⟨E,G⟩|⟨E,G⟩
  ·rw[aq E];have ad:=Oper.wp_mono (λa w h=>TW l (j+1) a w sy h) G;unfold Oper.wp at ad
   split
   ·rename_i ah J;rw[J] at ad;exact ad.elim
   ·exact ad
  ·rw[ar (by simp[E])];exact TW l (j+1) _ w sy G
end Go.Mini
namespace Go.Mini
open Go
mutual
def o1:Data->Data->Bool
 |.int k n,.int k' I7=>decide (k=k')&&decide (n=I7)
 |.bool b,.bool dA=>b==dA
 |.str s,.str yT=>decide (s=yT)
 |.ay es,.ay es'=>I8 es es'
 |.ptr cs,.ptr gu=>yi cs gu
 |.p8,.p8=>true
 |.fn f cs,.fn zQ gu=>gB f zQ&&yi cs gu
 |.qY,.qY=>true
 |.agg cs,.agg gu=>yi cs gu
 |.de cs,.de gu=>yi cs gu
 |.ni t d,.ni ks pz=>gB t ks&&o1 d pz
 |.mL,.mL=>true
 |_,_=>false
termination_by structural x=>x
def yi:List Data->List Data->Bool
 | [],[]=>true
 |a::l,b::m=>o1 a b&&yi l m
 |_,_=>false
termination_by structural x=>x
def I8:List (List Data)->List (List Data)->Bool
 | [],[]=>true
 |a::l,b::m=>yi a b&&I8 l m
 |_,_=>false
termination_by structural x=>x
end
mutual
def TX:∀(a b:Data),o1 a b=true->a=b
 |.int k n,b,h=>by cases b<;>simp_all [o1]
 |.bool x,b,h=>by cases b<;>simp_all [o1]
 |.str s,b,h=>by cases b<;>simp_all [o1]
 |.ay es,b,h=>by
  cases b<;>simp only[o1,df] at h;rw[acM _ _ h]
 |.ptr cs,b,h=>by
  cases b<;>simp only[o1,df] at h;rw[E1 _ _ h]
 |.p8,b,h=>by cases b<;>simp_all [o1]
 |.fn f cs,b,h=>by
  cases b<;>simp only[o1,df,dH,TY] at h;rw[h.1,E1 _ _ h.2]
 |.qY,b,h=>by cases b<;>simp_all [o1]
 |.agg cs,b,h=>by
  cases b<;>simp only[o1,df] at h;rw[E1 _ _ h]
 |.de cs,b,h=>by
  cases b<;>simp only[o1,df] at h;rw[E1 _ _ h]
 |.ni t d,b,h=>by
  cases b<;>simp only[o1,df,dH,TY] at h;rw[h.1,TX _ _ h.2]
 |.mL,b,h=>by cases b<;>simp_all [o1]
termination_by structural x=>x
def E1:∀(a b:List Data),yi a b=true->a=b
 | [],b,h=>by cases b<;>simp_all [yi]
 |x::l,b,h=>by
  cases b<;>simp only[yi,df,dH] at h;rw[TX _ _ h.1,E1 _ _ h.2]
termination_by structural x=>x
def acM:∀(a b:List (List Data)),I8 a b=true->a=b
 | [],b,h=>by cases b<;>simp_all [I8]
 |x::l,b,h=>by
  cases b<;>simp only[I8,df,dH] at h;rw[E1 _ _ h.1,acM _ _ h.2]
termination_by structural x=>x
end
mutual
def r2:I->I->Bool
 |.L d,.L pz=>o1 d pz
 |.nil,.nil=>true
 |.ref k g s o l,.ref k' cf yT xm mz=>gB k k'&&gB g cf&&gB s yT&&gB o xm&&gB l mz
 |.ptr k g o,.ptr k' cf xm=>gB k k'&&gB g cf&&gB o xm
 |.dK f cs,.dK zQ gu=>gB f zQ&&E2 cs gu
 |.agg cs,.agg gu=>E2 cs gu
 |.gV k g,.gV k' cf=>gB k k'&&gB g cf
 |_,_=>false
termination_by structural x=>x
def E2:List I->List I->Bool
 | [],[]=>true
 |a::l,b::m=>r2 a b&&E2 l m
 |_,_=>false
termination_by structural x=>x
end
mutual
def acN:∀(a b:I),r2 a b=true->a=b
 |.L d,b,h=>by
  cases b<;>simp only[r2,df] at h;rw[TX _ _ h]
 |.nil,b,h=>by cases b<;>simp_all [r2]
 |.ref k g s o l,b,h=>by cases b<;>simp_all [r2]
 |.ptr k g o,b,h=>by cases b<;>simp_all [r2]
 |.dK f cs,b,h=>by
  cases b<;>simp only[r2,df,dH,TY] at h;rw[h.1,TZ _ _ h.2]
 |.agg cs,b,h=>by
  cases b<;>simp only[r2,df] at h;rw[TZ _ _ h]
 |.gV k g,b,h=>by cases b<;>simp_all [r2]
 |.de _,_,h=>by simp[r2] at h
 |.no,_,h=>by simp[r2] at h
 |.undef,_,h=>by simp[r2] at h
termination_by structural x=>x
def TZ:∀(a b:List I),E2 a b=true->a=b
 | [],b,h=>by cases b<;>simp_all [E2]
 |x::l,b,h=>by
  cases b<;>simp only[E2,df,dH] at h;rw[acN _ _ h.1,TZ _ _ h.2]
termination_by structural x=>x
end
mutual
def E3 (k:Key):I->Bool
 |.ref j _ _ _ _ => !(gB j k)
 |.ptr j _ _ => !(gB j k)
 |.gV j _ => !(gB j k)
 |.dK _ cs=>od k cs
 |.agg cs=>od k cs
 |.de cs=>od k cs
 |_=>true
termination_by structural x=>x
def od (k:Key):List I->Bool
 | []=>true
 |a::l=>E3 k a&&od k l
termination_by structural x=>x
end
def NJ {a b:Nat}(h:gB a b=false):a≠b:=λe=>by
 subst e;rw[Nat.beq_refl] at h
 cases h
def BY {k:Key}:∀{cs:List I},od k cs=true->∀m∈cs,E3 k m=true
 | [],_,m,hm=>by cases hm
 |a::l,h,m,hm=>by
  simp only[od,dH] at h;simp only[ia] at hm;rcases hm with rfl|hm
  ·exact h.1
  ·exact BY h.2 m hm
variable {P:Program} {A:Nat->Prop} {w ah:World} {B:cG} {mem C2:Mem} {k:Key} {g:Nat} {cs:List I}
def mg (B:cG)(k:Key):cG:=λj=>if j=k then none else B j
def BZ (A:Nat->Prop)(e:gN)(b:Nat):Prop:=A b\/e.c1=some b
def T0 {e:gN}(Q:B k=some e)(b:Nat):bg (BZ A e) (mg B k) b↔bg A B b:=by
 constructor
 ·rintro (⟨j,e',aa,J⟩|a5|J)
  ·unfold mg at aa
   split at aa
   ·cases aa
   ·exact .inl ⟨j,e',aa,J⟩
  ·exact .inr a5
  ·exact .inl ⟨k,e,Q,J⟩
 ·rintro (⟨j,e',aa,J⟩|a5)
  ·by_cases bN:j=k
   ·subst bN;rw[Q] at aa
    cases aa;exact .inr (.inr J)
   ·exact .inl ⟨j,e',by simp only[mg,ar bN];exact aa,J⟩
  ·exact .inr (.inl a5)
def aN.cut {av gD:Nat->Prop}(eA:∀b,gD b->av b){m:I}{v:Value}(h:aN w av B m v)(ao:E3 k m=true):aN w gD (mg B k) m v:=by
 induction h with
 |L h=>exact .L (h.less eA)
 |nil=>exact .nil
 |ref he aC ai =>
  simp only[E3,na] at ao;have ao:=NJ ao;exact .ref (by simp only[mg,ar ao];exact he) aC ai
 |ptr he aC ai =>
  simp only[E3,na] at ao;have ao:=NJ ao;exact .ptr (by simp only[mg,ar ao];exact he) aC ai
 |gV he aC ai =>
  simp only[E3,na] at ao;have ao:=NJ ao;exact .gV (by simp only[mg,ar ao];exact he) aC ai
 |dK af ae aF=>exact .dK af λi d v E G=>aF i d v E G (BY ao d (du E))
 |agg af ae aF=>exact .agg af λi d v E G=>aF i d v E G (BY ao d (du E))
 |de af ae aF=>exact .de af λi d v E G=>aF i d v E G (BY ao d (du E))
 |no=>exact .no
 |undef=>exact .undef
def aN.more {av gD:Nat->Prop}{aB:cG}(eA:∀b,gD b->av b)(hq:∀j e,B j=some e->aB j=some e){m:I}{v:Value}(h:aN w av B m v):aN w gD aB m v:=by
 induction h with
 |L h=>exact .L (h.less eA)
 |nil=>exact .nil
 |ref he aC ai=>exact .ref (hq _ _ he) aC ai
 |ptr he aC ai=>exact .ptr (hq _ _ he) aC ai
 |gV he aC ai=>exact .gV (hq _ _ he) aC ai
 |dK af ae aF=>exact .dK af aF
 |agg af ae aF=>exact .agg af aF
 |de af ae aF=>exact .de af aF
 |no=>exact .no
 |undef=>exact .undef
def freeM (k:Key)(mem:Mem):Prop:=∀j g cs,mem j=some (g,cs)->od k cs=true
def apk {e:gN}(h:dq A w B (aV mem k g cs))(Q:B k=some e)(hm:mem k=none)(ao:freeM k mem):dq (BZ A e) w (mg B k) mem:=by
 have eA:=T0 (A:=A) Q;refine⟨λj aa=>?_,λj hX aL ax b E G ad aK=>?_,λb U ⟨j,e',aa,J⟩=>?_,λb U=>?_,h.gl,λb o U ⟨j,e',aa,J⟩=>?_,λj cf gu aa=>?_⟩
 ·unfold mg
  split
  ·rfl
  ·rename_i bN;exact h.qZ j (by simp only[aV,ar bN];exact aa)
 ·unfold mg at E G
  split at E
  ·cases E
  ·split at G
   ·cases G
   ·exact h.inj j hX aL ax b E G ad aK
 ·unfold mg at aa
  split at aa
  ·cases aa
  ·rename_i bN;rcases U with U|U
   ·exact h.sep b U ⟨j,e',aa,J⟩
   ·exact bN (h.inj j k e' e b aa Q J U)
 ·rcases U with U|U
  ·exact h.lt b U
  ·exact h.q0 ⟨k,e,Q,U⟩
 ·unfold mg at aa
  split at aa
  ·cases aa
  ·exact h.va b o U ⟨j,e',aa,J⟩
 ·have bN:j≠k:=λbN=>by rw[bN,hm] at aa;cases aa
  obtain⟨e',ea,aC,aE,U⟩:=h.c1 j cf gu (by simp only[aV,ar bN];exact aa);refine⟨e',by simp only[mg,ar bN];exact ea,aC,aE,λb fp=>?_⟩
  exact (U b fp).imp rfl rfl λm Da v ai=>ai.cut (λb U=>(eA b).1 U) (BY (ao j cf gu aa) m Da)
def jx.apl {av gD:Nat->Prop}{aB:cG}{es:List MapEntry}{ms:List I}(h:jx w av B es ms)(O:∀m∈ms,∀v,aN w av B m v->aN ah gD aB m v):jx ah gD aB es ms:=by
 induction h with
 |nil=>exact .nil
 |cons Q ai _ aF=>exact .cons Q (O _ (by simp) _ ai) (aF λm hm=>O m (by simp[hm]))
def apm {e:gN}{hE:cG}(h:dq A w B (aV mem k g cs))(Q:B k=some e)(Z:od k cs=true)(R:cX (BZ A e) w (mg B k) ah hE C2)(n5:C2 k=none):
  cX A w B ah (eu hE k e) (aV C2 k g cs)/\∀m v,aN ah (bg (BZ A e) hE) hE m v->aN ah (bg A (eu hE k e)) (eu hE k e) m v:=by
 have eA:=T0 (A:=A) Q;have apn:hE k=none:=R.b4.qZ k n5
 have apo:∀b,bg A (eu hE k e) b->bg (BZ A e) hE b:=λb U=>by
  rcases U with ⟨j,e',aa,J⟩|a5
  ·by_cases bN:j=k
   ·subst bN;rw[e2] at aa
    cases aa;exact .inr (.inr J)
   ·rw[eR _ _ bN] at aa;exact .inl ⟨j,e',aa,J⟩
  ·exact .inr (.inl a5)
 have acO:∀j e',hE j=some e'->eu hE k e j=some e':=λj e' aa=>by
  by_cases bN:j=k
  ·subst bN;rw[apn] at aa
   cases aa
  ·rw[eR _ _ bN];exact aa
 have pI:∀m v,aN ah (bg (BZ A e) hE) hE m v->aN ah (bg A (eu hE k e)) (eu hE k e) m v:=λm v ai=>ai.more apo acO;obtain⟨e',ea,aC,aE,U⟩:=h.c1 k g cs (by simp[aV]);rw[Q] at ea
 cases ea;refine⟨⟨⟨λj aa=>?_,λj hX aL ax b E G ad aK=>?_,λb a5 ⟨j,e',aa,J⟩=>?_,λb a5=>R.b4.lt b (.inl a5),R.b4.gl,λb o U ⟨j,e',aa,J⟩=>?_,λj cf gu aa=>?_⟩,⟨R.hW.size,λb U aZ=>?_,λj e' aa=>?_⟩,⟨R.fs.os,R.fs.tape,R.fs.output,R.fs.size,λb U aZ=>?_⟩,λb U=>?_⟩,pI⟩
 ·by_cases bN:j=k
  ·subst bN;simp[aV] at aa
  ·simp only[aV,ar bN] at aa;rw[eR _ _ bN];exact R.b4.qZ j aa
 ·by_cases aa:j=k<;>by_cases jz:hX=k
  ·rw[aa,jz]
  ·exfalso
   subst aa;rw[e2] at E
   cases E;rw[eR _ _ jz] at G;exact R.b4.sep b (.inr ad) ⟨hX,ax,G,aK⟩
  ·exfalso
   subst jz;rw[e2] at G
   cases G;rw[eR _ _ aa] at E;exact R.b4.sep b (.inr aK) ⟨j,aL,E,ad⟩
  ·rw[eR _ _ aa] at E;rw[eR _ _ jz] at G;exact R.b4.inj j hX aL ax b E G ad aK
 ·by_cases bN:j=k
  ·subst bN;rw[e2] at aa
   cases aa;exact h.sep b a5 ⟨_,_,Q,J⟩
  ·rw[eR _ _ bN] at aa;exact R.b4.sep b (.inl a5) ⟨j,e',aa,J⟩
 ·by_cases bN:j=k
  ·subst bN;rw[e2] at aa
   cases aa;exact h.va b o U ⟨_,_,Q,J⟩
  ·rw[eR _ _ bN] at aa;exact R.b4.va b o U ⟨j,e',aa,J⟩
 ·by_cases bN:j=k
  ·subst bN;simp only[aV,if_true,bH,ei] at aa;obtain⟨rfl,rfl⟩:=aa;refine⟨e,e2 _ _ _,aC,aE,λb fp=>?_⟩
   have QA:¬ nj (mg B j) b:=fun⟨hX,ax,jz,oB⟩=>by
    unfold mg at jz
    split at jz
    ·cases jz
    ·rename_i bc;exact bc (h.inj hX j ax e b jz Q oB fp)
   have au:=h.q0 ⟨j,e,Q,fp⟩;have I9:=R.fs.block b au QA
   have ai:∀m∈cs,∀v,aN w (bg A B) B m v->aN ah (bg A (eu hE j e)) (eu hE j e) m v:=λm Da v ai =>
    pI m v ((ai.cut (k:=j) (λb U=>(eA b).1 U) (BY Z m Da)).jw R.hW)
   rcases U b fp with ⟨al,vs,T,E,G,ad,aK⟩|⟨al,hF,im,G,ad⟩
   ·exact .inl ⟨al,vs,T,I9.trans E,G,ad,λi m hm=>let ⟨v,j6,M⟩:=aK i m hm;⟨v,j6,ai m (du hm) v M⟩⟩
   ·exact .inr ⟨al,hF,im,I9.trans G,ad.apl ai⟩
  ·simp only[aV,ar bN] at aa;obtain⟨e',ea,w9,Gz,gX⟩:=R.b4.c1 j cf gu aa;exact⟨e',acO j e' ea,w9,Gz,λb fp=>(gX b fp).imp rfl rfl λm _ v ai=>pI m v ai⟩
 ·have E:=R.hW.CQ b U λJ=>aZ ((eA b).1 J);refine⟨E.1,fun⟨j,e',aa,J⟩=>?_⟩
  by_cases bN:j=k
  ·subst bN;rw[e2] at aa
   cases aa;exact aZ (.inl ⟨_,_,Q,J⟩)
  ·rw[eR _ _ bN] at aa;exact E.2 ⟨j,e',aa,J⟩
 ·by_cases bN:j=k
  ·subst bN;rw[Q] at aa
   cases aa;exact⟨e,e2 _ _ _,.inl rfl⟩
  ·obtain⟨ax,E,G⟩:=R.hW.key j e' (by simp only[mg,ar bN];exact aa);exact⟨ax,by rw[eR _ _ bN];exact E,G⟩
 ·refine R.fs.block b U fun⟨j,e',aa,J⟩=>?_;unfold mg at aa
  split at aa
  ·cases aa
  ·exact aZ ⟨j,e',aa,J⟩
 ·obtain⟨j,e',aa,J⟩:=U
  by_cases bN:j=k
  ·subst bN;rw[e2] at aa
   cases aa;exact .inl ⟨_,_,Q,J⟩
  ·rw[eR _ _ bN] at aa;refine (R.fresh b ⟨j,e',aa,J⟩).imp (fun⟨vB,ax,yR,g5⟩=>?_) id;unfold mg at yR
   split at yR
   ·cases yR
   ·exact⟨vB,ax,yR,g5⟩
def E4 (mem:Mem):I->Option (Nat×List (List Data))
 |.ref k g sz off len=>(ql sz mem (.ref k g sz off len)).map λes=>(sz,es)
 |_=>none
open Classical in
def nc (ol:List FuncId)(run:iX):bl:=λf args mem=>if mem=emp then (match run f args dy.e 0 with
 |.ok v m _=>if ol.contains f=true then (E4 (b3 m) v).map λp => .own p.1 p.2 else (c2 6 (b3 m) v).map .same
 |_=>none) else none
def T1 {ol:List FuncId}{run:iX}(eb:r1 P run):mX P (nc ol run):=by
 intro f args mem nq h;unfold nc at h
 split at h
 ·rename_i gw;subst gw;have M:=eb f args dy.e 0
  split at h
  ·rename_i v m c ai;rw[ai] at M;have kz:∀B w A,dq A w B (b3 dy.e)->∀b,¬ nj B b:=λB w A a3 b ⟨k,e,Q,_⟩=>by rw[a3.qZ k rfl] at Q;cases Q
   split at h
   ·simp only[cO] at h;obtain⟨p,aD,rfl⟩:=h;refine⟨M.1,λA w B vs a3 ai=>?_⟩;have kz:=kz B w A a3;refine Calls.mono (M.2 A w B vs a3 ai) λe ah he=>?_;obtain⟨u,aB,rfl,dc,iw⟩:=he;refine⟨u,rfl,⟨dc.fs.os,dc.fs.tape,dc.fs.output,dc.fs.size,λb U _=>dc.fs.block b U (kz b)⟩,?_⟩;unfold E4 at aD
    split at aD
    ·rename_i k g sz off len;simp only[cO] at aD;obtain⟨es,rr,rfl⟩:=aD;simp only[ql] at rr
     split at rr
     ·rename_i Z;obtain⟨_,rfl⟩:=Z
      split at rr
      ·rename_i cf cs Q
       split at rr
       ·rename_i aC;obtain⟨rfl,hle⟩:=aC;simp only[cO] at rr;obtain⟨ds,e4,rfl⟩:=rr;exact (Yd kz dc iw Q hle e4).less λb U=>U.elim (λh=>(kz b h).elim) id
       ·cases rr
      ·cases rr
     ·cases rr
    ·cases aD
   ·simp only[cO] at h;obtain⟨d,ae,rfl⟩:=h;refine⟨M.1,λA w B vs a3 ai=>?_⟩;have kz:=kz B w A a3;refine Calls.mono (M.2 A w B vs a3 ai) λe ah he=>?_;obtain⟨u,aB,rfl,dc,iw⟩:=he;refine⟨u,rfl,⟨dc.fs.os,dc.fs.tape,dc.fs.output,dc.fs.size,λb U _=>dc.fs.block b U (kz b)⟩,?_⟩;exact (snap dc.b4 (λb U=>U) 6 v u d ae iw).less λb U=>U.elim (λh=>(kz b h).elim) id
  ·cases h
 ·cases h
def apq {ol:List FuncId}{run:iX}{f:FuncId}{args:List I}{v:I}{m:ez}{c:Nat}{d:Data}(ao:ol.contains f=false)(h:run f args dy.e 0=.ok v m c)(ae:c2 6 (b3 m) v=some d):nc ol run f args emp=some (.same d):=by
 unfold nc;rw[aq rfl,h];simp only[ao,df,if_false,ae,kx]
def apr {ol:List FuncId}{run:iX}{f:FuncId}{args:List I}{v:I}{m:ez}{c:Nat}{p:Nat×List (List Data)}(ao:ol.contains f=true)(h:run f args dy.e 0=.ok v m c)(ae:E4 (b3 m) v=some p):nc ol run f args emp=some (.own p.1 p.2):=by
 unfold nc;rw[aq rfl,h];simp only[ao,if_true,ae,kx]
end Go.Mini
namespace Go.Mini
open Go
abbrev yj:=List (Nat×Bool×I)
abbrev NK:=eY->ez->Rec->yj->ca
abbrev Ja:=iX->Nat->eY->ez->Rec->yj->NK->ca
def E5:W Ja:=.mk λ_ _ _ _ _ _ _=>ca.no
def wD (k7:List Nat)(rec:Rec)(p:Bool×List kt)(r:ca):ca:=match k7 with
 | []=>r
 |_::_=>fJ ca.no r (q4 rec p k7)
def E6 (run:iX)(f:FuncId)(l:List I)(K:Data->ca):ca :=
 iF.rec ca.no (λv m _=>ko ca.no (λd=>K d) (c2 6 (b3 m) v)) (λ_ _ _=>ca.no) (run f l dy.e 0)
def NL (run:iX)(f:FuncId)(l:List I)(K:Nat×List (List Data)->ca):ca :=
 iF.rec ca.no (λv m _=>ko ca.no (λp=>K p) (E4 (b3 m) v)) (λ_ _ _=>ca.no) (run f l dy.e 0)
def uF (ol:List FuncId)(dst:Option Nat)(op:fe)(idx:Nat)(k7:List Nat)(un:Bool):W Ja :=
 match op with
 |.call f l=>fJ (.mk λrun _ t m rec ee K=>wD k7 rec (false,[]) (E6 run f (l.map λx=>shut (W.ap (iY x) t)) λd=>K (hT dst t (.L d)) m (ir rec idx (false,[])) ee)) E5 (ol.contains f)
 |.jH f l => .mk λrun _ t m rec ee K=>match shut (W.ap (iY f) t) with
  |.dK g []=>fJ (wD k7 rec (false,[]) (E6 run g (l.map λx=>shut (W.ap (iY x) t)) λd=>K (hT dst t (.L d)) m (ir rec idx (false,[])) ee)) ca.no (ol.contains g)
  |_=>ca.no
 |.load n bF x => .mk λ_ _ t m rec ee K=>wD k7 rec (false,yJ n (W.ap (iY x) t)) (BW dst (ib (b3 m) n bF (W.ap (iY x) t)) t λks=>K ks m (ir rec idx (false,yJ n (W.ap (iY x) t))) (fJ ee ((n,bF,W.ap (iY x) t)::ee) un))
 |.ln k sz f l=>fJ E5 (.mk λrun kb t m rec ee K=>wD k7 rec (true,[.fm (kb+k)]) (NL run f (l.map λx=>shut (W.ap (iY x) t)) λp =>
   fJ ca.no (fJ ca.no (K (hT dst t (.ref (kb+k) (bw (b3 m) (kb+k)) sz 0 p.2.length)) (ND (kb+k) (bw (b3 m) (kb+k)) (p.2.flatten.map .L) m) (ir rec idx (true,[.fm (kb+k)])) ee) (zY (kb+k) 1000000000000)) (gB p.1 sz))) (ol.contains f)
 |.kQ ..=>E5
 |.j4 ..=>E5
 |.ph ..=>E5
 |.pj ..=>E5
 |op => .mk λ_ kb t m rec ee K=>wD k7 rec (fC (e3 kb op),cb (cF t) (e3 kb op)) (I3 dst op kb t m λks m'=>K ks m' (ir rec idx (fC (e3 kb op),cb (cF t) (e3 kb op))) ee)
def T2 (ol:List FuncId)(i:bn)(idx:Nat)(k7:List Nat)(un:Bool):W Ja:=match i.g with
 |none=>uF ol i.dst i.op idx k7 un
 |some (s,b) => .mk λrun kb t m rec ee K=>match cF t s with
  |.L (.bool q)=>fJ (K (hT i.dst t .no) m rec ee) (W.ap (uF ol i.dst i.op idx k7 un) run kb t m rec ee K) (q==b)
  |.no=>K (hT i.dst t .no) m rec ee
  |_=>ca.no
def uG (ol:List FuncId)(un:Nat->Bool)(l:List bn):Nat->List (List Nat)->W Ja :=
 List.rec (motive:=λ_=>Nat->List (List Nat)->W Ja) (λ_ _ => .mk λ_ _ t m rec ee K=>K t m rec ee)
  (λi _ uE idx cs => .mk λrun kb t m rec ee K=>W.ap (T2 ol i idx (cs.headD []) (un idx)) run kb t m rec ee λt m rec ee=>W.ap (uE (idx+1) cs.tail) run kb t m rec ee K) l
variable {P:Program} {aU:Option I} {A:Nat->Prop} {b5 w:World} {c8 B:cG} {n kb:Nat} {own:List Nat} {ops:Array Oper} {o:Oper} {run:iX} {t:eY} {m:ez} {c:Nat} {d:Option I} {ol:List FuncId}
def NM {k7:List Nat}{rec:Rec}{p:Bool×List kt}{r:ca}(h:wD k7 rec p r ≠ .no):wD k7 rec p r=r/\q4 rec p k7=true:=by
 cases k7 with
 |nil=>exact⟨rfl,rfl⟩
 |cons a l =>
  unfold wD at *;simp only at *
  cases Z:q4 rec p (a::l) with
  |false=>rw[Z] at h;exact absurd rfl h
  |true=>exact⟨rfl,rfl⟩
def aps {f:FuncId}{l:List I}{K:Data->ca}(ao:ol.contains f=false)(h:E6 run f l K ≠ .no):∃d,nc ol run f l emp=some (.same d)/\E6 run f l K=K d:=by
 unfold E6 at *
 cases M:run f l dy.e 0 with
 |no=>rw[M] at h;exact absurd rfl h
 |gC v m c=>rw[M] at h;exact absurd rfl h
 |ok v m c =>
  rw[M] at h
  cases ae:c2 6 (b3 m) v with
  |none=>simp only[ae] at h;exact absurd rfl h
  |some d =>
   refine⟨d,apq ao M ae,?_⟩;show (ko ca.no (λd=>K d) (c2 6 (b3 m) v):ca)=K d;rw[ae]
def acP (op:fe):lo (e3 kb op)=lo op:=by cases op<;>first|rfl|(rename_i b _ _ _ _;cases b<;>rfl)
def apt (op:fe):nU (e3 kb op)=nU op:=by cases op<;>rfl
def apu {op:fe}{k:Nat}{bF:Bool}{y:bm}(h:e3 kb op=.load k bF y):op=.load k bF y:=by cases op<;>first|exact h|(simp[e3] at h)
def apv {f:FuncId}{l:List I}{K:Nat×List (List Data)->ca}(ao:ol.contains f=true)(h:NL run f l K ≠ .no):∃p,nc ol run f l emp=some (.own p.1 p.2)/\NL run f l K=K p:=by
 unfold NL at *
 cases M:run f l dy.e 0 with
 |no=>rw[M] at h;exact absurd rfl h
 |gC v m c=>rw[M] at h;exact absurd rfl h
 |ok v m c =>
  rw[M] at h
  cases ae:E4 (b3 m) v with
  |none=>simp only[ae] at h;exact absurd rfl h
  |some d =>
   refine⟨d,apr ao M ae,?_⟩;show (ko ca.no (λd=>K d) (E4 (b3 m) v):ca)=K d;rw[ae]
def apw {dst:Option Nat}{op:fe}{idx:Nat}{k7:List Nat}{un:Bool}{rec:Rec}{ee:yj}{K:NK}{r:ca}(M:r=W.ap (uF ol dst op idx k7 un) run kb t m rec ee K)(h:r ≠ .no):
  ∃v e m' zZ,ek (nc ol run) (b3 m) (cF t) (e3 kb op)=some (v,e)/\b3 m'=fA (b3 m) e/\q4 rec (fC (e3 kb op),cb (cF t) (e3 kb op)) k7=true /\
   r=K (hT dst t v) m' (ir rec idx (fC (e3 kb op),cb (cF t) (e3 kb op))) zZ/\(∀x∈ee,x∈zZ)/\(un=true->∀n bF y,op=.load n bF y->(n,bF,aI (cF t) y)∈zZ):=by
 have call:∀(f:FuncId) (l:List bm),ol.contains f=false->r=wD k7 rec (false,[]) (E6 run f (l.map λx=>shut (W.ap (iY x) t)) λd=>K (hT dst t (.L d)) m (ir rec idx (false,[])) ee) ->
   ∃d,nc ol run f (l.map λx=>shut (aI (cF t) x)) emp=some (.same d)/\q4 rec (false,[]) k7=true/\r=K (hT dst t (.L d)) m (ir rec idx (false,[])) ee:=λf l ao M=>by
  simp only[nL] at M;obtain⟨E,G⟩:=NM (by rw[<-M];exact h);rw[E] at M;obtain⟨d,ad,aK⟩:=aps ao (by rw[<-M];exact h);exact⟨d,ad,G,by rw[M,aK]⟩
 have plain:∀(hu:∀n bF y,op ≠ .load n bF y) (R:∀mem tm,ek (nc ol run) mem tm (e3 kb op)=bx mem tm (e3 kb op)),r=wD k7 rec (fC (e3 kb op),cb (cF t) (e3 kb op)) (I3 dst op kb t m λks m'=>K ks m' (ir rec idx (fC (e3 kb op),cb (cF t) (e3 kb op))) ee) ->
   ∃v e m' zZ,ek (nc ol run) (b3 m) (cF t) (e3 kb op)=some (v,e)/\b3 m'=fA (b3 m) e/\q4 rec (fC (e3 kb op),cb (cF t) (e3 kb op)) k7=true /\
   r=K (hT dst t v) m' (ir rec idx (fC (e3 kb op),cb (cF t) (e3 kb op))) zZ/\(∀x∈ee,x∈zZ)/\(un=true->∀n bF y,op=.load n bF y->(n,bF,aI (cF t) y)∈zZ):=λhu R M=>by
  obtain⟨E,G⟩:=NM (by rw[<-M];exact h);rw[E] at M;rcases acB (dst:=dst) (op:=op) (kb:=kb) (t:=t) (m:=m) (K:=λks m'=>K ks m' (ir rec idx (fC (e3 kb op),cb (cF t) (e3 kb op))) ee) with ad|⟨v,e,m',ad,aK,bp⟩
  ·exact absurd (M.trans ad) h
  ·exact⟨v,e,m',ee,by rw[R];exact ad,aK,G,M.trans bp,λ_ h=>h,λ_ n bF y he=>absurd he (hu n bF y)⟩
 cases op
 case call f l =>
  cases ao:ol.contains f with
  |true=>simp only[uF,ao] at M;exact absurd M h
  |false =>
  simp only[uF,ao] at M;obtain⟨d,E,G,ad⟩:=call f l ao M;exact⟨_,none,m,ee,by simp only[e3,ek,E],rfl,G,ad,λ_ h=>h,λ_ n bF y he=>by cases he⟩
 case jH f l =>
  simp only[uF,nK,nL] at M
  split at M
  ·rename_i g aC;simp only[<-nL] at M
   cases ao:ol.contains g with
   |true=>rw[ao] at M;exact absurd M h
   |false =>
   rw[ao] at M;obtain⟨d,E,G,ad⟩:=call g l ao M;exact⟨_,none,m,ee,by simp only[e3,ek,aC,E],rfl,G,ad,λ_ h=>h,λ_ n bF y he=>by cases he⟩
  ·exact absurd M h
 case load nb bF x =>
  simp only[uF,nK,nL] at M;obtain⟨E,G⟩:=NM (by rw[<-M];exact h);rw[E] at M
  cases af:ib (b3 m) nb bF (aI (cF t) x) with
  |none=>rw[af] at M;exact absurd M h
  |some v =>
   rw[af] at M;refine⟨v,none,m,_,by simp only[e3,ek,bx,af];rfl,rfl,G,M,λy ag=>?_,λhu I7 az8 y' he=>?_⟩
   ·cases un with
    |false=>exact ag
    |true=>exact td _ ag
   ·cases he;subst hu;exact kV
 case ln k sz f l =>
  cases ao:ol.contains f with
  |false=>simp only[uF,ao] at M;exact absurd M h
  |true =>
  simp only[uF,ao,nK,nL] at M;obtain⟨E,G⟩:=NM (by rw[<-M];exact h);rw[E] at M;obtain⟨p,ad,aK⟩:=apv ao (by rw[<-M];exact h);rw[aK] at M
  cases dC:gB p.1 sz with
  |false=>rw[dC] at M;exact absurd M h
  |true =>
  rw[dC] at M
  cases U:zY (kb+k) 1000000000000 with
  |false=>rw[U] at M;exact absurd M h
  |true =>
  rw[U] at M;have gX:kb+k<1000000000000:=by simpa [Nat.blt_eq] using U
  exact⟨_,some (kb+k,bw (b3 m) (kb+k),p.2.flatten.map .L),_,ee,by simp only[e3,ek,ad,aq (B0 dC)],acy gX _ _ m,G,M,λ_ h=>h,λ_ n bF y he=>by cases he⟩
 case kQ=>exact absurd M h
 case j4=>exact absurd M h
 case ph=>exact absurd M h
 case pj=>exact absurd M h
 all_goals exact plain (λ_ _ _ he=>by cases he) (λ_ _=>rfl) M
def apx (a b:bn):nV (gg kb a) (gg kb b)=nV a b:=by
 unfold nV looks gg;simp only[apt]
def acQ:∀(cs pre:List bn) (r3:List Nat),w7 (pre.map (gg kb)) (cs.map (gg kb)) r3=w7 pre cs r3
 | [],_,_=>rfl
 |c::cs,pre,[]=>rfl
 |c::cs,pre,a::r3=>by
  simp only[hv,w7];have:=acQ cs (pre++[c]) r3;rw[pU,hv,cl] at this;rw[this]
  congr 1
  rw[acR,List.all_map]
  congr 1
  funext ⟨x,i⟩
  simp[apx]
def T3:∀(cs pre:List bn) (r3:List Nat),lp (pre.map (gg kb)) (cs.map (gg kb)) r3=lp pre cs r3
 | [],_,_=>rfl
 |c::cs,pre,r3=>by
  simp only[hv,lp];have:=T3 cs (pre++[c]) r3.tail;rw[pU,hv,cl] at this;rw[this]
  congr 1
  rw[acR,List.filter_map,rj]
  have E:((λx:bn×Nat => !((r3.headD 0).testBit x.2||tt (lo x.1.op) (lo (gg kb c).op))) ∘ Prod.map (gg kb) id)=λx:bn×Nat => !((r3.headD 0).testBit x.2||tt (lo x.1.op) (lo c.op)):=by
   funext ⟨x,i⟩
   simp[gg,acP]
  simp only[E]
  rfl
def acS {l:List Oper}{is:List bn}(h:l.mapM (mN P n 0 own ops)=some is):l.mapM (mN P n kb own ops)=some (is.map (gg kb)):=by
 induction l generalizing is with
 |nil=>simp at h;subst h;rfl
 |cons o l aF =>
  simp only[mx,Option.pure_def,Option.bind_eq_bind,Option.bind_eq_some_iff,bH] at h ⊢;obtain⟨x,J,xs,y5,rfl⟩:=h;exact⟨_,acH J,_,aF y5,rfl⟩
def NN (ol:List FuncId)(run:iX)(kb:Nat)(un:Nat->Bool)(hL:List (List Nat))(K:NK)(r:ca)(l:List bn)(idx:Nat)(t:eY)(m:ez)(rec:Rec)(ee:yj):Prop :=
 ∃t1 ba rec1 o2,r=K t1 ba rec1 o2/\(∀k,idx+D l<=k->rec1 k=none)/\(∀o∈ee,o∈o2)/\∀(b6:tK) (Jb:a1->Prop) (tail:List bn),
  (∀j x rec st h0 bX,idx<=j->j<idx+(D l)->iz (nc ol run) (l0 hL) j x rec st h0 bX->(un j=true->∀n bF y,x.op=.load n bF y->gv st.tm x.g=some true->(n,bF,aI st.tm y)∈o2)->b6 j x rec st h0 bX) ->
  xn b6 Jb (idx+D l) tail rec1 ⟨cF t1,b3 ba⟩->xn b6 Jb idx (l.map (gg kb)++tail) rec ⟨cF t,b3 m⟩
def NO (aE:n<=1000000){un:Nat->Bool}{hL:List (List Nat)}{K:NK}{r:ca}(bc:r ≠ .no):∀(l:List bn) (idx:Nat) (t:eY) (m:ez) (rec:Rec) (ee:yj),(∀x∈l,x.dst.all (λd=>decide (d<n))=true) ->
  (∀k,idx<=k->rec k=none)->r=W.ap (uG ol un l idx (hL.drop idx)) run kb t m rec ee K->NN ol run kb un hL K r l idx t m rec ee
 | [],idx,t,m,rec,ee,_,jQ,M=>⟨t,m,rec,ee,M,λk Q=>jQ k (by simpa using Q),λ_ h=>h,λb6 Jb tail _ h=>h⟩
 |i::l,idx,t,m,rec,ee,ae,jQ,M=>by
  have c7:r=W.ap (T2 ol i idx ((hL.drop idx).headD []) (un idx)) run kb t m rec ee λt m rec ee=>W.ap (uG ol un l (idx+1) (hL.drop idx).tail) run kb t m rec ee K:=M;rw[List.tail_drop] at c7;have acT:=ae i (by simp);have vE:∀x∈l,x.dst.all (λd=>decide (d<n))=true:=λx J=>ae x (by simp[J])
  have rest:∀t2 bJ jP Jc,r=W.ap (uG ol un l (idx+1) (hL.drop (idx+1))) run kb t2 bJ jP Jc K->(∀k,idx+1<=k->jP k=none)->(∀o∈ee,o∈Jc) ->
    (∀o2:yj,(∀o∈Jc,o∈o2)->iz (nc ol run) (l0 hL) idx (gg kb i) rec ⟨cF t,b3 m⟩ jP ⟨cF t2,b3 bJ⟩/\(un idx=true->∀n bF y,(gg kb i).op=.load n bF y->gv (cF t) (gg kb i).g=some true->(n,bF,aI (cF t) y)∈o2)) ->
    NN ol run kb un hL K r (i::l) idx t m rec ee:=λt2 bJ jP Jc E G ad aK=>by
   obtain⟨t1,ba,rec1,o2,cA,cY,ht,g8⟩:=NO aE bc l (idx+1) t2 bJ jP Jc vE G E;refine⟨t1,ba,rec1,o2,cA,λk Q=>cY k (by simp at Q;omega),λo aZ=>ht o (ad o aZ),λb6 Jb tail eB Z=>?_⟩;obtain⟨bp,bD⟩:=aK o2 ht;refine .cons (eB idx _ _ _ _ _ (bM _) (by simp) bp bD) (g8 b6 Jb tail (λa0 x rec st h0 bX a b=>eB a0 x rec st h0 bX (by omega) (by simp;omega)) ?_);have:idx+(i::l).length=idx+1+D l:=by simp;omega
   rw[this] at Z;exact Z
  unfold T2 at c7
  have skip:r=W.ap (uG ol un l (idx+1) (hL.drop (idx+1))) run kb (hT i.dst t .no) m rec ee K->gv (cF t) i.g=some false->NN ol run kb un hL K r (i::l) idx t m rec ee:=λE G =>
   rest _ _ _ _ E (λk Q=>jQ k (by omega)) (λ_ h=>h) λo2 _=>⟨.inl ⟨G,rfl,by rw[zX aE acT];rfl⟩,λ_ n bF y _ aC=>by
    have w9:gv (cF t) i.g=some true:=aC;rw[G] at w9;cases w9⟩
  have act:r=W.ap (uF ol i.dst i.op idx ((hL.drop idx).headD []) (un idx)) run kb t m rec ee (λt m rec ee=>W.ap (uG ol un l (idx+1) (hL.drop (idx+1))) run kb t m rec ee K)->gv (cF t) i.g=some true->NN ol run kb un hL K r (i::l) idx t m rec ee:=λE G=>by
   obtain⟨v,e,m',zZ,cz,dj,hR,iV,o3,mh⟩:=apw E bc;refine rest _ _ _ _ iV (λk Q=>by simp only[ir,ar (show ¬ k=idx by omega)];exact jQ k (by omega)) o3 λo2 aZ=>⟨.inr ⟨G,v,e,cz,λp q lA aM=>?_,rfl,by rw[zX aE acT,dj];rfl⟩,λhu n bF y ev _=>?_⟩
   ·have vm:p<idx:=by
     rcases fE p idx with bT|bT
     ·exact bT
     ·rw[jQ p bT] at aM;cases aM
    unfold q4 at hR;rw[List.all_eq_true] at hR
    have gw:p∈(hL.drop idx).headD []:=by
     unfold l0 at lA;rw[aq vm] at lA
     have:(hL.drop idx).headD []=hL.getD idx []:=by
      rw[List.headD_eq_head?_getD,List.head?_drop,eF]
     rw[this];exact List.contains_iff_mem.1 lA
    have:=hR p gw;rw[aM] at this;exact this
   ·exact aZ _ (mh hu n bF y (apu ev))
  split at c7
  ·rename_i aC;exact act c7 (by rw[aC];rfl)
  ·rename_i s b aC
   have aP:r=(match cF t s with
    |.L (.bool q)=>fJ (W.ap (uG ol un l (idx+1) (hL.drop (idx+1))) run kb (hT i.dst t .no) m rec ee K) (W.ap (uF ol i.dst i.op idx ((hL.drop idx).headD []) (un idx)) run kb t m rec ee (λt m rec ee=>W.ap (uG ol un l (idx+1) (hL.drop (idx+1))) run kb t m rec ee K)) (q==b)
    |.no=>W.ap (uG ol un l (idx+1) (hL.drop (idx+1))) run kb (hT i.dst t .no) m rec ee K
    |_=>ca.no):=c7
   split at aP
   ·rename_i q aM
    cases v9:(q==b) with
    |false=>rw[v9] at aP;exact skip aP (by rw[aC];simp only[gv,aM,v9])
    |true=>rw[v9] at aP;exact act aP (by rw[aC];simp only[gv,aM,v9])
   ·rename_i aM;exact skip aP (by rw[aC];simp only[gv,aM])
   ·exact absurd aP bc
end Go.Mini
namespace Go.Mini
open Go
variable {P:Program} {aU:Option I} {A:Nat->Prop} {b5 w:World} {c8 B:cG} {n kb:Nat} {own:List Nat} {ops:Array Oper} {o:Oper} {run:iX} {t:eY} {m:ez} {c:Nat} {d:Option I} {T:bl} {fG:Nat->Nat->Bool} {l:List bn}
def o4 (T:bl)(fG:Nat->Nat->Bool)(o5:Nat)(r4:bn->Rec->a1->a1->Prop)(S:Nat->bn->(Nat->I)->Prop):tK:=λi x rec st h0 bX =>
 if i=o5 then h0=rec/\r4 x rec st bX else iz T fG i x rec st h0 bX/\S i x st.tm
def acU {o5:Nat}{r4:bn->Rec->a1->a1->Prop}{S:Nat->bn->(Nat->I)->Prop}:G3 (o4 T fG o5 r4 S):=by
 intro i x rec st h0 bX h k Q;unfold o4 at h
 split at h
 ·rw[h.1]
 ·exact Qu h.1 Q
def NP {i j:Nat}(U:((fo ops.toList []).getD j 0).testBit i=true)(listed:Array Bool)(dP:vw ops listed)(O:i∈Region.ready .any ops listed)(aa:j∈Region.ready .any ops listed):False:=by
 obtain⟨_,o,aZ,dQ⟩:=mem_ready.1 aa;have E:=XR dP j o aZ dQ i U;have al:=(mem_ready.1 O).1;rcases fE i listed.size with bT|bT
 ·simp[bT] at al E;rw[al] at E;cases E
 ·simp[Array.getElem?_eq_none bT] at E
def k8 (o6:List Nat)(g j:Nat):Bool:=!(gB j g) && !((o6.getD g 0).testBit j) && !((o6.getD j 0).testBit g)
def acV {i:Nat}{x:bn}{rec h0:Rec}{st bX:a1}(h:iz T fG i x rec st h0 bX):∃v,bX.tm=put st.tm x.dst v:=by
 rcases h with ⟨_,_,rfl⟩|⟨_,m,e,_,_,_,rfl⟩
 ·exact⟨_,rfl⟩
 ·exact⟨_,rfl⟩
def acW {o5:Nat}{r4:bn->Rec->a1->a1->Prop}{S:Nat->bn->(Nat->I)->Prop}(ae:pr ops l=true)(apy:fG=l0 (lp [] l (fo ops.toList [])))
  (cm:∀i x tm tm',(∀s∈looks x,tm s=tm' s)->S i x tm->S i x tm')
  (E:∀(j:Nat) (x y:bn) rec st rec1 st1 jg,k8 (fo ops.toList []) o5 j=true->l[o5]?=some x->l[j]?=some y->nV y x=true->rec j=none->iz T fG j y rec st rec1 st1->S j y st.tm->r4 x rec1 st1 jg->∃iM,r4 x rec st iM/\iz T fG j y rec iM rec1 jg)
  (G:∀(j:Nat) (x y:bn) rec st jP st1 jg,k8 (fo ops.toList []) o5 j=true->l[o5]?=some x->l[j]?=some y->nV x y=true->rec j=none->r4 x rec st st1->iz T fG j y rec st1 jP jg->S j y st1.tm->∃iM,iz T fG j y rec st jP iM/\S j y st.tm/\r4 x jP iM jg)
  (ad:∀(x:bn) rec st bX,r4 x rec st bX->l[o5]?=some x->(∃v,bX.tm=put st.tm x.dst v)\/(∀j y,l[j]?=some y->k8 (fo ops.toList []) o5 j=false)):G2 (o4 T fG o5 r4 S) ops l:=by
 intro i j x y hJ O aa;rcases Qw ae i j x y hJ O aa with h|⟨dS,h8⟩
 ·exact .inl h
 ·by_cases wE:i=o5
  ·subst wE;have hK:j≠i:=λh=>hJ h.symm
   cases hu:k8 (fo ops.toList []) i j with
   |false =>
    unfold k8 at hu;simp only[acX,Jd] at hu;rcases hu with (hu|hu)|hu
    ·exact absurd (B0 hu) hK
    ·exact .inl λlisted dP E G=>NP hu listed dP G E
    ·exact .inl λlisted dP E G=>NP hu listed dP E G
   |true =>
    refine .inr λrec st rec1 st1 jP jg ly uH aL ax=>?_;unfold o4 at aL ax ⊢;rw[aq rfl] at aL;rw[ar hK] at ax;obtain⟨rfl,aL⟩:=aL;obtain⟨iM,cz,dj,hR⟩:=G j x y _ _ _ _ _ hu O aa dS uH aL ax.1 ax.2;exact⟨jP,iM,by rw[ar hK];exact⟨cz,dj⟩,by rw[aq rfl];exact⟨rfl,hR⟩⟩
  ·by_cases NQ:j=o5
   ·subst NQ
    cases hu:k8 (fo ops.toList []) j i with
    |false =>
     unfold k8 at hu;simp only[acX,Jd] at hu;rcases hu with (hu|hu)|hu
     ·exact absurd (B0 hu) hJ
     ·exact .inl λlisted dP E G=>NP hu listed dP E G
     ·exact .inl λlisted dP E G=>NP hu listed dP G E
    |true =>
     refine .inr λrec st rec1 st1 jP jg ly uH aL ax=>?_;unfold o4 at aL ax ⊢;rw[ar hJ] at aL;rw[aq rfl] at ax;obtain⟨rfl,ax⟩:=ax;obtain⟨iM,cz,dj⟩:=E i y x _ _ _ _ _ hu aa O dS ly aL.1 aL.2 ax
     have R:S i x iM.tm:=by
      rcases ad y rec st iM cz aa with ⟨v,ai⟩|kz
      ·rw[ai];exact cm i x _ _ (λs R=>(kW λae=>(AL dS).2.2 s ae R).symm) aL.2
      ·rw[kz i x O] at hu;cases hu
     exact⟨rec,iM,by rw[aq rfl];exact⟨rfl,cz⟩,by rw[ar hJ];exact⟨dj,R⟩⟩
   ·refine .inr λrec st rec1 st1 jP jg ly uH aL ax=>?_;unfold o4 at aL ax ⊢;rw[ar wE] at aL;rw[ar NQ] at ax;subst apy;obtain⟨vv,iM,cz,dj⟩:=iz.comm hJ dS h8 (Ls _) ly aL.1 ax.1;obtain⟨v,ai⟩:=acV aL.1;obtain⟨oy,j6⟩:=acV cz
    have eX:S j y st.tm:=by
     have h:=ax.2;rw[ai] at h;exact cm j y _ _ (λs R=>kW λae=>(AL dS).1 s ae R) h
    have hj:S i x iM.tm:=by
     rw[j6];exact cm i x _ _ (λs R=>(kW λae=>(AL dS).2.2 s ae R).symm) aL.2
    exact⟨vv,iM,by rw[ar NQ];exact⟨cz,eX⟩,by rw[ar wE];exact⟨dj,hj⟩⟩
structure k9 where
 f:FuncId
 B1:List I
 jY:Mem
 gA:Mem
 r:I
 ha:Option (Nat×Key×List I)
structure E7 (a9:k9):Prop where
 B2:∀eP k z,a9.ha=some (eP,k,z)->a9.jY k=none
 cz:∀eP k z,a9.ha=some (eP,k,z)->a9.gA k=none
 apz:∀eP k z,a9.ha=some (eP,k,z)->freeM k a9.jY
 apA:∀eP k z,a9.ha=some (eP,k,z)->od k a9.B1=true
 apB:∀eP k z,a9.ha=some (eP,k,z)->od k z=true
def k9.made (a9:k9)(rec:Rec):Option (Key×List I):=match a9.ha with
 |none=>none
 |some (eP,k,z)=>match rec eP with
  |none=>none
  |some _=>some (k,z)
def oe (mem:Mem):Option (Key×List I)->Mem
 |none=>mem
 |some (k,z)=>aV mem k 0 z
def B3 (a9:k9)(x:bn)(rec:Rec)(st bX:a1):Prop :=
 ∃args,x.op=.call a9.f args/\x.g=none/\args.map (aI st.tm)=a9.B1/\st.mem=oe a9.jY (a9.made rec)/\bX=⟨put st.tm x.dst a9.r,oe a9.gA (a9.made rec)⟩
def wF (a9:k9)(un:Nat->Bool)(i:Nat)(x:bn)(tm:Nat->I):Prop:=un i=true->∀n bF y,x.op=.load n bF y->gv tm x.g=some true->∃v,ib a9.jY n bF (aI tm y)=some v/\ib a9.gA n bF (aI tm y)=some v
def acY {a9:k9}{un:Nat->Bool}(i:Nat)(x:bn)(tm tm':Nat->I)(h:∀s∈looks x,tm s=tm' s)(R:wF a9 un i x tm):wF a9 un i x tm':=by
 intro hu n bF y ev aC;have E:gv tm x.g=gv tm' x.g:=GZ λs b R=>h s (G0 R);have G:aI tm y=aI tm' y:=dR λs R=>h s (tI (by rw[ev];exact R));rw[<-G];exact R hu n bF y ev (E.trans aC)
inductive Je (a9:k9) (j:Nat) (y:bn):Prop
 |quiet (h:lo y.op=0) (aa:∀eP k z,a9.ha=some (eP,k,z)->j≠eP)
 |load (n:Nat) (bF:Bool) (x:bm) (h:y.op=.load n bF x) (aa:∀eP k z,a9.ha=some (eP,k,z)->j≠eP)
 |alloc (k:Key) (z:List I) (h:a9.ha=some (j,k,z)) (ev:y.op=.alloc k z)
def apC {a9:k9}(eS:E7 a9){n:Nat}{bF:Bool}{a v:I}(al:ib a9.jY n bF a=some v)(E:ib a9.gA n bF a=some v)(rec:Rec):ib (oe a9.jY (a9.made rec)) n bF a=some v/\ib (oe a9.gA (a9.made rec)) n bF a=some v:=by
 unfold k9.made
 cases hb:a9.ha with
 |none=>exact⟨al,E⟩
 |some p =>
  obtain⟨eP,k,z⟩:=p;simp only
  cases rec eP with
  |none=>exact⟨al,E⟩
  |some _ =>
   have bc:∀j∈keyOf a,j≠k:=by
    rintro j aa rfl;have hm:=eS.B2 _ _ _ hb
    cases a<;>simp[keyOf] at aa
    ·subst aa;simp[ib] at al
    ·subst aa;simp[ib,hm] at al
   simp only[oe];rw[Qo (mem':=a9.jY) (λj aa=>by simp[aV,bc j aa]),Qo (mem:=aV a9.gA k 0 z) (mem':=a9.gA) (λj aa=>by simp[aV,bc j aa])];exact⟨al,E⟩
def acZ {a9:k9}(eS:E7 a9){un:Nat->Bool}{j:Nat}{y:bn}{tm:Nat->I}(hu:un j=true)(U:Je a9 j y)(uI:∀k z,y.op ≠ .alloc k z)(R:wF a9 un j y tm)(aC:gv tm y.g=some true)(rec:Rec):
  ek T (oe a9.gA (a9.made rec)) tm y.op=ek T (oe a9.jY (a9.made rec)) tm y.op/\fC y.op=false:=by
 cases U with
 |quiet h _ =>
  obtain⟨E,G⟩:=Qq (tm:=tm) h;refine⟨Qp (λbP f l Z=>?_) (λx J=>by rw[E] at J;cases J),G⟩;rw[Z] at G
  cases G
 |load n bF x h _ =>
  obtain⟨v,al,E⟩:=R hu n bF x h aC;obtain⟨G,ad⟩:=apC eS al E rec;rw[h];exact⟨by simp only[ek,bx,G,ad],rfl⟩
 |alloc k z _ h=>exact absurd h (uI k z)
def ac0 {mem:Mem}{tm:Nat->I}{op:fe}{m:I}{e:Option (Key×Nat×List I)}(h:ek T mem tm op=some (m,e))(hw:fC op=false):e=none:=by
 rcases Lo h with h|⟨h,_⟩
 ·exact h
 ·rw[hw] at h;cases h
def ac1 {a9:k9}{rec:Rec}{j:Nat}{p:Bool×List kt}(aa:∀eP k z,a9.ha=some (eP,k,z)->j≠eP):a9.made (ir rec j p)=a9.made rec:=by
 unfold k9.made
 cases hb:a9.ha with
 |none=>rfl
 |some q =>
  obtain⟨eP,k,z⟩:=q;simp only[ir,ar (λh=>aa eP k z hb h.symm:¬ eP=j)]
def ac2 {a9:k9}{j:Nat}{y:bn}(U:Je a9 j y)(uI:∀k z,y.op ≠ .alloc k z):∀eP k z,a9.ha=some (eP,k,z)->j≠eP:=by
 cases U with
 |quiet _ aa=>exact aa
 |load _ _ _ _ aa=>exact aa
 |alloc k z _ h=>exact absurd h (uI k z)
def apD {a9:k9}(eS:E7 a9){un:Nat->Bool}{j:Nat}{x y:bn}{rec rec1:Rec}{st st1 jg:a1}(hu:un j=true)(U:Je a9 j y)(dS:nV y x=true)(uH:rec j=none)
  (he:iz T fG j y rec st rec1 st1) (cm:wF a9 un j y st.tm) (eB:B3 a9 x rec1 st1 jg):∃iM,B3 a9 x rec st iM/\iz T fG j y rec iM rec1 jg:=by
 obtain⟨a5,gX,Z⟩:=AL dS;obtain⟨args,cA,cY,ht,g8,rfl⟩:=eB;have B4:∀m,args.map (aI (put st.tm y.dst m))=args.map (aI st.tm):=λm=>map_congr λs R=>kW λae=>a5 s ae (tI (by rw[cA];exact R));have AM:∀m,gv (put st.tm x.dst m) y.g=gv st.tm y.g:=λm=>GZ λs b R=>kW λae=>Z s ae (G0 R);have G1:∀mem m,ek T mem (put st.tm x.dst m) y.op=ek T mem st.tm y.op:=λmem m=>Ll λs R=>kW λae=>Z s ae (tI R);have y0:∀m,cb (put st.tm x.dst m) y.op=cb st.tm y.op:=λm=>Lm λs R=>kW λae=>Z s ae (tI R);have pD:∀m m',put (put st.tm y.dst m) x.dst m'=put (put st.tm x.dst m') y.dst m:=λm m'=>put_comm gX;rcases he with ⟨aC,rfl,rfl⟩|⟨aC,m,e,R,Q,rfl,rfl⟩
 ·exact⟨_,⟨args,cA,cY,by rw[<-ht,B4],g8,rfl⟩,.inl ⟨by simp only[AM];exact aC,rfl,by simp only[pD]⟩⟩
 ·by_cases uI:∃k z,y.op=.alloc k z
  ·obtain⟨k,z,ev⟩:=uI
   cases U with
   |quiet h _=>rw[ev] at h;cases h
   |load _ _ _ h _=>rw[ev] at h;cases h
   |alloc k' Ha hb h =>
    rw[ev] at h
    cases h;have n5:a9.made (ir rec j (fC y.op,cb st.tm y.op))=some (k,z):=by simp only[k9.made,hb,ir,if_true]
    have mV:a9.made rec=none:=by simp only[k9.made,hb,uH]
    rw[ev] at R;simp only[ek,bx,bH,ei] at R;obtain⟨rfl,rfl⟩:=R;rw[n5] at g8 ⊢;simp only[fA,oe] at g8;have AF:=eS.B2 _ _ _ hb
    have nr:bw st.mem k=0:=by
     have:=congrFun g8 k;simp[aV] at this;exact this
    have B5:st.mem k=none:=by
     unfold bw at nr
     split at nr
     ·assumption
     ·omega
    have gw:st.mem=a9.jY:=by
     funext q
     by_cases aM:q=k
     ·subst aM;rw[B5,AF]
     ·have:=congrFun g8 q;simp[aV,aM] at this;exact this
    refine⟨⟨put st.tm x.dst a9.r,a9.gA⟩,⟨args,cA,cY,by rw[<-ht,B4],by rw[mV];exact gw,by rw[mV];rfl⟩,.inr ⟨by simp only[AM];exact aC,.ptr k 0 0,some (k,0,z),?_,?_,?_,?_⟩⟩
    ·have hc:bw a9.gA k=0:=by simp only[bw,eS.cz _ _ _ hb]
     rw[ev];simp only[ek,bx,hc]
    ·simp only[y0];exact Q
    ·simp only[y0]
    ·simp only[nr,oe,fA,pD]
  ·have Jf:∀k z,y.op ≠ .alloc k z:=λk z h=>uI ⟨k,z,h⟩;have aa:=ac2 U Jf;have vo:=ac1 (rec:=rec) (p:=(fC y.op,cb st.tm y.op)) aa;rw[vo] at g8 ⊢;obtain⟨T4,hw⟩:=acZ (T:=T) eS hu U Jf cm aC rec;have qh:=ac0 R hw;subst qh;simp only[fA] at g8;rw[g8] at R;refine⟨⟨put st.tm x.dst a9.r,oe a9.gA (a9.made rec)⟩,⟨args,cA,cY,by rw[<-ht,B4],g8,rfl⟩,.inr ⟨by simp only[AM];exact aC,m,none,?_,?_,?_,?_⟩⟩
   ·simp only[G1];exact T4.trans R
   ·simp only[y0];exact Q
   ·simp only[y0]
   ·simp only[fA,pD]
def apE {a9:k9}(eS:E7 a9){un:Nat->Bool}{j:Nat}{x y:bn}{rec jP:Rec}{st st1 jg:a1}(hu:un j=true)(U:Je a9 j y)(dS:nV x y=true)(uH:rec j=none)
  (eB:B3 a9 x rec st st1) (he:iz T fG j y rec st1 jP jg) (cm:wF a9 un j y st1.tm):∃iM,iz T fG j y rec st jP iM/\wF a9 un j y st.tm/\B3 a9 x jP iM jg:=by
 obtain⟨a5,gX,Z⟩:=AL dS;obtain⟨args,cA,cY,ht,g8,rfl⟩:=eB;have B4:∀m,args.map (aI (put st.tm y.dst m))=args.map (aI st.tm):=λm=>map_congr λs R=>kW λae=>Z s ae (tI (by rw[cA];exact R));have AM:∀m,gv (put st.tm x.dst m) y.g=gv st.tm y.g:=λm=>GZ λs b R=>kW λae=>a5 s ae (G0 R);have G1:∀mem m,ek T mem (put st.tm x.dst m) y.op=ek T mem st.tm y.op:=λmem m=>Ll λs R=>kW λae=>a5 s ae (tI R);have y0:∀m,cb (put st.tm x.dst m) y.op=cb st.tm y.op:=λm=>Lm λs R=>kW λae=>a5 s ae (tI R);have pD:∀m m',put (put st.tm x.dst m) y.dst m'=put (put st.tm y.dst m') x.dst m:=λm m'=>put_comm gX;have NR:wF a9 un j y st.tm:=acY j y _ _ (λs R=>kW λae=>a5 s ae R) cm;rcases he with ⟨aC,rfl,rfl⟩|⟨aC,m,e,R,Q,rfl,rfl⟩<;>simp only[AM,G1,y0] at *
 ·exact⟨_,.inl ⟨aC,rfl,rfl⟩,NR,⟨args,cA,cY,by rw[B4];exact ht,g8,by simp only[pD]⟩⟩
 ·by_cases uI:∃k z,y.op=.alloc k z
  ·obtain⟨k,z,ev⟩:=uI
   cases U with
   |quiet h _=>rw[ev] at h;cases h
   |load _ _ _ h _=>rw[ev] at h;cases h
   |alloc k' Ha hb h =>
    rw[ev] at h
    cases h;have n5:a9.made (ir rec j (fC y.op,cb st.tm y.op))=some (k,z):=by simp only[k9.made,hb,ir,if_true]
    have mV:a9.made rec=none:=by simp only[k9.made,hb,uH]
    rw[ev] at R;rw[mV] at g8 R;simp only[oe] at g8 R;have AF:bw a9.jY k=0:=by simp only[bw,eS.B2 _ _ _ hb]
    have hc:bw a9.gA k=0:=by simp only[bw,eS.cz _ _ _ hb]
    simp only[ek,bx,hc,bH,ei] at R;obtain⟨rfl,rfl⟩:=R;refine⟨⟨put st.tm y.dst (.ptr k 0 0),aV a9.jY k 0 z⟩,.inr ⟨aC,.ptr k 0 0,some (k,0,z),?_,Q,rfl,?_⟩,NR,⟨args,cA,cY,by rw[B4];exact ht,by rw[n5];rfl,?_⟩⟩
    ·rw[ev,g8];simp only[ek,bx,AF]
    ·rw[g8]
     rfl
    ·rw[mV,n5];simp only[pD,oe,fA]
  ·have Jf:∀k z,y.op ≠ .alloc k z:=λk z h=>uI ⟨k,z,h⟩;have aa:=ac2 U Jf;have vo:=ac1 (rec:=rec) (p:=(fC y.op,cb st.tm y.op)) aa;obtain⟨T4,hw⟩:=acZ (T:=T) eS hu U Jf NR aC rec;have qh:=ac0 R hw;subst qh;rw[T4] at R;refine⟨⟨put st.tm y.dst m,st.mem⟩,.inr ⟨aC,m,none,by rw[g8];exact R,Q,rfl,rfl⟩,NR,⟨args,cA,cY,by rw[B4];exact ht,by rw[vo];exact g8,?_⟩⟩
   rw[vo];simp only[fA,pD]
def apF {own:List Nat}{ak:Exit->Act->World->Prop}{a9:k9}(eS:E7 a9)(eb:r1 P run){x:bn}{rec:Rec}{st bX:a1}{a:Act}{ba bJ:ez}{bU c6:Nat}(ew:run a9.f a9.B1 ba bU=.ok a9.r bJ c6)(al:a9.jY=b3 ba)(E:a9.gA=b3 bJ)
  (O:Dm P n kb own ops o x) (eB:B3 a9 x rec st bX) (R:dr aU n A b5 c8 a st w B):o.wp P a w (λck ah=>∃aB,dr aU n A b5 c8 ck bX ah aB) ak:=by
 obtain⟨args,cA,cY,ht,g8,rfl⟩:=eB;have aA:gj P kb own o.dst o.type o.op=some x.op:=getD_some O.op (by rw[cA];simp);rw[cA] at aA;obtain⟨I5,Z,hg,iy⟩:=GS aA;have bY:=py R.jA iy;rw[ht] at bY;have h:=eb a9.f a9.B1 ba bU;rw[ew] at h;obtain⟨fM,ac3⟩:=h;unfold Oper.wp;rw[vz Z hg fM,O.dst];have a3:=R.ok.b4;rw[g8] at a3
 cases z0:a9.made rec with
 |none =>
  rw[z0] at a3;simp only[oe] at a3;rw[al] at a3;refine Calls.mono (ac3 A w B _ a3 bY) λe ah he=>?_;obtain⟨u,aB,rfl,dc,iw⟩:=he;refine⟨aB,R.put ?_ iw O.lt⟩;simp only[oe,E];exact dc
 |some p =>
  obtain⟨k,z⟩:=p
  have hb:∃eP,a9.ha=some (eP,k,z):=by
   unfold k9.made at z0
   split at z0
   ·cases z0
   ·rename_i eP k' Ha hb
    split at z0
    ·cases z0
    ·cases z0;exact⟨eP,hb⟩
  obtain⟨eP,hb⟩:=hb;rw[z0] at a3;simp only[oe] at a3;obtain⟨e,Q,_⟩:=a3.c1 k 0 z (by simp[aV]);have g0:=apk a3 Q (eS.B2 _ _ _ hb) (eS.apz _ _ _ hb);have tE:cj w (bg (BZ A e) (mg B k)) (mg B k) a9.B1 (I5.args.toList.map a.eval):=⟨bY.1,λi m v hm ai=>(bY.2 i m v hm ai).cut (λb U=>(T0 Q b).1 U) (BY (eS.apA _ _ _ hb) m (du hm))⟩;rw[al] at g0;refine Calls.mono (ac3 _ w _ _ g0 tE) λe' ah he=>?_;obtain⟨u,hE,rfl,dc,iw⟩:=he;have n5:b3 bJ k=none:=by rw[<-E];exact eS.cz _ _ _ hb
  obtain⟨iA,dm⟩:=apm a3 Q (eS.apB _ _ _ hb) dc n5;refine⟨_,R.put ?_ (dm _ _ iw) O.lt⟩;simp only[oe,E];exact iA
end Go.Mini
