/- A part of the proof. -/
import Derived.Test.YtdbkjjoedjfmpaaGreatM02
set_option linter.unusedSimpArgs false
set_option linter.unusedVariables false
set_option maxRecDepth 100000
set_option maxHeartbeats 4000000
noncomputable section
open Bool renaming and_eq_true->gb,and_false->jB,and_true->sU,eq_iff_iff->ym,false_and->fr,false_eq_true->kE,false_or->wD,not_eq_false'->ahU,not_eq_true'->vy,not_false->cp,not_true->bT,or_false->lA,or_true->pR,true_and->fP,true_or->wC
open Decidable renaming em->dk
open Int renaming add_comm->zB,add_zero->k9,cast_ofNat_Int->m3,fdiv_eq_ediv_of_nonneg->ahj,le_of_lt->QB,lt_trichotomy->vl,mul_add->jl,mul_assoc->jm,mul_comm->oo,mul_fdiv_add_fmod->QO,mul_ne_zero->Bx,mul_nonneg->vh,mul_one->sY,mul_zero->vk,natAbs_natCast->lL,natAbs_neg->yj,natCast_pos->C9,natCast_zero->mC,one_mul->o8,pow_pos->Ik,pow_succ->om,reducePow->ahi,sign_eq_neg_one_of_neg->nT,sign_eq_one_of_pos->ht,sign_mul->pa,sign_mul_natAbs->Iq,sign_neg->Fh,sign_sign->Bs,sign_zero->zU,sub_zero->CZ,tdiv_eq_ediv_of_nonneg->Ib,tdiv_nonneg->ahY,tmod_eq_emod_of_nonneg->LY,tmod_nonneg->ahX,toNat_natCast->iY,zero_mul->vo,zero_sub->ahz
open List renaming all_cons->xW,append_assoc->hd,append_nil->gD,drop_eq_getElem_cons->iC,drop_set_of_lt->u0,drop_zero->nP,findIdx?_eq_none_iff->ahB,findIdx?_eq_some_iff_getElem->ahA,flatten_nil->ahF,getD_eq_getElem?_getD->ez,getElem?_eq_getElem->bB,getElem?_eq_none->iD,getElem?_map->aW,getElem_mem->nM,length->D,length_append->gj,length_cons->kB,length_map->ah,length_nil->og,length_pos_iff->Me,length_singleton->s7,length_take->fU,map_cons->eI,map_nil->b6,map_take->ahG,mem_replicate->H8,mem_singleton->ye,replicate->en,take_add_one->g2,take_length->kN,take_of_length_le->dH
open List.cons renaming injEq->bf
open Nat renaming div_div_eq_div_mul->ahK,eq_zero_or_pos->k3,gcd->hg,gcd_comm->Mf,le_of_lt->XI,le_refl->cI,le_trans->eP,lt_of_div_lt_div->ahL,lt_of_le_of_lt->vg,lt_of_lt_of_le->Ee,lt_or_ge->hn,max_eq_right->YR,min_eq_left->pK,mod_lt->pS,mul_comm->tU,mul_le_mul_right->o0,mul_lt_mul_of_pos_left->ahQ,mul_one->cD,pos_of_ne_zero->HM,pow_succ->wF,reduceEqDiff->cx,reduceMul->ahh,zero_div->ahJ,zero_le->fA
open Option renaming bind_none->m5
open Option.some renaming inj->pL,injEq->cO
open Prod renaming ext->ei,fst->pd
open Prod.mk renaming injEq->fJ
open Rat renaming divInt->mH,divInt_mul_divInt->aho,neg_divInt_neg->ahk,num_divInt_den->Fu,sub_eq_add_neg->Dd
namespace Go.Mini
open Go
def df (n:Int):Prop:=-9223372036854775808<=n/\n<=9223372036854775807
theorem ati {n:Nat}(h:n<=9223372036854775808):n<dP:=by
 unfold dP;refine Ee (m:=1048576^4) ?_ (Nat.pow_le_pow_right (by omega) (by omega));omega
theorem uh {n:Int}(h:df n):n.natAbs<dP:=ati (by unfold df at h;omega)
theorem XF (n:Int)(G:-18446744073709551616<=n)(J:n<0):IntKind.u64.wrap n=n+18446744073709551616:=by
 unfold IntKind.wrap;simp[IntKind.bits,IntKind.signed];omega
def XG:=cy x2 λ(n:Int)=>cT (df n) (.same (.agg (bU (bd n))))
@[go_sem] theorem aJe (n:Int)(H:df n):XG [.int .i64 n]=some (.same (.agg (bU (bd n)))):=(cF Bd n).trans (cY H _)
theorem atj (T:bm)(fV:T qw=aO CX)(n:Int)(H:df n):WP T Wl (.same (.agg (bU (bd n)))) [.I (.int .i64 n)]:=by
 refine cH ?_;simp only[Wl];have ly:=H;unfold df at ly;obtain⟨xL,wk⟩:=ly;have Q:∀s:Int,(n≠0->s=n.sign)->jM s (aL n.natAbs)=bd n:=λs h=>ox rfl λb5=>h (by omega);have hlen:(aL n.natAbs).length<=60:=g3.2 (uh H);rcases dk (n<0) with lD|iX
 ·have hw:=XF n (by omega) lD
  have fQ:IntKind.u64.wrap (0-(n+18446744073709551616))=(n.natAbs:Int):=by
   rw[XF _ (by omega) (by omega)];omega
  simp only[go_sem,go_sem_proc,fV,lD,hw,fQ,decide_true];refine c9 [2,3] [150002] (λ((u,g,l):Nat×Nat×List Int) tm mem=>u<=9223372036854775808/\aL n.natAbs=l++aL u/\tm 4=.I (.int .u64 u)/\tm 5=.ref 150021 g 1 0 (D l)/\mem 150021=some (g,aS ae l)) (λ(u,_)=>u) (n.natAbs,0,[]) (by refine⟨by omega,rfl,?_,rfl,rfl⟩;rfl) ?_;intro vs ms aK aF;simp only[go_sem,go_sem_proc,fV] at aK aF;subst aK aF;rintro⟨u,g,l⟩ tm mem L hm ⟨hu,ab,aP,bh,pY⟩;simp only[go_sem,go_sem_proc,fV,bf] at L hm;obtain⟨J,af⟩:=L;rcases k3 u with aj|mj
  ·subst aj;rw[tY,gD] at ab;rw[ab] at Q hlen;have wX:(D l)<=1000000:=by omega
   have jL:=Q (-1) (λ_=>by exact (nT lD).symm);simp only[go_sem,go_sem_proc,fV,J,af,aP,bh,hm,pY,jL,wX,bU,mC,m3,ah,show ¬ ((0:Int)>0) by omega,decide_false,k6 hO,kN]
   repeat' (first|refine al ?_ ?_|fail)<;>intro h<;>simp only[h,go_sem,go_sem_proc,fV,J,af,aP,bh,hm,pY,jL,wX,bU,mC,m3,ah,show ¬ ((0:Int)>0) by omega,decide_false,k6 hO,kN]
  ·have Bl:(D l)<=60:=by
    have:=congrArg D ab;rw[gj] at this;omega
   have g1:decide ((u:Int)>0)=true:=c5;have cW:∀a:Int,lr 150021 g 1 (D l) 8 1 [.I (.int .i64 a)] (some (g,aS ae l))=_:=λa=>ka hO xY 150021 g 8 l a rfl (by omega) (by omega);have hand:=af6 u ⟨by omega,by omega⟩
   have Mh:IntKind.i64.wrap ((u:Int)%1048576)=(u:Int)%1048576:=wrap64 _ (by omega) (by omega);simp only[go_sem,go_sem_proc,fV,J,af,aP,bh,hm,pY,g1,cW,hand,Mh,pT,show ((20:Int)<0)=False from by simp,if_false,ah,bf]
   repeat' (first|refine al ?_ ?_|fail)<;>intro h<;>simp only[h,go_sem,go_sem_proc,fV,J,af,aP,bh,hm,pY,g1,cW,hand,Mh,pT,show ((20:Int)<0)=False from by simp,if_false,ah,bf]
   refine⟨(u/1048576,g+1,l++[(u:Int)%1048576]),by dsimp only;omega,by dsimp only;omega,by dsimp only;rw[hd,ab,wE mj];rfl,by first|rfl|(dsimp only;rw[Bb _ ⟨by omega,by omega⟩];rfl),by simp,by simp[go_sem]⟩
 ·have hw:IntKind.u64.wrap n=(n.natAbs:Int):=by rw[Bb _ ⟨by omega,by omega⟩];omega
  simp only[go_sem,go_sem_proc,fV,iX,hw,decide_false];refine c9 [2,3] [150002] (λ((u,g,l):Nat×Nat×List Int) tm mem=>u<=9223372036854775808/\aL n.natAbs=l++aL u/\tm 4=.I (.int .u64 u)/\tm 5=.ref 150021 g 1 0 (D l)/\mem 150021=some (g,aS ae l)) (λ(u,_)=>u) (n.natAbs,0,[]) (by refine⟨by omega,rfl,?_,rfl,rfl⟩;rfl) ?_;intro vs ms aK aF;simp only[go_sem,go_sem_proc,fV] at aK aF;subst aK aF;rintro⟨u,g,l⟩ tm mem L hm ⟨hu,ab,aP,bh,pY⟩;simp only[go_sem,go_sem_proc,fV,bf] at L hm;obtain⟨J,af⟩:=L;rcases k3 u with aj|mj
  ·subst aj;rw[tY,gD] at ab;rw[ab] at Q hlen;have wX:(D l)<=1000000:=by omega
   have jL:=Q 1 (λ_=>by exact (ht (by omega)).symm);simp only[go_sem,go_sem_proc,fV,J,af,aP,bh,hm,pY,jL,wX,bU,mC,m3,ah,show ¬ ((0:Int)>0) by omega,decide_false,k6 hO,kN]
   repeat' (first|refine al ?_ ?_|fail)<;>intro h<;>simp only[h,go_sem,go_sem_proc,fV,J,af,aP,bh,hm,pY,jL,wX,bU,mC,m3,ah,show ¬ ((0:Int)>0) by omega,decide_false,k6 hO,kN]
  ·have Bl:(D l)<=60:=by
    have:=congrArg D ab;rw[gj] at this;omega
   have g1:decide ((u:Int)>0)=true:=c5;have cW:∀a:Int,lr 150021 g 1 (D l) 8 1 [.I (.int .i64 a)] (some (g,aS ae l))=_:=λa=>ka hO xY 150021 g 8 l a rfl (by omega) (by omega);have hand:=af6 u ⟨by omega,by omega⟩
   have Mh:IntKind.i64.wrap ((u:Int)%1048576)=(u:Int)%1048576:=wrap64 _ (by omega) (by omega);simp only[go_sem,go_sem_proc,fV,J,af,aP,bh,hm,pY,g1,cW,hand,Mh,pT,show ((20:Int)<0)=False from by simp,if_false,ah,bf]
   repeat' (first|refine al ?_ ?_|fail)<;>intro h<;>simp only[h,go_sem,go_sem_proc,fV,J,af,aP,bh,hm,pY,g1,cW,hand,Mh,pT,show ((20:Int)<0)=False from by simp,if_false,ah,bf]
   refine⟨(u/1048576,g+1,l++[(u:Int)%1048576]),by dsimp only;omega,by dsimp only;omega,by dsimp only;rw[hd,ab,wE mj];rfl,by first|rfl|(dsimp only;rw[Bb _ ⟨by omega,by omega⟩];rfl),by simp,by simp[go_sem]⟩
theorem atk (k:IntKind)(a b:Int):bits .or k a b=bits .or k b a:=by
 simp only[bits,BitVec.or_comm]
theorem atl (u d:Int)(i:Nat)(U:(2:Int)^i<=1152921504606846976)(hu:0<=u/\u<2^i)(ab:0<=d)(h:d*2^i<18446744073709551616):bits .or .u64 u (d*2^i)=u+d*2^i:=by
 rw[atk,zB];have aj:0<=d*2^i:=vh ab (by exact QB (Ik (by omega)));refine bits_join .u64 64 (by decide) (λn G J=>Bb n ⟨G,by omega⟩) i _ _ aj (Int.mul_emod_left _ _) (by omega) hu.1 hu.2 (by omega)
instance (n:Int):Decidable (df n):=by unfold df;exact inferInstance
def ui (a:Raw):Int×Bool:=if di a=true/\df (hs a) then (hs a,true) else (0,false)
def XH:=cy Be λ(s,l)=>cT (D l<=1000000) (.same (.cB [.int .i64 (ui (s,l)).1,.bool (ui (s,l)).2]))
@[go_sem] theorem aJf (s:Int)(l:List Int)(H:(D l)<=1000000):XH [.agg [.int .i64 s,.Y (l.map ae)]]=some (.same (.cB [.int .i64 (ui (s,l)).1,.bool (ui (s,l)).2])):=(cF E3 (s,l)).trans (cY H _)
theorem atm (T:bm)(ed:T mc=aO x4)(s:Int)(l:List Int)(H:(D l)<=1000000):WP T Ws (.same (.cB [.int .i64 (ui (s,l)).1,.bool (ui (s,l)).2])) [.I (.agg [.int .i64 s,.Y (l.map ae)])]:=by
 refine cH ?_;simp only[Ws]
 by_cases X:di (s,l)=true
 ·obtain⟨z,a2,e⟩:=(ib _).1 X
  cases e
  have U:ui (z.sign,aL z.natAbs)=if df z then (z,true) else (0,false):=by
   unfold ui;rw[X,show hs (z.sign,aL z.natAbs)=z from fe z];simp
  rw[U];clear U;have Q:=lJ z
  by_cases aP:(aL z.natAbs).length<=4
  ·have QC:decide (((aL z.natAbs).length:Int)>4)=false:=cu;have kr:=m2 z.natAbs;have fC:=nQ z.natAbs;generalize aL z.natAbs=l at *;simp only[go_sem,go_sem_proc,ed,X,H,QC,ah,ae];refine c9 [1,17,18] [159001] (λ((i,u):Nat×Int) tm mem=>i<=D l/\u=bs (l.take i)/\u<18446744073709551616/\tm 4=.I (.int .u64 u)/\tm 19=.I (.int .i64 i)) (λ(i,_)=>D l-i) (0,0) (by refine⟨by omega,rfl,by omega,rfl,rfl⟩) ?_;intro vs ms aK aF;simp only[go_sem,go_sem_proc,ed] at aK aF;subst aK aF;rintro⟨i,u⟩ tm mem L hm ⟨U,hu,aJg,sa,sb⟩;simp only[go_sem,go_sem_proc,ed,bf] at L hm;obtain⟨G,jR,kL⟩:=L;have ahe:fj (l.take i):=λd ab=>fC d (List.mem_of_mem_take ab);have Fq:0<=u:=by rw[hu];exact qv ahe
   rcases dk (i<D l) with av|b4
   ·have M:=bB av;have ab:=fC l[i] (nM av);have sO:=mD l i av;have Fs:=A9 ahe;rw[fU,pK (XI av),<-hu] at Fs;rw[<-hu] at sO;generalize l[i]=d at *;have ri:decide ((i:Int)<(D l:Int))=true:=c5;have C3:IntKind.u64.wrap d=d:=Bb d ⟨ab.1,by omega⟩
    have zG:IntKind.i64.wrap (20*(i:Int))=((20*i:Nat):Int):=by rw[e7 _];omega
    have Hv:min (20*i) 64=20*i:=by omega
    have mW:(((20*i:Nat):Int)<0)=False:=eq_false (by omega);have ahf:(1048576:Int)^i=2^(20*i):=by rw[Int.pow_mul];rfl
    rw[ahf] at Fs sO
    have j7:(2:Int)^(20*i)<=1152921504606846976:=by
     obtain rfl|rfl|rfl|rfl:i=0\/i=1\/i=2\/i=3:=by omega
     all_goals decide
    by_cases XJ:i=3/\d>8
    ·obtain⟨rfl,QD⟩:=XJ;have ahg:decide (d>8)=true:=jw QD;have Mi:(((3:Nat):Int)==3)=true:=rfl
     have atn:¬ df z:=by
      have wT:=Ls l 4;rw[kr] at wT;have:0<=bs (l.drop 4):=qv λd ab=>fC d (List.mem_of_mem_drop ab);have bh:=vh (show (0:Int)<=1048576^(min 4 (D l)) from QB (Ik (by omega))) this;unfold df;simp only[ahh,Nat.reduceAdd,ahi] at sO;rw[sO] at wT;omega
     rw[ag atn];simp only[go_sem,go_sem_proc,ed,G,jR,kL,sa,sb,hm,M,ab.1,ab.2,ri,C3,ahg,Mi,ah,aW,bf,ae];repeat' (first|refine al ?_ ?_|fail)<;>intro h<;>simp only[h,go_sem,go_sem_proc,ed,G,jR,kL,sa,sb,hm,M,ab.1,ab.2,ri,C3,ahg,Mi,ah,aW,bf,ae]
    ·have ua:d*2^(20*i)<18446744073709551616:=by
      obtain rfl|rfl|rfl|rfl:i=0\/i=1\/i=2\/i=3:=by omega
      all_goals simp
      all_goals omega
     have qA:=atl u d (20*i) j7 ⟨Fq,Fs⟩ ab.1 ua;have Mj:0<=d*2^(20*i):=vh ab.1 (QB (Ik (by omega)));have Mk:IntKind.u64.wrap (d*2^(20*i))=d*2^(20*i):=Bb _ ⟨Mj,ua⟩
     have yg:u+d*2^(20*i)<18446744073709551616:=by
      clear qA Mk Mj zG mW ahf j7 sO;obtain rfl|rfl|rfl|rfl:i=0\/i=1\/i=2\/i=3:=by omega
      all_goals simp only[ahh,ahi] at Fs ua ⊢
      all_goals omega
     by_cases af:((i:Int)==3)=true
     ·have QD:decide (d>8)=false:=kY λh=>XJ ⟨by simp at af;omega,h⟩
      simp only[go_sem,go_sem_proc,ed,G,jR,kL,sa,sb,hm,M,ab.1,ab.2,ri,C3,af,QD,zG,mW,if_false,iY,Hv,Mk,qA,ah,aW,bf,ae];repeat' (first|refine al ?_ ?_|fail)<;>intro h<;>simp only[h,go_sem,go_sem_proc,ed,G,jR,kL,sa,sb,hm,M,ab.1,ab.2,ri,C3,af,QD,zG,mW,if_false,iY,Hv,Mk,qA,ah,aW,bf,ae]
      exact⟨(i+1,u+d*2^(20*i)),by dsimp only;omega,by dsimp only;omega,by dsimp only;rw[sO,oo],yg,rfl,by rw[e7 _];rfl⟩
     ·have af:((i:Int)==3)=false:=by simpa using af
      simp only[go_sem,go_sem_proc,ed,G,jR,kL,sa,sb,hm,M,ab.1,ab.2,ri,C3,af,zG,mW,if_false,iY,Hv,Mk,qA,ah,aW,bf,ae];repeat' (first|refine al ?_ ?_|fail)<;>intro h<;>simp only[h,go_sem,go_sem_proc,ed,G,jR,kL,sa,sb,hm,M,ab.1,ab.2,ri,C3,af,zG,mW,if_false,iY,Hv,Mk,qA,ah,aW,bf,ae]
      exact⟨(i+1,u+d*2^(20*i)),by dsimp only;omega,by dsimp only;omega,by dsimp only;rw[sO,oo],yg,rfl,by rw[e7 _];rfl⟩
   ·have ri:decide ((i:Int)<(D l:Int))=false:=cu;have ld:i=D l:=by omega
    rw[ld,kN,kr] at hu;rcases Q with ⟨Q,wx⟩|⟨Q,wx⟩|⟨Q,wx⟩
    ·by_cases hr64:u<9223372036854775808
     ·rw[ad (by unfold df;omega)];have hw:IntKind.i64.wrap u=z:=by rw[wrap64 u (by omega) (by omega)];omega
      simp only[go_sem,go_sem_proc,ed,G,jR,kL,sa,sb,hm,ri,Q,hr64,show decide ((1:Int)<0)=false from rfl,show decide ((1:Int)>=0)=true from rfl,show decide ((-1:Int)<0)=true from rfl,show decide ((-1:Int)>=0)=false from rfl,hw,decide_true,decide_false,ah];repeat' (first|refine al ?_ ?_|fail)<;>intro h<;>simp only[h,go_sem,go_sem_proc,ed,G,jR,kL,sa,sb,hm,ri,Q,hr64,show decide ((1:Int)<0)=false from rfl,show decide ((1:Int)>=0)=true from rfl,show decide ((-1:Int)<0)=true from rfl,show decide ((-1:Int)>=0)=false from rfl,hw,decide_true,decide_false,ah]
     ·rw[ag (by unfold df;omega)];simp only[go_sem,go_sem_proc,ed,G,jR,kL,sa,sb,hm,ri,Q,hr64,show decide ((1:Int)<0)=false from rfl,show decide ((1:Int)>=0)=true from rfl,show decide ((-1:Int)<0)=true from rfl,show decide ((-1:Int)>=0)=false from rfl,decide_true,decide_false,ah];repeat' (first|refine al ?_ ?_|fail)<;>intro h<;>simp only[h,go_sem,go_sem_proc,ed,G,jR,kL,sa,sb,hm,ri,Q,hr64,show decide ((1:Int)<0)=false from rfl,show decide ((1:Int)>=0)=true from rfl,show decide ((-1:Int)<0)=true from rfl,show decide ((-1:Int)>=0)=false from rfl,decide_true,decide_false,ah]
    ·rw[ad (by unfold df;omega)];have ato:u=0:=by omega
     subst wx;subst ato;simp only[go_sem,go_sem_proc,ed,G,jR,kL,sa,sb,hm,ri,Q,show decide ((0:Int)<0)=false from rfl,show decide ((0:Int)>=0)=true from rfl,show decide ((0:Int)<9223372036854775808)=true from rfl,show IntKind.i64.wrap 0=0 from rfl,show (0:Int).sign=0 from rfl,decide_true,decide_false,ah];repeat' (first|refine al ?_ ?_|fail)<;>intro h<;>simp only[h,go_sem,go_sem_proc,ed,G,jR,kL,sa,sb,hm,ri,Q,show decide ((0:Int)<0)=false from rfl,show decide ((0:Int)>=0)=true from rfl,show decide ((0:Int)<9223372036854775808)=true from rfl,show IntKind.i64.wrap 0=0 from rfl,show (0:Int).sign=0 from rfl,decide_true,decide_false,ah]
    ·by_cases hr64:u<=9223372036854775808
     ·rw[ad (by unfold df;omega)];have hw:=XF (0-u) (by omega) (by omega)
      have fQ:IntKind.i64.wrap (0-u+18446744073709551616)=z:=by
       simp[IntKind.wrap,IntKind.bits,IntKind.signed];omega
      simp only[go_sem,go_sem_proc,ed,G,jR,kL,sa,sb,hm,ri,Q,hr64,show decide ((1:Int)<0)=false from rfl,show decide ((1:Int)>=0)=true from rfl,show decide ((-1:Int)<0)=true from rfl,show decide ((-1:Int)>=0)=false from rfl,hw,fQ,decide_true,decide_false,ah];repeat' (first|refine al ?_ ?_|fail)<;>intro h<;>simp only[h,go_sem,go_sem_proc,ed,G,jR,kL,sa,sb,hm,ri,Q,hr64,show decide ((1:Int)<0)=false from rfl,show decide ((1:Int)>=0)=true from rfl,show decide ((-1:Int)<0)=true from rfl,show decide ((-1:Int)>=0)=false from rfl,hw,fQ,decide_true,decide_false,ah]
     ·rw[ag (by unfold df;omega)];simp only[go_sem,go_sem_proc,ed,G,jR,kL,sa,sb,hm,ri,Q,hr64,show decide ((1:Int)<0)=false from rfl,show decide ((1:Int)>=0)=true from rfl,show decide ((-1:Int)<0)=true from rfl,show decide ((-1:Int)>=0)=false from rfl,decide_true,decide_false,ah];repeat' (first|refine al ?_ ?_|fail)<;>intro h<;>simp only[h,go_sem,go_sem_proc,ed,G,jR,kL,sa,sb,hm,ri,Q,hr64,show decide ((1:Int)<0)=false from rfl,show decide ((1:Int)>=0)=true from rfl,show decide ((-1:Int)<0)=true from rfl,show decide ((-1:Int)>=0)=false from rfl,decide_true,decide_false,ah]
  ·have QC:decide (((aL z.natAbs).length:Int)>4)=true:=c5
   have aM:¬ df z:=by
    intro h;unfold df at h;refine aP (g3.2 ?_);omega
   rw[ag aM];simp only[go_sem,go_sem_proc,ed,X,H,QC,ah];repeat' (first|refine al ?_ ?_|fail)<;>intro h<;>simp only[h,go_sem,go_sem_proc,ed,X,H,QC,ah]
 ·have X:di (s,l)=false:=by simpa using X
  have U:ui (s,l)=(0,false):=by unfold ui;rw[ag];rw[X];simp
  rw[U];simp only[go_sem,go_sem_proc,ed,X,H];repeat' (first|refine al ?_ ?_|fail)<;>intro h<;>simp only[h,go_sem,go_sem_proc,ed,X,H]
def XK:b1:=cq 35 1 [.t 2] (O [dB 1 116001 0,dd 2 false] (.seq (O [aI 5 0 1,aY 6 2 5,(dT 7 mc 6),fu 8 7,F 9 8,⟨some 10,some (9,false),.dQ 2 (.t 1)⟩,⟨some 11,some (9,false),.load 2 true (.t 10)⟩,⟨some 12,some (9,false),.call mc [(.t 11)]⟩,⟨some 13,some (9,false),.un .not (.t 12)⟩,c6 14 9 13,F 15 14,⟨some 16,some (15,false),.dQ 2 (.t 1)⟩,⟨some 17,some (15,false),.dQ 0 (.t 16)⟩,⟨some 18,some (15,false),.load 1 false (.t 17)⟩,⟨some 19,some (15,false),.bin .neq (.t 18) (.c (Z 1))⟩,c6 20 15 19] (aQ 20 (O [dd 2 false] .ret) .skip)) (O [aI 22 0 1,aY 23 2 22,aI 24 2 1,aY 25 2 24,(b2 26 Lt 23 25),F 21 26,a6 27 0 21,a6 28 1 21,(ar 3 (.alloc 116003 [(Z 0),.nil])),aT 2 3 27,F 4 28] (O [F 29 4,a7 30 .eql 29 0,F 31 30,⟨some 32,some (31,true),.load 2 true (.t 3)⟩,⟨some 33,some (31,true),.call Vz [(.t 32)]⟩,hF 34 31 33,F 2 34] .ret))))
def XL:b1:=cq 46 2 [.cell 4 4 true,.t 5] (O [dB 2 119002 0,dB 3 119003 1,(ar 4 (.alloc 119004 [(Z 0),.nil,(Z 0),.nil])),ba 5 0] (.seq (O [aY 10 4 2,(dT 11 nR 10),fu 12 11,F 13 12,⟨some 14,some (13,false),.load 4 true (.t 3)⟩,⟨some 15,some (13,false),.call nR [(.t 14)]⟩,⟨some 16,some (13,false),.un .not (.t 15)⟩,c6 17 13 16] (aQ 17 (O [(ar 18 (.build [(Z 0),.nil,(Z 0),.nil] [])),aT 4 4 18,ba 5 1] .ret) .skip)) (O [aI 20 0 2,aY 21 2 20,aI 22 2 3,aY 23 2 22,aI 24 0 3,aY 25 2 24,aI 26 2 2,aY 27 2 26,(CV 28 VA 21 23 25 27),F 19 28,a6 29 0 19,a6 30 1 19,(ar 6 (.alloc 119006 [(Z 0),.nil])),aT 2 6 29,F 7 30] (O [aI 32 2 2,aY 33 2 32,aI 34 2 3,aY 35 2 34,(b2 36 wI 33 35),F 31 36,a6 37 0 31,a6 38 1 31,(ar 8 (.alloc 119008 [(Z 0),.nil])),aT 2 8 37,F 9 38] (O [aY 39 2 6,F 40 7,aY 41 2 8,F 42 9,(CV 43 ER 39 40 41 42),a6 44 0 43,a6 45 1 43,aT 4 4 44,F 5 45] .ret)))))
def XM:b1:=cq 13 2 [.cell 4 4 true,.t 5] (O [(ar 4 (.alloc 130004 [(Z 0),.nil,(Z 0),.nil])),ba 5 0] (O [F 6 0,(dT 7 PN 6),F 8 1,(dT 9 PN 8),(b2 10 Lv 7 9),a6 11 0 10,a6 12 1 10,aT 4 4 11,F 5 12] .ret))
def XN:b1:=cq 25 2 [.cell 4 4 true,.t 5] (O [dB 2 132002 0,dB 3 132003 1,(ar 4 (.alloc 132004 [(Z 0),.nil,(Z 0),.nil])),ba 5 0] (.seq (O [aY 6 4 2,(dT 7 nR 6),fu 8 7,F 9 8,⟨some 10,some (9,false),.load 4 true (.t 3)⟩,⟨some 11,some (9,false),.call nR [(.t 10)]⟩,⟨some 12,some (9,false),.un .not (.t 11)⟩,c6 13 9 12] (aQ 13 (O [(ar 14 (.build [(Z 0),.nil,(Z 0),.nil] [])),aT 4 4 14,ba 5 1] .ret) .skip)) (eT [aY 15 4 2,aI 16 0 3,aY 17 2 16,(dT 18 HP 17),aI 19 2 3,aY 20 2 19,(ar 21 (.build [(Z 0),.nil,(Z 0),.nil] [(0,2,(.t 18)),(2,2,(.t 20))])),(b2 22 CN 15 21),a6 23 0 22,a6 24 1 22,aT 4 4 23,F 5 24] af8 .ret)))
def XO:b1:=cq 42 2 [.cell 4 4 true,.t 5] (O [dB 2 134002 0,dB 3 134003 1,(ar 4 (.alloc 134004 [(Z 0),.nil,(Z 0),.nil])),ba 5 0] (.seq (O [aY 10 4 2,(dT 11 nR 10),fu 12 11,F 13 12,⟨some 14,some (13,false),.load 4 true (.t 3)⟩,⟨some 15,some (13,false),.call nR [(.t 14)]⟩,⟨some 16,some (13,false),.un .not (.t 15)⟩,c6 17 13 16] (aQ 17 (O [(ar 18 (.build [(Z 0),.nil,(Z 0),.nil] [])),aT 4 4 18,ba 5 1] .ret) .skip)) (O [aI 20 0 2,aY 21 2 20,aI 22 0 3,aY 23 2 22,(b2 24 wI 21 23),F 19 24,a6 25 0 19,a6 26 1 19,(ar 6 (.alloc 134006 [(Z 0),.nil])),aT 2 6 25,F 7 26] (O [aI 28 2 2,aY 29 2 28,aI 30 2 3,aY 31 2 30,(b2 32 wI 29 31),F 27 32,a6 33 0 27,a6 34 1 27,(ar 8 (.alloc 134008 [(Z 0),.nil])),aT 2 8 33,F 9 34] (O [aY 35 2 6,F 36 7,aY 37 2 8,F 38 9,(CV 39 ER 35 36 37 38),a6 40 0 39,a6 41 1 39,aT 4 4 40,F 5 41] .ret)))))
def XP:b1:=cq 78 2 [.t 4] (O [dB 2 135002 0,dB 3 135003 1,ba 4 0] (.seq (O [aY 17 4 2,(dT 18 nR 17),fu 19 18,F 20 19,⟨some 21,some (20,false),.load 4 true (.t 3)⟩,⟨some 22,some (20,false),.call nR [(.t 21)]⟩,⟨some 23,some (20,false),.un .not (.t 22)⟩,c6 24 20 23] (aQ 24 (O [ba 4 0] .ret) .skip)) (eT [aI 25 0 2,aY 26 2 25,aI 27 2 2,aY 28 2 27,aI 29 0 3,aY 30 2 29,aI 31 2 3,aY 32 2 31,(ar 5 (.alloc 135005 [(Z 0),.nil])),(ar 6 (.alloc 135006 [(Z 0),.nil])),(ar 7 (.alloc 135007 [(Z 0),.nil])),(ar 8 (.alloc 135008 [(Z 0),.nil])),aT 2 5 26,aT 2 6 28,aT 2 7 30,aT 2 8 32] [[],[],[],[],[],[],[],[],[1,3,5,7],[1,3,5,7,8],[1,3,5,7,8,9],[1,3,5,7,8,9,10],[3,5,7],[5,7],[7],[]] (O [ba 9 1] (.block 0 (.loop  (.seq (.block 1 (O [aY 36 2 5,aY 37 2 6,(b2 38 ES 36 37),F 35 38,a6 39 0 35,a6 40 1 35,a6 41 2 35,(ar 10 (.alloc 135010 [(Z 0),.nil])),(ar 11 (.alloc 135011 [(Z 0),.nil])),aT 2 10 39,aT 2 11 40,F 12 41] (O [aY 43 2 7,aY 44 2 8,(b2 45 ES 43 44),F 42 45,a6 46 0 42,a6 47 1 42,a6 48 2 42,(ar 13 (.alloc 135013 [(Z 0),.nil])),(ar 14 (.alloc 135014 [(Z 0),.nil])),aT 2 13 46,aT 2 14 47,F 15 48] (.seq (O [aY 49 2 10,aY 50 2 13,(b2 51 VF 49 50),F 16 51] (.block 2 (O [F 53 16,a7 54 .neq 53 0,F 52 54] (aQ 52 (O [F 55 9,F 56 16,bA 57 .mul 55 56,F 4 57] .ret) (O [aI 59 0 11,aG 60 1 59,a7 61 .eql 60 0,F 62 61,⟨some 63,some (62,false),.dQ 0 (.t 14)⟩,⟨some 64,some (62,false),.load 1 false (.t 63)⟩,⟨some 65,some (62,false),.bin .eql (.t 64) (.c (Z 0))⟩,c6 66 62 65,F 58 66] (aQ 58 (O [F 67 9,aI 68 0 11,aG 69 1 68,aI 70 0 14,aG 71 1 70,bA 72 .sub 69 71,bA 73 .mul 67 72,F 4 73] .ret) .skip)))))) (.my [aY 74 2 6,aY 75 2 11,aY 76 2 8,aY 77 2 14,aT 2 5 74,aT 2 6 75,aT 2 7 76,aT 2 8 77] [[],[],[],[],[1,2,3],[2,3],[3],[]]))))) (.ops [F 33 9,(ar 34 (.un .neg (.t 33))),F 9 34]))))))))
def XQ:b1:=cq 15 1 [.t 2] (O [dB 1 138001 0,dd 2 false] (O [aY 6 2 1,(dT 7 VG 6),F 5 7,a6 8 0 5,a6 9 1 5,F 3 8,F 4 9] (O [F 10 4,F 11 10,⟨some 12,some (11,true),.b8 (.t 3)⟩,⟨some 13,some (11,true),.bin .eql (.t 12) (.c (Z 1))⟩,hF 14 11 13,F 2 14] .ret)))
def XR:b1:=cq 38 4 [.cell 8 2 true,.t 9] (O [dB 4 139004 0,dB 5 139005 1,dB 6 139006 2,dB 7 139007 3,(ar 8 (.alloc 139008 [(Z 0),.nil])),ba 9 0] (O [aY 14 2 4,aY 15 2 5,(b2 16 wI 14 15),F 13 16,a6 17 0 13,a6 18 1 13,(ar 10 (.alloc 139010 [(Z 0),.nil])),aT 2 10 17,F 11 18] (.seq (O [F 19 11,a7 20 .neq 19 0] (aQ 20 (O [(ar 21 (.build [(Z 0),.nil] [])),F 22 11,aT 2 8 21,F 9 22] .ret) .skip)) (O [aY 24 2 6,aY 25 2 7,(b2 26 wI 24 25),F 23 26,a6 27 0 23,a6 28 1 23,(ar 12 (.alloc 139012 [(Z 0),.nil])),aT 2 12 27,F 11 28] (.seq (O [F 29 11,a7 30 .neq 29 0] (aQ 30 (O [(ar 31 (.build [(Z 0),.nil] [])),F 32 11,aT 2 8 31,F 9 32] .ret) .skip)) (O [aY 33 2 10,aY 34 2 12,(b2 35 VH 33 34),a6 36 0 35,a6 37 1 35,aT 2 8 36,F 9 37] .ret))))))
def XS:b1:=cq 22 4 [.cell 8 4 true,.t 9] (O [dB 4 141004 0,dB 6 141006 2,(ar 8 (.alloc 141008 [(Z 0),.nil,(Z 0),.nil])),ba 9 0] (.seq (O [F 10 1,a7 11 .neq 10 0,F 12 11,⟨some 13,some (12,false),.b8 (.t 3)⟩,⟨some 14,some (12,false),.bin .neq (.t 13) (.c (Z 0))⟩,c6 15 12 14] (aQ 15 (O [(ar 16 (.build [(Z 0),.nil,(Z 0),.nil] [])),aT 4 8 16,ba 9 6] .ret) .skip)) (O [aY 17 2 4,aY 18 2 6,(b2 19 Lv 17 18),a6 20 0 19,a6 21 1 19,aT 4 8 20,F 9 21] .ret)))
def XT:b1:=cq 60 2 [.cell 4 4 true,.t 5] (O [dB 2 149002 0,dB 3 149003 1,(ar 4 (.alloc 149004 [(Z 0),.nil,(Z 0),.nil])),ba 5 0] (.seq (.block 0 (O [aY 15 2 2,(dT 16 mc 15),fu 17 16,F 18 17,⟨some 19,some (18,false),.load 2 true (.t 3)⟩,⟨some 20,some (18,false),.call mc [(.t 19)]⟩,⟨some 21,some (18,false),.un .not (.t 20)⟩,c6 22 18 21,F 14 22] (aQ 14 (O [(ar 23 (.build [(Z 0),.nil,(Z 0),.nil] [])),aT 4 4 23,ba 5 1] .ret) (O [aI 25 0 3,aG 26 1 25,a7 27 .eql 26 0,F 24 27] (aQ 24 (O [(ar 28 (.build [(Z 0),.nil,(Z 0),.nil] [])),aT 4 4 28,ba 5 15] .ret) (O [aI 30 0 3,aG 31 1 30,a7 32 .lss 31 0,F 29 32] (aQ 29 (.my [aY 33 2 2,(dT 34 HP 33),aY 35 2 3,(dT 36 HP 35),aT 2 2 34,aT 2 3 36] Wg) .skip))))))) (O [aY 38 2 2,aY 39 2 3,(b2 40 Lt 38 39),F 37 40,a6 41 0 37,a6 42 1 37,(ar 6 (.alloc 149006 [(Z 0),.nil])),aT 2 6 41,F 7 42] (O [aY 44 2 2,aY 45 2 6,(b2 46 ES 44 45),F 43 46,a6 47 0 43,a6 48 1 43,a6 49 2 43,(ar 8 (.alloc 149008 [(Z 0),.nil])),(ar 9 (.alloc 149009 [(Z 0),.nil])),aT 2 8 47,aT 2 9 48,F 10 49] (O [aY 51 2 3,aY 52 2 6,(b2 53 ES 51 52),F 50 53,a6 54 0 50,a6 55 1 50,a6 56 2 50,(ar 11 (.alloc 149011 [(Z 0),.nil])),(ar 12 (.alloc 149012 [(Z 0),.nil])),aT 2 11 54,aT 2 12 55,F 13 56] (O [aY 57 2 8,aY 58 2 11,(ar 59 (.build [(Z 0),.nil,(Z 0),.nil] [(0,2,(.t 57)),(2,2,(.t 58))])),aT 4 4 59,ba 5 0] .ret))))))
def XU:b1:=cq 49 2 [.cell 4 4 true,.t 5] (O [dB 2 169002 0,dB 3 169003 1,(ar 4 (.alloc 169004 [(Z 0),.nil,(Z 0),.nil])),ba 5 0] (.seq (.block 0 (O [aY 11 4 2,(dT 12 nR 11),fu 13 12,F 14 13,⟨some 15,some (14,false),.load 4 true (.t 3)⟩,⟨some 16,some (14,false),.call nR [(.t 15)]⟩,⟨some 17,some (14,false),.un .not (.t 16)⟩,c6 18 14 17,F 10 18] (aQ 10 (O [(ar 19 (.build [(Z 0),.nil,(Z 0),.nil] [])),aT 4 4 19,ba 5 1] .ret) (O [aI 21 0 3,aI 22 0 21,aG 23 1 22,a7 24 .eql 23 0,F 20 24] (aQ 20 (O [(ar 25 (.build [(Z 0),.nil,(Z 0),.nil] [])),aT 4 4 25,ba 5 15] .ret) .skip))))) (O [aI 27 0 2,aY 28 2 27,aI 29 2 3,aY 30 2 29,(b2 31 wI 28 30),F 26 31,a6 32 0 26,a6 33 1 26,(ar 6 (.alloc 169006 [(Z 0),.nil])),aT 2 6 32,F 7 33] (O [aI 35 2 2,aY 36 2 35,aI 37 0 3,aY 38 2 37,(b2 39 wI 36 38),F 34 39,a6 40 0 34,a6 41 1 34,(ar 8 (.alloc 169008 [(Z 0),.nil])),aT 2 8 40,F 9 41] (O [aY 42 2 6,F 43 7,aY 44 2 8,F 45 9,(CV 46 ER 42 43 44 45),a6 47 0 46,a6 48 1 46,aT 4 4 47,F 5 48] .ret)))))
abbrev bG:=Raw×Raw
def aw (f:bG):List Data:=[.int .i64 f.1.1,.Y (f.1.2.map ae),.int .i64 f.2.1,.Y (f.2.2.map ae)]
def cQ (x:bG×Int):Data:=.cB [.agg (aw x.1),.int .i64 x.2]
def aq (x:Rat):bG:=(bd x.num,bd x.den)
def dX (x:Rat):Prop:=x.num.natAbs<dP/\x.den<dP
def c1:bG:=((0,[]),(0,[]))
def dJ (f:bG):Bool:=di f.1&&(di f.2&&(f.2.1==1&&(hg (hs f.1).natAbs (hs f.2).natAbs==1)))
def Da (f:bG):Rat:=mH (hs f.1) (hs f.2)
theorem Ft (x:Rat):Da (aq x)=x:=by
 unfold Da aq;rw[fe,fe,Fu]
theorem QE {x y:Rat}(h:aq x=aq y):x=y:=by rw[<-Ft x,h,Ft]
theorem QF {x y:Int}(h:bd x=bd y):x=y:=by rw[<-fe x,h,fe]
theorem den_pos (x:Rat):0<(x.den:Int):=C9.2 x.den_pos
theorem atp {n:Int}(h:0<n):(bd n).1=1:=ht h
theorem Bt (f:bG):dJ f=true↔∃x,dX x/\f=aq x:=by
 unfold dJ;simp only[gb,beq_iff_eq]
 constructor
 ·rintro⟨G,J,af,aP⟩;obtain⟨p,aC,ay⟩:=(ib _).1 G;obtain⟨q,bF,aA⟩:=(ib _).1 J;obtain⟨f1,f2⟩:=f;simp only at ay aA af aP;subst ay aA;rw[fe,fe] at aP
  have Xx:0<q:=by
   rcases lJ q with ⟨_,h⟩|⟨e,_⟩|⟨e,_⟩
   ·exact h
   ·have:q.sign=1:=af;omega
   ·have:q.sign=1:=af;omega
  refine⟨⟨p,q.natAbs,by omega,aP⟩,⟨aC,bF⟩,?_⟩
  unfold aq;rw[show ((q.natAbs:Nat):Int)=q by omega]
 ·rintro⟨x,⟨G,J⟩,rfl⟩;have ab:(x.den:Int).natAbs<dP:=by rw[lL];exact J
  refine⟨lb G,lb ab,atp (den_pos x),?_⟩;unfold aq;rw[fe,fe,lL];exact x.reduced
theorem yl {x:Rat}(h:dX x):dJ (aq x)=true:=(Bt _).2 ⟨x,h,rfl⟩
theorem qB {x:Rat}(h:dX x):(x.den:Int).natAbs<dP:=by rw[lL];exact h.2
theorem ke {z:Int}(h:z.natAbs<dP):(aL z.natAbs).length<=1000000:=by have:=oy h;omega
def Fv (a:Raw):Bool:=(ui a).2&&((ui a).1==1)
theorem atq {z:Int}(h:z.natAbs<dP):Fv (bd z)=decide (z=1):=by
 unfold Fv ui;rw[lb h,fe]
 by_cases U:df z
 ·rw[ad ⟨rfl,U⟩];simp only[fP]
  rfl
 ·rw[ag λh=>U h.2];have:z≠1:=by rintro rfl;exact U (by unfold df;omega)
  simp[this]
def XV:=cy Be λ(s,l)=>cT (D l<=1000000) (.same (.bool (Fv (s,l))))
@[go_sem] theorem aJh (s:Int)(l:List Int)(H:(D l)<=1000000):XV [.agg [.int .i64 s,.Y (l.map ae)]]=some (.same (.bool (Fv (s,l)))):=(cF E3 (s,l)).trans (cY H _)
theorem atr (T:bm)(QG:T VG=aO XH)(s:Int)(l:List Int)(H:(D l)<=1000000):WP T XQ (.same (.bool (Fv (s,l)))) [.I (.agg [.int .i64 s,.Y (l.map ae)])]:=by
 refine cH ?_;simp only[XQ];unfold Fv;rcases h:(ui (s,l)).2
 ·simp only[go_sem,go_sem_proc,QG,H,h];repeat' (first|refine al ?_ ?_|fail)<;>intro h<;>simp only[h,go_sem,go_sem_proc,QG,H,h]
 ·simp only[go_sem,go_sem_proc,QG,H,h];repeat' (first|refine al ?_ ?_|fail)<;>intro h<;>simp only[h,go_sem,go_sem_proc,QG,H,h]
abbrev Db:Int×(List Int)×Int×(List Int)->List Data:=λ(s,l,s2,aa)=>[.agg [.int .i64 s,.Y (l.map ae),.int .i64 s2,.Y (aa.map ae)]]
def zK:=cy Db λ(s,l,s2,aa)=>cT (D l<=1000000/\D aa<=1000000) (.same (.bool (dJ ((s,l),(s2,aa)))))
theorem Iy:∀a b,Db a=Db b->a=b:=by
  rintro⟨s1,dr,Fi,Fj⟩ ⟨s2,aa,Fk,Fl⟩ h;simp only[bf,Data.agg.injEq,Data.int.injEq,Data.Y.injEq] at h;exact ei h.1.1.2 (ei (map_inj hp _ _ h.1.2.1) (ei h.1.2.2.1.2 (map_inj hp _ _ h.1.2.2.2.1)))
@[go_sem] theorem aJi (s:Int)(l:List Int)(s2:Int)(aa:List Int)(H:(D l)<=1000000/\D aa<=1000000):zK [.agg [.int .i64 s,.Y (l.map ae),.int .i64 s2,.Y (aa.map ae)]]=some (.same (.bool (dJ ((s,l),(s2,aa))))):=(cF Iy (s,l,s2,aa)).trans (cY H _)
theorem ats (T:bm)(ed:T mc=aO x4)(zL:T Lt=aO Qx)(QH:T Vz=aO XV)(s:Int)(l:List Int)(s2:Int)(aa:List Int)(H:(D l)<=1000000/\D aa<=1000000):WP T XK (.same (.bool (dJ ((s,l),(s2,aa))))) [.I (.agg [.int .i64 s,.Y (l.map ae),.int .i64 s2,.Y (aa.map ae)])]:=by
 refine cH ?_;simp only[XK];obtain⟨bt,bz⟩:=H
 by_cases X:di (s,l)=true
 ·by_cases aZ:di (s2,aa)=true
  ·by_cases Q:s2=1
   ·obtain⟨x,M,e⟩:=(ib _).1 X;obtain⟨y,ao,aA⟩:=(ib _).1 aZ
    have bq:ml (s,l) (s2,aa)=(bd ((hg x.natAbs y.natAbs:Nat):Int),0):=by
     unfold ml;rw[X,aZ,e,aA,fe,fe];rfl
    have nV:=Iv M ao
    have bS:Fv (bd ((hg x.natAbs y.natAbs:Nat):Int))=(hg x.natAbs y.natAbs==1):=by
     rw[atq (by rw[lL];exact nV)];rw[ym];simp;omega
    have wv:hs (s,l)=x:=by rw[e,fe]
    have rV:hs (s2,aa)=y:=by rw[aA,fe]
    have iF:dJ ((s,l),(s2,aa))=(hg x.natAbs y.natAbs==1):=by
     show (di (s,l)&&(di (s2,aa)&&((s2==1)&&(hg (hs (s,l)).natAbs (hs (s2,aa)).natAbs==1))))=_;rw[X,aZ,wv,rV,show (s2==1)=true by simpa using Q]
     simp only[fP]
    have QI:((bd ((hg x.natAbs y.natAbs:Nat):Int)).2).length<=1000000:=ke (by rw[lL];exact nV);rw[iF,<-bS];generalize bd ((hg x.natAbs y.natAbs:Nat):Int)=bD at *;obtain⟨dh,dC⟩:=bD;have jL:(s2==1)=true:=by simpa using Q
    refine a1 ?_;repeat' (intro h<;>simp only[h,go_sem,go_sem_proc,ed,zL,QH,X,aZ,bt,bz,jL,bq,QI,dD,bU,show ((0:Int)==0)=true from rfl]<;>try refine al ?_ ?_)
   ·have iF:dJ ((s,l),(s2,aa))=false:=by unfold dJ;simp[Q]
    have jL:(s2==1)=false:=by simpa using Q
    rw[iF];refine a1 ?_;repeat' (intro h<;>simp only[h,go_sem,go_sem_proc,ed,zL,QH,X,aZ,bt,bz,jL]<;>try refine al ?_ ?_)
  ·have aZ:di (s2,aa)=false:=by simpa using aZ
   have iF:dJ ((s,l),(s2,aa))=false:=by unfold dJ;simp[aZ]
   rw[iF];refine a1 ?_;repeat' (intro h<;>simp only[h,go_sem,go_sem_proc,ed,zL,QH,X,aZ,bt,bz]<;>try refine al ?_ ?_)
 ·have X:di (s,l)=false:=by simpa using X
  have iF:dJ ((s,l),(s2,aa))=false:=by unfold dJ;simp[X]
  rw[iF];refine a1 ?_;repeat' (intro h<;>simp only[h,go_sem,go_sem_proc,ed,zL,QH,X,bt,bz]<;>try refine al ?_ ?_)
def gT (p q:Raw):bG×Int :=
 if (di p&&di q)=true then (if hs q=0 then (c1,15) else (aq (mH (hs p) (hs q)),0)) else (c1,1)
theorem Bu {p q:Int}(aC:p.natAbs<dP)(bF:q.natAbs<dP)(aj:q≠0):gT (bd p) (bd q)=(aq (mH p q),0):=by
 unfold gT;rw[lb aC,lb bF,fe,fe,ad (by rfl),ag aj]
theorem XW {p q:Int}(bF:0<q):(mH p q).num=p.fdiv ((hg p.natAbs q.natAbs:Nat):Int)/\((mH p q).den:Int)=q.fdiv ((hg p.natAbs q.natAbs:Nat):Int):=by
 rw[Rat.num_divInt,Rat.den_divInt,ag (by omega),ht bF,o8];have bq:q.gcd p=hg p.natAbs q.natAbs:=by rw[Int.gcd_comm];rfl
 rw[bq];have aj:(0:Int)<=((hg p.natAbs q.natAbs:Nat):Int):=Int.natCast_nonneg _;rw[ahj _ aj,ahj _ aj];refine⟨rfl,?_⟩;rw[Int.natCast_ediv]
 congr 1
 omega
theorem XX {p q:Int}(bF:q≠0):0<hg p.natAbs q.natAbs:=Nat.gcd_pos_of_pos_right _ (by omega)
theorem QJ {p q:Int}(aC:p.natAbs<dP)(bF:q.natAbs<dP):dX (mH p q):=by
 have main:∀{p q:Int},p.natAbs<dP->q.natAbs<dP->0<q->dX (mH p q):=by
  intro p q aC bF aj;obtain⟨G,J⟩:=XW (p:=p) aj;have bq:=XX (p:=p) (q:=q) (by omega);refine⟨?_,?_⟩
  ·rw[G];exact Ix aC (by omega)
  ·have:=Ix (y:=((hg p.natAbs q.natAbs:Nat):Int)) bF (by omega);rw[<-J,lL] at this;exact this
 rcases vl q 0 with h|h|h
 ·rw[<-ahk];exact main (by omega) (by omega) (by omega)
 ·subst h;rw[Rat.divInt_zero];unfold dX dP;exact⟨Nat.pow_pos (by omega),Nat.one_lt_pow (by omega) (by omega)⟩
 ·exact main aC bF h
def QK:=cy rf λ(s,l,s2,aa)=>cT (D l<=1000000/\D aa<=1000000) (.same (cQ (gT (s,l) (s2,aa))))
@[go_sem] theorem aJj (s:Int)(l:List Int)(s2:Int)(aa:List Int)(H:(D l)<=1000000/\D aa<=1000000):QK [.agg [.int .i64 s,.Y (l.map ae)],.agg [.int .i64 s2,.Y (aa.map ae)]]=some (.same (cQ (gT (s,l) (s2,aa)))):=(cF s4 (s,l,s2,aa)).trans (cY H _)
theorem att (T:bm)(ed:T mc=aO x4)(Bv:T HP=aO Qw)(zL:T Lt=aO Qx)(sc:T ES=aO QA)(s:Int)(l:List Int)(s2:Int)(aa:List Int)(H:(D l)<=1000000/\D aa<=1000000):WP T XT (.same (cQ (gT (s,l) (s2,aa)))) [.I (.agg [.int .i64 s,.Y (l.map ae)]),.I (.agg [.int .i64 s2,.Y (aa.map ae)])]:=by
 refine cH ?_;simp only[XT];obtain⟨bt,bz⟩:=H
 by_cases X:di (s,l)=true
 ·by_cases aZ:di (s2,aa)=true
  ·obtain⟨x,M,e⟩:=(ib _).1 X;obtain⟨y,ao,aA⟩:=(ib _).1 aZ
   by_cases aj:y=0
   ·have hm:gT (s,l) (s2,aa)=(c1,15):=by
     unfold gT;rw[X,aZ,aA,fe,ad (by rfl),ad aj]
    rw[hm]
    cases e
    cases aA;have Q:(y.sign==0)=true:=by rw[aj];rfl
    refine a1 ?_;repeat' (intro h<;>simp only[h,go_sem,go_sem_proc,ed,Bv,zL,sc,X,aZ,bt,bz,Q,cQ,aw,c1,b6]<;>try refine al ?_ ?_)
   ·have main:∀p q:Int,p.natAbs<dP->q.natAbs<dP->0<q->∃g:Raw,ml (bd p) (bd q)=(g,0)/\g.2.length<=1000000/\lK (bd p) g=(bd (mH p q).num,bd (p.fmod ((hg p.natAbs q.natAbs:Nat):Int)),0)/\lK (bd q) g=(bd (mH p q).den,bd (q.fmod ((hg p.natAbs q.natAbs:Nat):Int)),0):=by
     intro p q aC bF nw;have nV:=Iv aC bF;have Fw:((hg p.natAbs q.natAbs:Nat):Int).natAbs<dP:=by rw[lL];exact nV
     have yf:=XX (p:=p) (q:=q) (by omega);obtain⟨G,J⟩:=XW (p:=p) nw;refine⟨bd ((hg p.natAbs q.natAbs:Nat):Int),?_,ke Fw,?_,?_⟩
     ·unfold ml;rw[lb aC,lb bF,fe,fe];rfl
     ·rw[Br aC Fw (by omega),G]
     ·rw[Br bF Fw (by omega),J]
    have qC:(y.sign==0)=false:=by simpa using aj
    rcases Int.lt_or_gt_of_ne aj with lD|iX
    ·have hR:decide (y.sign<0)=true:=by rw[nT lD];rfl
     obtain⟨⟨dh,dC⟩,bq,nV,k8,mG⟩:=main (-x) (-y) (by omega) (by omega) (by omega)
     have hm:gT (s,l) (s2,aa)=(aq (mH (-x) (-y)),0):=by
      rw[e,aA,Bu M ao aj,ahk]
     rw[hm];have xL:hG (s,l)=bd (-x):=by unfold hG;rw[ad X,e,fe]
     have wk:hG (s2,aa)=bd (-y):=by unfold hG;rw[ad aZ,aA,fe]
     have Dc:s2=y.sign:=congrArg pd aA;have eU:(bd (-x)).2.length<=1000000:=ke (by omega);have fk:(bd (-y)).2.length<=1000000:=ke (by omega);clear e aA;unfold aq;generalize bd (-x)=cr at *;generalize bd (-y)=hQ at *;obtain⟨bb,b3⟩:=cr;obtain⟨nv,o4⟩:=hQ;rw[<-Dc] at qC hR;refine a1 ?_;repeat' (intro h<;>simp only[h,go_sem,go_sem_proc,ed,Bv,zL,sc,X,aZ,bt,bz,qC,hR,xL,wk,eU,fk,bq,nV,k8,mG,cQ,aw,dD,gK,bU]<;>try refine al ?_ ?_)
    ·have hR:decide (y.sign<0)=false:=by rw[ht iX];rfl
     obtain⟨⟨dh,dC⟩,bq,nV,k8,mG⟩:=main x y M ao iX
     have hm:gT (s,l) (s2,aa)=(aq (mH x y),0):=by
      rw[e,aA,Bu M ao aj]
     rw[hm];have Dc:s2=y.sign:=congrArg pd aA;rw[<-e] at bq k8;rw[<-aA] at bq mG;rw[<-Dc] at qC hR;unfold aq;refine a1 ?_;repeat' (intro h<;>simp only[h,go_sem,go_sem_proc,ed,Bv,zL,sc,X,aZ,bt,bz,qC,hR,bq,nV,k8,mG,cQ,aw,dD,gK,bU]<;>try refine al ?_ ?_)
  ·have aZ:di (s2,aa)=false:=by simpa using aZ
   have hm:gT (s,l) (s2,aa)=(c1,1):=by unfold gT;rw[aZ,jB];rfl
   rw[hm];refine a1 ?_;repeat' (intro h<;>simp only[h,go_sem,go_sem_proc,ed,Bv,zL,sc,X,aZ,bt,bz,cQ,aw,c1,b6]<;>try refine al ?_ ?_)
 ·have X:di (s,l)=false:=by simpa using X
  have hm:gT (s,l) (s2,aa)=(c1,1):=by unfold gT;rw[X,fr];rfl
  rw[hm];refine a1 ?_;repeat' (intro h<;>simp only[h,go_sem,go_sem_proc,ed,Bv,zL,sc,X,bt,bz,cQ,aw,c1,b6]<;>try refine al ?_ ?_)
def Fx:=cy H3 λ(p,q)=>cT (df p/\df q) (.same (cQ (gT (bd p) (bd q))))
@[go_sem] theorem ahl (p:Int)(q:Int)(H:df p/\df q):Fx [.int .i64 p,.int .i64 q]=some (.same (cQ (gT (bd p) (bd q)))):=(cF P3 (p,q)).trans (cY H _)
theorem atu (T:bm)(atv:T PN=aO XG)(Ml:T Lv=aO QK)(p:Int)(q:Int)(H:df p/\df q):WP T XM (.same (cQ (gT (bd p) (bd q)))) [.I (.int .i64 p),.I (.int .i64 q)]:=by
 refine cH ?_;simp only[XM];obtain⟨G,J⟩:=H;have dr:(bd p).2.length<=1000000:=ke (uh G);have aa:(bd q).2.length<=1000000:=ke (uh J);generalize fs:bd p=P at *;generalize fF:bd q=aU at *;obtain⟨bb,b3⟩:=P;obtain⟨nv,o4⟩:=aU;refine a1 ?_;repeat' (intro h<;>simp only[h,go_sem,go_sem_proc,atv,Ml,G,J,fs,fF,dr,aa,bU,cQ,aw]<;>try refine al ?_ ?_)
def wY (a b c d:Raw):Raw×Int :=
 if ((mulR a b).2==0)=true then (if ((mulR c d).2==0)=true then lG (mulR a b).1 (mulR c d).1 else ((0,[]),(mulR c d).2)) else ((0,[]),(mulR a b).2)
theorem ahm (z:Int):(pU z).1.2.length<=1000000:=by
 unfold pU
 split
 ·exact ke (by assumption)
 ·simp
theorem uj (a b:Raw):(mulR a b).1.2.length<=1000000:=by
 unfold mulR
 split
 ·exact ahm _
 ·simp
theorem ahn (a b:Raw):(lG a b).1.2.length<=1000000:=by
 unfold lG
 split
 ·exact ahm _
 ·simp
theorem atw (a b c d:Raw):(wY a b c d).1.2.length<=1000000:=by
 unfold wY
 split
 ·split
  ·exact ahn _ _
  ·simp
 ·simp
abbrev XY:Int×(List Int)×Int×(List Int)×Int×(List Int)×Int×(List Int)->List Data:=λ(s,l,s2,aa,bY,bo,b7,bH)=>[.agg [.int .i64 s,.Y (l.map ae)],.agg [.int .i64 s2,.Y (aa.map ae)],.agg [.int .i64 bY,.Y (bo.map ae)],.agg [.int .i64 b7,.Y (bH.map ae)]]
def XZ:=cy XY λ(s,l,s2,aa,bY,bo,b7,bH)=>cT (D l<=1000000/\D aa<=1000000/\D bo<=1000000/\D bH<=1000000) (.same (dD (wY (s,l) (s2,aa) (bY,bo) (b7,bH))))
theorem atx:∀a b,XY a=XY b->a=b:=by
  rintro⟨s1,dr,Fi,Fj,aty,atz,atA,atB⟩ ⟨s2,aa,Fk,Fl,atC,atD,atE,atF⟩ h;simp only[bf,Data.agg.injEq,Data.int.injEq,Data.Y.injEq] at h;exact ei h.1.1.2 (ei (map_inj hp _ _ h.1.2.1) (ei h.2.1.1.2 (ei (map_inj hp _ _ h.2.1.2.1) (ei h.2.2.1.1.2 (ei (map_inj hp _ _ h.2.2.1.2.1) (ei h.2.2.2.1.1.2 (map_inj hp _ _ h.2.2.2.1.2.1)))))))
@[go_sem] theorem aJk (s:Int)(l:List Int)(s2:Int)(aa:List Int)(bY:Int)(bo:List Int)(b7:Int)(bH:List Int)(H:(D l)<=1000000/\D aa<=1000000/\D bo<=1000000/\D bH<=1000000):XZ [.agg [.int .i64 s,.Y (l.map ae)],.agg [.int .i64 s2,.Y (aa.map ae)],.agg [.int .i64 bY,.Y (bo.map ae)],.agg [.int .i64 b7,.Y (bH.map ae)]]=some (.same (dD (wY (s,l) (s2,aa) (bY,bo) (b7,bH)))):=(cF atx (s,l,s2,aa,bY,bo,b7,bH)).trans (cY H _)
theorem atG (T:bm)(sd:T wI=aO Is)(X0:T VH=aO XA)(s:Int)(l:List Int)(s2:Int)(aa:List Int)(bY:Int)(bo:List Int)(b7:Int)(bH:List Int)(H:(D l)<=1000000/\D aa<=1000000/\D bo<=1000000/\D bH<=1000000):WP T XR (.same (dD (wY (s,l) (s2,aa) (bY,bo) (b7,bH)))) [.I (.agg [.int .i64 s,.Y (l.map ae)]),.I (.agg [.int .i64 s2,.Y (aa.map ae)]),.I (.agg [.int .i64 bY,.Y (bo.map ae)]),.I (.agg [.int .i64 b7,.Y (bH.map ae)])]:=by
 refine cH ?_;simp only[XR];obtain⟨bt,bz,eU,fk⟩:=H;have ef:=uj (s,l) (s2,aa);have bX:=uj (bY,bo) (b7,bH);unfold wY;generalize lF:mulR (s,l) (s2,aa)=M1 at *;generalize fN:mulR (bY,bo) (b7,bH)=M2 at *;obtain⟨⟨cE,cS⟩,ay⟩:=M1;obtain⟨⟨c0,et⟩,aA⟩:=M2;rcases G:(ay==0)
 ·refine a1 ?_;repeat' (intro h<;>simp only[h,go_sem,go_sem_proc,sd,X0,bt,bz,eU,fk,lF,G,ef,bX,dD,bU,b6]<;>try refine al ?_ ?_)
 ·have jq:ay=0:=by simpa using G
  subst jq;rcases J:(aA==0)
  ·refine a1 ?_;repeat' (intro h<;>simp only[h,go_sem,go_sem_proc,sd,X0,bt,bz,eU,fk,lF,fN,G,J,ef,bX,dD,bU,b6]<;>try refine al ?_ ?_)
  ·have iL:aA=0:=by simpa using J
   subst iL;refine a1 ?_;repeat' (intro h<;>simp only[h,go_sem,go_sem_proc,sd,X0,bt,bz,eU,fk,lF,fN,G,ef,bX,dD,bU,b6]<;>try refine al ?_ ?_)
def s5 (p:Raw×Int)(q:Raw×Int):bG×Int:=if (p.2==0)=true then (if (q.2==0)=true then gT p.1 q.1 else (c1,6)) else (c1,6)
abbrev X1:Int×(List Int)×Int×Int×(List Int)×Int->List Data:=λ(s,l,e,s2,aa,aA)=>[.agg [.int .i64 s,.Y (l.map ae)],.int .i64 e,.agg [.int .i64 s2,.Y (aa.map ae)],.int .i64 aA]
def Mm:=cy X1 λ(s,l,e,s2,aa,aA)=>cT (D l<=1000000/\D aa<=1000000) (.same (cQ (s5 ((s,l),e) ((s2,aa),aA))))
theorem atH:∀a b,X1 a=X1 b->a=b:=by
  rintro⟨s1,dr,ay,Fi,Fj,vt⟩ ⟨s2,aa,aA,Fk,Fl,vu⟩ h;simp only[bf,Data.agg.injEq,Data.int.injEq,Data.Y.injEq] at h;exact ei h.1.1.2 (ei (map_inj hp _ _ h.1.2.1) (ei h.2.1.2 (ei h.2.2.1.1.2 (ei (map_inj hp _ _ h.2.2.1.2.1) h.2.2.2.1.2))))
@[go_sem] theorem aJl (s:Int)(l:List Int)(e:Int)(s2:Int)(aa:List Int)(aA:Int)(H:(D l)<=1000000/\D aa<=1000000):Mm [.agg [.int .i64 s,.Y (l.map ae)],.int .i64 e,.agg [.int .i64 s2,.Y (aa.map ae)],.int .i64 aA]=some (.same (cQ (s5 ((s,l),e) ((s2,aa),aA)))):=(cF atH (s,l,e,s2,aa,aA)).trans (cY H _)
theorem atI (T:bm)(Ml:T Lv=aO QK)(s:Int)(l:List Int)(e:Int)(s2:Int)(aa:List Int)(aA:Int)(H:(D l)<=1000000/\D aa<=1000000):WP T XS (.same (cQ (s5 ((s,l),e) ((s2,aa),aA)))) [.I (.agg [.int .i64 s,.Y (l.map ae)]),.I (.int .i64 e),.I (.agg [.int .i64 s2,.Y (aa.map ae)]),.I (.int .i64 aA)]:=by
 refine cH ?_;simp only[XS];obtain⟨bt,bz⟩:=H;unfold s5;rcases G:(e==0)
 ·refine a1 ?_;repeat' (intro h<;>simp only[h,go_sem,go_sem_proc,Ml,bt,bz,G,cQ,aw,c1,b6]<;>try refine al ?_ ?_)
 ·have jq:e=0:=by simpa using G
  subst jq;rcases J:(aA==0)
  ·refine a1 ?_;repeat' (intro h<;>simp only[h,go_sem,go_sem_proc,Ml,bt,bz,G,J,cQ,aw,c1,b6]<;>try refine al ?_ ?_)
  ·have iL:aA=0:=by simpa using J
   subst iL;refine a1 ?_;repeat' (intro h<;>simp only[h,go_sem,go_sem_proc,Ml,bt,bz,G,cQ,aw,c1,b6]<;>try refine al ?_ ?_)
def vv (a b:bG):bG×Int:=if dJ a=true then (if dJ b=true then s5 (wY a.1 b.2 b.1 a.2) (mulR a.2 b.2) else (c1,1)) else (c1,1)
def kf (a b:bG):bG×Int:=if dJ a=true then (if dJ b=true then vv a (hG b.1,b.2) else (c1,1)) else (c1,1)
def h2 (a b:bG):bG×Int:=if dJ a=true then (if dJ b=true then s5 (mulR a.1 b.1) (mulR a.2 b.2) else (c1,1)) else (c1,1)
def fG (a b:bG):bG×Int:=if dJ a=true then (if dJ b=true then (if (b.1.1==0)=true then (c1,15) else s5 (mulR a.1 b.2) (mulR a.2 b.1)) else (c1,1)) else (c1,1)
theorem atJ (a:Raw)(h:a.2.length<=1000000):(hG a).2.length<=1000000:=by
 unfold hG
 split
 ·rename_i X;obtain⟨z,a2,e⟩:=(ib _).1 X;rw[e,fe];exact ke (by omega)
 ·simp
abbrev wZ:Int×(List Int)×Int×(List Int)×Int×(List Int)×Int×(List Int)->List Data:=λ(s,l,s2,aa,bY,bo,b7,bH)=>[.agg [.int .i64 s,.Y (l.map ae),.int .i64 s2,.Y (aa.map ae)],.agg [.int .i64 bY,.Y (bo.map ae),.int .i64 b7,.Y (bH.map ae)]]
def Fy:=cy wZ λ(s,l,s2,aa,bY,bo,b7,bH)=>cT (D l<=1000000/\D aa<=1000000/\D bo<=1000000/\D bH<=1000000) (.same (cQ (vv ((s,l),(s2,aa)) ((bY,bo),(b7,bH)))))
theorem zM:∀a b,wZ a=wZ b->a=b:=by
  rintro⟨s1,dr,Fi,Fj,aty,atz,atA,atB⟩ ⟨s2,aa,Fk,Fl,atC,atD,atE,atF⟩ h;simp only[bf,Data.agg.injEq,Data.int.injEq,Data.Y.injEq] at h;exact ei h.1.1.2 (ei (map_inj hp _ _ h.1.2.1) (ei h.1.2.2.1.2 (ei (map_inj hp _ _ h.1.2.2.2.1) (ei h.2.1.1.2 (ei (map_inj hp _ _ h.2.1.2.1) (ei h.2.1.2.2.1.2 (map_inj hp _ _ h.2.1.2.2.2.1)))))))
@[go_sem] theorem atK (s:Int)(l:List Int)(s2:Int)(aa:List Int)(bY:Int)(bo:List Int)(b7:Int)(bH:List Int)(H:(D l)<=1000000/\D aa<=1000000/\D bo<=1000000/\D bH<=1000000):Fy [.agg [.int .i64 s,.Y (l.map ae),.int .i64 s2,.Y (aa.map ae)],.agg [.int .i64 bY,.Y (bo.map ae),.int .i64 b7,.Y (bH.map ae)]]=some (.same (cQ (vv ((s,l),(s2,aa)) ((bY,bo),(b7,bH))))):=(cF zM (s,l,s2,aa,bY,bo,b7,bH)).trans (cY H _)
theorem atL (T:bm)(g5:T nR=aO zK)(X2:T VA=aO XZ)(sd:T wI=aO Is)(w0:T ER=aO Mm)(s:Int)(l:List Int)(s2:Int)(aa:List Int)(bY:Int)(bo:List Int)(b7:Int)(bH:List Int)(H:(D l)<=1000000/\D aa<=1000000/\D bo<=1000000/\D bH<=1000000):WP T XL (.same (cQ (vv ((s,l),(s2,aa)) ((bY,bo),(b7,bH))))) [.I (.agg [.int .i64 s,.Y (l.map ae),.int .i64 s2,.Y (aa.map ae)]),.I (.agg [.int .i64 bY,.Y (bo.map ae),.int .i64 b7,.Y (bH.map ae)])]:=by
 refine cH ?_;simp only[XL];obtain⟨bt,bz,eU,fk⟩:=H;unfold vv
 by_cases X:dJ ((s,l),(s2,aa))=true
 ·by_cases aZ:dJ ((bY,bo),(b7,bH))=true
  ·have ef:=atw (s,l) (b7,bH) (bY,bo) (s2,aa);have bX:=uj (s2,aa) (b7,bH);rw[ad X,ad aZ];dsimp only;generalize lF:wY (s,l) (b7,bH) (bY,bo) (s2,aa)=M1 at *;generalize fN:mulR (s2,aa) (b7,bH)=M2 at *;obtain⟨⟨cE,cS⟩,ay⟩:=M1;obtain⟨⟨c0,et⟩,aA⟩:=M2;refine a1 ?_;repeat' (intro h<;>simp only[h,go_sem,go_sem_proc,g5,X2,sd,w0,bt,bz,eU,fk,X,aZ,lF,fN,ef,bX,dD,bU,cQ,aw]<;>try refine al ?_ ?_)
  ·have aZ:dJ ((bY,bo),(b7,bH))=false:=by simpa using aZ
   rw[ad X,ag (by simp[aZ])];refine a1 ?_;repeat' (intro h<;>simp only[h,go_sem,go_sem_proc,g5,X2,sd,w0,bt,bz,eU,fk,X,aZ,cQ,aw,c1,b6]<;>try refine al ?_ ?_)
 ·have X:dJ ((s,l),(s2,aa))=false:=by simpa using X
  rw[ag (by simp[X])];refine a1 ?_;repeat' (intro h<;>simp only[h,go_sem,go_sem_proc,g5,X2,sd,w0,bt,bz,eU,fk,X,cQ,aw,c1,b6]<;>try refine al ?_ ?_)
def zN:=cy wZ λ(s,l,s2,aa,bY,bo,b7,bH)=>cT (D l<=1000000/\D aa<=1000000/\D bo<=1000000/\D bH<=1000000) (.same (cQ (kf ((s,l),(s2,aa)) ((bY,bo),(b7,bH)))))
@[go_sem] theorem atM (s:Int)(l:List Int)(s2:Int)(aa:List Int)(bY:Int)(bo:List Int)(b7:Int)(bH:List Int)(H:(D l)<=1000000/\D aa<=1000000/\D bo<=1000000/\D bH<=1000000):zN [.agg [.int .i64 s,.Y (l.map ae),.int .i64 s2,.Y (aa.map ae)],.agg [.int .i64 bY,.Y (bo.map ae),.int .i64 b7,.Y (bH.map ae)]]=some (.same (cQ (kf ((s,l),(s2,aa)) ((bY,bo),(b7,bH))))):=(cF zM (s,l,s2,aa,bY,bo,b7,bH)).trans (cY H _)
theorem atN (T:bm)(g5:T nR=aO zK)(Bv:T HP=aO Qw)(zO:T CN=aO Fy)(s:Int)(l:List Int)(s2:Int)(aa:List Int)(bY:Int)(bo:List Int)(b7:Int)(bH:List Int)(H:(D l)<=1000000/\D aa<=1000000/\D bo<=1000000/\D bH<=1000000):WP T XN (.same (cQ (kf ((s,l),(s2,aa)) ((bY,bo),(b7,bH))))) [.I (.agg [.int .i64 s,.Y (l.map ae),.int .i64 s2,.Y (aa.map ae)]),.I (.agg [.int .i64 bY,.Y (bo.map ae),.int .i64 b7,.Y (bH.map ae)])]:=by
 refine cH ?_;simp only[XN];obtain⟨bt,bz,eU,fk⟩:=H;unfold kf
 by_cases X:dJ ((s,l),(s2,aa))=true
 ·by_cases aZ:dJ ((bY,bo),(b7,bH))=true
  ·have ef:=atJ (bY,bo) eU;rw[ad X,ad aZ];dsimp only;generalize lF:hG (bY,bo)=M1 at *;obtain⟨cE,cS⟩:=M1;refine a1 ?_;repeat' (intro h<;>simp only[h,go_sem,go_sem_proc,g5,Bv,zO,bt,bz,eU,fk,X,aZ,lF,ef,dD,bU,cQ,aw]<;>try refine al ?_ ?_)
  ·have aZ:dJ ((bY,bo),(b7,bH))=false:=by simpa using aZ
   rw[ad X,ag (by simp[aZ])];refine a1 ?_;repeat' (intro h<;>simp only[h,go_sem,go_sem_proc,g5,Bv,zO,bt,bz,eU,fk,X,aZ,cQ,aw,c1,b6]<;>try refine al ?_ ?_)
 ·have X:dJ ((s,l),(s2,aa))=false:=by simpa using X
  rw[ag (by simp[X])];refine a1 ?_;repeat' (intro h<;>simp only[h,go_sem,go_sem_proc,g5,Bv,zO,bt,bz,eU,fk,X,cQ,aw,c1,b6]<;>try refine al ?_ ?_)
def zP:=cy wZ λ(s,l,s2,aa,bY,bo,b7,bH)=>cT (D l<=1000000/\D aa<=1000000/\D bo<=1000000/\D bH<=1000000) (.same (cQ (h2 ((s,l),(s2,aa)) ((bY,bo),(b7,bH)))))
@[go_sem] theorem atO (s:Int)(l:List Int)(s2:Int)(aa:List Int)(bY:Int)(bo:List Int)(b7:Int)(bH:List Int)(H:(D l)<=1000000/\D aa<=1000000/\D bo<=1000000/\D bH<=1000000):zP [.agg [.int .i64 s,.Y (l.map ae),.int .i64 s2,.Y (aa.map ae)],.agg [.int .i64 bY,.Y (bo.map ae),.int .i64 b7,.Y (bH.map ae)]]=some (.same (cQ (h2 ((s,l),(s2,aa)) ((bY,bo),(b7,bH))))):=(cF zM (s,l,s2,aa,bY,bo,b7,bH)).trans (cY H _)
theorem atP (T:bm)(g5:T nR=aO zK)(sd:T wI=aO Is)(w0:T ER=aO Mm)(s:Int)(l:List Int)(s2:Int)(aa:List Int)(bY:Int)(bo:List Int)(b7:Int)(bH:List Int)(H:(D l)<=1000000/\D aa<=1000000/\D bo<=1000000/\D bH<=1000000):WP T XO (.same (cQ (h2 ((s,l),(s2,aa)) ((bY,bo),(b7,bH))))) [.I (.agg [.int .i64 s,.Y (l.map ae),.int .i64 s2,.Y (aa.map ae)]),.I (.agg [.int .i64 bY,.Y (bo.map ae),.int .i64 b7,.Y (bH.map ae)])]:=by
 refine cH ?_;simp only[XO];obtain⟨bt,bz,eU,fk⟩:=H;unfold h2
 by_cases X:dJ ((s,l),(s2,aa))=true
 ·by_cases aZ:dJ ((bY,bo),(b7,bH))=true
  ·have ef:=uj (s,l) (bY,bo);have bX:=uj (s2,aa) (b7,bH);rw[ad X,ad aZ];dsimp only;generalize lF:mulR (s,l) (bY,bo)=M1 at *;generalize fN:mulR (s2,aa) (b7,bH)=M2 at *;obtain⟨⟨cE,cS⟩,ay⟩:=M1;obtain⟨⟨c0,et⟩,aA⟩:=M2;refine a1 ?_;repeat' (intro h<;>simp only[h,go_sem,go_sem_proc,g5,sd,w0,bt,bz,eU,fk,X,aZ,lF,fN,ef,bX,dD,bU,cQ,aw]<;>try refine al ?_ ?_)
  ·have aZ:dJ ((bY,bo),(b7,bH))=false:=by simpa using aZ
   rw[ad X,ag (by simp[aZ])];refine a1 ?_;repeat' (intro h<;>simp only[h,go_sem,go_sem_proc,g5,sd,w0,bt,bz,eU,fk,X,aZ,cQ,aw,c1,b6]<;>try refine al ?_ ?_)
 ·have X:dJ ((s,l),(s2,aa))=false:=by simpa using X
  rw[ag (by simp[X])];refine a1 ?_;repeat' (intro h<;>simp only[h,go_sem,go_sem_proc,g5,sd,w0,bt,bz,eU,fk,X,cQ,aw,c1,b6]<;>try refine al ?_ ?_)
def Fz:=cy wZ λ(s,l,s2,aa,bY,bo,b7,bH)=>cT (D l<=1000000/\D aa<=1000000/\D bo<=1000000/\D bH<=1000000) (.same (cQ (fG ((s,l),(s2,aa)) ((bY,bo),(b7,bH)))))
@[go_sem] theorem atQ (s:Int)(l:List Int)(s2:Int)(aa:List Int)(bY:Int)(bo:List Int)(b7:Int)(bH:List Int)(H:(D l)<=1000000/\D aa<=1000000/\D bo<=1000000/\D bH<=1000000):Fz [.agg [.int .i64 s,.Y (l.map ae),.int .i64 s2,.Y (aa.map ae)],.agg [.int .i64 bY,.Y (bo.map ae),.int .i64 b7,.Y (bH.map ae)]]=some (.same (cQ (fG ((s,l),(s2,aa)) ((bY,bo),(b7,bH))))):=(cF zM (s,l,s2,aa,bY,bo,b7,bH)).trans (cY H _)
theorem atS (T:bm)(g5:T nR=aO zK)(sd:T wI=aO Is)(w0:T ER=aO Mm)(s:Int)(l:List Int)(s2:Int)(aa:List Int)(bY:Int)(bo:List Int)(b7:Int)(bH:List Int)(H:(D l)<=1000000/\D aa<=1000000/\D bo<=1000000/\D bH<=1000000):WP T XU (.same (cQ (fG ((s,l),(s2,aa)) ((bY,bo),(b7,bH))))) [.I (.agg [.int .i64 s,.Y (l.map ae),.int .i64 s2,.Y (aa.map ae)]),.I (.agg [.int .i64 bY,.Y (bo.map ae),.int .i64 b7,.Y (bH.map ae)])]:=by
 refine cH ?_;simp only[XU];obtain⟨bt,bz,eU,fk⟩:=H;unfold fG
 by_cases X:dJ ((s,l),(s2,aa))=true
 ·by_cases aZ:dJ ((bY,bo),(b7,bH))=true
  ·rw[ad X,ad aZ];dsimp only;rcases aj:(bY==0)
   ·have ef:=uj (s,l) (b7,bH);have bX:=uj (s2,aa) (bY,bo);rw[ag (by simp)];generalize lF:mulR (s,l) (b7,bH)=M1 at *;generalize fN:mulR (s2,aa) (bY,bo)=M2 at *;obtain⟨⟨cE,cS⟩,ay⟩:=M1;obtain⟨⟨c0,et⟩,aA⟩:=M2;refine a1 ?_;repeat' (intro h<;>simp only[h,go_sem,go_sem_proc,g5,sd,w0,bt,bz,eU,fk,X,aZ,aj,lF,fN,ef,bX,dD,bU,cQ,aw]<;>try refine al ?_ ?_)
   ·rw[ad rfl];refine a1 ?_;repeat' (intro h<;>simp only[h,go_sem,go_sem_proc,g5,sd,w0,bt,bz,eU,fk,X,aZ,aj,cQ,aw,c1,b6]<;>try refine al ?_ ?_)
  ·have aZ:dJ ((bY,bo),(b7,bH))=false:=by simpa using aZ
   rw[ad X,ag (by simp[aZ])];refine a1 ?_;repeat' (intro h<;>simp only[h,go_sem,go_sem_proc,g5,sd,w0,bt,bz,eU,fk,X,aZ,cQ,aw,c1,b6]<;>try refine al ?_ ?_)
 ·have X:dJ ((s,l),(s2,aa))=false:=by simpa using X
  rw[ag (by simp[X])];refine a1 ?_;repeat' (intro h<;>simp only[h,go_sem,go_sem_proc,g5,sd,w0,bt,bz,eU,fk,X,cQ,aw,c1,b6]<;>try refine al ?_ ?_)
def Mn (c:Bool)(v:Rat):bG×Int:=if c=true then (aq v,0) else (c1,6)
def hS (z:Int):Bool:=decide (z.natAbs<dP)
def qD (x y:Rat):Bool:=hS (x.num*y.den)&&(hS (y.num*x.den)&&(hS (x.num*y.den+y.num*x.den)&&hS ((x.den:Int)*y.den)))
def zQ (x y:Rat):Bool:=hS (x.num*y.num)&&hS ((x.den:Int)*y.den)
def w2 (x y:Rat):Bool:=hS (x.num*y.den)&&hS ((x.den:Int)*y.num)
theorem w3 {z:Int}(h:hS z=true):pU z=(bd z,0):=ad (by simpa [hS] using h)
theorem Bw {z:Int}(h:hS z=false):pU z=((0,[]),6):=ag (by simpa [hS] using h)
theorem pe {z:Int}(h:hS z=true):z.natAbs<dP:=by simpa [hS] using h
theorem atT {a b c d:Int}(a4:a.natAbs<dP)(ai:b.natAbs<dP)(H:c.natAbs<dP)(ab:d.natAbs<dP):
  wY (bd a) (bd b) (bd c) (bd d)=if (hS (a*b)&&(hS (c*d)&&hS (a*b+c*d)))=true then (bd (a*b+c*d),0) else ((0,[]),6):=by
 unfold wY;rw[vn a4 ai,vn H ab];rcases G:hS (a*b)
 ·rw[Bw G];rfl
 ·rw[w3 G];rcases J:hS (c*d)
  ·rw[Bw J];rfl
  ·rw[w3 J];show lG (bd (a*b)) (bd (c*d))=_;rw[Mc (pe G) (pe J)];rcases af:hS (a*b+c*d)
   ·rw[Bw af];rfl
   ·rw[w3 af];rfl
theorem X3 (x y:Rat):mH (x.num*y.den+y.num*x.den) ((x.den:Int)*y.den)=x+y:=by
 rw[<-Rat.divInt_add_divInt _ _ (by have:=den_pos x;omega) (by have:=den_pos y;omega),Fu,Fu]
theorem X4 (x y:Rat):mH (x.num*y.num) ((x.den:Int)*y.den)=x*y:=by
 rw[<-aho,Fu,Fu]
theorem ahp (x y:Rat):mH (x.num*y.den) ((x.den:Int)*y.num)=x/y:=by
 rw[<-aho,Fu,<-Rat.inv_divInt,Fu]
 rfl
theorem zR (x:Rat):(x.den:Int)≠0:=by have:=den_pos x;omega
theorem ahq {x y:Rat}(M:dX x)(ao:dX y):vv (aq x) (aq y)=Mn (qD x y) (x+y):=by
 unfold vv;rw[ad (yl M),ad (yl ao)];show s5 (wY (bd x.num) (bd y.den) (bd y.num) (bd x.den)) (mulR (bd x.den) (bd y.den))=_;rw[atT M.1 (qB ao) ao.1 (qB M),vn (qB M) (qB ao)];unfold qD;rcases G:hS (x.num*y.den)
 ·rfl
 ·rcases J:hS (y.num*x.den)
  ·rfl
  ·rcases af:hS (x.num*y.den+y.num*x.den)
   ·rfl
   ·rcases aP:hS ((x.den:Int)*y.den)
    ·rw[Bw aP];rfl
    ·rw[w3 aP];show gT (bd (x.num*y.den+y.num*x.den)) (bd ((x.den:Int)*y.den))=(aq (x+y),0)
     rw[Bu (pe af) (pe aP) (Bx (zR x) (zR y)),X3]
theorem ahr {x:Rat}(h:dX x):dX (-x):=⟨by rw[Rat.neg_num];have:=h.1;omega,by rw[Rat.neg_den];exact h.2⟩
theorem Mo {x y:Rat}(M:dX x)(ao:dX y):kf (aq x) (aq y)=Mn (qD x (-y)) (x-y):=by
 unfold kf;rw[ad (yl M),ad (yl ao)]
 have:(hG (aq y).1,(aq y).2)=aq (-y):=by
  unfold aq;have:hG (bd y.num)=bd (-y.num):=by unfold hG;rw[ad (lb ao.1),fe]
  dsimp only;rw[this];rfl
 rw[this,ahq M (ahr ao),Dd]
theorem QL {x y:Rat}(M:dX x)(ao:dX y):h2 (aq x) (aq y)=Mn (zQ x y) (x*y):=by
 unfold h2;rw[ad (yl M),ad (yl ao)];show s5 (mulR (bd x.num) (bd y.num)) (mulR (bd x.den) (bd y.den))=_;rw[vn M.1 ao.1,vn (qB M) (qB ao)];unfold zQ;rcases G:hS (x.num*y.num)
 ·rw[Bw G];rfl
 ·rw[w3 G];rcases aP:hS ((x.den:Int)*y.den)
  ·rw[Bw aP];rfl
  ·rw[w3 aP];show gT (bd (x.num*y.num)) (bd ((x.den:Int)*y.den))=(aq (x*y),0)
   rw[Bu (pe G) (pe aP) (Bx (zR x) (zR y)),X4]
theorem Mp {x y:Rat}(M:dX x)(ao:dX y)(aj:y≠0):fG (aq x) (aq y)=Mn (w2 x y) (x/y):=by
 unfold fG;rw[ad (yl M),ad (yl ao)];have aM:y.num≠0:=λh=>aj (Rat.num_eq_zero.1 h)
 have:((aq y).1.1==0)=false:=by
  show (y.num.sign==0)=false
  simpa using aM
 rw[this,ag (by simp)];show s5 (mulR (bd x.num) (bd y.den)) (mulR (bd x.den) (bd y.num))=_;rw[vn M.1 (qB ao),vn (qB M) ao.1];unfold w2;rcases G:hS (x.num*y.den)
 ·rw[Bw G];rfl
 ·rw[w3 G];rcases aP:hS ((x.den:Int)*y.num)
  ·rw[Bw aP];rfl
  ·rw[w3 aP];show gT (bd (x.num*y.den)) (bd ((x.den:Int)*y.num))=(aq (x/y),0)
   rw[Bu (pe G) (pe aP) (Bx (zR x) aM),ahp]
theorem atU {x y:Rat}(h:qD x y=true):dX (x+y):=by
 unfold qD at h;simp only[gb] at h;rw[<-X3];exact QJ (pe h.2.2.1) (pe h.2.2.2)
theorem ahs {x y:Rat}(h:qD x (-y)=true):dX (x-y):=by rw[Dd];exact atU h
theorem aht {x y:Rat}(h:zQ x y=true):dX (x*y):=by
 unfold zQ at h;simp only[gb] at h;rw[<-X4];exact QJ (pe h.1) (pe h.2)
theorem atV {x y:Rat}(h:w2 x y=true):dX (x/y):=by
 unfold w2 at h;simp only[gb] at h;rw[<-ahp];exact QJ (pe h.1) (pe h.2)
def mI (x y:Rat):Int:=(x.num*y.den-y.num*x.den).sign
def pf (a b:bG):Int:=if dJ a=true then (if dJ b=true then (hs a.1*hs b.2-hs b.1*hs a.2).sign else 0) else 0
theorem QM {x y:Rat}(M:dX x)(ao:dX y):pf (aq x) (aq y)=mI x y:=by
 unfold pf;rw[ad (yl M),ad (yl ao)];unfold aq mI;rw[fe,fe,fe,fe]
theorem QN {p q:Int}(bF:0<q):0<=p.fmod q/\p.fmod q<q:=⟨Int.fmod_nonneg_of_pos _ bF,Int.fmod_lt_of_pos _ bF⟩
theorem ahu {p q r s:Int}(bF:0<q)(Q:0<s)(h:p.fdiv q<r.fdiv s):p*s-r*q<0:=by
 have ay:=QO p q;have aA:=QO r s;have c0:=QN (p:=p) bF;have et:=QN (p:=r) Q;generalize p.fdiv q=x at *;generalize r.fdiv s=y at *;generalize p.fmod q=u at *;generalize r.fmod s=v at *;subst ay aA;have G:q*s*(x+1)<=q*s*y:=Int.mul_le_mul_of_nonneg_left (by omega) (QB (Int.mul_pos bF Q));have J:u*s<q*s:=Int.mul_lt_mul_of_pos_right c0.2 Q;have af:0<=v*q:=vh et.1 (by omega);have bQ:(q*x+u)*s-(s*y+v)*q=q*s*(x+1)-q*s*y+(u*s-q*s)-v*q:=by grind
 omega
theorem atW {p q r s:Int}(h:p.fdiv q=r.fdiv s):p*s-r*q=p.fmod q*s-r.fmod s*q:=by
 have ay:=QO p q;have aA:=QO r s;rw[h] at ay;generalize r.fdiv s=y at *;generalize p.fmod q=u at *;generalize r.fmod s=v at *;subst ay aA;grind
theorem ahv (a b:Int):(a-b).sign = -(b-a).sign:=by rw[<-Fh];congr 1;omega
theorem ahw {p q:Int}(aC:p.natAbs<dP)(bF:q.natAbs<dP)(aj:0<q):
  lK (p.sign,aL p.natAbs) (q.sign,aL q.natAbs)=(((p.fdiv q).sign,aL (p.fdiv q).natAbs),((p.fmod q).sign,aL (p.fmod q).natAbs),0):=Br aC bF (by omega)
def zS:=cy wZ λ(s,l,s2,aa,bY,bo,b7,bH)=>cT (D l<=1000000/\D aa<=1000000/\D bo<=1000000/\D bH<=1000000) (.same (.int .i64 (pf ((s,l),(s2,aa)) ((bY,bo),(b7,bH)))))
@[go_sem] theorem ahx (s:Int)(l:List Int)(s2:Int)(aa:List Int)(bY:Int)(bo:List Int)(b7:Int)(bH:List Int)(H:(D l)<=1000000/\D aa<=1000000/\D bo<=1000000/\D bH<=1000000):zS [.agg [.int .i64 s,.Y (l.map ae),.int .i64 s2,.Y (aa.map ae)],.agg [.int .i64 bY,.Y (bo.map ae),.int .i64 b7,.Y (bH.map ae)]]=some (.same (.int .i64 (pf ((s,l),(s2,aa)) ((bY,bo),(b7,bH))))):=(cF zM (s,l,s2,aa,bY,bo,b7,bH)).trans (cY H _)
theorem atX (T:bm)(g5:T nR=aO zK)(sc:T ES=aO QA)(zT:T VF=aO XB)(s:Int)(l:List Int)(s2:Int)(aa:List Int)(bY:Int)(bo:List Int)(b7:Int)(bH:List Int)(H:(D l)<=1000000/\D aa<=1000000/\D bo<=1000000/\D bH<=1000000):WP T XP (.same (.int .i64 (pf ((s,l),(s2,aa)) ((bY,bo),(b7,bH))))) [.I (.agg [.int .i64 s,.Y (l.map ae),.int .i64 s2,.Y (aa.map ae)]),.I (.agg [.int .i64 bY,.Y (bo.map ae),.int .i64 b7,.Y (bH.map ae)])]:=by
 refine cH ?_;simp only[XP];obtain⟨bt,bz,eU,fk⟩:=H
 by_cases X:dJ ((s,l),(s2,aa))=true
 ·by_cases aZ:dJ ((bY,bo),(b7,bH))=true
  ·obtain⟨x,M,e⟩:=(Bt _).1 X;obtain⟨y,ao,aA⟩:=(Bt _).1 aZ;have hm:pf ((s,l),(s2,aa)) ((bY,bo),(b7,bH))=mI x y:=by rw[e,aA,QM M ao]
   rw[hm];clear hm;have FA:(s,l)=bd x.num:=congrArg pd e;have atY:(s2,aa)=bd x.den:=congrArg Prod.snd e;have atZ:(bY,bo)=bd y.num:=congrArg pd aA;have at0:(b7,bH)=bd y.den:=congrArg Prod.snd aA;clear e aA;have Iz:=qB M;have Mq:=qB ao;have pZ:=den_pos x;have jO:=den_pos y;have at1:=M.1;have UN:=ao.1;unfold mI;generalize x.num=P at *;generalize (x.den:Int)=aU at *;generalize y.num=bV at *;generalize (y.den:Int)=S at *
   cases FA
   cases atY
   cases atZ
   cases at0;simp only[go_sem,go_sem_proc,g5,sc,zT,bt,bz,eU,fk,X,aZ];refine c9 [5,6,7,8] [135002,135003] (λ((se,p,q,r,t):Int×Int×Int×Int×Int) tm mem=>(se=1\/se = -1)/\0<q/\0<t/\p.natAbs<dP/\q.natAbs<dP/\r.natAbs<dP/\t.natAbs<dP/\(P*S-bV*aU).sign=se*(p*t-r*q).sign/\tm 9=.I (.int .i64 se)/\mem 135005=some (0,[.I (.int .i64 p.sign),.I (.Y ((aL p.natAbs).map ae))])/\mem 135006=some (0,[.I (.int .i64 q.sign),.I (.Y ((aL q.natAbs).map ae))])/\mem 135007=some (0,[.I (.int .i64 r.sign),.I (.Y ((aL r.natAbs).map ae))])/\mem 135008=some (0,[.I (.int .i64 t.sign),.I (.Y ((aL t.natAbs).map ae))])) (λ(_,_,q,_,_)=>q.natAbs) (1,P,aU,bV,S) (by refine⟨.inl rfl,pZ,jO,at1,Iz,UN,Mq,by rw[o8],rfl,?_,?_,?_,?_⟩<;>rfl) ?_;intro vs ms aK aF;simp only[go_sem,go_sem_proc,g5,sc,zT] at aK aF;subst aK aF;rintro⟨se,p,q,r,t⟩ tm mem L hm ⟨oB,nw,Mr,aC,bF,mm,cm,jk,eA,Bz,fW,mn,s6⟩;simp only[go_sem,go_sem_proc,g5,sc,zT,bf] at L hm;obtain⟨bh,bK,bE,bP⟩:=L;have Ms:=ke aC;have Mt:=ke bF;have yn:=ke mm;have lt:=ke cm;have k8:=ahw aC bF nw;have mG:=ahw mm cm Mr;have ahy:=Ix (y:=q) aC (by omega);have Mu:=Ix (y:=t) mm (by omega);have BA:=ke ahy;have De:=ke Mu;have fc:pb ((p.fdiv q).sign,aL (p.fdiv q).natAbs) ((r.fdiv t).sign,aL (r.fdiv t).natAbs)=gx (p.fdiv q) (r.fdiv t):=Md ahy Mu;have aJm:=QN (p:=p) nw;have bv:=QN (p:=r) Mr;have at2:IntKind.i64.wrap (0-se) = -se:=by rcases oB with rfl|rfl<;>rfl
   rcases vl (p.fdiv q) (r.fdiv t) with av|heq|g1
   ·have aN:=ahu nw Mr av;rw[Bp av] at fc;rw[jk,nT aN];have hw:IntKind.i64.wrap (se * -1)=se * -1:=by rcases oB with rfl|rfl<;>rfl
    refine a1 ?_;repeat' (intro h<;>simp only[h,go_sem,go_sem_proc,g5,sc,zT,bh,bK,bE,bP,eA,hm,Bz,fW,mn,s6,Ms,Mt,yn,lt,BA,De,k8,mG,fc,hw,gK,bU,show ((-1:Int)==0)=false from rfl]<;>try refine al ?_ ?_)
   ·have aN:=atW heq;rw[heq,Iu] at fc
    have fQ:∀a:Int,-1<=a->a<=1->IntKind.i64.wrap (se*a)=se*a:=by
     intro a G J;rcases oB with rfl|rfl<;>exact wrap64 _ (by omega) (by omega)
    rw[heq] at k8 BA;have aJn:(p.fmod q).natAbs<dP:=by omega
    have aJo:(r.fmod t).natAbs<dP:=by omega
    rw[aN] at jk;generalize p.fmod q=u at *;generalize r.fmod t=v at *
    by_cases hu:u=0
    ·subst hu
     have Q:(0*t-v*q).sign=(0:Int).sign-v.sign:=by
      rw[vo,ahz,Fh,pa,ht nw,sY,zU,ahz]
     rw[Q] at jk;rw[jk];have af:=oz v;have Bn:IntKind.i64.wrap ((0:Int).sign-v.sign)=(0:Int).sign-v.sign:=wrap64 _ (by rw[zU];omega) (by rw[zU];omega);have hw:=fQ ((0:Int).sign-v.sign) (by rw[zU];omega) (by rw[zU];omega);refine a1 ?_;repeat' (intro h<;>simp only[h,go_sem,go_sem_proc,g5,sc,zT,bh,bK,bE,bP,eA,hm,Bz,fW,mn,s6,Ms,Mt,yn,lt,BA,De,k8,mG,fc,hw,Bn,gK,bU,show ((0:Int)==0)=true from rfl,show ((0:Int).sign==0)=true from rfl]<;>try refine al ?_ ?_)
    ·have Fq:0<u:=by omega
     have X5:(u.sign==0)=false:=by simpa using hu
     by_cases Ht:v=0
     ·subst Ht
      have Q:(u*t-0*q).sign=u.sign-(0:Int).sign:=by
       rw[vo,CZ,pa,ht Mr,sY,zU,CZ]
      rw[Q] at jk;rw[jk];have af:=oz u;have Bn:IntKind.i64.wrap (u.sign-(0:Int).sign)=u.sign-(0:Int).sign:=wrap64 _ (by rw[zU];omega) (by rw[zU];omega);have hw:=fQ (u.sign-(0:Int).sign) (by rw[zU];omega) (by rw[zU];omega);refine a1 ?_;repeat' (intro h<;>simp only[h,go_sem,go_sem_proc,g5,sc,zT,bh,bK,bE,bP,eA,hm,Bz,fW,mn,s6,Ms,Mt,yn,lt,BA,De,k8,mG,fc,hw,Bn,X5,gK,bU,show ((0:Int)==0)=true from rfl,show ((0:Int).sign==0)=true from rfl]<;>try refine al ?_ ?_)
     ·have wv:(v.sign==0)=false:=by simpa using Ht
      refine a1 ?_;repeat' (intro h<;>simp only[h,go_sem,go_sem_proc,g5,sc,zT,bh,bK,bE,bP,eA,hm,Bz,fW,mn,s6,Ms,Mt,yn,lt,BA,De,k8,mG,fc,X5,wv,at2,gK,bU,show ((0:Int)==0)=true from rfl]<;>try refine al ?_ ?_)
      refine⟨(-se,q,u,t,v),by dsimp only;omega,by dsimp only;omega,by dsimp only;omega,by dsimp only;omega,by dsimp only;omega,by dsimp only;omega,by dsimp only;omega,by dsimp only;omega,?_,by simp[go_sem],by simp[go_sem],by simp[go_sem],by simp[go_sem],by simp[go_sem]⟩
      dsimp only;rw[jk,ahv (q*v) (t*u),Int.neg_mul_neg,oo t u,oo q v]
   ·have aN:=ahu Mr nw g1;rw[Fm g1] at fc;rw[jk,ahv,nT aN];have hw:IntKind.i64.wrap (se*1)=se * -(-1):=by rcases oB with rfl|rfl<;>rfl
    refine a1 ?_;repeat' (intro h<;>simp only[h,go_sem,go_sem_proc,g5,sc,zT,bh,bK,bE,bP,eA,hm,Bz,fW,mn,s6,Ms,Mt,yn,lt,BA,De,k8,mG,fc,hw,gK,bU,show ((1:Int)==0)=false from rfl]<;>try refine al ?_ ?_)
  ·have aZ:dJ ((bY,bo),(b7,bH))=false:=by simpa using aZ
   have hm:pf ((s,l),(s2,aa)) ((bY,bo),(b7,bH))=0:=by unfold pf;rw[ad X,ag (by simp[aZ])]
   rw[hm];refine a1 ?_;repeat' (intro h<;>simp only[h,go_sem,go_sem_proc,g5,sc,zT,bt,bz,eU,fk,X,aZ]<;>try refine al ?_ ?_)
 ·have X:dJ ((s,l),(s2,aa))=false:=by simpa using X
  have hm:pf ((s,l),(s2,aa)) ((bY,bo),(b7,bH))=0:=by unfold pf;rw[ag (by simp[X])]
  rw[hm];refine a1 ?_;repeat' (intro h<;>simp only[h,go_sem,go_sem_proc,g5,sc,zT,bt,bz,eU,fk,X]<;>try refine al ?_ ?_)
def X6:b1:=cq 22 2 [.t 4] (O [dB 3 108003 1,dd 4 false] (.seq (O [aG 6 1 3,a7 7 .lss 6 0,F 8 7,⟨some 9,some (8,false),.load 1 false (.t 3)⟩,⟨some 10,some (8,false),.bin .gtr (.t 9) (.c (Z 40))⟩,c6 11 8 10,F 12 11,⟨some 13,some (12,false),.b8 (.t 0)⟩,⟨some 14,some (12,false),.len (.t 13)⟩,⟨some 15,some (12,false),.load 1 false (.t 3)⟩,⟨some 16,some (12,false),.bin .neq (.t 14) (.t 15)⟩,c6 17 12 16] (aQ 17 (O [dd 4 false] .ret) .skip)) (O [(ar 5 (.alloc 108005 [(.I .xH)])),⟨none,none,.store 1 (.t 5) (.c (.gX oq []))⟩] (O [F 18 0,(ar 19 (.wg CO [(.t 3),(.t 5)])),(b2 20 Vv 18 19),fu 21 20,F 4 21] .ret))))
def X7:b1:=cq 48 2 [.t 4,.t 5] (O [ec 4,ba 5 0] (.seq (O [F 11 0,F 12 1,(b2 13 Vt 11 12),fu 14 13] (aQ 14 (O [ec 4,ba 5 1] .ret) .skip)) (O [F 16 0,F 17 1,(ar 18 (.call Vx [(.t 16),(.t 17),(.c (.I (.bool true)))])),F 15 18,a6 19 0 15,a6 20 1 15,F 6 19,F 7 20] (.seq (.block 0 (O [F 22 6,e2 23 22,aI 24 2 23,aG 25 1 24,F 21 25] (aQ 21 (O [ec 4,ba 5 6] .ret) (O [F 27 7,cC 28 27,a7 29 .gtr 28 0,F 26 29] (aQ 26 (O [ec 4,ba 5 17] .ret) .skip))))) (O [ec 8] (.seq (O [F 30 6,e2 31 30,aI 32 0 31,aG 33 1 32,cC 34 33,ba 35 0] (.block 1 (.ghost (.nn 8 109045 4) (.loop  (O [bA 36 .lss 35 34] (.seq (aQ 36 .skip (.exit 1)) (.seq (.block 2 (O [bI 37 1 33 35,aG 38 1 37,F 10 38] (.ops [F 39 8,F 40 10,F 41 1,bI 42 4 40 41,aY 43 4 42,(ar 44 (.eL 109044 false [(Z 0),.nil,(Z 0),.nil] 4 1 [(0,4,(.t 43))])),(ar 45 (.app 109045 [(Z 0),.nil,(Z 0),.nil] 64 (.t 39) (.t 44))),F 8 45]))) (.ops [a7 46 .add 35 1,F 35 46])))))))) (O [F 47 8,F 4 47,ba 5 0] .ret)))))))
def X8:b1:=cq 6 1 [.t 2] (O [dB 1 125001 0,dd 2 false] (O [aY 3 4 1,(dT 4 nR 3),fu 5 4,F 2 5] .ret))
def X9:b1:=cq 22 3 [.t 4] (O [dB 3 127003 0,dd 4 false] (O [aI 5 0 3,aG 6 1 5,cC 7 6,aG 8 1 1,bA 9 .neq 7 8,F 10 9,⟨some 11,some (10,false),.load 1 false (.t 2)⟩,⟨some 12,some (10,false),.dQ 1 (.t 3)⟩,⟨some 13,some (10,false),.load 4 true (.t 12)⟩,⟨some 14,some (10,false),.nJ (.t 11) [(.t 13)]⟩,c6 15 10 14,F 16 15,⟨some 17,some (16,false),.dQ 0 (.t 3)⟩,⟨some 18,some (16,false),.load 1 false (.t 17)⟩,⟨some 19,some (16,false),.load 1 false (.t 2)⟩,⟨some 20,some (16,false),.call Vw [(.t 18),(.t 19)]⟩,c6 21 16 20,F 4 21] .ret))
def Mv:b1:=cq 65 3 [.t 6,.t 7] (O [(ar 6 (.b8 (.c (.I .we)))),ec 7] (O [F 13 1,(ar 14 (.build [.nil,(Z 0),(.I (.bool false))] [(1,1,(.t 13))])),dB 15 129015 14,F 8 15] (.seq (O [F 16 0,cC 17 16,ba 18 0] (.block 0 (.loop  (O [bA 19 .lss 18 17] (.seq (aQ 19 .skip (.exit 0)) (.seq (.block 1 (O [bI 20 5 16 18,aY 21 5 20,(ar 10 (.alloc 129010 [.nil,(Z 0),.nil,(Z 0),.nil])),aT 5 10 21] (.my [F 22 8,F 23 8,e2 24 23,aI 25 0 24,aG 26 1 25,aI 27 0 10,aG 28 1 27,(ar 29 (.oX 129029 4 PM [(.t 28)])),aI 30 1 10,aY 31 4 30,(ar 32 (.eL 129032 false [(Z 0),.nil,(Z 0),.nil] 4 1 [(0,4,(.t 31))])),(ar 33 (.app 129033 [(Z 0),.nil,(Z 0),.nil] 64 (.t 29) (.t 32))),(ar 34 (.eL 129034 true [.nil] 1 1 [(0,1,(.t 33))])),(ar 35 (.app 129035 [.nil] 24 (.t 26) (.t 34))),e2 36 22,aI 37 0 36,aT 1 37 35] [[],[],[],[],[],[],[],[4],[],[7],[],[4],[4],[],[],[],[]]))) (.ghost (.move) (.ops [a7 38 .add 18 1,F 18 38])))))))) (O [ec 11] (.seq (O [ba 12 0] (.block 2 (.ghost (.nn 11 129061 1) (.loop  (.seq (O [F 39 12,F 40 1,bA 41 .lss 39 40,F 42 41,⟨some 43,some (42,true),.b8 (.t 8)⟩,⟨some 44,some (42,true),.n7 (.t 43)⟩,⟨some 45,some (42,true),.dQ 2 (.t 44)⟩,⟨some 46,some (42,true),.load 1 false (.t 45)⟩,⟨some 47,some (42,true),.un .not (.t 46)⟩,hF 48 42 47] (aQ 48 .skip (.exit 2))) (.seq (.block 3 (O [F 51 8,F 52 12,F 53 11,cC 54 53,bA 55 .sub 52 54,F 56 12,(q9 57 VD 51 55 56)] (aQ 57 (O [F 58 11,F 59 12,(ar 60 (.eL 129060 false [(Z 0)] 1 1 [(0,1,(.t 59))])),(ar 61 (.app 129061 [(Z 0)] 8 (.t 58) (.t 60))),F 11 61] (O [F 62 2] (aQ 62 (.exit 2) .skip))) .skip))) (.ops [F 49 12,a7 50 .add 49 1,F 12 50]))))))) (O [F 63 8,F 64 11,F 6 63,F 7 64] .ret))))))
def zV:b1:=cq 172 3 [.t 6] (O [dd 6 false] (O [F 15 1,F 7 15] (.seq (.block 0 (.loop  (.seq (O [F 16 7,F 17 0,e2 18 17,aI 19 1 18,aG 20 1 19,bA 21 .lss 16 20,F 22 21,⟨some 23,some (22,true),.b8 (.t 0)⟩,⟨some 24,some (22,true),.n7 (.t 23)⟩,⟨some 25,some (22,true),.dQ 0 (.t 24)⟩,⟨some 26,some (22,true),.load 1 false (.t 25)⟩,⟨some 27,some (22,true),.b8 (.t 7)⟩,⟨some 28,some (22,true),.ij 1 (.t 26) (.t 27)⟩,⟨some 29,some (22,true),.load 1 false (.t 28)⟩,⟨some 30,some (22,true),.b8 (.t 2)⟩,⟨some 31,some (22,true),.ij 4 (.t 29) (.t 30)⟩,⟨some 32,some (22,true),.load 4 true (.t 31)⟩,⟨some 33,some (22,true),.call Ly [(.t 32)]⟩,hF 34 22 33] (aQ 34 .skip (.exit 0))) (.block 1 (.ops [F 35 7,a7 36 .add 35 1,F 7 36]))))) (.seq (O [F 37 7,F 38 0,e2 39 38,aI 40 1 39,aG 41 1 40,bA 42 .eql 37 41] (aQ 42 (O [dd 6 true] .ret) .skip)) (eT [F 43 0,e2 44 43,aI 45 0 44,aG 46 1 45,F 47 1,F 48 0,e2 49 48,aI 50 0 49,aG 51 1 50,F 52 7,F 53 0,e2 54 53,aI 55 0 54,aG 56 1 55,F 57 7,bI 58 1 56 57,aG 59 1 58,F 60 0,e2 61 60,aI 62 0 61,aG 63 1 62,F 64 1,bI 65 1 63 64,aG 66 1 65,bI 67 1 46 47,aT 1 67 59,bI 68 1 51 52,aT 1 68 66] arU (O [F 69 0,e2 70 69,aI 71 0 70,aG 72 1 71,F 73 1,bI 74 1 72 73,aG 75 1 74,F 76 2,bI 77 4 75 76,aY 78 4 77,(ar 8 (.alloc 148008 [(Z 0),.nil,(Z 0),.nil])),aT 4 8 78] (.seq (O [F 79 0,e2 80 79,aI 81 0 80,aG 82 1 81,F 83 1,bI 84 1 82 83,aG 85 1 84,cC 86 85,ba 87 0] (.block 2 (.loop  (O [bA 88 .lss 87 86] (.seq (aQ 88 .skip (.exit 2)) (.seq (.block 3 (O [F 89 87,bI 90 4 85 87,aY 91 4 90,(ar 10 (.alloc 148010 [(Z 0),.nil,(Z 0),.nil])),F 9 89,aT 4 10 91] (.my [F 92 0,e2 93 92,aI 94 0 93,aG 95 1 94,F 96 1,bI 97 1 95 96,aG 98 1 97,F 99 9,F 100 0,aY 101 4 10,aY 102 4 8,(b2 103 EU 101 102),a6 104 0 103,a6 105 1 103,(ar 106 (.nm 2 CP [(.t 100),(.t 104),(.t 105)])),bI 107 4 98 99,aT 4 107 106] [[],[],[],[],[],[],[],[],[],[],[],[],[],[],[3,6],[],[]]))) (.ops [a7 108 .add 87 1,F 87 108]))))))) (.seq (O [F 109 0,e2 110 109,aI 111 0 110,aG 112 1 111,cC 113 112,ba 114 0] (.block 4 (.loop  (O [bA 115 .lss 114 113] (.seq (aQ 115 .skip (.exit 4)) (.seq (.block 5 (O [F 116 114,bI 117 1 112 114,aG 118 1 117,F 11 116,F 12 118] (O [F 119 12,F 120 2,bI 121 4 119 120,aY 122 4 121,(ar 13 (.alloc 148013 [(Z 0),.nil,(Z 0),.nil])),aT 4 13 122] (.seq (O [F 123 11,F 124 1,bA 125 .eql 123 124,F 126 125,⟨some 127,some (126,false),.load 4 true (.t 13)⟩,⟨some 128,some (126,false),.call Ly [(.t 127)]⟩,c6 129 126 128] (aQ 129 (.exit 5) .skip)) (O [ba 14 0] (.block 6 (.loop  (.seq (O [F 130 14,F 131 12,cC 132 131,bA 133 .lss 130 132,F 134 133,⟨some 135,some (134,true),.b8 (.t 0)⟩,⟨some 136,some (134,true),.n7 (.t 135)⟩,⟨some 137,some (134,true),.dQ 2 (.t 136)⟩,⟨some 138,some (134,true),.load 1 false (.t 137)⟩,⟨some 139,some (134,true),.un .not (.t 138)⟩,hF 140 134 139] (aQ 140 .skip (.exit 6))) (.seq (.block 7 (.my [F 143 12,F 144 14,F 145 0,F 146 12,F 147 14,bI 148 4 146 147,aY 149 4 148,F 150 0,aY 151 4 13,F 152 0,e2 153 152,aI 154 0 153,aG 155 1 154,F 156 1,bI 157 1 155 156,aG 158 1 157,F 159 14,bI 160 4 158 159,aY 161 4 160,(b2 162 xZ 151 161),a6 163 0 162,a6 164 1 162,(ar 165 (.nm 2 CP [(.t 150),(.t 163),(.t 164)])),(b2 166 wH 149 165),a6 167 0 166,a6 168 1 166,(ar 169 (.nm 2 CP [(.t 145),(.t 167),(.t 168)])),bI 170 4 143 144,aT 4 170 169] [[],[],[],[],[],[],[],[],[],[],[],[],[],[],[],[],[],[],[],[],[],[],[6],[],[],[],[],[],[]])) (.ops [F 141 14,a7 142 .add 141 1,F 14 142])))))))))) (.ops [a7 171 .add 114 1,F 114 171]))))))) (O [dd 6 false] .ret)))))))))
def Ya:b1:=cq 7 1 [.t 2] (O [dB 1 167001 0,dd 2 false] (O [aI 3 0 1,aI 4 0 3,aG 5 1 4,a7 6 .eql 5 0,F 2 6] .ret))
def QP:b1:=cq 19 3 [.cell 6 4 true] (O [dB 4 168004 1,(ar 6 (.alloc 168006 [(Z 0),.nil,(Z 0),.nil]))] (O [F 7 0,F 8 0,e2 9 8,aI 10 2 9,aG 11 1 10,F 12 11,⟨some 13,some (12,false),.b8 (.t 2)⟩,⟨some 14,some (12,false),.bin .neq (.t 13) (.c (Z 0))⟩,c6 15 12 14,e2 16 7,aI 17 2 16,aT 1 17 15] (O [aY 18 4 4,aT 4 6 18] .ret)))
def FB:b1:=cq 92 2 [.cell 4 3 true,.t 5] (O [(ar 4 (.alloc 217004 [.nil,.nil,.nil])),ba 5 0] (.seq (O [F 15 0,F 16 1,(b2 17 VW 15 16),fu 18 17] (aQ 18 (O [(ar 19 (.build [.nil,.nil,.nil] [])),aT 3 4 19,ba 5 1] .ret) .skip)) (O [F 20 0,F 21 1,(b2 22 VX 20 21),F 6 22] (O [(ar 7 (.alloc 217007 [.nil,.nil,.nil]))] (.seq (.block 0 (.loop  (.block 1 (O [F 24 6,(dT 25 PT 24),F 23 25,a6 26 0 23,a6 27 1 23,(ar 8 (.alloc 217008 [.nil])),aT 1 8 26,F 9 27] (.seq (O [F 28 9,fu 29 28] (aQ 29 (O [(ar 30 (.build [.nil,.nil,.nil] [])),aT 3 4 30,ba 5 6] .ret) .skip)) (O [ec 10] (.seq (O [F 31 6,cC 32 31,ba 33 0] (.block 2 (.ghost (.nn 10 217057 1) (.loop  (O [bA 34 .lss 33 32] (.seq (aQ 34 .skip (.exit 2)) (.seq (.block 3 (O [F 35 33,bI 36 1 31 33,aG 37 1 36,(ar 11 (.alloc 217011 [(Z 0)])),aT 1 11 35,F 12 37] (.seq (eT [aG 38 1 8,aG 39 1 11,bI 40 4 38 39,aY 41 4 40,F 42 12,F 43 12,e2 44 43,aI 45 22 44,aG 46 1 45,e2 47 42,aI 48 11 47,(ar 49 (.qn 11 1 (.t 48) (.t 46))),aG 50 1 49,(dT 51 qz 50),(b2 52 u9 41 51),a7 53 .geq 52 0] HZ (aQ 53 (.exit 3) .skip)) (O [F 54 10,aG 55 1 11,(ar 56 (.eL 217056 false [(Z 0)] 1 1 [(0,1,(.t 55))])),(ar 57 (.app 217057 [(Z 0)] 8 (.t 54) (.t 56))),F 10 57] (.ops [F 58 12,F 59 12,e2 60 59,aI 61 11 60,(ar 62 (.uR 11 1 (.t 61) (some (.c (Z 1))) none none)),(ar 63 (.wg LF [(.t 8),(.t 11)])),(b2 64 EZ 62 63),e2 65 58,aI 66 22 65,aT 1 66 64]))))) (.ops [a7 67 .add 33 1,F 33 67])))))))) (.seq (O [F 68 10,cC 69 68,a7 70 .eql 69 0] (aQ 70 (O [aG 71 1 8,aI 72 0 7,aT 1 72 71] (.exit 0)) .skip)) (.ghost (.freeze 10) (.ops [aI 73 2 7,aG 74 1 73,F 75 10,(ar 76 (.eL 217076 false [.nil] 1 1 [(0,1,(.t 75))])),(ar 77 (.app 217077 [.nil] 24 (.t 74) (.t 76))),aI 78 2 7,aT 1 78 77])))))))))) (.seq (.ghost (.many) (.ops [F 80 1,aI 81 0 7,aG 82 1 81,(b2 83 VY 80 82),F 79 83,a6 84 0 79,a6 85 1 79,F 13 84,F 14 85])) (.seq (O [F 86 14,fu 87 86] (aQ 87 (O [(ar 88 (.build [.nil,.nil,.nil] [])),aT 3 4 88,ba 5 6] .ret) .skip)) (O [F 89 13,aI 90 1 7,aT 1 90 89] (O [aY 91 3 7,aT 3 4 91,ba 5 0] .ret)))))))))
def Yb:b1:=cq 32 2 [.t 4] (O [dd 4 false] (O [F 9 0,cC 10 9,(ar 5 (.alloc 227005 [(Z 0)])),aT 1 5 10] (O [(ar 6 (.alloc 227006 [(.I .xH)])),⟨none,none,.store 1 (.t 6) (.c (.gX wL []))⟩] (O [(ar 11 (.wg LG [(.t 6)])),F 7 11] (O [(ar 12 (.wg LH [(.t 6),(.t 5)])),F 8 12] (O [aG 13 1 5,a7 14 .leq 13 60,F 15 14,⟨some 16,some (15,true),.b8 (.t 1)⟩,⟨some 17,some (15,true),.len (.t 16)⟩,⟨some 18,some (15,true),.bin .leq (.t 17) (.c (Z 2000))⟩,hF 19 15 18,F 20 19,⟨some 21,some (20,true),.b8 (.t 0)⟩,⟨some 22,some (20,true),.b8 (.t 7)⟩,⟨some 23,some (20,true),.call LI [(.t 21),(.t 22)]⟩,⟨some 24,some (20,true),.un .not (.t 23)⟩,hF 25 20 24,F 26 25,⟨some 27,some (26,true),.b8 (.t 1)⟩,⟨some 28,some (26,true),.b8 (.t 8)⟩,⟨some 29,some (26,true),.call LJ [(.t 27),(.t 28)]⟩,⟨some 30,some (26,true),.un .not (.t 29)⟩,hF 31 26 30,F 4 31] .ret))))))
def Df:b1:=cq 73 2 [.t 4] (O [ec 4] (O [ec 5] (.seq (O [F 12 0,cC 13 12,ba 14 0] (.block 0 (.ghost (.nn 5 228023 1) (.loop  (O [bA 15 .lss 14 13] (.seq (aQ 15 .skip (.exit 0)) (.seq (.block 1 (O [bI 16 1 12 14,aG 17 1 16,F 7 17] (.ops [F 18 5,F 19 7,(ar 20 (.build [(Z 0),.nil,.nil,.nil,.nil,.nil,.nil,.nil,.nil,.nil,.nil,(Z 0),(Z 0),(Z 0),(Z 0),(Z 0),(Z 0),(Z 0),(Z 0),(Z 0),(Z 0),(Z 0),(Z 0),(.I (.bool false))] [(0,1,(.t 19)),(22,1,(.c (Z 10)))])),dB 21 228021 20,(ar 22 (.eL 228022 true [(.I .we)] 1 1 [(0,1,(.t 21))])),(ar 23 (.app 228023 [(.I .we)] 8 (.t 18) (.t 22))),F 5 23]))) (.ghost (.many) (.ops [a7 24 .add 14 1,F 14 24]))))))))) (.seq (O [F 25 1,cC 26 25,ba 27 0] (.block 2 (.loop  (O [bA 28 .lss 27 26] (.seq (aQ 28 .skip (.exit 2)) (.seq (.block 3 (O [bI 29 4 25 27,aY 30 4 29,(ar 9 (.alloc 228009 [(Z 0),(Z 0),(Z 0),(Z 0)])),aT 4 9 30] (O [F 31 5,aI 32 0 9,aG 33 1 32,bI 34 1 31 33,aG 35 1 34,F 10 35] (eT [F 36 10,aI 37 2 9,aG 38 1 37,F 39 10,aI 40 2 9,aG 41 1 40,e2 42 39,aI 43 1 42,(ar 44 (.qn 10 1 (.t 43) (.t 41))),aG 45 1 44,aY 46 4 9,(ar 47 (.eL 228047 false [(Z 0),(Z 0),(Z 0),(Z 0)] 4 1 [(0,4,(.t 46))])),(ar 48 (.app 228048 [(Z 0),(Z 0),(Z 0),(Z 0)] 32 (.t 45) (.t 47))),e2 49 36,aI 50 1 49,(ar 51 (.qn 10 1 (.t 50) (.t 38))),aT 1 51 48] [[],[],[],[],[],[],[],[],[],[],[],[],[2],[],[],[],[]] (.seq (.ghost (.many) (.ops [aI 52 2 9,aG 53 1 52,a7 54 .add 53 1,F 11 54])) (.block 4 (.loop  (.seq (O [F 55 11,a7 56 .leq 55 10] (aQ 56 .skip (.exit 4))) (.seq (.block 5 (.my [F 59 10,F 60 11,e2 61 59,aI 62 11 61,(ar 63 (.qn 11 1 (.t 62) (.t 60))),aG 64 1 63,aI 65 3 9,aG 66 1 65,bA 67 .add 64 66,e2 68 59,aI 69 11 68,(ar 70 (.qn 11 1 (.t 69) (.t 60))),aT 1 70 67] E0)) (.ops [F 57 11,a7 58 .add 57 1,F 11 58])))))))))) (.ops [a7 71 .add 27 1,F 27 71]))))))) (.seq (.ghost (.many) (.ops [F 72 5,F 4 72])) .ret)))))
def IA:b1:=cq 72 1 [.t 2,.t 3] (O [ec 2,dd 3 false] (.seq (O [F 11 0,cC 12 11,ba 13 0] (.block 0 (.loop  (O [bA 14 .lss 13 12] (.seq (aQ 14 .skip (.exit 0)) (.seq (.block 1 (O [bI 15 1 11 13,aG 16 1 15,F 5 16] (.ops [F 17 5,e2 18 17,aI 19 23 18,⟨none,none,.store 1 (.t 19) (.c (.I (.bool false)))⟩]))) (.ops [a7 20 .add 13 1,F 13 20]))))))) (.block 2 (.loop  (.block 3 (O [F 22 0,(dT 23 V3 22),F 21 23,a6 24 0 21,a6 25 1 21,F 6 24,F 7 25] (.seq (O [F 26 7,fu 27 26] (aQ 27 (O [ec 2,dd 3 false] .ret) .skip)) (O [dd 8 false] (.seq (O [F 28 0,cC 29 28,ba 30 0] (.block 4 (.loop  (O [bA 31 .lss 30 29] (.seq (aQ 31 .skip (.exit 4)) (.seq (.block 5 (O [F 32 30,bI 33 1 28 30,aG 34 1 33,F 9 32,F 10 34] (eT [F 35 10,e2 36 35,aI 37 22 36,aG 38 1 37,a7 39 .lss 38 10,F 40 39,⟨some 41,some (40,true),.b8 (.t 10)⟩,⟨some 42,some (40,true),.n7 (.t 41)⟩,⟨some 43,some (40,true),.dQ 23 (.t 42)⟩,⟨some 44,some (40,true),.load 1 false (.t 43)⟩,⟨some 45,some (40,true),.un .not (.t 44)⟩,hF 46 40 45,F 47 46,⟨some 48,some (47,true),.b8 (.t 6)⟩,⟨some 49,some (47,true),.b8 (.t 9)⟩,⟨some 50,some (47,true),.ij 4 (.t 48) (.t 49)⟩,⟨some 51,some (47,true),.load 4 true (.t 50)⟩,⟨some 52,some (47,true),.b8 (.t 10)⟩,⟨some 53,some (47,true),.b8 (.t 10)⟩,⟨some 54,some (47,true),.n7 (.t 53)⟩,⟨some 55,some (47,true),.dQ 22 (.t 54)⟩,⟨some 56,some (47,true),.load 1 false (.t 55)⟩,⟨some 57,some (47,true),.n7 (.t 52)⟩,⟨some 58,some (47,true),.dQ 11 (.t 57)⟩,⟨some 59,some (47,true),.qn 11 1 (.t 58) (.t 56)⟩,⟨some 60,some (47,true),.load 1 false (.t 59)⟩,⟨some 61,some (47,true),.call qz [(.t 60)]⟩,⟨some 62,some (47,true),.call u9 [(.t 51),(.t 61)]⟩,⟨some 63,some (47,true),.bin .gtr (.t 62) (.c (Z 0))⟩,hF 64 47 63] agb (aQ 64 (.ops [F 65 10,e2 66 65,aI 67 23 66,⟨none,none,.store 1 (.t 67) (.c (.I (.bool true)))⟩,dd 8 true]) .skip)))) (.ops [a7 68 .add 30 1,F 30 68]))))))) (O [F 69 8,fu 70 69] (aQ 70 (O [F 71 6,F 2 71,dd 3 true] .ret) .skip)))))))))))
def Yc:b1:=cq 11 1 [.cell 2 4 true] (O [(ar 2 (.alloc 230002 [(Z 0),.nil,(Z 0),.nil]))] (O [F 6 0,(ar 7 (.call zx [(.t 6),(.c (Z 1))])),F 5 7,a6 8 0 5,a6 9 1 5,(ar 3 (.alloc 230003 [(Z 0),.nil,(Z 0),.nil])),aT 4 3 8,F 4 9] (O [aY 10 4 3,aT 4 2 10] .ret)))
def Yd:b1:=cq 13 3 [.t 4] (O [dd 4 false] (eT [aG 5 1 1,aG 6 1 2,bI 7 4 5 6,aY 8 4 7,F 9 0,(dT 10 qz 9),(b2 11 u9 8 10),a7 12 .lss 11 0,F 4 12] PY .ret))
def FC:b1:=cq 96 2 [.t 4,.t 5] (O [ec 4,dd 5 false] (O [F 17 1,cC 18 17,(ar 19 (.mx 233019 [.nil] 24 (.t 18) (.t 18))),F 6 19] (O [F 20 1,cC 21 20,(ar 22 (.mx 233022 [.nil] 24 (.t 21) (.t 21))),F 7 22] (.seq (O [F 23 0,cC 24 23,ba 25 0] (.block 0 (.loop  (O [bA 26 .lss 25 24] (.seq (aQ 26 .skip (.exit 0)) (.seq (.block 1 (O [F 27 25,bI 28 4 23 25,aY 29 4 28,(ar 9 (.alloc 233009 [(Z 0),(Z 0),(Z 0),(Z 0)])),F 8 27,aT 4 9 29] (.my [F 30 6,aI 31 0 9,aG 32 1 31,F 33 7,aI 34 0 9,aG 35 1 34,F 36 6,aI 37 0 9,aG 38 1 37,bI 39 1 36 38,aG 40 1 39,aY 41 4 9,(ar 42 (.eL 233042 false [(Z 0),(Z 0),(Z 0),(Z 0)] 4 1 [(0,4,(.t 41))])),(ar 43 (.app 233043 [(Z 0),(Z 0),(Z 0),(Z 0)] 32 (.t 40) (.t 42))),F 44 7,aI 45 0 9,aG 46 1 45,bI 47 1 44 46,aG 48 1 47,F 49 8,(ar 50 (.eL 233050 false [(Z 0)] 1 1 [(0,1,(.t 49))])),(ar 51 (.app 233051 [(Z 0)] 8 (.t 48) (.t 50))),bI 52 1 30 32,aT 1 52 43,bI 53 1 33 35,aT 1 53 51] [[],[],[],[],[],[],[],[],[],[],[],[],[],[2,5],[],[],[13],[],[13],[],[],[2,5],[],[5],[],[]]))) (.ghost (.many) (.ops [a7 54 .add 25 1,F 25 54])))))))) (.seq (.ghost (.many) (.ops [F 55 0,cC 56 55,(ar 57 (.mx 233057 [(Z 0),.nil,(Z 0),.nil] 64 (.t 56) (.t 56))),F 10 57])) (.seq (O [F 58 6,cC 59 58,ba 60 0] (.block 2 (.loop  (O [bA 61 .lss 60 59] (.seq (aQ 61 .skip (.exit 2)) (.seq (.block 3 (O [F 62 60,bI 63 1 58 60,aG 64 1 63,F 11 62,F 12 64] (O [F 66 1,F 67 11,bI 68 4 66 67,aY 69 4 68,F 70 12,(b2 71 V4 69 70),F 65 71,a6 72 0 65,a6 73 1 65,F 13 72,F 14 73] (.seq (O [F 74 14,a7 75 .neq 74 0] (aQ 75 (O [ec 4,dd 5 false] .ret) .skip)) (O [F 76 7,F 77 11,bI 78 1 76 77,aG 79 1 78,cC 80 79,ba 81 0] (.block 4 (.loop  (O [bA 82 .lss 81 80] (.seq (aQ 82 .skip (.exit 4)) (.seq (.block 5 (O [F 83 81,bI 84 1 79 81,aG 85 1 84,F 15 83,F 16 85] (.ops [F 86 10,F 87 16,F 88 13,F 89 15,bI 90 4 88 89,aY 91 4 90,bI 92 4 86 87,aT 4 92 91]))) (.ops [a7 93 .add 81 1,F 81 93]))))))))))) (.ops [a7 94 .add 60 1,F 60 94]))))))) (.seq (.ghost (.freeze 10) (.ops [F 95 10,F 4 95,dd 5 true])) .ret)))))))
def Ye:b1:=cq 12 1 [.t 2] (O [dB 1 234001 0,dd 2 false] (O [aY 3 4 1,(dT 4 nR 3),fu 5 4,F 6 5,⟨some 7,some (6,false),.dQ 0 (.t 1)⟩,⟨some 8,some (6,false),.dQ 0 (.t 7)⟩,⟨some 9,some (6,false),.load 1 false (.t 8)⟩,⟨some 10,some (6,false),.bin .lss (.t 9) (.c (Z 0))⟩,c6 11 6 10,F 2 11] .ret))
def Yf:b1:=cq 15 3 [.t 6] (O [dd 6 false] (O [F 7 0,F 8 1,bA 9 .geq 7 8,F 10 9,⟨some 11,some (10,true),.b8 (.t 0)⟩,⟨some 12,some (10,true),.b8 (.t 2)⟩,⟨some 13,some (10,true),.bin .leq (.t 11) (.t 12)⟩,hF 14 10 13,F 6 14] .ret))
def Yg:b1:=cq 8 2 [.t 3] (O [dd 3 false] (O [aG 4 1 1,F 5 0,(ar 6 (.nJ (.t 4) [(.t 5),(.c (Z 0)),(.c (Z 1000000000000000))])),fu 7 6,F 3 7] .ret))
def Yh:b1:=cq 35 3 [.t 4] (O [dB 3 245003 0,dd 4 false] (O [aG 5 1 1,aI 6 0 3,aG 7 1 6,aG 8 1 2,a7 9 .sub 8 1,(ar 10 (.nJ (.t 5) [(.t 7),(.c (Z 0)),(.t 9)])),fu 11 10,F 12 11,⟨some 13,some (12,false),.load 1 false (.t 1)⟩,⟨some 14,some (12,false),.dQ 1 (.t 3)⟩,⟨some 15,some (12,false),.load 1 false (.t 14)⟩,⟨some 16,some (12,false),.load 1 false (.t 2)⟩,⟨some 17,some (12,false),.bin .sub (.t 16) (.c (Z 1))⟩,⟨some 18,some (12,false),.nJ (.t 13) [(.t 15),(.c (.I (.int .i64 (-1)))),(.t 17)]⟩,⟨some 19,some (12,false),.un .not (.t 18)⟩,c6 20 12 19,F 21 20,⟨some 22,some (21,false),.load 1 false (.t 1)⟩,⟨some 23,some (21,false),.dQ 2 (.t 3)⟩,⟨some 24,some (21,false),.load 1 false (.t 23)⟩,⟨some 25,some (21,false),.nJ (.t 22) [(.t 24),(.c (Z 0)),(.c (Z 9))]⟩,⟨some 26,some (21,false),.un .not (.t 25)⟩,c6 27 21 26,F 28 27,⟨some 29,some (28,false),.load 1 false (.t 1)⟩,⟨some 30,some (28,false),.dQ 3 (.t 3)⟩,⟨some 31,some (28,false),.load 1 false (.t 30)⟩,⟨some 32,some (28,false),.nJ (.t 29) [(.t 31),(.c (Z 0)),(.c (Z 1000000000000000))]⟩,⟨some 33,some (28,false),.un .not (.t 32)⟩,c6 34 28 33,F 4 34] .ret))
def w4:b1:=cq 159 1 [.t 2,.t 3] (O [ec 2,dd 3 false] (O [F 26 0,cC 27 26,F 4 27] (O [F 28 4,(ar 29 (.mx 248029 [(Z 0)] 8 (.t 28) (.t 28))),F 5 29] (O [ec 6] (O [ec 7] (.seq (O [F 30 0,cC 31 30,ba 32 0] (.block 0 (.ghost (.nn 6 248094 1) (.ghost (.nn 7 248098 1) (.loop  (O [bA 33 .lss 32 31] (.seq (aQ 33 .skip (.exit 0)) (.seq (.block 1 (O [F 34 32,bI 35 1 30 32,aG 36 1 35,F 8 34,F 9 36] (eT [F 37 5,F 38 8,bI 39 1 37 38,aG 40 1 39,F 41 9,e2 42 41,aI 43 0 42,aG 44 1 43,bA 45 .add 40 44,bI 46 1 37 38,aT 1 46 45] HY (.seq (O [F 47 9,e2 48 47,aI 49 22 48,aG 50 1 49,ba 51 0] (.block 2 (.loop  (O [bA 52 .lss 51 50] (.seq (aQ 52 .skip (.exit 2)) (.seq (.block 3 (O [F 53 51,F 10 53] (O [F 54 9,F 55 10,e2 56 54,aI 57 1 56,(ar 58 (.qn 10 1 (.t 57) (.t 55))),aG 59 1 58,cC 60 59,ba 61 0] (.block 4 (.loop  (O [bA 62 .lss 61 60] (.seq (aQ 62 .skip (.exit 4)) (.seq (.block 5 (O [bI 63 4 59 61,aY 64 4 63,(ar 12 (.alloc 248012 [(Z 0),(Z 0),(Z 0),(Z 0)])),aT 4 12 64] (O [aI 65 1 12,aG 66 1 65,a7 67 .geq 66 0] (aQ 67 (.my [F 68 5,aI 69 1 12,aG 70 1 69,bI 71 1 68 70,aG 72 1 71,aI 73 3 12,aG 74 1 73,bA 75 .add 72 74,bI 76 1 68 70,aT 1 76 75] LP) .skip)))) (.ops [a7 77 .add 61 1,F 61 77]))))))))) (.ops [a7 78 .add 51 1,F 51 78]))))))) (O [F 79 9,e2 80 79,aI 81 23 80,aG 82 1 81] (aQ 82 (O [F 84 9,F 85 4,(b2 86 PU 84 85),F 83 86,a6 87 0 83,a6 88 1 83,F 13 87,F 14 88] (.seq (O [F 89 14,fu 90 89] (aQ 90 (O [ec 2,dd 3 false] .ret) .skip)) (.ops [F 91 6,F 92 8,(ar 93 (.eL 248093 false [(Z 0)] 1 1 [(0,1,(.t 92))])),(ar 94 (.app 248094 [(Z 0)] 8 (.t 91) (.t 93))),F 95 7,F 96 13,(ar 97 (.eL 248097 false [.nil] 1 1 [(0,1,(.t 96))])),(ar 98 (.app 248098 [.nil] 24 (.t 95) (.t 97))),F 6 94,F 7 98]))) .skip)))))) (.ops [a7 99 .add 32 1,F 32 99]))))))))) (.seq (.ghost (.freeze 5) (.ghost (.freeze 6) (.ghost (.freeze 7) (.ops [F 101 0,F 102 5,F 103 6,F 104 7,(CV 105 V6 101 102 103 104),F 100 105,a6 106 0 100,a6 107 1 100,F 15 106,F 16 107])))) (.seq (O [F 108 16,fu 109 108] (aQ 109 (O [ec 2,dd 3 false] .ret) .skip)) (O [ec 17] (.seq (O [F 110 5,cC 111 110,ba 112 0] (.block 6 (.ghost (.nn 17 248156 4) (.loop  (O [bA 113 .lss 112 111] (.seq (aQ 113 .skip (.exit 6)) (.seq (.block 7 (O [F 114 112,bI 115 1 110 112,aG 116 1 115,F 18 114,F 19 116] (O [F 117 19,(dT 118 qz 117),(ar 20 (.alloc 248020 [(Z 0),.nil,(Z 0),.nil])),aT 4 20 118] (.seq (O [F 119 6,cC 120 119,ba 121 0] (.block 8 (.loop  (O [bA 122 .lss 121 120] (.seq (aQ 122 .skip (.exit 8)) (.seq (.block 9 (O [F 123 121,F 21 123] (eT [F 125 7,F 126 21,bI 127 1 125 126,aG 128 1 127,F 129 18,bI 130 4 128 129,aY 131 4 130,F 132 15,F 133 21,bI 134 4 132 133,aY 135 4 134,(b2 136 xZ 131 135),F 124 136,a6 137 0 124,a6 138 1 124,(ar 22 (.alloc 248022 [(Z 0),.nil,(Z 0),.nil])),aT 4 22 137,F 23 138] [[],[],[],[],[],[],[],[],[],[],[],[],[],[],[],[3,6,10],[],[]] (O [aY 140 4 20,aY 141 4 22,(b2 142 CN 140 141),F 139 142,a6 143 0 139,a6 144 1 139,(ar 24 (.alloc 248024 [(Z 0),.nil,(Z 0),.nil])),aT 4 24 143,F 25 144] (.seq (O [F 145 23,a7 146 .neq 145 0,F 147 146,⟨some 148,some (147,false),.b8 (.t 25)⟩,⟨some 149,some (147,false),.bin .neq (.t 148) (.c (Z 0))⟩,c6 150 147 149] (aQ 150 (O [ec 2,dd 3 false] .ret) .skip)) (.ops [aY 151 4 24,aT 4 20 151])))))) (.ops [a7 152 .add 121 1,F 121 152]))))))) (.ops [F 153 17,aY 154 4 20,(ar 155 (.eL 248155 false [(Z 0),.nil,(Z 0),.nil] 4 1 [(0,4,(.t 154))])),(ar 156 (.app 248156 [(Z 0),.nil,(Z 0),.nil] 64 (.t 153) (.t 155))),F 17 156]))))) (.ops [a7 157 .add 112 1,F 112 157])))))))) (.seq (.ghost (.freeze 17) (.ops [F 158 17,F 2 158,dd 3 true])) .ret)))))))))))
def QQ:b1:=cq 88 2 [.t 4,.t 5] (O [ec 4,dd 5 false] (O [(ar 14 (.call qz [(.c (Z 0))])),(ar 15 (.eL 255015 false [(Z 0),.nil,(Z 0),.nil] 4 1 [(0,4,(.t 14))])),F 16 1,(ar 17 (.oX 255017 4 Vy [(.t 15),(.t 16)])),F 6 17] (O [dd 7 true] (.seq (eT [F 18 0,F 19 0,e2 20 19,aI 21 22 20,aG 22 1 21,e2 23 18,aI 24 1 23,(ar 25 (.qn 10 1 (.t 24) (.t 22))),aG 26 1 25,cC 27 26,ba 28 0] HY (.block 0 (.loop  (O [bA 29 .lss 28 27] (.seq (aQ 29 .skip (.exit 0)) (.seq (.block 1 (O [bI 30 4 26 28,aY 31 4 30,(ar 9 (.alloc 255009 [(Z 0),(Z 0),(Z 0),(Z 0)])),aT 4 9 31] (.seq (O [aI 32 1 9,aG 33 1 32,a7 34 .lss 33 0] (aQ 34 (.exit 1) .skip)) (eT [aI 36 3 9,aG 37 1 36,F 38 0,F 39 0,e2 40 39,aI 41 22 40,aG 42 1 41,a7 43 .add 42 1,e2 44 38,aI 45 11 44,(ar 46 (.qn 11 1 (.t 45) (.t 43))),aG 47 1 46,F 48 0,F 49 0,e2 50 49,aI 51 22 50,aG 52 1 51,e2 53 48,aI 54 11 53,(ar 55 (.qn 11 1 (.t 54) (.t 52))),aG 56 1 55,bA 57 .sub 47 56,(b2 58 zx 37 57),F 35 58,a6 59 0 35,a6 60 1 35,(ar 10 (.alloc 255010 [(Z 0),.nil,(Z 0),.nil])),aT 4 10 59,F 11 60] [[],[],[],[],[],[],[],[],[],[],[],[],[],[],[],[],[],[],[],[],[],[],[],[],[],[],[1,6,11,16,20],[],[]] (eT [F 62 6,aI 63 1 9,aG 64 1 63,bI 65 4 62 64,aY 66 4 65,aY 67 4 10,(b2 68 CN 66 67),F 61 68,a6 69 0 61,a6 70 1 61,(ar 12 (.alloc 255012 [(Z 0),.nil,(Z 0),.nil])),aT 4 12 69,F 13 70] [[],[],[],[],[],[],[],[],[],[],[2,4,5],[],[]] (O [F 71 7,F 72 71,⟨some 73,some (72,true),.b8 (.t 11)⟩,⟨some 74,some (72,true),.bin .eql (.t 73) (.c (Z 0))⟩,hF 75 72 74,F 76 75,⟨some 77,some (76,true),.b8 (.t 13)⟩,⟨some 78,some (76,true),.bin .eql (.t 77) (.c (Z 0))⟩,hF 79 76 78,F 7 79] (.ops [F 80 6,aI 81 1 9,aG 82 1 81,aY 83 4 12,bI 84 4 80 82,aT 4 84 83]))))))) (.ops [a7 85 .add 28 1,F 28 85]))))))) (.seq (.ghost (.freeze 6) (.ops [F 86 6,F 87 7,F 4 86,F 5 87])) .ret)))))
def IB:b1:=cq 94 4 [.t 8,.t 9] (O [ec 8,dd 9 false] (O [ec 10] (.seq (O [F 20 2,cC 21 20,ba 22 0] (.block 0 (.ghost (.nn 10 256082 5) (.loop  (O [bA 23 .lss 22 21] (.seq (aQ 23 .skip (.exit 0)) (.seq (.block 1 (O [F 24 22,bI 25 1 20 22,aG 26 1 25,F 11 24,F 12 26] (eT [F 27 1,F 28 12,bI 29 1 27 28,aG 30 1 29,F 31 0,F 32 12,bI 33 1 31 32,aG 34 1 33,F 35 0,F 36 12,bI 37 1 35 36,aG 38 1 37,e2 39 38,aI 40 22 39,aG 41 1 40,e2 42 34,aI 43 11 42,(ar 44 (.qn 11 1 (.t 43) (.t 41))),aG 45 1 44,bA 46 .sub 30 45,(dT 47 qz 46),(ar 48 (.build [.nil,(Z 0),.nil,(Z 0),.nil] [(1,4,(.t 47))])),(ar 13 (.alloc 256013 [.nil,(Z 0),.nil,(Z 0),.nil])),aT 5 13 48] [[],[],[],[],[],[],[],[],[],[],[],[],[],[],[],[],[],[],[],[],[],[],[3,7,11,14,18],[]] (.seq (.seq (.ghost (.Cn (.t 13) 0 256076 4) (.ops [F 49 2,cC 50 49,ba 51 0])) (.block 2 (.loop  (O [bA 52 .lss 51 50] (.seq (aQ 52 .skip (.exit 2)) (.seq (.block 3 (O [F 53 51,F 14 53] (O [ba 15 0] (.seq (O [F 54 14,F 55 11,bA 56 .eql 54 55] (aQ 56 (.ops [ba 15 1]) .skip)) (eT [F 58 15,(dT 59 qz 58),F 60 3,F 61 14,bI 62 1 60 61,aG 63 1 62,F 64 12,bI 65 4 63 64,aY 66 4 65,(b2 67 wH 59 66),F 57 67,a6 68 0 57,a6 69 1 57,(ar 16 (.alloc 256016 [(Z 0),.nil,(Z 0),.nil])),aT 4 16 68,F 17 69] [[],[],[],[],[],[],[],[],[],[],[],[],[],[5,8],[],[]] (.seq (O [F 70 17,a7 71 .neq 70 0] (aQ 71 (O [ec 8,dd 9 false] .ret) .skip)) (.ops [aI 72 0 13,aG 73 1 72,aY 74 4 16,(ar 75 (.eL 256075 false [(Z 0),.nil,(Z 0),.nil] 4 1 [(0,4,(.t 74))])),(ar 76 (.app 256076 [(Z 0),.nil,(Z 0),.nil] 64 (.t 73) (.t 75))),aI 77 0 13,aT 1 77 76]))))))) (.ops [a7 78 .add 51 1,F 51 78]))))))) (.ghost (.Eh (.t 13) 0) (.ops [F 79 10,aY 80 5 13,(ar 81 (.eL 256081 false [.nil,(Z 0),.nil,(Z 0),.nil] 5 1 [(0,5,(.t 80))])),(ar 82 (.app 256082 [.nil,(Z 0),.nil,(Z 0),.nil] 88 (.t 79) (.t 81))),F 10 82])))))) (.ops [a7 83 .add 22 1,F 22 83])))))))) (.seq (.ghost (.freeze 10) (.ops [F 85 10,F 86 2,cC 87 86,(b2 88 Vu 85 87),F 84 88,a6 89 0 84,a6 90 1 84,F 18 89,F 19 90])) (O [F 91 18,F 92 19,a7 93 .eql 92 0,F 8 91,F 9 93] .ret)))))
abbrev b9:=List bG×bG
def cM (r:b9):List Data:=.Y (r.1.map aw)::aw r.2
theorem jS (f:bG):(aw f).length=4:=rfl
theorem rj (r:b9):(cM r).length=5:=rfl
theorem yo (f:bG):((aw f).map R.I).all R.one=true:=rfl
theorem uk:∀a b:bG,aw a=aw b->a=b:=by
 rintro⟨⟨s,l⟩,⟨s2,aa⟩⟩ ⟨⟨t,m⟩,⟨t2,bX⟩⟩ h;simp only[aw,bf,Data.int.injEq,Data.Y.injEq,true_and,and_true] at h;obtain⟨rfl,G,rfl,J⟩:=h;rw[map_inj hp _ _ G,map_inj hp _ _ J]
theorem Dg:∀a b:b9,cM a=cM b->a=b:=by
 rintro⟨a,b⟩ ⟨c,d⟩ h;simp only[cM,bf,Data.Y.injEq] at h;rw[map_inj uk _ _ h.1,uk _ _ h.2]
def okF (f:bG):Prop:=f.1.2.length<=1000000/\f.2.2.length<=1000000
def rk (l:List bG):Prop:=D l<=1000000/\∀f∈l,okF f
def lN (r:b9):Prop:=rk r.1/\okF r.2
def lf (rs:List b9):Prop:=D rs<=1000000/\∀r∈rs,lN r
def QR:=cy Db λ(s,l,s2,aa)=>cT (D l<=1000000/\D aa<=1000000) (.same (.bool (!dJ ((s,l),(s2,aa)))))
@[go_sem] theorem aJp (s:Int)(l:List Int)(s2:Int)(aa:List Int)(H:(D l)<=1000000/\D aa<=1000000):QR [.agg [.int .i64 s,.Y (l.map ae),.int .i64 s2,.Y (aa.map ae)]]=some (.same (.bool (!dJ ((s,l),(s2,aa))))):=(cF Iy (s,l,s2,aa)).trans (cY H _)
theorem at3 (T:bm)(g5:T nR=aO zK)(s:Int)(l:List Int)(s2:Int)(aa:List Int)(H:(D l)<=1000000/\D aa<=1000000):WP T X8 (.same (.bool (!dJ ((s,l),(s2,aa))))) [.I (.agg [.int .i64 s,.Y (l.map ae),.int .i64 s2,.Y (aa.map ae)])]:=by
 refine cH ?_;simp only[X8];obtain⟨bt,bz⟩:=H;refine a1 ?_;repeat' (intro h<;>simp only[h,go_sem,go_sem_proc,g5,bt,bz]<;>try refine al ?_ ?_)
def Yi:=cy Db λ(s,l,s2,aa)=>cT (D l<=1000000/\D aa<=1000000) (.same (.bool (!dJ ((s,l),(s2,aa))||decide (s<0))))
@[go_sem] theorem aJq (s:Int)(l:List Int)(s2:Int)(aa:List Int)(H:(D l)<=1000000/\D aa<=1000000):Yi [.agg [.int .i64 s,.Y (l.map ae),.int .i64 s2,.Y (aa.map ae)]]=some (.same (.bool (!dJ ((s,l),(s2,aa))||decide (s<0)))):=(cF Iy (s,l,s2,aa)).trans (cY H _)
theorem at4 (T:bm)(g5:T nR=aO zK)(s:Int)(l:List Int)(s2:Int)(aa:List Int)(H:(D l)<=1000000/\D aa<=1000000):WP T Ye (.same (.bool (!dJ ((s,l),(s2,aa))||decide (s<0)))) [.I (.agg [.int .i64 s,.Y (l.map ae),.int .i64 s2,.Y (aa.map ae)])]:=by
 refine cH ?_;simp only[Ye];obtain⟨bt,bz⟩:=H;rcases X:dJ ((s,l),(s2,aa))
 ·refine a1 ?_;repeat' (intro h<;>simp only[h,go_sem,go_sem_proc,g5,bt,bz,X]<;>try refine al ?_ ?_)
 ·refine a1 ?_;repeat' (intro h<;>simp only[h,go_sem,go_sem_proc,g5,bt,bz,X]<;>try refine al ?_ ?_)
def pg {α:Type}(p:α->Bool)(l:List α):Int:=match l.findIdx? p with
 |some i=>i
 |none => -1
theorem Dh {α:Type}{p:α->Bool}{l:List α}{i:Nat}(h:∀x∈l.take i,p x=false){x:α}(M:l[i]?=some x)(aC:p x=true):pg p l=i:=by
 unfold pg
 have:l.findIdx? p=some i:=by
  rw[ahA];obtain⟨av,rfl⟩:=List.getElem?_eq_some_iff.1 M;refine⟨av,aC,λj ax=>?_⟩;have:=h l[j] (List.mem_iff_getElem?.2 ⟨j,by rw[List.getElem?_take_of_lt ax];exact bB _⟩);rw[this];decide
 rw[this]
theorem FE {α:Type}{p:α->Bool}{l:List α}(h:∀x∈l,p x=false):pg p l = -1:=by
 unfold pg;rw[ahB.2 h]
theorem QS {α:Type}(p:α->Bool)(l:List α):decide (pg p l>=0)=l.any p:=by
 unfold pg
 cases h:l.findIdx? p with
 |none =>
  have:=ahB.1 h;have J:l.any p=false:=by rw[List.any_eq_false];intro x M;simp[this x M]
  rw[J];rfl
 |some i =>
  rw[ahA] at h;obtain⟨G,J,-⟩:=h;have af:l.any p=true:=List.any_eq_true.2 ⟨_,nM G,J⟩;rw[af];exact jw (by simp)
def zW (f:bG):Bool:=!dJ f
def rl (f:FuncId):bG->Bool:=if f=vc then λx => !dJ x||decide (x.1.1<0) else zW
@[go_sem] theorem ahC:rl oq=zW:=by
 unfold rl;rw[ag (by decide)]
@[go_sem] theorem Yj:rl vc=λx => !dJ x||decide (x.1.1<0):=by
 unfold rl;rw[ad rfl]
theorem BB {α:Type}{p:α->Bool}{l:List α}{i:Nat}(h:∀x∈l.take i,p x=false){x:α}(M:l[i]?=some x)(aC:p x=false):∀y∈l.take (i+1),p y=false:=by
 intro y ao;rw[g2,M] at ao;simp only[Option.toList_some,List.mem_append,ye] at ao;rcases ao with ao|rfl
 ·exact h y ao
 ·exact aC
abbrev QT:(List bG)×FuncId->List Data:=λ(l,f)=>[.Y (l.map aw),.fn f []]
def Yk:=cy QT λ(l,f)=>cT (rk l/\(f=oq\/f=vc)) (.same (.int .i64 (pg (rl f) l)))
theorem ahD:∀a b,QT a=QT b->a=b:=by
  rintro⟨dr,f1⟩ ⟨aa,f2⟩ h;simp only[bf,Data.Y.injEq,Data.fn.injEq] at h;exact ei (map_inj uk _ _ h.1) h.2.1.1
@[go_sem] theorem aJr (l:List bG)(f:FuncId)(H:rk l/\(f=oq\/f=vc)):Yk [.Y (l.map aw),.fn f []]=some (.same (.int .i64 (pg (rl f) l))):=(cF ahD (l,f)).trans (cY H _)
theorem at5 (T:bm)(rm:T oq=aO QR)(vw:T vc=aO Yi)(l:List bG)(f:FuncId)(H:rk l/\(f=oq\/f=vc)):WP T WH (.same (.int .i64 (pg (rl f) l))) [.I (.Y (l.map aw)),.I (.fn f [])]:=by
 refine cH ?_;simp only[WH];obtain⟨⟨az,cR⟩,aD⟩:=H;simp only[go_sem,go_sem_proc,rm,vw,ah];refine c9 [0,1,7] [] (λ(i:Nat) tm mem=>i<=D l/\(∀x∈l.take i,rl f x=false)/\tm 8=.I (.int .i64 i)) (λi=>D l-i) 0 (by refine⟨fA _,?_,rfl⟩;simp) ?_;intro vs ms aK aF;simp only[go_sem,go_sem_proc,rm,vw,ah] at aK aF;subst aK aF;rintro i tm mem L hm ⟨U,dO,bP⟩;simp only[go_sem,go_sem_proc,rm,vw,bf] at L hm;obtain⟨aj,G,bE⟩:=L;rcases dk (i<D l) with av|b4
 ·have M:=bB av;obtain⟨lC,ow⟩:=cR _ (nM av);have bW:=λh=>Dh (p:=rl f) dO M h;have hD:=λh=>BB (p:=rl f) dO M h;generalize l[i]=x at *;have ee:decide ((i:Int)<(D l:Int))=true:=c5;have hw:=eu (i:=i) (by omega);obtain⟨⟨bb,b3⟩,⟨c7,eV⟩⟩:=x;dsimp only at lC ow;rcases ai:rl f ((bb,b3),(c7,eV))
  ·rcases aD with rfl|rfl
   all_goals have X:=ai
   all_goals simp only[ahC,Yj,zW] at X
   ·simp only[go_sem,go_sem_proc,rm,vw,aj,G,bE,bP,M,ee,hw,lC,ow,X,ah,aW,aw];repeat' (first|refine al ?_ ?_|fail)<;>intro h<;>simp only[h,go_sem,go_sem_proc,rm,vw,aj,G,bE,bP,M,ee,hw,lC,ow,X,ah,aW,aw]
    exact⟨i+1,by omega,by omega,hD ai,rfl⟩
   ·simp only[go_sem,go_sem_proc,rm,vw,aj,G,bE,bP,M,ee,hw,lC,ow,X,ah,aW,aw];repeat' (first|refine al ?_ ?_|fail)<;>intro h<;>simp only[h,go_sem,go_sem_proc,rm,vw,aj,G,bE,bP,M,ee,hw,lC,ow,X,ah,aW,aw]
    exact⟨i+1,by omega,by omega,hD ai,rfl⟩
  ·rw[bW ai];rcases aD with rfl|rfl
   all_goals have X:=ai
   all_goals simp only[ahC,Yj,zW] at X
   ·simp only[go_sem,go_sem_proc,rm,vw,aj,G,bE,bP,M,ee,hw,lC,ow,X,ah,aW,aw];repeat' (first|refine al ?_ ?_|fail)<;>intro h<;>simp only[h,go_sem,go_sem_proc,rm,vw,aj,G,bE,bP,M,ee,hw,lC,ow,X,ah,aW,aw]
   ·simp only[go_sem,go_sem_proc,rm,vw,aj,G,bE,bP,M,ee,hw,lC,ow,X,ah,aW,aw];repeat' (first|refine al ?_ ?_|fail)<;>intro h<;>simp only[h,go_sem,go_sem_proc,rm,vw,aj,G,bE,bP,M,ee,hw,lC,ow,X,ah,aW,aw]
 ·have ee:decide ((i:Int)<(D l:Int))=false:=cu;have ld:i=D l:=by omega
  subst ld;rw[kN] at dO;rw[FE dO];simp only[go_sem,go_sem_proc,rm,vw,aj,G,bE,bP,ee,ah];repeat' (first|refine al ?_ ?_|fail)<;>intro h<;>simp only[h,go_sem,go_sem_proc,rm,vw,aj,G,bE,bP,ee,ah]
def Yl:=cy QT λ(l,f)=>cT (rk l/\(f=oq\/f=vc)) (.same (.bool (l.any (rl f))))
@[go_sem] theorem aJs (l:List bG)(f:FuncId)(H:rk l/\(f=oq\/f=vc)):Yl [.Y (l.map aw),.fn f []]=some (.same (.bool (l.any (rl f)))):=(cF ahD (l,f)).trans (cY H _)
theorem at6 (T:bm)(at7:T VC=aO Yk)(l:List bG)(f:FuncId)(H:rk l/\(f=oq\/f=vc)):WP T WD (.same (.bool (l.any (rl f)))) [.I (.Y (l.map aw)),.I (.fn f [])]:=by
 refine cH ?_;simp only[WD];rw[<-QS];refine a1 ?_;repeat' (intro h<;>simp only[h,go_sem,go_sem_proc,at7,H]<;>try refine al ?_ ?_)
def lg (n:Int)(r:b9):Bool:=!(((r.1.length:Int)==n)&&(dJ r.2 && !(r.1.any zW)))
abbrev Ym:(List bG)×Int×(List Int)×Int×(List Int)×Int->List Data:=λ(a,s,l,s2,aa,n)=>[.agg [.Y (a.map aw),.int .i64 s,.Y (l.map ae),.int .i64 s2,.Y (aa.map ae)],.ptr [.int .i64 n],.ptr [.fn oq []]]
def Yn:=cy Ym λ(a,s,l,s2,aa,n)=>cT (rk a/\D l<=1000000/\D aa<=1000000) (.same (.bool (lg n (a,((s,l),(s2,aa))))))
theorem at8:∀a b,Ym a=Ym b->a=b:=by
  rintro⟨cE,s1,dr,Fi,Fj,h0⟩ ⟨cS,s2,aa,Fk,Fl,iE⟩ h;simp only[bf,Data.agg.injEq,Data.int.injEq,Data.Y.injEq,Data.ptr.injEq] at h;exact ei (map_inj uk _ _ h.1.1) (ei h.1.2.1.2 (ei (map_inj hp _ _ h.1.2.2.1) (ei h.1.2.2.2.1.2 (ei (map_inj hp _ _ h.1.2.2.2.2.1) h.2.1.1.2))))
@[go_sem] theorem aJt (a:List bG)(s:Int)(l:List Int)(s2:Int)(aa:List Int)(n:Int)(H:rk a/\D l<=1000000/\D aa<=1000000):Yn [.agg [.Y (a.map aw),.int .i64 s,.Y (l.map ae),.int .i64 s2,.Y (aa.map ae)],.ptr [.int .i64 n],.ptr [.fn oq []]]=some (.same (.bool (lg n (a,((s,l),(s2,aa)))))):=(cF at8 (a,s,l,s2,aa,n)).trans (cY H _)
theorem at9 (T:bm)(rm:T oq=aO QR)(Yo:T Vw=aO Yl)(a:List bG)(s:Int)(l:List Int)(s2:Int)(aa:List Int)(n:Int)(H:rk a/\D l<=1000000/\D aa<=1000000):WP T X9 (.same (.bool (lg n (a,((s,l),(s2,aa)))))) [.I (.agg [.Y (a.map aw),.int .i64 s,.Y (l.map ae),.int .i64 s2,.Y (aa.map ae)]),.I (.ptr [.int .i64 n]),.I (.ptr [.fn oq []])]:=by
 refine cH ?_;simp only[X9];obtain⟨a4,bt,bz⟩:=H;unfold lg;rcases G:((D a:Int)==n)
 ·refine a1 ?_;repeat' (intro h<;>simp only[h,go_sem,go_sem_proc,rm,Yo,a4,bt,bz,G,ah]<;>try refine al ?_ ?_)
 ·rcases J:dJ ((s,l),(s2,aa))
  ·refine a1 ?_;repeat' (intro h<;>simp only[h,go_sem,go_sem_proc,rm,Yo,a4,bt,bz,G,J,ah]<;>try refine al ?_ ?_)
  ·refine a1 ?_;repeat' (intro h<;>simp only[h,go_sem,go_sem_proc,rm,Yo,a4,bt,bz,G,J,ah,show (oq=oq)=True from by simp,true_or,Bool.not_not]<;>try refine al ?_ ?_)
abbrev QU:(List b9)×Int->List Data:=λ(rs,n)=>[.Y (rs.map cM),.fn CO [.ptr [.int .i64 n],.ptr [.fn oq []]]]
def Yp:=cy QU λ(rs,n)=>cT (lf rs) (.same (.int .i64 (pg (lg n) rs)))
theorem ahE:∀a b,QU a=QU b->a=b:=by
  rintro⟨QV,h0⟩ ⟨QW,iE⟩ h;simp only[bf,Data.Y.injEq,Data.fn.injEq,Data.ptr.injEq,Data.int.injEq] at h;exact ei (map_inj Dg _ _ h.1) h.2.1.2.1.1.2
@[go_sem] theorem aJu (rs:List b9)(n:Int)(H:lf rs):Yp [.Y (rs.map cM),.fn CO [.ptr [.int .i64 n],.ptr [.fn oq []]]]=some (.same (.int .i64 (pg (lg n) rs))):=(cF ahE (rs,n)).trans (cY H _)
theorem aua (T:bm)(BC:T CO=aO Yn)(rs:List b9)(n:Int)(H:lf rs):WP T WG (.same (.int .i64 (pg (lg n) rs))) [.I (.Y (rs.map cM)),.I (.fn CO [.ptr [.int .i64 n],.ptr [.fn oq []]])]:=by
 refine cH ?_;simp only[WG];obtain⟨az,cR⟩:=H;simp only[go_sem,go_sem_proc,BC,ah];refine c9 [0,1,7] [] (λ(i:Nat) tm mem=>i<=D rs/\(∀x∈rs.take i,lg n x=false)/\tm 8=.I (.int .i64 i)) (λi=>D rs-i) 0 (by refine⟨fA _,?_,rfl⟩;simp) ?_;intro vs ms aK aF;simp only[go_sem,go_sem_proc,BC,ah] at aK aF;subst aK aF;rintro i tm mem L hm ⟨U,dO,bP⟩;simp only[go_sem,go_sem_proc,BC,bf] at L hm;obtain⟨aj,G,bE⟩:=L;rcases dk (i<D rs) with av|b4
 ·have M:=bB av;obtain⟨pZ,lC,ow⟩:=cR _ (nM av);have bW:=λh=>Dh (p:=lg n) dO M h;have hD:=λh=>BB (p:=lg n) dO M h;generalize rs[i]=x at *;have ee:decide ((i:Int)<(D rs:Int))=true:=c5;have hw:=eu (i:=i) (by omega);obtain⟨a,⟨bb,b3⟩,⟨c7,eV⟩⟩:=x;dsimp only at pZ lC ow;rcases ai:lg n (a,((bb,b3),(c7,eV)))
  ·simp only[go_sem,go_sem_proc,BC,aj,G,bE,bP,M,ee,hw,pZ,lC,ow,ai,ah,aW,cM,aw];repeat' (first|refine al ?_ ?_|fail)<;>intro h<;>simp only[h,go_sem,go_sem_proc,BC,aj,G,bE,bP,M,ee,hw,pZ,lC,ow,ai,ah,aW,cM,aw]
   exact⟨i+1,by omega,by omega,hD ai,rfl⟩
  ·rw[bW ai];simp only[go_sem,go_sem_proc,BC,aj,G,bE,bP,M,ee,hw,pZ,lC,ow,ai,ah,aW,cM,aw];repeat' (first|refine al ?_ ?_|fail)<;>intro h<;>simp only[h,go_sem,go_sem_proc,BC,aj,G,bE,bP,M,ee,hw,pZ,lC,ow,ai,ah,aW,cM,aw]
 ·have ee:decide ((i:Int)<(D rs:Int))=false:=cu;have ld:i=D rs:=by omega
  subst ld;rw[kN] at dO;rw[FE dO];simp only[go_sem,go_sem_proc,BC,aj,G,bE,bP,ee,ah];repeat' (first|refine al ?_ ?_|fail)<;>intro h<;>simp only[h,go_sem,go_sem_proc,BC,aj,G,bE,bP,ee,ah]
def Yq:=cy QU λ(rs,n)=>cT (lf rs) (.same (.bool (rs.any (lg n))))
@[go_sem] theorem aJv (rs:List b9)(n:Int)(H:lf rs):Yq [.Y (rs.map cM),.fn CO [.ptr [.int .i64 n],.ptr [.fn oq []]]]=some (.same (.bool (rs.any (lg n)))):=(cF ahE (rs,n)).trans (cY H _)
theorem aub (T:bm)(auc:T VB=aO Yp)(rs:List b9)(n:Int)(H:lf rs):WP T WC (.same (.bool (rs.any (lg n)))) [.I (.Y (rs.map cM)),.I (.fn CO [.ptr [.int .i64 n],.ptr [.fn oq []]])]:=by
 refine cH ?_;simp only[WC];rw[<-QS];refine a1 ?_;repeat' (intro h<;>simp only[h,go_sem,go_sem_proc,auc,H]<;>try refine al ?_ ?_)
def iM (rs:List b9)(n:Int):Bool:=!(decide (n<0))&&(!(decide (n>40))&&(((D rs:Int)==n) && !(rs.any (lg n))))
abbrev IC:(List b9)×Int->List Data:=λ(rs,n)=>[.Y (rs.map cM),.int .i64 n]
def Yr:=cy IC λ(rs,n)=>cT (lf rs) (.same (.bool (iM rs n)))
theorem QX:∀a b,IC a=IC b->a=b:=by
  rintro⟨QV,h0⟩ ⟨QW,iE⟩ h;simp only[bf,Data.Y.injEq,Data.int.injEq] at h;exact ei (map_inj Dg _ _ h.1) h.2.1.2
@[go_sem] theorem aJw (rs:List b9)(n:Int)(H:lf rs):Yr [.Y (rs.map cM),.int .i64 n]=some (.same (.bool (iM rs n))):=(cF QX (rs,n)).trans (cY H _)
theorem aud (T:bm)(QY:T Vv=aO Yq)(rs:List b9)(n:Int)(H:lf rs):WP T X6 (.same (.bool (iM rs n))) [.I (.Y (rs.map cM)),.I (.int .i64 n)]:=by
 refine cH ?_;simp only[X6];unfold iM;rcases G:decide (n<0)
 ·rcases J:decide (n>40)
  ·rcases af:((D rs:Int)==n)
   ·refine a1 ?_;repeat' (intro h<;>simp only[h,go_sem,go_sem_proc,QY,H,G,J,af,ah]<;>try refine al ?_ ?_)
   ·refine a1 ?_;repeat' (intro h<;>simp only[h,go_sem,go_sem_proc,QY,H,G,J,af,ah,dx,y9,m5,scalar]<;>try refine al ?_ ?_)
  ·refine a1 ?_;repeat' (intro h<;>simp only[h,go_sem,go_sem_proc,QY,H,G,J,ah]<;>try refine al ?_ ?_)
 ·refine a1 ?_;repeat' (intro h<;>simp only[h,go_sem,go_sem_proc,QY,H,G,ah]<;>try refine al ?_ ?_)
theorem aue {es:List (List Data)}(h:∀x∈es,Fit (.int .i64) x):∃l:List Int,es=l.map ae:=by
 obtain⟨l,e,-⟩:=Vp (e:=ae) (good:=λ_=>True) λx M=>by
  have:=h x M;simp only[Fit] at this;obtain⟨n,rfl,-⟩:=this;exact⟨n,rfl,trivial⟩
 exact⟨l,e⟩
def Ys:b1:=cq 28 1 [.cell 2 2 true] (O [(ar 2 (.alloc 144002 [(Z 0),.nil]))] (.seq (O [F 6 0,a7 7 .eql 6 0] (aQ 7 (O [(ar 8 (.build [(Z 0),.nil] [])),aT 2 2 8] .ret) .skip)) (O [ba 3 1] (.seq (O [F 9 0,a7 10 .lss 9 0] (aQ 10 (.ops [(ar 3 (.b8 (.c (.I (.int .i64 (-1))))))]) .skip)) (O [ec 4] (.seq (.block 0 (.ghost (.nn 4 144022 1) (.loop  (.seq (O [F 11 0,a7 12 .neq 11 0] (aQ 12 .skip (.exit 0))) (.block 1 (O [F 13 0,a7 14 .rem 13 1048576,F 5 14] (.seq (O [F 15 5,a7 16 .lss 15 0] (aQ 16 (.ops [F 17 5,(ar 18 (.un .neg (.t 17))),F 5 18]) .skip)) (O [F 19 4,F 20 5,(ar 21 (.eL 144021 false [(Z 0)] 1 1 [(0,1,(.t 20))])),(ar 22 (.app 144022 [(Z 0)] 8 (.t 19) (.t 21))),F 4 22] (.ops [F 23 0,a7 24 .quo 23 1048576,F 0 24]))))))))) (.seq (.ghost (.freeze 4) (.ops [F 25 3,F 26 4,(b2 27 qx 25 26),aT 2 2 27])) .ret)))))))
def Yt:b1:=cq 60 1 [.t 2] (O [dB 1 162001 0,dd 2 false] (.seq (O [ba 3 0] (.block 0 (.loop  (.seq (O [F 5 3,aI 6 1 1,aG 7 1 6,cC 8 7,bA 9 .lss 5 8] (aQ 9 .skip (.exit 0))) (.seq (.block 1 (O [aI 12 1 1,aG 13 1 12,F 14 3,bI 15 1 13 14,aG 16 1 15,a7 17 .lss 16 0,F 18 17,⟨some 19,some (18,false),.dQ 1 (.t 1)⟩,⟨some 20,some (18,false),.load 1 false (.t 19)⟩,⟨some 21,some (18,false),.b8 (.t 3)⟩,⟨some 22,some (18,false),.ij 1 (.t 20) (.t 21)⟩,⟨some 23,some (18,false),.load 1 false (.t 22)⟩,⟨some 24,some (18,false),.bin .geq (.t 23) (.c (Z 1048576))⟩,c6 25 18 24] (aQ 25 (O [dd 2 false] .ret) .skip))) (.ops [F 10 3,a7 11 .add 10 1,F 3 11])))))) (O [aI 26 1 1,aG 27 1 26,cC 28 27,F 4 28] (.seq (O [aI 29 0 1,aG 30 1 29,(ar 31 (.bin .lss (.t 30) (.c (.I (.int .i64 (-1)))))),F 32 31,⟨some 33,some (32,false),.dQ 0 (.t 1)⟩,⟨some 34,some (32,false),.load 1 false (.t 33)⟩,⟨some 35,some (32,false),.bin .gtr (.t 34) (.c (Z 1))⟩,c6 36 32 35,F 37 36,⟨some 38,some (37,false),.b8 (.t 4)⟩,⟨some 39,some (37,false),.bin .gtr (.t 38) (.c (Z 60))⟩,c6 40 37 39,F 41 40,⟨some 42,some (41,false),.b8 (.t 4)⟩,⟨some 43,some (41,false),.bin .eql (.t 42) (.c (Z 0))⟩,⟨some 44,some (41,false),.dQ 0 (.t 1)⟩,⟨some 45,some (41,false),.load 1 false (.t 44)⟩,⟨some 46,some (41,false),.bin .eql (.t 45) (.c (Z 0))⟩,⟨some 47,some (41,false),.beq true (.t 43) (.t 46)⟩,c6 48 41 47] (aQ 48 (O [dd 2 false] .ret) .skip)) (O [F 49 4,a7 50 .eql 49 0,F 51 50,⟨some 52,some (51,false),.dQ 1 (.t 1)⟩,⟨some 53,some (51,false),.load 1 false (.t 52)⟩,⟨some 54,some (51,false),.b8 (.t 4)⟩,⟨some 55,some (51,false),.bin .sub (.t 54) (.c (Z 1))⟩,⟨some 56,some (51,false),.ij 1 (.t 53) (.t 55)⟩,⟨some 57,some (51,false),.load 1 false (.t 56)⟩,⟨some 58,some (51,false),.bin .neq (.t 57) (.c (Z 0))⟩,c6 59 51 58,F 2 59] .ret)))))
def Yu:b1:=cq 13 1 [.cell 2 2 true] (O [dB 1 163001 0,(ar 2 (.alloc 163002 [(Z 0),.nil]))] (.seq (O [aY 3 2 1,(dT 4 md 3),fu 5 4] (aQ 5 (O [(ar 6 (.build [(Z 0),.nil] [])),aT 2 2 6] .ret) .skip)) (O [aI 7 0 1,aG 8 1 7,(ar 9 (.un .neg (.t 8))),aI 10 1 1,aG 11 1 10,(b2 12 qx 9 11),aT 2 2 12] .ret)))
def Yv:b1:=cq 36 2 [.cell 4 2 true,.t 5] (O [dB 2 164002 0,dB 3 164003 1,(ar 4 (.alloc 164004 [(Z 0),.nil])),ba 5 0] (.seq (O [aY 10 2 2,(dT 11 md 10),fu 12 11,F 13 12,⟨some 14,some (13,false),.load 2 true (.t 3)⟩,⟨some 15,some (13,false),.call md [(.t 14)]⟩,⟨some 16,some (13,false),.un .not (.t 15)⟩,c6 17 13 16] (aQ 17 (O [(ar 18 (.build [(Z 0),.nil] [])),aT 2 4 18,ba 5 1] .ret) .skip)) (O [aI 19 1 2,aG 20 1 19,F 6 20] (O [aI 21 1 3,aG 22 1 21,F 7 22] (.seq (.block 0 (.loop  (.seq (O [F 23 7,cC 24 23,a7 25 .gtr 24 0] (aQ 25 .skip (.exit 0))) (.block 1 (O [F 27 6,F 28 7,(b2 29 LA 27 28),F 26 29,a6 30 0 26,a6 31 1 26,F 8 30,F 9 31] (O [F 32 7,F 6 32] (.ops [F 33 9,F 7 33]))))))) (O [F 34 6,(ar 35 (.call qx [(.c (Z 1)),(.t 34)])),aT 2 4 35,ba 5 0] .ret))))))
def Yw:b1:=cq 65 2 [.cell 4 2 true,.cell 5 2 true,.t 6] (O [dB 2 165002 0,dB 3 165003 1,(ar 4 (.alloc 165004 [(Z 0),.nil])),(ar 5 (.alloc 165005 [(Z 0),.nil])),ba 6 0] (.seq (O [aY 9 2 2,(dT 10 md 9),fu 11 10,F 12 11,⟨some 13,some (12,false),.load 2 true (.t 3)⟩,⟨some 14,some (12,false),.call md [(.t 13)]⟩,⟨some 15,some (12,false),.un .not (.t 14)⟩,c6 16 12 15] (aQ 16 (O [(ar 17 (.build [(Z 0),.nil] [])),(ar 18 (.build [(Z 0),.nil] [])),aT 2 4 17,aT 2 5 18,ba 6 1] .ret) .skip)) (.seq (O [aI 19 0 3,aG 20 1 19,a7 21 .eql 20 0] (aQ 21 (O [(ar 22 (.build [(Z 0),.nil] [])),(ar 23 (.build [(Z 0),.nil] [])),aT 2 4 22,aT 2 5 23,ba 6 15] .ret) .skip)) (O [aI 25 1 2,aG 26 1 25,aI 27 1 3,aG 28 1 27,(b2 29 LA 26 28),F 24 29,a6 30 0 24,a6 31 1 24,F 7 30,F 8 31] (.seq (O [aI 32 0 2,aG 33 1 32,aI 34 0 3,aG 35 1 34,bA 36 .mul 33 35,a7 37 .geq 36 0,F 38 37,⟨some 39,some (38,false),.b8 (.t 8)⟩,⟨some 40,some (38,false),.len (.t 39)⟩,⟨some 41,some (38,false),.bin .eql (.t 40) (.c (Z 0))⟩,c6 42 38 41] (aQ 42 (eT [aI 43 0 2,aG 44 1 43,aI 45 0 3,aG 46 1 45,bA 47 .mul 44 46,F 48 7,(b2 49 qx 47 48),aI 50 0 2,aG 51 1 50,F 52 8,(b2 53 qx 51 52),aT 2 4 49,aT 2 5 53,ba 6 0] LQ .ret) .skip)) (eT [F 54 7,(ar 55 (.eL 165055 false [(Z 0)] 1 1 [(0,1,(.c (Z 1)))])),(b2 56 LB 54 55),(ar 57 (.call qx [(.c (.I (.int .i64 (-1)))),(.t 56)])),aI 58 0 3,aG 59 1 58,aI 60 1 3,aG 61 1 60,F 62 8,(b2 63 CQ 61 62),(b2 64 qx 59 63),aT 2 4 57,aT 2 5 64,ba 6 0] LQ .ret))))))
def Yx:b1:=cq 15 2 [.cell 4 2 true] (O [(ar 4 (.alloc 166004 [(Z 0),.nil]))] (O [F 6 1,(dT 7 va 6),F 5 7] (.seq (O [F 8 5,cC 9 8,a7 10 .eql 9 0] (aQ 10 (O [(ar 11 (.build [(Z 0),.nil] [])),aT 2 4 11] .ret) .skip)) (O [F 12 0,F 13 5,(ar 14 (.build [(Z 0),.nil] [(0,1,(.t 12)),(1,1,(.t 13))])),aT 2 4 14] .ret))))
def Mw:b1:=cq 60 2 [.t 4,.t 5] (O [ec 4,ec 5] (O [F 12 0,cC 13 12,(ar 14 (.mx 180014 [(Z 0)] 8 (.t 13) (.t 13))),F 6 14] (O [ec 7] (.seq (O [F 15 0,cC 16 15,a7 17 .sub 16 1,F 8 17] (.block 0 (.loop  (.seq (O [F 18 8,a7 19 .geq 18 0] (aQ 19 .skip (.exit 0))) (.seq (.block 1 (O [F 22 0,F 23 8,bI 24 1 22 23,aG 25 1 24,(ar 26 (.eL 180026 true [(Z 0)] 1 1 [(0,1,(.t 25))])),F 27 7,(ar 28 (.app 180028 [(Z 0)] 8 (.t 26) (.t 27))),(dT 29 va 28),F 7 29] (O [ba 9 0] (O [ba 10 1048576] (.seq (.block 2 (.loop  (.seq (O [F 30 10,F 31 9,bA 32 .sub 30 31,a7 33 .gtr 32 1] (aQ 33 .skip (.exit 2))) (.block 3 (O [F 34 9,F 35 10,bA 36 .add 34 35,a7 37 .quo 36 2,F 11 37] (O [F 38 7,F 39 1,F 40 11,(ar 41 (.eL 180041 false [(Z 0)] 1 1 [(0,1,(.t 40))])),(b2 42 EW 39 41),(b2 43 CR 38 42)] (aQ 43 (.ops [F 44 11,F 10 44]) (.ops [F 45 11,F 9 45])))))))) (O [F 46 6,F 47 8,F 48 9,bI 49 1 46 47,aT 1 49 48] (.ops [F 50 7,F 51 1,F 52 9,(ar 53 (.eL 180053 false [(Z 0)] 1 1 [(0,1,(.t 52))])),(dT 54 va 53),(b2 55 EW 51 54),(b2 56 CQ 50 55),F 7 56]))))))) (.ops [F 20 8,a7 21 .sub 20 1,F 8 21])))))) (O [F 57 6,(dT 58 va 57),F 59 7,F 4 58,F 5 59] .ret)))))
def Yy:b1:=cq 43 2 [.t 4] (O [ec 4] (O [ec 5] (O [ba 6 0] (.seq (O [ba 7 0] (.block 0 (.ghost (.nn 5 181038 1) (.loop  (.seq (O [F 9 7,F 10 0,cC 11 10,bA 12 .lss 9 11,F 13 12,⟨some 14,some (13,false),.b8 (.t 7)⟩,⟨some 15,some (13,false),.b8 (.t 1)⟩,⟨some 16,some (13,false),.len (.t 15)⟩,⟨some 17,some (13,false),.bin .lss (.t 14) (.t 16)⟩,c6 18 13 17,F 19 18,⟨some 20,some (19,false),.b8 (.t 6)⟩,⟨some 21,some (19,false),.bin .gtr (.t 20) (.c (Z 0))⟩,c6 22 19 21] (aQ 22 .skip (.exit 0))) (.seq (.block 1 (O [F 25 0,F 26 7,(b2 27 vb 25 26),F 28 1,F 29 7,(b2 30 vb 28 29),bA 31 .add 27 30,F 32 6,bA 33 .add 31 32,F 8 33] (O [F 34 5,F 35 8,a7 36 .rem 35 1048576,(ar 37 (.eL 181037 false [(Z 0)] 1 1 [(0,1,(.t 36))])),(ar 38 (.app 181038 [(Z 0)] 8 (.t 34) (.t 37))),F 5 38] (.ops [F 39 8,a7 40 .quo 39 1048576,F 6 40])))) (.ops [F 23 7,a7 24 .add 23 1,F 7 24]))))))) (O [F 41 5,(dT 42 va 41),F 4 42] .ret)))))
def Yz:b1:=cq 35 2 [.t 4] (O [ec 4] (O [ec 5] (O [ba 6 0] (.seq (O [ba 7 0] (.block 0 (.ghost (.nn 5 182032 1) (.loop  (.seq (O [F 9 7,F 10 0,cC 11 10,bA 12 .lss 9 11] (aQ 12 .skip (.exit 0))) (.seq (.block 1 (eT [F 15 0,F 16 7,bI 17 1 15 16,aG 18 1 17,F 19 1,F 20 7,(b2 21 vb 19 20),bA 22 .sub 18 21,F 23 6,bA 24 .sub 22 23,F 8 24] HY (O [ba 6 0] (.seq (O [F 25 8,a7 26 .lss 25 0] (aQ 26 (O [F 27 8,a7 28 .add 27 1048576,F 8 28] (.ops [ba 6 1])) .skip)) (.ops [F 29 5,F 30 8,(ar 31 (.eL 182031 false [(Z 0)] 1 1 [(0,1,(.t 30))])),(ar 32 (.app 182032 [(Z 0)] 8 (.t 29) (.t 31))),F 5 32]))))) (.ops [F 13 7,a7 14 .add 13 1,F 7 14]))))))) (O [F 33 5,(dT 34 va 33),F 4 34] .ret)))))
def YA:b1:=cq 23 1 [.t 2] (O [ec 2] (O [F 4 0,cC 5 4,F 3 5] (.seq (.block 0 (.loop  (.seq (O [F 6 3,a7 7 .gtr 6 0,F 8 7,⟨some 9,some (8,true),.b8 (.t 0)⟩,⟨some 10,some (8,true),.b8 (.t 3)⟩,⟨some 11,some (8,true),.bin .sub (.t 10) (.c (Z 1))⟩,⟨some 12,some (8,true),.ij 1 (.t 9) (.t 11)⟩,⟨some 13,some (8,true),.load 1 false (.t 12)⟩,⟨some 14,some (8,true),.bin .eql (.t 13) (.c (Z 0))⟩,hF 15 8 14] (aQ 15 .skip (.exit 0))) (.block 1 (.ops [F 16 3,a7 17 .sub 16 1,F 3 17]))))) (O [(ar 18 (.eL 183018 true [] 1 0 [])),F 19 0,F 20 3,(ar 21 (.tE 1 (.t 19) none (some (.t 20)) none)),(ar 22 (.app 183022 [(Z 0)] 8 (.t 18) (.t 21))),F 2 22] .ret))))
def YB:b1:=cq 30 2 [.t 4] (O [dd 4 false] (.seq (O [F 6 0,cC 7 6,F 8 1,cC 9 8,(ar 10 (.jH true (.t 7) (.t 9))),a7 11 .sub 10 1,F 5 11] (.block 0 (.loop  (.seq (O [F 12 5,a7 13 .geq 12 0] (aQ 13 .skip (.exit 0))) (.seq (.block 1 (O [F 16 0,F 17 5,(b2 18 vb 16 17),F 19 1,F 20 5,(b2 21 vb 19 20),bA 22 .neq 18 21] (aQ 22 (O [F 23 0,F 24 5,(b2 25 vb 23 24),F 26 1,F 27 5,(b2 28 vb 26 27),bA 29 .lss 25 28,F 4 29] .ret) .skip))) (.ops [F 14 5,a7 15 .sub 14 1,F 5 15])))))) (O [dd 4 false] .ret)))
def YC:b1:=cq 60 2 [.t 4] (O [ec 4] (O [F 10 0,cC 11 10,F 12 1,cC 13 12,bA 14 .add 11 13,(ar 15 (.mx 186015 [(Z 0)] 8 (.t 14) (.t 14))),F 5 15] (.seq (O [ba 6 0] (.block 0 (.loop  (.seq (O [F 16 6,F 17 0,cC 18 17,bA 19 .lss 16 18] (aQ 19 .skip (.exit 0))) (.seq (.block 1 (O [ba 7 0] (O [ba 8 0] (.block 2 (.loop  (.seq (O [F 22 8,F 23 1,cC 24 23,bA 25 .lss 22 24,F 26 25,⟨some 27,some (26,false),.b8 (.t 7)⟩,⟨some 28,some (26,false),.bin .gtr (.t 27) (.c (Z 0))⟩,c6 29 26 28] (aQ 29 .skip (.exit 2))) (.seq (.block 3 (eT [F 32 5,F 33 6,F 34 8,bA 35 .add 33 34,bI 36 1 32 35,aG 37 1 36,F 38 0,F 39 6,bI 40 1 38 39,aG 41 1 40,F 42 1,F 43 8,(b2 44 vb 42 43),bA 45 .mul 41 44,bA 46 .add 37 45,F 47 7,bA 48 .add 46 47,F 9 48] aga (O [F 49 5,F 50 6,F 51 8,bA 52 .add 50 51,F 53 9,a7 54 .rem 53 1048576,bI 55 1 49 52,aT 1 55 54] (.ops [F 56 9,a7 57 .quo 56 1048576,F 7 57])))) (.ops [F 30 8,a7 31 .add 30 1,F 8 31])))))))) (.ops [F 20 6,a7 21 .add 20 1,F 6 21])))))) (O [F 58 5,(dT 59 va 58),F 4 59] .ret))))
def YD:b1:=cq 13 2 [.t 4] (O [ba 4 0] (.seq (O [F 5 1,F 6 0,cC 7 6,bA 8 .lss 5 7] (aQ 8 (O [F 9 0,F 10 1,bI 11 1 9 10,aG 12 1 11,F 4 12] .ret) .skip)) (O [ba 4 0] .ret)))
def YE:b1:=cq 29 2 [.cell 4 2 true,.t 5] (O [dB 2 202002 0,dB 3 202003 1,(ar 4 (.alloc 202004 [(Z 0),.nil])),ba 5 0] (.seq (O [aY 6 2 2,(dT 7 md 6),fu 8 7,F 9 8,⟨some 10,some (9,false),.load 2 true (.t 3)⟩,⟨some 11,some (9,false),.call md [(.t 10)]⟩,⟨some 12,some (9,false),.un .not (.t 11)⟩,c6 13 9 12] (aQ 13 (O [(ar 14 (.build [(Z 0),.nil] [])),aT 2 4 14,ba 5 1] .ret) .skip)) (eT [aI 15 0 2,aG 16 1 15,aI 17 0 3,aG 18 1 17,bA 19 .mul 16 18,aI 20 1 2,aG 21 1 20,aI 22 1 3,aG 23 1 22,(b2 24 EW 21 23),(b2 25 qx 19 24),(dT 26 EY 25),a6 27 0 26,a6 28 1 26,aT 2 4 27,F 5 28] HZ .ret)))
def YF:b1:=cq 21 2 [.cell 4 2 true,.t 5] (O [dB 2 203002 0,dB 3 203003 1,(ar 4 (.alloc 203004 [(Z 0),.nil])),ba 5 0] (.seq (O [aY 8 2 3,(dT 9 md 8),fu 10 9] (aQ 10 (O [(ar 11 (.build [(Z 0),.nil] [])),aT 2 4 11,ba 5 1] .ret) .skip)) (eT [aY 13 2 2,aY 14 2 3,(dT 15 HR 14),(b2 16 VR 13 15),F 12 16,a6 17 0 12,a6 18 1 12,(ar 6 (.alloc 203006 [(Z 0),.nil])),aT 2 6 17,F 7 18] [[],[],[],[],[],[],[],[0,1],[],[]] (O [aY 19 2 6,F 20 7,aT 2 4 19,F 5 20] .ret))))
def YG:b1:=cq 37 2 [.t 4] (O [dB 2 205002 0,dB 3 205003 1,ba 4 0] (.seq (O [aY 5 2 2,(dT 6 md 5),fu 7 6,F 8 7,⟨some 9,some (8,false),.load 2 true (.t 3)⟩,⟨some 10,some (8,false),.call md [(.t 9)]⟩,⟨some 11,some (8,false),.un .not (.t 10)⟩,c6 12 8 11,F 13 12,⟨some 14,some (13,false),.load 2 true (.t 2)⟩,⟨some 15,some (13,false),.load 2 true (.t 3)⟩,⟨some 16,some (13,false),.call VS [(.t 14),(.t 15)]⟩,c6 17 13 16] (aQ 17 (O [ba 4 0] .ret) .skip)) (.seq (O [aI 18 0 2,aG 19 1 18,aI 20 0 3,aG 21 1 20,bA 22 .neq 19 21] (aQ 22 (.seq (O [aI 23 0 2,aG 24 1 23,aI 25 0 3,aG 26 1 25,bA 27 .lss 24 26] (aQ 27 (O [(ar 4 (.b8 (.c (.I (.int .i64 (-1))))))] .ret) .skip)) (O [ba 4 1] .ret)) .skip)) (.seq (eT [aI 28 1 2,aG 29 1 28,aI 30 1 3,aG 31 1 30,(b2 32 CR 29 31),aI 33 0 2,aG 34 1 33,a7 35 .gtr 34 0,(ar 36 (.beq false (.t 32) (.t 35)))] PY (aQ 36 (O [(ar 4 (.b8 (.c (.I (.int .i64 (-1))))))] .ret) .skip)) (O [ba 4 1] .ret)))))
def YH:b1:=cq 71 2 [.cell 4 2 true,.t 5] (O [dB 2 206002 0,dB 3 206003 1,(ar 4 (.alloc 206004 [(Z 0),.nil])),ba 5 0] (.seq (O [aY 6 2 2,(dT 7 md 6),fu 8 7,F 9 8,⟨some 10,some (9,false),.load 2 true (.t 3)⟩,⟨some 11,some (9,false),.call md [(.t 10)]⟩,⟨some 12,some (9,false),.un .not (.t 11)⟩,c6 13 9 12] (aQ 13 (O [(ar 14 (.build [(Z 0),.nil] [])),aT 2 4 14,ba 5 1] .ret) .skip)) (.seq (O [aI 15 0 2,aG 16 1 15,a7 17 .eql 16 0,F 18 17,⟨some 19,some (18,false),.dQ 0 (.t 3)⟩,⟨some 20,some (18,false),.load 1 false (.t 19)⟩,⟨some 21,some (18,false),.bin .eql (.t 20) (.c (Z 0))⟩,c6 22 18 21,F 23 22,⟨some 24,some (23,false),.dQ 0 (.t 2)⟩,⟨some 25,some (23,false),.load 1 false (.t 24)⟩,⟨some 26,some (23,false),.dQ 0 (.t 3)⟩,⟨some 27,some (23,false),.load 1 false (.t 26)⟩,⟨some 28,some (23,false),.bin .eql (.t 25) (.t 27)⟩,c6 29 23 28] (aQ 29 (eT [aI 30 0 2,aG 31 1 30,aI 32 0 3,aG 33 1 32,bA 34 .or 31 33,aI 35 1 2,aG 36 1 35,aI 37 1 3,aG 38 1 37,(b2 39 LB 36 38),(b2 40 qx 34 39),(dT 41 EY 40),a6 42 0 41,a6 43 1 41,aT 2 4 42,F 5 43] HZ .ret) .skip)) (.seq (O [aI 44 1 2,aG 45 1 44,aI 46 1 3,aG 47 1 46,(b2 48 CR 45 47)] (aQ 48 (eT [aI 49 0 3,aG 50 1 49,aI 51 1 3,aG 52 1 51,aI 53 1 2,aG 54 1 53,(b2 55 CQ 52 54),(b2 56 qx 50 55),(dT 57 EY 56),a6 58 0 57,a6 59 1 57,aT 2 4 58,F 5 59] E0 .ret) .skip)) (eT [aI 60 0 2,aG 61 1 60,aI 62 1 2,aG 63 1 62,aI 64 1 3,aG 65 1 64,(b2 66 CQ 63 65),(b2 67 qx 61 66),(dT 68 EY 67),a6 69 0 68,a6 70 1 68,aT 2 4 69,F 5 70] E0 .ret)))))
def YI:b1:=cq 10 1 [.cell 2 2 true,.t 3] (O [dB 1 209001 0,(ar 2 (.alloc 209002 [(Z 0),.nil])),ba 3 0] (.seq (O [aI 4 1 1,aG 5 1 4,cC 6 5,a7 7 .gtr 6 60] (aQ 7 (O [(ar 8 (.build [(Z 0),.nil] [])),aT 2 2 8,ba 3 6] .ret) .skip)) (O [aY 9 2 1,aT 2 2 9,ba 3 0] .ret)))
def YJ:b1:=cq 38 2 [.t 4] (O [dB 2 210002 0,dB 3 210003 1,dd 4 false] (.seq (O [aI 6 0 2,aG 7 1 6,aI 8 0 3,aG 9 1 8,bA 10 .neq 7 9,F 11 10,⟨some 12,some (11,false),.dQ 1 (.t 2)⟩,⟨some 13,some (11,false),.load 1 false (.t 12)⟩,⟨some 14,some (11,false),.len (.t 13)⟩,⟨some 15,some (11,false),.dQ 1 (.t 3)⟩,⟨some 16,some (11,false),.load 1 false (.t 15)⟩,⟨some 17,some (11,false),.len (.t 16)⟩,⟨some 18,some (11,false),.bin .neq (.t 14) (.t 17)⟩,c6 19 11 18] (aQ 19 (O [dd 4 false] .ret) .skip)) (.seq (O [ba 5 0] (.block 0 (.loop  (.seq (O [F 20 5,aI 21 1 2,aG 22 1 21,cC 23 22,bA 24 .lss 20 23] (aQ 24 .skip (.exit 0))) (.seq (.block 1 (eT [aI 27 1 2,aG 28 1 27,F 29 5,bI 30 1 28 29,aG 31 1 30,aI 32 1 3,aG 33 1 32,F 34 5,bI 35 1 33 34,aG 36 1 35,bA 37 .neq 31 36] HY (aQ 37 (O [dd 4 false] .ret) .skip))) (.ops [F 25 5,a7 26 .add 25 1,F 5 26])))))) (O [dd 4 true] .ret))))
theorem ID (l:List Int):HB (.own 1 (l.map ae))=some (.own 1 (l.map ae)):=by
 refine ad ?_;rw[List.all_eq_true];intro e he;obtain⟨d,-,rfl⟩:=List.mem_map.1 he;simp[ae,scalar]
theorem yp (n k g sz off len:Nat):dx n emp (.ref k g sz off len)=none:=by cases n<;>rfl
def Di:=cy E2 λ(l:List Int)=>cT (D l<=1000000) (.own 1 ((gl l).map ae))
@[go_sem] theorem FF (l:List Int)(H:(D l)<=1000000):Di [.Y (l.map ae)]=some (.own 1 ((gl l).map ae)):=(cF LR l).trans (cY H _)
theorem auf (T:bm)  (l:List Int) (H:(D l)<=1000000):WP T YA (.own 1 ((gl l).map ae)) [.I (.Y (l.map ae))]:=by
 refine cH ?_;simp only[YA];have pM:((l.map ae).all λe=>D e==1)=true:=by simp[ae]
 refine a1 ?_;repeat' (intro h<;>simp only[h,go_sem,go_sem_proc,ah]<;>try refine al ?_ ?_)
 refine c9 [0] [] (λ(n:Nat) tm mem=>n<=D l/\gl l=gl (l.take n)/\tm 3=.I (.int .i64 n)/\mem 183018=none) (λn=>n) (D l) (by refine⟨cI _,by simp,by simp[go_sem],rfl⟩) ?_;intro vs ms aK aF;simp only[go_sem,go_sem_proc,ah] at aK aF;subst aK aF;rintro n tm mem L-⟨aM,cm,af,YK⟩;simp only[go_sem,go_sem_proc,bf] at L;have aj:=L
 have cW:∀o:List Int,D o<=(D l)->lr 183018 0 1 0 8 (D o) ((o.map ae).flatten.map .I) (some (0,[]))=some (.ref 183018 1 1 0 (D o),some (183018,1,aS ae o)):=by
  intro o bS;have:=A5 hO xY 183018 0 8 [] o (by simp;omega) (by simp;omega)
  simpa [aS] using this
 have kG:∀(o:List Int) (m:Mem),m 183018=some (1,aS ae o)->tS 1 m (.ref 183018 1 1 0 (D o))=some (o.map ae):=by
  intro o m hm;have:=agk hm (cI _);rwa [dH (cI _)] at this
 have aug:∀o:List Int,((o.map ae).all λe=>D e==1)=true:=λo=>by simp[ae]
 rcases n with _|n
 ·have G:=cW [] (by simp);have bS:=kG [];simp only[b6,ahF,og] at G bS;refine a1 ?_;repeat' (intro h<;>simp only[h,go_sem,go_sem_proc,aj,af,YK,pM,G,mC,m3,show ¬ ((0:Int)>0) by omega,decide_false,ah,show (0:Int).toNat=0 from rfl,show (0:Int)<=0 by omega,fA,List.take_zero,b6,og]<;>try refine al ?_ ?_)
  rw[bS _ (by simp[a5]),cm];simp[gl]
 ·have hw:IntKind.i64.wrap (((n+1:Nat):Int)-1)=(n:Int):=by rw[e7 _];omega
  have M:l[n]?=some l[n]:=bB (by omega);have iX:((n+1:Nat):Int)>0:=by omega
  have hle:n+1<=D l:=aM
  by_cases a2:l[n]=0
  ·refine a1 ?_;repeat' (intro h<;>simp only[h,go_sem,go_sem_proc,aj,af,hw,M,a2,iX,ah,aW,decide_true,ae,beq_self_eq_true,bf]<;>try refine al ?_ ?_)
   exact⟨n,by omega,by omega,by rw[cm,WQ l n (by omega) a2],rfl,YK⟩
  ·have m4:(l[n]==0)=false:=by simpa using a2
   have G:=cW (l.take (n+1)) (by rw[fU];omega);rw[fU,pK hle,ahG] at G;have bz:(List.take (n+1) (l.map ae)).length=n+1:=by rw[fU,ah];omega
   have ahH:=aug (l.take (n+1));rw[ahG] at ahH;refine a1 ?_;repeat' (intro h<;>simp only[h,go_sem,go_sem_proc,aj,af,YK,hw,M,m4,iX,pM,ahH,hle,G,bz,ae,ah,aW,decide_true,bf,show (0:Int)<=((n+1:Nat):Int) by omega,iY,fA]<;>try refine al ?_ ?_)
   have bS:=kG (l.take (n+1)) _ (show a5 (a5 mem 183018 0 []) 183018 1 (aS ae (List.take (n+1) l)) 183018=_ by simp[a5])
   rw[fU,pK hle] at bS;rw[bS,cm,WR l n (by omega) a2]
abbrev YL:(List Int)×Nat->List Data:=λ(l,i)=>[.Y (l.map ae),.int .i64 i]
def IE:=cy YL λ(l,i)=>cT (D l<=1000000) (.same (.int .i64 (l.getD i 0)))
theorem auh:∀a b,YL a=YL b->a=b:=by
  rintro⟨dr,i1⟩ ⟨aa,i2⟩ h;simp only[bf,Data.Y.injEq,Data.int.injEq] at h;exact ei (map_inj hp _ _ h.1) (by have:=h.2.1.2;dsimp only;omega)
@[go_sem] theorem ahI (l:List Int)(i:Nat)(H:(D l)<=1000000):IE [.Y (l.map ae),.int .i64 i]=some (.same (.int .i64 (l.getD i 0))):=(cF auh (l,i)).trans (cY H _)
theorem aui (T:bm)  (l:List Int) (i:Nat) (H:(D l)<=1000000):WP T YD (.same (.int .i64 (l.getD i 0))) [.I (.Y (l.map ae)),.I (.int .i64 i)]:=by
 refine cH ?_;simp only[YD];rcases hn i (D l) with av|b4
 ·have M:=bB av;have ab:decide ((i:Int)<(D l:Int))=true:=c5;have bq:l.getD i 0=l[i]:=by rw[ez,M];rfl
  rw[bq];refine a1 ?_;repeat' (intro h<;>simp only[h,go_sem,go_sem_proc,M,ab,ae,ah,aW]<;>try refine al ?_ ?_)
 ·have ab:decide ((i:Int)<(D l:Int))=false:=cu;have bq:l.getD i 0=0:=by rw[ez,iD b4];rfl
  rw[bq];refine a1 ?_;repeat' (intro h<;>simp only[h,go_sem,go_sem_proc,ab,ah]<;>try refine al ?_ ?_)
theorem IF (n i:Nat):(aL n).getD i 0=((n/1048576^i%1048576:Nat):Int):=by
 induction i generalizing n with
 |zero =>
  rcases k3 n with h|h
  ·subst h;rfl
  ·rw[wE h,Nat.pow_zero,Nat.div_one];rfl
 |succ i aH =>
  rcases k3 n with h|h
  ·subst h;rw[ahJ];rfl
  ·rw[wE h];show (aL (n/1048576)).getD i 0=_;rw[aH,ahK,<-Nat.pow_succ']
theorem IG (n i:Nat):n/1048576^i=n/1048576^i%1048576+1048576*(n/1048576^(i+1)):=by
 rw[wF,<-ahK];omega
theorem Dj {n k:Nat}(h:(aL n).length<=k):n/1048576^k=0:=Nat.div_eq_of_lt (g3.1 h)
def IH:=cy wP λ(x,y)=>cT ((aL x).length<=100000/\(aL y).length<=100000) (.same (.bool (decide (x<y))))
@[go_sem] theorem YM (x:Nat)(y:Nat)(H:(aL x).length<=100000/\(aL y).length<=100000):IH [cb x,cb y]=some (.same (.bool (decide (x<y)))):=(cF zA (x,y)).trans (cY H _)
theorem auj (T:bm)(gU:T vb=aO IE)(x:Nat)(y:Nat)(H:(aL x).length<=100000/\(aL y).length<=100000):WP T YB (.same (.bool (decide (x<y)))) [.I (cb x),.I (cb y)]:=by
 refine cH ?_;simp only[YB];obtain⟨M,ao⟩:=H;have e8:∃bp:Nat,bp=max (aL x).length (aL y).length:=⟨_,rfl⟩;obtain⟨bp,e8⟩:=e8;have ho:(if ((aL y).length:Int)>((aL x).length:Int) then ((aL y).length:Int) else ((aL x).length:Int))=(bp:Int):=by split<;>omega
 have Bn:IntKind.i64.wrap ((bp:Int)-1)=(bp:Int)-1:=wrap64 _ (by omega) (by omega);have lH:(aL x).length<=1000000:=by omega
 have k7:(aL y).length<=1000000:=by omega
 simp only[go_sem,go_sem_proc,gU,cb,ah,ho,Bn];refine c9 [0,1] [] (λ(i:Nat) tm mem=>i<=bp/\x/1048576^i=y/1048576^i/\tm 5=.I (.int .i64 ((i:Int)-1))) (λi=>i) bp (by refine⟨cI _,?_,rfl⟩;rw[Dj (by omega),Dj (by omega)]) ?_;intro vs ms aK aF;simp only[go_sem,go_sem_proc,gU,cb] at aK aF;subst aK aF;rintro i tm mem L-⟨U,he,bh⟩;simp only[go_sem,go_sem_proc,gU,bf] at L;obtain⟨aj,G⟩:=L;rcases i with _|i
 ·have hf:x=y:=by simpa using he
  have av:decide (x<y)=false:=cu;rw[av];simp only[go_sem,go_sem_proc,gU,aj,G,bh,mC,m3,show ¬ ((0:Int)-1>=0) by omega,decide_false]
  repeat' (first|refine al ?_ ?_|fail)<;>intro h<;>simp only[h,go_sem,go_sem_proc,gU,aj,G,bh,mC,m3,show ¬ ((0:Int)-1>=0) by omega,decide_false]
 ·have hw:((i+1:Nat):Int)-1=(i:Int):=by omega
  have b4:decide ((i:Int)>=0)=true:=c5;have ay:=IG x i;have aA:=IG y i;rw[he] at ay;have fQ:IntKind.i64.wrap ((i:Int)-1)=(i:Int)-1:=wrap64 _ (by omega) (by omega);have dh:=IF x i;have dC:=IF y i;have c0:=pS (x/1048576^i) (show 0<1048576 by omega);have et:=pS (y/1048576^i) (show 0<1048576 by omega);have bt:x/1048576^i<y/1048576^i->x<y:=λh=>ahL h;have bz:y/1048576^i<x/1048576^i->y<x:=λh=>ahL h;generalize jN:x/1048576^i=cr at *;generalize Bq:y/1048576^i=hQ at *;generalize y/1048576^(i+1)=nW at *;generalize cr%1048576=a at *;generalize hQ%1048576=b at *;rcases Nat.lt_trichotomy a b with h|h|h
  ·have b5:((a:Int)==(b:Int))=false:=by simp;omega
   have BD:decide ((a:Int)<(b:Int))=decide (x<y):=by rw[jw (show (a:Int)<(b:Int) by omega),jw (bt (by omega))]
   simp only[go_sem,go_sem_proc,gU,aj,G,bh,hw,b4,dh,dC,lH,k7,b5,BD];repeat' (first|refine al ?_ ?_|fail)<;>intro h<;>simp only[h,go_sem,go_sem_proc,gU,aj,G,bh,hw,b4,dh,dC,lH,k7,b5,BD]
  ·subst h;simp only[go_sem,go_sem_proc,gU,aj,G,bh,hw,b4,dh,dC,lH,k7,fQ,beq_self_eq_true];repeat' (first|refine al ?_ ?_|fail)<;>intro h<;>simp only[h,go_sem,go_sem_proc,gU,aj,G,bh,hw,b4,dh,dC,lH,k7,fQ,beq_self_eq_true]
   exact⟨i,by omega,by omega,by rw[jN,Bq];omega,rfl⟩
  ·have b5:((a:Int)==(b:Int))=false:=by simp;omega
   have BD:decide ((a:Int)<(b:Int))=decide (x<y):=by rw[kY (show ¬ (a:Int)<(b:Int) by omega),kY (by have:=bz (by omega);omega)]
   simp only[go_sem,go_sem_proc,gU,aj,G,bh,hw,b4,dh,dC,lH,k7,b5,BD];repeat' (first|refine al ?_ ?_|fail)<;>intro h<;>simp only[h,go_sem,go_sem_proc,gU,aj,G,bh,hw,b4,dh,dC,lH,k7,b5,BD]
theorem YN {o:List Int}{d:Int}(h:fj o)(aj:0<=d)(G:d<1048576):fj (o++[d]):=EK.2 ⟨h,EJ.2 ⟨⟨aj,G⟩,by intro d ab;cases ab⟩⟩
theorem YO (o:List Int)(d:Int):bs (o++[d])=bs o+1048576^(D o)*d:=by rw[EM];simp[bs]
theorem II {o:List Int}{n:Nat}(h:fj o)(aN:bs o=n):gl o=aL n:=by rw[Ba h,aN];rfl
def QZ:=cy wP λ(x,y)=>cT ((aL x).length<=10000/\(aL y).length<=10000) (.same (cb (x+y)))
@[go_sem] theorem ahM (x:Nat)(y:Nat)(H:(aL x).length<=10000/\(aL y).length<=10000):QZ [cb x,cb y]=some (.same (cb (x+y))):=(cF zA (x,y)).trans (cY H _)
theorem auk (T:bm)(gU:T vb=aO IE)(gz:T va=aO Di)(x:Nat)(y:Nat)(H:(aL x).length<=10000/\(aL y).length<=10000):WP T Yy (.same (cb (x+y))) [.I (cb x),.I (cb y)]:=by
 refine cH ?_;simp only[Yy];obtain⟨M,ao⟩:=H;have e8:∃bp:Nat,bp=max (aL x).length (aL y).length:=⟨_,rfl⟩;obtain⟨bp,e8⟩:=e8;have lH:(aL x).length<=1000000:=by omega
 have k7:(aL y).length<=1000000:=by omega
 simp only[go_sem,go_sem_proc,gU,gz,cb,ah];refine c9 [0,1] [] (λ((i,c,g,o):Nat×Nat×Nat×List Int) tm mem=>i<=bp+1/\c<=1/\(i=bp+1->c=0)/\D o=i/\fj o/\bs o+1048576^i*((x/1048576^i+y/1048576^i+c:Nat):Int)=((x+y:Nat):Int)/\tm 6=.I (.int .i64 c)/\tm 7=.I (.int .i64 i)/\tm 5=.ref 181038 g 1 0 i/\mem 181038=some (g,aS ae o)) (λ(i,_)=>bp+1-i) (0,0,0,[]) (by refine⟨by omega,by omega,by simp,rfl,by simp[fj],by simp[bs],rfl,rfl,rfl,rfl⟩) ?_;intro vs ms aK aF;simp only[go_sem,go_sem_proc,gU,gz,cb] at aK aF;subst aK aF;rintro⟨i,c,g,o⟩ tm mem L-⟨U,gv,ix,bS,hq,aN,bK,bE,bh,hm⟩;simp only[go_sem,go_sem_proc,gU,gz,bf] at L;obtain⟨aj,G⟩:=L;have aC:bs o+1048576^i*((x/1048576^i+y/1048576^i+c:Nat):Int)=((x+y:Nat):Int):=aN
 by_cases Mx:i<(aL x).length\/i<(aL y).length\/0<c
 ·have ay:=IG x i;have aA:=IG y i;have dh:=IF x i;have dC:=IF y i;have c0:=pS (x/1048576^i) (show 0<1048576 by omega);have et:=pS (y/1048576^i) (show 0<1048576 by omega);have Xy:bp<=i->x/1048576^i=0/\y/1048576^i=0:=λh=>⟨Dj (by omega),Dj (by omega)⟩;have g6:(1048576:Int)^(i+1)=1048576^i*1048576:=om _ _;generalize jN:x/1048576^i=cr at *;generalize Bq:y/1048576^i=hQ at *;generalize BE:x/1048576^(i+1)=X' at *;generalize IJ:y/1048576^(i+1)=Y' at *;generalize a4:cr%1048576=a at *;generalize ai:hQ%1048576=b at *;have w1:IntKind.i64.wrap ((a:Int)+(b:Int))=((a+b:Nat):Int):=by rw[e7 _];omega
  have ql:IntKind.i64.wrap (((a+b:Nat):Int)+(c:Int))=((a+b+c:Nat):Int):=by rw[e7 _];omega
  have ev:((a+b+c:Nat):Int).tmod 1048576=(((a+b+c)%1048576:Nat):Int):=by rw[LY (by omega)];omega
  have gg:IntKind.i64.wrap (((a+b+c:Nat):Int).tdiv 1048576)=(((a+b+c)/1048576:Nat):Int):=by rw[Ib (by omega),wrap64 _ (by omega) (by omega)];omega
  have bl:=eu (i:=i) (by omega);have cW:=ka hO xY 181038 g 8 o (((a+b+c)%1048576:Nat):Int) (cs:=[.I (.int .i64 (((a+b+c)%1048576:Nat):Int))]) rfl (by omega) (by omega);rw[bS] at cW
  have aJx:i<=bp:=by
   rcases hn bp i with h|h
   ·have:=ix (by omega);omega
   ·exact h
  have jD:∃bn:Nat×Nat×Nat×List Int,bp+1-bn.1<bp+1-i/\bn.1<=bp+1/\bn.2.1<=1/\(bn.1=bp+1->bn.2.1=0)/\bn.2.2.2.length=bn.1/\fj bn.2.2.2/\bs bn.2.2.2+1048576^bn.1*((x/1048576^bn.1+y/1048576^bn.1+bn.2.1:Nat):Int)=((x+y:Nat):Int)/\R.I (Data.int .i64 (((a+b+c)/1048576:Nat):Int))=R.I (Data.int .i64 (bn.2.1:Int))/\R.I (Data.int .i64 ((i+1:Nat):Int))=R.I (Data.int .i64 (bn.1:Int))/\R.ref 181038 (g+1) 1 0 (i+1)=R.ref 181038 bn.2.2.1 1 0 bn.1/\some (g+1,aS ae (o++[(((a+b+c)%1048576:Nat):Int)]))=some (bn.2.2.1,aS ae bn.2.2.2):=by
   refine⟨(i+1,(a+b+c)/1048576,g+1,o++[(((a+b+c)%1048576:Nat):Int)]),by dsimp only;omega,by dsimp only;omega,by dsimp only;omega,?_,by simp[bS],YN hq (by omega) (by omega),?_,rfl,rfl,rfl,rfl⟩
   ·intro h;dsimp only at h ⊢;have:=Xy (by omega);omega
   ·dsimp only;rw[BE,IJ,YO,bS,g6,<-aC];have bQ:((cr+hQ+c:Nat):Int)=1048576*((X'+Y'+(a+b+c)/1048576:Nat):Int)+(((a+b+c)%1048576:Nat):Int):=by omega
    rw[bQ,jl,jm];omega
  by_cases sT:i<(aL x).length
  ·have d1:decide ((i:Int)<((aL x).length:Int))=true:=c5;simp only[go_sem,go_sem_proc,gU,gz,aj,G,bh,bK,bE,hm,dh,dC,lH,k7,d1,w1,ql,ev,gg,bl,cW,ah];repeat' (first|refine al ?_ ?_|fail)<;>intro h<;>simp only[h,go_sem,go_sem_proc,gU,gz,aj,G,bh,bK,bE,hm,dh,dC,lH,k7,d1,w1,ql,ev,gg,bl,cW,ah]
   exact jD
  ·have d1:decide ((i:Int)<((aL x).length:Int))=false:=cu
   by_cases xR:i<(aL y).length
   ·have d2:decide ((i:Int)<((aL y).length:Int))=true:=c5;simp only[go_sem,go_sem_proc,gU,gz,aj,G,bh,bK,bE,hm,dh,dC,lH,k7,d1,d2,w1,ql,ev,gg,bl,cW,ah];repeat' (first|refine al ?_ ?_|fail)<;>intro h<;>simp only[h,go_sem,go_sem_proc,gU,gz,aj,G,bh,bK,bE,hm,dh,dC,lH,k7,d1,d2,w1,ql,ev,gg,bl,cW,ah]
    exact jD
   ·have d2:decide ((i:Int)<((aL y).length:Int))=false:=cu;have d3:decide ((c:Int)>0)=true:=c5;simp only[go_sem,go_sem_proc,gU,gz,aj,G,bh,bK,bE,hm,dh,dC,lH,k7,d1,d2,d3,w1,ql,ev,gg,bl,cW,ah];repeat' (first|refine al ?_ ?_|fail)<;>intro h<;>simp only[h,go_sem,go_sem_proc,gU,gz,aj,G,bh,bK,bE,hm,dh,dC,lH,k7,d1,d2,d3,w1,ql,ev,gg,bl,cW,ah]
    exact jD
 ·have d1:decide ((i:Int)<((aL x).length:Int))=false:=cu;have d2:decide ((i:Int)<((aL y).length:Int))=false:=cu;have d3:decide ((c:Int)>0)=false:=cu;rw[Dj (n:=x) (by omega),Dj (n:=y) (by omega),show c=0 by omega] at aC
  have dy:=FF o (by omega);rw[II (n:=x+y) hq (by simpa using aC)] at dy;have fo:=ID (aL (x+y));have fC:=kt (n:=5) hO hm;rw[bS] at fC;simp only[go_sem,go_sem_proc,gU,gz,aj,G,bh,bK,bE,hm,d1,d2,d3,dy,fo,fC,yp,m5,ah];repeat' (first|refine al ?_ ?_|fail)<;>intro h<;>simp only[h,go_sem,go_sem_proc,gU,gz,aj,G,bh,bK,bE,hm,d1,d2,d3,dy,fo,fC,yp,m5,ah]
def My:=cy wP λ(x,y)=>cT ((aL x).length<=10000/\(aL y).length<=10000/\y<=x) (.same (cb (x-y)))
@[go_sem] theorem Q0 (x:Nat)(y:Nat)(H:(aL x).length<=10000/\(aL y).length<=10000/\y<=x):My [cb x,cb y]=some (.same (cb (x-y))):=(cF zA (x,y)).trans (cY H _)
theorem aul (T:bm)(gU:T vb=aO IE)(gz:T va=aO Di)(x:Nat)(y:Nat)(H:(aL x).length<=10000/\(aL y).length<=10000/\y<=x):WP T Yz (.same (cb (x-y))) [.I (cb x),.I (cb y)]:=by
 refine cH ?_;simp only[Yz];obtain⟨M,ao,hf⟩:=H;have lH:(aL x).length<=1000000:=by omega
 have k7:(aL y).length<=1000000:=by omega
 have agq:(aL y).length<=(aL x).length:=by rw[g3];exact vg hf (g3.1 (cI _))
 simp only[go_sem,go_sem_proc,gU,gz,cb,ah];refine c9 [0,1] [] (λ((i,c,g,o):Nat×Nat×Nat×List Int) tm mem=>i<=(aL x).length/\c<=1/\y/1048576^i+c<=x/1048576^i/\D o=i/\fj o/\bs o+1048576^i*((x/1048576^i-(y/1048576^i+c):Nat):Int)=((x-y:Nat):Int)/\tm 6=.I (.int .i64 c)/\tm 7=.I (.int .i64 i)/\tm 5=.ref 182032 g 1 0 i/\mem 182032=some (g,aS ae o)) (λ(i,_)=>(aL x).length-i) (0,0,0,[]) (by refine⟨by omega,by omega,by simpa using hf,rfl,by simp[fj],by simp[bs],rfl,rfl,rfl,rfl⟩) ?_;intro vs ms aK aF;simp only[go_sem,go_sem_proc,gU,gz,cb] at aK aF;subst aK aF;rintro⟨i,c,g,o⟩ tm mem L-⟨U,gv,hle,bS,hq,aN,bK,bE,bh,hm⟩;simp only[go_sem,go_sem_proc,gU,gz,bf] at L;obtain⟨aj,G⟩:=L;have aC:bs o+1048576^i*((x/1048576^i-(y/1048576^i+c):Nat):Int)=((x-y:Nat):Int):=aN;have UG:y/1048576^i+c<=x/1048576^i:=hle
 by_cases Mx:i<(aL x).length
 ·have d1:decide ((i:Int)<((aL x).length:Int))=true:=c5;have ay:=IG x i;have aA:=IG y i;have dh:=IF x i;rw[ez,bB Mx] at dh;have gB:(aL x)[i]?=some ((x/1048576^i%1048576:Nat):Int):=by rw[bB Mx];exact congrArg some dh
  have dC:=IF y i;have c0:=pS (x/1048576^i) (show 0<1048576 by omega);have et:=pS (y/1048576^i) (show 0<1048576 by omega);have g6:(1048576:Int)^(i+1)=1048576^i*1048576:=om _ _;clear dh hle aN;generalize jN:x/1048576^i=cr at *;generalize Bq:y/1048576^i=hQ at *;generalize BE:x/1048576^(i+1)=X' at *;generalize IJ:y/1048576^(i+1)=Y' at *;generalize a4:cr%1048576=a at *;generalize ai:hQ%1048576=b at *;have w1:IntKind.i64.wrap ((a:Int)-(b:Int))=(a:Int)-(b:Int):=wrap64 _ (by omega) (by omega);have ql:IntKind.i64.wrap ((a:Int)-(b:Int)-(c:Int))=(a:Int)-(b:Int)-(c:Int):=wrap64 _ (by omega) (by omega);have bl:=eu (i:=i) (by omega);have jr:IntKind.i64.wrap ((a:Int)-(b:Int)-(c:Int)+1048576)=(a:Int)-(b:Int)-(c:Int)+1048576:=wrap64 _ (by omega) (by omega);have cW:=λd:Int=>ka hO xY 182032 g 8 o d (cs:=[.I (.int .i64 d)]) rfl (by omega) (by omega);rw[bS] at cW;rcases lD:decide ((a:Int)-(b:Int)-(c:Int)<0)
  ·have aM:=of_decide_eq_false lD;refine a1 ?_;repeat' (intro h<;>simp only[h,go_sem,go_sem_proc,gU,gz,aj,G,bh,bK,bE,hm,gB,dC,k7,d1,w1,ql,bl,cW,lD,ae,ah,aW]<;>try refine al ?_ ?_)
   refine⟨(i+1,0,g+1,o++[(a:Int)-(b:Int)-(c:Int)]),by dsimp only;omega,by dsimp only;omega,by dsimp only;omega,by dsimp only;rw[BE,IJ];omega,by simp[bS],YN hq (by omega) (by omega),?_,rfl,rfl,rfl,rfl⟩
   dsimp only;rw[BE,IJ,YO,bS,g6,<-aC];have bQ:((cr-(hQ+c):Nat):Int)=1048576*((X'-(Y'+0):Nat):Int)+((a:Int)-b-c):=by omega
   rw[bQ,jl,jm];omega
  ·have aM:=of_decide_eq_true lD;refine a1 ?_;repeat' (intro h<;>simp only[h,go_sem,go_sem_proc,gU,gz,aj,G,bh,bK,bE,hm,gB,dC,k7,d1,w1,ql,bl,jr,cW,lD,ae,ah,aW]<;>try refine al ?_ ?_)
   refine⟨(i+1,1,g+1,o++[(a:Int)-(b:Int)-(c:Int)+1048576]),by dsimp only;omega,by dsimp only;omega,by dsimp only;omega,by dsimp only;rw[BE,IJ];omega,by simp[bS],YN hq (by omega) (by omega),?_,rfl,rfl,rfl,rfl⟩
   dsimp only;rw[BE,IJ,YO,bS,g6,<-aC];have bQ:((cr-(hQ+c):Nat):Int)=1048576*((X'-(Y'+1):Nat):Int)+((a:Int)-b-c+1048576):=by omega
   have bL:∀p cZ kz:Int,bs o+p*cZ+p*1048576*kz=bs o+p*(1048576*kz+cZ):=λp cZ kz=>by rw[jl p (1048576*kz) cZ,<-jm];omega
   rw[bQ];exact bL _ _ _
 ·have d1:decide ((i:Int)<((aL x).length:Int))=false:=cu;rw[Dj (n:=x) (by omega),Dj (n:=y) (by omega),Nat.zero_sub,mC,vk,k9] at aC;have dy:=FF o (by omega);rw[II (n:=x-y) hq aC] at dy;have fo:=ID (aL (x-y));have fC:=kt (n:=5) hO hm;rw[bS] at fC;refine a1 ?_;repeat' (intro h<;>simp only[h,go_sem,go_sem_proc,gU,gz,aj,G,bh,bK,bE,hm,d1,dy,fo,fC,yp,m5,ah]<;>try refine al ?_ ?_)
theorem ahN {b:List Int}{k:Nat}(h:k<D b):b.getD k 0=b[k]:=by rw[ez,bB h];rfl
theorem YP {b:List Int}{k:Nat}(h:(D b)<=k):b.getD k 0=0:=by rw[ez,iD h];rfl
def Mz:=cy wP λ(x,y)=>cT ((aL x).length<=10000/\(aL y).length<=10000) (.same (cb (x*y)))
@[go_sem] theorem YQ (x:Nat)(y:Nat)(H:(aL x).length<=10000/\(aL y).length<=10000):Mz [cb x,cb y]=some (.same (cb (x*y))):=(cF zA (x,y)).trans (cY H _)
theorem aum (T:bm)(gU:T vb=aO IE)(gz:T va=aO Di)(x:Nat)(y:Nat)(H:(aL x).length<=10000/\(aL y).length<=10000):WP T YC (.same (cb (x*y))) [.I (cb x),.I (cb y)]:=by
 refine cH ?_;simp only[YC];obtain⟨M,ao⟩:=H;have vd:=nQ x;have sZ:=nQ y;have x6:=m2 x;have E5:=m2 y;generalize a4:aL x=a at *;generalize ai:aL y=b at *;have o6:IntKind.i64.wrap ((D a:Int)+(D b:Int))=((D a+D b:Nat):Int):=by rw[e7 _];rfl
 have k5:8*(D a+D b)<=140737488355328:=by omega
 have e1:(D a)+D b<=maxLen:=H5 _ (by omega);have K0:(D b)<=1000000:=by omega
 simp only[go_sem,go_sem_proc,gU,gz,cb,a4,ai,o6,k5,e1,H4,ah]
 refine c9 [0,1,5] [] (λ((i,o):Nat×List Int) tm mem=>i<=D a/\D o=D a+D b/\fj o/\o.drop (i+D b)=en (D o-(i+D b)) 0/\bs o=bs (a.take i)*y/\tm 6=.I (.int .i64 (i:Nat))/\mem 186015=some (0,aS ae o))
  (λ(i,_)=>D a-i) (0,en (D a+D b) 0) (by
   have a2:∀n,bs (en n 0)=0:=by
    intro n
    induction n with
    |zero=>rfl
    |succ n aH=>rw[List.replicate_succ,u7,aH];rfl
   refine⟨fA _,by simp,λd ab=>by rw[H8] at ab;omega,by simp,by rw[a2];simp[bs],?_,?_⟩<;>rfl) ?_
 intro vs ms aK aF;simp only[go_sem,go_sem_proc,gU,gz,cb,a4,ai,o6,ah] at aK aF;subst aK aF;rintro⟨i,o⟩ tm mem L-⟨U,bS,hq,ud,kF,bK,hm⟩;simp only[go_sem,go_sem_proc,gU,gz,bf] at L;obtain⟨aj,G,bh⟩:=L;rcases dk (i<D a) with av|b4
 ·have nS:a[i]?=some a[i]:=bB av;have CI:=mE vd i av;have u2:=mD a i av;generalize a[i]=iI at *;have jo:decide ((i:Int)<(D a:Int))=true:=c5;have C4:IntKind.i64.wrap ((i:Int)+1)=((i+1:Nat):Int):=by rw[e7 _];rfl
  simp only[go_sem,go_sem_proc,gU,gz,aj,G,bh,bK,nS,jo,ae,ah,aW,bf]
  refine c9 [0,1,5,6] [] (λ((k,c,o):Nat×Int×List Int) tm mem=>k<=D b+1/\(k=D b+1->c=0)/\D o=D a+D b/\fj o/\o.drop (i+max k (D b))=en (D o-(i+max k (D b))) 0/\0<=c/\c<1048576/\bs o+1048576^(i+k)*c=bs (a.take i)*y+1048576^i*(iI*bs (b.take k)) /\
    tm 8=.I (.int .i64 (k:Nat))/\tm 7=.I (.int .i64 c)/\mem 186015=some (0,aS ae o))
   (λ(k,_)=>D b+1-k) (0,0,o) (by refine⟨fA _,by simp,bS,hq,by rw[Nat.zero_max];exact ud,by omega,by omega,by simp[bs,kF],?_,?_,hm⟩<;>rfl) ?_
  intro vs ms aK aF;simp only[go_sem,go_sem_proc,gU,gz,aj,G,bh,bK,ae,ah] at aK aF;subst aK aF;rintro⟨k,c,o⟩ tm mem L-⟨tR,Dk,bS,hq,ud,iv,gv,kF,bP,bE,hm⟩;simp only[go_sem,go_sem_proc,gU,gz,bf] at L;obtain⟨aj,G,bh,bK⟩:=L;have fQ:IntKind.i64.wrap ((k:Int)+1)=((k+1:Nat):Int):=by rw[e7 _];rfl
  have ku:IntKind.i64.wrap ((i:Int)+(k:Int))=((i+k:Nat):Int):=by rw[e7 _];rfl
  by_cases Mx:k<(D b)\/c>0
  ·have LX:k<=D b:=by
    rcases hn (D b) k with h|h
    ·have:=Dk (by omega);omega
    ·exact h
   have ra:i+k<D o:=by omega
   have W6:=mE hq (i+k) ra
   have H9:0<=b.getD k 0/\b.getD k 0<1048576:=by
    rcases hn k (D b) with h|h
    ·rw[ahN h];exact mE sZ k h
    ·rw[YP h];omega
   have FG:bs (b.take (k+1))=bs (b.take k)+1048576^k*b.getD k 0:=by
    rcases hn k (D b) with h|h
    ·rw[ahN h];exact mD b k h
    ·rw[YP h,dH (by omega),dH (by omega)];simp
   have xN:k<(D b)\/(k=D b/\o[i+k]=0):=by
    rcases hn k (D b) with h|h
    ·exact .inl h
    ·refine .inr ⟨by omega,agt ud (by omega) ra⟩
   have MA:=ahI b k K0;generalize b.getD k 0=rn at *;obtain⟨ef,bX,g4,gf⟩:=ags W6 CI H9 ⟨iv,gv⟩;have me:IntKind.i64.wrap (iI*rn)=iI*rn:=wrap64 _ (by omega) (by omega);have Bj:IntKind.i64.wrap (o[i+k]+iI*rn)=o[i+k]+iI*rn:=wrap64 _ (by omega) (by omega);have wS:IntKind.i64.wrap (o[i+k]+iI*rn+c)=o[i+k]+iI*rn+c:=wrap64 _ (by omega) (by omega);have ue:(o[i+k]+iI*rn+c).tmod 1048576=(o[i+k]+iI*rn+c)%1048576:=LY (by omega);have Im:IntKind.i64.wrap ((o[i+k]+iI*rn+c).tdiv 1048576)=(o[i+k]+iI*rn+c)/1048576:=by rw[Ib (by omega)];exact wrap64 _ (by omega) (by omega)
   have iH:i+k+1<=(aS ae o).length:=by rw[r7];omega
   have hr:=LU o (i+k) ra;have hc:=λd=>zz o (i+k) d ra;have l2:i+k<D a+D b:=by omega
   have jD:∃bn:Nat×Int×List Int,D b+1-bn.1<D b+1-k/\bn.1<=D b+1/\(bn.1=D b+1->bn.2.1=0)/\bn.2.2.length=D a+D b/\fj bn.2.2/\bn.2.2.drop (i+max bn.1 (D b))=en (bn.2.2.length-(i+max bn.1 (D b))) 0/\0<=bn.2.1/\bn.2.1<1048576/\bs bn.2.2+1048576^(i+bn.1)*bn.2.1=bs (a.take i)*y+1048576^i*(iI*bs (b.take bn.1)) /\
     R.I (Data.int .i64 ((k+1:Nat):Int))=R.I (Data.int .i64 (bn.1:Nat))/\R.I (Data.int .i64 ((o[i+k]+iI*rn+c)/1048576))=R.I (Data.int .i64 bn.2.1)/\some (0,aS ae (o.set (i+k) ((o[i+k]+iI*rn+c)%1048576)))=some (0,aS ae bn.2.2):=by
    refine⟨(k+1,(o[i+k]+iI*rn+c)/1048576,o.set (i+k) ((o[i+k]+iI*rn+c)%1048576)),by dsimp only;omega,by dsimp only;omega,?_,by simp[bS],Bh hq _ (by omega),?_,g4,gf,?_,rfl,rfl,rfl⟩
    ·intro h;dsimp only at h ⊢;rcases xN with J|⟨J,af⟩
     ·omega
     ·have aun:rn=0:=by
       have e:=MA;rw[ahI b k K0,YP (by omega)] at e
       simpa using e.symm
      rw[af,aun,vk];omega
    ·dsimp only;rcases xN with J|⟨J,af⟩
     ·rw[YR (by omega)] at ud;rw[YR (by omega),u0 (by omega),List.length_set,ud]
     ·rw[YR (by omega),<-J] at ud;rw[Nat.max_eq_left (by omega)];exact agu ud ra
    ·dsimp only;rw[W2 _ _ _ ra,FG,<-Nat.add_assoc,om,agr _ _ _ _ _ _ _ kF];rw[jl (iI),jl (1048576^i),Int.pow_add]
     have:(1048576:Int)^i*(iI*(1048576^k*rn))=1048576^i*1048576^k*(iI*rn):=by
      rw[<-jm (iI),oo (iI) (1048576^k),jm (1048576^k),<-jm]
     omega
   by_cases aJy:k<D b
   ·have d1:decide ((k:Int)<(D b:Int))=true:=c5;simp only[go_sem,go_sem_proc,gU,gz,aj,G,bh,bK,bE,bP,hm,nS,MA,d1,fQ,ku,me,Bj,wS,ue,Im,l2,iH,hr,hc,ae,cD,ah,aW,bf];repeat' (first|refine al ?_ ?_|fail)<;>intro h<;>simp only[h,go_sem,go_sem_proc,gU,gz,aj,G,bh,bK,bE,bP,hm,nS,MA,d1,fQ,ku,me,Bj,wS,ue,Im,l2,iH,hr,hc,ae,cD,ah,aW,bf]
    exact jD
   ·have d1:decide ((k:Int)<(D b:Int))=false:=cu;have d2:decide (c>0)=true:=c5;simp only[go_sem,go_sem_proc,gU,gz,aj,G,bh,bK,bE,bP,hm,nS,MA,d1,d2,fQ,ku,me,Bj,wS,ue,Im,l2,iH,hr,hc,ae,cD,ah,aW,bf];repeat' (first|refine al ?_ ?_|fail)<;>intro h<;>simp only[h,go_sem,go_sem_proc,gU,gz,aj,G,bh,bK,bE,bP,hm,nS,MA,d1,d2,fQ,ku,me,Bj,wS,ue,Im,l2,iH,hr,hc,ae,cD,ah,aW,bf]
    exact jD
  ·have d1:decide ((k:Int)<(D b:Int))=false:=cu;have d2:decide (c>0)=false:=cu;have auo:c=0:=by omega
   rw[auo,vk,k9,show b.take k=b from dH (by omega),E5] at kF;simp only[go_sem,go_sem_proc,gU,gz,aj,G,bh,bK,bE,bP,hm,d1,d2,C4,ah];repeat' (first|refine al ?_ ?_|fail)<;>intro h<;>simp only[h,go_sem,go_sem_proc,gU,gz,aj,G,bh,bK,bE,bP,hm,d1,d2,C4,ah]
   refine⟨(i+1,o),by dsimp only;omega,by dsimp only;omega,bS,hq,?_,?_,rfl,rfl⟩
   ·dsimp only;have af:=congrArg (List.drop (i+1+D b-(i+max k (D b)))) ud;rw[List.drop_drop,List.drop_replicate] at af;rw[show i+max k (D b)+(i+1+D b-(i+max k (D b)))=i+1+(D b) by omega] at af
    rw[af]
    congr 1
    omega
   ·dsimp only;rw[kF,u2,Int.add_mul,jm]
 ·obtain rfl:i=D a:=by omega
  have jo:decide ((D a:Int)<(D a:Int))=false:=cu;rw[dH (cI _),x6] at kF;have dy:=FF o (by omega);rw[II (n:=x*y) hq (by rw[kF];rfl)] at dy;have fo:=ID (aL (x*y));have fC:=kt (n:=5) hO hm;rw[bS] at fC;simp only[go_sem,go_sem_proc,gU,gz,aj,G,bh,bK,hm,jo,dy,fo,fC,yp,m5,cb,ah];repeat' (first|refine al ?_ ?_|fail)<;>intro h<;>simp only[h,go_sem,go_sem_proc,gU,gz,aj,G,bh,bK,hm,jo,dy,fo,fC,yp,m5,cb,ah]
def ep.vx:ep->List Nat->ep
 |.seq a _,0::p=>a.vx p
 |.seq _ b,_::p=>b.vx p
 |.cond _ a _,0::p=>a.vx p
 |.cond _ _ b,_::p=>b.vx p
 |.block _ c,_::p=>c.vx p
 |.ghost _ c,_::p=>c.vx p
 |.loop c,_::p=>c.vx p
 |c,_=>c
theorem ahO {n:Nat}(h:0<n)(G:n<1048576):[(n:Int)]=aL n:=(EN h G).symm
theorem aup {n:Nat}(G:n<1048576):gl [(n:Int)]=aL n:=II (by intro d ab;have:=ye.1 ab;omega) (by simp[bs])
theorem auq {d:Int}{r:Nat}(aj:0<=d)(G:d<1048576):gl (d::aL r)=aL (d.toNat+1048576*r):=II (EJ.2 ⟨⟨aj,G⟩,nQ r⟩) (by rw[u7,m2];omega)
theorem YS {n m k:Nat}(h:n<m*1048576)(hm:(aL m).length<=k):(aL n).length<=k+1:=by
 rw[g3] at *;rw[wF];exact Ee h (o0 _ (XI hm))
theorem ahP (T:bm)(nX:T EW=aO Mz)(gF:T CR=aO IH){K:eF->bg->Prop}{kk:List fB}(y bV:Nat)(ao:(aL y).length<=1000)(iF:(aL bV).length<=1001)(jO:0<y)(aur:bV<y*1048576)(v0 v6 BF:R)(tm:Nat->R)(m:Mem)
  (bu:tm 0=v0) (ay:tm 1=.I (.Y ((aL y).map ae))) (bj:tm 6=v6) (bJ:tm 7=.I (.Y ((aL bV).map ae))) (dg:tm 8=BF) (dz:tm 9=.I (.int .i64 0)) (dY:tm 10=.I (.int .i64 1048576))
  (cX:∀tm',tm' 0=v0->tm' 1=.I (.Y ((aL y).map ae))->tm' 6=v6->tm' 7=.I (.Y ((aL bV).map ae))->tm' 8=BF->tm' 9=.I (.int .i64 ((bV/y:Nat):Int))->cj T K kk (.exit 2) ⟨tm',m⟩) :
  wp T (Mw.body.vx [1,1,1,0,1,0,0,1,0,0,1,1,1,0,0]) (cj T K kk) ⟨tm,m⟩:=by
 simp only[Mw,ep.vx];refine c9 [0,1,6,7,8] [] (λ((cP,U):Nat×Nat) tm' m'=>cP<U/\U<=1048576/\cP*y<=bV/\bV<U*y/\tm' 9=.I (.int .i64 cP)/\tm' 10=.I (.int .i64 U)/\m'=m) (λ(cP,U)=>U-cP) (0,1048576) (by refine⟨by omega,by omega,by omega,by rw[tU];exact aur,dz,dY,rfl⟩) ?_;intro vs ms aK aF;simp only[go_sem,go_sem_proc,bu,ay,bj,bJ,dg] at aK aF;subst aK aF;clear bu ay bj bJ dg dz dY;rintro⟨cP,U⟩ tm m' L hm ⟨aJz,aX,iW,k2,eA,dj,rfl⟩;simp only[go_sem,go_sem_proc,bf] at L hm;obtain⟨aj,G,bK,bE,bP⟩:=L;have w1:IntKind.i64.wrap ((U:Int)-(cP:Int))=(U:Int)-(cP:Int):=wrap64 _ (by omega) (by omega)
 by_cases Mx:U-cP>1
 ·have d1:decide ((U:Int)-(cP:Int)>1)=true:=c5;have ql:IntKind.i64.wrap ((cP:Int)+(U:Int))=((cP+U:Nat):Int):=by rw[e7 _];omega
  have bl:IntKind.i64.wrap (((cP+U:Nat):Int).tdiv 2)=(((cP+U)/2:Nat):Int):=by rw[Ib (by omega),wrap64 _ (by omega) (by omega)];omega
  obtain⟨yq,aus⟩:∃yq:Nat,yq=(cP+U)/2:=⟨_,rfl⟩;rw[<-aus] at bl;have dy:=YQ y yq ⟨by omega,by rw[<-ahO (n:=yq) (by omega) (by omega)];simp⟩
  simp only[cb] at dy;rw[<-ahO (n:=yq) (by omega) (by omega)] at dy;simp only[eI,b6,ae] at dy;have pH:(aL (y*yq)).length<=1001:=YS (ahQ (show yq<1048576 by omega) jO) ao;have fo:=YM bV (y*yq) ⟨by omega,by omega⟩
  simp only[cb] at fo;rcases ab:decide (bV<y*yq)
  ·have aM:=of_decide_eq_false ab;rw[ab] at fo;refine a1 ?_;repeat' (intro h<;>simp only[h,go_sem,go_sem_proc,nX,gF,aj,G,bK,bE,bP,eA,dj,w1,ql,bl,d1,dy,fo]<;>try refine al ?_ ?_)
   exact⟨(yq,U),by dsimp only;omega,by dsimp only;omega,aX,by dsimp only;rw[tU];omega,k2,rfl,rfl⟩
  ·have aM:=of_decide_eq_true ab;rw[ab] at fo;refine a1 ?_;repeat' (intro h<;>simp only[h,go_sem,go_sem_proc,nX,gF,aj,G,bK,bE,bP,eA,dj,w1,ql,bl,d1,dy,fo]<;>try refine al ?_ ?_)
   exact⟨(cP,yq),by dsimp only;omega,by dsimp only;omega,by dsimp only;omega,iW,by dsimp only;rw[tU];omega,rfl,rfl⟩
 ·have d1:decide ((U:Int)-(cP:Int)>1)=false:=cu
  have bF:bV/y=cP:=by
   have G:U=cP+1:=by omega
   subst G;exact Nat.div_eq_of_lt_le iW k2
  refine a1 ?_;repeat' (intro h<;>simp only[h,go_sem,go_sem_proc,aj,G,bK,bE,bP,eA,dj,w1,d1]<;>try refine al ?_ ?_)
  refine cX _ ?_ ?_ ?_ ?_ ?_ ?_<;>simp only[dv,cx,if_false,aj,G,bK,bE,bP,eA,bF]
def Q1:=cy wP λ(x,y)=>cT ((aL x).length<=1000/\(aL y).length<=1000/\0<y) (.same (.cB [cb (x/y),cb (x%y)]))
@[go_sem] theorem ahR (x:Nat)(y:Nat)(H:(aL x).length<=1000/\(aL y).length<=1000/\0<y):Q1 [cb x,cb y]=some (.same (.cB [cb (x/y),cb (x%y)])):=(cF zA (x,y)).trans (cY H _)
theorem aut (T:bm)(gz:T va=aO Di)(nX:T EW=aO Mz)(gF:T CR=aO IH)(hH:T CQ=aO My)(x:Nat)(y:Nat)(H:(aL x).length<=1000/\(aL y).length<=1000/\0<y):WP T Mw (.same (.cB [cb (x/y),cb (x%y)])) [.I (cb x),.I (cb y)]:=by
 refine cH ?_;simp only[Mw];obtain⟨M,ao,jO⟩:=H;have vd:=nQ x;have x6:=m2 x;generalize a4:aL x=a at *;have k5:8*D a<=140737488355328:=by omega
 have e1:(D a)<=maxLen:=H5 _ (by omega);have Bn:IntKind.i64.wrap ((D a:Int)-1)=(D a:Int)-1:=wrap64 _ (by omega) (by omega);simp only[go_sem,go_sem_proc,gz,nX,gF,hH,cb,a4,k5,e1,H4,Bn,ah]
 refine c9 [0,1,6] [] (λ((n,r,FH,o):Nat×Nat×R×List Int) tm mem=>n<=D a/\D o=D a/\fj o/\r<y/\bs (a.drop n)=y*bs (o.drop n)+r/\(FH=.nil/\r=0\/FH=.I (cb r))/\tm 8=.I (.int .i64 ((n:Nat)-1))/\tm 7=FH/\mem 180014=some (0,aS ae o))
  (λ(n,_)=>n) (D a,0,.nil,en (D a) 0) (by
   refine⟨cI _,by simp,λd ab=>by rw[H8] at ab;omega,jO,by simp[bs],.inl ⟨rfl,rfl⟩,rfl,rfl,rfl⟩) ?_
 intro vs ms aK aF;simp only[go_sem,go_sem_proc,gz,nX,gF,hH,cb,a4,ah] at aK aF;subst aK aF;rintro⟨n,r,FH,o⟩ tm mem L-⟨aM,bS,hq,E7,aN,MB,bP,bE,hm⟩;simp only[go_sem,go_sem_proc,gz,nX,gF,hH,bf] at L;obtain⟨aj,G,bK⟩:=L;rcases n with _|n
 ·have bF:bs o=((x/y:Nat):Int)/\r=x%y:=by
   rw[nP,nP,x6] at aN;have ay:(x:Int)/(y:Int)=bs o:=by rw[aN,zB,Int.add_mul_ediv_left _ _ (by omega),Int.ediv_eq_zero_of_lt (by omega) (by omega)];omega
   have aA:(x:Int)%(y:Int)=r:=by rw[aN,zB,Int.add_mul_emod_self_left,Int.emod_eq_of_lt (by omega) (by omega)]
   refine⟨by rw[<-ay];rfl,by omega⟩
  have dy:=FF o (by omega);rw[II (n:=x/y) hq bF.1] at dy;have fo:=ID (aL (x/y));have fC:=kt (n:=5) hO hm;rw[bS] at fC;rcases MB with ⟨rfl,iw⟩|rfl
  ·have a2:aL (x%y)=[]:=by rw[<-bF.2,iw];rfl
   simp only[go_sem,go_sem_proc,gz,nX,gF,hH,aj,G,bK,bE,bP,hm,dy,fo,fC,a2,yp,m5,cb,mC,m3,show ¬ ((0:Int)-1>=0) by omega,decide_false,ah,b6]
   repeat' (first|refine al ?_ ?_|fail)<;>intro h<;>simp only[h,go_sem,go_sem_proc,gz,nX,gF,hH,aj,G,bK,bE,bP,hm,dy,fo,fC,a2,yp,m5,cb,mC,m3,show ¬ ((0:Int)-1>=0) by omega,decide_false,ah,b6]
  ·simp only[go_sem,go_sem_proc,gz,nX,gF,hH,aj,G,bK,bE,bP,hm,dy,fo,fC,yp,m5,cb,mC,m3,show ¬ ((0:Int)-1>=0) by omega,decide_false,ah,b6,bF.2]
   repeat' (first|refine al ?_ ?_|fail)<;>intro h<;>simp only[h,go_sem,go_sem_proc,gz,nX,gF,hH,aj,G,bK,bE,bP,hm,dy,fo,fC,yp,m5,cb,mC,m3,show ¬ ((0:Int)-1>=0) by omega,decide_false,ah,b6,bF.2]
 ·have nS:a[n]?=some a[n]:=bB (by omega);have Qa:=mE vd n (by omega);have WY:a.drop n=a[n]::a.drop (n+1):=iC (by omega);have hE:n<D o:=by omega
  have W0:∀e:Int,(o.set n e).drop n=e::o.drop (n+1):=λe=>by
   rw[iC (by simpa using hE),List.getElem_set_self,u0 (by omega)]
  generalize a[n]=d at *;have hw:((n+1:Nat):Int)-1=(n:Int):=by omega
  have b4:decide ((n:Int)>=0)=true:=c5;have me:IntKind.i64.wrap ((n:Int)-1)=(n:Int)-1:=wrap64 _ (by omega) (by omega);have cg:(aL r).length<=1000:=by rw[g3] at *;omega
  obtain⟨bV,iF⟩:∃bV:Nat,bV=d.toNat+1048576*r:=⟨_,rfl⟩
  have Q2:bV<y*1048576:=by
   have:(r+1)*1048576<=y*1048576:=o0 _ E7;omega
  have MC:=YS Q2 ao;have ahS:=auq (d:=d) (r:=r) Qa.1 Qa.2;rw[<-iF] at ahS;have dy:=FF (d::aL r) (by rw[kB];omega);rw[ahS] at dy;simp only[eI,ae] at dy;have fo:=ID (aL bV)
  have AM:∀bD:Nat,lr 180026 bD 1 1 8 (aL r).length (((aL r).map ae).flatten.map .I) (some (bD,[.I (.int .i64 d)]))=some (.ref 180026 (bD+1) 1 0 (1+(aL r).length),some (180026,bD+1,aS ae (d::aL r))):=λbD=>by
   have:=A5 hO xY 180026 bD 8 [d] (aL r) (by rw[s7];omega) (by rw[s7];omega);exact this
  have auu:∀(bD:Nat) (m:Mem),m 180026=some (bD,aS ae (d::aL r))->dx 6 m (.ref 180026 bD 1 0 (1+(aL r).length))=some (.Y ((d::aL r).map ae)):=λbD m hm=>by
   have:=kt (n:=5) hO hm;rw[kB,Nat.add_comm (aL r).length 1] at this;exact this
  have pM:(((aL r).map ae).all λe=>D e==1)=true:=P4 _;have YT:=auu (gd (mem 180026)+1) (a5 (a5 mem 180026 (gd (mem 180026)) [R.I (.int .i64 d)]) 180026 (gd (mem 180026)+1) (aS ae (d::aL r))) (by simp[a5]);have pN:n<D a:=by omega
  obtain⟨cP,iW⟩:∃cP:Nat,cP=bV/y:=⟨_,rfl⟩;have YU:cP<1048576:=by rw[iW];exact Nat.div_lt_of_lt_mul Q2
  have Mj:=Nat.div_add_mod bV y;have pH:=pS bV jO;rw[<-iW] at Mj;have UA:bV-y*cP=bV%y:=by omega
  have aJA:(aL (y*cP)).length<=1001:=YS (ahQ YU jO) ao
  have Q3:Di [.Y [[.int .i64 ((bV/y:Nat):Int)]]]=some (.own 1 ((aL cP).map ae)):=by
   have h:=FF [((bV/y:Nat):Int)] (by simp);rw[<-iW,aup YU] at h;rw[<-iW];exact h
  have MD:=YQ y cP ⟨by omega,by have:(aL cP).length<=1:=g3.2 (by rw[Nat.pow_one];exact YU);omega⟩
  simp only[cb] at MD;have IK:=Q0 bV (y*cP) ⟨by omega,by omega,by omega⟩
  rw[UA] at IK;simp only[cb] at IK;have iH:n+1<=(aS ae o).length:=by rw[r7];omega
  have hc:=zz o n ((bV/y:Nat):Int) hE
  have jD:∃bn:Nat×Nat×R×List Int,bn.1<n+1/\bn.1<=D a/\bn.2.2.2.length=D a/\fj bn.2.2.2/\bn.2.1<y/\bs (a.drop bn.1)=y*bs (bn.2.2.2.drop bn.1)+bn.2.1/\(bn.2.2.1=.nil/\bn.2.1=0\/bn.2.2.1=.I (.Y ((aL bn.2.1).map ae)))/\R.I (Data.int .i64 ((n:Int)-1))=R.I (Data.int .i64 ((bn.1:Int)-1))/\R.I (Data.Y ((aL (bV%y)).map ae))=bn.2.2.1/\some (0,aS ae (o.set n ((bV/y:Nat):Int)))=some (0,aS ae bn.2.2.2):=by
   refine⟨(n,bV%y,.I (cb (bV%y)),o.set n ((bV/y:Nat):Int)),by dsimp only;omega,by dsimp only;omega,by simp[bS],Bh hq n (by omega),pH,?_,.inr rfl,rfl,rfl,rfl⟩
   dsimp only;rw[WY,u7,aN,W0,u7,<-iW];have ay:(bV:Int)=d+1048576*r:=by omega
   have aA:(y:Int)*cP+(bV%y:Nat)=bV:=by exact_mod_cast Mj
   have bQ:∀v:Int,(y:Int)*(cP+1048576*v)=y*cP+1048576*(y*v):=λv=>by rw[jl,Int.mul_left_comm]
   rw[bQ];omega
  have main:FH=.nil/\r=0\/FH=.I (cb r):=MB;rcases main with ⟨rfl,iw⟩|rfl
  ·subst iw;have ahT:=AM;simp only[tY,b6,ahF,og] at ahT;simp only[tY,og] at YT;simp only[tY,b6] at dy;simp only[go_sem,go_sem_proc,gz,nX,gF,hH,aj,G,bK,bE,bP,hm,nS,hw,b4,ahT,dy,fo,YT,yp,m5,ae,tY,ah,aW,b6];refine ahP T nX gF y bV ao MC jO Q2 (.I (.Y (a.map ae))) (.ref 180014 0 1 0 (D a)) (.I (.int .i64 n)) _ _ ?_ ?_ ?_ ?_ ?_ ?_ ?_ ?_
   ·exact aj
   ·exact G
   ·exact bK
   ·rfl
   ·simp only[dv,cx,if_false,bP,hw]
   ·rfl
   ·rfl
   intro tm' ej cL eD hv gR gS;simp only[go_sem,go_sem_proc,gz,nX,gF,hH,ej,cL,eD,hv,gR,gS,hm,pN,iH,hc,Q3,MD,IK,me,cD];repeat' (first|refine al ?_ ?_|fail)<;>intro h<;>simp only[h,go_sem,go_sem_proc,gz,nX,gF,hH,ej,cL,eD,hv,gR,gS,hm,pN,iH,hc,Q3,MD,IK,me,cD]
   exact jD
  ·simp only[go_sem,go_sem_proc,gz,nX,gF,hH,aj,G,bK,bE,bP,hm,nS,hw,b4,AM,pM,dy,fo,YT,yp,m5,cb,ae,ah,aW];refine ahP T nX gF y bV ao MC jO Q2 (.I (.Y (a.map ae))) (.ref 180014 0 1 0 (D a)) (.I (.int .i64 n)) _ _ ?_ ?_ ?_ ?_ ?_ ?_ ?_ ?_
   ·exact aj
   ·exact G
   ·exact bK
   ·rfl
   ·simp only[dv,cx,if_false,bP,hw]
   ·rfl
   ·rfl
   intro tm' ej cL eD hv gR gS;simp only[go_sem,go_sem_proc,gz,nX,gF,hH,ej,cL,eD,hv,gR,gS,hm,pN,iH,hc,Q3,MD,IK,me,cD];repeat' (first|refine al ?_ ?_|fail)<;>intro h<;>simp only[h,go_sem,go_sem_proc,gz,nX,gF,hH,ej,cL,eD,hv,gR,gS,hm,pN,iH,hc,Q3,MD,IK,me,cD]
   exact jD
def Dl:=cy P5 λ(s,l)=>cT (D l<=1000000) (.same (.agg (bU (jM s l))))
@[go_sem] theorem aJB (s:Int)(l:List Int)(H:(D l)<=1000000):Dl [.int .i64 s,.Y (l.map ae)]=some (.same (.agg (bU (jM s l)))):=(cF agh (s,l)).trans (cY H _)
theorem auv (T:bm)(gz:T va=aO Di)(s:Int)(l:List Int)(H:(D l)<=1000000):WP T Yx (.same (.agg (bU (jM s l)))) [.I (.int .i64 s),.I (.Y (l.map ae))]:=by
 refine cH ?_;simp only[Yx];have dy:=FF l H;have fo:=ID (gl l);refine a1 ?_;repeat' (intro h<;>simp only[h,go_sem,go_sem_proc,gz,dy,fo,ah]<;>try refine al ?_ ?_)
 all_goals simp only[jM,bU,b6, *,reduceIte,bT,cp,pR,wC,lA,wD,sU,fP,jB,fr,kE,beq_self_eq_true,bne]
def yr:=cy Be λ(s,l)=>cT (D l<=1000000) (.same (.bool (di (s,l))))
@[go_sem] theorem aJC (s:Int)(l:List Int)(H:(D l)<=1000000):yr [.agg [.int .i64 s,.Y (l.map ae)]]=some (.same (.bool (di (s,l)))):=(cF E3 (s,l)).trans (cY H _)
theorem auw (T:bm)  (s:Int) (l:List Int) (H:(D l)<=1000000):WP T Yt (.same (.bool (di (s,l)))) [.I (.agg [.int .i64 s,.Y (l.map ae)])]:=by
 refine cH ?_;simp only[Yt];simp only[go_sem,go_sem_proc,ah];refine c9 [1] [162001] (λ(i:Nat) tm mem=>i<=D l/\l.all o3=(l.drop i).all o3/\tm 3=.I (.int .i64 i)) (λi=>D l-i) 0 (by refine⟨by omega,by simp,rfl⟩) ?_;intro vs ms aK aF;simp only[go_sem,go_sem_proc,ah] at aK aF;subst aK aF;rintro i tm mem L hm ⟨U,aD,af⟩;simp only[go_sem,go_sem_proc,bf] at L hm;have G:=L;rcases dk (i<D l) with av|b4
 ·have ab:l.drop i=l[i]::l.drop (i+1):=iC av;have M:l[i]?=some l[i]:=bB av;generalize l[i]=x at *;have d1:decide ((i:Int)<(D l:Int))=true:=c5
  have jD:∀b,o3 x=true->b=(l.drop (i+1)).all o3->l.all o3=b:=by
   intro b G J;rw[aD,ab,xW,G,J,fP]
  have x5:¬ o3 x=true->di (s,l)=false:=by
   intro G;rw[Bool.not_eq_true] at G;unfold di;rw[aD,ab,xW,G]
   rfl
  have bl:=eu (i:=i) (by omega);simp only[go_sem,go_sem_proc,G,af,hm,M,d1,bl,ae,ah,aW,bf];repeat' (first|refine al ?_ ?_|fail)<;>intro h<;>simp only[h,go_sem,go_sem_proc,G,af,hm,M,d1,bl,ae,ah,aW,bf]
  ·rw[x5 λh=>by have:=(L9 x).1 h;(simp only[cO,Data.bool.injEq,Data.int.injEq,true_and,decide_eq_true_eq,decide_eq_false_iff_not,kE,beq_iff_eq,beq_eq_false_iff_ne,ne_eq] at*<;> omega)]
  ·exact⟨i+1,by omega,by omega,jD _ ((L9 x).2 (by (simp only[cO,Data.bool.injEq,Data.int.injEq,true_and,decide_eq_true_eq,decide_eq_false_iff_not,kE,beq_iff_eq,beq_eq_false_iff_ne,ne_eq] at*<;> omega))) rfl,rfl⟩
  ·rw[x5 λh=>by have:=(L9 x).1 h;(simp only[cO,Data.bool.injEq,Data.int.injEq,true_and,decide_eq_true_eq,decide_eq_false_iff_not,kE,beq_iff_eq,beq_eq_false_iff_ne,ne_eq] at*<;> omega)]
 ·have he:l.drop i=[]:=List.drop_eq_nil_of_le (by omega);rw[he] at aD;have dO:l.all o3=true:=by rw[aD];rfl
  have d1:decide ((i:Int)<(D l:Int))=false:=cu;rcases List.eq_nil_or_concat l with rfl|⟨r,x,rfl⟩
  ·have d2:decide ((i:Int)<0)=false:=d1;simp only[go_sem,go_sem_proc,G,af,hm,d2,og,mC,m3,beq_self_eq_true,b6,bne];repeat' (first|refine al ?_ ?_|fail)<;>intro h<;>simp only[h,go_sem,go_sem_proc,G,af,hm,d2,og,mC,m3,beq_self_eq_true,b6,bne]
   all_goals (refine congrArg (λb=>some (Data.bool b)) ?_;unfold di;simp;try simp only[decide_eq_true_eq,decide_eq_false_iff_not,beq_iff_eq,beq_eq_false_iff_ne,vy,ahU,beq_eq_false_iff_ne,ne_eq] at *;omega)
  ·rw[List.concat_eq_append] at *;have b5:(((r++[x]).length:Int)==0)=false:=by simp;omega
   have hw:IntKind.i64.wrap (((r++[x]).length:Int)-1)=(D r:Int):=by
    have bz:(r++[x]).length=D r+1:=by simp
    rw[e7 _];omega
   have bq:((r++[x]).map ae)[D r]?=some [.int .i64 x]:=by simp[ae]
   have X:di (s,r++[x])=((s==1||s == -1)&&decide (((r++[x]).length:Int)<=60)&&(x != 0)):=by
    unfold di;rw[dO];simp only[List.getLast?_append,List.getLast?_singleton];simp;have ay:decide (D r<=59)=decide ((D r:Int)+1<=60):=decide_eq_decide.2 (by omega);have aA:(some x != some (0:Int))=(x != 0):=by simp[bne]
    rw[ay,aA]
   rw[X];simp only[go_sem,go_sem_proc,G,af,hm,d1,b5,hw,bq,ah];repeat' (first|refine al ?_ ?_|fail)<;>intro h<;>simp only[h,go_sem,go_sem_proc,G,af,hm,d1,b5,hw,bq,ah]
   all_goals (refine congrArg (λb=>some (Data.bool b)) ?_;clear aD dO X bq hw L hm G af d1;rw[ym];simp only[gb,Bool.or_eq_true,decide_eq_true_eq,decide_eq_false_iff_not,beq_iff_eq,beq_eq_false_iff_ne,vy,ahU,ne_eq,kE,false_iff,true_iff] at *;omega)
def Q4:=cy Be λ(s,l)=>cT (D l<=1000000) (.same (.agg (bU (hG (s,l)))))
@[go_sem] theorem aJD (s:Int)(l:List Int)(H:(D l)<=1000000):Q4 [.agg [.int .i64 s,.Y (l.map ae)]]=some (.same (.agg (bU (hG (s,l))))):=(cF E3 (s,l)).trans (cY H _)
theorem auy (T:bm)(eE:T md=aO yr)(fp:T qx=aO Dl)(s:Int)(l:List Int)(H:(D l)<=1000000):WP T Yu (.same (.agg (bU (hG (s,l))))) [.I (.agg [.int .i64 s,.Y (l.map ae)])]:=by
 refine cH ?_;simp only[Yu]
 by_cases X:di (s,l)=true
 ·obtain⟨z,a2,e⟩:=(ib _).1 X;have ay:hG (s,l)=bd (-z):=by unfold hG;rw[ad X,e,fe]
  cases e
  have hw:IntKind.i64.wrap (0-z.sign) = -z.sign:=by
   have:=Int.sign_trichotomy z;rw[e7 _];omega
  rw[ay];refine a1 ?_;repeat' (intro h<;>simp only[h,go_sem,go_sem_proc,eE,fp,X,H,hw,ag6,bU]<;>try refine al ?_ ?_)
 ·have X:di (s,l)=false:=by simpa using X
  have ay:hG (s,l)=(0,[]):=by unfold hG;rw[X];rfl
  rw[ay];refine a1 ?_;repeat' (intro h<;>simp only[h,go_sem,go_sem_proc,eE,fp,X,H,bU,b6]<;>try refine al ?_ ?_)
theorem ahV (n:Int):(n.tmod 1048576).natAbs=n.natAbs%1048576:=by rw[Int.natAbs_tmod];rfl
theorem ahW (n:Int):(n.tdiv 1048576).natAbs=n.natAbs/1048576:=by rw[Int.natAbs_tdiv];rfl
def Q5:=cy x2 λ(n:Int)=>cT (df n) (.same (.agg (bU (bd n))))
@[go_sem] theorem aJE (n:Int)(H:df n):Q5 [.int .i64 n]=some (.same (.agg (bU (bd n)))):=(cF Bd n).trans (cY H _)
theorem auz (T:bm)(fp:T qx=aO Dl)(n:Int)(H:df n):WP T Ys (.same (.agg (bU (bd n)))) [.I (.int .i64 n)]:=by
 refine cH ?_;simp only[Ys];have ly:=H;unfold df at ly;obtain⟨xL,wk⟩:=ly;have hlen:(aL n.natAbs).length<=60:=g3.2 (uh H);rcases dk (n=0) with rfl|mW
 ·simp only[go_sem,go_sem_proc,fp,bU,beq_self_eq_true];repeat' (first|refine al ?_ ?_|fail)<;>intro h<;>simp only[h,go_sem,go_sem_proc,fp,bU,beq_self_eq_true]
  rfl
 have b5:(n==0)=false:=by simpa using mW
 have Q:∀s:Int,s=n.sign->jM s (aL n.natAbs)=bd n:=λs h=>ox rfl λ_=>h;have wX:(aL n.natAbs).length<=1000000:=by omega
 rcases dk (n<0) with lD|iX
 ·have vz:=Q (-1) (nT lD).symm;simp only[go_sem,go_sem_proc,fp,b5,lD,decide_true];refine c9 [2,3] [144002] (λ((u,g,l):Int×Nat×List Int) tm mem=>u<=0/\n<=u/\aL n.natAbs=l++aL u.natAbs/\tm 0=.I (.int .i64 u)/\tm 4=.ref 144022 g 1 0 (D l)/\mem 144022=some (g,aS ae l)) (λ(u,_)=>u.natAbs) (n,0,[]) (by refine⟨by omega,by omega,rfl,rfl,rfl,rfl⟩) ?_;intro vs ms aK aF;simp only[go_sem,go_sem_proc,fp,lD,decide_true] at aK aF;subst aK aF;rintro⟨u,g,l⟩ tm mem L hm ⟨hu,auA,ab,aj,aP,qE⟩;simp only[go_sem,go_sem_proc,fp,bf] at L hm;obtain⟨J,af⟩:=L;rcases dk (u=0) with rfl|Fq
  ·rw[show (0:Int).natAbs=0 from rfl,tY,gD] at ab;rw[ab] at vz wX;simp only[go_sem,go_sem_proc,fp,aj,J,af,aP,hm,qE,vz,wX,k6 hO,kN,bU,ah,beq_self_eq_true];repeat' (first|refine al ?_ ?_|fail)<;>intro h<;>simp only[h,go_sem,go_sem_proc,fp,aj,J,af,aP,hm,qE,vz,wX,k6 hO,kN,bU,ah,beq_self_eq_true]
  ·have Bl:(D l)<=60:=by
    have:=congrArg D ab;rw[gj] at this;omega
   have zE:(u==0)=false:=by simpa using Fq
   have cW:=λd:Int=>ka hO xY 144022 g 8 l d (cs:=[.I (.int .i64 d)]) rfl (by omega) (by omega);have ay:=ahV u;have aA:=ahW u;have bQ:u.tmod 1048576<=0:=by have:=ahX (a:=-u) 1048576 (by omega);rw[Int.neg_tmod] at this;omega
   have bL:u.tdiv 1048576<=0/\u<=u.tdiv 1048576:=by
    have:=ahY (a:=-u) (b:=1048576) (by omega) (by omega);rw[Int.neg_tdiv] at this;omega
   have o6:IntKind.i64.wrap (u.tdiv 1048576)=u.tdiv 1048576:=wrap64 _ (by omega) (by omega);have fQ:IntKind.i64.wrap (0-u.tmod 1048576) = -(u.tmod 1048576):=by rw[e7 _];omega
   have wU:=wE (n:=u.natAbs) (by omega)
   have jD:∀d:Int,d=((u.natAbs%1048576:Nat):Int)->∃bn:Int×Nat×List Int,bn.1.natAbs<u.natAbs/\bn.1<=0/\n<=bn.1/\aL n.natAbs=bn.2.2++aL bn.1.natAbs/\R.I (.int .i64 (u.tdiv 1048576))=R.I (.int .i64 bn.1)/\R.ref 144022 (g+1) 1 0 (D l+1)=R.ref 144022 bn.2.1 1 0 bn.2.2.length/\some (g+1,aS ae (l++[d]))=some (bn.2.1,aS ae bn.2.2):=by
    intro d Cx;refine⟨(u.tdiv 1048576,g+1,l++[d]),by dsimp only;omega,by dsimp only;omega,by dsimp only;omega,?_,rfl,by simp,rfl⟩
    dsimp only;rw[ab,wU,Cx,aA,hd]
    rfl
   by_cases a2:u.tmod 1048576<0
   ·simp only[go_sem,go_sem_proc,fp,aj,J,af,aP,hm,qE,zE,cW,o6,fQ,a2,decide_true,ah,bf];repeat' (first|refine al ?_ ?_|fail)<;>intro h<;>simp only[h,go_sem,go_sem_proc,fp,aj,J,af,aP,hm,qE,zE,cW,o6,fQ,a2,decide_true,ah,bf]
    exact jD _ (by omega)
   ·simp only[go_sem,go_sem_proc,fp,aj,J,af,aP,hm,qE,zE,cW,o6,fQ,a2,decide_false,ah,bf];repeat' (first|refine al ?_ ?_|fail)<;>intro h<;>simp only[h,go_sem,go_sem_proc,fp,aj,J,af,aP,hm,qE,zE,cW,o6,fQ,a2,decide_false,ah,bf]
    exact jD _ (by omega)
 ·have vz:=Q 1 (ht (by omega)).symm;simp only[go_sem,go_sem_proc,fp,b5,iX,decide_false];refine c9 [2,3] [144002] (λ((u,g,l):Int×Nat×List Int) tm mem=>0<=u/\u<=n/\aL n.natAbs=l++aL u.natAbs/\tm 0=.I (.int .i64 u)/\tm 4=.ref 144022 g 1 0 (D l)/\mem 144022=some (g,aS ae l)) (λ(u,_)=>u.natAbs) (n,0,[]) (by refine⟨by omega,by omega,rfl,rfl,rfl,rfl⟩) ?_;intro vs ms aK aF;simp only[go_sem,go_sem_proc,fp,iX,decide_false] at aK aF;subst aK aF;rintro⟨u,g,l⟩ tm mem L hm ⟨hu,auA,ab,aj,aP,qE⟩;simp only[go_sem,go_sem_proc,fp,bf] at L hm;obtain⟨J,af⟩:=L;rcases dk (u=0) with rfl|Fq
  ·rw[show (0:Int).natAbs=0 from rfl,tY,gD] at ab;rw[ab] at vz wX;simp only[go_sem,go_sem_proc,fp,aj,J,af,aP,hm,qE,vz,wX,k6 hO,kN,bU,ah,beq_self_eq_true];repeat' (first|refine al ?_ ?_|fail)<;>intro h<;>simp only[h,go_sem,go_sem_proc,fp,aj,J,af,aP,hm,qE,vz,wX,k6 hO,kN,bU,ah,beq_self_eq_true]
  ·have Bl:(D l)<=60:=by
    have:=congrArg D ab;rw[gj] at this;omega
   have zE:(u==0)=false:=by simpa using Fq
   have cW:=λd:Int=>ka hO xY 144022 g 8 l d (cs:=[.I (.int .i64 d)]) rfl (by omega) (by omega);have ay:=ahV u;have aA:=ahW u;have bQ:=ahX (a:=u) 1048576 (by omega);have bL:=ahY (a:=u) (b:=1048576) (by omega) (by omega);have o6:IntKind.i64.wrap (u.tdiv 1048576)=u.tdiv 1048576:=wrap64 _ (by omega) (by omega);have wU:=wE (n:=u.natAbs) (by omega);have a2:decide (u.tmod 1048576<0)=false:=cu;simp only[go_sem,go_sem_proc,fp,aj,J,af,aP,hm,qE,zE,cW,o6,a2,ah,bf];repeat' (first|refine al ?_ ?_|fail)<;>intro h<;>simp only[h,go_sem,go_sem_proc,fp,aj,J,af,aP,hm,qE,zE,cW,o6,a2,ah,bf]
   refine⟨(u.tdiv 1048576,g+1,l++[u.tmod 1048576]),by dsimp only;omega,by dsimp only;omega,by dsimp only;omega,?_,rfl,by simp,by first|rfl|simp[go_sem]⟩
   dsimp only;rw[ab,wU,aA,hd,show u.tmod 1048576=((u.natAbs%1048576:Nat):Int) by omega]
   rfl
def p0 (a b:Raw):Bool:=decide (a=b)
def YV:=cy rf λ(s,l,s2,aa)=>cT (D l<=1000000/\D aa<=1000000) (.same (.bool (p0 (s,l) (s2,aa))))
@[go_sem] theorem aJF (s:Int)(l:List Int)(s2:Int)(aa:List Int)(H:(D l)<=1000000/\D aa<=1000000):YV [.agg [.int .i64 s,.Y (l.map ae)],.agg [.int .i64 s2,.Y (aa.map ae)]]=some (.same (.bool (p0 (s,l) (s2,aa)))):=(cF s4 (s,l,s2,aa)).trans (cY H _)
theorem auB (T:bm)  (s:Int) (l:List Int) (s2:Int) (aa:List Int) (H:(D l)<=1000000/\D aa<=1000000):WP T YJ (.same (.bool (p0 (s,l) (s2,aa)))) [.I (.agg [.int .i64 s,.Y (l.map ae)]),.I (.agg [.int .i64 s2,.Y (aa.map ae)])]:=by
 refine cH ?_;simp only[YJ];obtain⟨bt,bz⟩:=H
 by_cases Q:s=s2
 ·subst Q
  by_cases az:(D l)=D aa
  ·have ay:(((D l:Nat):Int)==((D aa:Nat):Int))=true:=by simp;omega
   simp only[go_sem,go_sem_proc,beq_self_eq_true,ah,ay,bT,bne];refine c9 [2,3] [210002,210003] (λ(i:Nat) tm mem=>i<=D l/\l.take i=aa.take i/\tm 5=.I (.int .i64 i)) (λi=>D l-i) 0 (by refine⟨by omega,by simp,rfl⟩) ?_;intro vs ms aK aF;simp only[go_sem,go_sem_proc,ah] at aK aF;subst aK aF;rintro i tm mem L hm ⟨U,aD,bh⟩;simp only[go_sem,go_sem_proc,bf] at L hm;obtain⟨J,af⟩:=L;obtain⟨bX,g4⟩:=hm;rcases dk (i<D l) with av|b4
   ·have M:l[i]?=some l[i]:=bB av;have ao:aa[i]?=some aa[i]:=bB (by omega);have xL:l.take (i+1)=l.take i++[l[i]]:=by rw[g2,M];rfl
    have wk:aa.take (i+1)=aa.take i++[aa[i]]:=by rw[g2,ao];rfl
    generalize l[i]=x at *;generalize aa[i]=y at *;have d1:decide ((i:Int)<(D l:Int))=true:=c5;have bl:=eu (i:=i) (by omega)
    by_cases hf:x=y
    ·subst hf;simp only[go_sem,go_sem_proc,J,af,bh,bX,g4,M,ao,d1,bl,ae,ah,aW,bf,beq_self_eq_true,bT];repeat' (first|refine al ?_ ?_|fail)<;>intro h<;>simp only[h,go_sem,go_sem_proc,J,af,bh,bX,g4,M,ao,d1,bl,ae,ah,aW,bf,beq_self_eq_true,bT]
     exact⟨i+1,by omega,by omega,by rw[xL,wk,aD],rfl⟩
    ·have b5:(x==y)=false:=by simpa using hf
     have X:p0 (s,l) (s,aa)=false:=by
      refine kY λh=>hf ?_;rw[fJ] at h;rw[h.2,ao] at M;exact (pL M).symm
     rw[X];simp only[go_sem,go_sem_proc,J,af,bh,bX,g4,M,ao,d1,bl,b5,ae,ah,aW,bf,cp];repeat' (first|refine al ?_ ?_|fail)<;>intro h<;>simp only[h,go_sem,go_sem_proc,J,af,bh,bX,g4,M,ao,d1,bl,b5,ae,ah,aW,bf,cp]
   ·have d1:decide ((i:Int)<(D l:Int))=false:=cu
    have X:p0 (s,l) (s,aa)=true:=by
     refine jw ?_;rw[dH (by omega),dH (by omega)] at aD;rw[aD]
    rw[X];simp only[go_sem,go_sem_proc,J,af,bh,bX,g4,d1,ah];repeat' (first|refine al ?_ ?_|fail)<;>intro h<;>simp only[h,go_sem,go_sem_proc,J,af,bh,bX,g4,d1,ah]
  ·have ay:(((D l:Nat):Int)==((D aa:Nat):Int))=false:=by simp;omega
   have X:p0 (s,l) (s,aa)=false:=by
    refine kY λh=>az ?_;rw[fJ] at h;rw[h.2]
   rw[X];simp only[go_sem,go_sem_proc,beq_self_eq_true,ah,ay,bT,cp,bne];repeat' (first|refine al ?_ ?_|fail)<;>intro h<;>simp only[h,go_sem,go_sem_proc,beq_self_eq_true,ah,ay,bT,cp,bne]
 ·have b5:(s==s2)=false:=by simpa using Q
  have X:p0 (s,l) (s2,aa)=false:=by
   refine kY λh=>Q ?_;rw[fJ] at h;exact h.1
  rw[X];simp only[go_sem,go_sem_proc,b5,ah,bT,cp,bne];repeat' (first|refine al ?_ ?_|fail)<;>intro h<;>simp only[h,go_sem,go_sem_proc,b5,ah,bT,cp,bne]
def Q6:=cy Be λ(s,l)=>some (.same (dD (zH (s,l))))
@[go_sem] theorem aJG (s:Int)(l:List Int):Q6 [.agg [.int .i64 s,.Y (l.map ae)]]=some (.same (dD (zH (s,l)))):=cF E3 (s,l)
theorem auC (T:bm)  (s:Int) (l:List Int):WP T YI (.same (dD (zH (s,l)))) [.I (.agg [.int .i64 s,.Y (l.map ae)])]:=by
 refine cH ?_;simp only[YI];refine a1 ?_;repeat' (intro h<;>simp only[h,go_sem,go_sem_proc,ah]<;>try refine al ?_ ?_)
 all_goals (simp only[dD,bU,zH];simp only[b6, *,reduceIte,bT,cp,pR,wC,lA,wD,sU,fP,jB,fr,kE,beq_self_eq_true,bne])
theorem auD {x y:Int}(h:bd x=bd y):x=y:=by rw[<-fe x,h,fe]
def Q7:=cy rf λ(s,l,s2,aa)=>cT (D l<=1000000/\D aa<=1000000) (.same (.int .i64 (pb (s,l) (s2,aa))))
@[go_sem] theorem aJH (s:Int)(l:List Int)(s2:Int)(aa:List Int)(H:(D l)<=1000000/\D aa<=1000000):Q7 [.agg [.int .i64 s,.Y (l.map ae)],.agg [.int .i64 s2,.Y (aa.map ae)]]=some (.same (.int .i64 (pb (s,l) (s2,aa)))):=(cF s4 (s,l,s2,aa)).trans (cY H _)
theorem auE (T:bm)(eE:T md=aO yr)(um:T VS=aO YV)(gF:T CR=aO IH)(s:Int)(l:List Int)(s2:Int)(aa:List Int)(H:(D l)<=1000000/\D aa<=1000000):WP T YG (.same (.int .i64 (pb (s,l) (s2,aa)))) [.I (.agg [.int .i64 s,.Y (l.map ae)]),.I (.agg [.int .i64 s2,.Y (aa.map ae)])]:=by
 refine cH ?_;simp only[YG];obtain⟨bt,bz⟩:=H
 by_cases X:di (s,l)=true
 ·by_cases aZ:di (s2,aa)=true
  ·obtain⟨x,M,e⟩:=(ib _).1 X;obtain⟨y,ao,aA⟩:=(ib _).1 aZ;have hm:pb (s,l) (s2,aa)=gx x y:=by rw[e,aA];exact Md M ao
   rw[hm];clear hm
   have nz:p0 (s,l) (s2,aa)=decide (x=y):=by
    rw[e,aA];exact decide_eq_decide.2 ⟨auD,λh=>by rw[h]⟩
   cases e
   cases aA;have lH:=oy M;have k7:=oy ao
   by_cases hf:x=y
   ·subst hf;rw[jw rfl] at nz;rw[Iu];simp only[go_sem,go_sem_proc,eE,um,gF,X,aZ,bt,bz,nz];repeat' (first|refine al ?_ ?_|fail)<;>intro h<;>simp only[h,go_sem,go_sem_proc,eE,um,gF,X,aZ,bt,bz,nz]
   ·rw[kY hf] at nz;have fo:=YM x.natAbs y.natAbs ⟨by omega,by omega⟩
    simp only[cb] at fo
    have BG:gx x y=if x<y then -1 else 1:=by
     rcases vl x y with h|h|h
     ·rw[Bp h,ad h]
     ·exact absurd h hf
     ·rw[Fm h,ag (by omega)]
    rw[BG]
    by_cases Q:x.sign=y.sign
    ·have rh:(x.sign==y.sign)=true:=by simpa using Q
     have jj:(decide (x.natAbs<y.natAbs)==decide (x.sign>0))=decide (x<y):=by
      rw[Bool.beq_eq_decide_eq,decide_eq_decide];simp only[decide_eq_decide];rcases lJ x with ⟨e,G⟩|⟨e,G⟩|⟨e,G⟩<;>rcases lJ y with ⟨e',J⟩|⟨e',J⟩|⟨e',J⟩<;>rw[e,e'] at Q<;>first|omega|skip
     by_cases av:x<y
     ·rw[jw av] at jj;rw[ad av];simp only[go_sem,go_sem_proc,eE,um,gF,X,aZ,bt,bz,nz,rh,fo,jj,bT,bne];repeat' (first|refine al ?_ ?_|fail)<;>intro h<;>simp only[h,go_sem,go_sem_proc,eE,um,gF,X,aZ,bt,bz,nz,rh,fo,jj,bT,bne]
     ·rw[kY av] at jj;rw[ag av];simp only[go_sem,go_sem_proc,eE,um,gF,X,aZ,bt,bz,nz,rh,fo,jj,bT,bne];repeat' (first|refine al ?_ ?_|fail)<;>intro h<;>simp only[h,go_sem,go_sem_proc,eE,um,gF,X,aZ,bt,bz,nz,rh,fo,jj,bT,bne]
    ·have rh:(x.sign==y.sign)=false:=by simpa using Q
     have jj:decide (x.sign<y.sign)=decide (x<y):=by
      rw[decide_eq_decide];rcases lJ x with ⟨e,G⟩|⟨e,G⟩|⟨e,G⟩<;>rcases lJ y with ⟨e',J⟩|⟨e',J⟩|⟨e',J⟩<;>rw[e,e'] at Q ⊢<;>omega
     by_cases av:x<y
     ·rw[jw av] at jj;rw[ad av];simp only[go_sem,go_sem_proc,eE,um,gF,X,aZ,bt,bz,nz,rh,jj,cp,bne];repeat' (first|refine al ?_ ?_|fail)<;>intro h<;>simp only[h,go_sem,go_sem_proc,eE,um,gF,X,aZ,bt,bz,nz,rh,jj,cp,bne]
     ·rw[kY av] at jj;rw[ag av];simp only[go_sem,go_sem_proc,eE,um,gF,X,aZ,bt,bz,nz,rh,jj,cp,bne];repeat' (first|refine al ?_ ?_|fail)<;>intro h<;>simp only[h,go_sem,go_sem_proc,eE,um,gF,X,aZ,bt,bz,nz,rh,jj,cp,bne]
  ·have aZ:di (s2,aa)=false:=by simpa using aZ
   have hm:pb (s,l) (s2,aa)=0:=by unfold pb;rw[aZ,jB];rfl
   rw[hm];simp only[go_sem,go_sem_proc,eE,um,gF,X,aZ,bt,bz];repeat' (first|refine al ?_ ?_|fail)<;>intro h<;>simp only[h,go_sem,go_sem_proc,eE,um,gF,X,aZ,bt,bz]
 ·have X:di (s,l)=false:=by simpa using X
  have hm:pb (s,l) (s2,aa)=0:=by unfold pb;rw[X,fr];rfl
  rw[hm];simp only[go_sem,go_sem_proc,eE,um,gF,X,bt,bz];repeat' (first|refine al ?_ ?_|fail)<;>intro h<;>simp only[h,go_sem,go_sem_proc,eE,um,gF,X,bt,bz]
def Q8:=cy rf λ(s,l,s2,aa)=>cT (D l<=1000000/\D aa<=1000000) (.same (dD (ml (s,l) (s2,aa))))
@[go_sem] theorem aJI (s:Int)(l:List Int)(s2:Int)(aa:List Int)(H:(D l)<=1000000/\D aa<=1000000):Q8 [.agg [.int .i64 s,.Y (l.map ae)],.agg [.int .i64 s2,.Y (aa.map ae)]]=some (.same (dD (ml (s,l) (s2,aa)))):=(cF s4 (s,l,s2,aa)).trans (cY H _)
theorem auF (T:bm)(eE:T md=aO yr)(ph:T LA=aO Q1)(fp:T qx=aO Dl)(s:Int)(l:List Int)(s2:Int)(aa:List Int)(H:(D l)<=1000000/\D aa<=1000000):WP T Yv (.same (dD (ml (s,l) (s2,aa)))) [.I (.agg [.int .i64 s,.Y (l.map ae)]),.I (.agg [.int .i64 s2,.Y (aa.map ae)])]:=by
 refine cH ?_;simp only[Yv];obtain⟨bt,bz⟩:=H
 by_cases X:di (s,l)=true
 ·by_cases aZ:di (s2,aa)=true
  ·obtain⟨x,M,e⟩:=(ib _).1 X;obtain⟨y,ao,aA⟩:=(ib _).1 aZ
   have hm:ml (s,l) (s2,aa)=(bd (hg x.natAbs y.natAbs:Nat),0):=by
    rw[e,aA];unfold ml
    rw[lb M,lb ao,fe,fe]
    rfl
   rw[hm];clear hm
   cases e
   cases aA;have lH:=oy M;have k7:=oy ao;have bq:=Iv M ao;generalize jN:x.natAbs=cr at *;generalize Bq:y.natAbs=hQ at *;have Iw:(aL cr).length<=1000000:=by omega
   simp only[go_sem,go_sem_proc,eE,ph,fp,X,aZ,jN,Bq,bt,bz,Iw,ae,ah];refine c9 [4] [164004] (λ((a,b):Nat×Nat) tm mem=>a<dP/\b<dP/\hg cr hQ=hg a b/\tm 6=.I (.Y ((aL a).map ae))/\tm 7=.I (.Y ((aL b).map ae))) (λ(_,b)=>b) (cr,hQ) (by refine⟨M,ao,rfl,rfl,rfl⟩) ?_;intro vs ms aK aF;simp only[go_sem,go_sem_proc,eE,ph,fp,jN,Bq] at aK aF;subst aK aF;rintro⟨a,b⟩ tm mem L hm ⟨a4,ai,yi,bK,bE⟩;simp only[go_sem,go_sem_proc,eE,ph,fp,bf] at L hm;have aP:=L;have mb:(aL a).length<=60:=g3.2 a4;have ou:(aL b).length<=60:=g3.2 ai;rcases k3 b with aj|iX
   ·subst aj;have a2:aL 0=[]:=rfl;have XC:(aL a).length<=1000000:=by omega
    rw[Nat.gcd_zero_right] at yi;have Q:jM 1 (aL a)=bd ((a:Nat):Int):=ox (by simp) λaM=>(ht (by omega)).symm;rw[yi];refine a1 ?_;repeat' (intro h<;>simp only[h,go_sem,go_sem_proc,eE,ph,fp,aP,bK,bE,hm,a2,XC,Q,bU,dD,jQ,b6,og,mC,m3,show ¬ ((0:Int)>0) by omega,decide_false]<;>try refine al ?_ ?_)
   ·have b5:decide (((aL b).length:Int)>0)=true:=by
     have:aL b≠[]:=by rw[Ne,A8];omega
     have:=Me.2 this;exact c5
    have hdiv:=ahR a b ⟨by omega,by omega,iX⟩
    simp only[cb] at hdiv;refine a1 ?_;repeat' (intro h<;>simp only[h,go_sem,go_sem_proc,eE,ph,fp,aP,bK,bE,hm,b5,hdiv,ah]<;>try refine al ?_ ?_)
    exact⟨(b,a%b),pS _ iX,ai,vg (Nat.mod_le _ _) a4,by dsimp only;rw[yi,Mf a b,Nat.gcd_rec b a,Mf],rfl,rfl⟩
  ·have aZ:di (s2,aa)=false:=by simpa using aZ
   have hm:ml (s,l) (s2,aa)=((0,[]),1):=by unfold ml;rw[aZ,jB];rfl
   rw[hm];refine a1 ?_;repeat' (intro h<;>simp only[h,go_sem,go_sem_proc,eE,ph,fp,X,aZ,bt,bz,bU,dD,b6]<;>try refine al ?_ ?_)
 ·have X:di (s,l)=false:=by simpa using X
  have hm:ml (s,l) (s2,aa)=((0,[]),1):=by unfold ml;rw[X,fr];rfl
  rw[hm];refine a1 ?_;repeat' (intro h<;>simp only[h,go_sem,go_sem_proc,eE,ph,fp,X,bt,bz,bU,dD,b6]<;>try refine al ?_ ?_)
def ME:=cy rf λ(s,l,s2,aa)=>cT (D l<=1000000/\D aa<=1000000) (.same (dD (mulR (s,l) (s2,aa))))
@[go_sem] theorem aJJ (s:Int)(l:List Int)(s2:Int)(aa:List Int)(H:(D l)<=1000000/\D aa<=1000000):ME [.agg [.int .i64 s,.Y (l.map ae)],.agg [.int .i64 s2,.Y (aa.map ae)]]=some (.same (dD (mulR (s,l) (s2,aa)))):=(cF s4 (s,l,s2,aa)).trans (cY H _)
theorem auG (T:bm)(eE:T md=aO yr)(nX:T EW=aO Mz)(fp:T qx=aO Dl)(qF:T EY=aO Q6)(s:Int)(l:List Int)(s2:Int)(aa:List Int)(H:(D l)<=1000000/\D aa<=1000000):WP T YE (.same (dD (mulR (s,l) (s2,aa)))) [.I (.agg [.int .i64 s,.Y (l.map ae)]),.I (.agg [.int .i64 s2,.Y (aa.map ae)])]:=by
 refine cH ?_;simp only[YE];obtain⟨bt,bz⟩:=H
 by_cases X:di (s,l)=true
 ·by_cases aZ:di (s2,aa)=true
  ·obtain⟨x,M,e⟩:=(ib _).1 X;obtain⟨y,ao,aA⟩:=(ib _).1 aZ;have hm:mulR (s,l) (s2,aa)=pU (x*y):=by rw[e,aA];exact vn M ao
   rw[hm];clear hm
   cases e
   cases aA;have G:=oz x;have J:=oz y;have aC:x.sign*y.sign=(x*y).sign:=(pa x y).symm;have af:=oz (x*y);have hw:IntKind.i64.wrap (x.sign*y.sign)=(x*y).sign:=by rw[aC];exact wrap64 _ (by omega) (by omega)
   have hmul:=YQ x.natAbs y.natAbs ⟨eP (oy M) (by omega),eP (oy ao) (by omega)⟩;simp only[cb] at hmul
   have hlen:(aL (x.natAbs*y.natAbs)).length<=1000000:=by
    refine eP ((g3 (k:=120)).2 ?_) (by omega);have:(1048576^120:Nat)=dP*dP:=by unfold dP;rw[<-Nat.pow_add]
    rw[this];exact Nat.mul_lt_mul'' M ao
   have Q:jM (x*y).sign (aL (x.natAbs*y.natAbs))=bd (x*y):=ox (Int.natAbs_mul x y) λ_=>rfl;refine a1 ?_;repeat' (intro h<;>simp only[h,go_sem,go_sem_proc,eE,nX,fp,qF,X,aZ,bt,bz,hw,hmul,hlen,Q,pV,bU,dD,jQ]<;>try refine al ?_ ?_)
  ·have aZ:di (s2,aa)=false:=by simpa using aZ
   have hm:mulR (s,l) (s2,aa)=((0,[]),1):=by unfold mulR;rw[aZ,jB];rfl
   rw[hm];refine a1 ?_;repeat' (intro h<;>simp only[h,go_sem,go_sem_proc,eE,nX,fp,qF,X,aZ,bt,bz,bU,dD,b6]<;>try refine al ?_ ?_)
 ·have X:di (s,l)=false:=by simpa using X
  have hm:mulR (s,l) (s2,aa)=((0,[]),1):=by unfold mulR;rw[X,fr];rfl
  rw[hm];refine a1 ?_;repeat' (intro h<;>simp only[h,go_sem,go_sem_proc,eE,nX,fp,qF,X,bt,bz,bU,dD,b6]<;>try refine al ?_ ?_)
def YW:=cy rf λ(s,l,s2,aa)=>cT (D l<=1000000/\D aa<=1000000) (.same (dD (lG (s,l) (s2,aa))))
@[go_sem] theorem aJK (s:Int)(l:List Int)(s2:Int)(aa:List Int)(H:(D l)<=1000000/\D aa<=1000000):YW [.agg [.int .i64 s,.Y (l.map ae)],.agg [.int .i64 s2,.Y (aa.map ae)]]=some (.same (dD (lG (s,l) (s2,aa)))):=(cF s4 (s,l,s2,aa)).trans (cY H _)
theorem auH (T:bm)(eE:T md=aO yr)(lO:T LB=aO QZ)(gF:T CR=aO IH)(hH:T CQ=aO My)(fp:T qx=aO Dl)(qF:T EY=aO Q6)(s:Int)(l:List Int)(s2:Int)(aa:List Int)(H:(D l)<=1000000/\D aa<=1000000):WP T YH (.same (dD (lG (s,l) (s2,aa)))) [.I (.agg [.int .i64 s,.Y (l.map ae)]),.I (.agg [.int .i64 s2,.Y (aa.map ae)])]:=by
 refine cH ?_;simp only[YH];obtain⟨bt,bz⟩:=H
 by_cases X:di (s,l)=true
 ·by_cases aZ:di (s2,aa)=true
  ·obtain⟨x,M,e⟩:=(ib _).1 X;obtain⟨y,ao,aA⟩:=(ib _).1 aZ;have hm:lG (s,l) (s2,aa)=pU (x+y):=by rw[e,aA];exact Mc M ao
   rw[hm];clear hm
   cases e
   cases aA;have G:=oz x;have J:=oz y;have lH:=oy M;have k7:=oy ao;have wW:=Iq x;have atb:=Iq y
   have pX:(x.sign=1/\0<x)\/(x.sign=0/\x=0)\/(x.sign = -1/\x<0):=by
    rcases vl x 0 with h|h|h
    ·exact .inr (.inr ⟨nT h,h⟩)
    ·exact .inr (.inl ⟨by rw[h];rfl,h⟩)
    ·exact .inl ⟨ht h,h⟩
   have ty:(y.sign=1/\0<y)\/(y.sign=0/\y=0)\/(y.sign = -1/\y<0):=by
    rcases vl y 0 with h|h|h
    ·exact .inr (.inr ⟨nT h,h⟩)
    ·exact .inr (.inl ⟨by rw[h];rfl,h⟩)
    ·exact .inl ⟨ht h,h⟩
   have lI:=ahM x.natAbs y.natAbs ⟨by omega,by omega⟩
   simp only[cb] at lI
   have hlen:(aL (x.natAbs+y.natAbs)).length<=1000000:=by
    refine eP ((g3 (k:=61)).2 ?_) (by omega);have:(1048576^61:Nat)=dP*1048576:=by unfold dP;rw[<-wF]
    omega
   have fc:=YM x.natAbs y.natAbs ⟨by omega,by omega⟩
   simp only[cb] at fc
   by_cases aC:x.sign*y.sign>=0
   ·have qA:bits .or .i64 x.sign y.sign=x3 [x.sign,y.sign]:=by
     rcases pX with ⟨e,_⟩|⟨e,_⟩|⟨e,_⟩<;>rcases ty with ⟨e',_⟩|⟨e',_⟩|⟨e',_⟩<;>rw[e,e'] at aC ⊢<;>first|rfl|exact absurd aC (by decide)
    have Q:jM (x3 [x.sign,y.sign]) (aL (x.natAbs+y.natAbs))=bd (x+y):=by
     refine ox ?_ ?_
     ·rcases pX with ⟨e,_⟩|⟨e,_⟩|⟨e,_⟩<;>rcases ty with ⟨e',_⟩|⟨e',_⟩|⟨e',_⟩<;>rw[e,e'] at aC<;>omega
     ·intro aM;rcases pX with ⟨e,_⟩|⟨e,_⟩|⟨e,_⟩<;>rcases ty with ⟨e',_⟩|⟨e',_⟩|⟨e',_⟩<;>rw[e,e'] at aC ⊢
      ·exact (ht (by omega)).symm
      ·exact (ht (by omega)).symm
      ·omega
      ·exact (ht (by omega)).symm
      ·omega
      ·exact (nT (by omega)).symm
      ·omega
      ·exact (nT (by omega)).symm
      ·exact (nT (by omega)).symm
    rcases au:(x.sign==0)
    ·rcases c2:(y.sign==0)
     ·have c3:(x.sign==y.sign)=true:=by
       rw[beq_eq_false_iff_ne] at au c2;rw[beq_iff_eq];rcases pX with ⟨e,_⟩|⟨e,_⟩|⟨e,_⟩<;>rcases ty with ⟨e',_⟩|⟨e',_⟩|⟨e',_⟩<;>rw[e,e'] at aC ⊢<;>omega
      simp only[go_sem,go_sem_proc,eE,lO,gF,hH,fp,qF,X,aZ,bt,bz,au,c2,c3,qA,lI,hlen,Q,pV,bU,dD,jQ];repeat' (first|refine al ?_ ?_|fail)<;>intro h<;>simp only[h,go_sem,go_sem_proc,eE,lO,gF,hH,fp,qF,X,aZ,bt,bz,au,c2,c3,qA,lI,hlen,Q,pV,bU,dD,jQ]
     ·simp only[go_sem,go_sem_proc,eE,lO,gF,hH,fp,qF,X,aZ,bt,bz,au,c2,qA,lI,hlen,Q,pV,bU,dD,jQ];repeat' (first|refine al ?_ ?_|fail)<;>intro h<;>simp only[h,go_sem,go_sem_proc,eE,lO,gF,hH,fp,qF,X,aZ,bt,bz,au,c2,qA,lI,hlen,Q,pV,bU,dD,jQ]
    ·simp only[go_sem,go_sem_proc,eE,lO,gF,hH,fp,qF,X,aZ,bt,bz,au,qA,lI,hlen,Q,pV,bU,dD,jQ];repeat' (first|refine al ?_ ?_|fail)<;>intro h<;>simp only[h,go_sem,go_sem_proc,eE,lO,gF,hH,fp,qF,X,aZ,bt,bz,au,qA,lI,hlen,Q,pV,bU,dD,jQ]
   ·have au:(x.sign==0)=false:=by
     rw[beq_eq_false_iff_ne];rcases pX with ⟨e,_⟩|⟨e,_⟩|⟨e,_⟩<;>rw[e] at aC ⊢<;>omega
    have c2:(y.sign==0)=false:=by
     rw[beq_eq_false_iff_ne];rcases ty with ⟨e,_⟩|⟨e,_⟩|⟨e,_⟩<;>rw[e] at aC ⊢<;>omega
    have c3:(x.sign==y.sign)=false:=by
     rw[beq_eq_false_iff_ne];rcases pX with ⟨e,_⟩|⟨e,_⟩|⟨e,_⟩<;>rcases ty with ⟨e',_⟩|⟨e',_⟩|⟨e',_⟩<;>rw[e,e'] at aC ⊢<;>omega
    by_cases av:x.natAbs<y.natAbs
    ·have oA:decide (x.natAbs<y.natAbs)=true:=jw av;have jP:=Q0 y.natAbs x.natAbs ⟨by omega,by omega⟩
     simp only[cb] at jP;have yh:(aL (y.natAbs-x.natAbs)).length<=1000000:=eP (It _ _) (by omega)
     have Q:jM y.sign (aL (y.natAbs-x.natAbs))=bd (x+y):=by
      refine ox ?_ ?_
      ·rcases pX with ⟨e,_⟩|⟨e,_⟩|⟨e,_⟩<;>rcases ty with ⟨e',_⟩|⟨e',_⟩|⟨e',_⟩<;>rw[e,e'] at aC<;>omega
      ·intro aM;rcases pX with ⟨e,_⟩|⟨e,_⟩|⟨e,_⟩<;>rcases ty with ⟨e',_⟩|⟨e',_⟩|⟨e',_⟩<;>rw[e,e'] at aC<;>rw[e']<;>first|omega|exact (ht (by omega)).symm|exact (nT (by omega)).symm
     simp only[go_sem,go_sem_proc,eE,lO,gF,hH,fp,qF,X,aZ,bt,bz,au,c2,c3,fc,oA,jP,yh,Q,pV,bU,dD,jQ];repeat' (first|refine al ?_ ?_|fail)<;>intro h<;>simp only[h,go_sem,go_sem_proc,eE,lO,gF,hH,fp,qF,X,aZ,bt,bz,au,c2,c3,fc,oA,jP,yh,Q,pV,bU,dD,jQ]
    ·have oA:decide (x.natAbs<y.natAbs)=false:=kY av;have jP:=Q0 x.natAbs y.natAbs ⟨by omega,by omega⟩
     simp only[cb] at jP;have yh:(aL (x.natAbs-y.natAbs)).length<=1000000:=eP (It _ _) (by omega)
     have Q:jM x.sign (aL (x.natAbs-y.natAbs))=bd (x+y):=by
      refine ox ?_ ?_
      ·rcases pX with ⟨e,_⟩|⟨e,_⟩|⟨e,_⟩<;>rcases ty with ⟨e',_⟩|⟨e',_⟩|⟨e',_⟩<;>rw[e,e'] at aC<;>omega
      ·intro aM;rcases pX with ⟨e,_⟩|⟨e,_⟩|⟨e,_⟩<;>rcases ty with ⟨e',_⟩|⟨e',_⟩|⟨e',_⟩<;>rw[e,e'] at aC<;>rw[e]<;>first|omega|exact (ht (by omega)).symm|exact (nT (by omega)).symm
     simp only[go_sem,go_sem_proc,eE,lO,gF,hH,fp,qF,X,aZ,bt,bz,au,c2,c3,fc,oA,jP,yh,Q,pV,bU,dD,jQ];repeat' (first|refine al ?_ ?_|fail)<;>intro h<;>simp only[h,go_sem,go_sem_proc,eE,lO,gF,hH,fp,qF,X,aZ,bt,bz,au,c2,c3,fc,oA,jP,yh,Q,pV,bU,dD,jQ]
  ·have aZ:di (s2,aa)=false:=by simpa using aZ
   have hm:lG (s,l) (s2,aa)=((0,[]),1):=by unfold lG;rw[aZ,jB];rfl
   rw[hm];simp only[go_sem,go_sem_proc,eE,lO,gF,hH,fp,qF,X,aZ,bt,bz,bU,dD,b6];repeat' (first|refine al ?_ ?_|fail)<;>intro h<;>simp only[h,go_sem,go_sem_proc,eE,lO,gF,hH,fp,qF,X,aZ,bt,bz,bU,dD,b6]
 ·have X:di (s,l)=false:=by simpa using X
  have hm:lG (s,l) (s2,aa)=((0,[]),1):=by unfold lG;rw[X,fr];rfl
  rw[hm];simp only[go_sem,go_sem_proc,eE,lO,gF,hH,fp,qF,X,bt,bz,bU,dD,b6];repeat' (first|refine al ?_ ?_|fail)<;>intro h<;>simp only[h,go_sem,go_sem_proc,eE,lO,gF,hH,fp,qF,X,bt,bz,bU,dD,b6]
theorem auI (b:Raw):(hG b).2.length<=60:=by
 unfold hG
 split
 ·rename_i h;obtain⟨z,a2,e⟩:=(ib _).1 h;rw[e,fe];exact g3.2 (by rw[yj];exact a2)
 ·exact fA _
def w5 (a b:Raw):Raw×Int:=if di b=true then lG a (hG b) else ((0,[]),1)
theorem YX {z:Int}(h:z.natAbs<dP):hG (bd z)=bd (-z):=by unfold hG;rw[ad (lb h),fe]
theorem auJ {x y:Int}(M:x.natAbs<dP)(ao:y.natAbs<dP):w5 (bd x) (bd y)=pU (x-y):=by
 unfold w5;rw[ad (lb ao),YX ao,Mc M (by rw[yj];exact ao)]
 rfl
def YY:=cy rf λ(s,l,s2,aa)=>cT (D l<=1000000/\D aa<=1000000) (.same (dD (w5 (s,l) (s2,aa))))
@[go_sem] theorem aJL (s:Int)(l:List Int)(s2:Int)(aa:List Int)(H:(D l)<=1000000/\D aa<=1000000):YY [.agg [.int .i64 s,.Y (l.map ae)],.agg [.int .i64 s2,.Y (aa.map ae)]]=some (.same (dD (w5 (s,l) (s2,aa)))):=(cF s4 (s,l,s2,aa)).trans (cY H _)
theorem auK (T:bm)(eE:T md=aO yr)(Dm:T HR=aO Q4)(ahZ:T VR=aO YW)(s:Int)(l:List Int)(s2:Int)(aa:List Int)(H:(D l)<=1000000/\D aa<=1000000):WP T YF (.same (dD (w5 (s,l) (s2,aa)))) [.I (.agg [.int .i64 s,.Y (l.map ae)]),.I (.agg [.int .i64 s2,.Y (aa.map ae)])]:=by
 refine cH ?_;simp only[YF];obtain⟨bt,bz⟩:=H;unfold w5
 by_cases aZ:di (s2,aa)=true
 ·rw[ad aZ];have pN:=auI (s2,aa);rcases aM:hG (s2,aa) with ⟨bY,bo⟩;rw[aM] at pN;dsimp only at pN;have auL:(D bo)<=1000000:=by omega
  refine a1 ?_;repeat' (intro h<;>simp only[h,go_sem,go_sem_proc,eE,Dm,ahZ,aZ,bt,bz,aM,auL,bU,dD]<;>try refine al ?_ ?_)
 ·have aZ:di (s2,aa)=false:=by simpa using aZ
  refine a1 ?_;repeat' (intro h<;>simp only[h,go_sem,go_sem_proc,eE,Dm,ahZ,aZ,bz,bU,dD,b6]<;>try refine al ?_ ?_)
def Q9:=cy rf λ(s,l,s2,aa)=>cT (D l<=1000000/\D aa<=1000000) (.same (gK (lK (s,l) (s2,aa))))
@[go_sem] theorem aJM (s:Int)(l:List Int)(s2:Int)(aa:List Int)(H:(D l)<=1000000/\D aa<=1000000):Q9 [.agg [.int .i64 s,.Y (l.map ae)],.agg [.int .i64 s2,.Y (aa.map ae)]]=some (.same (gK (lK (s,l) (s2,aa)))):=(cF s4 (s,l,s2,aa)).trans (cY H _)
theorem auM (T:bm)(eE:T md=aO yr)(ph:T LA=aO Q1)(lO:T LB=aO QZ)(hH:T CQ=aO My)(fp:T qx=aO Dl)(s:Int)(l:List Int)(s2:Int)(aa:List Int)(H:(D l)<=1000000/\D aa<=1000000):WP T Yw (.same (gK (lK (s,l) (s2,aa)))) [.I (.agg [.int .i64 s,.Y (l.map ae)]),.I (.agg [.int .i64 s2,.Y (aa.map ae)])]:=by
 refine cH ?_;simp only[Yw];obtain⟨bt,bz⟩:=H
 by_cases X:di (s,l)=true
 ·by_cases aZ:di (s2,aa)=true
  ·obtain⟨x,M,e⟩:=(ib _).1 X;obtain⟨y,ao,aA⟩:=(ib _).1 aZ
   by_cases jO:y=0
   ·have hm:lK (s,l) (s2,aa)=((0,[]),(0,[]),15):=by
     rw[e,aA];unfold lK
     rw[lb M,lb ao,fe,fe,ad (by rfl),ad jO]
    rw[hm]
    cases e
    cases aA;have aj:((y.sign:Int)==0)=true:=by rw[jO];rfl
    simp only[go_sem,go_sem_proc,eE,ph,lO,hH,fp,X,aZ,bt,bz,aj,bU,gK,b6];repeat' (first|refine al ?_ ?_|fail)<;>intro h<;>simp only[h,go_sem,go_sem_proc,eE,ph,lO,hH,fp,X,aZ,bt,bz,aj,bU,gK,b6]
   ·have hm:lK (s,l) (s2,aa)=(bd (x.fdiv y),bd (x.fmod y),0):=by
     rw[e,aA];exact Br M ao jO
    rw[hm];clear hm
    cases e
    cases aA;have lH:=oy M;have k7:=oy ao;have vp:(y.sign==0)=false:=by rw[beq_eq_false_iff_ne,Ne,Int.sign_eq_zero_iff_zero];exact jO
    have Fo:0<y.natAbs:=by omega
    have G:=oz x;have J:=oz y;have aC:x.sign*y.sign=(x*y).sign:=(pa x y).symm;have af:=oz (x*y);have hw:IntKind.i64.wrap (x.sign*y.sign)=x.sign*y.sign:=by rw[aC];exact wrap64 _ (by omega) (by omega)
    have hdiv:=ahR x.natAbs y.natAbs ⟨by omega,by omega,Fo⟩
    simp only[cb] at hdiv;have bF:=Ix (y:=y) M jO;have r9:=ahd (x:=x) ao jO;have XD:x.natAbs/y.natAbs<dP:=vg (Nat.div_le_self _ _) M;have atf:(aL (x.natAbs/y.natAbs)).length<=60:=g3.2 XD;have zJ:x.natAbs%y.natAbs<dP:=Nat.lt_trans (pS _ Fo) ao;have atg:(aL (x.natAbs%y.natAbs)).length<=60:=g3.2 zJ
    by_cases vq:x.sign*y.sign<0/\x.natAbs%y.natAbs≠0
    ·obtain⟨eq,vr⟩:=Qy vq.1 vq.2
     have b5:(((aL (x.natAbs%y.natAbs)).length:Int)==0)=false:=by
      have:aL (x.natAbs%y.natAbs)≠[]:=by rw[Ne,A8];exact vq.2
      have:=Me.2 this;rw[beq_eq_false_iff_ne];omega
     have lD:decide (x.sign*y.sign>=0)=false:=kY (by have:=vq.1;omega);have k8:aL 1=[1]:=by simp[aL,zu]
     have ath:(aL 1).length=1:=by rw[k8];rfl
     have lI:=ahM (x.natAbs/y.natAbs) 1 ⟨by omega,by omega⟩
     simp only[cb,k8,eI,b6,ae] at lI;have jP:=Q0 y.natAbs (x.natAbs%y.natAbs) ⟨by omega,by omega,XI (pS _ Fo)⟩
     simp only[cb] at jP
     have mb:(aL (x.natAbs/y.natAbs+1)).length<=1000000:=by
      have:(x.natAbs/y.natAbs+1)<dP:=by rw[eq] at bF;rw[yj,lL] at bF;exact bF
      have:=(g3 (k:=60)).2 this;omega
     have ou:(aL (y.natAbs-x.natAbs%y.natAbs)).length<=1000000:=by have:=It y.natAbs (x.natAbs%y.natAbs);omega
     have hR:jM (-1) (aL (x.natAbs/y.natAbs+1))=bd (x.fdiv y):=ox (by rw[eq,yj,lL]) λ_=>by rw[eq,Fh,ht (show (0:Int)<((x.natAbs/y.natAbs+1:Nat):Int) by exact C9.2 (Nat.succ_pos _))]
     have lM:jM y.sign (aL (y.natAbs-x.natAbs%y.natAbs))=bd (x.fmod y):=by
      refine ox ?_ λaM=>?_
      ·rw[vr];rcases lJ y with ⟨e',af⟩|⟨e',af⟩|⟨e',af⟩<;>rw[e']<;>omega
      ·rw[vr,pa,Bs,ht (show (0:Int)<((y.natAbs-x.natAbs%y.natAbs:Nat):Int) by omega),sY]
     simp only[go_sem,go_sem_proc,eE,ph,lO,hH,fp,X,aZ,bt,bz,vp,hw,hdiv,b5,lD,lI,jP,mb,ou,hR,lM,ae,ah,bU,gK,jQ];repeat' (first|refine al ?_ ?_|fail)<;>intro h<;>simp only[h,go_sem,go_sem_proc,eE,ph,lO,hH,fp,X,aZ,bt,bz,vp,hw,hdiv,b5,lD,lI,jP,mb,ou,hR,lM,ae,ah,bU,gK,jQ]
    ·obtain⟨eq,vr⟩:=Qz jO vq
     have XE:(decide (x.sign*y.sign>=0)=false/\(((aL (x.natAbs%y.natAbs)).length:Int)==0)=true)\/decide (x.sign*y.sign>=0)=true:=by
      by_cases aM:x.sign*y.sign<0
      ·left
       have:x.natAbs%y.natAbs=0:=Decidable.not_not.1 λh=>vq ⟨aM,h⟩;rw[this];exact⟨cu,rfl⟩
      ·right;exact c5
     have mb:(aL (x.natAbs/y.natAbs)).length<=1000000:=by omega
     have ou:(aL (x.natAbs%y.natAbs)).length<=1000000:=by omega
     have hR:jM (x.sign*y.sign) (aL (x.natAbs/y.natAbs))=bd (x.fdiv y):=by
      refine ox ?_ λaM=>?_
      ·rw[eq]
       have Fp:∀aU:Nat,(x=0->aU=0)->(x.sign*y.sign*(aU:Int)).natAbs=aU:=by
        intro aU aj;rcases lJ x with ⟨e,G⟩|⟨e,G⟩|⟨e,G⟩<;>rcases lJ y with ⟨e',af⟩|⟨e',af⟩|⟨e',af⟩<;>rw[e,e']<;>first|omega|(rw[aj G];rfl)
       exact Fp _ λaj=>by rw[aj];exact ahJ _
      ·rw[eq,aC,pa,pa,pa,Bs,Bs,ht (show (0:Int)<((x.natAbs/y.natAbs:Nat):Int) from C9.2 (HM aM)),sY]
     have lM:jM x.sign (aL (x.natAbs%y.natAbs))=bd (x.fmod y):=by
      refine ox ?_ λaM=>?_
      ·rw[vr]
       have Fp:∀aU:Nat,(x=0->aU=0)->(x.sign*(aU:Int)).natAbs=aU:=by
        intro aU aj;rcases lJ x with ⟨e,G⟩|⟨e,G⟩|⟨e,G⟩<;>rw[e]<;>first|omega|(rw[aj G];rfl)
       exact Fp _ λaj=>by rw[aj];exact Nat.zero_mod _
      ·rw[vr,pa,Bs,ht (show (0:Int)<((x.natAbs%y.natAbs:Nat):Int) from C9.2 (HM aM)),sY]
     rcases XE with ⟨yk,Mg⟩|yk
     ·simp only[go_sem,go_sem_proc,eE,ph,lO,hH,fp,X,aZ,bt,bz,vp,hw,hdiv,yk,Mg,mb,ou,hR,lM,ae,ah,bU,gK,jQ];repeat' (first|refine al ?_ ?_|fail)<;>intro h<;>simp only[h,go_sem,go_sem_proc,eE,ph,lO,hH,fp,X,aZ,bt,bz,vp,hw,hdiv,yk,Mg,mb,ou,hR,lM,ae,ah,bU,gK,jQ]
     ·simp only[go_sem,go_sem_proc,eE,ph,lO,hH,fp,X,aZ,bt,bz,vp,hw,hdiv,yk,mb,ou,hR,lM,ae,ah,bU,gK,jQ];repeat' (first|refine al ?_ ?_|fail)<;>intro h<;>simp only[h,go_sem,go_sem_proc,eE,ph,lO,hH,fp,X,aZ,bt,bz,vp,hw,hdiv,yk,mb,ou,hR,lM,ae,ah,bU,gK,jQ]
  ·have aZ:di (s2,aa)=false:=by simpa using aZ
   have hm:lK (s,l) (s2,aa)=((0,[]),(0,[]),1):=by unfold lK;rw[aZ,jB];rfl
   rw[hm];simp only[go_sem,go_sem_proc,eE,ph,lO,hH,fp,X,aZ,bt,bz,bU,gK,b6];repeat' (first|refine al ?_ ?_|fail)<;>intro h<;>simp only[h,go_sem,go_sem_proc,eE,ph,lO,hH,fp,X,aZ,bt,bz,bU,gK,b6]
 ·have X:di (s,l)=false:=by simpa using X
  have hm:lK (s,l) (s2,aa)=((0,[]),(0,[]),1):=by unfold lK;rw[X,fr];rfl
  rw[hm];simp only[go_sem,go_sem_proc,eE,ph,lO,hH,fp,X,bt,bz,bU,gK,b6];repeat' (first|refine al ?_ ?_|fail)<;>intro h<;>simp only[h,go_sem,go_sem_proc,eE,ph,lO,hH,fp,X,bt,bz,bU,gK,b6]
def YZ:b1:=cq 17 2 [.t 4] (O [dB 2 120002 0,dB 3 120003 1,dd 4 false] (O [aI 5 0 2,aY 6 2 5,aI 7 0 3,aY 8 2 7,(b2 9 PK 6 8),F 10 9,⟨some 11,some (10,true),.dQ 2 (.t 2)⟩,⟨some 12,some (10,true),.load 2 true (.t 11)⟩,⟨some 13,some (10,true),.dQ 2 (.t 3)⟩,⟨some 14,some (10,true),.load 2 true (.t 13)⟩,⟨some 15,some (10,true),.call PK [(.t 12),(.t 14)]⟩,hF 16 10 15,F 4 16] .ret))
def Y0:b1:=cq 13 2 [.cell 4 4 true,.t 5] (O [(ar 4 (.alloc 124004 [(Z 0),.nil,(Z 0),.nil])),ba 5 0] (O [F 6 0,(dT 7 HO 6),F 8 1,(dT 9 HO 8),(b2 10 Lu 7 9),a6 11 0 10,a6 12 1 10,aT 4 4 11,F 5 12] .ret))
def Y1:b1:=cq 38 2 [.t 4] (O [dB 2 142002 0,dB 3 142003 1,dd 4 false] (.seq (O [aI 6 0 2,aG 7 1 6,aI 8 0 3,aG 9 1 8,bA 10 .neq 7 9,F 11 10,⟨some 12,some (11,false),.dQ 1 (.t 2)⟩,⟨some 13,some (11,false),.load 1 false (.t 12)⟩,⟨some 14,some (11,false),.len (.t 13)⟩,⟨some 15,some (11,false),.dQ 1 (.t 3)⟩,⟨some 16,some (11,false),.load 1 false (.t 15)⟩,⟨some 17,some (11,false),.len (.t 16)⟩,⟨some 18,some (11,false),.bin .neq (.t 14) (.t 17)⟩,c6 19 11 18] (aQ 19 (O [dd 4 false] .ret) .skip)) (.seq (O [ba 5 0] (.block 0 (.loop  (.seq (O [F 20 5,aI 21 1 2,aG 22 1 21,cC 23 22,bA 24 .lss 20 23] (aQ 24 .skip (.exit 0))) (.seq (.block 1 (eT [aI 27 1 2,aG 28 1 27,F 29 5,bI 30 1 28 29,aG 31 1 30,aI 32 1 3,aG 33 1 32,F 34 5,bI 35 1 33 34,aG 36 1 35,bA 37 .neq 31 36] HY (aQ 37 (O [dd 4 false] .ret) .skip))) (.ops [F 25 5,a7 26 .add 25 1,F 5 26])))))) (O [dd 4 true] .ret))))
def Y2:b1:=cq 57 2 [.cell 4 4 true,.t 5] (O [dB 2 143002 0,dB 3 143003 1,(ar 4 (.alloc 143004 [(Z 0),.nil,(Z 0),.nil])),ba 5 0] (.seq (O [aY 14 2 2,(dT 15 md 14),fu 16 15,F 17 16,⟨some 18,some (17,false),.load 2 true (.t 3)⟩,⟨some 19,some (17,false),.call md [(.t 18)]⟩,⟨some 20,some (17,false),.un .not (.t 19)⟩,c6 21 17 20] (aQ 21 (O [(ar 22 (.build [(Z 0),.nil,(Z 0),.nil] [])),aT 4 4 22,ba 5 1] .ret) .skip)) (.seq (O [aI 23 0 3,aG 24 1 23,a7 25 .eql 24 0] (aQ 25 (O [(ar 26 (.build [(Z 0),.nil,(Z 0),.nil] [])),aT 4 4 26,ba 5 15] .ret) .skip)) (.seq (O [aI 27 0 3,aG 28 1 27,a7 29 .lss 28 0] (aQ 29 (O [aY 30 2 2,(dT 31 HR 30),aT 2 2 31] (.ops [aY 32 2 3,(dT 33 HR 32),aT 2 3 33])) .skip)) (O [aY 35 2 2,aY 36 2 3,(b2 37 Lx 35 36),F 34 37,a6 38 0 34,a6 39 1 34,(ar 6 (.alloc 143006 [(Z 0),.nil])),aT 2 6 38,F 7 39] (O [aY 41 2 2,aY 42 2 6,(b2 43 ET 41 42),F 40 43,a6 44 0 40,a6 45 1 40,a6 46 2 40,(ar 8 (.alloc 143008 [(Z 0),.nil])),(ar 9 (.alloc 143009 [(Z 0),.nil])),aT 2 8 44,aT 2 9 45,F 10 46] (O [aY 48 2 3,aY 49 2 6,(b2 50 ET 48 49),F 47 50,a6 51 0 47,a6 52 1 47,a6 53 2 47,(ar 11 (.alloc 143011 [(Z 0),.nil])),(ar 12 (.alloc 143012 [(Z 0),.nil])),aT 2 11 51,aT 2 12 52,F 13 53] (O [aY 54 2 8,aY 55 2 11,(ar 56 (.build [(Z 0),.nil,(Z 0),.nil] [(0,2,(.t 54)),(2,2,(.t 55))])),aT 4 4 56,ba 5 0] .ret))))))))
def Y3:b1:=cq 72 2 [.cell 4 4 true,.t 5] (O [dB 2 195002 0,dB 3 195003 1,(ar 4 (.alloc 195004 [(Z 0),.nil,(Z 0),.nil])),ba 5 0] (.seq (O [aY 14 4 2,(dT 15 qy 14),fu 16 15,F 17 16,⟨some 18,some (17,false),.load 4 true (.t 3)⟩,⟨some 19,some (17,false),.call qy [(.t 18)]⟩,⟨some 20,some (17,false),.un .not (.t 19)⟩,c6 21 17 20] (aQ 21 (O [(ar 22 (.build [(Z 0),.nil,(Z 0),.nil] [])),aT 4 4 22,ba 5 1] .ret) .skip)) (O [aI 24 0 2,aY 25 2 24,aI 26 2 3,aY 27 2 26,(b2 28 x1 25 27),F 23 28,a6 29 0 23,a6 30 1 23,(ar 6 (.alloc 195006 [(Z 0),.nil])),aT 2 6 29,F 7 30] (O [aI 32 0 3,aY 33 2 32,aI 34 2 2,aY 35 2 34,(b2 36 x1 33 35),F 31 36,a6 37 0 31,a6 38 1 31,(ar 8 (.alloc 195008 [(Z 0),.nil])),aT 2 8 37,F 9 38] (O [aI 40 2 2,aY 41 2 40,aI 42 2 3,aY 43 2 42,(b2 44 x1 41 43),F 39 44,a6 45 0 39,a6 46 1 39,(ar 10 (.alloc 195010 [(Z 0),.nil])),aT 2 10 45,F 11 46] (O [aY 48 2 6,aY 49 2 8,(b2 50 VQ 48 49),F 47 50,a6 51 0 47,a6 52 1 47,(ar 12 (.alloc 195012 [(Z 0),.nil])),aT 2 12 51,F 13 52] (O [aY 53 2 12,aY 54 2 10,F 55 7,a7 56 .neq 55 0,F 57 56,⟨some 58,some (57,false),.b8 (.t 9)⟩,⟨some 59,some (57,false),.bin .neq (.t 58) (.c (Z 0))⟩,c6 60 57 59,F 61 60,⟨some 62,some (61,false),.b8 (.t 11)⟩,⟨some 63,some (61,false),.bin .neq (.t 62) (.c (Z 0))⟩,c6 64 61 63,F 65 64,⟨some 66,some (65,false),.b8 (.t 13)⟩,⟨some 67,some (65,false),.bin .neq (.t 66) (.c (Z 0))⟩,c6 68 65 67,(q9 69 EX 53 54 68),a6 70 0 69,a6 71 1 69,aT 4 4 70,F 5 71] .ret)))))))
def Y4:b1:=cq 33 1 [.t 2] (O [dB 1 196001 0,dd 2 false] (.seq (O [aI 5 0 1,aY 6 2 5,(dT 7 md 6),fu 8 7,F 9 8,⟨some 10,some (9,false),.dQ 2 (.t 1)⟩,⟨some 11,some (9,false),.load 2 true (.t 10)⟩,⟨some 12,some (9,false),.call md [(.t 11)]⟩,⟨some 13,some (9,false),.un .not (.t 12)⟩,c6 14 9 13,F 15 14,⟨some 16,some (15,false),.dQ 2 (.t 1)⟩,⟨some 17,some (15,false),.dQ 0 (.t 16)⟩,⟨some 18,some (15,false),.load 1 false (.t 17)⟩,⟨some 19,some (15,false),.bin .lss (.t 18) (.c (Z 1))⟩,c6 20 15 19] (aQ 20 (O [dd 2 false] .ret) .skip)) (O [aI 22 0 1,aY 23 2 22,aI 24 2 1,aY 25 2 24,(b2 26 Lx 23 25),F 21 26,a6 27 0 21,a6 28 1 21,(ar 3 (.alloc 196003 [(Z 0),.nil])),aT 2 3 27,F 4 28] (eT [aY 29 2 3,(ar 30 (.call HO [(.c (Z 1))])),(b2 31 LC 29 30),a7 32 .eql 31 0,F 2 32] af7 .ret))))
def Y5:b1:=cq 46 2 [.cell 4 4 true,.t 5] (O [dB 2 197002 0,dB 3 197003 1,(ar 4 (.alloc 197004 [(Z 0),.nil,(Z 0),.nil])),ba 5 0] (.seq (O [aY 10 4 2,(dT 11 qy 10),fu 12 11,F 13 12,⟨some 14,some (13,false),.load 4 true (.t 3)⟩,⟨some 15,some (13,false),.call qy [(.t 14)]⟩,⟨some 16,some (13,false),.un .not (.t 15)⟩,c6 17 13 16] (aQ 17 (O [(ar 18 (.build [(Z 0),.nil,(Z 0),.nil] [])),aT 4 4 18,ba 5 1] .ret) .skip)) (O [aI 20 0 2,aY 21 2 20,aI 22 0 3,aY 23 2 22,(b2 24 x1 21 23),F 19 24,a6 25 0 19,a6 26 1 19,(ar 6 (.alloc 197006 [(Z 0),.nil])),aT 2 6 25,F 7 26] (O [aI 28 2 2,aY 29 2 28,aI 30 2 3,aY 31 2 30,(b2 32 x1 29 31),F 27 32,a6 33 0 27,a6 34 1 27,(ar 8 (.alloc 197008 [(Z 0),.nil])),aT 2 8 33,F 9 34] (O [aY 35 2 6,aY 36 2 8,F 37 7,a7 38 .neq 37 0,F 39 38,⟨some 40,some (39,false),.b8 (.t 9)⟩,⟨some 41,some (39,false),.bin .neq (.t 40) (.c (Z 0))⟩,c6 42 39 41,(q9 43 EX 35 36 42),a6 44 0 43,a6 45 1 43,aT 4 4 44,F 5 45] .ret)))))
def Y6:b1:=cq 15 3 [.cell 6 4 true,.t 7] (O [dB 3 204003 0,dB 4 204004 1,(ar 6 (.alloc 204006 [(Z 0),.nil,(Z 0),.nil])),ba 7 0] (.seq (O [F 8 2] (aQ 8 (O [(ar 9 (.build [(Z 0),.nil,(Z 0),.nil] [])),aT 4 6 9,ba 7 6] .ret) .skip)) (O [aY 10 2 3,aY 11 2 4,(b2 12 Lu 10 11),a6 13 0 12,a6 14 1 12,aT 4 6 13,F 7 14] .ret)))
def Y7:b1:=cq 51 2 [.cell 4 4 true,.t 5] (O [dB 2 207002 0,dB 3 207003 1,(ar 4 (.alloc 207004 [(Z 0),.nil,(Z 0),.nil])),ba 5 0] (.seq (O [aY 10 4 2,(dT 11 qy 10),fu 12 11,F 13 12,⟨some 14,some (13,false),.load 4 true (.t 3)⟩,⟨some 15,some (13,false),.call qy [(.t 14)]⟩,⟨some 16,some (13,false),.un .not (.t 15)⟩,c6 17 13 16] (aQ 17 (O [(ar 18 (.build [(Z 0),.nil,(Z 0),.nil] [])),aT 4 4 18,ba 5 1] .ret) .skip)) (.seq (O [aI 19 0 3,aI 20 0 19,aG 21 1 20,a7 22 .eql 21 0] (aQ 22 (O [(ar 23 (.build [(Z 0),.nil,(Z 0),.nil] [])),aT 4 4 23,ba 5 15] .ret) .skip)) (O [aI 25 0 2,aY 26 2 25,aI 27 2 3,aY 28 2 27,(b2 29 x1 26 28),F 24 29,a6 30 0 24,a6 31 1 24,(ar 6 (.alloc 207006 [(Z 0),.nil])),aT 2 6 30,F 7 31] (O [aI 33 2 2,aY 34 2 33,aI 35 0 3,aY 36 2 35,(b2 37 x1 34 36),F 32 37,a6 38 0 32,a6 39 1 32,(ar 8 (.alloc 207008 [(Z 0),.nil])),aT 2 8 38,F 9 39] (O [aY 40 2 6,aY 41 2 8,F 42 7,a7 43 .neq 42 0,F 44 43,⟨some 45,some (44,false),.b8 (.t 9)⟩,⟨some 46,some (44,false),.bin .neq (.t 45) (.c (Z 0))⟩,c6 47 44 46,(q9 48 EX 40 41 47),a6 49 0 48,a6 50 1 48,aT 4 4 49,F 5 50] .ret))))))
def Y8:b1:=cq 22 2 [.t 4] (O [dB 2 270002 0,dB 3 270003 1,ba 4 0] (.seq (O [aY 5 4 2,(dT 6 qy 5),fu 7 6,F 8 7,⟨some 9,some (8,false),.load 4 true (.t 3)⟩,⟨some 10,some (8,false),.call qy [(.t 9)]⟩,⟨some 11,some (8,false),.un .not (.t 10)⟩,c6 12 8 11] (aQ 12 (O [ba 4 0] .ret) .skip)) (O [aI 13 0 2,aY 14 2 13,aI 15 2 2,aY 16 2 15,aI 17 0 3,aY 18 2 17,aI 19 2 3,aY 20 2 19,(CV 21 HX 14 16 18 20),F 4 21] .ret)))
def Ra:b1:=cq 54 4 [.t 8] (O [dB 4 278004 0,dB 5 278005 1,dB 6 278006 2,dB 7 278007 3,ba 8 0] (O [aY 17 2 4,aY 18 2 5,(b2 19 ET 17 18),F 16 19,a6 20 0 16,a6 21 1 16,a6 22 2 16,(ar 9 (.alloc 278009 [(Z 0),.nil])),(ar 10 (.alloc 278010 [(Z 0),.nil])),aT 2 9 20,aT 2 10 21,F 11 22] (O [aY 24 2 6,aY 25 2 7,(b2 26 ET 24 25),F 23 26,a6 27 0 23,a6 28 1 23,a6 29 2 23,(ar 12 (.alloc 278012 [(Z 0),.nil])),(ar 13 (.alloc 278013 [(Z 0),.nil])),aT 2 12 27,aT 2 13 28,F 14 29] (O [aY 30 2 9,aY 31 2 12,(b2 32 LC 30 31),F 15 32] (.seq (O [F 33 15,a7 34 .neq 33 0] (aQ 34 (O [F 35 15,F 8 35] .ret) .skip)) (.seq (O [aI 36 0 10,aG 37 1 36,a7 38 .eql 37 0,F 39 38,⟨some 40,some (39,false),.dQ 0 (.t 13)⟩,⟨some 41,some (39,false),.load 1 false (.t 40)⟩,⟨some 42,some (39,false),.bin .eql (.t 41) (.c (Z 0))⟩,c6 43 39 42] (aQ 43 (O [aI 44 0 10,aG 45 1 44,aI 46 0 13,aG 47 1 46,bA 48 .sub 45 47,F 8 48] .ret) .skip)) (O [aY 49 2 7,aY 50 2 13,aY 51 2 5,aY 52 2 10,(CV 53 HX 49 50 51 52),F 8 53] .ret)))))))
end Go.Mini
