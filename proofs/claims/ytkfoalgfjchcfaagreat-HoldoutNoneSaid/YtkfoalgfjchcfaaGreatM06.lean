/- A part of the proof. -/
import Derived.Test.YtkfoalgfjchcfaaGreatProg
import Derived.KernelRfl
import Derived.Test.YtkfoalgfjchcfaaGreatM05
set_option linter.unusedSimpArgs false
set_option linter.unusedVariables false
set_option maxRecDepth 100000
set_option maxHeartbeats 4000000
noncomputable section
open Bool renaming and_assoc->Pn,and_eq_false_iff->Ky,and_eq_true->e3,and_false->ju,and_true->tD,eq_iff_iff->pK,not_false->dc,not_true->cR,or_eq_true->qn,true_and->iy
open Classical renaming byContradiction->kC
open Decidable renaming em->dX
open Int renaming ediv_nonneg->zY,emod_nonneg->BR,le_trans->ail,mul_le_mul->Ed,mul_le_mul_of_nonneg_left->tM,mul_nonneg->qw,reduceLE->ahY,reduceToNat->ahZ,tdiv_eq_ediv_of_nonneg->yv,tmod_eq_emod_of_nonneg->zZ,toNat_natCast->gZ,toNat_zero->p9
open List renaming all_eq_true->oI,append_assoc->gK,concat_eq_append->DU,drop->hR,drop_append->oc,drop_succ_cons->AW,drop_zero->mv,eq_nil_or_concat->DT,getD_eq_getElem?_getD->ea,getElem?_eq_getElem->bx,getElem?_map->bd,getElem?_set->kz,length->D,length_append->hj,length_cons->kJ,length_eq_zero_iff->A1,length_map->al,length_nil->mu,length_pos_iff->Ac,length_range->q9,length_set->iM,length_singleton->yP,mapM_cons->mn,map_append->k0,map_congr_left->m5,map_cons->eY,map_map->oN,map_nil->cg,mem_append->iw,mem_iff_getElem?->pD,mem_map->fI,mem_map_of_mem->vD,mem_of_getElem?->eU,mem_range->hn,range->dQ,set_cons_zero->qE,take->ho,take_of_length_le->dE,take_zero->nK
open List.cons renaming injEq->bf
open Nat renaming eq_zero_or_pos->iU,le_of_ble_eq_true->zi,le_refl->bM,mul_one->cI,reduceEqDiff->dA,sub_self->kL,zero_le->fr
open Option renaming bind_none->pQ,bind_some->oR,getD_some->DG,map_eq_some_iff->dV,map_some->iW
open Option.some renaming inj->m4,injEq->b8
open Rat renaming add_zero->pa,intCast_mul->pZ,intCast_natCast->nm,intCast_sub->y4
namespace Go.Mini
open Go
theorem avQ {α:Type}(p:α->Bool)(l:List α)(k:Nat)(J:k<D l)(h:∀j (ag:j<k),p (l[j]'(by omega))=false)(H:p l[k]=true):l7 p l=k :=
 I7 (λx O=>by
  obtain⟨j,ag⟩:=pD.1 O;rw[List.getElem?_take] at ag
  by_cases eR:j<k
  ·rw[Z eR,bx (by omega),b8] at ag;rw[<-ag];exact h j eR
  ·rw[aa eR] at ag;cases ag) (bx J) H
theorem ahR {d:Day}{h:Nat->Rat}{i:Nat}:∀k,k<=10->d.iQ h i k<10->(∀j,10-k<=j->j<d.iQ h i k->d.U i (j+1)<=h i)/\h i<d.U i (d.iQ h i k+1)/\10-k<=d.iQ h i k
 |0,_,E=>by rw[Day.iQ] at E;omega
 |k+1,J,E=>by
  rw[Day.iQ] at E ⊢
  by_cases G:h i<d.U i (10-(k+1)+1)
  ·rw[Z G] at E ⊢;exact⟨λj H ab=>by omega,G,bM _⟩
  ·rw[aa G] at E ⊢;obtain⟨cF,dk,dN⟩:=ahR k (by omega) E;refine⟨λj H ab=>?_,dk,by omega⟩
   by_cases ag:j=10-(k+1)
   ·rw[ag];grind
   ·exact cF j (by omega) ab
theorem avR {cash:List Int}{cs:List ar}(Q:fF cash cs)(h:Nat->Rat)(n i:Nat)(L:i<n)(mb:dI (h i))(aJ:(aB cash cs).iQ h i 10<10):l7 (rS (.solve (de n h) i)) (bq 10 λk=>ca cs i (k+1:Nat))=((aB cash cs).iQ h i 10:Int):=by
 obtain⟨E,H,ab⟩:=ahR 10 (bM _) aJ;have kY:=λk:Nat=>Q.upto i k
 have aC:∀k:Nat,rS (.solve (de n h) i) (ca cs i (k+1:Nat))=decide (h i<(aB cash cs).U i (k+1)):=λk=>by
  have X:(de n h).getD i dT=aE (h i):=by rw[ea,uq h L];rfl
  have CP:dz (ca cs i (k+1:Nat)):=qN (by have:=kY (k+1);omega) (by have:=kY (k+1);omega);simp only[rS];rw[X,Tc mb (rM CP),ae8,s0 Q.right]
 refine avQ _ _ _ (by rw[gl];exact aJ) (λj ag=>?_) ?_
 ·have e:=ig (λk=>ca cs i (k+1:Nat)) (show j<10 by omega);rw[bx (by rw[gl];omega),b8] at e;rw[e,aC];exact oE (by have:=E j (by omega) ag;grind)
 ·have e:=ig (λk=>ca cs i (k+1:Nat)) aJ;rw[bx (by rw[gl];omega),b8] at e;rw[e,aC];exact kH H
def cD.wf (a:cD)(f:Nat->Nat):cD:={ a with bc:=bq (D a.cash) λi=>(f i:Int) }
theorem cD.Xo (a:cD)(f:Nat->Nat){i:Nat}(L:i<D a.cash):(a.wf f).fZ i=(a.fZ i).vJ (f i):=by
 have:(bq (D a.cash) λi=>(f i:Int)).getD i 10=(f i:Int):=AZ _ _ L;unfold cD.fZ cD.wf nr.vJ;dsimp only;rw[this]
theorem cD.eM.avS {a:cD}{m:Mem}{f:Nat->Nat}(h:(a.wf f).eM m){i:Nat}(L:i<D a.cash)(r:Nat):(a.wf λj=>if j=i then r else f j).eM (a3 m (228500+i) (a.gs.getD i 0) (ff ((a.fZ i).vJ r))):=by
 refine⟨h.can,gl _ _,h.pl,h.Od,?_,λj ag=>?_⟩
 ·have:=h.row;simp only[a3];rw[aa (show ¬ ((228023:Nat)=228500+i) by omega)];exact this
 ·rw[cD.Xo a _ ag];simp only[a3]
  by_cases jL:j=i
  ·subst jL;rw[Z rfl,Z rfl]
   rfl
  ·rw[aa (show ¬ ((228500+j:Nat)=228500+i) by omega),aa jL];have:=h.di j ag;rw[cD.Xo a _ ag] at this;exact this
theorem cD.O9 (a:cD){p q:Nat->Nat}(h:∀i,i<(D a.cash)->p i=q i):a.wf p=a.wf q:=by
 unfold cD.wf;rw[jR λi L=>by rw[h i L]]
theorem avT {n i:Nat}(f:Nat->Nat)(h:i<n):bB (bq n λi=>(f i:Int)) i=f i:=by
 unfold bB;rw[AZ _ _ h,gZ]
theorem avU {x:nr}(h:x.cT){k g:Nat}{m:Mem}(hm:m k=some (g,ff x))(n:Nat):cZ (n+1) m (.ref k g 1 12 10)=some (.ae (x.us.tail.map af)):=by
 have e:cut (ff x) 12 10=some (x.us.tail.map dv):=by
  unfold cut;rw[Z (by rw[AV h];omega)]
  congr 1
  obtain⟨c,cN,us,f,p⟩:=x;obtain⟨E,H⟩:=h;dsimp only at E H
  cases us with
  |nil=>cases H
  |cons u us =>
   have aq:(D us)=10:=by simpa using H
   unfold ff;dsimp only;rw[AW,oc,List.drop_eq_nil_of_le (by rw[al];omega),al,E,List.nil_append,eY];rw[show 11-10=1 from rfl,List.cons_append,AW,mv,List.take_append_of_le_length (by rw[al];omega),dE (by rw[al];omega)]
   rfl
 have ay:∀l:List Int,(l.map dv).mapM (cZ n m)=some (l.map λz=>Data.int .i64 z):=by
  intro l
  induction l with
  |nil=>rfl
  |cons a l aw =>
   rw[eY,mn,aw];rw[show cZ n m (dv a)=some (.int .i64 a) from Ly n _]
   rfl
 have cV:∀l:List Int,chunk 1 (D l) (l.map λz=>Data.int .i64 z)=l.map af:=by
  intro l
  induction l with
  |nil=>rfl
  |cons a l aw=>simp only[kJ,eY,chunk,List.take_succ_cons,nK,AW,mv,aw];rfl
 have aq:(D x.us.tail)=10:=by rw[List.length_tail,h.us]
 unfold cZ;rw[hm];dsimp only;rw[Z rfl,cI,e];dsimp only;rw[ay];have:=cV x.us.tail;rw[aq] at this;rw[iW,this]
theorem cD.eM.up {a:cD}{m:Mem}(h:a.eM m)(aG:(D a.cash)<=6){k g:Nat}{cs:List M}(J:k/1000≠228):a.eM (a3 m k g cs) :=
 ⟨h.can,h.bc,h.pl,h.Od,by rw[c8 (by omega)];exact h.row,λi L=>by rw[c8 (by omega)];exact h.di i L⟩
theorem avV {α:Type}(n:Nat)(q:Nat->α):(bq (n+1) q).tail=bq n λk=>q (k+1):=by
 unfold bq;rw[List.range_succ_eq_map,eY,List.tail_cons,oN]
 rfl
theorem ahS {m:Mem}{k g:Nat}{d:Data}(hm:m k=some (g,[.I d]))(n:Nat):cZ (n+1) m (.ptr k g 0)=some (.ptr [d]):=by
 unfold cZ;rw[hm];dsimp only;rw[Z ⟨rfl,fr _⟩,mv,mn,Ly]
 rfl
theorem avW (n k g sz o l:Nat):cZ (n+1) emp (.ref k g sz o l)=none:=by
 unfold cZ;rfl
def uF (d:Day)(f:Nat->Nat)(h:Nat->Rat)(i j:Nat):Nat:=if j<i then d.gN f h j else f j
theorem avX (T:bk)(g3:T og=aX ur)(fp:T qt=aX vj)(oB:T BG=aX Gf){K:er->a2->Prop}{kk:List fU}(a:cD)(Q:fF a.cash a.cs)(f:Nat->Nat)(aJ:∀i,i<(D a.cash)->f i<=10)(h:Nat->Rat)(mb:∀i,i<(D a.cash)->dI (h i))(ai:∀i,i<(D a.cash)->0<=h i)(ks:Mem)(v1 v4 qQ:M)(Ku Xp:Nat)(tm:Nat->M)(m:Mem)
  (aA:tm 1=v1) (da:tm 4=v4) (bL:tm 6=.ref 228023 a.g 1 0 (D a.cash)) (b1:tm 7=qQ) (dq:tm 8=.ptr 217008 Ku 0) (fL:tm 10=.ref 217057 Xp 1 0 0) (fm:tm 31=.ref 228023 a.g 1 0 (D a.cash)) (fo:tm 32=.I (.int .i64 (D a.cash))) (jE:tm 33=.I (.int .i64 0))
  (bJ:(a.wf f).eM m) (Ce:ks 217008=some (Ku,[.I (.ae ((de (D a.cash) h).map aK))])) (ik:m 217057=some (Xp,[])) (bK:∀k,k/1000≠228->k≠217011->k≠217057->m k=ks k)
  (dp:∀tm' m' df,tm' 1=v1->tm' 4=v4->tm' 6=.ref 228023 a.g 1 0 (D a.cash)->tm' 7=qQ->tm' 8=.ptr 217008 Ku 0->tm' 10=.ref 217057 df 1 0 (s9 (aB a.cash a.cs) f h (D a.cash)).length->m' 217057=some (df,aY hX (s9 (aB a.cash a.cs) f h (D a.cash)))->(a.wf ((aB a.cash a.cs).gN f h)).eM m'->(∀k,k/1000≠228->k≠217011->k≠217057->m' k=ks k)->b7 T K kk (.exit 2) ⟨tm',m'⟩) :
  wp T (Cf.body.sub [1,1,1,1,0,0,0,0,1,1,1,0,1,0,0]) (b7 T K kk) ⟨tm,m⟩:=by
 simp only[Cf,dY.sub];have aG:=Q.k7;have X:=Q.ok
 refine dG [1,4,6,7,8,31,32] [] (λ((i,g):Nat×Nat) tm m=>i<=D a.cash/\tm 33=.I (.int .i64 i)/\tm 10=.ref 217057 g 1 0 (s9 (aB a.cash a.cs) f h i).length/\m 217057=some (g,aY hX (s9 (aB a.cash a.cs) f h i))/\(a.wf (uF (aB a.cash a.cs) f h i)).eM m/\∀k,k/1000≠228->k≠217011->k≠217057->m k=ks k) (λ(i,_)=>D a.cash-i) (0,Xp) (by
  refine⟨by omega,jE,fL,ik,?_,bK⟩
  rw[a.O9 (q:=f) λj _=>by unfold uF;rw[aa (by omega)]]
  exact bJ) ?_
 intro vs ms aV aS;simp only[go_sem,go_sem_proc,aA,da,bL,b1,dq,fm,fo] at aV aS;subst aV aS;clear aA da bL b1 dq fL fm fo jE bJ ik bK tm m;rintro⟨i,g⟩ tm m J-⟨L,jE,fL,ik,bJ,bK⟩;simp only[go_sem,go_sem_proc,bf] at J;obtain⟨aA,da,bL,b1,dq,fm,fo⟩:=J;rcases dX (i<D a.cash) with ao|cf
 ·have d1:decide ((i:Int)<(D a.cash:Int))=true:=dn;have cl:=gu (i:=i) (by omega);have uw:=aJ i ao;have qO:uF (aB a.cash a.cs) f h i i=f i:=by unfold uF;rw[aa (by omega)]
  have e8:m 228023=some (a.g,bq (D a.cash) λi => .ptr (228500+i) (a.gs.getD i 0) 0):=bJ.row;have eQ:m (228500+i)=some (a.gs.getD i 0,_):=bJ.di i ao;rw[cD.Xo a _ ao,qO] at eQ;have C0:=(bK 217008 (by decide) (by decide) (by decide)).trans Ce;have hN:=uy (ig (λi=>M.ptr (228500+i) (a.gs.getD i 0) 0) ao);have bV:(bq (D a.cash) λi=>M.ptr (228500+i) (a.gs.getD i 0) 0).length=D a.cash:=gl _ _;have cU:((a.fZ i).vJ (f i)).cT:=⟨(a.vK i).cN,(a.vK i).us⟩;have hlen:=AV cU;have la:ho 1 (hR 22 (ff ((a.fZ i).vJ (f i))))=[dv (f i:Int)]:=J0 cU;have rO:=JZ cU (k:=f i) (z:=ca a.cs i (f i:Nat)) (ig _ (by omega));have dZ:_=ff ((a.fZ i).vJ ((aB a.cash a.cs).iQ h i 10)):=asT cU ((aB a.cash a.cs).iQ h i 10:Nat);have eE:i+1<=D a.cash:=by omega
  have aj:f i<11:=by omega
  have bQ:(11+f i+1<=24)=True:=eq_true (by omega);have kY:=Q.upto i (f i);have CP:dz (ca a.cs i (f i:Nat)):=qN (by omega) (by omega);have hw:=AQ _ CP;have oi:=JV (mb i ao) (rM CP);have F6:=s0 Q.right i (f i);have z6:decide (ni (h i) ((ca a.cs i (f i:Nat):Int):Rat)>=0)=decide (((ca a.cs i (f i:Nat):Int):Rat)<=h i):=afa;have C1:=asK (aB a.cash a.cs) f h i;rw[<-F6] at C1;have zc:=uq h ao;have avY:=asL (aB a.cash a.cs) f h i;have dm:=mw xn afO 217057 g 8 (s9 (aB a.cash a.cs) f h i) i (cs:=[.I (.int .i64 i)]) rfl (by omega) (by omega);have Xq:=λ(bY:Mem) (oj:bY (228500+i)=some (a.gs.getD i 0,ff ((a.fZ i).vJ (f i)))) n=>avU cU oj n;have avZ:((a.fZ i).vJ (f i)).us.tail=bq 10 λk=>ca a.cs i (k+1:Nat):=avV 10 _;simp only[avZ] at Xq
  have av0:¬ h i<((ca a.cs i (f i:Nat):Int):Rat)->a.wf (uF (aB a.cash a.cs) f h (i+1))=a.wf (uF (aB a.cash a.cs) f h i):=λaQ=>a.O9 λj _=>by
   unfold uF
   by_cases ag:j=i
   ·subst ag;rw[Z (by omega),aa (by omega)];unfold Day.gN;rw[aa (by rw[<-F6];exact λx=>aQ x.2)]
   ·by_cases tA:j<i
    ·rw[Z tA,Z (by omega)]
    ·rw[aa tA,aa (by omega)]
  have av1:h i<((ca a.cs i (f i:Nat):Int):Rat)->a.wf (uF (aB a.cash a.cs) f h (i+1))=a.wf (λj=>if j=i then (aB a.cash a.cs).iQ h i 10 else uF (aB a.cash a.cs) f h i j):=λaQ=>a.O9 λj _=>by
   unfold uF
   by_cases ag:j=i
   ·subst ag;rw[Z (by omega),Z rfl];unfold Day.gN;rw[Z ⟨ao,by rw[<-F6];exact aQ⟩]
   ·rw[aa ag]
    by_cases tA:j<i
    ·rw[Z tA,Z (by omega)]
    ·rw[aa tA,aa (by omega)]
  have o8:=λ(a5:Mem) (l0:(a.wf (uF (aB a.cash a.cs) f h i)).eM a5)=>l0.avS ao ((aB a.cash a.cs).iQ h i 10)
  have sO:h i<((ca a.cs i (f i:Nat):Int):Rat)->(aB a.cash a.cs).iQ h i 10<10:=λaQ=>by
   rw[F6] at aQ;have:=X.vy i uw;rcases Vh X (h:=h) (i:=i) 10 (bM _) (by rw[kL,Day.U3];exact ai i ao) with ⟨-,e⟩|⟨-,e,-⟩
   ·grind
   ·exact e
  have av2:=λaQ=>avR Q h (D a.cash) i ao (mb i ao) (sO aQ)
  have Fh:=auD (bq 10 λk=>ca a.cs i (k+1:Nat)) (.solve (de (D a.cash) h) i) ⟨by rw[gl];omega,by rw[p2];exact ao,VJ (by omega) mb,λx O=>by
   obtain⟨k,-,rfl⟩:=fI.1 O;have:=Q.upto i (k+1:Nat);exact qN (by omega) (by omega)⟩
  simp only[uC] at Fh;generalize aDG:(bq 10 λk=>ca a.cs i (k+1:Nat))=SL at *;generalize FX:(bq (D a.cash) λi=>M.ptr (228500+i) (a.gs.getD i 0) 0)=vL at *;have av3:(228500+i)/1000=228:=by omega
  generalize ta:228500+i=dJ at *;generalize J9:ff ((a.fZ i).vJ (f i))=DC at *;have Pa:(dJ=217011)=False:=eq_false (by omega);have ahT:(dJ=217057)=False:=eq_false (by omega);have ahU:(217057=dJ)=False:=eq_false (by omega);have aDH:aE (h i)=aE (h i):=rfl;generalize at5:aE (h i)=hk at *;generalize lZ:aE ((ca a.cs i (f i:Nat):Int):Rat)=cA at *;obtain⟨⟨dR,gQ⟩,⟨ox,s8⟩⟩:=cA;obtain⟨⟨c5,dK⟩,⟨fl,fP⟩⟩:=hk;simp only[aK] at hw oi;rcases fE:decide (((ca a.cs i (f i:Nat):Int):Rat)<=h i)
  ·have aQ:h i<((ca a.cs i (f i:Nat):Int):Rat):=by have:=of_decide_eq_false fE;grind
   rw[Z aQ] at C1;rw[<-C1] at dm;rw[av2 aQ] at Fh;simp only[<-av1 aQ] at o8;have bU:(s9 (aB a.cash a.cs) f h (i+1)).length=(s9 (aB a.cash a.cs) f h i).length+1:=by rw[C1,hj];rfl
   have ahV:∀bY:Mem,bY 217008=some (Ku,[.I (.ae ((de (D a.cash) h).map aK))])->cZ 5 bY (.ptr 217008 Ku 0)=some (.ptr [.ae ((de (D a.cash) h).map aK)]):=λbY oj=>ahS oj 4;have ahW:∀(bY:Mem) (g:Nat),bY 217011=some (g,[.I (.int .i64 i)])->cZ 5 bY (.ptr 217011 g 0)=some (.ptr [.int .i64 i]):=λbY g oj=>ahS oj 4;have ahX:=avW 5 dJ (a.gs.getD i 0) 1 12 10;simp only[go_sem,go_sem_proc,g3,fp,oB,aA,da,bL,b1,dq,fL,fm,fo,jE,e8,eQ,C0,ik,hN,bV,hlen,la,rO,dZ,eE,aj,bQ,ao,hw,oi,z6,fE,zc,dm,Xq,Fh,ahV,ahW,ahX,Pa,ahT,ahU,d1,cl,aK,dv,cI,al,bd,pQ,scalar,v3,ahY,ahZ];repeat' (first|refine av ?_ ?_|fail)<;>intro h<;>simp only[h,go_sem,go_sem_proc,g3,fp,oB,aA,da,bL,b1,dq,fL,fm,fo,jE,e8,eQ,C0,ik,hN,bV,hlen,la,rO,dZ,eE,aj,bQ,ao,hw,oi,z6,fE,zc,dm,Xq,Fh,ahV,ahW,ahX,Pa,ahT,ahU,d1,cl,aK,dv,cI,al,bd,pQ,scalar,v3,ahY,ahZ]
   refine⟨(i+1,g+1),by dsimp only;omega,by dsimp only;omega,rfl,by rw[bU],rfl,o8 _ (((bJ.up aG (by decide)).up aG (by decide)).up aG (by decide)),λk E H ab=>?_⟩
   rw[aa (show ¬ k=dJ by intro J;rw[J] at E;exact E av3),aa ab,aa H,aa H];exact bK k E H ab
  ·have aQ:¬ h i<((ca a.cs i (f i:Nat):Int):Rat):=by have:=of_decide_eq_true fE;grind
   rw[aa aQ] at C1;simp only[go_sem,go_sem_proc,g3,fp,aA,da,bL,b1,dq,fL,fm,fo,jE,e8,eQ,C0,hN,bV,hlen,la,rO,eE,aj,bQ,ao,hw,oi,z6,fE,zc,Pa,d1,cl,aK,dv,cI,al,bd];repeat' (first|refine av ?_ ?_|fail)<;>intro h<;>simp only[h,go_sem,go_sem_proc,g3,fp,aA,da,bL,b1,dq,fL,fm,fo,jE,e8,eQ,C0,hN,bV,hlen,la,rO,eE,aj,bQ,ao,hw,oi,z6,fE,zc,Pa,d1,cl,aK,dv,cI,al,bd]
   refine⟨(i+1,g),by dsimp only;omega,by dsimp only;omega,rfl,by rw[C1],by rw[C1];exact ik,?_,λk E H ab=>?_⟩
   ·rw[av0 aQ];exact (bJ.up aG (by decide)).up aG (by decide)
   ·rw[aa H,aa H];exact bK k E H ab
 ·have d1:decide ((i:Int)<(D a.cash:Int))=false:=dr;obtain rfl:i=D a.cash:=by omega
  rw[a.O9 (q:=(aB a.cash a.cs).gN f h) λj ag=>by unfold uF;rw[Z ag]] at bJ
  simp only[go_sem,go_sem_proc,aA,da,bL,b1,dq,fL,fm,fo,jE,d1];repeat' (first|refine av ?_ ?_|fail)<;>intro h<;>simp only[h,go_sem,go_sem_proc,aA,da,bL,b1,dq,fL,fm,fo,jE,d1]
  refine dp _ _ g ?_ ?_ ?_ ?_ ?_ ?_ ik bJ bK<;>simp only[eL,dA,if_false,aA,da,bL,b1,dq,fL]
theorem av4 {n:Nat}{f:Nat->Nat}(h:∀i,n<=i->f i=10):bB (bq n λi=>(f i:Int))=f:=by
 funext i
 by_cases L:i<n
 ·exact avT f L
 ·unfold bB;rw[ea,List.getElem?_eq_none (by rw[gl];omega),h i (by omega)];rfl
theorem av5 {d:Day}{f:Nat->Nat}{h:Nat->Rat}(fH:∀i,d.n<=i->f i=10):∀i,d.n<=i->d.gN f h i=10:=λi L=>by
 unfold Day.gN;rw[aa λx=>by omega,fH i L]
theorem ah0 (d:Day):∀k f,(d.rounds k f).1.length<=k
 |0,f=>bM _
 |k+1,f=>by
  rw[Day.rounds]
  split
  ·exact fr _
  ·have:=ah0 d k (d.gN f (d.top f));simp only[kJ];omega
def tf (l:List Nat):List Data:=[.ae (l.map hX)]
theorem ah1 (l:List Nat):(tf l).length=1:=rfl
theorem av6 (l:List Nat):((tf l).map M.I).all M.one=true:=rfl
def xF (done:List (List Nat))(g:Nat):M:=if done=[] then .nil else .ref 217077 g 1 0 (D done)
structure ah2 (cash:List Int) (cs:List ar) (g:Nat) (gs:Nat->Nat) (f:Nat->Nat) (done:List (List Nat)) (mU:Nat) (m:Mem):Prop where
 at_:∃p,(((xA cash cs g gs).wf f).g4 p).eM m
 out:∃kj,kj=0/\m 217007=some (kj,[.nil,.nil,xF done mU])
 row:done≠[]->m 217077=some (mU,aY tf done)
 no:∀k:Nat,k/1000≠217->k/1000≠228->m k=none
 f10:∀i,D cash<=i->f i=10
 reach:Reach (aB cash (c1 (D cash) cs)) f
 mM:∃r,lL (D cash) f<=r/\(aB cash (c1 (D cash) cs)).mM=done++((aB cash (c1 (D cash) cs)).rounds r f).1/\(aB cash (c1 (D cash) cs)).oA=((aB cash (c1 (D cash) cs)).rounds r f).2
theorem av7 (T:bk)(tg:T LP=xe Kd)(g3:T og=aX ur)(fp:T qt=aX vj)(oB:T BG=aX Gf){K:er->a2->Prop}{kk:List fU}(cash:List Int)(cs:List ar)(pM:fF cash cs)(g:Nat)(gs:Nat->Nat)(v1:M)(tm:Nat->M)(m:Mem)
  (aA:tm 1=v1) (da:tm 4=.ptr 217004 0 0) (bL:tm 6=.ref 228023 g 1 0 (D cash)) (b1:tm 7=.ptr 217007 0 0) (nQ:m 217004=some (0,[.nil,.nil,.nil])) (bJ:ah2 cash cs g gs (λ_=>10) [] 0 m)
  (dp:∀tm' m' mU,tm' 1=v1->tm' 4=.ptr 217004 0 0->tm' 7=.ptr 217007 0 0->m' 217004=some (0,[.nil,.nil,.nil])->m' 217007=some (0,[.I (.ae ((de (D cash) (aB cash (c1 (D cash) cs)).db).map aK)),.nil,xF (aB cash (c1 (D cash) cs)).mM mU])->((aB cash (c1 (D cash) cs)).mM≠[]->m' 217077=some (mU,aY tf (aB cash (c1 (D cash) cs)).mM))->b7 T K kk (.exit 0) ⟨tm',m'⟩) :
  wp T (Cf.body.sub [1,1,1,1,0,0]) (b7 T K kk) ⟨tm,m⟩:=by
 simp only[Cf,dY.sub];have Q:=VZ pM;have aG:=Q.k7;have X:=Q.ok;refine dG [1,4,6,7] [217004] (λ((f,done,mU):(Nat->Nat)×List (List Nat)×Nat) tm m=>ah2 cash cs g gs f done mU m) (λ(f,_)=>lL (D cash) f) (λ_=>10,[],0) (by exact bJ) ?_;intro vs ms aV aS;simp only[go_sem,go_sem_proc,aA,da,bL,b1,nQ] at aV aS;subst aV aS;clear aA da bL b1 nQ bJ tm m;rintro⟨f,done,mU⟩ tm m J nQ bJ;simp only[go_sem,go_sem_proc,bf] at J nQ;obtain⟨aA,da,bL,b1⟩:=J;obtain⟨⟨p,bJ⟩,⟨kj,rfl,ah3⟩,e8,jt,uw,ah4,r,Eg,br,wX⟩:=bJ;dsimp only at *;have tt:=av4 uw;have mo:=ah4;obtain⟨ah5,hinv,-⟩:=ah4
 have fi:=at6 (((xA cash cs g gs).wf f).g4 p) m ⟨bJ,λk J=>jt k (by omega) (by omega),λk J=>jt k (by omega) (by omega),λk J=>jt k (by omega) (by omega),⟨Q,λx O=>by
  obtain⟨i,-,rfl⟩:=fI.1 O;have:=hinv.le i;omega⟩,⟨ah5,by show Inv (aB cash (c1 (D cash) cs)) (bB (bq (D cash) λi=>(f i:Int))) ah5;rw[tt];exact hinv⟩⟩
 have ah6:Kd [.ref 228023 g 1 0 (D cash)] m=some (Oz (((xA cash cs g gs).wf f).g4 p) m):=fi;simp only[go_sem,go_sem_proc,tg,aA,da,bL,b1,ah6];have bI:=Day.Cw (X.hex f mo);have mb:∀i,i<(D cash)->dI ((aB cash (c1 (D cash) cs)).top f i):=λi L=>mc (afH Q mo L) (by omega);have ai:∀i,i<(D cash)->0<=(aB cash (c1 (D cash) cs)).top f i:=λi L=>bI.Vi X L;rintro ah7 mem' ⟨Aj,oM,Lc,ah8⟩
 have av8:ah7=.cq [.I (.ae ((de (D cash) ((aB cash (c1 (D cash) cs)).top f)).map aK)),.I (.bool true)]:=by
  rw[Aj];show M.cq [.I (.ae ((de (D cash) ((aB cash (c1 (D cash) cs)).top (bB (bq (D cash) λi=>(f i:Int))))).map aK)),.I (.bool true)]=_;rw[tt]
 clear Aj fi ah6;subst av8;have fB:∀k:Nat,k/1000≠228->mem' k=m k:=λk J=>ah8 k λi L=>by have:i<D cash:=L;omega
 have lJ:=(fB 217004 (by decide)).trans nQ;have pg:=(fB 217007 (by decide)).trans ah3;have Ob:(aB cash (c1 (D cash) cs)).jP f=s9 (aB cash (c1 (D cash) cs)) f ((aB cash (c1 (D cash) cs)).top f) (D cash):=rfl
 have ah9:(aB cash (c1 (D cash) cs)).jP f=[]->(aB cash (c1 (D cash) cs)).mM=done/\(aB cash (c1 (D cash) cs)).db=(aB cash (c1 (D cash) cs)).top f:=λh=>by
  have:=(aB cash (c1 (D cash) cs)).aqN h r;rw[this,List.append_nil] at br;rw[this] at wX;exact⟨br,by unfold Day.db;rw[wX]⟩
 have tz:(aB cash (c1 (D cash) cs)).jP f≠[]->lL (D cash) ((aB cash (c1 (D cash) cs)).gN f ((aB cash (c1 (D cash) cs)).top f))<lL (D cash) f/\Reach (aB cash (c1 (D cash) cs)) ((aB cash (c1 (D cash) cs)).gN f ((aB cash (c1 (D cash) cs)).top f))/\(∀i,D cash<=i->(aB cash (c1 (D cash) cs)).gN f ((aB cash (c1 (D cash) cs)).top f) i=10)/\∃r,lL (D cash) ((aB cash (c1 (D cash) cs)).gN f ((aB cash (c1 (D cash) cs)).top f))<=r/\(aB cash (c1 (D cash) cs)).mM=(done++[(aB cash (c1 (D cash) cs)).jP f])++((aB cash (c1 (D cash) cs)).rounds r ((aB cash (c1 (D cash) cs)).gN f ((aB cash (c1 (D cash) cs)).top f))).1/\(aB cash (c1 (D cash) cs)).oA=((aB cash (c1 (D cash) cs)).rounds r ((aB cash (c1 (D cash) cs)).gN f ((aB cash (c1 (D cash) cs)).top f))).2:=λbP=>by
  have ao:=Vk X X.hex mo bP;have gU:lL (D cash) ((aB cash (c1 (D cash) cs)).gN f ((aB cash (c1 (D cash) cs)).top f))<lL (D cash) f:=ao;refine⟨gU,mo.next X X.hex,av5 (d:=aB cash (c1 (D cash) cs)) uw,?_⟩
  cases r with
  |zero=>omega
  |succ r =>
   rw[Day.rounds,aa bP] at br wX;exact⟨r,by omega,by rw[br];simp,wX⟩
 generalize oG:aB cash (c1 (D cash) cs)=d at *;generalize qq:(de (D cash) (d.top f)).map aK=V at *;simp only[go_sem,go_sem_proc,aA,da,bL,b1,lJ,pg,cR];subst oG;rw[<-qq];refine avX T g3 fp oB ((xA cash cs g gs).g4 oM) Q f (λi _=>hinv.le i) ((aB cash (c1 (D cash) cs)).top f) mb ai _ v1 (.ptr 217004 0 0) (.ptr 217007 0 0) (gf (mem' 217008)) (gf (mem' 217057)) _ _ ?_ ?_ ?_ ?_ ?_ ?_ ?_ ?_ ?_ (((show ((((xA cash cs g gs).g4 oM).wf f)).eM mem' from Lc).up aG (by decide)).up aG (by decide)|>.up aG (by decide)) ?_ ?_ (λ_ _ _ _=>rfl) ?_
 all_goals first|(intro Ke bY cO cF hH hW ht hr nc xE x0 p5)|(simp only[eL,dA,if_false,if_true,aA,da,bL,b1];done)|(simp only[eL,dA,if_false,if_true];rfl)|(simp only[eL,dA,if_false,if_true,aA,da,bL,b1];rfl)|(simp only[a3,dA,if_false,if_true];done)|(simp only[a3,dA,if_false,if_true];rfl)|skip
 replace nc:Ke 10=.ref 217057 cO 1 0 ((aB cash (c1 (D cash) cs)).jP f).length:=nc;replace xE:bY 217057=some (cO,aY hX ((aB cash (c1 (D cash) cs)).jP f)):=xE;replace hW:Ke 6=.ref 228023 g 1 0 (D cash):=hW;replace x0:(((xA cash cs g gs).g4 oM).wf ((aB cash (c1 (D cash) cs)).gN f ((aB cash (c1 (D cash) cs)).top f))).eM bY:=x0;have Pb:bY 217004=some (0,[.nil,.nil,.nil]):=(p5 217004 (by decide) (by decide) (by decide)).trans (by simp only[a3,dA,if_false];exact lJ);have vU:bY 217007=some (0,[.nil,.nil,xF done mU]):=(p5 217007 (by decide) (by decide) (by decide)).trans (by simp only[a3,dA,if_false];exact pg);have Xr:bY 217008=some (gf (mem' 217008),[.I (.ae V)]):=(p5 217008 (by decide) (by decide) (by decide)).trans (by simp only[a3,dA,if_false,if_true];rw[qq]);have aia:done≠[]->bY 217077=some (mU,aY tf done):=λh=>(p5 217077 (by decide) (by decide) (by decide)).trans (by simp only[a3,dA,if_false];exact (fB 217077 (by decide)).trans (e8 h));have vW:∀(k j:Nat),k/1000≠217->j/1000=217->k≠j:=λk j E H h=>E (h ▸ H)
 have av9:∀k:Nat,k/1000≠217->k/1000≠228->bY k=none:=λk E H=>(p5 k H (vW k _ E (by decide)) (vW k _ E (by decide))).trans (by
  rw[c8 (vW k _ E (by decide)),c8 (vW k _ E (by decide)),c8 (vW k _ E (by decide))];exact (fB k H).trans (jt k E H))
 clear p5 fB Lc ah8 lJ pg ah3 e8 jt nQ aA da bL b1 br wX
 by_cases bP:(aB cash (c1 (D cash) cs)).jP f=[]
 ·obtain⟨E,H⟩:=ah9 bP;rw[bP] at nc;rw[E,H] at dp;have lv:(((0:Nat):Int)==0)=true:=rfl;simp only[go_sem,go_sem_proc,cF,hH,hW,ht,hr,nc,Pb,vU,Xr,lv,mu,qE];refine dp _ _ mU ?_ ?_ ?_ ?_ ?_ λh=>?_
  ·simp only[eL,dA,if_false];exact cF
  ·simp only[eL,dA,if_false];exact hH
  ·simp only[eL,dA,if_false];exact ht
  ·simp only[a3,dA,if_false];exact Pb
  ·simp only[a3,dA,if_true];rw[qq]
  ·simp only[a3,dA,if_false];exact aia h
 ·obtain⟨E,H,ab,aM⟩:=tz bP;have avY:((aB cash (c1 (D cash) cs)).jP f).length<=6:=Nat.le_trans (List.length_filter_le _ _) (by rw[q9];exact aG)
  have lv:((((aB cash (c1 (D cash) cs)).jP f).length:Int)==0)=false:=by
   have:((aB cash (c1 (D cash) cs)).jP f).length≠0:=λh=>bP (A1.1 h);rw[beq_eq_false_iff_ne];omega
  have lM:=λ(K:a2->Prop) (st:a2)=>lV (K:=K) (st:=st) xn 10 217057 cO ((aB cash (c1 (D cash) cs)).jP f);have lS:(1<=maxLen)=True:=eq_true (by decide);generalize PY:(aB cash (c1 (D cash) cs)).jP f=bc at *;clear ah9 tz dp;have aib:∀(a5:Mem),(∀k:Nat,k/1000≠217->a5 k=bY k)->∀k:Nat,k/1000≠217->k/1000≠228->a5 k=none:=λa5 l0 k E H=>(l0 k E).trans (av9 k E H)
  by_cases kS:done=[]
  ·subst kS;have Kv:xF [] mU=.nil:=rfl;rw[Kv] at vU;simp only[go_sem,go_sem_proc,cF,hH,hW,ht,hr,nc,Pb,vU,Xr,xE,lv,lM,lS];refine⟨(_,[bc],gf (bY 217077)),E,⟨⟨oM,((x0.up aG (by decide)).up aG (by decide)).up aG (by decide)⟩,⟨0,rfl,?_⟩,λ_=>?_,?_,ab,H,aM⟩⟩
   ·rw[kl];rfl
   ·rw[c8 (by decide),kl];rfl
   ·exact aib _ λk J=>by rw[c8 (vW k _ J (by decide)),c8 (vW k _ J (by decide)),c8 (vW k _ J (by decide))]
  ·have Kv:xF done mU=.ref 217077 mU 1 0 (D done):=by unfold xF;rw[aa kS]
   rw[Kv] at vU;have Pc:=aia kS
   have Qj:(D done)+1<=60:=by
    obtain⟨Hk,-,bj,-⟩:=aM;have bH:=ah0 (aB cash (c1 (D cash) cs)) (10*(aB cash (c1 (D cash) cs)).n) λ_=>10;have bA:(aB cash (c1 (D cash) cs)).mM.length<=10*D cash:=bH;rw[bj] at bA;simp only[hj,yP] at bA;omega
   have dm:=mw ah1 av6 217077 mU 24 done bc (cs:=[.I (.ae (bc.map hX))]) rfl (by omega) (by omega);simp only[go_sem,go_sem_proc,cF,hH,hW,ht,hr,nc,Pb,vU,Xr,xE,Pc,lv,lM,dm];refine⟨(_,done++[bc],mU+1),E,⟨⟨oM,((x0.up aG (by decide)).up aG (by decide)).up aG (by decide)⟩,⟨0,rfl,?_⟩,λ_=>?_,?_,ab,H,aM⟩⟩
   ·rw[kl];unfold xF;rw[aa (by simp),hj];rfl
   ·rw[c8 (by decide),kl]
   ·exact aib _ λk J=>by rw[c8 (vW k _ J (by decide)),c8 (vW k _ J (by decide)),c8 (vW k _ J (by decide))]
theorem Alike.db {d e:Day}(h:Alike d e):d.db=e.db:=by unfold Day.db Day.oA;rw[h.top,h.rounds,h.n]
theorem Alike.mM {d e:Day}(h:Alike d e):d.mM=e.mM:=by unfold Day.mM;rw[h.rounds,h.n]
structure Xs (cash:List Int) (cs:List ar):Prop where
 n:(D cash)<=1000000
 c:(D cs)<=1000000
 rN:hI cash cs=true->fF cash cs
def n0 (cash:List Int)(cs:List ar):List bS:=cs.map λc=>aE (gk cs ((aB cash cs).db c.1.toNat) c)
def p8 (cash:List Int)(cs:List ar):List bS:=de (D cash) (aB cash cs).db
def A3 (cash:List Int)(cs:List ar):Data:=if hI cash cs=true then .cq [.agg [.ae ((p8 cash cs).map aK),.ae ((n0 cash cs).map aK),.ae ((aB cash cs).mM.map tf)],.int .i64 0] else .cq [.agg [.ae [],.ae [],.ae []],.int .i64 1]
theorem awa {cash:List Int}{cs:List ar}(Q:fF cash cs):A2 cs ((dQ (D cash)).map (aB cash cs).db):=by
 have Y:=(g2.1 Q.right).2.2.2;have aG:=Q.k7;refine⟨Q.vF,by simp;exact aG,λc G=>?_,λx O=>?_⟩
 ·have E:=Y c G;have H:=Q.am c G;rw[al,q9];omega
 ·obtain⟨i,L,rfl⟩:=fI.1 O;have kr:=hn.1 L;exact⟨ae2 Q.ok kr,(Oa Q kr).mono (by omega)⟩
theorem awb {cash:List Int}{cs:List ar}(Q:fF cash cs):(cs.map λc=>aE (gk cs (((dQ (D cash)).map (aB cash cs).db).getD c.1.toNat 0) c))=n0 cash cs:=m5 λc G=>by
 have E:=(g2.1 Q.right).2.2.2 c G;have:((dQ (D cash)).map (aB cash cs).db).getD c.1.toNat 0=(aB cash cs).db c.1.toNat:=AZ (aB cash cs).db 0 (show c.1.toNat<(D cash) by omega);rw[this]
def Gp:=cy Kk λ(cash,cs)=>cW (Xs cash cs) (.same (A3 cash cs))
@[go_sem] theorem Pf (cash:List Int)(cs:List ar)(G:Xs cash cs):Gp [.ae (cash.map af),.ae (cs.map bE)]=some (.same (A3 cash cs)):=(cK W6 (cash,cs)).trans (c6 G _)
theorem awc (T:bk)(xG:T Q6=aX W5)(xH:T Q7=xe WK)(tg:T LP=xe Kd)(g3:T og=aX ur)(fp:T qt=aX vj)(oB:T BG=aX Gf)(xI:T Q8=aX O8)(cash:List Int)(cs:List ar)(G:Xs cash cs):WP T Cf (.same (A3 cash cs)) [.I (.ae (cash.map af)),.I (.ae (cs.map bE))]:=by
 refine cH ?_;simp only[Cf];obtain⟨nF,j5,NS⟩:=G;unfold A3;rcases Y:hI cash cs
 ·rw[aa (by decide)];simp only[go_sem,go_sem_proc,xG,xH,tg,g3,fp,oB,xI,nF,j5,Y,dc];repeat' (first|refine av ?_ ?_|fail)<;>intro h<;>simp only[h,go_sem,go_sem_proc,xG,xH,tg,g3,fp,oB,xI,nF,j5,Y,dc]
 ·rw[Z rfl];have Q:=NS Y;have aG:=Q.k7;have Gq:=aeX Y
  have jt:qM 228 (a3 emp 217004 0 [M.nil,M.nil,M.nil]):=λk J=>by
   rw[c8 (by rintro rfl;omega)];rfl
  have fi:=aur cash cs (a3 emp 217004 0 [M.nil,M.nil,M.nil]) ⟨Q,jt⟩;simp only[go_sem,go_sem_proc,xG,xH,tg,g3,fp,oB,xI,nF,j5,Y,fi,cR];rintro ah7 m ⟨g,gs,rfl,bJ,bK⟩;dsimp only at bJ;have nQ:m 217004=some (0,[.nil,.nil,.nil]):=(bK 217004 (by decide)).trans kl;have kd:m 217007=none:=(bK 217007 (by decide)).trans (c8 (by decide));simp only[go_sem,go_sem_proc,xG,xH,tg,g3,fp,oB,xI,kd];refine av7 T tg g3 fp oB cash cs Q g gs (.I (.ae (cs.map bE))) _ _ ?_ ?_ ?_ ?_ ?_ ⟨⟨λ_=>false,?_⟩,⟨0,rfl,?_⟩,λh=>absurd rfl h,?_,λ_ _=>rfl,Reach.start (VZ Q).ok,⟨10*D cash,?_,rfl,rfl⟩⟩ ?_
  all_goals first|(intro Ke bY mU cF hH ht lJ pg Pc)|(simp only[eL,dA,if_false,if_true];done)|(simp only[eL,dA,if_false,if_true];rfl)|(simp only[a3,dA,if_false,if_true];done)|(simp only[a3,dA,if_false,if_true];rfl)|(simp only[a3,dA,if_false,if_true];exact nQ)|skip
  ·exact bJ.up aG (by decide)
  ·intro k E H;rw[c8 (by rintro rfl;exact E (by decide)),bK k H,c8 (by rintro rfl;exact E (by decide))];rfl
  ·rw[aeZ];exact bM _
  rw[<-Gq.db,<-Gq.mM] at pg;rw[<-Gq.mM] at Pc;have C2:=avL cs ((dQ (D cash)).map (aB cash cs).db) (awa Q);rw[awb Q] at C2;replace C2:O8 [.ae (cs.map bE),.ae ((p8 cash cs).map aK)]=some (.same (.cq [.ae ((n0 cash cs).map aK),.bool true])):=C2;replace pg:bY 217007=some (0,[.I (.ae ((p8 cash cs).map aK)),.nil,xF (aB cash cs).mM mU]):=pg;generalize p8 cash cs=HV at *;generalize n0 cash cs=Ks at *;generalize (aB cash cs).mM=Gr at *;clear Gq fi bJ bK nQ kd
  by_cases sR:Gr=[]
  ·subst sR;replace pg:bY 217007=some (0,[.I (.ae (HV.map aK)),.nil,.nil]):=pg;simp only[go_sem,go_sem_proc,xG,xH,tg,g3,fp,oB,xI];refine WE ?_;rintro a5 rfl;simp only[go_sem,go_sem_proc,xG,xH,tg,g3,fp,oB,xI,cF,hH,ht,lJ,pg,C2,cR,cg];repeat' (first|refine av ?_ ?_|fail)<;>intro h<;>simp only[h,go_sem,go_sem_proc,xG,xH,tg,g3,fp,oB,xI,cF,hH,ht,lJ,pg,C2,cR,cg]
  ·have C0:=Pc sR;have Kv:xF Gr mU=.ref 217077 mU 1 0 (D Gr):=by unfold xF;rw[aa sR]
   rw[Kv] at pg;simp only[go_sem,go_sem_proc,xG,xH,tg,g3,fp,oB,xI];refine WD (qZ.KU 217007 0 _ 2 217077 mU 1 0 (D Gr) _ (.ae (Gr.map tf)) pg rfl C0 (by decide) (pB (n:=0) ah1 C0)) ?_;intro a5 l0;have aic:a5 217007=some (0,[.I (.ae (HV.map aK)),.nil,.I (.ae (Gr.map tf))]):=by rw[l0,kl];rfl
   have aid:a5 217004=some (0,[.nil,.nil,.nil]):=by
    rw[l0,c8 (by decide)];unfold kill;rw[c8 (by decide)];exact lJ
   clear l0;simp only[go_sem,go_sem_proc,xG,xH,tg,g3,fp,oB,xI,cF,hH,ht,aid,aic,C2,cR];repeat' (first|refine av ?_ ?_|fail)<;>intro h<;>simp only[h,go_sem,go_sem_proc,xG,xH,tg,g3,fp,oB,xI,cF,hH,ht,aid,aic,C2,cR]
def fG:ar:=(0,0,0,0)
def mh (au rk:Int)(c:ar):ar:=(c.1,c.2.1,rk,c.2.2.2/1000*au+c.2.2.2%1000*au/1000)
def oC (cs:List ar)(is:List Int)(au:Int)(k:Nat):Bool :=
 (decide (0<=is.getD k 0)&&decide (is.getD k 0<D cs)&&(k==0||decide (is.getD (k-1) 0<is.getD k 0))) &&
 ((cs.getD (is.getD k 0).toNat fG).1==(cs.getD (is.getD 0 0).toNat fG).1&&decide ((mh au 0 (cs.getD (is.getD k 0).toNat fG)).2.2.2<=1000000000000000))
def jm (cash:List Int)(cs:List ar)(is:List Int)(au rk:Int):Bool :=
 hI cash cs&&(!is.isEmpty)&&decide (0<=au)&&decide (au<=10000)&&decide (0<=rk)&&decide (rk<=9)&&(dQ (D is)).all (oC cs is au)
def ew (cs:List ar)(is:List Int)(au rk but:Int):Nat->List ar
 |0=>cs
 |t+1=>if (t:Int)=but then ew cs is au rk but t else (ew cs is au rk but t).set (is.getD t 0).toNat (mh au rk ((ew cs is au rk but t).getD (is.getD t 0).toNat fG))
theorem uG (cs:List ar)(is:List Int)(au rk but:Int)(t:Nat):(ew cs is au rk but t).length=D cs:=by
 induction t with
 |zero=>rfl
 |succ t aw =>
  unfold ew
  split
  ·exact aw
  ·rw[iM,aw]
structure xJ (cash:List Int) (cs:List ar) (is:List Int) (au rk:Int):Prop where
 right:hI cash cs=true
 ne:0<D is
 vX:0<=au/\au<=10000
 gH:0<=rk/\rk<=9
 bG:∀k,k<(D is)->0<=is.getD k 0/\is.getD k 0<D cs
 aie:∀k,0<k->k<(D is)->is.getD (k-1) 0<is.getD k 0
 ax:∀k,k<(D is)->(cs.getD (is.getD k 0).toNat fG).1=(cs.getD (is.getD 0 0).toNat fG).1
 am:∀k,k<(D is)->(mh au 0 (cs.getD (is.getD k 0).toNat fG)).2.2.2<=1000000000000000
theorem Gs {cash:List Int}{cs:List ar}{is:List Int}{au rk:Int}:jm cash cs is au rk=true↔xJ cash cs is au rk:=by
 unfold jm oC;simp only[e3,decide_eq_true_eq,oI,hn,qn,beq_iff_eq,Bool.not_eq_true',List.isEmpty_eq_false_iff]
 constructor
 ·rintro⟨⟨⟨⟨⟨⟨E,H⟩,ab⟩,aM⟩,bj⟩,bH⟩,bA⟩;exact⟨E,Ac.2 H,⟨ab,aM⟩,⟨bj,bH⟩,λk J=>(bA k J).1.1,λk ai J=>by rcases (bA k J).1.2 with h|h;exact absurd h (by omega);exact h,λk J=>(bA k J).2.1,λk J=>(bA k J).2.2⟩
 ·intro h;refine⟨⟨⟨⟨⟨⟨h.right,Ac.1 h.ne⟩,h.vX.1⟩,h.vX.2⟩,h.gH.1⟩,h.gH.2⟩,λk J=>⟨⟨h.bG k J,?_⟩,h.ax k J,h.am k J⟩⟩
  by_cases ai:k=0
  ·exact .inl ai
  ·exact .inr (h.aie k (by omega) J)
section
variable {cash:List Int} {cs:List ar} {is:List Int} {au rk:Int} (h:xJ cash cs is au rk)
include h
theorem xJ.lt {j k:Nat}(eR:j<k)(J:k<D is):is.getD j 0<is.getD k 0:=by
 induction k with
 |zero=>omega
 |succ k aw =>
  have E:=h.aie (k+1) (by omega) J;rw[Nat.add_sub_cancel] at E
  by_cases ag:j=k
  ·subst ag;exact E
  ·have:=aw (by omega) (by omega);omega
theorem xJ.inj {j k:Nat}(ag:j<D is)(J:k<D is)(he:is.getD j 0=is.getD k 0):j=k:=by
 rcases Nat.lt_trichotomy j k with E|E|E
 ·have:=h.lt E J;omega
 ·exact E
 ·have:=h.lt E ag;omega
theorem xJ.get {k:Nat}(J:k<D is):cs[(is.getD k 0).toNat]?=some (cs.getD (is.getD k 0).toNat fG):=by
 have:=h.bG k J;rw[ea (l:=cs),bx (by omega:(is.getD k 0).toNat<D cs)];rfl
theorem xJ.mem {k:Nat}(J:k<D is):cs.getD (is.getD k 0).toNat fG∈cs:=eU (h.get J)
open Classical in
theorem Kw (but:Int){t:Nat}(bI:t<=D is)(j:Nat):(ew cs is au rk but t)[j]?=(cs[j]?).map λc=>if ∃k,k<t/\(k:Int)≠but/\(is.getD k 0).toNat=j then mh au rk c else c:=by
 induction t with
 |zero =>
  show cs[j]?=_
  cases O:cs[j]? with
  |none=>rfl
  |some c =>
   rw[iW,aa];rintro⟨k,E,-⟩;omega
 |succ t aw =>
  have aw:=aw (by omega);unfold ew
  by_cases ad:(t:Int)=but
  ·rw[Z ad,aw]
   congr 1
   funext c
   have:(∃k,k<t/\(k:Int)≠but/\(is.getD k 0).toNat=j)↔∃k,k<t+1/\(k:Int)≠but/\(is.getD k 0).toNat=j:=by
    constructor
    ·rintro⟨k,E,H⟩;exact⟨k,by omega,H⟩
    ·rintro⟨k,E,H,ab⟩
     exact⟨k,by
            have:k≠t:=λh=>H (by rw[h];exact ad);omega,H,ab⟩
   simp only[this]
  ·rw[aa ad,kz,uG];have fg:=h.bG t (by omega)
   by_cases ag:(is.getD t 0).toNat=j
   ·rw[Z ag,Z (by omega)]
    have hold:(ew cs is au rk but t)[(is.getD t 0).toNat]?=some (cs.getD (is.getD t 0).toNat fG):=by
     rw[ag,aw,<-ag,h.get (by omega),iW,aa];rintro⟨k,E,-,ab⟩;have aM:=h.bG k (by omega);have bj:=h.lt E (by omega:t<D is);omega
    rw[ea (l:=ew cs is au rk but t),hold,DG,<-ag,h.get (by omega),iW,Z ⟨t,by omega,ad,rfl⟩]
   ·rw[aa ag,aw]
    congr 1
    funext c
    have:(∃k,k<t/\(k:Int)≠but/\(is.getD k 0).toNat=j)↔∃k,k<t+1/\(k:Int)≠but/\(is.getD k 0).toNat=j:=by
     constructor
     ·rintro⟨k,E,H⟩;exact⟨k,by omega,H⟩
     ·rintro⟨k,E,H,ab⟩
      exact⟨k,by
             have:k≠t:=λh=>ag (by rw[<-h];exact ab);omega,H,ab⟩
    simp only[this]
theorem C3 (but:Int){t k:Nat}(bI:t<=D is)(J:k<D is):(ew cs is au rk but t)[(is.getD k 0).toNat]?=some (if k<t/\(k:Int)≠but then mh au rk (cs.getD (is.getD k 0).toNat fG) else cs.getD (is.getD k 0).toNat fG):=by
 rw[Kw h but bI,h.get J,iW]
 congr 1
 by_cases G:k<t/\(k:Int)≠but
 ·rw[Z G,Z ⟨k,G.1,G.2,rfl⟩]
 ·rw[aa G,aa];rintro⟨j,E,H,ab⟩;have aA:=h.bG k J;have ay:=h.bG j (by omega);obtain rfl:=h.inj (by omega) J (by omega:is.getD j 0=is.getD k 0);exact G ⟨E,H⟩
theorem awd {c:ar}(G:0<=c.2.2.2):0<=(mh au rk c).2.2.2:=by
 have E:0<=c.2.2.2/1000*au:=qw (zY G (by decide)) h.vX.1;have H:0<=c.2.2.2%1000*au/1000:=zY (qw (BR _ (by decide)) h.vX.1) (by decide);show 0<=c.2.2.2/1000*au+c.2.2.2%1000*au/1000;omega
theorem Pg (but:Int){t:Nat}(bI:t<=D is):hI cash (ew cs is au rk but t)=true:=by
 have Y:=g2.1 h.right;refine g2.2 ⟨Y.1,by rw[uG];exact Y.2.1,Y.2.2.1,λc G=>?_⟩
 obtain⟨j,ag⟩:=pD.1 G;rw[Kw h but bI] at ag;obtain⟨gx,ai,E⟩:=dV.1 ag;have j5:=Y.2.2.2 gx (eU ai)
 split at E
 ·rename_i O;obtain⟨k,H,ab,aM⟩:=O;have J:=h.get (show k<(D is) by omega);rw[aM,ai] at J;have J:=m4 J;have aZ:=h.am k (by omega);rw[aM,<-J] at aZ;have aG:=awd h (rk:=rk) j5.2.2.2.2.2.2.1;have gH:=h.gH;rw[<-E];exact⟨j5.1,j5.2.1,j5.2.2.1,j5.2.2.2.1,gH.1,(by show rk<10;omega),aG,aZ⟩
 ·rw[<-E];exact j5
theorem awe {l:List ar}(aq:hI cash l=true){j:Nat}{c:ar}(G:l[j]?=some c):hI cash (l.set j (c.1,c.2.1,rk,c.2.2.2))=true:=by
 have Y:=g2.1 aq;refine g2.2 ⟨Y.1,by rw[iM];exact Y.2.1,Y.2.2.1,λx O=>?_⟩
 rcases List.mem_or_eq_of_mem_set O with E|E
 ·exact Y.2.2.2 x E
 ·have H:=Y.2.2.2 c (eU G);have gH:=h.gH;rw[E];exact⟨H.1,H.2.1,H.2.2.1,H.2.2.2.1,gH.1,(by show rk<10;omega),H.2.2.2.2.2.2⟩
end
def uH (cash:List Int)(l:List ar)(j:Nat):Rat:=gk l ((aB cash l).db (l.getD j fG).1.toNat) (l.getD j fG)
theorem Xt {cash:List Int}{l:List ar}{j:Nat}(ag:j<D l):(n0 cash l)[j]?=some (aE (uH cash l j)):=by
 unfold n0 uH;rw[bd,bx ag,iW,ea,bx ag,DG]
theorem Xu {cash:List Int}{l:List ar}(Q:fF cash l){j:Nat}(ag:j<D l):eB 482 (uH cash l j):=by
 have hm:l.getD j fG∈l:=by rw[ea,bx ag,DG];exact List.getElem_mem ag
 have:=afM Q hm;rw[V7 Q.right _ hm] at this;exact this
def mi (cash:List Int)(cs:List ar)(is:List Int)(au rk:Int)(k:Nat):Rat:=uH cash (ew cs is au rk (-1) (D is)) (is.getD k 0).toNat
def vY (cash:List Int)(cs:List ar)(is:List Int)(au rk:Int)(k:Nat):Rat:=uH cash (ew cs is au rk k (D is)) (is.getD k 0).toNat
theorem awf {au:Int}(hw:1000<=au){c:ar}(G:0<=c.2.2.2)(rk:Int):c.2.2.2<=(mh au rk c).2.2.2:=by
 show c.2.2.2<=c.2.2.2/1000*au+c.2.2.2%1000*au/1000;have E:c.2.2.2/1000*1000<=c.2.2.2/1000*au:=tM hw (zY G (by decide));have H:c.2.2.2%1000*1000<=c.2.2.2%1000*au:=tM hw (BR _ (by decide));generalize c.2.2.2%1000*au=y at *;generalize c.2.2.2/1000*au=x at *;omega
section
variable {cash:List Int} {cs:List ar} {is:List Int} {au rk:Int} (h:xJ cash cs is au rk) {k:Nat} (J:k<D is)
include h J
theorem awg:ew cs is au rk (-1) (D is)=(ew cs is au rk k (D is)).set (is.getD k 0).toNat (mh au rk (cs.getD (is.getD k 0).toNat fG)):=by
 refine List.ext_getElem? λj=>?_;have fg:=h.bG k J;rw[kz,uG]
 by_cases ag:(is.getD k 0).toNat=j
 ·rw[Z ag,Z (by omega),<-ag,C3 h (-1) (bM _) J,Z ⟨J,by omega⟩]
 ·rw[aa ag,Kw h (-1) (bM _),Kw h k (bM _)]
  congr 1
  funext c
  have:(∃m,m<D is/\(m:Int) ≠ -1/\(is.getD m 0).toNat=j)↔∃m,m<D is/\(m:Int)≠k/\(is.getD m 0).toNat=j:=by
   constructor
   ·rintro⟨m,E,-,ab⟩
    exact⟨m,E,λH=>ag (by
                    rw[<-ab];have:m=k:=by omega
                    rw[this]),ab⟩
   ·rintro⟨m,E,-,ab⟩;exact⟨m,E,by omega,ab⟩
  simp only[this]
theorem awh:∃A B,ew cs is au rk k (D is)=A++cs.getD (is.getD k 0).toNat fG::B/\ew cs is au rk (-1) (D is)=A++mh au rk (cs.getD (is.getD k 0).toNat fG)::B/\D A=(is.getD k 0).toNat:=by
 have fg:=h.bG k J;have aU:=C3 h (k:Int) (bM _) J;rw[aa (λh=>h.2 rfl)] at aU;have Gq:=awg h J;generalize fD:ew cs is au rk k (D is)=cr at *;generalize cs.getD (is.getD k 0).toNat fG=c at *;have hlen:(is.getD k 0).toNat<D cr:=by rw[<-fD,uG];omega
 generalize (is.getD k 0).toNat=j at *
 have Q:cr=cr.take j++c::cr.drop (j+1):=by
  rw[bx hlen] at aU;have aU:=m4 aU;rw[<-aU]
  conv=>lhs;rw[<-List.take_append_drop j cr,List.drop_eq_getElem_cons hlen]
 have aq:(cr.take j).length=j:=by rw[List.length_take];omega
 refine⟨cr.take j,cr.drop (j+1),Q,?_,aq⟩;rw[Gq]
 conv=>lhs;rw[Q]
 rw[List.set_append_right _ _ (by omega),aq,kL,qE]
omit J in
theorem awi (aG:(D cash)<=6)(hS:(D cs)<=12)(but:Int):fF cash (ew cs is au rk but (D is)):=by
 have Y:=Pg h but (bM _);exact⟨Y,aG,by rw[uG];exact hS,λc G=>((g2.1 Y).2.2.2 c G).2.2.2.2.2.2.2⟩
theorem awj:(ew cs is au rk (-1) (D is)).getD (is.getD k 0).toNat fG=mh au rk (cs.getD (is.getD k 0).toNat fG):=by
 rw[ea (l:=ew cs is au rk (-1) (D is)),C3 h (-1) (bM _) J,Z ⟨J,by omega⟩];rfl
theorem awk:(ew cs is au rk k (D is)).getD (is.getD k 0).toNat fG=cs.getD (is.getD k 0).toNat fG:=by
 rw[ea (l:=ew cs is au rk k (D is)),C3 h k (bM _) J,aa (λh=>h.2 rfl)];rfl
theorem none_le (hw:1000<=au)(gH:rk<=(cs.getD (is.getD k 0).toNat fG).2.2.1)(nq:∀c∈cs,c.1=(cs.getD (is.getD 0 0).toNat fG).1->c.2.1<0):vY cash cs is au rk k<=mi cash cs is au rk k:=by
 obtain⟨A,B,aA,ay,cV⟩:=awh h J;have eT:=Pg h (k:Int) (bM _);have ei:=Pg h (-1) (bM _);have hm:=h.mem J;have bO:=(g2.1 h.right).2.2.2 _ hm;have bK:=h.ax k J;unfold vY mi uH;rw[awk h J,awj h J]
 have bJ:∀y∈ew cs is au rk k (D is),∃c∈cs,y.1=c.1/\y.2.1=c.2.1:=λy ak=>by
  obtain⟨j,ag⟩:=pD.1 ak;rw[Kw h k (bM _)] at ag;obtain⟨gx,ai,E⟩:=dV.1 ag
  have w2:y.1=gx.1/\y.2.1=gx.2.1:=by
   split at E
   ·rw[<-E];exact⟨rfl,rfl⟩
   ·rw[<-E];exact⟨rfl,rfl⟩
  exact⟨gx,eU ai,w2.1,w2.2⟩
 rw[<-bK] at nq;generalize ew cs is au rk k (D is)=Xv at *;generalize ew cs is au rk (-1) (D is)=aif at *;generalize cs.getD (is.getD k 0).toNat fG=c at *;have awl:(aB cash Xv).cN=A.map cm++cm c::B.map cm:=by show Xv.map cm=_;rw[aA,k0,eY]
 have awm:(aB cash aif).cN=A.map cm++cm (mh au rk c)::B.map cm:=by show aif.map cm=_;rw[ay,k0,eY]
 have Ob:=asC (JG eT) (JG ei) rfl rfl (A.map cm) (B.map cm) (cm c) (cm (mh au rk c)) awl awm rfl (λx O awn=>by
  obtain⟨y,ak,rfl⟩:=fI.1 O;have vw:=(g2.1 eT).2.2.2 y ak;obtain⟨gx,ai,E,H⟩:=bJ y ak;have aDI:y.1.toNat=c.1.toNat:=awn;show y.2.1<0;rw[H];exact nq gx ai (by omega)) (show c.2.1<0 from nq c hm rfl)
 have aU:=Ob c.1.toNat (by show _<D cash;omega);have da:(mh au rk c).1=c.1:=rfl;rw[aU,da,aA,ay];refine asF (c:=c) (c':=mh au rk c) (λx O=>?_) bO.2.2.2.2.2.2.1 rfl gH (awf hw bO.2.2.2.2.2.2.1 rk) _
 have:x∈Xv:=by
  rw[aA];rcases iw.1 O with h|h<;>simp[h]
 exact ((g2.1 eT).2.2.2 x this).2.2.2.2.2.2.1
end
def Xw:b5:=cx 19 1 [.t 2] (R [dW 1 339001 0,du 2 false] (R [aW 3 0 1,aN 4 1 3,cp 5 4,bg 6 .leq 5 5,F 7 6,⟨some 8,some (7,true),.eX 1 (.t 1)⟩,⟨some 9,some (7,true),.load 1 false (.t 8)⟩,⟨some 10,some (7,true),.len (.t 9)⟩,⟨some 11,some (7,true),.bin .leq (.t 10) (.c (ah 8))⟩,gg 12 7 11,F 13 12,⟨some 14,some (13,true),.eX 2 (.t 1)⟩,⟨some 15,some (13,true),.load 1 false (.t 14)⟩,⟨some 16,some (13,true),.len (.t 15)⟩,⟨some 17,some (13,true),.bin .leq (.t 16) (.c (ah 10))⟩,gg 18 13 17,F 2 18] .ret))

def Xx:b5:=cx 8 1 [.t 2] (R [eD 2] (.seq (R [F 3 0,(az 4 (.pn false (.t 3)))] (a6 4 (R [eD 2] .ret) .skip)) (R [(az 5 (.e7 360005 true [] 4 0 [])),F 6 0,(az 7 (.app 360007 [(ah 0),(ah 0),(ah 0),(ah 0)] 32 (.t 5) (.t 6))),F 2 7] .ret)))
end Go.Mini
namespace Go.Mini
open Go
def cE (cash:List Int)(cs:List ar)(is:List Int)(au rk:Int):List Data:=[.ae (cash.map af),.ae (cs.map bE),.ae (is.map af),.int .i64 au,.int .i64 rk]
theorem Ph {cash JW:List Int}{cs nA:List ar}{is aih:List Int}{au aii rk aij:Int}(h:cE cash cs is au rk=cE JW nA aih aii aij):cash=JW/\cs=nA/\is=aih/\au=aii/\rk=aij:=by
 simp only[cE,bf,Data.ae.injEq,Data.int.injEq,and_true,true_and] at h;exact⟨map_inj gY _ _ h.1,map_inj y7 _ _ h.2.1,map_inj gY _ _ h.2.2.1,h.2.2.2.1,h.2.2.2.2⟩
def Xy:=cy Kk λ(cash,cs)=>cW (D cash<=1000000/\D cs<=1000000) (.same (.bool (hI cash cs)))
@[go_sem] theorem awo (cash:List Int)(cs:List ar)(G:(D cash)<=1000000/\D cs<=1000000):Xy [.ae (cash.map af),.ae (cs.map bE)]=some (.same (.bool (hI cash cs))):=(cK W6 (cash,cs)).trans (c6 G _)
theorem awp (T:bk)(W7:T H8=aX OL)(W8:T H9=aX ON)(cash:List Int)(cs:List ar)(G:(D cash)<=1000000/\D cs<=1000000):WP T WT (.same (.bool (hI cash cs))) [.I (.ae (cash.map af)),.I (.ae (cs.map bE))]:=by
 refine cH ?_;simp only[WT];obtain⟨E,H⟩:=G;rw[ae4];have dh:=ahl cash .hold ⟨E,trivial⟩;have fh:=aho cs (.hold (D cash)) ⟨H,by show (0:Int)<=(D cash:Int);omega,by show (D cash:Int)<=1000000;omega⟩
 have aA:cash.any (rS .hold) = !cash.all md:=OO cash md;have ay:cs.any (xC (.hold (D cash))) = !cs.all (oy (D cash)):=OO cs _;rw[aA] at dh;rw[ay] at fh;simp only[uC] at dh;simp only[td] at fh;have d1:decide (D cash<=60)=decide ((D cash:Int)<=60):=by rw[pK,decide_eq_true_iff,decide_eq_true_iff];omega
 have d2:decide (D cs<=2000)=decide ((D cs:Int)<=2000):=by rw[pK,decide_eq_true_iff,decide_eq_true_iff];omega
 rw[d1,d2];rcases fE:decide ((D cash:Int)<=60)<;>rcases gF:decide ((D cs:Int)<=2000)<;>rcases p1:cash.all md<;>rcases lJ:cs.all (oy (D cash))
 all_goals rw[p1] at dh
 all_goals rw[lJ] at fh
 all_goals
      refine a7 ?_;repeat' (intro h<;>simp only[h,go_sem,go_sem_proc,W7,W8,dh,fh,fE,gF,al,cR,dc,tD,ju,cZ,v3,pQ,scalar]<;>try refine av ?_ ?_)
theorem aik {a au:Int}(ai:0<=a)(E:a<=1000000000000000)(dw:0<=au)(w1:au<=10000):0<=a/1000*au/\a/1000*au<=10000000000000000/\0<=a%1000*au/\a%1000*au<=10000000:=by
 have c5:0<=a/1000:=zY ai (by decide);have dK:a/1000<=1000000000000:=by omega
 have fl:0<=a%1000:=BR _ (by decide);have fP:a%1000<=1000:=by omega
 exact⟨qw c5 dw,ail (Ed dK w1 dw (by decide)) (by decide),qw fl dw,ail (Ed fP w1 dw (by decide)) (by decide)⟩
theorem awq {a au:Int}(ai:0<=a)(E:a<=1000000000000000)(dw:0<=au)(w1:au<=10000):IntKind.i64.wrap (IntKind.i64.wrap (IntKind.i64.wrap (a.tdiv 1000)*au)+IntKind.i64.wrap ((IntKind.i64.wrap (a.tmod 1000*au)).tdiv 1000))=a/1000*au+a%1000*au/1000:=by
 obtain⟨dR,gQ,ox,s8⟩:=aik ai E dw w1;rw[yv ai,zZ ai,wrap64 (a/1000) (by omega) (by omega),wrap64 (a/1000*au) (by omega) (by omega),wrap64 (a%1000*au) (by omega) (by omega),yv ox];generalize a/1000*au=x at *;generalize a%1000*au=y at *;rw[wrap64 (y/1000) (by omega) (by omega),wrap64 _ (by omega) (by omega)]
theorem awr {a au:Int}(ai:0<=a)(E:a<=1000000000000000)(dw:0<=au)(w1:au<=10000):0<=a/1000*au+a%1000*au/1000/\a/1000*au+a%1000*au/1000<=10000000000010000:=by
 obtain⟨dR,gQ,ox,s8⟩:=aik ai E dw w1;generalize a/1000*au=x at *;generalize a%1000*au=y at *;omega
abbrev Xz:(List Int)×(List ar)×(List Int)×Int×Int×Int×Int×Int×Int->List Data:=λ(cash,cs,is,au,rk,aH,c2,c3,c4)=>[.agg (cE cash cs is au rk),.agg [.int .i64 aH,.int .i64 c2,.int .i64 c3,.int .i64 c4]]
def Pj:=cy Xz λ(cash,cs,is,au,rk,aH,c2,c3,c4)=>cW (0<=c4/\c4<=1000000000000000/\0<=au/\au<=10000) (.same (.agg (bE (mh au rk (aH,c2,c3,c4)))))
theorem aws:∀a b,Xz a=Xz b->a=b:=by
  rintro⟨OP,Kl,XA,XB,XC,aDJ,aDK,aDL,aDM⟩ ⟨OQ,wv,XD,XE,XF,vF,aDN,aDO,aDP⟩ h;simp only[bf,Data.agg.injEq,Data.int.injEq,and_true,true_and] at h;obtain⟨cG,cO,h1,k2,awt⟩:=h;obtain⟨rfl,rfl,rfl,rfl,rfl⟩:=Ph cG;rw[cO,h1,k2,awt]
@[go_sem] theorem aim (cash:List Int)(cs:List ar)(is:List Int)(au:Int)(rk:Int)(aH:Int)(c2:Int)(c3:Int)(c4:Int)(G:0<=c4/\c4<=1000000000000000/\0<=au/\au<=10000):Pj [.agg (cE cash cs is au rk),.agg [.int .i64 aH,.int .i64 c2,.int .i64 c3,.int .i64 c4]]=some (.same (.agg (bE (mh au rk (aH,c2,c3,c4))))):=(cK aws (cash,cs,is,au,rk,aH,c2,c3,c4)).trans (c6 G _)
theorem awu (T:bk)  (cash:List Int) (cs:List ar) (is:List Int) (au:Int) (rk:Int) (aH:Int) (c2:Int) (c3:Int) (c4:Int) (G:0<=c4/\c4<=1000000000000000/\0<=au/\au<=10000):WP T WU (.same (.agg (bE (mh au rk (aH,c2,c3,c4))))) [.I (.agg (cE cash cs is au rk)),.I (.agg [.int .i64 aH,.int .i64 c2,.int .i64 c3,.int .i64 c4])]:=by
 refine cH ?_;simp only[WU];obtain⟨ai,E,dw,w1⟩:=G;refine a7 ?_;repeat' (intro h<;>simp only[h,go_sem,go_sem_proc,cE,bE,mh,awq ai E dw w1]<;>try refine av ?_ ?_)
theorem awv {cs:List ar}{is:List Int}{au:Int}{k:Nat}(h:∀j,j<k->oC cs is au j=true){j:Nat}(ag:j<k):0<=is.getD j 0/\is.getD j 0<D cs:=by
 have:=h j ag;unfold oC at this;simp only[e3,decide_eq_true_eq] at this;exact this.1.1
theorem Pk {cash:List Int}{cs:List ar}{is:List Int}{au rk:Int}{k:Nat}(J:k<D is)(h:oC cs is au k=false):jm cash cs is au rk=false:=by
 unfold jm;have:(dQ (D is)).all (oC cs is au)=false:=List.all_eq_false.2 ⟨k,hn.2 J,by rw[h];decide⟩
 rw[this,ju]
def mV (cash:List Int)(cs:List ar)(is:List Int):Prop:=D cash<=6/\D cs<=12/\D is<=1000000
abbrev Gt:(List Int)×(List ar)×(List Int)×Int×Int->List Data:=λ(cash,cs,is,au,rk)=>[.agg (cE cash cs is au rk)]
def Gu:=cy Gt λ(cash,cs,is,au,rk)=>cW (mV cash cs is) (.same (.bool (jm cash cs is au rk)))
theorem Pl:∀a b,Gt a=Gt b->a=b:=by
  rintro⟨OP,Kl,XA,XB,XC⟩ ⟨OQ,wv,XD,XE,XF⟩ h;simp only[bf,Data.agg.injEq,and_true] at h;obtain⟨rfl,rfl,rfl,rfl,rfl⟩:=Ph h;rfl
@[go_sem] theorem Pm (cash:List Int)(cs:List ar)(is:List Int)(au:Int)(rk:Int)(G:mV cash cs is):Gu [.agg (cE cash cs is au rk)]=some (.same (.bool (jm cash cs is au rk))):=(cK Pl (cash,cs,is,au,rk)).trans (c6 G _)
theorem aww (T:bk)(jn:T Rh=aX Xy)(hg:T rh=aX Gd)(hA:T Ic=aX Pj)(cash:List Int)(cs:List ar)(is:List Int)(au:Int)(rk:Int)(G:mV cash cs is):WP T WN (.same (.bool (jm cash cs is au rk))) [.I (.agg (cE cash cs is au rk))]:=by
 refine cH ?_;simp only[WN];obtain⟨aG,hS,B6⟩:=G;have X:=awo cash cs ⟨by omega,by omega⟩
 have d0:((D is:Int)==0)=is.isEmpty:=by cases is<;>simp<;>omega
 rcases Gv:hI cash cs
 ·rw[Gv] at X;have aJ:jm cash cs is au rk=false:=by unfold jm;rw[Gv];rfl
  rw[aJ];simp only[go_sem,go_sem_proc,jn,hg,hA,cE,X,al,dc];repeat' (first|refine av ?_ ?_|fail)<;>intro h<;>simp only[h,go_sem,go_sem_proc,jn,hg,hA,cE,X,al,dc]
 rw[Gv] at X;rcases fE:is.isEmpty
 case true =>
  have aJ:jm cash cs is au rk=false:=by unfold jm;rw[Gv,fE];rfl
  rw[aJ];rw[fE] at d0;simp only[go_sem,go_sem_proc,jn,hg,hA,cE,X,d0,al,cR];repeat' (first|refine av ?_ ?_|fail)<;>intro h<;>simp only[h,go_sem,go_sem_proc,jn,hg,hA,cE,X,d0,al,cR]
 rw[fE] at d0;rcases gF:(decide (0<=au)&&decide (au<=10000))
 ·have aJ:jm cash cs is au rk=false:=by
   unfold jm;rw[Pn (_&&_) (decide (0<=au)),gF];simp
  rw[aJ];simp only[go_sem,go_sem_proc,jn,hg,hA,cE,X,d0,gF,al,cR,dc];repeat' (first|refine av ?_ ?_|fail)<;>intro h<;>simp only[h,go_sem,go_sem_proc,jn,hg,hA,cE,X,d0,gF,al,cR,dc]
 rcases p1:(decide (0<=rk)&&decide (rk<=9))
 ·have aJ:jm cash cs is au rk=false:=by
   unfold jm;rw[Pn (_&&_) (decide (0<=rk)),p1];simp
  rw[aJ];simp only[go_sem,go_sem_proc,jn,hg,hA,cE,X,d0,gF,p1,al,cR,dc];repeat' (first|refine av ?_ ?_|fail)<;>intro h<;>simp only[h,go_sem,go_sem_proc,jn,hg,hA,cE,X,d0,gF,p1,al,cR,dc]
 have e1:jm cash cs is au rk=(dQ (D is)).all (oC cs is au):=by
  unfold jm;rw[Pn (_&&_) (decide (0<=rk)),p1,tD,Pn (_&&_) (decide (0<=au)),gF,Gv,fE];rfl
 have vX:0<=au/\au<=10000:=by simpa using gF
 have Aj:=(g2.1 Gv).2.2.2;simp only[go_sem,go_sem_proc,jn,hg,hA,cE,X,d0,gF,p1,al,cR,dc];refine dG [1,31,32] [346001] (λ(k:Nat) tm m=>k<=D is/\tm 33=.I (.int .i64 k)/\∀j,j<k->oC cs is au j=true) (λk=>D is-k) 0 (by refine⟨by omega,rfl,λj ag=>by omega⟩) ?_;intro vs ms aV aS;simp only[go_sem,go_sem_proc,jn,hg,hA,cE,al] at aV aS;subst aV aS;rintro k tm m J hm ⟨L,jE,eA⟩;simp only[go_sem,go_sem_proc,jn,hg,hA,bf] at J hm;obtain⟨aA,fm,fo⟩:=J;rcases dX (k<D is) with ao|cf
 ·have d1:decide ((k:Int)<(D is:Int))=true:=dn;have cl:=gu (i:=k) (by omega);have wl:IntKind.i64.wrap ((D cs:Int)-1)=(D cs:Int)-1:=by rw[eC _]
  obtain⟨i,O⟩:∃i,is[k]?=some i:=⟨_,bx ao⟩;have lI:=pe (d:=0) O;obtain⟨i0,hV⟩:∃i,is[0]?=some i:=⟨_,bx (by omega)⟩;have Kx:=pe (d:=0) hV;rcases lP:(decide (0<=i)&&decide (i<=(D cs:Int)-1))
  ·have Q:oC cs is au k=false:=by
    have:¬ (0<=i/\i<D cs):=λh=>by rw[Ky,decide_eq_false_iff_not,decide_eq_false_iff_not] at lP;omega
    unfold oC;rw[lI,Ky]
    left
    rw[Ky]
    left
    rw[Ky,decide_eq_false_iff_not,decide_eq_false_iff_not];omega
   rw[Pk ao Q];simp only[go_sem,go_sem_proc,jn,hg,hA,aA,fm,fo,jE,hm,O,d1,wl,lP,af,al,bd,dc];repeat' (first|refine av ?_ ?_|fail)<;>intro h<;>simp only[h,go_sem,go_sem_proc,jn,hg,hA,aA,fm,fo,jE,hm,O,d1,wl,lP,af,al,bd,dc]
  have aDQ:0<=i/\i<D cs:=by rw[e3,decide_eq_true_iff,decide_eq_true_iff] at lP;omega
  obtain⟨n,rfl⟩:∃n:Nat,i=(n:Int):=⟨i.toNat,by omega⟩
  obtain⟨⟨aH,c2,c3,c4⟩,G⟩:∃c,cs[n]?=some c:=⟨_,bx (by omega)⟩;have Xg:=pe (d:=fG) G;have nf:=Aj _ (eU G);dsimp only at nf
  have sn:0<=i0/\i0<D cs:=by
   by_cases sf:k=0
   ·subst sf;rw[O] at hV;have:=m4 hV;omega
   ·have:=awv eA (j:=0) (by omega);rwa [Kx] at this
  obtain⟨XG,rfl⟩:∃n:Nat,i0=(n:Int):=⟨i0.toNat,by omega⟩
  obtain⟨⟨gD,iC,ux,AX⟩,aR⟩:∃c,cs[XG]?=some c:=⟨_,bx (by omega)⟩;have Sh:=pe (d:=fG) aR;have lv:0<D is:=by omega
  have hex:=aim cash cs is au rk aH c2 c3 c4 ⟨nf.2.2.2.2.2.2.1,nf.2.2.2.2.2.2.2,vX.1,vX.2⟩;obtain⟨bb,bh⟩:=awr nf.2.2.2.2.2.2.1 nf.2.2.2.2.2.2.2 vX.1 vX.2
  have Gw:oC cs is au k=((k==0||decide (is.getD (k-1) 0<(n:Int)))&&(aH==gD&&decide (c4/1000*au+c4%1000*au/1000<=1000000000000000))):=by
   unfold oC;rw[lI,Kx,gZ,gZ,Xg,Sh,kH (by omega:(0:Int)<=(n:Int)),kH (by omega:(n:Int)<(D cs:Int))]
   rfl
  simp only[cE,bE,mh] at hex;generalize dh:c4/1000*au+c4%1000*au/1000=A at *;have A4:decide (0<=A)=true:=kH bb
  have awx:oC cs is au k=true->∀j,j<k+1->oC cs is au j=true:=λh j ag=>by
   by_cases eR:j=k
   ·rw[eR];exact h
   ·exact eA j (by omega)
  rcases uI:(k==0||decide (is.getD (k-1) 0<(n:Int)))
  ·have Q:oC cs is au k=false:=by rw[Gw,uI];rfl
   rw[Pk ao Q];rw[Bool.or_eq_false_iff,beq_eq_false_iff_ne,decide_eq_false_iff_not] at uI;obtain⟨y,ak⟩:∃i,is[k-1]?=some i:=⟨_,bx (by omega)⟩;have vk:=pe (d:=0) ak;rw[vk] at uI;have d2:decide ((k:Int)>0)=true:=dn;have sI:IntKind.i64.wrap ((k:Int)-1)=((k-1:Nat):Int):=by rw[eC _];omega
   have d3:decide ((n:Int)<=y)=true:=dn;have bU:k-1<D is:=by omega
   simp only[go_sem,go_sem_proc,jn,hg,hA,aA,fm,fo,jE,hm,O,ak,d1,d2,d3,wl,sI,lP,bU,af,al,bd,cR];repeat' (first|refine av ?_ ?_|fail)<;>intro h<;>simp only[h,go_sem,go_sem_proc,jn,hg,hA,aA,fm,fo,jE,hm,O,ak,d1,d2,d3,wl,sI,lP,bU,af,al,bd,cR]
  rw[uI] at Gw;rcases lO:(aH==gD)
  ·have Q:oC cs is au k=false:=by rw[Gw,lO];rfl
   rw[Pk ao Q];rcases iU k with sf|sf
   ·have d2:decide ((k:Int)>0)=false:=dr;simp only[go_sem,go_sem_proc,jn,hg,hA,aA,fm,fo,jE,hm,O,hV,G,aR,d1,d2,wl,lP,lO,lv,bE,af,al,bd,cR,dc,p9,bne];repeat' (first|refine av ?_ ?_|fail)<;>intro h<;>simp only[h,go_sem,go_sem_proc,jn,hg,hA,aA,fm,fo,jE,hm,O,hV,G,aR,d1,d2,wl,lP,lO,lv,bE,af,al,bd,cR,dc,p9,bne]
   ·obtain⟨y,ak⟩:∃i,is[k-1]?=some i:=⟨_,bx (by omega)⟩;have vk:=pe (d:=0) ak;have d2:decide ((k:Int)>0)=true:=dn;have sI:IntKind.i64.wrap ((k:Int)-1)=((k-1:Nat):Int):=by rw[eC _];omega
    have d3:decide ((n:Int)<=y)=false:=by
     rw[qn,beq_iff_eq,decide_eq_true_iff,vk] at uI;exact dr
    have bU:k-1<D is:=by omega
    simp only[go_sem,go_sem_proc,jn,hg,hA,aA,fm,fo,jE,hm,O,hV,ak,G,aR,d1,d2,d3,wl,sI,lP,lO,lv,bU,bE,af,al,bd,cR,dc,p9,bne];repeat' (first|refine av ?_ ?_|fail)<;>intro h<;>simp only[h,go_sem,go_sem_proc,jn,hg,hA,aA,fm,fo,jE,hm,O,hV,ak,G,aR,d1,d2,d3,wl,sI,lP,lO,lv,bU,bE,af,al,bd,cR,dc,p9,bne]
  rw[lO] at Gw;rcases xK:decide (A<=1000000000000000)
  ·have Q:oC cs is au k=false:=by rw[Gw,xK];rfl
   rw[Pk ao Q];rcases iU k with sf|sf
   ·have d2:decide ((k:Int)>0)=false:=dr;simp only[go_sem,go_sem_proc,jn,hg,hA,aA,fm,fo,jE,hm,O,hV,G,aR,hex,A4,d1,d2,wl,lP,lO,xK,lv,bE,af,cE,al,bd,cR,dc,p9,bne];repeat' (first|refine av ?_ ?_|fail)<;>intro h<;>simp only[h,go_sem,go_sem_proc,jn,hg,hA,aA,fm,fo,jE,hm,O,hV,G,aR,hex,A4,d1,d2,wl,lP,lO,xK,lv,bE,af,cE,al,bd,cR,dc,p9,bne]
   ·obtain⟨y,ak⟩:∃i,is[k-1]?=some i:=⟨_,bx (by omega)⟩;have vk:=pe (d:=0) ak;have d2:decide ((k:Int)>0)=true:=dn;have sI:IntKind.i64.wrap ((k:Int)-1)=((k-1:Nat):Int):=by rw[eC _];omega
    have d3:decide ((n:Int)<=y)=false:=by
     rw[qn,beq_iff_eq,decide_eq_true_iff,vk] at uI;exact dr
    have bU:k-1<D is:=by omega
    simp only[go_sem,go_sem_proc,jn,hg,hA,aA,fm,fo,jE,hm,O,hV,ak,G,aR,hex,A4,d1,d2,d3,wl,sI,lP,lO,xK,lv,bU,bE,af,cE,al,bd,cR,dc,p9,bne];repeat' (first|refine av ?_ ?_|fail)<;>intro h<;>simp only[h,go_sem,go_sem_proc,jn,hg,hA,aA,fm,fo,jE,hm,O,hV,ak,G,aR,hex,A4,d1,d2,d3,wl,sI,lP,lO,xK,lv,bU,bE,af,cE,al,bd,cR,dc,p9,bne]
  ·have Q:oC cs is au k=true:=by rw[Gw,xK];rfl
   have n6:=awx Q;rcases iU k with sf|sf
   ·have d2:decide ((k:Int)>0)=false:=dr;simp only[go_sem,go_sem_proc,jn,hg,hA,aA,fm,fo,jE,hm,O,hV,G,aR,hex,A4,d1,d2,cl,wl,lP,lO,xK,lv,bE,af,cE,al,bd,cR,dc,p9,bne];repeat' (first|refine av ?_ ?_|fail)<;>intro h<;>simp only[h,go_sem,go_sem_proc,jn,hg,hA,aA,fm,fo,jE,hm,O,hV,G,aR,hex,A4,d1,d2,cl,wl,lP,lO,xK,lv,bE,af,cE,al,bd,cR,dc,p9,bne]
    exact⟨k+1,by omega,by omega,rfl,n6⟩
   ·obtain⟨y,ak⟩:∃i,is[k-1]?=some i:=⟨_,bx (by omega)⟩;have vk:=pe (d:=0) ak;have d2:decide ((k:Int)>0)=true:=dn;have sI:IntKind.i64.wrap ((k:Int)-1)=((k-1:Nat):Int):=by rw[eC _];omega
    have d3:decide ((n:Int)<=y)=false:=by
     rw[qn,beq_iff_eq,decide_eq_true_iff,vk] at uI;exact dr
    have bU:k-1<D is:=by omega
    simp only[go_sem,go_sem_proc,jn,hg,hA,aA,fm,fo,jE,hm,O,hV,ak,G,aR,hex,A4,d1,d2,d3,cl,wl,sI,lP,lO,xK,lv,bU,bE,af,cE,al,bd,cR,dc,p9,bne];repeat' (first|refine av ?_ ?_|fail)<;>intro h<;>simp only[h,go_sem,go_sem_proc,jn,hg,hA,aA,fm,fo,jE,hm,O,hV,ak,G,aR,hex,A4,d1,d2,d3,cl,wl,sI,lP,lO,xK,lv,bU,bE,af,cE,al,bd,cR,dc,p9,bne]
    exact⟨k+1,by omega,by omega,rfl,n6⟩
 ·have d1:decide ((k:Int)<(D is:Int))=false:=dr;obtain rfl:k=D is:=by omega
  have:jm cash cs is au rk=true:=by
   rw[e1,oI];exact λj ag=>eA j (hn.1 ag)
  rw[this];simp only[go_sem,go_sem_proc,jn,hg,hA,aA,fm,fo,jE,d1,al];repeat' (first|refine av ?_ ?_|fail)<;>intro h<;>simp only[h,go_sem,go_sem_proc,jn,hg,hA,aA,fm,fo,jE,d1,al]
end Go.Mini
namespace Go.Mini
open Go
theorem awy {x:List Data}(h:Fits [.ae (.int .i64),.ae (.st [.int .i64,.int .i64,.int .i64,.int .i64]),.ae (.int .i64),.int .i64,.int .i64] x):∃cash cs is au rk,x=cE cash cs is au rk:=by
 simp only[Fits] at h;obtain⟨_,_,rfl,E,_,_,rfl,H,_,_,rfl,ab,_,_,rfl,aM,_,_,rfl,bj,rfl⟩:=h;unfold Fit at E H ab aM bj;obtain⟨aDR,rfl,-,cG⟩:=E;obtain⟨aDS,rfl,-,cO⟩:=H;obtain⟨aDT,rfl,-,h1⟩:=ab;obtain⟨au,rfl,-⟩:=aM;obtain⟨rk,rfl,-⟩:=bj;obtain⟨cash,rfl⟩:=abW cG;obtain⟨cs,rfl⟩:=ar7 cO;obtain⟨is,rfl⟩:=abW h1;exact⟨cash,cs,is,au,rk,rfl⟩
end Go.Mini
namespace Go.Mini
open Go
end Go.Mini
namespace Go.Mini
open Go
theorem awz {l:List ar}{k:Nat}(h:k<D l):(k*4+4<=(aY bE l).length)=True:=eq_true (by rw[kP p3];omega)
theorem awA {l:List ar}{k:Nat}{a b c d}(h:l[k]?=some (a,b,c,d)):ho 4 (hR (k*4) (aY bE l))=[.I (.int .i64 a),.I (.int .i64 b),.I (.int .i64 c),.I (.int .i64 d)]:=by
 have:=LA p3 h (f:=0) (n:=4) (by omega);rw[Nat.add_zero] at this;unfold cut at this;rw[Z (by rw[kP p3];have:=(List.getElem?_eq_some_iff.1 h).1;omega)] at this;exact m4 this
theorem awB {l:List ar}{k:Nat}(h:k<D l)(x:ar):ho (k*4) (aY bE l)++(bE x).map M.I++hR (k*4+4) (aY bE l)=aY bE (l.set k x):=by
 rw[<-Qt p3 h]
 rfl
theorem awC {l:List ar}{k:Nat}(h:k<D l):(k*4+2+1<=(aY bE l).length)=True:=eq_true (by rw[kP p3];omega)
theorem awD {l:List ar}{k:Nat}{a b c d:Int}(h:l[k]?=some (a,b,c,d))(r:Int):ho (k*4+2) (aY bE l)++[M.I (.int .i64 r)]++hR (k*4+2+1) (aY bE l)=aY bE (l.set k (a,b,r,d)):=by
 obtain⟨p,q,e,aC,Q⟩:=Qs p3 h;rw[Q,e]
 have aA:ho (k*4+2) (p++((bE (a,b,c,d)).map M.I++q))=p++[.I (.int .i64 a),.I (.int .i64 b)]:=by
  rw[List.take_append,dE (by omega),show k*4+2-D p=2 by omega];rfl
 have ay:hR (k*4+2+1) (p++((bE (a,b,c,d)).map M.I++q))=.I (.int .i64 d)::q:=by
  rw[oc,List.drop_of_length_le (by omega),show k*4+2+1-D p=3 by omega];rfl
 rw[aA,ay,gK,gK]
 rfl
theorem ain (l:List ar):((l.map bE).all λe=>D e==4)=true:=by simp[bE]
theorem awE (k:Nat)(l:List ar)(h:(D l)<=1000000):lQ k 0 4 0 32 (D l) ((l.map bE).flatten.map .I) (some (0,[]))=some (.ref k 1 4 0 (D l),some (k,1,aY bE l)):=by
 have:=DO p3 VV k 0 32 [] l (by simp;omega) (by simp;omega)
 simpa [aY] using this
theorem aio (l:List ar):chunk 4 (D l) (l.map bE).flatten=l.map bE:=by
 have:=zO (sz:=4) (l.map bE) (λe he=>by obtain⟨c,-,rfl⟩:=fI.1 he;rfl);rwa [al] at this
theorem awF {m:Mem}{k g:Nat}{l:List ar}(h:m k=some (g,aY bE l)):oP 4 m (.ref k g 4 0 (D l))=some (l.map bE):=by
 have hlen:(aY bE l).length=D l*4:=kP p3 l;unfold oP;simp only[h,hlen];rw[Z ⟨trivial,trivial⟩,Z ⟨trivial,bM _⟩,dE (by omega)];unfold aY;rw[wB _ λd=>rfl,iW,aio]
def XH:=cy OR λ(l:List ar)=>cW (D l<=1000000) (.own 4 (l.map bE))
@[go_sem] theorem awG (l:List ar)(G:(D l)<=1000000):XH [.ae (l.map bE)]=some (.own 4 (l.map bE)):=(cK ahs l).trans (c6 G _)
theorem awH (T:bk)  (l:List ar) (G:(D l)<=1000000):WP T Xx (.own 4 (l.map bE)) [.I (.ae (l.map bE))]:=by
 refine cH ?_;simp only[Xx];have dm:=awE 360005 l G;have hlen:(aY bE l).length=D l*4:=kP p3 l;refine a7 ?_;repeat' (intro h<;>simp only[h,go_sem,go_sem_proc,ain,dm,al]<;>try refine av ?_ ?_)
 rintro b ad
 cases b
 ·refine a7 ?_;repeat' (intro h<;>simp only[h,go_sem,go_sem_proc,ain,dm,al,oP,hlen]<;>try refine av ?_ ?_)
  rw[Z (by omega),dE (by omega)];unfold aY;rw[wB _ λd=>rfl];rw[iW,aio]
 ·cases l with
  |nil =>
       refine a7 ?_;repeat' (intro h<;>simp only[h,go_sem,go_sem_proc,oP,cg]<;>try refine av ?_ ?_)
  |cons x r=>simp at ad
def XI (cash:List Int)(cs:List ar)(is:List Int)(au rk:Int):Prop:=mV cash cs is/\jm cash cs is au rk=true
abbrev Gx:(List Int)×(List ar)×(List Int)×Int×Int×Int->List Data:=λ(cash,cs,is,au,rk,but)=>[.agg (cE cash cs is au rk),.int .i64 but]
def Kz:=cy Gx λ(cash,cs,is,au,rk,but)=>cW (XI cash cs is au rk) (.own 4 ((ew cs is au rk but (D is)).map bE))
theorem Po:∀a b,Gx a=Gx b->a=b:=by
  rintro⟨OP,Kl,XA,XB,XC,aDU⟩ ⟨OQ,wv,XD,XE,XF,aDV⟩ h;simp only[bf,Data.agg.injEq,Data.int.injEq,and_true,true_and] at h;obtain⟨cG,cO⟩:=h;obtain⟨rfl,rfl,rfl,rfl,rfl⟩:=Ph cG;rw[cO]
@[go_sem] theorem XJ (cash:List Int)(cs:List ar)(is:List Int)(au:Int)(rk:Int)(but:Int)(G:XI cash cs is au rk):Kz [.agg (cE cash cs is au rk),.int .i64 but]=some (.own 4 ((ew cs is au rk but (D is)).map bE)):=(cK Po (cash,cs,is,au,rk,but)).trans (c6 G _)
theorem awI (T:bk)(Gy:T Ri=aX XH)(hA:T Ic=aX Pj)(cash:List Int)(cs:List ar)(is:List Int)(au:Int)(rk:Int)(but:Int)(G:XI cash cs is au rk):WP T WR (.own 4 ((ew cs is au rk but (D is)).map bE)) [.I (.agg (cE cash cs is au rk)),.I (.int .i64 but)]:=by
 refine cH ?_;simp only[WR];obtain⟨⟨aG,hS,B6⟩,km⟩:=G;have jS:=Gs.1 km;have dF:=awG cs (by omega);have Gz:(cs.map bE).flatten.map M.I=aY bE cs:=rfl;simp only[go_sem,go_sem_proc,Gy,hA,cE,dF,Gz,al];refine dG [1,2,5,12,13] [354002] (λ(k:Nat) tm m=>k<=D is/\tm 14=.I (.int .i64 k)/\m 354010=some (0,aY bE (ew cs is au rk but k))) (λk=>D is-k) 0 (by refine⟨by omega,rfl,?_⟩;simp only[a3,dA,if_false,if_true];rfl) ?_;intro vs ms aV aS;simp only[go_sem,go_sem_proc,Gy,hA,cE,al] at aV aS;subst aV aS;rintro k tm m J hm ⟨L,xj,XK⟩;simp only[go_sem,go_sem_proc,Gy,hA,bf] at J hm;obtain⟨aA,ay,dC,h4,iE⟩:=J;have KA:=uG cs is au rk but k;rcases dX (k<D is) with ao|cf
 ·have d1:decide ((k:Int)<(D is:Int))=true:=dn;have cl:=gu (i:=k) (by omega);obtain⟨i,O⟩:∃i,is[k]?=some i:=⟨_,bx ao⟩;have lI:=pe (d:=0) O;have fg:=jS.bG k ao;rw[lI] at fg;obtain⟨n,rfl⟩:∃n:Nat,i=(n:Int):=⟨i.toNat,by omega⟩
  have bJ:=C3 jS but (t:=k) (by omega) ao;rw[aa (by omega),lI,gZ] at bJ;have gR:=jS.mem ao;rw[lI,gZ] at gR;generalize cs.getD n fG=c at *;obtain⟨aH,c2,c3,c4⟩:=c;have nf:=(g2.1 jS.right).2.2.2 _ gR;have hex:=aim cash cs is au rk aH c2 c3 c4 ⟨nf.2.2.2.2.2.2.1,nf.2.2.2.2.2.2.2,jS.vX.1,jS.vX.2⟩;simp only[cE] at hex;have iX:n<(ew cs is au rk but k).length:=by omega
  have GA:n<D cs:=by omega
  have aM:=awz iX;have aU:=awA bJ;have Mt:=awB iX (mh au rk (aH,c2,c3,c4));rcases q:((k:Int)==but)
  ·have fV:ew cs is au rk but (k+1)=(ew cs is au rk but k).set n (mh au rk (aH,c2,c3,c4)):=by
    show (if (k:Int)=but then _ else _)=_;rw[aa (by simpa using q),lI,gZ,pe bJ]
   rw[<-fV] at Mt;generalize lZ:mh au rk (aH,c2,c3,c4)=cA at *;obtain⟨bh,cd,c7,eZ⟩:=cA;simp only[bE] at hex;simp only[bE,eY,cg] at Mt;refine a7 ?_;repeat' (intro h<;>simp only[h,go_sem,go_sem_proc,Gy,hA,aA,ay,dC,h4,iE,xj,hm,XK,O,hex,aM,aU,Mt,GA,d1,cl,q,cE,af,al,bd,bne,dc]<;>try refine av ?_ ?_)
   exact⟨k+1,by omega,by omega,rfl,rfl⟩
  ·have fV:ew cs is au rk but (k+1)=ew cs is au rk but k:=by
    show (if (k:Int)=but then _ else _)=_;rw[Z (by simpa using q)]
   refine a7 ?_;repeat' (intro h<;>simp only[h,go_sem,go_sem_proc,Gy,hA,aA,ay,dC,h4,iE,xj,hm,XK,O,d1,cl,q,af,al,bd,bne,cR]<;>try refine av ?_ ?_)
   exact⟨k+1,by omega,by omega,rfl,by rw[fV]⟩
 ·have d1:decide ((k:Int)<(D is:Int))=false:=dr;obtain rfl:k=D is:=by omega
  generalize ew cs is au rk but (D is)=cr at *;have hlen:(aY bE cr).length=D cr*4:=kP p3 cr;refine a7 ?_;repeat' (intro h<;>simp only[h,go_sem,go_sem_proc,Gy,hA,aA,ay,dC,h4,iE,xj,d1,al,KA]<;>try refine av ?_ ?_)
  rw[<-KA];exact awF XK
end Go.Mini
namespace Go.Mini
open Go


end Go.Mini
namespace Go.Mini
open Go
def rU (cash:List Int)(cs:List ar)(is:List Int)(au rk:Int)(t:Nat):List bS:=(dQ t).map λk=>aE (mi cash cs is au rk k)
theorem XM (cash:List Int)(cs:List ar)(is:List Int)(au rk:Int)(t:Nat):(rU cash cs is au rk t).length=t:=by simp[rU]
theorem awJ (cash:List Int)(cs:List ar)(is:List Int)(au rk:Int)(t:Nat):rU cash cs is au rk (t+1)=rU cash cs is au rk t++[aE (mi cash cs is au rk t)]:=by
 unfold rU;rw[List.range_succ,k0];rfl
theorem aip (cash:List Int)(cs:List ar)(is:List Int)(au rk:Int){t k:Nat}(h:k<t):(rU cash cs is au rk t)[k]?=some (aE (mi cash cs is au rk k)):=by
 unfold rU;rw[bd,List.getElem?_range h];rfl
def C4 (cash:List Int)(cs:List ar)(is:List Int)(au rk:Int):Data:=if jm cash cs is au rk=true then .cq [.ae ((rU cash cs is au rk (D is)).map aK),.int .i64 0] else .cq [.ae [],.int .i64 1]
def GC (cash:List Int)(cs:List ar)(is:List Int)(au rk k:Int):Data:=if jm cash cs is au rk=true then (if 0<=k/\k<(D is) then .cq [.agg (aK (aE (vY cash cs is au rk k.toNat))),.int .i64 0] else .cq [.agg (aK dT),.int .i64 4]) else .cq [.agg (aK dT),.int .i64 1]
theorem Pp {cash:List Int}{cs:List ar}{is:List Int}{au rk:Int}(aG:mV cash cs is)(h:xJ cash cs is au rk)(but:Int):fF cash (ew cs is au rk but (D is)):=awi h aG.1 aG.2.1 but
def KB:=cy Gt λ(cash,cs,is,au,rk)=>cW (mV cash cs is) (.same (C4 cash cs is au rk))
@[go_sem] theorem XN (cash:List Int)(cs:List ar)(is:List Int)(au:Int)(rk:Int)(G:mV cash cs is):KB [.agg (cE cash cs is au rk)]=some (.same (C4 cash cs is au rk)):=(cK Pl (cash,cs,is,au,rk)).trans (c6 G _)
theorem awK (T:bk)(hh:T yl=aX Gu)(mW:T BJ=aX Kz)(mX:T BF=aX Gp)(cash:List Int)(cs:List ar)(is:List Int)(au:Int)(rk:Int)(G:mV cash cs is):WP T WL (.same (C4 cash cs is au rk)) [.I (.agg (cE cash cs is au rk))]:=by
 refine cH ?_;simp only[WL];have Y:=Pm cash cs is au rk G;unfold C4;rcases km:jm cash cs is au rk
 ·rw[aa (by decide)];rw[km] at Y;simp only[cE] at Y;refine a7 ?_;repeat' (intro h<;>simp only[h,go_sem,go_sem_proc,hh,mW,mX,cE,Y,cg,dc]<;>try refine av ?_ ?_)
 rw[Z rfl];rw[km] at Y;have jS:=Gs.1 km;have dF:=XJ cash cs is au rk (-1) ⟨G,km⟩;have Q:=Pp G jS (-1);obtain⟨aG,hS,B6⟩:=G;have aq:=uG cs is au rk (-1) (D is);have oD:=Pf cash (ew cs is au rk (-1) (D is)) ⟨by omega,by omega,λ_=>Q⟩
 unfold A3 at oD;rw[Z Q.right] at oD;have aiq:=λk (J:k<D is)=>Xt (cash:=cash) (l:=ew cs is au rk (-1) (D is)) (j:=(is.getD k 0).toNat) (by have:=jS.bG k J;omega);have nD:(n0 cash (ew cs is au rk (-1) (D is))).length=D cs:=by unfold n0;rw[al,aq]
 have a9:∀k,uH cash (ew cs is au rk (-1) (D is)) (is.getD k 0).toNat=mi cash cs is au rk k:=λk=>rfl;simp only[a9] at aiq;simp only[cE] at Y dF;generalize p8 cash (ew cs is au rk (-1) (D is))=HV at *;generalize n0 cash (ew cs is au rk (-1) (D is))=Ks at *;generalize (aB cash (ew cs is au rk (-1) (D is))).mM.map tf=FD at *;simp only[go_sem,go_sem_proc,hh,mW,mX,cE,Y,dF,oD,bne,beq_self_eq_true,cR,al];refine dG [4,24,25] [341001,341004] (λ((k,g):Nat×Nat) tm m=>k<=D is/\tm 26=.I (.int .i64 k)/\tm 6=.ref 341037 g 4 0 k/\m 341037=some (g,aY aK (rU cash cs is au rk k))) (λ(k,_)=>D is-k) (0,0) (by refine⟨by omega,rfl,rfl,rfl⟩) ?_;intro vs ms aV aS;simp only[go_sem,go_sem_proc,hh,mW,mX,al] at aV aS;subst aV aS;rintro⟨k,g⟩ tm m J hm ⟨L,kF,bL,air⟩;simp only[go_sem,go_sem_proc,hh,mW,mX,bf] at J hm;obtain⟨da,rT,iR⟩:=J;obtain⟨dD,nQ⟩:=hm;have ir:=XM cash cs is au rk k;rcases dX (k<D is) with ao|cf
 ·have d1:decide ((k:Int)<(D is:Int))=true:=dn;have cl:=gu (i:=k) (by omega);obtain⟨i,O⟩:∃i,is[k]?=some i:=⟨_,bx ao⟩;have lI:=pe (d:=0) O;have fg:=jS.bG k ao;have kA:=aiq k ao;rw[lI] at fg kA;obtain⟨n,rfl⟩:∃n:Nat,i=(n:Int):=⟨i.toNat,by omega⟩
  rw[gZ] at kA;have iX:n<D Ks:=by omega
  have Wr:=awJ cash cs is au rk k;have dm:=λ(aO:bS) nA jW=>mw mG EI 341037 g 64 (rU cash cs is au rk k) aO (cs:=nA) jW (by omega) (by omega);generalize aE (mi cash cs is au rk k)=aO at *;have dm:=dm aO _ rfl;rw[<-Wr,ir] at dm;obtain⟨⟨f1,f2⟩,⟨f3,f4⟩⟩:=aO;simp only[aK,eY,cg] at dm;refine a7 ?_;repeat' (intro h<;>simp only[h,go_sem,go_sem_proc,hh,mW,mX,da,bL,rT,iR,kF,dD,nQ,air,O,kA,dm,iX,d1,cl,aK,af,al,bd]<;>try refine av ?_ ?_)
  exact⟨(k+1,g+1),by dsimp only;omega,by dsimp only;omega,rfl,rfl,rfl⟩
 ·have d1:decide ((k:Int)<(D is:Int))=false:=dr;obtain rfl:k=D is:=by omega
  have Kc:=λ(K:a2->Prop) (st:a2)=>lV (K:=K) (st:=st) mG 6 341037 g (rU cash cs is au rk (D is));rw[ir] at Kc;refine a7 ?_;repeat' (intro h<;>simp only[h,go_sem,go_sem_proc,hh,mW,mX,da,bL,rT,iR,kF,dD,nQ,air,d1,Kc,al]<;>try refine av ?_ ?_)
end Go.Mini
namespace Go.Mini
open Go
def Pq:=cy Gx λ(cash,cs,is,au,rk,k)=>cW (mV cash cs is) (.same (GC cash cs is au rk k))
@[go_sem] theorem ais (cash:List Int)(cs:List ar)(is:List Int)(au:Int)(rk:Int)(k:Int)(G:mV cash cs is):Pq [.agg (cE cash cs is au rk),.int .i64 k]=some (.same (GC cash cs is au rk k)):=(cK Po (cash,cs,is,au,rk,k)).trans (c6 G _)
theorem awL (T:bk)(hh:T yl=aX Gu)(hg:T rh=aX Gd)(mW:T BJ=aX Kz)(mX:T BF=aX Gp)(cash:List Int)(cs:List ar)(is:List Int)(au:Int)(rk:Int)(k:Int)(G:mV cash cs is):WP T WM (.same (GC cash cs is au rk k)) [.I (.agg (cE cash cs is au rk)),.I (.int .i64 k)]:=by
 refine cH ?_;simp only[WM];have Y:=Pm cash cs is au rk G;unfold GC;rcases km:jm cash cs is au rk
 ·rw[aa (by decide)];rw[km] at Y;simp only[cE] at Y;refine a7 ?_;repeat' (intro h<;>simp only[h,go_sem,go_sem_proc,hh,hg,mW,mX,cE,Y,aK,dT,cg,dc]<;>try refine av ?_ ?_)
 rw[Z rfl];rw[km] at Y;have tx:=G;obtain⟨aG,hS,B6⟩:=G;have wl:IntKind.i64.wrap ((D is:Int)-1)=(D is:Int)-1:=by rw[eC _]
 rcases q:(decide (0<=k)&&decide (k<=(D is:Int)-1))
 ·rw[aa (by rw[Ky,decide_eq_false_iff_not,decide_eq_false_iff_not] at q;omega)];simp only[cE] at Y;refine a7 ?_;repeat' (intro h<;>simp only[h,go_sem,go_sem_proc,hh,hg,mW,mX,cE,Y,wl,q,aK,dT,cg,al,cR,dc]<;>try refine av ?_ ?_)
 have J:0<=k/\k<D is:=by rw[e3,decide_eq_true_iff,decide_eq_true_iff] at q;omega
 rw[Z J];obtain⟨k,rfl⟩:∃n:Nat,k=(n:Int):=⟨k.toNat,by omega⟩
 have ao:k<D is:=by omega
 have jS:=Gs.1 km;have dF:=XJ cash cs is au rk k ⟨tx,km⟩;have Q:=Pp tx jS k;have aq:=uG cs is au rk k (D is);have oD:=Pf cash (ew cs is au rk k (D is)) ⟨by omega,by omega,λ_=>Q⟩
 unfold A3 at oD;rw[Z Q.right] at oD;obtain⟨i,O⟩:∃i,is[k]?=some i:=⟨_,bx ao⟩;have lI:=pe (d:=0) O;have fg:=jS.bG k ao;have kA:=Xt (cash:=cash) (l:=ew cs is au rk k (D is)) (j:=(is.getD k 0).toNat) (by omega);have nD:(n0 cash (ew cs is au rk k (D is))).length=D cs:=by unfold n0;rw[al,aq]
 have a9:uH cash (ew cs is au rk k (D is)) (is.getD k 0).toNat=vY cash cs is au rk k:=rfl;rw[a9] at kA;rw[lI] at fg kA;obtain⟨n,rfl⟩:∃n:Nat,i=(n:Int):=⟨i.toNat,by omega⟩
 rw[gZ] at kA ⊢;simp only[cE] at Y dF;have iX:n<(n0 cash (ew cs is au rk k (D is))).length:=by omega
 generalize p8 cash (ew cs is au rk k (D is))=HV at *;generalize n0 cash (ew cs is au rk k (D is))=Ks at *;generalize (aB cash (ew cs is au rk k (D is))).mM.map tf=FD at *;generalize aE (vY cash cs is au rk k)=aO at *;obtain⟨⟨f1,f2⟩,⟨f3,f4⟩⟩:=aO;refine a7 ?_;repeat' (intro h<;>simp only[h,go_sem,go_sem_proc,hh,hg,mW,mX,cE,Y,dF,oD,wl,q,O,kA,iX,aK,af,bne,beq_self_eq_true,al,bd,cR,dc]<;>try refine av ?_ ?_)
def mY (cash:List Int)(cs:List ar)(is:List Int)(au rk:Int)(k:Nat):Rat:=vY cash cs is au rk k-mi cash cs is au rk k
def C5 (cash:List Int)(cs:List ar)(is:List Int)(au rk k:Int):Data:=if jm cash cs is au rk=true then (if 0<=k/\k<(D is) then .cq [.bool (decide (0<mY cash cs is au rk k.toNat)),.agg (aK (aE (mY cash cs is au rk k.toNat))),.int .i64 0] else .cq [.bool false,.agg (aK dT),.int .i64 4]) else .cq [.bool false,.agg (aK dT),.int .i64 1]
theorem ait {cash:List Int}{cs:List ar}{is:List Int}{au rk:Int}(aG:mV cash cs is)(h:xJ cash cs is au rk){k:Nat}(J:k<D is):eB 482 (vY cash cs is au rk k)/\eB 482 (mi cash cs is au rk k):=by
 have fg:=h.bG k J;exact⟨Xu (Pp aG h k) (by rw[uG];omega),Xu (Pp aG h (-1)) (by rw[uG];omega)⟩
theorem awM {x:Rat}:decide (x.num.sign>0)=decide (0<x):=by
 have:x.num.sign>0↔0<x:=by
  show 0<x.num.sign↔_;rw[Int.sign_pos_iff,Rat.lt_iff,Rat.zero_num,Rat.zero_den];omega
 rw[decide_eq_decide];exact this
def KC:=cy Gx λ(cash,cs,is,au,rk,k)=>cW (mV cash cs is) (.same (C5 cash cs is au rk k))
@[go_sem] theorem XO (cash:List Int)(cs:List ar)(is:List Int)(au:Int)(rk:Int)(k:Int)(G:mV cash cs is):KC [.agg (cE cash cs is au rk),.int .i64 k]=some (.same (C5 cash cs is au rk k)):=(cK Po (cash,cs,is,au,rk,k)).trans (c6 G _)
theorem awN (T:bk)(KD:T Ia=aX Pq)(qa:T BH=aX KB)(kf:T tF=aX w3)(cash:List Int)(cs:List ar)(is:List Int)(au:Int)(rk:Int)(k:Int)(G:mV cash cs is):WP T WO (.same (C5 cash cs is au rk k)) [.I (.agg (cE cash cs is au rk)),.I (.int .i64 k)]:=by
 refine cH ?_;simp only[WO];have bu:=ais cash cs is au rk k G;have L:=XN cash cs is au rk G;unfold C5;unfold GC at bu;unfold C4 at L;rcases km:jm cash cs is au rk
 ·rw[aa (by decide)];rw[aa (by rw[km];decide)] at bu L;simp only[cE,aK,dT,cg] at bu L;refine a7 ?_;repeat' (intro h<;>simp only[h,go_sem,go_sem_proc,KD,qa,kf,cE,bu,L,aK,dT,cg,bne,show ((1:Int)==0)=false from rfl,show ((4:Int)==0)=false from rfl,dc]<;>try refine av ?_ ?_)
 rw[Z rfl];rw[Z km] at bu L
 by_cases J:0<=k/\k<D is
 case neg =>
  rw[aa J] at bu ⊢;simp only[cE,aK,dT,cg] at bu L;refine a7 ?_;repeat' (intro h<;>simp only[h,go_sem,go_sem_proc,KD,qa,kf,cE,bu,L,aK,dT,cg,bne,show ((1:Int)==0)=false from rfl,show ((4:Int)==0)=false from rfl,dc]<;>try refine av ?_ ?_)
 rw[Z J] at bu ⊢;obtain⟨k,rfl⟩:∃n:Nat,k=(n:Int):=⟨k.toNat,by omega⟩
 have ao:k<D is:=by omega
 have jS:=Gs.1 km;obtain⟨gD,iC⟩:=ait G jS ao;rw[gZ] at bu ⊢;have GD:=aip cash cs is au rk ao;have ir:=XM cash cs is au rk (D is);have XP:=NX (mc gD (by omega)) (mc iC (by omega)) (AJ gD (FB iC) (by omega));have aU:vY cash cs is au rk k-mi cash cs is au rk k=mY cash cs is au rk k:=rfl;rw[aU] at XP;have w8:(aE (mY cash cs is au rk k)).1.1=(mY cash cs is au rk k).num.sign:=rfl;have kt:=awM (x:=mY cash cs is au rk k);generalize rU cash cs is au rk (D is)=IL at *;generalize aE (vY cash cs is au rk k)=aP at *;generalize aE (mi cash cs is au rk k)=uL at *;generalize decide (0<mY cash cs is au rk k)=B at *;generalize aE (mY cash cs is au rk k)=bz at *;generalize (mY cash cs is au rk k).num.sign=pP at *;obtain⟨⟨ahg,ahh⟩,⟨ahi,ahj⟩⟩:=aP;obtain⟨⟨i1,i2⟩,⟨i3,i4⟩⟩:=uL;obtain⟨⟨cG,cO⟩,⟨h1,k2⟩⟩:=bz;dsimp only at w8;subst w8;simp only[aK,cE] at bu L XP;refine a7 ?_;repeat' (intro h<;>simp only[h,go_sem,go_sem_proc,KD,qa,kf,cE,bu,L,XP,GD,kt,aK,bne,beq_self_eq_true,ir,ao,al,bd,cR]<;>try refine av ?_ ?_)
end Go.Mini
namespace Go.Mini
open Go
def qb (cs:List ar)(is:List Int)(au rk:Int)(k:Nat):List ar:=(ew cs is au rk k (D is)).set (is.getD k 0).toNat ((cs.getD (is.getD k 0).toNat fG).1,(cs.getD (is.getD k 0).toNat fG).2.1,rk,(cs.getD (is.getD k 0).toNat fG).2.2.2)
def A5 (cash:List Int)(cs:List ar)(is:List Int)(au rk:Int)(k:Nat):Rat:=uH cash (qb cs is au rk k) (is.getD k 0).toNat
def GF (cash:List Int)(cs:List ar)(is:List Int)(au rk k:Int):Data:=if jm cash cs is au rk=true then (if 0<=k/\k<(D is) then .cq [.int .i64 (if 0<mY cash cs is au rk k.toNat then (if A5 cash cs is au rk k.toNat<=mi cash cs is au rk k.toNat then 1 else 2) else 0),.int .i64 0] else .cq [.int .i64 0,.int .i64 4]) else .cq [.int .i64 0,.int .i64 1]
theorem aiu (cs:List ar)(is:List Int)(au rk:Int)(k:Nat):(qb cs is au rk k).length=D cs:=by unfold qb;rw[iM,uG]
theorem awO {cash:List Int}{cs:List ar}{is:List Int}{au rk:Int}(aG:mV cash cs is)(h:xJ cash cs is au rk){k:Nat}(J:k<D is):fF cash (qb cs is au rk k):=by
 have bJ:=C3 h (k:Int) (bM _) J;rw[aa (λh=>h.2 rfl)] at bJ;have Y:=awe h (Pg h (k:Int) (bM _)) bJ;exact⟨Y,aG.1,by rw[aiu];exact aG.2.1,λc G=>((g2.1 Y).2.2.2 c G).2.2.2.2.2.2.2⟩
theorem awP {x y:Rat}:decide (ni x y<=0)=decide (x<=y):=by
 have h:=ae7 (x:=x) (y:=y);rw[pK,decide_eq_true_iff,decide_eq_true_iff];rw[pK,decide_eq_true_iff,decide_eq_true_iff] at h
 constructor
 ·intro E;apply kC;intro H;have:=h.2 (by grind);omega
 ·intro E;apply kC;intro H;have:=h.1 (by omega);grind
def Pr:=cy Gx λ(cash,cs,is,au,rk,k)=>cW (mV cash cs is) (.same (GF cash cs is au rk k))
@[go_sem] theorem aiv (cash:List Int)(cs:List ar)(is:List Int)(au:Int)(rk:Int)(k:Int)(G:mV cash cs is):Pr [.agg (cE cash cs is au rk),.int .i64 k]=some (.same (GF cash cs is au rk k)):=(cK Po (cash,cs,is,au,rk,k)).trans (c6 G _)
theorem awQ (T:bk)(hi:T BI=aX KC)(qa:T BH=aX KB)(mW:T BJ=aX Kz)(mX:T BF=aX Gp)(fp:T qt=aX vj)(cash:List Int)(cs:List ar)(is:List Int)(au:Int)(rk:Int)(k:Int)(G:mV cash cs is):WP T WQ (.same (GF cash cs is au rk k)) [.I (.agg (cE cash cs is au rk)),.I (.int .i64 k)]:=by
 refine cH ?_;simp only[WQ];have ad:=XO cash cs is au rk k G;have L:=XN cash cs is au rk G;unfold GF;unfold C5 at ad;unfold C4 at L;rcases km:jm cash cs is au rk
 ·rw[aa (by decide)];rw[aa (by rw[km];decide)] at ad L;simp only[cE,aK,dT,cg] at ad L;simp only[go_sem,go_sem_proc,hi,qa,mW,mX,fp,cE,ad,aK,dT,cg,bne,show ((1:Int)==0)=false from rfl,dc];repeat' (first|refine av ?_ ?_|fail)<;>intro h<;>simp only[h,go_sem,go_sem_proc,hi,qa,mW,mX,fp,cE,ad,aK,dT,cg,bne,show ((1:Int)==0)=false from rfl,dc]
 rw[Z rfl];rw[Z km] at ad L
 by_cases J:0<=k/\k<D is
 case neg =>
  rw[aa J] at ad ⊢;simp only[cE,aK,dT,cg] at ad L;simp only[go_sem,go_sem_proc,hi,qa,mW,mX,fp,cE,ad,aK,dT,cg,bne,show ((4:Int)==0)=false from rfl,dc];repeat' (first|refine av ?_ ?_|fail)<;>intro h<;>simp only[h,go_sem,go_sem_proc,hi,qa,mW,mX,fp,cE,ad,aK,dT,cg,bne,show ((4:Int)==0)=false from rfl,dc]
 rw[Z J] at ad ⊢;obtain⟨k,rfl⟩:∃n:Nat,k=(n:Int):=⟨k.toNat,by omega⟩
 have ao:k<D is:=by omega
 rw[gZ] at ad ⊢;rcases aU:decide (0<mY cash cs is au rk k)
 ·rw[aa (of_decide_eq_false aU)];rw[aU] at ad;generalize aE (mY cash cs is au rk k)=bz at *;obtain⟨⟨cG,cO⟩,⟨h1,k2⟩⟩:=bz;simp only[aK,cE] at ad;simp only[go_sem,go_sem_proc,hi,qa,mW,mX,fp,cE,ad,bne,beq_self_eq_true,cR,dc];repeat' (first|refine av ?_ ?_|fail)<;>intro h<;>simp only[h,go_sem,go_sem_proc,hi,qa,mW,mX,fp,cE,ad,bne,beq_self_eq_true,cR,dc]
 rw[Z (of_decide_eq_true aU)];rw[aU] at ad;have jS:=Gs.1 km;have dF:=XJ cash cs is au rk k ⟨G,km⟩;have Q:=awO G jS ao;obtain⟨-,iC⟩:=ait G jS ao;have tx:=G;obtain⟨aG,hS,B6⟩:=G;have tV:=aiu cs is au rk k;have oD:=Pf cash (qb cs is au rk k) ⟨by omega,by omega,λ_=>Q⟩
 unfold A3 at oD;rw[Z Q.right] at oD;obtain⟨i,O⟩:∃i,is[k]?=some i:=⟨_,bx ao⟩;have lI:=pe (d:=0) O;have fg:=jS.bG k ao;have kA:=Xt (cash:=cash) (l:=qb cs is au rk k) (j:=(is.getD k 0).toNat) (by omega);have gD:=Xu Q (j:=(is.getD k 0).toNat) (by omega);have nD:(n0 cash (qb cs is au rk k)).length=D cs:=by unfold n0;rw[al,tV]
 have a9:uH cash (qb cs is au rk k) (is.getD k 0).toNat=A5 cash cs is au rk k:=rfl;rw[a9] at kA gD;have bJ:=C3 jS (k:Int) (bM _) ao;rw[aa (λh=>h.2 rfl)] at bJ;have sA:qb cs is au rk k=(ew cs is au rk k (D is)).set (is.getD k 0).toNat ((cs.getD (is.getD k 0).toNat fG).1,(cs.getD (is.getD k 0).toNat fG).2.1,rk,(cs.getD (is.getD k 0).toNat fG).2.2.2):=rfl;rw[lI] at fg kA bJ sA;obtain⟨n,rfl⟩:∃n:Nat,i=(n:Int):=⟨i.toNat,by omega⟩
 rw[gZ] at kA bJ sA;have J7:(ew cs is au rk k (D is)).length=D cs:=uG _ _ _ _ _ _;generalize cs.getD n fG=c at *;obtain⟨aH,c2,c3,c4⟩:=c;have h5:=awD bJ rk;dsimp only at sA;rw[<-sA] at h5;have b0:=awC (l:=ew cs is au rk k (D is)) (k:=n) (by omega);have GD:=aip cash cs is au rk ao;have ir:=XM cash cs is au rk (D is);have kT:=JV (mc gD (by omega)) (mc iC (by omega));have hle:=awP (x:=A5 cash cs is au rk k) (y:=mi cash cs is au rk k);have iX:n<(n0 cash (qb cs is au rk k)).length:=by omega
 have GA:n<D cs:=by omega
 have KE:=λ(K:a2->Prop) (st:a2)=>lV (K:=K) (st:=st) p3 11 350034 0 (qb cs is au rk k);rw[tV] at KE;have Gz:((ew cs is au rk k (D is)).map bE).flatten.map M.I=aY bE (ew cs is au rk k (D is)):=rfl;generalize p8 cash (qb cs is au rk k)=HV at *;generalize n0 cash (qb cs is au rk k)=Ks at *;generalize (aB cash (qb cs is au rk k)).mM.map tf=FD at *;generalize qb cs is au rk k=WC at *;generalize ew cs is au rk k (D is)=XL at *;generalize rU cash cs is au rk (D is)=IL at *;generalize aE (mY cash cs is au rk k)=bz at *;generalize aE (mi cash cs is au rk k)=uL at *;generalize aE (A5 cash cs is au rk k)=aF at *;generalize ni (A5 cash cs is au rk k) (mi cash cs is au rk k)=CQ at *;obtain⟨⟨cG,cO⟩,⟨h1,k2⟩⟩:=bz;obtain⟨⟨i1,i2⟩,⟨i3,i4⟩⟩:=uL;obtain⟨⟨fE,gF⟩,⟨p1,lJ⟩⟩:=aF;simp only[aK,cE] at ad L dF kT;rcases X:decide (A5 cash cs is au rk k<=mi cash cs is au rk k)
 ·rw[aa (of_decide_eq_false X)];rw[X] at hle;simp only[go_sem,go_sem_proc,hi,qa,mW,mX,fp,cE,ad,L,dF,oD,Gz,O,kA,GD,ir,ao,iX,GA,J7,tV,h5,b0,KE,kT,hle,aK,af,bne,beq_self_eq_true,al,bd,cR,dc];repeat' (first|refine av ?_ ?_|fail)<;>intro h<;>simp only[h,go_sem,go_sem_proc,hi,qa,mW,mX,fp,cE,ad,L,dF,oD,Gz,O,kA,GD,ir,ao,iX,GA,J7,tV,h5,b0,KE,kT,hle,aK,af,bne,beq_self_eq_true,al,bd,cR,dc]
 ·rw[Z (of_decide_eq_true X)];rw[X] at hle;simp only[go_sem,go_sem_proc,hi,qa,mW,mX,fp,cE,ad,L,dF,oD,Gz,O,kA,GD,ir,ao,iX,GA,J7,tV,h5,b0,KE,kT,hle,aK,af,bne,beq_self_eq_true,al,bd,cR,dc];repeat' (first|refine av ?_ ?_|fail)<;>intro h<;>simp only[h,go_sem,go_sem_proc,hi,qa,mW,mX,fp,cE,ad,L,dF,oD,Gz,O,kA,GD,ir,ao,iX,GA,J7,tV,h5,b0,KE,kT,hle,aK,af,bne,beq_self_eq_true,al,bd,cR,dc]
end Go.Mini
namespace Go.Mini
open Classical
def GG (cs:List ar)(x:Nat->Rat)(i:Nat)(acc:Option Rat)(c:ar):Option Rat :=
 if c.2.1=(i:Int) then acc.bind λs=>if oZ s (gk cs (x c.1.toNat) c)=true then some (s+gk cs (x c.1.toNat) c) else none else acc
def vZ (cash:List Int)(cs:List ar)(x:Nat->Rat)(i:Nat)(l:List ar):Option Rat:=l.foldl (GG cs x i) (some ((cash.getD i 0:Int):Rat))
theorem awR (cash:List Int)(cs:List ar)(x:Nat->Rat)(i:Nat):vZ cash cs x i []=some ((cash.getD i 0:Int):Rat):=rfl
theorem KF (cash:List Int)(cs:List ar)(x:Nat->Rat)(i:Nat)(l:List ar)(c:ar):vZ cash cs x i (l++[c])=GG cs x i (vZ cash cs x i l) c:=by
 unfold vZ;rw[List.foldl_append];rfl
def th (cash:List Int)(cs:List ar)(x:Nat->Rat)(i:Nat)(l:List ar):Rat:=((cash.getD i 0:Int):Rat)+b4 (l.map cm) λc=>if c.to=(i:Int) then (aB cash cs).hy x c else 0
theorem awS {cash:List Int}{cs:List ar}(h:hI cash cs=true)(x:Nat->Rat)(i:Nat)(l:List ar){c:ar}(G:c∈cs):th cash cs x i (l++[c])=th cash cs x i l+if c.2.1=(i:Int) then gk cs (x c.1.toNat) c else 0:=by
 unfold th;rw[k0,vI,<-V7 h x G];show _+(_+((if (cm c).to=(i:Int) then (aB cash cs).hy x (cm c) else 0)+0))=_;have e:(cm c).to=c.2.1:=rfl;rw[e,pa];grind
def XQ (cash:List Int)(cs:List ar)(x:Nat->Rat):Prop:=∀i,i<(D cash)->vZ cash cs x i cs=some (x i)
section
variable {cash:List Int} {cs:List ar} (Q:fF cash cs)
include Q
theorem awT {eF:Nat}(iI:eF=324):0<h9 (D cash) (uv cash cs)/\h9 (D cash) (uv cash cs)<=2^eF:=by
 have:=Q.k7;exact⟨adD λk J=>afJ Q J,aey (e:=eF) (λk _=>afK Q k) (by omega)⟩
theorem awU:∃a5:Nat,0<a5/\(∃a,a<=654/\a5<=2^a)/\(∀i,i<(D cash)->eJ a5 ((aB cash cs).db i))/\∀c∈cs,eJ a5 ((aB cash cs).hy (aB cash cs).db (cm c)):=by
 obtain⟨a5,E,⟨a,H,ab⟩,aM⟩:=afI Q;obtain⟨eF,iI⟩:∃eF,eF=324:=⟨_,rfl⟩;obtain⟨nI,nJ⟩:=awT Q iI;refine⟨a5*h9 (D cash) (uv cash cs),Nat.mul_pos E nI,⟨a+eF,by omega,by rw[Nat.pow_add];exact Nat.mul_le_mul ab nJ⟩,λi L=>(aM i L).more _,λc G=>?_⟩
 have bj:=afL Q aM G;have J:(cm c).ax<D cash:=Q.ok.ax _ (vD G);refine bj.of_dvd ?_;obtain⟨m,hm⟩:=adE (bR:=uv cash cs) J;exact⟨m,by rw[hm,Nat.mul_assoc]⟩
theorem awV {i:Nat}(L:i<D cash){l fw:List ar}(aq:cs=l++fw):eB 708 (th cash cs (aB cash cs).db i l):=by
 obtain⟨a5,E,⟨a,H,ab⟩,-,aM⟩:=awU Q
 have AM:∀m:List ar,(∀c∈m,c∈cs)->0<=b4 (m.map cm) λc=>if c.to=(i:Int) then (aB cash cs).hy (aB cash cs).db c else 0:=λm hm=>xq λy ak=>by
  obtain⟨c,G,rfl⟩:=fI.1 ak
  try dsimp only
  split
  ·exact Q.ok.adp _ (vD (hm c G))
  ·exact Rat.le_refl
 have Em:∀c∈l,c∈cs:=λc G=>by rw[aq];simp[G]
 have oj:∀c∈fw,c∈cs:=λc G=>by rw[aq];simp[G]
 have j5:(0:Rat)<=((cash.getD i 0:Int):Rat):=by have:=(Q.cash i).1;exact_mod_cast this
 have X:eJ a5 (th cash cs (aB cash cs).db i l):=by
  unfold th;refine (eJ.int _ _).add (eJ.b4 λy ak=>?_);obtain⟨c,G,rfl⟩:=fI.1 ak
  split
  ·exact aM c (Em c G)
  ·exact eJ.zero _
 have ai:0<=th cash cs (aB cash cs).db i l:=by
  have:=AM l Em;unfold th;grind
 have hle:th cash cs (aB cash cs).db i l<=(aB cash cs).db i:=by
  rw[(FJ Q.ok).1 i L]
  have e:(aB cash cs).pY (aB cash cs).db i=th cash cs (aB cash cs).db i l+b4 (fw.map cm) λc=>if c.to=(i:Int) then (aB cash cs).hy (aB cash cs).db c else 0:=by
   have ay:(aB cash cs).pY (aB cash cs).db i=((cash.getD i 0:Int):Rat)+b4 (cs.map cm) λc=>if c.to=(i:Int) then (aB cash cs).hy (aB cash cs).db c else 0:=rfl;rw[ay];unfold th;have cV:b4 (cs.map cm) (λc=>if c.to=(i:Int) then (aB cash cs).hy (aB cash cs).db c else 0)=b4 ((l++fw).map cm) λc=>if c.to=(i:Int) then (aB cash cs).hy (aB cash cs).db c else 0:=by rw[<-aq]
   rw[cV,k0,vI];grind
  have:=AM fw oj;grind
 exact (X.sz E ab ai (e:=54) (Rat.le_trans hle (asG Q L))).mono (by omega)
theorem awW:XQ cash cs (aB cash cs).db:=λi L=>by
 have key:∀n (l fw:List ar),D l=n->cs=l++fw->vZ cash cs (aB cash cs).db i l=some (th cash cs (aB cash cs).db i l):=by
  intro n
  induction n with
  |zero =>
   intro l fw aq _;have:l=[]:=A1.1 aq;subst this;rw[awR];unfold th;rw[cg,b4,pa]
  |succ n aw =>
   intro l fw aq jW;rcases DT l with ai|⟨m,c,rfl⟩
   ·subst ai;cases aq
   ·rw[DU] at *;simp only[hj,yP] at aq;have G:c∈cs:=by rw[jW];simp
    have gr:cs=m++([c]++fw):=by rw[jW,gK]
    rw[KF,awS Q.right _ i m G,aw m _ (by omega) gr];unfold GG
    by_cases nq:c.2.1=(i:Int)
    ·rw[Z nq,Z nq,oR,Z];refine AJ (awV Q L gr) (b:=482) ?_ (by omega);rw[<-V7 Q.right _ G];exact afM Q G
    ·rw[aa nq,aa nq,pa]
 have E:=key _ cs [] rfl (by simp);rw[E,(FJ Q.ok).1 i L]
 rfl
end
end Go.Mini
namespace Go.Mini
open Go
theorem aiw (x:Rat):x*(x.den:Rat)=(x.num:Rat):=by
 have h:(Rat.divInt x.num x.den)=x:=Rat.num_divInt_den x;rw[Rat.divInt_eq_div] at h;have ai:((x.den:Int):Rat)≠0:=by have:=x.den_nz;exact_mod_cast this
 have H:(x.num:Rat)/((x.den:Int):Rat)*((x.den:Int):Rat)=(x.num:Rat):=Rat.div_mul_cancel ai;rw[h,nm] at H;exact H
theorem awX {x y:Rat}(h:oZ x y=true):dI (x+y):=by
 unfold oZ at h;simp only[e3] at h;obtain⟨-,-,ab,aM⟩:=h
 have X:((x.den:Int)*y.den)≠0:=by
  have E:=x.den_nz;have H:=y.den_nz;exact Int.mul_ne_zero (by omega) (by omega)
 have e:(x+y)*(((x.den:Int)*y.den:Int):Rat)=((x.num*y.den+y.num*x.den:Int):Rat):=by
  have aA:x*(x.den:Rat)=(x.num:Rat):=aiw x;have ay:y*(y.den:Rat)=(y.num:Rat):=aiw y;rw[Rat.intCast_add,pZ,pZ,pZ,nm,nm,<-aA,<-ay];grind
 obtain⟨f1,f2⟩:=AG X e;have:=pO ab;have:=pO aM;exact⟨by omega,by omega⟩
def XR (aI:List bS):List Rat:=aI.map Ae
structure awY (cash:List Int) (cs:List ar) (aI:List bS):Prop where
 n:(D cash)<=1000000
 c:(D cs)<=1000000
 o:o0 aI
 rN:hI cash cs=true->fF cash cs
 sz:hI cash cs=true->(D aI)=(D cash)->aI.any (o1 u1)=false->∀f∈aI,eB 460 (Ae f)
open Classical in
def XS (cash:List Int)(cs:List ar)(x:Nat->Rat):Bool:=decide (XQ cash cs x)
open Classical in
theorem awZ {cash:List Int}{cs:List ar}{x:Nat->Rat}:XS cash cs x=true↔XQ cash cs x:=by
 unfold XS;exact decide_eq_true_iff
def aix (cash:List Int)(cs:List ar)(aI:List bS):Bool:=hI cash cs&&(decide (D aI=D cash)&&(!aI.any (o1 u1)&&XS cash cs λi=>(XR aI).getD i 0))
structure GH (cash:List Int) (cs:List ar) (x:Nat->Rat) (l:List ar) (s:Nat->Rat):Prop where
 a:∀i,i<(D cash)->vZ cash cs x i l=some (s i)
 l:∀i,i<(D cash)->dI (s i)
theorem GH.skip {cash:List Int}{cs:List ar}{x:Nat->Rat}{l:List ar}{s:Nat->Rat}(h:GH cash cs x l s){c:ar}(G:c.2.1<0):GH cash cs x (l++[c]) s:=by
 refine⟨λi L=>?_,h.l⟩;rw[KF,h.a i L];unfold GG;rw[aa (by omega)]
theorem GH.add {cash:List Int}{cs:List ar}{x:Nat->Rat}{l:List ar}{s:Nat->Rat}(h:GH cash cs x l s){c:ar}{t:Nat}(G:c.2.1=(t:Int))(J:oZ (s t) (gk cs (x c.1.toNat) c)=true):GH cash cs x (l++[c]) λi=>if i=t then s t+gk cs (x c.1.toNat) c else s i:=by
 refine⟨λi L=>?_,λi L=>?_⟩
 ·rw[KF,h.a i L];unfold GG
  by_cases KG:i=t
  ·subst KG;rw[Z G,oR,Z J,Z rfl]
  ·rw[aa (by omega),aa KG]
 ·by_cases KG:i=t
  ·rw[Z KG];exact awX J
  ·rw[aa KG];exact h.l i L
section
variable {cash:List Int} {cs:List ar} (Q:fF cash cs)
include Q
theorem aw0:o0 (p8 cash cs):=by
 have:=Q.k7;exact VJ (by omega) λi L=>mc (Oa Q L) (by omega)
theorem aw1:(p8 cash cs).any (o1 u1)=false/\XR (p8 cash cs)=(dQ (D cash)).map (aB cash cs).db:=by
 refine⟨?_,?_⟩
 ·rw[List.any_eq_false];intro f aJ;obtain⟨y,ak,rfl⟩:=fI.1 aJ;obtain⟨i,L,rfl⟩:=fI.1 ak;have kr:i<D cash:=hn.1 L;have aq:=mc (Oa Q kr) (by omega);have aG:=ae2 Q.ok kr;rw[Tr];show ¬ (!eV (aE ((aB cash cs).db i))||decide ((aE ((aB cash cs).db i)).1.1<0))=true;rw[NQ aq];have:decide ((aB cash cs).db i<0)=false:=oE (by grind);rw[<-asA] at this;have H:decide ((aE ((aB cash cs).db i)).1.1<0)=false:=this;rw[H];decide
 ·unfold XR p8 de;rw[oN];exact (m5 λx _=>B7 x).trans (List.map_id _)
theorem aDW:awY cash cs (p8 cash cs)/\aix cash cs (p8 cash cs)=true:=by
 obtain⟨E,H⟩:=aw1 Q;have aG:=Q.k7;have hS:=Q.vF;refine⟨⟨by omega,by omega,aw0 Q,λ_=>Q,λ_ _ _ f aJ=>?_⟩,?_⟩
 ·obtain⟨y,ak,rfl⟩:=fI.1 aJ;obtain⟨i,L,rfl⟩:=fI.1 ak;rw[B7];exact (Oa Q (hn.1 L)).mono (by omega)
 ·unfold aix;have aq:(p8 cash cs).length=D cash:=p2 _ _;rw[Q.right,E,kH aq,iy,iy,dc,iy,awZ,H];intro i L;have O:=awW Q i L
  have jW:vZ cash cs (λi=>((dQ (D cash)).map (aB cash cs).db).getD i 0) i cs=vZ cash cs (aB cash cs).db i cs:=by
   have Y:=(g2.1 Q.right).2.2.2
   have key:∀n (l:List ar),D l=n->(∀c∈l,c∈cs)->vZ cash cs (λi=>((dQ (D cash)).map (aB cash cs).db).getD i 0) i l=vZ cash cs (aB cash cs).db i l:=by
    intro n
    induction n with
    |zero=>intro l aq _;rw[A1.1 aq];rfl
    |succ n aw =>
     intro l aq hm;rcases DT l with ai|⟨m,c,rfl⟩
     ·subst ai;cases aq
     ·rw[DU] at *;simp only[hj,yP] at aq;have G:=Y c (hm c (by simp));rw[KF,KF,aw m (by omega) λy ak=>hm y (by simp[ak])];unfold GG;have:((dQ (D cash)).map (aB cash cs).db).getD c.1.toNat 0=(aB cash cs).db c.1.toNat:=AZ (aB cash cs).db 0 (show c.1.toNat<(D cash) by omega);simp only[this]
   exact key _ cs rfl λc G=>G
  rw[jW,O];show _=some ((bq (D cash) (aB cash cs).db).getD i 0);rw[AZ (aB cash cs).db 0 L]
end
def XT (l:List Int):List Data:=[.ae (l.map af)]
def aw2 (a:List (List Int)):Prop:=D a<=1000000/\∀l∈a,D l<=1000000
theorem aw3 (l:List (List Nat)):l.map tf=(l.map λr=>r.map λn=>((n:Nat):Int)).map XT:=by
 rw[oN];refine m5 λr _=>?_;simp only[tf,XT,Function.comp_apply,oN]
 rfl
structure Ps (cash:List Int) (cs:List ar) (aI dx:List Int) (bc:List (List Int)):Prop where
 s:fF cash cs
 h:p8 cash cs=aI.map λn:Int=>aE (n:Rat)
 p:n0 cash cs=dx.map λn:Int=>aE (n:Rat)
 f:((aB cash cs).mM.map λr=>r.map λn=>((n:Nat):Int))=bc
 L:∀n∈aI,dz n
 pi:∀n∈dx,dz n
 o:aw2 bc
theorem Ps.solve {cash:List Int}{cs:List ar}{aI dx:List Int}{bc:List (List Int)}(h:Ps cash cs aI dx bc):Gp [.ae (cash.map af),.ae (cs.map bE)]=some (.same (.cq [.agg [.ae ((aI.map λn:Int=>aE (n:Rat)).map aK),.ae ((dx.map λn:Int=>aE (n:Rat)).map aK),.ae (bc.map XT)],.int .i64 0])):=by
 have aG:=h.s.k7;have hS:=h.s.vF;have oD:=Pf cash cs ⟨by omega,by omega,λ_=>h.s⟩
 unfold A3 at oD;rw[Z h.s.right,h.h,h.p,aw3,h.f] at oD;exact oD
theorem Ps.small {cash:List Int}{cs:List ar}{aI dx:List Int}{bc:List (List Int)}(h:Ps cash cs aI dx bc):(D aI)<=6/\D dx<=12:=by
 have E:=congrArg D h.h;have H:=congrArg D h.p;unfold p8 at E;unfold n0 at H;rw[p2,al] at E;rw[al,al] at H;have aG:=h.s.k7;have hS:=h.s.vF;omega
end Go.Mini
namespace Go.Mini
open Classical
def aA:Day:=aB [5,0] [(0,1,0,10),(1,-1,0,4)]
def ay:Day:=aB [0,0] [(0,1,1,10),(1,0,1,10)]
def da:Day:=aB [9] [(0,-1,0,6),(0,-1,1,2),(0,-1,1,4)]
def cV:Day:=aB [0,0] [(0,1,1,10),(1,0,1,10),(0,-1,0,5)]
def dC:Day:=aB [10,30] [(1,-1,0,25)]
def bL:Day:=aB [10,0] [(0,1,0,30)]
def b1:Day:=aB [30,0] [(0,1,0,30)]
end Go.Mini
namespace Go.Mini
open Go

end Go.Mini
namespace Go.Mini
open Classical
section
variable {cash:List Int} {cs:List ar} (Q:fF cash cs)
include Q
end
end Go.Mini
namespace Go.Mini
open Go
section
variable {cash:List Int} {cs:List ar} (Q:fF cash cs) {i:Nat}
include Q
end






theorem aw4 {x y:Rat}(O:dI x)(ak:dI y):M4 [.agg (aK (aE x)),.agg (aK (aE y))]=some (.same (.bool (decide (x=y)))):=by
 have E:=o4 O;have H:=o4 ak;have h:=aoW (aE x).1.1 (aE x).1.2 (aE x).2.1 (aE x).2.2 (aE y).1.1 (aE y).1.2 (aE y).2.1 (aE y).2.2 ⟨E.1,E.2,H.1,H.2⟩
 have e:ET (((aE x).1.1,(aE x).1.2),((aE x).2.1,(aE x).2.2)) (((aE y).1.1,(aE y).1.2),((aE y).2.1,(aE y).2.2))=decide (x=y):=by
  show decide (aE x=aE y)=_
  by_cases mB:x=y
  ·rw[kH mB,mB];exact kH rfl
  ·rw[oE mB];exact oE λh=>mB (MC h)
 rw[e] at h;exact h




theorem aw5 {n:Int}(h:dz n):M3 [.int .i64 n,.int .i64 1]=some (.same (.cq [.agg (aK (aE (n:Rat))),.int .i64 0])):=by
 have:=aoR n 1 ⟨h,V6⟩;rw[VW h] at this;exact this
def XU:b5:=cx 153 2 [.t 4] (R [dW 2 335002 0,du 4 false] (R [(az 16 (.call Re [])),F 5 16] (R [bp 17 5 2,(dP 18 Rg 17),(az 6 (.alloc 335006 [.nil,.nil,.nil,(ah 0),(ah 0)])),ba 5 6 18] (.seq (R [bp 19 5 2,(dP 20 Rf 19),gv 21 20,F 22 21,⟨some 23,some (22,false),.load 5 true (.t 6)⟩,⟨some 24,some (22,false),.call yl [(.t 23)]⟩,⟨some 25,some (22,false),.un .not (.t 24)⟩,eo 26 22 25,F 27 26,⟨some 28,some (27,false),.eX 2 (.t 2)⟩,⟨some 29,some (27,false),.load 1 false (.t 28)⟩,⟨some 30,some (27,false),.len (.t 29)⟩,⟨some 31,some (27,false),.bin .eql (.t 30) (.c (ah 0))⟩,eo 32 27 31,F 33 32,⟨some 34,some (33,false),.eX 3 (.t 2)⟩,⟨some 35,some (33,false),.load 1 false (.t 34)⟩,⟨some 36,some (33,false),.bin .lss (.t 35) (.c (ah 1000))⟩,eo 37 33 36] (a6 37 (R [F 38 5,F 4 38] .ret) .skip)) (.seq (R [bs 7 0] (.block 0 (.loop  (.seq (R [F 39 7,aW 40 2 2,aN 41 1 40,cp 42 41,bC 43 .lss 39 42] (a6 43 .skip (.exit 0))) (.seq (.block 1 (.seq (fs [aW 46 2 2,aN 47 1 46,F 48 7,bX 49 1 47 48,aN 50 1 49,bg 51 .lss 50 0,F 52 51,⟨some 53,some (52,false),.eX 2 (.t 2)⟩,⟨some 54,some (52,false),.load 1 false (.t 53)⟩,⟨some 55,some (52,false),.cn (.t 7)⟩,⟨some 56,some (52,false),.jF 1 (.t 54) (.t 55)⟩,⟨some 57,some (52,false),.load 1 false (.t 56)⟩,⟨some 58,some (52,false),.eX 1 (.t 2)⟩,⟨some 59,some (52,false),.load 1 false (.t 58)⟩,⟨some 60,some (52,false),.len (.t 59)⟩,⟨some 61,some (52,false),.bin .geq (.t 57) (.t 60)⟩,eo 62 52 61] aap (a6 62 (R [du 4 false] .ret) .skip)) (fs [aW 63 1 2,aN 64 1 63,aW 65 2 2,aN 66 1 65,F 67 7,bX 68 1 66 67,aN 69 1 68,bX 70 4 64 69,aW 71 2 70,aN 72 1 71,aW 73 4 2,aN 74 1 73,bC 75 .lss 72 74] LR (a6 75 (R [F 76 5,F 4 76] .ret) .skip)))) (.ops [F 44 7,bg 45 .add 44 1,F 7 45])))))) (fs [aW 77 1 2,aN 78 1 77,aW 79 2 2,aN 80 1 79,(az 81 (.jF 1 (.t 80) (.c (ah 0)))),aN 82 1 81,bX 83 4 78 82,aW 84 0 83,aN 85 1 84,F 8 85] Ih (.seq (R [bs 9 0] (.block 2 (.loop  (.seq (R [F 86 9,aW 87 1 2,aN 88 1 87,cp 89 88,bC 90 .lss 86 89] (a6 90 .skip (.exit 2))) (.seq (.block 3 (R [aW 93 1 2,aN 94 1 93,F 95 9,bX 96 4 94 95,aW 97 0 96,aN 98 1 97,F 99 8,bC 100 .eql 98 99,F 101 100,⟨some 102,some (101,true),.eX 1 (.t 2)⟩,⟨some 103,some (101,true),.load 1 false (.t 102)⟩,⟨some 104,some (101,true),.cn (.t 9)⟩,⟨some 105,some (101,true),.jF 4 (.t 103) (.t 104)⟩,⟨some 106,some (101,true),.eX 1 (.t 105)⟩,⟨some 107,some (101,true),.load 1 false (.t 106)⟩,⟨some 108,some (101,true),.bin .geq (.t 107) (.c (ah 0))⟩,gg 109 101 108] (a6 109 (R [F 110 5,F 4 110] .ret) .skip))) (.ops [F 91 9,bg 92 .add 91 1,F 9 92])))))) (R [F 111 1,(az 112 (.conv .i64 (.t 111))),aW 113 2 2,aN 114 1 113,cp 115 114,bC 116 .rem 112 115,F 10 116] (R [bp 118 5 6,F 119 10,(cj 120 BI 118 119),F 117 120,bt 121 0 117,bt 122 1 117,bt 123 2 117,(az 12 (.alloc 335012 [(ah 0),.nil,(ah 0),.nil])),F 11 121,ba 4 12 122,F 13 123] (R [bp 125 5 6,F 126 10,(cj 127 Ib 125 126),F 124 127,bt 128 0 124,bt 129 1 124,F 14 128,F 15 129] (R [F 130 5,F 131 130,⟨some 132,some (131,true),.cn (.t 11)⟩,⟨some 133,some (131,true),.un .not (.t 132)⟩,gg 134 131 133,F 135 134,⟨some 136,some (135,true),.eX 0 (.t 12)⟩,⟨some 137,some (135,true),.eX 0 (.t 136)⟩,⟨some 138,some (135,true),.load 1 false (.t 137)⟩,⟨some 139,some (135,true),.bin .leq (.t 138) (.c (ah 0))⟩,gg 140 135 139,F 141 140,⟨some 142,some (141,true),.cn (.t 13)⟩,⟨some 143,some (141,true),.bin .neq (.t 142) (.c (ah 0))⟩,⟨some 144,some (141,true),.cn (.t 143)⟩,⟨some 145,some (144,false),.cn (.t 15)⟩,⟨some 146,some (144,false),.bin .eql (.t 145) (.c (ah 0))⟩,⟨some 147,some (141,true),.pick (.t 144) (.c (.I (.bool true))) (.t 146)⟩,gg 148 141 147,F 149 148,⟨some 150,some (149,true),.cn (.t 14)⟩,⟨some 151,some (149,true),.bin .eql (.t 150) (.c (ah 0))⟩,gg 152 149 151,F 4 152] .ret)))))))))))
def XV:b5:=cx 87 0 [.t 0] (R [du 0 false] (R [(az 11 (.e7 338011 false [(ah 0)] 1 1 [(0,1,(.c (ah 10)))])),(az 12 (.build [(ah 0),(ah 0),(ah 0),(ah 0)] [(1,1,(.c (.I (.int .i64 (-1))))),(3,1,(.c (ah 12)))])),(az 13 (.build [(ah 0),(ah 0),(ah 0),(ah 0)] [(1,1,(.c (.I (.int .i64 (-1))))),(3,1,(.c (ah 12)))])),(az 14 (.e7 338014 false [(ah 0),(ah 0),(ah 0),(ah 0),(ah 0),(ah 0),(ah 0),(ah 0)] 4 2 [(0,4,(.t 12)),(4,4,(.t 13))])),(az 15 (.e7 338015 false [(ah 0),(ah 0)] 1 2 [(0,1,(.c (ah 0))),(1,1,(.c (ah 1)))])),(az 16 (.build [.nil,.nil,.nil,(ah 0),(ah 0)] [(0,1,(.t 11)),(1,1,(.t 14)),(2,1,(.t 15)),(3,1,(.c (ah 500))),(4,1,(.c (ah 1)))])),(az 1 (.alloc 338001 [.nil,.nil,.nil,(ah 0),(ah 0)])),ba 5 1 16] (R [bp 18 5 1,(dP 19 BH 18),F 17 19,bt 20 0 17,bt 21 1 17,F 2 20,F 3 21] (R [bp 23 5 1,(az 24 (.call Ia [(.t 23),(.c (ah 0))])),F 22 24,bt 25 0 22,bt 26 1 22,(az 4 (.alloc 338004 [(ah 0),.nil,(ah 0),.nil])),ba 4 4 25,F 5 26] (R [bp 28 5 1,(az 29 (.call BI [(.t 28),(.c (ah 0))])),F 27 29,bt 30 0 27,bt 31 1 27,bt 32 2 27,(az 7 (.alloc 338007 [(ah 0),.nil,(ah 0),.nil])),F 6 30,ba 4 7 31,F 8 32] (R [bp 34 5 1,(az 35 (.call Ib [(.t 34),(.c (ah 0))])),F 33 35,bt 36 0 33,bt 37 1 33,F 9 36,F 10 37] (.seq (R [F 38 2,cp 39 38,bg 40 .neq 39 2,F 41 40,⟨some 42,some (41,false),.load 5 true (.t 1)⟩,⟨some 43,some (41,false),.call yl [(.t 42)]⟩,⟨some 44,some (41,false),.un .not (.t 43)⟩,eo 45 41 44] (a6 45 (R [du 0 false] .ret) .skip)) (R [F 46 3,bg 47 .eql 46 0,F 48 47,⟨some 49,some (48,true),.cn (.t 5)⟩,⟨some 50,some (48,true),.bin .eql (.t 49) (.c (ah 0))⟩,gg 51 48 50,F 52 51,⟨some 53,some (52,true),.cn (.t 8)⟩,⟨some 54,some (52,true),.bin .eql (.t 53) (.c (ah 0))⟩,gg 55 52 54,F 56 55,⟨some 57,some (56,true),.cn (.t 10)⟩,⟨some 58,some (56,true),.bin .eql (.t 57) (.c (ah 0))⟩,gg 59 56 58,F 60 59,⟨some 61,some (60,true),.cn (.t 2)⟩,⟨some 62,some (60,true),.jF 4 (.t 61) (.c (ah 0))⟩,⟨some 63,some (60,true),.load 4 true (.t 62)⟩,⟨some 64,some (60,true),.call D3 [(.t 63),(.c (ah 5)),(.c (ah 1))]⟩,gg 65 60 64,F 66 65,⟨some 67,some (66,true),.cn (.t 2)⟩,⟨some 68,some (66,true),.jF 4 (.t 67) (.c (ah 1))⟩,⟨some 69,some (66,true),.load 4 true (.t 68)⟩,⟨some 70,some (66,true),.call D3 [(.t 69),(.c (ah 5)),(.c (ah 1))]⟩,gg 71 66 70,F 72 71,⟨some 73,some (72,true),.load 4 true (.t 4)⟩,⟨some 74,some (72,true),.call D3 [(.t 73),(.c (ah 10)),(.c (ah 1))]⟩,gg 75 72 74,F 76 75,⟨some 77,some (76,true),.cn (.t 6)⟩,gg 78 76 77,F 79 78,⟨some 80,some (79,true),.load 4 true (.t 7)⟩,⟨some 81,some (79,true),.call D3 [(.t 80),(.c (ah 5)),(.c (ah 1))]⟩,gg 82 79 81,F 83 82,⟨some 84,some (83,true),.cn (.t 9)⟩,⟨some 85,some (83,true),.bin .eql (.t 84) (.c (ah 2))⟩,gg 86 83 85,F 0 86] .ret))))))))
def XW:b5:=cx 14 1 [.cell 2 5 true] (R [dW 1 340001 0,(az 2 (.alloc 340002 [.nil,.nil,.nil,(ah 0),(ah 0)]))] (R [aW 3 0 1,aN 4 1 3,aW 5 1 1,aN 6 1 5,aW 7 2 1,aN 8 1 7,aW 9 3 1,aN 10 1 9,aW 11 4 1,aN 12 1 11,(az 13 (.build [.nil,.nil,.nil,(ah 0),(ah 0)] [(0,1,(.t 4)),(1,1,(.t 6)),(2,1,(.t 8)),(3,1,(.t 10)),(4,1,(.t 12))])),ba 5 2 13] .ret))
def XX:b5:=cx 18 3 [.t 6] (R [dW 3 353003 0,du 6 false] (R [F 10 1,F 11 2,(cj 12 QM 10 11),F 9 12,bt 13 0 9,bt 14 1 9,(az 7 (.alloc 353007 [(ah 0),.nil,(ah 0),.nil])),ba 4 7 13,F 8 14] (R [bp 15 4 3,bp 16 4 7,(cj 17 QL 15 16),F 6 17] .ret)))
end Go.Mini
namespace Go.Mini
open Go
def C6 (cash:List Int)(cs:List ar)(is:List Int):Bool:=decide (D cash<=5)&&decide (D cs<=8)&&decide (D is<=10)
theorem aw6 {cash:List Int}{cs:List ar}{is:List Int}(h:C6 cash cs is=true):mV cash cs is/\D is<=10:=by
 unfold C6 at h;simp only[e3,decide_eq_true_eq] at h;exact⟨⟨by omega,by omega,by omega⟩,h.2⟩
def XY:=cy Gt λ(cash,cs,is,au,rk)=>some (.same (.bool (C6 cash cs is)))
@[go_sem] theorem aw7 (cash:List Int)(cs:List ar)(is:List Int)(au:Int)(rk:Int):XY [.agg (cE cash cs is au rk)]=some (.same (.bool (C6 cash cs is))):=cK Pl (cash,cs,is,au,rk)
theorem aw8 (T:bk)  (cash:List Int) (cs:List ar) (is:List Int) (au:Int) (rk:Int):WP T Xw (.same (.bool (C6 cash cs is))) [.I (.agg (cE cash cs is au rk))]:=by
 refine cH ?_;simp only[Xw];have E:decide (D cash<=5)=decide ((D cash:Int)<=5):=by rw[pK,decide_eq_true_iff,decide_eq_true_iff];omega
 have H:decide (D cs<=8)=decide ((D cs:Int)<=8):=by rw[pK,decide_eq_true_iff,decide_eq_true_iff];omega
 have ab:decide (D is<=10)=decide ((D is:Int)<=10):=by rw[pK,decide_eq_true_iff,decide_eq_true_iff];omega
 unfold C6;rw[E,H,ab];rcases fE:decide ((D cash:Int)<=5)<;>rcases gF:decide ((D cs:Int)<=8)
 all_goals
      refine a7 ?_;repeat' (intro h<;>simp only[h,go_sem,go_sem_proc,cE,fE,gF,al,iy,Bool.false_and,ju]<;>try refine av ?_ ?_)
def XZ:=cy Gt λ(cash,cs,is,au,rk)=>some (.same (.agg (cE cash cs is au rk)))
@[go_sem] theorem aw9 (cash:List Int)(cs:List ar)(is:List Int)(au:Int)(rk:Int):XZ [.agg (cE cash cs is au rk)]=some (.same (.agg (cE cash cs is au rk))):=cK Pl (cash,cs,is,au,rk)
theorem axa (T:bk)  (cash:List Int) (cs:List ar) (is:List Int) (au:Int) (rk:Int):WP T XW (.same (.agg (cE cash cs is au rk))) [.I (.agg (cE cash cs is au rk))]:=by
 refine cH ?_;simp only[XW];refine a7 ?_;repeat' (intro h<;>simp only[h,go_sem,go_sem_proc,cE]<;>try refine av ?_ ?_)
abbrev X0:Rat×Int->List Data:=λ(x,p)=>[.agg (aK (aE x)),.int .i64 p,.int .i64 1]
def X1:=cy X0 λ(x,p)=>cW (dI x/\dz p) (.same (.bool (decide (x=(p:Rat)))))
theorem axb:∀a b,X0 a=X0 b->a=b:=by
  rintro⟨bh,nI⟩ ⟨cd,nJ⟩ h;simp only[bf,Data.agg.injEq,Data.int.injEq,and_true,true_and] at h;exact Prod.ext (MC (vl _ _ h.1)) h.2
@[go_sem] theorem aiy (x:Rat)(p:Int)(G:dI x/\dz p):X1 [.agg (aK (aE x)),.int .i64 p,.int .i64 1]=some (.same (.bool (decide (x=(p:Rat))))):=(cK axb (x,p)).trans (c6 G _)
theorem axc (T:bk)(axd:T QM=aX M3)(axe:T QL=aX M4)(x:Rat)(p:Int)(G:dI x/\dz p):WP T XX (.same (.bool (decide (x=(p:Rat))))) [.I (.agg (aK (aE x))),.I (.int .i64 p),.I (.int .i64 1)]:=by
 refine cH ?_;simp only[XX];obtain⟨O,aC⟩:=G;have c5:=aw5 aC;have aiz:=aw4 O (rM aC);generalize aE x=cA at *;generalize aE (p:Rat)=P at *;obtain⟨⟨bh,cd⟩,⟨c7,eZ⟩⟩:=cA;obtain⟨⟨nI,nJ⟩,⟨pS,sP⟩⟩:=P;simp only[aK] at c5 aiz;refine a7 ?_;repeat' (intro h<;>simp only[h,go_sem,go_sem_proc,axd,axe,c5,aiz,aK]<;>try refine av ?_ ?_)
end Go.Mini
namespace Go.Mini
open Go
def ny:List ar:=[(0,-1,0,12),(0,-1,0,12)]
theorem Pt {a:Int}{cr:List ar}{j:Nat}(Y:hI [a] cr=true)(nq:∀c∈cr,c.2.1<0){U S m:Int}(E:(cr.getD j fG).1=0)(kY:ca cr (cr.getD j fG).1 (cr.getD j fG).2.2.1=U)(cv:ia cr (cr.getD j fG).1 (cr.getD j fG).2.2.1=S)(hm:(cr.getD j fG).2.2.2=m)(ai:U<=a)(ao:a-U<S):uH [a] cr j=(m:Rat)*((a:Rat)-(U:Rat))/(S:Rat):=by
 have aU:(aB [a] cr).db 0=(a:Rat):=by
  have:=(FJ (JG Y)).1 0 (by show 0<1;omega);unfold Day.pY Day.eG at this
  rw[this,Fm λc G=>by
   obtain⟨x,O,rfl⟩:=fI.1 G;have:=nq x O;exact aa (by show ¬ x.2.1=((0:Nat):Int);omega)]
  rw[pa];rfl
 unfold uH;rw[E,p9,aU]
 have e5:(0:Rat)<=(a:Rat)-(U:Rat):=by
  rw[<-y4];exact_mod_cast (by omega:(0:Int)<=a-U)
 have cF:(a:Rat)-(U:Rat)<(S:Rat):=by
  rw[<-y4];exact Rat.intCast_lt_intCast.2 ao
 rw[afu (by rw[kY];exact e5) (by rw[kY,cv];exact cF),kY,cv,hm]
theorem aiA:jm [10] ny [0,1] 500 1=true:=by decide
theorem X2:mi [10] ny [0,1] 500 1 0=((5:Int):Rat):=by
 unfold mi;rw[show ew ny [0,1] 500 1 (-1) ([0,1]:List Int).length=[(0,-1,1,6),(0,-1,1,6)] by decide,Pt (U:=0) (S:=12) (m:=6) (by decide) (by decide) (by decide) (by decide) (by decide) (by decide) (by decide) (by decide)]
 decide +kernel
theorem axf:mi [10] ny [0,1] 500 1 1=((5:Int):Rat):=by
 unfold mi;rw[show ew ny [0,1] 500 1 (-1) ([0,1]:List Int).length=[(0,-1,1,6),(0,-1,1,6)] by decide,Pt (U:=0) (S:=12) (m:=6) (by decide) (by decide) (by decide) (by decide) (by decide) (by decide) (by decide) (by decide)]
 decide +kernel
theorem aiB:vY [10] ny [0,1] 500 1 0=((10:Int):Rat):=by
 unfold vY;rw[show ew ny [0,1] 500 1 (0:Nat) ([0,1]:List Int).length=[(0,-1,0,12),(0,-1,1,6)] by decide,Pt (U:=0) (S:=12) (m:=12) (by decide) (by decide) (by decide) (by decide) (by decide) (by decide) (by decide) (by decide)]
 decide +kernel
theorem axg:¬ A5 [10] ny [0,1] 500 1 0<=((5:Int):Rat):=by
 unfold A5;rw[show qb ny [0,1] 500 1 0=[(0,-1,1,12),(0,-1,1,6)] by decide,Pt (U:=0) (S:=18) (m:=12) (by decide) (by decide) (by decide) (by decide) (by decide) (by decide) (by decide) (by decide)]
 decide +kernel
theorem aiC:mY [10] ny [0,1] 500 1 0=((5:Int):Rat):=by
 unfold mY;rw[aiB,X2]
 decide +kernel
theorem KH:mV [10] ny [0,1]:=⟨by decide,by decide,by decide⟩
abbrev X3:Unit->List Data:=λ(_:Unit)=>[]
def X4:=cy X3 λ(_:Unit)=>some (.same (.bool true))
theorem axh:∀a b,X3 a=X3 b->a=b:=by
  intro _ _ _;rfl
@[go_sem] theorem axi :X4 []=some (.same (.bool true)):=cK axh ()
theorem axj (T:bk)(qa:T BH=aX KB)(KD:T Ia=aX Pq)(hi:T BI=aX KC)(kn:T Ib=aX Pr)(hh:T yl=aX Gu)(axk:T D3=aX X1):WP T XV (.same (.bool true)) []:=by
 refine cH ?_;simp only[XV];have cF:=XN [10] ny [0,1] 500 1 KH;have dk:=ais [10] ny [0,1] 500 1 0 KH;have dN:=XO [10] ny [0,1] 500 1 0 KH;have hH:=aiv [10] ny [0,1] 500 1 0 KH;have k5:=Pm [10] ny [0,1] 500 1 KH;have i5:dz 5:=qN (by omega) (by omega);have i10:dz 10:=qN (by omega) (by omega);have iv:=aiy ((5:Int):Rat) 5 ⟨rM i5,i5⟩;have jr:=aiy ((10:Int):Rat) 10 ⟨rM i10,i10⟩;rw[kH rfl] at iv jr;unfold C4 at cF;unfold GC at dk;unfold C5 at dN;unfold GF at hH;rw[Z aiA] at cF dk dN hH;rw[aiA] at k5;rw[Z (by decide)] at dk dN hH;rw[p9] at dk dN hH
 have b9:rU [10] ny [0,1] 500 1 ([0,1]:List Int).length=[aE ((5:Int):Rat),aE ((5:Int):Rat)]:=by
  show [aE (mi [10] ny [0,1] 500 1 0),aE (mi [10] ny [0,1] 500 1 1)]=_;rw[X2,axf]
 rw[b9] at cF;rw[aiB] at dk;rw[aiC,kH (by decide:(0:Rat)<((5:Int):Rat))] at dN;rw[aiC,Z (by decide:(0:Rat)<((5:Int):Rat)),X2,aa axg] at hH;generalize aE ((5:Int):Rat)=E5 at *;generalize aE ((10:Int):Rat)=E10 at *;obtain⟨⟨c5,dK⟩,⟨fl,fP⟩⟩:=E5;obtain⟨⟨dR,gQ⟩,⟨ox,s8⟩⟩:=E10;simp only[cE,ny,aK,eY,cg,af,bE] at cF dk dN hH k5 iv jr;have qB:(((2:Nat):Int)==2)=true:=rfl;refine a7 ?_;repeat' (intro h<;>simp only[h,go_sem,go_sem_proc,qa,KD,hi,kn,hh,axk,cF,dk,dN,hH,k5,iv,jr,qB,show ((0:Int)<=1)=True from eq_true (by decide),show Int.toNat 1=1 from rfl,aK,eY,cg,kJ,mu,bne,beq_self_eq_true,cR,List.getElem?_cons_zero,List.getElem?_cons_succ,p9]<;>try refine av ?_ ?_)
end Go.Mini
namespace Go.Mini
open Go
theorem axl {at_:Nat}{n:Nat}(h:0<n):((at_:Int)).tmod (n:Int)=((at_%n:Nat):Int):=by
 rw[zZ (by omega)];rfl
theorem axm {x:Rat}(h:x<=0):decide (x.num.sign<=0)=true:=by rw[asz];exact kH h
abbrev X5:(List Int)×(List ar)×(List Int)×Int×Int×Nat->List Data:=λ(cash,cs,is,au,rk,a)=>[.agg (cE cash cs is au rk),.int .u8 (a:Int)]
def X6:=cy X5 λ(cash,cs,is,au,rk,a)=>cW (a<=255) (.same (.bool true))
theorem axn:∀a b,X5 a=X5 b->a=b:=by
  rintro⟨OP,Kl,XA,XB,XC,c5⟩ ⟨OQ,wv,XD,XE,XF,dK⟩ h;simp only[bf,Data.agg.injEq,Data.int.injEq,and_true,true_and] at h;obtain⟨cG,cO⟩:=h;obtain⟨rfl,rfl,rfl,rfl,rfl⟩:=Ph cG;rw[Int.ofNat.inj cO]
@[go_sem] theorem axo (cash:List Int)(cs:List ar)(is:List Int)(au:Int)(rk:Int)(a:Nat)(G:a<=255):X6 [.agg (cE cash cs is au rk),.int .u8 (a:Int)]=some (.same (.bool true)):=(cK axn (cash,cs,is,au,rk,a)).trans (c6 G _)
theorem axp (T:bk)(ld:T Re=aX X4)(lf:T Rg=aX XZ)(lg:T Rf=aX XY)(hh:T yl=aX Gu)(hi:T BI=aX KC)(kn:T Ib=aX Pr)(cash:List Int)(cs:List ar)(is:List Int)(au:Int)(rk:Int)(a:Nat)(G:a<=255):WP T XU (.same (.bool true)) [.I (.agg (cE cash cs is au rk)),.I (.int .u8 (a:Int))]:=by
 refine cH ?_;simp only[XU];have rN:=axi;have cG:=aw7 cash cs is au rk;have bG:=aw9 cash cs is au rk;simp only[cE] at cG bG;rcases aJ:C6 cash cs is
 ·rw[aJ] at cG;simp only[go_sem,go_sem_proc,ld,lf,lg,hh,hi,kn,rN,cG,bG,cE,dc];repeat' (first|refine av ?_ ?_|fail)<;>intro h<;>simp only[h,go_sem,go_sem_proc,ld,lf,lg,hh,hi,kn,rN,cG,bG,cE,dc]
 rw[aJ] at cG;obtain⟨G,fH⟩:=aw6 aJ;have uD:=Pm cash cs is au rk G;rcases km:jm cash cs is au rk
 ·rw[km] at uD;simp only[cE] at uD;simp only[go_sem,go_sem_proc,ld,lf,lg,hh,hi,kn,rN,cG,bG,uD,cE,dc,cR];repeat' (first|refine av ?_ ?_|fail)<;>intro h<;>simp only[h,go_sem,go_sem_proc,ld,lf,lg,hh,hi,kn,rN,cG,bG,uD,cE,dc,cR]
 rw[km] at uD;have jS:=Gs.1 km;have bP:=jS.ne;have d0:((D is:Int)==0)=false:=by rw[beq_eq_false_iff_ne];omega
 rcases fE:decide (au<1000)
 case true =>
  simp only[cE] at uD;simp only[go_sem,go_sem_proc,ld,lf,lg,hh,hi,kn,rN,cG,bG,uD,d0,fE,cE,cR,al];repeat' (first|refine av ?_ ?_|fail)<;>intro h<;>simp only[h,go_sem,go_sem_proc,ld,lf,lg,hh,hi,kn,rN,cG,bG,uD,d0,fE,cE,cR,al]
 have hw:1000<=au:=by have:=of_decide_eq_false fE;omega
 have tx:=G;obtain⟨aG,hS,B6⟩:=G;have pS:=XO cash cs is au rk (a%(D is):Nat) tx;have sP:=aiv cash cs is au rk (a%(D is):Nat) tx;simp only[cE] at pS sP uD;simp only[go_sem,go_sem_proc,ld,lf,lg,hh,hi,kn,rN,cG,bG,uD,d0,fE,cE,cR,al];refine dG [1,2,5,6] [335002,335006,335012] (λ(k:Nat) tm m=>k<=D is/\tm 7=.I (.int .i64 k)/\∀j,j<k->rk<=(cs.getD (is.getD j 0).toNat fG).2.2.1) (λk=>D is-k) 0 (by refine⟨by omega,rfl,λj ag=>by omega⟩) ?_;intro vs ms aV aS;simp only[go_sem,go_sem_proc,ld,lf,lg,hh,hi,kn,cE,al] at aV aS;subst aV aS;rintro k tm m J hm ⟨L,b1,eA⟩;simp only[go_sem,go_sem_proc,ld,lf,lg,hh,hi,kn,bf] at J hm;obtain⟨aA,ay,dC,bL⟩:=J;obtain⟨bY,l6,qc⟩:=hm;rcases dX (k<D is) with ao|cf
 ·have d1:decide ((k:Int)<(D is:Int))=true:=dn;have cl:=gu (i:=k) (by omega);obtain⟨i,O⟩:∃i,is[k]?=some i:=⟨_,bx ao⟩;have lI:=pe (d:=0) O;have fg:=jS.bG k ao;have bJ:=jS.get ao;rw[lI] at fg bJ;obtain⟨n,rfl⟩:∃n:Nat,i=(n:Int):=⟨i.toNat,by omega⟩
  rw[gZ] at bJ
  have fV:rk<=(cs.getD n fG).2.2.1->∀j,j<k+1->rk<=(cs.getD (is.getD j 0).toNat fG).2.2.1:=λh j ag=>by
   by_cases eR:j=k
   ·rw[eR,lI,gZ];exact h
   ·exact eA j (by omega)
  have lP:decide ((n:Int)<0)=false:=dr;have uI:decide ((n:Int)>=(D cs:Int))=false:=dr;have iX:n<D cs:=by omega
  generalize cs.getD n fG=c at *;obtain⟨aH,c2,c3,c4⟩:=c;dsimp only at fV;rcases q:decide (c3<rk)
  ·have n6:=fV (by have:=of_decide_eq_false q;omega);simp only[go_sem,go_sem_proc,ld,lf,lg,hh,hi,kn,aA,ay,dC,bL,b1,bY,l6,qc,O,bJ,d1,cl,lP,uI,q,bE,af,al,bd];repeat' (first|refine av ?_ ?_|fail)<;>intro h<;>simp only[h,go_sem,go_sem_proc,ld,lf,lg,hh,hi,kn,aA,ay,dC,bL,b1,bY,l6,qc,O,bJ,d1,cl,lP,uI,q,bE,af,al,bd]
   exact⟨k+1,by omega,by omega,rfl,n6⟩
  ·simp only[go_sem,go_sem_proc,ld,lf,lg,hh,hi,kn,aA,ay,dC,bL,b1,bY,l6,qc,O,bJ,d1,lP,uI,q,bE,af,al,bd];repeat' (first|refine av ?_ ?_|fail)<;>intro h<;>simp only[h,go_sem,go_sem_proc,ld,lf,lg,hh,hi,kn,aA,ay,dC,bL,b1,bY,l6,qc,O,bJ,d1,lP,uI,q,bE,af,al,bd]
 have d1:decide ((k:Int)<(D is:Int))=false:=dr;obtain rfl:k=D is:=by omega
 obtain⟨i0,hV⟩:∃i,is[0]?=some i:=⟨_,bx (by omega)⟩;have Kx:=pe (d:=0) hV;have axq:=jS.bG 0 (by omega);have CR:=jS.get (k:=0) (by omega);rw[Kx] at axq CR;obtain⟨XG,rfl⟩:∃n:Nat,i0=(n:Int):=⟨i0.toNat,by omega⟩
 rw[gZ] at CR;obtain⟨⟨gD,iC,ux,AX⟩,aR⟩:∃z,cs.getD XG fG=z:=⟨_,rfl⟩;rw[aR] at CR;have lv:0<D is:=by omega
 simp only[go_sem,go_sem_proc,ld,lf,lg,hh,hi,kn,aA,ay,dC,bL,b1,bY,l6,qc,d1,hV,CR,lv,bE,af,al,bd,p9];clear d1 b1 L cf;refine dG [1,2,5,6,8] [335002,335006,335012] (λ(j:Nat) tm m=>j<=D cs/\tm 9=.I (.int .i64 j)/\∀c∈cs.take j,c.1=gD->c.2.1<0) (λj=>D cs-j) 0 (by refine⟨by omega,rfl,λc G=>by rw[nK] at G;cases G⟩) ?_;intro vs ms aV aS;simp only[go_sem,go_sem_proc,ld,lf,lg,hh,hi,kn,aA,ay,dC,bL,bY,l6,qc,al] at aV aS;subst aV aS;clear aA ay dC bL bY l6 qc;rintro j tm m J hm ⟨L,fb,nq⟩;simp only[go_sem,go_sem_proc,ld,lf,lg,hh,hi,kn,bf] at J hm;obtain⟨aA,ay,dC,bL,dq⟩:=J;obtain⟨bY,l6,qc⟩:=hm;rcases dX (j<D cs) with ao|cf
 ·have d1:decide ((j:Int)<(D cs:Int))=true:=dn;have cl:=gu (i:=j) (by omega);obtain⟨⟨aH,c2,c3,c4⟩,O⟩:∃c,cs[j]?=some c:=⟨_,bx ao⟩;have l1:cs.take (j+1)=cs.take j++[(aH,c2,c3,c4)]:=by rw[List.take_add_one,O];rfl
  have fV:(aH=gD->c2<0)->∀c∈cs.take (j+1),c.1=gD->c.2.1<0:=λh c G X7=>by
   rw[l1] at G;rcases iw.1 G with G|G
   ·exact nq c G X7
   ·rw[List.mem_singleton.1 G] at X7 ⊢;exact h X7
  rcases fE:(aH==gD)
  ·have n6:=fV λh=>absurd h (by simpa using fE);simp only[go_sem,go_sem_proc,ld,lf,lg,hh,hi,kn,aA,ay,dC,bL,dq,fb,bY,l6,qc,O,d1,cl,fE,bE,al,bd];repeat' (first|refine av ?_ ?_|fail)<;>intro h<;>simp only[h,go_sem,go_sem_proc,ld,lf,lg,hh,hi,kn,aA,ay,dC,bL,dq,fb,bY,l6,qc,O,d1,cl,fE,bE,al,bd]
   exact⟨j+1,by omega,by omega,rfl,n6⟩
  ·rcases gF:decide (c2>=0)
   ·have n6:=fV λ_=>by have:=of_decide_eq_false gF;omega
    simp only[go_sem,go_sem_proc,ld,lf,lg,hh,hi,kn,aA,ay,dC,bL,dq,fb,bY,l6,qc,O,d1,cl,fE,gF,bE,al,bd];repeat' (first|refine av ?_ ?_|fail)<;>intro h<;>simp only[h,go_sem,go_sem_proc,ld,lf,lg,hh,hi,kn,aA,ay,dC,bL,dq,fb,bY,l6,qc,O,d1,cl,fE,gF,bE,al,bd]
    exact⟨j+1,by omega,by omega,rfl,n6⟩
   ·simp only[go_sem,go_sem_proc,ld,lf,lg,hh,hi,kn,aA,ay,dC,bL,dq,fb,bY,l6,qc,O,d1,fE,gF,bE,al,bd];repeat' (first|refine av ?_ ?_|fail)<;>intro h<;>simp only[h,go_sem,go_sem_proc,ld,lf,lg,hh,hi,kn,aA,ay,dC,bL,dq,fb,bY,l6,qc,O,d1,fE,gF,bE,al,bd]
 have d1:decide ((j:Int)<(D cs:Int))=false:=dr;obtain rfl:j=D cs:=by omega
 rw[List.take_length] at nq;have lS:a%(D is)<D is:=Nat.mod_lt _ bP
 have aU:mY cash cs is au rk (a%(D is))<=0:=by
  have:=none_le jS lS hw (eA _ lS) (λc G h=>nq c G (by rw[h,Kx,gZ,aR]));unfold mY;grind
 have aiD:IntKind.i64.wrap (a:Int)=(a:Int):=by rw[eC _]
 have wr:(a:Int).tmod (D is:Int)=((a%(D is):Nat):Int):=axl bP;have aDX:((D is:Int)==0)=false:=d0;have KA:(D is:Int)≠0:=by omega
 unfold C5 at pS;unfold GF at sP;rw[Z km,Z ⟨by omega,by omega⟩,gZ,oE (by grind)] at pS
 rw[Z km,Z ⟨by omega,by omega⟩,gZ,aa (by grind)] at sP
 have w8:(aE (mY cash cs is au rk (a%(D is)))).1.1=(mY cash cs is au rk (a%(D is))).num.sign:=rfl;have K4:=axm aU;generalize aE (mY cash cs is au rk (a%(D is)))=bz at *;generalize (mY cash cs is au rk (a%(D is))).num.sign=pP at *;generalize a%(D is)=A at *;obtain⟨⟨dR,gQ⟩,⟨ox,s8⟩⟩:=bz;dsimp only at w8;subst w8;simp only[aK] at pS;simp only[go_sem,go_sem_proc,ld,lf,lg,hh,hi,kn,aA,ay,dC,bL,dq,fb,bY,l6,qc,d1,aiD,wr,KA,d0,pS,sP,K4,aK,al,bne,beq_self_eq_true,cR,dc];repeat' (first|refine av ?_ ?_|fail)<;>intro h<;>simp only[h,go_sem,go_sem_proc,ld,lf,lg,hh,hi,kn,aA,ay,dC,bL,dq,fb,bY,l6,qc,d1,aiD,wr,KA,d0,pS,sP,K4,aK,al,bne,beq_self_eq_true,cR,dc]
end Go.Mini
namespace Go.Mini
open Go Go.Proofs
theorem mixed:Tryz.prog.follows .mixedOrders=true:=by kernel_rfl
abbrev X8:Option et->(et->Prop)->Prop
 |some r,aF=>aF r
 |none,_=>True
theorem c9 {c:Prop}{r:et}{aF:et->Prop}(h:c->aF r):X8 (cW c r) aF:=by
 by_cases G:c
 ·rw[c6 G];exact h G
 ·have:cW c r=none:=aa G;rw[this];trivial
abbrev cJ:=sg Tryz.prog
theorem zh (mf : b5)(kb : Nat)(own : List Nat){α : Type}{args : α -> List Data}{res : α -> Option et}{l : List (FuncId × (List Data -> Option et))}{e : List (FuncId × (List M -> Mem -> Option gO))}(aq : ∀ p ∈ l, sg Tryz.prog p.1 p.2)(he : ∀ p ∈ e, mH Tryz.prog p.1 p.2){f : FuncId}{fn : Func}(aJ : Tryz.prog.funcs[f]? = some fn)(h : ∀ a, X8 (res a) fun r => Nat.ble (args a).length mf.n = true /\ wp (vq (Lz l) (M6 e)) mf.body (zK mf.res r) ⟨mj ((args a).map .I), emp⟩)(aG : (fn.name == "runtime.NumGoroutine", rY Tryz.prog kb own fn) = (false, some { mf with body := erase mf.body }) := by kernel_rfl): cJ f (cy args res) := ak7 (xg (wz aq) (xh he)) mixed aJ (congrArg Prod.fst aG) (congrArg Prod.snd aG) fun ds r Y => by
 obtain⟨a,rfl,H⟩:=aln Y;have ab:=h a;rw[H] at ab;exact⟨zi ab.1,ab.2⟩
theorem cY (mf : b5)(kb : Nat)(own : List Nat){α : Type}{args : α -> List Data}{res : α -> Option et}{l : List (FuncId × (List Data -> Option et))}(aq : ∀ p ∈ l, sg Tryz.prog p.1 p.2){f : FuncId}{fn : Func}(aJ : Tryz.prog.funcs[f]? = some fn)(h : ∀ a, X8 (res a) fun r => Nat.ble (args a).length mf.n = true /\ wp (vq (Lz l) (M6 [])) mf.body (zK mf.res r) ⟨mj ((args a).map .I), emp⟩)(aG : (fn.name == "runtime.NumGoroutine", rY Tryz.prog kb own fn) = (false, some { mf with body := erase mf.body }) := by kernel_rfl): cJ f (cy args res) := zh mf kb own aq ou aJ h aG
theorem bn {kO:FuncId->Option (List Data->Option et)}{ry:FuncId->Option (List M->Mem->Option gO)}{f:FuncId}{aO:List Data->Option et}(E:ry f=none:=by rfl)(H:kO f=some aO:=by rfl):vq kO ry f=aX aO:=o3 E H
theorem GI:cJ pE ym:=cY BK 177000 [] cu Tryz.func130 λbb=>c9 λG=>⟨rfl,al2 _  bb G⟩
theorem GJ:mH Tryz.prog pE (zP tL):=HS.ack (Z8 (mf:=BK) (kb:=177000) (own:=[]) (xg (wz cu) (xh ou)) mixed Tryz.func130 (by kernel_rfl) (by kernel_rfl) λargs mem x h=>by
 obtain⟨a,⟨rfl,hm,aq⟩,rfl⟩:=QG h;exact⟨zi rfl,al3 _ a.l a.k a.g mem hm aq⟩)
theorem axr:cJ LN RR:=cY RD 184000 [] cu Tryz.func132 λbb=>⟨rfl,al4 _  bb⟩
theorem aiE:cJ DZ LX:=cY RB 174000 [] (a8 axr cu) Tryz.func88 fun⟨bb,bh⟩=>⟨rfl,al5 _ bn bb bh⟩
theorem axs:cJ Q4 RT:=cY RC 179000 [] cu Tryz.func151 λbb=>c9 λG=>⟨rfl,al8 _  bb G⟩
theorem Pu:cJ wF BM:=cY RK 156000 [5] cu Tryz.func109 λbb=>c9 λG=>⟨rfl,ama _  bb G⟩
theorem zj:cJ j4 u2:=cY Rk 136000 [] cu Tryz.func81 fun⟨bb,bh⟩=>c9 λG=>⟨rfl,amb _  bb bh G⟩
theorem GK:cJ oe zV:=zh Rt 158000 [] (a8 GI cu) (rz GJ ou) Tryz.func85 fun⟨bb,bh⟩=>c9 λG=>⟨rfl,amd _ (EW rfl rfl) bb bh G⟩
theorem X9:cJ BE Ir:=cY Rz 175000 [] (a8 aiE cu) Tryz.func89 fun⟨bb,bh⟩=>c9 λG=>⟨rfl,amg _ bn bb bh G⟩
theorem aiF:cJ H0 L0:=zh Rx 172000 [] (a8 GI cu) (rz GJ ou) Tryz.func86 fun⟨bb,bh⟩=>c9 λG=>⟨rfl,amh _ (EW rfl rfl) bb bh G⟩
theorem aiG:cJ DY L1:=zh Ry 173000 [10] (a8 Pu (a8 GI cu)) (rz GJ ou) Tryz.func87 fun⟨bb,bh⟩=>c9 λG=>⟨rfl,amj _ bn (EW rfl rfl) bb bh G⟩
theorem aiH:cJ DX L2:=zh Rw 161000 [] (a8 GI cu) (rz GJ ou) Tryz.func115 fun⟨bb,bh⟩=>c9 λG=>⟨rfl,amm _ (EW rfl rfl) bb bh G⟩
theorem axt:cJ LM R6:=zh RA 176000 [] (a8 GI cu) (rz GJ ou) Tryz.func129 fun⟨bb,bh⟩=>c9 λG=>⟨rfl,amo _ (EW rfl rfl) bb bh G⟩
theorem axu:mH Tryz.prog Q3 (zP Iw):=HS.ack (Z8 (mf:=LS) (kb:=178000) (own:=[]) (xg (wz cu) (xh ou)) mixed Tryz.func131 (by kernel_rfl) (by kernel_rfl) λargs mem x h=>by
 obtain⟨a,⟨rfl,G⟩,rfl⟩:=QG h;exact⟨zi rfl,amw _ a mem G⟩)
theorem aiI:cJ HY L8:=zh Rs 157000 [54] (a8 X9 (a8 Pu (a8 axt (a8 GI (a8 aiH cu))))) (rz GJ (rz axu ou)) Tryz.func84 fun⟨bb,bh⟩=>c9 λG=>⟨rfl,amH _ bn bn bn (EW rfl rfl) bn (Aq rfl rfl) bb bh G⟩
theorem Ya:cJ tH IB:=cY Rr 155000 [] cu Tryz.func114 fun⟨bb,bh,cd⟩=>⟨rfl,anh _  bb bh cd⟩
theorem aiJ:cJ DW Mr:=cY Ro 152000 [] (a8 zj (a8 Pu (a8 GK cu))) Tryz.func70 fun⟨bb,bh⟩=>c9 λG=>⟨rfl,ani _ bn bn bn bb bh G⟩
theorem Pv:cJ tG Ew:=cY Rm 140000 [] (a8 zj (a8 aiH (a8 GK (a8 Ya cu)))) Tryz.func57 fun⟨bb,bh,cd,c7⟩=>c9 λG=>⟨rfl,anj _ bn bn bn bn bb bh cd c7 G⟩
theorem axv:cJ Q0 SA:=cY Rv 160000 [] (a8 zj (a8 axs (a8 aiF (a8 aiG (a8 X9 (a8 GK (a8 Ya cu))))))) Tryz.func113 fun⟨bb,bh,cd,c7⟩=>c9 λG=>⟨rfl,ank _ bn bn bn bn bn bn bn bb bh cd c7 G⟩
theorem axw:cJ QY SB:=cY Rq 154000 [] (a8 zj (a8 aiE (a8 X9 cu))) Tryz.func44 fun⟨bb,bh,cd,c7⟩=>c9 λG=>⟨rfl,anl _ bn bn bn bb bh cd c7 G⟩
theorem aiK:cJ HW Mv:=cY Rl 137000 [] (a8 zj (a8 Pu (a8 aiI (a8 GK (a8 Ya cu))))) Tryz.func82 fun⟨bb,bh,cd,c7⟩=>c9 λG=>⟨rfl,anm _ bn bn bn bn bn bb bh cd c7 G⟩
theorem aiL:cJ BC My:=cY Rp 153000 [] (a8 zj (a8 aiI (a8 aiF (a8 aiG (a8 GK cu))))) Tryz.func43 fun⟨bb,bh,cd,c7⟩=>c9 λG=>⟨rfl,ano _ bn bn bn bn bn bb bh cd c7 G⟩
theorem axx:cJ LJ SH:=cY Rn 150000 [] (a8 GK cu) Tryz.func136 λbb=>c9 λG=>⟨rfl,ant _ bn bb G⟩
theorem axy:cJ QZ SI:=cY Ru 159000 [] (a8 zj cu) Tryz.func128 fun⟨bb,bh⟩=>c9 λG=>⟨rfl,anw _ bn bb bh G⟩
theorem axz:cJ QR SY:=cY SS 138000 [] (a8 axy cu) Tryz.func83 fun⟨bb,bh⟩=>c9 λG=>⟨rfl,anB _ bn bb bh G⟩
theorem C7:cJ m6 yG:=cY SM 116000 [] (a8 zj (a8 aiK (a8 axz cu))) Tryz.func42 fun⟨bb,bh,cd,c7⟩=>c9 λG=>⟨rfl,anC _ bn bn bn bb bh cd c7 G⟩
theorem aiM:cJ HX MG:=cY SW 149000 [] (a8 zj (a8 aiJ (a8 aiK (a8 aiL cu)))) Tryz.func116 fun⟨bb,bh,cd,c7⟩=>c9 λG=>⟨rfl,anE _ bn bn bn bn bb bh cd c7 G⟩
theorem Yb:cJ BA IW:=cY SO 130000 [] (a8 axx (a8 aiM cu)) Tryz.func94 fun⟨bb,bh⟩=>c9 λG=>⟨rfl,anG _ bn bn bb bh G⟩
theorem axA:cJ QS S5:=cY SU 139000 [] (a8 Pv (a8 axv cu)) Tryz.func56 fun⟨bb,bh,cd,c7,eZ,ij,ph,nw⟩=>c9 λG=>⟨rfl,anT _ bn bn bb bh cd c7 eZ ij ph nw G⟩
theorem Yc:cJ BB IY:=cY SV 141000 [] (a8 aiM cu) Tryz.func58 fun⟨bb,bh,cd,c7,eZ,ij⟩=>c9 λG=>⟨rfl,anV _ bn bb bh cd c7 eZ ij G⟩
theorem Yd:cJ zQ Cc:=cY SN 119000 [] (a8 C7 (a8 axA (a8 Pv (a8 Yc cu)))) Tryz.func28 fun⟨bb,bh,cd,c7,eZ,ij,ph,nw⟩=>c9 λG=>⟨rfl,anY _ bn bn bn bn bb bh cd c7 eZ ij ph nw G⟩
theorem Pw:cJ tF w3:=cY SP 132000 [] (a8 C7 (a8 aiJ (a8 Yd cu))) Tryz.func37 fun⟨bb,bh,cd,c7,eZ,ij,ph,nw⟩=>c9 λG=>⟨rfl,an0 _ bn bn bn bb bh cd c7 eZ ij ph nw G⟩
theorem Ye:cJ u0 w5:=cY SQ 134000 [] (a8 C7 (a8 Pv (a8 Yc cu))) Tryz.func135 fun⟨bb,bh,cd,c7,eZ,ij,ph,nw⟩=>c9 λG=>⟨rfl,an2 _ bn bn bn bb bh cd c7 eZ ij ph nw G⟩
theorem aiN:cJ BD Cd:=cY SX 169000 [] (a8 C7 (a8 Pv (a8 Yc cu))) Tryz.func139 fun⟨bb,bh,cd,c7,eZ,ij,ph,nw⟩=>c9 λG=>⟨rfl,an4 _ bn bn bn bb bh cd c7 eZ ij ph nw G⟩
theorem KI:cJ qt vj:=cY SR 135000 [] (a8 C7 (a8 aiL (a8 axw cu))) Tryz.func24 fun⟨bb,bh,cd,c7,eZ,ij,ph,nw⟩=>c9 λG=>⟨rfl,aoa _ bn bn bn bb bh cd c7 eZ ij ph nw G⟩
theorem aiO:cJ mA MN:=cY Th 125000 [] (a8 C7 cu) Tryz.func196 fun⟨bb,bh,cd,c7⟩=>c9 λG=>⟨rfl,aog _ bn bb bh cd c7 G⟩
theorem axB:cJ QV Ts:=cY RI 146000 [] (a8 aiO cu) Tryz.func166 fun⟨bb,bh⟩=>c9 λG=>⟨rfl,aoh _ bn bb bh G⟩
theorem axC:cJ QO Tt:=cY RF 128000 [] (a8 axB cu) Tryz.func142 fun⟨bb,bh⟩=>c9 λG=>⟨rfl,aoi _ bn bb bh G⟩
theorem axD:cJ zR Tv:=cY Ti 127000 [] (a8 aiO (a8 axC cu)) Tryz.func198 fun⟨bb,bh,cd,c7,eZ,ij⟩=>c9 λG=>⟨rfl,aol _ bn bn bb bh cd c7 eZ ij G⟩
theorem axE:cJ QU Tx:=cY RH 145000 [] (a8 axD cu) Tryz.func203 fun⟨bb,bh⟩=>c9 λG=>⟨rfl,aom _ bn bb bh G⟩
theorem axF:cJ QN Ty:=cY RE 126000 [] (a8 axE cu) Tryz.func197 fun⟨bb,bh⟩=>c9 λG=>⟨rfl,aon _ bn bb bh G⟩
theorem axG:cJ QJ Tz:=cY Tf 108000 [] (a8 axF cu) Tryz.func183 fun⟨bb,bh⟩=>c9 λG=>⟨rfl,aop _ bn bb bh G⟩
theorem axH:mH Tryz.prog zS (Ap yR):=ao0 (mf:=ML) (kb:=168000) (own:=[]) (xg (wz cu) (xh ou)) mixed Tryz.func205 (by kernel_rfl) (by kernel_rfl) M8 λargs mem r k g i d h=>by
 obtain⟨E,H,ab,aM,bj⟩:=ao2 _ args mem r k g i d h;exact⟨E,H,ab,aM,bj⟩
theorem axI:cJ HZ M7:=cY Tj 167000 [] cu Tryz.func204 fun⟨bb,bh,cd,c7⟩=>⟨rfl,Jg _  bb bh cd c7⟩
theorem axJ:mH Tryz.prog QW (xe Jq):=Ua (mf:=xa) (kb:=148000) (own:=[3000106,3000165,3000169]) (xg (wz (a8 axI (a8 aiN (a8 Pw (a8 Ye cu))))) (xh (rz axH ou))) mixed Tryz.func200 (by kernel_rfl) (by kernel_rfl) λargs mem bZ h=>by
 obtain⟨a,rfl,⟨E,H,ab,aM,bj,bH,bA⟩,rfl⟩:=apL h;exact⟨zi rfl,apz _ (o3 rfl rfl) (Aq rfl rfl) (o3 rfl rfl) (o3 rfl rfl) (o3 rfl rfl) a.go a.N a.rows a.r a.c mem E H ab aM bj bH bA⟩
theorem axK:cJ LI Nj:=cY RJ 147000 [5] cu Tryz.func199 λbb=>c9 λG=>⟨rfl,apN _  bb G⟩
theorem axL:cJ QP Np:=zh I6 129000 [29,34] (a8 axK cu) (rz axJ ou) Tryz.func184 fun⟨bb,bh,cd⟩=>c9 λG=>⟨rfl,ap2 _ bn (Aq rfl rfl) bb bh cd G⟩
theorem axM:cJ QK UG:=cY Tg 109000 [] (a8 axG (a8 axL cu)) Tryz.func164 fun⟨bb,bh⟩=>c9 λG=>⟨rfl,ap8 _ bn bn bb bh G⟩
theorem axN:cJ Q2 UM:=cY UK 171000 [] cu Tryz.func195 λbb=>c9 λG=>⟨rfl,aqc _  bb G⟩
theorem axO:cJ QX UN:=cY UJ 151000 [] (a8 axN cu) Tryz.func182 λbb=>c9 λG=>⟨rfl,aqd _ bn bb G⟩
theorem axP:cJ QQ UQ:=cY RG 131000 [] (a8 axO cu) Tryz.func163 fun⟨bb,bh,cd,c7,eZ⟩=>c9 λG=>⟨rfl,aqn _ bn bb bh cd c7 eZ G⟩
theorem KJ:cJ sk Am:=cY TI 183000 [18] cu Tryz.func127 λbb=>c9 λG=>⟨rfl,aor _  bb G⟩
theorem Px:cJ sl EK:=cY TL 187000 [] cu Tryz.func162 fun⟨bb,bh⟩=>c9 λG=>⟨rfl,aou _  bb bh G⟩
theorem axQ:cJ LO MV:=cY TJ 185000 [] (a8 Px cu) Tryz.func161 fun⟨bb,bh⟩=>c9 λG=>⟨rfl,aow _ bn bb bh G⟩
theorem axR:cJ Q5 TQ:=cY TG 181000 [] (a8 Px (a8 KJ cu)) Tryz.func125 fun⟨bb,bh⟩=>c9 λG=>⟨rfl,aoy _ bn bn bb bh G⟩
theorem aiP:cJ H3 MW:=cY TH 182000 [] (a8 Px (a8 KJ cu)) Tryz.func126 fun⟨bb,bh⟩=>c9 λG=>⟨rfl,aoz _ bn bn bb bh G⟩
theorem axS:cJ H4 MX:=cY TK 186000 [] (a8 Px (a8 KJ cu)) Tryz.func122 fun⟨bb,bh⟩=>c9 λG=>⟨rfl,aoA _ bn bn bb bh G⟩
theorem aiQ:cJ H2 MY:=cY I8 180000 [26] (a8 KJ (a8 axS (a8 axQ (a8 aiP cu)))) Tryz.func124 fun⟨bb,bh⟩=>c9 λG=>⟨rfl,aoH _ bn bn bn bn bb bh G⟩
theorem Py:cJ tJ ER:=cY TF 166000 [] (a8 KJ cu) Tryz.func80 fun⟨bb,bh⟩=>c9 λG=>⟨rfl,aoJ _ bn bb bh G⟩
theorem Pz:cJ tI ES:=cY TB 162000 [] cu Tryz.func76 fun⟨bb,bh⟩=>c9 λG=>⟨rfl,aoK _  bb bh G⟩
theorem axT:cJ LK TY:=cY TC 163000 [] (a8 Pz (a8 Py cu)) Tryz.func77 fun⟨bb,bh⟩=>c9 λG=>⟨rfl,aoL _ bn bn bb bh G⟩
theorem axU:cJ LH TZ:=cY TA 144000 [] (a8 Py cu) Tryz.func41 λbb=>c9 λG=>⟨rfl,aoM _ bn bb G⟩
theorem axV:cJ Q1 T0:=cY TD 164000 [] (a8 Pz (a8 aiQ (a8 Py cu))) Tryz.func78 fun⟨bb,bh,cd,c7⟩=>c9 λG=>⟨rfl,aoO _ bn bn bn bb bh cd c7 G⟩
theorem axW:cJ LL T1:=cY TE 165000 [] (a8 Pz (a8 aiQ (a8 axR (a8 aiP (a8 Py cu))))) Tryz.func79 fun⟨bb,bh,cd,c7⟩=>c9 λG=>⟨rfl,aoP _ bn bn bn bn bn bb bh cd c7 G⟩
theorem axX:cJ QT T6:=cY T5 143000 [] (a8 Pz (a8 axT (a8 axV (a8 axW cu)))) Tryz.func40 fun⟨bb,bh,cd,c7⟩=>c9 λG=>⟨rfl,aoQ _ bn bn bn bn bb bh cd c7 G⟩
theorem axY:cJ QM M3:=cY T3 124000 [] (a8 axU (a8 axX cu)) Tryz.func23 fun⟨bb,bh⟩=>c9 λG=>⟨rfl,aoS _ bn bn bb bh G⟩
theorem axZ:cJ LG T7:=cY T4 142000 [] cu Tryz.func32 fun⟨bb,bh,cd,c7⟩=>c9 λG=>⟨rfl,aoV _  bb bh cd c7 G⟩
theorem ax0:cJ QL M4:=cY T2 120000 [] (a8 axZ cu) Tryz.func15 fun⟨bb,bh,cd,c7,eZ,ij,ph,nw⟩=>c9 λG=>⟨rfl,aoX _ bn bb bh cd c7 eZ ij ph nw G⟩
theorem GL:cJ og ur:=cY Tl 230000 [] (a8 Yb cu) Tryz.func48 λbb=>c9 λG=>⟨rfl,ar3 _ bn bb G⟩
theorem ax1:cJ wG JU:=cY VT 241000 [] (a8 Yb cu) Tryz.func137 λbb=>c9 λG=>⟨rfl,ar5 _ bn bb G⟩
theorem aiR:cJ tK Oe:=cY Tn 243000 [] cu Tryz.func90 fun⟨bb,bh,cd⟩=>⟨rfl,asW _  bb bh cd⟩
theorem ax2:cJ H6 Wi:=cY To 244000 [] (a8 aiR cu) Tryz.func91 λbb=>⟨rfl,asZ _ bn bb⟩
theorem ax3:cJ H7 Wl:=cY Tp 245000 [] (a8 aiR cu) Tryz.func92 fun⟨bb,bh,cd,c7,eZ⟩=>c9 λG=>⟨rfl,as2 _ bn bb bh cd c7 eZ G⟩
theorem ax4:cJ H5 WY:=cY Tm 232000 [] (a8 GL (a8 KI cu)) Tryz.func50 fun⟨bb,bh,cd⟩=>c9 λG=>⟨rfl,auy _ bn bn bb bh cd G⟩
theorem PA:cJ rh Gd:=cY WS 355000 [] cu Tryz.func31 fun⟨bb,bh,cd⟩=>⟨rfl,auz _  bb bh cd⟩
theorem aiS:cJ wH OJ:=cY WV 361000 [] (a8 PA cu) Tryz.func66 λbb=>⟨rfl,auB _ bn bb⟩
theorem aiT:cJ BG Gf:=cY Ik 231000 [] (a8 ax2 (a8 aiS (a8 ax4 cu))) Tryz.func49 fun⟨bb,bh⟩=>c9 λG=>⟨rfl,auE _ bn bn bn bb bh G⟩
theorem aiU:cJ H8 OL:=cY RL 246000 [] (a8 aiT cu) Tryz.func68 fun⟨bb,bh⟩=>c9 λG=>⟨rfl,auH _ bn bb bh G⟩
theorem ax5:cJ D0 Xa:=cY VU 253000 [] cu Tryz.func165 fun⟨bb,bh,cd⟩=>⟨rfl,auZ _  bb bh cd⟩
theorem ax6:cJ Q9 Xb:=cY VS 240000 [] (a8 ax5 cu) Tryz.func138 λbb=>c9 λG=>⟨rfl,au0 _ bn bb G⟩
theorem ax7:cJ Rb Xf:=cY CF 249000 [] (a8 C7 (a8 KI (a8 ax1 (a8 ax6 (a8 Ye (a8 aiN (a8 Pw cu))))))) Tryz.func95 fun⟨bb,bh⟩=>c9 λG=>⟨rfl,avg _ bn bn bn bn bn bn bn bb bh G⟩
theorem ax8:cJ Ie W2:=cY WW 362000 [] (a8 PA (a8 aiS cu)) Tryz.func67 fun⟨bb,bh,cd,c7,eZ⟩=>c9 λG=>⟨rfl,auK _ bn bn bb bh cd c7 eZ G⟩
theorem ax9:cJ Rc W4:=cY Il 254000 [] (a8 ax3 (a8 ax8 cu)) Tryz.func119 fun⟨bb,bh⟩=>c9 λG=>⟨rfl,auM _ bn bn bb bh G⟩
theorem aiV:cJ H9 ON:=cY RM 247000 [] (a8 ax9 cu) Tryz.func69 fun⟨bb,bh⟩=>c9 λG=>⟨rfl,auP _ bn bb bh G⟩
theorem aya:cJ Q6 W5:=cY Tk 227000 [] (a8 aiU (a8 aiV cu)) Tryz.func45 fun⟨bb,bh⟩=>c9 λG=>⟨rfl,auR _ bn bn bb bh G⟩
theorem ayb:cJ Q8 O8:=cY Cg 233000 [] (a8 ax7 cu) Tryz.func51 fun⟨bb,bh⟩=>c9 λG=>⟨rfl,avM _ bn bb bh G⟩
theorem ayc:mH Tryz.prog LQ (xx Og):=V1 (mf:=MM) (kb:=255000) (own:=[17]) (xg (wz (a8 GL (a8 axP (a8 Yb (a8 Yd cu))))) (xh ou)) mixed Tryz.func133 (by kernel_rfl) (by kernel_rfl) (λj=>j/1000=255) λargs mem d h=>by
 obtain⟨a,⟨rfl,aZ⟩,rfl⟩:=V4 h;exact⟨zi rfl,aZ.no,as5 _ (o3 rfl rfl) (o3 rfl rfl) (o3 rfl rfl) (o3 rfl rfl) a.1 a.2 mem aZ⟩
theorem ayd:mH Tryz.prog Rd (xx Ok):=V1 (mf:=EH) (kb:=256000) (own:=[]) (xg (wz (a8 GL (a8 Pw (a8 axM cu)))) (xh ou)) mixed Tryz.func134 (by kernel_rfl) (by kernel_rfl) (λj=>j/1000=256) λargs mem d h=>by
 obtain⟨a,⟨rfl,aZ⟩,rfl⟩:=V4 h;exact⟨zi rfl,aZ.no,atd _ (o3 rfl rfl) (o3 rfl rfl) (o3 rfl rfl) a mem aZ⟩
theorem aye:mH Tryz.prog Ra (xx Wv):=V1 (mf:=uc) (kb:=248000) (own:=[]) (xg (wz (a8 GL (a8 Ye (a8 Yd cu)))) (xh (rz ayc (rz ayd ou)))) mixed Tryz.func93 (by kernel_rfl) (by kernel_rfl) (λj=>j/1000=248) λargs mem d h=>by
 obtain⟨a,⟨rfl,aZ⟩,rfl⟩:=V4 h;exact⟨zi rfl,aZ.iv,atW _ (o3 rfl rfl) (Aq rfl rfl) (Aq rfl rfl) (o3 rfl rfl) (o3 rfl rfl) a mem aZ⟩
theorem ayf:mH Tryz.prog LP (xe Kd):=Ua (mf:=EG) (kb:=229000) (own:=[]) (xg (wz (a8 GL (a8 KI cu))) (xh (rz aye ou))) mixed Tryz.func47 (by kernel_rfl) (by kernel_rfl) λargs mem bZ h=>by
 obtain⟨a,⟨rfl,aZ⟩,rfl⟩:=Ud h;exact⟨zi rfl,at7 _ (Aq rfl rfl) (o3 rfl rfl) (o3 rfl rfl) a mem aZ⟩
theorem ayg:mH Tryz.prog Q7 (xe WK):=Ua (mf:=Al) (kb:=228000) (own:=[22]) (xg (wz cu) (xh ou)) mixed Tryz.func46 (by kernel_rfl) (by kernel_rfl) λargs mem bZ h=>by
 obtain⟨a,⟨rfl,aZ⟩,rfl⟩:=Ud h;exact⟨zi rfl,aus _  a.1 a.2 mem aZ⟩
theorem Yf:cJ BF Gp:=zh Cf 217000 [] (a8 aya (a8 GL (a8 KI (a8 aiT (a8 ayb cu))))) (rz ayg (rz ayf ou)) Tryz.func26 fun⟨bb,bh⟩=>c9 λG=>⟨rfl,awc _ bn (Aq rfl rfl) (Aq rfl rfl) bn bn bn bn bb bh G⟩
theorem ayh:cJ Rh Xy:=cY WT 356000 [] (a8 aiU (a8 aiV cu)) Tryz.func33 fun⟨bb,bh⟩=>c9 λG=>⟨rfl,awp _ bn bn bb bh G⟩
theorem aiW:cJ Ic Pj:=cY WU 357000 [] cu Tryz.func34 fun⟨bb,bh,cd,c7,eZ,ij,ph,nw,Xm⟩=>c9 λG=>⟨rfl,awu _  bb bh cd c7 eZ ij ph nw Xm G⟩
theorem PB:cJ yl Gu:=cY WN 346000 [] (a8 ayh (a8 PA (a8 aiW cu))) Tryz.func16 fun⟨bb,bh,cd,c7,eZ⟩=>c9 λG=>⟨rfl,aww _ bn bn bn bb bh cd c7 eZ G⟩
theorem ayi:cJ Ri XH:=cY Xx 360000 [5] cu Tryz.func59 λbb=>c9 λG=>⟨rfl,awH _  bb G⟩
theorem Yg:cJ BJ Kz:=cY WR 354000 [10] (a8 ayi (a8 aiW cu)) Tryz.func29 fun⟨bb,bh,cd,c7,eZ,ij⟩=>c9 λG=>⟨rfl,awI _ bn bn bb bh cd c7 eZ ij G⟩
theorem Yh:cJ BH KB:=cY WL 341000 [] (a8 PB (a8 Yg (a8 Yf cu))) Tryz.func10 fun⟨bb,bh,cd,c7,eZ⟩=>c9 λG=>⟨rfl,awK _ bn bn bn bb bh cd c7 eZ G⟩
theorem aiX:cJ Ia Pq:=cY WM 343000 [] (a8 PB (a8 PA (a8 Yg (a8 Yf cu)))) Tryz.func12 fun⟨bb,bh,cd,c7,eZ,ij⟩=>c9 λG=>⟨rfl,awL _ bn bn bn bn bb bh cd c7 eZ ij G⟩
theorem Yi:cJ BI KC:=cY WO 348000 [] (a8 aiX (a8 Yh (a8 Pw cu))) Tryz.func18 fun⟨bb,bh,cd,c7,eZ,ij⟩=>c9 λG=>⟨rfl,awN _ bn bn bn bb bh cd c7 eZ ij G⟩
theorem aiY:cJ Ib Pr:=cY WQ 350000 [34] (a8 Yi (a8 Yh (a8 Yg (a8 Yf (a8 KI cu))))) Tryz.func20 fun⟨bb,bh,cd,c7,eZ,ij⟩=>c9 λG=>⟨rfl,awQ _ bn bn bn bn bn bb bh cd c7 eZ ij G⟩
theorem ayj:cJ Rf XY:=cY Xw 339000 [] cu Tryz.func8 fun⟨bb,bh,cd,c7,eZ⟩=>⟨rfl,aw8 _  bb bh cd c7 eZ⟩
theorem ayk:cJ Rg XZ:=cY XW 340000 [] cu Tryz.func9 fun⟨bb,bh,cd,c7,eZ⟩=>⟨rfl,axa _  bb bh cd c7 eZ⟩
theorem ayl:cJ D3 X1:=cY XX 353000 [] (a8 axY (a8 ax0 cu)) Tryz.func25 fun⟨bb,bh⟩=>c9 λG=>⟨rfl,axc _ bn bn bb bh G⟩
theorem aym:cJ Re X4:=cY XV 338000 [] (a8 Yh (a8 aiX (a8 Yi (a8 aiY (a8 PB (a8 ayl cu)))))) Tryz.func7 λ_=>⟨rfl,axj _ bn bn bn bn bn bn⟩
theorem ayn:cJ alV X6:=cY XU 335000 [] (a8 aym (a8 ayk (a8 ayj (a8 PB (a8 Yi (a8 aiY cu)))))) Tryz.func4 fun⟨bb,bh,cd,c7,eZ,ij⟩=>c9 λG=>⟨rfl,axp _ bn bn bn bn bn bn bb bh cd c7 eZ ij G⟩
end Go.Mini
