/- A part of the proof. -/
import Derived.Test.YtkfoalgfjchcfaaGreatProg
import Derived.KernelRfl
import Derived.Test.YtkfoalgfjchcfaaGreatM05
set_option linter.unusedSimpArgs false
set_option linter.unusedVariables false
set_option maxRecDepth 100000
set_option maxHeartbeats 4000000
noncomputable section
open Bool renaming and_assoc->PE,and_eq_false_iff->Be,and_eq_true->e3,and_false->hy,and_true->tE,eq_iff_iff->kB,false_and->fC,not_eq_true->aiN,not_eq_true'->pZ,not_false->cv,not_true->ca,or_eq_true->qz,true_and->hP
open Classical renaming byContradiction->j6
open Decidable renaming em->dQ
open Int renaming ediv_nonneg->B7,emod_nonneg->EJ,le_trans->aiE,mul_le_mul->EF,mul_nonneg->qG,reduceLE->aif,reduceToNat->aih,tdiv_eq_ediv_of_nonneg->yD,tmod_eq_emod_of_nonneg->Aa,toNat_natCast->gX,toNat_zero->kd
open List renaming all_append->aiM,all_eq_false->X3,all_eq_true->oj,append_assoc->gN,concat_eq_append->En,drop->h4,eq_nil_or_concat->Em,getD_eq_getElem?_getD->dY,getElem?_eq_getElem->bs,getElem?_map->a5,getElem_mem->mD,length->D,length_append->hr,length_cons->kf,length_eq_zero_iff->Bb,length_map->aj,length_nil->mJ,length_pos_iff->Ap,length_range->rm,length_set->ja,length_singleton->yX,map_append->mq,map_congr_left->nj,map_cons->e5,map_map->oU,map_nil->cl,mem_map->fO,mem_map_of_mem->vG,mem_of_getElem?->eL,mem_range->hk,range->dL,take->hA,take_add_one->ks,take_of_length_le->dD
open List.cons renaming injEq->bh
open Nat renaming eq_zero_or_pos->jm,le_of_ble_eq_true->zr,le_refl->bP,mul_one->cM,reduceEqDiff->dA,zero_le->fr
open Option renaming bind_none->pY,bind_some->oZ,getD_some->BG,map_some->jo,toList_some->aiL
open Option.some renaming inj->ni
open Rat renaming add_zero->pj,intCast_lt_intCast->Yv,intCast_mul->p8,intCast_natCast->nB,intCast_sub->sZ,le_refl->fA
namespace Go.Mini
open Go
theorem cL.eR.up {a:cL}{m:Mem}(h:a.eR m)(aG:(D a.cash)<=6){k g:Nat}{cs:List M}(J:k/1000≠228):a.eR (a3 m k g cs) :=
 ⟨h.can,h.bg,h.pl,h.Ot,by rw[dd (by omega)];exact h.row,λi L=>by rw[dd (by omega)];exact h.dp i L⟩
theorem awp {α:Type}(n:Nat)(q:Nat->α):(bu (n+1) q).tail=bu n λk=>q (k+1):=by
 unfold bu;rw[List.range_succ_eq_map,e5,List.tail_cons,oU]
 rfl
theorem ah9 {m:Mem}{k g:Nat}{d:Data}(hm:m k=some (g,[.I d]))(n:Nat):c8 (n+1) m (.ptr k g 0)=some (.ptr [d]):=by
 unfold c8;rw[hm];dsimp only;rw[Z ⟨rfl,fr _⟩,List.drop_zero,List.mapM_cons,LO]
 rfl
theorem awq (n k g sz o l:Nat):c8 (n+1) emp (.ref k g sz o l)=none:=by
 unfold c8;rfl
def uJ (d:Day)(f:Nat->Nat)(h:Nat->Rat)(i j:Nat):Nat:=if j<i then d.gQ f h j else f j
theorem awr (T:bk)(hb:T ox=aW uy)(eD:T nn=aW ud)(oL:T BV=aW GF){K:ev->a2->Prop}{kk:List fV}(a:cL)(Q:fG a.cash a.cs)(f:Nat->Nat)(aJ:∀i,i<(D a.cash)->f i<=10)(h:Nat->Rat)(mw:∀i,i<(D a.cash)->dz (h i))(ak:∀i,i<(D a.cash)->0<=h i)(kP:Mem)(v1 v4 qZ:M)(KN XJ:Nat)(tm:Nat->M)(m:Mem)
  (aw:tm 1=v1) (dk:tm 4=v4) (bQ:tm 6=.ref 228023 a.g 1 0 (D a.cash)) (cg:tm 7=qZ) (dR:tm 8=.ptr 217008 KN 0) (fL:tm 10=.ref 217057 XJ 1 0 0) (fo:tm 31=.ref 228023 a.g 1 0 (D a.cash)) (fp:tm 32=.I (.int .i64 (D a.cash))) (jV:tm 33=.I (.int .i64 0))
  (bF:(a.wf f).eR m) (Cu:kP 217008=some (KN,[.I (.af ((df (D a.cash) h).map aL))])) (iG:m 217057=some (XJ,[])) (bR:∀k,k/1000≠228->k≠217011->k≠217057->m k=kP k)
  (du:∀tm' m' dh,tm' 1=v1->tm' 4=v4->tm' 6=.ref 228023 a.g 1 0 (D a.cash)->tm' 7=qZ->tm' 8=.ptr 217008 KN 0->tm' 10=.ref 217057 dh 1 0 (s8 (aA a.cash a.cs) f h (D a.cash)).length->m' 217057=some (dh,aY h9 (s8 (aA a.cash a.cs) f h (D a.cash)))->(a.wf ((aA a.cash a.cs).gQ f h)).eR m'->(∀k,k/1000≠228->k≠217011->k≠217057->m' k=kP k)->b8 T K kk (.exit 2) ⟨tm',m'⟩) :
  wp T (Cv.body.sub [1,1,1,1,0,0,0,0,1,1,1,0,1,0,0]) (b8 T K kk) ⟨tm,m⟩:=by
 simp only[Cv,dZ.sub];have aG:=Q.ly;have X:=Q.ok
 refine dE [1,4,6,7,8,31,32] [] (λ((i,g):Nat×Nat) tm m=>i<=D a.cash/\tm 33=.I (.int .i64 i)/\tm 10=.ref 217057 g 1 0 (s8 (aA a.cash a.cs) f h i).length/\m 217057=some (g,aY h9 (s8 (aA a.cash a.cs) f h i))/\(a.wf (uJ (aA a.cash a.cs) f h i)).eR m/\∀k,k/1000≠228->k≠217011->k≠217057->m k=kP k) (λ(i,_)=>D a.cash-i) (0,XJ) (by
  refine⟨by omega,jV,fL,iG,?_,bR⟩
  rw[a.Ps (q:=f) λj _=>by unfold uJ;rw[aa (by omega)]]
  exact bF) ?_
 intro vs ms aV aR;simp only[go_sem,go_sem_proc,aw,dk,bQ,cg,dR,fo,fp] at aV aR;subst aV aR;clear aw dk bQ cg dR fL fo fp jV bF iG bR tm m;rintro⟨i,g⟩ tm m J-⟨L,jV,fL,iG,bF,bR⟩;simp only[go_sem,go_sem_proc,bh] at J;obtain⟨aw,dk,bQ,cg,dR,fo,fp⟩:=J;rcases dQ (i<D a.cash) with aq|ck
 ·have d1:decide ((i:Int)<(D a.cash:Int))=true:=dg;have cf:=fW (i:=i) (by omega);have uB:=aJ i aq;have qX:uJ (aA a.cash a.cs) f h i i=f i:=by unfold uJ;rw[aa (by omega)]
  have e7:m 228023=some (a.g,bu (D a.cash) λi => .ptr (228500+i) (a.gs.getD i 0) 0):=bF.row;have eV:m (228500+i)=some (a.gs.getD i 0,_):=bF.dp i aq;rw[cL.XI a _ aq,qX] at eV;have Dl:=(bR 217008 (by decide) (by decide) (by decide)).trans Cu;have hZ:=uD (iE (λi=>M.ptr (228500+i) (a.gs.getD i 0) 0) aq);have bX:(bu (D a.cash) λi=>M.ptr (228500+i) (a.gs.getD i 0) 0).length=D a.cash:=gp _ _;have cX:((a.gb i).vL (f i)).c0:=⟨(a.vM i).cZ,(a.vM i).us⟩;have hlen:=A6 cX;have lB:hA 1 (h4 22 (fh ((a.gb i).vL (f i))))=[dy (f i:Int)]:=Kh cX;have rW:=Kg cX (k:=f i) (z:=cr a.cs i (f i:Nat)) (iE _ (by omega));have ea:_=fh ((a.gb i).vL ((aA a.cash a.cs).jg h i 10)):=atq cX ((aA a.cash a.cs).jg h i 10:Nat);have eB:i+1<=D a.cash:=by omega
  have al:f i<11:=by omega
  have bO:(11+f i+1<=24)=True:=eq_true (by omega);have mW:=Q.upto i (f i);have Dc:dv (cr a.cs i (f i:Nat)):=oK (by omega) (by omega);have hw:=A2 _ Dc;have oz:=C0 (mw i aq) (qd Dc);have Gu:=sY Q.right i (f i);have Ah:decide (kC (h i) ((cr a.cs i (f i:Nat):Int):Rat)>=0)=decide (((cr a.cs i (f i:Nat):Int):Rat)<=h i):=afC;have Dm:=ath (aA a.cash a.cs) f h i;rw[<-Gu] at Dm;have zl:=ux h aq;have aws:=ati (aA a.cash a.cs) f h i;have di:=mK xo af9 217057 g 8 (s8 (aA a.cash a.cs) f h i) i (cs:=[.I (.int .i64 i)]) rfl (by omega) (by omega);have XK:=λ(cn:Mem) (nZ:cn (228500+i)=some (a.gs.getD i 0,fh ((a.gb i).vL (f i)))) n=>awo cX nZ n;have awt:((a.gb i).vL (f i)).us.tail=bu 10 λk=>cr a.cs i (k+1:Nat):=awp 10 _;simp only[awt] at XK
  have awu:¬ h i<((cr a.cs i (f i:Nat):Int):Rat)->a.wf (uJ (aA a.cash a.cs) f h (i+1))=a.wf (uJ (aA a.cash a.cs) f h i):=λaS=>a.Ps λj _=>by
   unfold uJ
   by_cases ai:j=i
   ·subst ai;rw[Z (by omega),aa (by omega)];unfold Day.gQ;rw[aa (by rw[<-Gu];exact λx=>aS x.2)]
   ·by_cases tB:j<i
    ·rw[Z tB,Z (by omega)]
    ·rw[aa tB,aa (by omega)]
  have awv:h i<((cr a.cs i (f i:Nat):Int):Rat)->a.wf (uJ (aA a.cash a.cs) f h (i+1))=a.wf (λj=>if j=i then (aA a.cash a.cs).jg h i 10 else uJ (aA a.cash a.cs) f h i j):=λaS=>a.Ps λj _=>by
   unfold uJ
   by_cases ai:j=i
   ·subst ai;rw[Z (by omega),Z rfl];unfold Day.gQ;rw[Z ⟨aq,by rw[<-Gu];exact aS⟩]
   ·rw[aa ai]
    by_cases tB:j<i
    ·rw[Z tB,Z (by omega)]
    ·rw[aa tB,aa (by omega)]
  have pg:=λ(a8:Mem) (mg:(a.wf (uJ (aA a.cash a.cs) f h i)).eR a8)=>mg.awm aq ((aA a.cash a.cs).jg h i 10)
  have sT:h i<((cr a.cs i (f i:Nat):Int):Rat)->(aA a.cash a.cs).jg h i 10<10:=λaS=>by
   rw[Gu] at aS;have:=X.vB i uB;rcases VB X (h:=h) (i:=i) 10 (bP _) (by rw[Nat.sub_self,Day.Vn];exact ak i aq) with ⟨-,e⟩|⟨-,e,-⟩
   ·grind
   ·exact e
  have aww:=λaS=>awl Q h (D a.cash) i aq (mw i aq) (sT aS)
  have FL:=au8 (bu 10 λk=>cr a.cs i (k+1:Nat)) (.solve (df (D a.cash) h) i) ⟨by rw[gp];omega,by rw[qa];exact aq,V5 (by omega) mw,λx O=>by
   obtain⟨k,-,rfl⟩:=fO.1 O;have:=Q.upto i (k+1:Nat);exact oK (by omega) (by omega)⟩
  simp only[uH] at FL;generalize aD6:(bu 10 λk=>cr a.cs i (k+1:Nat))=SL at *;generalize Gr:(bu (D a.cash) λi=>M.ptr (228500+i) (a.gs.getD i 0) 0)=vN at *;have awx:(228500+i)/1000=228:=by omega
  generalize s9:228500+i=dJ at *;generalize Kq:fh ((a.gb i).vL (f i))=DC at *;have Pt:(dJ=217011)=False:=eq_false (by omega);have aia:(dJ=217057)=False:=eq_false (by omega);have aib:(217057=dJ)=False:=eq_false (by omega);have aD7:aE (h i)=aE (h i):=rfl;generalize auB:aE (h i)=hx at *;generalize lS:aE ((cr a.cs i (f i:Nat):Int):Rat)=cA at *;obtain⟨⟨dP,gV⟩,⟨oH,s7⟩⟩:=cA;obtain⟨⟨db,dH⟩,⟨fk,fM⟩⟩:=hx;simp only[aL] at hw oz;rcases fF:decide (((cr a.cs i (f i:Nat):Int):Rat)<=h i)
  ·have aS:h i<((cr a.cs i (f i:Nat):Int):Rat):=by have:=of_decide_eq_false fF;grind
   rw[Z aS] at Dm;rw[<-Dm] at di;rw[aww aS] at FL;simp only[<-awv aS] at pg;have bK:(s8 (aA a.cash a.cs) f h (i+1)).length=(s8 (aA a.cash a.cs) f h i).length+1:=by rw[Dm,hr];rfl
   have aic:∀cn:Mem,cn 217008=some (KN,[.I (.af ((df (D a.cash) h).map aL))])->c8 5 cn (.ptr 217008 KN 0)=some (.ptr [.af ((df (D a.cash) h).map aL)]):=λcn nZ=>ah9 nZ 4;have aid:∀(cn:Mem) (g:Nat),cn 217011=some (g,[.I (.int .i64 i)])->c8 5 cn (.ptr 217011 g 0)=some (.ptr [.int .i64 i]):=λcn g nZ=>ah9 nZ 4;have aie:=awq 5 dJ (a.gs.getD i 0) 1 12 10;simp only[go_sem,go_sem_proc,hb,eD,oL,aw,dk,bQ,cg,dR,fL,fo,fp,jV,e7,eV,Dl,iG,hZ,bX,hlen,lB,rW,ea,eB,al,bO,aq,hw,oz,Ah,fF,zl,di,XK,FL,aic,aid,aie,Pt,aia,aib,d1,cf,aL,dy,cM,aj,a5,pY,scalar,v5,aif,aih];repeat' (first|refine av ?_ ?_|fail)<;>intro h<;>simp only[h,go_sem,go_sem_proc,hb,eD,oL,aw,dk,bQ,cg,dR,fL,fo,fp,jV,e7,eV,Dl,iG,hZ,bX,hlen,lB,rW,ea,eB,al,bO,aq,hw,oz,Ah,fF,zl,di,XK,FL,aic,aid,aie,Pt,aia,aib,d1,cf,aL,dy,cM,aj,a5,pY,scalar,v5,aif,aih]
   refine⟨(i+1,g+1),by dsimp only;omega,by dsimp only;omega,rfl,by rw[bK],rfl,pg _ (((bF.up aG (by decide)).up aG (by decide)).up aG (by decide)),λk E H ab=>?_⟩
   rw[aa (show ¬ k=dJ by intro J;rw[J] at E;exact E awx),aa ab,aa H,aa H];exact bR k E H ab
  ·have aS:¬ h i<((cr a.cs i (f i:Nat):Int):Rat):=by have:=of_decide_eq_true fF;grind
   rw[aa aS] at Dm;simp only[go_sem,go_sem_proc,hb,eD,aw,dk,bQ,cg,dR,fL,fo,fp,jV,e7,eV,Dl,hZ,bX,hlen,lB,rW,eB,al,bO,aq,hw,oz,Ah,fF,zl,Pt,d1,cf,aL,dy,cM,aj,a5];repeat' (first|refine av ?_ ?_|fail)<;>intro h<;>simp only[h,go_sem,go_sem_proc,hb,eD,aw,dk,bQ,cg,dR,fL,fo,fp,jV,e7,eV,Dl,hZ,bX,hlen,lB,rW,eB,al,bO,aq,hw,oz,Ah,fF,zl,Pt,d1,cf,aL,dy,cM,aj,a5]
   refine⟨(i+1,g),by dsimp only;omega,by dsimp only;omega,rfl,by rw[Dm],by rw[Dm];exact iG,?_,λk E H ab=>?_⟩
   ·rw[awu aS];exact (bF.up aG (by decide)).up aG (by decide)
   ·rw[aa H,aa H];exact bR k E H ab
 ·have d1:decide ((i:Int)<(D a.cash:Int))=false:=c1;obtain rfl:i=D a.cash:=by omega
  rw[a.Ps (q:=(aA a.cash a.cs).gQ f h) λj ai=>by unfold uJ;rw[Z ai]] at bF
  simp only[go_sem,go_sem_proc,aw,dk,bQ,cg,dR,fL,fo,fp,jV,d1];repeat' (first|refine av ?_ ?_|fail)<;>intro h<;>simp only[h,go_sem,go_sem_proc,aw,dk,bQ,cg,dR,fL,fo,fp,jV,d1]
  refine du _ _ g ?_ ?_ ?_ ?_ ?_ ?_ iG bF bR<;>simp only[eQ,dA,if_false,aw,dk,bQ,cg,dR,fL]
theorem awy {n:Nat}{f:Nat->Nat}(h:∀i,n<=i->f i=10):bD (bu n λi=>(f i:Int))=f:=by
 funext i
 by_cases L:i<n
 ·exact awn f L
 ·unfold bD;rw[dY,List.getElem?_eq_none (by rw[gp];omega),h i (by omega)];rfl
theorem awz {d:Day}{f:Nat->Nat}{h:Nat->Rat}(fI:∀i,d.n<=i->f i=10):∀i,d.n<=i->d.gQ f h i=10:=λi L=>by
 unfold Day.gQ;rw[aa λx=>by omega,fI i L]
theorem aii (d:Day):∀k f,(d.rounds k f).1.length<=k
 |0,f=>bP _
 |k+1,f=>by
  rw[Day.rounds]
  split
  ·exact fr _
  ·have:=aii d k (d.gQ f (d.top f));simp only[kf];omega
def te (l:List Nat):List Data:=[.af (l.map h9)]
theorem aij (l:List Nat):(te l).length=1:=rfl
theorem awA (l:List Nat):((te l).map M.I).all M.one=true:=rfl
def xJ (done:List (List Nat))(g:Nat):M:=if done=[] then .nil else .ref 217077 g 1 0 (D done)
structure aik (cash:List Int) (cs:List ar) (g:Nat) (gs:Nat->Nat) (f:Nat->Nat) (done:List (List Nat)) (na:Nat) (m:Mem):Prop where
 at_:∃p,(((xC cash cs g gs).wf f).hc p).eR m
 out:∃kJ,kJ=0/\m 217007=some (kJ,[.nil,.nil,xJ done na])
 row:done≠[]->m 217077=some (na,aY te done)
 no:∀k:Nat,k/1000≠217->k/1000≠228->m k=none
 f10:∀i,D cash<=i->f i=10
 reach:Reach (aA cash (da (D cash) cs)) f
 m1:∃r,lZ (D cash) f<=r/\(aA cash (da (D cash) cs)).m1=done++((aA cash (da (D cash) cs)).rounds r f).1/\(aA cash (da (D cash) cs)).oJ=((aA cash (da (D cash) cs)).rounds r f).2
theorem awB (T:bk)(tf:T L5=xe Ku)(hb:T ox=aW uy)(eD:T nn=aW ud)(oL:T BV=aW GF){K:ev->a2->Prop}{kk:List fV}(cash:List Int)(cs:List ar)(pV:fG cash cs)(g:Nat)(gs:Nat->Nat)(v1:M)(tm:Nat->M)(m:Mem)
  (aw:tm 1=v1) (dk:tm 4=.ptr 217004 0 0) (bQ:tm 6=.ref 228023 g 1 0 (D cash)) (cg:tm 7=.ptr 217007 0 0) (nY:m 217004=some (0,[.nil,.nil,.nil])) (bF:aik cash cs g gs (λ_=>10) [] 0 m)
  (du:∀tm' m' na,tm' 1=v1->tm' 4=.ptr 217004 0 0->tm' 7=.ptr 217007 0 0->m' 217004=some (0,[.nil,.nil,.nil])->m' 217007=some (0,[.I (.af ((df (D cash) (aA cash (da (D cash) cs)).dw).map aL)),.nil,xJ (aA cash (da (D cash) cs)).m1 na])->((aA cash (da (D cash) cs)).m1≠[]->m' 217077=some (na,aY te (aA cash (da (D cash) cs)).m1))->b8 T K kk (.exit 0) ⟨tm',m'⟩) :
  wp T (Cv.body.sub [1,1,1,1,0,0]) (b8 T K kk) ⟨tm,m⟩:=by
 simp only[Cv,dZ.sub];have Q:=Wl pV;have aG:=Q.ly;have X:=Q.ok;refine dE [1,4,6,7] [217004] (λ((f,done,na):(Nat->Nat)×List (List Nat)×Nat) tm m=>aik cash cs g gs f done na m) (λ(f,_)=>lZ (D cash) f) (λ_=>10,[],0) (by exact bF) ?_;intro vs ms aV aR;simp only[go_sem,go_sem_proc,aw,dk,bQ,cg,nY] at aV aR;subst aV aR;clear aw dk bQ cg nY bF tm m;rintro⟨f,done,na⟩ tm m J nY bF;simp only[go_sem,go_sem_proc,bh] at J nY;obtain⟨aw,dk,bQ,cg⟩:=J;obtain⟨⟨p,bF⟩,⟨kJ,rfl,ail⟩,e7,ie,uB,aim,r,EI,bw,wY⟩:=bF;dsimp only at *;have tv:=awy uB;have mF:=aim;obtain⟨ain,hinv,-⟩:=aim
 have fj:=auC (((xC cash cs g gs).wf f).hc p) m ⟨bF,λk J=>ie k (by omega) (by omega),λk J=>ie k (by omega) (by omega),λk J=>ie k (by omega) (by omega),⟨Q,λx O=>by
  obtain⟨i,-,rfl⟩:=fO.1 O;have:=hinv.le i;omega⟩,⟨ain,by show Inv (aA cash (da (D cash) cs)) (bD (bu (D cash) λi=>(f i:Int))) ain;rw[tv];exact hinv⟩⟩
 have aio:Ku [.ref 228023 g 1 0 (D cash)] m=some (OP (((xC cash cs g gs).wf f).hc p) m):=fj;simp only[go_sem,go_sem_proc,tf,aw,dk,bQ,cg,aio];have bJ:=Day.CO (X.hex f mF);have mw:∀i,i<(D cash)->dz ((aA cash (da (D cash) cs)).top f i):=λi L=>k1 (af1 Q mF L) (by omega);have ak:∀i,i<(D cash)->0<=(aA cash (da (D cash) cs)).top f i:=λi L=>bJ.VC X L;rintro aip mem' ⟨w8,oT,Lr,aiq⟩
 have awC:aip=.cw [.I (.af ((df (D cash) ((aA cash (da (D cash) cs)).top f)).map aL)),.I (.bool true)]:=by
  rw[w8];show M.cw [.I (.af ((df (D cash) ((aA cash (da (D cash) cs)).top (bD (bu (D cash) λi=>(f i:Int))))).map aL)),.I (.bool true)]=_;rw[tv]
 clear w8 fj aio;subst awC;have fB:∀k:Nat,k/1000≠228->mem' k=m k:=λk J=>aiq k λi L=>by have:i<D cash:=L;omega
 have iD:=(fB 217004 (by decide)).trans nY;have ps:=(fB 217007 (by decide)).trans ail;have af6:(aA cash (da (D cash) cs)).j7 f=s8 (aA cash (da (D cash) cs)) f ((aA cash (da (D cash) cs)).top f) (D cash):=rfl
 have air:(aA cash (da (D cash) cs)).j7 f=[]->(aA cash (da (D cash) cs)).m1=done/\(aA cash (da (D cash) cs)).dw=(aA cash (da (D cash) cs)).top f:=λh=>by
  have:=(aA cash (da (D cash) cs)).aro h r;rw[this,List.append_nil] at bw;rw[this] at wY;exact⟨bw,by unfold Day.dw;rw[wY]⟩
 have tA:(aA cash (da (D cash) cs)).j7 f≠[]->lZ (D cash) ((aA cash (da (D cash) cs)).gQ f ((aA cash (da (D cash) cs)).top f))<lZ (D cash) f/\Reach (aA cash (da (D cash) cs)) ((aA cash (da (D cash) cs)).gQ f ((aA cash (da (D cash) cs)).top f))/\(∀i,D cash<=i->(aA cash (da (D cash) cs)).gQ f ((aA cash (da (D cash) cs)).top f) i=10)/\∃r,lZ (D cash) ((aA cash (da (D cash) cs)).gQ f ((aA cash (da (D cash) cs)).top f))<=r/\(aA cash (da (D cash) cs)).m1=(done++[(aA cash (da (D cash) cs)).j7 f])++((aA cash (da (D cash) cs)).rounds r ((aA cash (da (D cash) cs)).gQ f ((aA cash (da (D cash) cs)).top f))).1/\(aA cash (da (D cash) cs)).oJ=((aA cash (da (D cash) cs)).rounds r ((aA cash (da (D cash) cs)).gQ f ((aA cash (da (D cash) cs)).top f))).2:=λbN=>by
  have aq:=VE X X.hex mF bN;have gZ:lZ (D cash) ((aA cash (da (D cash) cs)).gQ f ((aA cash (da (D cash) cs)).top f))<lZ (D cash) f:=aq;refine⟨gZ,mF.next X X.hex,awz (d:=aA cash (da (D cash) cs)) uB,?_⟩
  cases r with
  |zero=>omega
  |succ r =>
   rw[Day.rounds,aa bN] at bw wY;exact⟨r,by omega,by rw[bw];simp,wY⟩
 generalize oO:aA cash (da (D cash) cs)=d at *;generalize qC:(df (D cash) (d.top f)).map aL=V at *;simp only[go_sem,go_sem_proc,aw,dk,bQ,cg,iD,ps,ca];subst oO;rw[<-qC];refine awr T hb eD oL ((xC cash cs g gs).hc oT) Q f (λi _=>hinv.le i) ((aA cash (da (D cash) cs)).top f) mw ak _ v1 (.ptr 217004 0 0) (.ptr 217007 0 0) (gh (mem' 217008)) (gh (mem' 217057)) _ _ ?_ ?_ ?_ ?_ ?_ ?_ ?_ ?_ ?_ (((show ((((xC cash cs g gs).hc oT).wf f)).eR mem' from Lr).up aG (by decide)).up aG (by decide)|>.up aG (by decide)) ?_ ?_ (λ_ _ _ _=>rfl) ?_
 all_goals first|(intro Kv cn cQ cH iu h8 hG hE nu xI x7 qe)|(simp only[eQ,dA,if_false,if_true,aw,dk,bQ,cg];done)|(simp only[eQ,dA,if_false,if_true];rfl)|(simp only[eQ,dA,if_false,if_true,aw,dk,bQ,cg];rfl)|(simp only[a3,dA,if_false,if_true];done)|(simp only[a3,dA,if_false,if_true];rfl)|skip
 replace nu:Kv 10=.ref 217057 cQ 1 0 ((aA cash (da (D cash) cs)).j7 f).length:=nu;replace xI:cn 217057=some (cQ,aY h9 ((aA cash (da (D cash) cs)).j7 f)):=xI;replace h8:Kv 6=.ref 228023 g 1 0 (D cash):=h8;replace x7:(((xC cash cs g gs).hc oT).wf ((aA cash (da (D cash) cs)).gQ f ((aA cash (da (D cash) cs)).top f))).eR cn:=x7;have Pu:cn 217004=some (0,[.nil,.nil,.nil]):=(qe 217004 (by decide) (by decide) (by decide)).trans (by simp only[a3,dA,if_false];exact iD);have vW:cn 217007=some (0,[.nil,.nil,xJ done na]):=(qe 217007 (by decide) (by decide) (by decide)).trans (by simp only[a3,dA,if_false];exact ps);have XM:cn 217008=some (gh (mem' 217008),[.I (.af V)]):=(qe 217008 (by decide) (by decide) (by decide)).trans (by simp only[a3,dA,if_false,if_true];rw[qC]);have ais:done≠[]->cn 217077=some (na,aY te done):=λh=>(qe 217077 (by decide) (by decide) (by decide)).trans (by simp only[a3,dA,if_false];exact (fB 217077 (by decide)).trans (e7 h));have vY:∀(k j:Nat),k/1000≠217->j/1000=217->k≠j:=λk j E H h=>E (h ▸ H)
 have awD:∀k:Nat,k/1000≠217->k/1000≠228->cn k=none:=λk E H=>(qe k H (vY k _ E (by decide)) (vY k _ E (by decide))).trans (by
  rw[dd (vY k _ E (by decide)),dd (vY k _ E (by decide)),dd (vY k _ E (by decide))];exact (fB k H).trans (ie k E H))
 clear qe fB Lr aiq iD ps ail e7 ie nY aw dk bQ cg bw wY
 by_cases bN:(aA cash (da (D cash) cs)).j7 f=[]
 ·obtain⟨E,H⟩:=air bN;rw[bN] at nu;rw[E,H] at du;have hX:(((0:Nat):Int)==0)=true:=rfl;simp only[go_sem,go_sem_proc,cH,iu,h8,hG,hE,nu,Pu,vW,XM,hX,mJ,List.set_cons_zero];refine du _ _ na ?_ ?_ ?_ ?_ ?_ λh=>?_
  ·simp only[eQ,dA,if_false];exact cH
  ·simp only[eQ,dA,if_false];exact iu
  ·simp only[eQ,dA,if_false];exact hG
  ·simp only[a3,dA,if_false];exact Pu
  ·simp only[a3,dA,if_true];rw[qC]
  ·simp only[a3,dA,if_false];exact ais h
 ·obtain⟨E,H,ab,aM⟩:=tA bN;have aws:((aA cash (da (D cash) cs)).j7 f).length<=6:=Nat.le_trans (List.length_filter_le _ _) (by rw[rm];exact aG)
  have hX:((((aA cash (da (D cash) cs)).j7 f).length:Int)==0)=false:=by
   have:((aA cash (da (D cash) cs)).j7 f).length≠0:=λh=>bN (Bb.1 h);rw[beq_eq_false_iff_ne];omega
  have l0:=λ(K:a2->Prop) (st:a2)=>mb (K:=K) (st:=st) xo 10 217057 cQ ((aA cash (da (D cash) cs)).j7 f);have hs:(1<=maxLen)=True:=eq_true (by decide);generalize Qh:(aA cash (da (D cash) cs)).j7 f=bg at *;clear air tA du;have ait:∀(a8:Mem),(∀k:Nat,k/1000≠217->a8 k=cn k)->∀k:Nat,k/1000≠217->k/1000≠228->a8 k=none:=λa8 mg k E H=>(mg k E).trans (awD k E H)
  by_cases lh:done=[]
  ·subst lh;have KO:xJ [] na=.nil:=rfl;rw[KO] at vW;simp only[go_sem,go_sem_proc,cH,iu,h8,hG,hE,nu,Pu,vW,XM,xI,hX,l0,hs];refine⟨(_,[bg],gh (cn 217077)),E,⟨⟨oT,((x7.up aG (by decide)).up aG (by decide)).up aG (by decide)⟩,⟨0,rfl,?_⟩,λ_=>?_,?_,ab,H,aM⟩⟩
   ·rw[kK];rfl
   ·rw[dd (by decide),kK];rfl
   ·exact ait _ λk J=>by rw[dd (vY k _ J (by decide)),dd (vY k _ J (by decide)),dd (vY k _ J (by decide))]
  ·have KO:xJ done na=.ref 217077 na 1 0 (D done):=by unfold xJ;rw[aa lh]
   rw[KO] at vW;have Pv:=ais lh
   have QC:(D done)+1<=60:=by
    obtain⟨HD,-,bl,-⟩:=aM;have bI:=aii (aA cash (da (D cash) cs)) (10*(aA cash (da (D cash) cs)).n) λ_=>10;have bC:(aA cash (da (D cash) cs)).m1.length<=10*D cash:=bI;rw[bl] at bC;simp only[hr,yX] at bC;omega
   have di:=mK aij awA 217077 na 24 done bg (cs:=[.I (.af (bg.map h9))]) rfl (by omega) (by omega);simp only[go_sem,go_sem_proc,cH,iu,h8,hG,hE,nu,Pu,vW,XM,xI,Pv,hX,l0,di];refine⟨(_,done++[bg],na+1),E,⟨⟨oT,((x7.up aG (by decide)).up aG (by decide)).up aG (by decide)⟩,⟨0,rfl,?_⟩,λ_=>?_,?_,ab,H,aM⟩⟩
   ·rw[kK];unfold xJ;rw[aa (by simp),hr];rfl
   ·rw[dd (by decide),kK]
   ·exact ait _ λk J=>by rw[dd (vY k _ J (by decide)),dd (vY k _ J (by decide)),dd (vY k _ J (by decide))]
theorem Alike.dw {d e:Day}(h:Alike d e):d.dw=e.dw:=by unfold Day.dw Day.oJ;rw[h.top,h.rounds,h.n]
theorem Alike.m1 {d e:Day}(h:Alike d e):d.m1=e.m1:=by unfold Day.m1;rw[h.rounds,h.n]
structure XN (cash:List Int) (cs:List ar):Prop where
 n:(D cash)<=1000000
 c:(D cs)<=1000000
 pq:gR cash cs=true->fG cash cs
def oa (cash:List Int)(cs:List ar):List bU:=cs.map λc=>aE (gn cs ((aA cash cs).dw c.1.toNat) c)
def qj (cash:List Int)(cs:List ar):List bU:=df (D cash) (aA cash cs).dw
def Bd (cash:List Int)(cs:List ar):Data:=if gR cash cs=true then .cw [.agg [.af ((qj cash cs).map aL),.af ((oa cash cs).map aL),.af ((aA cash cs).m1.map te)],.int .i64 0] else .cw [.agg [.af [],.af [],.af []],.int .i64 1]
theorem awE {cash:List Int}{cs:List ar}(Q:fG cash cs):Bc cs ((dL (D cash)).map (aA cash cs).dw):=by
 have Y:=(g1.1 Q.right).2.2.2;have aG:=Q.ly;refine⟨Q.vI,by simp;exact aG,λc G=>?_,λx O=>?_⟩
 ·have E:=Y c G;have H:=Q.am c G;rw[aj,rm];omega
 ·obtain⟨i,L,rfl⟩:=fO.1 O;have kO:=hk.1 L;exact⟨afx Q.ok kO,(Oo Q kO).mono (by omega)⟩
theorem awF {cash:List Int}{cs:List ar}(Q:fG cash cs):(cs.map λc=>aE (gn cs (((dL (D cash)).map (aA cash cs).dw).getD c.1.toNat 0) c))=oa cash cs:=nj λc G=>by
 have E:=(g1.1 Q.right).2.2.2 c G;have:((dL (D cash)).map (aA cash cs).dw).getD c.1.toNat 0=(aA cash cs).dw c.1.toNat:=A9 (aA cash cs).dw 0 (show c.1.toNat<(D cash) by omega);rw[this]
def GP:=cy GH λ(cash,cs)=>cT (XN cash cs) (.same (Bd cash cs))
@[go_sem] theorem Pw (cash:List Int)(cs:List ar)(G:XN cash cs):GP [.af (cash.map ad),.af (cs.map bp)]=some (.same (Bd cash cs)):=(cI O4 (cash,cs)).trans (cY G _)
theorem awG (T:bk)(xK:T Rn=aW Xs)(xL:T Ro=xe W6)(tf:T L5=xe Ku)(hb:T ox=aW uy)(eD:T nn=aW ud)(oL:T BV=aW GF)(xM:T Rp=aW Pr)(cash:List Int)(cs:List ar)(G:XN cash cs):WP T Cv (.same (Bd cash cs)) [.I (.af (cash.map ad)),.I (.af (cs.map bp))]:=by
 refine cC ?_;simp only[Cv];obtain⟨mH,ku,N7⟩:=G;unfold Bd;rcases Y:gR cash cs
 ·rw[aa (by decide)];simp only[go_sem,go_sem_proc,xK,xL,tf,hb,eD,oL,xM,mH,ku,Y,cv];repeat' (first|refine av ?_ ?_|fail)<;>intro h<;>simp only[h,go_sem,go_sem_proc,xK,xL,tf,hb,eD,oL,xM,mH,ku,Y,cv]
 ·rw[Z rfl];have Q:=N7 Y;have aG:=Q.ly;have Px:=aft Y
  have ie:qW 228 (a3 emp 217004 0 [M.nil,M.nil,M.nil]):=λk J=>by
   rw[dd (by rintro rfl;omega)];rfl
  have fj:=auX cash cs (a3 emp 217004 0 [M.nil,M.nil,M.nil]) ⟨Q,ie⟩;simp only[go_sem,go_sem_proc,xK,xL,tf,hb,eD,oL,xM,mH,ku,Y,fj,ca];rintro aip m ⟨g,gs,rfl,bF,bR⟩;dsimp only at bF;have nY:m 217004=some (0,[.nil,.nil,.nil]):=(bR 217004 (by decide)).trans kK;have kD:m 217007=none:=(bR 217007 (by decide)).trans (dd (by decide));simp only[go_sem,go_sem_proc,xK,xL,tf,hb,eD,oL,xM,kD];refine awB T tf hb eD oL cash cs Q g gs (.I (.af (cs.map bp))) _ _ ?_ ?_ ?_ ?_ ?_ ⟨⟨λ_=>false,?_⟩,⟨0,rfl,?_⟩,λh=>absurd rfl h,?_,λ_ _=>rfl,Reach.start (Wl Q).ok,⟨10*D cash,?_,rfl,rfl⟩⟩ ?_
  all_goals first|(intro Kv cn na cH iu hG iD ps Pv)|(simp only[eQ,dA,if_false,if_true];done)|(simp only[eQ,dA,if_false,if_true];rfl)|(simp only[a3,dA,if_false,if_true];done)|(simp only[a3,dA,if_false,if_true];rfl)|(simp only[a3,dA,if_false,if_true];exact nY)|skip
  ·exact bF.up aG (by decide)
  ·intro k E H;rw[dd (by rintro rfl;exact E (by decide)),bR k H,dd (by rintro rfl;exact E (by decide))];rfl
  ·rw[afv];exact bP _
  rw[<-Px.dw,<-Px.m1] at ps;rw[<-Px.m1] at Pv;have Dn:=awf cs ((dL (D cash)).map (aA cash cs).dw) (awE Q);rw[awF Q] at Dn;replace Dn:Pr [.af (cs.map bp),.af ((qj cash cs).map aL)]=some (.same (.cw [.af ((oa cash cs).map aL),.bool true])):=Dn;replace ps:cn 217007=some (0,[.I (.af ((qj cash cs).map aL)),.nil,xJ (aA cash cs).m1 na]):=ps;generalize qj cash cs=HV at *;generalize oa cash cs=KL at *;generalize (aA cash cs).m1=GQ at *;clear Px fj bF bR nY kD
  by_cases sV:GQ=[]
  ·subst sV;replace ps:cn 217007=some (0,[.I (.af (HV.map aL)),.nil,.nil]):=ps;simp only[go_sem,go_sem_proc,xK,xL,tf,hb,eD,oL,xM];refine W1 ?_;rintro a8 rfl;simp only[go_sem,go_sem_proc,xK,xL,tf,hb,eD,oL,xM,cH,iu,hG,iD,ps,Dn,ca,cl];repeat' (first|refine av ?_ ?_|fail)<;>intro h<;>simp only[h,go_sem,go_sem_proc,xK,xL,tf,hb,eD,oL,xM,cH,iu,hG,iD,ps,Dn,ca,cl]
  ·have Dl:=Pv sV;have KO:xJ GQ na=.ref 217077 na 1 0 (D GQ):=by unfold xJ;rw[aa sV]
   rw[KO] at ps;simp only[go_sem,go_sem_proc,xK,xL,tf,hb,eD,oL,xM];refine W0 (q8.Lb 217007 0 _ 2 217077 na 1 0 (D GQ) _ (.af (GQ.map te)) ps rfl Dl (by decide) (pM (n:=0) aij Dl)) ?_;intro a8 mg;have aiu:a8 217007=some (0,[.I (.af (HV.map aL)),.nil,.I (.af (GQ.map te))]):=by rw[mg,kK];rfl
   have aiv:a8 217004=some (0,[.nil,.nil,.nil]):=by
    rw[mg,dd (by decide)];unfold kill;rw[dd (by decide)];exact iD
   clear mg;simp only[go_sem,go_sem_proc,xK,xL,tf,hb,eD,oL,xM,cH,iu,hG,aiv,aiu,Dn,ca];repeat' (first|refine av ?_ ?_|fail)<;>intro h<;>simp only[h,go_sem,go_sem_proc,xK,xL,tf,hb,eD,oL,xM,cH,iu,hG,aiv,aiu,Dn,ca]
def gw:ar:=(0,0,0,0)
def ka (ah rk:Int)(c:ar):ar:=(c.1,c.2.1,rk,c.2.2.2/1000*ah+c.2.2.2%1000*ah/1000)
def ib (cs:List ar)(is:List Int)(ah:Int)(k:Nat):Bool :=
 (decide (0<=is.getD k 0)&&decide (is.getD k 0<D cs)&&(k==0||decide (is.getD (k-1) 0<is.getD k 0))) &&
 ((cs.getD (is.getD k 0).toNat gw).1==(cs.getD (is.getD 0 0).toNat gw).1&&decide ((ka ah 0 (cs.getD (is.getD k 0).toNat gw)).2.2.2<=1000000000000000))
def gS (cash:List Int)(cs:List ar)(is:List Int)(ah rk:Int):Bool :=
 gR cash cs&&(!is.isEmpty)&&decide (0<=ah)&&decide (ah<=10000)&&decide (0<=rk)&&decide (rk<=9)&&(dL (D is)).all (ib cs is ah)
def ek (cs:List ar)(is:List Int)(ah rk but:Int):Nat->List ar
 |0=>cs
 |t+1=>if (t:Int)=but then ek cs is ah rk but t else (ek cs is ah rk but t).set (is.getD t 0).toNat (ka ah rk ((ek cs is ah rk but t).getD (is.getD t 0).toNat gw))
theorem r3 (cs:List ar)(is:List Int)(ah rk but:Int)(t:Nat):(ek cs is ah rk but t).length=D cs:=by
 induction t with
 |zero=>rfl
 |succ t ay =>
  unfold ek
  split
  ·exact ay
  ·rw[ja,ay]
structure vZ (cash:List Int) (cs:List ar) (is:List Int) (ah rk:Int):Prop where
 right:gR cash cs=true
 ne:0<D is
 qk:0<=ah/\ah<=10000
 ha:0<=rk/\rk<=9
 bG:∀k,k<(D is)->0<=is.getD k 0/\is.getD k 0<D cs
 aiw:∀k,0<k->k<(D is)->is.getD (k-1) 0<is.getD k 0
 az:∀k,k<(D is)->(cs.getD (is.getD k 0).toNat gw).1=(cs.getD (is.getD 0 0).toNat gw).1
 am:∀k,k<(D is)->(ka ah 0 (cs.getD (is.getD k 0).toNat gw)).2.2.2<=1000000000000000
theorem Dp {cash:List Int}{cs:List ar}{is:List Int}{ah rk:Int}:gS cash cs is ah rk=true↔vZ cash cs is ah rk:=by
 unfold gS ib;simp only[e3,decide_eq_true_eq,oj,hk,qz,beq_iff_eq,pZ,List.isEmpty_eq_false_iff]
 constructor
 ·rintro⟨⟨⟨⟨⟨⟨E,H⟩,ab⟩,aM⟩,bl⟩,bI⟩,bC⟩;exact⟨E,Ap.2 H,⟨ab,aM⟩,⟨bl,bI⟩,λk J=>(bC k J).1.1,λk ak J=>by rcases (bC k J).1.2 with h|h;exact absurd h (by omega);exact h,λk J=>(bC k J).2.1,λk J=>(bC k J).2.2⟩
 ·intro h;refine⟨⟨⟨⟨⟨⟨h.right,Ap.1 h.ne⟩,h.qk.1⟩,h.qk.2⟩,h.ha.1⟩,h.ha.2⟩,λk J=>⟨⟨h.bG k J,?_⟩,h.az k J,h.am k J⟩⟩
  by_cases ak:k=0
  ·exact .inl ak
  ·exact .inr (h.aiw k (by omega) J)
section
variable {cash:List Int} {cs:List ar} {is:List Int} {ah rk:Int} (h:vZ cash cs is ah rk)
include h
theorem vZ.lt {j k:Nat}(eW:j<k)(J:k<D is):is.getD j 0<is.getD k 0:=by
 induction k with
 |zero=>omega
 |succ k ay =>
  have E:=h.aiw (k+1) (by omega) J;rw[Nat.add_sub_cancel] at E
  by_cases ai:j=k
  ·subst ai;exact E
  ·have:=ay (by omega) (by omega);omega
theorem vZ.inj {j k:Nat}(ai:j<D is)(J:k<D is)(he:is.getD j 0=is.getD k 0):j=k:=by
 rcases Nat.lt_trichotomy j k with E|E|E
 ·have:=h.lt E J;omega
 ·exact E
 ·have:=h.lt E ai;omega
theorem vZ.get {k:Nat}(J:k<D is):cs[(is.getD k 0).toNat]?=some (cs.getD (is.getD k 0).toNat gw):=by
 have:=h.bG k J;rw[dY (l:=cs),bs (by omega:(is.getD k 0).toNat<D cs)];rfl
theorem vZ.mem {k:Nat}(J:k<D is):cs.getD (is.getD k 0).toNat gw∈cs:=eL (h.get J)
open Classical in
theorem aix (but:Int){t:Nat}(bJ:t<=D is)(j:Nat):(ek cs is ah rk but t)[j]?=(cs[j]?).map λc=>if ∃k,k<t/\(k:Int)≠but/\(is.getD k 0).toNat=j then ka ah rk c else c:=by
 induction t with
 |zero =>
  show cs[j]?=_
  cases O:cs[j]? with
  |none=>rfl
  |some c =>
   rw[jo,aa];rintro⟨k,E,-⟩;omega
 |succ t ay =>
  have ay:=ay (by omega);unfold ek
  by_cases ae:(t:Int)=but
  ·rw[Z ae,ay]
   congr 1
   funext c
   have:(∃k,k<t/\(k:Int)≠but/\(is.getD k 0).toNat=j)↔∃k,k<t+1/\(k:Int)≠but/\(is.getD k 0).toNat=j:=by
    constructor
    ·rintro⟨k,E,H⟩;exact⟨k,by omega,H⟩
    ·rintro⟨k,E,H,ab⟩
     exact⟨k,by
            have:k≠t:=λh=>H (by rw[h];exact ae);omega,H,ab⟩
   simp only[this]
  ·rw[aa ae,List.getElem?_set,r3];have fa:=h.bG t (by omega)
   by_cases ai:(is.getD t 0).toNat=j
   ·rw[Z ai,Z (by omega)]
    have hold:(ek cs is ah rk but t)[(is.getD t 0).toNat]?=some (cs.getD (is.getD t 0).toNat gw):=by
     rw[ai,ay,<-ai,h.get (by omega),jo,aa];rintro⟨k,E,-,ab⟩;have aM:=h.bG k (by omega);have bl:=h.lt E (by omega:t<D is);omega
    rw[dY (l:=ek cs is ah rk but t),hold,BG,<-ai,h.get (by omega),jo,Z ⟨t,by omega,ae,rfl⟩]
   ·rw[aa ai,ay]
    congr 1
    funext c
    have:(∃k,k<t/\(k:Int)≠but/\(is.getD k 0).toNat=j)↔∃k,k<t+1/\(k:Int)≠but/\(is.getD k 0).toNat=j:=by
     constructor
     ·rintro⟨k,E,H⟩;exact⟨k,by omega,H⟩
     ·rintro⟨k,E,H,ab⟩
      exact⟨k,by
             have:k≠t:=λh=>ai (by rw[<-h];exact ab);omega,H,ab⟩
    simp only[this]
theorem Dq (but:Int){t k:Nat}(bJ:t<=D is)(J:k<D is):(ek cs is ah rk but t)[(is.getD k 0).toNat]?=some (if k<t/\(k:Int)≠but then ka ah rk (cs.getD (is.getD k 0).toNat gw) else cs.getD (is.getD k 0).toNat gw):=by
 rw[aix h but bJ,h.get J,jo]
 congr 1
 by_cases G:k<t/\(k:Int)≠but
 ·rw[Z G,Z ⟨k,G.1,G.2,rfl⟩]
 ·rw[aa G,aa];rintro⟨j,E,H,ab⟩;have aw:=h.bG k J;have aC:=h.bG j (by omega);obtain rfl:=h.inj (by omega) J (by omega:is.getD j 0=is.getD k 0);exact G ⟨E,H⟩
theorem aiy {c:ar}(G:0<=c.2.2.2):0<=(ka ah rk c).2.2.2:=by
 have E:0<=c.2.2.2/1000*ah:=qG (B7 G (by decide)) h.qk.1;have H:0<=c.2.2.2%1000*ah/1000:=B7 (qG (EJ _ (by decide)) h.qk.1) (by decide);show 0<=c.2.2.2/1000*ah+c.2.2.2%1000*ah/1000;omega
theorem Py (but:Int){t:Nat}(bJ:t<=D is):gR cash (ek cs is ah rk but t)=true:=by
 have Y:=g1.1 h.right;refine g1.2 ⟨Y.1,by rw[r3];exact Y.2.1,Y.2.2.1,λc G=>?_⟩
 obtain⟨j,ai⟩:=List.mem_iff_getElem?.1 G;rw[aix h but bJ] at ai;obtain⟨j5,ak,E⟩:=Option.map_eq_some_iff.1 ai;have ku:=Y.2.2.2 j5 (eL ak)
 split at E
 ·rename_i O;obtain⟨k,H,ab,aM⟩:=O;have J:=h.get (show k<(D is) by omega);rw[aM,ak] at J;have J:=ni J;have a1:=h.am k (by omega);rw[aM,<-J] at a1;have aG:=aiy h (rk:=rk) ku.2.2.2.2.2.2.1;have ha:=h.ha;rw[<-E];exact⟨ku.1,ku.2.1,ku.2.2.1,ku.2.2.2.1,ha.1,(by show rk<10;omega),aG,a1⟩
 ·rw[<-E];exact ku
theorem awH {l:List ar}(au:gR cash l=true){j:Nat}{c:ar}(G:l[j]?=some c):gR cash (l.set j (c.1,c.2.1,rk,c.2.2.2))=true:=by
 have Y:=g1.1 au;refine g1.2 ⟨Y.1,by rw[ja];exact Y.2.1,Y.2.2.1,λx O=>?_⟩
 rcases List.mem_or_eq_of_mem_set O with E|E
 ·exact Y.2.2.2 x E
 ·have H:=Y.2.2.2 c (eL G);have ha:=h.ha;rw[E];exact⟨H.1,H.2.1,H.2.2.1,H.2.2.2.1,ha.1,(by show rk<10;omega),H.2.2.2.2.2.2⟩
end
def tg (cash:List Int)(l:List ar)(j:Nat):Rat:=gn l ((aA cash l).dw (l.getD j gw).1.toNat) (l.getD j gw)
theorem XO {cash:List Int}{l:List ar}{j:Nat}(ai:j<D l):(oa cash l)[j]?=some (aE (tg cash l j)):=by
 unfold oa tg;rw[a5,bs ai,jo,dY,bs ai,BG]
theorem XP {cash:List Int}{l:List ar}(Q:fG cash l){j:Nat}(ai:j<D l):eI 482 (tg cash l j):=by
 have hm:l.getD j gw∈l:=by rw[dY,bs ai,BG];exact mD ai
 have:=af7 Q hm;rw[Wu Q.right _ hm] at this;exact this
theorem aiz {cash:List Int}{l:List ar}(Q:gR cash l=true){j:Nat}(ai:j<D l):0<=tg cash l j/\tg cash l j<=((l.getD j gw).2.2.2:Rat):=by
 have hm:l.getD j gw∈l:=by rw[dY,bs ai,BG];exact mD ai
 exact atc (λc G=>((g1.1 Q).2.2.2 c G).2.2.2.2.2.2.1) hm _
def jW (cash:List Int)(cs:List ar)(is:List Int)(ah rk:Int)(k:Nat):Rat:=tg cash (ek cs is ah rk (-1) (D is)) (is.getD k 0).toNat
def pv (cash:List Int)(cs:List ar)(is:List Int)(ah rk:Int)(k:Nat):Rat:=tg cash (ek cs is ah rk k (D is)) (is.getD k 0).toNat
section
variable {cash:List Int} {cs:List ar} {is:List Int} {ah rk:Int} (h:vZ cash cs is ah rk) {k:Nat} (J:k<D is)
include h J
omit J in
theorem awI (aG:(D cash)<=6)(hB:(D cs)<=12)(but:Int):fG cash (ek cs is ah rk but (D is)):=by
 have Y:=Py h but (bP _);exact⟨Y,aG,by rw[r3];exact hB,λc G=>((g1.1 Y).2.2.2 c G).2.2.2.2.2.2.2⟩
theorem awJ:(ek cs is ah rk (-1) (D is)).getD (is.getD k 0).toNat gw=ka ah rk (cs.getD (is.getD k 0).toNat gw):=by
 rw[dY (l:=ek cs is ah rk (-1) (D is)),Dq h (-1) (bP _) J,Z ⟨J,by omega⟩];rfl
theorem awK:(ek cs is ah rk k (D is)).getD (is.getD k 0).toNat gw=cs.getD (is.getD k 0).toNat gw:=by
 rw[dY (l:=ek cs is ah rk k (D is)),Dq h k (bP _) J,aa (λh=>h.2 rfl)];rfl
theorem awL:pv cash cs is ah rk k<=((cs.getD (is.getD k 0).toNat gw).2.2.2:Rat)/\jW cash cs is ah rk k<=((ka ah rk (cs.getD (is.getD k 0).toNat gw)).2.2.2:Rat):=by
 have fa:=h.bG k J;have E:=(aiz (Py h (k:Int) (bP _)) (j:=(is.getD k 0).toNat) (by rw[r3];omega)).2;have H:=(aiz (Py h (-1) (bP _)) (j:=(is.getD k 0).toNat) (by rw[r3];omega)).2;rw[awK h J] at E;rw[awJ h J] at H;exact⟨E,H⟩
end
def XQ:b1:=cu 19 1 [.t 2] (R [dM 1 339001 0,c5 2 false] (R [aT 3 0 1,aK 4 1 3,cp 5 4,bc 6 .leq 5 5,F 7 6,⟨some 8,some (7,true),.et 1 (.t 1)⟩,⟨some 9,some (7,true),.load 1 false (.t 8)⟩,⟨some 10,some (7,true),.len (.t 9)⟩,⟨some 11,some (7,true),.bin .leq (.t 10) (.c (ag 8))⟩,gG 12 7 11,F 13 12,⟨some 14,some (13,true),.et 2 (.t 1)⟩,⟨some 15,some (13,true),.load 1 false (.t 14)⟩,⟨some 16,some (13,true),.len (.t 15)⟩,⟨some 17,some (13,true),.bin .leq (.t 16) (.c (ag 10))⟩,gG 18 13 17,F 2 18] .ret))
def XR:b1:=cu 100 1 [.t 2] (R [dM 1 347001 0,c5 2 false] (.seq (R [aT 6 0 1,aK 7 1 6,aT 8 1 1,aK 9 1 8,(cd 10 RC 7 9),gi 11 10,F 12 11,⟨some 13,some (12,false),.et 2 (.t 1)⟩,⟨some 14,some (12,false),.load 1 false (.t 13)⟩,⟨some 15,some (12,false),.len (.t 14)⟩,⟨some 16,some (12,false),.bin .eql (.t 15) (.c (ag 0))⟩,dn 17 12 16,F 18 17,⟨some 19,some (18,false),.et 3 (.t 1)⟩,⟨some 20,some (18,false),.load 1 false (.t 19)⟩,⟨some 21,some (18,false),.bin .lss (.t 20) (.c (ag 0))⟩,dn 22 18 21,F 23 22,⟨some 24,some (23,false),.et 3 (.t 1)⟩,⟨some 25,some (23,false),.load 1 false (.t 24)⟩,⟨some 26,some (23,false),.bin .gtr (.t 25) (.c (ag 10000))⟩,dn 27 23 26,F 28 27,⟨some 29,some (28,false),.et 4 (.t 1)⟩,⟨some 30,some (28,false),.load 1 false (.t 29)⟩,⟨some 31,some (28,false),.bin .lss (.t 30) (.c (ag 0))⟩,dn 32 28 31,F 33 32,⟨some 34,some (33,false),.et 4 (.t 1)⟩,⟨some 35,some (33,false),.load 1 false (.t 34)⟩,⟨some 36,some (33,false),.bin .gtr (.t 35) (.c (ag 9))⟩,dn 37 33 36] (a4 37 (R [c5 2 false] .ret) .skip)) (.seq (R [bt 3 0] (.block 0 (.loop  (.seq (R [F 38 3,aT 39 2 1,aK 40 1 39,cp 41 40,bB 42 .lss 38 41] (a4 42 .skip (.exit 0))) (.seq (.block 1 (R [aT 45 2 1,aK 46 1 45,F 47 3,bM 48 1 46 47,aK 49 1 48,F 4 49] (.seq (R [F 50 4,bc 51 .lss 50 0,F 52 51,⟨some 53,some (52,false),.b3 (.t 4)⟩,⟨some 54,some (52,false),.et 1 (.t 1)⟩,⟨some 55,some (52,false),.load 1 false (.t 54)⟩,⟨some 56,some (52,false),.len (.t 55)⟩,⟨some 57,some (52,false),.bin .geq (.t 53) (.t 56)⟩,dn 58 52 57,F 59 58,⟨some 60,some (59,false),.b3 (.t 3)⟩,⟨some 61,some (59,false),.bin .gtr (.t 60) (.c (ag 0))⟩,⟨some 62,some (59,false),.b3 (.t 61)⟩,⟨some 63,some (62,true),.b3 (.t 4)⟩,⟨some 64,some (62,true),.et 2 (.t 1)⟩,⟨some 65,some (62,true),.load 1 false (.t 64)⟩,⟨some 66,some (62,true),.b3 (.t 3)⟩,⟨some 67,some (62,true),.bin .sub (.t 66) (.c (ag 1))⟩,⟨some 68,some (62,true),.iw true (.t 67) (.c (ag 0))⟩,⟨some 69,some (62,true),.jj 1 (.t 65) (.t 68)⟩,⟨some 70,some (62,true),.load 1 false (.t 69)⟩,⟨some 71,some (62,true),.bin .leq (.t 63) (.t 70)⟩,⟨some 72,some (59,false),.pick (.t 62) (.t 71) (.c (.I (.bool false)))⟩,dn 73 59 72] (a4 73 (R [c5 2 false] .ret) .skip)) (.seq (fc [aT 74 1 1,aK 75 1 74,F 76 4,bM 77 4 75 76,aT 78 0 77,aK 79 1 78,aT 80 1 1,aK 81 1 80,aT 82 2 1,aK 83 1 82,(ax 84 (.jj 1 (.t 83) (.c (ag 0)))),aK 85 1 84,bM 86 4 81 85,aT 87 0 86,aK 88 1 87,bB 89 .neq 79 88] Ew (a4 89 (R [c5 2 false] .ret) .skip)) (fc [bm 90 5 1,aT 91 1 1,aK 92 1 91,F 93 4,bM 94 4 92 93,bm 95 4 94,(cd 96 Iw 90 95),(ax 5 (.alloc 347005 [(ag 0),(ag 0),(ag 0),(ag 0)])),bb 4 5 96] [[],[],[],[],[],[],[],[0,2,5],[]] (R [aT 97 3 5,aK 98 1 97,bc 99 .gtr 98 1000000000000000] (a4 99 (R [c5 2 false] .ret) .skip))))))) (.ops [F 43 3,bc 44 .add 43 1,F 3 44])))))) (R [c5 2 true] .ret))))
def XS:b1:=cu 39 2 [.t 4] (R [dM 2 352002 0,eH 4] (R [(ax 7 (.e1 352007 true [] 4 0 [])),aT 8 1 2,aK 9 1 8,(ax 10 (.app 352010 [(ag 0),(ag 0),(ag 0),(ag 0)] 32 (.t 7) (.t 9))),F 5 10] (.seq (R [bt 6 0] (.block 0 (.loop  (.seq (R [F 11 6,aT 12 2 2,aK 13 1 12,cp 14 13,bB 15 .lss 11 14] (a4 15 .skip (.exit 0))) (.seq (.block 1 (R [F 18 6,F 19 1,bB 20 .neq 18 19] (a4 20 (.mz [F 21 5,aT 22 2 2,aK 23 1 22,F 24 6,bM 25 1 23 24,aK 26 1 25,bm 27 5 2,F 28 5,aT 29 2 2,aK 30 1 29,F 31 6,bM 32 1 30 31,aK 33 1 32,bM 34 4 28 33,bm 35 4 34,(cd 36 Iw 27 35),bM 37 4 21 26,bb 4 37 36] aaT) .skip))) (.ops [F 16 6,bc 17 .add 16 1,F 6 17])))))) (R [F 38 5,F 4 38] .ret))))
def XT:b1:=cu 26 2 [.cell 4 4 true] (R [dM 2 359002 0,dM 3 359003 1,(ax 4 (.alloc 359004 [(ag 0),(ag 0),(ag 0),(ag 0)]))] (R [aT 5 0 3,aK 6 1 5,aT 7 1 3,aK 8 1 7,aT 9 4 2,aK 10 1 9,aT 11 3 3,aK 12 1 11,bc 13 .quo 12 1000,aT 14 3 2,aK 15 1 14,bB 16 .mul 13 15,aT 17 3 3,aK 18 1 17,bc 19 .rem 18 1000,aT 20 3 2,aK 21 1 20,bB 22 .mul 19 21,bc 23 .quo 22 1000,bB 24 .add 16 23,(ax 25 (.build [(ag 0),(ag 0),(ag 0),(ag 0)] [(0,1,(.t 6)),(1,1,(.t 8)),(2,1,(.t 10)),(3,1,(.t 24))])),bb 4 4 25] .ret))
def XU:b1:=cu 86 2 [.t 4] (R [c5 4 false] (.seq (R [F 8 0,cp 9 8,bc 10 .gtr 9 60,F 11 10,⟨some 12,some (11,false),.b3 (.t 1)⟩,⟨some 13,some (11,false),.len (.t 12)⟩,⟨some 14,some (11,false),.bin .gtr (.t 13) (.c (ag 2000))⟩,dn 15 11 14] (a4 15 (R [c5 4 false] .ret) .skip)) (.seq (R [bt 5 0] (.block 0 (.loop  (.seq (R [F 16 5,F 17 0,cp 18 17,bB 19 .lss 16 18] (a4 19 .skip (.exit 0))) (.seq (.block 1 (R [F 22 0,F 23 5,bM 24 1 22 23,aK 25 1 24,bc 26 .lss 25 0,F 27 26,⟨some 28,some (27,false),.b3 (.t 0)⟩,⟨some 29,some (27,false),.b3 (.t 5)⟩,⟨some 30,some (27,false),.jj 1 (.t 28) (.t 29)⟩,⟨some 31,some (27,false),.load 1 false (.t 30)⟩,⟨some 32,some (27,false),.bin .gtr (.t 31) (.c (ag 1000000000000000))⟩,dn 33 27 32] (a4 33 (R [c5 4 false] .ret) .skip))) (.ops [F 20 5,bc 21 .add 20 1,F 5 21])))))) (.seq (R [bt 6 0] (.block 2 (.loop  (.seq (R [F 34 6,F 35 1,cp 36 35,bB 37 .lss 34 36] (a4 37 .skip (.exit 2))) (.seq (.block 3 (R [F 40 1,F 41 6,bM 42 4 40 41,bm 43 4 42,(ax 7 (.alloc 358007 [(ag 0),(ag 0),(ag 0),(ag 0)])),bb 4 7 43] (R [aT 44 0 7,aK 45 1 44,bc 46 .lss 45 0,F 47 46,⟨some 48,some (47,false),.et 0 (.t 7)⟩,⟨some 49,some (47,false),.load 1 false (.t 48)⟩,⟨some 50,some (47,false),.b3 (.t 0)⟩,⟨some 51,some (47,false),.len (.t 50)⟩,⟨some 52,some (47,false),.bin .geq (.t 49) (.t 51)⟩,dn 53 47 52,F 54 53,⟨some 55,some (54,false),.et 1 (.t 7)⟩,⟨some 56,some (54,false),.load 1 false (.t 55)⟩,⟨some 57,some (54,false),.bin .lss (.t 56) (.c (.I (.int .i64 (-1))))⟩,dn 58 54 57,F 59 58,⟨some 60,some (59,false),.et 1 (.t 7)⟩,⟨some 61,some (59,false),.load 1 false (.t 60)⟩,⟨some 62,some (59,false),.b3 (.t 0)⟩,⟨some 63,some (59,false),.len (.t 62)⟩,⟨some 64,some (59,false),.bin .geq (.t 61) (.t 63)⟩,dn 65 59 64,F 66 65,⟨some 67,some (66,false),.et 2 (.t 7)⟩,⟨some 68,some (66,false),.load 1 false (.t 67)⟩,⟨some 69,some (66,false),.bin .lss (.t 68) (.c (ag 0))⟩,dn 70 66 69,F 71 70,⟨some 72,some (71,false),.et 2 (.t 7)⟩,⟨some 73,some (71,false),.load 1 false (.t 72)⟩,⟨some 74,some (71,false),.bin .gtr (.t 73) (.c (ag 9))⟩,dn 75 71 74,F 76 75,⟨some 77,some (76,false),.et 3 (.t 7)⟩,⟨some 78,some (76,false),.load 1 false (.t 77)⟩,⟨some 79,some (76,false),.bin .lss (.t 78) (.c (ag 0))⟩,dn 80 76 79,F 81 80,⟨some 82,some (81,false),.et 3 (.t 7)⟩,⟨some 83,some (81,false),.load 1 false (.t 82)⟩,⟨some 84,some (81,false),.bin .gtr (.t 83) (.c (ag 1000000000000000))⟩,dn 85 81 84] (a4 85 (R [c5 4 false] .ret) .skip)))) (.ops [F 38 6,bc 39 .add 38 1,F 6 39])))))) (R [c5 4 true] .ret)))))
def XV:b1:=cu 8 1 [.t 2] (R [eH 2] (.seq (R [F 3 0,(ax 4 (.py false (.t 3)))] (a4 4 (R [eH 2] .ret) .skip)) (R [(ax 5 (.e1 360005 true [] 4 0 [])),F 6 0,(ax 7 (.app 360007 [(ag 0),(ag 0),(ag 0),(ag 0)] 32 (.t 5) (.t 6))),F 2 7] .ret)))
end Go.Mini
namespace Go.Mini
open Go
def bV (cash:List Int)(cs:List ar)(is:List Int)(ah rk:Int):List Data:=[.af (cash.map ad),.af (cs.map bp),.af (is.map ad),.int .i64 ah,.int .i64 rk]
theorem Pz {cash Kd:List Int}{cs nM:List ar}{is aiA:List Int}{ah aiB rk aiC:Int}(h:bV cash cs is ah rk=bV Kd nM aiA aiB aiC):cash=Kd/\cs=nM/\is=aiA/\ah=aiB/\rk=aiC:=by
 simp only[bV,bh,Data.af.injEq,Data.int.injEq,and_true,true_and] at h;exact⟨map_inj g7 _ _ h.1,map_inj zf _ _ h.2.1,map_inj g7 _ _ h.2.2.1,h.2.2.2.1,h.2.2.2.2⟩
def XW:=cy GH λ(cash,cs)=>cT (D cash<=1000000/\D cs<=1000000) (.same (.bool (gR cash cs)))
@[go_sem] theorem awM (cash:List Int)(cs:List ar)(G:(D cash)<=1000000/\D cs<=1000000):XW [.af (cash.map ad),.af (cs.map bp)]=some (.same (.bool (gR cash cs))):=(cI O4 (cash,cs)).trans (cY G _)
theorem awN (T:bk)(Xt:T It=aW O0)(Xu:T Iu=aW O2)(cash:List Int)(cs:List ar)(G:(D cash)<=1000000/\D cs<=1000000):WP T Xe (.same (.bool (gR cash cs))) [.I (.af (cash.map ad)),.I (.af (cs.map bp))]:=by
 refine cC ?_;simp only[Xe];obtain⟨E,H⟩:=G;rw[Wm];have dj:=ahD cash .hold ⟨E,trivial⟩;have fi:=ahG cs (.hold (D cash)) ⟨H,by show (0:Int)<=(D cash:Int);omega,by show (D cash:Int)<=1000000;omega⟩
 have aw:cash.any (r0 .hold) = !cash.all jh:=O3 cash jh;have aC:cs.any (xG (.hold (D cash))) = !cs.all (kY (D cash)):=O3 cs _;rw[aw] at dj;rw[aC] at fi;simp only[uH] at dj;simp only[tc] at fi;have d1:decide (D cash<=60)=decide ((D cash:Int)<=60):=by rw[kB,decide_eq_true_iff,decide_eq_true_iff];omega
 have d2:decide (D cs<=2000)=decide ((D cs:Int)<=2000):=by rw[kB,decide_eq_true_iff,decide_eq_true_iff];omega
 rw[d1,d2];rcases fF:decide ((D cash:Int)<=60)<;>rcases eY:decide ((D cs:Int)<=2000)<;>rcases jC:cash.all jh<;>rcases iD:cs.all (kY (D cash))
 all_goals rw[jC] at dj
 all_goals rw[iD] at fi
 all_goals
      refine a9 ?_;repeat' (intro h<;>simp only[h,go_sem,go_sem_proc,Xt,Xu,dj,fi,fF,eY,aj,ca,cv,tE,hy,c8,v5,pY,scalar]<;>try refine av ?_ ?_)
theorem aiD {a ah:Int}(ak:0<=a)(E:a<=1000000000000000)(dt:0<=ah)(w1:ah<=10000):0<=a/1000*ah/\a/1000*ah<=10000000000000000/\0<=a%1000*ah/\a%1000*ah<=10000000:=by
 have db:0<=a/1000:=B7 ak (by decide);have dH:a/1000<=1000000000000:=by omega
 have fk:0<=a%1000:=EJ _ (by decide);have fM:a%1000<=1000:=by omega
 exact⟨qG db dt,aiE (EF dH w1 dt (by decide)) (by decide),qG fk dt,aiE (EF fM w1 dt (by decide)) (by decide)⟩
theorem aiF {a ah:Int}(ak:0<=a)(E:a<=1000000000000000)(dt:0<=ah)(w1:ah<=10000):IntKind.i64.wrap (IntKind.i64.wrap (IntKind.i64.wrap (a.tdiv 1000)*ah)+IntKind.i64.wrap ((IntKind.i64.wrap (a.tmod 1000*ah)).tdiv 1000))=a/1000*ah+a%1000*ah/1000:=by
 obtain⟨dP,gV,oH,s7⟩:=aiD ak E dt w1;rw[yD ak,Aa ak,wrap64 (a/1000) (by omega) (by omega),wrap64 (a/1000*ah) (by omega) (by omega),wrap64 (a%1000*ah) (by omega) (by omega),yD oH];generalize a/1000*ah=x at *;generalize a%1000*ah=y at *;rw[wrap64 (y/1000) (by omega) (by omega),wrap64 _ (by omega) (by omega)]
theorem awO {a ah:Int}(ak:0<=a)(E:a<=1000000000000000)(dt:0<=ah)(w1:ah<=10000):0<=a/1000*ah+a%1000*ah/1000/\a/1000*ah+a%1000*ah/1000<=10000000000010000:=by
 obtain⟨dP,gV,oH,s7⟩:=aiD ak E dt w1;generalize a/1000*ah=x at *;generalize a%1000*ah=y at *;omega
abbrev PA:(List Int)×(List ar)×(List Int)×Int×Int×Int×Int×Int×Int->List Data:=λ(cash,cs,is,ah,rk,aD,c2,c3,c4)=>[.agg (bV cash cs is ah rk),.agg [.int .i64 aD,.int .i64 c2,.int .i64 c3,.int .i64 c4]]
def PB:=cy PA λ(cash,cs,is,ah,rk,aD,c2,c3,c4)=>cT (0<=c4/\c4<=1000000000000000/\0<=ah/\ah<=10000) (.same (.agg (bp (ka ah rk (aD,c2,c3,c4)))))
theorem aiG:∀a b,PA a=PA b->a=b:=by
  rintro⟨O5,KB,XX,XY,XZ,aD8,aD9,aEa,aEb⟩ ⟨O6,wx,X0,X1,X2,vI,aEc,aEd,aEe⟩ h;simp only[bh,Data.agg.injEq,Data.int.injEq,and_true,true_and] at h;obtain⟨cF,cQ,h0,kV,aiH⟩:=h;obtain⟨rfl,rfl,rfl,rfl,rfl⟩:=Pz cF;rw[cQ,h0,kV,aiH]
@[go_sem] theorem aiI (cash:List Int)(cs:List ar)(is:List Int)(ah:Int)(rk:Int)(aD:Int)(c2:Int)(c3:Int)(c4:Int)(G:0<=c4/\c4<=1000000000000000/\0<=ah/\ah<=10000):PB [.agg (bV cash cs is ah rk),.agg [.int .i64 aD,.int .i64 c2,.int .i64 c3,.int .i64 c4]]=some (.same (.agg (bp (ka ah rk (aD,c2,c3,c4))))):=(cI aiG (cash,cs,is,ah,rk,aD,c2,c3,c4)).trans (cY G _)
theorem awP (T:bk)  (cash:List Int) (cs:List ar) (is:List Int) (ah:Int) (rk:Int) (aD:Int) (c2:Int) (c3:Int) (c4:Int) (G:0<=c4/\c4<=1000000000000000/\0<=ah/\ah<=10000):WP T Xf (.same (.agg (bp (ka ah rk (aD,c2,c3,c4))))) [.I (.agg (bV cash cs is ah rk)),.I (.agg [.int .i64 aD,.int .i64 c2,.int .i64 c3,.int .i64 c4])]:=by
 refine cC ?_;simp only[Xf];obtain⟨ak,E,dt,w1⟩:=G;refine a9 ?_;repeat' (intro h<;>simp only[h,go_sem,go_sem_proc,bV,bp,ka,aiF ak E dt w1]<;>try refine av ?_ ?_)
def PC:=cy PA λ(cash,cs,is,ah,rk,aD,c2,c3,c4)=>cT (0<=c4/\c4<=1000000000000000/\0<=ah/\ah<=10000) (.same (.agg (bp (ka ah rk (aD,c2,c3,c4)))))
@[go_sem] theorem aiJ (cash:List Int)(cs:List ar)(is:List Int)(ah:Int)(rk:Int)(aD:Int)(c2:Int)(c3:Int)(c4:Int)(G:0<=c4/\c4<=1000000000000000/\0<=ah/\ah<=10000):PC [.agg (bV cash cs is ah rk),.agg [.int .i64 aD,.int .i64 c2,.int .i64 c3,.int .i64 c4]]=some (.same (.agg (bp (ka ah rk (aD,c2,c3,c4))))):=(cI aiG (cash,cs,is,ah,rk,aD,c2,c3,c4)).trans (cY G _)
theorem awQ (T:bk)  (cash:List Int) (cs:List ar) (is:List Int) (ah:Int) (rk:Int) (aD:Int) (c2:Int) (c3:Int) (c4:Int) (G:0<=c4/\c4<=1000000000000000/\0<=ah/\ah<=10000):WP T XT (.same (.agg (bp (ka ah rk (aD,c2,c3,c4))))) [.I (.agg (bV cash cs is ah rk)),.I (.agg [.int .i64 aD,.int .i64 c2,.int .i64 c3,.int .i64 c4])]:=by
 refine cC ?_;simp only[XT];obtain⟨ak,E,dt,w1⟩:=G;refine a9 ?_;repeat' (intro h<;>simp only[h,go_sem,go_sem_proc,bV,bp,ka,aiF ak E dt w1]<;>try refine av ?_ ?_)
theorem aiK {cs:List ar}{is:List Int}{ah:Int}{k:Nat}(h:∀j,j<k->ib cs is ah j=true){j:Nat}(ai:j<k):0<=is.getD j 0/\is.getD j 0<D cs:=by
 have:=h j ai;unfold ib at this;simp only[e3,decide_eq_true_eq] at this;exact this.1.1
theorem xN {cash:List Int}{cs:List ar}{is:List Int}{ah rk:Int}{k:Nat}(J:k<D is)(h:ib cs is ah k=false):gS cash cs is ah rk=false:=by
 unfold gS;have:(dL (D is)).all (ib cs is ah)=false:=X3.2 ⟨k,hk.2 J,by rw[h];decide⟩
 rw[this,hy]
def k4 (cash:List Int)(cs:List ar)(is:List Int):Prop:=D cash<=6/\D cs<=12/\D is<=1000000
abbrev Dr:(List Int)×(List ar)×(List Int)×Int×Int->List Data:=λ(cash,cs,is,ah,rk)=>[.agg (bV cash cs is ah rk)]
def GR:=cy Dr λ(cash,cs,is,ah,rk)=>cT (k4 cash cs is) (.same (.bool (gS cash cs is ah rk)))
theorem KP:∀a b,Dr a=Dr b->a=b:=by
  rintro⟨O5,KB,XX,XY,XZ⟩ ⟨O6,wx,X0,X1,X2⟩ h;simp only[bh,Data.agg.injEq,and_true] at h;obtain⟨rfl,rfl,rfl,rfl,rfl⟩:=Pz h;rfl
@[go_sem] theorem PD (cash:List Int)(cs:List ar)(is:List Int)(ah:Int)(rk:Int)(G:k4 cash cs is):GR [.agg (bV cash cs is ah rk)]=some (.same (.bool (gS cash cs is ah rk))):=(cI KP (cash,cs,is,ah,rk)).trans (cY G _)
theorem awR (T:bk)(jF:T RB=aW XW)(hq:T ru=aW GC)(hL:T Iv=aW PB)(cash:List Int)(cs:List ar)(is:List Int)(ah:Int)(rk:Int)(G:k4 cash cs is):WP T W9 (.same (.bool (gS cash cs is ah rk))) [.I (.agg (bV cash cs is ah rk))]:=by
 refine cC ?_;simp only[W9];obtain⟨aG,hB,yN⟩:=G;have X:=awM cash cs ⟨by omega,by omega⟩
 have d0:((D is:Int)==0)=is.isEmpty:=by cases is<;>simp<;>omega
 rcases th:gR cash cs
 ·rw[th] at X;have aJ:gS cash cs is ah rk=false:=by unfold gS;rw[th];rfl
  rw[aJ];simp only[go_sem,go_sem_proc,jF,hq,hL,bV,X,aj,cv];repeat' (first|refine av ?_ ?_|fail)<;>intro h<;>simp only[h,go_sem,go_sem_proc,jF,hq,hL,bV,X,aj,cv]
 rw[th] at X;rcases fF:is.isEmpty
 case true =>
  have aJ:gS cash cs is ah rk=false:=by unfold gS;rw[th,fF];rfl
  rw[aJ];rw[fF] at d0;simp only[go_sem,go_sem_proc,jF,hq,hL,bV,X,d0,aj,ca];repeat' (first|refine av ?_ ?_|fail)<;>intro h<;>simp only[h,go_sem,go_sem_proc,jF,hq,hL,bV,X,d0,aj,ca]
 rw[fF] at d0;rcases eY:(decide (0<=ah)&&decide (ah<=10000))
 ·have aJ:gS cash cs is ah rk=false:=by
   unfold gS;rw[PE (_&&_) (decide (0<=ah)),eY];simp
  rw[aJ];simp only[go_sem,go_sem_proc,jF,hq,hL,bV,X,d0,eY,aj,ca,cv];repeat' (first|refine av ?_ ?_|fail)<;>intro h<;>simp only[h,go_sem,go_sem_proc,jF,hq,hL,bV,X,d0,eY,aj,ca,cv]
 rcases jC:(decide (0<=rk)&&decide (rk<=9))
 ·have aJ:gS cash cs is ah rk=false:=by
   unfold gS;rw[PE (_&&_) (decide (0<=rk)),jC];simp
  rw[aJ];simp only[go_sem,go_sem_proc,jF,hq,hL,bV,X,d0,eY,jC,aj,ca,cv];repeat' (first|refine av ?_ ?_|fail)<;>intro h<;>simp only[h,go_sem,go_sem_proc,jF,hq,hL,bV,X,d0,eY,jC,aj,ca,cv]
 have ef:gS cash cs is ah rk=(dL (D is)).all (ib cs is ah):=by
  unfold gS;rw[PE (_&&_) (decide (0<=rk)),jC,tE,PE (_&&_) (decide (0<=ah)),eY,th,fF];rfl
 have qk:0<=ah/\ah<=10000:=by simpa using eY
 have w8:=(g1.1 th).2.2.2;simp only[go_sem,go_sem_proc,jF,hq,hL,bV,X,d0,eY,jC,aj,ca,cv];refine dE [1,31,32] [346001] (λ(k:Nat) tm m=>k<=D is/\tm 33=.I (.int .i64 k)/\∀j,j<k->ib cs is ah j=true) (λk=>D is-k) 0 (by refine⟨by omega,rfl,λj ai=>by omega⟩) ?_;intro vs ms aV aR;simp only[go_sem,go_sem_proc,jF,hq,hL,bV,aj] at aV aR;subst aV aR;rintro k tm m J hm ⟨L,jV,ey⟩;simp only[go_sem,go_sem_proc,jF,hq,hL,bh] at J hm;obtain⟨aw,fo,fp⟩:=J;rcases dQ (k<D is) with aq|ck
 ·have d1:decide ((k:Int)<(D is:Int))=true:=dg;have cf:=fW (i:=k) (by omega);have wl:IntKind.i64.wrap ((D cs:Int)-1)=(D cs:Int)-1:=by rw[eA _]
  obtain⟨i,O⟩:∃i,is[k]?=some i:=⟨_,bs aq⟩;have jf:=l1 (d:=0) O;obtain⟨i0,fE⟩:∃i,is[0]?=some i:=⟨_,bs (by omega)⟩;have KQ:=l1 (d:=0) fE;rcases g2:(decide (0<=i)&&decide (i<=(D cs:Int)-1))
  ·have Q:ib cs is ah k=false:=by
    have:¬ (0<=i/\i<D cs):=λh=>by rw[Be,decide_eq_false_iff_not,decide_eq_false_iff_not] at g2;omega
    unfold ib;rw[jf,Be]
    left
    rw[Be]
    left
    rw[Be,decide_eq_false_iff_not,decide_eq_false_iff_not];omega
   rw[xN aq Q];simp only[go_sem,go_sem_proc,jF,hq,hL,aw,fo,fp,jV,hm,O,d1,wl,g2,ad,aj,a5,cv];repeat' (first|refine av ?_ ?_|fail)<;>intro h<;>simp only[h,go_sem,go_sem_proc,jF,hq,hL,aw,fo,fp,jV,hm,O,d1,wl,g2,ad,aj,a5,cv]
  have aEf:0<=i/\i<D cs:=by rw[e3,decide_eq_true_iff,decide_eq_true_iff] at g2;omega
  obtain⟨n,rfl⟩:∃n:Nat,i=(n:Int):=⟨i.toNat,by omega⟩
  obtain⟨⟨aD,c2,c3,c4⟩,G⟩:∃c,cs[n]?=some c:=⟨_,bs (by omega)⟩;have KG:=l1 (d:=gw) G;have je:=w8 _ (eL G);dsimp only at je
  have rv:0<=i0/\i0<D cs:=by
   by_cases ma:k=0
   ·subst ma;rw[O] at fE;have:=ni fE;omega
   ·have:=aiK ey (j:=0) (by omega);rwa [KQ] at this
  obtain⟨X4,rfl⟩:∃n:Nat,i0=(n:Int):=⟨i0.toNat,by omega⟩
  obtain⟨⟨gj,h7,uC,A7⟩,aQ⟩:∃c,cs[X4]?=some c:=⟨_,bs (by omega)⟩;have IQ:=l1 (d:=gw) aQ;have hX:0<D is:=by omega
  have hex:=aiI cash cs is ah rk aD c2 c3 c4 ⟨je.2.2.2.2.2.2.1,je.2.2.2.2.2.2.2,qk.1,qk.2⟩;obtain⟨ba,bf⟩:=awO je.2.2.2.2.2.2.1 je.2.2.2.2.2.2.2 qk.1 qk.2
  have pw:ib cs is ah k=((k==0||decide (is.getD (k-1) 0<(n:Int)))&&(aD==gj&&decide (c4/1000*ah+c4%1000*ah/1000<=1000000000000000))):=by
   unfold ib;rw[jf,KQ,gX,gX,KG,IQ,iH (by omega:(0:Int)<=(n:Int)),iH (by omega:(n:Int)<(D cs:Int))]
   rfl
  simp only[bV,bp,ka] at hex;generalize dj:c4/1000*ah+c4%1000*ah/1000=A at *;have Bf:decide (0<=A)=true:=iH ba
  have PF:ib cs is ah k=true->∀j,j<k+1->ib cs is ah j=true:=λh j ai=>by
   by_cases eW:j=k
   ·rw[eW];exact h
   ·exact ey j (by omega)
  rcases l2:(k==0||decide (is.getD (k-1) 0<(n:Int)))
  ·have Q:ib cs is ah k=false:=by rw[pw,l2];rfl
   rw[xN aq Q];rw[Bool.or_eq_false_iff,beq_eq_false_iff_ne,decide_eq_false_iff_not] at l2;obtain⟨y,ao⟩:∃i,is[k-1]?=some i:=⟨_,bs (by omega)⟩;have vn:=l1 (d:=0) ao;rw[vn] at l2;have d2:decide ((k:Int)>0)=true:=dg;have mn:IntKind.i64.wrap ((k:Int)-1)=((k-1:Nat):Int):=by rw[eA _];omega
   have d3:decide ((n:Int)<=y)=true:=dg;have bK:k-1<D is:=by omega
   simp only[go_sem,go_sem_proc,jF,hq,hL,aw,fo,fp,jV,hm,O,ao,d1,d2,d3,wl,mn,g2,bK,ad,aj,a5,ca];repeat' (first|refine av ?_ ?_|fail)<;>intro h<;>simp only[h,go_sem,go_sem_proc,jF,hq,hL,aw,fo,fp,jV,hm,O,ao,d1,d2,d3,wl,mn,g2,bK,ad,aj,a5,ca]
  rw[l2] at pw;rcases gr:(aD==gj)
  ·have Q:ib cs is ah k=false:=by rw[pw,gr];rfl
   rw[xN aq Q];rcases jm k with ma|ma
   ·have d2:decide ((k:Int)>0)=false:=c1;simp only[go_sem,go_sem_proc,jF,hq,hL,aw,fo,fp,jV,hm,O,fE,G,aQ,d1,d2,wl,g2,gr,hX,bp,ad,aj,a5,ca,cv,kd,bne];repeat' (first|refine av ?_ ?_|fail)<;>intro h<;>simp only[h,go_sem,go_sem_proc,jF,hq,hL,aw,fo,fp,jV,hm,O,fE,G,aQ,d1,d2,wl,g2,gr,hX,bp,ad,aj,a5,ca,cv,kd,bne]
   ·obtain⟨y,ao⟩:∃i,is[k-1]?=some i:=⟨_,bs (by omega)⟩;have vn:=l1 (d:=0) ao;have d2:decide ((k:Int)>0)=true:=dg;have mn:IntKind.i64.wrap ((k:Int)-1)=((k-1:Nat):Int):=by rw[eA _];omega
    have d3:decide ((n:Int)<=y)=false:=by
     rw[qz,beq_iff_eq,decide_eq_true_iff,vn] at l2;exact c1
    have bK:k-1<D is:=by omega
    simp only[go_sem,go_sem_proc,jF,hq,hL,aw,fo,fp,jV,hm,O,fE,ao,G,aQ,d1,d2,d3,wl,mn,g2,gr,hX,bK,bp,ad,aj,a5,ca,cv,kd,bne];repeat' (first|refine av ?_ ?_|fail)<;>intro h<;>simp only[h,go_sem,go_sem_proc,jF,hq,hL,aw,fo,fp,jV,hm,O,fE,ao,G,aQ,d1,d2,d3,wl,mn,g2,gr,hX,bK,bp,ad,aj,a5,ca,cv,kd,bne]
  rw[gr] at pw;rcases lD:decide (A<=1000000000000000)
  ·have Q:ib cs is ah k=false:=by rw[pw,lD];rfl
   rw[xN aq Q];rcases jm k with ma|ma
   ·have d2:decide ((k:Int)>0)=false:=c1;simp only[go_sem,go_sem_proc,jF,hq,hL,aw,fo,fp,jV,hm,O,fE,G,aQ,hex,Bf,d1,d2,wl,g2,gr,lD,hX,bp,ad,bV,aj,a5,ca,cv,kd,bne];repeat' (first|refine av ?_ ?_|fail)<;>intro h<;>simp only[h,go_sem,go_sem_proc,jF,hq,hL,aw,fo,fp,jV,hm,O,fE,G,aQ,hex,Bf,d1,d2,wl,g2,gr,lD,hX,bp,ad,bV,aj,a5,ca,cv,kd,bne]
   ·obtain⟨y,ao⟩:∃i,is[k-1]?=some i:=⟨_,bs (by omega)⟩;have vn:=l1 (d:=0) ao;have d2:decide ((k:Int)>0)=true:=dg;have mn:IntKind.i64.wrap ((k:Int)-1)=((k-1:Nat):Int):=by rw[eA _];omega
    have d3:decide ((n:Int)<=y)=false:=by
     rw[qz,beq_iff_eq,decide_eq_true_iff,vn] at l2;exact c1
    have bK:k-1<D is:=by omega
    simp only[go_sem,go_sem_proc,jF,hq,hL,aw,fo,fp,jV,hm,O,fE,ao,G,aQ,hex,Bf,d1,d2,d3,wl,mn,g2,gr,lD,hX,bK,bp,ad,bV,aj,a5,ca,cv,kd,bne];repeat' (first|refine av ?_ ?_|fail)<;>intro h<;>simp only[h,go_sem,go_sem_proc,jF,hq,hL,aw,fo,fp,jV,hm,O,fE,ao,G,aQ,hex,Bf,d1,d2,d3,wl,mn,g2,gr,lD,hX,bK,bp,ad,bV,aj,a5,ca,cv,kd,bne]
  ·have Q:ib cs is ah k=true:=by rw[pw,lD];rfl
   have pF:=PF Q;rcases jm k with ma|ma
   ·have d2:decide ((k:Int)>0)=false:=c1;simp only[go_sem,go_sem_proc,jF,hq,hL,aw,fo,fp,jV,hm,O,fE,G,aQ,hex,Bf,d1,d2,cf,wl,g2,gr,lD,hX,bp,ad,bV,aj,a5,ca,cv,kd,bne];repeat' (first|refine av ?_ ?_|fail)<;>intro h<;>simp only[h,go_sem,go_sem_proc,jF,hq,hL,aw,fo,fp,jV,hm,O,fE,G,aQ,hex,Bf,d1,d2,cf,wl,g2,gr,lD,hX,bp,ad,bV,aj,a5,ca,cv,kd,bne]
    exact⟨k+1,by omega,by omega,rfl,pF⟩
   ·obtain⟨y,ao⟩:∃i,is[k-1]?=some i:=⟨_,bs (by omega)⟩;have vn:=l1 (d:=0) ao;have d2:decide ((k:Int)>0)=true:=dg;have mn:IntKind.i64.wrap ((k:Int)-1)=((k-1:Nat):Int):=by rw[eA _];omega
    have d3:decide ((n:Int)<=y)=false:=by
     rw[qz,beq_iff_eq,decide_eq_true_iff,vn] at l2;exact c1
    have bK:k-1<D is:=by omega
    simp only[go_sem,go_sem_proc,jF,hq,hL,aw,fo,fp,jV,hm,O,fE,ao,G,aQ,hex,Bf,d1,d2,d3,cf,wl,mn,g2,gr,lD,hX,bK,bp,ad,bV,aj,a5,ca,cv,kd,bne];repeat' (first|refine av ?_ ?_|fail)<;>intro h<;>simp only[h,go_sem,go_sem_proc,jF,hq,hL,aw,fo,fp,jV,hm,O,fE,ao,G,aQ,hex,Bf,d1,d2,d3,cf,wl,mn,g2,gr,lD,hX,bK,bp,ad,bV,aj,a5,ca,cv,kd,bne]
    exact⟨k+1,by omega,by omega,rfl,pF⟩
 ·have d1:decide ((k:Int)<(D is:Int))=false:=c1;obtain rfl:k=D is:=by omega
  have:gS cash cs is ah rk=true:=by
   rw[ef,oj];exact λj ai=>ey j (hk.1 ai)
  rw[this];simp only[go_sem,go_sem_proc,jF,hq,hL,aw,fo,fp,jV,d1,aj];repeat' (first|refine av ?_ ?_|fail)<;>intro h<;>simp only[h,go_sem,go_sem_proc,jF,hq,hL,aw,fo,fp,jV,d1,aj]
end Go.Mini
namespace Go.Mini
open Go
theorem awS {x:List Data}(h:Fits [.af (.int .i64),.af (.st [.int .i64,.int .i64,.int .i64,.int .i64]),.af (.int .i64),.int .i64,.int .i64] x):∃cash cs is ah rk,x=bV cash cs is ah rk:=by
 simp only[Fits] at h;obtain⟨_,_,rfl,E,_,_,rfl,H,_,_,rfl,ab,_,_,rfl,aM,_,_,rfl,bl,rfl⟩:=h;unfold Fit at E H ab aM bl;obtain⟨aEg,rfl,-,cF⟩:=E;obtain⟨aEh,rfl,-,cQ⟩:=H;obtain⟨aEi,rfl,-,h0⟩:=ab;obtain⟨ah,rfl,-⟩:=aM;obtain⟨rk,rfl,-⟩:=bl;obtain⟨cash,rfl⟩:=acs cF;obtain⟨cs,rfl⟩:=asF cQ;obtain⟨is,rfl⟩:=acs h0;exact⟨cash,cs,is,ah,rk,rfl⟩
end Go.Mini
namespace Go.Mini
open Go
def X5:=cy GH λ(cash,cs)=>cT (D cash<=1000000/\D cs<=1000000) (.same (.bool (gR cash cs)))
@[go_sem] theorem awT (cash:List Int)(cs:List ar)(G:(D cash)<=1000000/\D cs<=1000000):X5 [.af (cash.map ad),.af (cs.map bp)]=some (.same (.bool (gR cash cs))):=(cI O4 (cash,cs)).trans (cY G _)
theorem awU (T:bk)  (cash:List Int) (cs:List ar) (G:(D cash)<=1000000/\D cs<=1000000):WP T XU (.same (.bool (gR cash cs))) [.I (.af (cash.map ad)),.I (.af (cs.map bp))]:=by
 refine cC ?_;simp only[XU];obtain⟨bK,b0⟩:=G;rw[Wm];rcases fF:decide ((D cash:Int)>60)
 case true =>
  rw[show decide (D cash<=60)=false from ob (by have:=of_decide_eq_true fF;omega)];simp only[go_sem,go_sem_proc,fF,aj,fC];repeat' (first|refine av ?_ ?_|fail)<;>intro h<;>simp only[h,go_sem,go_sem_proc,fF,aj,fC]
 rcases eY:decide ((D cs:Int)>2000)
 case true =>
  rw[show decide (D cs<=2000)=false from ob (by have:=of_decide_eq_true eY;omega)];simp only[go_sem,go_sem_proc,fF,eY,aj,fC,hy];repeat' (first|refine av ?_ ?_|fail)<;>intro h<;>simp only[h,go_sem,go_sem_proc,fF,eY,aj,fC,hy]
 rw[show decide (D cash<=60)=true from iH (by have:=of_decide_eq_false fF;omega),show decide (D cs<=2000)=true from iH (by have:=of_decide_eq_false eY;omega),hP,hP];simp only[go_sem,go_sem_proc,fF,eY,aj];refine dE [0,1] [358007] (λ(i:Nat) tm m=>i<=D cash/\tm 5=.I (.int .i64 i)/\(cash.take i).all jh=true) (λi=>D cash-i) 0 (by refine⟨by omega,rfl,rfl⟩) ?_;intro vs ms aV aR;simp only[go_sem,go_sem_proc,aj] at aV aR;subst aV aR;rintro i tm m J hm ⟨L,dS,ef⟩;simp only[go_sem,go_sem_proc,bh] at J hm;obtain⟨b6,aw⟩:=J;rcases dQ (i<D cash) with aq|ck
 ·have d1:decide ((i:Int)<(D cash:Int))=true:=dg;have cf:=fW (i:=i) (by omega);obtain⟨x,O⟩:∃c,cash[i]?=some c:=⟨_,bs aq⟩;have ll:(cash.take (i+1)).all jh=jh x:=by rw[ks,O,aiL,aiM,ef];simp
  have ie:jh x=false->cash.all jh=false:=λh=>X3.2 ⟨x,eL O,by rw[h];decide⟩
  rcases aD:decide (x<0)
  ·rcases c2:decide (x>1000000000000000)
   ·have Y:jh x=true:=Oe.2 (by have:=of_decide_eq_false aD;have:=of_decide_eq_false c2;omega);simp only[go_sem,go_sem_proc,b6,aw,dS,hm,O,d1,cf,aD,c2,ad,aj,a5];repeat' (first|refine av ?_ ?_|fail)<;>intro h<;>simp only[h,go_sem,go_sem_proc,b6,aw,dS,hm,O,d1,cf,aD,c2,ad,aj,a5]
    exact⟨i+1,by omega,by omega,rfl,by rw[ll,Y]⟩
   ·have Y:jh x=false:=by
     rw[<-aiN,Oe];have:=of_decide_eq_true c2;omega
    rw[ie Y];simp only[go_sem,go_sem_proc,b6,aw,dS,hm,O,d1,aD,c2,ad,aj,a5,fC];repeat' (first|refine av ?_ ?_|fail)<;>intro h<;>simp only[h,go_sem,go_sem_proc,b6,aw,dS,hm,O,d1,aD,c2,ad,aj,a5,fC]
  ·have Y:jh x=false:=by
    rw[<-aiN,Oe];have:=of_decide_eq_true aD;omega
   rw[ie Y];simp only[go_sem,go_sem_proc,b6,aw,dS,hm,O,d1,aD,ad,aj,a5,fC];repeat' (first|refine av ?_ ?_|fail)<;>intro h<;>simp only[h,go_sem,go_sem_proc,b6,aw,dS,hm,O,d1,aD,ad,aj,a5,fC]
 have d1:decide ((i:Int)<(D cash:Int))=false:=c1;rw[dD (by omega)] at ef;rw[ef,hP];simp only[go_sem,go_sem_proc,b6,aw,dS,d1,aj];clear d1 ef;refine dE [0,1] [] (λ(i:Nat) tm m=>i<=D cs/\tm 6=.I (.int .i64 i)/\(cs.take i).all (kY (D cash))=true) (λi=>D cs-i) 0 (by refine⟨by omega,rfl,rfl⟩) ?_;intro vs ms aV aR;simp only[go_sem,go_sem_proc,b6,aw,aj] at aV aR;subst aV aR;clear b6 aw hm;rintro i tm m J nZ ⟨L,bQ,ef⟩;simp only[go_sem,go_sem_proc,bh] at J;obtain⟨b6,aw⟩:=J;rcases dQ (i<D cs) with aq|ck
 ·have d1:decide ((i:Int)<(D cs:Int))=true:=dg;have cf:=fW (i:=i) (by omega);obtain⟨⟨a,b,k,x⟩,O⟩:∃c,cs[i]?=some c:=⟨_,bs aq⟩;have ll:(cs.take (i+1)).all (kY (D cash))=kY (D cash) (a,b,k,x):=by rw[ks,O,aiL,aiM,ef];simp
  have ie:kY (D cash) (a,b,k,x)=false->cs.all (kY (D cash))=false:=λh=>X3.2 ⟨_,eL O,by rw[h];decide⟩
  by_cases Y:kY (D cash) (a,b,k,x)=true
  ·have DY:=Od.1 Y;dsimp only at DY;have aD:decide (a<0)=false:=c1;have c2:decide (a>=(D cash:Int))=false:=c1;have c3:decide (b < -1)=false:=c1;have c4:decide (b>=(D cash:Int))=false:=c1;have Ou:decide (k<0)=false:=c1;have Ov:decide (k>9)=false:=c1;have aiO:decide (x<0)=false:=c1;have aiP:decide (x>1000000000000000)=false:=c1;simp only[go_sem,go_sem_proc,b6,aw,bQ,O,d1,cf,aD,c2,c3,c4,Ou,Ov,aiO,aiP,bp,aj,a5];repeat' (first|refine av ?_ ?_|fail)<;>intro h<;>simp only[h,go_sem,go_sem_proc,b6,aw,bQ,O,d1,cf,aD,c2,c3,c4,Ou,Ov,aiO,aiP,bp,aj,a5]
   exact⟨i+1,by omega,by omega,rfl,by rw[ll,Y]⟩
  ·have aJ:kY (D cash) (a,b,k,x)=false:=by simpa using Y
   rw[ie aJ];rw[Od] at Y;dsimp only at Y;simp only[go_sem,go_sem_proc,b6,aw,bQ,O,d1,bp,aj,a5];repeat' (first|refine av ?_ ?_|fail)<;>intro h<;>simp only[h,go_sem,go_sem_proc,b6,aw,bQ,O,d1,bp,aj,a5]
   all_goals (exfalso;simp only[decide_eq_false_iff_not] at *;omega)
 ·have d1:decide ((i:Int)<(D cs:Int))=false:=c1;rw[dD (by omega)] at ef;rw[ef];simp only[go_sem,go_sem_proc,b6,aw,bQ,d1,aj];repeat' (first|refine av ?_ ?_|fail)<;>intro h<;>simp only[h,go_sem,go_sem_proc,b6,aw,bQ,d1,aj]
def X6:=cy Dr λ(cash,cs,is,ah,rk)=>cT (k4 cash cs is) (.same (.bool (gS cash cs is ah rk)))
@[go_sem] theorem awV (cash:List Int)(cs:List ar)(is:List Int)(ah:Int)(rk:Int)(G:k4 cash cs is):X6 [.agg (bV cash cs is ah rk)]=some (.same (.bool (gS cash cs is ah rk))):=(cI KP (cash,cs,is,ah,rk)).trans (cY G _)
theorem awW (T:bk)(hT:T RC=aW X5)(gD:T Iw=aW PC)(cash:List Int)(cs:List ar)(is:List Int)(ah:Int)(rk:Int)(G:k4 cash cs is):WP T XR (.same (.bool (gS cash cs is ah rk))) [.I (.agg (bV cash cs is ah rk))]:=by
 refine cC ?_;simp only[XR];obtain⟨aG,hB,yN⟩:=G;have X:=awT cash cs ⟨by omega,by omega⟩
 have d0:((D is:Int)==0)=is.isEmpty:=by cases is<;>simp<;>omega
 rcases th:gR cash cs
 ·rw[th] at X;have aJ:gS cash cs is ah rk=false:=by unfold gS;rw[th];rfl
  rw[aJ];simp only[go_sem,go_sem_proc,hT,gD,bV,X,aj,cv];repeat' (first|refine av ?_ ?_|fail)<;>intro h<;>simp only[h,go_sem,go_sem_proc,hT,gD,bV,X,aj,cv]
 rw[th] at X;rcases fF:is.isEmpty
 case true =>
  have aJ:gS cash cs is ah rk=false:=by unfold gS;rw[th,fF];rfl
  rw[aJ];rw[fF] at d0;simp only[go_sem,go_sem_proc,hT,gD,bV,X,d0,aj,ca];repeat' (first|refine av ?_ ?_|fail)<;>intro h<;>simp only[h,go_sem,go_sem_proc,hT,gD,bV,X,d0,aj,ca]
 rw[fF] at d0
 have hU:gS cash cs is ah rk=(decide (0<=ah)&&decide (ah<=10000)&&decide (0<=rk)&&decide (rk<=9)&&(dL (D is)).all (ib cs is ah)):=by
  unfold gS;rw[th,fF];rfl
 have E:decide (0<=ah) = !decide (ah<0):=by rw[kB,decide_eq_true_iff,pZ,decide_eq_false_iff_not];omega
 have H:decide (ah<=10000) = !decide (ah>10000):=by rw[kB,decide_eq_true_iff,pZ,decide_eq_false_iff_not];omega
 have ab:decide (0<=rk) = !decide (rk<0):=by rw[kB,decide_eq_true_iff,pZ,decide_eq_false_iff_not];omega
 have aM:decide (rk<=9) = !decide (rk>9):=by rw[kB,decide_eq_true_iff,pZ,decide_eq_false_iff_not];omega
 rw[E,H,ab,aM] at hU;rcases eY:decide (ah<0)
 case true =>
  rw[hU,eY];simp only[go_sem,go_sem_proc,hT,gD,bV,X,d0,eY,aj,ca,fC];repeat' (first|refine av ?_ ?_|fail)<;>intro h<;>simp only[h,go_sem,go_sem_proc,hT,gD,bV,X,d0,eY,aj,ca,fC]
 rcases jC:decide (ah>10000)
 case true =>
  rw[hU,eY,jC];simp only[go_sem,go_sem_proc,hT,gD,bV,X,d0,eY,jC,aj,ca,cv,fC,hy];repeat' (first|refine av ?_ ?_|fail)<;>intro h<;>simp only[h,go_sem,go_sem_proc,hT,gD,bV,X,d0,eY,jC,aj,ca,cv,fC,hy]
 rcases iD:decide (rk<0)
 case true =>
  rw[hU,eY,jC,iD];simp only[go_sem,go_sem_proc,hT,gD,bV,X,d0,eY,jC,iD,aj,ca,cv,fC,hy];repeat' (first|refine av ?_ ?_|fail)<;>intro h<;>simp only[h,go_sem,go_sem_proc,hT,gD,bV,X,d0,eY,jC,iD,aj,ca,cv,fC,hy]
 rcases qi:decide (rk>9)
 case true =>
  rw[hU,eY,jC,iD,qi];simp only[go_sem,go_sem_proc,hT,gD,bV,X,d0,eY,jC,iD,qi,aj,ca,cv,fC,hy];repeat' (first|refine av ?_ ?_|fail)<;>intro h<;>simp only[h,go_sem,go_sem_proc,hT,gD,bV,X,d0,eY,jC,iD,qi,aj,ca,cv,fC,hy]
 have ef:gS cash cs is ah rk=(dL (D is)).all (ib cs is ah):=by rw[hU,eY,jC,iD,qi];rfl
 have qk:0<=ah/\ah<=10000:=by have:=of_decide_eq_false eY;have:=of_decide_eq_false jC;omega
 have w8:=(g1.1 th).2.2.2;simp only[go_sem,go_sem_proc,hT,gD,bV,X,d0,eY,jC,iD,qi,aj,ca];refine dE [1] [347001] (λ(k:Nat) tm m=>k<=D is/\tm 3=.I (.int .i64 k)/\∀j,j<k->ib cs is ah j=true) (λk=>D is-k) 0 (by refine⟨by omega,rfl,λj ai=>by omega⟩) ?_;intro vs ms aV aR;simp only[go_sem,go_sem_proc,hT,gD,bV,aj] at aV aR;subst aV aR;rintro k tm m J hm ⟨L,cx,ey⟩;simp only[go_sem,go_sem_proc,hT,gD,bh] at J hm;have aw:=J;rcases dQ (k<D is) with aq|ck
 ·have d1:decide ((k:Int)<(D is:Int))=true:=dg;have cf:=fW (i:=k) (by omega);obtain⟨i,O⟩:∃i,is[k]?=some i:=⟨_,bs aq⟩;have jf:=l1 (d:=0) O;obtain⟨i0,fE⟩:∃i,is[0]?=some i:=⟨_,bs (by omega)⟩;have KQ:=l1 (d:=0) fE
  by_cases b9:0<=i/\i<D cs
  case neg =>
   have Q:ib cs is ah k=false:=by
    unfold ib;rw[jf,Be]
    left
    rw[Be]
    left
    rw[Be,decide_eq_false_iff_not,decide_eq_false_iff_not];omega
   rw[xN aq Q];rcases g2:decide (i<0)
   ·have l2:decide (i>=(D cs:Int))=true:=iH (by have:=of_decide_eq_false g2;omega);simp only[go_sem,go_sem_proc,hT,gD,aw,cx,hm,O,d1,g2,l2,ad,aj,a5];repeat' (first|refine av ?_ ?_|fail)<;>intro h<;>simp only[h,go_sem,go_sem_proc,hT,gD,aw,cx,hm,O,d1,g2,l2,ad,aj,a5]
   ·simp only[go_sem,go_sem_proc,hT,gD,aw,cx,hm,O,d1,g2,ad,aj,a5];repeat' (first|refine av ?_ ?_|fail)<;>intro h<;>simp only[h,go_sem,go_sem_proc,hT,gD,aw,cx,hm,O,d1,g2,ad,aj,a5]
  obtain⟨n,rfl⟩:∃n:Nat,i=(n:Int):=⟨i.toNat,by omega⟩
  have g2:decide ((n:Int)<0)=false:=c1;have r4:decide ((n:Int)>=(D cs:Int))=false:=c1;obtain⟨⟨aD,c2,c3,c4⟩,G⟩:∃c,cs[n]?=some c:=⟨_,bs (by omega)⟩;have KG:=l1 (d:=gw) G;have je:=w8 _ (eL G);dsimp only at je
  have rv:0<=i0/\i0<D cs:=by
   by_cases ma:k=0
   ·subst ma;rw[O] at fE;have:=ni fE;omega
   ·have:=aiK ey (j:=0) (by omega);rwa [KQ] at this
  obtain⟨X4,rfl⟩:∃n:Nat,i0=(n:Int):=⟨i0.toNat,by omega⟩
  obtain⟨⟨gj,h7,uC,A7⟩,aQ⟩:∃c,cs[X4]?=some c:=⟨_,bs (by omega)⟩;have IQ:=l1 (d:=gw) aQ;have hX:0<D is:=by omega
  have hex:=aiJ cash cs is ah rk aD c2 c3 c4 ⟨je.2.2.2.2.2.2.1,je.2.2.2.2.2.2.2,qk.1,qk.2⟩
  have pw:ib cs is ah k=((k==0||decide (is.getD (k-1) 0<(n:Int)))&&(aD==gj&&decide (c4/1000*ah+c4%1000*ah/1000<=1000000000000000))):=by
   unfold ib;rw[jf,KQ,gX,gX,KG,IQ,iH (by omega:(0:Int)<=(n:Int)),iH (by omega:(n:Int)<(D cs:Int))]
   rfl
  simp only[bV,bp,ka] at hex;generalize dj:c4/1000*ah+c4%1000*ah/1000=A at *;have awX:decide (A<=1000000000000000) = !decide (A>1000000000000000):=by rw[kB,decide_eq_true_iff,pZ,decide_eq_false_iff_not];omega
  rw[awX] at pw
  have PF:ib cs is ah k=true->∀j,j<k+1->ib cs is ah j=true:=λh j ai=>by
   by_cases eW:j=k
   ·rw[eW];exact h
   ·exact ey j (by omega)
  have Ai:(k=0/\decide ((k:Int)>0)=false)\/∃y,0<k/\is[k-1]?=some y/\decide ((k:Int)>0)=true/\IntKind.i64.wrap ((k:Int)-1)=((k-1:Nat):Int)/\k-1<D is/\(k==0||decide (is.getD (k-1) 0<(n:Int))) = !decide ((n:Int)<=y):=by
   by_cases ma:k=0
   ·exact .inl ⟨ma,c1⟩
   ·obtain⟨y,ao⟩:∃i,is[k-1]?=some i:=⟨_,bs (by omega)⟩;refine .inr ⟨y,by omega,ao,dg,by rw[eA _];omega,by omega,?_⟩
    rw[l1 (d:=0) ao,beq_eq_false_iff_ne.2 ma,Bool.false_or,kB,decide_eq_true_iff,pZ,decide_eq_false_iff_not];omega
  rcases Ai with ⟨ma,d2⟩|⟨y,ma,ao,d2,mn,bK,Bv⟩
  ·rw[ma,beq_self_eq_true,Bool.true_or,hP,<-ma] at pw;rcases gr:(aD==gj)
   ·have Q:ib cs is ah k=false:=by rw[pw,gr];rfl
    rw[xN aq Q];simp only[go_sem,go_sem_proc,hT,gD,aw,cx,hm,O,fE,G,aQ,d1,d2,g2,r4,gr,hX,bp,ad,aj,a5,kd,bne,ca,cv];repeat' (first|refine av ?_ ?_|fail)<;>intro h<;>simp only[h,go_sem,go_sem_proc,hT,gD,aw,cx,hm,O,fE,G,aQ,d1,d2,g2,r4,gr,hX,bp,ad,aj,a5,kd,bne,ca,cv]
   rcases lD:decide (A>1000000000000000)
   ·have Q:ib cs is ah k=true:=by rw[pw,gr,lD];rfl
    have pF:=PF Q;simp only[go_sem,go_sem_proc,hT,gD,aw,cx,hm,O,fE,G,aQ,hex,d1,d2,cf,g2,r4,gr,lD,hX,bp,ad,bV,aj,a5,kd,bne,ca,cv];repeat' (first|refine av ?_ ?_|fail)<;>intro h<;>simp only[h,go_sem,go_sem_proc,hT,gD,aw,cx,hm,O,fE,G,aQ,hex,d1,d2,cf,g2,r4,gr,lD,hX,bp,ad,bV,aj,a5,kd,bne,ca,cv]
    exact⟨k+1,by omega,by omega,rfl,pF⟩
   ·have Q:ib cs is ah k=false:=by rw[pw,gr,lD];rfl
    rw[xN aq Q];simp only[go_sem,go_sem_proc,hT,gD,aw,cx,hm,O,fE,G,aQ,hex,d1,d2,g2,r4,gr,lD,hX,bp,ad,bV,aj,a5,kd,bne,ca,cv];repeat' (first|refine av ?_ ?_|fail)<;>intro h<;>simp only[h,go_sem,go_sem_proc,hT,gD,aw,cx,hm,O,fE,G,aQ,hex,d1,d2,g2,r4,gr,lD,hX,bp,ad,bV,aj,a5,kd,bne,ca,cv]
  ·rw[Bv] at pw;have l9:((0:Int)>((k-1:Nat):Int))=False:=eq_false (by omega);rcases l2:decide ((n:Int)<=y)
   case true =>
    have Q:ib cs is ah k=false:=by rw[pw,l2];rfl
    rw[xN aq Q];simp only[go_sem,go_sem_proc,hT,gD,aw,cx,hm,O,ao,l9,d1,d2,mn,g2,r4,l2,bK,ad,aj,a5,ca];repeat' (first|refine av ?_ ?_|fail)<;>intro h<;>simp only[h,go_sem,go_sem_proc,hT,gD,aw,cx,hm,O,ao,l9,d1,d2,mn,g2,r4,l2,bK,ad,aj,a5,ca]
   rcases gr:(aD==gj)
   ·have Q:ib cs is ah k=false:=by rw[pw,l2,gr];rfl
    rw[xN aq Q];simp only[go_sem,go_sem_proc,hT,gD,aw,cx,hm,O,fE,ao,l9,G,aQ,d1,d2,mn,g2,r4,l2,gr,hX,bK,bp,ad,aj,a5,kd,bne,ca,cv];repeat' (first|refine av ?_ ?_|fail)<;>intro h<;>simp only[h,go_sem,go_sem_proc,hT,gD,aw,cx,hm,O,fE,ao,l9,G,aQ,d1,d2,mn,g2,r4,l2,gr,hX,bK,bp,ad,aj,a5,kd,bne,ca,cv]
   rcases lD:decide (A>1000000000000000)
   ·have Q:ib cs is ah k=true:=by rw[pw,l2,gr,lD];rfl
    have pF:=PF Q;simp only[go_sem,go_sem_proc,hT,gD,aw,cx,hm,O,fE,ao,l9,G,aQ,hex,d1,d2,cf,mn,g2,r4,l2,gr,lD,hX,bK,bp,ad,bV,aj,a5,kd,bne,ca,cv];repeat' (first|refine av ?_ ?_|fail)<;>intro h<;>simp only[h,go_sem,go_sem_proc,hT,gD,aw,cx,hm,O,fE,ao,l9,G,aQ,hex,d1,d2,cf,mn,g2,r4,l2,gr,lD,hX,bK,bp,ad,bV,aj,a5,kd,bne,ca,cv]
    exact⟨k+1,by omega,by omega,rfl,pF⟩
   ·have Q:ib cs is ah k=false:=by rw[pw,l2,gr,lD];rfl
    rw[xN aq Q];simp only[go_sem,go_sem_proc,hT,gD,aw,cx,hm,O,fE,ao,l9,G,aQ,hex,d1,d2,mn,g2,r4,l2,gr,lD,hX,bK,bp,ad,bV,aj,a5,kd,bne,ca,cv];repeat' (first|refine av ?_ ?_|fail)<;>intro h<;>simp only[h,go_sem,go_sem_proc,hT,gD,aw,cx,hm,O,fE,ao,l9,G,aQ,hex,d1,d2,mn,g2,r4,l2,gr,lD,hX,bK,bp,ad,bV,aj,a5,kd,bne,ca,cv]
 ·have d1:decide ((k:Int)<(D is:Int))=false:=c1;obtain rfl:k=D is:=by omega
  have:gS cash cs is ah rk=true:=by
   rw[ef,oj];exact λj ai=>ey j (hk.1 ai)
  rw[this];simp only[go_sem,go_sem_proc,hT,gD,aw,cx,hm,d1,aj];repeat' (first|refine av ?_ ?_|fail)<;>intro h<;>simp only[h,go_sem,go_sem_proc,hT,gD,aw,cx,hm,d1,aj]
end Go.Mini
namespace Go.Mini
open Go
theorem aiQ {l:List ar}{k:Nat}(h:k<D l):(k*4+4<=(aY bp l).length)=True:=eq_true (by rw[ld qb];omega)
theorem aiR {l:List ar}{k:Nat}{a b c d}(h:l[k]?=some (a,b,c,d)):hA 4 (h4 (k*4) (aY bp l))=[.I (.int .i64 a),.I (.int .i64 b),.I (.int .i64 c),.I (.int .i64 d)]:=by
 have:=LQ qb h (f:=0) (n:=4) (by omega);rw[Nat.add_zero] at this;unfold cut at this;rw[Z (by rw[ld qb];have:=(List.getElem?_eq_some_iff.1 h).1;omega)] at this;exact ni this
theorem aiS {l:List ar}{k:Nat}(h:k<D l)(x:ar):hA (k*4) (aY bp l)++(bp x).map M.I++h4 (k*4+4) (aY bp l)=aY bp (l.set k x):=by
 rw[<-QL qb h]
 rfl
theorem awY {l:List ar}{k:Nat}(h:k<D l):(k*4+2+1<=(aY bp l).length)=True:=eq_true (by rw[ld qb];omega)
theorem awZ {l:List ar}{k:Nat}{a b c d:Int}(h:l[k]?=some (a,b,c,d))(r:Int):hA (k*4+2) (aY bp l)++[M.I (.int .i64 r)]++h4 (k*4+2+1) (aY bp l)=aY bp (l.set k (a,b,r,d)):=by
 obtain⟨p,q,e,aB,Q⟩:=QK qb h;rw[Q,e]
 have aw:hA (k*4+2) (p++((bp (a,b,c,d)).map M.I++q))=p++[.I (.int .i64 a),.I (.int .i64 b)]:=by
  rw[List.take_append,dD (by omega),show k*4+2-D p=2 by omega];rfl
 have aC:h4 (k*4+2+1) (p++((bp (a,b,c,d)).map M.I++q))=.I (.int .i64 d)::q:=by
  rw[List.drop_append,List.drop_of_length_le (by omega),show k*4+2+1-D p=3 by omega];rfl
 rw[aw,aC,gN,gN]
 rfl
theorem X7 (l:List ar):((l.map bp).all λe=>D e==4)=true:=by simp[bp]
theorem aiT (k:Nat)(l:List ar)(h:(D l)<=1000000):l5 k 0 4 0 32 (D l) ((l.map bp).flatten.map .I) (some (0,[]))=some (.ref k 1 4 0 (D l),some (k,1,aY bp l)):=by
 have:=Eh qb Wh k 0 32 [] l (by simp;omega) (by simp;omega)
 simpa [aY] using this
theorem aiU (l:List ar):chunk 4 (D l) (l.map bp).flatten=l.map bp:=by
 have:=zY (sz:=4) (l.map bp) (λe he=>by obtain⟨c,-,rfl⟩:=fO.1 he;rfl);rwa [aj] at this
theorem aiV {m:Mem}{k g:Nat}{l:List ar}(h:m k=some (g,aY bp l)):oW 4 m (.ref k g 4 0 (D l))=some (l.map bp):=by
 have hlen:(aY bp l).length=D l*4:=ld qb l;unfold oW;simp only[h,hlen];rw[Z ⟨trivial,trivial⟩,Z ⟨trivial,bP _⟩,dD (by omega)];unfold aY;rw[wC _ λd=>rfl,jo,aiU]
def X8:=cy O7 λ(l:List ar)=>cT (D l<=1000000) (.own 4 (l.map bp))
@[go_sem] theorem aw0 (l:List ar)(G:(D l)<=1000000):X8 [.af (l.map bp)]=some (.own 4 (l.map bp)):=(cI ahK l).trans (cY G _)
theorem aw1 (T:bk)  (l:List ar) (G:(D l)<=1000000):WP T XV (.own 4 (l.map bp)) [.I (.af (l.map bp))]:=by
 refine cC ?_;simp only[XV];have di:=aiT 360005 l G;have hlen:(aY bp l).length=D l*4:=ld qb l;refine a9 ?_;repeat' (intro h<;>simp only[h,go_sem,go_sem_proc,X7,di,aj]<;>try refine av ?_ ?_)
 rintro b ae
 cases b
 ·refine a9 ?_;repeat' (intro h<;>simp only[h,go_sem,go_sem_proc,X7,di,aj,oW,hlen]<;>try refine av ?_ ?_)
  rw[Z (by omega),dD (by omega)];unfold aY;rw[wC _ λd=>rfl];rw[jo,aiU]
 ·cases l with
  |nil =>
       refine a9 ?_;repeat' (intro h<;>simp only[h,go_sem,go_sem_proc,oW,cl]<;>try refine av ?_ ?_)
  |cons x r=>simp at ae
def GS (cash:List Int)(cs:List ar)(is:List Int)(ah rk:Int):Prop:=k4 cash cs is/\gS cash cs is ah rk=true
abbrev Ds:(List Int)×(List ar)×(List Int)×Int×Int×Int->List Data:=λ(cash,cs,is,ah,rk,but)=>[.agg (bV cash cs is ah rk),.int .i64 but]
def KR:=cy Ds λ(cash,cs,is,ah,rk,but)=>cT (GS cash cs is ah rk) (.own 4 ((ek cs is ah rk but (D is)).map bp))
theorem KS:∀a b,Ds a=Ds b->a=b:=by
  rintro⟨O5,KB,XX,XY,XZ,aEj⟩ ⟨O6,wx,X0,X1,X2,aEk⟩ h;simp only[bh,Data.agg.injEq,Data.int.injEq,and_true,true_and] at h;obtain⟨cF,cQ⟩:=h;obtain⟨rfl,rfl,rfl,rfl,rfl⟩:=Pz cF;rw[cQ]
@[go_sem] theorem X9 (cash:List Int)(cs:List ar)(is:List Int)(ah:Int)(rk:Int)(but:Int)(G:GS cash cs is ah rk):KR [.agg (bV cash cs is ah rk),.int .i64 but]=some (.own 4 ((ek cs is ah rk but (D is)).map bp)):=(cI KS (cash,cs,is,ah,rk,but)).trans (cY G _)
theorem aw2 (T:bk)(GU:T RD=aW X8)(hL:T Iv=aW PB)(cash:List Int)(cs:List ar)(is:List Int)(ah:Int)(rk:Int)(but:Int)(G:GS cash cs is ah rk):WP T Xc (.own 4 ((ek cs is ah rk but (D is)).map bp)) [.I (.agg (bV cash cs is ah rk)),.I (.int .i64 but)]:=by
 refine cC ?_;simp only[Xc];obtain⟨⟨aG,hB,yN⟩,hU⟩:=G;have hd:=Dp.1 hU;have eb:=aw0 cs (by omega);have GV:(cs.map bp).flatten.map M.I=aY bp cs:=rfl;simp only[go_sem,go_sem_proc,GU,hL,bV,eb,GV,aj];refine dE [1,2,5,12,13] [354002] (λ(k:Nat) tm m=>k<=D is/\tm 14=.I (.int .i64 k)/\m 354010=some (0,aY bp (ek cs is ah rk but k))) (λk=>D is-k) 0 (by refine⟨by omega,rfl,?_⟩;simp only[a3,dA,if_false,if_true];rfl) ?_;intro vs ms aV aR;simp only[go_sem,go_sem_proc,GU,hL,bV,aj] at aV aR;subst aV aR;rintro k tm m J hm ⟨L,xk,Dt⟩;simp only[go_sem,go_sem_proc,GU,hL,bh] at J hm;obtain⟨aw,aC,dS,ij,iR⟩:=J;have uK:=r3 cs is ah rk but k;rcases dQ (k<D is) with aq|ck
 ·have d1:decide ((k:Int)<(D is:Int))=true:=dg;have cf:=fW (i:=k) (by omega);obtain⟨i,O⟩:∃i,is[k]?=some i:=⟨_,bs aq⟩;have jf:=l1 (d:=0) O;have fa:=hd.bG k aq;rw[jf] at fa;obtain⟨n,rfl⟩:∃n:Nat,i=(n:Int):=⟨i.toNat,by omega⟩
  have bF:=Dq hd but (t:=k) (by omega) aq;rw[aa (by omega),jf,gX] at bF;have fH:=hd.mem aq;rw[jf,gX] at fH;generalize cs.getD n gw=c at *;obtain⟨aD,c2,c3,c4⟩:=c;have je:=(g1.1 hd.right).2.2.2 _ fH;have hex:=aiI cash cs is ah rk aD c2 c3 c4 ⟨je.2.2.2.2.2.2.1,je.2.2.2.2.2.2.2,hd.qk.1,hd.qk.2⟩;simp only[bV] at hex;have g6:n<(ek cs is ah rk but k).length:=by omega
  have Bg:n<D cs:=by omega
  have aM:=aiQ g6;have aX:=aiR bF;have An:=aiS g6 (ka ah rk (aD,c2,c3,c4));rcases q:((k:Int)==but)
  ·have gz:ek cs is ah rk but (k+1)=(ek cs is ah rk but k).set n (ka ah rk (aD,c2,c3,c4)):=by
    show (if (k:Int)=but then _ else _)=_;rw[aa (by simpa using q),jf,gX,l1 bF]
   rw[<-gz] at An;generalize lS:ka ah rk (aD,c2,c3,c4)=cA at *;obtain⟨bf,b5,cU,dr⟩:=cA;simp only[bp] at hex;simp only[bp,e5,cl] at An;refine a9 ?_;repeat' (intro h<;>simp only[h,go_sem,go_sem_proc,GU,hL,aw,aC,dS,ij,iR,xk,hm,Dt,O,hex,aM,aX,An,Bg,d1,cf,q,bV,ad,aj,a5,bne,cv]<;>try refine av ?_ ?_)
   exact⟨k+1,by omega,by omega,rfl,rfl⟩
  ·have gz:ek cs is ah rk but (k+1)=ek cs is ah rk but k:=by
    show (if (k:Int)=but then _ else _)=_;rw[Z (by simpa using q)]
   refine a9 ?_;repeat' (intro h<;>simp only[h,go_sem,go_sem_proc,GU,hL,aw,aC,dS,ij,iR,xk,hm,Dt,O,d1,cf,q,ad,aj,a5,bne,ca]<;>try refine av ?_ ?_)
   exact⟨k+1,by omega,by omega,rfl,by rw[gz]⟩
 ·have d1:decide ((k:Int)<(D is:Int))=false:=c1;obtain rfl:k=D is:=by omega
  generalize ek cs is ah rk but (D is)=cN at *;have hlen:(aY bp cN).length=D cN*4:=ld qb cN;refine a9 ?_;repeat' (intro h<;>simp only[h,go_sem,go_sem_proc,GU,hL,aw,aC,dS,ij,iR,xk,d1,aj,uK]<;>try refine av ?_ ?_)
  rw[<-uK];exact aiV Dt
def Ya:=cy Ds λ(cash,cs,is,ah,rk,but)=>cT (GS cash cs is ah rk) (.own 4 ((ek cs is ah rk but (D is)).map bp))
@[go_sem] theorem aw3 (cash:List Int)(cs:List ar)(is:List Int)(ah:Int)(rk:Int)(but:Int)(G:GS cash cs is ah rk):Ya [.agg (bV cash cs is ah rk),.int .i64 but]=some (.own 4 ((ek cs is ah rk but (D is)).map bp)):=(cI KS (cash,cs,is,ah,rk,but)).trans (cY G _)
theorem aw4 (T:bk)(gD:T Iw=aW PC)(cash:List Int)(cs:List ar)(is:List Int)(ah:Int)(rk:Int)(but:Int)(G:GS cash cs is ah rk):WP T XS (.own 4 ((ek cs is ah rk but (D is)).map bp)) [.I (.agg (bV cash cs is ah rk)),.I (.int .i64 but)]:=by
 refine cC ?_;simp only[XS];obtain⟨⟨aG,hB,yN⟩,hU⟩:=G;have hd:=Dp.1 hU;have di:=aiT 352007 cs (by omega);simp only[go_sem,go_sem_proc,gD,bV,X7,di,aj];refine dE [1,2,5] [352002] (λ(k:Nat) tm m=>k<=D is/\tm 6=.I (.int .i64 k)/\m 352007=some (1,aY bp (ek cs is ah rk but k))) (λk=>D is-k) 0 (by refine⟨by omega,rfl,?_⟩;simp only[a3,dA,if_false,if_true];rfl) ?_;intro vs ms aV aR;simp only[go_sem,go_sem_proc,gD,bV,aj] at aV aR;subst aV aR;rintro k tm m J hm ⟨L,bQ,Dt⟩;simp only[go_sem,go_sem_proc,gD,bh] at J hm;obtain⟨aw,aC,dS⟩:=J;have uK:=r3 cs is ah rk but k;rcases dQ (k<D is) with aq|ck
 ·have d1:decide ((k:Int)<(D is:Int))=true:=dg;have cf:=fW (i:=k) (by omega);obtain⟨i,O⟩:∃i,is[k]?=some i:=⟨_,bs aq⟩;have jf:=l1 (d:=0) O;have fa:=hd.bG k aq;rw[jf] at fa;obtain⟨n,rfl⟩:∃n:Nat,i=(n:Int):=⟨i.toNat,by omega⟩
  have bF:=Dq hd but (t:=k) (by omega) aq;rw[aa (by omega),jf,gX] at bF;have fH:=hd.mem aq;rw[jf,gX] at fH;generalize cs.getD n gw=c at *;obtain⟨aD,c2,c3,c4⟩:=c;have je:=(g1.1 hd.right).2.2.2 _ fH;have hex:=aiJ cash cs is ah rk aD c2 c3 c4 ⟨je.2.2.2.2.2.2.1,je.2.2.2.2.2.2.2,hd.qk.1,hd.qk.2⟩;simp only[bV] at hex;have g6:n<(ek cs is ah rk but k).length:=by omega
  have Bg:n<D cs:=by omega
  have aM:=aiQ g6;have aX:=aiR bF;have An:=aiS g6 (ka ah rk (aD,c2,c3,c4));rcases q:((k:Int)==but)
  ·have gz:ek cs is ah rk but (k+1)=(ek cs is ah rk but k).set n (ka ah rk (aD,c2,c3,c4)):=by
    show (if (k:Int)=but then _ else _)=_;rw[aa (by simpa using q),jf,gX,l1 bF]
   rw[<-gz] at An;generalize lS:ka ah rk (aD,c2,c3,c4)=cA at *;obtain⟨bf,b5,cU,dr⟩:=cA;simp only[bp] at hex;simp only[bp,e5,cl] at An;refine a9 ?_;repeat' (intro h<;>simp only[h,go_sem,go_sem_proc,gD,aw,aC,dS,bQ,hm,Dt,O,hex,aM,aX,An,Bg,d1,cf,q,bV,ad,aj,a5,bne,cv]<;>try refine av ?_ ?_)
   exact⟨k+1,by omega,by omega,rfl,rfl⟩
  ·have gz:ek cs is ah rk but (k+1)=ek cs is ah rk but k:=by
    show (if (k:Int)=but then _ else _)=_;rw[Z (by simpa using q)]
   refine a9 ?_;repeat' (intro h<;>simp only[h,go_sem,go_sem_proc,gD,aw,aC,dS,bQ,hm,Dt,O,d1,cf,q,ad,aj,a5,bne,ca]<;>try refine av ?_ ?_)
   exact⟨k+1,by omega,by omega,rfl,by rw[gz]⟩
 ·have d1:decide ((k:Int)<(D is:Int))=false:=c1;obtain rfl:k=D is:=by omega
  generalize ek cs is ah rk but (D is)=cN at *;refine a9 ?_;repeat' (intro h<;>simp only[h,go_sem,go_sem_proc,gD,aw,aC,dS,bQ,hm,d1,aj,uK]<;>try refine av ?_ ?_)
  rw[<-uK];exact aiV Dt
end Go.Mini
namespace Go.Mini
open Go


end Go.Mini
namespace Go.Mini
open Go
def q2 (cash:List Int)(cs:List ar)(is:List Int)(ah rk:Int)(t:Nat):List bU:=(dL t).map λk=>aE (jW cash cs is ah rk k)
theorem PG (cash:List Int)(cs:List ar)(is:List Int)(ah rk:Int)(t:Nat):(q2 cash cs is ah rk t).length=t:=by simp[q2]
theorem aw5 (cash:List Int)(cs:List ar)(is:List Int)(ah rk:Int)(t:Nat):q2 cash cs is ah rk (t+1)=q2 cash cs is ah rk t++[aE (jW cash cs is ah rk t)]:=by
 unfold q2;rw[List.range_succ,mq];rfl
theorem Yb (cash:List Int)(cs:List ar)(is:List Int)(ah rk:Int){t k:Nat}(h:k<t):(q2 cash cs is ah rk t)[k]?=some (aE (jW cash cs is ah rk k)):=by
 unfold q2;rw[a5,List.getElem?_range h];rfl
def Bh (cash:List Int)(cs:List ar)(is:List Int)(ah rk:Int):Data:=if gS cash cs is ah rk=true then .cw [.af ((q2 cash cs is ah rk (D is)).map aL),.int .i64 0] else .cw [.af [],.int .i64 1]
def Du (cash:List Int)(cs:List ar)(is:List Int)(ah rk k:Int):Data:=if gS cash cs is ah rk=true then (if 0<=k/\k<(D is) then .cw [.agg (aL (aE (pv cash cs is ah rk k.toNat))),.int .i64 0] else .cw [.agg (aL dW),.int .i64 4]) else .cw [.agg (aL dW),.int .i64 1]
theorem PH {cash:List Int}{cs:List ar}{is:List Int}{ah rk:Int}(aG:k4 cash cs is)(h:vZ cash cs is ah rk)(but:Int):fG cash (ek cs is ah rk but (D is)):=awI h aG.1 aG.2.1 but
def GW:=cy Dr λ(cash,cs,is,ah,rk)=>cT (k4 cash cs is) (.same (Bh cash cs is ah rk))
@[go_sem] theorem PI (cash:List Int)(cs:List ar)(is:List Int)(ah:Int)(rk:Int)(G:k4 cash cs is):GW [.agg (bV cash cs is ah rk)]=some (.same (Bh cash cs is ah rk)):=(cI KP (cash,cs,is,ah,rk)).trans (cY G _)
theorem aw6 (T:bk)(l3:T yt=aW GR)(nb:T BZ=aW KR)(nc:T BU=aW GP)(cash:List Int)(cs:List ar)(is:List Int)(ah:Int)(rk:Int)(G:k4 cash cs is):WP T W7 (.same (Bh cash cs is ah rk)) [.I (.agg (bV cash cs is ah rk))]:=by
 refine cC ?_;simp only[W7];have Y:=PD cash cs is ah rk G;unfold Bh;rcases hU:gS cash cs is ah rk
 ·rw[aa (by decide)];rw[hU] at Y;simp only[bV] at Y;refine a9 ?_;repeat' (intro h<;>simp only[h,go_sem,go_sem_proc,l3,nb,nc,bV,Y,cl,cv]<;>try refine av ?_ ?_)
 rw[Z rfl];rw[hU] at Y;have hd:=Dp.1 hU;have eb:=X9 cash cs is ah rk (-1) ⟨G,hU⟩;have Q:=PH G hd (-1);obtain⟨aG,hB,yN⟩:=G;have au:=r3 cs is ah rk (-1) (D is);have oM:=Pw cash (ek cs is ah rk (-1) (D is)) ⟨by omega,by omega,λ_=>Q⟩
 unfold Bd at oM;rw[Z Q.right] at oM;have aiW:=λk (J:k<D is)=>XO (cash:=cash) (l:=ek cs is ah rk (-1) (D is)) (j:=(is.getD k 0).toNat) (by have:=hd.bG k J;omega);have nP:(oa cash (ek cs is ah rk (-1) (D is))).length=D cs:=by unfold oa;rw[aj,au]
 have bd:∀k,tg cash (ek cs is ah rk (-1) (D is)) (is.getD k 0).toNat=jW cash cs is ah rk k:=λk=>rfl;simp only[bd] at aiW;simp only[bV] at Y eb;generalize qj cash (ek cs is ah rk (-1) (D is))=HV at *;generalize oa cash (ek cs is ah rk (-1) (D is))=KL at *;generalize (aA cash (ek cs is ah rk (-1) (D is))).m1.map te=FD at *;simp only[go_sem,go_sem_proc,l3,nb,nc,bV,Y,eb,oM,bne,beq_self_eq_true,ca,aj];refine dE [4,24,25] [341001,341004] (λ((k,g):Nat×Nat) tm m=>k<=D is/\tm 26=.I (.int .i64 k)/\tm 6=.ref 341037 g 4 0 k/\m 341037=some (g,aY aL (q2 cash cs is ah rk k))) (λ(k,_)=>D is-k) (0,0) (by refine⟨by omega,rfl,rfl,rfl⟩) ?_;intro vs ms aV aR;simp only[go_sem,go_sem_proc,l3,nb,nc,aj] at aV aR;subst aV aR;rintro⟨k,g⟩ tm m J hm ⟨L,k2,bQ,aiX⟩;simp only[go_sem,go_sem_proc,l3,nb,nc,bh] at J hm;obtain⟨dk,r1,ji⟩:=J;obtain⟨dG,nY⟩:=hm;have g5:=PG cash cs is ah rk k;rcases dQ (k<D is) with aq|ck
 ·have d1:decide ((k:Int)<(D is:Int))=true:=dg;have cf:=fW (i:=k) (by omega);obtain⟨i,O⟩:∃i,is[k]?=some i:=⟨_,bs aq⟩;have jf:=l1 (d:=0) O;have fa:=hd.bG k aq;have kW:=aiW k aq;rw[jf] at fa kW;obtain⟨n,rfl⟩:∃n:Nat,i=(n:Int):=⟨i.toNat,by omega⟩
  rw[gX] at kW;have g6:n<D KL:=by omega
  have WO:=aw5 cash cs is ah rk k;have di:=λ(aP:bU) nM kj=>mK mU Fb 341037 g 64 (q2 cash cs is ah rk k) aP (cs:=nM) kj (by omega) (by omega);generalize aE (jW cash cs is ah rk k)=aP at *;have di:=di aP _ rfl;rw[<-WO,g5] at di;obtain⟨⟨f1,f2⟩,⟨f3,f4⟩⟩:=aP;simp only[aL,e5,cl] at di;refine a9 ?_;repeat' (intro h<;>simp only[h,go_sem,go_sem_proc,l3,nb,nc,dk,bQ,r1,ji,k2,dG,nY,aiX,O,kW,di,g6,d1,cf,aL,ad,aj,a5]<;>try refine av ?_ ?_)
  exact⟨(k+1,g+1),by dsimp only;omega,by dsimp only;omega,rfl,rfl,rfl⟩
 ·have d1:decide ((k:Int)<(D is:Int))=false:=c1;obtain rfl:k=D is:=by omega
  have Kt:=λ(K:a2->Prop) (st:a2)=>mb (K:=K) (st:=st) mU 6 341037 g (q2 cash cs is ah rk (D is));rw[g5] at Kt;refine a9 ?_;repeat' (intro h<;>simp only[h,go_sem,go_sem_proc,l3,nb,nc,dk,bQ,r1,ji,k2,dG,nY,aiX,d1,Kt,aj]<;>try refine av ?_ ?_)
end Go.Mini
namespace Go.Mini
open Go
def KT:=cy Ds λ(cash,cs,is,ah,rk,k)=>cT (k4 cash cs is) (.same (Du cash cs is ah rk k))
@[go_sem] theorem Yc (cash:List Int)(cs:List ar)(is:List Int)(ah:Int)(rk:Int)(k:Int)(G:k4 cash cs is):KT [.agg (bV cash cs is ah rk),.int .i64 k]=some (.same (Du cash cs is ah rk k)):=(cI KS (cash,cs,is,ah,rk,k)).trans (cY G _)
theorem aw7 (T:bk)(l3:T yt=aW GR)(hq:T ru=aW GC)(nb:T BZ=aW KR)(nc:T BU=aW GP)(cash:List Int)(cs:List ar)(is:List Int)(ah:Int)(rk:Int)(k:Int)(G:k4 cash cs is):WP T W8 (.same (Du cash cs is ah rk k)) [.I (.agg (bV cash cs is ah rk)),.I (.int .i64 k)]:=by
 refine cC ?_;simp only[W8];have Y:=PD cash cs is ah rk G;unfold Du;rcases hU:gS cash cs is ah rk
 ·rw[aa (by decide)];rw[hU] at Y;simp only[bV] at Y;refine a9 ?_;repeat' (intro h<;>simp only[h,go_sem,go_sem_proc,l3,hq,nb,nc,bV,Y,aL,dW,cl,cv]<;>try refine av ?_ ?_)
 rw[Z rfl];rw[hU] at Y;have qv:=G;obtain⟨aG,hB,yN⟩:=G;have wl:IntKind.i64.wrap ((D is:Int)-1)=(D is:Int)-1:=by rw[eA _]
 rcases q:(decide (0<=k)&&decide (k<=(D is:Int)-1))
 ·rw[aa (by rw[Be,decide_eq_false_iff_not,decide_eq_false_iff_not] at q;omega)];simp only[bV] at Y;refine a9 ?_;repeat' (intro h<;>simp only[h,go_sem,go_sem_proc,l3,hq,nb,nc,bV,Y,wl,q,aL,dW,cl,aj,ca,cv]<;>try refine av ?_ ?_)
 have J:0<=k/\k<D is:=by rw[e3,decide_eq_true_iff,decide_eq_true_iff] at q;omega
 rw[Z J];obtain⟨k,rfl⟩:∃n:Nat,k=(n:Int):=⟨k.toNat,by omega⟩
 have aq:k<D is:=by omega
 have hd:=Dp.1 hU;have eb:=X9 cash cs is ah rk k ⟨qv,hU⟩;have Q:=PH qv hd k;have au:=r3 cs is ah rk k (D is);have oM:=Pw cash (ek cs is ah rk k (D is)) ⟨by omega,by omega,λ_=>Q⟩
 unfold Bd at oM;rw[Z Q.right] at oM;obtain⟨i,O⟩:∃i,is[k]?=some i:=⟨_,bs aq⟩;have jf:=l1 (d:=0) O;have fa:=hd.bG k aq;have kW:=XO (cash:=cash) (l:=ek cs is ah rk k (D is)) (j:=(is.getD k 0).toNat) (by omega);have nP:(oa cash (ek cs is ah rk k (D is))).length=D cs:=by unfold oa;rw[aj,au]
 have bd:tg cash (ek cs is ah rk k (D is)) (is.getD k 0).toNat=pv cash cs is ah rk k:=rfl;rw[bd] at kW;rw[jf] at fa kW;obtain⟨n,rfl⟩:∃n:Nat,i=(n:Int):=⟨i.toNat,by omega⟩
 rw[gX] at kW ⊢;simp only[bV] at Y eb;have g6:n<(oa cash (ek cs is ah rk k (D is))).length:=by omega
 generalize qj cash (ek cs is ah rk k (D is))=HV at *;generalize oa cash (ek cs is ah rk k (D is))=KL at *;generalize (aA cash (ek cs is ah rk k (D is))).m1.map te=FD at *;generalize aE (pv cash cs is ah rk k)=aP at *;obtain⟨⟨f1,f2⟩,⟨f3,f4⟩⟩:=aP;refine a9 ?_;repeat' (intro h<;>simp only[h,go_sem,go_sem_proc,l3,hq,nb,nc,bV,Y,eb,oM,wl,q,O,kW,g6,aL,ad,bne,beq_self_eq_true,aj,a5,ca,cv]<;>try refine av ?_ ?_)
def k5 (cash:List Int)(cs:List ar)(is:List Int)(ah rk:Int)(k:Nat):Rat:=pv cash cs is ah rk k-jW cash cs is ah rk k
def Dv (cash:List Int)(cs:List ar)(is:List Int)(ah rk k:Int):Data:=if gS cash cs is ah rk=true then (if 0<=k/\k<(D is) then .cw [.bool (decide (0<k5 cash cs is ah rk k.toNat)),.agg (aL (aE (k5 cash cs is ah rk k.toNat))),.int .i64 0] else .cw [.bool false,.agg (aL dW),.int .i64 4]) else .cw [.bool false,.agg (aL dW),.int .i64 1]
theorem Yd {cash:List Int}{cs:List ar}{is:List Int}{ah rk:Int}(aG:k4 cash cs is)(h:vZ cash cs is ah rk){k:Nat}(J:k<D is):eI 482 (pv cash cs is ah rk k)/\eI 482 (jW cash cs is ah rk k):=by
 have fa:=h.bG k J;exact⟨XP (PH aG h k) (by rw[r3];omega),XP (PH aG h (-1)) (by rw[r3];omega)⟩
theorem aw8 {x:Rat}:decide (x.num.sign>0)=decide (0<x):=by
 have:x.num.sign>0↔0<x:=by
  show 0<x.num.sign↔_;rw[Int.sign_pos_iff,Rat.lt_iff,Rat.zero_num,Rat.zero_den];omega
 rw[decide_eq_decide];exact this
def KU:=cy Ds λ(cash,cs,is,ah,rk,k)=>cT (k4 cash cs is) (.same (Dv cash cs is ah rk k))
@[go_sem] theorem Ye (cash:List Int)(cs:List ar)(is:List Int)(ah:Int)(rk:Int)(k:Int)(G:k4 cash cs is):KU [.agg (bV cash cs is ah rk),.int .i64 k]=some (.same (Dv cash cs is ah rk k)):=(cI KS (cash,cs,is,ah,rk,k)).trans (cY G _)
theorem aw9 (T:bk)(ql:T BW=aW KT)(ke:T yr=aW GW)(kF:T tH=aW w3)(cash:List Int)(cs:List ar)(is:List Int)(ah:Int)(rk:Int)(k:Int)(G:k4 cash cs is):WP T Xa (.same (Dv cash cs is ah rk k)) [.I (.agg (bV cash cs is ah rk)),.I (.int .i64 k)]:=by
 refine cC ?_;simp only[Xa];have bx:=Yc cash cs is ah rk k G;have L:=PI cash cs is ah rk G;unfold Dv;unfold Du at bx;unfold Bh at L;rcases hU:gS cash cs is ah rk
 ·rw[aa (by decide)];rw[aa (by rw[hU];decide)] at bx L;simp only[bV,aL,dW,cl] at bx L;refine a9 ?_;repeat' (intro h<;>simp only[h,go_sem,go_sem_proc,ql,ke,kF,bV,bx,L,aL,dW,cl,bne,show ((1:Int)==0)=false from rfl,show ((4:Int)==0)=false from rfl,cv]<;>try refine av ?_ ?_)
 rw[Z rfl];rw[Z hU] at bx L
 by_cases J:0<=k/\k<D is
 case neg =>
  rw[aa J] at bx ⊢;simp only[bV,aL,dW,cl] at bx L;refine a9 ?_;repeat' (intro h<;>simp only[h,go_sem,go_sem_proc,ql,ke,kF,bV,bx,L,aL,dW,cl,bne,show ((1:Int)==0)=false from rfl,show ((4:Int)==0)=false from rfl,cv]<;>try refine av ?_ ?_)
 rw[Z J] at bx ⊢;obtain⟨k,rfl⟩:∃n:Nat,k=(n:Int):=⟨k.toNat,by omega⟩
 have aq:k<D is:=by omega
 have hd:=Dp.1 hU;obtain⟨gj,h7⟩:=Yd G hd aq;rw[gX] at bx ⊢;have ti:=Yb cash cs is ah rk aq;have g5:=PG cash cs is ah rk (D is);have Yf:=Of (k1 gj (by omega)) (k1 h7 (by omega)) (AW gj (CT h7) (by omega));have aX:pv cash cs is ah rk k-jW cash cs is ah rk k=k5 cash cs is ah rk k:=rfl;rw[aX] at Yf;have Ct:(aE (k5 cash cs is ah rk k)).1.1=(k5 cash cs is ah rk k).num.sign:=rfl;have kQ:=aw8 (x:=k5 cash cs is ah rk k);generalize q2 cash cs is ah rk (D is)=IL at *;generalize aE (pv cash cs is ah rk k)=aO at *;generalize aE (jW cash cs is ah rk k)=r7 at *;generalize decide (0<k5 cash cs is ah rk k)=B at *;generalize aE (k5 cash cs is ah rk k)=bA at *;generalize (k5 cash cs is ah rk k).num.sign=qN at *;obtain⟨⟨xD,xE⟩,⟨Xk,Xl⟩⟩:=aO;obtain⟨⟨i1,i2⟩,⟨i3,i4⟩⟩:=r7;obtain⟨⟨cF,cQ⟩,⟨h0,kV⟩⟩:=bA;dsimp only at Ct;subst Ct;simp only[aL,bV] at bx L Yf;refine a9 ?_;repeat' (intro h<;>simp only[h,go_sem,go_sem_proc,ql,ke,kF,bV,bx,L,Yf,ti,kQ,aL,bne,beq_self_eq_true,g5,aq,aj,a5,ca]<;>try refine av ?_ ?_)
end Go.Mini
namespace Go.Mini
open Go
def qm (cs:List ar)(is:List Int)(ah rk:Int)(k:Nat):List ar:=(ek cs is ah rk k (D is)).set (is.getD k 0).toNat ((cs.getD (is.getD k 0).toNat gw).1,(cs.getD (is.getD k 0).toNat gw).2.1,rk,(cs.getD (is.getD k 0).toNat gw).2.2.2)
def Bi (cash:List Int)(cs:List ar)(is:List Int)(ah rk:Int)(k:Nat):Rat:=tg cash (qm cs is ah rk k) (is.getD k 0).toNat
def KV (cash:List Int)(cs:List ar)(is:List Int)(ah rk k:Int):Data:=if gS cash cs is ah rk=true then (if 0<=k/\k<(D is) then .cw [.int .i64 (if 0<k5 cash cs is ah rk k.toNat then (if Bi cash cs is ah rk k.toNat<=jW cash cs is ah rk k.toNat then 1 else 2) else 0),.int .i64 0] else .cw [.int .i64 0,.int .i64 4]) else .cw [.int .i64 0,.int .i64 1]
theorem aiY (cs:List ar)(is:List Int)(ah rk:Int)(k:Nat):(qm cs is ah rk k).length=D cs:=by unfold qm;rw[ja,r3]
theorem axa {cash:List Int}{cs:List ar}{is:List Int}{ah rk:Int}(aG:k4 cash cs is)(h:vZ cash cs is ah rk){k:Nat}(J:k<D is):fG cash (qm cs is ah rk k):=by
 have bF:=Dq h (k:Int) (bP _) J;rw[aa (λh=>h.2 rfl)] at bF;have Y:=awH h (Py h (k:Int) (bP _)) bF;exact⟨Y,aG.1,by rw[aiY];exact aG.2.1,λc G=>((g1.1 Y).2.2.2 c G).2.2.2.2.2.2.2⟩
theorem Yg {x y:Rat}:decide (kC x y<=0)=decide (x<=y):=by
 have h:=afA (x:=x) (y:=y);rw[kB,decide_eq_true_iff,decide_eq_true_iff];rw[kB,decide_eq_true_iff,decide_eq_true_iff] at h
 constructor
 ·intro E;apply j6;intro H;have:=h.2 (by grind);omega
 ·intro E;apply j6;intro H;have:=h.1 (by omega);grind
def Yh:=cy Ds λ(cash,cs,is,ah,rk,k)=>cT (k4 cash cs is) (.same (KV cash cs is ah rk k))
@[go_sem] theorem axb (cash:List Int)(cs:List ar)(is:List Int)(ah:Int)(rk:Int)(k:Int)(G:k4 cash cs is):Yh [.agg (bV cash cs is ah rk),.int .i64 k]=some (.same (KV cash cs is ah rk k)):=(cI KS (cash,cs,is,ah,rk,k)).trans (cY G _)
theorem axc (T:bk)(l4:T BX=aW KU)(ke:T yr=aW GW)(nb:T BZ=aW KR)(nc:T BU=aW GP)(eD:T nn=aW ud)(cash:List Int)(cs:List ar)(is:List Int)(ah:Int)(rk:Int)(k:Int)(G:k4 cash cs is):WP T Xb (.same (KV cash cs is ah rk k)) [.I (.agg (bV cash cs is ah rk)),.I (.int .i64 k)]:=by
 refine cC ?_;simp only[Xb];have ae:=Ye cash cs is ah rk k G;have L:=PI cash cs is ah rk G;unfold KV;unfold Dv at ae;unfold Bh at L;rcases hU:gS cash cs is ah rk
 ·rw[aa (by decide)];rw[aa (by rw[hU];decide)] at ae L;simp only[bV,aL,dW,cl] at ae L;simp only[go_sem,go_sem_proc,l4,ke,nb,nc,eD,bV,ae,aL,dW,cl,bne,show ((1:Int)==0)=false from rfl,cv];repeat' (first|refine av ?_ ?_|fail)<;>intro h<;>simp only[h,go_sem,go_sem_proc,l4,ke,nb,nc,eD,bV,ae,aL,dW,cl,bne,show ((1:Int)==0)=false from rfl,cv]
 rw[Z rfl];rw[Z hU] at ae L
 by_cases J:0<=k/\k<D is
 case neg =>
  rw[aa J] at ae ⊢;simp only[bV,aL,dW,cl] at ae L;simp only[go_sem,go_sem_proc,l4,ke,nb,nc,eD,bV,ae,aL,dW,cl,bne,show ((4:Int)==0)=false from rfl,cv];repeat' (first|refine av ?_ ?_|fail)<;>intro h<;>simp only[h,go_sem,go_sem_proc,l4,ke,nb,nc,eD,bV,ae,aL,dW,cl,bne,show ((4:Int)==0)=false from rfl,cv]
 rw[Z J] at ae ⊢;obtain⟨k,rfl⟩:∃n:Nat,k=(n:Int):=⟨k.toNat,by omega⟩
 have aq:k<D is:=by omega
 rw[gX] at ae ⊢;rcases aX:decide (0<k5 cash cs is ah rk k)
 ·rw[aa (of_decide_eq_false aX)];rw[aX] at ae;generalize aE (k5 cash cs is ah rk k)=bA at *;obtain⟨⟨cF,cQ⟩,⟨h0,kV⟩⟩:=bA;simp only[aL,bV] at ae;simp only[go_sem,go_sem_proc,l4,ke,nb,nc,eD,bV,ae,bne,beq_self_eq_true,ca,cv];repeat' (first|refine av ?_ ?_|fail)<;>intro h<;>simp only[h,go_sem,go_sem_proc,l4,ke,nb,nc,eD,bV,ae,bne,beq_self_eq_true,ca,cv]
 rw[Z (of_decide_eq_true aX)];rw[aX] at ae;have hd:=Dp.1 hU;have eb:=X9 cash cs is ah rk k ⟨G,hU⟩;have Q:=axa G hd aq;obtain⟨-,h7⟩:=Yd G hd aq;have qv:=G;obtain⟨aG,hB,yN⟩:=G;have tW:=aiY cs is ah rk k;have oM:=Pw cash (qm cs is ah rk k) ⟨by omega,by omega,λ_=>Q⟩
 unfold Bd at oM;rw[Z Q.right] at oM;obtain⟨i,O⟩:∃i,is[k]?=some i:=⟨_,bs aq⟩;have jf:=l1 (d:=0) O;have fa:=hd.bG k aq;have kW:=XO (cash:=cash) (l:=qm cs is ah rk k) (j:=(is.getD k 0).toNat) (by omega);have gj:=XP Q (j:=(is.getD k 0).toNat) (by omega);have nP:(oa cash (qm cs is ah rk k)).length=D cs:=by unfold oa;rw[aj,tW]
 have bd:tg cash (qm cs is ah rk k) (is.getD k 0).toNat=Bi cash cs is ah rk k:=rfl;rw[bd] at kW gj;have bF:=Dq hd (k:Int) (bP _) aq;rw[aa (λh=>h.2 rfl)] at bF;have sG:qm cs is ah rk k=(ek cs is ah rk k (D is)).set (is.getD k 0).toNat ((cs.getD (is.getD k 0).toNat gw).1,(cs.getD (is.getD k 0).toNat gw).2.1,rk,(cs.getD (is.getD k 0).toNat gw).2.2.2):=rfl;rw[jf] at fa kW bF sG;obtain⟨n,rfl⟩:∃n:Nat,i=(n:Int):=⟨i.toNat,by omega⟩
 rw[gX] at kW bF sG;have Ko:(ek cs is ah rk k (D is)).length=D cs:=r3 _ _ _ _ _ _;generalize cs.getD n gw=c at *;obtain⟨aD,c2,c3,c4⟩:=c;have ik:=awZ bF rk;dsimp only at sG;rw[<-sG] at ik;have b0:=awY (l:=ek cs is ah rk k (D is)) (k:=n) (by omega);have ti:=Yb cash cs is ah rk aq;have g5:=PG cash cs is ah rk (D is);have lj:=C0 (k1 gj (by omega)) (k1 h7 (by omega));have hle:=Yg (x:=Bi cash cs is ah rk k) (y:=jW cash cs is ah rk k);have g6:n<(oa cash (qm cs is ah rk k)).length:=by omega
 have Bg:n<D cs:=by omega
 have KW:=λ(K:a2->Prop) (st:a2)=>mb (K:=K) (st:=st) qb 11 350034 0 (qm cs is ah rk k);rw[tW] at KW;have GV:((ek cs is ah rk k (D is)).map bp).flatten.map M.I=aY bp (ek cs is ah rk k (D is)):=rfl;generalize qj cash (qm cs is ah rk k)=HV at *;generalize oa cash (qm cs is ah rk k)=KL at *;generalize (aA cash (qm cs is ah rk k)).m1.map te=FD at *;generalize qm cs is ah rk k=WC at *;generalize ek cs is ah rk k (D is)=XL at *;generalize q2 cash cs is ah rk (D is)=IL at *;generalize aE (k5 cash cs is ah rk k)=bA at *;generalize aE (jW cash cs is ah rk k)=r7 at *;generalize aE (Bi cash cs is ah rk k)=aH at *;generalize kC (Bi cash cs is ah rk k) (jW cash cs is ah rk k)=CQ at *;obtain⟨⟨cF,cQ⟩,⟨h0,kV⟩⟩:=bA;obtain⟨⟨i1,i2⟩,⟨i3,i4⟩⟩:=r7;obtain⟨⟨fF,eY⟩,⟨jC,iD⟩⟩:=aH;simp only[aL,bV] at ae L eb lj;rcases X:decide (Bi cash cs is ah rk k<=jW cash cs is ah rk k)
 ·rw[aa (of_decide_eq_false X)];rw[X] at hle;simp only[go_sem,go_sem_proc,l4,ke,nb,nc,eD,bV,ae,L,eb,oM,GV,O,kW,ti,g5,aq,g6,Bg,Ko,tW,ik,b0,KW,lj,hle,aL,ad,bne,beq_self_eq_true,aj,a5,ca,cv];repeat' (first|refine av ?_ ?_|fail)<;>intro h<;>simp only[h,go_sem,go_sem_proc,l4,ke,nb,nc,eD,bV,ae,L,eb,oM,GV,O,kW,ti,g5,aq,g6,Bg,Ko,tW,ik,b0,KW,lj,hle,aL,ad,bne,beq_self_eq_true,aj,a5,ca,cv]
 ·rw[Z (of_decide_eq_true X)];rw[X] at hle;simp only[go_sem,go_sem_proc,l4,ke,nb,nc,eD,bV,ae,L,eb,oM,GV,O,kW,ti,g5,aq,g6,Bg,Ko,tW,ik,b0,KW,lj,hle,aL,ad,bne,beq_self_eq_true,aj,a5,ca,cv];repeat' (first|refine av ?_ ?_|fail)<;>intro h<;>simp only[h,go_sem,go_sem_proc,l4,ke,nb,nc,eD,bV,ae,L,eb,oM,GV,O,kW,ti,g5,aq,g6,Bg,Ko,tW,ik,b0,KW,lj,hle,aL,ad,bne,beq_self_eq_true,aj,a5,ca,cv]
end Go.Mini
namespace Go.Mini
open Classical
def GX (cs:List ar)(x:Nat->Rat)(i:Nat)(acc:Option Rat)(c:ar):Option Rat :=
 if c.2.1=(i:Int) then acc.bind λs=>if o7 s (gn cs (x c.1.toNat) c)=true then some (s+gn cs (x c.1.toNat) c) else none else acc
def v3 (cash:List Int)(cs:List ar)(x:Nat->Rat)(i:Nat)(l:List ar):Option Rat:=l.foldl (GX cs x i) (some ((cash.getD i 0:Int):Rat))
theorem axd (cash:List Int)(cs:List ar)(x:Nat->Rat)(i:Nat):v3 cash cs x i []=some ((cash.getD i 0:Int):Rat):=rfl
theorem KX (cash:List Int)(cs:List ar)(x:Nat->Rat)(i:Nat)(l:List ar)(c:ar):v3 cash cs x i (l++[c])=GX cs x i (v3 cash cs x i l) c:=by
 unfold v3;rw[List.foldl_append];rfl
def tj (cash:List Int)(cs:List ar)(x:Nat->Rat)(i:Nat)(l:List ar):Rat:=((cash.getD i 0:Int):Rat)+cm (l.map cK) λc=>if c.to=(i:Int) then (aA cash cs).iS x c else 0
theorem axe {cash:List Int}{cs:List ar}(h:gR cash cs=true)(x:Nat->Rat)(i:Nat)(l:List ar){c:ar}(G:c∈cs):tj cash cs x i (l++[c])=tj cash cs x i l+if c.2.1=(i:Int) then gn cs (x c.1.toNat) c else 0:=by
 unfold tj;rw[mq,Kb,<-Wu h x G];show _+(_+((if (cK c).to=(i:Int) then (aA cash cs).iS x (cK c) else 0)+0))=_;have e:(cK c).to=c.2.1:=rfl;rw[e,pj];grind
def Yi (cash:List Int)(cs:List ar)(x:Nat->Rat):Prop:=∀i,i<(D cash)->v3 cash cs x i cs=some (x i)
section
variable {cash:List Int} {cs:List ar} (Q:fG cash cs)
include Q
theorem axf {eJ:Nat}(iA:eJ=324):0<iv (D cash) (uA cash cs)/\iv (D cash) (uA cash cs)<=2^eJ:=by
 have:=Q.ly;exact⟨ad6 λk J=>af3 Q J,ae4 (e:=eJ) (λk _=>af4 Q k) (by omega)⟩
theorem axg:∃a8:Nat,0<a8/\(∃a,a<=654/\a8<=2^a)/\(∀i,i<(D cash)->eO a8 ((aA cash cs).dw i))/\∀c∈cs,eO a8 ((aA cash cs).iS (aA cash cs).dw (cK c)):=by
 obtain⟨a8,E,⟨a,H,ab⟩,aM⟩:=af2 Q;obtain⟨eJ,iA⟩:∃eJ,eJ=324:=⟨_,rfl⟩;obtain⟨js,iX⟩:=axf Q iA;refine⟨a8*iv (D cash) (uA cash cs),Nat.mul_pos E js,⟨a+eJ,by omega,by rw[Nat.pow_add];exact Nat.mul_le_mul ab iX⟩,λi L=>(aM i L).more _,λc G=>?_⟩
 have bl:=af5 Q aM G;have J:(cK c).az<D cash:=Q.ok.az _ (vG G);refine bl.of_dvd ?_;obtain⟨m,hm⟩:=ad7 (bS:=uA cash cs) J;exact⟨m,by rw[hm,Nat.mul_assoc]⟩
theorem axh {i:Nat}(L:i<D cash){l fv:List ar}(au:cs=l++fv):eI 708 (tj cash cs (aA cash cs).dw i l):=by
 obtain⟨a8,E,⟨a,H,ab⟩,-,aM⟩:=axg Q
 have AZ:∀m:List ar,(∀c∈m,c∈cs)->0<=cm (m.map cK) λc=>if c.to=(i:Int) then (aA cash cs).iS (aA cash cs).dw c else 0:=λm hm=>xr λy ao=>by
  obtain⟨c,G,rfl⟩:=fO.1 ao
  try dsimp only
  split
  ·exact Q.ok.adT _ (vG (hm c G))
  ·exact fA
 have EP:∀c∈l,c∈cs:=λc G=>by rw[au];simp[G]
 have nZ:∀c∈fv,c∈cs:=λc G=>by rw[au];simp[G]
 have ku:(0:Rat)<=((cash.getD i 0:Int):Rat):=by have:=(Q.cash i).1;exact_mod_cast this
 have X:eO a8 (tj cash cs (aA cash cs).dw i l):=by
  unfold tj;refine (eO.int _ _).add (eO.cm λy ao=>?_);obtain⟨c,G,rfl⟩:=fO.1 ao
  split
  ·exact aM c (EP c G)
  ·exact eO.zero _
 have ak:0<=tj cash cs (aA cash cs).dw i l:=by
  have:=AZ l EP;unfold tj;grind
 have hle:tj cash cs (aA cash cs).dw i l<=(aA cash cs).dw i:=by
  rw[(Oc Q.ok).1 i L]
  have e:(aA cash cs).ur (aA cash cs).dw i=tj cash cs (aA cash cs).dw i l+cm (fv.map cK) λc=>if c.to=(i:Int) then (aA cash cs).iS (aA cash cs).dw c else 0:=by
   have aC:(aA cash cs).ur (aA cash cs).dw i=((cash.getD i 0:Int):Rat)+cm (cs.map cK) λc=>if c.to=(i:Int) then (aA cash cs).iS (aA cash cs).dw c else 0:=rfl;rw[aC];unfold tj;have cx:cm (cs.map cK) (λc=>if c.to=(i:Int) then (aA cash cs).iS (aA cash cs).dw c else 0)=cm ((l++fv).map cK) λc=>if c.to=(i:Int) then (aA cash cs).iS (aA cash cs).dw c else 0:=by rw[<-au]
   rw[cx,mq,Kb];grind
  have:=AZ fv nZ;grind
 exact (X.sz E ab ak (e:=54) (Rat.le_trans hle (atd Q L))).mono (by omega)
theorem axi:Yi cash cs (aA cash cs).dw:=λi L=>by
 have key:∀n (l fv:List ar),D l=n->cs=l++fv->v3 cash cs (aA cash cs).dw i l=some (tj cash cs (aA cash cs).dw i l):=by
  intro n
  induction n with
  |zero =>
   intro l fv au _;have:l=[]:=Bb.1 au;subst this;rw[axd];unfold tj;rw[cl,cm,pj]
  |succ n ay =>
   intro l fv au kj;rcases Em l with ak|⟨m,c,rfl⟩
   ·subst ak;cases au
   ·rw[En] at *;simp only[hr,yX] at au;have G:c∈cs:=by rw[kj];simp
    have gA:cs=m++([c]++fv):=by rw[kj,gN]
    rw[KX,axe Q.right _ i m G,ay m _ (by omega) gA];unfold GX
    by_cases zj:c.2.1=(i:Int)
    ·rw[Z zj,Z zj,oZ,Z];refine AW (axh Q L gA) (b:=482) ?_ (by omega);rw[<-Wu Q.right _ G];exact af7 Q G
    ·rw[aa zj,aa zj,pj]
 have E:=key _ cs [] rfl (by simp);rw[E,(Oc Q.ok).1 i L]
 rfl
end
end Go.Mini
namespace Go.Mini
open Go
theorem aiZ (x:Rat):x*(x.den:Rat)=(x.num:Rat):=by
 have h:(Rat.divInt x.num x.den)=x:=Rat.num_divInt_den x;rw[Rat.divInt_eq_div] at h;have ak:((x.den:Int):Rat)≠0:=by have:=x.den_nz;exact_mod_cast this
 have H:(x.num:Rat)/((x.den:Int):Rat)*((x.den:Int):Rat)=(x.num:Rat):=Rat.div_mul_cancel ak;rw[h,nB] at H;exact H
theorem axj {x y:Rat}(h:o7 x y=true):dz (x+y):=by
 unfold o7 at h;simp only[e3] at h;obtain⟨-,-,ab,aM⟩:=h
 have X:((x.den:Int)*y.den)≠0:=by
  have E:=x.den_nz;have H:=y.den_nz;exact Int.mul_ne_zero (by omega) (by omega)
 have e:(x+y)*(((x.den:Int)*y.den:Int):Rat)=((x.num*y.den+y.num*x.den:Int):Rat):=by
  have aw:x*(x.den:Rat)=(x.num:Rat):=aiZ x;have aC:y*(y.den:Rat)=(y.num:Rat):=aiZ y;rw[Rat.intCast_add,p8,p8,p8,nB,nB,<-aw,<-aC];grind
 obtain⟨f1,f2⟩:=AU X e;have:=pX ab;have:=pX aM;exact⟨by omega,by omega⟩
def Yj (aI:List bU):List Rat:=aI.map Ar
structure axk (cash:List Int) (cs:List ar) (aI:List bU):Prop where
 n:(D cash)<=1000000
 c:(D cs)<=1000000
 o:o8 aI
 pq:gR cash cs=true->fG cash cs
 sz:gR cash cs=true->(D aI)=(D cash)->aI.any (o9 u5)=false->∀f∈aI,eI 460 (Ar f)
open Classical in
def Yk (cash:List Int)(cs:List ar)(x:Nat->Rat):Bool:=decide (Yi cash cs x)
open Classical in
theorem axl {cash:List Int}{cs:List ar}{x:Nat->Rat}:Yk cash cs x=true↔Yi cash cs x:=by
 unfold Yk;exact decide_eq_true_iff
def ai0 (cash:List Int)(cs:List ar)(aI:List bU):Bool:=gR cash cs&&(decide (D aI=D cash)&&(!aI.any (o9 u5)&&Yk cash cs λi=>(Yj aI).getD i 0))
structure GY (cash:List Int) (cs:List ar) (x:Nat->Rat) (l:List ar) (s:Nat->Rat):Prop where
 a:∀i,i<(D cash)->v3 cash cs x i l=some (s i)
 l:∀i,i<(D cash)->dz (s i)
theorem GY.skip {cash:List Int}{cs:List ar}{x:Nat->Rat}{l:List ar}{s:Nat->Rat}(h:GY cash cs x l s){c:ar}(G:c.2.1<0):GY cash cs x (l++[c]) s:=by
 refine⟨λi L=>?_,h.l⟩;rw[KX,h.a i L];unfold GX;rw[aa (by omega)]
theorem GY.add {cash:List Int}{cs:List ar}{x:Nat->Rat}{l:List ar}{s:Nat->Rat}(h:GY cash cs x l s){c:ar}{t:Nat}(G:c.2.1=(t:Int))(J:o7 (s t) (gn cs (x c.1.toNat) c)=true):GY cash cs x (l++[c]) λi=>if i=t then s t+gn cs (x c.1.toNat) c else s i:=by
 refine⟨λi L=>?_,λi L=>?_⟩
 ·rw[KX,h.a i L];unfold GX
  by_cases KY:i=t
  ·subst KY;rw[Z G,oZ,Z J,Z rfl]
  ·rw[aa (by omega),aa KY]
 ·by_cases KY:i=t
  ·rw[Z KY];exact axj J
  ·rw[aa KY];exact h.l i L
section
variable {cash:List Int} {cs:List ar} (Q:fG cash cs)
include Q
theorem axm:o8 (qj cash cs):=by
 have:=Q.ly;exact V5 (by omega) λi L=>k1 (Oo Q L) (by omega)
theorem axn:(qj cash cs).any (o9 u5)=false/\Yj (qj cash cs)=(dL (D cash)).map (aA cash cs).dw:=by
 refine⟨?_,?_⟩
 ·rw[List.any_eq_false];intro f aJ;obtain⟨y,ao,rfl⟩:=fO.1 aJ;obtain⟨i,L,rfl⟩:=fO.1 ao;have kO:i<D cash:=hk.1 L;have au:=k1 (Oo Q kO) (by omega);have aG:=afx Q.ok kO;rw[TL];show ¬ (!eX (aE ((aA cash cs).dw i))||decide ((aE ((aA cash cs).dw i)).1.1<0))=true;rw[N5 au];have:decide ((aA cash cs).dw i<0)=false:=ob (by grind);rw[<-as5] at this;have H:decide ((aE ((aA cash cs).dw i)).1.1<0)=false:=this;rw[H];decide
 ·unfold Yj qj df;rw[oU];exact (nj λx _=>Cl x).trans (List.map_id _)
theorem aEl:axk cash cs (qj cash cs)/\ai0 cash cs (qj cash cs)=true:=by
 obtain⟨E,H⟩:=axn Q;have aG:=Q.ly;have hB:=Q.vI;refine⟨⟨by omega,by omega,axm Q,λ_=>Q,λ_ _ _ f aJ=>?_⟩,?_⟩
 ·obtain⟨y,ao,rfl⟩:=fO.1 aJ;obtain⟨i,L,rfl⟩:=fO.1 ao;rw[Cl];exact (Oo Q (hk.1 L)).mono (by omega)
 ·unfold ai0;have au:(qj cash cs).length=D cash:=qa _ _;rw[Q.right,E,iH au,hP,hP,cv,hP,axl,H];intro i L;have O:=axi Q i L
  have kj:v3 cash cs (λi=>((dL (D cash)).map (aA cash cs).dw).getD i 0) i cs=v3 cash cs (aA cash cs).dw i cs:=by
   have Y:=(g1.1 Q.right).2.2.2
   have key:∀n (l:List ar),D l=n->(∀c∈l,c∈cs)->v3 cash cs (λi=>((dL (D cash)).map (aA cash cs).dw).getD i 0) i l=v3 cash cs (aA cash cs).dw i l:=by
    intro n
    induction n with
    |zero=>intro l au _;rw[Bb.1 au];rfl
    |succ n ay =>
     intro l au hm;rcases Em l with ak|⟨m,c,rfl⟩
     ·subst ak;cases au
     ·rw[En] at *;simp only[hr,yX] at au;have G:=Y c (hm c (by simp));rw[KX,KX,ay m (by omega) λy ao=>hm y (by simp[ao])];unfold GX;have:((dL (D cash)).map (aA cash cs).dw).getD c.1.toNat 0=(aA cash cs).dw c.1.toNat:=A9 (aA cash cs).dw 0 (show c.1.toNat<(D cash) by omega);simp only[this]
   exact key _ cs rfl λc G=>G
  rw[kj,O];show _=some ((bu (D cash) (aA cash cs).dw).getD i 0);rw[A9 (aA cash cs).dw 0 L]
end
def Yl (l:List Int):List Data:=[.af (l.map ad)]
def axo (a:List (List Int)):Prop:=D a<=1000000/\∀l∈a,D l<=1000000
theorem axp (l:List (List Nat)):l.map te=(l.map λr=>r.map λn=>((n:Nat):Int)).map Yl:=by
 rw[oU];refine nj λr _=>?_;simp only[te,Yl,Function.comp_apply,oU]
 rfl
structure PJ (cash:List Int) (cs:List ar) (aI dB:List Int) (bg:List (List Int)):Prop where
 s:fG cash cs
 h:qj cash cs=aI.map λn:Int=>aE (n:Rat)
 p:oa cash cs=dB.map λn:Int=>aE (n:Rat)
 f:((aA cash cs).m1.map λr=>r.map λn=>((n:Nat):Int))=bg
 L:∀n∈aI,dv n
 pi:∀n∈dB,dv n
 o:axo bg
theorem PJ.solve {cash:List Int}{cs:List ar}{aI dB:List Int}{bg:List (List Int)}(h:PJ cash cs aI dB bg):GP [.af (cash.map ad),.af (cs.map bp)]=some (.same (.cw [.agg [.af ((aI.map λn:Int=>aE (n:Rat)).map aL),.af ((dB.map λn:Int=>aE (n:Rat)).map aL),.af (bg.map Yl)],.int .i64 0])):=by
 have aG:=h.s.ly;have hB:=h.s.vI;have oM:=Pw cash cs ⟨by omega,by omega,λ_=>h.s⟩
 unfold Bd at oM;rw[Z h.s.right,h.h,h.p,axp,h.f] at oM;exact oM
theorem PJ.small {cash:List Int}{cs:List ar}{aI dB:List Int}{bg:List (List Int)}(h:PJ cash cs aI dB bg):(D aI)<=6/\D dB<=12:=by
 have E:=congrArg D h.h;have H:=congrArg D h.p;unfold qj at E;unfold oa at H;rw[qa,aj] at E;rw[aj,aj] at H;have aG:=h.s.ly;have hB:=h.s.vI;omega
end Go.Mini
namespace Go.Mini
open Classical
def aw:Day:=aA [5,0] [(0,1,0,10),(1,-1,0,4)]
def aC:Day:=aA [0,0] [(0,1,1,10),(1,0,1,10)]
def dk:Day:=aA [9] [(0,-1,0,6),(0,-1,1,2),(0,-1,1,4)]
def cx:Day:=aA [0,0] [(0,1,1,10),(1,0,1,10),(0,-1,0,5)]
def dS:Day:=aA [10,30] [(1,-1,0,25)]
def bQ:Day:=aA [10,0] [(0,1,0,30)]
def cg:Day:=aA [30,0] [(0,1,0,30)]
end Go.Mini
namespace Go.Mini
open Go

end Go.Mini
namespace Go.Mini
open Classical
section
variable {cash:List Int} {cs:List ar} (Q:fG cash cs)
include Q
end
end Go.Mini
namespace Go.Mini
open Go
section
variable {cash:List Int} {cs:List ar} (Q:fG cash cs) {i:Nat}
include Q
end






theorem axq {x y:Rat}(O:dz x)(ao:dz y):Nj [.agg (aL (aE x)),.agg (aL (aE y))]=some (.same (.bool (decide (x=y)))):=by
 have E:=pc O;have H:=pc ao;have h:=apu (aE x).1.1 (aE x).1.2 (aE x).2.1 (aE x).2.2 (aE y).1.1 (aE y).1.2 (aE y).2.1 (aE y).2.2 ⟨E.1,E.2,H.1,H.2⟩
 have e:Fm (((aE x).1.1,(aE x).1.2),((aE x).2.1,(aE x).2.2)) (((aE y).1.1,(aE y).1.2),((aE y).2.1,(aE y).2.2))=decide (x=y):=by
  show decide (aE x=aE y)=_
  by_cases mP:x=y
  ·rw[iH mP,mP];exact iH rfl
  ·rw[ob mP];exact ob λh=>mP (MR h)
 rw[e] at h;exact h




theorem Ym {n:Int}(h:dv n):Jx [.int .i64 n,.int .i64 1]=some (.same (.cw [.agg (aL (aE (n:Rat))),.int .i64 0])):=by
 have:=apo n 1 ⟨h,Wt⟩;rw[Wi h] at this;exact this
def Yn:b1:=cu 153 2 [.t 4] (R [dM 2 336002 0,c5 4 false] (R [(ax 21 (.call Rv [])),F 5 21] (R [bm 22 5 2,(dN 23 Rx 22),(ax 6 (.alloc 336006 [.nil,.nil,.nil,(ag 0),(ag 0)])),bb 5 6 23] (.seq (R [bm 24 5 2,(dN 25 Rw 24),gi 26 25,F 27 26,⟨some 28,some (27,false),.load 5 true (.t 6)⟩,⟨some 29,some (27,false),.call yt [(.t 28)]⟩,⟨some 30,some (27,false),.un .not (.t 29)⟩,dn 31 27 30,F 32 31,⟨some 33,some (32,false),.load 5 true (.t 2)⟩,⟨some 34,some (32,false),.call Ry [(.t 33)]⟩,⟨some 35,some (32,false),.un .not (.t 34)⟩,dn 36 32 35] (a4 36 (R [F 37 5,F 4 37] .ret) .skip)) (R [F 38 1,(ax 39 (.conv .i64 (.t 38))),aT 40 2 2,aK 41 1 40,cp 42 41,bB 43 .rem 39 42,F 7 43] (R [bm 45 5 6,(dN 46 yr 45),F 44 46,br 47 0 44,br 48 1 44,F 8 47,F 9 48] (R [bm 50 5 6,F 51 7,(cd 52 BW 50 51),F 49 52,br 53 0 49,br 54 1 49,(ax 10 (.alloc 336010 [(ag 0),.nil,(ag 0),.nil])),bb 4 10 53,F 11 54] (.seq (R [F 55 9,bc 56 .neq 55 0,F 57 56,⟨some 58,some (57,false),.b3 (.t 11)⟩,⟨some 59,some (57,false),.bin .neq (.t 58) (.c (ag 0))⟩,dn 60 57 59] (a4 60 (R [F 61 5,F 4 61] .ret) .skip)) (fc [aT 62 1 2,aK 63 1 62,aT 64 2 2,aK 65 1 64,F 66 7,bM 67 1 65 66,aK 68 1 67,bM 69 4 63 68,aT 70 3 69,aK 71 1 70,F 12 71] z4 (fc [bm 72 5 2,(ax 73 (.call RA [(.t 72),(.c (.I (.int .i64 (-1))))])),aT 74 2 2,aK 75 1 74,F 76 7,bM 77 1 75 76,aK 78 1 77,bM 79 4 73 78,aT 80 3 79,aK 81 1 80,F 13 81] z4 (R [F 83 12,(ax 84 (.call Ep [(.t 83),(.c (ag 1))])),F 82 84,br 85 0 82,br 86 1 82,(ax 14 (.alloc 336014 [(ag 0),.nil,(ag 0),.nil])),bb 4 14 85,F 15 86] (R [F 88 13,(ax 89 (.call Ep [(.t 88),(.c (ag 1))])),F 87 89,br 90 0 87,br 91 1 87,(ax 16 (.alloc 336016 [(ag 0),.nil,(ag 0),.nil])),bb 4 16 90,F 17 91] (.seq (fc [F 92 8,cp 93 92,aT 94 2 2,aK 95 1 94,cp 96 95,bB 97 .neq 93 96,F 98 97,⟨some 99,some (98,false),.load 4 true (.t 10)⟩,⟨some 100,some (98,false),.load 4 true (.t 14)⟩,⟨some 101,some (98,false),.call nn [(.t 99),(.t 100)]⟩,⟨some 102,some (98,false),.bin .gtr (.t 101) (.c (ag 0))⟩,dn 103 98 102,F 104 103,⟨some 105,some (104,false),.b3 (.t 8)⟩,⟨some 106,some (104,false),.b3 (.t 7)⟩,⟨some 107,some (104,false),.jj 4 (.t 105) (.t 106)⟩,⟨some 108,some (104,false),.load 4 true (.t 107)⟩,⟨some 109,some (104,false),.load 4 true (.t 16)⟩,⟨some 110,some (104,false),.call nn [(.t 108),(.t 109)]⟩,⟨some 111,some (104,false),.bin .gtr (.t 110) (.c (ag 0))⟩,dn 112 104 111] amv (a4 112 (R [c5 4 false] .ret) .skip)) (.seq (fc [bm 113 4 10,bm 114 4 14,(cd 115 nn 113 114),bc 116 .neq 115 0,F 117 116,⟨some 118,some (117,false),.b3 (.t 8)⟩,⟨some 119,some (117,false),.b3 (.t 7)⟩,⟨some 120,some (117,false),.jj 4 (.t 118) (.t 119)⟩,⟨some 121,some (117,false),.load 4 true (.t 120)⟩,⟨some 122,some (117,false),.load 4 true (.t 16)⟩,⟨some 123,some (117,false),.call nn [(.t 121),(.t 122)]⟩,⟨some 124,some (117,false),.bin .neq (.t 123) (.c (ag 0))⟩,dn 125 117 124] L8 (a4 125 (R [F 126 5,F 4 126] .ret) .skip)) (R [bm 128 5 6,F 129 7,(cd 130 BX 128 129),F 127 130,br 131 0 127,br 132 1 127,br 133 2 127,(ax 19 (.alloc 336019 [(ag 0),.nil,(ag 0),.nil])),F 18 131,bb 4 19 132,F 20 133] (R [F 134 5,F 135 134,⟨some 136,some (135,true),.b3 (.t 20)⟩,⟨some 137,some (135,true),.bin .eql (.t 136) (.c (ag 0))⟩,gG 138 135 137,F 139 138,⟨some 140,some (139,true),.b3 (.t 18)⟩,⟨some 141,some (139,true),.b3 (.t 12)⟩,⟨some 142,some (139,true),.b3 (.t 13)⟩,⟨some 143,some (139,true),.bin .gtr (.t 141) (.t 142)⟩,⟨some 144,some (139,true),.beq false (.t 140) (.t 143)⟩,gG 145 139 144,F 146 145,⟨some 147,some (146,true),.load 4 true (.t 19)⟩,⟨some 148,some (146,true),.b3 (.t 12)⟩,⟨some 149,some (146,true),.b3 (.t 13)⟩,⟨some 150,some (146,true),.bin .sub (.t 148) (.t 149)⟩,⟨some 151,some (146,true),.call z3 [(.t 147),(.t 150),(.c (ag 1))]⟩,gG 152 146 151,F 4 152] .ret))))))))))))))))
def Yo:b1:=cu 87 0 [.t 0] (R [c5 0 false] (R [(ax 11 (.e1 338011 false [(ag 0)] 1 1 [(0,1,(.c (ag 10)))])),(ax 12 (.build [(ag 0),(ag 0),(ag 0),(ag 0)] [(1,1,(.c (.I (.int .i64 (-1))))),(3,1,(.c (ag 12)))])),(ax 13 (.build [(ag 0),(ag 0),(ag 0),(ag 0)] [(1,1,(.c (.I (.int .i64 (-1))))),(3,1,(.c (ag 12)))])),(ax 14 (.e1 338014 false [(ag 0),(ag 0),(ag 0),(ag 0),(ag 0),(ag 0),(ag 0),(ag 0)] 4 2 [(0,4,(.t 12)),(4,4,(.t 13))])),(ax 15 (.e1 338015 false [(ag 0),(ag 0)] 1 2 [(0,1,(.c (ag 0))),(1,1,(.c (ag 1)))])),(ax 16 (.build [.nil,.nil,.nil,(ag 0),(ag 0)] [(0,1,(.t 11)),(1,1,(.t 14)),(2,1,(.t 15)),(3,1,(.c (ag 500))),(4,1,(.c (ag 1)))])),(ax 1 (.alloc 338001 [.nil,.nil,.nil,(ag 0),(ag 0)])),bb 5 1 16] (R [bm 18 5 1,(dN 19 yr 18),F 17 19,br 20 0 17,br 21 1 17,F 2 20,F 3 21] (R [bm 23 5 1,(ax 24 (.call BW [(.t 23),(.c (ag 0))])),F 22 24,br 25 0 22,br 26 1 22,(ax 4 (.alloc 338004 [(ag 0),.nil,(ag 0),.nil])),bb 4 4 25,F 5 26] (R [bm 28 5 1,(ax 29 (.call BX [(.t 28),(.c (ag 0))])),F 27 29,br 30 0 27,br 31 1 27,br 32 2 27,(ax 7 (.alloc 338007 [(ag 0),.nil,(ag 0),.nil])),F 6 30,bb 4 7 31,F 8 32] (R [bm 34 5 1,(ax 35 (.call Rz [(.t 34),(.c (ag 0))])),F 33 35,br 36 0 33,br 37 1 33,F 9 36,F 10 37] (.seq (R [F 38 2,cp 39 38,bc 40 .neq 39 2,F 41 40,⟨some 42,some (41,false),.load 5 true (.t 1)⟩,⟨some 43,some (41,false),.call yt [(.t 42)]⟩,⟨some 44,some (41,false),.un .not (.t 43)⟩,dn 45 41 44] (a4 45 (R [c5 0 false] .ret) .skip)) (R [F 46 3,bc 47 .eql 46 0,F 48 47,⟨some 49,some (48,true),.b3 (.t 5)⟩,⟨some 50,some (48,true),.bin .eql (.t 49) (.c (ag 0))⟩,gG 51 48 50,F 52 51,⟨some 53,some (52,true),.b3 (.t 8)⟩,⟨some 54,some (52,true),.bin .eql (.t 53) (.c (ag 0))⟩,gG 55 52 54,F 56 55,⟨some 57,some (56,true),.b3 (.t 10)⟩,⟨some 58,some (56,true),.bin .eql (.t 57) (.c (ag 0))⟩,gG 59 56 58,F 60 59,⟨some 61,some (60,true),.b3 (.t 2)⟩,⟨some 62,some (60,true),.jj 4 (.t 61) (.c (ag 0))⟩,⟨some 63,some (60,true),.load 4 true (.t 62)⟩,⟨some 64,some (60,true),.call z3 [(.t 63),(.c (ag 5)),(.c (ag 1))]⟩,gG 65 60 64,F 66 65,⟨some 67,some (66,true),.b3 (.t 2)⟩,⟨some 68,some (66,true),.jj 4 (.t 67) (.c (ag 1))⟩,⟨some 69,some (66,true),.load 4 true (.t 68)⟩,⟨some 70,some (66,true),.call z3 [(.t 69),(.c (ag 5)),(.c (ag 1))]⟩,gG 71 66 70,F 72 71,⟨some 73,some (72,true),.load 4 true (.t 4)⟩,⟨some 74,some (72,true),.call z3 [(.t 73),(.c (ag 10)),(.c (ag 1))]⟩,gG 75 72 74,F 76 75,⟨some 77,some (76,true),.b3 (.t 6)⟩,gG 78 76 77,F 79 78,⟨some 80,some (79,true),.load 4 true (.t 7)⟩,⟨some 81,some (79,true),.call z3 [(.t 80),(.c (ag 5)),(.c (ag 1))]⟩,gG 82 79 81,F 83 82,⟨some 84,some (83,true),.b3 (.t 9)⟩,⟨some 85,some (83,true),.bin .eql (.t 84) (.c (ag 2))⟩,gG 86 83 85,F 0 86] .ret))))))))
def Yp:b1:=cu 14 1 [.cell 2 5 true] (R [dM 1 340001 0,(ax 2 (.alloc 340002 [.nil,.nil,.nil,(ag 0),(ag 0)]))] (R [aT 3 0 1,aK 4 1 3,aT 5 1 1,aK 6 1 5,aT 7 2 1,aK 8 1 7,aT 9 3 1,aK 10 1 9,aT 11 4 1,aK 12 1 11,(ax 13 (.build [.nil,.nil,.nil,(ag 0),(ag 0)] [(0,1,(.t 4)),(1,1,(.t 6)),(2,1,(.t 8)),(3,1,(.t 10)),(4,1,(.t 12))])),bb 5 2 13] .ret))
def Yq:b1:=cu 18 3 [.t 6] (R [dM 3 353003 0,c5 6 false] (R [F 10 1,F 11 2,(cd 12 Ep 10 11),F 9 12,br 13 0 9,br 14 1 9,(ax 7 (.alloc 353007 [(ag 0),.nil,(ag 0),.nil])),bb 4 7 13,F 8 14] (R [bm 15 4 3,bm 16 4 7,(cd 17 Q3 15 16),F 6 17] .ret)))
end Go.Mini
namespace Go.Mini
open Go
def Dw (cash:List Int)(cs:List ar)(is:List Int):Bool:=decide (D cash<=5)&&decide (D cs<=8)&&decide (D is<=10)
theorem axr {cash:List Int}{cs:List ar}{is:List Int}(h:Dw cash cs is=true):k4 cash cs is/\D is<=10:=by
 unfold Dw at h;simp only[e3,decide_eq_true_eq] at h;exact⟨⟨by omega,by omega,by omega⟩,h.2⟩
def Yr:=cy Dr λ(cash,cs,is,ah,rk)=>some (.same (.bool (Dw cash cs is)))
@[go_sem] theorem axs (cash:List Int)(cs:List ar)(is:List Int)(ah:Int)(rk:Int):Yr [.agg (bV cash cs is ah rk)]=some (.same (.bool (Dw cash cs is))):=cI KP (cash,cs,is,ah,rk)
theorem axt (T:bk)  (cash:List Int) (cs:List ar) (is:List Int) (ah:Int) (rk:Int):WP T XQ (.same (.bool (Dw cash cs is))) [.I (.agg (bV cash cs is ah rk))]:=by
 refine cC ?_;simp only[XQ];have E:decide (D cash<=5)=decide ((D cash:Int)<=5):=by rw[kB,decide_eq_true_iff,decide_eq_true_iff];omega
 have H:decide (D cs<=8)=decide ((D cs:Int)<=8):=by rw[kB,decide_eq_true_iff,decide_eq_true_iff];omega
 have ab:decide (D is<=10)=decide ((D is:Int)<=10):=by rw[kB,decide_eq_true_iff,decide_eq_true_iff];omega
 unfold Dw;rw[E,H,ab];rcases fF:decide ((D cash:Int)<=5)<;>rcases eY:decide ((D cs:Int)<=8)
 all_goals
      refine a9 ?_;repeat' (intro h<;>simp only[h,go_sem,go_sem_proc,bV,fF,eY,aj,hP,fC,hy]<;>try refine av ?_ ?_)
def Ys:=cy Dr λ(cash,cs,is,ah,rk)=>some (.same (.agg (bV cash cs is ah rk)))
@[go_sem] theorem axu (cash:List Int)(cs:List ar)(is:List Int)(ah:Int)(rk:Int):Ys [.agg (bV cash cs is ah rk)]=some (.same (.agg (bV cash cs is ah rk))):=cI KP (cash,cs,is,ah,rk)
theorem axv (T:bk)  (cash:List Int) (cs:List ar) (is:List Int) (ah:Int) (rk:Int):WP T Yp (.same (.agg (bV cash cs is ah rk))) [.I (.agg (bV cash cs is ah rk))]:=by
 refine cC ?_;simp only[Yp];refine a9 ?_;repeat' (intro h<;>simp only[h,go_sem,go_sem_proc,bV]<;>try refine av ?_ ?_)
abbrev Yt:Rat×Int->List Data:=λ(x,p)=>[.agg (aL (aE x)),.int .i64 p,.int .i64 1]
def PK:=cy Yt λ(x,p)=>cT (dz x/\dv p) (.same (.bool (decide (x=(p:Rat)))))
theorem axw:∀a b,Yt a=Yt b->a=b:=by
  rintro⟨bf,js⟩ ⟨b5,iX⟩ h;simp only[bh,Data.agg.injEq,Data.int.injEq,and_true,true_and] at h;exact Prod.ext (MR (vo _ _ h.1)) h.2
@[go_sem] theorem Yu (x:Rat)(p:Int)(G:dz x/\dv p):PK [.agg (aL (aE x)),.int .i64 p,.int .i64 1]=some (.same (.bool (decide (x=(p:Rat))))):=(cI axw (x,p)).trans (cY G _)
theorem axx (T:bk)(uL:T Ep=aW Jx)(axy:T Q3=aW Nj)(x:Rat)(p:Int)(G:dz x/\dv p):WP T Yq (.same (.bool (decide (x=(p:Rat))))) [.I (.agg (aL (aE x))),.I (.int .i64 p),.I (.int .i64 1)]:=by
 refine cC ?_;simp only[Yq];obtain⟨O,aB⟩:=G;have db:=Ym aB;have ai1:=axq O (qd aB);generalize aE x=cA at *;generalize aE (p:Rat)=P at *;obtain⟨⟨bf,b5⟩,⟨cU,dr⟩⟩:=cA;obtain⟨⟨js,iX⟩,⟨p1,CE⟩⟩:=P;simp only[aL] at db ai1;refine a9 ?_;repeat' (intro h<;>simp only[h,go_sem,go_sem_proc,uL,axy,db,ai1,aL]<;>try refine av ?_ ?_)
end Go.Mini
namespace Go.Mini
open Go
theorem axz {cash:List Int}{cs:List ar}{is:List Int}{ah rk:Int}(aG:k4 cash cs is)(h:vZ cash cs is ah rk){k:Nat}(J:k<D is):dz (jW cash cs is ah rk k)/\dz (pv cash cs is ah rk k)/\dz (k5 cash cs is ah rk k):=by
 obtain⟨gj,h7⟩:=Yd aG h J;refine⟨k1 h7 (by omega),k1 gj (by omega),?_⟩;unfold k5;rw[Rat.sub_eq_add_neg];exact k1 (aex gj (CT h7)) (by omega)
def nK:List ar:=[(0,-1,0,12),(0,-1,0,12)]
theorem PL {a:Int}{cN:List ar}{j:Nat}(Y:gR [a] cN=true)(zj:∀c∈cN,c.2.1<0){U S m:Int}(E:(cN.getD j gw).1=0)(mW:cr cN (cN.getD j gw).1 (cN.getD j gw).2.2.1=U)(cB:jR cN (cN.getD j gw).1 (cN.getD j gw).2.2.1=S)(hm:(cN.getD j gw).2.2.2=m)(ak:U<=a)(aq:a-U<S):tg [a] cN j=(m:Rat)*((a:Rat)-(U:Rat))/(S:Rat):=by
 have aX:(aA [a] cN).dw 0=(a:Rat):=by
  have:=(Oc (VF Y)).1 0 (by show 0<1;omega);unfold Day.ur Day.eM at this
  rw[this,FQ λc G=>by
   obtain⟨x,O,rfl⟩:=fO.1 G;have:=zj x O;exact aa (by show ¬ x.2.1=((0:Nat):Int);omega)]
  rw[pj];rfl
 unfold tg;rw[E,kd,aX]
 have ff:(0:Rat)<=(a:Rat)-(U:Rat):=by
  rw[<-sZ];exact_mod_cast (by omega:(0:Int)<=a-U)
 have cH:(a:Rat)-(U:Rat)<(S:Rat):=by
  rw[<-sZ];exact Yv.2 aq
 rw[afV (by rw[mW];exact ff) (by rw[mW,cB];exact cH),mW,cB,hm]
theorem ai2:gS [10] nK [0,1] 500 1=true:=by decide
theorem Yw:jW [10] nK [0,1] 500 1 0=((5:Int):Rat):=by
 unfold jW;rw[show ek nK [0,1] 500 1 (-1) ([0,1]:List Int).length=[(0,-1,1,6),(0,-1,1,6)] by decide,PL (U:=0) (S:=12) (m:=6) (by decide) (by decide) (by decide) (by decide) (by decide) (by decide) (by decide) (by decide)]
 decide +kernel
theorem axA:jW [10] nK [0,1] 500 1 1=((5:Int):Rat):=by
 unfold jW;rw[show ek nK [0,1] 500 1 (-1) ([0,1]:List Int).length=[(0,-1,1,6),(0,-1,1,6)] by decide,PL (U:=0) (S:=12) (m:=6) (by decide) (by decide) (by decide) (by decide) (by decide) (by decide) (by decide) (by decide)]
 decide +kernel
theorem ai3:pv [10] nK [0,1] 500 1 0=((10:Int):Rat):=by
 unfold pv;rw[show ek nK [0,1] 500 1 (0:Nat) ([0,1]:List Int).length=[(0,-1,0,12),(0,-1,1,6)] by decide,PL (U:=0) (S:=12) (m:=12) (by decide) (by decide) (by decide) (by decide) (by decide) (by decide) (by decide) (by decide)]
 decide +kernel
theorem axB:¬ Bi [10] nK [0,1] 500 1 0<=((5:Int):Rat):=by
 unfold Bi;rw[show qm nK [0,1] 500 1 0=[(0,-1,1,12),(0,-1,1,6)] by decide,PL (U:=0) (S:=18) (m:=12) (by decide) (by decide) (by decide) (by decide) (by decide) (by decide) (by decide) (by decide)]
 decide +kernel
theorem ai4:k5 [10] nK [0,1] 500 1 0=((5:Int):Rat):=by
 unfold k5;rw[ai3,Yw]
 decide +kernel
theorem KZ:k4 [10] nK [0,1]:=⟨by decide,by decide,by decide⟩
abbrev Yx:Unit->List Data:=λ(_:Unit)=>[]
def Yy:=cy Yx λ(_:Unit)=>some (.same (.bool true))
theorem axC:∀a b,Yx a=Yx b->a=b:=by
  intro _ _ _;rfl
@[go_sem] theorem axD :Yy []=some (.same (.bool true)):=cI axC ()
theorem axE (T:bk)(ke:T yr=aW GW)(ql:T BW=aW KT)(l4:T BX=aW KU)(axF:T Rz=aW Yh)(l3:T yt=aW GR)(uM:T z3=aW PK):WP T Yo (.same (.bool true)) []:=by
 refine cC ?_;simp only[Yo];have cH:=PI [10] nK [0,1] 500 1 KZ;have dc:=Yc [10] nK [0,1] 500 1 0 KZ;have dV:=Ye [10] nK [0,1] 500 1 0 KZ;have iu:=axb [10] nK [0,1] 500 1 0 KZ;have mu:=PD [10] nK [0,1] 500 1 KZ;have i5:dv 5:=oK (by omega) (by omega);have i10:dv 10:=oK (by omega) (by omega);have ht:=Yu ((5:Int):Rat) 5 ⟨qd i5,i5⟩;have jI:=Yu ((10:Int):Rat) 10 ⟨qd i10,i10⟩;rw[iH rfl] at ht jI;unfold Bh at cH;unfold Du at dc;unfold Dv at dV;unfold KV at iu;rw[Z ai2] at cH dc dV iu;rw[ai2] at mu;rw[Z (by decide)] at dc dV iu;rw[kd] at dc dV iu
 have b9:q2 [10] nK [0,1] 500 1 ([0,1]:List Int).length=[aE ((5:Int):Rat),aE ((5:Int):Rat)]:=by
  show [aE (jW [10] nK [0,1] 500 1 0),aE (jW [10] nK [0,1] 500 1 1)]=_;rw[Yw,axA]
 rw[b9] at cH;rw[ai3] at dc;rw[ai4,iH (by decide:(0:Rat)<((5:Int):Rat))] at dV;rw[ai4,Z (by decide:(0:Rat)<((5:Int):Rat)),Yw,aa axB] at iu;generalize aE ((5:Int):Rat)=E5 at *;generalize aE ((10:Int):Rat)=E10 at *;obtain⟨⟨db,dH⟩,⟨fk,fM⟩⟩:=E5;obtain⟨⟨dP,gV⟩,⟨oH,s7⟩⟩:=E10;simp only[bV,nK,aL,e5,cl,ad,bp] at cH dc dV iu mu ht jI;have qL:(((2:Nat):Int)==2)=true:=rfl;refine a9 ?_;repeat' (intro h<;>simp only[h,go_sem,go_sem_proc,ke,ql,l4,axF,l3,uM,cH,dc,dV,iu,mu,ht,jI,qL,show ((0:Int)<=1)=True from eq_true (by decide),show Int.toNat 1=1 from rfl,aL,e5,cl,kf,mJ,bne,beq_self_eq_true,ca,List.getElem?_cons_zero,List.getElem?_cons_succ,kd]<;>try refine av ?_ ?_)
end Go.Mini
namespace Go.Mini
open Go
theorem axG {at_:Nat}{n:Nat}(h:0<n):((at_:Int)).tmod (n:Int)=((at_%n:Nat):Int):=by
 rw[Aa (by omega)];rfl
end Go.Mini
namespace Go.Mini
open Go
theorem ai5 {x y:Rat}:decide (kC x y>0) = !decide (x<=y):=by
 rw[<-Yg,kB,decide_eq_true_iff,pZ,decide_eq_false_iff_not];omega
theorem ai6 {x y:Rat}:(kC x y==0)=decide (x=y):=by
 have E:=Yg (x:=x) (y:=y);have H:=Wo (x:=x) (y:=y);rw[kB,decide_eq_true_iff,decide_eq_true_iff] at E H;rw[kB,beq_iff_eq,decide_eq_true_iff]
 constructor
 ·intro h;have a:=E.1 (by omega);apply j6;intro bN;have:=H.2 (by grind);omega
 ·intro h;have a:=E.2 (by rw[h];exact fA);apply j6;intro bN;have:=H.1 (by omega);grind
abbrev Yz:(List Int)×(List ar)×(List Int)×Int×Int×Nat->List Data:=λ(cash,cs,is,ah,rk,a)=>[.agg (bV cash cs is ah rk),.int .u8 (a:Int)]
def YA:=cy Yz λ(cash,cs,is,ah,rk,a)=>cT (a<=255) (.same (.bool true))
theorem axH:∀a b,Yz a=Yz b->a=b:=by
  rintro⟨O5,KB,XX,XY,XZ,db⟩ ⟨O6,wx,X0,X1,X2,dH⟩ h;simp only[bh,Data.agg.injEq,Data.int.injEq,and_true,true_and] at h;obtain⟨cF,cQ⟩:=h;obtain⟨rfl,rfl,rfl,rfl,rfl⟩:=Pz cF;rw[Int.ofNat.inj cQ]
@[go_sem] theorem axI (cash:List Int)(cs:List ar)(is:List Int)(ah:Int)(rk:Int)(a:Nat)(G:a<=255):YA [.agg (bV cash cs is ah rk),.int .u8 (a:Int)]=some (.same (.bool true)):=(cI axH (cash,cs,is,ah,rk,a)).trans (cY G _)
theorem axJ (T:bk)(xO:T Rv=aW Yy)(xP:T Rx=aW Ys)(xQ:T Rw=aW Yr)(l3:T yt=aW GR)(xR:T Ry=aW X6)(ke:T yr=aW GW)(ql:T BW=aW KT)(xS:T RA=aW Ya)(uL:T Ep=aW Jx)(eD:T nn=aW ud)(l4:T BX=aW KU)(uM:T z3=aW PK)(cash:List Int)(cs:List ar)(is:List Int)(ah:Int)(rk:Int)(a:Nat)(G:a<=255):WP T Yn (.same (.bool true)) [.I (.agg (bV cash cs is ah rk)),.I (.int .u8 (a:Int))]:=by
 refine cC ?_;simp only[Yn];have pq:=axD;have cF:=axs cash cs is ah rk;have bG:=axu cash cs is ah rk;simp only[bV] at cF bG;rcases aJ:Dw cash cs is
 ·rw[aJ] at cF;simp only[go_sem,go_sem_proc,xO,xP,xQ,l3,xR,ke,ql,xS,uL,eD,l4,uM,pq,cF,bG,bV,cv];repeat' (first|refine av ?_ ?_|fail)<;>intro h<;>simp only[h,go_sem,go_sem_proc,xO,xP,xQ,l3,xR,ke,ql,xS,uL,eD,l4,uM,pq,cF,bG,bV,cv]
 rw[aJ] at cF;obtain⟨G,fI⟩:=axr aJ;have r2:=PD cash cs is ah rk G;have qi:=awV cash cs is ah rk G;rcases hU:gS cash cs is ah rk
 ·rw[hU] at r2;simp only[bV] at r2;simp only[go_sem,go_sem_proc,xO,xP,xQ,l3,xR,ke,ql,xS,uL,eD,l4,uM,pq,cF,bG,r2,bV,cv,ca];repeat' (first|refine av ?_ ?_|fail)<;>intro h<;>simp only[h,go_sem,go_sem_proc,xO,xP,xQ,l3,xR,ke,ql,xS,uL,eD,l4,uM,pq,cF,bG,r2,bV,cv,ca]
 rw[hU] at r2 qi;have hd:=Dp.1 hU;have bN:=hd.ne;have qv:=G;obtain⟨aG,hB,yN⟩:=G;have hs:a%(D is)<D is:=Nat.mod_lt _ bN;have GZ:IntKind.i64.wrap (a:Int)=(a:Int):=by rw[eA _]
 have wr:(a:Int).tmod (D is:Int)=((a%(D is):Nat):Int):=axG bN;have uK:(D is:Int)≠0:=by omega
 have js:=PI cash cs is ah rk qv;have iX:=Yc cash cs is ah rk (a%(D is):Nat) qv;have p1:=Ye cash cs is ah rk (a%(D is):Nat) qv;have Dx:=aw3 cash cs is ah rk (-1) ⟨qv,hU⟩;unfold Bh at js;unfold Du at iX;unfold Dv at p1;rw[Z hU] at js iX p1;rw[Z ⟨by omega,by omega⟩,gX] at iX p1
 obtain⟨eB,al,bO⟩:=axz qv hd hs;obtain⟨oo,iy⟩:=awL hd hs;have ti:=Yb cash cs is ah rk hs;have g5:=PG cash cs is ah rk (D is);obtain⟨i,O⟩:∃i,is[a%(D is)]?=some i:=⟨_,bs hs⟩;have jf:=l1 (d:=0) O;have fa:=hd.bG _ hs;have bF:=hd.get hs;have fH:=hd.mem hs;have p7:=hd.am _ hs;have hex:=Dq hd (-1) (t:=D is) (bP _) hs;rw[Z ⟨hs,by omega⟩] at hex
 rw[jf] at fa bF fH hex oo iy p7;obtain⟨n,rfl⟩:∃n:Nat,i=(n:Int):=⟨i.toNat,by omega⟩
 rw[gX] at bF fH hex oo iy p7;have g6:n<D cs:=by omega
 have G0:=r3 cs is ah rk (-1) (D is);generalize cs.getD n gw=c at *;obtain⟨aD,c2,c3,c4⟩:=c;have je:=(g1.1 hd.right).2.2.2 _ fH;have mH:=aiy hd (rk:=rk) (c:=(aD,c2,c3,c4)) je.2.2.2.2.2.2.1;have iA:(ka ah rk (aD,c2,c3,c4)).2.2.2=(ka ah 0 (aD,c2,c3,c4)).2.2.2:=rfl;rw[<-iA] at p7;generalize ka ah rk (aD,c2,c3,c4)=cA at *;obtain⟨bf,b5,cU,dr⟩:=cA;dsimp only at je mH p7 oo iy;have KE:dv c4:=oK (by omega) (by omega);have ai7:dv dr:=oK (by omega) (by omega);have axK:dv (c4-dr):=oK (by omega) (by omega);have wd:IntKind.i64.wrap (c4-dr)=c4-dr:=by rw[eA _]
 have xD:=Ym KE;have xE:=Ym ai7;have cH:=C0 al (qd KE);have dc:=C0 eB (qd ai7);have d1:decide (kC (pv cash cs is ah rk (a%(D is))) (c4:Rat)>0)=false:=by rw[ai5,iH oo];rfl
 have d2:decide (kC (jW cash cs is ah rk (a%(D is))) (dr:Rat)>0)=false:=by rw[ai5,iH iy];rfl
 have aw:=ai6 (x:=pv cash cs is ah rk (a%(D is))) (y:=(c4:Rat));have aC:=ai6 (x:=jW cash cs is ah rk (a%(D is))) (y:=(dr:Rat));have ht:=Yu (k5 cash cs is ah rk (a%(D is))) (c4-dr) ⟨bO,axK⟩
 have uP:pv cash cs is ah rk (a%(D is))=(c4:Rat)->jW cash cs is ah rk (a%(D is))=(dr:Rat)->k5 cash cs is ah rk (a%(D is))=((c4-dr:Int):Rat)/\decide (0<k5 cash cs is ah rk (a%(D is)))=decide (c4>dr):=λE H=>by
  have ab:k5 cash cs is ah rk (a%(D is))=((c4-dr:Int):Rat):=by unfold k5;rw[E,H,sZ]
  refine⟨ab,?_⟩;rw[ab,kB,decide_eq_true_iff,decide_eq_true_iff]
  constructor
  ·intro h;have:((0:Int):Rat)<((c4-dr:Int):Rat):=h;have:=Yv.1 this;omega
  ·intro h;show ((0:Int):Rat)<_;exact Yv.2 (by omega)
 generalize q2 cash cs is ah rk (D is)=IL at *;generalize ek cs is ah rk (-1) (D is)=XL at *;generalize aE (pv cash cs is ah rk (a%(D is)))=aO at *;generalize aE (jW cash cs is ah rk (a%(D is)))=r7 at *;generalize aE (k5 cash cs is ah rk (a%(D is)))=bA at *;generalize aE (c4:Rat)=A at *;generalize aE (dr:Rat)=B at *;generalize kC (pv cash cs is ah rk (a%(D is))) (c4:Rat)=C1 at *;generalize kC (jW cash cs is ah rk (a%(D is))) (dr:Rat)=C2 at *;generalize aEm:decide (0<k5 cash cs is ah rk (a%(D is)))=axL at *;generalize pv cash cs is ah rk (a%(D is))=axM at *;generalize jW cash cs is ah rk (a%(D is))=axN at *;generalize k5 cash cs is ah rk (a%(D is))=gq at *;obtain⟨⟨db,dH⟩,⟨fk,fM⟩⟩:=A;obtain⟨⟨dP,gV⟩,⟨oH,s7⟩⟩:=B;obtain⟨⟨Xk,Xl⟩,⟨aEn,aEo⟩⟩:=aO;obtain⟨⟨i3,i4⟩,⟨i5,i6⟩⟩:=r7;obtain⟨⟨h0,kV⟩,⟨aiH,qf⟩⟩:=bA;generalize a%(D is)=a8 at *;simp only[aL,bV] at js iX p1 r2 qi Dx xD xE cH dc ht;rcases f1:decide (axM=(c4:Rat))
 ·rw[f1] at aw;simp only[go_sem,go_sem_proc,xO,xP,xQ,l3,xR,ke,ql,xS,uL,eD,l4,uM,pq,cF,bG,js,iX,r2,qi,Dx,xD,xE,cH,dc,GZ,wr,uK,O,bF,hex,ti,hs,g6,G0,g5,d1,d2,aw,bV,bp,ad,aL,bne,beq_self_eq_true,aj,a5,ca,cv];repeat' (first|refine av ?_ ?_|fail)<;>intro h<;>simp only[h,go_sem,go_sem_proc,xO,xP,xQ,l3,xR,ke,ql,xS,uL,eD,l4,uM,pq,cF,bG,js,iX,r2,qi,Dx,xD,xE,cH,dc,GZ,wr,uK,O,bF,hex,ti,hs,g6,G0,g5,d1,d2,aw,bV,bp,ad,aL,bne,beq_self_eq_true,aj,a5,ca,cv]
 rw[f1] at aw;rcases f2:decide (axN=(dr:Rat))
 ·rw[f2] at aC;simp only[go_sem,go_sem_proc,xO,xP,xQ,l3,xR,ke,ql,xS,uL,eD,l4,uM,pq,cF,bG,js,iX,r2,qi,Dx,xD,xE,cH,dc,GZ,wr,uK,O,bF,hex,ti,hs,g6,G0,g5,d1,d2,aw,aC,bV,bp,ad,aL,bne,beq_self_eq_true,aj,a5,ca,cv];repeat' (first|refine av ?_ ?_|fail)<;>intro h<;>simp only[h,go_sem,go_sem_proc,xO,xP,xQ,l3,xR,ke,ql,xS,uL,eD,l4,uM,pq,cF,bG,js,iX,r2,qi,Dx,xD,xE,cH,dc,GZ,wr,uK,O,bF,hex,ti,hs,g6,G0,g5,d1,d2,aw,aC,bV,bp,ad,aL,bne,beq_self_eq_true,aj,a5,ca,cv]
 rw[f2] at aC;obtain⟨E,H⟩:=uP (of_decide_eq_true f1) (of_decide_eq_true f2);rw[iH E] at ht;have iV:(axL==decide (c4>dr))=true:=by rw[H];exact beq_self_eq_true _
 simp only[go_sem,go_sem_proc,xO,xP,xQ,l3,xR,ke,ql,xS,uL,eD,l4,uM,pq,cF,bG,js,iX,p1,r2,qi,Dx,xD,xE,cH,dc,ht,GZ,wr,wd,uK,O,bF,hex,ti,hs,g6,G0,g5,iV,d1,d2,aw,aC,bV,bp,ad,aL,bne,beq_self_eq_true,aj,a5,ca,cv];repeat' (first|refine av ?_ ?_|fail)<;>intro h<;>simp only[h,go_sem,go_sem_proc,xO,xP,xQ,l3,xR,ke,ql,xS,uL,eD,l4,uM,pq,cF,bG,js,iX,p1,r2,qi,Dx,xD,xE,cH,dc,ht,GZ,wr,wd,uK,O,bF,hex,ti,hs,g6,G0,g5,iV,d1,d2,aw,aC,bV,bp,ad,aL,bne,beq_self_eq_true,aj,a5,ca,cv]
end Go.Mini
namespace Go.Mini
open Go Go.Proofs
theorem mixed:Tryz.prog.follows .mixedOrders=true:=by kernel_rfl
abbrev YB:Option ez->(ez->Prop)->Prop
 |some r,aH=>aH r
 |none,_=>True
theorem c7 {c:Prop}{r:ez}{aH:ez->Prop}(h:c->aH r):YB (cT c r) aH:=by
 by_cases G:c
 ·rw[cY G];exact h G
 ·have:cT c r=none:=aa G;rw[this];trivial
abbrev cD:=sq Tryz.prog
theorem zq (mf : b1)(kb : Nat)(own : List Nat){α : Type}{args : α -> List Data}{res : α -> Option ez}{l : List (FuncId × (List Data -> Option ez))}{e : List (FuncId × (List M -> Mem -> Option gT))}(au : ∀ p ∈ l, sq Tryz.prog p.1 p.2)(he : ∀ p ∈ e, mV Tryz.prog p.1 p.2){f : FuncId}{fn : Func}(aJ : Tryz.prog.funcs[f]? = some fn)(h : ∀ a, YB (res a) fun r => Nat.ble (args a).length mf.n = true /\ wp (vu (LP l) (Nl e)) mf.body (zU mf.res r) ⟨mA ((args a).map .I), emp⟩)(aG : (fn.name == "runtime.NumGoroutine", r9 Tryz.prog kb own fn) = (false, some { mf with body := erase mf.body }) := by kernel_rfl): cD f (cy args res) := alF (xg (wA au) (xh he)) mixed aJ (congrArg Prod.fst aG) (congrArg Prod.snd aG) fun ds r Y => by
 obtain⟨a,rfl,H⟩:=alU Y;have ab:=h a;rw[H] at ab;exact⟨zr ab.1,ab.2⟩
theorem cV (mf : b1)(kb : Nat)(own : List Nat){α : Type}{args : α -> List Data}{res : α -> Option ez}{l : List (FuncId × (List Data -> Option ez))}(au : ∀ p ∈ l, sq Tryz.prog p.1 p.2){f : FuncId}{fn : Func}(aJ : Tryz.prog.funcs[f]? = some fn)(h : ∀ a, YB (res a) fun r => Nat.ble (args a).length mf.n = true /\ wp (vu (LP l) (Nl [])) mf.body (zU mf.res r) ⟨mA ((args a).map .I), emp⟩)(aG : (fn.name == "runtime.NumGoroutine", r9 Tryz.prog kb own fn) = (false, some { mf with body := erase mf.body }) := by kernel_rfl): cD f (cy args res) := zq mf kb own au oE aJ h aG
theorem bj {lb:FuncId->Option (List Data->Option ez)}{rI:FuncId->Option (List M->Mem->Option gT)}{f:FuncId}{aP:List Data->Option ez}(E:rI f=none:=by rfl)(H:lb f=some aP:=by rfl):vu lb rI f=aW aP:=pb E H
theorem G6:cD pO yu:=cV B0 177000 [] ct Tryz.func130 λba=>c7 λG=>⟨rfl,amz _  ba G⟩
theorem G7:mV Tryz.prog pO (zZ tN):=Ic.acQ (aaC (mf:=B0) (kb:=177000) (own:=[]) (xg (wA ct) (xh oE)) mixed Tryz.func130 (by kernel_rfl) (by kernel_rfl) λargs mem x h=>by
 obtain⟨a,⟨rfl,hm,au⟩,rfl⟩:=QY h;exact⟨zr rfl,amA _ a.l a.k a.g mem hm au⟩)
theorem axO:cD L3 Sc:=cV RY 184000 [] ct Tryz.func132 λba=>⟨rfl,amB _  ba⟩
theorem ai8:cD Eu Md:=cV RW 174000 [] (a7 axO ct) Tryz.func88 fun⟨ba,bf⟩=>⟨rfl,amC _ bj ba bf⟩
theorem axP:cD Rl Se:=cV RX 179000 [] ct Tryz.func151 λba=>c7 λG=>⟨rfl,amF _  ba G⟩
theorem PM:cD wG B2:=cV R5 156000 [5] ct Tryz.func109 λba=>c7 λG=>⟨rfl,amH _  ba G⟩
theorem zs:cD kt u6:=cV RF 136000 [] ct Tryz.func81 fun⟨ba,bf⟩=>c7 λG=>⟨rfl,amI _  ba bf G⟩
theorem G8:cD ow z7:=zq RO 158000 [] (a7 G6 ct) (rJ G7 oE) Tryz.func85 fun⟨ba,bf⟩=>c7 λG=>⟨rfl,amK _ (Fq rfl rfl) ba bf G⟩
theorem YC:cD BT IG:=cV RU 175000 [] (a7 ai8 ct) Tryz.func89 fun⟨ba,bf⟩=>c7 λG=>⟨rfl,amN _ bj ba bf G⟩
theorem ai9:cD Il Mg:=zq RS 172000 [] (a7 G6 ct) (rJ G7 oE) Tryz.func86 fun⟨ba,bf⟩=>c7 λG=>⟨rfl,amO _ (Fq rfl rfl) ba bf G⟩
theorem aja:cD Et Mh:=zq RT 173000 [10] (a7 PM (a7 G6 ct)) (rJ G7 oE) Tryz.func87 fun⟨ba,bf⟩=>c7 λG=>⟨rfl,amQ _ bj (Fq rfl rfl) ba bf G⟩
theorem ajb:cD Es Mi:=zq RR 161000 [] (a7 G6 ct) (rJ G7 oE) Tryz.func115 fun⟨ba,bf⟩=>c7 λG=>⟨rfl,amT _ (Fq rfl rfl) ba bf G⟩
theorem axQ:cD L2 Sr:=zq RV 176000 [] (a7 G6 ct) (rJ G7 oE) Tryz.func129 fun⟨ba,bf⟩=>c7 λG=>⟨rfl,amV _ (Fq rfl rfl) ba bf G⟩
theorem axR:mV Tryz.prog Rk (zZ IM):=Ic.acQ (aaC (mf:=L9) (kb:=178000) (own:=[]) (xg (wA ct) (xh oE)) mixed Tryz.func131 (by kernel_rfl) (by kernel_rfl) λargs mem x h=>by
 obtain⟨a,⟨rfl,G⟩,rfl⟩:=QY h;exact⟨zr rfl,am3 _ a mem G⟩)
theorem ajc:cD Ij Mo:=zq RN 157000 [54] (a7 YC (a7 PM (a7 axQ (a7 G6 (a7 ajb ct))))) (rJ G7 (rJ axR oE)) Tryz.func84 fun⟨ba,bf⟩=>c7 λG=>⟨rfl,anf _ bj bj bj (Fq rfl rfl) bj (AD rfl rfl) ba bf G⟩
theorem YD:cD tJ IX:=cV RM 155000 [] ct Tryz.func114 fun⟨ba,bf,b5⟩=>⟨rfl,anP _  ba bf b5⟩
theorem ajd:cD Er MH:=cV RJ 152000 [] (a7 zs (a7 PM (a7 G8 ct))) Tryz.func70 fun⟨ba,bf⟩=>c7 λG=>⟨rfl,anQ _ bj bj bj ba bf G⟩
theorem PN:cD tI EY:=cV RH 140000 [] (a7 zs (a7 ajb (a7 G8 (a7 YD ct)))) Tryz.func57 fun⟨ba,bf,b5,cU⟩=>c7 λG=>⟨rfl,anR _ bj bj bj bj ba bf b5 cU G⟩
theorem axS:cD Rh SW:=cV RQ 160000 [] (a7 zs (a7 axP (a7 ai9 (a7 aja (a7 YC (a7 G8 (a7 YD ct))))))) Tryz.func113 fun⟨ba,bf,b5,cU⟩=>c7 λG=>⟨rfl,anS _ bj bj bj bj bj bj bj ba bf b5 cU G⟩
theorem axT:cD Rf SX:=cV RL 154000 [] (a7 zs (a7 ai8 (a7 YC ct))) Tryz.func44 fun⟨ba,bf,b5,cU⟩=>c7 λG=>⟨rfl,anT _ bj bj bj ba bf b5 cU G⟩
theorem aje:cD Ih MK:=cV RG 137000 [] (a7 zs (a7 PM (a7 ajc (a7 G8 (a7 YD ct))))) Tryz.func82 fun⟨ba,bf,b5,cU⟩=>c7 λG=>⟨rfl,anU _ bj bj bj bj bj ba bf b5 cU G⟩
theorem ajf:cD BR MN:=cV RK 153000 [] (a7 zs (a7 ajc (a7 ai9 (a7 aja (a7 G8 ct))))) Tryz.func43 fun⟨ba,bf,b5,cU⟩=>c7 λG=>⟨rfl,anW _ bj bj bj bj bj ba bf b5 cU G⟩
theorem axU:cD LZ S4:=cV RI 150000 [] (a7 G8 ct) Tryz.func136 λba=>c7 λG=>⟨rfl,an1 _ bj ba G⟩
theorem axV:cD Rg S5:=cV RP 159000 [] (a7 zs ct) Tryz.func128 fun⟨ba,bf⟩=>c7 λG=>⟨rfl,an4 _ bj ba bf G⟩
theorem axW:cD Q8 Tj:=cV Te 138000 [] (a7 axV ct) Tryz.func83 fun⟨ba,bf⟩=>c7 λG=>⟨rfl,an8 _ bj ba bf G⟩
theorem Dy:cD nm yO:=cV S8 116000 [] (a7 zs (a7 aje (a7 axW ct))) Tryz.func42 fun⟨ba,bf,b5,cU⟩=>c7 λG=>⟨rfl,an9 _ bj bj bj ba bf b5 cU G⟩
theorem ajg:cD Ii MV:=cV Th 149000 [] (a7 zs (a7 ajd (a7 aje (a7 ajf ct)))) Tryz.func116 fun⟨ba,bf,b5,cU⟩=>c7 λG=>⟨rfl,aob _ bj bj bj bj ba bf b5 cU G⟩
theorem YE:cD BP Jc:=cV Ta 130000 [] (a7 axU (a7 ajg ct)) Tryz.func94 fun⟨ba,bf⟩=>c7 λG=>⟨rfl,aod _ bj bj ba bf G⟩
theorem axX:cD Q9 Tp:=cV Tf 139000 [] (a7 PN (a7 axS ct)) Tryz.func56 fun⟨ba,bf,b5,cU,dr,hJ,n9,my⟩=>c7 λG=>⟨rfl,aoq _ bj bj ba bf b5 cU dr hJ n9 my G⟩
theorem YF:cD BQ Je:=cV Tg 141000 [] (a7 ajg ct) Tryz.func58 fun⟨ba,bf,b5,cU,dr,hJ⟩=>c7 λG=>⟨rfl,aos _ bj ba bf b5 cU dr hJ G⟩
theorem YG:cD z0 Cr:=cV S9 119000 [] (a7 Dy (a7 axX (a7 PN (a7 YF ct)))) Tryz.func28 fun⟨ba,bf,b5,cU,dr,hJ,n9,my⟩=>c7 λG=>⟨rfl,aov _ bj bj bj bj ba bf b5 cU dr hJ n9 my G⟩
theorem PO:cD tH w3:=cV Tb 132000 [] (a7 Dy (a7 ajd (a7 YG ct))) Tryz.func37 fun⟨ba,bf,b5,cU,dr,hJ,n9,my⟩=>c7 λG=>⟨rfl,aox _ bj bj bj ba bf b5 cU dr hJ n9 my G⟩
theorem YH:cD u4 w5:=cV Tc 134000 [] (a7 Dy (a7 PN (a7 YF ct))) Tryz.func135 fun⟨ba,bf,b5,cU,dr,hJ,n9,my⟩=>c7 λG=>⟨rfl,aoz _ bj bj bj ba bf b5 cU dr hJ n9 my G⟩
theorem ajh:cD BS Cs:=cV Ti 169000 [] (a7 Dy (a7 PN (a7 YF ct))) Tryz.func139 fun⟨ba,bf,b5,cU,dr,hJ,n9,my⟩=>c7 λG=>⟨rfl,aoB _ bj bj bj ba bf b5 cU dr hJ n9 my G⟩
theorem G9:cD nn ud:=cV Td 135000 [] (a7 Dy (a7 ajf (a7 axT ct))) Tryz.func24 fun⟨ba,bf,b5,cU,dr,hJ,n9,my⟩=>c7 λG=>⟨rfl,aoH _ bj bj bj ba bf b5 cU dr hJ n9 my G⟩
theorem aji:cD mO M4:=cV TB 125000 [] (a7 Dy ct) Tryz.func196 fun⟨ba,bf,b5,cU⟩=>c7 λG=>⟨rfl,aoN _ bj ba bf b5 cU G⟩
theorem axY:cD Rc TM:=cV R3 146000 [] (a7 aji ct) Tryz.func166 fun⟨ba,bf⟩=>c7 λG=>⟨rfl,aoO _ bj ba bf G⟩
theorem axZ:cD Q5 TN:=cV R0 128000 [] (a7 axY ct) Tryz.func142 fun⟨ba,bf⟩=>c7 λG=>⟨rfl,aoP _ bj ba bf G⟩
theorem ax0:cD z1 TP:=cV TC 127000 [] (a7 aji (a7 axZ ct)) Tryz.func198 fun⟨ba,bf,b5,cU,dr,hJ⟩=>c7 λG=>⟨rfl,aoS _ bj bj ba bf b5 cU dr hJ G⟩
theorem ax1:cD Rb TR:=cV R2 145000 [] (a7 ax0 ct) Tryz.func203 fun⟨ba,bf⟩=>c7 λG=>⟨rfl,aoT _ bj ba bf G⟩
theorem ax2:cD Q4 TS:=cV RZ 126000 [] (a7 ax1 ct) Tryz.func197 fun⟨ba,bf⟩=>c7 λG=>⟨rfl,aoU _ bj ba bf G⟩
theorem ax3:cD Q1 TT:=cV Tz 108000 [] (a7 ax2 ct) Tryz.func183 fun⟨ba,bf⟩=>c7 λG=>⟨rfl,aoW _ bj ba bf G⟩
theorem ax4:mV Tryz.prog z2 (AB yZ):=apy (mf:=M0) (kb:=168000) (own:=[]) (xg (wA ct) (xh oE)) mixed Tryz.func205 (by kernel_rfl) (by kernel_rfl) Nn λargs mem r k g i d h=>by
 obtain⟨E,H,ab,aM,bl⟩:=apA _ args mem r k g i d h;exact⟨E,H,ab,aM,bl⟩
theorem ax5:cD Ik Nm:=cV TD 167000 [] ct Tryz.func204 fun⟨ba,bf,b5,cU⟩=>⟨rfl,Jy _  ba bf b5 cU⟩
theorem ax6:mV Tryz.prog Rd (xe JI):=Uu (mf:=xa) (kb:=148000) (own:=[3000106,3000165,3000169]) (xg (wA (a7 ax5 (a7 ajh (a7 PO (a7 YH ct))))) (xh (rJ ax4 oE))) mixed Tryz.func200 (by kernel_rfl) (by kernel_rfl) λargs mem bZ h=>by
 obtain⟨a,rfl,⟨E,H,ab,aM,bl,bI,bC⟩,rfl⟩:=aqi h;exact⟨zr rfl,ap6 _ (pb rfl rfl) (AD rfl rfl) (pb rfl rfl) (pb rfl rfl) (pb rfl rfl) a.go a.N a.rows a.r a.c mem E H ab aM bl bI bC⟩
theorem ax7:cD LY Ny:=cV R4 147000 [5] ct Tryz.func199 λba=>c7 λG=>⟨rfl,aqk _  ba G⟩
theorem ax8:cD Q6 ND:=zq Jn 129000 [29,34] (a7 ax7 ct) (rJ ax6 oE) Tryz.func184 fun⟨ba,bf,b5⟩=>c7 λG=>⟨rfl,aqz _ bj (AD rfl rfl) ba bf b5 G⟩
theorem ax9:cD Q2 U1:=cV TA 109000 [] (a7 ax3 (a7 ax8 ct)) Tryz.func164 fun⟨ba,bf⟩=>c7 λG=>⟨rfl,aqF _ bj bj ba bf G⟩
theorem aya:cD Rj U7:=cV U5 171000 [] ct Tryz.func195 λba=>c7 λG=>⟨rfl,aqJ _  ba G⟩
theorem ayb:cD Re U8:=cV U4 151000 [] (a7 aya ct) Tryz.func182 λba=>c7 λG=>⟨rfl,aqK _ bj ba G⟩
theorem ayc:cD Q7 Vb:=cV R1 131000 [] (a7 ayb ct) Tryz.func163 fun⟨ba,bf,b5,cU,dr⟩=>c7 λG=>⟨rfl,aqU _ bj ba bf b5 cU dr G⟩
theorem K0:cD su Ay:=cV T2 183000 [18] ct Tryz.func127 λba=>c7 λG=>⟨rfl,aoY _  ba G⟩
theorem PQ:cD sv Fe:=cV T5 187000 [] ct Tryz.func162 fun⟨ba,bf⟩=>c7 λG=>⟨rfl,ao1 _  ba bf G⟩
theorem ayd:cD L4 Nc:=cV T3 185000 [] (a7 PQ ct) Tryz.func161 fun⟨ba,bf⟩=>c7 λG=>⟨rfl,ao3 _ bj ba bf G⟩
theorem aye:cD Rm Ua:=cV T0 181000 [] (a7 PQ (a7 K0 ct)) Tryz.func125 fun⟨ba,bf⟩=>c7 λG=>⟨rfl,ao5 _ bj bj ba bf G⟩
theorem ajj:cD Io Nd:=cV T1 182000 [] (a7 PQ (a7 K0 ct)) Tryz.func126 fun⟨ba,bf⟩=>c7 λG=>⟨rfl,ao6 _ bj bj ba bf G⟩
theorem ayf:cD Ip Nf:=cV T4 186000 [] (a7 PQ (a7 K0 ct)) Tryz.func122 fun⟨ba,bf⟩=>c7 λG=>⟨rfl,ao7 _ bj bj ba bf G⟩
theorem ajk:cD Im Ng:=cV Jp 180000 [26] (a7 K0 (a7 ayf (a7 ayd (a7 ajj ct)))) Tryz.func124 fun⟨ba,bf⟩=>c7 λG=>⟨rfl,ape _ bj bj bj bj ba bf G⟩
theorem PR:cD tL Fk:=cV TZ 166000 [] (a7 K0 ct) Tryz.func80 fun⟨ba,bf⟩=>c7 λG=>⟨rfl,apg _ bj ba bf G⟩
theorem PS:cD tK Fl:=cV TV 162000 [] ct Tryz.func76 fun⟨ba,bf⟩=>c7 λG=>⟨rfl,aph _  ba bf G⟩
theorem ayg:cD L0 Ui:=cV TW 163000 [] (a7 PS (a7 PR ct)) Tryz.func77 fun⟨ba,bf⟩=>c7 λG=>⟨rfl,api _ bj bj ba bf G⟩
theorem ayh:cD LX Uj:=cV TU 144000 [] (a7 PR ct) Tryz.func41 λba=>c7 λG=>⟨rfl,apj _ bj ba G⟩
theorem ayi:cD Ri Uk:=cV TX 164000 [] (a7 PS (a7 ajk (a7 PR ct))) Tryz.func78 fun⟨ba,bf,b5,cU⟩=>c7 λG=>⟨rfl,apl _ bj bj bj ba bf b5 cU G⟩
theorem ayj:cD L1 Ul:=cV TY 165000 [] (a7 PS (a7 ajk (a7 aye (a7 ajj (a7 PR ct))))) Tryz.func79 fun⟨ba,bf,b5,cU⟩=>c7 λG=>⟨rfl,apm _ bj bj bj bj bj ba bf b5 cU G⟩
theorem ayk:cD Ra Uq:=cV Up 143000 [] (a7 PS (a7 ayg (a7 ayi (a7 ayj ct)))) Tryz.func40 fun⟨ba,bf,b5,cU⟩=>c7 λG=>⟨rfl,apn _ bj bj bj bj ba bf b5 cU G⟩
theorem ajl:cD Ep Jx:=cV Un 124000 [] (a7 ayh (a7 ayk ct)) Tryz.func23 fun⟨ba,bf⟩=>c7 λG=>⟨rfl,apq _ bj bj ba bf G⟩
theorem ayl:cD LW Ur:=cV Uo 142000 [] ct Tryz.func32 fun⟨ba,bf,b5,cU⟩=>c7 λG=>⟨rfl,apt _  ba bf b5 cU G⟩
theorem aym:cD Q3 Nj:=cV Um 120000 [] (a7 ayl ct) Tryz.func15 fun⟨ba,bf,b5,cU,dr,hJ,n9,my⟩=>c7 λG=>⟨rfl,apv _ bj ba bf b5 cU dr hJ n9 my G⟩
theorem Ha:cD ox uy:=cV TF 230000 [] (a7 YE ct) Tryz.func48 λba=>c7 λG=>⟨rfl,asB _ bj ba G⟩
theorem ayn:cD wH Ka:=cV Wf 241000 [] (a7 YE ct) Tryz.func137 λba=>c7 λG=>⟨rfl,asD _ bj ba G⟩
theorem ajm:cD tM Ow:=cV TH 243000 [] ct Tryz.func90 fun⟨ba,bf,b5⟩=>⟨rfl,atr _  ba bf b5⟩
theorem ayo:cD Ir WE:=cV TI 244000 [] (a7 ajm ct) Tryz.func91 λba=>⟨rfl,atu _ bj ba⟩
theorem ayp:cD Is WI:=cV TJ 245000 [] (a7 ajm ct) Tryz.func92 fun⟨ba,bf,b5,cU,dr⟩=>c7 λG=>⟨rfl,atx _ bj ba bf b5 cU dr G⟩
theorem ayq:cD Iq Xj:=cV TG 232000 [] (a7 Ha (a7 G9 ct)) Tryz.func50 fun⟨ba,bf,b5⟩=>c7 λG=>⟨rfl,au3 _ bj bj ba bf b5 G⟩
theorem PT:cD ru GC:=cV Xd 355000 [] ct Tryz.func31 fun⟨ba,bf,b5⟩=>⟨rfl,au4 _  ba bf b5⟩
theorem ajn:cD wI OY:=cV Xg 361000 [] (a7 PT ct) Tryz.func66 λba=>⟨rfl,au6 _ bj ba⟩
theorem ajo:cD BV GF:=cV IA 231000 [] (a7 ayo (a7 ajn (a7 ayq ct))) Tryz.func49 fun⟨ba,bf⟩=>c7 λG=>⟨rfl,au9 _ bj bj bj ba bf G⟩
theorem ajp:cD It O0:=cV R6 246000 [] (a7 ajo ct) Tryz.func68 fun⟨ba,bf⟩=>c7 λG=>⟨rfl,avc _ bj ba bf G⟩
theorem ayr:cD Ev Xw:=cV Wg 253000 [] ct Tryz.func165 fun⟨ba,bf,b5⟩=>⟨rfl,avu _  ba bf b5⟩
theorem ays:cD Rq Xx:=cV We 240000 [] (a7 ayr ct) Tryz.func138 λba=>c7 λG=>⟨rfl,avv _ bj ba G⟩
theorem ayt:cD Rs XB:=cV CY 249000 [] (a7 Dy (a7 G9 (a7 ayn (a7 ays (a7 YH (a7 ajh (a7 PO ct))))))) Tryz.func95 fun⟨ba,bf⟩=>c7 λG=>⟨rfl,avL _ bj bj bj bj bj bj bj ba bf G⟩
theorem ayu:cD Ix Xp:=cV Xh 362000 [] (a7 PT (a7 ajn ct)) Tryz.func67 fun⟨ba,bf,b5,cU,dr⟩=>c7 λG=>⟨rfl,avf _ bj bj ba bf b5 cU dr G⟩
theorem ayv:cD Rt Xr:=cV IB 254000 [] (a7 ayp (a7 ayu ct)) Tryz.func119 fun⟨ba,bf⟩=>c7 λG=>⟨rfl,avh _ bj bj ba bf G⟩
theorem ajq:cD Iu O2:=cV R7 247000 [] (a7 ayv ct) Tryz.func69 fun⟨ba,bf⟩=>c7 λG=>⟨rfl,avk _ bj ba bf G⟩
theorem ayw:cD Rn Xs:=cV TE 227000 [] (a7 ajp (a7 ajq ct)) Tryz.func45 fun⟨ba,bf⟩=>c7 λG=>⟨rfl,avm _ bj bj ba bf G⟩
theorem ayx:cD Rp Pr:=cV Cw 233000 [] (a7 ayt ct) Tryz.func51 fun⟨ba,bf⟩=>c7 λG=>⟨rfl,awg _ bj ba bf G⟩
theorem ayy:mV Tryz.prog L6 (xz Oy):=Wp (mf:=M3) (kb:=255000) (own:=[17]) (xg (wA (a7 Ha (a7 ayc (a7 YE (a7 YG ct))))) (xh oE)) mixed Tryz.func133 (by kernel_rfl) (by kernel_rfl) (λj=>j/1000=255) λargs mem d h=>by
 obtain⟨a,⟨rfl,a1⟩,rfl⟩:=Wr h;exact⟨zr rfl,a1.no,atA _ (pb rfl rfl) (pb rfl rfl) (pb rfl rfl) (pb rfl rfl) a.1 a.2 mem a1⟩
theorem ayz:mV Tryz.prog Ru (xz OC):=Wp (mf:=Fa) (kb:=256000) (own:=[]) (xg (wA (a7 Ha (a7 PO (a7 ax9 ct)))) (xh oE)) mixed Tryz.func134 (by kernel_rfl) (by kernel_rfl) (λj=>j/1000=256) λargs mem d h=>by
 obtain⟨a,⟨rfl,a1⟩,rfl⟩:=Wr h;exact⟨zr rfl,a1.no,atI _ (pb rfl rfl) (pb rfl rfl) (pb rfl rfl) a mem a1⟩
theorem ayA:mV Tryz.prog Rr (xz WT):=Wp (mf:=ue) (kb:=248000) (own:=[]) (xg (wA (a7 Ha (a7 YH (a7 YG ct)))) (xh (rJ ayy (rJ ayz oE)))) mixed Tryz.func93 (by kernel_rfl) (by kernel_rfl) (λj=>j/1000=248) λargs mem d h=>by
 obtain⟨a,⟨rfl,a1⟩,rfl⟩:=Wr h;exact⟨zr rfl,a1.ht,aur _ (pb rfl rfl) (AD rfl rfl) (AD rfl rfl) (pb rfl rfl) (pb rfl rfl) a mem a1⟩
theorem ayB:mV Tryz.prog L5 (xe Ku):=Uu (mf:=E9) (kb:=229000) (own:=[]) (xg (wA (a7 Ha (a7 G9 ct))) (xh (rJ ayA oE))) mixed Tryz.func47 (by kernel_rfl) (by kernel_rfl) λargs mem bZ h=>by
 obtain⟨a,⟨rfl,a1⟩,rfl⟩:=Ux h;exact⟨zr rfl,auD _ (AD rfl rfl) (pb rfl rfl) (pb rfl rfl) a mem a1⟩
theorem ayC:mV Tryz.prog Ro (xe W6):=Uu (mf:=Ax) (kb:=228000) (own:=[22]) (xg (wA ct) (xh oE)) mixed Tryz.func46 (by kernel_rfl) (by kernel_rfl) λargs mem bZ h=>by
 obtain⟨a,⟨rfl,a1⟩,rfl⟩:=Ux h;exact⟨zr rfl,auY _  a.1 a.2 mem a1⟩
theorem YI:cD BU GP:=zq Cv 217000 [] (a7 ayw (a7 Ha (a7 G9 (a7 ajo (a7 ayx ct))))) (rJ ayC (rJ ayB oE)) Tryz.func26 fun⟨ba,bf⟩=>c7 λG=>⟨rfl,awG _ bj (AD rfl rfl) (AD rfl rfl) bj bj bj bj ba bf G⟩
theorem ayD:cD RB XW:=cV Xe 356000 [] (a7 ajp (a7 ajq ct)) Tryz.func33 fun⟨ba,bf⟩=>c7 λG=>⟨rfl,awN _ bj bj ba bf G⟩
theorem ajr:cD Iv PB:=cV Xf 357000 [] ct Tryz.func34 fun⟨ba,bf,b5,cU,dr,hJ,n9,my,KK⟩=>c7 λG=>⟨rfl,awP _  ba bf b5 cU dr hJ n9 my KK G⟩
theorem ajs:cD Iw PC:=cV XT 359000 [] ct Tryz.func36 fun⟨ba,bf,b5,cU,dr,hJ,n9,my,KK⟩=>c7 λG=>⟨rfl,awQ _  ba bf b5 cU dr hJ n9 my KK G⟩
theorem PU:cD yt GR:=cV W9 346000 [] (a7 ayD (a7 PT (a7 ajr ct))) Tryz.func16 fun⟨ba,bf,b5,cU,dr⟩=>c7 λG=>⟨rfl,awR _ bj bj bj ba bf b5 cU dr G⟩
theorem ayE:cD RC X5:=cV XU 358000 [] ct Tryz.func35 fun⟨ba,bf⟩=>c7 λG=>⟨rfl,awU _  ba bf G⟩
theorem ayF:cD Ry X6:=cV XR 347000 [] (a7 ayE (a7 ajs ct)) Tryz.func17 fun⟨ba,bf,b5,cU,dr⟩=>c7 λG=>⟨rfl,awW _ bj bj ba bf b5 cU dr G⟩
theorem ayG:cD RD X8:=cV XV 360000 [5] ct Tryz.func59 λba=>c7 λG=>⟨rfl,aw1 _  ba G⟩
theorem YJ:cD BZ KR:=cV Xc 354000 [10] (a7 ayG (a7 ajr ct)) Tryz.func29 fun⟨ba,bf,b5,cU,dr,hJ⟩=>c7 λG=>⟨rfl,aw2 _ bj bj ba bf b5 cU dr hJ G⟩
theorem ayH:cD RA Ya:=cV XS 352000 [7] (a7 ajs ct) Tryz.func22 fun⟨ba,bf,b5,cU,dr,hJ⟩=>c7 λG=>⟨rfl,aw4 _ bj ba bf b5 cU dr hJ G⟩
theorem PV:cD yr GW:=cV W7 341000 [] (a7 PU (a7 YJ (a7 YI ct))) Tryz.func10 fun⟨ba,bf,b5,cU,dr⟩=>c7 λG=>⟨rfl,aw6 _ bj bj bj ba bf b5 cU dr G⟩
theorem YK:cD BW KT:=cV W8 343000 [] (a7 PU (a7 PT (a7 YJ (a7 YI ct)))) Tryz.func12 fun⟨ba,bf,b5,cU,dr,hJ⟩=>c7 λG=>⟨rfl,aw7 _ bj bj bj bj ba bf b5 cU dr hJ G⟩
theorem YL:cD BX KU:=cV Xa 348000 [] (a7 YK (a7 PV (a7 PO ct))) Tryz.func18 fun⟨ba,bf,b5,cU,dr,hJ⟩=>c7 λG=>⟨rfl,aw9 _ bj bj bj ba bf b5 cU dr hJ G⟩
theorem ayI:cD Rz Yh:=cV Xb 350000 [34] (a7 YL (a7 PV (a7 YJ (a7 YI (a7 G9 ct))))) Tryz.func20 fun⟨ba,bf,b5,cU,dr,hJ⟩=>c7 λG=>⟨rfl,axc _ bj bj bj bj bj ba bf b5 cU dr hJ G⟩
theorem ayJ:cD Rw Yr:=cV XQ 339000 [] ct Tryz.func8 fun⟨ba,bf,b5,cU,dr⟩=>⟨rfl,axt _  ba bf b5 cU dr⟩
theorem ayK:cD Rx Ys:=cV Yp 340000 [] ct Tryz.func9 fun⟨ba,bf,b5,cU,dr⟩=>⟨rfl,axv _  ba bf b5 cU dr⟩
theorem ajt:cD z3 PK:=cV Yq 353000 [] (a7 ajl (a7 aym ct)) Tryz.func25 fun⟨ba,bf⟩=>c7 λG=>⟨rfl,axx _ bj bj ba bf G⟩
theorem ayL:cD Rv Yy:=cV Yo 338000 [] (a7 PV (a7 YK (a7 YL (a7 ayI (a7 PU (a7 ajt ct)))))) Tryz.func7 λ_=>⟨rfl,axE _ bj bj bj bj bj bj⟩
theorem ayM:cD amr YA:=cV Yn 336000 [] (a7 ayL (a7 ayK (a7 ayJ (a7 PU (a7 ayF (a7 PV (a7 YK (a7 ayH (a7 ajl (a7 G9 (a7 YL (a7 ajt ct)))))))))))) Tryz.func5 fun⟨ba,bf,b5,cU,dr,hJ⟩=>c7 λG=>⟨rfl,axJ _ bj bj bj bj bj bj bj bj bj bj bj bj ba bf b5 cU dr hJ G⟩
end Go.Mini
