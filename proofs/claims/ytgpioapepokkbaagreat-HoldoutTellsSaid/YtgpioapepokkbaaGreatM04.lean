/- A part of the proof. -/
import Derived.Test.YtgpioapepokkbaaGreatM03
set_option linter.unusedSimpArgs false
set_option linter.unusedVariables false
set_option linter.defProp false
set_option maxRecDepth 100000
set_option maxHeartbeats 4000000
noncomputable section
open Bool renaming and_eq_true->fC,false_and->e9,false_eq_true->k1,not_eq_true'->tw,not_false->cA,not_true->b3,or_eq_true->s9,or_false->lT,true_and->fN
open Classical renaming byContradiction->mN,choose->z3,choose_spec->qo
open Decidable renaming em->dn
open Int renaming le_refl->PT,mul_ne_zero->Er,natAbs_mul->tp,natAbs_natCast->m5,zero_add->JK,zero_mul->xu
open List renaming all_append->KD,all_cons->vx,all_eq_true->nt,any_eq_false->EL,any_eq_true->ali,append_assoc->g8,append_nil->hD,append_of_mem->amb,cons_append->m1,drop->hl,drop_append->qq,drop_eq_getElem_cons->je,drop_eq_nil_of_le->lM,drop_zero->o0,ext_getElem?->pE,filter_nil->sE,findIdx_getElem->amq,findIdx_le_length->aa2,findIdx_map->alP,flatten_append->Ub,flatten_cons->l8,getD_eq_getElem?_getD->eD,getElem?_append_left->qi,getElem?_append_right->ov,getElem?_cons_zero->F9,getElem?_drop->q6,getElem?_eq_getElem->bh,getElem?_eq_none->jZ,getElem?_eq_some_iff->dV,getElem?_map->bm,getElem?_range->vo,getElem?_set->mr,getElem?_zipIdx->T0,getElem_drop->ED,getElem_mem->mh,length->D,length_append->gC,length_cons->lJ,length_drop->oz,length_filter_le->p2,length_map->al,length_nil->o2,length_range->td,length_replicate->xH,length_set->ie,length_singleton->qI,length_take->gP,length_zip->alu,mapM_cons->ns,map_append->kE,map_congr_left->ox,map_cons->eE,map_map->pJ,map_nil->bY,map_replicate->KC,map_set->xD,mem_append->jH,mem_cons->n2,mem_cons_of_mem->iG,mem_cons_self->g1,mem_filter->PE,mem_iff_getElem?->r9,mem_map->gm,mem_map_of_mem->wA,mem_of_getElem?->dy,mem_range->ig,mem_singleton->yK,nil_append->jE,nodup_range->ak3,range->eM,replicate->ef,replicate_append_replicate->abc,replicate_succ->um,set_append_right->y1,set_cons_zero->lB,take->gT,take_add_one->hZ,take_append_of_le_length->EO,take_length->pb,take_of_length_le->dD,take_succ_cons->Dx,zipWith->ab8,zipWith_cons_cons->amk,zip_cons_cons->abt
open List.cons renaming injEq->bj
open Nat renaming add_comm->Dm,add_sub_cancel_left->Jh,add_zero->lO,eq_zero_or_pos->kO,exists_eq_add_of_le->alb,le_mul_of_pos_right->MK,le_of_eq->AJ,le_refl->cl,le_trans->eR,lt_of_le_of_lt->vQ,lt_or_ge->hO,mul_assoc->HN,mul_comm->vJ,mul_le_mul->pj,mul_left_comm->amh,mul_one->dZ,mul_pos->ab4,one_pos->ab3,pow_add->AS,pow_le_pow_right->yL,pow_lt_pow_right->amx,pow_succ->xa,reduceEqDiff->cE,sub_self->j0,sub_zero->alg,succ_mul->vp,zero_add->q4,zero_le->fL
open Option renaming map_some->ks
open Option.some renaming inj->nu,injEq->cF
open Prod renaming ext->et,fst->pR
open Prod.mk renaming injEq->fq
open Rat renaming add_zero->rH,divInt->mJ,divInt_eq_div->PL,div_def->abD,intCast_add->CY,intCast_eq_zero_iff->amv,intCast_mul->sC,intCast_natCast->oe,intCast_sub->CZ,inv_pos->alT,le_refl->hp,le_trans->xM,mul_comm->xR,mul_eq_zero->acd,mul_nonneg->abE,mul_pos->Pz,mul_zero->rI,natCast_mul->UQ,neg_num->amz,one_mul->EX,zero_add->HO,zero_den->PR,zero_mul->KN,zero_num->PS
namespace Go.Mini
open Go
def azW (T:ba)(EH:T Nv=aK OZ)(y2:T DQ=EB CL)(tB:T Gr=aK Ep)(nL:T xb=aK yU)(oK:T yA=aK yV)
  (go N:Nat) (rows:List dz) (r c:Nat) (ep:Mem) (cw:ld N rows) (bH:CN go N rows false ep) (EE:ep 168004=none) (EF:ep 168006=none) (fA:N<=40) (kP:r<=c) (uY:c<N) :
  wp T Ax.body (oJ Ax.res λm mem'=>m=.H (.bool (ja rows r c).1)/\lA ep go N (ja rows r c).2.1 (ja rows r c).2.2 mem') ⟨kq [.ptr 129015 0 0,.H (.int .i64 r),.H (.int .i64 c)],ep⟩:=by
 refine ra ?_;simp only[Ax];simp only[go_sem,go_sem_proc];refine dd [0,1,2] [] (λ(i:Nat) tm mem=>r<=i/\i<=N/\(∀j y,r<=j->j<i->rows[j]?=some y->hd (cellOf y c)=true)/\tm 7=.H (.int .i64 i)/\mem=ep) (λi=>N-i) r (by refine⟨cl _,by omega,λj y F G=>by omega,rfl,rfl⟩) ?_;intro vs ms aQ aM;simp only[go_sem,go_sem_proc] at aQ aM;subst aQ aM;rintro i tm mem I hm ⟨k5,O7,a2,b9,rfl⟩;simp only[go_sem,go_sem_proc,bj] at I hm;obtain⟨ay,F,G⟩:=I;have za:=bH.m;have O8:=bH.o;have hlen:=cw.len;rcases dn (i<N) with ah|bW
 ·have L:∃x,rows[i]?=some x:=⟨_,bh (by omega)⟩;obtain⟨x,L⟩:=L;obtain⟨zS,y9⟩:=cw.row x (dy L);have EI:=bH.r x (dy L);have aH:∃f,x.2.2[c]?=some f:=⟨_,bh (by omega)⟩;obtain⟨⟨⟨f1,f2⟩,⟨f3,f4⟩⟩,aH⟩:=aH;have akQ:=Kv (N:=N) L;have akR:=Hs (N:=N) (rows:=rows) (i:=i) (by omega);have akS:=Hq aH;have zb:=AF (l:=x.2.2) (k:=c) (by omega);have nY:=aaJ aH;have h3:decide ((i:Int)<(N:Int))=true:=cX;have Hv:c<N+1:=by omega
  rcases nC:(f1==0)
  ·have O9:findAt rows r c=i:=azw L k5 a2 (by rw[nY];exact nC);obtain⟨sv,m9⟩:∃x,rows[r]?=some x:=⟨_,bh (by omega)⟩
   have j8:ja rows r c=(false,jl (hJ ((f1,f2),(f3,f4)) x.2.2).1 r c 0 (((rows.set r x).set i sv).set r (x.1,x.2.1,(hJ ((f1,f2),(f3,f4)) x.2.2).1)) (hJ ((f1,f2),(f3,f4)) x.2.2).2):=by
    unfold ja CO;rw[aa (by omega),O9];have:rowAt (nK rows r i) r=x:=uX (by unfold nK;rw[uX L,uX m9];exact O2 L m9);rw[this,nY];unfold nK;rw[uX L,uX m9]
   rw[j8];clear j8;have Kz:ld N ((rows.set r x).set i sv):=cw.swap m9 L;have azX:lA mem go N ((rows.set r x).set i sv) false _:=lA.swap m9 L ⟨bH,λ_ _=>rfl⟩;have wi:((rows.set r x).set i sv)[r]?=some x:=O2 L m9;have pf:r<N:=by omega
   have s1:=Kv (N:=N) m9;have s2:=Hs (N:=N) (rows:=rows) (i:=r) (by omega);have c1:=akC (N:=N) (rows:=rows) (i:=r) (by omega) x;have de:=Hs (N:=N) (rows:=rows.set r x) (i:=i) (by rw[ie];omega);have azY:=akC (N:=N) (rows:=rows.set r x) (i:=i) (by rw[ie];omega) sv;have aaU:=Kv (N:=N) wi;have azZ:=Hs (N:=N) (rows:=(rows.set r x).set i sv) (i:=r) (by rw[ie,ie];omega);generalize rB:(rows.set r x).set i sv=gF at *;have gw:=y9 _ (dy aH);have aPy:decide ((i:Int)<(N:Int))=true:=h3;have az0:((i:Int)==(N:Int))=false:=by simp;omega
   simp only[go_sem,go_sem_proc,EH,y2,ay,F,G,b9,za,O8,EI,akQ,akR,akS,zb,ah,h3,Hv,nC,dZ,pf,s1,s2,c1,de,azY,aaU,azZ,az0];refine azO T y2 tB go N r c mem EE EF fA pf gF Kz x wi f1 f2 f3 f4 gw _ _ (gk (mem 148008)) ?_ ?_ ?_ ?_ ?_ ?_ ?_ ?_ ((azX.own (.inl rfl)).own (.inl rfl)) ?_
   ·exact ay
   ·exact F
   ·exact G
   ·rfl
   ·rfl
   ·rfl
   ·rfl
   ·simp[a5]
   intro tm' m' eU cy dw qN xF;have xE:=xF.1.m
   have bf:(gF.set r (x.1,x.2.1,(hJ ((f1,f2),(f3,f4)) x.2.2).1))[r]?=some (x.1,x.2.1,(hJ ((f1,f2),(f3,f4)) x.2.2).1):=by
    rw[mr,Y rfl,Y (by rw[Kz.len];exact pf)]
   simp only[go_sem,go_sem_proc,eU,cy,dw,xE];refine azL T EH y2 nL oK go N r c mem EE EF fA pf Hv _ qN x _ bf _ _ _ ?_ ?_ ?_ ?_ ?_ ?_ xF ?_
   ·exact eU
   ·exact cy
   ·exact dw
   ·rfl
   ·rfl
   ·rfl
   intro akT iA wg;refine ai ?_;repeat' (intro h<;>simp only[h,go_sem,go_sem_proc]<;>try refine ag ?_ ?_)
   exact⟨_,rfl,rfl,wg⟩
  ·have hw:=eI (i:=i) (by omega);refine ai ?_;repeat' (intro h<;>simp only[h,go_sem,go_sem_proc,EH,y2,ay,F,G,b9,za,O8,EI,akQ,akR,akS,zb,ah,h3,Hv,nC,hw,dZ]<;>try refine ag ?_ ?_)
   refine⟨i+1,by omega,by omega,by omega,?_,rfl⟩
   intro j y az1 w4 aj
   by_cases jR:j=i
   ·subst jR;rw[L] at aj
    cases aj;rw[nY];exact nC
   ·exact a2 j y az1 (by omega) aj
 ·have az2:i=N:=by omega
  subst az2;have h3:decide ((i:Int)<(i:Int))=false:=b7;have tC:=azx (rows:=rows) (r:=r) (c:=c) (by omega) (λj y ae aj=>a2 j y ae (by have:=(dV.1 aj).1;omega) aj);have aE:ja rows r c=(true,rows,false):=by unfold ja;rw[Y tC]
  rw[aE];refine ai ?_;repeat' (intro h<;>simp only[h,go_sem,go_sem_proc,EH,y2,ay,F,G,b9,za,O8,h3,beq_self_eq_true]<;>try refine ag ?_ ?_)
  exact⟨_,rfl,rfl,bH,λ_ _=>rfl⟩
structure TY where
 go:Nat
 N:Nat
 rows:List dz
 r:Nat
 c:Nat
def aaV (a:TY)(mem:Mem):Prop:=ld a.N a.rows/\CN a.go a.N a.rows false mem/\mem 168004=none/\mem 168006=none/\a.N<=40/\a.r<=a.c/\a.c<a.N
def aaW (a:TY)(mem:Mem):M->Mem->Prop:=λm mem'=>m=.H (.bool (ja a.rows a.r a.c).1)/\lA mem a.go a.N (ja a.rows a.r a.c).2.1 (ja a.rows a.r a.c).2.2 mem'
def Pa:List M->Mem->Option (M->Mem->Prop):=AE (λ(a:TY) args mem=>args=[.ptr 129015 0 0,.H (.int .i64 a.r),.H (.int .i64 a.c)]/\aaV a mem) aaW
def az3 {N:Nat}{a b:List dz}(h:refsOf N a=refsOf N b):a.map (λx=>(x.1,x.2.1))=b.map λx=>(x.1,x.2.1):=by
 induction a generalizing b with
 |nil=>cases b with
  |nil=>rfl
  |cons y r=>simp[refsOf] at h
 |cons x a aG=>cases b with
  |nil=>simp[refsOf] at h
  |cons y b =>
   simp only[refsOf,eE,bj,M.ref.injEq] at h;have F:x.1=y.1:=by have:=h.1.1;simp only[Key] at this;omega
   simp only[eE,bj,fq];exact⟨⟨F,h.1.2.1⟩,aG h.2⟩
def az4 (a:TY)(mem:Mem)(h:aaV a mem):Pa [.ptr 129015 0 0,.H (.int .i64 a.r),.H (.int .i64 a.c)] mem=some (aaW a mem):=by
 unfold Pa;refine azq (a:=a) ?_ ⟨rfl,h⟩;rintro a b args mem ⟨F,G,ab,_⟩ ⟨aV,bu,bX,_⟩;rw[F] at aV;simp only[bj,M.H.injEq,Data.int.injEq,true_and,and_true] at aV;have hm:=ab.m;rw[bX.m] at hm;simp only[cF,fq,bj,M.ref.injEq,true_and,and_true] at hm;obtain⟨⟨bb,aL⟩,-⟩:=hm;have bw:=ab.o;rw[bX.o] at bw;simp only[cF,fq] at bw;obtain⟨eG,aPz,aaX,cz,cY⟩:=a;obtain⟨aPA,aPB,aaY,cQ,dN⟩:=b;dsimp only at *;subst bb aL
 have X:aaY=aaX:=by
  have b9:=az3 bw.2;have aq:(D aaY)=D aaX:=by have:=congrArg D b9;simpa using this
  apply List.ext_getElem aq;intro i nV oX;have cS:(aaY.map λx=>(x.1,x.2.1))[i]?=(aaX.map λx=>(x.1,x.2.1))[i]?:=by rw[b9]
  rw[bm,bm,bh nV,bh oX] at cS;simp only[ks,cF,fq] at cS;have e2:=bX.r _ (mh nV);have fa:=ab.r _ (mh oX);rw[cS.1,fa] at e2;simp only[cF,fq] at e2;have:=azv e2.2;exact et cS.1 (et cS.2 this.symm)
 subst X;have au:cz=cQ:=by omega
 have aC:cY=dN:=by omega
 subst au aC
 rfl
def az5 {args:List M}{mem:Mem}{bC:M->Mem->Prop}(h:Pa args mem=some bC):∃a,args=[.ptr 129015 0 0,.H (.int .i64 a.r),.H (.int .i64 a.c)]/\aaV a mem/\bC=aaW a mem:=by
 obtain⟨a,⟨F,G⟩,ab⟩:=TQ h;exact⟨a,F,G,ab⟩
def Pb (l:List bz):((l.map az).all λe=>D e==4)=true:=by simp[az]
abbrev TZ:List bz->List Data:=λ(l:List bz)=>[.ax (l.map az)]
def Pc:=bV TZ λ(l:List bz)=>cu (D l<=1000000) (.own 4 (l.map az))
def az6:∀a b,TZ a=TZ b->a=b:=by
  intro eN aw h;exact map_inj pS _ _ (by simpa using h)
@[go_sem] def aPC (l):=cH Pc rfl az6 l rfl
def az7 (T:ba):WF T aho Pc:=by
 refine cp λl=>cT λJ=>⟨rfl,ck ?_⟩;simp only[aho,TZ,cd]
 have c9:lL 147005 0 4 0 64 (D l) ((l.map az).flatten.map .H) (some (0,[]))=some (.ref 147005 1 4 0 (D l),some (147005,1,aU az l)):=by
  have:=BP jj v8 147005 0 64 [] l (by simp;omega) (by simp;omega)
  simpa [aU] using this
 have hlen:(aU az l).length=D l*4:=jS jj l;refine ai ?_;repeat' (intro h<;>simp only[h,go_sem,go_sem_proc,Pb,c9,al]<;>try refine ag ?_ ?_)
 rintro b ad
 cases b
 ·refine ai ?_;repeat' (intro h<;>simp only[h,go_sem,go_sem_proc,Pb,c9,al,ri,hlen]<;>try refine ag ?_ ?_)
  rw[Y (by omega),dD (by omega)];unfold aU;rw[w8 _ λd=>rfl];have:=BQ (sz:=4) (l.map az) (by intro e he;obtain⟨f,-,rfl⟩:=gm.1 he;rfl);rw[al] at this;simp[this]
 ·cases l with
  |nil =>
       refine ai ?_;repeat' (intro h<;>simp only[h,go_sem,go_sem_proc,ri,bY]<;>try refine ag ?_ ?_)
  |cons x r=>simp at ad
def ik (rs:List cI):List dz:=rs.zipIdx.map λp=>(p.2,0,p.1.1++[p.1.2])
def Hx (rs:List cI):(ik rs).length=D rs:=by simp[ik]
def akU {rs:List cI}{i:Nat}{r:cI}(h:rs[i]?=some r):(ik rs)[i]?=some (i,0,r.1++[r.2]):=by
 unfold ik;rw[bm,T0,h];simp
def aaZ {rs:List cI}{i:Nat}{r:cI}(h:rs[i]?=some r):(ik rs).take (i+1)=(ik rs).take i++[(i,0,r.1++[r.2])]:=by
 rw[hZ,akU h]
 rfl
def az8 {rs:List cI}{i:Nat}{x:dz}(h:x∈(ik rs).take i):x.1<i/\x.2.1=0:=by
 obtain⟨j,ae⟩:=r9.1 h;rw[List.getElem?_take] at ae
 split at ae
 ·rename_i jR;unfold ik at ae;rw[bm,T0] at ae
  cases X:rs[j]? with
  |none=>rw[X] at ae;cases ae
  |some r =>
   rw[X] at ae;simp only[ks,cF] at ae;subst ae;exact⟨by simpa using jR,rfl⟩
 ·cases ae
def az9 (N:Nat)(a b:List dz):refsOf N (a++b)=refsOf N a++refsOf N b:=by simp[refsOf]
def KA (N:Nat)(a:List dz):(refsOf N a).length=D a:=by simp[refsOf]
structure CR (N:Nat) (rs:List cI) (i go:Nat) (mem:Mem):Prop where
 z:i=0->mem 129015=some (0,[.nil,.H (.int .i64 N),.H (.bool false)])
 p:0<i->mem 129015=some (0,[.ref 129035 go 1 0 i,.H (.int .i64 N),.H (.bool false)])/\mem 129035=some (go,refsOf N ((ik rs).take i))
 r:∀x∈(ik rs).take i,mem (x.1+900000)=some (x.2.1,aU az x.2.2)
 n:∀j:Nat,i<=j->mem (j+900000)=none
 a:mem 168004=none
 b:mem 168006=none
def akV (l:List bz):(l.map az).flatten.map M.H=aU az l:=rfl
def aAa (bs:Nat)(l:List bz)(v1:Int)(v2:List Int)(jy:Int)(v4:List Int)(h:(D l)<=1000000):lL 129029 bs 4 (D l) 64 1 [.H (.int .i64 v1),.H (.ax (v2.map aI)),.H (.int .i64 jy),.H (.ax (v4.map aI))] (some (bs,aU az l))=some (.ref 129029 (bs+1) 4 0 (D l+1),some (129029,bs+1,aU az (l++[((v1,v2),(jy,v4))]))) :=
 kx jj v8 129029 bs 64 l ((v1,v2),(jy,v4)) rfl (by omega) (by omega)
def aAb (N bs i g:Nat)(a:List dz)(O:(D a)=i)(h:i<=1000)(m:M)(hm:m=.ref 129029 g 4 0 (N+1)):lL 129035 bs 1 i 24 1 [m] (some (bs,refsOf N a))=some (.ref 129035 (bs+1) 1 0 (i+1),some (129035,bs+1,refsOf N a++[m])):=by
 subst hm;unfold lL;dsimp only;rw[Y ⟨rfl,by rw[KA];omega,by omega,by unfold maxLen;omega,rfl⟩,dD (by rw[KA];omega)]
def aAc {N i go go' bs:Nat}{rs:List cI}{r:cI}{m m':Mem}(ad:CR N rs i go m)(X:rs[i]?=some r)(Am:m' 129015=some (0,[.ref 129035 go' 1 0 (i+1),.H (.int .i64 N),.H (.bool false)]))(aH:∀k:Nat,900000<=k\/k=168004\/k=168006->m' k=m k):
  CR N rs (i+1) go' (a5 (a5 (a5 m' 129029 (ca m' 129029) []) (i+900000) (ca m' (i+900000)) (aU az (r.1++[r.2]))) 129035 go' ((refsOf N ((ik rs).take i)++[M.ref 129029 bs 4 0 (N+1)]).set i (M.ref (i+900000) (ca m' (i+900000)) 4 0 (N+1)))):=by
 have ah:=(dV.1 X).1
 have bb:ca m' (i+900000)=0:=by
  unfold ca;rw[aH _ (.inl (by omega)),ad.n i (cl _)]
 have mK:(refsOf N ((ik rs).take i)).length=i:=by rw[KA,gP,Hx];omega
 rw[bb]
 have lC:(refsOf N ((ik rs).take i)++[M.ref 129029 bs 4 0 (N+1)]).set i (.ref (i+900000) 0 4 0 (N+1))=refsOf N ((ik rs).take (i+1)):=by
  rw[y1 _ _ (by omega),mK,j0,lB,aaZ X,az9]
  rfl
 rw[lC];have Pf:∀(k:Nat),k≠129029->k≠129035->k≠i+900000->a5 (a5 (a5 m' 129029 (ca m' 129029) []) (i+900000) 0 (aU az (r.1++[r.2]))) 129035 go' (refsOf N ((ik rs).take (i+1))) k=m' k:=λk F G ab=>by simp[a5,F,G,ab]
 refine⟨λh=>by omega,λ_=>⟨by rw[Pf _ (by omega) (by omega) (by omega)];exact Am,by simp[a5]⟩,λx L=>?_,λj ae=>?_,?_,?_⟩
 ·rw[aaZ X,jH,yK] at L;rcases L with L|rfl
  ·obtain⟨ux,Cj⟩:=az8 L;rw[Pf _ (by omega) (by omega) (by omega),aH _ (.inl (by omega))];exact ad.r x L
  ·have G:(i+900000:Nat)≠129035:=by omega
   simp[a5]
 ·rw[Pf _ (by omega) (by omega) (by omega),aH _ (.inl (by omega))];exact ad.n j (by omega)
 ·rw[Pf _ (by omega) (by omega) (by omega),aH _ (.inr (.inl rfl))];exact ad.a
 ·rw[Pf _ (by omega) (by omega) (by omega),aH _ (.inr (.inr rfl))];exact ad.b
def akW {K:bc->Prop}{tm:Nat->M}{N i go:Nat}(go' bs:Nat){rs:List cI}{r:cI}{m m':Mem}(ad:CR N rs i go m)(X:rs[i]?=some r)(Am:m' 129015=some (0,[.ref 129035 go' 1 0 (i+1),.H (.int .i64 N),.H (.bool false)]))
  (T1:m' 129035=some (go',refsOf N ((ik rs).take i)++[.ref 129029 bs 4 0 (N+1)])) (T2:m' 129029=some (bs,aU az (r.1++[r.2]))) (aH:∀k:Nat,900000<=k\/k=168004\/k=168006->m' k=m k) (h:∀bk,CR N rs (i+1) go' bk->K ⟨tm,bk⟩):lp K ⟨tm,m'⟩ .move:=by
 have ah:=(dV.1 X).1;have mK:(refsOf N ((ik rs).take i)).length=i:=by rw[KA,gP,Hx];omega
 exact avl 129035 i 129029 (i+900000) T1 (by rw[ov (by omega),mK,j0];rfl) T2 (by omega) (show (i+900000:Nat)≠129029 by omega) (show (i+900000:Nat)≠129035 by omega) (h _ (aAc ad X Am aH))
def mL {m:Mem}{k g:Nat}{cs:List M}{j:Nat}(h:j≠k):a5 m k g cs j=m j:=aa h
def aAd (T:ba)(qQ:T Sm=aK Pc){K:eK->bc->Prop}{kk:List fT}(N:Nat)(rs:List cI)(stop:Bool)(fA:N<=40)(hlen:(D rs)=N)(yx:∀r∈rs,r.1.length=N/\pT r)(tm:Nat->M)(m:Mem)
  (au:tm 1=.H (.int .i64 N)) (aC:tm 2=.H (.bool stop)) (ee:tm 8=.ptr 129015 0 0) (CS:tm 16=.H (.ax (rs.map dQ))) (sx:tm 17=.H (.int .i64 N)) (EJ:tm 18=.H (.int .i64 0)) (ad:CR N rs 0 0 m)
  (db:∀tm' m' go,tm' 1=.H (.int .i64 N)->tm' 2=.H (.bool stop)->tm' 8=.ptr 129015 0 0->CR N rs N go m'->cg T K kk (.exit 0) ⟨tm',m'⟩) :
  wp T (Tl.body.sub [1,1,0,1,0]) (cg T K kk) ⟨tm,m⟩:=by
 simp only[Tl,er.sub];refine dd [1,2,8,16,17] [] (λ((i,go):Nat×Nat) tm m=>i<=N/\tm 18=.H (.int .i64 i)/\CR N rs i go m) (λ(i,_)=>N-i) (0,0) (by exact⟨fL _,EJ,ad⟩) ?_;intro vs ms aQ aM;simp only[go_sem,go_sem_proc,au,aC,ee,CS,sx] at aQ aM;subst aQ aM;clear au aC ee CS sx EJ ad tm m;rintro⟨i,go⟩ tm m I hm ⟨O7,oE,ad⟩;simp only[go_sem,go_sem_proc,bj] at I hm;obtain⟨F,G,cS,vU,m6⟩:=I;rcases dn (i<N) with ah|bW
 ·obtain⟨⟨A,⟨v1,v2⟩,⟨jy,v4⟩⟩,X⟩:∃r,rs[i]?=some r:=⟨_,bh (by omega)⟩;obtain⟨tD,⟨akX,qR⟩,wj,m3⟩:=yx _ (dy X);dsimp only at tD akX qR wj m3;have nJ:decide ((i:Int)<(N:Int))=true:=cX;have hw:=eI (i:=i) (by omega);have c9:∀bs,lL 129029 bs 4 N 64 1 _ _=_:=λbs=>tD ▸ aAa bs A v1 v2 jy v4 akX;have akY:N<=1000000:=by omega
  have js:(1<=maxLen)=True:=eq_true (by unfold maxLen;omega);have aPD:=aaZ X;have mK:((ik rs).take i).length=i:=by rw[gP,Hx];omega
  rcases kO i with ay|jt
  ·have za:=ad.z ay;refine ai ?_;repeat' (intro h<;>simp only[h,go_sem,go_sem_proc,qQ,F,G,cS,vU,m6,oE,za,nJ,X,hw,akY,tD,c9,js,akV,al,bm,dQ,az,decide_true,decide_false,ne_eq,not_false_eq_true,and_self]<;>try refine ag ?_ ?_)
   refine akW (gk (m 129035)) (gk (m 129029)+1) ad X (by simp[a5,ay]) (by simp[a5,ay,refsOf]) (by simp[a5]) (λk I=>?_) λbk ga=>?_
   ·rw[mL (by omega),mL (by omega),mL (by omega),mL (by omega),mL (by omega),mL (by omega),mL (by omega)]
   ·refine ai ?_;repeat' (intro h<;>simp only[h,go_sem,go_sem_proc,F,G,cS,vU,m6,oE,hw]<;>try refine ag ?_ ?_)
    exact⟨(i+1,gk (m 129035)),by dsimp only;omega,by dsimp only;omega,rfl,ga⟩
  ·obtain⟨za,O8⟩:=ad.p jt;have aAe:=aAb N go i (gk (m 129029)+1) ((ik rs).take i) mK (by omega) _ rfl;refine ai ?_;repeat' (intro h<;>simp only[h,go_sem,go_sem_proc,qQ,F,G,cS,vU,m6,oE,za,O8,nJ,X,hw,akY,tD,c9,aAe,akV,al,bm,dQ,az,decide_true,decide_false,ne_eq,not_false_eq_true,and_self]<;>try refine ag ?_ ?_)
   refine akW (go+1) (gk (m 129029)+1) ad X (by simp[a5]) (by simp[a5]) (by simp[a5]) (λk I=>?_) λbk ga=>?_
   ·rw[mL (by omega),mL (by omega),mL (by omega),mL (by omega),mL (by omega),mL (by omega),mL (by omega)]
   ·refine ai ?_;repeat' (intro h<;>simp only[h,go_sem,go_sem_proc,F,G,cS,vU,m6,oE,hw]<;>try refine ag ?_ ?_)
    exact⟨(i+1,go+1),by dsimp only;omega,by dsimp only;omega,rfl,ga⟩
 ·have nJ:decide ((i:Int)<(N:Int))=false:=b7;obtain rfl:i=N:=by omega
  refine ai ?_;repeat' (intro h<;>simp only[h,go_sem,go_sem_proc,F,G,cS,vU,m6,oE,nJ]<;>try refine ag ?_ ?_)
  refine db _ _ go ?_ ?_ ?_ ad<;>simp only[dC,cE,if_false,F,G,cS]
def mv (stop:Bool):Nat->Nat->List dz->List Nat->Bool->List dz×List Nat×Bool
 |0,_,rows,free,bad=>(rows,free,bad)
 |_+1,_,rows,free,true=>(rows,free,true)
 |k+1,c,rows,free,false =>
  if (ja rows (c-D free) c).1=true then
   (if stop=true then ((ja rows (c-D free) c).2.1,free++[c],(ja rows (c-D free) c).2.2) else mv stop k (c+1) (ja rows (c-D free) c).2.1 (free++[c]) (ja rows (c-D free) c).2.2)
  else mv stop k (c+1) (ja rows (c-D free) c).2.1 free (ja rows (c-D free) c).2.2
def T3 (stop:Bool)(k c:Nat)(rows:List dz)(free:List Nat):mv stop k c rows free true=(rows,free,true):=by
 cases k<;>rfl
def h4 (n:Nat):List Data:=[.int .i64 n]
def wk (n:Nat):(h4 n).length=1:=rfl
def akZ (n:Nat):((h4 n).map M.H).all M.one=true:=rfl
def aa0 (N:Nat)(rows:List dz)(bad:Bool):Data:=.ptr [.ax (rows.map λx=>[.ax (x.2.2.map az)]),.int .i64 N,.bool bad]
def T4 (N:Nat)(p:List dz×List Nat×Bool):Data:=.dj [aa0 N p.1 p.2.2,.ax (p.2.1.map h4)]
def T5 (gh:List bz)(r c:Nat):∀(i:Nat) (l:List dz) (b:Bool),(jl gh r c i l b).1.map (λx=>(x.1,x.2.1,x.2.2.length))=l.map λx=>(x.1,x.2.1,x.2.2.length)
 |_,[],_=>rfl
 |i,x::xs,b=>by
  unfold jl
  split
  ·simp only[eE,T5 gh r c (i+1) xs b]
  ·simp only[eE,T5 gh r c (i+1) xs,akD]
def ak0 (fH:bz):∀(l p:List bz) (b:Bool),(∀f∈l,okF f)->∀f∈(iZ fH l p b).1,okF f
 | [],p,b,h=>by rw[akE];exact h
 |f::eo,[],b,h=>by cases b<;>(simp only[iZ];exact h)
 |f::eo,p::cO,true,h=>by simp only[iZ];exact h
 |f::eo,p::cO,false,h=>by
  simp only[iZ];intro g bb;rcases n2.1 bb with rfl|bb
  ·exact aaI _ _
  ·exact ak0 fH eo cO _ (λx L=>h x (iG _ L)) g bb
def aa1 (gh:List bz)(r c:Nat):∀(i:Nat) (l:List dz) (b:Bool),(∀x∈l,∀f∈x.2.2,okF f)->∀x∈(jl gh r c i l b).1,∀f∈x.2.2,okF f
 |_,[],_,h=>h
 |i,x::xs,b,h=>by
  unfold jl
  split
  ·intro y aj;rcases n2.1 aj with rfl|aj
   ·exact h _ g1
   ·exact aa1 gh r c (i+1) xs b (λz a2=>h z (iG _ a2)) y aj
  ·intro y aj;rcases n2.1 aj with rfl|aj
   ·exact ak0 _ _ _ _ (h _ g1)
   ·exact aa1 gh r c (i+1) xs _ (λz a2=>h z (iG _ a2)) y aj
def ak1 (rows:List dz)(r c:Nat)(X:r<=D rows):r<=findAt rows r c/\findAt rows r c<=D rows:=by
 unfold findAt;have:=aa2 (p:=λx => !hd (cellOf x c)) (xs:=rows.drop r);rw[oz] at this;omega
def ld.Hy {N:Nat}{rows:List dz}(h:ld N rows){r c:Nat}(X:r<N):ld N (ja rows r c).2.1:=by
 unfold ja
 split
 ·exact h
 ·rename_i b8;have gw:=ak1 rows r c (by rw[h.len];omega);have aq:=h.len;obtain⟨x,L⟩:∃x,rows[findAt rows r c]?=some x:=⟨_,bh (by omega)⟩;obtain⟨sv,m9⟩:∃x,rows[r]?=some x:=⟨_,bh (by omega)⟩
  have rB:ld N (nK rows r (findAt rows r c)):=by
   unfold nK;rw[uX L,uX m9];exact h.swap m9 L
  have wi:(nK rows r (findAt rows r c))[r]?=some x:=by
   unfold nK;rw[uX L,uX m9];exact O2 L m9
  generalize nK rows r (findAt rows r c)=gF at *;obtain⟨zS,y9⟩:=rB.row x (dy wi)
  have o6:ld N (CO gF r c):=by
   unfold CO;rw[uX wi];refine rB.set wi (by simp[hJ,zS]) λf aH=>?_;obtain⟨g,-,rfl⟩:=gm.1 aH;exact TU _ _
  generalize CO gF r c=ff at *;have qn:=T5 (hJ (cellOf (rowAt gF r) c) (rowAt gF r).2.2).1 r c 0 ff (hJ (cellOf (rowAt gF r) c) (rowAt gF r).2.2).2;have cw:=aa1 (hJ (cellOf (rowAt gF r) c) (rowAt gF r).2.2).1 r c 0 ff (hJ (cellOf (rowAt gF r) c) (rowAt gF r).2.2).2 λx L=>(o6.row x L).2;dsimp only;generalize (jl (hJ (cellOf (rowAt gF r) c) (rowAt gF r).2.2).1 r c 0 ff (hJ (cellOf (rowAt gF r) c) (rowAt gF r).2.2).2).1=el at *;refine⟨?_,?_,λy aj=>⟨?_,cw y aj⟩⟩
  ·have:=congrArg D qn;rw[al,al] at this;rw[this,o6.len]
  ·have F:el.map (·.1)=ff.map (·.1):=by
    have:=congrArg (List.map λp:Nat×Nat×Nat=>p.1) qn
    simpa [pJ,Function.comp_def] using this
   rw[F];exact o6.TS
  ·have F:el.map (λx=>x.2.2.length)=ff.map λx=>x.2.2.length:=by
    have:=congrArg (List.map λp:Nat×Nat×Nat=>p.2.2) qn
    simpa [pJ,Function.comp_def] using this
   have G:y.2.2.length∈ff.map λx=>x.2.2.length:=by rw[<-F];exact gm.2 ⟨y,aj,rfl⟩
   obtain⟨z,a2,e⟩:=gm.1 G;rw[<-e];exact (o6.row z a2).1
def aAf {n k g N:Nat}{mem:Mem}{l:List bz}(aq:(D l)=N+1)(hm:mem k=some (g,aU az l)):cV (n+1) mem (.ref k g 4 0 (N+1))=some (.ax (l.map az)):=by
 rw[<-aq];exact k6 jj hm
def aAg {n N:Nat}{mem:Mem}{rows:List dz}(h:∀x∈rows,mem (x.1+900000)=some (x.2.1,aU az x.2.2))(aq:∀x∈rows,x.2.2.length=N+1):(refsOf N rows).mapM (cV (n+1) mem)=some (rows.map λx => .ax (x.2.2.map az)):=by
 unfold refsOf
 induction rows with
 |nil=>rfl
 |cons x xs aG =>
  have F:=aAf (n:=n) (aq x g1) (h x g1);have G:=aG (λy aj=>h y (iG _ aj)) λy aj=>aq y (iG _ aj);simp only[eE,ns,F,G]
  rfl
def aa3 {n N go:Nat}{mem:Mem}{rows:List dz}{bad:Bool}(cw:ld N rows)(h:CN go N rows bad mem):cV (n+3) mem (.ptr 129015 0 0)=some (aa0 N rows bad):=by
 have F:=aAg (n:=n) h.r λx L=>(cw.row x L).1
 have G:cV (n+2) mem (.ref 129035 go 1 0 N)=some (.ax (rows.map λx=>[.ax (x.2.2.map az)])):=by
  unfold cV;rw[h.o];simp only[if_true];unfold cut;rw[Y (by rw[KA,cw.len];omega),o0,dD (by rw[KA,cw.len];omega)];dsimp only;rw[F];have:=BQ (sz:=1) (rows.map λx=>[Data.ax (x.2.2.map az)]) (by intro e he;obtain⟨x,-,rfl⟩:=gm.1 he;rfl);rw[al,cw.len] at this;simp only[ks,cF,Data.ax.injEq]
  have gw:∀l:List dz,(l.map λx=>Data.ax (x.2.2.map az))=(l.map λx=>[Data.ax (x.2.2.map az)]).flatten:=by
   intro l
   induction l with
   |nil=>rfl
   |cons x xs aG=>simp only[eE,l8,aG];rfl
  rw[gw,this]
 unfold cV;rw[h.m];simp only[if_true,o0,ns,List.mapM_nil,G,true_and,fL];simp only[R9]
 rfl
def CR.aAh {N go:Nat}{rs:List cI}{m:Mem}(aq:(D rs)=N)(fA:0<N)(h:CR N rs N go m):CN go N (ik rs) false m:=by
 have b0:(ik rs).take N=ik rs:=dD (by rw[Hx];omega);have aE:=h.p fA;rw[b0] at aE;exact⟨aE.1,aE.2,by have:=h.r;rw[b0] at this;exact this⟩
def CN.other {go N:Nat}{rows:List dz}{bad:Bool}{mem:Mem}{k g:Nat}{cs:List M}(h:CN go N rows bad mem)(F:k≠129015)(G:k≠129035)(ab:k<900000):CN go N rows bad (a5 mem k g cs) :=
 ⟨(mL (Ne.symm F)).trans h.m,(mL (Ne.symm G)).trans h.o,λx L=>(mL (show (x.1+900000:Nat)≠k by omega)).trans (h.r x L)⟩
def ak2 {N:Nat}{rs:List cI}(aq:(D rs)=N)(h:∀r∈rs,r.1.length=N/\pT r):ld N (ik rs):=by
 refine⟨by rw[Hx,aq],?_,λx L=>?_⟩
 ·have:(ik rs).map (·.1)=eM (D rs):=by
   unfold ik;rw[pJ];apply pE;intro i;rw[bm,T0];rcases hO i (D rs) with h|h
   ·rw[bh h];simp[h]
   ·rw[jZ h];simp[h]
  rw[this];exact ak3
 ·unfold ik at L;obtain⟨⟨r,i⟩,aE,rfl⟩:=gm.1 L;have X:=List.fst_mem_of_mem_zipIdx aE;obtain⟨F,G,ab⟩:=h r X;refine⟨by simp[F],λf aH=>?_⟩
  rw[jH,yK] at aH;rcases aH with aH|rfl
  ·exact G.2 f aH
  ·exact ab
abbrev T6:(List cI)×Int×Bool->List Data:=λ(rs,n,stop)=>[.ax (rs.map dQ),.int .i64 n,.bool stop]
def Pg:=bV T6 λ(rs,n,stop)=>cu ((D rs:Int)=n/\D rs<=40/\∀r∈rs,r.1.length=D rs/\pT r) (.same (T4 (D rs) (mv stop (D rs) 0 (ik rs) [] false)))
def aAi:∀a b,T6 a=T6 b->a=b:=by
  rintro⟨Tu,hB,aAj⟩ ⟨Tv,ib,aAk⟩ h;simp only[bj,Data.ax.injEq,Data.int.injEq,Data.bool.injEq] at h;exact et (map_inj Ev _ _ h.1) (et h.2.1.2 h.2.2.1)
@[go_sem] def aAl (rs n stop):=cH Pg rfl aAi (rs,n,stop) rfl
def aAm (T:ba)(qQ:T Sm=aK Pc)(tE:T YF=tz Pa):WF T Tl Pg:=by
 refine cp λ(rs,n,stop)=>cT λJ=>⟨rfl,ck ?_⟩;simp only[Tl,T6,cd];obtain⟨aL,fA,yx⟩:=J;subst aL;simp only[go_sem,go_sem_proc,qQ,tE,al];generalize aa4:(D rs)=N at *;refine aAd T qQ N rs stop fA aa4 yx _ _ rfl rfl rfl rfl rfl rfl ⟨λ_=>by simp[a5],λh=>by omega,λx L=>by simp at L,λj _=>mL (show (j+900000:Nat)≠129015 by omega),mL (by omega),mL (by omega)⟩ ?_
 intro tm m go F G cS ad;rcases kO N with ay|jt
 ·have iT:rs=[]:=List.eq_nil_of_length_eq_zero (by omega);have a2:=ad.z ay;subst ay;subst iT;simp only[go_sem,go_sem_proc,qQ,tE,F,G,cS];refine dd [1,2,8] [129015] (λ(_:Unit) tm' m'=>tm' 11=.ref 129061 (gk (m 129061)) 1 0 0/\m' 129061=some (gk (m 129061),[])/\tm' 12=.H (.int .i64 0)) (λ_=>0) () (by refine⟨rfl,?_,rfl⟩;simp[a5]) ?_;intro vs ms aQ aM;simp only[go_sem,go_sem_proc,qQ,tE,F,G,cS,a2] at aQ aM;subst aQ aM;rintro _ tm' m' I hm ⟨qB,Ph,o8⟩;simp only[go_sem,go_sem_proc,qQ,tE,bj] at I hm;obtain⟨cy,dw,k9⟩:=I;refine ai ?_;repeat' (intro (ao:_=_)<;>simp only[ao,go_sem,go_sem_proc,qQ,tE,cy,dw,k9,hm,qB,Ph,o8,show decide ((0:Int)<((0:Nat):Int))=false from rfl,cV,uc,o0]<;>try refine ag ?_ ?_)
  rfl
 ·have CT:=ad.aAh aa4 jt;have cw:=ak2 aa4 yx;have Pj:=ad.a;have Pk:=ad.b;clear ad;simp only[go_sem,go_sem_proc,qQ,tE,F,G,cS]
  refine dd [1,2,8] [] (λ((c,rows,free,bad,g):Nat×List dz×List Nat×Bool×Nat) tm m=>c<=N/\D free<=c/\mv stop N 0 (ik rs) [] false=mv stop (N-c) c rows free bad/\ld N rows/\CN go N rows bad m/\m 168004=none/\m 168006=none/\tm 11=.ref 129061 g 1 0 (D free)/\m 129061=some (g,aU h4 free)/\tm 12=.H (.int .i64 c)) (λ(c,_,_,_,_)=>N-c) (0,ik rs,[],false,gk (m 129061)) (by
   refine⟨fL _,cl _,rfl,cw,⟨?_,?_,λx L=>?_⟩,?_,?_,rfl,?_,rfl⟩
   ·rw[mL (by omega)];exact CT.m
   ·rw[mL (by omega)];exact CT.o
   ·rw[mL (show (x.1+900000:Nat)≠129061 by omega)];exact CT.r x L
   ·rw[mL (by omega)];exact Pj
   ·rw[mL (by omega)];exact Pk
   ·simp[a5,aU]) ?_
  intro vs ms aQ aM;simp only[go_sem,go_sem_proc,qQ,tE,F,G,cS] at aQ aM;subst aQ aM;clear F G cS CT Pj Pk;rintro⟨c,rows,free,bad,g⟩ tm m I hm ⟨uY,aPE,md,cw,CT,Pj,Pk,qB,Ph,o8⟩;simp only[go_sem,go_sem_proc,qQ,tE,bj] at I hm;obtain⟨F,G,cS⟩:=I;have za:=CT.m
  have ZZ:mv stop N 0 (ik rs) [] false=(rows,free,bad)->((cV 5 m (.ptr 129015 0 0)).bind λd=>(cV 5 m (.ref 129061 g 1 0 (D free))).bind λe=>some (Data.dj [d,e]))=some (T4 N (mv stop N 0 (ik rs) [] false)):=by
   intro h;rw[h,aa3 (n:=2) cw CT,k6 wk Ph]
   rfl
  have CU:=aa3 (n:=2) cw CT;have zc:=k6 (n:=4) wk Ph;rcases dn (c<N) with ah|bW
  ·have ew:decide ((c:Int)<(N:Int))=true:=cX
   cases bad
   ·have sk:IntKind.i64.wrap ((c:Int)-(D free:Int))=((c-D free:Nat):Int):=by rw[eY _];omega
    have ih:=eI (i:=c) (by omega);have fM:=az4 ⟨go,N,rows,c-D free,c⟩ m ⟨cw,CT,Pj,Pk,fA,Nat.sub_le _ _,ah⟩;dsimp only at fM;have aa5:N-c=(N-(c+1))+1:=by omega
    rw[aa5] at md;simp only[mv] at md;have y3:=cw.Hy (r:=c-D free) (c:=c) (by omega);simp only[go_sem,go_sem_proc,qQ,tE,tE,F,G,cS,qB,o8,za,ew,sk,fM];intro Hl m' jf;obtain⟨OO,hc⟩:=jf;dsimp only at OO hc;subst OO;have fV:m' 168004=none:=(hc.2 _ aaL).trans Pj;have l4:m' 168006=none:=(hc.2 _ aaM).trans Pk;have aa6:m' 129061=some (g,aU h4 free):=(hc.2 129061 (by unfold Ku;omega)).trans Ph;have c9:lL 129061 g 1 (D free) 8 1 [.H (.int .i64 c)] (some (g,aU h4 free))=_:=kx wk akZ 129061 g 8 free c rfl (by omega) (by omega);generalize aPF:ja rows (c-D free) c=ei at *;obtain⟨aAn,ak4,ak5⟩:=ei;dsimp only at *
    cases aAn
    ·simp only[k1,if_false] at md;refine ai ?_;repeat' (intro (ao:_=_)<;>simp only[ao,go_sem,go_sem_proc,qQ,tE,F,G,cS,qB,o8,ih]<;>try refine ag ?_ ?_)
     exact⟨(c+1,ak4,free,ak5,g),by dsimp only;omega,by dsimp only;omega,by dsimp only;omega,md,y3,hc.1,fV,l4,rfl,aa6,rfl⟩
    ·simp only[if_true] at md;have ak6:=hc.1.other (k:=129061) (g:=g+1) (cs:=aU h4 (free++[c])) (by omega) (by omega) (by omega)
     cases stop
     ·simp only[k1,if_false] at md;refine ai ?_;repeat' (intro (ao:_=_)<;>simp only[ao,go_sem,go_sem_proc,qQ,tE,F,G,cS,qB,o8,ih,aa6,c9]<;>try refine ag ?_ ?_)
      exact⟨(c+1,ak4,free++[c],ak5,g+1),by dsimp only;omega,by dsimp only;omega,by simp;omega,md,y3,ak6,fV,l4,by simp,rfl,rfl⟩
     ·simp only[if_true] at md;refine ai ?_;repeat' (intro (ao:_=_)<;>simp only[ao,go_sem,go_sem_proc,qQ,tE,F,G,cS,qB,o8,ih,aa6,c9]<;>try refine ag ?_ ?_)
      have EK:(D free)+1=(free++[c]).length:=by simp
      rw[aa3 (n:=2) y3 ak6,EK,k6 (n:=4) wk (g:=g+1) (l:=free++[c]) (by simp[a5]),md]
      rfl
   ·rw[T3] at md;refine ai ?_;repeat' (intro (ao:_=_)<;>simp only[ao,go_sem,go_sem_proc,qQ,tE,F,G,cS,qB,o8,za,ew,CU,zc]<;>try refine ag ?_ ?_)
    rw[md]
    rfl
  ·have ew:decide ((c:Int)<(N:Int))=false:=b7;have aa5:N-c=0:=by omega
   rw[aa5] at md;simp only[mv] at md;refine ai ?_;repeat' (intro (ao:_=_)<;>simp only[ao,go_sem,go_sem_proc,qQ,tE,F,G,cS,qB,o8,za,ew,CU,zc]<;>try refine ag ?_ ?_)
   rw[md]
   rfl
def T7 {rs:List cI}{n:Int}(bw:uQ rs)(h:j7 rs n=true):(D rs:Int)=n/\D rs<=40/\∀r∈rs,r.1.length=D rs/\pT r:=by
 unfold j7 at h;simp only[fC,tw,decide_eq_false_iff_not,beq_iff_eq] at h;obtain⟨F,G,ab,aV⟩:=h;refine⟨ab,by omega,λr X=>⟨?_,bw.2 r X⟩⟩
 rw[EL] at aV;have:=aV r X;unfold oc at this;simp at this;omega
def aa7 {stop:Bool}{N:Nat}:∀(k c:Nat) (rows:List dz) (free:List Nat) (bad:Bool),c+k=N->ld N rows->ld N (mv stop k c rows free bad).1
 |0,_,rows,_,_,_,h=>h
 |k+1,c,rows,free,true,J,h=>h
 |k+1,c,rows,free,false,J,h=>by
  have aE:=h.Hy (r:=c-D free) (c:=c) (by omega);unfold mv
  split
  ·split
   ·exact aE
   ·exact aa7 k (c+1) _ _ _ (by omega) aE
  ·exact aa7 k (c+1) _ _ _ (by omega) aE
def pg (stop:Bool)(rs:List cI):List dz×List Nat×Bool:=mv stop (D rs) 0 (ik rs) [] false
def aa8 (stop:Bool):∀(k c:Nat) (rows:List dz) (free:List Nat) (bad:Bool),(mv stop k c rows free bad).2.1.length<=D free+k
 |0,_,_,_,_=>by simp[mv]
 |k+1,c,rows,free,true=>by simp[mv]
 |k+1,c,rows,free,false=>by
  unfold mv
  split
  ·split
   ·simp
   ·have:=aa8 stop k (c+1) (ja rows (c-D free) c).2.1 (free++[c]) (ja rows (c-D free) c).2.2;simp at this;omega
  ·have:=aa8 stop k (c+1) (ja rows (c-D free) c).2.1 free (ja rows (c-D free) c).2.2;omega
def aAo (stop:Bool)(rs:List cI):(pg stop rs).2.1.length<=D rs:=by
 have:=aa8 stop (D rs) 0 (ik rs) [] false;unfold pg
 simpa using this
def aAp {rs:List cI}{stop:Bool}(h:∀r∈rs,r.1.length=D rs/\pT r):ld (D rs) (pg stop rs).1:=aa7 _ _ _ _ _ (by omega) (ak2 rfl h)
def wm (N:Nat)(x:dz):bz:=x.2.2.getD N cW
def tF (rs:List cI)(n:Int):List bz×Int :=
 if j7 rs n=true then (if (pg true rs).2.2=true then ([],6) else if (pg true rs).2.1.length>0 then ([],17) else ((pg true rs).1.map (wm (D rs)),0)) else ([],1)
def aAq {N:Nat}{x:dz}{f:bz}(h:x.2.2[N]?=some f):wm N x=f:=by
 unfold wm;rw[eD,h]
 rfl
def T8:=bV Ay λ(rs,n)=>cu (uQ rs) (.same (.dj [.ax ((tF rs n).1.map az),.int .i64 (tF rs n).2]))
@[go_sem] def aAr (rs n):=cH T8 rfl Ty (rs,n) rfl
def aAs (T:ba)(EM:T Yv=aK Tx)(EN:T Yz=aK Pg):WF T ajc T8:=by
 refine cp λ(rs,n)=>cT λJ=>⟨rfl,ck ?_⟩;simp only[ajc,Ay,cd];unfold tF;rcases X:j7 rs n
 ·refine ai ?_;repeat' (intro h<;>simp only[h,go_sem,go_sem_proc,EM,EN,J,X,bY]<;>try refine ag ?_ ?_)
 ·have cw:=aAp (stop:=true) (T7 J X).2.2;have ec:Pg [.ax (rs.map dQ),.int .i64 n,.bool true]=some (.same (T4 (D rs) (pg true rs))):=aAl rs n true (T7 J X);have gw:=aAo true rs;obtain⟨aL,fA,-⟩:=T7 J X;rcases fF:pg true rs with ⟨rows,free,bad⟩;rw[fF] at gw cw ec;dsimp only at gw cw;simp only[T4,aa0] at ec
  cases bad
  ·cases free with
   |nil =>
    simp only[go_sem,go_sem_proc,EM,EN,J,X,ec,al,show decide (((0:Nat):Int)>0)=false from rfl,bY];rw[aa (by simp)];refine dd [1,33,34] [] (λ((i,g):Nat×Nat) tm m=>i<=D rs/\tm 35=.H (.int .i64 i)/\tm 8=.ref 109045 g 4 0 i/\m 109045=some (g,aU az ((rows.take i).map (wm (D rs))))) (λ(i,_)=>D rs-i) (0,0) (by refine⟨fL _,rfl,rfl,?_⟩;simp[a5,aU,ca,emp]) ?_;intro vs ms aQ aM;simp only[go_sem,go_sem_proc,EM,EN] at aQ aM;subst aQ aM;rintro⟨i,g⟩ tm m I hm ⟨O7,T1,cS,aa9⟩;simp only[go_sem,go_sem_proc,EM,EN,bj] at I hm;obtain⟨F,S8,ak7⟩:=I;have cm:=cw.len;rcases dn (i<D rs) with ah|bW
    ·obtain⟨x,L⟩:∃x,rows[i]?=some x:=⟨_,bh (by omega)⟩;obtain⟨zS,y9⟩:=cw.row x (dy L);obtain⟨⟨⟨cz,cY⟩,⟨eA,eQ⟩⟩,wh⟩:∃f,x.2.2[D rs]?=some f:=⟨_,bh (by omega)⟩;have oZ:=aAq wh;have mK:((rows.take i).map (wm (D rs))).length=i:=by rw[al,gP];omega
     have c9:=kx jj v8 109045 g 64 ((rows.take i).map (wm (D rs))) ((cz,cY),(eA,eQ)) (cs:=[.H (.int .i64 cz),.H (.ax (cY.map aI)),.H (.int .i64 eA),.H (.ax (eQ.map aI))]) rfl (by omega) (by omega);rw[mK] at c9
     have Pl:(rows.take (i+1)).map (wm (D rs))=(rows.take i).map (wm (D rs))++[((cz,cY),(eA,eQ))]:=by
      rw[hZ,L,kE];simp[oZ]
     have nJ:decide ((i:Int)<(D rs:Int))=true:=cX;have aba:decide ((i:Int)<(D rows:Int))=true:=cX;have hw:=eI (i:=i) (by omega);have s5:decide (0<=n)=true:=cX;have Pm:n=((D rs:Nat):Int):=aL.symm;refine ai ?_;repeat' (intro h<;>simp only[h,go_sem,go_sem_proc,EM,EN,F,S8,ak7,T1,cS,aa9,L,wh,c9,nJ,aba,hw,Pm,al,bm,az]<;>try refine ag ?_ ?_)
     exact⟨(i+1,g+1),by dsimp only;omega,by dsimp only;omega,rfl,rfl,by dsimp only;rw[Pl]⟩
    ·have cP:i=D rs:=by omega
     have aba:decide ((i:Int)<(D rows:Int))=false:=b7;have ea:rows.take i=rows:=dD (by omega);rw[ea] at aa9
     have ky:∀n,cV (n+1) m (.ref 109045 g 4 0 i)=some (.ax ((rows.map (wm (D rs))).map az)):=λn=>by
      have:=k6 (n:=n) jj aa9;rw[show (rows.map (wm (D rs))).length=i by rw[al];omega] at this
      exact this
     have aAt:=ky 4;refine ai ?_;repeat' (intro h<;>simp only[h,go_sem,go_sem_proc,EM,EN,F,S8,ak7,T1,cS,aba,aAt]<;>try refine ag ?_ ?_)
   |cons f eo =>
    have iz:decide ((((f::eo).length:Nat):Int)>0)=true:=hN (by simp only[lJ];omega);simp only[lJ] at iz;refine ai ?_;repeat' (intro h<;>simp only[h,go_sem,go_sem_proc,EM,EN,J,X,ec,al,iz,bY]<;>try refine ag ?_ ?_)
    rw[Y (by omega)]
    rfl
  ·refine ai ?_;repeat' (intro h<;>simp only[h,go_sem,go_sem_proc,EM,EN,J,X,ec,al,bY]<;>try refine ag ?_ ?_)
def ak8:bJ:=b5 30 2 [.t 4,.t 5] (Q [aP 4 (.ko (.c (.H (.int .u64 0)))),aP 5 (.ko (.c (.H (.int .u64 0))))] (.seq (.cond (.c (.H (.bool false))) (Q [E 11 0,aP 12 (.conv .u32 (.t 11)),E 13 1,aP 14 (.conv .u32 (.t 13)),bI 15 avS 12 14,E 10 15,a0 16 0 10,a0 17 1 10,E 6 16,E 7 17] (Q [E 18 6,aP 19 (.conv .u64 (.t 18)),E 20 7,aP 21 (.conv .u64 (.t 20)),E 4 19,E 5 21] .ret)) .skip) (Q [E 23 0,E 24 1,bI 25 YK 23 24,E 22 25,a0 26 0 22,a0 27 1 22,E 8 26,E 9 27] (Q [E 28 8,E 29 9,E 4 28,E 5 29] .ret))))
def ak9:bJ:=b5 51 2 [.t 4,.t 5] (Q [aP 4 (.ko (.c (.H (.int .u64 0)))),aP 5 (.ko (.c (.H (.int .u64 0))))] (Q [E 14 0,aP 15 (.bin .and (.t 14) (.c (.H (.int .u64 4294967295)))),E 6 15] (Q [E 16 0,aP 17 (.bin .shr (.t 16) (.c (.H (.int .u64 32)))),E 7 17] (Q [E 18 1,aP 19 (.bin .and (.t 18) (.c (.H (.int .u64 4294967295)))),E 8 19] (Q [E 20 1,aP 21 (.bin .shr (.t 20) (.c (.H (.int .u64 32)))),E 9 21] (Q [E 22 6,E 23 8,bp 24 .mul 22 23,E 10 24] (Q [E 25 7,E 26 8,bp 27 .mul 25 26,E 28 10,aP 29 (.bin .shr (.t 28) (.c (.H (.int .u64 32)))),bp 30 .add 27 29,E 11 30] (Q [E 31 11,aP 32 (.bin .and (.t 31) (.c (.H (.int .u64 4294967295)))),E 12 32] (Q [E 33 11,aP 34 (.bin .shr (.t 33) (.c (.H (.int .u64 32)))),E 13 34] (Q [E 35 12,E 36 6,E 37 9,bp 38 .mul 36 37,bp 39 .add 35 38,E 12 39] (Q [E 40 7,E 41 9,bp 42 .mul 40 41,E 43 13,bp 44 .add 42 43,E 45 12,aP 46 (.bin .shr (.t 45) (.c (.H (.int .u64 32)))),bp 47 .add 44 46,E 4 47] (Q [E 48 0,E 49 1,bp 50 .mul 48 49,E 5 50] .ret))))))))))))
def abb:∀y:Nat,y<41->bits .and .u64 (y:Int) 4294967295=y:=by decide
def aAu (y:Nat)(h:y<41):(y:Int).fdiv 4294967296=0:=by
 rw[Int.fdiv_eq_ediv_of_nonneg _ (by omega)];omega
abbrev KB:Nat->List Data:=λ(y:Nat)=>[.int .u64 1,.int .u64 y]
def T9:=bV KB λ(y:Nat)=>cu (y<41) (.same (.dj [.int .u64 0,.int .u64 y]))
def ala:∀a b,KB a=KB b->a=b:=by
  intro nD o5 h;simp only[bj,Data.int.injEq] at h;omega
@[go_sem] def aPG (y):=cH T9 rfl ala y rfl
def aAv (T:ba):WF T ak9 T9:=by
 refine cp λy=>cT λJ=>⟨rfl,ck ?_⟩;simp only[ak9,KB,cd];have F:=abb y J;have G:=aAu y J;have ab:=abb 1 (by omega);have aV:=abb 0 (by omega);have bu:((1:Int)).fdiv 4294967296=0:=by decide
 have bX:((0:Int)).fdiv 4294967296=0:=by decide
 have hw:∀x:Int,0<=x/\x<18446744073709551616->IntKind.u64.wrap x=x:=λx h=>BZ x h;have eB:=hw 0 (by omega);have w1:=hw y (by omega);simp only[Int.natCast_zero,Int.cast_ofNat_Int,Int.natCast_one] at ab aV;refine ai ?_;repeat' (intro (ao:_=_)<;>simp only[ao,go_sem,go_sem_proc,F,G,ab,aV,bu,bX,eB,w1,show ((32:Int)<0)=False from by simp,if_false,show (2:Int)^min (Int.toNat 32) 64=4294967296 from rfl,Int.one_mul,xu,Int.mul_zero,Int.add_zero,JK]<;>try refine ag ?_ ?_)
def Ua:=bV KB λ(y:Nat)=>cu (y<41) (.same (.dj [.int .u64 0,.int .u64 y]))
@[go_sem] def aPH (y):=cH Ua rfl ala y rfl
def aAw (T:ba)(aAx:T YK=aK T9):WF T ak8 Ua:=by
 refine cp λy=>cT λJ=>⟨rfl,ck ?_⟩;simp only[ak8,KB,cd];refine ai ?_;repeat' (intro h<;>simp only[h,go_sem,go_sem_proc,aAx,J]<;>try refine ag ?_ ?_)
def tG {α:Type}{A:List α}{k:Nat}(dX:(D A)=k)(n:Nat):(ef n A).flatten.length=n*k:=by
 rw[List.length_flatten,KC,dX,List.sum_replicate_nat]
def aAy {α:Type}{A:List α}{k:Nat}(dX:(D A)=k){q j:Nat}(h:q<=j):(ef j A).flatten.take (q*k)=(ef q A).flatten:=by
 obtain⟨d,rfl⟩:=alb h;rw[<-abc,Ub,EO (by rw[tG dX];omega),dD (by rw[tG dX];omega)]
def aAz {α:Type}{A:List α}{k:Nat}(dX:(D A)=k){q j:Nat}(h:q<=j):(ef j A).flatten.drop (q*k)=(ef (j-q) A).flatten:=by
 obtain⟨d,rfl⟩:=alb h;rw[<-abc,Ub,qq,lM (by rw[tG dX];omega),tG dX,j0,o0,jE,Jh]
def Hz:List M:=[.H (.int .i64 0),.nil,.H (.int .i64 0),.nil]
def rC (A:List M)(N j:Nat):List M:=(ef j A).flatten++(ef (N-j) Hz).flatten
def alc {A:List M}(dX:(D A)=4){N j:Nat}(h:j<=N):(rC A N j).length=N*4:=by
 unfold rC;rw[gC,tG dX,tG (show (D Hz)=4 from rfl)];omega
def ald {A:List M}(dX:(D A)=4){N j q:Nat}(h:j+q<=N):(rC A N j).take (j*4)++(ef q A).flatten++(rC A N j).drop (j*4+q*4)=rC A N (j+q):=by
 unfold rC;rw[EO (by rw[tG dX];omega),dD (by rw[tG dX];omega),qq,lM (by rw[tG dX];omega),tG dX,Jh,aAz (show (D Hz)=4 from rfl) (by omega),jE,<-abc (n:=j),Ub,Nat.sub_sub]
def aAA {A:List M}(dX:(D A)=4){N j:Nat}:(rC A N j).take (j*4)=(ef j A).flatten:=by
 unfold rC;rw[EO (by rw[tG dX];omega),dD (by rw[tG dX];omega)]
def ale {A:List M}(h:A.all M.one=true)(q:Nat):(ef q A).flatten.all M.one=true:=by
 induction q with
 |zero=>rfl
 |succ n aG=>rw[um,l8,KD,h,aG];rfl
def aAB (f:bz)(N:Nat):rC ((az f).map .H) N N=aU az (ef N f):=by
 unfold rC aU;rw[j0,KC];simp only[List.replicate_zero,List.flatten_nil,hD]
 induction N with
 |zero=>rfl
 |succ n aG=>rw[um,l8,um,l8,kE,aG]
def aAC {A:List M}(dX:(D A)=4)(F:A.all M.one=true)(N:Nat):Du 131030 0 4 0 N 1 A (some (0,(ef N Hz).flatten))=some (.H (.int .i64 ((min 1 N:Nat):Int)),some (131030,0,rC A N (min 1 N))):=by
 unfold Du;dsimp only;rw[Y ⟨rfl,by rw[tG (show (D Hz)=4 from rfl)];omega,F⟩]
 have ay:(ef N Hz).flatten=rC A N 0:=by simp[rC]
 have b0:A.take (min 1 N*4)=(ef (min 1 N) A).flatten:=by
  rcases kO N with h|h
  ·subst h;simp
  ·rw[show min 1 N=1 by omega];simp[dD (AJ dX)]
 have:=ald dX (N:=N) (j:=0) (q:=min 1 N) (by omega);rw[ay,b0];unfold lo;rw[tG dX];simp only[Nat.zero_mul,q4] at this ⊢;rw[this]
def aAD {A:List M}(dX:(D A)=4)(F:A.all M.one=true){N j:Nat}(h:j<N):Du 131030 0 4 (j*4) (N-j) j (ef j A).flatten (some (0,rC A N j))=some (.H (.int .i64 ((min j (N-j):Nat):Int)),some (131030,0,rC A N (j+min j (N-j)))):=by
 unfold Du;dsimp only;rw[Y ⟨rfl,by rw[alc dX (by omega)];omega,ale F j⟩]
 rw[aAy dX (show min j (N-j)<=j by omega)];have:=ald dX (N:=N) (j:=j) (q:=min j (N-j)) (by omega);unfold lo;rw[tG dX,this]
abbrev Uc:Int×(List Int)×Int×(List Int)×Nat->List Data:=λ(s,l,s2,aw,N)=>[.ax [[.int .i64 s,.ax (l.map aI),.int .i64 s2,.ax (aw.map aI)]],.int .i64 N]
def Ud:=bV Uc λ(s,l,s2,aw,N)=>cu (N<41) (.own 4 (ef N (az ((s,l),(s2,aw)))))
def aAE:∀a b,Uc a=Uc b->a=b:=by
  rintro⟨s1,eN,Ec,Ed,aPI⟩ ⟨s2,aw,Ee,Ef,aPJ⟩ h;simp only[bj,Data.int.injEq,Data.ax.injEq] at h;exact et h.1.1.1.2 (et (map_inj gq _ _ h.1.1.2.1) (et h.1.1.2.2.1.2 (et (map_inj gq _ _ h.1.1.2.2.2.1) (by have:=h.2.1.2;dsimp only;omega))))
@[go_sem] def aAF (s l s2 aw N):=cH Ud rfl aAE (s,l,s2,aw,N) rfl
def aAG (T:ba)(HA:T YG=aK Ua):WF T ahm Ud:=by
 refine cp λ(s,l,s2,aw,N)=>cT λJ=>⟨rfl,ck ?_⟩;simp only[ahm,Uc,cd];have ay:decide ((N:Int)<0)=false:=b7;have hw:IntKind.u64.wrap (N:Int)=N:=BZ _ ⟨by omega,by omega⟩
 have af2:IntKind.i64.wrap (N:Int)=N:=wrap64 _ (by omega) (by omega);have sk:IntKind.u64.wrap ((1:Nat):Int)=1:=by decide
 have bb:decide ((N:Int)>9223372036854775807)=false:=b7;have EP:(64*N<=140737488355328)=True:=eq_true (by omega);have xG:(N<=maxLen)=True:=eq_true (by unfold maxLen;omega);have dX:((az ((s,l),(s2,aw))).map M.H).length=4:=rfl;have wo:((az ((s,l),(s2,aw))).map M.H).all M.one=true:=rfl;have Dz:=aAC dX wo N;have pH:=λj (h:j<N)=>aAD dX wo h;have Pn:(az ((s,l),(s2,aw))).map M.H=[.H (.int .i64 s),.H (.ax (l.map aI)),.H (.int .i64 s2),.H (.ax (aw.map aI))]:=rfl;simp only[Hz] at Dz;rw[Pn] at Dz;simp only[go_sem,go_sem_proc,HA] at Dz;simp only[go_sem,go_sem_proc,HA,ay,hw,af2,sk,J,bb,EP,xG,show decide ((0:Int)>0)=false from rfl,Dz];rw[Pn] at dX wo;have jT:=aAB ((s,l),(s2,aw)) N;rw[Pn] at jT;simp only[Pn] at pH;clear Pn Dz;generalize [M.H (.int .i64 s),.H (.ax (l.map aI)),.H (.int .i64 s2),.H (.ax (aw.map aI))]=A at *;refine dd [7] [] (λ(j:Nat) tm m=>j<=N/\(0<N->0<j)/\tm 8=.H (.int .i64 j)/\m 131030=some (0,rC A N j)) (λj=>N-j) (min 1 N) (by refine⟨by omega,by omega,rfl,?_⟩;simp[a5]) ?_;intro vs ms aQ aM;simp only[go_sem,go_sem_proc,HA] at aQ aM;subst aQ aM;rintro j tm m I hm ⟨alf,aAH,cS,abd⟩;simp only[go_sem,go_sem_proc,HA,bj] at I hm;have b9:=I;rcases dn (j<N) with ah|bW
 ·have mb:decide ((j:Int)<(N:Int))=true:=cX;have aL:=pH j ah;have gj:=aAA dX (N:=N) (j:=j);have hlen:(j*4<=(rC A N j).length)=True:=eq_true (by rw[alc dX alf];omega);have aAI:(j<=N)=True:=eq_true alf;have ea:=ale wo j;simp only[go_sem,go_sem_proc,HA,ea,wo,gj] at aL;have ih:IntKind.i64.wrap ((j:Int)+((min j (N-j):Nat):Int))=((j+min j (N-j):Nat):Int):=by rw[eY _];omega
  refine ai ?_;repeat' (intro (ao:_=_)<;>simp only[ao,go_sem,go_sem_proc,HA,b9,cS,abd,mb,gj,hlen,aAI,ea,aL,ih,cl,alg,fL]<;>try refine ag ?_ ?_)
  exact⟨j+min j (N-j),by have:=aAH (by omega);omega,by omega,by omega,rfl,rfl⟩
 ·have mb:decide ((j:Int)<(N:Int))=false:=b7;obtain rfl:j=N:=by omega
  rw[jT] at abd;have Co:=jS jj (ef j ((s,l),(s2,aw)));rw[xH] at Co;refine ai ?_;repeat' (intro (ao:_=_)<;>simp only[ao,go_sem,go_sem_proc,HA,b9,cS,abd,mb,ri,Co]<;>try refine ag ?_ ?_)
  rw[Y (cl _),dD (by omega)];unfold aU;rw[w8 _ λd=>rfl];have:=BQ (sz:=4) ((ef j ((s,l),(s2,aw))).map az) (by intro e he;obtain⟨f,-,rfl⟩:=gm.1 he;rfl);rw[al,xH] at this;rw[ks,this,KC]
def Ue:bz:=((0,[]),(1,[1]))
def abe:bz:=((1,[1]),(1,[1]))
def alh:av 0=Ue:=by
 unfold av bl Ue;simp[Gk,uB]
def aAJ:av 1=abe:=by
 unfold av bl abe;simp[Gk]
def Po (rows:List dz)(f N i:Nat):List bz:=(eM N).map λk=>if k<i then (l0 Ue (cellOf (rowAt rows k) f)).1 else if k=f then abe else Ue
def aAK (rows:List dz)(f N i:Nat):(Po rows f N i).length=N:=by simp[Po]
def abf (rs:List cI)(n:Int):List bz×Bool :=
 if j7 rs n=true then (if ((pg true rs).2.2||(pg true rs).2.1.length==0)=true then ([],false) else (Po (pg true rs).1 ((pg true rs).2.1.headD 0) (D rs) ((pg true rs).2.1.headD 0),true)) else ([],false)

def Uf:=bV Ay λ(rs,n)=>cu (uQ rs) (.same (.bool (j7 rs n)))
@[go_sem] def aPK (rs n):=cH Uf rfl Ty (rs,n) rfl
def aAL (T:ba)(gO:T qw=aK CH):WF T ako Uf:=by
 refine cp λ(rs,n)=>cT λJ=>⟨rfl,ck ?_⟩;simp only[ako,Ay,cd];rcases F:decide (n<0)
 case true =>
  have X:j7 rs n=false:=by unfold j7;rw[F];rfl
  rw[X];refine ai ?_;repeat' (intro (ao:_=_)<;>simp only[ao,go_sem,go_sem_proc,gO,F,al]<;>try refine ag ?_ ?_)
 rcases G:decide (n>40)
 case true =>
  have X:j7 rs n=false:=by unfold j7;rw[F,G];rfl
  rw[X];refine ai ?_;repeat' (intro (ao:_=_)<;>simp only[ao,go_sem,go_sem_proc,gO,F,G,al]<;>try refine ag ?_ ?_)
 rcases ab:((D rs:Int)==n)
 case false =>
  have X:j7 rs n=false:=by unfold j7;rw[F,G,ab];rfl
  rw[X];refine ai ?_;repeat' (intro (ao:_=_)<;>simp only[ao,go_sem,go_sem_proc,gO,F,G,ab,al,cA,bne]<;>try refine ag ?_ ?_)
 have aL:n=D rs:=(beq_iff_eq.1 ab).symm;have jf:j7 rs n = !(rs.any (oc n)):=by unfold j7;rw[F,G,ab];rfl
 have fA:(D rs)<=40:=by have:=of_decide_eq_false G;omega
 rw[jf];simp only[go_sem,go_sem_proc,gO,F,G,ab,al,b3,bne];refine dd [0,1] [] (λ(i:Nat) tm mem=>i<=D rs/\(∀r∈rs.take i,oc n r=false)/\tm 5=.H (.int .i64 i)) (λi=>D rs-i) 0 (by refine⟨fL _,by simp,rfl⟩) ?_;intro vs ms aQ aM;simp only[go_sem,go_sem_proc,gO,al] at aQ aM;subst aQ aM;rintro i tm mem I-⟨O,ea,bu⟩;simp only[go_sem,go_sem_proc,gO,bj] at I;obtain⟨ay,ql⟩:=I;rcases dn (i<D rs) with ah|bW
 ·obtain⟨⟨A,⟨a,b⟩,⟨c,e⟩⟩,L⟩:∃f,rs[i]?=some f:=⟨_,bh ah⟩;obtain⟨⟨tD,qR⟩,wj,m3⟩:=J.2 _ (dy L);dsimp only at tD qR wj m3;have d1:decide ((i:Int)<n)=true:=cX;have bF:=eI (i:=i) (by omega)
  have B9:oc n (A,((a,b),(c,e)))=true->(!(rs.any (oc n)))=false:=λh=>by
   rw[ali.2 ⟨_,dy L,h⟩];rfl
  rcases aq:((D A:Int)==n)
  ·rw[B9 (by unfold oc;rw[aq];rfl)];refine ai ?_;repeat' (intro (ao:_=_)<;>simp only[ao,go_sem,go_sem_proc,gO,ay,ql,bu,d1,L,aq,dQ,az,al,bm,cA,bne]<;>try refine ag ?_ ?_)
  rcases aN:dM ((a,b),(c,e))
  ·rw[B9 (by unfold oc;rw[aq,aN];rfl)];refine ai ?_;repeat' (intro (ao:_=_)<;>simp only[ao,go_sem,go_sem_proc,gO,ay,ql,bu,d1,L,aq,aN,wj,m3,dQ,az,al,bm,cA,b3,bne]<;>try refine ag ?_ ?_)
  have AK:(D A:Int)=n:=beq_iff_eq.1 aq;simp only[go_sem,go_sem_proc,gO,ay,ql,bu,d1,L,aq,aN,wj,m3,dQ,az,al,bm,cA,b3,bne];refine dd [0,1,5] [] (λ(k:Nat) tm mem=>k<=D A/\(∀f∈A.take k,Cz f=false)/\tm 6=.H (.int .i64 k)) (λk=>D A-k) 0 (by refine⟨fL _,by simp,rfl⟩) ?_;intro vs ms aQ aM;simp only[go_sem,go_sem_proc,gO,ay,ql,bu] at aQ aM;subst aQ aM;rintro k tm' mem' I-⟨uv,abg,bX⟩;simp only[go_sem,go_sem_proc,gO,bj] at I;obtain⟨eU,cy,jb⟩:=I;rcases dn (k<D A) with aaT|azQ
  ·obtain⟨⟨⟨u,v⟩,⟨x,y⟩⟩,aj⟩:∃f,A[k]?=some f:=⟨_,bh aaT⟩;obtain⟨qJ,qK⟩:=qR _ (dy aj);dsimp only at qJ qK;have d2:decide ((k:Int)<n)=true:=cX;have jN:=eI (i:=k) (by omega);rcases aH:dM ((u,v),(x,y))
   ·rw[B9 (by unfold oc;rw[aq,aN,ali.2 ⟨_,dy aj,by unfold Cz;rw[aH];rfl⟩];rfl)];refine ai ?_;repeat' (intro (ao:_=_)<;>simp only[ao,go_sem,go_sem_proc,gO,eU,cy,jb,bX,d2,L,aj,aH,qJ,qK,dQ,az,al,bm,cA]<;>try refine ag ?_ ?_)
   ·simp only[go_sem,go_sem_proc,gO,eU,cy,jb,bX,d2,L,aj,aH,qJ,qK,jN,dQ,az,al,bm,b3];exact⟨k+1,by omega,by omega,J8 abg aj (by unfold Cz;rw[aH];rfl),rfl⟩
  ·have d2:decide ((k:Int)<n)=false:=b7;rw[dD (by omega)] at abg;simp only[go_sem,go_sem_proc,gO,eU,cy,jb,bX,d2,bF];exact⟨i+1,by omega,by omega,J8 ea L (by unfold oc;rw[aq,aN,EL.2 λf aH=>by rw[abg f aH];simp];rfl),rfl⟩
 ·obtain rfl:i=D rs:=by omega
  have d1:decide ((D rs:Int)<n)=false:=b7;rw[dD (by omega)] at ea;have:rs.any (oc n)=false:=EL.2 λr X=>by rw[ea r X];simp
  rw[this];simp only[go_sem,go_sem_proc,gO,ay,ql,bu,d1,cA]
def j9 (a fH b:bz):bz×Int:=if ((jx fH b).2==0)=true then l0 a (jx fH b).1 else (cW,(jx fH b).2)
abbrev Ug:bz×bz×bz->List Data:=λ(a,f,b)=>[.agg (az a),.agg (az f),.agg (az b)]
def Uh:=bV Ug λ(a,f,b)=>cu (okF a/\okF f/\okF b) (.same (dT (j9 a f b)))
def aAM:∀a b,Ug a=Ug b->a=b:=by
  rintro⟨cz,f1,cQ⟩ ⟨cY,f2,dN⟩ h;simp only[bj,Data.agg.injEq] at h;exact et (pS _ _ h.1) (et (pS _ _ h.2.1) (pS _ _ h.2.2.1))
@[go_sem] def alj (a f b):=cH Uh rfl aAM (a,f,b) rfl
def aAN (T:ba)(rD:T DT=aK EA)(oL:T yB=aK CK):WF T aks Uh:=by
 refine cp λ(a,f,b)=>cT λJ=>⟨rfl,ck ?_⟩;simp only[aks,Ug,cd];obtain⟨⟨cz,cY⟩,⟨f1,f2⟩,⟨cQ,dN⟩⟩:=J;obtain⟨⟨s,l⟩,⟨s2,aw⟩⟩:=a;obtain⟨⟨t,m⟩,⟨t2,bU⟩⟩:=f;obtain⟨⟨u,k⟩,⟨hY,dw⟩⟩:=b;dsimp only at cz cY f1 f2 cQ dN;have bw:=akB ((t,m),(t2,bU)) ((u,k),(hY,dw));unfold j9;rcases gE:jx ((t,m),(t2,bU)) ((u,k),(hY,dw)) with ⟨⟨⟨hk,hQ⟩,⟨kD,lf⟩⟩,CV⟩;rw[gE] at bw;obtain⟨qJ,qK⟩:=bw;dsimp only at qJ qK;rcases aE:(CV==0)
 ·simp only[go_sem,go_sem_proc,rD,oL,gE,cz,cY,f1,f2,cQ,dN,aE,az,dT,cW,bY,cA,bne]
 ·simp only[go_sem,go_sem_proc,rD,oL,gE,cz,cY,f1,f2,cQ,dN,qJ,qK,aE,az,dT,b3,bne]
def aAO {k bs i:Nat}{l:List cI}{a b c d e:M}(h:(D l)=i)(O:i<=1000)(bw:[a,b,c,d,e].all M.one=true):lL k bs 5 i 88 1 [a,b,c,d,e] (some (bs,aU dQ l))=some (.ref k (bs+1) 5 0 (i+1),some (k,bs+1,aU dQ l++[a,b,c,d,e])):=by
 unfold lL;dsimp only;rw[Y ⟨rfl,by rw[jS ry];omega,by omega,by unfold maxLen;omega,bw⟩,dD (by rw[jS ry];omega)]
def aAP {l:List cI}{i:Nat}(h:(D l)=i)(x:M)(A:List bz)(a:Int)(b:List Int)(c:Int)(d:List Int):
  (aU dQ l++[x,.H (.int .i64 a),.H (.ax (b.map aI)),.H (.int .i64 c),.H (.ax (d.map aI))]).set (i*5) (.H (.ax (A.map az)))=aU dQ (l++[(A,((a,b),(c,d)))]):=by
 have aq:(aU dQ l).length=i*5:=by rw[jS ry,h]
 rw[y1 _ _ (by omega),aq,j0,lB];unfold aU;rw[kE,Ub,kE]
 rfl
abbrev Ui:List cI->List Data:=λ(rs:List cI)=>[.ax (rs.map dQ)]
def Uj:=bV Ui λ(rs:List cI)=>cu (D rs<=1000/\uQ rs) (.own 5 (rs.map dQ))
def aAQ:∀a b,Ui a=Ui b->a=b:=by
  intro Tu Tv h;exact map_inj Ev _ _ (by simpa using h)
@[go_sem] def aAR (rs):=cH Uj rfl aAQ rs rfl
def aAS (T:ba):WF T akp Uj:=by
 refine cp λrs=>cT λJ=>⟨rfl,ck ?_⟩;simp only[akp,Ui,cd];obtain⟨fA,J⟩:=J;simp only[go_sem,go_sem_proc,al];refine dd [0] [] (λ((i,g):Nat×Nat) tm mem=>i<=D rs/\tm 4=.H (.int .i64 i)/\tm 3=.ref 199026 g 5 0 i/\mem 199026=some (g,aU dQ (rs.take i))) (λ(i,_)=>D rs-i) (0,0) (by refine⟨fL _,rfl,rfl,rfl⟩) ?_;intro vs ms aQ aM;simp only[go_sem,go_sem_proc,al] at aQ aM;subst aQ aM;rintro⟨i,g⟩ tm mem I-⟨O,aV,ab,Pp⟩;simp only[go_sem,go_sem_proc,bj] at I;have ay:=I;rcases dn (i<D rs) with ah|bW
 ·obtain⟨⟨A,⟨a,b⟩,⟨c,e⟩⟩,L⟩:∃f,rs[i]?=some f:=⟨_,bh ah⟩;obtain⟨⟨tD,qR⟩,wj,m3⟩:=J.2 _ (dy L);dsimp only at tD qR wj m3;have d1:decide ((i:Int)<(D rs:Int))=true:=cX;have bF:=eI (i:=i) (by omega);have mK:(rs.take i).length=i:=by rw[gP];omega
  have c9:∀bs,lL 199012 bs 4 0 64 (D A) ((A.map az).flatten.map .H) (some (bs,[]))=some (.ref 199012 (bs+1) 4 0 (D A),some (199012,bs+1,aU az A)):=λbs=>by
   have:=BP jj v8 199012 bs 64 [] A (by simp;omega) (by simp;omega)
   simpa [aU] using this
  have pG:=Pb A;have aAT:=λ(x:M) (L:M.one x=true)=>aAO (k:=199026) (bs:=g) (a:=x) (b:=.H (.int .i64 a)) (c:=.H (.ax (b.map aI))) (d:=.H (.int .i64 c)) (e:=.H (.ax (e.map aI))) mK (by omega) (by simp only[vx,L];rfl);have aAU:=λ(bs n:Nat)=>aAT (.ref 199012 bs 4 0 n) rfl;simp only[go_sem,go_sem_proc,ay,ab,aV,Pp,L,d1,c9,pG,aAU,dQ,az,al,bm];have abh:(aU dQ (rs.take i)).length=i*5:=by rw[jS ry,mK]
  refine avm 199026 (i*5) 199012 (g:=gk (mem 199012)+1) (sz:=4) (off:=0) (len:=D A) (cs:=aU az A) (d:=.ax (A.map az)) (by simp only[a5];rfl) (by rw[ov (by omega),abh,j0];rfl) (by simp[a5]) (Jf _ _) (by decide) ?_ ?_
  ·exact k6 (n:=0) jj (by simp[a5])
  ·have I2:=aAP mK (.ref 199012 (gk (mem 199012)+1) 4 0 (D A)) A a b c e;have Pl:rs.take i++[(A,((a,b),(c,e)))]=rs.take (i+1):=by rw[hZ,L];rfl
   rw[I2,Pl];simp only[go_sem,go_sem_proc,ay,ab,aV,Pp,bF];exact⟨(i+1,g+1),by dsimp only;omega,by dsimp only;omega,rfl,rfl,rfl⟩
 ·obtain rfl:i=D rs:=by omega
  have d1:decide ((D rs:Int)<(D rs:Int))=false:=b7;rw[pb] at Pp;have hlen:(aU dQ rs).length=D rs*5:=jS ry rs;simp only[go_sem,go_sem_proc,ay,ab,aV,Pp,d1,al];unfold ri;dsimp only;rw[Pp];simp only[and_self,if_true];rw[Y ⟨trivial,by omega⟩,dD (by omega)]
  unfold aU;rw[w8 _ λd=>rfl];have:=BQ (sz:=5) (rs.map dQ) (by intro x L;obtain⟨f,-,rfl⟩:=gm.1 L;rfl);rw[al] at this;simp[this]
def nM {α:Type}(op:α->bz×Int)(e:α->bz):List α->List bz×Bool
 | []=>([],true)
 |a::r=>if ((op a).2==0)=true then ((op a).1::(nM op e r).1,(nM op e r).2) else ((a::r).map e,false)
section
variable {α:Type} {op:α->bz×Int} {e:α->bz}
def Uk:∀{l:List α},(∀a∈l,(op a).2=0)->nM op e l=(l.map λa=>(op a).1,true)
 | [],_=>rfl
 |a::r,h=>by
  unfold nM;rw[Y (by rw[h a g1];rfl),Uk λb ad=>h b (iG _ ad)]
  rfl
def abi:∀{l:List α} {k:Nat} {a:α},(∀a∈l.take k,(op a).2=0)->l[k]?=some a->((op a).2==0)=false->nM op e l=((l.take k).map (λa=>(op a).1)++(l.drop k).map e,false)
 | [],k,a,_,h,_=>by simp at h
 |b::r,0,a,_,h,aH=>by
  simp only[F9,cF] at h;subst h;unfold nM;rw[aH];simp
 |b::r,k+1,a,h,L,aH=>by
  have:=abi (l:=r) (k:=k) (λc J=>h c (by rw[Dx];exact iG _ J)) (by simpa using L) aH;unfold nM;rw[Y (by rw[h b (by rw[Dx];exact g1)];rfl),this];simp
def alk {l:List α}{k:Nat}{a:α}(h:l[k]?=some a):((l.take k).map (λa=>(op a).1)++(l.drop k).map e).set k (op a).1=(l.take (k+1)).map (λa=>(op a).1)++(l.drop (k+1)).map e:=by
 obtain⟨ah,L⟩:=dV.1 h;have aq:((l.take k).map λa=>(op a).1).length=k:=by rw[al,gP];omega
 rw[y1 _ _ (by omega),aq,j0,je ah,eE,lB,hZ,h,kE,g8]
 rfl
def alm {l:List α}{k:Nat}:((l.take k).map (λa=>(op a).1)++(l.drop k).map e).length=D l:=by
 rw[gC,al,al,gP,oz];omega
end
def ka (x:cI)(c:Nat):cI×Bool :=
 if (nM (λa=>gn a (x.1.getD c cW)) id x.1).2=true then (((nM (λa=>gn a (x.1.getD c cW)) id x.1).1,(gn x.2 (x.1.getD c cW)).1),(gn x.2 (x.1.getD c cW)).2==0)
 else (((nM (λa=>gn a (x.1.getD c cW)) id x.1).1,cW),false)
abbrev Ul:cI×Nat->List Data:=λ(x,c)=>[.agg (dQ x),.int .i64 (x.1.length:Nat),.int .i64 c]
def Um:=bV Ul λ(x,c)=>cu (pT x/\x.1.length<=1000/\c<x.1.length) (.same (.dj [.agg (dQ (ka x c).1),.bool (ka x c).2]))
def aAV:∀a b,Ul a=Ul b->a=b:=by
  rintro⟨fx,ar⟩ ⟨fe,c2⟩ h;simp only[bj,Data.agg.injEq,Data.int.injEq] at h;exact et (Ev _ _ h.1) (by have:=h.2.2.1.2;dsimp only;omega)
@[go_sem] def aAW (x c):=cH Um rfl aAV (x,c) rfl
def aAX (T:ba)(rE:T Js=aK Kn):WF T akq Um:=by
 refine cp λ(x,c)=>cT λJ=>⟨rfl,ck ?_⟩;simp only[akq,Ul,cd];obtain⟨⟨⟨-,qR⟩,wj,m3⟩,fA,uY⟩:=J;obtain⟨A,⟨v1,v2⟩,⟨jy,v4⟩⟩:=x;dsimp only at qR wj m3 fA uY ⊢;obtain⟨⟨⟨cQ,dN⟩,⟨gy,g3⟩⟩,ad⟩:∃f,A[c]?=some f:=⟨_,bh uY⟩;obtain⟨Un,Uo⟩:=qR _ (dy ad);dsimp only at Un Uo;have xI:A.getD c cW=((cQ,dN),(gy,g3)):=by rw[eD,ad];rfl
 unfold ka;dsimp only;rw[xI]
 have c9:lL 200020 0 4 0 64 (D A) ((A.map az).flatten.map .H) (some (0,[]))=some (.ref 200020 1 4 0 (D A),some (200020,1,aU az A)):=by
  have:=BP jj v8 200020 0 64 [] A (by simp;omega) (by simp;omega)
  simpa [aU] using this
 have pG:=Pb A
 have ky:∀(c7:List bz),D c7=(D A)->∀n (m:Mem),m 200020=some (1,aU az c7)->cV (n+1) m (.ref 200020 1 4 0 (D A))=some (.ax (c7.map az)):=λc7 fO n m hm=>by
  have:=k6 (n:=n) jj hm;rw[fO] at this;exact this
 simp only[go_sem,go_sem_proc,rE,ad,uY,c9,pG,dQ,az,aI,al,bm];refine dd [1,3,6,8,9] [200003,200006,200008,200009] (λ(k:Nat) tm mem=>k<=D A/\(∀a∈A.take k,(gn a ((cQ,dN),(gy,g3))).2=0)/\tm 10=.H (.int .i64 k)/\mem 200020=some (1,aU az ((A.take k).map (λa=>(gn a ((cQ,dN),(gy,g3))).1)++(A.drop k).map id))) (λk=>D A-k) 0 (by refine⟨fL _,by simp,rfl,?_⟩;simp[a5]) ?_;intro vs ms aQ aM;simp only[go_sem,go_sem_proc,rE,dQ,az] at aQ aM;subst aQ aM;rintro k tm mem I hm ⟨aAY,ea,du,HB⟩;simp only[go_sem,go_sem_proc,rE,bj] at I hm;obtain⟨F,ab,bX,cS,eP⟩:=I;obtain⟨iA,ho,tt,Pq⟩:=hm;rcases dn (k<D A) with ah|bW
 ·obtain⟨⟨⟨cz,cY⟩,⟨eA,eQ⟩⟩,L⟩:∃f,A[k]?=some f:=⟨_,bh ah⟩;obtain⟨qJ,qK⟩:=qR _ (dy L);dsimp only at qJ qK;have d1:decide ((k:Int)<(D A:Int))=true:=cX;have bF:=eI (i:=k) (by omega);rcases gE:gn ((cz,cY),(eA,eQ)) ((cQ,dN),(gy,g3)) with ⟨⟨⟨hk,hQ⟩,⟨kD,lf⟩⟩,CV⟩;have fO:=alm (op:=λa=>gn a ((cQ,dN),(gy,g3))) (e:=id) (l:=A) (k:=k);rcases aE:(CV==0)
  ·have hu:=abi (op:=λa=>gn a ((cQ,dN),(gy,g3))) (e:=id) ea L (by rw[gE];exact aE);rw[hu];simp only[go_sem,go_sem_proc,rE,F,ab,bX,cS,eP,du,iA,ho,tt,Pq,HB,d1,L,qJ,qK,Un,Uo,gE,aE,dQ,az,dT,cW,bY,al,bm,cA,bne];rw[ky _ fO 3 _ (by simp[a5,HB])]
   rfl
  ·have mn:CV=0:=beq_iff_eq.1 aE;subst mn;have lC:=alk (op:=λa=>gn a ((cQ,dN),(gy,g3))) (e:=id) L;rw[gE] at lC;have h3:k<((A.take k).map (λa=>(gn a ((cQ,dN),(gy,g3))).1)++(A.drop k).map id).length:=by rw[fO];exact ah
   have da:=Hr h3 hk hQ kD lf;rw[lC] at da;have AK:=AF h3;simp only[go_sem,go_sem_proc,rE,F,ab,bX,cS,eP,du,iA,ho,tt,Pq,HB,d1,bF,ah,L,qJ,qK,Un,Uo,gE,da,AK,dQ,az,dT,al,bm,beq_self_eq_true,b3,bne]
   exact⟨k+1,by omega,by omega,λa aZ=>by
    rw[hZ,L,jH] at aZ;rcases aZ with aZ|aZ
    ·exact ea a aZ
    ·simp at aZ;rw[aZ,gE],rfl,rfl⟩
 ·obtain rfl:k=D A:=by omega
  have d1:decide ((D A:Int)<(D A:Int))=false:=b7;rw[pb] at ea HB;have hu:=Uk (op:=λa=>gn a ((cQ,dN),(gy,g3))) (e:=id) ea;rw[hu];rw[List.drop_length,bY,hD] at HB;rcases gE:gn ((v1,v2),(jy,v4)) ((cQ,dN),(gy,g3)) with ⟨⟨⟨hk,hQ⟩,⟨kD,lf⟩⟩,CV⟩;simp only[go_sem,go_sem_proc,rE,F,ab,bX,cS,eP,du,iA,ho,tt,Pq,HB,d1,wj,m3,Un,Uo,gE,dQ,az,dT,al];rw[ky (A.map λa=>(gn a ((cQ,dN),(gy,g3))).1) (by simp) 3 _ (by simp[a5,HB])]
  rfl
def rF (x y:cI)(c:Nat):cI×Bool :=
 if (nM (λa:bz×bz=>j9 a.1 (x.1.getD c cW) a.2) pR (x.1.zip y.1)).2=true then (((nM (λa:bz×bz=>j9 a.1 (x.1.getD c cW) a.2) pR (x.1.zip y.1)).1,(j9 x.2 (x.1.getD c cW) y.2).1),(j9 x.2 (x.1.getD c cW) y.2).2==0)
 else (((nM (λa:bz×bz=>j9 a.1 (x.1.getD c cW) a.2) pR (x.1.zip y.1)).1,cW),false)
def aln (a f b:bz):okF (j9 a f b).1:=by
 unfold j9
 split
 ·exact aaI _ _
 ·exact su
def aAZ {l m:List bz}(h:(D l)=D m):(l.zip m).map pR=l:=by
 rw[List.map_fst_zip (by omega)]
abbrev Up:cI×cI×Nat->List Data:=λ(x,y,c)=>[.agg (dQ x),.agg (dQ y),.int .i64 (x.1.length:Nat),.int .i64 c]
def Pr:=bV Up λ(x,y,c)=>cu (pT x/\pT y/\x.1.length<=1000/\y.1.length=x.1.length/\c<x.1.length) (.same (.dj [.agg (dQ (rF x y c).1),.bool (rF x y c).2]))
def aA0:∀a b,Up a=Up b->a=b:=by
  rintro⟨fx,nD,ar⟩ ⟨fe,o5,c2⟩ h;simp only[bj,Data.agg.injEq,Data.int.injEq] at h;exact et (Ev _ _ h.1) (et (Ev _ _ h.2.1) (by have:=h.2.2.2.1.2;dsimp only;omega))
@[go_sem] def aA1 (x y c):=cH Pr rfl aA0 (x,y,c) rfl
def aA2 (T:ba)(KE:T Sr=aK Uh):WF T akr Pr:=by
 refine cp λ(x,y,c)=>cT λJ=>⟨rfl,ck ?_⟩;simp only[akr,Up,cd];obtain⟨⟨⟨-,qR⟩,wj,m3⟩,⟨⟨-,alo⟩,alp,alq⟩,fA,Uq,uY⟩:=J;obtain⟨A,⟨v1,v2⟩,⟨jy,v4⟩⟩:=x;obtain⟨B,⟨lP,hY⟩,⟨EG,Hu⟩⟩:=y;dsimp only at qR wj m3 alo alp alq fA Uq uY ⊢;obtain⟨⟨⟨cQ,dN⟩,⟨gy,g3⟩⟩,ad⟩:∃f,A[c]?=some f:=⟨_,bh uY⟩;have alr:=qR _ (dy ad);have xI:A.getD c cW=((cQ,dN),(gy,g3)):=by rw[eD,ad];rfl
 unfold rF;dsimp only;rw[xI];have als:(A.zip B).length=D A:=by rw[alu];omega
 have c9:lL 201022 0 4 0 64 (D A) ((A.map az).flatten.map .H) (some (0,[]))=some (.ref 201022 1 4 0 (D A),some (201022,1,aU az A)):=by
  have:=BP jj v8 201022 0 64 [] A (by simp;omega) (by simp;omega)
  simpa [aU] using this
 have pG:=Pb A
 have ky:∀(c7:List bz),D c7=(D A)->∀n (m:Mem),m 201022=some (1,aU az c7)->cV (n+1) m (.ref 201022 1 4 0 (D A))=some (.ax (c7.map az)):=λc7 fO n m hm=>by
  have:=k6 (n:=n) jj hm;rw[fO] at this;exact this
 simp only[go_sem,go_sem_proc,KE,ad,uY,c9,pG,dQ,az,aI,al,bm];refine dd [2,4,5,8,10,11] [201004,201005,201008,201010,201011] (λ(k:Nat) tm mem=>k<=D A/\(∀a∈(A.zip B).take k,(j9 a.1 ((cQ,dN),(gy,g3)) a.2).2=0)/\tm 12=.H (.int .i64 k)/\mem 201022=some (1,aU az (((A.zip B).take k).map (λa=>(j9 a.1 ((cQ,dN),(gy,g3)) a.2).1)++((A.zip B).drop k).map pR))) (λk=>D A-k) 0 (by refine⟨fL _,by simp,rfl,?_⟩;simp only[List.take_zero,o0,bY,jE,aAZ Uq.symm];simp[a5]) ?_;intro vs ms aQ aM;simp only[go_sem,go_sem_proc,KE,dQ,az] at aQ aM;subst aQ aM;rintro k tm mem I hm ⟨aAY,ea,eu,wa⟩;simp only[go_sem,go_sem_proc,KE,bj] at I hm;obtain⟨G,aV,bu,cS,du,gL⟩:=I;obtain⟨fE,Cw,tt,zd,abj⟩:=hm;rcases dn (k<D A) with ah|bW
 ·obtain⟨⟨⟨cz,cY⟩,⟨eA,eQ⟩⟩,L⟩:∃f,A[k]?=some f:=⟨_,bh ah⟩;obtain⟨⟨⟨ar,c2⟩,⟨c3,c4⟩⟩,aj⟩:∃f,B[k]?=some f:=⟨_,bh (by omega)⟩;have aA3:=qR _ (dy L);have aA4:=alo _ (dy aj);have a2:(A.zip B)[k]?=some (((cz,cY),(eA,eQ)),((ar,c2),(c3,c4))):=by rw[List.getElem?_zip_eq_some];exact⟨L,aj⟩
  have d1:decide ((k:Int)<(D A:Int))=true:=cX;have bF:=eI (i:=k) (by omega);have zb:=alj ((cz,cY),(eA,eQ)) ((cQ,dN),(gy,g3)) ((ar,c2),(c3,c4)) ⟨aA3,alr,aA4⟩;rcases gE:j9 ((cz,cY),(eA,eQ)) ((cQ,dN),(gy,g3)) ((ar,c2),(c3,c4)) with ⟨⟨⟨hk,hQ⟩,⟨kD,lf⟩⟩,CV⟩;rw[gE] at zb;simp only[az,dT] at zb;have fO:=alm (op:=λa:bz×bz=>j9 a.1 ((cQ,dN),(gy,g3)) a.2) (e:=pR) (l:=A.zip B) (k:=k);rw[als] at fO;rcases aE:(CV==0)
  ·have hu:=abi (op:=λa:bz×bz=>j9 a.1 ((cQ,dN),(gy,g3)) a.2) (e:=pR) ea a2 (by dsimp only;rw[gE];exact aE);rw[hu];simp only[go_sem,go_sem_proc,KE,G,aV,bu,cS,du,gL,eu,fE,Cw,tt,zd,abj,wa,d1,L,aj,zb,aE,dQ,az,dT,cW,bY,al,bm,cA,bne];rw[ky _ fO 3 _ (by simp[a5,wa])]
   rfl
  ·have mn:CV=0:=beq_iff_eq.1 aE;subst mn;have lC:=alk (op:=λa:bz×bz=>j9 a.1 ((cQ,dN),(gy,g3)) a.2) (e:=pR) a2;dsimp only at lC;rw[gE] at lC;have h3:k<(((A.zip B).take k).map (λa=>(j9 a.1 ((cQ,dN),(gy,g3)) a.2).1)++((A.zip B).drop k).map pR).length:=by rw[fO];exact ah
   have da:=Hr h3 hk hQ kD lf;rw[lC] at da;have AK:=AF h3;simp only[go_sem,go_sem_proc,KE,G,aV,bu,cS,du,gL,eu,fE,Cw,tt,zd,abj,wa,d1,bF,ah,L,aj,zb,da,AK,dQ,az,dT,al,bm,beq_self_eq_true,b3,bne]
   exact⟨k+1,by omega,by omega,λa aZ=>by
    rw[hZ,a2,jH] at aZ;rcases aZ with aZ|aZ
    ·exact ea a aZ
    ·simp at aZ;rw[aZ,gE],rfl,rfl⟩
 ·obtain rfl:k=D A:=by omega
  have d1:decide ((D A:Int)<(D A:Int))=false:=b7;have hb:(A.zip B).take (D A)=A.zip B:=dD (by omega);have xj:(A.zip B).drop (D A)=[]:=lM (by omega);rw[hb] at ea;rw[hb,xj,bY,hD] at wa;have hu:=Uk (op:=λa:bz×bz=>j9 a.1 ((cQ,dN),(gy,g3)) a.2) (e:=pR) ea;rw[hu];have zb:=alj ((v1,v2),(jy,v4)) ((cQ,dN),(gy,g3)) ((lP,hY),(EG,Hu)) ⟨⟨wj,m3⟩,alr,⟨alp,alq⟩⟩;rcases gE:j9 ((v1,v2),(jy,v4)) ((cQ,dN),(gy,g3)) ((lP,hY),(EG,Hu)) with ⟨⟨⟨hk,hQ⟩,⟨kD,lf⟩⟩,CV⟩;rw[gE] at zb;simp only[az,dT] at zb;simp only[go_sem,go_sem_proc,KE,G,aV,bu,cS,du,gL,eu,fE,Cw,tt,zd,abj,wa,d1,zb,dQ,az,dT,al];rw[ky ((A.zip B).map λa=>(j9 a.1 ((cQ,dN),(gy,g3)) a.2).1) (by rw[al];exact als) 3 _ (by simp[a5,wa])]
  rfl
def jO (x:cI)(c:Nat):bz:=x.1.getD c cW
def gV (rows:List cI)(r c:Nat):Nat:=r+(rows.drop r).findIdx λx => !hd (jO x c)
def tH (rows:List cI)(i:Nat):cI:=rows.getD i ([],cW)
def h5 (p:cI)(r c:Nat):Nat->List cI->List cI×Bool
 |_,[]=>([],true)
 |i,x::xs=>if (i==r||hd (jO x c))=true then (x::(h5 p r c (i+1) xs).1,(h5 p r c (i+1) xs).2)
  else if (rF x p c).2=true then ((rF x p c).1::(h5 p r c (i+1) xs).1,(h5 p r c (i+1) xs).2) else (x::xs,false)
def na (rows:List cI)(i j:Nat):List cI:=(rows.set i (tH rows j)).set j (tH rows i)
def oM (stop:Bool):Nat->Nat->List cI->Nat->List Nat->List cI×List Nat×Bool
 |0,_,rows,_,free=>(rows,free,true)
 |k+1,c,rows,r,free =>
  if gV rows r c=(D rows) then (if stop=true then (rows,free++[c],true) else oM stop k (c+1) rows r (free++[c]))
  else if (ka (tH (na rows r (gV rows r c)) r) c).2=true then
   (if (h5 (ka (tH (na rows r (gV rows r c)) r) c).1 r c 0 ((na rows r (gV rows r c)).set r (ka (tH (na rows r (gV rows r c)) r) c).1)).2=true then
    oM stop k (c+1) (h5 (ka (tH (na rows r (gV rows r c)) r) c).1 r c 0 ((na rows r (gV rows r c)).set r (ka (tH (na rows r (gV rows r c)) r) c).1)).1 (r+1) free
   else ((h5 (ka (tH (na rows r (gV rows r c)) r) c).1 r c 0 ((na rows r (gV rows r c)).set r (ka (tH (na rows r (gV rows r c)) r) c).1)).1,free,false))
  else (na rows r (gV rows r c),free,false)
def rG (N:Nat)(rows:List cI):Prop:=D rows=N/\∀x∈rows,x.1.length=N/\pT x
def aA5 {rows:List cI}{r c i:Nat}{x:cI}(L:rows[i]?=some x)(X:r<=i)(a2:∀j y,r<=j->j<i->rows[j]?=some y->hd (jO y c)=true)(h:hd (jO x c)=false):gV rows r c=i:=by
 unfold gV;obtain⟨ah,aaG⟩:=dV.1 L
 have:(rows.drop r).findIdx (λx => !hd (jO x c))=i-r:=by
  rw[List.findIdx_eq (by rw[oz];omega)];refine⟨?_,λj ae=>?_⟩
  ·rw[ED];have:rows[r+(i-r)]?=some x:=by rw[show r+(i-r)=i by omega];exact L
   rw[(dV.1 this).2,h];rfl
  ·rw[ED];have:=a2 (r+j) _ (by omega) (by omega) (bh (by omega));rw[this];rfl
 omega
def aA6 {rows:List cI}{r c:Nat}(X:r<=D rows)(a2:∀j y,r<=j->rows[j]?=some y->hd (jO y c)=true):gV rows r c=D rows:=by
 unfold gV
 have:(rows.drop r).findIdx (λx => !hd (jO x c))=(rows.drop r).length:=by
  rw[List.findIdx_eq_length];intro y aj;obtain⟨j,ae⟩:=r9.1 aj;rw[q6] at ae;rw[a2 (r+j) y (by omega) ae];rfl
 rw[this,oz];omega
def ER {rows:List cI}{i:Nat}{x:cI}(h:rows[i]?=some x):tH rows i=x:=by
 unfold tH;rw[eD,h];rfl
def alv {x:cI}{c:Nat}{f:bz}(h:x.1[c]?=some f):jO x c=f:=by
 unfold jO;rw[eD,h];rfl
def KF {l:List cI}{k:Nat}(h:k<D l):(k*5+5<=(aU dQ l).length)=True:=eq_true (by rw[jS ry];omega)
def alw {l:List cI}{k:Nat}(h:k<D l):(k*5+1<=(aU dQ l).length)=True:=eq_true (by rw[jS ry];omega)
def Ur {l:List cI}{k:Nat}(h:k<D l)(A:List bz)(a:Int)(b:List Int)(c:Int)(d:List Int):
  gT (k*5) (aU dQ l)++[M.H (.ax (A.map az)),M.H (.int .i64 a),.H (.ax (b.map aI)),.H (.int .i64 c),.H (.ax (d.map aI))]++hl (k*5+5) (aU dQ l)=aU dQ (l.set k (A,((a,b),(c,d)))):=by
 rw[<-Sd ry h]
 rfl
def KG {l:List cI}{k:Nat}{A a b c d}(h:l[k]?=some (A,((a,b),(c,d)))):gT 5 (hl (k*5) (aU dQ l))=[M.H (.ax (A.map az)),M.H (.int .i64 a),.H (.ax (b.map aI)),.H (.int .i64 c),.H (.ax (d.map aI))]:=by
 have uo:=Nf ry h (f:=0) (n:=5) (by omega);unfold cut at uo;rw[Y (by rw[jS ry];have:=(dV.1 h).1;omega)] at uo;exact nu uo
def alx {l:List cI}{k:Nat}{A a b c d}(h:l[k]?=some (A,((a,b),(c,d)))):gT 1 (hl (k*5) (aU dQ l))=[M.H (.ax (A.map az))]:=by
 have:=congrArg (gT 1) (KG h);rw[List.take_take] at this;exact this
def Us {K:bc->Prop}{tm:Nat->M}{m:Mem}(P:(Nat->M)->Mem->Prop)(ay:P tm m)(h:∀tm m,P tm m->K ⟨tm,m⟩):lp K ⟨tm,m⟩ .move:=avk (h tm m ay)
def abk {α:Type}{op:α->bz×Int}{e:α->bz}:∀l:List α,(nM op e l).1.length=D l
 | []=>rfl
 |a::r=>by
  unfold nM
  split
  ·simp[abk r]
  ·simp
def abl {α:Type}{op:α->bz×Int}{e:α->bz}(F:∀a,okF (op a).1):∀l:List α,(∀a∈l,okF (e a))->∀f∈(nM op e l).1,okF f
 | [],_,f,aH=>by simp[nM] at aH
 |a::r,h,f,aH=>by
  unfold nM at aH
  split at aH
  ·rcases n2.1 aH with rfl|aH
   ·exact F a
   ·exact abl F r (λb ad=>h b (iG _ ad)) f aH
  ·obtain⟨b,ad,rfl⟩:=gm.1 aH;exact h b ad
def abm {N:Nat}{x:cI}(h:x.1.length=N/\pT x)(c:Nat):(ka x c).1.1.length=N/\pT (ka x c).1:=by
 obtain⟨aq,⟨wo,ze⟩,rj⟩:=h;have F:∀f∈(nM (λa=>gn a (x.1.getD c cW)) id x.1).1,okF f:=abl (λa=>TU _ _) x.1 ze;have G:=abk (op:=λa=>gn a (x.1.getD c cW)) (e:=id) x.1;unfold ka
 split
 ·exact⟨by dsimp only;omega,⟨⟨by dsimp only;omega,F⟩,TU _ _⟩⟩
 ·exact⟨by dsimp only;omega,⟨⟨by dsimp only;omega,F⟩,su⟩⟩
def aly {N:Nat}{x y:cI}(h:x.1.length=N/\pT x)(aj:y.1.length=N)(c:Nat):(rF x y c).1.1.length=N/\pT (rF x y c).1:=by
 obtain⟨aq,⟨wo,ze⟩,rj⟩:=h;have a2:(x.1.zip y.1).length=N:=by rw[alu];omega
 have F:∀f∈(nM (λa:bz×bz=>j9 a.1 (x.1.getD c cW) a.2) pR (x.1.zip y.1)).1,okF f:=abl (λa=>aln _ _ _) _ λa aZ=>ze _ (List.of_mem_zip aZ).1;have G:=abk (op:=λa:bz×bz=>j9 a.1 (x.1.getD c cW) a.2) (e:=pR) (x.1.zip y.1);unfold rF
 split
 ·exact⟨by dsimp only;omega,⟨⟨by dsimp only;omega,F⟩,aln _ _ _⟩⟩
 ·exact⟨by dsimp only;omega,⟨⟨by dsimp only;omega,F⟩,su⟩⟩
def Ps {N:Nat}{p:cI}{r c:Nat}(aE:p.1.length=N):∀(i:Nat) (l:List cI),(∀x∈l,x.1.length=N/\pT x)->(h5 p r c i l).1.length=D l/\∀x∈(h5 p r c i l).1,x.1.length=N/\pT x
 |_,[],h=>⟨rfl,h⟩
 |i,x::xs,h=>by
  obtain⟨i1,i2⟩:=Ps (r:=r) (c:=c) aE (i+1) xs λy aj=>h y (iG _ aj);unfold h5
  split
  ·refine⟨by simp[i1],λy aj=>?_⟩
   rcases n2.1 aj with rfl|aj
   ·exact h _ g1
   ·exact i2 y aj
  ·split
   ·refine⟨by simp[i1],λy aj=>?_⟩
    rcases n2.1 aj with rfl|aj
    ·exact aly (h _ g1) aE c
    ·exact i2 y aj
   ·exact⟨rfl,h⟩
def rG.set {N:Nat}{rows:List cI}(h:rG N rows){i:Nat}{x:cI}(L:x.1.length=N/\pT x):rG N (rows.set i x):=by
 refine⟨by rw[ie];exact h.1,λy aj=>?_⟩
 rcases List.mem_or_eq_of_mem_set aj with aj|rfl
 ·exact h.2 y aj
 ·exact L
def alz {p x:cI}{r c i:Nat}{xs:List cI}(h:(i==r||hd (jO x c))=true):h5 p r c i (x::xs)=(x::(h5 p r c (i+1) xs).1,(h5 p r c (i+1) xs).2):=by rw[h5,Y h]
def alA {p x:cI}{r c i:Nat}{xs:List cI}(h:¬ ((i==r||hd (jO x c))=true))(G:(rF x p c).2=true):h5 p r c i (x::xs)=((rF x p c).1::(h5 p r c (i+1) xs).1,(h5 p r c (i+1) xs).2):=by rw[h5,aa h,Y G]
def alB {p x:cI}{r c i:Nat}{xs:List cI}(h:¬ ((i==r||hd (jO x c))=true))(G:(rF x p c).2=false):h5 p r c i (x::xs)=(x::xs,false):=by rw[h5,aa h,aa (by rw[G];simp)]
def aA7 (T:ba)(hS:T Jl=aK Kp){K:eK->bc->Prop}{kk:List fT}(N g r c:Nat)(rows:List cI)(stop:Bool)(v10:M)(cw:rG N rows)(X:r<=N)(J:c<N)(fA:N<=40)(tm:Nat->M)(m:Mem)
  (au:tm 1=.H (.int .i64 N)) (aC:tm 2=.H (.bool stop)) (eT:tm 9=.ref 194021 g 5 0 N) (gg:tm 10=v10) (lD:tm 11=.H (.int .i64 r)) (gf:tm 12=.H (.int .i64 c)) (ij:tm 13=.H (.int .i64 r)) (em:m 194021=some (g,aU dQ rows))
  (db:∀tm',tm' 1=.H (.int .i64 N)->tm' 2=.H (.bool stop)->tm' 9=.ref 194021 g 5 0 N->tm' 10=v10->tm' 11=.H (.int .i64 r)->tm' 12=.H (.int .i64 c)->tm' 13=.H (.int .i64 (gV rows r c:Nat))->cg T K kk (.exit 2) ⟨tm',m⟩) :
  wp T (Ko.body.v9 [1,1,1,1,0,1,0,0,0,1,0,0,1,0,0]) (cg T K kk) ⟨tm,m⟩:=by
 simp only[Ko,er.v9];refine dd [1,2,9,10,11,12] [] (λ(i:Nat) tm' m'=>r<=i/\i<=N/\(∀j y,r<=j->j<i->rows[j]?=some y->hd (jO y c)=true)/\tm' 13=.H (.int .i64 i)/\m'=m) (λi=>N-i) r (by refine⟨cl _,X,λj y F G=>by omega,ij,rfl⟩) ?_;intro vs ms aQ aM;simp only[go_sem,go_sem_proc,au,aC,eT,gg,lD,gf] at aQ aM;subst aQ aM;clear au aC eT gg lD gf ij tm;rintro i tm m' I-⟨k5,O7,a2,kA,rfl⟩;simp only[go_sem,go_sem_proc,bj] at I;obtain⟨F,G,eP,du,gL,eu⟩:=I;have aq:=cw.1;rcases dn (i<N) with ah|bW
 ·obtain⟨⟨A,⟨v1,v2⟩,⟨jy,v4⟩⟩,L⟩:∃x,rows[i]?=some x:=⟨_,bh (by omega)⟩;obtain⟨tD,-⟩:=cw.2 _ (dy L);dsimp only at tD;obtain⟨⟨⟨f1,f2⟩,⟨f3,f4⟩⟩,aH⟩:∃f,A[c]?=some f:=⟨_,bh (by omega)⟩;have nY:jO (A,((v1,v2),(jy,v4))) c=((f1,f2),(f3,f4)):=alv aH;have yM:=alx L;have iy:=alw (l:=rows) (k:=i) (by omega);have d1:decide ((i:Int)<(N:Int))=true:=cX;have HC:c<D A:=by omega
  have bF:=eI (i:=i) (by omega);rcases nC:(f1==0)
  ·have O9:gV rows r c=i:=aA5 L k5 a2 (by rw[nY];exact nC);rw[O9] at db;simp only[go_sem,go_sem_proc,hS,F,G,eP,du,gL,eu,kA,em,d1,ah,yM,iy,aH,HC,nC,az,al,bm,lO];refine db _ ?_ ?_ ?_ ?_ ?_ ?_ ?_<;>simp only[dC,cE,if_false,F,G,eP,du,gL,eu,kA]
  ·simp only[go_sem,go_sem_proc,hS,F,G,eP,du,gL,eu,kA,em,d1,bF,ah,yM,iy,aH,HC,nC,az,al,bm,lO];refine⟨i+1,by omega,by omega,by omega,λj y F G aj=>?_,rfl⟩
   rcases hO j i with h|h
   ·exact a2 j y F h aj
   ·obtain rfl:j=i:=by omega
    rw[L] at aj
    cases aj;rw[nY];exact nC
 ·obtain rfl:i=N:=by omega
  have d1:decide ((i:Int)<(i:Int))=false:=b7;have O9:gV rows r c=i:=by rw[aA6 (by omega) λj y F aj=>a2 j y F (by have:=(dV.1 aj).1;omega) aj,aq]
  rw[O9] at db;simp only[go_sem,go_sem_proc,F,G,eP,du,gL,eu,kA,em,d1];refine db _ ?_ ?_ ?_ ?_ ?_ ?_ ?_<;>simp only[dC,cE,if_false,F,G,eP,du,gL,eu,kA]
def aA8 (T:ba)(hS:T Jl=aK Kp)(jm:T Sq=aK Pr){K:eK->bc->Prop}{kk:List fT}(N g r c:Nat)(ff:List cI)(p:cI)(stop:Bool)(v10:M)(abn:Option (Nat×List M))(cw:rG N ff)(aE:ff[r]?=some p)(J:c<N)(fA:N<=40)(tm:Nat->M)(m:Mem)
  (au:tm 1=.H (.int .i64 N)) (aC:tm 2=.H (.bool stop)) (eT:tm 9=.ref 194021 g 5 0 N) (gg:tm 10=v10) (lD:tm 11=.H (.int .i64 r)) (gf:tm 12=.H (.int .i64 c)) (sx:tm 17=.H (.int .i64 0)) (em:m 194021=some (g,aU dQ ff)) (nb:m 194050=abn)
  (db:(h5 p r c 0 ff).2=true->∀tm' m',tm' 1=.H (.int .i64 N)->tm' 2=.H (.bool stop)->tm' 9=.ref 194021 g 5 0 N->tm' 10=v10->tm' 11=.H (.int .i64 r)->tm' 12=.H (.int .i64 c)->m' 194021=some (g,aU dQ (h5 p r c 0 ff).1)->m' 194050=abn->cg T K kk (.exit 4) ⟨tm',m'⟩)
  (ec:(h5 p r c 0 ff).2=false->∀tm' m',tm' 6=.ref 194021 g 5 0 N->tm' 7=v10->tm' 8=.H (.bool false)->m' 194021=some (g,aU dQ (h5 p r c 0 ff).1)->m' 194050=abn->cg T K kk .ret ⟨tm',m'⟩) :
  wp T (Ko.body.v9 [1,1,1,1,0,1,0,0,0,1,0,0,1,1,1,1,1,1,1,1,1,0,1,0]) (cg T K kk) ⟨tm,m⟩:=by
 simp only[Ko,er.v9];refine dd [1,2,9,10,11,12] [194050] (λ((i,pre):Nat×List cI) tm' m'=>i<=N/\D pre=i/\(∀x∈pre,x.1.length=N/\pT x)/\(r<i->pre[r]?=some p)/\h5 p r c 0 ff=(pre++(h5 p r c i (ff.drop i)).1,(h5 p r c i (ff.drop i)).2)/\tm' 17=.H (.int .i64 i)/\m' 194021=some (g,aU dQ (pre++ff.drop i))) (λ(i,_)=>N-i) (0,[]) (by refine⟨fL _,rfl,by simp,λh=>by omega,by simp,sx,by simpa using em⟩) ?_;intro vs ms aQ aM;simp only[go_sem,go_sem_proc,au,aC,eT,gg,lD,gf,nb] at aQ aM;subst aQ aM;clear au aC eT gg lD gf sx em nb tm m;rintro⟨i,pre⟩ tm m I hm ⟨O7,ia,yN,zf,KH,m6,tr⟩;simp only[go_sem,go_sem_proc,bj] at I hm;obtain⟨F,G,eP,du,gL,eu⟩:=I;have aq:=cw.1;rcases dn (i<N) with ah|bW
 ·obtain⟨⟨A,⟨v1,v2⟩,⟨jy,v4⟩⟩,L⟩:∃x,ff[i]?=some x:=⟨_,bh (by omega)⟩;obtain⟨tD,qR⟩:=cw.2 _ (dy L);dsimp only at tD
  have vT:ff.drop i=(A,((v1,v2),(jy,v4)))::ff.drop (i+1):=by
   obtain⟨IU,e⟩:=dV.1 L;rw[je IU,e]
  have CF:(pre++ff.drop i)[i]?=some (A,((v1,v2),(jy,v4))):=by rw[ov (by omega),ia,j0,vT];rfl
  have ew:(pre++ff.drop i).length=N:=by rw[gC,oz];omega
  have d1:decide ((i:Int)<(N:Int))=true:=cX;have bF:=eI (i:=i) (by omega)
  have y8:(i==r||hd (jO (A,((v1,v2),(jy,v4))) c))=true->∃bn:Nat×List cI,N-bn.1<N-i/\bn.1<=N/\bn.2.length=bn.1/\(∀x∈bn.2,x.1.length=N/\pT x)/\(r<bn.1->bn.2[r]?=some p)/\h5 p r c 0 ff=(bn.2++(h5 p r c bn.1 (ff.drop bn.1)).1,(h5 p r c bn.1 (ff.drop bn.1)).2)/\M.H (.int .i64 ((i+1:Nat):Int))=M.H (.int .i64 (bn.1:Nat))/\some (g,aU dQ (pre++ff.drop i))=some (g,aU dQ (bn.2++ff.drop bn.1)):=by
   intro R;refine⟨(i+1,pre++[(A,((v1,v2),(jy,v4)))]),by dsimp only;omega,by dsimp only;omega,by simp[ia],λx r4=>?_,λh=>?_,?_,rfl,?_⟩
   ·rcases jH.1 r4 with h|h
    ·exact yN x h
    ·rw[yK] at h;rw[h];exact⟨tD,qR⟩
   ·dsimp only at h ⊢;rcases hO r i with cn|cn
    ·rw[qi (by omega)];exact zf cn
    ·obtain rfl:r=i:=by omega
     rw[ov (by omega),ia,j0];rw[aE] at L;rw[nu L];rfl
   ·dsimp only;rw[KH,vT,alz R,g8]
    rfl
   ·dsimp only;rw[vT,g8];rfl
  by_cases qP:i=r
  ·have ad:((i:Int)==(r:Int))=true:=by rw[beq_iff_eq];omega
   simp only[go_sem,go_sem_proc,F,G,eP,du,gL,eu,m6,hm,tr,d1,bF,ad];exact y8 (by rw[show (i==r)=true by simpa using qP];rfl)
  have ad:((i:Int)==(r:Int))=false:=by rw[beq_eq_false_iff_ne];omega
  obtain⟨⟨⟨f1,f2⟩,⟨f3,f4⟩⟩,aH⟩:∃f,A[c]?=some f:=⟨_,bh (by omega)⟩;have nY:jO (A,((v1,v2),(jy,v4))) c=((f1,f2),(f3,f4)):=alv aH;have yM:=alx CF;have iy:=alw (l:=pre++ff.drop i) (k:=i) (by omega);have HC:c<D A:=by omega
  rcases nC:(f1==0)
  case true =>
   simp only[go_sem,go_sem_proc,hS,F,G,eP,du,gL,eu,m6,hm,tr,d1,bF,ad,ah,yM,iy,aH,HC,nC,az,al,bm,lO];exact y8 (by rw[nY,show hd ((f1,f2),(f3,f4))=true from nC,Bool.or_true])
  have pf:r<N:=by have:=(dV.1 aE).1;omega
  have jU:(pre++ff.drop i)[r]?=some p:=by
   rcases hO r i with cn|cn
   ·rw[qi (by omega)];exact zf cn
   ·rw[ov (by omega),q6,ia,show i+(r-i)=r by omega];exact aE
  obtain⟨aA9,y3⟩:=cw.2 _ (dy aE);have kT:=aA1 (A,((v1,v2),(jy,v4))) p c ⟨qR,y3,by dsimp only;omega,by dsimp only;omega,HC⟩
  have nN:=aly (N:=N) (x:=(A,((v1,v2),(jy,v4)))) (y:=p) ⟨tD,qR⟩ aA9 c;dsimp only at kT;rw[tD] at kT;obtain⟨P,⟨lP,hY⟩,⟨EG,Hu⟩⟩:=p;rcases iU:rF (A,((v1,v2),(jy,v4))) (P,((lP,hY),(EG,Hu))) c with ⟨⟨sy,⟨fx,fe⟩,⟨hH,iE⟩⟩,ok⟩;rw[iU] at kT nN;simp only[dQ,az] at kT;have M8:=KG CF;have HD:=KG jU;have m4:=KF (l:=pre++ff.drop i) (k:=i) (by omega);have Co:=KF (l:=pre++ff.drop i) (k:=r) (by omega)
  have AL:¬ ((i==r||hd (jO (A,((v1,v2),(jy,v4))) c))=true):=by
   rw[nY,show hd ((f1,f2),(f3,f4))=false from nC,lT]
   simpa using qP
  cases ok
  ·have mo:h5 (P,((lP,hY),(EG,Hu))) r c 0 ff=(pre++ff.drop i,false):=by
    rw[KH,vT,alB AL (by rw[iU])]
   rw[mo] at ec;simp only[go_sem,go_sem_proc,hS,jm,F,G,eP,du,gL,eu,m6,hm,tr,d1,bF,ad,ah,pf,yM,iy,aH,HC,nC,M8,HD,m4,Co,kT,dQ,az,al,bm,lO,cA];refine ec rfl _ _ ?_ ?_ ?_ ?_ ?_<;>first|rfl|(simp[eP,du];done)|(simp[a5,tr,hm];done)
  ·have xt:=Ur (l:=pre++ff.drop i) (k:=i) (by omega) sy fx fe hH iE
   have yP:(pre++ff.drop i).set i (sy,((fx,fe),(hH,iE)))=(pre++[(sy,((fx,fe),(hH,iE)))])++ff.drop (i+1):=by
    rw[y1 _ _ (by omega),ia,j0,vT,lB,g8]
    rfl
   rw[yP] at xt;simp only[go_sem,go_sem_proc,hS,jm,F,G,eP,du,gL,eu,m6,hm,tr,d1,bF,ad,ah,pf,yM,iy,aH,HC,nC,M8,HD,m4,Co,kT,xt,dQ,az,al,bm,lO,bj,b3];refine⟨(i+1,pre++[(sy,((fx,fe),(hH,iE)))]),by dsimp only;omega,by dsimp only;omega,by simp[ia],λx r4=>?_,λh=>?_,?_,rfl,rfl⟩
   ·rcases jH.1 r4 with h|h
    ·exact yN x h
    ·rw[yK] at h;rw[h];exact nN
   ·dsimp only at h ⊢;rw[qi (by omega)];exact zf (by omega)
   ·dsimp only;rw[KH,vT,alA AL (by rw[iU]),iU,g8]
    rfl
 ·obtain rfl:i=N:=by omega
  have d1:decide ((i:Int)<(i:Int))=false:=b7;have lv:ff.drop i=[]:=lM (by omega);rw[lv] at tr KH;simp only[h5,hD] at KH tr;rw[KH] at db;simp only[go_sem,go_sem_proc,F,G,eP,du,gL,eu,m6,hm,tr,d1];refine db rfl _ _ ?_ ?_ ?_ ?_ ?_ ?_ tr hm<;>simp only[dC,cE,if_false,F,G,eP,du,gL,eu,m6]
def tI (n:Nat):List Data:=[.int .i64 n]
def Ut (n:Nat):(tI n).length=1:=rfl
def aBa (n:Nat):((tI n).map M.H).all M.one=true:=rfl
def alC {stop:Bool}{k c r:Nat}{rows:List cI}{free:List Nat}(h:gV rows r c=D rows):oM stop (k+1) c rows r free=if stop=true then (rows,free++[c],true) else oM stop k (c+1) rows r (free++[c]):=by rw[oM,Y h]
def alD {stop:Bool}{k c r:Nat}{rows:List cI}{free:List Nat}{gF:List cI}{x:cI}(h:gV rows r c≠(D rows))(R:na rows r (gV rows r c)=gF)(L:tH gF r=x):oM stop (k+1) c rows r free =
  if (ka x c).2=true then (if (h5 (ka x c).1 r c 0 (gF.set r (ka x c).1)).2=true then oM stop k (c+1) (h5 (ka x c).1 r c 0 (gF.set r (ka x c).1)).1 (r+1) free else ((h5 (ka x c).1 r c 0 (gF.set r (ka x c).1)).1,free,false)) else (gF,free,false):=by rw[oM,aa h,R,L]
def HE (b2:List cI×List Nat×Bool):Data:=.dj [.ax (b2.1.map dQ),.ax (b2.2.1.map tI),.bool b2.2.2]
def abo (rows:List cI)(r c:Nat)(X:r<=D rows):r<=gV rows r c/\gV rows r c<=D rows:=by
 unfold gV;have:=aa2 (p:=λx => !hd (jO x c)) (xs:=rows.drop r);rw[oz] at this;omega
abbrev Uu:(List cI)×Bool->List Data:=λ(rs,stop)=>[.ax (rs.map dQ),.int .i64 (D rs:Nat),.bool stop]
def Pt:=bV Uu λ(rs,stop)=>cu (rG (D rs) rs/\D rs<=40) (.same (HE (oM stop (D rs) 0 rs 0 [])))
def aBb:∀a b,Uu a=Uu b->a=b:=by
  rintro⟨Tu,aAj⟩ ⟨Tv,aAk⟩ h;simp only[bj,Data.ax.injEq,Data.bool.injEq] at h;exact et (map_inj Ev _ _ h.1) h.2.2.1
@[go_sem] def aBc (rs stop):=cH Pt rfl aBb (rs,stop) rfl
def aBd (T:ba)(kd:T YQ=aK Uj)(hS:T Jl=aK Kp)(ke:T YR=aK Um)(jm:T Sq=aK Pr):WF T Ko Pt:=by
 refine cp λ(rs,stop)=>cT λJ=>⟨rfl,ck ?_⟩;simp only[Ko,Uu,cd];obtain⟨cw,fA⟩:=J;have aBe:uQ rs:=⟨by omega,λr X=>(cw.2 r X).2⟩
 have lV:=aAR rs ⟨by omega,aBe⟩
 have gj:((rs.map dQ).flatten.map M.H)=aU dQ rs:=rfl;have Og:oM stop (D rs) 0 rs 0 []=oM stop (D rs) 0 rs 0 []:=rfl;generalize alE:(D rs)=N at *;generalize aBf:oM stop N 0 rs 0 []=eZ at Og ⊢;simp only[go_sem,go_sem_proc,kd,hS,ke,jm,lV,gj,al,alE];refine dd [1,2,9] [] (λ((c,r,kF,rows,free):Nat×Nat×Nat×List cI×List Nat) tm m=>c<=N/\r+D free=c/\rG N rows/\eZ=oM stop (N-c) c rows r free/\tm 12=.H (.int .i64 c)/\tm 11=.H (.int .i64 r)/\tm 10=.ref 194050 kF 1 0 (D free)/\m 194021=some (0,aU dQ rows)/\m 194050=some (kF,aU tI free)) (λ(c,_)=>N-c) (0,0,0,rs,[]) (by refine⟨fL _,rfl,cw,?_,rfl,rfl,rfl,?_,?_⟩<;>first|exact aBf.symm|rfl) ?_
 intro vs ms aQ aM;simp only[go_sem,go_sem_proc,kd,hS,ke,jm,lV,gj,al,alE] at aQ aM;subst aQ aM;rintro⟨c,r,kF,rows,free⟩ tm m I-⟨uY,kP,KI,gx,eu,gL,du,pY,pZ⟩;simp only[go_sem,go_sem_proc,kd,hS,ke,jm,bj] at I;obtain⟨F,G,eP⟩:=I;have aq:=KI.1;rcases dn (c<N) with ah|bW
 ·have d1:decide ((c:Int)<(N:Int))=true:=cX;have bF:=eI (i:=c) (by omega);have jN:=eI (i:=r) (by omega);obtain⟨k,I⟩:∃k,N-c=k+1:=⟨N-c-1,by omega⟩
  rw[I] at gx;simp only[go_sem,go_sem_proc,kd,hS,ke,jm,F,G,eP,du,gL,eu,d1];refine Us (λtm m=>tm 1=.H (.int .i64 N)/\tm 2=.H (.bool stop)/\tm 9=.ref 194021 0 5 0 N/\tm 10=.ref 194050 kF 1 0 (D free)/\tm 11=.H (.int .i64 r)/\tm 12=.H (.int .i64 c)/\m 194021=some (0,aU dQ rows)/\m 194050=some (kF,aU tI free)) (by refine⟨?_,?_,?_,?_,?_,?_,?_,?_⟩<;>first|rfl|assumption|simp only[go_sem,go_sem_proc,kd,hS,ke,jm,F,G,eP,du,gL,eu]) ?_
  clear F G eP du gL eu pY pZ tm m;rintro tm m ⟨F,G,eP,du,gL,eu,pY,pZ⟩;simp only[go_sem,go_sem_proc,kd,hS,ke,jm,gL];refine aA7 T hS N 0 r c rows stop (.ref 194050 kF 1 0 (D free)) KI (by omega) ah fA _ _ ?_ ?_ ?_ ?_ ?_ ?_ ?_ ?_ ?_
  ·simp only[go_sem,go_sem_proc,kd,hS,ke,jm,F]
  ·simp only[go_sem,go_sem_proc,kd,hS,ke,jm,G]
  ·simp only[go_sem,go_sem_proc,kd,hS,ke,jm,eP]
  ·simp only[go_sem,go_sem_proc,kd,hS,ke,jm,du]
  ·simp only[go_sem,go_sem_proc,kd,hS,ke,jm,gL]
  ·simp only[go_sem,go_sem_proc,kd,hS,ke,jm,eu]
  ·rfl
  ·exact pY
  intro tm' cy dw ly o7 qB o8 xp;have bH:=abo rows r c (by omega);rw[aq] at bH;simp only[go_sem,go_sem_proc,kd,hS,ke,jm];refine Us (λtm m=>tm 1=.H (.int .i64 N)/\tm 2=.H (.bool stop)/\tm 9=.ref 194021 0 5 0 N/\tm 10=.ref 194050 kF 1 0 (D free)/\tm 11=.H (.int .i64 r)/\tm 12=.H (.int .i64 c)/\tm 13=.H (.int .i64 (gV rows r c:Nat))/\m 194021=some (0,aU dQ rows)/\m 194050=some (kF,aU tI free)) ⟨cy,dw,ly,o7,qB,o8,xp,pY,pZ⟩ ?_;clear F G eP du gL eu cy dw ly o7 qB o8 xp pY pZ tm tm' m;rintro tm m ⟨F,G,eP,du,gL,eu,kA,pY,pZ⟩
  by_cases aH:gV rows r c=N
  ·have d2:((((gV rows r c:Nat):Int))==(N:Int))=true:=by rw[beq_iff_eq];omega
   have c9:=kx Ut aBa 194050 kF 8 free c (cs:=[.H (.int .i64 c)]) rfl (by omega) (by omega);rw[alC (by rw[aq];exact aH)] at gx
   cases stop
   ·rw[aa (by simp)] at gx;simp only[go_sem,go_sem_proc,kd,hS,ke,jm,F,G,eP,du,gL,eu,kA,pY,pZ,d2,c9,bF];exact⟨(c+1,r,kF+1,rows,free++[c]),by dsimp only;omega,by dsimp only;omega,by simp;omega,KI,by dsimp only;rw[gx,show N-(c+1)=k by omega],rfl,rfl,by simp,rfl,rfl⟩
   ·rw[Y rfl] at gx
    have CU:∀n (m:Mem),m 194021=some (0,aU dQ rows)->cV (n+1) m (.ref 194021 0 5 0 N)=some (.ax (rows.map dQ)):=λn m hm=>by
     have:=k6 (n:=n) ry hm;rwa [aq] at this
    have zc:∀n (m:Mem),m 194050=some (kF+1,aU tI (free++[c]))->cV (n+1) m (.ref 194050 (kF+1) 1 0 (D free+1))=some (.ax ((free++[c]).map tI)):=λn m hm=>by
     have:=k6 (n:=n) Ut hm;rwa [gC,qI] at this
    rw[gx];simp only[go_sem,go_sem_proc,kd,hS,ke,jm,F,G,eP,du,gL,eu,kA,pY,pZ,d2,c9,HE];rw[CU 4 _ (by simp[a5,pY]),zc 4 _ (by simp[a5])]
    rfl
  ·have d2:((((gV rows r c:Nat):Int))==(N:Int))=false:=by rw[beq_eq_false_iff_ne];omega
   generalize R:gV rows r c=s at *;have xJ:s<N:=by omega
   have pf:r<N:=by omega
   obtain⟨⟨sy,⟨fx,fe⟩,⟨hH,iE⟩⟩,L⟩:∃x,rows[s]?=some x:=⟨_,bh (by omega)⟩;obtain⟨⟨Pu,⟨nD,o5⟩,⟨wq,wu⟩⟩,aj⟩:∃x,rows[r]?=some x:=⟨_,bh (by omega)⟩
   have rB:na rows r (gV rows r c)=(rows.set r (sy,((fx,fe),(hH,iE)))).set s (Pu,((nD,o5),(wq,wu))):=by
    unfold na;rw[R,ER L,ER aj]
   have wi:((rows.set r (sy,((fx,fe),(hH,iE)))).set s (Pu,((nD,o5),(wq,wu))))[r]?=some (sy,((fx,fe),(hH,iE))):=by
    rw[mr,mr,ie]
    by_cases h:s=r
    ·subst h;rw[L] at aj;rw[Y rfl,Y (by omega)];exact aj.symm
    ·rw[aa h,Y rfl,Y (by omega)]
   have y9:=KI.2 _ (dy L);have alF:rG N ((rows.set r (sy,((fx,fe),(hH,iE)))).set s (Pu,((nD,o5),(wq,wu)))):=(KI.set y9).set (KI.2 _ (dy aj));rw[alD (by rw[R,aq];exact aH) rB (ER wi)] at gx;have gI:=KG L;have alG:=KG aj;have Cx:=KF (l:=rows) (k:=s) (by omega);have Es:=KF (l:=rows) (k:=r) (by omega);have s1:=Ur (l:=rows) (k:=r) (by omega) sy fx fe hH iE;have alH:=KF (l:=rows.set r (sy,((fx,fe),(hH,iE)))) (k:=s) (by rw[ie];omega);have s2:=Ur (l:=rows.set r (sy,((fx,fe),(hH,iE)))) (k:=s) (by rw[ie];omega) Pu nD o5 wq wu;generalize aPL:(rows.set r (sy,((fx,fe),(hH,iE)))).set s (Pu,((nD,o5),(wq,wu)))=gF at *;have I2:=alF.1;simp only[go_sem,go_sem_proc,kd,hS,ke,jm,F,G,eP,du,gL,eu,kA,pY,pZ,d2];refine Us (λtm m=>tm 1=.H (.int .i64 N)/\tm 2=.H (.bool stop)/\tm 9=.ref 194021 0 5 0 N/\tm 10=.ref 194050 kF 1 0 (D free)/\tm 11=.H (.int .i64 r)/\tm 12=.H (.int .i64 c)/\tm 13=.H (.int .i64 s)/\m 194021=some (0,aU dQ rows)/\m 194050=some (kF,aU tI free)) (by refine⟨?_,?_,?_,?_,?_,?_,?_,?_,?_⟩<;>first|rfl|assumption|simp only[go_sem,go_sem_proc,kd,hS,ke,jm,F,G,eP,du,gL,eu,kA]) ?_
   clear F G eP du gL eu kA pY pZ tm m;rintro tm m ⟨F,G,eP,du,gL,eu,kA,pY,pZ⟩;have alI:=KG wi;have alJ:=KF (l:=gF) (k:=r) (by omega);have zS:(D sy)=N:=y9.1;have o6:=aAW (sy,((fx,fe),(hH,iE))) c ⟨y9.2,by dsimp only;omega,by dsimp only;omega⟩
   have hE:=abm y9 c;dsimp only at o6;rw[zS] at o6;rcases iU:ka (sy,((fx,fe),(hH,iE))) c with ⟨⟨ES,⟨au,aC⟩,⟨bN,bK⟩⟩,ok⟩;rw[iU] at o6 hE gx;simp only[dQ,az] at o6;simp only[go_sem,go_sem_proc,kd,hS,ke,jm,F,G,eP,du,gL,eu,kA,pY,pZ,xJ,pf,gI,alG,Cx,Es,s1,alH,s2,alI,alJ,o6,lO];refine Us (λtm m=>tm 1=.H (.int .i64 N)/\tm 2=.H (.bool stop)/\tm 9=.ref 194021 0 5 0 N/\tm 10=.ref 194050 kF 1 0 (D free)/\tm 11=.H (.int .i64 r)/\tm 12=.H (.int .i64 c)/\tm 16=.H (.bool ok)/\m 194021=some (0,aU dQ gF)/\m 194050=some (kF,aU tI free)/\∃q,tm 15=.ptr 194015 q 0/\m 194015=some (q,[.H (.ax (ES.map az)),.H (.int .i64 au),.H (.ax (aC.map aI)),.H (.int .i64 bN),.H (.ax (bK.map aI))])) (by refine⟨?_,?_,?_,?_,?_,?_,?_,?_,?_,gk (m 194015),?_,?_⟩<;>first|rfl|assumption|simp only[go_sem,go_sem_proc,kd,hS,ke,jm,F,G,eP,du,gL,eu,pZ]) ?_
   clear F G eP du gL eu kA pY pZ tm m gI alG Cx Es s1 alH s2 alI o6;rintro tm m ⟨F,G,eP,du,gL,eu,vU,pY,pZ,q,Am,aBg⟩
   have CU:∀(rows:List cI),D rows=N->∀n (m:Mem),m 194021=some (0,aU dQ rows)->cV (n+1) m (.ref 194021 0 5 0 N)=some (.ax (rows.map dQ)):=λrows aq n m hm=>by
    have:=k6 (n:=n) ry hm;rwa [aq] at this
   have zc:∀n (m:Mem),m 194050=some (kF,aU tI free)->cV (n+1) m (.ref 194050 kF 1 0 (D free))=some (.ax (free.map tI)):=λn m hm=>k6 (n:=n) Ut hm
   cases ok
   ·rw[aa (by simp)] at gx;rw[gx];simp only[go_sem,go_sem_proc,kd,hS,ke,jm,F,G,eP,du,gL,eu,vU,pY,pZ,HE,cA];rw[CU gF I2 4 _ pY,zc 4 _ pZ]
    rfl
   ·rw[Y rfl] at gx;have c1:=Ur (l:=gF) (k:=r) (by omega) ES au aC bN bK;have Pv:=alF.set (i:=r) hE;have aBh:(gF.set r (ES,((au,aC),(bN,bK))))[r]?=some (ES,((au,aC),(bN,bK))):=by rw[mr,Y rfl,Y (by omega)]
    simp only[go_sem,go_sem_proc,kd,hS,ke,jm,F,G,eP,du,gL,eu,vU,Am,aBg,pY,pZ,pf,alJ,c1,b3];refine aA8 T hS jm N 0 r c (gF.set r (ES,((au,aC),(bN,bK)))) (ES,((au,aC),(bN,bK))) stop (.ref 194050 kF 1 0 (D free)) (some (kF,aU tI free)) Pv aBh ah fA _ _ ?_ ?_ ?_ ?_ ?_ ?_ ?_ ?_ ?_ ?_ ?_
    ·simp only[go_sem,go_sem_proc,kd,hS,ke,jm,F]
    ·simp only[go_sem,go_sem_proc,kd,hS,ke,jm,G]
    ·simp only[go_sem,go_sem_proc,kd,hS,ke,jm,eP]
    ·simp only[go_sem,go_sem_proc,kd,hS,ke,jm,du]
    ·simp only[go_sem,go_sem_proc,kd,hS,ke,jm,gL]
    ·simp only[go_sem,go_sem_proc,kd,hS,ke,jm,eu]
    ·rfl
    ·simp only[go_sem,go_sem_proc,kd,hS,ke,jm]
    ·simp only[go_sem,go_sem_proc,kd,hS,ke,jm,pZ]
    ·intro mo tm' m' cy dw ly o7 qB o8 oy KJ;rw[mo,Y rfl] at gx;have nN:=Ps (p:=(ES,((au,aC),(bN,bK)))) (r:=r) (c:=c) hE.1 0 _ Pv.2;simp only[go_sem,go_sem_proc,kd,hS,ke,jm,cy,dw,ly,o7,qB,o8,oy,KJ,bF,jN];exact⟨(c+1,r+1,kF,_,free),by dsimp only;omega,by dsimp only;omega,by dsimp only;omega,⟨nN.1.trans Pv.1,nN.2⟩,by dsimp only;rw[gx,show N-(c+1)=k by omega],rfl,rfl,rfl,rfl,rfl⟩
    ·intro mo tm' m' fv jk k9 oy KJ;rw[mo,aa (by simp)] at gx;have nN:=Ps (p:=(ES,((au,aC),(bN,bK)))) (r:=r) (c:=c) hE.1 0 _ Pv.2;rw[gx];simp only[go_sem,go_sem_proc,kd,hS,ke,jm,fv,jk,k9,oy,KJ,HE];rw[CU _ (nN.1.trans Pv.1) 4 _ oy,zc 4 _ KJ]
     rfl
 ·obtain rfl:c=N:=by omega
  have d1:decide ((c:Int)<(c:Int))=false:=b7
  have CU:∀n (m:Mem),m 194021=some (0,aU dQ rows)->cV (n+1) m (.ref 194021 0 5 0 c)=some (.ax (rows.map dQ)):=λn m hm=>by
   have:=k6 (n:=n) ry hm;rwa [aq] at this
  have zc:∀n (m:Mem),m 194050=some (kF,aU tI free)->cV (n+1) m (.ref 194050 kF 1 0 (D free))=some (.ax (free.map tI)):=λn m hm=>k6 (n:=n) Ut hm;rw[j0] at gx;simp only[oM] at gx;rw[gx];simp only[go_sem,go_sem_proc,kd,hS,ke,jm,F,G,eP,du,gL,eu,d1,HE];rw[CU 4 _ pY,zc 4 _ pZ]
  rfl
def alK {rs:List cI}{n:Int}(bw:uQ rs)(h:j7 rs n=true):n=(D rs:Nat)/\D rs<=40/\rG (D rs) rs:=by
 obtain⟨F,G,ab⟩:=T7 bw h;exact⟨F.symm,G,rfl,ab⟩
def Uv {N:Nat}(stop:Bool):∀(k c:Nat) (rows:List cI) (r:Nat) (free:List Nat),c+k=N->r<=c->rG N rows->rG N (oM stop k c rows r free).1
 |0,c,rows,r,free,_,_,h=>h
 |k+1,c,rows,r,free,J,kP,h=>by
  have aq:=h.1;unfold oM
  split
  ·split
   ·exact h
   ·exact Uv stop k (c+1) rows r _ (by omega) (by omega) h
  ·rename_i b8
   have gQ:∀i,i<(D rows)->tH rows i∈rows:=λi O=>by
    have L:rows[i]?=some rows[i]:=bh O;rw[ER L];exact mh O
   have X:r<D rows:=by omega
   have hle:=abo rows r c (by omega);have R:gV rows r c<D rows:=by omega
   have rB:rG N (na rows r (gV rows r c)):=by
    unfold na;exact (h.set (h.2 _ (gQ _ R))).set (h.2 _ (gQ _ X))
   have I2:(na rows r (gV rows r c)).length=D rows:=by unfold na;rw[ie,ie]
   have m9:tH (na rows r (gV rows r c)) r∈na rows r (gV rows r c):=by
    have L:(na rows r (gV rows r c))[r]?=some _:=bh (by omega);rw[ER L];exact mh _
   have Z:=abm (rB.2 _ m9) c
   split
   ·have o6:=rB.set (i:=r) Z;have nN:=Ps (p:=(ka (tH (na rows r (gV rows r c)) r) c).1) (r:=r) (c:=c) Z.1 0 _ o6.2
    split
    ·exact Uv stop k (c+1) _ (r+1) free (by omega) (by omega) ⟨nN.1.trans o6.1,nN.2⟩
    ·exact⟨nN.1.trans o6.1,nN.2⟩
   ·exact rB
def uZ (stop:Bool)(rs:List cI):List cI×List Nat×Bool:=oM stop (D rs) 0 rs 0 []
def Pw (rs:List cI)(n:Int):List bz×Int:=if j7 rs n=true then (if (uZ true rs).2.2=true then (if (uZ true rs).2.1.length>0 then ([],17) else ((uZ true rs).1.map (·.2),0)) else ([],6)) else ([],1)
def Uw:=bV Ay λ(rs,n)=>cu (uQ rs) (.same (.dj [.ax ((Pw rs n).1.map az),.int .i64 (Pw rs n).2]))
@[go_sem] def aBi (rs n):=cH Uw rfl Ty (rs,n) rfl
def aBj (T:ba)(ET:T YO=aK Uf)(EU:T YP=aK Pt):WF T akn Uw:=by
 refine cp λ(rs,n)=>cT λJ=>⟨rfl,ck ?_⟩;simp only[akn,Ay,cd];unfold Pw;rcases X:j7 rs n
 ·simp only[go_sem,go_sem_proc,ET,EU,J,X,cA,bY]
 ·obtain⟨rfl,fA,cw⟩:=alK J X;have ec:=aBc rs true ⟨cw,fA⟩;have nN:=Uv true (D rs) 0 rs 0 [] (by omega) (by omega) cw
  change Pt [.ax (rs.map dQ),.int .i64 (D rs:Nat),.bool true]=some (.same (HE (uZ true rs))) at ec
  change rG (D rs) (uZ true rs).1 at nN
  rcases fF:uZ true rs with ⟨rows,free,ok⟩;rw[fF] at nN ec;dsimp only at nN;simp only[HE] at ec;have cm:=nN.1
  cases ok
  ·simp only[go_sem,go_sem_proc,ET,EU,J,X,ec,al,b3,cA,bY]
  ·cases free with
   |cons f eo =>
    have iz:decide ((((f::eo).length:Nat):Int)>0)=true:=hN (by simp only[lJ];omega);simp only[lJ] at iz;simp only[go_sem,go_sem_proc,ET,EU,J,X,ec,iz,al,b3,cA,bY];rw[Y (by simp)]
    all_goals rfl
   |nil =>
    simp only[go_sem,go_sem_proc,ET,EU,J,X,ec,al,show decide (((0:Nat):Int)>0)=false from rfl,bY,o2,b3,cA];rw[aa (by simp)];refine dd [1,6] [] (λ((i,g):Nat×Nat) tm m=>i<=D rs/\tm 10=.H (.int .i64 i)/\tm 9=.ref 189039 g 4 0 i/\m 189039=some (g,aU az ((rows.take i).map (·.2)))) (λ(i,_)=>D rs-i) (0,0) (by refine⟨fL _,rfl,rfl,rfl⟩) ?_;intro vs ms aQ aM;simp only[go_sem,go_sem_proc,ET,EU] at aQ aM;subst aQ aM;rintro⟨i,g⟩ tm m I-⟨O7,du,eP,abp⟩;simp only[go_sem,go_sem_proc,ET,EU,bj] at I;obtain⟨F,bX⟩:=I;rcases dn (i<D rs) with ah|bW
    ·obtain⟨⟨A,⟨cz,cY⟩,⟨eA,eQ⟩⟩,L⟩:∃x,rows[i]?=some x:=⟨_,bh (by omega)⟩;have mK:((rows.take i).map (·.2)).length=i:=by rw[al,gP];omega
     have c9:=kx jj v8 189039 g 64 ((rows.take i).map (·.2)) ((cz,cY),(eA,eQ)) (cs:=[.H (.int .i64 cz),.H (.ax (cY.map aI)),.H (.int .i64 eA),.H (.ax (eQ.map aI))]) rfl (by omega) (by omega);rw[mK] at c9
     have Pl:(rows.take i).map (·.2)++[((cz,cY),(eA,eQ))]=(rows.take (i+1)).map (·.2):=by
      rw[hZ,L,kE];rfl
     rw[Pl] at c9;have d1:decide ((i:Int)<(D rs:Int))=true:=cX;have bF:=eI (i:=i) (by omega);simp only[go_sem,go_sem_proc,ET,EU,F,bX,eP,du,abp,L,c9,d1,bF,dQ,az,al,bm];exact⟨(i+1,g+1),by dsimp only;omega,by dsimp only;omega,rfl,rfl,rfl⟩
    ·obtain rfl:i=D rs:=by omega
     have d1:decide ((D rs:Int)<(D rs:Int))=false:=b7;have ea:rows.take (D rs)=rows:=dD (by omega);rw[ea] at abp
     have ky:∀n,cV (n+1) m (.ref 189039 g 4 0 (D rs))=some (.ax ((rows.map (·.2)).map az)):=λn=>by
      have:=k6 (n:=n) jj abp;rw[show (rows.map (·.2)).length=(D rs) by rw[al];omega] at this
      exact this
     have aBk:=ky 4;simp only[go_sem,go_sem_proc,ET,EU,F,bX,eP,du,d1];rw[aBk]
     rfl

def mM (r:cI):List bz:=r.1++[r.2]
def nc (b2:List dz)(bC:List cI):Prop:=b2.map (·.2.2)=bC.map mM
def nc.len {b2:List dz}{bC:List cI}(h:nc b2 bC):(D b2)=D bC:=by
 have:=congrArg D h
 simpa using this
def nc.at_ {b2:List dz}{bC:List cI}(h:nc b2 bC){i:Nat}{x:dz}{r:cI}(L:b2[i]?=some x)(X:bC[i]?=some r):x.2.2=mM r:=by
 have:=congrArg (λl:List (List bz)=>l[i]?) h;simp only[bm,L,X,ks,cF] at this;exact this
def abq {N c:Nat}{x:dz}{r:cI}(h:x.2.2=mM r)(aq:r.1.length=N)(J:c<N):cellOf x c=jO r c:=by
 unfold cellOf jO;rw[h,eD,eD];unfold mM;rw[qi (by omega)]
def abr {α:Type}{op:α->bz×Int}{e:α->bz}:∀l:List α,(nM op e l).2=l.all λa=>(op a).2==0
 | []=>rfl
 |a::r=>by
  unfold nM;rw[vx];rcases h:((op a).2==0)
  ·rfl
  ·simp only[if_true,fN];exact abr r
def alL {α:Type}{op:α->bz×Int}{e:α->bz}{l:List α}(h:(l.all λa=>(op a).2==0)=true):(nM op e l).1=l.map λa=>(op a).1:=by
 rw[Uk λa aZ=>by have:=nt.1 h a aZ;simpa using this]
def aBl {α:Type}(f:α->Int)(l:List α):(l.any λa=>f a != 0) = !(l.all λa=>f a==0):=by
 rw[List.not_all_eq_any_not]
 rfl
def aBm (r:cI)(c:Nat):(hJ (jO r c) (mM r)).2 = !(ka r c).2/\((ka r c).2=true->(hJ (jO r c) (mM r)).1=mM (ka r c).1):=by
 have J:r.1.getD c cW=jO r c:=rfl;unfold hJ ka mM;rw[J,aBl,KD,abr];rcases h:(r.1.all λa=>(gn a (jO r c)).2==0)
 ·simp
 ·rw[alL h];simp
def alM (a f b:bz):((j9 a f b).2==0)=((jx f b).2==0&&(l0 a (jx f b).1).2==0):=by
 unfold j9;rcases h:((jx f b).2==0)
 ·simp only[k1,if_false,e9,h]
 ·simp only[if_true,fN]
def aBn {a f b:bz}(h:((j9 a f b).2==0)=true):(j9 a f b).1=(l0 a (jx f b).1).1:=by
 rw[alM,fC] at h;unfold j9;rw[Y h.1]
def alN (f:bz):∀(l p:List bz),D l=(D p)->(iZ f l p false).2 = !((l.zip p).all λa=>(j9 a.1 f a.2).2==0)/\(((l.zip p).all λa=>(j9 a.1 f a.2).2==0)=true->(iZ f l p false).1=(l.zip p).map λa=>(j9 a.1 f a.2).1)
 | [],[],_=>by simp[iZ]
 |a::l,[],h=>by simp at h
 | [],b::p,h=>by simp at h
 |a::l,b::p,h=>by
  obtain⟨i1,i2⟩:=alN f l p (by simpa using h)
  have gw:((jx f b).2 != 0||(l0 a (jx f b).1).2 != 0) = !((j9 a f b).2==0):=by
   rw[alM];simp only[bne,Bool.not_and]
  simp only[iZ,abt,vx,eE];rw[gw];rcases I:((j9 a f b).2==0)
  ·rw[cA,O1];simp
  ·rw[b3];refine⟨by rw[i1];simp,λa1=>?_⟩
   rw[fN] at a1;rw[i2 a1,aBn I]
def aBo {x p:cI}(h:x.1.length=p.1.length)(c:Nat):(iZ (jO x c) (mM x) (mM p) false).2 = !(rF x p c).2/\((rF x p c).2=true->(iZ (jO x c) (mM x) (mM p) false).1=mM (rF x p c).1):=by
 have J:x.1.getD c cW=jO x c:=rfl;obtain⟨cU,dc⟩:=alN (jO x c) (mM x) (mM p) (by simp[mM,h])
 have a2:(mM x).zip (mM p)=x.1.zip p.1++[(x.2,p.2)]:=by
  unfold mM;rw[List.zip_append h]
  rfl
 rw[a2,KD] at cU dc;unfold rF;rw[J,abr];rcases I:((x.1.zip p.1).all λa:bz×bz=>(j9 a.1 (jO x c) a.2).2==0)
 ·rw[I] at cU;simp only[e9,cA] at cU;rw[cU];simp
 ·rw[I] at cU dc;simp only[vx,List.all_nil,Bool.and_true,fN] at cU dc;rw[cU,alL I];simp only[if_true];refine⟨trivial,λa1=>?_⟩;rw[dc a1,kE]
  rfl
def Ux (gh:List bz)(r c:Nat):∀(i:Nat) (l:List dz),(jl gh r c i l true).2=true
 |_,[]=>rfl
 |i,x::xs=>by
  unfold jl
  split
  ·exact Ux gh r c (i+1) xs
  ·rw[O1];exact Ux gh r c (i+1) xs
def alO {N r c:Nat}{p:cI}(aE:p.1.length=N)(J:c<N):∀(i:Nat) (b2:List dz) (bC:List cI),nc b2 bC->(∀y∈bC,y.1.length=N) ->
  (jl (mM p) r c i b2 false).2 = !(h5 p r c i bC).2/\((h5 p r c i bC).2=true->nc (jl (mM p) r c i b2 false).1 (h5 p r c i bC).1)
 |i,[],[],_,_=>by simp[jl,h5,nc]
 |i,x::b2,[],h,_=>by simp[nc] at h
 |i,[],y::bC,h,_=>by simp[nc] at h
 |i,x::b2,y::bC,h,aq=>by
  unfold nc at h;rw[eE,eE,bj] at h;obtain⟨g0,aBp⟩:=h;have Uq:=aq y g1;obtain⟨i1,i2⟩:=alO (r:=r) aE J (i+1) b2 bC aBp λz a2=>aq z (iG _ a2);have nY:=abq g0 Uq J;unfold jl;rw[nY,g0]
  by_cases R:(i==r||hd (jO y c))=true
  ·rw[Y R,alz R];refine⟨i1,λa1=>?_⟩;have:=i2 a1;unfold nc at this ⊢;rw[eE,eE,this,g0]
  ·rw[aa R];obtain⟨cU,dc⟩:=aBo (x:=y) (p:=p) (by omega) c;rcases I:(rF y p c).2
   ·rw[alB R I];rw[I] at cU;dsimp only;rw[cU,cA,Ux];simp
   ·rw[alA R I];rw[I] at cU;dsimp only;rw[cU,b3];refine⟨i1,λa1=>?_⟩;have:=i2 a1;unfold nc at this ⊢;rw[eE,eE,this,dc I]
def aBq {N r c:Nat}{b2:List dz}{bC:List cI}(h:nc b2 bC)(aq:∀y∈bC,y.1.length=N)(J:c<N):findAt b2 r c=gV bC r c:=by
 have a2:(b2.drop r).map (λx => !hd (cellOf x c))=(bC.drop r).map λx => !hd (jO x c):=by
  apply pE;intro i;rw[bm,bm,q6,q6];have hlen:=h.len;rcases hO (r+i) (D bC) with O|O
  ·have L:b2[r+i]?=some b2[r+i]:=bh (by omega);have X:bC[r+i]?=some bC[r+i]:=bh O;rw[L,X,ks,ks,abq (h.at_ L X) (aq _ (mh O)) J]
  ·rw[jZ (by omega),jZ O]
   rfl
 have F:∀(l:List dz),(l.findIdx λx => !hd (cellOf x c))=(l.map λx => !hd (cellOf x c)).findIdx id:=λl=>by rw[alP];rfl
 have G:∀(l:List cI),(l.findIdx λx => !hd (jO x c))=(l.map λx => !hd (jO x c)).findIdx id:=λl=>by rw[alP];rfl
 unfold findAt gV;rw[F,G,a2]
def nc.set {b2:List dz}{bC:List cI}(h:nc b2 bC){i:Nat}{x:dz}{r:cI}(m9:x.2.2=mM r):nc (b2.set i x) (bC.set i r):=by
 unfold nc at h ⊢;rw[xD,xD,h,m9]
def abu (stop:Bool){N:Nat}:∀(k c:Nat) (b2:List dz) (bC:List cI) (r:Nat) (free:List Nat),c+k=N->r+D free=c->nc b2 bC->rG N bC ->
  (mv stop k c b2 free false).2.2 = !(oM stop k c bC r free).2.2/\((oM stop k c bC r free).2.2=true->nc (mv stop k c b2 free false).1 (oM stop k c bC r free).1/\(mv stop k c b2 free false).2.1=(oM stop k c bC r free).2.1)
 |0,c,b2,bC,r,free,_,_,h,_=>⟨rfl,λ_=>⟨h,rfl⟩⟩
 |k+1,c,b2,bC,r,free,J,X,h,cw=>by
  have uY:c<N:=by omega
  have aBr:∀y∈bC,y.1.length=N:=λy aj=>(cw.2 y aj).1;have hlen:=h.len;have OP:=cw.1;have alQ:=aBq (r:=r) h aBr uY;have jU:c-D free=r:=by omega
  unfold mv;rw[jU]
  by_cases aH:gV bC r c=D bC
  ·have aE:ja b2 r c=(true,b2,false):=by unfold ja;rw[alQ,Y (by rw[hlen];exact aH)]
   rw[alC aH,aE];rw[Y rfl]
   cases stop
   ·rw[aa (by simp),aa (by simp)];exact abu false k (c+1) b2 bC r (free++[c]) (by omega) (by simp;omega) h cw
   ·rw[Y rfl,Y rfl];exact⟨rfl,λ_=>⟨h,rfl⟩⟩
  ·have aE:ja b2 r c=(false,jl (hJ (cellOf (rowAt (nK b2 r (gV bC r c)) r) c) (rowAt (nK b2 r (gV bC r c)) r).2.2).1 r c 0 (CO (nK b2 r (gV bC r c)) r c) (hJ (cellOf (rowAt (nK b2 r (gV bC r c)) r) c) (rowAt (nK b2 r (gV bC r c)) r).2.2).2):=by unfold ja;rw[alQ,aa (by rw[hlen];exact aH)]
   rw[aE];rw[aa (by simp)];have hle:=abo bC r c (by omega);generalize R:gV bC r c=s at *;have xJ:s<N:=by omega
   have pf:r<N:=by omega
   obtain⟨xs,rh⟩:∃x,b2[s]?=some x:=⟨_,bh (by omega)⟩;obtain⟨ys,Gf⟩:∃x,bC[s]?=some x:=⟨_,bh (by omega)⟩;obtain⟨sv,m9⟩:∃x,b2[r]?=some x:=⟨_,bh (by omega)⟩;obtain⟨KK,qO⟩:∃x,bC[r]?=some x:=⟨_,bh (by omega)⟩;have rB:nK b2 r s=(b2.set r xs).set s sv:=by unfold nK;rw[uX rh,uX m9]
   have aBs:na bC r s=(bC.set r ys).set s KK:=by unfold na;rw[ER Gf,ER qO]
   have aBt:nc ((b2.set r xs).set s sv) ((bC.set r ys).set s KK):=(h.set (h.at_ rh Gf)).set (h.at_ m9 qO);have aBu:((b2.set r xs).set s sv)[r]?=some xs:=O2 rh m9;have aBv:((bC.set r ys).set s KK)[r]?=some ys:=O2 Gf qO;have g0:=h.at_ rh Gf;have abv:=cw.2 _ (dy Gf);have aBw:rG N ((bC.set r ys).set s KK):=(cw.set abv).set (cw.2 _ (dy qO));rw[alD (by rw[R];exact aH) (by rw[R];exact aBs) (ER aBv)];unfold CO;rw[rB,uX aBu,g0,abq g0 abv.1 uY];obtain⟨d1,d2⟩:=aBm ys c;rcases Z:(ka ys c).2
   ·rw[Z] at d1;rw[d1,cA,aa (by simp)];have ad:=λl=>Ux (hJ (jO ys c) (mM ys)).1 r c 0 l;rw[ad,T3];exact⟨rfl,λa1=>absurd a1 (by simp)⟩
   ·rw[Z] at d1;rw[d1,b3,Y rfl,d2 Z];have hE:=abm abv c;have aBx:nc (((b2.set r xs).set s sv).set r (xs.1,xs.2.1,mM (ka ys c).1)) (((bC.set r ys).set s KK).set r (ka ys c).1):=aBt.set rfl;have qN:=aBw.set (i:=r) hE;obtain⟨e2,fa⟩:=alO (r:=r) hE.1 uY 0 _ _ aBx λy aj=>(qN.2 y aj).1;have nN:=Ps (p:=(ka ys c).1) (r:=r) (c:=c) hE.1 0 _ qN.2;rcases mo:(h5 (ka ys c).1 r c 0 (((bC.set r ys).set s KK).set r (ka ys c).1)).2
    ·rw[mo] at e2;rw[e2,cA,T3,aa (by simp)];exact⟨rfl,λa1=>absurd a1 (by simp)⟩
    ·rw[mo] at e2;rw[e2,b3,Y rfl];exact abu stop k (c+1) _ _ (r+1) free (by omega) (by omega) (fa mo) ⟨nN.1.trans qN.1,nN.2⟩
def aBy (rs:List cI):nc (ik rs) rs:=by
 unfold nc ik;rw[pJ];apply pE;intro i;rw[bm,bm,T0]
 cases rs[i]?<;>rfl
def aBz (stop:Bool){rs:List cI}(cw:rG (D rs) rs):(pg stop rs).2.2 = !(uZ stop rs).2.2/\((uZ stop rs).2.2=true->nc (pg stop rs).1 (uZ stop rs).1/\(pg stop rs).2.1=(uZ stop rs).2.1) :=
 abu stop (D rs) 0 (ik rs) rs 0 [] (by omega) rfl (aBy rs) cw
def aBA {rs:List cI}(bw:uQ rs)(n:Int):tF rs n=Pw rs n:=by
 unfold tF Pw;rcases X:j7 rs n
 ·rfl
 obtain⟨rfl,fA,cw⟩:=alK bw X;obtain⟨F,G⟩:=aBz true cw;have nN:=Uv true (D rs) 0 rs 0 [] (by omega) (by omega) cw
 change rG (D rs) (uZ true rs).1 at nN
 rcases di:(uZ true rs).2.2
 ·rw[F,di];rfl
 ·obtain⟨ab,aV⟩:=G di;rw[F,di,aV];simp only[if_true,b3,k1,if_false]
  split
  ·rfl
  ·rw[fq];refine⟨?_,rfl⟩;apply pE;intro i;rw[bm,bm];have hlen:=ab.len;rcases hO i (uZ true rs).1.length with O|O
   ·have L:(pg true rs).1[i]?=some _:=bh (by omega);have aj:(uZ true rs).1[i]?=some _:=bh O;rw[L,aj,ks,ks];have he:=ab.at_ L aj;have aq:=(nN.2 _ (dy aj)).1;unfold wm;rw[he];unfold mM;rw[eD,ov (by omega),aq,j0]
    rfl
   ·rw[jZ (by omega),jZ O];rfl
def bR:Nat->(Nat->Rat)->Rat
 |0,_=>0
 |n+1,f=>bR n f+f n
def lE {n:Nat}{f g:Nat->Rat}(h:∀k,k<n->f k=g k):bR n f=bR n g:=by
 induction n with
 |zero=>rfl
 |succ n aG=>rw[bR,bR,aG λk I=>h k (by omega),h n (by omega)]
def xK (n:Nat)(f g:Nat->Rat):bR n (λk=>f k+g k)=bR n f+bR n g:=by
 induction n with
 |zero=>simp[bR,rH]
 |succ n aG=>rw[bR,bR,bR,aG];grind
def CW (n:Nat)(c:Rat)(f:Nat->Rat):bR n (λk=>c*f k)=c*bR n f:=by
 induction n with
 |zero=>simp[bR,rI]
 |succ n aG=>rw[bR,bR,aG];grind
def u0 {n:Nat}{f:Nat->Rat}(h:∀k,k<n->f k=0):bR n f=0:=by
 induction n with
 |zero=>rfl
 |succ n aG=>rw[bR,aG λk I=>h k (by omega),h n (by omega)];exact rH 0
def AM {n:Nat}{f:Nat->Rat}{j:Nat}(ae:j<n)(h:∀k,k<n->k≠j->f k=0):bR n f=f j:=by
 induction n with
 |zero=>omega
 |succ n aG =>
  rw[bR]
  by_cases aL:j=n
  ·subst aL;rw[u0 λk I=>h k (by omega) (by omega)];grind
  ·rw[aG (by omega) λk I=>h k (by omega),h n (by omega) (by omega)];grind
def aBB (n m:Nat)(f:Nat->Nat->Rat):bR n (λi=>bR m (λj=>f i j))=bR m (λj=>bR n (λi=>f i j)):=by
 induction n with
 |zero=>rw[bR,u0];intro k I;rfl
 |succ n aG =>
  rw[bR,aG,<-xK]
  rfl
abbrev e4:=Nat->Nat->Rat
def nO (N:Nat)(a y:Nat->Rat):Rat:=bR (N+1) λk=>a k*y k
def jn (N:Nat)(A:e4)(y:Nat->Rat):Prop:=∀i,i<N->nO N (A i) y=0
def il (A:e4)(r s:Nat):e4:=λi=>if i=s then A r else if i=r then A s else A i
def p0 (A:e4)(r c s:Nat):e4:=λi k=>if i=r then il A r s r k/il A r s r c else il A r s i k-il A r s i c*(il A r s r k/il A r s r c)
def Uy (A:e4)(r s:Nat):il A r s r=A s:=by
 unfold il
 by_cases h:r=s
 ·simp[h]
 ·simp[h]
def aBC {N r s:Nat}{A:e4}{y:Nat->Rat}(X:r<N)(R:s<N):jn N (il A r s) y↔jn N A y:=by
 unfold jn il
 constructor
 ·intro h i O
  by_cases F:i=r
  ·have:=h s R;simp at this;rw[F];exact this
  ·by_cases G:i=s
   ·have:=h r X;rw[G]
    by_cases ab:r=s
    ·omega
    ·simp[ab] at this;exact this
   ·have:=h i O;simp[F,G] at this;exact this
 ·intro h i O
  by_cases G:i=s
  ·simp[G];exact h r X
  ·by_cases F:i=r
   ·have:=h s R;rw[aa G,Y F];exact this
   ·simp[F,G];exact h i O
def aBD (N:Nat)(a b y:Nat->Rat)(x:Rat):nO N (λk=>a k-x*b k) y=nO N a y-x*nO N b y:=by
 unfold nO;have:(λk=>(a k-x*b k)*y k)=λk=>a k*y k+(-x)*(b k*y k):=by funext k;grind
 rw[this,xK,CW];grind
def alR (N:Nat)(a y:Nat->Rat)(x:Rat):nO N (λk=>a k/x) y=nO N a y/x:=by
 unfold nO;have:(λk=>(a k/x)*y k)=λk=>(1/x)*(a k*y k):=by funext k;grind
 rw[this,CW];grind
def abw {N r s c:Nat}{A:e4}{y:Nat->Rat}(X:r<N)(R:s<N)(b8:A s c≠0):jn N (p0 A r c s) y↔jn N A y:=by
 rw[<-aBC (A:=A) X R];have aPM:il A r s r c≠0:=by rw[Uy];exact b8
 generalize cZ:il A r s=S at *
 have d1:∀i,i≠r->nO N (p0 A r c s i) y=nO N (S i) y-S i c*(nO N (S r) y/S r c):=by
  intro i O;have:p0 A r c s i=λk=>S i k-S i c*(S r k/S r c):=by funext k;unfold p0;rw[cZ,aa O]
  rw[this,aBD N (S i) (λk=>S r k/S r c) y (S i c),alR]
 have d2:nO N (p0 A r c s r) y=nO N (S r) y/S r c:=by
  have:p0 A r c s r=λk=>S r k/S r c:=by funext k;unfold p0;rw[cZ,Y rfl]
  rw[this,alR]
 unfold jn
 constructor
 ·intro h
  have ay:nO N (S r) y=0:=by
   have:=h r X;rw[d2] at this;generalize nO N (S r) y=d at *;grind
  intro i O
  by_cases qP:i=r
  ·rw[qP];exact ay
  ·have:=h i O;rw[d1 i qP,ay] at this;generalize nO N (S i) y=d at *;grind
 ·intro h i O;have ay:=h r X
  by_cases qP:i=r
  ·rw[qP,d2,ay];grind
  ·rw[d1 i qP,ay,h i O];grind
structure sA (N:Nat) (aR:e4) (p c:Nat) (ei:Nat->Nat):Prop where
 mY:p<=c
 lt:∀j,j<p->ei j<c
 unit:∀j,j<p->∀i,i<N->aR i (ei j)=if i=j then 1 else 0
 zero:∀i,p<=i->i<N->∀k,k<c->aR i k=0
def sA.free {N p c:Nat}{aR:e4}{ei:Nat->Nat}(h:sA N aR p c ei)(a2:∀i,p<=i->i<N->aR i c=0):sA N aR p (c+1) ei :=
 ⟨by have:=h.mY;omega,λj ae=>by have:=h.lt j ae;omega,h.unit,λi O fA k I=>by
  by_cases Ex:k=c
  ·rw[Ex];exact a2 i O fA
  ·exact h.zero i O fA k (by omega)⟩
def sA.Hy {N p c s:Nat}{aR:e4}{ei:Nat->Nat}(h:sA N aR p c ei)(aE:p<N)(R:p<=s)(xJ:s<N)(b8:aR s c≠0):sA N (p0 aR p c s) (p+1) (c+1) (λj=>if j=p then c else ei j):=by
 have cZ:∀i,i<N->∃bn,bn<N/\il aR p s i=aR bn/\(i<p->bn=i)/\(p<=i->p<=bn):=by
  intro i O;unfold il
  by_cases F:i=s
  ·exact⟨p,aE,by rw[Y F],by omega,by omega⟩
  ·by_cases G:i=p
   ·exact⟨s,xJ,by rw[aa F,Y G],by omega,by omega⟩
   ·exact⟨i,O,by rw[aa F,aa G],by omega,by omega⟩
 have aPN:il aR p s p c≠0:=by rw[Uy];exact b8
 have a2:∀i,p<=i->i<N->∀k,k<c->il aR p s i k=0:=by
  intro i O fA k I;obtain⟨bn,F,G,-,aV⟩:=cZ i fA;rw[G];exact h.zero bn (aV O) F k I
 refine⟨by have:=h.mY;omega,λj ae=>?_,λj ae i O=>?_,λi O fA k I=>?_⟩
 ·show (if j=p then c else ei j)<c+1
  split
  ·omega
  ·have:=h.lt j (by omega);omega
 ·unfold p0
  by_cases KL:j=p
  ·simp only[KL,if_true]
   by_cases nd:i=p
   ·rw[Y nd,Y nd];grind
   ·rw[aa nd,aa nd];grind
  ·simp only[KL,if_false];have q5:j<p:=by omega
   have au:il aR p s p (ei j)=0:=a2 p (cl _) aE _ (h.lt j q5);rw[au]
   by_cases nd:i=p
   ·rw[Y nd,aa (by omega)];grind
   ·rw[aa nd];obtain⟨bn,F,G,ab,aV⟩:=cZ i O;rw[G,h.unit j q5 bn F];rcases hO i p with ah|bW
    ·rw[ab ah];grind
    ·rw[aa (by have:=aV bW;omega),aa (by omega)];grind
 ·unfold p0;rw[aa (by omega)]
  by_cases Ex:k=c
  ·subst Ex;grind
  ·rw[a2 i (by omega) fA k (by omega),a2 p (cl _) aE k (by omega)];grind
def Uz (N:Nat)(aR:e4)(ei:Nat->Nat):sA N aR 0 0 ei:=⟨cl _,λj ae=>by omega,λj ae=>by omega,λi O fA k I=>by omega⟩
end Go.Mini
namespace Go.Mini
open Classical
structure ej where
 aF:Nat
 to:Int
 rk:Nat
 am:Rat
def HF {a b:Rat}(h:a=b):a<=b:=by rw[h];exact hp
def cC:List ej->(ej->Rat)->Rat
 | [],_=>0
 |c::l,aO=>aO c+cC l aO
def wv {l:List ej}{aO bs:ej->Rat}(h:∀c∈l,aO c=bs c):cC l aO=cC l bs:=by
 induction l with
 |nil=>rfl
 |cons c l aG=>rw[cC,cC,h c g1,aG λx L=>h x (iG _ L)]
def UA (l:List ej)(aO bs:ej->Rat):cC l (λc=>aO c+bs c)=cC l aO+cC l bs:=by
 induction l with
 |nil=>simp only[cC];grind
 |cons c l aG=>rw[cC,cC,cC,aG];grind
def Px (l:List ej)(aO bs:ej->Rat):cC l (λc=>aO c-bs c)=cC l aO-cC l bs:=by
 induction l with
 |nil=>simp only[cC];grind
 |cons c l aG=>rw[cC,cC,cC,aG];grind
def UB (l:List ej)(a:Rat)(aO:ej->Rat):cC l (λc=>a*aO c)=a*cC l aO:=by
 induction l with
 |nil=>simp only[cC];grind
 |cons c l aG=>rw[cC,cC,aG];grind
def HG {l:List ej}{aO:ej->Rat}(h:∀c∈l,aO c=0):cC l aO=0:=by
 induction l with
 |nil=>rfl
 |cons c l aG=>rw[cC,h c g1,aG λx L=>h x (iG _ L)];grind
def HH {l:List ej}{aO bs:ej->Rat}(h:∀c∈l,aO c<=bs c):cC l aO<=cC l bs:=by
 induction l with
 |nil=>exact hp
 |cons c l aG =>
  have F:=h c g1;have G:=aG λx L=>h x (iG _ L);rw[cC,cC];grind
def AO {l:List ej}{aO:ej->Rat}(h:∀c∈l,0<=aO c):0<=cC l aO:=by
 have:=HH (l:=l) (aO:=λ_=>0) (bs:=aO) h;rwa [HG λ_ _=>rfl] at this
def abx {l:List ej}{aO:ej->Rat}(h:∀c∈l,0<=aO c)(R:cC l aO<=0):∀c∈l,aO c=0:=by
 induction l with
 |nil=>intro c J;cases J
 |cons c l aG =>
  rw[cC] at R;have F:=h c g1;have G:=AO λx L=>h x (iG c L);intro x L;rcases n2.1 L with rfl|L
  ·grind
  ·exact aG (λy aj=>h y (iG _ aj)) (by grind) x L
def aBE {l:List ej}{aO bs:ej->Rat}(h:∀c∈l,aO c<=bs c){l5:ej}(J:l5∈l)(ah:aO l5<bs l5):cC l aO<cC l bs:=by
 by_cases R:cC l aO<cC l bs
 ·exact R
 ·have:=abx (l:=l) (aO:=λc=>bs c-aO c) (λc J=>by have:=h c J;grind) (by rw[Px];grind) l5 J;grind
def aby {l:List ej}{aO:ej->Rat}(h:0<cC l aO):∃c∈l,0<aO c:=by
 apply mN;intro aL
 have:=HH (l:=l) (aO:=aO) (bs:=λ_=>0) λc J=>by
  apply mN;intro G;exact aL ⟨c,J,by grind⟩
 rw[HG (aO:=λ_=>(0:Rat)) λ_ _=>rfl] at this;grind
def Py {n:Nat}{f g:Nat->Rat}(h:∀k,k<n->f k<=g k):bR n f<=bR n g:=by
 induction n with
 |zero=>exact hp
 |succ n aG =>
  have F:=h n (by omega);have G:=aG λk I=>h k (by omega);rw[bR,bR];grind
def alS {n:Nat}{f:Nat->Rat}(h:∀k,k<n->0<=f k):0<=bR n f:=by
 have:=Py (n:=n) (f:=λ_=>0) (g:=f) h;rwa [u0 λ_ _=>rfl] at this
def KM (n:Nat)(f g:Nat->Rat):bR n (λk=>f k-g k)=bR n f-bR n g:=by
 induction n with
 |zero=>simp only[bR];grind
 |succ n aG=>rw[bR,bR,bR,aG];grind
def aBF {n:Nat}{f:Nat->Rat}(h:∀k,k<n->0<=f k)(R:bR n f<=0):∀k,k<n->f k=0:=by
 induction n with
 |zero=>intro k I;omega
 |succ n aG =>
  rw[bR] at R;have F:=h n (by omega);have G:=alS (n:=n) (f:=f) λk I=>h k (by omega);intro k I
  by_cases AP:k=n
  ·subst AP;grind
  ·exact aG (λk I=>h k (by omega)) (by grind) k (by omega)
def sB (C:Nat->Prop)(c:ej):Prop:=∃i:Nat,c.to=i/\C i
def abz {n:Nat}(C:Nat->Prop)(lF:∀i,C i->i<n)(l:List ej)(a:ej->Rat):bR n (λi=>if C i then cC l (λc=>if c.to=(i:Int) then a c else 0) else 0)=cC l (λc=>if sB C c then a c else 0):=by
 induction l with
 |nil=>exact u0 λk _=>by split<;>rfl
 |cons c l aG =>
  rw[cC,<-aG]
  have e:(λi:Nat=>if C i then cC (c::l) (λc=>if c.to=(i:Int) then a c else 0) else 0)=λi=>(if C i then (if c.to=(i:Int) then a c else 0) else 0)+(if C i then cC l (λc=>if c.to=(i:Int) then a c else 0) else 0):=by
   funext i
   split
   ·rw[cC]
   ·grind
  rw[e,xK]
  congr 1
  by_cases h:sB C c
  ·obtain⟨i,O,abA⟩:=h
   rw[AM (lF i abA) λk I uv=>by
    split
    ·rw[aa (by omega)]
    ·rfl]
   rw[Y abA,Y O,Y ⟨i,O,abA⟩]
  ·rw[aa h];refine u0 λk I=>?_
   split
   ·rw[aa λiP=>h ⟨k,iP,by assumption⟩]
   ·rfl
def abB {n:Nat}{l:List ej}(aq:∀c∈l,c.aF<n)(b:Nat->ej->Rat):bR n (λk=>cC l (λc=>if c.aF=k then b k c else 0))=cC l (λc=>b c.aF c):=by
 induction l with
 |nil=>exact u0 λk _=>rfl
 |cons c l aG =>
  rw[cC,<-aG λx L=>aq x (iG _ L)];have e:(λk:Nat=>cC (c::l) (λc=>if c.aF=k then b k c else 0))=λk=>(if c.aF=k then b k c else 0)+cC l (λc=>if c.aF=k then b k c else 0):=rfl;rw[e,xK]
  congr 1
  rw[AM (aq c g1) λk _ I=>aa (Ne.symm I),Y rfl]
structure Day where
 n:Nat
 cash:Nat->Rat
 dE:List ej
structure Day.dJ (d:Day):Prop where
 aF:∀c∈d.dE,c.aF<d.n
 to:∀c∈d.dE,c.to<d.n
 rk:∀c∈d.dE,c.rk<10
 am:∀c∈d.dE,0<=c.am
 cash:∀i,i<d.n->0<=d.cash i
def Day.U (d:Day)(k r:Nat):Rat:=cC d.dE λc=>if c.aF=k/\c.rk<r then c.am else 0
def Day.S (d:Day)(k r:Nat):Rat:=cC d.dE λc=>if c.aF=k/\c.rk=r then c.am else 0
def Day.abC (d:Day)(k:Nat):d.U k 0=0:=HG λc _=>aa (by omega)
def Day.AQ (d:Day)(k r:Nat):d.U k (r+1)=d.U k r+d.S k r:=by
 unfold Day.U Day.S;rw[<-UA];refine wv λc _=>?_
 by_cases F:c.aF=k/\c.rk<r
 ·rw[Y ⟨F.1,by omega⟩,Y F,aa (by omega)];grind
 ·rw[aa F]
  by_cases G:c.aF=k/\c.rk=r
  ·rw[Y ⟨G.1,by omega⟩,Y G];grind
  ·rw[aa (by omega),aa G];grind
def Day.dJ.UC {d:Day}(Z:d.dJ)(k r:Nat):0<=d.S k r:=AO λc J=>by
 split
 ·exact Z.am c J
 ·exact hp
def Day.dJ.zg {d:Day}(Z:d.dJ)(k:Nat){r s:Nat}(h:r<=s):d.U k r<=d.U k s:=by
 induction s with
 |zero =>
      obtain rfl:r=0:=by omega
      exact hp
 |succ s aG =>
  by_cases X:r=s+1
  ·rw[X];exact hp
  ·have F:=aG (by omega);have G:=Z.UC k s;rw[d.AQ];grind
def Day.dJ.aBG {d:Day}(Z:d.dJ)(k r:Nat):0<=d.U k r:=by
 have:=Z.zg k (fL r);rwa [d.abC] at this
def Day.dJ.UD {d:Day}(Z:d.dJ){c:ej}(J:c∈d.dE):c.am<=d.S c.aF c.rk:=by
 have:∀l:List ej,(∀x∈l,0<=x.am)->c∈l->c.am<=cC l λx=>if x.aF=c.aF/\x.rk=c.rk then x.am else 0:=by
  intro l
  induction l with
  |nil=>intro _ h;cases h
  |cons x l aG =>
   intro F G;rw[cC]
   have ab:0<=cC l λx=>if x.aF=c.aF/\x.rk=c.rk then x.am else 0:=AO λy aj=>by
    split
    ·exact F y (iG _ aj)
    ·exact hp
   rcases n2.1 G with rfl|G
   ·rw[Y ⟨rfl,rfl⟩];grind
   ·have aV:=aG (λy aj=>F y (iG _ aj)) G;have bu:=F x g1
    split<;>grind
 exact this d.dE Z.am J
def Day.w (d:Day)(c:ej):Rat:=c.am/d.S c.aF c.rk
def Day.dJ.rJ {d:Day}(Z:d.dJ){c:ej}(J:c∈d.dE):0<=d.w c:=by
 unfold Day.w;have F:=Z.am c J;have G:=Z.UC c.aF c.rk;rw[abD]
 exact abE F (by
  rcases Rat.le_iff_lt_or_eq.1 G with h|h
  ·exact Rat.le_of_lt (alT.2 h)
  ·rw[<-h];exact HF Rat.inv_zero.symm)
def Day.dJ.abF {d:Day}(Z:d.dJ){c:ej}(J:c∈d.dE)(h:0<c.am):0<d.w c:=by
 unfold Day.w;have G:=Z.UD J;rw[abD];exact Pz h (alT.2 (by grind))
def Day.Hp {d:Day}{c:ej}(h:c.am=0):d.w c=0:=by
 unfold Day.w;rw[h,abD,KN]
def Day.HI {d:Day}{c:ej}(h:0<d.S c.aF c.rk):d.w c*d.S c.aF c.rk=c.am:=by
 unfold Day.w;grind
def Day.dJ.PA {d:Day}(Z:d.dJ)(C:Nat->Prop)(f:Nat->Nat)(cZ:∀k,C k->0<d.S k (f k))(x:Nat->Rat):cC d.dE (λc=>if C c.aF/\c.rk=f c.aF then d.w c*x c.aF else 0)=bR d.n (λk=>if C k then x k else 0):=by
 rw[<-abB Z.aF λk c=>if C k/\c.rk=f k then d.w c*x k else 0];refine lE λk I=>?_
 by_cases lF:C k
 ·rw[Y lF];have jt:=cZ k lF
  have e:cC d.dE (λc=>if c.aF=k then (if C k/\c.rk=f k then d.w c*x k else 0) else 0)=cC d.dE λc=>(x k/d.S k (f k))*(if c.aF=k/\c.rk=f k then c.am else 0):=by
   refine wv λc _=>?_
   by_cases F:c.aF=k
   ·by_cases G:c.rk=f k
    ·rw[Y F,Y ⟨lF,G⟩,Y ⟨F,G⟩];unfold Day.w;rw[F,G];grind
    ·rw[Y F,aa (λh=>G h.2),aa (λh=>G h.2)];grind
   ·rw[aa F,aa (λh=>F h.1)];grind
  rw[e,UB];show x k/d.S k (f k)*d.S k (f k)=x k;grind
 ·rw[aa lF]
  exact HG λc _=>by
   split
   ·rw[aa λh=>lF h.1]
   ·rfl
end Go.Mini
namespace Go.Mini
open Classical
def pos (x:Rat):Rat:=if x<=0 then 0 else x
def KO (x:Rat):0<=pos x:=by unfold pos;split<;>grind
def UE (x:Rat):x<=pos x:=by unfold pos;split<;>grind
def alU {x y:Rat}(h:x<=y):pos x<=pos y:=by unfold pos;split<;>split<;>grind
def AR {x:Rat}(h:0<=x):pos x=x:=by unfold pos;split<;>grind
def xL {x:Rat}(h:x<=0):pos x=0:=Y h
def HJ {a x y:Rat}(aZ:0<=a)(h:x<=y):a*x<=a*y:=Rat.mul_le_mul_of_nonneg_left h aZ
def u1 {a x:Rat}(aZ:0<=a)(h:0<=x):0<=a*x:=abE aZ h
def Day.q (d:Day)(f:Nat->Nat)(h:Nat->Rat)(c:ej):Rat:=if c.rk<f c.aF then c.am else if c.rk=f c.aF then d.w c*pos (h c.aF-d.U c.aF c.rk) else 0
def Day.l (d:Day)(f:Nat->Nat)(P:Nat->Prop)(h:Nat->Rat)(c:ej):Rat:=if c.rk<f c.aF then c.am else if c.rk=f c.aF/\P c.aF then d.w c*(h c.aF-d.U c.aF c.rk) else 0
def Day.fz (d:Day)(a:ej->Rat)(i:Nat):Rat:=d.cash i+cC d.dE λc=>if c.to=(i:Int) then a c else 0
def Day.HK {d:Day}{a b:ej->Rat}(h:∀c∈d.dE,a c<=b c)(i:Nat):d.fz a i<=d.fz b i:=by
 unfold Day.fz
 have:=HH (l:=d.dE) (aO:=λc=>if c.to=(i:Int) then a c else 0) (bs:=λc=>if c.to=(i:Int) then b c else 0) λc J=>by
  try dsimp only
  split
  ·exact h c J
  ·exact hp
 grind
def Day.alV {d:Day}{a b:ej->Rat}(h:∀c∈d.dE,a c=b c)(i:Nat):d.fz a i=d.fz b i:=by
 unfold Day.fz
 congr 1
 exact wv λc J=>by rw[h c J]
def Day.UF (d:Day)(a b:ej->Rat)(i:Nat):d.fz a i-d.fz b i=cC d.dE λc=>if c.to=(i:Int) then a c-b c else 0:=by
 unfold Day.fz
 have:(λc:ej=>if c.to=(i:Int) then a c-b c else 0)=λc=>(if c.to=(i:Int) then a c else 0)-(if c.to=(i:Int) then b c else 0):=by
  funext c;split<;>grind
 rw[this,Px];grind
def Day.hK (d:Day)(C:Nat->Prop)(x:Nat->Rat):Rat:=bR d.n λi=>if C i then x i else 0
def Day.aBH (d:Day)(C:Nat->Prop)(x y:Nat->Rat):d.hK C (λi=>x i-y i)=d.hK C x-d.hK C y:=by
 unfold Day.hK;rw[<-KM];exact lE λk _=>by split<;>grind
def Day.aBI (d:Day)(C:Nat->Prop)(x y:Nat->Rat):d.hK C (λi=>x i+y i)=d.hK C x+d.hK C y:=by
 unfold Day.hK;rw[<-xK];exact lE λk _=>by split<;>grind
def Day.alW {d:Day}{C:Nat->Prop}{x y:Nat->Rat}(h:∀i,i<d.n->C i->x i<=y i):d.hK C x<=d.hK C y:=by
 refine Py λk I=>?_
 by_cases J:C k
 ·rw[Y J,Y J];exact h k I J
 ·rw[aa J,aa J];exact hp
def Day.PB {d:Day}{C:Nat->Prop}{x y:Nat->Rat}(h:∀i,i<d.n->C i->x i=y i):d.hK C x=d.hK C y:=by
 refine lE λk I=>?_
 split
 ·exact h k I (by assumption)
 ·rfl
def Day.abG {d:Day}{C:Nat->Prop}(lF:∀i,C i->i<d.n)(a:ej->Rat):d.hK C (d.fz a)=d.hK C d.cash+cC d.dE λc=>if sB C c then a c else 0:=by
 rw[<-abz C lF];show bR d.n _=bR d.n _+_;rw[<-xK];refine lE λk _=>?_;unfold Day.fz
 split<;>grind
def Day.closed (d:Day)(f:Nat->Nat)(C:Nat->Prop):Prop:=∀c∈d.dE,C c.aF->c.rk=f c.aF->0<c.am->sB C c
def Day.cap (d:Day)(f:Nat->Nat)(g:Nat->Rat)(C:Nat->Prop)(k:Nat):Rat:=if C k then d.U k (f k) else g k
section
variable {d:Day} {f:Nat->Nat} {P:Nat->Prop} {h g:Nat->Rat} {C:Nat->Prop} {c:ej}
def Day.alX (F:c.rk<f c.aF):d.l f P h c=c.am:=by unfold Day.l;rw[Y F]
def Day.alY (F:c.rk=f c.aF)(G:P c.aF):d.l f P h c=d.w c*(h c.aF-d.U c.aF c.rk):=by
 unfold Day.l;rw[aa (by omega),Y ⟨F,G⟩]
def Day.abH (F:¬ c.rk<f c.aF)(G:¬ (c.rk=f c.aF/\P c.aF)):d.l f P h c=0:=by
 unfold Day.l;rw[aa F,aa G]
def Day.aBJ (F:c.rk<f c.aF):d.q f h c=c.am:=by unfold Day.q;rw[Y F]
def Day.aBK (F:c.rk=f c.aF):d.q f h c=d.w c*pos (h c.aF-d.U c.aF c.rk):=by
 unfold Day.q;rw[aa (by omega),Y F]
def Day.aBL (F:¬ c.rk<f c.aF)(G:¬ c.rk=f c.aF):d.q f h c=0:=by
 unfold Day.q;rw[aa F,aa G]
def PC (h:¬ C c.aF):d.q f (d.cap f g C) c=d.q f g c:=by
 unfold Day.q Day.cap;rw[aa h]
def KP (h:C c.aF):d.q f (d.cap f g C) c=if c.rk<f c.aF then c.am else 0:=by
 by_cases F:c.rk<f c.aF
 ·rw[Y F,Day.aBJ F]
 ·rw[aa F]
  by_cases G:c.rk=f c.aF
  ·rw[Day.aBK G];unfold Day.cap;rw[Y h,G,xL (by grind),rI]
  ·rw[Day.aBL F G]
end
structure Inv (d:Day) (f:Nat->Nat) (g:Nat->Rat):Prop where
 le:∀i,f i<=10
 sup:∀i,i<d.n->d.fz (d.q f g) i<=g i
 b6:∀i,i<d.n->f i<10->d.U i (f i)<=g i
 O:∀i,i<d.n->f i<10->g i<d.U i (f i+1)
 dE:∀C:Nat->Prop,(∃i,C i)->(∀i,C i->i<d.n/\f i<10)->d.closed f C->d.hK C (d.fz (d.q f (d.cap f g C)))<d.hK C λi=>d.U i (f i)
def Inv.ph {d:Day}{f:Nat->Nat}{g:Nat->Rat}(h:Inv d f g){i:Nat}(O:i<d.n)(aH:f i<10):0<d.S i (f i):=by
 have F:=h.b6 i O aH;have G:=h.O i O aH;rw[d.AQ] at G;grind
def Inv.start {d:Day}(Z:d.dJ):Inv d (λ_=>10) (d.fz λc=>c.am) :=
 ⟨λ_=>cl _,λi _=>d.HK (λc J=>by
  unfold Day.q;rw[Y (Z.rk c J)];exact hp) i,λi _ h=>absurd h (by omega),λi _ h=>absurd h (by omega),λC ⟨i,O⟩ h=>absurd (h i O).2 (by omega)⟩
def Inv.alZ {d:Day}{f:Nat->Nat}{g:Nat->Rat}(O:Inv d f g)(Z:d.dJ){C:Nat->Prop}(F:∃i,C i)(G:∀i,C i->i<d.n/\f i<10)(ab:d.closed f C)(c7:ej->Rat)(e:Nat->Rat)(he:∀k,k<d.n->C k->0<=e k)
  (fO:∀c∈d.dE,sB C c->c7 c<=d.q f (d.cap f g C) c+if C c.aF/\c.rk=f c.aF then d.w c*e c.aF else 0):d.hK C (d.fz c7)<d.hK C λi=>d.U i (f i)+e i:=by
 have cy:=O.dE C F G ab;have lF:∀i,C i->i<d.n:=λi h=>(G i h).1;have dw:=Z.PA C f (λk I=>O.ph (G k I).1 (G k I).2) e;rw[Day.abG lF] at cy ⊢;rw[Day.aBI]
 have dW:cC d.dE (λc=>if sB C c then c7 c else 0)<=cC d.dE λc=>(if sB C c then d.q f (d.cap f g C) c else 0)+(if C c.aF/\c.rk=f c.aF then d.w c*e c.aF else 0):=by
  refine HH λc J=>?_
  have ay:0<=if C c.aF/\c.rk=f c.aF then d.w c*e c.aF else 0:=by
   split
   ·exact u1 (Z.rJ J) (he _ (Z.aF c J) (by rename_i h;exact h.1))
   ·exact hp
  by_cases cP:sB C c
  ·rw[Y cP,Y cP];exact fO c J cP
  ·rw[aa cP,aa cP];grind
 rw[UA,dw] at dW;have fW:d.hK C e=bR d.n λk=>if C k then e k else 0:=rfl;rw[<-fW] at dW;grind
structure jz (d:Day) (f:Nat->Nat) (g:Nat->Rat) (P:Nat->Prop) (h:Nat->Rat):Prop where
 gz:∀i,P i->i<d.n/\f i<10
 UG:∀C:Nat->Prop,(∃i,C i)->(∀i,C i->P i)->¬ d.closed f C
 sys:∀i,i<d.n->h i=d.fz (d.l f P h) i
 le:∀i,i<d.n->h i<=g i
 ge:∀i,P i->d.U i (f i)<h i
def FQ {d:Day}{f:Nat->Nat}{g:Nat->Rat}(O:Inv d f g)(Z:d.dJ){P:Nat->Prop}(fF:∀i,P i->i<d.n/\f i<10)(bw:∀C:Nat->Prop,(∃i,C i)->(∀i,C i->P i)->¬ d.closed f C)(x:Nat->Rat)
  (L:∀i,i<d.n->(cC d.dE λc=>if c.to=(i:Int) then (if c.rk=f c.aF/\P c.aF then d.w c*x c.aF else 0) else 0)<=x i):∀i,i<d.n->0<=x i:=by
 have key:∀i,P i->0<=x i:=by
  intro i0 uH;apply mN;intro mI;obtain⟨C,wx⟩:∃C:Nat->Prop,∀i,C i↔P i/\x i<0:=⟨λi=>P i/\x i<0,λ_=>Iff.rfl⟩;have lF:∀i,C i->i<d.n:=λi h=>(fF i ((wx i).1 h).1).1;refine bw C ⟨i0,(wx i0).2 ⟨uH,by grind⟩⟩ (λi h=>((wx i).1 h).1) ?_
  have au:=abz C lF d.dE λc=>if c.rk=f c.aF/\P c.aF then d.w c*x c.aF else 0;have aC:=Z.PA C f (λk I=>O.ph (fF k ((wx k).1 I).1).1 (fF k ((wx k).1 I).1).2) x
  have bN:bR d.n (λi=>if C i then cC d.dE (λc=>if c.to=(i:Int) then (if c.rk=f c.aF/\P c.aF then d.w c*x c.aF else 0) else 0) else 0)<=bR d.n (λk=>if C k then x k else 0):=by
   refine Py λk I=>?_
   by_cases J:C k
   ·rw[Y J,Y J];exact L k I
   ·rw[aa J,aa J];exact hp
  rw[au,<-aC] at bN;have bK:=abx (l:=d.dE) (aO:=λc=>(if sB C c then (if c.rk=f c.aF/\P c.aF then d.w c*x c.aF else 0) else 0)-(if C c.aF/\c.rk=f c.aF then d.w c*x c.aF else 0)) (λc J=>?_) (by rw[Px];grind)
  ·intro c J hq iH zh;apply mN;intro cP;have:=bK c J
   try dsimp only at this
   rw[aa cP,Y ⟨hq,iH⟩] at this;have F:=Z.abF J zh;have G:=((wx _).1 hq).2;have ab:0<d.w c*(-x c.aF):=Pz F (by grind);grind
  ·try dsimp only
   have F:=Z.rJ J
   have ga:((if C c.aF/\c.rk=f c.aF then d.w c*x c.aF else 0)=(if c.rk=f c.aF/\P c.aF then d.w c*x c.aF else 0)/\(if C c.aF/\c.rk=f c.aF then d.w c*x c.aF else 0)<=0)\/((if C c.aF/\c.rk=f c.aF then d.w c*x c.aF else 0)=0/\0<=(if c.rk=f c.aF/\P c.aF then d.w c*x c.aF else 0)):=by
    by_cases hq:C c.aF/\c.rk=f c.aF
    ·left
     have G:=(wx _).1 hq.1;have ab:0<=d.w c*(-x c.aF):=u1 F (by have:=G.2;grind);have aV:c.rk=f c.aF/\P c.aF:=⟨hq.2,G.1⟩;rw[Y hq,Y aV];exact⟨rfl,by grind⟩
    ·right
     rw[aa hq];refine⟨rfl,?_⟩
     split
     ·rename_i G;refine u1 F ?_;apply mN;intro h;exact hq ⟨(wx _).2 ⟨G.2,by grind⟩,G.1⟩
     ·exact hp
   generalize (if C c.aF/\c.rk=f c.aF then d.w c*x c.aF else 0)=B at *;generalize (if c.rk=f c.aF/\P c.aF then d.w c*x c.aF else 0)=A at *;rcases ga with ⟨G,ab⟩|⟨G,ab⟩<;>split<;>grind
 intro i cP;refine xM ?_ (L i cP);refine AO λc J=>?_
 split
 ·split
  ·rename_i h;exact u1 (Z.rJ J) (key _ h.2)
  ·exact hp
 ·exact hp
def Day.aBM (d:Day)(f:Nat->Nat)(P:Nat->Prop)(h cn:Nat->Rat)(c:ej):d.l f P cn c-d.l f P h c=if c.rk=f c.aF/\P c.aF then d.w c*(cn c.aF-h c.aF) else 0:=by
 unfold Day.l
 by_cases F:c.rk<f c.aF
 ·rw[Y F,Y F,aa (by omega)];grind
 ·rw[aa F,aa F]
  split<;>grind
def aBN {d:Day}{f:Nat->Nat}{g:Nat->Rat}(O:Inv d f g)(Z:d.dJ){P:Nat->Prop}(fF:∀i,P i->i<d.n/\f i<10)(bw:∀C:Nat->Prop,(∃i,C i)->(∀i,C i->P i)->¬ d.closed f C){h cn:Nat->Rat}
  (e:∀i,i<d.n->h i=d.fz (d.l f P h) i) (e':∀i,i<d.n->cn i=d.fz (d.l f P cn) i):∀i,i<d.n->h i=cn i:=by
 have main:∀h cn:Nat->Rat,(∀i,i<d.n->h i=d.fz (d.l f P h) i)->(∀i,i<d.n->cn i=d.fz (d.l f P cn) i)->∀i,i<d.n->0<=cn i-h i:=by
  intro h cn e e';refine FQ O Z fF bw (λi=>cn i-h i) λi cP=>?_;rw[e i cP,e' i cP,d.UF];refine HF (wv λc J=>?_);rw[d.aBM]
 intro i cP;have F:=main h cn e e' i cP;have G:=main cn h e' e i cP;grind
def aBO {d:Day}{f:Nat->Nat}{g:Nat->Rat}(O:Inv d f g)(Z:d.dJ){P:Nat->Prop}(fF:∀i,P i->i<d.n/\f i<10)(bw:∀C:Nat->Prop,(∃i,C i)->(∀i,C i->P i)->¬ d.closed f C)(x:Nat->Rat)
  (L:∀i,i<d.n->x i=cC d.dE λc=>if c.to=(i:Int) then (if c.rk=f c.aF/\P c.aF then d.w c*x c.aF else 0) else 0):∀i,i<d.n->x i=0:=by
 intro i cP;have F:=FQ O Z fF bw x (λi cP=>HF (L i cP).symm) i cP;have G:=FQ O Z fF bw (λi => -x i) (λi cP=>?_) i cP
 ·grind
 ·rw[L i cP];refine HF ?_;have:∀aO:ej->Rat,-(cC d.dE aO)=cC d.dE λc=>(-1)*aO c:=λaO=>by rw[UB];grind
  rw[this];refine wv λc J=>?_
  split
  ·split<;>grind
  ·grind
def Day.aBP {d:Day}(Z:d.dJ){f:Nat->Nat}{P:Nat->Prop}{h g:Nat->Rat}(hle:∀i,i<d.n->h i<=g i){c:ej}(J:c∈d.dE):d.l f P h c<=d.q f g c:=by
 unfold Day.l Day.q
 by_cases F:c.rk<f c.aF
 ·rw[Y F,Y F];exact hp
 ·rw[aa F,aa F]
  by_cases G:c.rk=f c.aF
  ·rw[Y G];have hw:=Z.rJ J
   by_cases ab:P c.aF
   ·rw[Y ⟨G,ab⟩];refine HJ hw (xM ?_ (UE _));have:=hle _ (Z.aF c J);grind
   ·rw[aa λh=>ab h.2];exact u1 hw (KO _)
  ·rw[aa λh=>G h.1,aa G];exact hp
def jz.start {d:Day}(Z:d.dJ){f:Nat->Nat}{g:Nat->Rat}(O:Inv d f g){h:Nat->Rat}(R:∀i,i<d.n->h i=d.fz (d.l f (λ_=>False) h) i):jz d f g (λ_=>False) h :=
 ⟨λi h=>h.elim,λC ⟨i,h⟩ cn=>(cn i h).elim,R,λi cP=>by
  rw[R i cP];refine xM (d.HK (b:=d.q f g) (λc J=>?_) i) (O.sup i cP);unfold Day.l Day.q
  by_cases F:c.rk<f c.aF
  ·rw[Y F,Y F];exact hp
  ·rw[aa F,aa F,aa λh=>h.2]
   split
   ·exact u1 (Z.rJ J) (KO _)
   ·exact hp,λi h=>h.elim⟩
def u2 (d:Day)(f:Nat->Nat)(P:Nat->Prop)(h:Nat->Rat)(i:Nat):Prop:=P i\/(i<d.n/\f i<10/\d.U i (f i)<h i)
def jz.KQ {d:Day}{f:Nat->Nat}{g:Nat->Rat}{P:Nat->Prop}{h:Nat->Rat}(aE:jz d f g P h):∀i,u2 d f P h i->i<d.n/\f i<10:=λi aL=>aL.elim (aE.gz i) λh=>⟨h.1,h.2.1⟩
def jz.abI {d:Day}{f:Nat->Nat}{g:Nat->Rat}{P:Nat->Prop}{h:Nat->Rat}(aE:jz d f g P h):∀i,u2 d f P h i->d.U i (f i)<h i:=λi aL=>aL.elim (aE.ge i) λh=>h.2.2
def jz.al0 {d:Day}(Z:d.dJ){f:Nat->Nat}{g:Nat->Rat}(O:Inv d f g){P:Nat->Prop}{h:Nat->Rat}(aE:jz d f g P h):∀C:Nat->Prop,(∃i,C i)->(∀i,C i->u2 d f P h i)->¬ d.closed f C:=by
 intro C F G ab;have aH:∀i,C i->i<d.n/\f i<10:=λi J=>aE.KQ i (G i J)
 have gw:=O.alZ Z F aH ab (d.l f P h) (λk=>if P k then h k-d.U k (f k) else 0) (λk _ I=>by
  try dsimp only
  split
  ·have:=aE.ge k (by assumption);grind
  ·exact hp) λc J _=>by
   by_cases dW:C c.aF
   ·rw[KP dW]
    by_cases cy:c.rk<f c.aF
    ·rw[Day.alX cy,Y cy,aa (λh=>by have:=h.2;omega)];grind
    ·rw[aa cy]
     by_cases dw:c.rk=f c.aF
     ·have jb:C c.aF/\c.rk=f c.aF:=⟨dW,dw⟩;rw[Y jb]
      by_cases fW:P c.aF
      ·rw[Day.alY dw fW,Y fW,dw];grind
      ·rw[Day.abH cy (λh=>fW h.2),aa fW];grind
     ·rw[Day.abH cy (λh=>dw h.1),aa λh=>dw h.2];grind
   ·rw[PC dW,aa λh=>dW h.1];have:=Day.aBP Z (P:=P) (f:=f) aE.le J;grind
 have e:d.hK C (d.fz (d.l f P h))=d.hK C h:=Day.PB λi cP _=>(aE.sys i cP).symm;rw[e] at gw
 have:d.hK C (λi=>d.U i (f i)+if P i then h i-d.U i (f i) else 0)<=d.hK C h:=by
  refine Day.alW λi cP J=>?_;have:=aE.abI i (G i J)
  split<;>grind
 grind
def jz.next {d:Day}(Z:d.dJ){f:Nat->Nat}{g:Nat->Rat}(O:Inv d f g){P:Nat->Prop}{h cn:Nat->Rat}(aE:jz d f g P h)(R:∀i,i<d.n->cn i=d.fz (d.l f (u2 d f P h) cn) i):jz d f g (u2 d f P h) cn:=by
 have bw:=aE.al0 Z O
 have oF:∀i,i<d.n->0<=cn i-h i:=by
  refine FQ O Z aE.KQ bw (λi=>cn i-h i) λi cP=>?_;rw[R i cP,aE.sys i cP,d.UF];refine HH λc J=>?_;have hw:=Z.rJ J
  split
  ·unfold Day.l
   by_cases F:c.rk<f c.aF
   ·rw[Y F,Y F,aa (by omega)];grind
   ·rw[aa F,aa F]
    by_cases G:c.rk=f c.aF
    ·by_cases ab:u2 d f P h c.aF
     ·rw[Y ⟨G,ab⟩,Y ⟨G,ab⟩]
      by_cases aV:P c.aF
      ·rw[Y ⟨G,aV⟩];grind
      ·rw[aa λh=>aV h.2];have bu:=aE.abI _ ab;have:=u1 hw (show 0<=h c.aF-d.U c.aF c.rk by rw[G];grind);grind
     ·rw[aa λh=>ab h.2,aa λh=>ab h.2,aa λh=>ab (.inl h.2)];grind
    ·rw[aa λh=>G h.1,aa λh=>G h.1,aa λh=>G h.1];grind
  ·exact hp
 have hle:∀i,i<d.n->0<=g i-cn i:=by
  refine FQ O Z aE.KQ bw (λi=>g i-cn i) λi cP=>?_;refine xM ?_ (show d.fz (d.q f g) i-cn i<=g i-cn i by have:=O.sup i cP;grind);rw[R i cP,d.UF];refine HH λc J=>?_;have hw:=Z.rJ J
  split
  ·unfold Day.l Day.q
   by_cases F:c.rk<f c.aF
   ·rw[Y F,Y F,aa (by omega)];grind
   ·rw[aa F,aa F]
    by_cases G:c.rk=f c.aF
    ·rw[Y G]
     by_cases ab:u2 d f P h c.aF
     ·rw[Y ⟨G,ab⟩,Y ⟨G,ab⟩];have:=HJ hw (UE (g c.aF-d.U c.aF c.rk));grind
     ·rw[aa λh=>ab h.2,aa λh=>ab h.2];have:=u1 hw (KO (g c.aF-d.U c.aF c.rk));grind
    ·rw[aa λh=>G h.1,aa G,aa λh=>G h.1];grind
  ·exact hp
 exact⟨aE.KQ,bw,R,λi cP=>by have:=hle i cP;grind,λi aL=>by
  have F:=aE.abI i aL;have G:=oF i (aE.KQ i aL).1;grind⟩
def jz.stop {d:Day}(Z:d.dJ){f:Nat->Nat}{g:Nat->Rat}{P:Nat->Prop}{h:Nat->Rat}(aE:jz d f g P h)(O:Inv d f g)(aBQ:∀i,i<d.n->f i<10->d.U i (f i)<h i->P i):∀i,i<d.n->h i=d.fz (d.q f h) i:=by
 intro i cP;rw[aE.sys i cP];refine d.alV (λc J=>?_) i;unfold Day.l Day.q
 by_cases F:c.rk<f c.aF
 ·rw[Y F,Y F]
 ·rw[aa F,aa F]
  by_cases G:c.rk=f c.aF
  ·rw[Y G]
   by_cases ab:P c.aF
   ·rw[Y ⟨G,ab⟩,AR];have:=aE.ge _ ab;rw[G];grind
   ·rw[aa λh=>ab h.2,xL]
    ·grind
    ·apply mN;intro aL;refine ab (aBQ _ (Z.aF c J) (by rw[<-G];exact Z.rk c J) ?_);rw[<-G];grind
  ·rw[aa λh=>G h.1,aa G]
end Go.Mini
namespace Go.Mini
open Classical
def Day.kf (d:Day)(h:Nat->Rat)(c:ej):Rat:=if d.U c.aF (c.rk+1)<=h c.aF then c.am else d.w c*pos (h c.aF-d.U c.aF c.rk)
def Day.dJ.UH {d:Day}(Z:d.dJ){c:ej}(J:c∈d.dE){x:Rat}(h:x<=d.S c.aF c.rk):d.w c*x<=c.am:=by
 have ay:=Z.am c J;have F:=Z.UD J
 by_cases cZ:0<d.S c.aF c.rk
 ·have:=HJ (Z.rJ J) h;rw[Day.HI cZ] at this;exact this
 ·rw[Day.Hp (by grind),KN];exact ay
def Day.dJ.abJ {d:Day}(Z:d.dJ)(h:Nat->Rat){c:ej}(J:c∈d.dE):d.kf h c<=c.am:=by
 unfold Day.kf
 split
 ·exact hp
 ·rename_i aL;refine Z.UH J ?_;rw[d.AQ] at aL;have:=Z.UC c.aF c.rk;unfold pos
  split<;>grind
def Day.dJ.al1 {d:Day}(Z:d.dJ)(h:Nat->Rat){c:ej}(J:c∈d.dE):0<=d.kf h c:=by
 unfold Day.kf
 split
 ·exact Z.am c J
 ·exact u1 (Z.rJ J) (KO _)
def Day.dJ.UI {d:Day}(Z:d.dJ)(f:Nat->Nat)(h:Nat->Rat){c:ej}(J:c∈d.dE):0<=d.q f h c:=by
 unfold Day.q
 split
 ·exact Z.am c J
 ·split
  ·exact u1 (Z.rJ J) (KO _)
  ·exact hp
def Day.dJ.abK {d:Day}(Z:d.dJ){a:ej->Rat}(h:∀c∈d.dE,0<=a c){i:Nat}(O:i<d.n):0<=d.fz a i:=by
 unfold Day.fz;have F:=Z.cash i O
 have:=AO (l:=d.dE) (aO:=λc=>if c.to=(i:Int) then a c else 0) λc J=>by
  try dsimp only
  split
  ·exact h c J
  ·exact hp
 grind
def Day.dJ.al2 {d:Day}(Z:d.dJ){f:Nat->Nat}{h g:Nat->Rat}{c:ej}(J:c∈d.dE)(hle:h c.aF<=g c.aF):d.q f h c<=d.q f g c:=by
 unfold Day.q
 split
 ·exact hp
 ·split
  ·exact HJ (Z.rJ J) (alU (by grind))
  ·exact hp
def abL (d:Day)(f:Nat->Nat)(h:Nat->Rat)(hR:Nat->Nat):Prop:=(∀i,hR i<=10)/\(∀i,i<d.n->h i<d.U i (f i)->hR i<f i/\d.U i (hR i)<=h i/\h i<d.U i (hR i+1))/\∀i,i<d.n->d.U i (f i)<=h i->hR i=f i
def abM {d:Day}(Z:d.dJ){f hR:Nat->Nat}{h:Nat->Rat}(aH:abL d f h hR){c:ej}(J:c∈d.dE):d.q hR h c<=d.q f h c:=by
 obtain⟨-,F,G⟩:=aH;have bg:=Z.aF c J
 by_cases ec:h c.aF<d.U c.aF (f c.aF)
 ·obtain⟨cy,dw,dW⟩:=F _ bg ec;unfold Day.q
  by_cases e2:c.rk<hR c.aF
  ·rw[Y e2,Y (by omega)];exact hp
  ·rw[aa e2]
   by_cases fa:c.rk=hR c.aF
   ·rw[Y fa,Y (by omega)];rw[<-fa] at dw dW;rw[d.AQ] at dW;exact Z.UH J (by rw[AR (by grind)];grind)
   ·rw[aa fa];exact Z.UI f h J
 ·have:=G _ bg (by grind);unfold Day.q;rw[this];exact hp
def Inv.abN {d:Day}(Z:d.dJ){f hR:Nat->Nat}{g h:Nat->Rat}(O:Inv d f g)(EV:∀i,i<d.n->h i=d.fz (d.q f h) i)(hle:∀i,i<d.n->h i<=g i)(aH:abL d f h hR):Inv d hR h:=by
 have fK:∀i,i<d.n->hR i<10->d.U i (hR i)<=h i:=by
  intro i cP EK
  by_cases ec:h i<d.U i (f i)
  ·exact (aH.2.1 i cP ec).2.1
  ·rw[aH.2.2 i cP (by grind)];grind
 have kr:∀i,i<d.n->hR i<10->h i<d.U i (hR i+1):=by
  intro i cP EK
  by_cases ec:h i<d.U i (f i)
  ·exact (aH.2.1 i cP ec).2.2
  ·have e:=aH.2.2 i cP (by grind);rw[e] at EK ⊢;have:=O.O i cP EK;have:=hle i cP;grind
 have cZ:∀i,i<d.n->hR i<10->0<d.S i (hR i):=by
  intro i cP EK;have F:=fK i cP EK;have G:=kr i cP EK;rw[d.AQ] at G;grind
 refine⟨aH.1,λi cP=>?_,fK,kr,λC F G ab=>?_⟩
 ·exact xM (d.HK (λc J=>abM Z aH J) i) (HF (EV i cP).symm)
 ·have lF:∀i,C i->i<d.n:=λi J=>(G i J).1
  by_cases hex:∃k,C k/\h k<d.U k (f k)
  ·obtain⟨eU,n1,ec⟩:=hex;have al3:=lF eU n1;obtain⟨cQ,dN,gy⟩:=aH.2.1 eU al3 ec;have qE:=cZ eU al3 (G eU n1).2;obtain⟨l5,jK,mn⟩:=aby qE
   have aBR:l5.aF=eU/\l5.rk=hR eU/\0<l5.am:=by
    by_cases a1:l5.aF=eU/\l5.rk=hR eU
    ·rw[Y a1] at mn;exact⟨a1.1,a1.2,mn⟩
    ·rw[aa a1] at mn;exact absurd mn (by grind)
   obtain⟨cz,cY,eA⟩:=aBR;have au:=Day.abG lF (d.q f h);have aC:=Day.abG lF (d.q hR (d.cap hR h C));have bN:d.hK C (d.fz (d.q f h))=d.hK C h:=Day.PB λi cP _=>(EV i cP).symm;have bK:=Z.PA C hR (λk I=>cZ k (lF k I) (G k I).2) λk=>h k-d.U k (hR k);have c6:d.hK C (λk=>h k-d.U k (hR k))=bR d.n λk=>if C k then h k-d.U k (hR k) else 0:=rfl;rw[<-c6,d.aBH] at bK
   have bt:cC d.dE (λc=>(if sB C c then d.q hR (d.cap hR h C) c else 0)+(if C c.aF/\c.rk=hR c.aF then d.w c*(h c.aF-d.U c.aF (hR c.aF)) else 0))<cC d.dE (λc=>if sB C c then d.q f h c else 0):=by
    refine aBE (λc J=>?_) jK ?_
    ·have bg:=Z.aF c J
     by_cases cP:sB C c
     ·rw[Y cP,Y cP]
      by_cases hq:C c.aF
      ·rw[KP hq]
       by_cases e2:c.rk<hR c.aF
       ·rw[Y e2,aa (by omega)]
        have:c.rk<f c.aF:=by
         by_cases ec:h c.aF<d.U c.aF (f c.aF)
         ·have:=(aH.2.1 _ bg ec).1;omega
         ·rw[<-aH.2.2 _ bg (by grind)];exact e2
        unfold Day.q;rw[Y this];grind
       ·rw[aa e2]
        by_cases fa:c.rk=hR c.aF
        ·rw[Y ⟨hq,fa⟩]
         by_cases ec:h c.aF<d.U c.aF (f c.aF)
         ·obtain⟨cy,dw,dW⟩:=aH.2.1 _ bg ec;unfold Day.q;rw[Y (by omega)];rw[d.AQ] at dW;have:=Z.UH J (x:=h c.aF-d.U c.aF (hR c.aF)) (by rw[fa];grind);grind
         ·have e:=aH.2.2 _ bg (by grind);rw[e] at e2 fa ⊢;unfold Day.q;rw[aa e2,Y fa,<-fa];have:=HJ (Z.rJ J) (UE (h c.aF-d.U c.aF c.rk));grind
        ·rw[aa λh=>fa h.2];have:=Z.UI f h J;grind
      ·rw[PC hq,aa λh=>hq h.1];have:=abM Z aH J;grind
     ·rw[aa cP,aa cP]
      by_cases hq:C c.aF/\c.rk=hR c.aF
      ·rw[Y hq]
       have:c.am=0:=by
        have ay:=Z.am c J
        by_cases aE:0<c.am
        ·exact absurd (ab c J hq.1 hq.2 aE) cP
        ·grind
       rw[Day.Hp this];grind
      ·rw[aa hq];grind
    ·have hq:C l5.aF:=by rw[cz];exact n1
     have iH:l5.rk=hR l5.aF:=by rw[cz];exact cY
     have cP:=ab l5 jK hq iH eA;rw[Y cP,Y cP,KP hq,aa (by omega),Y ⟨hq,iH⟩];unfold Day.q;rw[Y (by rw[cz];omega)];have hw:=Z.abF jK eA;have ZP:=d.HI (c:=l5) (by rw[cz,cY];exact qE);rw[d.AQ] at gy;rw[<-cz,<-iH] at gy;rw[<-iH];have:0<d.w l5*(d.S l5.aF l5.rk-(h l5.aF-d.U l5.aF l5.rk)):=Pz hw (by rw[cz] at gy ⊢;grind);grind
   rw[UA,bK] at bt;grind
  ·have ug:∀k,C k->hR k=f k:=λk I=>aH.2.2 k (lF k I) (by
    apply mN;intro aL;exact hex ⟨k,I,by grind⟩)
   have cy:=O.dE C F (λi J=>⟨lF i J,by rw[<-ug i J];exact (G i J).2⟩) (λc J hq iH zh=>ab c J hq (by rw[ug _ hq];exact iH) zh);have dw:d.hK C (λi=>d.U i (hR i))=d.hK C λi=>d.U i (f i):=Day.PB λi _ J=>by rw[ug i J]
   rw[dw]
   have dW:d.hK C (d.fz (d.q hR (d.cap hR h C)))<=d.hK C (d.fz (d.q f (d.cap f g C))):=by
    refine Day.alW λi _ _=>d.HK (λc J=>?_) i
    by_cases hq:C c.aF
    ·rw[KP hq,KP hq,ug _ hq];exact hp
    ·rw[PC hq,PC hq];exact xM (abM Z aH J) (Z.al2 J (hle _ (Z.aF c J)))
   grind
def Day.xN (d:Day)(h:Nat->Rat)(i:Nat):Rat:=d.fz (d.kf h) i
def aBS {d:Day}(Z:d.dJ){f:Nat->Nat}{g z:Nat->Rat}(O:Inv d f g)(a2:∀i,i<d.n->z i<=g i){c:ej}(J:c∈d.dE):d.kf z c<=d.q f z c:=by
 have bg:=Z.aF c J;have iH:=Z.rk c J;unfold Day.q
 by_cases e2:c.rk<f c.aF
 ·rw[Y e2];exact Z.abJ z J
 ·rw[aa e2];have du:f c.aF<10:=by omega
  have F:=O.O _ bg du;have G:=a2 _ bg
  by_cases fa:c.rk=f c.aF
  ·rw[Y fa];unfold Day.kf;rw[aa (by rw[fa];grind)];exact hp
  ·rw[aa fa];have ab:=Z.zg c.aF (r:=f c.aF+1) (s:=c.rk) (by omega);have aV:=Z.zg c.aF (r:=c.rk) (s:=c.rk+1) (by omega);unfold Day.kf;rw[aa (by grind),xL (by grind),rI];exact hp
def Inv.abO {d:Day}(Z:d.dJ){f:Nat->Nat}{g h z:Nat->Rat}(O:Inv d f g)(EV:∀i,i<d.n->h i=d.fz (d.q f h) i)(hle:∀i,i<d.n->h i<=g i)(a2:∀i,i<d.n->z i<=d.fz (d.q f z) i):∀i,i<d.n->z i<=h i:=by
 intro i0 uH;apply mN;intro mI;obtain⟨C,wx⟩:∃C:Nat->Prop,∀i,C i↔i<d.n/\h i<z i:=⟨λi=>i<d.n/\h i<z i,λ_=>Iff.rfl⟩;obtain⟨KR,CX⟩:∃aBT:Nat->Prop,∀i,aBT i↔C i/\f i<10:=⟨λi=>C i/\f i<10,λ_=>Iff.rfl⟩;have lF:∀i,C i->i<d.n:=λi h=>((wx i).1 h).1;have KS:∀i,C i->h i<z i:=λi h=>((wx i).1 h).2;have b8:∃i,C i:=⟨i0,(wx i0).2 ⟨uH,by grind⟩⟩
 have au:=abz C lF d.dE λc=>d.q f z c-d.q f h c;have aC:=Z.PA KR f (λk I=>O.ph (lF k ((CX k).1 I).1) ((CX k).1 I).2) λk=>z k-h k
 have bN:d.hK C (λi=>z i-h i)<=bR d.n λi=>if C i then cC d.dE (λc=>if c.to=(i:Int) then d.q f z c-d.q f h c else 0) else 0:=by
  refine Py λk I=>?_
  by_cases J:C k
  ·rw[Y J,Y J,<-d.UF,<-EV k I];have F:=a2 k I;grind
  ·rw[aa J,aa J];exact hp
 rw[au] at bN
 have bK:bR d.n (λk=>if KR k then z k-h k else 0)<=d.hK C (λi=>z i-h i):=by
  refine Py λk I=>?_
  by_cases J:C k
  ·rw[Y J];have:=KS k J
   split<;>grind
  ·rw[aa J,aa λh=>J ((CX k).1 h).1];exact hp
 have al4:∀c∈d.dE,0<=(if KR c.aF/\c.rk=f c.aF then d.w c*(z c.aF-h c.aF) else 0)-(if sB C c then d.q f z c-d.q f h c else 0):=by
  intro c J;have hw:=Z.rJ J;have bg:=Z.aF c J;have iH:=Z.rk c J
  by_cases F:KR c.aF/\c.rk=f c.aF
  ·rw[Y F];have G:0<=d.w c*(z c.aF-h c.aF):=u1 hw (by have:=KS _ ((CX _).1 F.1).1;grind)
   have ab:d.q f z c-d.q f h c<=d.w c*(z c.aF-h c.aF):=by
    unfold Day.q;rw[aa (by omega),Y F.2,aa (by omega),Y F.2]
    have aV:pos (z c.aF-d.U c.aF c.rk)-pos (h c.aF-d.U c.aF c.rk)<=z c.aF-h c.aF:=by
     have:=KS _ ((CX _).1 F.1).1;unfold pos
     split<;>split<;>grind
    have:=HJ hw aV;grind
   split<;>grind
  ·rw[aa F]
   have ab:d.q f z c-d.q f h c<=0:=by
    unfold Day.q
    by_cases e2:c.rk<f c.aF
    ·rw[Y e2,Y e2];grind
    ·rw[aa e2,aa e2]
     by_cases fa:c.rk=f c.aF
     ·rw[Y fa,Y fa]
      have aV:z c.aF<=h c.aF:=by
       apply mN;intro aL;exact F ⟨(CX _).2 ⟨(wx _).2 ⟨bg,by grind⟩,by omega⟩,fa⟩
      have:=HJ hw (alU (show z c.aF-d.U c.aF c.rk<=h c.aF-d.U c.aF c.rk by grind));grind
     ·rw[aa fa,aa fa];grind
   split<;>grind
 have aBU:=abx al4 (by rw[Px,aC];grind)
 have abP:∀k,C k->f k<10:=by
  have:bR d.n (λk=>(if C k then z k-h k else 0)-(if KR k then z k-h k else 0))<=0:=by
   rw[KM];have:0<=cC d.dE λc=>(if KR c.aF/\c.rk=f c.aF then d.w c*(z c.aF-h c.aF) else 0)-(if sB C c then d.q f z c-d.q f h c else 0):=AO al4;rw[Px,aC] at this;have bu:d.hK C (λi=>z i-h i)=bR d.n λk=>if C k then z k-h k else 0:=rfl;grind
  have aL:=aBF (λk I=>by
   try dsimp only
   by_cases J:C k
   ·rw[Y J];have:=KS k J
    split<;>grind
   ·rw[aa J,aa λh=>J ((CX k).1 h).1];grind) this
  intro k I;apply mN;intro du;have:=aL k (lF k I)
  try dsimp only at this
  rw[Y I,aa λh=>du ((CX k).1 h).2] at this;have:=KS k I;grind
 have cP:∀c∈d.dE,C c.aF->c.rk=f c.aF->0<c.am->sB C c/\d.U c.aF c.rk<=h c.aF:=by
  intro c J hq iH zh;have ay:=aBU c J;have hw:=Z.abF J zh;have ah:=KS _ hq
  try dsimp only at ay
  rw[Y ⟨(CX _).2 ⟨hq,abP _ hq⟩,iH⟩] at ay
  by_cases cP:sB C c
  ·refine⟨cP,?_⟩;rw[Y cP] at ay;unfold Day.q at ay;rw[aa (by omega),Y iH,aa (by omega),Y iH] at ay;apply mN;intro aL;rw[xL (x:=h c.aF-d.U c.aF c.rk) (by grind)] at ay
   have aV:0<z c.aF-h c.aF-pos (z c.aF-d.U c.aF c.rk):=by
    unfold pos
    split<;>grind
   have:=Pz hw aV;grind
  ·rw[aa cP] at ay;have:0<d.w c*(z c.aF-h c.aF):=Pz hw (by grind);grind
 have l2:∀k,C k->d.U k (f k)<=h k:=by
  intro k I;have R:=O.ph (lF k I) (abP k I);obtain⟨l5,jK,mn⟩:=aby R
  by_cases a1:l5.aF=k/\l5.rk=f k
  ·rw[Y a1] at mn;have:=(cP l5 jK (by rw[a1.1];exact I) (by rw[a1.1];exact a1.2) mn).2;rwa [a1.1,a1.2] at this
  ·rw[aa a1] at mn;exact absurd mn (by grind)
 have gw:=O.alZ Z b8 (λi J=>⟨lF i J,abP i J⟩) (λc J hq iH zh=>(cP c J hq iH zh).1) (d.q f h) (λk=>h k-d.U k (f k)) (λk _ I=>by have:=l2 k I;grind) λc J _=>by
  by_cases hq:C c.aF
  ·rw[KP hq];unfold Day.q
   by_cases e2:c.rk<f c.aF
   ·rw[Y e2,Y e2,aa (by omega)];grind
   ·rw[aa e2,aa e2]
    by_cases fa:c.rk=f c.aF
    ·rw[Y fa,Y ⟨hq,fa⟩,fa,AR (by have:=l2 _ hq;grind)];grind
    ·rw[aa fa,aa λh=>fa h.2];grind
  ·rw[PC hq,aa λh=>hq h.1];have:=Z.al2 (f:=f) J (hle _ (Z.aF c J));grind
 have bX:d.hK C (d.fz (d.q f h))=d.hK C h:=Day.PB λi cP _=>(EV i cP).symm;have b9:d.hK C (λi=>d.U i (f i)+(h i-d.U i (f i)))=d.hK C h:=Day.PB λi _ _=>by grind
 rw[bX,b9] at gw;exact absurd gw (by grind)
def Inv.final {d:Day}(Z:d.dJ){f:Nat->Nat}{g h:Nat->Rat}(O:Inv d f g)(EV:∀i,i<d.n->h i=d.fz (d.q f h) i)(hle:∀i,i<d.n->h i<=g i)(gl:∀i,i<d.n->d.U i (f i)<=h i):(∀i,i<d.n->h i=d.xN h i)/\∀i,i<d.n->(f i<10↔h i<d.U i 10):=by
 constructor
 ·intro i cP;rw[EV i cP];unfold Day.xN;have:∀j,j<d.n->h j=d.fz (d.q f h) j:=EV;refine d.alV (λc J=>?_) i;have bg:=Z.aF c J;have iH:=Z.rk c J;have ay:=gl _ bg;unfold Day.q Day.kf
  by_cases e2:c.rk<f c.aF
  ·have:=Z.zg c.aF (r:=c.rk+1) (s:=f c.aF) (by omega);rw[Y e2,Y (by grind)]
  ·rw[aa e2];have du:f c.aF<10:=by omega
   have F:=O.O _ bg du;have G:=hle _ bg
   by_cases fa:c.rk=f c.aF
   ·rw[Y fa,aa (by rw[fa];grind)]
   ·have ab:=Z.zg c.aF (r:=f c.aF+1) (s:=c.rk) (by omega);have aV:=Z.zg c.aF (r:=c.rk) (s:=c.rk+1) (by omega);rw[aa fa,aa (by grind),xL (by grind),rI]
 ·intro i cP
  constructor
  ·intro du;have F:=O.O _ cP du;have G:=hle _ cP;have ab:=Z.zg i (r:=f i+1) (s:=10) (by omega);grind
  ·intro F;apply mN;intro G;have ab:=O.le i;have aV:f i=10:=by omega
   have bu:=gl i cP;rw[aV] at bu;grind
end Go.Mini
namespace Go.Mini
open Classical
def oN (d:Day)(f:Nat->Nat)(h:Nat->Rat):Prop:=∃g,Inv d f g/\(∀i,i<d.n->h i=d.fz (d.q f h) i)/\∀i,i<d.n->h i<=g i
def oN.unique {d:Day}(Z:d.dJ){f:Nat->Nat}{h cn:Nat->Rat}(a:oN d f h)(b:oN d f cn):∀i,i<d.n->h i=cn i:=by
 obtain⟨g,F,G,ab⟩:=a;obtain⟨dp,cy,dw,dW⟩:=b;intro i cP;have au:=F.abO Z G ab (z:=cn) (λi O=>HF (dw i O)) i cP;have aC:=cy.abO Z dw dW (z:=h) (λi O=>HF (G i O)) i cP;grind
def Day.jA (d:Day)(h:Nat->Rat)(i:Nat):Nat->Nat
 |0=>10
 |k+1=>if h i<d.U i (10-(k+1)+1) then 10-(k+1) else Day.jA d h i k
def abQ {d:Day}(Z:d.dJ){h:Nat->Rat}{i:Nat}:∀k,k<=10->d.U i (10-k)<=h i->(d.jA h i k=10/\d.U i 10<=h i)\/(10-k<=d.jA h i k/\d.jA h i k<10/\d.U i (d.jA h i k)<=h i/\h i<d.U i (d.jA h i k+1))
 |0,_,ay => .inl ⟨rfl,ay⟩
 |k+1,I,ay=>by
  unfold Day.jA
  by_cases F:h i<d.U i (10-(k+1)+1)
  ·rw[Y F];exact .inr ⟨cl _,by omega,ay,F⟩
  ·rw[aa F];rcases abQ Z (h:=h) (i:=i) k (by omega) (by rw[show 10-k=10-(k+1)+1 by omega];grind) with e|⟨au,aC⟩
   ·exact .inl e
   ·exact .inr ⟨by omega,aC⟩
def Day.gz (d:Day)(f:Nat->Nat)(h:Nat->Rat)(i:Nat):Nat:=if i<d.n/\h i<d.U i (f i) then d.jA h i 10 else f i
def al5 {d:Day}(Z:d.dJ){f:Nat->Nat}{h:Nat->Rat}(hle:∀i,f i<=10)(ay:∀i,i<d.n->0<=h i):abL d f h (d.gz f h):=by
 have key:∀i,i<d.n->h i<d.U i (f i)->d.jA h i 10<f i/\d.U i (d.jA h i 10)<=h i/\h i<d.U i (d.jA h i 10+1):=by
  intro i cP ec;have hm:=Z.zg i (hle i);rcases abQ Z (h:=h) (i:=i) 10 (cl _) (by rw[j0,d.abC];exact ay i cP) with ⟨-,e⟩|⟨-,au,aC,bN⟩
  ·grind
  ·refine⟨?_,aC,bN⟩;apply mN;intro aL;have:=Z.zg i (r:=f i) (s:=d.jA h i 10) (by omega);grind
 refine⟨λi=>?_,λi cP ec=>?_,λi cP ec=>?_⟩
 ·unfold Day.gz
  split
  ·rename_i a1;have:=(key i a1.1 a1.2).1;have:=hle i;omega
  ·exact hle i
 ·unfold Day.gz;rw[Y ⟨cP,ec⟩];exact key i cP ec
 ·unfold Day.gz;rw[aa λa1=>by have:=a1.2;grind]
def oN.abN {d:Day}(Z:d.dJ){f:Nat->Nat}{h:Nat->Rat}(a:oN d f h):Inv d (d.gz f h) h:=by
 obtain⟨g,F,G,ab⟩:=a;exact F.abN Z G ab (al5 Z F.le λi cP=>by rw[G i cP];exact Z.abK (λc J=>Z.UI f h J) cP)
def oN.abR {d:Day}(Z:d.dJ){f:Nat->Nat}{h:Nat->Rat}(a:oN d f h){i:Nat}(cP:i<d.n):0<=h i:=by
 obtain⟨g,F,G,ab⟩:=a;rw[G i cP];exact Z.abK (λc J=>Z.UI f h J) cP
def Day.top (d:Day)(f:Nat->Nat):Nat->Rat:=if h:∃x,oN d f x then z3 h else λ_=>0
def Day.h6 (d:Day)(f:Nat->Nat):List Nat:=(eM d.n).filter λi=>decide (d.top f i<d.U i (f i))
def Day.rounds (d:Day):Nat->(Nat->Nat)->List (List Nat)×(Nat->Nat)
 |0,f=>([],f)
 |k+1,f=>if d.h6 f=[] then ([],f) else (d.h6 f::(Day.rounds d k (d.gz f (d.top f))).1,(Day.rounds d k (d.gz f (d.top f))).2)
def Reach (d:Day)(f:Nat->Nat):Prop:=∃g,Inv d f g/\∀z,(∀i,i<d.n->z i<=d.xN z i)->∀i,i<d.n->z i<=g i
def Reach.start {d:Day}(Z:d.dJ):Reach d λ_=>10:=⟨_,Inv.start Z,λz a2 i cP=>xM (a2 i cP) (d.HK (λ_ J=>Z.abJ z J) i)⟩
def kG:Nat->(Nat->Nat)->Nat
 |0,_=>0
 |n+1,f=>kG n f+f n
def aBV {n:Nat}{f g:Nat->Nat}(h:∀i,i<n->f i<=g i):kG n f<=kG n g:=by
 induction n with
 |zero=>exact cl _
 |succ n aG =>
  have:=aG λi O=>h i (by omega);have:=h n (by omega);simp only[kG];omega
def abS {n:Nat}{f g:Nat->Nat}(h:∀i,i<n->f i<=g i){j:Nat}(ae:j<n)(ah:f j<g j):kG n f<kG n g:=by
 induction n with
 |zero=>omega
 |succ n aG =>
  have F:=h n (by omega);simp only[kG]
  by_cases aBW:j=n
  ·subst aBW;have:=aBV (n:=j) (f:=f) (g:=g) λi O=>h i (by omega);omega
  ·have:=aG (λi O=>h i (by omega)) (by omega);omega
def Day.EW {d:Day}{f:Nat->Nat}(h:∃x,oN d f x):oN d f (d.top f):=by
 unfold Day.top;rw[dif_pos h];exact qo h
def Day.PD {d:Day}{f:Nat->Nat}{i:Nat}:i∈d.h6 f↔i<d.n/\d.top f i<d.U i (f i):=by
 unfold Day.h6;rw[PE,ig,decide_eq_true_eq]
section
variable {d:Day} (Z:d.dJ) (hex:∀f,Reach d f->∃h,oN d f h)
include Z hex
def aBX {f:Nat->Nat}(X:Reach d f){z:Nat->Rat}(a2:∀i,i<d.n->z i<=d.xN z i):∀i,i<d.n->z i<=d.top f i:=by
 obtain⟨g,F,G,ab⟩:=Day.EW (hex f X);obtain⟨dp,cy,dw⟩:=X;have b0:oN d f (d.top f):=⟨g,F,G,ab⟩
 -- the end of the round below dp
 intro i cP;have FX:=λk I=>xM (a2 k I) (d.HK (λ_ J=>aBS Z cy (dw z a2) J) k);exact F.abO Z G ab FX i cP
def Reach.next {f:Nat->Nat}(X:Reach d f):Reach d (d.gz f (d.top f)):=⟨d.top f,(Day.EW (hex f X)).abN Z,λz a2=>aBX Z hex X a2⟩
def UJ {f:Nat->Nat}(X:Reach d f)(b8:d.h6 f≠[]):kG d.n (d.gz f (d.top f))<kG d.n f:=by
 obtain⟨i,O⟩:=List.exists_mem_of_ne_nil _ b8;obtain⟨F,G⟩:=Day.PD.1 O;have b0:=Day.EW (hex f X);obtain⟨g,cy,-⟩:=b0;have aH:=al5 Z cy.le (h:=d.top f) λi cP=>(Day.EW (hex f X)).abR Z cP;refine abS (λj ae=>?_) F (aH.2.1 i F G).1
 by_cases ec:d.top f j<d.U j (f j)
 ·have:=(aH.2.1 j ae ec).1;omega
 ·rw[aH.2.2 j ae (by grind)];exact cl _
def al6:∀k (f:Nat->Nat),Reach d f->kG d.n f<=k->Reach d (d.rounds k f).2/\d.h6 (d.rounds k f).2=[]
 |0,f,X,I=>by
  refine⟨X,?_⟩;apply mN;intro b8;have:=UJ Z hex X b8;omega
 |k+1,f,X,I=>by
  unfold Day.rounds
  by_cases b8:d.h6 f=[]
  ·rw[Y b8];exact⟨X,b8⟩
  ·rw[aa b8];have:=UJ Z hex X b8;exact al6 k _ (X.next Z hex) (by omega)
end
def Day.al7 (d:Day){f:Nat->Nat}(h:d.h6 f=[]):∀k,d.rounds k f=([],f)
 |0=>rfl
 |k+1=>by unfold Day.rounds;rw[Y h]
end Go.Mini
namespace Go.Mini
abbrev aB:=Int×Int×Int×Int
def kg (n:Int)(c:aB):Bool:=decide (0<=c.1)&&decide (c.1<n)&&decide (-1<=c.2.1)&&decide (c.2.1<n)&&decide (0<=c.2.2.1)&&decide (c.2.2.1<10)&&decide (0<=c.2.2.2)&&decide (c.2.2.2<=1000000000000000)
def hr (cash:List Int)(cs:List aB):Bool:=decide (D cash<=60)&&decide (D cs<=2000)&&cash.all (λx=>decide (0<=x)&&decide (x<=1000000000000000))&&cs.all (kg (D cash))
def bP (c:aB):ej:=⟨c.1.toNat,c.2.1,c.2.2.1.toNat,(c.2.2.2:Rat)⟩
def af (cash:List Int)(cs:List aB):Day:=⟨D cash,λi=>((cash.getD i 0:Int):Rat),cs.map bP⟩
def hL {cash:List Int}{cs:List aB}:hr cash cs=true↔(D cash)<=60/\D cs<=2000/\(∀x∈cash,0<=x/\x<=1000000000000000)/\∀c∈cs,0<=c.1/\c.1<(D cash) /\ -1<=c.2.1/\c.2.1<D cash/\0<=c.2.2.1/\c.2.2.1<10/\0<=c.2.2.2/\c.2.2.2<=1000000000000000:=by
 unfold hr kg;simp only[fC,decide_eq_true_eq,nt,and_assoc]
def KT {cash:List Int}{cs:List aB}(h:hr cash cs=true):(af cash cs).dJ:=by
 obtain⟨-,-,ab,aV⟩:=hL.1 h
 have J:∀x∈(af cash cs).dE,∃c∈cs,x=bP c:=λx L=>by
  obtain⟨c,J,rfl⟩:=gm.1 L;exact⟨c,J,rfl⟩
 refine⟨λx L=>?_,λx L=>?_,λx L=>?_,λx L=>?_,λi O=>?_⟩
 ·obtain⟨c,J,rfl⟩:=J x L;have:=aV c J;show c.1.toNat<D cash;omega
 ·obtain⟨c,J,rfl⟩:=J x L;have:=aV c J;show c.2.1<(D cash:Int);omega
 ·obtain⟨c,J,rfl⟩:=J x L;have:=aV c J;show c.2.2.1.toNat<10;omega
 ·obtain⟨c,J,rfl⟩:=J x L;have:=(aV c J).2.2.2.2.2.2.1;show (0:Rat)<=(c.2.2.2:Rat);exact_mod_cast this
 ·show (0:Rat)<=((cash.getD i 0:Int):Rat);have mD:i<D cash:=O
  have:0<=cash.getD i 0:=by
   rw[eD,bh mD];exact (ab _ (mh mD)).1
  exact_mod_cast this
def cJ:List aB->(aB->Int)->Int
 | [],_=>0
 |c::l,aO=>aO c+cJ l aO
def bT (cs:List aB)(cK r:Int):Int:=cJ cs λc=>if c.1=cK/\c.2.2.1<r then c.2.2.2 else 0
def UK (cs:List aB)(aO:aB->Int)(bs:ej->Rat)(h:∀c∈cs,((aO c:Int):Rat)=bs (bP c)):((cJ cs aO:Int):Rat)=cC (cs.map bP) bs:=by
 induction cs with
 |nil=>rfl
 |cons c l aG=>rw[cJ,eE,cC,CY,h c g1,aG λx L=>h x (iG _ L)]
def HL {cs:List aB}{aO bs:aB->Int}(h:∀c∈cs,aO c=bs c):cJ cs aO=cJ cs bs:=by
 induction cs with
 |nil=>rfl
 |cons c l aG=>rw[cJ,cJ,h c g1,aG λx L=>h x (iG _ L)]
def abT {cs:List aB}{aO:aB->Int}{B:Int}(ga:0<=B)(h:∀c∈cs,0<=aO c/\aO c<=B):0<=cJ cs aO/\cJ cs aO<=D cs*B:=by
 induction cs with
 |nil=>simp[cJ]
 |cons c l aG =>
  have F:=h c g1;have G:=aG λx L=>h x (iG _ L);simp only[cJ,lJ]
  have:((D l+1:Nat):Int)*B=D l*B+B:=by
   rw[Int.natCast_add,Int.add_mul];simp
  omega
def PF (a b:List aB)(aO:aB->Int):cJ (a++b) aO=cJ a aO+cJ b aO:=by
 induction a with
 |nil=>simp[cJ]
 |cons c l aG=>simp only[m1,cJ,aG];omega
def qS {cash:List Int}{cs:List aB}(h:hr cash cs=true)(i r:Nat):((bT cs i r:Int):Rat)=(af cash cs).U i r:=by
 refine UK cs _ (λc=>if c.aF=i/\c.rk<r then c.am else 0) λc J=>?_;have:=(hL.1 h).2.2.2 c J;show ((if c.1=(i:Int)/\c.2.2.1<(r:Int) then c.2.2.2 else 0:Int):Rat)=if c.1.toNat=i/\c.2.2.1.toNat<r then (c.2.2.2:Rat) else 0
 by_cases F:c.1=(i:Int)/\c.2.2.1<(r:Int)
 ·rw[Y F,Y (by omega)]
 ·rw[aa F,aa (by omega)];rfl
def KU {cash:List Int}{cs:List aB}(h:hr cash cs=true)(i r:Nat):((bT cs i (r+1:Nat)-bT cs i r:Int):Rat)=(af cash cs).S i r:=by
 have F:=qS h i r;have G:=qS h i (r+1);rw[CZ,F,G,Day.AQ];grind
def kH (cash:List Int)(cs:List aB)(f:Nat->Nat)(i:Nat):Int:=cash.getD i 0+cJ cs λc=>if c.2.1=(i:Int)/\c.2.2.1<(f c.1.toNat:Int) then c.2.2.2 else 0
def ext (N:Nat)(y:Nat->Rat)(z:Rat):Nat->Rat:=λk=>if k<N then y k else z
def PG (N:Nat)(a y:Nat->Rat)(z:Rat):nO N a (ext N y z)=bR N (λk=>a k*y k)+a N*z:=by
 unfold nO ext;rw[bR]
 congr 1
 ·exact lE λk I=>by rw[Y I]
 ·rw[aa (by omega)]
def abU {N:Nat}{aR:e4}{ei:Nat->Nat}(h:sA N aR N N ei)(j8:∀j,j<N->ei j=j){i:Nat}(O:i<N)(y:Nat->Rat)(z:Rat):nO N (aR i) (ext N y z)=y i+aR i N*z:=by
 rw[PG]
 congr 1
 have:∀k,k<N->aR i k=if i=k then 1 else 0:=λk I=>by
  have:=h.unit k I i O;rwa [j8 k I] at this
 rw[AM O λk I uv=>by rw[this k I,aa (Ne.symm uv),KN],this i O,Y rfl,EX]
def al8 {N:Nat}{aR:e4}{ei:Nat->Nat}(h:sA N aR N N ei)(j8:∀j,j<N->ei j=j)(y:Nat->Rat):jn N aR (ext N y (-1))↔∀i,i<N->y i=aR i N:=by
 unfold jn
 constructor
 ·intro dX i O;have:=dX i O;rw[abU h j8 O] at this;grind
 ·intro dX i O;rw[abU h j8 O,dX i O];grind
def aBY {N:Nat}{aR:e4}{ei:Nat->Nat}(h:sA N aR N N ei)(j8:∀j,j<N->ei j=j)(y:Nat->Rat)(dX:jn N aR (ext N y 0)):∀i,i<N->y i=0:=by
 intro i O;have:=dX i O;rw[abU h j8 O] at this;grind
def u3 (aR:e4)(c:Nat):Nat->Rat:=λk=>if k<c then 0-aR k c else if k=c then 1 else 0
def al9 {N c:Nat}{aR:e4}{ei:Nat->Nat}(h:sA N aR c c ei)(j8:∀j,j<c->ei j=j)(J:c<N)(a2:∀i,c<=i->i<N->aR i c=0):jn N aR (ext N (u3 aR c) 0):=by
 intro i O;rw[PG]
 have main:∀n,c<n->n<=N->bR n (λk=>aR i k*u3 aR c k)=bR (c+1) (λk=>aR i k*u3 aR c k):=by
  intro n
  induction n with
  |zero=>intro h;omega
  |succ n aG =>
   intro F G
   by_cases vv:c=n
   ·rw[vv]
   ·rw[bR,aG (by omega) (by omega)];unfold u3;rw[aa (show ¬ n<c by omega),aa (show ¬ n=c by omega)];grind
 rw[main N J (cl _),bR];have I:u3 aR c c=1:=by unfold u3;rw[aa (by omega),Y rfl]
 rw[I]
 have hu:∀k,k<c->aR i k=if i=k then 1 else 0:=λk I=>by
  have:=h.unit k I i O;rwa [j8 k I] at this
 rcases hO i c with ah|bW
 ·rw[AM ah λk I uv=>by rw[hu k I,aa (Ne.symm uv),KN],hu i ah,Y rfl]
  unfold u3;rw[Y ah];grind
 ·rw[u0 λk I=>by rw[hu k I,aa (by omega),KN],a2 i bW O]
  grind
abbrev gG:=Nat->Rat
def kI (n:Nat)(f:List gG->Rat):List gG->List gG->Rat
 |_,[]=>0
 |pre,c::cs=>c n*f (pre++cs)-kI n f (pre++[c]) cs
def hs:Nat->List gG->Rat
 |0,[]=>1
 |0,_::_=>0
 |n+1,cs=>kI n (hs n) [] cs
def EY (x y:gG)(a:Rat):gG:=λi=>x i+a*y i
def abV (f:List gG->Rat):Prop:=∀A B x y a,f (A++EY x y a::B)=f (A++x::B)+a*f (A++y::B)
def abW (f:List gG->Rat):Prop:=∀A B z,f (A++z::z::B)=0
def aBZ {n:Nat}{f:List gG->Rat}(h:abV f)(x y:gG)(a:Rat)(A:List gG):∀cs oO,kI n f (A++EY x y a::oO) cs=kI n f (A++x::oO) cs+a*kI n f (A++y::oO) cs:=by
 intro cs
 induction cs with
 |nil=>intro oO;simp only[kI];grind
 |cons c cs aG =>
  intro oO;have e:=aG (oO++[c]);simp only[kI,g8,m1] at e ⊢;rw[h A (oO++cs) x y a,e];grind
def aB0 {n:Nat}{f:List gG->Rat}(h:abV f)(x y:gG)(a:Rat)(B:List gG):∀A pre,kI n f pre (A++EY x y a::B)=kI n f pre (A++x::B)+a*kI n f pre (A++y::B):=by
 intro A
 induction A with
 |nil =>
  intro pre;have e:=aBZ (n:=n) h x y a pre B [];simp only[jE,kI];rw[e];simp only[EY];grind
 |cons c A aG =>
  intro pre;have e:=aG (pre++[c]);have aC:=h (pre++A) B x y a;simp only[g8] at aC;simp only[m1,kI];rw[e,aC];grind
def HM:∀n,abV (hs n)
 |0=>by
  intro A B x y a
  cases A<;>simp only[jE,m1,hs]<;>grind
 |n+1=>λA B x y a=>aB0 (HM n) x y a B A []
def aB1 {n:Nat}{f:List gG->Rat}(h:abW f)(z:gG)(A:List gG):∀cs oO,kI n f (A++z::z::oO) cs=0:=by
 intro cs
 induction cs with
 |nil=>intro oO;rfl
 |cons c cs aG =>
  intro oO;have e:=aG (oO++[c]);have aC:=h A (oO++cs) z;simp only[kI,g8,m1] at e aC ⊢;rw[e,aC];grind
def aB2 {n:Nat}{f:List gG->Rat}(h:abW f)(z:gG)(B:List gG):∀A pre,kI n f pre (A++z::z::B)=0:=by
 intro A
 induction A with
 |nil =>
  intro pre;have e:=aB1 (n:=n) h z pre B [];simp only[jE,kI,g8,m1] at e ⊢;rw[e];grind
 |cons c A aG =>
  intro pre;have e:=aG (pre++[c]);have aC:=h (pre++A) B z;simp only[g8] at aC;simp only[m1,kI];rw[e,aC];grind
def PH:∀n,abW (hs n)
 |0=>by
  intro A B z
  cases A<;>rfl
 |n+1=>λA B z=>aB2 (PH n) z B A []
def aB3 (n:Nat)(A B:List gG)(x y:gG):hs n (A++x::y::B) = -hs n (A++y::x::B):=by
 have ay:=PH n A B (EY x y 1);have F:=HM n A (EY x y 1::B) x y 1;rw[ay] at F;have G:=HM n (A++[x]) B x y 1;have ab:=HM n (A++[y]) B x y 1;simp only[g8,m1,jE] at G ab;rw[G,ab,PH n A B x,PH n A B y] at F;grind
def ama (n:Nat)(C:List gG)(z:gG):∀B A,hs n (A++z::(B++z::C))=0:=by
 intro B
 induction B with
 |nil=>intro A;exact PH n A C z
 |cons b B aG =>
  intro A;have:=aG (A++[b]);simp only[g8,m1,jE] at this ⊢;rw[aB3,this];grind
def abX {n:Nat}{A B:List gG}{z:gG}(h:z∈A++B):hs n (A++z::B)=0:=by
 rcases jH.1 h with h|h
 ·obtain⟨aB4,UL,rfl⟩:=amb h;have:=ama n B z UL aB4
  simpa only [g8,m1] using this
 ·obtain⟨Dn,FF,rfl⟩:=amb h;exact ama n FF z Dn A
def aB5 {n:Nat}{f:List gG->Rat}{z:gG}(a2:z n=0)(h:∀A B,f (A++z::B)=0):(∀cs A oO,kI n f (A++z::oO) cs=0)/\∀A B pre,kI n f pre (A++z::B)=0:=by
 have F:∀cs A oO,kI n f (A++z::oO) cs=0:=by
  intro cs
  induction cs with
  |nil=>intro A oO;rfl
  |cons c cs aG =>
   intro A oO;have e:=aG A (oO++[c]);have aC:=h A (oO++cs);simp only[kI,g8,m1] at e aC ⊢;rw[e,aC];grind
 refine⟨F,λA=>?_⟩
 induction A with
 |nil =>
  intro B pre;have e:=F B pre [];simp only[jE,kI];rw[e,a2];grind
 |cons c A aG =>
  intro B pre;have e:=aG B (pre++[c]);have aC:=h (pre++A) B;simp only[g8] at aC;simp only[m1,kI];rw[e,aC];grind
def abY:∀n (z:gG),(∀i,i<n->z i=0)->∀A B,hs n (A++z::B)=0
 |0,z,_=>λA B=>by cases A<;>rfl
 |n+1,z,h=>λA B=>(aB5 (h n (by omega)) (abY n z λi O=>h i (by omega))).2 A B []
def amc {n:Nat}{e:gG}(h:∀i,i<n->e i=0)(cs:List gG):hs (n+1) (e::cs)=e n*hs n cs:=by
 show e n*hs n ([]++cs)-kI n (hs n) ([]++[e]) cs=_
 have:∀cs pre,kI n (hs n) (e::pre) cs=0:=by
  intro cs
  induction cs with
  |nil=>intro pre;rfl
  |cons c cs aG =>
   intro pre;have au:=aG (pre++[c]);have aC:=abY n e h [] (pre++cs);simp only[kI,m1,jE] at au aC ⊢;rw[au,aC];grind
 simp only[jE];rw[this cs []];grind
def aB6 {n:Nat}{f:List gG->Rat}{T:gG->gG}(di:∀c,T c n=c n)(h:∀l,f (l.map T)=f l):∀cs pre,kI n f (pre.map T) (cs.map T)=kI n f pre cs:=by
 intro cs
 induction cs with
 |nil=>intro pre;rfl
 |cons c cs aG =>
  intro pre;have e:=aG (pre++[c]);have aC:=h (pre++cs);simp only[kE,eE,bY] at e aC;simp only[eE,kI];rw[e,aC,di]
def abZ:∀n (T:gG->gG),(∀c i,i<n->T c i=c i)->∀l,hs n (l.map T)=hs n l
 |0,T,_=>λl=>by cases l<;>rfl
 |n+1,T,h=>λl=>aB6 (λc=>h c n (by omega)) (abZ n T λc i O=>h c i (by omega)) l []
def amd {n:Nat}{α:Type}(l:List α)(f g:α->gG)(h:∀a∈l,∀i,i<n->f a i=g a i):hs n (l.map f)=hs n (l.map g):=by
 rw[<-abZ n (λc i=>if i<n then c i else 0) (λc i O=>Y O),<-abZ n (λc i=>if i<n then c i else 0) (λc i O=>Y O) (l.map g)];rw[pJ,pJ]
 congr 1
 apply ox;intro a aZ
 funext i
 simp only[Function.comp]
 split
 ·exact h a aZ i (by assumption)
 ·rfl
def PI (n:Nat)(A B:List gG)(x:Nat->Rat)(C:Nat->gG):∀m,hs n (A++(λi=>bR m λl=>x l*C l i)::B)=bR m λl=>x l*hs n (A++C l::B)
 |0=>abY n _ (λi _=>rfl) A B
 |m+1=>by
  have e:=HM n A B (λi=>bR m λl=>x l*C l i) (C m) (x m);rw[PI n A B x C m] at e;exact e
def fg (B:Nat)(x:Rat):Prop:=∃z:Int,x=(z:Rat)/\z.natAbs<=B
def fg.mono {A B:Nat}{x:Rat}(h:fg A x)(aq:A<=B):fg B x:=by obtain⟨z,F,G⟩:=h;exact⟨z,F,by omega⟩
def fg.mul {A B:Nat}{x y:Rat}(L:fg A x)(aj:fg B y):fg (A*B) (x*y):=by
 obtain⟨z,rfl,G⟩:=L;obtain⟨w,rfl,dc⟩:=aj;exact⟨z*w,by rw[sC],by rw[tp];exact pj G dc⟩
def fg.sub {A B:Nat}{x y:Rat}(L:fg A x)(aj:fg B y):fg (A+B) (x-y):=by
 obtain⟨z,rfl,G⟩:=L;obtain⟨w,rfl,dc⟩:=aj;exact⟨z-w,by rw[CZ],by omega⟩
def fg.add {A B:Nat}{x y:Rat}(L:fg A x)(aj:fg B y):fg (A+B) (x+y):=by
 obtain⟨z,rfl,G⟩:=L;obtain⟨w,rfl,dc⟩:=aj;exact⟨z+w,by rw[CY],by omega⟩
def fg.zero {B:Nat}:fg B 0:=⟨0,by rfl,by simp⟩
def fg.int (z:Int):fg z.natAbs (z:Rat):=⟨z,rfl,cl _⟩
def fg.sum {B:Nat}{f:Nat->Rat}:∀n,(∀k,k<n->fg B (f k))->fg (n*B) (bR n f)
 |0,_=>fg.zero
 |n+1,h=>by
  have:=(fg.sum n λk I=>h k (by omega)).add (h n (by omega));exact this.mono (by rw[vp];exact cl _)
def fg.of {z:Int}{B:Nat}(h:z.natAbs<=B):fg B (z:Rat):=⟨z,rfl,h⟩
def fg.nat {z:Nat}{B:Nat}(h:z<=B):fg B (z:Rat):=⟨z,(oe _).symm,by omega⟩
def hf:Nat->(Nat->Nat)->Nat
 |0,_=>0
 |n+1,a=>hf n a+a n
def ab0 {n:Nat}{a b:Nat->Nat}(h:∀i,i<n->a i=b i):hf n a=hf n b:=by
 induction n with
 |zero=>rfl
 |succ n aG=>rw[hf,hf,aG λi O=>h i (by omega),h n (by omega)]
def aB7 {N t:Nat}(b:Nat->Nat)(b0:t<N):hf N b=hf N (λi=>if i=t then 0 else b i)+b t:=by
 induction N with
 |zero=>omega
 |succ N aG =>
  by_cases h:t=N
  ·subst h;rw[hf,hf,Y rfl];have:hf t b=hf t λi=>if i=t then 0 else b i:=ab0 λi O=>by rw[aa (by omega)]
   omega
  ·have:=aG (by omega);rw[hf,hf,aa (by omega)];omega
def ab1 {N:Nat}{τ:Nat->Nat}:∀{n:Nat} (b:Nat->Nat),(∀i,i<n->τ i<N)->(∀i j,i<n->j<n->τ i=τ j->i=j)->hf n (λi=>b (τ i))<=hf N b
 |0,_,_,_=>fL _
 |n+1,b,F,G=>by
  have aG:=ab1 (n:=n) (λi=>if i=τ n then 0 else b i) (λi O=>F i (by omega)) λi j O ae=>G i j (by omega) (by omega);rw[aB7 b (F n (by omega)),hf]
  have:hf n (λi=>b (τ i))=hf n λi=>if τ i=τ n then 0 else b (τ i):=ab0 λi O=>by
   rw[aa λh=>by have:=G i n (by omega) (by omega) h;omega]
  omega
def jo:Nat->(Nat->Nat)->Nat
 |0,_=>1
 |n+1,cr=>jo n cr*cr n
def ab2 {n:Nat}{cr:Nat->Nat}(h:∀k,k<n->0<cr k):0<jo n cr:=by
 induction n with
 |zero=>exact ab3
 |succ n aG=>exact ab4 (aG λk I=>h k (by omega)) (h n (by omega))
def ab5 {n b:Nat}{cr:Nat->Nat}(h:∀k,k<n->cr k<=2^b):jo n cr<=2^(n*b):=by
 induction n with
 |zero=>simp[jo]
 |succ n aG =>
  rw[vp,AS];exact pj (aG λk I=>h k (by omega)) (h n (by omega))
def ab6 {n:Nat}{cr:Nat->Nat}{k:Nat}(I:k<n):∃m,jo n cr=cr k*m:=by
 induction n with
 |zero=>omega
 |succ n aG =>
  by_cases AP:k=n
  ·subst AP;exact⟨jo k cr,vJ _ _⟩
  ·obtain⟨m,hm⟩:=aG (by omega);exact⟨m*cr n,by rw[jo,hm,HN]⟩
def ame {p:Nat}{cr:Nat->Nat}(ky:∀k,0<cr k):∀{N:Nat},p<=N->∃bC,0<bC/\jo N cr=jo p cr*bC/\∀k,p<=k->k<N->∃m,bC=cr k*m
 |0,h=>⟨1,ab3,by rw[show p=0 by omega];rfl,λk _ h=>by omega⟩
 |N+1,h=>by
  by_cases aE:p=N+1
  ·exact⟨1,ab3,by rw[aE,dZ],λk F G=>by omega⟩
  ·obtain⟨bC,ay,F,G⟩:=ame (p:=p) ky (N:=N) (by omega);refine⟨bC*cr N,ab4 ay (ky N),by rw[jo,F,HN],λk cy dw=>?_⟩
   by_cases I:k=N
   ·exact⟨bC,by rw[I,vJ]⟩
   ·obtain⟨m,hm⟩:=G k cy (by omega);exact⟨m*cr N,by rw[hm,HN]⟩
abbrev KV:=gG×(Nat->Nat)
def og (n:Nat):List KV->Nat
 | []=>1
 |p::l=>hf n p.2*og n l
def aB8 (n:Nat)(a b:List KV):og n (a++b)=og n a*og n b:=by
 induction a with
 |nil=>simp[og]
 |cons p l aG=>simp only[m1,og,aG,HN]
def amf (n:Nat):∀l:List KV,og n l<=og (n+1) l
 | []=>cl _
 |p::l=>pj (Nat.le_add_right _ _) (amf n l)
def amg {n:Nat}{f:List gG->Rat}(h:∀l:List KV,(∀p∈l,∀i,i<n->fg (p.2 i) (p.1 i))->fg (og n l) (f (l.map (·.1)))):
  ∀cs pre:List KV,(∀p∈pre++cs,∀i,i<n+1->fg (p.2 i) (p.1 i))->∃z:Int,kI n f (pre.map (·.1)) (cs.map (·.1))=(z:Rat)/\z.natAbs+og n pre*og n cs<=og n pre*og (n+1) cs
 | [],pre,_=>⟨0,rfl,by simp[og]⟩
 |c::cs,pre,aE=>by
  obtain⟨z,F,G⟩:=amg h cs (pre++[c]) (by simpa using aE);obtain⟨y,cU,dc⟩:=h (pre++cs) λp hm i O=>aE p (by simp only[jH,n2] at hm ⊢;rcases hm with hm|hm<;>simp[hm]) i (by omega)
  obtain⟨x,cy,dw⟩:=aE c (by simp) n (by omega);simp only[kE,eE,bY] at F cU;refine⟨x*y-z,?_,?_⟩
  ·simp only[eE,kI];rw[cy,cU,F,CZ,sC]
  ·rw[aB8] at G dc;simp only[og,hf,dZ] at G ⊢;have cz:(x*y-z).natAbs<=x.natAbs*y.natAbs+z.natAbs:=by rw[<-tp];omega
   have cY:=pj dw (eR dc (pj (cl _) (amf n cs)));generalize og n pre=P at *;generalize og n cs=s at *;generalize og (n+1) cs=S at *;generalize hf n c.2=c7 at *;generalize c.2 n=a at *;have au:P*((c7+a)*S)=P*c7*S+a*(P*S):=by rw[Nat.add_mul,Nat.mul_add,HN,amh a]
   have aC:P*(c7*s)=P*c7*s:=(HN _ _ _).symm;rw[au,aC];omega
def ami:∀n (l:List KV),(∀p∈l,∀i,i<n->fg (p.2 i) (p.1 i))->fg (og n l) (hs n (l.map (·.1)))
 |0,[],_=>⟨1,by rfl,by simp[og]⟩
 |0,p::l,_=>fg.zero
 |n+1,l,h=>by
  obtain⟨z,F,G⟩:=amg (f:=hs n) (ami n) l [] (by simpa using h);refine⟨z,F,?_⟩;simp only[og,Nat.one_mul] at G;omega
open Go
def mw (N:Nat)(l:List bz)(q:Nat->Rat):Prop:=l=((eM (N+1)).map q).map av/\∀k,k<=N->dH (q k)
def zi (N:Nat)(rows:List dz)(aR:e4):Prop:=D rows=N/\∀(i:Nat) x,rows[i]?=some x->mw N x.2.2 (aR i)
def mw.get {N:Nat}{l:List bz}{q:Nat->Rat}(h:mw N l q){k:Nat}(I:k<=N):l[k]?=some (av (q k)):=by
 rw[h.1,bm,bm,vo (by omega)]
 rfl
def mw.len {N:Nat}{l:List bz}{q:Nat->Rat}(h:mw N l q):(D l)=N+1:=by rw[h.1];simp
def mw.ab7 {N:Nat}{l:List bz}{q:Nat->Rat}(aq:(D l)=N+1)(h:∀k,k<=N->l[k]?=some (av (q k))/\dH (q k)):mw N l q:=by
 refine⟨?_,λk I=>(h k I).2⟩;apply pE;intro k;rcases hO k (N+1) with I|I
 ·rw[(h k (by omega)).1,bm,bm,vo I];rfl
 ·rw[jZ (by omega),jZ (by simp;omega)]
def mw.congr {N:Nat}{l:List bz}{q vS:Nat->Rat}(h:mw N l q)(bq:∀k,k<=N->q k=vS k):mw N l vS :=
 mw.ab7 h.len λk I=>by rw[<-bq k I];exact⟨h.get I,h.2 k I⟩
def mw.cell {N:Nat}{x:dz}{q:Nat->Rat}(h:mw N x.2.2 q){k:Nat}(I:k<=N):cellOf x k=av (q k):=aaJ (h.get I)
def UM (q:Rat):hd (av q)=decide (q=0):=by
 unfold hd av bl;rw[Bool.eq_iff_iff,beq_iff_eq,decide_eq_true_eq,Int.sign_eq_zero_iff_zero,Rat.num_eq_zero]
def tJ (fH a b:Rat):Bool:=At fH b&&qF a (-(fH*b))
def amj {fH a b:Rat}(aH:dH fH)(aZ:dH a)(ad:dH b)(h:tJ fH a b=true):
  jx (av fH) (av b)=(av (fH*b),0)/\l0 (av a) (av (fH*b))=(av (a-fH*b),0)/\dH (a-fH*b):=by
 unfold tJ at h;rw[fC] at h;refine⟨?_,?_,ai3 h.2⟩
 ·rw[Th aH ad,h.1];rfl
 ·rw[OA aZ (ai4 h.1),h.2];rfl
def aB9 {fH a b:Rat}(aH:dH fH)(aZ:dH a)(ad:dH b)(h:tJ fH a b=false):
  ((jx (av fH) (av b)).2 != 0||(l0 (av a) (jx (av fH) (av b)).1).2 != 0)=true:=by
 unfold tJ at h;rw[Th aH ad];rcases F:At fH b
 ·rfl
 ·rw[F,fN] at h;show ((l0 (av a) (av (fH*b))).2 != 0)=true;rw[OA aZ (ai4 F),h]
  rfl
def aCa {fH:Rat}(aH:dH fH):∀(zj pl:List Rat),D zj=(D pl)->(∀x∈zj,dH x)->(∀x∈pl,dH x) ->
  ((∀q∈zj.zip pl,tJ fH q.1 q.2=true)->iZ (av fH) (zj.map av) (pl.map av) false=((ab8 (λa b=>a-fH*b) zj pl).map av,false)/\∀x∈ab8 (λa b=>a-fH*b) zj pl,dH x) /\
  ((iZ (av fH) (zj.map av) (pl.map av) false).2=false->∀q∈zj.zip pl,tJ fH q.1 q.2=true):=by
 intro zj
 induction zj with
 |nil=>intro pl aq _ _;cases pl with
  |nil=>exact⟨λ_=>⟨rfl,by simp⟩,λ_=>by simp⟩
  |cons=>cases aq
 |cons a zj aG =>
  intro pl aq F G
  cases pl with
  |nil=>cases aq
  |cons b pl =>
   have aZ:=F a g1;have ad:=G b g1;obtain⟨i1,i2⟩:=aG pl (by simpa using aq) (λx L=>F x (iG _ L)) (λx L=>G x (iG _ L))
   constructor
   ·intro ea;obtain⟨au,aC,bN⟩:=amj aH aZ ad (ea (a,b) (by simp));obtain⟨i3,i4⟩:=i1 λq bq=>ea q (by simp only[abt,n2];exact .inr bq);refine⟨?_,λx L=>?_⟩
    ·simp only[eE,iZ,au,aC,amk,bne_self_eq_false,lT,i3]
    ·rw[amk,n2] at L;rcases L with rfl|L
     ·exact bN
     ·exact i4 x L
   ·intro fi;simp only[eE,iZ] at fi;rcases R:tJ fH a b
    ·rw[aB9 aH aZ ad R,O1] at fi
     cases fi
    ·obtain⟨au,aC,bN⟩:=amj aH aZ ad R;simp only[au,aC,bne_self_eq_false,lT] at fi;intro q bq;rw[abt,n2] at bq;rcases bq with rfl|bq
     ·exact R
     ·exact i2 fi q bq
def aCb (n:Nat)(q p:Nat->Rat):((eM n).map q).zip ((eM n).map p)=(eM n).map λk=>(q k,p k):=by
 rw[List.zip_map',]
def aCc (n:Nat)(f:Rat->Rat->Rat)(q p:Nat->Rat):ab8 f ((eM n).map q) ((eM n).map p)=(eM n).map λk=>f (q k) (p k):=by
 rw[List.zipWith_map,List.zipWith_self]
def aCd {N:Nat}{fH:Rat}{l aw:List bz}{q p:Nat->Rat}(aH:dH fH)(F:mw N l q)(G:mw N aw p):
  ((∀k,k<=N->tJ fH (q k) (p k)=true)->(iZ (av fH) l aw false).2=false)/\((iZ (av fH) l aw false).2=false->mw N (iZ (av fH) l aw false).1 (λk=>q k-fH*p k)):=by
 obtain⟨au,aC⟩:=aCa aH ((eM (N+1)).map q) ((eM (N+1)).map p) (by simp) (by
  intro x L;obtain⟨k,I,rfl⟩:=gm.1 L;exact F.2 k (by have:=ig.1 I;omega)) (by
  intro x L;obtain⟨k,I,rfl⟩:=gm.1 L;exact G.2 k (by have:=ig.1 I;omega))
 rw[<-F.1,<-G.1] at au aC
 have a2:(∀k,k<=N->tJ fH (q k) (p k)=true)↔∀x∈((eM (N+1)).map q).zip ((eM (N+1)).map p),tJ fH x.1 x.2=true:=by
  rw[aCb];simp only[gm,ig]
  constructor
  ·rintro h x ⟨k,I,rfl⟩;exact h k (by omega)
  ·intro h k I;exact h (q k,p k) ⟨k,by omega,rfl⟩
 refine⟨λh=>by rw[(au (a2.1 h)).1],λh=>?_⟩
 obtain⟨bN,bK⟩:=au (aC h);rw[bN,aCc] at *;exact⟨rfl,λk I=>bK _ (gm.2 ⟨k,ig.2 (by omega),rfl⟩)⟩
def UN (gh:List bz)(r c:Nat):∀(i:Nat) (l:List dz),(jl gh r c i l true).2=true
 |_,[]=>rfl
 |i,x::xs=>by
  unfold jl
  split
  ·exact UN gh r c (i+1) xs
  ·rw[O1];exact UN gh r c (i+1) xs
def aml {N r c:Nat}{gh:List bz}{p:Nat->Rat}(aE:mw N gh p)(J:c<=N):∀(i:Nat) (l:List dz) (cr:e4),(∀(j:Nat) x,l[j]?=some x->mw N x.2.2 (cr (i+j))) ->
  ((∀j,j<(D l)->i+j≠r->cr (i+j) c≠0->∀k,k<=N->tJ (cr (i+j) c) (cr (i+j) k) (p k)=true)->(jl gh r c i l false).2=false) /\
  ((jl gh r c i l false).2=false->∀(j:Nat) x,(jl gh r c i l false).1[j]?=some x->mw N x.2.2 (λk=>if i+j=r then cr (i+j) k else cr (i+j) k-cr (i+j) c*p k))
 |i,[],cr,h=>⟨λ_=>rfl,λ_ j x L=>by simp[jl] at L⟩
 |i,x::xs,cr,h=>by
  have ay:=h 0 x rfl;rw[lO] at ay
  obtain⟨amm,UO⟩:=aml aE J (i+1) xs cr λj y aj=>by
   have:=h (j+1) y aj;rwa [show i+(j+1)=i+1+j by omega] at this
  have nY:=ay.cell J
  have amn:(∀j,j<(x::xs).length->i+j≠r->cr (i+j) c≠0->∀k,k<=N->tJ (cr (i+j) c) (cr (i+j) k) (p k)=true)->∀j,j<(D xs)->i+1+j≠r->cr (i+1+j) c≠0->∀k,k<=N->tJ (cr (i+1+j) c) (cr (i+1+j) k) (p k)=true:=by
   intro a1 j ae;have:=a1 (j+1) (by simpa using ae);rwa [show i+(j+1)=i+1+j by omega] at this
  unfold jl;rw[nY,UM]
  by_cases a2:(i==r||decide (cr i c=0))=true
  ·rw[Y a2];refine⟨λa1=>amm (amn a1),λad j y aj=>?_⟩
   cases j with
   |zero =>
    simp only[F9,cF] at aj;subst aj;rw[lO];refine ay.congr λk I=>?_;simp only[s9,beq_iff_eq,decide_eq_true_eq] at a2
    split
    ·rfl
    ·rcases a2 with a2|a2
     ·contradiction
     ·rw[a2];grind
   |succ j =>
    have:=UO ad j y (by simpa using aj);rwa [show i+(j+1)=i+1+j by omega]
  ·rw[aa a2];simp only[s9,beq_iff_eq,decide_eq_true_eq,not_or] at a2;obtain⟨cU,dc⟩:=aCd (ay.2 c J) ay aE
   constructor
   ·intro a1;have ab:=cU (a1 0 (by simp) (by simpa using a2.1) (by simpa using a2.2));dsimp only;rw[ab];exact amm (amn a1)
   ·intro ad j y aj;dsimp only at ad aj;rcases sj:(iZ (av (cr i c)) x.2.2 gh false).2
    ·rw[sj] at ad aj
     cases j with
     |zero =>
      simp only[F9,cF] at aj;subst aj;rw[lO];exact (dc sj).congr λk I=>by rw[aa a2.1]
     |succ j =>
      have:=UO ad j y (by simpa using aj);rwa [show i+(j+1)=i+1+j by omega]
    ·rw[sj,UN] at ad
     cases ad
def aCe {N:Nat}{l:List bz}{q:Nat->Rat}{b:Rat}(h:mw N l q)(ad:dH b)(ay:b≠0):
  ((hJ (av b) l).2=false↔∀k,k<=N->xw (q k) b=true)/\((hJ (av b) l).2=false->mw N (hJ (av b) l).1 (λk=>q k/b)):=by
 have au:(hJ (av b) l).2=false↔∀k,k<=N->xw (q k) b=true:=by
  unfold hJ;rw[h.1];simp only[EL,gm,ig]
  constructor
  ·intro a1 k I;have:=a1 (av (q k)) ⟨q k,⟨k,by omega,rfl⟩,rfl⟩
   rw[OB (h.2 k I) ad ay] at this;rcases Z:xw (q k) b
   ·rw[Z] at this;exact absurd rfl this
   ·rfl
  ·rintro a1 _ ⟨_,⟨k,I,rfl⟩,rfl⟩;rw[OB (h.2 k (by omega)) ad ay,a1 k (by omega)];simp[Oz]
 refine⟨au,λa1=>?_⟩;have cw:=au.1 a1;refine mw.ab7 (by unfold hJ;rw[al,h.len]) λk I=>⟨?_,ax3 (cw k I)⟩;unfold hJ;rw[bm,h.get I,ks,OB (h.2 k I) ad ay,cw k I]
 rfl
def zi.row {N:Nat}{rows:List dz}{aR:e4}(h:zi N rows aR){i:Nat}(O:i<N):∃x,rows[i]?=some x/\rowAt rows i=x/\mw N x.2.2 (aR i):=by
 obtain⟨x,L⟩:∃x,rows[i]?=some x:=⟨_,bh (by have:=h.1;omega)⟩;exact⟨x,L,uX L,h.2 i x L⟩
def zi.swap {N:Nat}{rows:List dz}{aR:e4}(h:zi N rows aR){r s:Nat}(X:r<N)(R:s<N):zi N (nK rows r s) (il aR r s):=by
 obtain⟨x,L,ex,nP⟩:=h.row X;obtain⟨y,aj,zT,aCf⟩:=h.row R;unfold nK;rw[ex,zT];refine⟨by rw[ie,ie];exact h.1,λi z a2=>?_⟩
 rw[mr,mr,ie] at a2;unfold il
 by_cases F:s=i
 ·rw[Y F,Y (by have:=h.1;omega)] at a2
  cases a2;rw[Y F.symm];exact nP
 ·rw[aa F] at a2;rw[aa (Ne.symm F)]
  by_cases G:r=i
  ·rw[Y G,Y (by have:=h.1;omega)] at a2
   cases a2;rw[Y G.symm];exact aCf
  ·rw[aa G] at a2;rw[aa (Ne.symm G)];exact h.2 i z a2
def amo (N:Nat)(S:e4)(r c:Nat):Prop:=(∀k,k<=N->xw (S r k) (S r c)=true)/\∀i,i<N->i≠r->S i c≠0->∀k,k<=N->tJ (S i c) (S i k) (S r k/S r c)=true
def amp {N:Nat}{rows:List dz}{aR:e4}(h:zi N rows aR){r c:Nat}(X:r<N)(J:c<N):
  ((ja rows r c).1=true/\(ja rows r c).2.1=rows/\(ja rows r c).2.2=false/\∀i,r<=i->i<N->aR i c=0) \/
  ((ja rows r c).1=false/\∃s,r<=s/\s<N/\aR s c≠0/\((ja rows r c).2.2=false->zi N (ja rows r c).2.1 (p0 aR r c s))/\(amo N (il aR r s) r c->(ja rows r c).2.2=false)):=by
 have aq:=h.1;have gw:=ak1 rows r c (by omega)
 have lg:∀i x,r<=i->i<findAt rows r c->rows[i]?=some x->hd (cellOf x c)=true:=by
  intro i x nV oX L;unfold findAt at oX;have ah:i-r<(rows.drop r).findIdx λx => !hd (cellOf x c):=by omega
  have:=List.not_of_lt_findIdx ah
  have bb:(rows.drop r)[i-r]'(Nat.lt_of_lt_of_le ah aa2)=x:=by
   rw[ED];have:=(dV.1 L)
   obtain⟨F,G⟩:=this;simp only[show r+(i-r)=i by omega]
   exact G
  rw[bb] at this
  simpa using this
 unfold ja
 by_cases aH:findAt rows r c=D rows
 ·left
  rw[Y aH];refine⟨rfl,rfl,rfl,λi nV oX=>?_⟩;obtain⟨x,L,-,nP⟩:=h.row oX;have:=lg i x nV (by omega) L;rw[nP.cell (by omega),UM] at this
  simpa using this
 ·right
  rw[aa aH];refine⟨rfl,findAt rows r c,gw.1,by omega,?_,?_⟩
  ·obtain⟨x,L,-,nP⟩:=h.row (i:=findAt rows r c) (by omega);have ah:findAt rows r c-r<(rows.drop r).length:=by rw[oz];omega
   have G:(rows.drop r).findIdx (λx => !hd (cellOf x c))<(rows.drop r).length:=by
    unfold findAt at ah;omega
   have ab:=amq (w:=G)
   have bb:(rows.drop r)[(rows.drop r).findIdx λx => !hd (cellOf x c)]=x:=by
    rw[ED];exact (dV.1 L).2
   rw[bb,nP.cell (by omega),UM] at ab
   simpa using ab
  ·have R:findAt rows r c<N:=by omega
   have rB:=h.swap X R
   have b8:il aR r (findAt rows r c) r c≠0:=by
    rw[Uy];obtain⟨x,L,-,nP⟩:=h.row R
    have G:(rows.drop r).findIdx (λx => !hd (cellOf x c))<(rows.drop r).length:=by
     rw[oz];unfold findAt at R;omega
    have ab:=amq (w:=G)
    have bb:(rows.drop r)[(rows.drop r).findIdx λx => !hd (cellOf x c)]=x:=by
     rw[ED];exact (dV.1 L).2
    rw[bb,nP.cell (by omega),UM] at ab
    simpa using ab
   have TT:p0 aR r c (findAt rows r c)=λi k=>if i=r then il aR r (findAt rows r c) r k/il aR r (findAt rows r c) r c else il aR r (findAt rows r c) i k-il aR r (findAt rows r c) i c*(il aR r (findAt rows r c) r k/il aR r (findAt rows r c) r c):=rfl;rw[TT];generalize nK rows r (findAt rows r c)=gF at *;generalize il aR r (findAt rows r c)=S at *;obtain⟨x,L,ex,nP⟩:=rB.row X;rw[ex,nP.cell (by omega)];obtain⟨d1,d2⟩:=aCe nP (nP.2 c (by omega)) b8
   have o6:CO gF r c=gF.set r (x.1,x.2.1,(hJ (av (S r c)) x.2.2).1):=by
    unfold CO;rw[ex,nP.cell (by omega)]
   rw[o6]
   have ab9:mw N (hJ (av (S r c)) x.2.2).1 (λk=>S r k/S r c)->∀(j:Nat) y,(gF.set r (x.1,x.2.1,(hJ (av (S r c)) x.2.2).1))[j]?=some y->mw N y.2.2 ((λi=>if i=r then λk=>S r k/S r c else S i) (0+j)):=by
    intro Z j y aj;rw[q4];rw[mr] at aj
    by_cases ae:r=j
    ·rw[Y ae,Y (by have:=rB.1;omega)] at aj
     cases aj;dsimp only;rw[Y ae.symm];exact Z
    ·rw[aa ae] at aj;dsimp only;rw[aa (Ne.symm ae)];exact rB.2 j y aj
   dsimp only;rcases yG:(hJ (av (S r c)) x.2.2).2
   ·have Z:=d2 yG;obtain⟨e2,fa⟩:=aml (r:=r) (c:=c) Z (by omega) 0 (gF.set r (x.1,x.2.1,(hJ (av (S r c)) x.2.2).1)) (λi=>if i=r then λk=>S r k/S r c else S i) (ab9 Z)
    constructor
    ·intro ad;refine⟨?_,λi z a2=>?_⟩
     ·have:=congrArg D (T5 (hJ (av (S r c)) x.2.2).1 r c 0 (gF.set r (x.1,x.2.1,(hJ (av (S r c)) x.2.2).1)) false);rw[al,al,ie] at this;rw[this];exact rB.1
     ·have:=fa ad i z a2;rw[q4] at this;refine this.congr λk I=>?_
      by_cases qP:i=r
      ·simp only[Y qP]
      ·simp only[aa qP]
    ·intro cw;refine e2 λj ae PJ b8 k I=>?_;rw[q4] at *;simp only[aa PJ] at b8 ⊢;rw[ie,rB.1] at ae;exact cw.2 j ae PJ b8 k I
   ·constructor
    ·intro ad;rw[UN] at ad
     cases ad
    ·intro cw;rw[d1.2 cw.1] at yG
     cases yG
structure KW (N:Nat) (aR xO:e4) (rows:List dz) (p c:Nat) (ei:Nat->Nat):Prop where
 enc:zi N rows xO
 red:sA N xO p c ei
 KX:∀y,jn N xO y↔jn N aR y
def aCg (stop:Bool)(N:Nat)(amr:e4):∀k c rows free aR p ei,c+k=N->KW N amr aR rows p c ei->p+D free=c->(stop=true->free=[]/\∀j,j<p->ei j=j) ->
  ∀zk tK,mv stop k c rows free false=(zk,tK,false) ->
  ∃xO re c' AU,KW N amr xO zk re c' AU/\(stop=false->c'=N/\re+D tK=N) /\
   (stop=true->(tK=[]/\c'=N/\re=N/\∀j,j<N->AU j=j)\/(∃f,tK=[f]/\f<N/\re=f/\c'=f/\(∀j,j<f->AU j=j)/\∀i,f<=i->i<N->xO i f=0)):=by
 intro k
 induction k with
 |zero =>
  intro c rows free aR p ei J he aE R zk tK L;simp only[mv,fq,and_true] at L;obtain⟨rfl,rfl⟩:=L;refine⟨aR,p,c,ei,he,λ_=>⟨by omega,by omega⟩,λh=>?_⟩
  obtain⟨F,G⟩:=R h;subst F;simp only[o2,lO] at aE;exact .inl ⟨rfl,by omega,by omega,λj ae=>G j (by omega)⟩
 |succ k aG =>
  intro c rows free aR p ei J he aE R zk tK L;have lV:c-D free=p:=by omega
  unfold mv at L;rw[lV] at L;rcases amp he.enc (r:=p) (c:=c) (by omega) (by omega) with ⟨F,G,ab,aV⟩|⟨F,s,jL,la,zl,aV,bu⟩
  ·rw[F,G,ab,Y rfl] at L
   cases stop with
   |true =>
    rw[Y rfl] at L;simp only[fq,and_true] at L;obtain⟨rfl,rfl⟩:=L;obtain⟨cU,dc⟩:=R rfl;subst cU;simp only[o2,lO] at aE;subst aE;exact⟨aR,p,p,ei,he,by simp,λ_ => .inr ⟨p,rfl,by omega,rfl,rfl,dc,aV⟩⟩
   |false =>
    rw[aa (by simp)] at L;exact aG (c+1) rows (free++[c]) aR p ei (by omega) ⟨he.enc,he.red.free aV,he.KX⟩ (by simp;omega) (by simp) zk tK L
  ·rw[F,aa (by simp)] at L;rcases ad:(ja rows p c).2.2
   ·rw[ad] at L;have zm:=aV ad;refine aG (c+1) _ free (p0 aR p c s) (p+1) (λj=>if j=p then c else ei j) (by omega) ⟨zm,he.red.Hy (by omega) jL la zl,λy=>(abw (by omega) la zl).trans (he.KX y)⟩ (by omega) (λh=>?_) zk tK L;obtain⟨cU,dc⟩:=R h;refine⟨cU,λj ae=>?_⟩;subst cU;simp only[o2,lO] at aE;show (if j=p then c else ei j)=j
    split
    ·omega
    ·exact dc j (by omega)
   ·rw[ad,T3] at L
    cases L
def sD (rs:List cI):e4:=λi k=>if k<(D rs) then El ((rs.getD i ([],cW)).1.getD k cW) else El (rs.getD i ([],cW)).2
def ams {f:bz}(h:dM f=true):f=av (El f)/\dH (El f):=by
 obtain⟨x,L,rfl⟩:=(Cr _).1 h;rw[Hd];exact⟨rfl,L⟩
def aCh {rs:List cI}{n:Int}(h:j7 rs n=true):(D rs:Int)=n/\D rs<=40/\∀r∈rs,r.1.length=D rs/\dM r.2=true/\∀f∈r.1,dM f=true:=by
 unfold j7 at h;simp only[fC,tw,decide_eq_false_iff_not,beq_iff_eq] at h;obtain⟨F,G,ab,aV⟩:=h;refine⟨ab,by omega,λr X=>?_⟩
 rw[EL] at aV;have:=aV r X;unfold oc Cz at this;simp only[tw,Bool.not_eq_true,Bool.not_eq_false',fC,beq_iff_eq,EL,Bool.not_eq_false] at this;obtain⟨dI,ek,ht⟩:=this;exact⟨by omega,ek,λf aH=>by simpa using ht f aH⟩
def amt {rs:List cI}{i:Nat}{r:cI}(h:rs[i]?=some r):rs.getD i ([],cW)=r:=by
 rw[eD,h];rfl
def amu {rs:List cI}{n:Int}(h:j7 rs n=true):zi (D rs) (ik rs) (sD rs):=by
 obtain⟨aL,aPO,ab9⟩:=aCh h;refine⟨Hx rs,λi x L=>?_⟩
 have O:i<D rs:=by
  have:=(dV.1 L).1;rwa [Hx] at this
 obtain⟨r,X⟩:∃r,rs[i]?=some r:=⟨_,bh O⟩;rw[akU X] at L
 cases L;obtain⟨au,aC,bN⟩:=ab9 r (dy X);refine mw.ab7 (by simp[au]) λk I=>?_;unfold sD;rw[amt X]
 by_cases iP:k<D rs
 ·rw[Y iP];obtain⟨f,aH⟩:∃f,r.1[k]?=some f:=⟨_,bh (by omega)⟩;obtain⟨dI,ek⟩:=ams (bN f (dy aH));rw[qi (by omega),aH,eD,aH];exact⟨congrArg some dI,ek⟩
 ·rw[aa iP];obtain⟨dI,ek⟩:=ams aC;rw[ov (by omega),au,show k-D rs=0 by omega]
  exact⟨congrArg some dI,ek⟩
def aCi (stop:Bool){rs:List cI}{n:Int}(h:j7 rs n=true){zk:List dz}{tK:List Nat}(L:pg stop rs=(zk,tK,false)):
  ∃xO re c' AU,KW (D rs) (sD rs) xO zk re c' AU/\(stop=false->c'=D rs/\re+D tK=D rs) /\
   (stop=true->(tK=[]/\c'=D rs/\re=D rs/\∀j,j<(D rs)->AU j=j)\/(∃f,tK=[f]/\f<D rs/\re=f/\c'=f/\(∀j,j<f->AU j=j)/\∀i,f<=i->i<(D rs)->xO i f=0)) :=
 aCg stop (D rs) (sD rs) (D rs) 0 (ik rs) [] (sD rs) 0 (λj=>j) (by omega) ⟨amu h,Uz _ _ _,λ_=>Iff.rfl⟩ rfl (λ_=>⟨rfl,λj ae=>by omega⟩) zk tK L
def PK (N:Nat)(q:Nat->Rat)(b:Nat):Prop:=∃(v:Nat->Int) (d:Int),d≠0/\d.natAbs<=2^b/\∀k,k<=N->q k*(d:Rat)=(v k:Rat)/\(v k).natAbs<=2^b
def PK.mono {N a b:Nat}{q:Nat->Rat}(h:PK N q a)(CB:a<=b):PK N q b:=by
 obtain⟨v,d,F,G,ab⟩:=h;have aE:2^a<=2^b:=yL (by omega) CB;exact⟨v,d,F,eR G aE,λk I=>⟨(ab k I).1,eR (ab k I).2 aE⟩⟩
def aCj {q:Rat}{v d:Int}(Z:d≠0)(h:q*(d:Rat)=(v:Rat)):q.num*d=v*q.den:=by
 have ou:(d:Rat)≠0:=by rw[Ne,amv];exact Z
 have e:q=mJ v d:=by rw[PL];grind
 have aC:mJ q.num q.den=mJ v d:=by rw[Rat.num_divInt_den];exact e
 exact (Rat.divInt_eq_divInt_iff (Au q) Z).1 aC
def EZ {q:Rat}{v d:Int}(Z:d≠0)(h:q*(d:Rat)=(v:Rat)):q.num.natAbs<=v.natAbs/\q.den<=d.natAbs:=by
 have J:=aCj Z h
 have lR:q.num.natAbs*d.natAbs=v.natAbs*q.den:=by
  have:=congrArg Int.natAbs J;rwa [tp,tp,m5] at this
 have Dy:q.den∣d.natAbs:=(Nat.Coprime.symm q.reduced).dvd_of_dvd_mul_left ⟨v.natAbs,by rw[lR,vJ]⟩
 have ZX:0<d.natAbs:=by omega
 have G:=Nat.le_of_dvd ZX Dy;refine⟨?_,G⟩;obtain⟨m,hm⟩:=Dy;rw[hm] at lR;have Z0:=q.den_pos
 have ab:q.num.natAbs*m=v.natAbs:=by
  have:q.den*(q.num.natAbs*m)=q.den*v.natAbs:=by rw[vJ q.den v.natAbs,<-lR];rw[amh]
  exact Nat.eq_of_mul_eq_mul_left Z0 this
 have n0:0<m:=by
  rcases kO m with ay|ay
  ·rw[ay,Nat.mul_zero] at hm;omega
  ·exact ay
 rw[<-ab];exact MK _ n0
def e0 (b:Nat)(q:Rat):Prop:=q.num.natAbs<=2^b/\q.den<=2^b
def PK.sz {N b:Nat}{q:Nat->Rat}(h:PK N q b){k:Nat}(I:k<=N):e0 b (q k):=by
 obtain⟨v,d,F,G,ab⟩:=h;obtain⟨au,aC⟩:=ab k I;obtain⟨f1,f2⟩:=EZ F au;exact⟨eR f1 aC,eR f2 G⟩
def aCk (a b c:Nat)(h:a=2^b):a^c=2^(b*c):=by rw[h,<-Nat.pow_mul]
def amw:∃B:Nat,B=1200/\dF=2^B:=⟨20*60,rfl,aCk 1048576 20 60 (by decide)⟩
def E0 {z:Int}{b:Nat}(h:z.natAbs<=2^b)(ad:b<1200):h2 z=true:=by
 obtain⟨B,ga,fO⟩:=amw;unfold h2;rw[fO,decide_eq_true_eq];exact vQ h (amx (by omega) (by omega))
def xP {x y:Int}{a b:Nat}(L:x.natAbs<=2^a)(aj:y.natAbs<=2^b):(x*y).natAbs<=2^(a+b):=by
 rw[tp,AS];exact pj L aj
def amy {x y:Int}{a:Nat}(L:x.natAbs<=2^a)(aj:y.natAbs<=2^a):(x+y).natAbs<=2^(a+1):=by
 have:=Int.natAbs_add_le x y;rw[xa];omega
def e0.mono {a b:Nat}{q:Rat}(h:e0 a q)(CB:a<=b):e0 b q:=by
 have aE:2^a<=2^b:=yL (by omega) CB;exact⟨eR h.1 aE,eR h.2 aE⟩
def PM {x y:Rat}{a b:Nat}(L:e0 a x)(aj:e0 b y)(h:a+b<1200):At x y=true:=by
 unfold At;rw[fC];exact⟨E0 (xP L.1 aj.1) h,E0 (xP (x:=(x.den:Int)) (y:=(y.den:Int)) (by simpa using L.2) (by simpa using aj.2)) h⟩
def aca {x y:Rat}{a b:Nat}(L:e0 a x)(aj:e0 b y)(h:a+b<1200):xw x y=true:=by
 unfold xw;rw[fC];exact⟨E0 (xP (y:=(y.den:Int)) L.1 (by simpa using aj.2)) h,E0 (xP (x:=(x.den:Int)) (by simpa using L.2) aj.1) h⟩
def xQ {x y:Rat}{a b:Nat}(L:e0 a x)(aj:e0 b y)(h:a+b+1<1200):qF x y=true:=by
 unfold qF;have F:=xP (y:=(y.den:Int)) L.1 (by simpa using aj.2);have G:=xP (y:=(x.den:Int)) aj.1 (by simpa using L.2);rw[Dm b a] at G;simp only[fC];exact⟨E0 F (by omega),E0 G (by omega),E0 (amy F G) h,E0 (xP (x:=(x.den:Int)) (y:=(y.den:Int)) (by simpa using L.2) (by simpa using aj.2)) (by omega)⟩
def wy {b:Nat}{q:Rat}(h:e0 b q):e0 b (-q):=⟨by rw[amz,Int.natAbs_neg];exact h.1,h.2⟩
def amA {p q:Int}{b:Nat}(F:p.natAbs<=2^b)(G:q.natAbs<=2^b)(bq:q≠0):e0 b (mJ p q):=by
 have aPP:(q:Rat)≠0:=by rw[Ne,amv];exact bq
 have:=EZ (q:=mJ p q) (v:=p) bq (by rw[PL];grind);exact⟨eR this.1 F,eR this.2 G⟩
def E1 {x y:Rat}{a b:Nat}(L:e0 a x)(aj:e0 b y):e0 (a+b) (x*y):=by
 rw[<-aaj];exact amA (xP L.1 aj.1) (xP (x:=(x.den:Int)) (y:=(y.den:Int)) (by simpa using L.2) (by simpa using aj.2)) (Er (Au x) (Au y))
def acb {x y:Rat}{a b:Nat}(L:e0 a x)(aj:e0 b y):e0 (a+b+1) (x+y):=by
 rw[<-aai];have F:=xP (y:=(y.den:Int)) L.1 (by simpa using aj.2);have G:=xP (y:=(x.den:Int)) aj.1 (by simpa using L.2);rw[Dm b a] at G;have ab:=xP (x:=(x.den:Int)) (y:=(y.den:Int)) (a:=a) (b:=b) (by simpa using L.2) (by simpa using aj.2);exact amA (amy F G) (eR ab (yL (by omega) (by omega))) (Er (Au x) (Au y))
def wz (A:e4)(σ:Nat->Nat)(k:Nat):gG:=λi=>A (σ i) k
def rK:Nat->List Nat
 |0=>[]
 |p+1=>p::rK p
def E2 {k:Nat}:∀{p:Nat},k∈rK p↔k<p
 |0=>by simp[rK]
 |p+1=>by
  simp only[rK,n2,E2 (p:=p)];omega
def amB {l:Nat}:∀{p:Nat},l<p->∃b2 gM,rK p=b2++l::gM/\∀m,m∈b2++gM↔m<p/\m≠l
 |0,h=>by omega
 |p+1,h=>by
  by_cases aq:l=p
  ·subst aq;refine⟨[],rK l,rfl,λm=>?_⟩;rw[jE,E2];omega
  ·obtain⟨b2,gM,F,G⟩:=amB (l:=l) (p:=p) (by omega);refine⟨p::b2,gM,by simp[rK,F],λm=>?_⟩
   rw[m1,n2,G];omega
def tL (A:e4)(σ:Nat->Nat)(p:Nat):List gG:=(rK p).map (wz A σ)
def UP {n:Nat}{c c':gG}(b2 gM:List gG)(h:∀i,i<n->c i=c' i):hs n (b2++c::gM)=hs n (b2++c'::gM):=by
 have:=amd (n:=n) (b2.map (λx=>(x,x))++(c,c')::gM.map (λx=>(x,x))) pR Prod.snd (λa aZ i O=>by
  simp only[jH,n2,gm] at aZ;rcases aZ with ⟨x,_,rfl⟩|rfl|⟨x,_,rfl⟩
  ·rfl
  ·exact h i O
  ·rfl)
 simpa [Function.comp_def] using this
def amC {A:e4}{σ τ:Nat->Nat}{p:Nat}(h:∀i,i<p->σ i=τ i):hs p (tL A σ p)=hs p (tL A τ p) :=
 amd _ _ _ λa _ i O=>by unfold wz;rw[h i O]
def PN (N:Nat)(A aR:e4)(σ:Nat->Nat)(p:Nat):Prop:=∀i,i<N->∀k,p<=k->k<=N->A (σ i) k=(if i<p then 0 else aR i k)+bR p λl=>A (σ i) l*aR l k
def mO (N:Nat)(A aR:e4)(p:Nat):Prop:=∃σ:Nat->Nat,(∀i,i<N->σ i<N)/\(∀i j,i<N->j<N->σ i=σ j->i=j)/\PN N A aR σ p/\hs p (tL A σ p)≠0
def mO.start (N:Nat)(A:e4):mO N A A 0:=by
 refine⟨λi=>i,λi h=>h,λi j _ _ h=>h,λi O k _ I=>?_,?_⟩
 ·rw[aa (by omega)];show A i k=A i k+0;grind
 ·show (1:Rat)≠0;decide
def aCl {p:Nat}(a x y:Nat->Rat)(t:Rat):bR p (λl=>a l*(x l-y l*t))=bR p (λl=>a l*x l)-t*bR p λl=>a l*y l:=by
 have:(λl=>a l*(x l-y l*t))=λl=>a l*x l+(-t)*(a l*y l):=by funext l;grind
 rw[this,xK,CW];grind
def mO.step {N p s:Nat}{A aR:e4}(h:mO N A aR p)(aE:p<N)(R:p<=s)(xJ:s<N)(b8:aR s p≠0):mO N A (p0 aR p p s) (p+1):=by
 obtain⟨σ,hσ,KY,X,Z⟩:=h
 let π:Nat->Nat:=λi=>if i=s then p else if i=p then s else i
 have hπ:∀i,il aR p s i=aR (π i):=by
  intro i;show (if i=s then aR p else if i=p then aR s else aR i)=aR (if i=s then p else if i=p then s else i)
  split
  ·rfl
  ·split<;>rfl
 have hπN:∀i,i<N->π i<N:=λi O=>by show (if i=s then p else if i=p then s else i)<N;split<;>(try split)<;>omega
 have hπp:∀i,i<p->π i=i:=λi O=>by show (if i=s then p else if i=p then s else i)=i;rw[aa (by omega),aa (by omega)]
 have hπq:∀i,p<=i->p<=π i:=λi O=>by show p<=(if i=s then p else if i=p then s else i);split<;>(try split)<;>omega
 have hπj:∀i j,π i=π j->i=j:=λi j=>by
  show (if i=s then p else if i=p then s else i)=(if j=s then p else if j=p then s else j)->i=j
  (repeat' split)<;>omega
 have amD:∀i j,i<N->j<N->σ (π i)=σ (π j)->i=j:=λi j O ae h=>hπj i j (KY _ _ (hπN i O) (hπN j ae) h)
 have cZ:PN N A (il aR p s) (λi=>σ (π i)) p:=by
  intro i O k nf iP;have:=X (π i) (hπN i O) k nf iP;rw[this]
  congr 1
  ·by_cases nd:i<p
   ·rw[Y nd,Y (by rw[hπp i nd];exact nd)]
   ·rw[aa nd,aa (by have:=hπq i (by omega);omega),hπ]
  ·refine lE λl aq=>?_;rw[hπ l,hπp l aq]
 have aCm:il aR p s p p≠0:=by rw[Uy];exact b8
 generalize amE:il aR p s=S at *
 have bq:p0 aR p p s=λi k=>if i=p then S p k/S p p else S i k-S i p*(S p k/S p p):=by
  funext i k;unfold p0;rw[amE]
 rw[bq]
 have ou:hs p (tL A (λi=>σ (π i)) p)≠0:=by
  rw[amC (τ:=σ) λi O=>by show σ (π i)=σ i;rw[hπp i O]]
  exact Z
 have hσ2:∀i,i<N->σ (π i)<N:=λi O=>hσ _ (hπN i O)
 change ∀i,i<N->(λi=>σ (π i)) i<N at hσ2
 change ∀i j,i<N->j<N->(λi=>σ (π i)) i=(λi=>σ (π i)) j->i=j at amD
 generalize hτ:(λi=>σ (π i))=τ at *;refine⟨τ,hσ2,amD,λi O k nf iP=>?_,?_⟩
 ·have au:=cZ i O k (by omega) iP;have aC:=cZ i O p (by omega) (by omega);simp only[bR,if_true];rw[lE (g:=λl=>A (τ i) l*(S l k-S l p*(S p k/S p p))) λl aq=>by rw[aa (by omega)],aCl]
  generalize bR p (λl=>A (τ i) l*S l k)=b2 at *;generalize bR p (λl=>A (τ i) l*S l p)=gM at *
  by_cases F:i<p
  ·rw[Y F] at au aC;rw[Y (by omega)];grind
  ·rw[aa F] at au aC
   by_cases G:i=p
   ·subst G;rw[Y (by omega)];grind
   ·rw[aa (by omega),aa G];grind
 ·have J:hs (p+1) (tL A τ (p+1))=S p p*hs p (tL A τ p):=by
   show hs (p+1) ([]++wz A τ p::tL A τ p)=_
   rw[UP (c':=EY (λi=>if i<p then 0 else S i p) (λi=>bR p λl=>S l p*wz A τ l i) 1) [] _ λi O=>by
    have:=cZ i (by omega) p (by omega) (by omega);show A (τ i) p=(if i<p then 0 else S i p)+1*bR p λl=>S l p*A (τ i) l;rw[this,EX]
    congr 1
    exact lE λl _=>xR _ _]
   rw[HM,PI,u0 λl aq=>by
    rw[abX (by rw[jE];exact wA (E2.2 aq))];exact rI _]
   rw[jE,amc λi O=>Y O,aa (by omega)];grind
  rw[J];intro ay;rcases acd.1 ay with ay|ay
  ·exact aCm ay
  ·exact ou ay
def aCn {N p l k:Nat}{A aR:e4}{σ:Nat->Nat}(X:PN N A aR σ p)(aE:p<=N)(aq:l<p)(nf:p<=k)(iP:k<=N):∃b2 gM:List Nat,rK p=b2++l::gM/\(∀m∈b2++gM,m<p)/\aR l k*hs p (tL A σ p)=hs p ((b2++k::gM).map (wz A σ)):=by
 obtain⟨b2,gM,iU,hm⟩:=amB aq;refine⟨b2,gM,iU,λm ae8=>((hm m).1 ae8).1,?_⟩
 ·rw[kE,eE]
  rw[UP (c':=λi=>bR p λm=>aR m k*wz A σ m i) _ _ λi O=>by
   have:=X i (by omega) k nf iP;rw[Y O] at this;show A (σ i) k=bR p λm=>aR m k*A (σ i) m;rw[this,HO];exact lE λl _=>xR _ _]
  rw[PI,AM aq λm aCo pC=>by
   rw[abX (by rw[<-kE];exact wA ((hm m).2 ⟨aCo,pC⟩))];exact rI _]
  unfold tL;rw[iU,kE,eE]
def aCp {N p i k:Nat}{A aR:e4}{σ:Nat->Nat}(X:PN N A aR σ p)(nV:p<=i)(oX:i<N)(nf:p<=k)(iP:k<=N):aR i k*hs p (tL A σ p)=hs (p+1) ((k::rK p).map (wz A λj=>if j=p then σ i else σ j)):=by
 have hτ:∀j,j<p->(λj=>if j=p then σ i else σ j) j=σ j:=λj ae=>aa (by omega);have hτp:(λj=>if j=p then σ i else σ j) p=σ i:=Y rfl;generalize (λj=>if j=p then σ i else σ j)=τ at *;show _=hs (p+1) ([]++wz A τ k::tL A τ p)
 rw[UP (c':=EY (λj=>if j<p then 0 else aR i k) (λj=>bR p λl=>aR l k*wz A τ l j) 1) [] _ λj ae=>by
  show A (τ j) k=(if j<p then 0 else aR i k)+1*bR p λl=>aR l k*A (τ j) l;rw[EX]
  by_cases KL:j<p
  ·have:=X j (by omega) k nf iP;rw[Y KL] at this ⊢;rw[hτ j KL,this]
   congr 1
   exact lE λl _=>xR _ _
  ·obtain rfl:j=p:=by omega
   have:=X i oX k nf iP;rw[aa (by omega)] at this;rw[aa KL,hτp,this]
   congr 1
   exact lE λl _=>xR _ _]
 rw[HM,PI,u0 λl aq=>by
  rw[abX (by rw[jE];exact wA (E2.2 aq))];exact rI _]
 rw[jE,amc λi O=>Y O,aa (by omega),amC λj ae=>(hτ j ae).symm];grind
def aCq (n:Nat)(b2 gM:List gG)(x:gG)(a:Rat):hs n (b2++(λi=>a*x i)::gM)=a*hs n (b2++x::gM):=by
 have:=PI n b2 gM (λ_=>a) (λ_=>x) 1;simp only[bR] at this;rw[HO] at this;rw[<-this];exact UP b2 gM λi _=>(HO _).symm
def amF (n:Nat)(cr:Nat->Rat)(C:Nat->gG):∀(c7:List Nat) (b2:List gG),∃a:Rat,((∀k∈c7,cr k≠0)->a≠0)/\hs n (b2++c7.map λk=>λi=>cr k*C k i)=a*hs n (b2++c7.map C)
 | [],b2=>⟨1,λ_=>by decide,by rw[EX];rfl⟩
 |k::c7,b2=>by
  obtain⟨a,F,G⟩:=amF n cr C c7 (b2++[C k]);refine⟨cr k*a,λh=>?_,?_⟩
  ·intro ay;rcases acd.1 ay with ay|ay
   ·exact h k g1 ay
   ·exact F (λm hm=>h m (iG _ hm)) ay
  ·simp only[eE,g8,m1,jE] at G ⊢;rw[aCq,G,Rat.mul_assoc]
structure wB (N:Nat) (A:e4) (δ v:Nat):Prop where
 ex:∃(cr:Nat->Nat) (u w:Nat->Int),jo N cr<=2^δ/\(∀k,0<cr k)/\(∀k,k<N->∃b:Nat->Nat,hf N b<=2*cr k/\∀i,i<N->fg (b i) (cr k*A i k))/\(∀k,k<N->(u k).natAbs<=2^v)/\∀i,i<N->(w i).natAbs<=2^v/\A i N=bR N (λk=>A i k*(u k:Rat))+(w i:Rat)
def mP (e:Nat->Nat):List Nat->Nat
 | []=>1
 |m::l=>e m*mP e l
def amG (e:Nat->Nat)(a b:List Nat):mP e (a++b)=mP e a*mP e b:=by
 induction a with
 |nil=>simp[mP]
 |cons p l aG=>simp only[m1,mP,aG,HN]
def aCr {e f:Nat->Nat}{l:List Nat}(h:∀m∈l,e m=f m):mP e l=mP f l:=by
 induction l with
 |nil=>rfl
 |cons m l aG=>rw[mP,mP,aG λx L=>h x (iG _ L),h m g1]
def amH (cr:Nat->Nat):∀p,mP (λm=>2*cr m) (rK p)=2^p*jo p cr
 |0=>rfl
 |p+1=>by
  rw[rK,mP,amH cr p,jo,xa];grind
def ace {N n:Nat}{A:e4}{e:Nat->Nat}(dX:∀k,k<=N->∃b:Nat->Nat,hf N b<=e k/\∀i,i<N->fg (b i) (A i k)){τ:Nat->Nat}(F:∀i,i<n->τ i<N)(G:∀i j,i<n->j<n->τ i=τ j->i=j)(c7:List Nat)(fO:∀m∈c7,m<=N):fg (mP e c7) (hs n (c7.map (wz A τ))):=by
 have⟨B,ga⟩:∃B:Nat->Nat->Nat,∀k,k<=N->hf N (B k)<=e k/\∀i,i<N->fg (B k i) (A i k):=by
  refine⟨λk=>if h:k<=N then (dX k h).choose else λ_=>0,λk I=>?_⟩;dsimp only;rw[dif_pos I];exact (dX k I).choose_spec
 have h:=ami n (c7.map λk=>(wz A τ k,λi=>B k (τ i))) λp aE i O=>by
  obtain⟨m,hm,rfl⟩:=gm.1 aE;exact (ga m (fO m hm)).2 _ (F i O)
 rw[pJ] at h;refine fg.mono h ?_;clear h
 induction c7 with
 |nil=>exact cl _
 |cons m c7 aG =>
  rw[eE,og,mP];exact pj (eR (ab1 (B m) F G) (ga m (fO m g1)).1) (aG λx L=>fO x (iG _ L))
structure aCs (N:Nat) (aR:e4) (δ v p:Nat) (cr:Nat->Nat) (u:Nat->Int) (d:Int):Prop where
 d0:d≠0
 pos:∀k,0<cr k
 amI:jo N cr<=2^δ
 amJ:∀k,k<N->(u k).natAbs<=2^v
 Gg:d.natAbs<=2^p*jo p cr
 amK:∀i,i<N->∀k,p<=k->k<N->fg (2^(p+1)*(jo p cr*cr k)) (aR i k*(cr k*d))
 val:∀i,i<N->fg (2^p*jo p cr*(N*2^v)) ((aR i N-(if i<p then (u i:Rat) else 0)-bR N λk=>if p<=k then aR i k*(u k:Rat) else 0)*d)
def mO.amL {N p δ v:Nat}{A aR:e4}(dX:wB N A δ v)(h:mO N A aR p)(aE:p<=N):∃cr u d,aCs N aR δ v p cr u d:=by
 obtain⟨σ,hσ,KY,X,Z⟩:=h;obtain⟨cr,u,w,cz,cY,eA,eQ,p1⟩:=dX
 have PO:∀m,((cr m:Nat):Rat)≠0:=λm=>by
  have:=cY m;rw[Ne,Rat.natCast_eq_zero_iff];omega
 -- the scaled matrix, with the whole numbers of the values
 have bf:PN N (λi k=>if k<N then cr k*A i k else (w i:Rat)) (λl k=>if k<N then (if l<p then cr k*aR l k/cr l else cr k*aR l k) else (if l<p then (1:Rat)/cr l else 1)*(aR l N-(if l<p then (u l:Rat) else 0)-bR N λk=>if p<=k then aR l k*(u k:Rat) else 0)) σ p:=by
  intro i O k nf iP
  by_cases pX:k<N
  ·have:=X i O k nf iP;dsimp only;rw[Y pX,Y pX,this,Rat.mul_add,<-CW]
   congr 1
   ·split<;>grind
   ·refine lE λl aq=>?_;rw[Y pX,Y (by omega),Y aq];have:=PO l;grind
  ·obtain rfl:k=N:=by omega
   dsimp only;rw[aa pX,aa pX];have au:=X i O k nf iP;have aC:=(p1 (σ i) (hσ i O)).2
   have bN:(λm=>A (σ i) m*(u m:Rat))=λm=>(if m<p then A (σ i) m*(u m:Rat) else 0)+if p<=m then A (σ i) m*(u m:Rat) else 0:=by
    funext m
    by_cases hm:m<p
    ·rw[Y hm,aa (by omega),rH]
    ·rw[aa hm,Y (by omega),HO]
   have bK:bR k (λm=>if p<=m then A (σ i) m*(u m:Rat) else 0)=bR k λm=>(if p<=m then (if i<p then 0 else aR i m*(u m:Rat)) else 0)+bR p λl=>A (σ i) l*(if p<=m then aR l m*(u m:Rat) else 0):=lE λm hm=>by
    by_cases pI:p<=m
    ·rw[Y pI,Y pI,X i O m pI (by omega),Rat.add_mul]
     congr 1
     ·split<;>grind
     ·rw[xR,<-CW];refine lE λl _=>?_;rw[Y pI];grind
    ·rw[aa pI,aa pI,HO];exact (u0 λl _=>by rw[aa pI,rI]).symm
   rw[bN,xK,bK,xK,aBB] at aC
   have c6:bR k (λm=>if m<p then A (σ i) m*(u m:Rat) else 0)=bR p λl=>A (σ i) l*(u l:Rat):=by
    have:∀n,p<=n->bR n (λm=>if m<p then A (σ i) m*(u m:Rat) else 0)=bR p λl=>A (σ i) l*(u l:Rat):=by
     intro n
     induction n with
     |zero =>
          intro h;obtain rfl:p=0:=by omega
          rfl
     |succ n aG =>
      intro h
      by_cases E3:p=n+1
      ·rw[E3];exact lE λm hm=>Y hm
      ·rw[bR,aG (by omega),aa (by omega),rH]
    exact this k aE
   rw[c6] at aC
   have bt:(bR p λl=>(λi wC=>if wC<k then (cr wC:Rat)*A i wC else (w i:Rat)) (σ i) l*((if l<p then (1:Rat)/cr l else 1)*(aR l k-(if l<p then (u l:Rat) else 0)-bR k λm=>if p<=m then aR l m*(u m:Rat) else 0)))=bR p (λl=>A (σ i) l*aR l k)-bR p (λl=>A (σ i) l*(u l:Rat))-bR p λl=>bR k λm=>A (σ i) l*(if p<=m then aR l m*(u m:Rat) else 0):=by
    have:∀f g h:Nat->Rat,bR p (λl=>f l-g l-h l)=bR p f-bR p g-bR p h:=λf g h=>by
     have e:(λl=>f l-g l-h l)=λl=>f l+((-1)*g l+(-1)*h l):=by funext l;grind
     rw[e,xK,xK,CW,CW];grind
    rw[<-this];refine lE λl aq=>?_;dsimp only;rw[Y (by omega),Y aq,Y aq,CW];have:=PO l;grind
   have bS:(bR p λl=>(λi wC=>if wC<k then (cr wC:Rat)*A i wC else (w i:Rat)) (σ i) l*(λl wC=>if wC<k then (if l<p then (cr wC:Rat)*aR l wC/cr l else cr wC*aR l wC) else (if l<p then (1:Rat)/cr l else 1)*(aR l k-(if l<p then (u l:Rat) else 0)-bR k λm=>if p<=m then aR l m*(u m:Rat) else 0)) l k)=bR p (λl=>A (σ i) l*aR l k)-bR p (λl=>A (σ i) l*(u l:Rat))-bR p λl=>bR k λm=>A (σ i) l*(if p<=m then aR l m*(u m:Rat) else 0):=by
    rw[<-bt];refine lE λl aq=>?_;dsimp only;rw[aa (by omega:¬ k<k)]
   dsimp only at bS;rw[bS]
   by_cases nd:i<p
   ·rw[Y nd] at au ⊢;have ee:bR k (λm=>if p<=m then (if i<p then 0 else aR i m*(u m:Rat)) else 0)=0:=u0 λm _=>by rw[Y nd];split<;>rfl
    rw[ee] at aC;grind
   ·rw[aa nd] at au ⊢;have ee:bR k (λm=>if p<=m then (if i<p then 0 else aR i m*(u m:Rat)) else 0)=bR k λm=>if p<=m then aR i m*(u m:Rat) else 0:=lE λm _=>by rw[aa nd]
    rw[ee] at aC;rw[aa nd,aa nd];grind
 have n8:hs p (tL (λi k=>if k<N then cr k*A i k else (w i:Rat)) σ p)≠0:=by
  obtain⟨a,F,G⟩:=amF p (λk=>(cr k:Rat)) (wz A σ) (rK p) []
  have PQ:tL (λi k=>if k<N then cr k*A i k else (w i:Rat)) σ p=(rK p).map λk=>λi=>(cr k:Rat)*wz A σ k i:=by
   unfold tL;refine ox λm hm=>?_;have:=E2.1 hm
   funext i
   show (if m<N then (cr m:Rat)*A (σ i) m else (w (σ i):Rat))=_;rw[Y (by omega)];rfl
  rw[jE,jE] at G;rw[PQ,G];intro ay;rcases acd.1 ay with ay|ay
  ·exact F (λm hm=>PO m) ay
  ·exact Z ay
 have ze:∀k,k<=N->∃b:Nat->Nat,hf N b<=(if k<N then 2*cr k else N*2^v)/\∀i,i<N->fg (b i) ((λi k=>if k<N then (cr k:Rat)*A i k else (w i:Rat)) i k):=by
  intro k I
  by_cases pX:k<N
  ·obtain⟨b,cQ,dN⟩:=eA k pX;refine⟨b,by rw[Y pX];exact cQ,λi O=>?_⟩
   dsimp only;rw[Y pX];exact dN i O
  ·refine⟨λ_=>2^v,?_,λi O=>?_⟩
   ·rw[aa pX]
    have:∀n,hf n (λ_=>2^v)=n*2^v:=λn=>by
     induction n with
     |zero=>simp[hf]
     |succ n aG=>rw[hf,aG,vp]
    rw[this];exact cl _
   ·dsimp only;rw[aa pX];exact fg.mono (fg.int _) (p1 i O).1
 generalize aPQ:(λ(i k:Nat)=>if k<N then (cr k:Rat)*A i k else (w i:Rat))=UL at *;generalize acf:(λk=>if k<N then 2*cr k else N*2^v)=e at *
 have acg:∀k,k<=N->∃b:Nat->Nat,hf N b<=e k/\∀i,i<N->fg (b i) (UL i k):=by
  intro k I;rw[<-acf];exact ze k I
 have ach:∀m,m<N->e m=2*cr m:=λm hm=>by rw[<-acf];exact Y hm
 have aCt:e N=N*2^v:=by rw[<-acf];exact aa (by omega)
 have aci:mP e (rK p)=2^p*jo p cr:=by
  rw[<-amH];exact aCr λm hm=>ach m (by have:=E2.1 hm;omega)
 have hσp:∀i,i<p->σ i<N:=λi O=>hσ i (by omega);have nd:∀i j,i<p->j<p->σ i=σ j->i=j:=λi j O ae=>KY i j (by omega) (by omega);have vy:=ace acg hσp nd (rK p) λm hm=>by have:=E2.1 hm;omega
 rw[aci] at vy;obtain⟨d,Cg,yG⟩:=vy
 change hs p (tL UL σ p)=(d:Rat) at Cg
 have D5:d≠0:=by
  intro ay;rw[Cg,ay] at n8;exact n8 (by rfl)
 -- both kinds of rows
 have fK:∀l,l<p->∀k,p<=k->k<=N->∃m:Int,(λl k=>if k<N then (if l<p then (cr k:Rat)*aR l k/cr l else cr k*aR l k) else (if l<p then (1:Rat)/cr l else 1)*(aR l N-(if l<p then (u l:Rat) else 0)-bR N λk=>if p<=k then aR l k*(u k:Rat) else 0)) l k*(d:Rat)=(m:Rat)/\cr l*m.natAbs<=2^p*jo p cr*e k:=by
  intro l aq k nf iP;obtain⟨b2,gM,fx,fe,hH⟩:=aCn bf aE aq nf iP
  have ad:=ace acg hσp nd (b2++k::gM) λm hm=>by
   have:m=k\/m∈b2++gM:=by
    simp only[jH,n2] at hm ⊢;rcases hm with h|h|h<;>simp[h]
   rcases this with h|h
   ·omega
   ·have:=fe m h;omega
  obtain⟨m,dg,bU⟩:=ad;rw[Cg,dg] at hH;refine⟨m,hH,?_⟩;have au:mP e (b2++k::gM)=mP e b2*(e k*mP e gM):=by rw[amG,mP]
  have aC:mP e b2*(2*cr l*mP e gM)=2^p*jo p cr:=by
   rw[<-aci,fx,amG,mP,ach l (by omega)]
  rw[au] at bU;rw[<-aC];generalize mP e b2=x at *;generalize mP e gM=y at *;have cy:=pj (cl (cr l)) bU;have dw:x*(2*cr l*y)*e k=cr l*(x*(e k*y))+cr l*(x*(e k*y)):=by grind
  rw[dw];omega
 have kr:∀i,p<=i->i<N->∀k,p<=k->k<=N->∃m:Int,(λl k=>if k<N then (if l<p then (cr k:Rat)*aR l k/cr l else cr k*aR l k) else (if l<p then (1:Rat)/cr l else 1)*(aR l N-(if l<p then (u l:Rat) else 0)-bR N λk=>if p<=k then aR l k*(u k:Rat) else 0)) i k*(d:Rat)=(m:Rat)/\m.natAbs<=2^p*jo p cr*e k:=by
  intro i nV oX k nf iP;have amM:=aCp bf nV oX nf iP
  have hτ:∀j,j<p+1->(λj=>if j=p then σ i else σ j) j<N:=λj ae=>by
   show (if j=p then σ i else σ j)<N
   split
   ·exact hσ i oX
   ·exact hσ j (by omega)
  have hτj:∀j k,j<p+1->k<p+1->(λj=>if j=p then σ i else σ j) j=(λj=>if j=p then σ i else σ j) k->j=k:=λj k ae I=>by
   show (if j=p then σ i else σ j)=(if k=p then σ i else σ k)->j=k;intro h
   by_cases ar:j=p
   ·by_cases c2:k=p
    ·omega
    ·rw[Y ar,aa c2] at h;have:=KY _ _ oX (by omega) h;omega
   ·by_cases c2:k=p
    ·rw[aa ar,Y c2] at h;have:=KY _ _ (by omega) oX h;omega
    ·rw[aa ar,aa c2] at h;exact KY _ _ (by omega) (by omega) h
  obtain⟨m,dg,bU⟩:=ace acg hτ hτj (k::rK p) λm hm=>by
   rcases n2.1 hm with h|h
   ·omega
   ·have:=E2.1 h;omega
  rw[Cg,dg] at amM;refine⟨m,amM,eR bU ?_⟩;rw[mP,aci,vJ];exact cl _
 refine⟨cr,u,d,D5,cY,cz,eQ,yG,λi O k nf iP=>?_,λi O=>?_⟩
 ·have aak:2^(p+1)*(jo p cr*cr k)=2^p*jo p cr*e k:=by rw[ach k iP,xa];grind
  rw[aak]
  by_cases ah:i<p
  ·obtain⟨m,dg,bU⟩:=fK i ah k nf (by omega);dsimp only at dg;rw[Y iP,Y ah] at dg;refine⟨cr i*m,?_,by rw[tp,m5];exact bU⟩
   rw[sC,<-dg,oe];have:=PO i;grind
  ·obtain⟨m,dg,bU⟩:=kr i (by omega) O k nf (by omega);dsimp only at dg;rw[Y iP,aa ah] at dg;refine⟨m,?_,bU⟩;rw[<-dg];grind
 ·rw[<-aCt]
  by_cases ah:i<p
  ·obtain⟨m,dg,bU⟩:=fK i ah N aE (cl _);dsimp only at dg;rw[aa (by omega:¬ N<N),Y ah,Y ah] at dg;refine⟨cr i*m,?_,by rw[tp,m5];exact bU⟩
   rw[sC,<-dg,oe,Y ah];have:=PO i;grind
  ·obtain⟨m,dg,bU⟩:=kr i (by omega) O N aE (cl _);dsimp only at dg;rw[aa (by omega:¬ N<N),aa ah,aa ah] at dg;refine⟨m,?_,bU⟩;rw[<-dg,aa ah];grind
def KZ (N:Nat)(A:e4)(eZ aO:Nat):Prop:=∀aR p,p<=N->mO N A aR p->∀i k,i<N->p<=k->k<=N->e0 eZ (aR i k)/\(k<N->e0 aO (aR i k))
def wB.amN {N δ v:Nat}{A:e4}(dX:wB N A δ v)(fA:N<=7):KZ N A (N+δ+v+4) (N+δ):=by
 intro aR p aE h i k O nf iP;obtain⟨cr,u,d,aL⟩:=h.amL dX aE;obtain⟨bC,aPR,e2,fa⟩:=ame aL.pos aE;have zf:=aL.amI;rw[e2] at zf
 have aCu:∀k,p<=k->k<N->jo p cr*cr k<=jo p cr*bC:=λk F G=>by
  obtain⟨m,hm⟩:=fa k F G;refine pj (cl _) ?_
  have:0<m:=by
   rcases kO m with h|h
   ·rw[h] at hm;omega
   ·exact h
  rw[hm];exact MK _ this
 have J1:∀q,q<=N->∀x,x<=2^δ->2^q*x<=2^(N+δ):=λq bq x L=>by
  rw[AS];exact pj (yL (by omega) bq) L
 have ec:∀k,p<=k->k<N->e0 (N+δ) (aR i k):=λk nf iP=>by
  obtain⟨z,fB,gN⟩:=aL.amK i O k nf iP;have aPS:=aL.pos k;obtain⟨f1,f2⟩:=EZ (q:=aR i k) (v:=z) (d:=(cr k:Int)*d) (Er (by omega) aL.d0) (by rw[<-fB,sC,oe]);have hle:=eR (aCu k nf iP) zf;refine⟨eR f1 (eR gN (J1 _ (by omega) _ hle)),eR f2 ?_⟩;rw[tp,m5];refine eR (pj (cl _) aL.Gg) (eR ?_ (J1 p aE _ hle));exact AJ (by grind)
 by_cases pX:k<N
 ·exact⟨(ec k nf pX).mono (by omega),λ_=>ec k nf pX⟩
 refine⟨?_,λh=>absurd h pX⟩;obtain rfl:k=N:=by omega
 have jg:=aL.val i O;have ga:∀q,q<=k->2^q*(jo p cr*bC)<=2^(k+δ):=λq bq=>J1 q bq _ zf
 -- the three parts, times d and bC
 have hk:fg (k*2^(k+δ+v)) ((aR i k-(if i<p then (u i:Rat) else 0)-bR k λm=>if p<=m then aR i m*(u m:Rat) else 0)*d*(bC:Rat)):=by
  refine (jg.mul (fg.nat (cl bC))).mono ?_;have:=pj (ga p aE) (cl (k*2^v));refine eR (AJ ?_) (eR this (AJ ?_))
  ·grind
  ·rw[AS 2 (k+δ) v];grind
 have hQ:fg (2^(k+δ+v)) ((if i<p then (u i:Rat) else 0)*d*(bC:Rat)):=by
  have hu:fg (2^v) (if i<p then (u i:Rat) else 0):=by
   split
   ·exact fg.mono (fg.int _) (aL.amJ i O)
   ·exact fg.zero
  refine ((hu.mul (fg.mono (fg.int d) aL.Gg)).mul (fg.nat (cl bC))).mono ?_;have:=pj (ga p aE) (cl (2^v));refine eR (AJ ?_) (eR this (AJ ?_))
  ·grind
  ·rw[AS 2 (k+δ) v]
 have kD:fg (k*2^(k+δ+v)) ((bR k λm=>if p<=m then aR i m*(u m:Rat) else 0)*d*(bC:Rat)):=by
  have e:(bR k λm=>if p<=m then aR i m*(u m:Rat) else 0)*(d:Rat)*(bC:Rat)=bR k λm=>((d:Rat)*(bC:Rat))*(if p<=m then aR i m*(u m:Rat) else 0):=by
   rw[CW];grind
  rw[e];refine fg.sum k λm hm=>?_
  by_cases pI:p<=m
  ·rw[Y pI];obtain⟨y,aj⟩:=fa m pI hm
   have aC:(d:Rat)*(bC:Rat)*(aR i m*(u m:Rat))=(aR i m*((cr m:Rat)*d))*(y:Rat)*(u m:Rat):=by
    rw[aj,UQ];grind
   rw[aC];refine (((aL.amK i O m pI hm).mul (fg.nat (cl y))).mul (fg.mono (fg.int (u m)) (aL.amJ m hm))).mono ?_;have:=pj (ga (p+1) (by omega)) (cl (2^v));refine eR (AJ ?_) (eR this (AJ ?_))
   ·rw[aj];grind
   ·rw[AS 2 (k+δ) v]
  ·rw[aa pI,rI];exact fg.zero
 obtain⟨z,fB,gN⟩:=(hk.add hQ).add kD
 have e:aR i k*((d*(bC:Int):Int):Rat)=(z:Rat):=by
  rw[<-fB,sC,oe];grind
 obtain⟨f1,f2⟩:=EZ (Er aL.d0 (by omega)) e;refine⟨eR f1 (eR gN ?_),eR f2 ?_⟩
 ·rw[AS 2 (k+δ+v) 4];generalize 2^(k+δ+v)=b2 at *;have:k*b2<=7*b2:=Nat.mul_le_mul_right _ fA;omega
 ·rw[tp,m5];refine eR (pj aL.Gg (cl bC)) (eR (AJ ?_) (eR (ga p aE) (yL (by omega) (by omega))));grind
def mO.aCv {N δ v:Nat}{A aR:e4}(dX:wB N A δ v)(h:mO N A aR N):∃bk:Nat,0<bk/\bk<=2^(N+δ)/\∀i,i<N->∃z:Int,aR i N*(bk:Rat)=(z:Rat):=by
 obtain⟨cr,u,d,aL⟩:=h.amL dX (cl N)
 have⟨s,R⟩:∃s:Int,(d.natAbs:Int)=s*d:=by
  rcases Int.natAbs_eq d with e|e
  ·exact⟨1,by omega⟩
  ·exact⟨-1,by omega⟩
 have Z:=aL.d0;refine⟨d.natAbs,by omega,eR aL.Gg ?_,λi O=>?_⟩
 ·rw[AS];exact pj (cl _) aL.amI
 ·obtain⟨z,fB,-⟩:=aL.val i O;rw[Y O,u0 λk I=>aa (by omega)] at fB;refine⟨s*(z+u i*d),?_⟩;have e:((d.natAbs:Nat):Rat)=((d.natAbs:Int):Rat):=(oe _).symm;rw[e,R,sC,sC,CY,sC,<-fB];grind
def c8 (N:Nat)(x:Nat->Rat):List bz:=((eM N).map x).map av
def qT (N:Nat)(x:Nat->Rat):(c8 N x).length=N:=by simp[c8]
def rL {N k:Nat}(x:Nat->Rat)(h:k<N):(c8 N x)[k]?=some (av (x k)):=by
 unfold c8;rw[bm,bm,vo h];rfl
def K0 {N:Nat}{l:List bz}{x:Nat->Rat}(aq:(D l)=N)(h:∀k,k<N->l[k]?=some (av (x k))):l=c8 N x:=by
 apply pE;intro k;rcases hO k N with I|I
 ·rw[h k I,rL x I]
 ·rw[jZ (by omega),jZ (by rw[qT];omega)]
def xS {N:Nat}{x y:Nat->Rat}(h:∀k,k<N->x k=y k):c8 N x=c8 N y :=
 K0 (qT N x) λk I=>by rw[rL x I,h k I]
def acj {N:Nat}{x:Nat->Rat}(fA:N<=40)(h:∀k,k<N->dH (x k)):yX (c8 N x):=by
 refine⟨by rw[qT];omega,λf aH=>?_⟩
 obtain⟨k,I⟩:=r9.1 aH;have pX:k<N:=by have:=(dV.1 I).1;rwa [qT] at this
 rw[rL x pX] at I
 cases I;exact mu (h k pX)
def amO (N:Nat)(bk:e4)(x:Nat->Rat):Prop:=(∀y,jn N bk (ext N y (-1))↔∀k,k<N->y k=x k)/\∀y,jn N bk (ext N y 0)->∀k,k<N->y k=0
def E4 (N:Nat)(bk:e4):Prop:=∃y,jn N bk (ext N y 0)/\∃k,k<N/\y k≠0
def aCw {N:Nat}{rows:List dz}{aR:e4}(h:zi N rows aR):rows.map (wm N)=c8 N (λi=>aR i N) :=
 K0 (by rw[al];exact h.1) λk I=>by
  obtain⟨x,L,-,nP⟩:=h.row I;rw[bm,L,ks];unfold wm;rw[eD,nP.get (cl _)]
  rfl
def KW.ack {N:Nat}{aR xO:e4}{rows:List dz}{p c:Nat}{ei:Nat->Nat}(h:KW N aR xO rows p c ei){i k:Nat}(O:i<N)(I:k<=N):dH (xO i k):=by
 obtain⟨x,-,-,nP⟩:=h.enc.row O;exact nP.2 k I
def amP {q:Rat}(h:dH q):qF 0 (-q)=true:=by
 unfold qF;simp only[fC]
 have F:h2 ((-q).num*((0:Rat).den:Int))=true:=by
  rw[amz,PR];unfold h2;rw[decide_eq_true_eq];have:=h.1;omega
 refine⟨?_,F,?_,?_⟩
 ·rw[PS,xu];decide +kernel
 ·rw[PS,xu,JK];exact F
 ·rw[PR,Rat.neg_den];unfold h2;rw[decide_eq_true_eq];have:=h.2;omega
def amQ:dH 0:=⟨by decide +kernel,by decide +kernel⟩
def aCx {N f:Nat}{rows:List dz}{aR:e4}(h:zi N rows aR)(aH:f<N):Po rows f N f=c8 N (u3 aR f) :=
 K0 (aAK _ _ _ _) λk I=>by
  unfold Po;rw[bm,vo I,ks];unfold u3
  by_cases F:k<f
  ·rw[Y F,Y F];obtain⟨x,-,ex,nP⟩:=h.row (i:=k) (by omega);rw[ex,nP.cell (by omega),<-alh,OA amQ (nP.2 f (by omega)),amP (nP.2 f (by omega))]
   rfl
  ·rw[aa F,aa F]
   by_cases G:k=f
   ·rw[Y G,Y G,aAJ]
   ·rw[aa G,aa G,alh]
def acm {N:Nat}{bk aR:e4}(h:∀y,jn N aR y↔jn N bk y):∀y z,jn N aR (ext N y z)↔jn N bk (ext N y z):=λ_ _=>h _
def aCy {rs:List cI}{n:Int}(h:j7 rs n=true):
  (tF rs n=([],6)) \/
  (∃x,tF rs n=(c8 (D rs) x,0)/\abf rs n=([],false)/\(∀k,k<(D rs)->dH (x k))/\amO (D rs) (sD rs) x) \/
  (∃y,tF rs n=([],17)/\abf rs n=(c8 (D rs) y,true)/\(∀k,k<(D rs)->dH (y k))/\jn (D rs) (sD rs) (ext (D rs) y 0)/\∃k,k<D rs/\y k=1):=by
 unfold tF abf;rw[Y h];rcases L:pg true rs with ⟨zk,tK,bad⟩
 cases bad
 ·right
  obtain⟨aR,p,c,ei,he,-,R⟩:=aCi true h L;rw[Y h];rcases R rfl with ⟨rfl,rfl,rfl,j8⟩|⟨f,rfl,aH,rfl,rfl,j8,a2⟩
  ·left
   refine⟨λi=>aR i (D rs),?_,rfl,λk I=>he.ack I (cl _),λy=>?_,λy aj=>?_⟩
   ·rw[aa (by simp),aa (by simp),aCw he.enc]
   ·rw[<-acm he.KX];exact al8 he.red j8 y
   ·exact aBY he.red j8 y ((acm he.KX y 0).2 aj)
  ·right
   refine⟨u3 aR c,?_,?_,λk I=>?_,?_,⟨c,aH,by unfold u3;simp⟩⟩
   ·rw[aa (by simp),Y (by simp)]
   ·rw[aa (by simp)];exact congrArg (λl=>(l,true)) (aCx he.enc aH)
   ·unfold u3
    split
    ·exact ai3 (amP (he.ack I (by omega)))
    ·split
     ·exact⟨by decide +kernel,by decide +kernel⟩
     ·exact amQ
   ·exact (acm he.KX _ _).1 (al9 he.red j8 aH a2)
 ·left
  rw[Y rfl]
def amR (aR:e4){N p s:Nat}(aE:p<N)(R:p<=s)(xJ:s<N){i:Nat}(O:i<N):∃bn,bn<N/\il aR p s i=aR bn:=by
 unfold il
 by_cases F:i=s
 ·exact⟨p,aE,by rw[Y F]⟩
 ·by_cases G:i=p
  ·exact⟨s,xJ,by rw[aa F,Y G]⟩
  ·exact⟨i,O,by rw[aa F,aa G]⟩
def aCz (b:Nat)(p:Prop)[Decidable p]:e0 b (if p then 1 else 0):=by
 have ad:1<=2^b:=Nat.one_le_two_pow
 split
 ·exact⟨ad,ad⟩
 ·exact⟨fL _,ad⟩
def mO.all {N p eZ aO:Nat}{A aR:e4}{ei:Nat->Nat}(ga:KZ N A eZ aO)(h:mO N A aR p)(X:sA N aR p p ei)(j8:∀j,j<p->ei j=j)(aE:p<=N){i k:Nat}(O:i<N)(I:k<=N):e0 eZ (aR i k):=by
 by_cases amS:k<p
 ·have:=X.unit k amS i O;rw[j8 k amS] at this;rw[this];exact aCz _ _
 ·exact (ga aR p aE h i k O (by omega) I).1
def aCA {N p s eZ aO:Nat}{A aR:e4}{ei:Nat->Nat}(ga:KZ N A eZ aO)(h:mO N A aR p)(X:sA N aR p p ei)(j8:∀j,j<p->ei j=j)(aE:p<N)(R:p<=s)(xJ:s<N)(b8:aR s p≠0)(hT:2*eZ+aO+1<1200):amo N (il aR p s) p p:=by
 have G:=h.step aE R xJ b8;have bf:=X.Hy aE R xJ b8
 have aCB:∀j,j<p+1->(if j=p then p else ei j)=j:=λj ae=>by
  split
  ·omega
  ·exact j8 j (by omega)
 have ea:∀i,i<N->∀k,k<=N->e0 eZ (il aR p s i k):=by
  intro i O k I;obtain⟨bn,F,e⟩:=amR aR aE R xJ O;rw[e];exact h.all ga X j8 (by omega) F I
 have PQ:∀i,i<N->e0 aO (il aR p s i p):=by
  intro i O;obtain⟨bn,F,e⟩:=amR aR aE R xJ O;rw[e];exact (ga aR p (by omega) h bn p F (cl p) (by omega)).2 aE
 have amT:∀k,k<=N->e0 eZ (il aR p s p k/il aR p s p p):=by
  intro k I;have:=G.all ga bf aCB (by omega) (i:=p) aE I;unfold p0 at this;rwa [Y rfl] at this
 refine⟨λk I=>aca (ea p aE k I) (PQ p aE) (by omega),λi O _ _ k I=>?_⟩;unfold tJ;rw[fC];exact⟨PM (PQ i O) (amT k I) (by omega),xQ (ea i O k I) (wy (E1 (PQ i O) (amT k I))) (by omega)⟩
def aCC {N eZ aO:Nat}{A:e4}(ga:KZ N A eZ aO)(hT:2*eZ+aO+1<1200):
  ∀k p rows aR ei,p+k=N->KW N A aR rows p p ei->mO N A aR p->(∀j,j<p->ei j=j)->(mv true k p rows [] false).2.2=false:=by
 intro k
 induction k with
 |zero=>intro p rows aR ei _ _ _ _;rfl
 |succ k aG =>
  intro p rows aR ei aE he Z j8;unfold mv;rw[o2,alg];rcases amp he.enc (r:=p) (c:=p) (by omega) (by omega) with ⟨F,G,ab,aV⟩|⟨F,s,jL,la,zl,aV,bu⟩
  ·rw[F,G,ab,Y rfl,Y rfl]
  ·have cw:=aCA ga Z he.red j8 (by omega) jL la zl hT;have ad:=bu cw;rw[F,aa (by simp),ad];refine aG (p+1) _ (p0 aR p p s) (λj=>if j=p then p else ei j) (by omega) ⟨aV ad,he.red.Hy (by omega) jL la zl,λy=>(abw (by omega) la zl).trans (he.KX y)⟩ (Z.step (by omega) jL la zl) λj ae=>?_;show (if j=p then p else ei j)=j
   split
   ·omega
   ·exact j8 j (by omega)
def aCD {rs:List cI}{n:Int}{eZ aO:Nat}(h:j7 rs n=true)(ga:KZ (D rs) (sD rs) eZ aO)(hT:2*eZ+aO+1<1200):tF rs n≠([],6):=by
 have L:(pg true rs).2.2=false :=
  aCC ga hT (D rs) 0 (ik rs) (sD rs) (λj=>j) (by omega) ⟨amu h,Uz _ _ _,λ_=>Iff.rfl⟩ (mO.start _ _) λj ae=>by omega
 unfold tF;rw[Y h,aa (by rw[L];simp)]
 split
 ·simp
 ·simp
def aCE {rs:List cI}{n:Int}{eZ aO:Nat}(h:j7 rs n=true)(ga:KZ (D rs) (sD rs) eZ aO)(hT:2*eZ+aO+1<1200)(R:¬ E4 (D rs) (sD rs)):
  ∃x,tF rs n=(c8 (D rs) x,0)/\(∀k,k<(D rs)->dH (x k))/\amO (D rs) (sD rs) x:=by
 rcases aCy h with e|⟨x,e,-,F,G⟩|⟨y,-,-,-,F,k,I,aj⟩
 ·exact absurd e (aCD h ga hT)
 ·exact⟨x,e,F,G⟩
 ·exact absurd ⟨y,F,k,I,by rw[aj];decide⟩ R
def mO.full {N:Nat}{A:e4}(R:¬ E4 N A):∀k p aR ei,p+k=N->sA N aR p p ei->(∀y,jn N aR y↔jn N A y)->mO N A aR p->(∀j,j<p->ei j=j)->∃aR ei,mO N A aR N/\sA N aR N N ei/\(∀j,j<N->ei j=j)/\∀y,jn N aR y↔jn N A y
 |0,p,aR,ei,aE,X,aZ,Z,j8=>by
  obtain rfl:p=N:=by omega
  exact⟨aR,ei,Z,X,j8,aZ⟩
 |k+1,p,aR,ei,aE,X,aZ,Z,j8=>by
  by_cases a2:∀i,p<=i->i<N->aR i p=0
  ·exfalso
   refine R ⟨u3 aR p,(aZ _).1 (al9 X j8 (by omega) a2),p,by omega,?_⟩
   unfold u3;rw[aa (by omega),Y rfl]
   decide
  ·have⟨s,jL,la,zl⟩:∃s,p<=s/\s<N/\aR s p≠0:=by
    apply mN;intro h;exact a2 λi F G=>mN λab=>h ⟨i,F,G,ab⟩
   refine mO.full R k (p+1) (p0 aR p p s) (λj=>if j=p then p else ei j) (by omega) (X.Hy (by omega) jL la zl) (λy=>(abw (by omega) la zl).trans (aZ y)) (Z.step (by omega) jL la zl) λj ae=>?_;show (if j=p then p else ei j)=j
   split
   ·omega
   ·exact j8 j (by omega)
def amU {N δ v:Nat}{A:e4}(R:¬ E4 N A)(dX:wB N A δ v){x:Nat->Rat}(L:jn N A (ext N x (-1))):∃bk:Nat,0<bk/\bk<=2^(N+δ)/\∀i,i<N->∃z:Int,x i*(bk:Rat)=(z:Rat):=by
 obtain⟨aR,ei,⟨σ,F,ql,G,ab⟩,-⟩:=mO.full R N 0 A (λj=>j) (by omega) (Uz _ _ _) (λ_=>Iff.rfl) (mO.start _ _) (λj ae=>by omega);refine mO.aCv (aR:=λi _=>x i) dX ⟨σ,F,ql,λi O k nf iP=>?_,ab⟩;obtain rfl:k=N:=by omega
 rw[Y O];have:=L (σ i) (F i O);rw[PG] at this;grind
def aCF {N:Nat}{A:e4}(R:¬ E4 N A):∃x,jn N A (ext N x (-1)):=by
 obtain⟨aR,ei,-,F,G,ab⟩:=mO.full R N 0 A (λj=>j) (by omega) (Uz _ _ _) (λ_=>Iff.rfl) (mO.start _ _) (λj ae=>by omega);exact⟨λi=>aR i N,(ab _).1 ((al8 F G _).2 λ_ _=>rfl)⟩
end Go.Mini
namespace Go.Mini
open Classical
def Day.W (d:Day)(f:Nat->Nat)(k i:Nat):Rat:=cC d.dE λc=>if c.to=(i:Int)/\c.aF=k/\c.rk=f k then d.w c else 0
def Day.st (d:Day)(f:Nat->Nat)(i:Nat):Rat:=d.cash i+cC d.dE λc=>if c.to=(i:Int)/\c.rk<f c.aF then c.am else 0
def Day.dJ.acn {d:Day}(Z:d.dJ)(f:Nat->Nat)(P:Nat->Prop)(x:Nat->Rat)(i:Nat):(cC d.dE λc=>if c.to=(i:Int) then (if c.rk=f c.aF/\P c.aF then d.w c*x c.aF else 0) else 0)=bR d.n λk=>if P k then d.W f k i*x k else 0:=by
 have e:=abB (n:=d.n) Z.aF λk c=>if c.to=(i:Int) then (if c.rk=f k/\P k then d.w c*x k else 0) else 0;rw[<-e];refine lE λk I=>?_
 by_cases fF:P k
 ·rw[Y fF,xR];unfold Day.W;rw[<-UB];refine wv λc _=>?_
  by_cases F:c.aF=k
  ·by_cases G:c.to=(i:Int)
   ·by_cases ab:c.rk=f k
    ·rw[Y F,Y G,Y ⟨ab,fF⟩,Y ⟨G,F,ab⟩,xR]
    ·rw[Y F,Y G,aa λh=>ab h.1,aa λh=>ab h.2.2,rI]
   ·rw[Y F,aa G,aa λh=>G h.1,rI]
  ·rw[aa F,aa λh=>F h.2.1,rI]
 ·rw[aa fF];refine HG λc _=>?_
  split
  ·split
   ·rw[aa λh=>fF h.2]
   ·rfl
  ·rfl
def Day.dJ.UR {d:Day}(Z:d.dJ)(f:Nat->Nat)(P:Nat->Prop)(h:Nat->Rat)(i:Nat):d.fz (d.l f P h) i=d.st f i+bR d.n λk=>if P k then d.W f k i*(h k-d.U k (f k)) else 0:=by
 rw[<-Z.acn f P (λk=>h k-d.U k (f k)) i];unfold Day.fz Day.st;rw[Rat.add_assoc,<-UA]
 congr 1
 refine wv λc _=>?_;unfold Day.l
 by_cases F:c.to=(i:Int)
 ·rw[Y F,Y F]
  by_cases G:c.rk<f c.aF
  ·have ab:c.to=(i:Int)/\c.rk<f c.aF:=⟨F,G⟩;have aV:¬ (c.rk=f c.aF/\P c.aF):=λh=>by have:=h.1;omega
   rw[Y G,Y ab,aa aV,rH]
  ·have ab:¬ (c.to=(i:Int)/\c.rk<f c.aF):=λh=>G h.2;rw[aa G,aa ab,HO]
   by_cases aV:c.rk=f c.aF/\P c.aF
   ·rw[Y aV,Y aV,aV.1]
   ·rw[aa aV,aa aV]
 ·have ab:¬ (c.to=(i:Int)/\c.rk<f c.aF):=λh=>F h.1;rw[aa F,aa ab,aa F,rH]
def Day.pk (d:Day)(f:Nat->Nat)(P:Nat->Prop):e4:=λi k=>if k<d.n then (if i=k then 1 else 0)-(if P k then d.W f k i else 0) else d.st f i-bR d.n λk=>if P k then d.W f k i*d.U k (f k) else 0
def aco {d:Day}(f:Nat->Nat)(P:Nat->Prop)(x:Nat->Rat)(z:Rat){i:Nat}(O:i<d.n):nO d.n (d.pk f P i) (ext d.n x z)=x i-(bR d.n λk=>if P k then d.W f k i*x k else 0)+(d.st f i-bR d.n λk=>if P k then d.W f k i*d.U k (f k) else 0)*z:=by
 rw[PG]
 congr 1
 ·have e:=AM (n:=d.n) (f:=λk=>if i=k then x k else 0) (j:=i) O λk _ I=>aa (Ne.symm I);rw[Y rfl] at e;rw[<-e,<-KM];refine lE λk I=>?_;unfold Day.pk;rw[Y I]
  split<;>split<;>grind
 ·unfold Day.pk;rw[aa (by omega)]
def acp {d:Day}(Z:d.dJ)(f:Nat->Nat)(P:Nat->Prop)(h:Nat->Rat):jn d.n (d.pk f P) (ext d.n h (-1))↔∀i,i<d.n->h i=d.fz (d.l f P h) i:=by
 have e:∀i,(bR d.n λk=>if P k then d.W f k i*(h k-d.U k (f k)) else 0)=(bR d.n λk=>if P k then d.W f k i*h k else 0)-bR d.n λk=>if P k then d.W f k i*d.U k (f k) else 0:=λi=>by
  rw[<-KM];refine lE λk _=>?_
  split<;>grind
 unfold jn
 constructor
 ·intro dX i O;have:=dX i O;rw[aco f P h _ O] at this;rw[Z.UR,e];grind
 ·intro dX i O;have:=dX i O;rw[Z.UR,e] at this;rw[aco f P h _ O];grind
structure Good (d:Day) (f:Nat->Nat) (P:Nat->Prop):Prop where
 ok:d.dJ
 inv:∃g,Inv d f g
 gz:∀i,P i->i<d.n/\f i<10
 UG:∀C:Nat->Prop,(∃i,C i)->(∀i,C i->P i)->¬ d.closed f C
def Good.amV {d:Day}{f:Nat->Nat}{P:Nat->Prop}(bb:Good d f P){x:Nat->Rat}(L:∀i,i<d.n->x i=bR d.n λk=>if P k then d.W f k i*x k else 0):∀i,i<d.n->x i=0:=by
 obtain⟨g,O⟩:=bb.inv;exact aBO O bb.ok bb.gz bb.UG x λi cP=>by rw[bb.ok.acn f P x i];exact L i cP
def Good.acq {d:Day}{f:Nat->Nat}{P:Nat->Prop}(bb:Good d f P):¬ E4 d.n (d.pk f P):=by
 rintro⟨y,aj,k,I,b8⟩;refine b8 (bb.amV (x:=y) (λi O=>?_) k I);have:=aj i O;rw[aco f P y _ O] at this;grind
def Good.ex {d:Day}{f:Nat->Nat}{P:Nat->Prop}(bb:Good d f P):∃h:Nat->Rat,∀i,i<d.n->h i=d.fz (d.l f P h) i:=by
 obtain⟨x,L⟩:=aCF bb.acq;exact⟨x,(acp bb.ok f P x).1 L⟩
def Good.uniq {d:Day}{f:Nat->Nat}{P:Nat->Prop}(bb:Good d f P){h cn:Nat->Rat}(e:∀i,i<d.n->h i=d.fz (d.l f P h) i)(e':∀i,i<d.n->cn i=d.fz (d.l f P cn) i):∀i,i<d.n->h i=cn i:=by
 obtain⟨g,O⟩:=bb.inv;exact aBN O bb.ok bb.gz bb.UG e e'
def Day.e5 (d:Day)(f:Nat->Nat)(P:Nat->Prop):Nat->Rat:=if h:∃x:Nat->Rat,∀i,i<d.n->x i=d.fz (d.l f P x) i then z3 h else λ_=>0
def Good.e5 {d:Day}{f:Nat->Nat}{P:Nat->Prop}(bb:Good d f P):∀i,i<d.n->d.e5 f P i=d.fz (d.l f P (d.e5 f P)) i:=by
 have h:=bb.ex;unfold Day.e5;rw[dif_pos h];exact qo h
def aCG {l:List Nat}{a k:Nat}(h:k<D l):(l++[a]).getD k 0=l.getD k 0:=by
 rw[eD,eD,qi h]
def aCH (l:List Nat)(a:Nat)(aO:Nat->Rat):bR (l++[a]).length (λk=>aO ((l++[a]).getD k 0))=bR (D l) (λk=>aO (l.getD k 0))+aO a:=by
 rw[gC,qI,bR]
 congr 1
 ·refine lE λk I=>?_;rw[aCG I]
 ·rw[eD,ov (cl _),j0];rfl
def dh (P:Nat->Prop)(n:Nat):List Nat:=(eM n).filter λi=>decide (P i)
def US (P:Nat->Prop)(aO:Nat->Rat):∀n,bR (dh P n).length (λk=>aO ((dh P n).getD k 0))=bR n λk=>if P k then aO k else 0
 |0=>rfl
 |n+1=>by
  have aG:=US P aO n;unfold dh at aG ⊢;rw[List.range_succ,List.filter_append]
  by_cases fF:P n
  ·rw[List.filter_cons_of_pos (by simpa using fF),sE,aCH,aG,bR,Y fF]
  ·rw[List.filter_cons_of_neg (by simpa using fF),sE,hD,aG,bR,aa fF,rH]
def zn {P:Nat->Prop}{n k:Nat}(h:k<(dh P n).length):(dh P n).getD k 0<n/\P ((dh P n).getD k 0):=by
 have hm:(dh P n).getD k 0∈dh P n:=by
  rw[eD,bh h];exact mh h
 unfold dh at hm ⊢;rw[PE,ig,decide_eq_true_eq] at hm;exact hm
def Day.wD (d:Day)(f:Nat->Nat)(p:List Nat):e4:=λi k=>if k<(D p) then (if i=k then 1 else 0)-d.W f (p.getD k 0) (p.getD i 0) else d.st f (p.getD i 0)-d.U (p.getD i 0) (f (p.getD i 0))
def amW {d:Day}(f:Nat->Nat)(p:List Nat)(x:Nat->Rat)(z:Rat){i:Nat}(O:i<D p):nO (D p) (d.wD f p i) (ext (D p) x z)=x i-(bR (D p) λk=>d.W f (p.getD k 0) (p.getD i 0)*x k)+(d.st f (p.getD i 0)-d.U (p.getD i 0) (f (p.getD i 0)))*z:=by
 rw[PG]
 congr 1
 ·have e:=AM (n:=D p) (f:=λk=>if i=k then x k else 0) (j:=i) O λk _ I=>aa (Ne.symm I);rw[Y rfl] at e;rw[<-e,<-KM];refine lE λk I=>?_;unfold Day.wD;rw[Y I]
  split<;>grind
 ·unfold Day.wD;rw[aa (by omega)]
def Good.small {d:Day}{f:Nat->Nat}{P:Nat->Prop}(bb:Good d f P):¬ E4 (dh P d.n).length (d.wD f (dh P d.n)):=by
 rintro⟨y,aj,k,I,b8⟩
 have F:∀r,r<(dh P d.n).length->y r=bR (dh P d.n).length λk=>d.W f ((dh P d.n).getD k 0) ((dh P d.n).getD r 0)*y k:=λr X=>by
  have:=aj r X;rw[amW f _ y _ X] at this;grind
 have G:=bb.amV (x:=λi=>bR (dh P d.n).length λk=>d.W f ((dh P d.n).getD k 0) i*y k) (λi O=>by
  rw[<-US P (λk=>d.W f k i*bR (dh P d.n).length λk'=>d.W f ((dh P d.n).getD k' 0) k*y k') d.n];exact lE λr X=>by rw[F r X]) ((dh P d.n).getD k 0) (zn I).1
 refine b8 ?_;rw[F k I];exact G
def Good.amX {d:Day}{f:Nat->Nat}{P:Nat->Prop}(bb:Good d f P):jn (dh P d.n).length (d.wD f (dh P d.n)) (ext (dh P d.n).length (λk=>d.e5 f P ((dh P d.n).getD k 0)-d.U ((dh P d.n).getD k 0) (f ((dh P d.n).getD k 0))) (-1)):=by
 intro r X;rw[amW f _ _ _ X,US P (λk=>d.W f k ((dh P d.n).getD r 0)*(d.e5 f P k-d.U k (f k))) d.n];have:=bb.e5 _ (zn X).1;rw[bb.ok.UR] at this;grind
def Good.amY {d:Day}{f:Nat->Nat}{P:Nat->Prop}(bb:Good d f P){i:Nat}(O:i<d.n):d.e5 f P i=d.st f i+bR (dh P d.n).length λk=>d.W f ((dh P d.n).getD k 0) i*(d.e5 f P ((dh P d.n).getD k 0)-d.U ((dh P d.n).getD k 0) (f ((dh P d.n).getD k 0))):=by
 rw[US P (λk=>d.W f k i*(d.e5 f P k-d.U k (f k))) d.n,<-bb.ok.UR];exact bb.e5 i O
def jz.good {d:Day}(Z:d.dJ){f:Nat->Nat}{g:Nat->Rat}(O:Inv d f g){P:Nat->Prop}{h:Nat->Rat}(aE:jz d f g P h):Good d f P:=⟨Z,⟨g,O⟩,aE.gz,aE.UG⟩
def Good.none {d:Day}(Z:d.dJ){f:Nat->Nat}{g:Nat->Rat}(O:Inv d f g):Good d f λ_=>False:=⟨Z,⟨g,O⟩,λ_ h=>h.elim,λ_ ⟨i,h⟩ cn=>(cn i h).elim⟩
def jz.first {d:Day}(Z:d.dJ){f:Nat->Nat}{g:Nat->Rat}(O:Inv d f g):jz d f g (λ_=>False) (d.e5 f λ_=>False):=jz.start Z O (Good.none Z O).e5
def jz.succ {d:Day}(Z:d.dJ){f:Nat->Nat}{g:Nat->Rat}(O:Inv d f g){P:Nat->Prop}{h:Nat->Rat}(aE:jz d f g P h):jz d f g (u2 d f P h) (d.e5 f (u2 d f P h)):=aE.next Z O (Good.e5 ⟨Z,⟨g,O⟩,aE.KQ,aE.al0 Z O⟩)
def idle (d:Day)(P:Nat->Prop):Nat:=kG d.n λi=>if P i then 0 else 1
def amZ {d:Day}{f:Nat->Nat}{P:Nat->Prop}{h:Nat->Rat}{i:Nat}(O:i<d.n)(aH:f i<10)(l2:d.U i (f i)<h i)(fF:¬ P i):idle d (u2 d f P h)<idle d P:=by
 refine abS (j:=i) (λj _=>?_) O ?_
 ·by_cases ae:P j
  ·have F:u2 d f P h j:=Or.inl ae;rw[Y F,Y ae];exact cl _
  ·rw[aa ae];split<;>omega
 ·have F:u2 d f P h i:=Or.inr ⟨O,aH,l2⟩;rw[Y F,aa fF];omega
def jz.top {d:Day}(Z:d.dJ){f:Nat->Nat}{g:Nat->Rat}(O:Inv d f g):∀m (P:Nat->Prop) (h:Nat->Rat),idle d P<=m->jz d f g P h->∃h,oN d f h
 |m,P,h,hm,aE=>by
  by_cases R:∀i,i<d.n->f i<10->d.U i (f i)<h i->P i
  ·exact⟨h,g,O,aE.stop Z O R,aE.le⟩
  ·have⟨i,F,G,ab,aV⟩:∃i,i<d.n/\f i<10/\d.U i (f i)<h i/\¬ P i:=by
    apply mN;intro aL;exact R λi F G ab=>mN λaV=>aL ⟨i,F,G,ab,aV⟩
   have ah:=amZ (h:=h) F G ab aV
   cases m with
   |zero=>omega
   |succ m=>exact jz.top Z O m _ _ (by omega) (aE.succ Z O)
def aCI {d:Day}(Z:d.dJ){f:Nat->Nat}(X:Reach d f):∃h,oN d f h:=by
 obtain⟨g,O,-⟩:=X;exact jz.top Z O _ _ _ (cl _) (jz.first Z O)
def jz.acr {d:Day}(Z:d.dJ){f:Nat->Nat}{g:Nat->Rat}(O:Inv d f g){P:Nat->Prop}{h:Nat->Rat}(aE:jz d f g P h)(R:∀i,i<d.n->f i<10->d.U i (f i)<h i->P i):∀i,i<d.n->h i=d.top f i :=
 have b0:oN d f h:=⟨g,O,aE.stop Z O R,aE.le⟩
 b0.unique Z (Day.EW ⟨h,b0⟩)
end Go.Mini
namespace Go.Mini
open Classical
def eV (bk:Nat)(x:Rat):Prop:=∃z:Int,x*(bk:Rat)=(z:Rat)
def eV.add {bk:Nat}{x y:Rat}(L:eV bk x)(aj:eV bk y):eV bk (x+y):=by
 obtain⟨a,aZ⟩:=L;obtain⟨b,ad⟩:=aj;exact⟨a+b,by rw[CY,<-aZ,<-ad];grind⟩
def eV.sub {bk:Nat}{x y:Rat}(L:eV bk x)(aj:eV bk y):eV bk (x-y):=by
 obtain⟨a,aZ⟩:=L;obtain⟨b,ad⟩:=aj;exact⟨a-b,by rw[CZ,<-aZ,<-ad];grind⟩
def eV.mul {bk N:Nat}{x y:Rat}(L:eV bk x)(aj:eV N y):eV (bk*N) (x*y):=by
 obtain⟨a,aZ⟩:=L;obtain⟨b,ad⟩:=aj;exact⟨a*b,by rw[sC,<-aZ,<-ad,UQ];grind⟩
def eV.int (bk:Nat)(z:Int):eV bk (z:Rat):=⟨z*bk,by rw[sC,oe]⟩
def eV.zero (bk:Nat):eV bk 0:=⟨0,by rw[KN];rfl⟩
def eV.more {bk:Nat}{x:Rat}(h:eV bk x)(N:Nat):eV (bk*N) x:=by
 obtain⟨a,aZ⟩:=h;exact⟨a*N,by rw[sC,<-aZ,UQ,oe];grind⟩
def eV.of_dvd {bk N:Nat}{x:Rat}(h:eV bk x)(Z:∃m,N=bk*m):eV N x:=by
 obtain⟨m,rfl⟩:=Z;exact h.more m
def eV.cC {bk:Nat}{l:List ej}{aO:ej->Rat}(h:∀c∈l,eV bk (aO c)):eV bk (cC l aO):=by
 induction l with
 |nil=>exact eV.zero bk
 |cons c l aG=>exact (h c g1).add (aG λx L=>h x (iG _ L))
def eV.bR {bk n:Nat}{aO:Nat->Rat}(h:∀k,k<n->eV bk (aO k)):eV bk (bR n aO):=by
 induction n with
 |zero=>exact eV.zero bk
 |succ n aG=>exact (aG λk I=>h k (by omega)).add (h n (by omega))
def eV.sz {bk a e:Nat}{x:Rat}(h:eV bk x)(gE:0<bk)(E6:bk<=2^a)(ay:0<=x)(L:x<=((2^e:Nat):Rat)):e0 (a+e) x:=by
 obtain⟨z,a2⟩:=h;have w3:(0:Rat)<=(z:Rat):=by rw[<-a2];exact abE ay (by exact_mod_cast fL bk)
 have aCJ:(z:Rat)<=((2^e*bk:Nat):Rat):=by
  rw[<-a2,UQ];exact Rat.mul_le_mul_of_nonneg_right L (by exact_mod_cast fL bk)
 have eU:0<=z:=by exact_mod_cast w3
 have cy:z<=((2^e*bk:Nat):Int):=by exact_mod_cast aCJ
 obtain⟨f1,f2⟩:=EZ (q:=x) (v:=z) (d:=(bk:Int)) (by omega) (by rw[oe];exact a2);rw[m5] at f2;have dw:z.natAbs<=2^e*bk:=by omega
 refine⟨eR f1 (eR dw ?_),eR f2 (eR E6 (yL (by omega) (by omega)))⟩;rw[AS,vJ (2^a)];exact Nat.mul_le_mul_left _ E6
def eV.am0 {bk a e:Nat}{x:Rat}(h:eV bk x)(gE:0<bk)(E6:bk<=2^a)(ay:-((2^e:Nat):Rat)<=x)(L:x<=((2^e:Nat):Rat)):e0 (a+e) x:=by
 by_cases F:0<=x
 ·exact h.sz gE E6 F L
 ·have G:eV bk (-x):=by
   obtain⟨z,a2⟩:=h;exact⟨-z,by rw[Rat.intCast_neg,<-a2];grind⟩
  have ab:=wy (G.sz gE E6 (by grind) (by grind:-x<=((2^e:Nat):Rat)));rwa [Rat.neg_neg] at ab
structure fX (cash:List Int) (cs:List aB):Prop where
 right:hr cash cs=true
 jV:(D cash)<=6
 wE:(D cs)<=12
 am:∀c∈cs,c.2.2.2<=1000000000000000
def fX.ok {cash:List Int}{cs:List aB}(h:fX cash cs):(af cash cs).dJ:=KT h.right
def fX.sum {cash:List Int}{cs:List aB}(h:fX cash cs)(p:aB->Prop)[DecidablePred p]:0<=cJ cs (λc=>if p c then c.2.2.2 else 0)/\cJ cs (λc=>if p c then c.2.2.2 else 0)<=12000000000000000:=by
 have:=abT (cs:=cs) (aO:=λc=>if p c then c.2.2.2 else 0) (B:=1000000000000000) (by omega) λc J=>by
  have F:=h.am c J;have G:=((hL.1 h.right).2.2.2 c J).2.2.2.2.2.2.1
  try dsimp only
  split<;>omega
 have eu:=h.wE;omega
def fX.upto {cash:List Int}{cs:List aB}(h:fX cash cs)(i r:Int):0<=bT cs i r/\bT cs i r<=12000000000000000:=h.sum λc=>c.1=i/\c.2.2.1<r
def aCK {cash:List Int}{cs:List aB}(h:hr cash cs=true)(i:Int){r s:Int}(yx:r<=s):bT cs i r<=bT cs i s:=by
 have aV:=(hL.1 h).2.2.2
 have:∀l:List aB,(∀c∈l,0<=c.2.2.2)->cJ l (λc=>if c.1=i/\c.2.2.1<r then c.2.2.2 else 0)<=cJ l (λc=>if c.1=i/\c.2.2.1<s then c.2.2.2 else 0):=by
  intro l
  induction l with
  |nil=>intro _;exact PT _
  |cons c l aG =>
   intro aq;have F:=aG λx L=>aq x (iG _ L);have G:=aq c g1;simp only[cJ]
   split<;>split<;>omega
 exact this cs λc J=>(aV c J).2.2.2.2.2.2.1
def jq (cs:List aB)(k r:Nat):Nat:=(bT cs k (r+1:Nat)-bT cs k r).toNat
def E7 {cash:List Int}{cs:List aB}(h:hr cash cs=true)(k r:Nat):((jq cs k r:Nat):Rat)=(af cash cs).S k r:=by
 have F:=KU h k r;have G:=aCK h k (r:=r) (s:=(r+1:Nat)) (by omega);rw[<-F,<-oe];unfold jq;rw[Int.toNat_of_nonneg (by omega)]
def fX.E8 {cash:List Int}{cs:List aB}(h:fX cash cs)(k r:Nat):jq cs k r<=2^54:=by
 have F:=h.upto k (r+1:Nat);have G:=h.upto k r;unfold jq;omega
def qU (cs:List aB)(f:Nat->Nat)(k i:Nat):Int:=cJ cs λc=>if c.2.1=(i:Int)/\c.1=(k:Int)/\c.2.2.1=(f k:Int) then c.2.2.2 else 0
def aCL {cash:List Int}{cs:List aB}(h:hr cash cs=true)(f:Nat->Nat){k:Nat}(i:Nat)(cZ:0<(af cash cs).S k (f k)):(af cash cs).W f k i*(af cash cs).S k (f k)=((qU cs f k i:Int):Rat):=by
 unfold Day.W qU
 rw[UK cs _ (λc=>if c.to=(i:Int)/\c.aF=k/\c.rk=f k then c.am else 0) λc J=>by
  have:=(hL.1 h).2.2.2 c J;show ((if c.2.1=(i:Int)/\c.1=(k:Int)/\c.2.2.1=(f k:Int) then c.2.2.2 else 0:Int):Rat)=if c.2.1=(i:Int)/\c.1.toNat=k/\c.2.2.1.toNat=f k then (c.2.2.2:Rat) else 0
  by_cases F:c.2.1=(i:Int)/\c.1=(k:Int)/\c.2.2.1=(f k:Int)
  ·rw[Y F,Y (by omega)]
  ·rw[aa F,aa (by omega)];rfl]
 rw[xR,<-UB];refine wv λc _=>?_
 split
 ·rename_i F;rw[xR];have au:=F.2.1;have aC:=F.2.2;subst au;rw[<-aC] at cZ ⊢;exact Day.HI cZ
 ·rw[rI]
def HP {cash:List Int}{cs:List aB}(h:hr cash cs=true)(f:Nat->Nat)(i:Nat):((kH cash cs f i:Int):Rat)=(af cash cs).st f i:=by
 unfold kH Day.st;rw[CY]
 congr 1
 refine UK cs _ (λc=>if c.to=(i:Int)/\c.rk<f c.aF then c.am else 0) λc J=>?_;have:=(hL.1 h).2.2.2 c J;show ((if c.2.1=(i:Int)/\c.2.2.1<(f c.1.toNat:Int) then c.2.2.2 else 0:Int):Rat)=if c.2.1=(i:Int)/\c.2.2.1.toNat<f c.1.toNat then (c.2.2.2:Rat) else 0
 by_cases F:c.2.1=(i:Int)/\c.2.2.1<(f c.1.toNat:Int)
 ·rw[Y F,Y (by omega)]
 ·rw[aa F,aa (by omega)];rfl
def fX.cash {cash:List Int}{cs:List aB}(h:fX cash cs)(i:Nat):0<=cash.getD i 0/\cash.getD i 0<=1000000000000000:=by
 rw[eD]
 cases O:cash[i]? with
 |none=>simp
 |some x=>exact (hL.1 h.right).2.2.1 x (dy O)
def fX.steady {cash:List Int}{cs:List aB}(h:fX cash cs)(f:Nat->Nat)(i:Nat):0<=kH cash cs f i/\kH cash cs f i<=13000000000000000:=by
 have F:=h.cash i;have G:=h.sum λc=>c.2.1=(i:Int)/\c.2.2.1<(f c.1.toNat:Int);unfold kH;omega
def am1 (n:Nat)(a b:Nat->Nat):hf n (λi=>a i+b i)=hf n a+hf n b:=by
 induction n with
 |zero=>rfl
 |succ n aG=>simp only[hf,aG];omega
def acs {n:Nat}{a:Nat->Nat}(h:∀i,i<n->a i=0):hf n a=0:=by
 induction n with
 |zero=>rfl
 |succ n aG=>rw[hf,aG λi O=>h i (by omega),h n (by omega)]
def acu {n b e:Nat}{cr:Nat->Nat}(h:∀k,k<n->cr k<=2^b)(he:n*b<=e):jo n cr<=2^e:=eR (ab5 h) (yL (by omega) he)
def acv {n x:Nat}{p:Nat->Prop}[DecidablePred p](h:∀i j,p i->p j->i=j):hf n (λi=>if p i then x else 0)<=x:=by
 induction n with
 |zero=>exact fL _
 |succ n aG =>
  rw[hf]
  by_cases aE:p n
  ·rw[Y aE,acs λi O=>aa λF=>by have:=h i n F aE;omega]
   omega
  ·rw[aa aE];omega
def am2 {cs:List aB}{aO:aB->Int}(h:∀c∈cs,0<=aO c):0<=cJ cs aO:=by
 induction cs with
 |nil=>exact PT _
 |cons c l aG =>
  have F:=aG λx L=>h x (iG _ L);have G:=h c g1;simp only[cJ];omega
def am3 {cs:List aB}(h:∀c∈cs,0<=c.2.2.2)(f:Nat->Nat)(k i:Nat):0<=qU cs f k i:=am2 λc J=>by
 have:=h c J
 split<;>omega
def aCM {cs:List aB}(h:∀c∈cs,0<=c.2.2.2)(k r:Nat):jq cs k r=(cJ cs λc=>if c.1=(k:Int)/\c.2.2.1=(r:Int) then c.2.2.2 else 0).toNat:=by
 unfold jq bT
 congr 1
 induction cs with
 |nil=>rfl
 |cons c l aG =>
  have F:=aG λx L=>h x (iG _ L);simp only[cJ]
  have e:(if c.1=(k:Int)/\c.2.2.1<((r+1:Nat):Int) then c.2.2.2 else 0)-(if c.1=(k:Int)/\c.2.2.1<(r:Int) then c.2.2.2 else 0)=if c.1=(k:Int)/\c.2.2.1=(r:Int) then c.2.2.2 else 0:=by
   (repeat' split)<;>omega
  omega
def aCN {cs:List aB}(h:∀c∈cs,0<=c.2.2.2)(f:Nat->Nat)(k N:Nat):hf N (λi=>(qU cs f k i).toNat)<=jq cs k (f k):=by
 rw[aCM h]
 induction cs with
 |nil=>exact eR (AJ (acs λi _=>rfl)) (fL _)
 |cons c l aG =>
  have aq:=λx L=>h x (iG c L);have F:=aG aq;have G:=h c g1
  have e:hf N (λi=>(qU (c::l) f k i).toNat)=hf N (λi=>if c.2.1=(i:Int)/\c.1=(k:Int)/\c.2.2.1=(f k:Int) then c.2.2.2.toNat else 0)+hf N λi=>(qU l f k i).toNat:=by
   rw[<-am1];refine ab0 λi _=>?_;have:=am3 aq f k i;have au:qU (c::l) f k i=(if c.2.1=(i:Int)/\c.1=(k:Int)/\c.2.2.1=(f k:Int) then c.2.2.2 else 0)+qU l f k i:=rfl;rw[au]
   split<;>omega
  have aV:0<=cJ l λc=>if c.1=(k:Int)/\c.2.2.1=(f k:Int) then c.2.2.2 else 0:=am2 λc J=>by
   have:=aq c J
   split<;>omega
  have ab:hf N (λi=>if c.2.1=(i:Int)/\c.1=(k:Int)/\c.2.2.1=(f k:Int) then c.2.2.2.toNat else 0)<=if c.1=(k:Int)/\c.2.2.1=(f k:Int) then c.2.2.2.toNat else 0:=by
   by_cases J:c.1=(k:Int)/\c.2.2.1=(f k:Int)
   ·rw[Y J];exact acv λi j O ae=>by omega
   ·rw[aa J,acs λi _=>aa λh=>J h.2];exact cl _
  simp only[cJ];rw[e]
  split at ab<;>rename_i J
  ·rw[Y J];omega
  ·rw[aa J];omega
section
variable {cash:List Int} {cs:List aB} (R:fX cash cs) {f:Nat->Nat} {P:Nat->Prop} (cZ:∀k,P k->0<(af cash cs).S k (f k))
include R cZ
def PU {k:Nat}(I:P k):0<jq cs k (f k):=by
 have F:=cZ k I;rw[<-E7 R.right] at F;exact_mod_cast F
def am4 {k:Nat}(I:P k)(i:Nat):((jq cs k (f k):Nat):Rat)*(af cash cs).W f k i=((qU cs f k i:Int):Rat):=by
 rw[E7 R.right,xR];exact aCL R.right f i (cZ k I)
def am5 {k:Nat}(I:P k)(i:Nat)(p:Prop)[Decidable p]:fg ((if p then jq cs k (f k) else 0)+(qU cs f k i).toNat) (((jq cs k (f k):Nat):Rat)*((if p then 1 else 0)-(af cash cs).W f k i)):=by
 have e:((jq cs k (f k):Nat):Rat)*((if p then 1 else 0)-(af cash cs).W f k i)=((if p then jq cs k (f k) else 0:Nat):Rat)-((qU cs f k i:Int):Rat):=by
  rw[<-am4 R cZ I i]
  split<;>grind
 have G:=am3 (λc J=>((hL.1 R.right).2.2.2 c J).2.2.2.2.2.2.1) f k i;rw[e];exact (fg.nat (cl _)).sub (fg.of (by omega))
omit cZ in
def am6 {N:Nat}{k:Nat}(τ:Nat->Nat)(t:Nat)(hτ:∀i,i<N->τ i<D cash)(ae:∀i j,i<N->j<N->τ i=τ j->i=j):hf N (λi=>(if i=t then jq cs k (f k) else 0)+(qU cs f k (τ i)).toNat)<=2*jq cs k (f k):=by
 rw[am1];have F:hf N (λi=>if i=t then jq cs k (f k) else 0)<=jq cs k (f k):=acv λi j O ae=>by omega
 have G:=ab1 (λi=>(qU cs f k i).toNat) hτ ae;have ab:=aCN (λc J=>((hL.1 R.right).2.2.2 c J).2.2.2.2.2.2.1) f k (D cash);omega
omit cZ in
def am7 (i:Nat):(kH cash cs f i-bT cs (i:Nat) (f i)).natAbs<=2^54/\(kH cash cs f i).natAbs<=2^54:=by
 have F:=R.steady f i;have G:=R.upto (i:Nat) (f i);omega
def AV (cs:List aB)(f:Nat->Nat)(P:Nat->Prop)(k:Nat):Nat:=if P k then jq cs k (f k) else 1
def am8 (k:Nat):0<AV cs f P k:=by
 unfold AV
 split
 ·exact PU R cZ (by assumption)
 ·omega
omit cZ in
def am9 (k:Nat):AV cs f P k<=2^54:=by
 unfold AV
 split
 ·exact R.E8 k _
 ·decide
def acw:wB (D cash) ((af cash cs).pk f P) (D cash*54) 54:=by
 have lv:(af cash cs).n=D cash:=rfl;refine⟨λk=>if P k then jq cs k (f k) else 1,λk=>if P k then bT cs k (f k) else 0,λi=>kH cash cs f i-if P i then bT cs i (f i) else 0,ab5 λk _=>?_,λk=>?_,λk I=>?_,λk _=>?_,λi O=>⟨?_,?_⟩⟩
 ·try dsimp only
  split
  ·exact R.E8 k _
  ·decide
 ·try dsimp only
  split
  ·exact PU R cZ (by assumption)
  ·omega
 ·by_cases fF:P k
  ·refine⟨λi=>(if i=k then jq cs k (f k) else 0)+(qU cs f k i).toNat,by dsimp only;rw[Y fF];exact am6 R (λi=>i) k (λi O=>O) λi j _ _ h=>h,λi O=>?_⟩
   unfold Day.pk;dsimp only;rw[Y fF,Y (show k<(af cash cs).n from I),Y fF];exact am5 R cZ fF i _
  ·refine⟨λi=>if i=k then 1 else 0,by dsimp only;rw[aa fF];exact eR (acv λi j O ae=>by omega) (by omega),λi O=>?_⟩
   unfold Day.pk;dsimp only;rw[aa fF,Y (show k<(af cash cs).n from I),aa fF];have:(((1:Nat):Rat)*((if i=k then 1 else 0)-0))=((if i=k then 1 else 0:Nat):Rat):=by split<;>simp<;>grind
   rw[this];exact fg.nat (cl _)
 ·try dsimp only
  split
  ·have:=R.upto (k:Nat) (f k);omega
  ·decide
 ·have:=am7 R (f:=f) i;dsimp only
  split
  ·exact this.1
  ·rw[Int.sub_zero];exact this.2
 ·unfold Day.pk;rw[aa (by rw[lv];omega),lv]
  have au:(λk=>(if k<(D cash) then (if i=k then 1 else 0)-(if P k then (af cash cs).W f k i else 0) else (af cash cs).st f i-bR (D cash) λk=>if P k then (af cash cs).W f k i*(af cash cs).U k (f k) else 0)*((if P k then bT cs k (f k) else 0:Int):Rat))=λk=>(if k<(D cash) then (if i=k then ((if P k then bT cs k (f k) else 0:Int):Rat) else 0)-(if P k then (af cash cs).W f k i*(af cash cs).U k (f k) else 0) else ((af cash cs).st f i-bR (D cash) λk=>if P k then (af cash cs).W f k i*(af cash cs).U k (f k) else 0)*((if P k then bT cs k (f k) else 0:Int):Rat)):=by
   funext k
   by_cases F:k<D cash
   ·rw[Y F,Y F]
    by_cases G:P k
    ·rw[Y G,Y G,Y G,<-qS R.right k (f k)]
     split<;>grind
    ·rw[aa G,aa G,aa G]
     split<;>simp<;>grind
   ·rw[aa F,aa F]
  rw[au];rw[lE (g:=λk=>(if i=k then ((if P k then bT cs k (f k) else 0:Int):Rat) else 0)-(if P k then (af cash cs).W f k i*(af cash cs).U k (f k) else 0)) λk I=>Y I];rw[KM,AM O λk _ I=>aa (Ne.symm I),Y rfl,CZ,HP R.right];grind
def acx (p:List Nat)(aE:∀k,k<(D p)->P (p.getD k 0)/\p.getD k 0<D cash)(ae:∀i j,i<(D p)->j<(D p)->p.getD i 0=p.getD j 0->i=j):wB (D p) ((af cash cs).wD f p) (D p*54) 54:=by
 refine⟨λk=>if k<(D p) then jq cs (p.getD k 0) (f (p.getD k 0)) else 1,λ_=>0,λi=>kH cash cs f (p.getD i 0)-bT cs (p.getD i 0:Nat) (f (p.getD i 0)),ab5 λk I=>?_,λk=>?_,λk I=>?_,λk _=>fL _,λi O=>⟨?_,?_⟩⟩
 ·try dsimp only
  rw[Y I];exact R.E8 _ _
 ·try dsimp only
  split
  ·exact PU R cZ (aE k (by assumption)).1
  ·omega
 ·refine⟨λi=>(if i=k then jq cs (p.getD k 0) (f (p.getD k 0)) else 0)+(qU cs f (p.getD k 0) (p.getD i 0)).toNat,by dsimp only;rw[Y I];exact am6 R (λi=>p.getD i 0) k (λi O=>(aE i O).2) ae,λi O=>?_⟩
  unfold Day.wD;dsimp only;rw[Y I,Y I];exact am5 R cZ (aE k I).1 _ _
 ·exact (am7 R _).1
 ·unfold Day.wD;rw[aa (by omega),u0 λk _=>by rw[show ((0:Int):Rat)=0 from rfl,rI],HO,CZ,HP R.right,qS R.right]
end
end Go.Mini
namespace Go.Mini
open Go Classical
def hU {b:Nat}{q:Rat}(h:e0 b q)(ad:b<1200):dH q:=by
 obtain⟨B,ga,fO⟩:=amw;have:2^b<dF:=by rw[fO];exact amx (by omega) (by omega)
 exact⟨vQ h.1 this,vQ h.2 this⟩
def rowsOf (N:Nat)(A:e4):List cI:=(eM N).map λi=>(c8 N (A i),av (A i N))
def AW (N:Nat)(A:e4):(rowsOf N A).length=N:=by simp[rowsOf]
def acy {N i:Nat}(A:e4)(h:i<N):(rowsOf N A)[i]?=some (c8 N (A i),av (A i N)):=by
 unfold rowsOf;rw[bm,vo h];rfl
def aCO {N i k:Nat}(A:e4)(O:i<N)(I:k<=N):sD (rowsOf N A) i k=A i k:=by
 unfold sD;rw[amt (acy A O),AW]
 by_cases h:k<N
 ·rw[Y h,eD,rL _ h,Option.getD_some,Hd]
 ·rw[aa h,Hd,show k=N by omega]
def PV {x:Rat}(h:dH x):dM (av x)=true:=(Cr _).2 ⟨x,h,rfl⟩
def aCP {N:Nat}{A:e4}(fA:N<=40)(aq:∀i,i<N->∀k,k<=N->dH (A i k)):j7 (rowsOf N A) N=true:=by
 unfold j7
 have ab:(rowsOf N A).any (oc N)=false:=by
  rw[EL];intro r X;obtain⟨i,O,rfl⟩:=gm.1 X;have O:=ig.1 O;unfold oc Cz;simp only[qT,beq_self_eq_true,fN,PV (aq i O N (cl _))]
  have:(c8 N (A i)).any (λf => !dM f)=false:=by
   rw[EL];intro f aH;unfold c8 at aH;obtain⟨x,L,rfl⟩:=gm.1 aH;obtain⟨k,I,rfl⟩:=gm.1 L;rw[PV (aq i O k (by have:=ig.1 I;omega))]
   decide
  rw[this];decide
 rw[ab,AW];simp only[fC,tw,decide_eq_false_iff_not,beq_self_eq_true,cA,and_true];omega
def ana {N:Nat}{A:e4}(fA:N<=40)(aq:∀i,i<N->∀k,k<=N->dH (A i k)):uQ (rowsOf N A):=by
 refine⟨by rw[AW];omega,λr X=>?_⟩
 obtain⟨i,O,rfl⟩:=gm.1 X;have O:=ig.1 O;exact⟨acj fA λk I=>aq i O k (by omega),mu (aq i O N (cl _))⟩
def anb {N:Nat}{a b y:Nat->Rat}(h:∀k,k<=N->a k=b k):nO N a y=nO N b y:=lE λk I=>by rw[h k (by omega)]
def jn.congr {N:Nat}{A B:e4}(h:∀i,i<N->∀k,k<=N->A i k=B i k)(y:Nat->Rat):jn N A y↔jn N B y:=by
 unfold jn
 constructor
 ·intro dX i O;rw[<-anb (h i O)];exact dX i O
 ·intro dX i O;rw[anb (h i O)];exact dX i O
def wB.congr {N δ v:Nat}{A B:e4}(h:∀i,i<N->∀k,k<=N->A i k=B i k)(R:wB N A δ v):wB N B δ v:=by
 obtain⟨cr,u,w,cz,cY,eA,eQ,p1⟩:=R;refine⟨cr,u,w,cz,cY,λk I=>?_,eQ,λi O=>⟨(p1 i O).1,?_⟩⟩
 ·obtain⟨b,cQ,dN⟩:=eA k I;exact⟨b,cQ,λi O=>by rw[<-h i O k (by omega)];exact dN i O⟩
 ·rw[<-h i O N (cl _),(p1 i O).2,lE λk I=>by rw[h i O k (by omega)]]
def wB.sz {N δ v:Nat}{A:e4}(R:wB N A δ v)(fA:N<=7){i k:Nat}(O:i<N)(I:k<=N):e0 (N+δ+v+4) (A i k):=(R.amN fA A 0 (fL _) (mO.start N A) i k O (fL _) I).1
def anc {N:Nat}{A:e4}(fA:N<=6)(R:wB N A (N*54) 54)(AL:¬ E4 N A){x:Nat->Rat}(L:jn N A (ext N x (-1))):
  tF (rowsOf N A) N=(c8 N x,0)/\j7 (rowsOf N A) N=true/\∀k,k<N->dH (x k):=by
 have aq:∀i,i<N->∀k,k<=N->dH (A i k):=λi O k I=>hU (R.sz (by omega) O I) (by omega);have X:=aCP (by omega) aq;have J:∀i,i<N->∀k,k<=N->A i k=sD (rowsOf N A) i k:=λi O k I=>(aCO A O I).symm;have kQ:=(R.congr J).amN (by omega)
 have aCQ:¬ E4 N (sD (rowsOf N A)):=by
  rintro⟨y,aj,h⟩;exact AL ⟨y,(jn.congr J _).2 aj,h⟩
 obtain⟨y,au,aC,bN⟩:=aCE (rs:=rowsOf N A) (n:=N) (eZ:=N+N*54+54+4) (aO:=N+N*54) X (by rw[AW];exact kQ) (by omega) (by rw[AW];exact aCQ);rw[AW] at au aC bN;have g0:∀k,k<N->x k=y k:=λk I=>(bN.1 x).1 ((jn.congr J _).1 L) k I;exact⟨by rw[au,xS λk I=>(g0 k I).symm],X,λk I=>by rw[g0 k I];exact aC k I⟩
def acz {P:Nat->Prop}{n i j:Nat}(O:i<(dh P n).length)(ae:j<(dh P n).length)(h:(dh P n).getD i 0=(dh P n).getD j 0):i=j:=by
 have aL:(dh P n).Pairwise (·≠·):=List.Pairwise.filter _ ak3;rw[List.pairwise_iff_getElem] at aL;rw[eD,eD,bh O,bh ae] at h;rcases Nat.lt_trichotomy i j with F|F|F
 ·exact absurd h (aL i j O ae F)
 ·exact F
 ·exact absurd h.symm (aL j i ae O F)
structure sF (d:Day) (f:Nat->Nat) (P:Nat->Prop):Prop where
 ok:d.dJ
 ex:∃g,Inv d f g/\jz d f g P (d.e5 f P)
def sF.good {d:Day}{f:Nat->Nat}{P:Nat->Prop}(h:sF d f P):Good d f P:=by
 obtain⟨F,g,G,ab⟩:=h;exact ab.good F G
def sF.ph {d:Day}{f:Nat->Nat}{P:Nat->Prop}(h:sF d f P):∀k,P k->0<d.S k (f k):=by
 obtain⟨F,g,G,ab⟩:=h;exact λk I=>G.ph (ab.gz k I).1 (ab.gz k I).2
def sF.gt {d:Day}{f:Nat->Nat}{P:Nat->Prop}(h:sF d f P):∀k,P k->d.U k (f k)<d.e5 f P k:=by
 obtain⟨F,g,G,ab⟩:=h;exact ab.ge
def jz.ane {d:Day}(Z:d.dJ){f:Nat->Nat}{g:Nat->Rat}{P:Nat->Prop}{h:Nat->Rat}(O:Inv d f g)(aE:jz d f g P h){c:ej}(J:c∈d.dE):0<=d.l f P h c/\d.l f P h c<=c.am:=by
 have ay:=Z.am c J
 by_cases F:c.rk<f c.aF
 ·rw[Day.alX F];exact⟨ay,hp⟩
 ·by_cases G:c.rk=f c.aF/\P c.aF
  ·rw[Day.alY G.1 G.2];have au:=aE.ge _ G.2;have aC:=aE.le _ (Z.aF c J);have bN:=O.O _ (Z.aF c J) (aE.gz _ G.2).2;rw[d.AQ] at bN;rw[G.1];exact⟨u1 (Z.rJ J) (by grind),Z.UH J (by rw[G.1];grind)⟩
  ·rw[Day.abH F G];exact⟨hp,ay⟩
def sF.range {d:Day}{f:Nat->Nat}{P:Nat->Prop}(h:sF d f P){i:Nat}(O:i<d.n):0<=d.e5 f P i/\d.e5 f P i<=d.fz (λc=>c.am) i:=by
 obtain⟨F,g,G,ab⟩:=h;rw[ab.sys i O];exact⟨F.abK (λc J=>(ab.ane F G J).1) O,d.HK (λc J=>(ab.ane F G J).2) i⟩
def aCR {cash:List Int}{cs:List aB}(R:fX cash cs)(i:Nat):(af cash cs).fz (λc=>c.am) i<=((2^54:Nat):Rat):=by
 have e:(af cash cs).fz (λc=>c.am) i=((cash.getD i 0+cJ cs (λc=>if c.2.1=(i:Int) then c.2.2.2 else 0):Int):Rat):=by
  unfold Day.fz;rw[CY]
  congr 1
  refine (UK cs _ (λc=>if c.to=(i:Int) then c.am else 0) λc J=>?_).symm;show ((if c.2.1=(i:Int) then c.2.2.2 else 0:Int):Rat)=if c.2.1=(i:Int) then (c.2.2.2:Rat) else 0
  split<;>rfl
 rw[e];have F:=R.cash i;have G:=R.sum λc=>c.2.1=(i:Int)
 have:cash.getD i 0+cJ cs (λc=>if c.2.1=(i:Int) then c.2.2.2 else 0)<=((2^54:Nat):Int):=by omega
 rw[<-oe];exact_mod_cast this
def Day.dJ.aCS {d:Day}(Z:d.dJ)(f:Nat->Nat)(k i:Nat):0<=d.W f k i:=AO λc J=>by
 split
 ·exact Z.rJ J
 ·exact hp
def aCT {n t:Nat}{T:Nat->Rat}(h:∀k,k<n->0<=T k)(b0:t<=n):bR t T<=bR n T:=by
 induction n with
 |zero=>rw[show t=0 by omega];exact hp
 |succ n aG =>
  by_cases anf:t=n+1
  ·rw[anf];exact hp
  ·have F:=aG (λk I=>h k (by omega)) (by omega);have G:=h n (by omega);rw[bR];grind
def aCU {N t bk a e:Nat}{s:Rat}{T:Nat->Rat}(gE:0<bk)(E6:bk<=2^a)(qE:0<=s)(MR:eV bk s)(acA:∀k,k<N->0<=T k)(ang:∀k,k<N->eV bk (T k))(L:s+bR N T<=((2^e:Nat):Rat))(b0:t<=N):e0 (a+e) (s+bR t T)/\∀k,k<N->e0 (a+e) (T k):=by
 have F:∀t,t<=N->0<=bR t T/\bR t T<=bR N T:=λt b0=>⟨alS λk I=>acA k (by omega),aCT acA b0⟩;refine⟨(MR.add (eV.bR λk I=>ang k (by omega))).sz gE E6 (by have:=(F t b0).1;grind) (by have:=(F t b0).2;grind),λk I=>(ang k I).sz gE E6 (acA k I) ?_⟩;have G:=(F k (by omega)).1;have ab:=(F (k+1) (by omega)).2;rw[bR] at ab;grind
section
variable {cash:List Int} {cs:List aB} (R:fX cash cs) {f:Nat->Nat} {P:Nat->Prop} (aE:sF (af cash cs) f P)
include R aE
def UT {i:Nat}(O:i<D cash):0<=(af cash cs).e5 f P i/\(af cash cs).e5 f P i<=((2^54:Nat):Rat):=by
 have h:=aE.range (d:=af cash cs) O;exact⟨h.1,xM h.2 (aCR R i)⟩
def anh:∃bk:Nat,0<bk/\(∃a,a<=330/\bk<=2^a)/\∀i,i<(D cash)->eV bk ((af cash cs).e5 f P i):=by
 obtain⟨bk,F,G,ab⟩:=amU (N:=D cash) aE.good.acq (acw R aE.ph) ((acp aE.ok f P _).2 aE.good.e5);have aL:=R.jV;exact⟨bk,F,⟨_,by omega,G⟩,ab⟩
def acB {i:Nat}(O:i<D cash):e0 428 ((af cash cs).e5 f P i):=by
 obtain⟨bk,F,⟨a,ay,G⟩,ab⟩:=anh R aE;have aV:=UT R aE O;exact ((ab i O).sz F G aV.1 aV.2).mono (by omega)
def aCV:tF (rowsOf (D cash) ((af cash cs).pk f P)) (D cash)=(c8 (D cash) ((af cash cs).e5 f P),0)/\j7 (rowsOf (D cash) ((af cash cs).pk f P)) (D cash)=true:=by
 have:=anc R.jV (acw R aE.ph) aE.good.acq ((acp aE.ok f P _).2 aE.good.e5);exact⟨this.1,this.2.1⟩
def aCW:tF (rowsOf (dh P (D cash)).length ((af cash cs).wD f (dh P (D cash)))) (dh P (D cash)).length=(c8 (dh P (D cash)).length (λk=>(af cash cs).e5 f P ((dh P (D cash)).getD k 0)-(af cash cs).U ((dh P (D cash)).getD k 0) (f ((dh P (D cash)).getD k 0))),0)/\j7 (rowsOf (dh P (D cash)).length ((af cash cs).wD f (dh P (D cash)))) (dh P (D cash)).length=true:=by
 have hlen:(dh P (D cash)).length<=6:=by
  have:=p2 (λi=>decide (P i)) (eM (D cash));rw[td] at this;have:=R.jV;unfold dh;omega
 have:=anc hlen (acx R aE.ph _ (λk I=>⟨(zn I).2,(zn I).1⟩) λi j O ae=>acz O ae) aE.good.small aE.good.amX;exact⟨this.1,this.2.1⟩
def aCX:∃bk:Nat,0<bk/\(∃a,a<=330/\bk<=2^a)/\∀k,k<(dh P (D cash)).length->eV bk ((af cash cs).e5 f P ((dh P (D cash)).getD k 0)-(af cash cs).U ((dh P (D cash)).getD k 0) (f ((dh P (D cash)).getD k 0))):=by
 have hlen:(dh P (D cash)).length<=6:=by
  have:=p2 (λi=>decide (P i)) (eM (D cash));rw[td] at this;have:=R.jV;unfold dh;omega
 have E3:dh P (af cash cs).n=dh P (D cash):=rfl;have ani:=aE.good.amX;have uS:=aE.good.small;rw[E3] at ani uS;obtain⟨bk,F,G,ab⟩:=amU uS (acx R aE.ph _ (λk I=>⟨(zn I).2,(zn I).1⟩) λi j O ae=>acz O ae) ani;exact⟨bk,F,⟨_,by omega,G⟩,ab⟩
def UU {k:Nat}(I:P k)(i:Nat):e0 54 ((af cash cs).W f k i)/\eV (jq cs k (f k)) ((af cash cs).W f k i):=by
 have e:=am4 R aE.ph I i;have ay:=PU R aE.ph I;have F:=R.E8 k (f k);have G:=R.sum λc=>c.2.1=(i:Int)/\c.1=(k:Int)/\c.2.2.1=(f k:Int)
 obtain⟨f1,f2⟩:=EZ (q:=(af cash cs).W f k i) (v:=qU cs f k i) (d:=(jq cs k (f k):Int)) (by omega) (by rw[<-e,oe,xR]);rw[m5] at f2;refine⟨⟨eR f1 (by unfold qU;omega),eR f2 (by omega)⟩,qU cs f k i,by rw[<-e,xR]⟩
def aCY {i t:Nat}(O:i<D cash)(b0:t<=(dh P (D cash)).length):
  e0 708 ((af cash cs).st f i+bR t λk=>(af cash cs).W f ((dh P (D cash)).getD k 0) i*((af cash cs).e5 f P ((dh P (D cash)).getD k 0)-(af cash cs).U ((dh P (D cash)).getD k 0) (f ((dh P (D cash)).getD k 0)))) /\
  (∀k,k<(dh P (D cash)).length->e0 438 ((af cash cs).W f ((dh P (D cash)).getD k 0) i*((af cash cs).e5 f P ((dh P (D cash)).getD k 0)-(af cash cs).U ((dh P (D cash)).getD k 0) (f ((dh P (D cash)).getD k 0))))) /\
  ∀k,k<(dh P (D cash)).length->e0 384 ((af cash cs).e5 f P ((dh P (D cash)).getD k 0)-(af cash cs).U ((dh P (D cash)).getD k 0) (f ((dh P (D cash)).getD k 0))):=by
 have hlen:(dh P (D cash)).length<=6:=by
  have:=p2 (λi=>decide (P i)) (eM (D cash));rw[td] at this;have:=R.jV;unfold dh;omega
 obtain⟨bk,dg,⟨a,gD,bU⟩,iA⟩:=aCX R aE;have gQ:∀k,k<(dh P (D cash)).length->(dh P (D cash)).getD k 0<D cash/\P ((dh P (D cash)).getD k 0):=λk I=>zn I;have UW:=aE.good.amY (d:=af cash cs) O;have E3:dh P (af cash cs).n=dh P (D cash):=rfl;rw[E3] at UW;generalize aPT:dh P (D cash)=p at *
 have anj:∀k,k<(D p)->0<=(af cash cs).e5 f P (p.getD k 0)-(af cash cs).U (p.getD k 0) (f (p.getD k 0)):=λk I=>by
  have:=aE.gt _ (gQ k I).2;grind
 have aCZ:∀k,k<(D p)->(af cash cs).e5 f P (p.getD k 0)-(af cash cs).U (p.getD k 0) (f (p.getD k 0))<=((2^54:Nat):Rat):=λk I=>by
  have F:=(UT R aE (gQ k I).1).2;have G:=aE.ok.aBG (p.getD k 0) (f (p.getD k 0));grind
 have aC0:0<jo (D p) λk=>jq cs (p.getD k 0) (f (p.getD k 0)):=ab2 λk I=>PU R aE.ph (gQ k I).2;obtain⟨eZ,gx⟩:∃eZ,eZ=324:=⟨_,rfl⟩;have ia:(jo (D p) λk=>jq cs (p.getD k 0) (f (p.getD k 0)))<=2^eZ:=acu (e:=eZ) (λk _=>R.E8 _ _) (by omega);have da:=HP R.right f i;have UX:=R.steady f i;have acC:0<=(af cash cs).st f i:=by rw[<-da];exact_mod_cast UX.1
 have X:=(UT R aE O).2;rw[UW] at X
 have PW:(jo (D p) λk=>jq cs (p.getD k 0) (f (p.getD k 0)))*bk<=2^(eZ+a):=by
  rw[AS];exact pj ia bU
 have aC1:=aCU (T:=λk=>(af cash cs).W f (p.getD k 0) i*((af cash cs).e5 f P (p.getD k 0)-(af cash cs).U (p.getD k 0) (f (p.getD k 0)))) (ab4 aC0 dg) PW acC (by rw[<-da];exact eV.int _ _) (λk I=>u1 (aE.ok.aCS f _ _) (anj k I)) (λk I=>((UU R aE (gQ k I).2 i).2.of_dvd (ab6 (cr:=λk=>jq cs (p.getD k 0) (f (p.getD k 0))) I)).mul (iA k I)) X b0;have hex:∀k,k<(D p)->e0 384 ((af cash cs).e5 f P (p.getD k 0)-(af cash cs).U (p.getD k 0) (f (p.getD k 0))):=λk I=>((iA k I).sz dg bU (anj k I) (aCZ k I)).mono (by omega);exact⟨aC1.1.mono (by omega),λk I=>(E1 (UU R aE (gQ k I).2 i).1 (hex k I)).mono (by omega),hex⟩
end
end Go.Mini
