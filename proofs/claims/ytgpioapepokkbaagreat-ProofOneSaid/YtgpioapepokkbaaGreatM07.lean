/- A part of the proof. -/
import Derived.Shelf.SortM.Plain
import Derived.Shelf.SortM.SortNone
import Derived.Test.YtgpioapepokkbaaGreatProg
import Derived.KernelRfl
import Derived.Test.YtgpioapepokkbaaGreatM06
set_option linter.unusedSimpArgs false
set_option linter.unusedVariables false
set_option maxRecDepth 100000
set_option maxHeartbeats 4000000
noncomputable section
open Bool renaming and_eq_true->ec,not_eq_true'->pj,not_false->dD,not_true->c8,or_eq_false_iff->M7
open Classical renaming byContradiction->kn
open Decidable renaming em->dA
open List renaming all_eq_true->jc,append_nil->fJ,drop->gI,eq_nil_of_length_eq_zero->qs,ext_getElem?->o4,flatten_append->Hz,flatten_cons->jC,getD_eq_getElem?_getD->en,getElem?_cons_succ->yO,getElem?_cons_zero->u0,getElem?_drop->kU,getElem?_eq_getElem->bx,getElem?_eq_none->ke,getElem?_eq_some_iff->dz,getElem?_map->bq,getElem_mem->nc,getElem_take->I2,length->D,length_append->fE,length_map->ak,length_take->fR,map_congr_left->jM,map_cons->eE,map_id->am5,map_map->lo,map_nil->c1,map_take->Ca,mem_filter->rP,mem_map->dS,mem_map_of_mem->pt,mem_of_getElem?->ep,mem_range->gV,pairwise_iff_getElem->am0,replicate->dC,replicate_succ->pG,set_cons_zero->rJ,take->gq,take_add_one->g1,take_length->k3,take_of_length_le->dt
open List.cons renaming injEq->bb
open Nat renaming add_assoc->qn,le_of_ble_eq_true->xL,le_refl->bW,mul_one->cK,one_mul->wg,sub_zero->Ap,zero_le->fg
open Option renaming getD_some->FQ,map_eq_some_iff->dR,map_some->ll
open Option.some renaming inj->mj,injEq->cj
open Rat renaming mul_lt_mul_of_pos_left->ani
namespace Go.Mini
open Go
def ab6:=cp R3 λ(l,ai)=>cV (e6 l/\e6 ai) (.same (.bool (Ce l ai)))
@[go_sem] theorem amS (l:List a1)(ai:List a1)(G:e6 l/\e6 ai):ab6 [.Y (l.map aH),.Y (ai.map aH)]=some (.same (.bool (Ce l ai))):=(cA alN (l,ai)).trans (cY G _)
theorem aD2 (T:bh)(xH:T TU=aV XZ)(l:List a1)(ai:List a1)(G:e6 l/\e6 ai):WP T Zx (.same (.bool (Ce l ai))) [.J (.Y (l.map aH)),.J (.Y (ai.map aH))]:=by
 refine cB ?_;simp only[Zx];obtain⟨⟨ck,NG⟩,cq,S9⟩:=G
 by_cases aq:(D l)=D ai
 ·have aA:(((D l:Nat):Int)==((D ai:Nat):Int))=true:=by simp;omega
  simp only[go_sem,go_sem_proc,xH,ak,aA,c8,bne];refine dv [0,1] [] (λ(i:Nat) tm mem=>i<=D l/\l.take i=ai.take i/\tm 5=.J (.int .i64 i)) (λi=>D l-i) 0 (by refine⟨by omega,by simp,rfl⟩) ?_;intro vs ms aT aR;simp only[go_sem,go_sem_proc,xH,ak] at aT aR;subst aT aR;rintro i tm mem Q hm ⟨M,aF,bk⟩;simp only[go_sem,go_sem_proc,xH,bb] at Q;obtain⟨al,F⟩:=Q;rcases dA (i<D l) with ay|b9
  ·obtain⟨⟨⟨a,b⟩,⟨c,e⟩⟩,O⟩:∃f,l[i]?=some f:=⟨_,bx ay⟩;obtain⟨⟨⟨jJ,ek⟩,⟨c',e'⟩⟩,ar⟩:∃f,ai[i]?=some f:=⟨_,bx (by omega)⟩;obtain⟨rV,py⟩:=NG _ (ep O);obtain⟨vS,vT⟩:=S9 _ (ep ar);dsimp only at rV py vS vT;have d1:decide ((i:Int)<(D l:Int))=true:=dn;have b4:=e9 (i:=i) (by omega);rcases U:Hf ((a,b),(c,e)) ((jJ,ek),(c',e'))
   ·have ab:Ce l ai=false:=by
     refine j9 λh=>of_decide_eq_false U ?_;rw[h,ar] at O;exact (mj O).symm
    rw[ab];simp only[go_sem,go_sem_proc,xH,al,F,bk,O,ar,d1,b4,rV,py,vS,vT,U,aH,ak,bq];repeat' (first|refine aw ?_ ?_|fail)<;>intro h<;>simp only[h,go_sem,go_sem_proc,xH,al,F,bk,O,ar,d1,b4,rV,py,vS,vT,U,aH,ak,bq]
   ·simp only[go_sem,go_sem_proc,xH,al,F,bk,O,ar,d1,b4,rV,py,vS,vT,U,aH,ak,bq];repeat' (first|refine aw ?_ ?_|fail)<;>intro h<;>simp only[h,go_sem,go_sem_proc,xH,al,F,bk,O,ar,d1,b4,rV,py,vS,vT,U,aH,ak,bq]
    exact⟨i+1,by omega,by omega,by rw[g1,g1,O,ar,aF,of_decide_eq_true U],rfl⟩
  ·have d1:decide ((i:Int)<(D l:Int))=false:=dk
   have ab:Ce l ai=true:=by
    refine iw ?_;rw[dt (by omega),dt (by omega)] at aF;exact aF
   rw[ab];simp only[go_sem,go_sem_proc,xH,al,F,bk,d1,ak];repeat' (first|refine aw ?_ ?_|fail)<;>intro h<;>simp only[h,go_sem,go_sem_proc,xH,al,F,bk,d1,ak]
 ·have aA:(((D l:Nat):Int)==((D ai:Nat):Int))=false:=by simp;omega
  have ab:Ce l ai=false:=j9 λh=>aq (by rw[h]);rw[ab];simp only[go_sem,go_sem_proc,xH,ak,aA,dD,bne];repeat' (first|refine aw ?_ ?_|fail)<;>intro h<;>simp only[h,go_sem,go_sem_proc,xH,ak,aA,dD,bne]
theorem aD3 {x:Rat}(h:dm x)(aF:pU (av x) 8=true):dT 460 x:=by
 have:=aB7 (d:=8) (EC h) aF;rw[zW] at this;exact this.mono (by omega)
theorem aD4 {x:List Data}(h:Fits [.Y (.st [.st [.int .i64,.Y (.int .i64)],.st [.int .i64,.Y (.int .i64)]]),.Y (.st [.st [.int .i64,.Y (.int .i64)],.st [.int .i64,.Y (.int .i64)]]),.Y (.Y (.int .i64))] x):∃hv pv fl,x=iI hv pv fl:=by
 simp only[Fits] at h;obtain⟨_,_,rfl,F,_,_,rfl,I,_,_,rfl,af,rfl⟩:=h;unfold Fit at F I af;obtain⟨aL2,rfl,-,cD⟩:=F;obtain⟨agb,rfl,-,cf⟩:=I;obtain⟨aL3,rfl,-,gS⟩:=af;obtain⟨hv,rfl⟩:=agc cD;obtain⟨pv,rfl⟩:=agc cf
 obtain⟨fl,rfl,-⟩:=Kc (e:=nz) (good:=λ_=>True) λx O=>by
  have:=gS x O;unfold Fit at this;obtain⟨es,rfl,-,g⟩:=this;obtain⟨l,rfl⟩:=PH g;exact⟨l,rfl,trivial⟩
 exact⟨hv,pv,fl,rfl⟩
end Go.Mini
namespace Go.Mini
open Go
variable {P:Program} {ρ:Shelf.Ren} {A:Nat->Prop} {w:World} {B:Lay} {mem:Mem}
theorem aD5 (w:World)(n dd:Nat)(d:Array Int)(os:Array Obj){vs:Array Value}{T:TypeId}(h:w.heap[dd]?=some (.cells vs T (0,0))):
  (Sort.grow (Sort.putRow (Value.int .i64) (Sort.ahead w n) dd 0 d) os).heap[dd]?=some (.cells (Sort.putCells (Value.int .i64) 0 d vs) T (0,0)):=by
 have ay:=(Array.getElem?_eq_some_iff.1 h).1;unfold Sort.grow Sort.putRow Sort.mapBlock Sort.ahead;dsimp only;rw[Array.getElem?_append_left (by rw[Array.size_modify];exact ay),Array.getElem?_modify,ad rfl,h]
 rfl
theorem amT (w:World)(n dd:Nat)(d:Array Int)(os:Array Obj){b:Nat}(ah:b<w.heap.size)(h:b≠dd):
  (Sort.grow (Sort.putRow (Value.int .i64) (Sort.ahead w n) dd 0 d) os).heap[b]?=w.heap[b]?:=by
 unfold Sort.grow Sort.putRow Sort.mapBlock Sort.ahead;dsimp only;rw[Array.getElem?_append_left (by rw[Array.size_modify];exact ah),Array.getElem?_modify,ae (λe=>h e.symm)]
theorem ab7 (w:World)(n dd:Nat)(d:Array Int)(os:Array Obj):w.heap.size<=(Sort.grow (Sort.putRow (Value.int .i64) (Sort.ahead w n) dd 0 d) os).heap.size:=by
 unfold Sort.grow Sort.putRow Sort.mapBlock Sort.ahead;dsimp only;rw[Array.size_append,Array.size_modify];omega
def I0 (l:List Int):List Int:=l.mergeSort λx y=>decide (x<=y)
theorem aD6 (L:Proofs.SlLaysM.n5 P ρ){f:FuncId}(aF:ρ.f 5=f){k g:Nat}{l:List Int}(aq:(D l)<=1000000)(hm:mem k=some (g,l.map λx=>R.J (.int .i64 x))){vs:List Value}(bS:fm A w B mem)
  (hv:dp w (b7 A B) B [.ref k g 1 0 (D l)] vs):NL P f vs A w B mem (.rel λm mem'=>m=.cI []/\mem'=aZ mem k g ((I0 l).map λx=>R.J (.int .i64 x))):=by
 obtain⟨hlen,hv⟩:=hv
 obtain⟨v,rfl⟩:∃v,vs=[v]:=by
  cases vs with
  |nil=>cases hlen
  |cons v r =>
   cases r with
   |nil=>exact⟨v,rfl⟩
   |cons _ _=>simp at hlen
 have al:=hv 0 _ v rfl rfl
 cases al with
 | @ref _ _ _ _ _ e _ he bc qp =>
 obtain⟨e',gf,A9,-,e7⟩:=bS.dd k g _ hm;obtain rfl:e=e':=mj (he.symm.trans gf);obtain⟨a,cap,rfl,F,I,af⟩:=qp;rcases af with rfl|⟨b,rfl,aM⟩
 ·have:l=[]:=qs (by omega);subst this;show Calls P f _ w _;rw[<-aF];refine Calls.mono (Proofs.AnyM.slices_Sort_int_none L a 0 w) λaA w1 h=>?_;obtain⟨rfl,rfl⟩:=h;refine⟨_,.cI [],mem,B,rfl,eB.still bS (Fr.refl _ _),.cI (vs:=[]) rfl λi d v h=>(by cases h),rfl,?_⟩
  funext j
  by_cases aj:j=k
  ·subst aj;simp[aZ,hm,I0]
  ·simp[aZ,aj]
 obtain⟨bk,bI⟩:=aM A9.symm;obtain⟨cs,T,aQ,eW,hle,ab⟩:=e7 b bk;have Dh:=(Array.getElem?_eq_some_iff.1 aQ).1
 have b8:∀(i:Nat) (x:Int),l[i]?=some x->cs[i]?=some (.int .i64 x):=λi x O=>by
  obtain⟨u,hu,qp⟩:=ab i (.J (.int .i64 x)) (by rw[bq,O];rfl)
  cases qp with
  |J aa=>cases aa;exact hu
 have aaH:Sort.Holds (Value.int .i64) w b 0 l.toArray:=λj aj=>by
  have ib:j<D l:=by simpa using aj
  refine⟨?_,frozen_of_row w b _ cs T aQ⟩;rw[cell_of_row w b _ cs T (0,0) aQ,Nat.zero_add,b8 j _ (bx ib)];simp[ib]
 show Calls P f _ w _;rw[<-aF];refine Calls.mono (Proofs.AnyM.slices_Sort_int L b 0 cap l w aaH Dh (by omega)) λaA w1 h=>?_;obtain⟨rfl,n,os,hw⟩:=h;have cJ:(I0 l).length=D l:=List.length_mergeSort l;have hw:w1=Sort.grow (Sort.putRow (Value.int .i64) (Sort.ahead w n) b 0 (I0 l).toArray) os:=hw;generalize I0 l=s at *;subst hw;have ab8:∀ek,e.dd=some ek->w.heap.size<=ek\/∃aC,B k=some aC/\aC.dd=some ek:=λek hX => .inr ⟨e,he,hX⟩
 have hold:∀ek,ek<w.heap.size->(∀aC,B k=some aC->aC.dd≠some ek)->(Sort.grow (Sort.putRow (Value.int .i64) (Sort.ahead w n) b 0 s.toArray) os).heap[ek]?=w.heap[ek]?:=λek hX bC =>
  amT w n b _ os hX λO=>bC e he (by rw[bk,O])
 have M6:∀aC,B k=some aC->e=aC\/aC.g<e.g:=λaC h => .inl (mj (he.symm.trans h));refine⟨_,.cI [],aZ mem k e.g (s.map λx=>R.J (.int .i64 x)),gm B k e,rfl,⟨?_,Trans.change (ab7 w n b _ os) hold M6 ab8,⟨rfl,rfl,rfl,ab7 w n b _ os,λek hX bJ=>amT w n b _ os hX λO=>bJ ⟨k,e,he,by rw[bk,O]⟩⟩,Ns ab8⟩,.cI (vs:=[]) rfl λi d v h=>(by cases h),rfl,by rw[A9]⟩
 refine bS.SQ (e':=e) (ab7 w n b _ os) hold M6 ab8 (λh=>by rw[bk] at h;cases h) λek hX=>?_;obtain rfl:b=ek:=mj (bk.symm.trans hX);have jI:(Sort.putCells (Value.int .i64) 0 s.toArray cs).size=cs.size:=by unfold Sort.putCells;simp
 refine⟨_,T,aD5 w n b _ os aQ,by rw[jI];exact eW,by rw[jI,ak,cJ];simpa using hle,λi m M=>?_⟩
 rw[bq,dR] at M;obtain⟨x,O,rfl⟩:=M;have hQ:i<D s:=(dz.1 O).1;refine⟨.int .i64 x,?_,.J .int⟩;unfold Sort.putCells;rw[Array.getElem?_mapIdx];have CN:i<cs.size:=by rw[ak] at hle;omega
 rw[Array.getElem?_eq_getElem CN,ll,ad ⟨fg _,by simpa using hQ⟩]
 have ar:=(dz.1 O).2;simp[hQ,ar]
end Go.Mini
namespace Go.Mini
open Go
def Fc (a:CS)(mem:Mem):Prop:=mem 289040=some (a.g,a.l.map cd)/\D a.l<=1000
theorem amU {a b:CS}{mem:Mem}(F:Fc a mem)(I:Fc b mem):a=b:=by
 have:=F.1.symm.trans I.1;simp only[cj,Prod.mk.injEq] at this;obtain⟨l,g⟩:=a;obtain⟨fr,c6⟩:=b;dsimp only at this;rw[this.1,QT this.2]
def Na:List R->Mem->Option (R->Mem->Prop):=xc (λ(a:CS) args mem=>args=[.ref 289040 a.g 1 0 (D a.l)]/\Fc a mem) ami
theorem aD7 (a:CS)(mem:Mem)(h:Fc a mem):Na [.ref 289040 a.g 1 0 (D a.l)] mem=some (ami a mem):=by
 unfold Na;exact X4 (a:=a) (λa b args mem F I=>amU F.2 I.2) ⟨rfl,h⟩
theorem aD8 {P:Program}{ρ:Shelf.Ren}(L:Proofs.SlLaysM.n5 P ρ){f:FuncId}(aF:ρ.f 5=f)(ab:Real P f):k7 P f (qP Na):=by
 refine⟨ab,λargs mem oB hq A w B vs bS hv=>?_⟩;unfold qP at hq;rw[dR] at hq;obtain⟨cg,eS,rfl⟩:=hq;obtain⟨a,⟨rfl,hm,aq⟩,rfl⟩:=Lr eS;have h:=aD6 L aF (by omega) hm bS hv;refine Calls.mono h λe aP he=>?_;obtain⟨v,r,mem',bt,F,I,af,aM,bk⟩:=he;refine⟨v,r,mem',bt,F,I,af,aM,I0 a.l,List.mergeSort_perm _ _,?_,bk⟩;have:=List.pairwise_mergeSort (le:=λx y:Int=>decide (x<=y)) (λa b c F I=>by simp at F I ⊢;omega) (λa b=>by simp;omega) a.l;exact this.imp λh=>by simpa using h
def Su:List R->Mem->Option (Data×Key):=Me (λ(a:CS) args mem=>args=[.ref 289040 a.g 1 0 (D a.l)]/\Fc a mem) (λa=>(.Y ((ku a.l).map ag),289040))
theorem aD9 (a:CS)(mem:Mem)(h:Fc a mem):Su [.ref 289040 a.g 1 0 (D a.l)] mem=some (.Y ((ku a.l).map ag),289040):=by
 unfold Su;exact axx (a:=a) (λa b args mem F I=>by rw[amU F.2 I.2]) ⟨rfl,h⟩
theorem aEa (T:bh)(a:CS)(mem:Mem)(aN:Fc a mem):
  wp T Ow.body (pV Ow.res λm mem'=>cz 6 emp m=some (.Y ((ku a.l).map ag))/\∀j,¬ False->mem' j=aZ mem 289040 (bU mem 289040) [] j) ⟨lf [.ref 289040 a.g 1 0 (D a.l)],mem⟩:=by
 obtain⟨ml,aK⟩:=aN;obtain⟨l,g⟩:=a;dsimp only at ml aK ⊢
 have aF:∀(K:bd->Prop) (st:bd),Br K st 2 289040 g 1 0 (D l) (some (g,l.map cd))=K ⟨e3 st.tm 2 (.J (.Y (l.map ag))),kill st.mem 289040⟩:=λK st=>by
  have:=aml (K:=K) (st:=st) 2 289040 g (D l) l [] rfl rfl;rwa [fJ] at this
 refine tn ?_;simp only[Ow];rcases d0:decide ((D l:Int)<2)
 case true =>
  have G:ku l=l:=by
   have:=of_decide_eq_true d0
   match l,this with
   | [],_=>rfl
   | [x],_=>rfl
   |x::y::r,h=>simp at h;omega
  rw[G];simp only[go_sem,go_sem_proc,d0,ml,aF];repeat' (first|refine aw ?_ ?_|fail)<;>intro h<;>simp only[h,go_sem,go_sem_proc,d0,ml,aF]
  refine⟨_,rfl,?_,λj _=>?_⟩<;>first|rfl|trivial
 have uP:2<=D l:=by have:=of_decide_eq_false d0;omega
 simp only[go_sem,go_sem_proc,d0]
 refine dv [0] [] (λ(k:Nat) tm m=>1<=k/\k<=D l/\tm 3=.J (.int .i64 k)/\m=mem/\ku (l.take k)=l.take k) (λk=>D l-k) 1 (by
  refine⟨by omega,by omega,rfl,rfl,?_⟩
  match l,uP with
  |x::r,_=>rfl) ?_
 intro vs ms aT aR;simp only[go_sem,go_sem_proc] at aT aR;subst aT aR;rintro k tm m Q-⟨jB,gy,bZ,hm,G⟩;simp only[go_sem,go_sem_proc,bb] at Q;have b0:=Q;subst hm;rcases dA (k<D l) with ay|b9
 ·have d1:decide ((k:Int)<(D l:Int))=true:=dn;have b4:=e9 (i:=k) (by omega);have vz:IntKind.i64.wrap ((k:Int)-1)=((k-1:Nat):Int):=by rw[fi _];omega
  obtain⟨x,O⟩:∃x,l[k]?=some x:=⟨_,bx ay⟩;obtain⟨y,ar⟩:∃y,l[k-1]?=some y:=⟨_,bx (by omega)⟩;have t1:gq 1 (gI k (l.map cd))=[.J (.int .i64 x)]:=Az (f:=cd) O;have t2:gq 1 (gI (k-1) (l.map cd))=[.J (.int .i64 y)]:=Az (f:=cd) ar;have ck:(k+1<=D l)=True:=eq_true (by omega);have rf:(k-1+1<=D l)=True:=eq_true (by omega);have tg:(k<D l)=True:=eq_true ay;have mm:(k-1<D l)=True:=eq_true (by omega);have mh:(l.map cd).length=D l:=ak _;rcases q:(x==y)
  ·have bC:x≠y:=by simpa using q
   have lN:=aCr (by omega) ay ar O bC G;generalize eS:l.map cd=cg at *;simp only[go_sem,go_sem_proc,b0,bZ,ml,t1,t2,d1,b4,vz,ck,rf,tg,mm,mh,q,cK];repeat' (first|refine aw ?_ ?_|fail)<;>intro h<;>simp only[h,go_sem,go_sem_proc,b0,bZ,ml,t1,t2,d1,b4,vz,ck,rf,tg,mm,mh,q,cK]
   exact⟨k+1,by omega,by omega,by omega,rfl,lN⟩
  ·have mn:x=y:=by simpa using q
   have aEb:ku (l.take (k+1))=l.take k:=by rw[abo (by omega) ar O,ad mn,fJ,G]
   have hs:(k<=D l/\D l<=D l)=True:=eq_true ⟨by omega,bW _⟩
   simp only[go_sem,go_sem_proc,b0,bZ,ml,t1,t2,d1,vz,ck,rf,tg,mm,mh,hs,q,cK]
   refine dv [0,4] [] (λ((d,kk,row):Nat×Nat×List Int) tm m'=>1<=d/\k+d<=D l/\kk<k+d/\D row=D l/\row.take kk=ku (l.take (k+d))/\row.drop (k+d-1)=l.drop (k+d-1)/\tm 5=.J (.int .i64 d)/\tm 3=.J (.int .i64 kk)/\m'=aZ m 289040 g (row.map cd)) (λ(d,_,_)=>D l-(k+d)) (1,k,l) (by
    refine⟨bW _,by omega,by omega,rfl,aEb.symm,rfl,rfl,?_,?_⟩
    ·simp only[e4,Nat.reduceEqDiff,if_false];exact bZ
    ·funext j
     by_cases aj:j=289040
     ·subst aj;rw[iH];exact ml
     ·rw[dr aj]) ?_
   intro vs ms aT aR;simp only[go_sem,go_sem_proc,b0] at aT aR;subst aT aR;clear b0 bZ;rintro⟨d,kk,row⟩ tm m' Q-⟨jQ,mw,C6,bX,g2,qE,cL,bZ,nT⟩;simp only[go_sem,go_sem_proc,bb] at Q;obtain⟨b0,dq⟩:=Q;subst nT
   have b8:∀j,k+d-1<=j->row[j]?=l[j]?:=λj aj=>by
    have F:row[j]?=(row.drop (k+d-1))[j-(k+d-1)]?:=by rw[kU];congr 1;omega
    have I:l[j]?=(l.drop (k+d-1))[j-(k+d-1)]?:=by rw[kU];congr 1;omega
    rw[F,I,qE]
   rcases dA (k+d<D l) with kz|aL4
   ·have d2:decide ((d:Int)<((D l-k:Nat):Int))=true:=dn;have AX:=e9 (i:=d) (by omega);have Sv:IntKind.i64.wrap ((d:Int)-1)=((d-1:Nat):Int):=by rw[fi _];omega
    have amV:=e9 (i:=kk) (by omega);obtain⟨a,iR⟩:∃x,l[k+d]?=some x:=⟨_,bx kz⟩;obtain⟨b,kD⟩:∃y,l[k+d-1]?=some y:=⟨_,bx (by omega)⟩;have Rp:=(b8 (k+d) (by omega)).trans iR;have aEc:=(b8 (k+d-1) (bW _)).trans kD;have s1:gq 1 (gI (k+d) (row.map cd))=[.J (.int .i64 a)]:=Az (f:=cd) Rp
    have s2:gq 1 (gI (k+(d-1)) (row.map cd))=[.J (.int .i64 b)]:=by
     rw[show k+(d-1)=k+d-1 by omega];exact Az (f:=cd) aEc
    have dy:=abo (by omega) kD iR;have cD:(d<D l-k)=True:=eq_true (by omega);have cf:(d-1<D l-k)=True:=eq_true (by omega);have gS:(k+d+1<=D l)=True:=eq_true (by omega);have jY:(k+(d-1)+1<=D l)=True:=eq_true (by omega);have amW:(kk<D l)=True:=eq_true (by omega);have pz:(kk+1<=D l)=True:=eq_true (by omega);have qZ:(row.map cd).length=D l:=by rw[ak,bX]
    rcases fu:(a==b)
    ·have bC:a≠b:=by simpa using fu
     rw[ae bC,<-g2] at dy
     have mH:gq kk (row.map cd)++[R.J (.int .i64 a)]++gI (kk+1) (row.map cd)=(row.set kk a).map cd:=by
      rw[List.set_eq_take_append_cons_drop,ad (by omega),List.map_append,eE,Ca,List.map_drop,List.append_assoc];rfl
     generalize M4:row.map cd=Fa at *;simp only[go_sem,go_sem_proc,b0,bZ,dq,cL,s1,s2,d2,AX,Sv,amV,cD,cf,gS,jY,amW,pz,qZ,mH,fu,bne,dD,cK];repeat' (first|refine aw ?_ ?_|fail)<;>intro h<;>simp only[h,go_sem,go_sem_proc,b0,bZ,dq,cL,s1,s2,d2,AX,Sv,amV,cD,cf,gS,jY,amW,pz,qZ,mH,fu,bne,dD,cK]
     refine⟨(d+1,kk+1,row.set kk a),by dsimp only;omega,by dsimp only;omega,by dsimp only;omega,by dsimp only;omega,by dsimp only;rw[List.length_set,bX],?_,?_,rfl,rfl,?_⟩
     ·dsimp only;rw[<-qn,dy,g1,List.take_set_of_le (bW _),List.getElem?_set_self (by omega)];rfl
     ·dsimp only;rw[List.drop_set_of_lt (by omega)];apply o4;intro j;rw[kU,kU];exact b8 _ (by omega)
     ·rw[abn]
    ·have he:a=b:=by simpa using fu
     rw[ad he,fJ,<-g2] at dy;generalize M4:row.map cd=Fa at *;simp only[go_sem,go_sem_proc,b0,bZ,dq,cL,s1,s2,d2,AX,Sv,cD,cf,gS,jY,qZ,fu,bne,c8,cK];repeat' (first|refine aw ?_ ?_|fail)<;>intro h<;>simp only[h,go_sem,go_sem_proc,b0,bZ,dq,cL,s1,s2,d2,AX,Sv,cD,cf,gS,jY,qZ,fu,bne,c8,cK]
     refine⟨(d+1,kk,row),by dsimp only;omega,by dsimp only;omega,by dsimp only;omega,by dsimp only;omega,bX,?_,?_,rfl,rfl,by rw[M4]⟩
     ·dsimp only;rw[<-qn,dy]
     ·dsimp only;apply o4;intro j;rw[kU,kU];exact b8 _ (by omega)
   ·have d2:decide ((d:Int)<((D l-k:Nat):Int))=false:=dk;have aEd:k+d=D l:=by omega
    rw[aEd,k3] at g2;have kj:(kk<=D l/\D l<=D l)=True:=eq_true ⟨by omega,bW _⟩
    have sX:(kk+(D l-kk)<=D l)=True:=eq_true (by omega);have amX:(kk<=D l)=True:=eq_true (by omega);have qZ:(row.map cd).length=D l:=by rw[ak,bX]
    have DO:gq kk (row.map cd)=(ku l).map cd:=by rw[<-Ca,g2]
    have ew:(ku l).length=kk:=by rw[<-g2,fR];omega
    have zV:gI (D l) (row.map cd)=[]:=List.drop_eq_nil_of_le (by rw[qZ];exact bW _);generalize row.map cd=Fa at *;have amY:(D l<=D l)=True:=eq_true (bW _)
    have qC:∀n:Nat,(dC n [R.J (.int .i64 0)]).flatten=dC n (R.J (.int .i64 0)):=λn=>by
     induction n with
     |zero=>rfl
     |succ n ax=>rw[pG,jC,ax,pG];rfl
    have o2:gq kk Fa++(dC (D l-kk) [R.J (.int .i64 0)]).flatten++gI (kk+(dC (D l-kk) [R.J (.int .i64 0)]).flatten.length) Fa=(ku l).map cd++(dC (D l-kk) [R.J (.int .i64 0)]).flatten:=by
     rw[qC,List.length_replicate,show kk+(D l-kk)=(D l) by omega,zV,DO,fJ]
    have amZ:=λ(K:bd->Prop) (st:bd)=>aml (K:=K) (st:=st) 2 289040 g kk (ku l) (dC (D l-kk) [R.J (.int .i64 0)]).flatten (by rw[qC];unfold nM;rw[jc];intro x O;rw[(List.mem_replicate.1 O).2];rfl) ew.symm;simp only[go_sem,go_sem_proc,b0,bZ,dq,cL,d2,sX,amX,amY,qZ,o2,amZ,show (0<=kk)=True from eq_true (fg _),Ap,cK,wg];repeat' (first|refine aw ?_ ?_|fail)<;>intro h<;>simp only[h,go_sem,go_sem_proc,b0,bZ,dq,cL,d2,sX,amX,amY,qZ,o2,amZ,show (0<=kk)=True from eq_true (fg _),Ap,cK,wg]
    exact⟨_,rfl,rfl,λj _=>by by_cases h:j=289040<;>simp[h]⟩
 ·have d1:decide ((k:Int)<(D l:Int))=false:=dk;obtain rfl:k=D l:=by omega
  rw[k3] at G;rw[G];simp only[go_sem,go_sem_proc,b0,bZ,ml,d1,aF];repeat' (first|refine aw ?_ ?_|fail)<;>intro h<;>simp only[h,go_sem,go_sem_proc,b0,bZ,ml,d1,aF]
  refine⟨_,rfl,?_,λj _=>?_⟩<;>first|rfl|trivial
def I1 (r:List Int):Bool:=decide (r≠[]/\r.Pairwise (·<·))
def pC (cs:List ao)(ps:List Rat)(n:Nat)(fl:List (List Int)):Bool:=fl.all I1&&(fl.flatten.all (λx=>decide (x∈gw cs ps n))&&(gw cs ps n).all λx=>decide (x∈fl.flatten))
theorem aEe {cs:List ao}{ps:List Rat}{n:Nat}{fl:List (List Int)}{i:Nat}{r:List Int}(h:fl[i]?=some r)(ab:I1 r=false):pC cs ps n fl=false:=by
 unfold pC;rw[Sr h ab,Bool.false_and]
theorem aEf {r:List Int}{k:Nat}{x y:Int}(al:0<k)(O:r[k]?=some x)(ar:r[k-1]?=some y)(h:x<=y):I1 r=false:=by
 refine j9 fun⟨_,aE⟩=>?_;obtain⟨F,rfl⟩:=dz.1 O;obtain⟨I,rfl⟩:=dz.1 ar;have:=am0.1 aE (k-1) k I F (by omega);omega
theorem aEg {r:List Int}{k:Nat}{x y:Int}(al:0<k)(O:r[k]?=some x)(ar:r[k-1]?=some y)(h:y<x)(aE:(r.take k).Pairwise (·<·)):(r.take (k+1)).Pairwise (·<·):=by
 have rM:=(dz.1 O).1;rw[am0] at aE ⊢;intro i j M aj ln;rw[fR] at M aj;rw[I2,I2]
 by_cases dW:j=k
 ·subst dW;obtain⟨_,rfl⟩:=dz.1 O;obtain⟨_,rfl⟩:=dz.1 ar
  by_cases Mk:i=j-1
  ·subst Mk;exact h
  ·have:=aE i (j-1) (by rw[fR];omega) (by rw[fR];omega) (by omega);rw[I2,I2] at this;omega
 ·have:=aE i j (by rw[fR];omega) (by rw[fR];omega) ln;rwa [I2,I2] at this
structure y4 (fl:List (List Int)):Prop where
 len:(D fl)<=1000
 names:(D fl.flatten)<=1000
def ab9:=cp MX λ(E,cs,hv,ps,fl)=>cV (j7 E cs ps/\y4 fl) (.same (.bool (pC cs ps (D E) fl)))
@[go_sem] theorem aEh (E:List Int)(cs:List ao)(hv:List a1)(ps:List Rat)(fl:List (List Int))(G:j7 E cs ps/\y4 fl):ab9 [.agg (eJ E cs hv (ps.map av) fl)]=some (.same (.bool (pC cs ps (D E) fl))):=(cA abv (E,cs,hv,ps,fl)).trans (cY G _)
theorem aEi (T:bh)(oW:T Us=qP Na)(oX:T Uu=Md Su)(j8:T DE=aV MY)(oY:T Ut=aV abj)(E:List Int)(cs:List ao)(hv:List a1)(ps:List Rat)(fl:List (List Int))(G:j7 E cs ps/\y4 fl):WP T WT (.same (.bool (pC cs ps (D E) fl))) [.J (.agg (eJ E cs hv (ps.map av) fl))]:=by
 refine cB ?_;simp only[WT];obtain⟨px,I3⟩:=G;have aK:=px.n;have jv:=abw E cs hv ps fl px;have JK:=Sg cs ps (D E);have gg:=λi r=>aEe (cs:=cs) (ps:=ps) (n:=D E) (fl:=fl) (i:=i) (r:=r);simp only[eJ] at jv;generalize ps.map av=yT at *;simp only[go_sem,go_sem_proc,oW,oX,j8,oY,eJ,ak];refine dv [1,10,11] [289001] (λ((i,g):Nat×Nat) tm m=>i<=D fl/\tm 12=.J (.int .i64 i)/\tm 3=.ref 289040 g 1 0 (fl.take i).flatten.length/\m 289040=some (g,bf ag (fl.take i).flatten)/\(fl.take i).all I1=true) (λ(i,_)=>D fl-i) (0,0) (by refine⟨by omega,rfl,rfl,rfl,rfl⟩) ?_;intro vs ms aT aR;simp only[go_sem,go_sem_proc,oW,oX,j8,oY,eJ,ak] at aT aR;subst aT aR;rintro⟨i,g⟩ tm m Q hm ⟨M,fA,bZ,q2,eZ⟩;simp only[go_sem,go_sem_proc,oW,oX,j8,oY,bb] at Q hm;obtain⟨aA,ej,hl⟩:=Q;rcases dA (i<D fl) with ay|b9
 ·have hlen:=I3.len;have d1:decide ((i:Int)<(D fl:Int))=true:=dn;have b4:=e9 (i:=i) (by omega);obtain⟨r,O⟩:∃r,fl[i]?=some r:=⟨_,bx ay⟩;have gg:=gg i r O;have g2:(fl.take (i+1)).flatten=(fl.take i).flatten++r:=by rw[g1,O,Option.toList_some,Hz];simp
  have am1:(fl.take i).flatten.length+D r<=1000:=by
   have F:fl.flatten=(fl.take (i+1)).flatten++(fl.drop (i+1)).flatten:=by rw[<-Hz,List.take_append_drop]
   have I:=I3.names;rw[F,g2,fE,fE] at I;omega
  simp only[go_sem,go_sem_proc,oW,oX,j8,oY,aA,bZ,ej,hl,fA,hm,O,d1,nz,ak,bq];refine dv [1,3,5,10,11,12,16,17] [289001,289040] (λ(k:Nat) tm m=>k<=D r/\tm 18=.J (.int .i64 k)/\(r.take k).Pairwise (·<·)) (λk=>D r-k) 0 (by refine⟨by omega,rfl,List.Pairwise.nil⟩) ?_;intro vs ms aT aR;simp only[go_sem,go_sem_proc,oW,oX,j8,oY,aA,bZ,ej,hl,fA,hm,q2,ak] at aT aR;subst aT aR;clear aA bZ ej hl fA hm q2;rintro k tm m Q hm ⟨C6,jz,aca⟩;simp only[go_sem,go_sem_proc,oW,oX,j8,oY,bb] at Q hm;obtain⟨aA,bZ,cL,ej,hl,fA,p0,j0⟩:=Q;obtain⟨dx,q2⟩:=hm;rcases dA (k<D r) with Yg|auE
  ·have d2:decide ((k:Int)<(D r:Int))=true:=dn;have vz:=e9 (i:=k) (by omega);obtain⟨x,AY⟩:∃x,r[k]?=some x:=⟨_,bx Yg⟩;rcases Nat.eq_zero_or_pos k with x7|x7
   ·have d3:decide ((k:Int)>0)=false:=dk;subst x7;simp only[go_sem,go_sem_proc,oW,oX,j8,oY,aA,bZ,cL,ej,hl,fA,p0,j0,jz,dx,q2,AY,d2,d3,vz,ag,ak,bq];repeat' (first|refine aw ?_ ?_|fail)<;>intro h<;>simp only[h,go_sem,go_sem_proc,oW,oX,j8,oY,aA,bZ,cL,ej,hl,fA,p0,j0,jz,dx,q2,AY,d2,d3,vz,ag,ak,bq]
    exact⟨1,by omega,by omega,rfl,by rw[g1,AY,List.take_zero];exact List.pairwise_singleton _ _⟩
   ·have d3:decide ((k:Int)>0)=true:=dn;have AX:IntKind.i64.wrap ((k:Int)-1)=((k-1:Nat):Int):=by rw[fi _];omega
    obtain⟨y,I4⟩:∃x,r[k-1]?=some x:=⟨_,bx (by omega)⟩;have jB:k-1<D r:=by omega
    rcases d4:decide (x<=y)
    ·have kz:y<x:=by have:=of_decide_eq_false d4;omega
     have aEj:=aEg x7 AY I4 kz aca;simp only[go_sem,go_sem_proc,oW,oX,j8,oY,aA,bZ,cL,ej,hl,fA,p0,j0,jz,dx,q2,AY,I4,d2,d3,d4,vz,AX,jB,ag,ak,bq];repeat' (first|refine aw ?_ ?_|fail)<;>intro h<;>simp only[h,go_sem,go_sem_proc,oW,oX,j8,oY,aA,bZ,cL,ej,hl,fA,p0,j0,jz,dx,q2,AY,I4,d2,d3,d4,vz,AX,jB,ag,ak,bq]
     exact⟨k+1,by omega,by omega,rfl,aEj⟩
    ·rw[gg (aEf x7 AY I4 (of_decide_eq_true d4))];simp only[go_sem,go_sem_proc,oW,oX,j8,oY,aA,bZ,cL,ej,hl,fA,p0,j0,jz,dx,q2,AY,I4,d2,d3,d4,vz,AX,jB,ag,ak,bq];repeat' (first|refine aw ?_ ?_|fail)<;>intro h<;>simp only[h,go_sem,go_sem_proc,oW,oX,j8,oY,aA,bZ,cL,ej,hl,fA,p0,j0,jz,dx,q2,AY,I4,d2,d3,d4,vz,AX,jB,ag,ak,bq]
  ·have d2:decide ((k:Int)<(D r:Int))=false:=dk;rw[dt (by omega)] at aca;rcases d5:((D r:Int)==0)
   ·have bC:r≠[]:=λh=>by rw[h] at d5;cases d5
    have aEk:I1 r=true:=iw ⟨bC,aca⟩
    have dL:mN 289040 g 1 (fl.take i).flatten.length 8 (D r) (bf ag r) (some (g,bf ag (fl.take i).flatten))=some (.ref 289040 (g+1) 1 0 ((fl.take i).flatten.length+D r),some (289040,g+1,bf ag (fl.take (i+1)).flatten)):=by
     have:=F6 hr u5 289040 g 8 (fl.take i).flatten r (by omega) (by omega);rw[<-g2] at this;exact this
    have am2:(r.map ag).flatten.map R.J=bf ag r:=rfl;simp only[go_sem,go_sem_proc,oW,oX,j8,oY,aA,bZ,cL,ej,hl,fA,p0,j0,jz,dx,q2,d2,d5,b4,dL,am2,KE,ak];repeat' (first|refine aw ?_ ?_|fail)<;>intro h<;>simp only[h,go_sem,go_sem_proc,oW,oX,j8,oY,aA,bZ,cL,ej,hl,fA,p0,j0,jz,dx,q2,d2,d5,b4,dL,am2,KE,ak]
    exact⟨(i+1,g+1),by dsimp only;omega,by dsimp only;omega,rfl,by rw[g2,fE],rfl,by rw[PQ O,eZ,aEk];rfl⟩
   ·have he:r=[]:=qs (by have:=eq_of_beq d5;omega);rw[gg (j9 λh=>h.1 he)];simp only[go_sem,go_sem_proc,oW,oX,j8,oY,aA,bZ,cL,ej,hl,fA,p0,j0,jz,dx,q2,d2,d5,ak];repeat' (first|refine aw ?_ ?_|fail)<;>intro h<;>simp only[h,go_sem,go_sem_proc,oW,oX,j8,oY,aA,bZ,cL,ej,hl,fA,p0,j0,jz,dx,q2,d2,d5,ak]
 ·have d1:decide ((i:Int)<(D fl:Int))=false:=dk;obtain rfl:i=D fl:=by omega
  rw[k3] at bZ q2 eZ;rw[<-Is] at q2;have fh:=aD7 ⟨fl.flatten,g⟩ m ⟨q2,I3.names⟩;dsimp only at fh;simp only[go_sem,go_sem_proc,oW,oX,j8,oY,aA,bZ,ej,hl,fA,hm,d1,fh];rintro Cd m' eS;obtain⟨Ei,s,aE,yD,nT⟩:=eS;dsimp only at aE nT;subst Ei nT;have am3:=aE.length_eq;have am1:=I3.names;have rr:=aD9 ⟨s,g⟩ (aZ emp 289040 g (s.map cd)) ⟨iH,by rw[am3];exact am1⟩
  dsimp only at rr;rw[am3] at rr;have iP:=aCq yD
  have heq:decide (ku s=gw cs ps (D E))=pC cs ps (D E) fl:=by
   unfold pC;rw[eZ,Bool.true_and,Bool.eq_iff_iff,decide_eq_true_iff,ec,jc,jc]
   constructor
   ·intro h;refine⟨λx O=>iw ?_,λx O=>iw ?_⟩
    ·rw[<-h,iP.2,aE.mem_iff];exact O
    ·rw[<-h,iP.2,aE.mem_iff] at O;exact O
   ·rintro⟨F,I⟩;refine amA iP.1 (aDm cs ps (D E)).1 λx=>?_;rw[iP.2,aE.mem_iff];exact⟨λO=>of_decide_eq_true (F x O),λO=>of_decide_eq_true (I x O)⟩
  have ew:(ku s).length<=D s:=by
   have:∀(l:List Int) (z:Int),(nI z l).length<=D l:=by
    intro l
    induction l with
    |nil=>intro z;simp[nI]
    |cons a r ax =>
     intro z;have F:=ax z;have I:=ax a;rw[nI]
     split<;>simp<;>omega
   cases s with
   |nil=>simp[ku]
   |cons a r=>have:=this r a;simp[ku];omega
  have acb:=aCi (ku s) (gw cs ps (D E)) ⟨by omega,by omega⟩
  rw[heq] at acb;have E6:nM (s.map cd)=true:=by unfold nM;rw[jc];intro x O;obtain⟨y,-,rfl⟩:=dS.1 O;rfl
  generalize pC cs ps (D E) fl=am4 at *;simp only[go_sem,go_sem_proc,oW,oX,j8,oY,aA,bZ,ej,hl,hm,rr,jv,acb,E6,rJ,ll,ak];repeat' (first|refine aw ?_ ?_|fail)<;>intro h<;>simp only[h,go_sem,go_sem_proc,oW,oX,j8,oY,aA,bZ,ej,hl,hm,rr,jv,acb,E6,rJ,ll,ak]
  done
def xI (E:List Int)(cs:List ao)(aG ps:List Rat)(fl:List (List Int)):Int :=
 if jr E cs (aG.map av) (ps.map av)=true then
  (if m6 (l9 E cs aG ps) (D E)=0 then (if pC cs ps (D E) fl=true/\(hc cs ps (gw cs ps (D E)) (D E)).length=0 then 0 else 24) else m6 (l9 E cs aG ps) (D E))
 else 1
structure acd (E:List Int) (cs:List ao) (aG ps:List Rat) (fl:List (List Int)):Prop where
 n:(D E)<=1000000
 c:(D cs)<=1000000
 h:e6 (aG.map av)
 p:e6 (ps.map av)
 sum:jr E cs (aG.map av) (ps.map av)=true->∀i,i<(D E)->Fb E cs aG ps i
 xE:jr E cs (aG.map av) (ps.map av)=true->j7 E cs ps
 f:y4 fl
theorem r8 (l:List Rat):we (l.map av)=l:=by
 unfold we;rw[lo];exact (jM λx _=>zW x).trans (am5 _)
theorem I5 {hv:List a1}(h:hv.all qg=true):∃aG:List Rat,hv=aG.map av/\∀x∈aG,0<=x/\dm x:=by
 rw[jc] at h
 have F:∀f∈hv,f=av (pd f)/\dm (pd f)/\0<=pd f:=λf aF=>by
  have I:=h f aF;unfold qg at I;rw[ec] at I;obtain⟨af,aM⟩:=I;have bk:=QB af;refine⟨bk.1,bk.2,?_⟩;have aM:=of_decide_eq_true aM;rw[bk.1] at aM;have k:¬ (pd f).num.sign<0:=by have:(pd f).num.sign>=0:=aM;omega
  have bI:decide ((pd f).num.sign<0)=decide (pd f<0):=Q0;rw[j9 k] at bI;have:=of_decide_eq_false bI.symm;grind
 refine⟨we hv,?_,λx O=>?_⟩
 ·unfold we;rw[lo];exact (am5 hv).symm.trans (jM λf aF=>(F f aF).1)
 ·obtain⟨f,aF,rfl⟩:=dS.1 O;exact⟨(F f aF).2.2,(F f aF).2.1⟩
theorem ace {E:List Int}{cs:List ao}{hv pv:List a1}(h:jr E cs hv pv=true):hv.all qg=true/\pv.all qg=true:=by
 unfold jr at h;simp only[ec] at h;exact h.2.2.2
def y5 (E:List Int)(cs:List ao)(hv pv:List a1)(fl:List (List Int)):Int:=if jr E cs hv pv=true then xI E cs (we hv) (we pv) fl else 1
structure Sw (E:List Int) (cs:List ao) (hv pv:List a1) (fl:List (List Int)):Prop where
 n:(D E)<=1000000
 c:(D cs)<=1000000
 h:e6 hv
 p:e6 pv
 sum:jr E cs hv pv=true->∀i,i<(D E)->Fb E cs (we hv) (we pv) i
 xE:jr E cs hv pv=true->j7 E cs (we pv)
 f:y4 fl
abbrev acf:(List Int)×(List ao)×(List a1)×(List a1)×(List (List Int))->List Data:=λ(E,cs,hv,pv,fl)=>[.Y (E.map ag),.Y (cs.map cx),.agg [.Y (hv.map aH),.Y (pv.map aH),.Y (fl.map nz)]]
def xJ:=cp acf λ(E,cs,hv,pv,fl)=>cV (Sw E cs hv pv fl) (.same (.int .i64 (y5 E cs hv pv fl)))
theorem aEl:∀a b,acf a=acf b->a=b:=by
  rintro⟨vU,vV,nO,abq,AF⟩ ⟨vW,oC,nP,abr,AG⟩ h;simp only[bb,Data.agg.injEq,Data.Y.injEq,and_true] at h;obtain⟨F,I,af,aM,bk⟩:=h;rw[map_inj fj _ _ F,map_inj s3 _ _ I,map_inj m0 _ _ af,map_inj m0 _ _ aM,map_inj Z6 _ _ bk]
@[go_sem] theorem am6 (E:List Int)(cs:List ao)(hv:List a1)(pv:List a1)(fl:List (List Int))(G:Sw E cs hv pv fl):xJ [.Y (E.map ag),.Y (cs.map cx),.agg [.Y (hv.map aH),.Y (pv.map aH),.Y (fl.map nz)]]=some (.same (.int .i64 (y5 E cs hv pv fl))):=(cA aEl (E,cs,hv,pv,fl)).trans (cY G _)
theorem aEm (T:bh)(pB:T Kv=aV Sm)(r9:T Um=aV abJ)(sa:T Un=aV ab9)(sb:T Uo=aV abz)(E:List Int)(cs:List ao)(hv:List a1)(pv:List a1)(fl:List (List Int))(G:Sw E cs hv pv fl):WP T WQ (.same (.int .i64 (y5 E cs hv pv fl))) [.J (.Y (E.map ag)),.J (.Y (cs.map cx)),.J (.agg [.Y (hv.map aH),.Y (pv.map aH),.Y (fl.map nz)])]:=by
 refine cB ?_;simp only[WQ];have ab:=amy E cs hv pv fl ⟨G.n,G.c,G.h,G.p⟩;have mX:=G.sum;have px:=G.xE;have I3:=G.f;have aL5:=G.n;clear G;unfold y5;rcases eS:jr E cs hv pv
 ·rw[eS] at ab;rw[ae (by decide)];simp only[eJ] at ab;simp only[go_sem,go_sem_proc,pB,r9,sa,sb,ab,dD];repeat' (first|refine aw ?_ ?_|fail)<;>intro h<;>simp only[h,go_sem,go_sem_proc,pB,r9,sa,sb,ab,dD]
 obtain⟨Ka,Bt⟩:=ace eS;obtain⟨aG,rfl,-⟩:=I5 Ka;obtain⟨ps,rfl,-⟩:=I5 Bt;rw[eS] at ab;rw[ad rfl];rw[r8,r8] at mX;rw[r8] at px;rw[r8,r8];unfold xI;rw[ad eS];have U:=λi M=>aDa E cs aG ps fl i (mX eS i M);have aF:=aEh E cs (aG.map av) ps fl ⟨px eS,I3⟩;have js:=aCP E cs (aG.map av) ps fl (px eS);clear mX px;have dy:=λk F I af=>amE (f:=l9 E cs aG ps) (k:=k) F I (n:=D E) af;have Mw:∀k,m6 (l9 E cs aG ps) (k+1)=if m6 (l9 E cs aG ps) k=0 then l9 E cs aG ps k else m6 (l9 E cs aG ps) k:=λk=>rfl;generalize (hc cs ps (gw cs ps (D E)) (D E)).length=aEn at *;generalize pC cs ps (D E) fl=am4 at *;generalize l9 E cs aG ps=Sx at *;generalize aG.map av=HQ at *;generalize ps.map av=M5 at *;simp only[eJ] at ab U aF js;simp only[go_sem,go_sem_proc,pB,r9,sa,sb,ab,c8,ak];refine dv [7,18] [286007] (λ(k:Nat) tm m=>k<=D E/\tm 19=.J (.int .i64 k)/\m6 Sx k=0) (λk=>D E-k) 0 (by refine⟨by omega,rfl,rfl⟩) ?_;intro vs ms aT aR;simp only[go_sem,go_sem_proc,pB,r9,sa,sb,ak] at aT aR;subst aT aR;rintro k tm m Q hm ⟨qw,r6,aS⟩;simp only[go_sem,go_sem_proc,pB,r9,sa,sb,bb] at Q hm;obtain⟨bR,jz⟩:=Q;rcases dA (k<D E) with ay|b9
 ·have d1:decide ((k:Int)<(D E:Int))=true:=dn;have b4:=e9 (i:=k) (by omega);have U:=U k ay;have am7:=Mw k;rw[ad aS] at am7;rcases q:(Sx k==0)
  ·have bC:Sx k≠0:=ne_of_beq_false q;have F:=dy k aS bC ay;rw[F,ae bC];simp only[go_sem,go_sem_proc,pB,r9,sa,sb,bR,jz,r6,hm,U,d1,q,bne,dD];repeat' (first|refine aw ?_ ?_|fail)<;>intro h<;>simp only[h,go_sem,go_sem_proc,pB,r9,sa,sb,bR,jz,r6,hm,U,d1,q,bne,dD]
  ·have he:Sx k=0:=eq_of_beq q;simp only[go_sem,go_sem_proc,pB,r9,sa,sb,bR,jz,r6,hm,U,d1,b4,q,bne,c8];repeat' (first|refine aw ?_ ?_|fail)<;>intro h<;>simp only[h,go_sem,go_sem_proc,pB,r9,sa,sb,bR,jz,r6,hm,U,d1,b4,q,bne,c8]
   exact⟨k+1,by omega,by omega,rfl,by rw[am7,he]⟩
 ·have d1:decide ((k:Int)<(D E:Int))=false:=dk;obtain rfl:k=D E:=by omega
  rw[ad aS];rcases am4
  ·rw[ae (λh=>by have:=h.1;cases this)];simp only[go_sem,go_sem_proc,pB,r9,sa,sb,bR,jz,r6,hm,aF,js,d1,dD];repeat' (first|refine aw ?_ ?_|fail)<;>intro h<;>simp only[h,go_sem,go_sem_proc,pB,r9,sa,sb,bR,jz,r6,hm,aF,js,d1,dD]
  rcases q:decide ((aEn:Int)>0)
  ·rw[ad ⟨rfl,by have:=of_decide_eq_false q;omega⟩]
   simp only[go_sem,go_sem_proc,pB,r9,sa,sb,bR,jz,r6,hm,aF,js,d1,q,c8];repeat' (first|refine aw ?_ ?_|fail)<;>intro h<;>simp only[h,go_sem,go_sem_proc,pB,r9,sa,sb,bR,jz,r6,hm,aF,js,d1,q,c8]
  ·rw[ae (λh=>by have:=of_decide_eq_true q;have:=h.2;omega)];simp only[go_sem,go_sem_proc,pB,r9,sa,sb,bR,jz,r6,hm,aF,js,d1,q,c8];repeat' (first|refine aw ?_ ?_|fail)<;>intro h<;>simp only[h,go_sem,go_sem_proc,pB,r9,sa,sb,bR,jz,r6,hm,aF,js,d1,q,c8]
theorem acg (E:List Int)(cs:List ao)(aG ps:List Rat)(fl:List (List Int))(h:acd E cs aG ps fl):xJ [.Y (E.map ag),.Y (cs.map cx),.agg [.Y ((aG.map av).map aH),.Y ((ps.map av).map aH),.Y (fl.map nz)]]=some (.same (.int .i64 (xI E cs aG ps fl))):=by
 have F:=am6 E cs (aG.map av) (ps.map av) fl ⟨h.n,h.c,h.h,h.p,by rw[r8,r8];exact h.sum,by rw[r8];exact h.xE,h.f⟩
 unfold y5 at F;rw[r8,r8] at F
 by_cases eS:jr E cs (aG.map av) (ps.map av)=true
 ·rw[ad eS] at F;exact F
 ·rw[ae eS] at F;unfold xI;rw[ae eS];exact F
theorem aEo {r:List Int}(F:r≠[])(I:r.Pairwise (·<·)):I1 r=true:=iw ⟨F,I⟩
section
variable {E:List Int} {cs:List ao} (U:e2 E cs)
include U
theorem aEp:y4 (y3 E cs):=⟨(Sp U).len,by have:=(Sp U).names;omega⟩
theorem aEq:pC cs (hB E cs) (D E) (y3 E cs)=true:=by
 have h:=Sp U;unfold pC;rw[ec,ec,jc,jc,jc];exact⟨λr ab=>aEo (h.ne r ab).1 (h.ne r ab).2,λx O=>iw ((h.mem x).1 O),λx O=>iw ((h.mem x).2 O)⟩
theorem aEr {fl:List (List Int)}(aF:y4 fl):acd E cs (q1 E cs) (hB E cs) fl:=by
 have h:=amL U;exact⟨h.n,h.c,h.h,h.p,h.sum,λ_=>Sn U,aF⟩
theorem aEs {fl:List (List Int)}:xI E cs (q1 E cs) (hB E cs) fl=if pC cs (hB E cs) (D E) fl=true then 0 else 24:=by
 unfold xI;rw[ad (aDE U),ad (aDv λi M=>aDG U M)]
 by_cases h:pC cs (hB E cs) (D E) fl=true
 ·rw[ad ⟨h,aDA U⟩,ad h]
 ·rw[ae (λaQ=>h aQ.1),ae h]
theorem aEt:xJ [.Y (E.map ag),.Y (cs.map cx),.agg [.Y ((lI E cs).map aH),.Y ((oV E cs).map aH),.Y ((aB E cs).iU.map r5)]]=some (.same (.int .i64 0)):=by
 have h:=acg E cs (q1 E cs) (hB E cs) (y3 E cs) (aEr U (aEp U));rw[amI,abN,aDs,aEs U,ad (aEq U)] at h;exact h
end
theorem aEu {E:List Int}{cs:List ao}{aG ps:List Rat}{fl:List (List Int)}(h:xI E cs aG ps fl=0):jr E cs (aG.map av) (ps.map av)=true/\(∀i,i<(D E)->l9 E cs aG ps i=0)/\(hc cs ps (gw cs ps (D E)) (D E)).length=0:=by
 unfold xI at h
 by_cases F:jr E cs (aG.map av) (ps.map av)=true
 ·rw[ad F] at h
  by_cases I:m6 (l9 E cs aG ps) (D E)=0
  ·rw[ad I] at h
   by_cases af:pC cs ps (D E) fl=true/\(hc cs ps (gw cs ps (D E)) (D E)).length=0
   ·exact⟨F,aDu I,af.2⟩
   ·rw[ae af] at h;cases h
  ·rw[ae I] at h;exact absurd h I
 ·rw[ae F] at h;cases h
theorem am8 {E:List Int}{cs:List ao}{aG ps:List Rat}{i:Nat}(h:l9 E cs aG ps i=0):q0 (E.getD i 0) i (cs.zip ps)=some (aG.getD i 0)/\fk cs ps i=(cu cs i).map λc=>ff (cu cs i) (aG.getD i 0) c:=by
 unfold l9 at h
 cases aE:q0 (E.getD i 0) i (cs.zip ps) with
 |none=>rw[aE] at h;cases h
 |some x =>
  rw[aE] at h;dsimp only at h
  split at h
  ·rename_i aQ;obtain⟨rfl,I⟩:=aQ;exact⟨rfl,I⟩
  ·cases h
theorem ach {E:List Int}{cs:List ao}(U:e2 E cs){aG ps:List Rat}(dY:(D aG)=D E)(ai:(D ps)=D cs)(iO:∀x∈aG,dT 460 x)(aEv:jr E cs (aG.map av) (ps.map av)=true->∀x∈aG,0<=x)(ju:∀x∈ps,dm x){fl:List (List Int)}(aF:y4 fl):acd E cs aG ps fl:=by
 have aK:=U.n5;have ji:=U.sZ;have px:j7 E cs ps:=⟨ai,by omega,by omega,λi=>U.own i,ju⟩
 refine⟨by omega,by omega,⟨by rw[ak];omega,λf aF=>?_⟩,⟨by rw[ak];omega,λf aF=>?_⟩,λab i M=>⟨px,M,dY,λx O=>j4 (iO x O) (by omega),?_,λx O he=>?_⟩,λ_=>px,aF⟩
 ·obtain⟨x,O,rfl⟩:=dS.1 aF;exact lA (j4 (iO x O) (by omega))
 ·obtain⟨x,O,rfl⟩:=dS.1 aF;exact lA (ju x O)
 ·have:=U.E i
  constructor<;>omega
 ·have hm:aG.getD i 0∈aG:=by
   rw[en,bx (by omega),FQ];exact nc _
  rw[he];exact⟨U.own i,aEv ab _ hm,iO _ hm⟩
theorem am9 {E:List Int}{cs:List ao}{aG ps:List Rat}(h:jr E cs (aG.map av) (ps.map av)=true):iF E cs=true/\D aG=D E/\D ps=D cs/\(∀x∈aG,0<=x)/\∀x∈ps,0<=x:=by
 unfold jr at h;simp only[ec,pj,M7,decide_eq_false_iff_not,beq_iff_eq,ak,Bool.not_eq_false'] at h;obtain⟨⟨F,I,af,aM⟩,bk,bI,bH,b6⟩:=h
 have r2:∀l:List Rat,(l.map av).all qg=true->∀x∈l,0<=x:=λl aq x O=>by
  rw[jc] at aq;have:=aq (av x) (pt O);unfold qg at this;rw[ec] at this;have k:=of_decide_eq_true this.2;have c7:¬ x.num.sign<0:=by have:x.num.sign>=0:=k;omega
  have ey:=Q0 (x:=x);rw[j9 c7] at ey;have:=of_decide_eq_false ey.symm;grind
 refine⟨?_,by omega,by omega,r2 aG bH,r2 ps b6⟩
 unfold iF;simp only[ec];exact⟨⟨⟨dn,dn⟩,bk⟩,bI⟩
theorem aci {a b:List Int}(F:(D a)=2)(I:(D b)=2)(aN:∀x∈a,0<=x/\x<=9)(ah:∀x∈b,0<=x/\x<=9){fl:List (List Int)}(aF:y4 fl):xJ [.Y (([0,0]:List Int).map ag),.Y (lJ.map cx),.agg (iI ((fO a).map av) ((fO b).map av) fl)]=some (.same (.int .i64 (if m6 (l9 [0,0] lJ (fO a) (fO b)) 2=0 then (if pC lJ (fO b) 2 fl=true/\(hc lJ (fO b) (gw lJ (fO b) 2) 2).length=0 then 0 else 24) else m6 (l9 [0,0] lJ (fO a) (fO b)) 2))):=by
 have h:=acg [0,0] lJ (fO a) (fO b) fl (ach ab4 (by unfold fO;rw[ak,F];rfl) (by unfold fO;rw[ak,I];rfl) (λx O=>(nine aN x O).2) (λ_ x O=>(nine aN x O).1) (M9 ah) aF);unfold xI at h;rw[ad (amP F I aN ah)] at h;exact h
theorem aEw:pC lJ (fO [5,5]) 2 []=true:=by
 unfold pC;rw[aDS];rfl
theorem aEx:xJ [.Y (([0,0]:List Int).map ag),.Y (lJ.map cx),.agg (iI ((fO [5,5]).map av) ((fO [5,5]).map av) [])]=some (.same (.int .i64 0)):=by
 have h:=aci (a:=[5,5]) (b:=[5,5]) rfl rfl (by decide) (by decide) (fl:=[]) ⟨by decide,by decide⟩
 rw[ad aDW,ad ⟨aEw,aDU⟩] at h;exact h
theorem aEy:xJ [.Y (([0,0]:List Int).map ag),.Y (lJ.map cx),.agg (iI ((fO [2,2]).map av) ((fO [2,2]).map av) [[0,1]])]=some (.same (.int .i64 24)):=by
 have h:=aci (a:=[2,2]) (b:=[2,2]) rfl rfl (by decide) (by decide) (fl:=[[0,1]]) ⟨by decide,by decide⟩
 rw[ad aDV,ae (λaQ=>by have:=aQ.2;rw[aDT] at this;cases this)] at h;exact h
theorem aEz:xJ [.Y (([0,0]:List Int).map ag),.Y (lJ.map cx),.agg (iI ((fO [5,4]).map av) ((fO [5,5]).map av) [])]=some (.same (.int .i64 24)):=by
 have h:=aci (a:=[5,4]) (b:=[5,5]) rfl rfl (by decide) (by decide) (fl:=[]) ⟨by decide,by decide⟩
 rw[ae (by rw[amQ];decide),amQ] at h;exact h
theorem aEA:xJ [.Y (([0,0]:List Int).map ag),.Y [],.agg (iI ((fO [5,5]).map av) ((fO [5,5]).map av) [])]=some (.same (.int .i64 1)):=by
 have gg:jr [0,0] [] ((fO [5,5]).map av) ((fO [5,5]).map av)=false:=rfl;have cX:e6 ((fO [5,5]).map av):=⟨by decide,λf aF=>by obtain⟨x,O,rfl⟩:=dS.1 aF;exact lA (M9 (by decide) x O)⟩
 have h:=acg [0,0] [] (fO [5,5]) (fO [5,5]) [] ⟨by decide,by decide,cX,cX,λh=>absurd h (by rw[gg];decide),λh=>absurd h (by rw[gg];decide),⟨by decide,by decide⟩⟩
 unfold xI at h;rw[ae (by rw[gg];decide)] at h;exact h
abbrev acj:Unit->List Data:=λ(_:Unit)=>[]
def ack:=cp acj λ(_:Unit)=>some (.same (.bool true))
theorem aEB:∀a b,acj a=acj b->a=b:=by
  intro _ _ _;rfl
@[go_sem] theorem aEC :ack []=some (.same (.bool true)):=cA aEB ()
theorem aED (T:bh)(aEE:T BC=aV ab2)(I6:T zD=aV xJ)(aEF:T UC=aV St)(aEG:T UB=aV abZ):WP T abW (.same (.bool true)) []:=by
 refine cB ?_;simp only[abW];have i2:dB 2:=qa (by omega) (by omega);have i4:dB 4:=qa (by omega) (by omega);have i5:dB 5:=qa (by omega) (by omega);have py:=ab3 2 2 ⟨i2,i2⟩;have ana:=ab3 5 5 ⟨i5,i5⟩;have anb:=ab3 5 4 ⟨i5,i4⟩;have aA:=aEx;have aC:=aEy;have bZ:=aEz;have dq:=aEA;have cL:=aDX;have bY:=aDJ [0,1] [0,1] ⟨by decide,by decide⟩
 rw[iw rfl] at bY;simp only[iI,lJ,fO,eE,c1,ag,cx,nz] at py ana anb aA aC bZ dq cL bY;generalize aH (av ((5:Int):Rat))=E5 at *;generalize aH (av ((2:Int):Rat))=MM at *;generalize aH (av ((4:Int):Rat))=E4 at *;refine aX ?_;repeat' (intro h<;>simp only[h,go_sem,go_sem_proc,aEE,I6,aEF,aEG,py,ana,anb,aA,aC,bZ,dq,cL,bY,eE,c1,beq_self_eq_true]<;>try refine aw ?_ ?_)





theorem setRow {l:List eV}{k:Nat}(h:k<D l)(A:List a1)(a:Int)(b:List Int)(c:Int)(d:List Int):
  gq (k*5) (bf iT l)++[R.J (.Y (A.map aH)),R.J (.int .i64 a),.J (.Y (b.map ag)),.J (.int .i64 c),.J (.Y (d.map ag))]++gI (k*5+5) (bf iT l)=bf iT (l.set k (A,((a,b),(c,d)))):=by
 rw[<-TD Xe h]
 rfl
theorem acm:∀{cs:List ao} {ps y0:List Rat} {i:Int} {k:Nat} {c:ao},D ps=(D cs)->(D y0)=(D cs)->fk cs ps i=fk cs y0 i->cs[k]?=some c->c.1=i->ps[k]?=y0[k]?
 | [],_,_,_,k,c,_,_,_,Q,_=>by simp at Q
 |_::_,[],_,_,_,_,h,_,_,_,_=>by simp at h
 |_::_,_::_,[],_,_,_,_,h,_,_,_=>by simp at h
 |a::cs,p::ps,o6::y0,i,k,c,dY,ai,h,Q,G=>by
  rw[fk,fk] at h;have anc:(D ps)=D cs:=by simpa using dY
  have ane:(D y0)=D cs:=by simpa using ai
  by_cases aN:(a.1==i)=true
  ·rw[ad aN,ad aN] at h;obtain⟨F,I⟩:=List.cons.inj h
   cases k with
   |zero=>rw[u0,u0,F]
   |succ k=>rw[yO,yO];exact acm anc ane I (by simpa using Q) G
  ·rw[ae aN,ae aN] at h
   cases k with
   |zero =>
    rw[u0,cj] at Q;rw[Q] at aN;exact absurd (beq_iff_eq.2 G) aN
   |succ k=>rw[yO,yO];exact acm anc ane h (by simpa using Q) G
theorem aEH (E:List Int)(cs:List ao):(q1 E cs).length=D E:=by unfold q1;simp
section
variable {E:List Int} {cs:List ao} (U:e2 E cs)
include U
end
end Go.Mini
namespace Go.Mini
open Classical
theorem aEI {d:Day}(aa:d.dj){x:Nat->Rat}(al:∀i,i<d.n->0<=x i)(O:∀i,i<d.n->x i=d.p5 x i)
  (gg:∀C:Nat->Prop,(∃i,C i)->(∀i,C i->i<d.n/\x i<d.br i 10)->¬ ∀c∈d.cO,C c.az->0<c.am->d.br c.az c.bm<=x c.az->x c.az<d.br c.az (c.bm+1)->lD C c):∀i,i<d.n->x i=d.cF i:=by
 have hle:=axj aa λi M=>Cs (O i M);intro i0 pM;apply kn;intro bC;have GG:=λi M=>H2 aa (i:=i) M;have To:=(EG aa).1;obtain⟨C,fN⟩:∃C:Nat->Prop,∀i,C i↔i<d.n/\x i<d.cF i:=⟨_,λi=>Iff.rfl⟩;have Sy:∀i,C i->i<d.n:=λi h=>((fN i).1 h).1
 have R6:∀i,i<d.n->¬ C i->x i=d.cF i:=λi M aK=>by
  have F:=hle i M;have I:¬ x i<d.cF i:=λh=>aK ((fN i).2 ⟨M,h⟩);grind
 obtain⟨δ,hδ⟩:∃δ:dM->Rat,∀c,δ c=d.ez d.cF c-d.ez x c:=⟨_,λc=>rfl⟩
 have hδ0:∀c∈d.cO,0<=δ c:=λc G=>by
  have:=aa.avQ G (hle c.az (aa.az c G));rw[hδ];grind
 have hδn:∀c∈d.cO,¬ C c.az->δ c=0:=λc G aK=>by
  have:=R6 c.az (aa.az c G) aK;rw[hδ];unfold Day.ez;rw[this];grind
 have aL6:(d.fx C d.cF-d.fx C x)=b5 d.cO λc=>if lD C c then δ c else 0:=by
  have aA:d.fx C d.cF=d.fx C (d.e1 (d.ez d.cF)):=Day.Aw λi M _=>To i M;have aC:d.fx C x=d.fx C (d.e1 (d.ez x)):=Day.Aw λi M _=>O i M;rw[aA,aC,Day.LS Sy,Day.LS Sy];have bZ:=As d.cO (λc=>if lD C c then d.ez d.cF c else 0) λc=>if lD C c then d.ez x c else 0
  have dq:b5 d.cO (λc=>(if lD C c then d.ez d.cF c else 0)-if lD C c then d.ez x c else 0)=b5 d.cO λc=>if lD C c then δ c else 0:=po λc _=>by
   rw[hδ];split<;>grind
  rw[dq] at bZ;grind
 obtain⟨m,hm⟩:∃m:(Nat->Rat)->Nat->Rat,∀y k,m y k=if d.br k 10<=y k then d.br k 10 else y k:=⟨_,λy k=>rfl⟩
 have aL7:(b5 d.cO λc=>if C c.az then δ c else 0)=bE d.n λk=>if C k then m d.cF k-m x k else 0:=by
  rw[<-LP (n:=d.n) aa.az λk c=>if C k then δ c else 0];refine j1 λk Q=>?_
  by_cases h:C k
  ·have iO:=aje aa (i:=k) Q (x:=d.cF) (GG k Q);have ju:=aje aa (i:=k) Q (x:=x) (al k Q);rw[ad h,hm,hm,<-iO,<-ju,<-As];refine po λc _=>?_;rw[hδ]
   by_cases I:c.az=k
   ·rw[ad I,ad h,ad I,ad I]
   ·rw[ae I,ae I,ae I];grind
  ·rw[ae h];refine Ct λc _=>?_
   split
   ·rfl
   ·rfl
 have aL8:(d.fx C d.cF-d.fx C x)=bE d.n λk=>if C k then d.cF k-x k else 0:=by
  rw[<-Day.ahr];rfl
 have anf:∀c∈d.cO,0<=(if C c.az then δ c else 0)-(if lD C c then δ c else 0):=λc G=>by
  have:=hδ0 c G
  by_cases h:C c.az
  ·rw[ad h];split<;>grind
  ·rw[ae h,hδn c G h];split<;>grind
 have ang:∀k,k<d.n->0<=(if C k then d.cF k-x k else 0)-(if C k then m d.cF k-m x k else 0):=λk Q=>by
  have:=hle k Q
  split
  ·rw[hm,hm];split<;>split<;>grind
  ·grind
 have hC:=xj anf;have ie:=YN ang
 have jm:(b5 d.cO λc=>(if C c.az then δ c else 0)-(if lD C c then δ c else 0))<=0:=by
  rw[As] at hC ⊢;rw[Cu] at ie;grind
 have kl:(bE d.n λk=>(if C k then d.cF k-x k else 0)-(if C k then m d.cF k-m x k else 0))<=0:=by
  rw[As] at hC;rw[Cu] at ie ⊢;grind
 have ca:=Qj anf jm;have c7:=ahn ang kl;refine gg C ⟨i0,(fN i0).2 ⟨pM,by have:=hle i0 pM;grind⟩⟩ (λi M=>⟨Sy i M,?_⟩) λc G anh p4 fQ sC=>?_
 ·have F:=c7 i (Sy i M);rw[ad M,ad M,hm,hm] at F;have I:=((fN i).1 M).2;apply kn;intro af;rw[ad (by grind),ad (by grind)] at F;grind
 ·apply kn;intro aK;have F:=ca c G;rw[ad anh,ae aK,hδ] at F;have I:=((fN c.az).1 anh).2;have hw:=aa.HF G p4
  have aC:d.ez x c=d.w c*(x c.az-d.br c.az c.bm):=by
   unfold Day.ez;rw[ae (by grind),p3 (by grind)]
  have cJ:=d.p2 c.az c.bm
  have ay:d.ez x c<d.ez d.cF c:=by
   rw[aC];unfold Day.ez
   by_cases af:d.br c.az (c.bm+1)<=d.cF c.az
   ·rw[ad af];have bH:=ani (show x c.az-d.br c.az c.bm<d.S c.az c.bm by grind) hw;rw[Day.Au (by grind)] at bH;exact bH
   ·rw[ae af,p3 (by grind)];exact ani (show x c.az-d.br c.az c.bm<d.cF c.az-d.br c.az c.bm by grind) hw
  grind
end Go.Mini
namespace Go.Mini
open Go
theorem aEJ {E:List Int}{cs:List ao}(ab:iF E cs=true){ps y0:List Rat}(dY:(D ps)=D cs)(ai:(D y0)=D cs)(h:∀i:Nat,i<(D E)->fk cs ps i=fk cs y0 i):ps=y0:=by
 apply o4;intro k
 by_cases Q:k<D cs
 ·obtain⟨c,G⟩:∃c,cs[k]?=some c:=⟨_,bx Q⟩;have lj:=(hy.1 ab).2.2.2 c (ep G);exact acm dY ai (h c.1.toNat (by omega)) G (by omega)
 ·rw[ke (by omega),ke (by omega)]
section
variable {E:List Int} {cs:List ao} (U:e2 E cs)
include U
theorem aEK {aG ps:List Rat}{fl:List (List Int)}(h:xI E cs aG ps fl=0):aG=q1 E cs/\ps=hB E cs:=by
 obtain⟨eS,mX,js⟩:=aEu h;obtain⟨-,dY,ai,iO,ju⟩:=am9 eS;have z8:=(hy.1 U.right).2.2.2
 have nR:∀i:Nat,i<(D E)->fk cs ps i=(cu cs i).map λc=>ff cs (aG.getD i 0) c:=λi M=>by
  rw[(am8 (mX i M)).2];exact jM λc G=>ZT (l5.1 G).2
 have fW:ps=cs.map λc=>ff cs (aG.getD c.1.toNat 0) c:=aEJ U.right ai (by rw[ak]) λi M=>by
  rw[nR i M,ajT];refine jM λc G=>?_;rw[(l5.1 G).2,Int.toNat_natCast]
 have Da:MR E cs λi=>aG.getD i 0:=λi M=>by
  have F:=(am8 (mX i M)).1;unfold q0 at F;rw[fW,amJ (E.getD i 0)] at F;exact F
 have aEL:=aBk U.right Da
 have al:∀i,i<(D E)->0<=aG.getD i 0:=λi M=>iO _ (by
  rw[en,bx (by omega),FQ];exact nc _)
 have aEM:=aEI U.ok (x:=λi=>aG.getD i 0) al aEL λC bC fN ew=>by
  obtain⟨dM,xk⟩:∃dM:List Int,∀z,z∈dM↔∃i:Nat,z=(i:Int)/\C i:=by
   classical
   refine⟨((List.range (D E)).filter λi=>decide (C i)).map λi:Nat=>(i:Int),λz=>?_⟩;rw[dS]
   constructor
   ·rintro⟨i,M,rfl⟩;exact⟨i,rfl,of_decide_eq_true (rP.1 M).2⟩
   ·rintro⟨i,rfl,M⟩;exact⟨i,rP.2 ⟨gV.2 (fN i M).1,iw M⟩,rfl⟩
  have b8:∀i:Nat,C i->∃r:Nat,nA cs ps i<10/\qb cs ps i=(r:Int)/\(aB E cs).br i r<=aG.getD i 0/\aG.getD i 0<(aB E cs).br i (r+1):=λi M=>by
   obtain⟨cw,ay⟩:=fN i M;obtain⟨r,eY,eh,Sq⟩:=ai9 (d:=aB E cs) (i:=i) (x:=aG.getD i 0) (al i cw) 10 ay;obtain⟨ca,c7⟩:=amF U (x:=λi=>aG.getD i 0) cw (nR i cw) eY eh Sq;exact⟨r,ca,c7,eh,Sq⟩
  have jj:∀z∈dM,z∈gw cs ps (D E):=λz aS=>by
   obtain⟨i,rfl,M⟩:=(xk z).1 aS;obtain⟨r,ca,-⟩:=b8 i M;unfold gw IP;exact dS.2 ⟨i,rP.2 ⟨gV.2 (fN i M).1,iw ca⟩,rfl⟩
  have aEN:∀z∈dM,oh cs ps dM z=false:=λz aS=>by
   obtain⟨i,rfl,M⟩:=(xk z).1 aS;obtain⟨r,-,c7,ey,j2⟩:=b8 i M;unfold oh;rw[List.any_eq_false];intro c G aq;simp only[ec,pj,decide_eq_false_iff_not,decide_eq_true_eq,beq_iff_eq] at aq;obtain⟨aI,c2,c3,c4⟩:=aq;have lj:=z8 c G;have hk:(cv c).bm=r:=by show c.2.2.1.toNat=r;omega
   have bQ:(cv c).az=i:=by show c.1.toNat=i;omega
   have p4:(0:Rat)<(cv c).am:=by show (0:Rat)<(c.2.2.2:Rat);exact_mod_cast c3
   obtain⟨j,yR,u1⟩:=ew (cv c) (pt G) (by rw[bQ];exact M) p4 (by rw[bQ,hk];exact ey) (by rw[bQ,hk];exact j2);exact c4 ((xk _).2 ⟨j,yR,u1⟩)
  obtain⟨i,M⟩:=bC;have fZ:=abR jj aEN (D E) (i:Int) ((xk _).2 ⟨i,rfl,M⟩);have:=List.length_pos_of_mem fZ;omega
 have aA:aG=q1 E cs:=by
  apply o4;intro k
  by_cases Q:k<D E
  ·have F:=aEM k Q;unfold q1;rw[bq,List.getElem?_range Q];rw[en,bx (show k<(D aG) by omega),FQ] at F;rw[bx (show k<(D aG) by omega),F];rfl
  ·rw[ke (by omega),ke (by rw[aEH];omega)]
 refine⟨aA,?_⟩;rw[fW];unfold hB;refine jM λc G=>?_;have:=z8 c G;rw[aA,abS (show c.1.toNat<(D E) by omega)]
end
theorem aEO {E:List Int}{cs:List ao}{hv pv:List a1}{fl:List (List Int)}(h:xG E cs hv pv fl=true):y4 fl/\(∀f∈hv,pU f 8=true)/\(∀f∈pv,pU f 8=true)/\D hv<=8/\D pv<=14:=by
 unfold xG IZ at h;simp only[ec,pj,M7,decide_eq_false_iff_not,jc] at h;obtain⟨⟨-,-,af,aM,bk⟩,bI,bH,b6⟩:=h
 have kA:∀l:List (List Int),(∀r∈l,D r<=12)->(D l.flatten)<=12*D l:=λl aq=>by
  induction l with
  |nil=>simp
  |cons r l ax =>
   have F:=aq r List.mem_cons_self;have I:=ax λx O=>aq x (List.mem_cons_of_mem _ O);rw[jC,fE,List.length_cons];omega
 have iN:=kA fl λr ab=>by have:=b6 r ab;omega
 exact⟨⟨by omega,by omega⟩,bI,bH,by omega,by omega⟩
theorem anj {hv:List a1}(aq:(D hv)<=14)(h:∀f∈hv,pU f 8=true):e6 hv:=⟨by omega,λf aF=>by
 have:=h f aF;unfold pU at this;simp only[ec,decide_eq_true_eq] at this;exact⟨by omega,by omega⟩⟩
theorem aEP {E:List Int}{cs:List ao}{hv pv:List a1}{fl:List (List Int)}(h:xG E cs hv pv fl=true):Sw E cs hv pv fl:=by
 obtain⟨F,I⟩:=amR h;obtain⟨af,aM,bk,bI,bH⟩:=aEO h
 have Q:jr E cs hv pv=true->e2 E cs/\∃aG ps:List Rat,hv=aG.map av/\pv=ps.map av/\D aG=D E/\D ps=D cs/\(∀x∈aG,0<=x/\dT 460 x)/\∀x∈ps,dm x:=λeS=>by
  obtain⟨cU,de⟩:=ace eS;obtain⟨aG,rfl,df⟩:=I5 cU;obtain⟨ps,rfl,eD⟩:=I5 de;obtain⟨aI,c2,c3,-⟩:=am9 eS;exact⟨(ab5 h).uA aI,aG,ps,rfl,rfl,c2,c3,λx O=>⟨(df x O).1,aD3 (df x O).2 (aM _ (pt O))⟩,λx O=>(eD x O).2⟩
 refine⟨by omega,by omega,anj (by omega) aM,anj (by omega) bk,λeS=>?_,λeS=>?_,af⟩
 ·obtain⟨U,aG,ps,rfl,rfl,c2,c3,c4,yN⟩:=Q eS;rw[r8,r8];exact (ach U c2 c3 (λx O=>(c4 x O).2) (λ_ x O=>(c4 x O).1) yN af).sum eS
 ·obtain⟨U,aG,ps,rfl,rfl,c2,c3,c4,yN⟩:=Q eS;rw[r8];exact (ach U c2 c3 (λx O=>(c4 x O).2) (λ_ x O=>(c4 x O).1) yN af).xE eS
theorem aEQ {E:List Int}{cs:List ao}{hv pv:List a1}{fl:List (List Int)}(U:e2 E cs)(h:y5 E cs hv pv fl=0):hv=lI E cs/\pv=oV E cs:=by
 unfold y5 at h
 by_cases eS:jr E cs hv pv=true
 ·rw[ad eS] at h;obtain⟨cU,de⟩:=ace eS;obtain⟨aG,rfl,-⟩:=I5 cU;obtain⟨ps,rfl,-⟩:=I5 de;rw[r8,r8] at h;obtain⟨aA,aC⟩:=aEK U h;rw[aA,aC,amI,abN];exact⟨rfl,rfl⟩
 ·rw[ae eS] at h;cases h
def acn:=cp Ss λ(E,cs,hv,pv,fl)=>some (.same (.bool true))
@[go_sem] theorem aER (E:List Int)(cs:List ao)(hv:List a1)(pv:List a1)(fl:List (List Int)):acn [.Y (E.map ag),.Y (cs.map cx),.agg (iI hv pv fl)]=some (.same (.bool true)):=cA amO (E,cs,hv,pv,fl)
theorem aES (T:bh)(Sz:T Uz=aV ack)(SA:T UA=aV abY)(SB:T Ud=aV R9)(I6:T zD=aV xJ)(SC:T Oq=aV ab6)(E:List Int)(cs:List ao)(hv:List a1)(pv:List a1)(fl:List (List Int)):WP T abV (.same (.bool true)) [.J (.Y (E.map ag)),.J (.Y (cs.map cx)),.J (.agg (iI hv pv fl))]:=by
 refine cB ?_;simp only[abV];have uA:=aEC;have cD:=aDH E cs hv pv fl;simp only[iI] at cD;rcases aF:xG E cs hv pv fl
 ·rw[aF] at cD;refine aX ?_;repeat' (intro h<;>simp only[h,go_sem,go_sem_proc,Sz,SA,SB,I6,SC,uA,cD,iI,dD]<;>try refine aw ?_ ?_)
 rw[aF] at cD;have yZ:=al9 E cs (ab5 aF);unfold IK at yZ;rcases ab:iF E cs
 ·rw[ae (by rw[ab];decide)] at yZ;refine aX ?_;repeat' (intro h<;>simp only[h,go_sem,go_sem_proc,Sz,SA,SB,I6,SC,uA,cD,yZ,iI,show ((1:Int)==0)=false from rfl,bne,dD,c8]<;>try refine aw ?_ ?_)
 rw[ad ab] at yZ;have U:=(ab5 aF).uA ab;have aq:(lI E cs).length=D E:=p8 _ _;have hle:(((lI E cs).length:Int)==(D E:Int))=true:=by rw[aq];exact beq_self_eq_true _
 have cq:(oV E cs).length=D cs:=by unfold oV;rw[ak]
 have NI:(((oV E cs).length:Int)==(D cs:Int))=true:=by rw[cq];exact beq_self_eq_true _
 have ank:=aEt U;have anl:=am6 E cs hv pv fl (aEP aF);have aS:=aEQ (hv:=hv) (pv:=pv) (fl:=fl) U;have hC:=amS (lI E cs) (lI E cs) ⟨Sa U,Sa U⟩;have ie:=amS (oV E cs) (oV E cs) (by have:=(amL U).p;rw[abN] at this;exact⟨this,this⟩);rw[show Ce (lI E cs) (lI E cs)=true from iw rfl] at hC;rw[show Ce (oV E cs) (oV E cs)=true from iw rfl] at ie;rcases q:(y5 E cs hv pv fl==0)
 ·generalize (aB E cs).iU.map r5=FD at *;generalize lI E cs=MV at *;generalize oV E cs=yT at *;generalize y5 E cs hv pv fl=V at *;refine aX ?_;repeat' (intro h<;>simp only[h,go_sem,go_sem_proc,Sz,SA,SB,I6,SC,uA,cD,yZ,hle,NI,ank,anl,q,iI,ak,bne,beq_self_eq_true,dD,c8]<;>try refine aw ?_ ?_)
 ·obtain⟨rfl,rfl⟩:=aS (eq_of_beq q);generalize (aB E cs).iU.map r5=FD at *;generalize lI E cs=MV at *;generalize oV E cs=yT at *;generalize y5 E cs MV yT fl=V at *;refine aX ?_;repeat' (intro h<;>simp only[h,go_sem,go_sem_proc,Sz,SA,SB,I6,SC,uA,cD,yZ,hle,NI,ank,anl,q,hC,ie,iI,ak,bne,beq_self_eq_true,dD,c8]<;>try refine aw ?_ ?_)
end Go.Mini
namespace Go.Mini
open Go Go.Proofs
theorem mixed:Tryz.prog.follows .mixedOrders=true:=by kernel_rfl
abbrev aco:Option eL->(eL->Prop)->Prop
 |some r,aL=>aL r
 |none,_=>True
theorem c5 {c:Prop}{r:eL}{aL:eL->Prop}(h:c->aL r):aco (cV c r) aL:=by
 by_cases G:c
 ·rw[cY G];exact h G
 ·have:cV c r=none:=ae G;rw[this];trivial
abbrev cC:=tz Tryz.prog
theorem xK (mf : bT)(kb : Nat)(own : List Nat){α : Type}{args : α -> List Data}{res : α -> Option eL}{l : List (FuncId × (List Data -> Option eL))}{e : List (FuncId × (List R -> Mem -> Option gY))}(aq : ∀ p ∈ l, tz Tryz.prog p.1 p.2)(he : ∀ p ∈ e, k7 Tryz.prog p.1 p.2){f : FuncId}{fn : Func}(aF : Tryz.prog.funcs[f]? = some fn)(h : ∀ a, aco (res a) fun r => Nat.ble (args a).length mf.n = true /\ wp (xa (N7 l) (PV e)) mf.body (zt mf.res r) ⟨lf ((args a).map .J), emp⟩)(aK : (fn.name == "runtime.NumGoroutine", sl Tryz.prog kb own fn) = (false, some { mf with body := erase mf.body }) := by kernel_rfl): cC f (cp args res) := ap6 (vB (u4 aq) (vC he)) mixed aF (congrArg Prod.fst aK) (congrArg Prod.snd aK) fun ds r ab => by
 obtain⟨a,rfl,I⟩:=aqm ab;have af:=h a;rw[I] at af;exact⟨xL af.1,af.2⟩
theorem cT (mf : bT)(kb : Nat)(own : List Nat){α : Type}{args : α -> List Data}{res : α -> Option eL}{l : List (FuncId × (List Data -> Option eL))}(aq : ∀ p ∈ l, tz Tryz.prog p.1 p.2){f : FuncId}{fn : Func}(aF : Tryz.prog.funcs[f]? = some fn)(h : ∀ a, aco (res a) fun r => Nat.ble (args a).length mf.n = true /\ wp (xa (N7 l) (PV [])) mf.body (zt mf.res r) ⟨lf ((args a).map .J), emp⟩)(aK : (fn.name == "runtime.NumGoroutine", sl Tryz.prog kb own fn) = (false, some { mf with body := erase mf.body }) := by kernel_rfl): cC f (cp args res) := xK mf kb own aq m1 aF h aK
theorem bp {lP:FuncId->Option (List Data->Option eL)}{sL:FuncId->Option (List R->Mem->Option gY)}{f:FuncId}{aO:List Data->Option eL}(F:sL f=none:=by rfl)(I:lP f=some aO:=by rfl):xa lP sL f=aV aO:=oO F I
theorem I7:cC qB zE:=cT DJ 177000 [] cl Tryz.func190 λa2=>c5 λG=>⟨rfl,aq1 _  a2 G⟩
theorem I8:k7 Tryz.prog qB (Bu vg):=Kd.agy (aen (mf:=DJ) (kb:=177000) (own:=[]) (vB (u4 cl) (vC m1)) mixed Tryz.func190 (by kernel_rfl) (by kernel_rfl) λargs mem x h=>by
 obtain⟨a,⟨rfl,hm,aq⟩,rfl⟩:=TP h;exact⟨xL rfl,aq2 _ a.l a.k a.g mem hm aq⟩)
theorem aET:cC Oj Ve:=cT UY 184000 [] cl Tryz.func194 λa2=>⟨rfl,aq3 _  a2⟩
theorem anm:cC Gd OB:=cT UW 174000 [] (ba aET cl) Tryz.func159 fun⟨a2,a8⟩=>⟨rfl,aq4 _ bp a2 a8⟩
theorem aEU:cC Ub Vf:=cT UX 179000 [] cl Tryz.func195 λa2=>c5 λG=>⟨rfl,aq7 _  a2 G⟩
theorem Nb:cC va BD:=cT U4 156000 [5] cl Tryz.func94 λa2=>c5 λG=>⟨rfl,aq8 _  a2 G⟩
theorem AZ:cC kX wK:=cT UE 136000 [] cl Tryz.func146 fun⟨a2,a8⟩=>c5 λG=>⟨rfl,aq9 _  a2 a8 G⟩
theorem I9:cC o9 BF:=xK UN 158000 [] (ba I7 cl) (pW I8 m1) Tryz.func150 fun⟨a2,a8⟩=>c5 λG=>⟨rfl,arb _ (Hg rfl rfl) a2 a8 G⟩
theorem acp:cC Dz KH:=cT UT 175000 [] (ba anm cl) Tryz.func160 fun⟨a2,a8⟩=>c5 λG=>⟨rfl,arf _ bp a2 a8 G⟩
theorem ann:cC Kl OG:=xK UR 172000 [] (ba I7 cl) (pW I8 m1) Tryz.func157 fun⟨a2,a8⟩=>c5 λG=>⟨rfl,arh _ (Hg rfl rfl) a2 a8 G⟩
theorem ano:cC Gc OH:=xK US 173000 [10] (ba Nb (ba I7 cl)) (pW I8 m1) Tryz.func158 fun⟨a2,a8⟩=>c5 λG=>⟨rfl,arj _ bp (Hg rfl rfl) a2 a8 G⟩
theorem anp:cC Gb OI:=xK UQ 161000 [] (ba I7 cl) (pW I8 m1) Tryz.func151 fun⟨a2,a8⟩=>c5 λG=>⟨rfl,arn _ (Hg rfl rfl) a2 a8 G⟩
theorem aEV:cC Oi Vs:=xK UU 176000 [] (ba I7 cl) (pW I8 m1) Tryz.func192 fun⟨a2,a8⟩=>c5 λG=>⟨rfl,arp _ (Hg rfl rfl) a2 a8 G⟩
theorem aEW:k7 Tryz.prog Ua (Bu KN):=Kd.agy (aen (mf:=Ov) (kb:=178000) (own:=[]) (vB (u4 cl) (vC m1)) mixed Tryz.func193 (by kernel_rfl) (by kernel_rfl) λargs mem x h=>by
 obtain⟨a,⟨rfl,G⟩,rfl⟩:=TP h;exact⟨xL rfl,ary _ a mem G⟩)
theorem anq:cC Kj OO:=xK UM 157000 [54] (ba acp (ba Nb (ba aEV (ba I7 (ba anp cl))))) (pW I8 (pW aEW m1)) Tryz.func156 fun⟨a2,a8⟩=>c5 λG=>⟨rfl,arJ _ bp bp bp (Hg rfl rfl) bp (xb rfl rfl) a2 a8 G⟩
theorem acq:cC u9 KT:=cT UL 155000 [] cl Tryz.func149 fun⟨a2,a8,bV⟩=>⟨rfl,asi _  a2 a8 bV⟩
theorem anr:cC Ga O6:=cT UI 152000 [] (ba AZ (ba Nb (ba I9 cl))) Tryz.func91 fun⟨a2,a8⟩=>c5 λG=>⟨rfl,asj _ bp bp bp a2 a8 G⟩
theorem SD:cC u7 GM:=cT UG 140000 [] (ba AZ (ba anp (ba I9 (ba acq cl)))) Tryz.func85 fun⟨a2,a8,bV,cZ⟩=>c5 λG=>⟨rfl,asl _ bp bp bp bp a2 a8 bV cZ G⟩
theorem aEX:cC T7 VW:=cT UP 160000 [] (ba AZ (ba aEU (ba ann (ba ano (ba acp (ba I9 (ba acq cl))))))) Tryz.func161 fun⟨a2,a8,bV,cZ⟩=>c5 λG=>⟨rfl,asm _ bp bp bp bp bp bp bp a2 a8 bV cZ G⟩
theorem aEY:cC T5 VX:=cT UK 154000 [] (ba AZ (ba anm (ba acp cl))) Tryz.func89 fun⟨a2,a8,bV,cZ⟩=>c5 λG=>⟨rfl,asn _ bp bp bp a2 a8 bV cZ G⟩
theorem ans:cC Kh O9:=cT UF 137000 [] (ba AZ (ba Nb (ba anq (ba I9 (ba acq cl))))) Tryz.func147 fun⟨a2,a8,bV,cZ⟩=>c5 λG=>⟨rfl,aso _ bp bp bp bp bp a2 a8 bV cZ G⟩
theorem ant:cC Dx Ph:=cT UJ 153000 [] (ba AZ (ba anq (ba ann (ba ano (ba I9 cl))))) Tryz.func88 fun⟨a2,a8,bV,cZ⟩=>c5 λG=>⟨rfl,asq _ bp bp bp bp bp a2 a8 bV cZ G⟩
theorem aEZ:cC Of V8:=cT UH 150000 [] (ba I9 cl) Tryz.func165 λa2=>c5 λG=>⟨rfl,asv _ bp a2 G⟩
theorem aE0:cC T6 V9:=cT UO 159000 [] (ba AZ cl) Tryz.func189 fun⟨a2,a8⟩=>c5 λG=>⟨rfl,asy _ bp a2 a8 G⟩
theorem aE1:cC TY Wm:=cT Wh 138000 [] (ba aE0 cl) Tryz.func148 fun⟨a2,a8⟩=>c5 λG=>⟨rfl,asD _ bp a2 a8 G⟩
theorem A0:cC lT vu:=cT Wb 116000 [] (ba AZ (ba ans (ba aE1 cl))) Tryz.func84 fun⟨a2,a8,bV,cZ⟩=>c5 λG=>⟨rfl,asF _ bp bp bp a2 a8 bV cZ G⟩
theorem anu:cC Ki Pr:=cT Wk 149000 [] (ba AZ (ba anr (ba ans (ba ant cl)))) Tryz.func152 fun⟨a2,a8,bV,cZ⟩=>c5 λG=>⟨rfl,asH _ bp bp bp bp a2 a8 bV cZ G⟩
theorem SE:cC zB Eb:=cT Wd 130000 [] (ba aEZ (ba anu cl)) Tryz.func96 fun⟨a2,a8⟩=>c5 λG=>⟨rfl,asI _ bp bp a2 a8 G⟩
theorem aE2:cC TZ Wq:=cT Wi 139000 [] (ba SD (ba aEX cl)) Tryz.func90 fun⟨a2,a8,bV,cZ,ea,iv,mM,oq⟩=>c5 λG=>⟨rfl,asV _ bp bp a2 a8 bV cZ ea iv mM oq G⟩
theorem acr:cC Dw K6:=cT Wj 141000 [] (ba anu cl) Tryz.func86 fun⟨a2,a8,bV,cZ,ea,iv⟩=>c5 λG=>⟨rfl,asX _ bp a2 a8 bV cZ ea iv G⟩
theorem SF:cC yb zZ:=cT Wc 119000 [] (ba A0 (ba aE2 (ba SD (ba acr cl)))) Tryz.func40 fun⟨a2,a8,bV,cZ,ea,iv,mM,oq⟩=>c5 λG=>⟨rfl,asZ _ bp bp bp bp a2 a8 bV cZ ea iv mM oq G⟩
theorem acs:cC yc z1:=cT We 132000 [] (ba A0 (ba anr (ba SF cl))) Tryz.func43 fun⟨a2,a8,bV,cZ,ea,iv,mM,oq⟩=>c5 λG=>⟨rfl,as1 _ bp bp bp a2 a8 bV cZ ea iv mM oq G⟩
theorem acu:cC wE yx:=cT Wf 134000 [] (ba A0 (ba SD (ba acr cl))) Tryz.func36 fun⟨a2,a8,bV,cZ,ea,iv,mM,oq⟩=>c5 λG=>⟨rfl,as3 _ bp bp bp a2 a8 bV cZ ea iv mM oq G⟩
theorem anv:cC Dy Ed:=cT Wl 169000 [] (ba A0 (ba SD (ba acr cl))) Tryz.func155 fun⟨a2,a8,bV,cZ,ea,iv,mM,oq⟩=>c5 λG=>⟨rfl,as5 _ bp bp bp a2 a8 bV cZ ea iv mM oq G⟩
theorem Fe:cC oI tW:=cT Wg 135000 [] (ba A0 (ba ant (ba aEY cl))) Tryz.func38 fun⟨a2,a8,bV,cZ,ea,iv,mM,oq⟩=>c5 λG=>⟨rfl,atb _ bp bp bp a2 a8 bV cZ ea iv mM oq G⟩
theorem anw:cC oH PA:=cT WG 125000 [] (ba A0 cl) Tryz.func233 fun⟨a2,a8,bV,cZ⟩=>c5 λG=>⟨rfl,ath _ bp a2 a8 bV cZ G⟩
theorem aE3:cC wG Xg:=cT WY 294000 [] (ba A0 cl) Tryz.func116 fun⟨a2,a8,bV,cZ⟩=>c5 λG=>⟨rfl,atj _ bp a2 a8 bV cZ G⟩
theorem aE4:cC vf Xi:=cT W9 309000 [] (ba aE3 cl) Tryz.func174 fun⟨a2,a8,bV,cZ⟩=>c5 λG=>⟨rfl,atm _ bp a2 a8 bV cZ G⟩
theorem aE5:cC T2 Xk:=cT Gk 146000 [] (ba anw (ba aE4 cl)) Tryz.func201 fun⟨a2,a8⟩=>c5 λG=>⟨rfl,atp _ bp (λh=>absurd h (by decide)) (λ_=>bp) a2 a8 G⟩
theorem anx:cC Kg Lj:=cT U0 128000 [] (ba aE5 cl) Tryz.func173 fun⟨a2,a8⟩=>c5 λG=>⟨rfl,ats _ bp a2 a8 G⟩
theorem aE6:cC Bx Xm:=cT WH 127000 [] (ba anw (ba anx cl)) Tryz.func235 fun⟨a2,a8,bV,cZ,ea,iv⟩=>c5 λG=>⟨rfl,atv _ bp bp a2 a8 bV cZ ea iv G⟩
theorem aE7:cC T1 Xn:=cT U2 145000 [] (ba aE6 cl) Tryz.func239 fun⟨a2,a8⟩=>c5 λG=>⟨rfl,atw _ bp a2 a8 G⟩
theorem aE8:cC TV Xo:=cT UZ 126000 [] (ba aE7 cl) Tryz.func234 fun⟨a2,a8⟩=>c5 λG=>⟨rfl,atx _ bp a2 a8 G⟩
theorem aE9:cC TS Xp:=cT WD 108000 [] (ba aE8 cl) Tryz.func224 fun⟨a2,a8⟩=>c5 λG=>⟨rfl,atz _ bp a2 a8 G⟩
theorem aFa:k7 Tryz.prog Bz (Cf Ag):=auc (mf:=Py) (kb:=168000) (own:=[]) (vB (u4 cl) (vC m1)) mixed Tryz.func241 (by kernel_rfl) (by kernel_rfl) PX λargs mem r k g i d h=>by
 obtain⟨F,I,af,aM,bk⟩:=aud _ args mem r k g i d h;exact⟨F,I,af,aM,bk⟩
theorem aFb:cC Kk PW:=cT WI 167000 [] cl Tryz.func240 fun⟨a2,a8,bV,cZ⟩=>⟨rfl,Ls _  a2 a8 bV cZ⟩
theorem aFc:k7 Tryz.prog T3 (qP LD):=PT (mf:=yA) (kb:=148000) (own:=[3000106,3000165,3000169]) (vB (u4 (ba aFb (ba anv (ba acs (ba acu cl))))) (vC (pW aFa m1))) mixed Tryz.func237 (by kernel_rfl) (by kernel_rfl) λargs mem cg h=>by
 obtain⟨a,rfl,⟨F,I,af,aM,bk,bI,bH⟩,rfl⟩:=auW h;exact⟨xL rfl,auK _ (oO rfl rfl) (xb rfl rfl) (oO rfl rfl) (oO rfl rfl) (oO rfl rfl) a.go a.N a.rows a.r a.c mem F I af aM bk bI bH⟩
theorem aFd:cC Oe P7:=cT U3 147000 [5] cl Tryz.func236 λa2=>c5 λG=>⟨rfl,auY _  a2 G⟩
theorem aFe:cC TW Qc:=xK Lf 129000 [29,34] (ba aFd cl) (pW aFc m1) Tryz.func225 fun⟨a2,a8,bV⟩=>c5 λG=>⟨rfl,avd _ bp (xb rfl rfl) a2 a8 bV G⟩
theorem aFf:cC TT Yx:=cT WE 109000 [] (ba aE9 (ba aFe cl)) Tryz.func215 fun⟨a2,a8⟩=>c5 λG=>⟨rfl,avj _ bp bp a2 a8 G⟩
theorem aFg:cC T9 YD:=cT YB 171000 [] cl Tryz.func232 λa2=>c5 λG=>⟨rfl,avn _  a2 G⟩
theorem aFh:cC T4 YE:=cT YA 151000 [] (ba aFg cl) Tryz.func223 λa2=>c5 λG=>⟨rfl,avo _ bp a2 G⟩
theorem aFi:cC TX YH:=cT U1 131000 [] (ba aFh cl) Tryz.func214 fun⟨a2,a8,bV,cZ,ea⟩=>c5 λG=>⟨rfl,avy _ bp a2 a8 bV cZ ea G⟩
theorem Nc:cC tF B9:=cT Xy 183000 [18] cl Tryz.func188 λa2=>c5 λG=>⟨rfl,atB _  a2 G⟩
theorem SG:cC tG G6:=cT XB 187000 [] cl Tryz.func200 fun⟨a2,a8⟩=>c5 λG=>⟨rfl,atE _  a2 a8 G⟩
theorem aFj:cC Ol PI:=cT Xz 185000 [] (ba SG cl) Tryz.func182 fun⟨a2,a8⟩=>c5 λG=>⟨rfl,atG _ bp a2 a8 G⟩
theorem aFk:cC Uc XG:=cT Xw 181000 [] (ba SG (ba Nc cl)) Tryz.func181 fun⟨a2,a8⟩=>c5 λG=>⟨rfl,atI _ bp bp a2 a8 G⟩
theorem anz:cC Kn PJ:=cT Xx 182000 [] (ba SG (ba Nc cl)) Tryz.func183 fun⟨a2,a8⟩=>c5 λG=>⟨rfl,atJ _ bp bp a2 a8 G⟩
theorem aFl:cC Ko PK:=cT XA 186000 [] (ba SG (ba Nc cl)) Tryz.func170 fun⟨a2,a8⟩=>c5 λG=>⟨rfl,atK _ bp bp a2 a8 G⟩
theorem anA:cC Km PL:=cT Lk 180000 [26] (ba Nc (ba aFl (ba aFj (ba anz cl)))) Tryz.func187 fun⟨a2,a8⟩=>c5 λG=>⟨rfl,atS _ bp bp bp bp a2 a8 G⟩
theorem SH:cC vc Hd:=cT Xv 166000 [] (ba Nc cl) Tryz.func145 fun⟨a2,a8⟩=>c5 λG=>⟨rfl,atU _ bp a2 a8 G⟩
theorem SI:cC vb He:=cT Xr 162000 [] cl Tryz.func141 fun⟨a2,a8⟩=>c5 λG=>⟨rfl,atV _  a2 a8 G⟩
theorem aFm:cC Og XO:=cT Xs 163000 [] (ba SI (ba SH cl)) Tryz.func142 fun⟨a2,a8⟩=>c5 λG=>⟨rfl,atW _ bp bp a2 a8 G⟩
theorem aFn:cC Od XP:=cT Xq 144000 [] (ba SH cl) Tryz.func83 λa2=>c5 λG=>⟨rfl,atX _ bp a2 G⟩
theorem aFo:cC T8 XQ:=cT Xt 164000 [] (ba SI (ba anA (ba SH cl))) Tryz.func143 fun⟨a2,a8,bV,cZ⟩=>c5 λG=>⟨rfl,atZ _ bp bp bp a2 a8 bV cZ G⟩
theorem aFp:cC Oh XR:=cT Xu 165000 [] (ba SI (ba anA (ba aFk (ba anz (ba SH cl))))) Tryz.func144 fun⟨a2,a8,bV,cZ⟩=>c5 λG=>⟨rfl,at0 _ bp bp bp bp bp a2 a8 bV cZ G⟩
theorem aFq:cC T0 XX:=cT XW 143000 [] (ba SI (ba aFm (ba aFo (ba aFp cl)))) Tryz.func82 fun⟨a2,a8,bV,cZ⟩=>c5 λG=>⟨rfl,at1 _ bp bp bp bp a2 a8 bV cZ G⟩
theorem aFr:cC Ob PO:=cT XU 124000 [] (ba aFn (ba aFq cl)) Tryz.func35 fun⟨a2,a8⟩=>c5 λG=>⟨rfl,at3 _ bp bp a2 a8 G⟩
theorem aFs:cC Oc XY:=cT XV 142000 [] cl Tryz.func55 fun⟨a2,a8,bV,cZ⟩=>c5 λG=>⟨rfl,at6 _  a2 a8 bV cZ G⟩
theorem aFt:cC TU XZ:=cT XT 120000 [] (ba aFs cl) Tryz.func19 fun⟨a2,a8,bV,cZ,ea,iv,mM,oq⟩=>c5 λG=>⟨rfl,at7 _ bp a2 a8 bV cZ ea iv mM oq G⟩
theorem aFu:cC Oa X1:=cT XS 115000 [] cl Tryz.func39 fun⟨a2,a8,bV,cZ,ea⟩=>⟨rfl,at9 _  a2 a8 bV cZ ea⟩
theorem Ja:cC pa vO:=cT WK 230000 [] (ba SE cl) Tryz.func78 λa2=>c5 λG=>⟨rfl,aw8 _ bp a2 G⟩
theorem anB:cC vd HW:=cT ZA 241000 [] (ba SE cl) Tryz.func153 λa2=>c5 λG=>⟨rfl,axa _ bp a2 G⟩
theorem anC:cC ve Q3:=cT WM 243000 [] cl Tryz.func137 fun⟨a2,a8,bV⟩=>⟨rfl,ax4 _  a2 a8 bV⟩
theorem aFv:cC Kq ZZ:=cT WN 244000 [] (ba anC cl) Tryz.func138 λa2=>⟨rfl,ax7 _ bp a2⟩
theorem aFw:cC Kr Z2:=cT WO 245000 [] (ba anC cl) Tryz.func139 fun⟨a2,a8,bV,cZ,ea⟩=>c5 λG=>⟨rfl,aya _ bp a2 a8 bV cZ ea G⟩
theorem aFx:cC DA aab:=cT WL 232000 [] (ba Ja (ba Fe cl)) Tryz.func80 fun⟨a2,a8,bV⟩=>c5 λG=>⟨rfl,ayg _ bp bp a2 a8 bV G⟩
theorem anD:cC Ku Q7:=cT ZW 251000 [] cl Tryz.func163 λa2=>⟨rfl,ayh _  a2⟩
theorem aFy:cC Ge aac:=cT ZV 250000 [] (ba anD cl) Tryz.func162 λa2=>⟨rfl,ayj _ bp a2⟩
theorem anE:cC DH Q8:=cT Z3 355000 [] cl Tryz.func54 fun⟨a2,a8,bV⟩=>⟨rfl,ayk _  a2 a8 bV⟩
theorem anF:cC wI Q9:=cT Z4 361000 [] (ba anE cl) Tryz.func104 λa2=>⟨rfl,aym _ bp a2⟩
theorem anG:cC DD Ra:=cT WW 292000 [] cl Tryz.func114 fun⟨a2,a8,bV⟩=>⟨rfl,ayn _  a2 a8 bV⟩
theorem anH:cC ni Rb:=cT WV 291000 [] (ba anG cl) Tryz.func113 λa2=>⟨rfl,ayo _ bp a2⟩
theorem aFz:cC BB aag:=cT W7 307000 [] (ba anH cl) Tryz.func171 λa2=>⟨rfl,ayr _ bp a2⟩
theorem anI:cC Kw Sd:=cT W2 298000 [] cl Tryz.func120 fun⟨a2,a8,bV,cZ,ea,iv⟩=>c5 λG=>⟨rfl,aCt _  a2 a8 bV cZ ea iv G⟩
theorem aFA:cC Gg aaT:=cT ZB 253000 [] cl Tryz.func191 fun⟨a2,a8,bV⟩=>⟨rfl,aAq _  a2 a8 bV⟩
theorem anJ:cC Kp RN:=cT Zz 240000 [] (ba aFA cl) Tryz.func154 λa2=>c5 λG=>⟨rfl,aAs _ bp a2 G⟩
theorem aFB:cC Ue abh:=cT Zy 225000 [] (ba anJ (ba A0 (ba anB (ba Fe cl)))) Tryz.func184 fun⟨a2,a8⟩=>c5 λG=>⟨rfl,aCe _ bp bp bp bp a2 a8 G⟩
theorem anK:cC Kx Sh:=cT Xb 313000 [] (ba anI (ba aFB cl)) Tryz.func135 fun⟨a2,a8,bV,cZ,ea,iv⟩=>c5 λG=>⟨rfl,aCx _ bp bp a2 a8 bV cZ ea iv G⟩
theorem aFC:cC Gf aal:=cT ZX 252000 [] (ba anD cl) Tryz.func164 fun⟨a2,a8,bV,cZ,ea⟩=>c5 λG=>⟨rfl,ayC _ bp a2 a8 bV cZ ea G⟩
theorem aFD:cC Gh aan:=cT Z5 362000 [] (ba anE (ba anF cl)) Tryz.func105 fun⟨a2,a8,bV,cZ,ea⟩=>c5 λG=>⟨rfl,ayF _ bp bp a2 a8 bV cZ ea G⟩
theorem aFE:cC yd aap:=cT WX 293000 [] (ba anG (ba anH cl)) Tryz.func115 fun⟨a2,a8,bV,cZ,ea⟩=>c5 λG=>⟨rfl,ayH _ bp bp a2 a8 bV cZ ea G⟩
theorem aFF:cC DF aar:=cT W8 308000 [] (ba aFE cl) Tryz.func172 fun⟨a2,a8,bV,cZ,ea⟩=>c5 λG=>⟨rfl,ayK _ bp a2 a8 bV cZ ea G⟩
theorem aFG:cC Uy abk:=cT U9 327000 [] cl Tryz.func213 fun⟨a2,a8⟩=>c5 λG=>⟨rfl,aCl _  a2 a8 G⟩
theorem aFH:cC Ux abl:=cT U8 315000 [] (ba aFG cl) Tryz.func180 fun⟨a2,a8⟩=>c5 λG=>⟨rfl,aCn _ bp a2 a8 G⟩
theorem aFI:cC DG aat:=cT Xc 314000 [] (ba aFH cl) Tryz.func179 fun⟨a2,a8,bV,cZ,ea,iv,mM⟩=>c5 λG=>⟨rfl,aCB _ bp a2 a8 bV cZ ea iv mM G⟩
theorem aFJ:cC Uk aau:=cT KC 254000 [] (ba aFw (ba aFC (ba aFD (ba aFF (ba aFI cl))))) Tryz.func167 fun⟨a2,a8⟩=>c5 λG=>⟨rfl,ayP _ bp (λ_=>bp) (λ_=>bp) (λ_=>bp) (λ_=>bp) a2 a8 G⟩
theorem acv:cC DB Mr:=cT U6 247000 [] (ba aFJ cl) Tryz.func107 fun⟨a2,a8⟩=>c5 λG=>⟨rfl,ayV _ bp a2 a8 G⟩
theorem aFK:cC Uw aby:=cT W6 306000 [] (ba anK (ba acv cl)) Tryz.func127 fun⟨a2,a8,bV,cZ,ea,iv,mM⟩=>c5 λG=>⟨rfl,aCE _ bp bp a2 a8 bV cZ ea iv mM G⟩
theorem anL:cC tH H8:=cT W5 305000 [] (ba aFK cl) Tryz.func126 fun⟨a2,a8,bV,cZ,ea,iv,mM⟩=>c5 λG=>⟨rfl,aCF _ bp a2 a8 bV cZ ea iv mM G⟩
theorem acw:cC wF AJ:=cT KA 231000 [] (ba aFv (ba aFy (ba anF (ba aFx (ba aFz (ba anL cl)))))) Tryz.func79 fun⟨a2,a8⟩=>c5 λG=>⟨rfl,ayu _ bp (λ_=>bp) (λ_=>bp) (λ_=>bp) (λ_=>bp) (λ_=>bp) a2 a8 G⟩
theorem anM:cC Ks Re:=cT U5 246000 [] (ba acw cl) Tryz.func106 fun⟨a2,a8⟩=>c5 λG=>⟨rfl,ayz _ bp a2 a8 G⟩
theorem anN:cC Kt RP:=cT ED 249000 [] (ba A0 (ba Fe (ba anB (ba anJ (ba acu (ba anv (ba acs cl))))))) Tryz.func87 fun⟨a2,a8⟩=>c5 λG=>⟨rfl,aAI _ bp bp bp bp bp bp bp a2 a8 G⟩
theorem aFL:cC Uf aaw:=cT WJ 227000 [] (ba anM (ba acv cl)) Tryz.func75 fun⟨a2,a8⟩=>c5 λG=>⟨rfl,ayX _ bp bp a2 a8 G⟩
theorem aFM:cC Uh R2:=cT Eg 233000 [] (ba anN cl) Tryz.func81 fun⟨a2,a8⟩=>c5 λG=>⟨rfl,aBg _ bp a2 a8 G⟩
theorem aFN:k7 Tryz.prog On (yL Rj):=ZL (mf:=Pz) (kb:=255000) (own:=[17]) (vB (u4 (ba Ja (ba aFi (ba SE (ba SF cl))))) (vC m1)) mixed Tryz.func185 (by kernel_rfl) (by kernel_rfl) (λj=>j/1000=255) λargs mem d h=>by
 obtain⟨a,⟨rfl,aN⟩,rfl⟩:=ZN h;exact⟨xL rfl,aN.no,ay0 _ (oO rfl rfl) (oO rfl rfl) (oO rfl rfl) (oO rfl rfl) a.1 a.2 mem aN⟩
theorem aFO:k7 Tryz.prog Ul (yL Rn):=ZL (mf:=GU) (kb:=256000) (own:=[]) (vB (u4 (ba Ja (ba acs (ba aFf cl)))) (vC m1)) mixed Tryz.func186 (by kernel_rfl) (by kernel_rfl) (λj=>j/1000=256) λargs mem d h=>by
 obtain⟨a,⟨rfl,aN⟩,rfl⟩:=ZN h;exact⟨xL rfl,aN.no,ay8 _ (oO rfl rfl) (oO rfl rfl) (oO rfl rfl) a mem aN⟩
theorem aFP:k7 Tryz.prog Uj (yL aaD):=ZL (mf:=vy) (kb:=248000) (own:=[]) (vB (u4 (ba Ja (ba acu (ba SF cl)))) (vC (pW aFN (pW aFO m1)))) mixed Tryz.func140 (by kernel_rfl) (by kernel_rfl) (λj=>j/1000=248) λargs mem d h=>by
 obtain⟨a,⟨rfl,aN⟩,rfl⟩:=ZN h;exact⟨xL rfl,aN.hC,azN _ (oO rfl rfl) (xb rfl rfl) (xb rfl rfl) (oO rfl rfl) (oO rfl rfl) a mem aN⟩
theorem aFQ:k7 Tryz.prog Om (qP MC):=PT (mf:=GS) (kb:=229000) (own:=[]) (vB (u4 (ba Ja (ba Fe cl))) (vC (pW aFP m1))) mixed Tryz.func77 (by kernel_rfl) (by kernel_rfl) λargs mem cg h=>by
 obtain⟨a,⟨rfl,aN⟩,rfl⟩:=Lr h;exact⟨xL rfl,azW _ (xb rfl rfl) (oO rfl rfl) (oO rfl rfl) a mem aN⟩
theorem aFR:k7 Tryz.prog Ug (qP aaR):=PT (mf:=B8) (kb:=228000) (own:=[22]) (vB (u4 cl) (vC m1)) mixed Tryz.func76 (by kernel_rfl) (by kernel_rfl) λargs mem cg h=>by
 obtain⟨a,⟨rfl,aN⟩,rfl⟩:=Lr h;exact⟨xL rfl,aAg _  a.1 a.2 mem aN⟩
theorem aFS:cC Ud R9:=xK Ef 217000 [] (ba aFL (ba Ja (ba Fe (ba acw (ba aFM cl))))) (pW aFR (pW aFQ m1)) Tryz.func33 fun⟨a2,a8⟩=>c5 λG=>⟨rfl,aB5 _ bp (xb rfl rfl) (xb rfl rfl) bp bp bp bp a2 a8 G⟩
theorem aFT:cC wH aa4:=cT Xa 310000 [] (ba Fe cl) Tryz.func176 fun⟨a2,a8,bV,cZ,ea,iv,mM,oq⟩=>c5 λG=>⟨rfl,aBv _ bp a2 a8 bV cZ ea iv mM oq G⟩
theorem aFU:cC Ui aa6:=cT KB 235000 [] (ba aFT cl) Tryz.func175 fun⟨a2,a8,bV⟩=>c5 λG=>⟨rfl,aBy _ (λh=>absurd h (by decide)) (λ_=>bp) a2 a8 bV G⟩
theorem aFV:cC Ut abj:=cT U7 301000 [] cl Tryz.func123 fun⟨a2,a8⟩=>c5 λG=>⟨rfl,aCj _  a2 a8 G⟩
theorem acx:cC DE MY:=cT W4 303000 [] (ba anK cl) Tryz.func73 fun⟨a2,a8,bV,cZ,ea⟩=>c5 λG=>⟨rfl,aCA _ bp a2 a8 bV cZ ea G⟩
theorem aFW:cC Ur aa7:=cT W3 299000 [] (ba aFU cl) Tryz.func121 fun⟨a2,a8⟩=>c5 λG=>⟨rfl,aBC _ bp a2 a8 G⟩
theorem aFX:k7 Tryz.prog Uv (qP M3):=PT (mf:=Ox) (kb:=304000) (own:=[]) (vB (u4 (ba acw (ba anL cl))) (vC m1)) mixed Tryz.func125 (by kernel_rfl) (by kernel_rfl) λargs mem cg h=>by
 obtain⟨a,⟨rfl,aN⟩,rfl⟩:=Lr h;exact⟨xL rfl,aCM _ (oO rfl rfl) (oO rfl rfl) a mem aN⟩
theorem aFY:cC Uo abz:=xK WU 290000 [6] (ba acx (ba Nb cl)) (pW aFX m1) Tryz.func66 fun⟨a2,a8,bV,cZ,ea⟩=>c5 λG=>⟨rfl,aCQ _ bp bp (xb rfl rfl) a2 a8 bV cZ ea G⟩
theorem aFZ:cC Up abB:=cT WZ 295000 [] (ba anM cl) Tryz.func117 λa2=>c5 λG=>⟨rfl,aCX _ bp a2 G⟩
theorem aF0:cC Uq abD:=cT W0 296000 [] (ba acv cl) Tryz.func118 fun⟨a2,a8⟩=>c5 λG=>⟨rfl,aC0 _ bp a2 a8 G⟩
theorem aF1:cC Oo abF:=cT W1 297000 [] (ba anx cl) Tryz.func119 λa2=>c5 λG=>⟨rfl,aC2 _ bp a2 G⟩
theorem anO:cC Kv Sm:=cT WR 287000 [] (ba aFZ (ba aF0 (ba aF1 cl))) Tryz.func63 fun⟨a2,a8,bV,cZ,ea⟩=>c5 λG=>⟨rfl,aC4 _ bp bp bp a2 a8 bV cZ ea G⟩
theorem aF2:cC Um abJ:=cT WS 288000 [] (ba SE (ba SF (ba Fe (ba anI (ba anN (ba aFW cl)))))) Tryz.func64 fun⟨a2,a8,bV,cZ,ea,iv⟩=>c5 λG=>⟨rfl,aDb _ bp bp bp bp bp bp a2 a8 bV cZ ea iv G⟩
theorem aF3:cC UA abY:=cT abT 369000 [] (ba aFu cl) Tryz.func27 fun⟨a2,a8,bV,cZ,ea⟩=>⟨rfl,aDI _ bp a2 a8 bV cZ ea⟩
theorem aF4:cC UB abZ:=cT abU 371000 [] cl Tryz.func30 fun⟨a2,a8⟩=>c5 λG=>⟨rfl,aDK _  a2 a8 G⟩
theorem aF5:cC UC St:=cT Xd 372000 [] (ba anO (ba acx cl)) Tryz.func31 fun⟨a2,a8,bV,cZ,ea⟩=>c5 λG=>⟨rfl,aDN _ bp bp a2 a8 bV cZ ea G⟩
theorem aF6:cC BC ab2:=cT abX 378000 [] (ba aFr cl) Tryz.func62 fun⟨a2,a8⟩=>c5 λG=>⟨rfl,aDO _ bp a2 a8 G⟩
theorem aF7:cC Oq ab6:=cT Zx 374000 [] (ba aFt cl) Tryz.func34 fun⟨a2,a8⟩=>c5 λG=>⟨rfl,aD2 _ bp a2 a8 G⟩
def aF8:Go.Shelf.Ren:=⟨fun|5=>122|8=>178|7=>177|19=>211|20=>212|10=>202|11=>203|12=>204|13=>205|14=>206|15=>207|16=>208|17=>209|18=>210|30=>218|31=>219|32=>220|33=>221|34=>222|35=>194|40=>230|n=>n,fun|23=>22|25=>3|3=>3|32=>166|22=>22|0=>0|44=>193|46=>175|4=>4|36=>186|35=>185|41=>149|5=>5|9=>9|53=>199|57=>203|63=>216|64=>146|n=>n,fun|n=>n⟩
theorem aF9:Go.Proofs.SlLaysM.n5 Tryz.prog aF8 where
 mixed:=by kernel_rfl
 f5 := ⟨"slices.Sort[[]int,int]", by decide, Tryz.func122.trans (congrArg some (by kernel_rfl))⟩
 f7 := ⟨"slices.pdqsortOrdered[int]", by decide, Tryz.func177.trans (congrArg some (by kernel_rfl))⟩
 f8:=Tryz.func178.trans (congrArg some (by kernel_rfl))
 f10 := ⟨"slices.insertionSortOrdered[int]", by decide, Tryz.func202.trans (congrArg some (by kernel_rfl))⟩
 f11 := ⟨"slices.heapSortOrdered[int]", by decide, Tryz.func203.trans (congrArg some (by kernel_rfl))⟩
 f12 := ⟨"slices.breakPatternsOrdered[int]", by decide, Tryz.func204.trans (congrArg some (by kernel_rfl))⟩
 f13 := ⟨"slices.choosePivotOrdered[int]", by decide, Tryz.func205.trans (congrArg some (by kernel_rfl))⟩
 f14 := ⟨"slices.reverseRangeOrdered[int]", by decide, Tryz.func206.trans (congrArg some (by kernel_rfl))⟩
 f15 := ⟨"slices.partialInsertionSortOrdered[int]", by decide, Tryz.func207.trans (congrArg some (by kernel_rfl))⟩
 f16 := ⟨"cmp.Less[int]", by decide, Tryz.func208.trans (congrArg some (by kernel_rfl))⟩
 f17 := ⟨"slices.partitionEqualOrdered[int]", by decide, Tryz.func209.trans (congrArg some (by kernel_rfl))⟩
 f18 := ⟨"slices.partitionOrdered[int]", by decide, Tryz.func210.trans (congrArg some (by kernel_rfl))⟩
 f19:=Tryz.func211.trans (congrArg some (by kernel_rfl))
 f20:=Tryz.func212.trans (congrArg some (by kernel_rfl))
 f30 := ⟨"slices.siftDownOrdered[int]", by decide, Tryz.func218.trans (congrArg some (by kernel_rfl))⟩
 f31:=Tryz.func219.trans (congrArg some (by kernel_rfl))
 f32:=Tryz.func220.trans (congrArg some (by kernel_rfl))
 f33 := ⟨"slices.medianAdjacentOrdered[int]", by decide, Tryz.func221.trans (congrArg some (by kernel_rfl))⟩
 f34 := ⟨"slices.medianOrdered[int]", by decide, Tryz.func222.trans (congrArg some (by kernel_rfl))⟩
 f35 := ⟨"cmp.isNaN[int]", by decide, Tryz.func194.trans (congrArg some (by kernel_rfl))⟩
 f40 := ⟨"slices.order2Ordered[int]", by decide, Tryz.func230.trans (congrArg some (by kernel_rfl))⟩
 t0:=Tryz.underlying0
 a0:=Tryz.isAgg0
 z0:=Tryz.sizeOf0
 v0:=Tryz.zeroValue0
 t3:=Tryz.underlying3
 a3:=Tryz.isAgg3
 z3:=Tryz.sizeOf3
 v3:=Tryz.zeroValue3
 t4:=Tryz.underlying4
 a4:=Tryz.isAgg4
 z4:=Tryz.sizeOf4
 v4:=Tryz.zeroValue4
 t5:=Tryz.underlying5
 a5:=Tryz.isAgg5
 z5:=Tryz.sizeOf5
 v5:=Tryz.zeroValue5
 t9:=Tryz.underlying9
 a9:=Tryz.isAgg9
 z9:=Tryz.sizeOf9
 v9:=Tryz.zeroValue9
 t22:=Tryz.underlying22
 a22:=Tryz.isAgg22
 z22:=Tryz.sizeOf22
 v22:=Tryz.zeroValue22
 t23:=Tryz.underlying22
 a23:=Tryz.isAgg22
 z23:=Tryz.sizeOf22
 v23:=Tryz.zeroValue22
 t25:=Tryz.underlying3
 a25:=Tryz.isAgg3
 z25:=Tryz.sizeOf3
 v25:=Tryz.zeroValue3
 t32:=Tryz.underlying166
 a32:=Tryz.isAgg166
 z32:=Tryz.sizeOf166
 v32:=Tryz.zeroValue166
 t35:=Tryz.underlying185
 a35:=Tryz.isAgg185
 z35:=Tryz.sizeOf185
 v35:=Tryz.zeroValue185
 t36:=Tryz.underlying186
 a36:=Tryz.isAgg186
 z36:=Tryz.sizeOf186
 v36:=Tryz.zeroValue186
 t41:=Tryz.underlying149
 a41:=Tryz.isAgg149
 z41:=Tryz.sizeOf149
 v41:=Tryz.zeroValue149
 t44:=Tryz.underlying193
 a44:=Tryz.isAgg193
 z44:=Tryz.sizeOf193
 v44:=Tryz.zeroValue193
 t46:=Tryz.underlying175
 a46:=Tryz.isAgg175
 z46:=Tryz.sizeOf175
 v46:=Tryz.zeroValue175
 t53:=Tryz.underlying199
 a53:=Tryz.isAgg199
 z53:=Tryz.sizeOf199
 v53:=Tryz.zeroValue199
 t57:=Tryz.underlying203
 a57:=Tryz.isAgg203
 z57:=Tryz.sizeOf203
 v57:=Tryz.zeroValue203
 t63:=Tryz.underlying216
 a63:=Tryz.isAgg216
 z63:=Tryz.sizeOf216
 v63:=Tryz.zeroValue216
 t64:=Tryz.underlying146
 a64:=Tryz.isAgg146
 z64:=Tryz.sizeOf146
 v64:=Tryz.zeroValue146
theorem aGa:k7 Tryz.prog Us (qP Na):=aD8 aF9 rfl ⟨Tryz.f122,_,Tryz.func122,rfl,by kernel_rfl⟩
theorem aGb:k7 Tryz.prog Uu (Md Su):=axw (mf:=Ow) (kb:=302000) (own:=[]) (vB (u4 cl) (vC m1)) mixed Tryz.func124 (by kernel_rfl) (by kernel_rfl) (λ_=>False) λargs mem d k h=>by
 obtain⟨a,⟨rfl,aN⟩,aQ⟩:=axy h
 cases aQ;exact⟨xL rfl,λ_ h=>h.elim,λh=>h,aEa _  a mem aN⟩
theorem aGc:cC Un ab9:=xK WT 289000 [1000000000045] (ba acx (ba aFV cl)) (pW aGa (pW aGb m1)) Tryz.func65 fun⟨a2,a8,bV,cZ,ea⟩=>c5 λG=>⟨rfl,aEi _ (xb rfl rfl) (xb rfl rfl) bp bp a2 a8 bV cZ ea G⟩
theorem anP:cC zD xJ:=cT WQ 286000 [] (ba anO (ba aF2 (ba aGc (ba aFY cl)))) Tryz.func28 fun⟨a2,a8,bV,cZ,ea⟩=>c5 λG=>⟨rfl,aEm _ bp bp bp bp a2 a8 bV cZ ea G⟩
theorem aGd:cC Uz ack:=cT abW 368000 [] (ba aF6 (ba anP (ba aF5 (ba aF4 cl)))) Tryz.func26 λ_=>⟨rfl,aED _ bp bp bp bp⟩
theorem aGe:cC aqT acn:=cT abV 364000 [] (ba aGd (ba aF3 (ba aFS (ba anP (ba aF7 cl))))) Tryz.func5 fun⟨a2,a8,bV,cZ,ea⟩=>⟨rfl,aES _ bp bp bp bp bp a2 a8 bV cZ ea⟩
end Go.Mini
