/- A part of the proof. -/
import Derived.Test.YtgpioapepokkbaaGreatM04
set_option linter.unusedSimpArgs false
set_option linter.unusedVariables false
set_option maxRecDepth 100000
set_option maxHeartbeats 4000000
noncomputable section
open Bool renaming and_eq_true->eX,and_false->gQ,eq_iff_iff->q8,false_and->dm,false_or->lr,not_false->cv,not_not->El,not_true->bX,or_false->lY,true_and->eF,true_or->nr
open Decidable renaming em->dG
open Int renaming add_zero->tw,ofNat_le->adZ,toNat_natCast->nt
open List renaming all_eq_true->h2,any_eq_false->ad0,append_assoc->gZ,append_inj->Ag,append_nil->gk,concat_eq_append->zS,cons_append->jc,drop->lA,drop_eq_nil_of_le->s4,drop_left->Cg,drop_zero->o1,eq_nil_or_concat->zR,ext_getElem?->pU,filter_append->ue,filter_cons_of_neg->yW,filter_cons_of_pos->yV,filter_eq_self->aeg,filter_nil->rz,flatten_cons->j8,foldl_append->UE,getD_eq_getElem?_getD->fP,getElem?_append_left->uA,getElem?_cons_succ->Ut,getElem?_cons_zero->Fz,getElem?_drop->ll,getElem?_eq_getElem->bL,getElem?_eq_none->nh,getElem?_eq_some_iff->ef,getElem?_map->bb,getElem?_range->s5,getElem_mem->s7,length->o,length_append->fE,length_cons->jN,length_eq_zero_iff->UF,length_filter_le->H4,length_map->af,length_nil->mj,length_replicate->aei,length_set->kA,length_singleton->AV,length_take->gO,mapM_cons->lT,mapM_nil->Cc,map_append->mA,map_congr_left->oV,map_cons->e8,map_drop->aeh,map_map->lX,map_nil->cM,map_take->yu,mem_cons->hF,mem_cons_of_mem->ha,mem_cons_self->gP,mem_filter->Ht,mem_map->fZ,mem_map_of_mem->tW,mem_of_getElem?->eN,mem_range->od,mem_singleton->tx,nil_append->ju,pairwise_append->UW,pairwise_cons->Bn,range->hR,range_succ->HI,replicate->eL,replicate_succ->qF,set_cons_succ->ac0,take->lz,take_add_one->fQ,take_append->zs,take_length->k4,take_of_length_le->du,take_succ_cons->uN,take_zero->o2
open List.cons renaming inj->tv,injEq->bn
open Nat renaming add_comm->xq,le_of_lt->AH,le_refl->cA,lt_or_ge->h1,mul_one->dU,one_mul->sV,reduceEqDiff->tI,sub_self->xA,sub_zero->Iz,succ_mul->qD,zero_add->ku,zero_le->fY,zero_mul->xQ
open Option renaming bind_none->iy,bind_some->hE
open Option.some renaming inj->ln,injEq->cz
open Prod renaming ext->dV,ext_iff->uS
open Prod.mk renaming injEq->eU
open Rat renaming add_zero->sD,div_def->DC,intCast_add->tV,intCast_mul->oz,intCast_natCast->oA,mul_zero->m2,sub_eq_add_neg->TN,zero_den->adb,zero_mul->w0,zero_num->ada
namespace Go.Mini
open Go
def fx (cs:List av)(x:Rat)(c:av):Rat:=if ((dP cs c.1 (c.2.2.1+1):Int):Rat)<=x then (c.2.2.2:Rat) else (c.2.2.2:Rat)/((iz cs c.1 c.2.2.1:Int):Rat)*pos (x-((dP cs c.1 c.2.2.1:Int):Rat))
theorem acX {H:List Int}{cs:List av}(h:hL H cs=true)(x:Nat->Rat){c:av}(E:c∈cs):(cf H cs).iT x (dJ c)=fx cs (x c.1.toNat) c:=by
 have U:=(m3.1 h).2.2.2 c E;obtain⟨bm,bN,bO,cp⟩:=c;dsimp only at U;obtain⟨bm,rfl⟩:∃k:Nat,bm=(k:Int):=⟨bm.toNat,by omega⟩
 obtain⟨bO,rfl⟩:∃k:Nat,bO=(k:Int):=⟨bO.toNat,by omega⟩
 unfold Day.iT fx Day.w;have D:=yH h bm (bO+1);have G:=yH h bm bO;have ag:=abD h bm bO;have aw:(dJ ((bm:Int),bN,(bO:Int),cp)).aC=bm:=nt bm;have aB:(dJ ((bm:Int),bN,(bO:Int),cp)).bH=bO:=nt bO;have cI:(dJ ((bm:Int),bN,(bO:Int),cp)).am=(cp:Rat):=rfl;rw[aw,aB,cI,<-D,<-G,<-ag]
 rfl
structure ia (l:List av):Prop where
 len:(o l)<=12
 c:∀c∈l,0<=c.1/\c.1<60 /\ -1<=c.2.1/\c.2.1<60/\0<=c.2.2.1/\c.2.2.1<10/\0<=c.2.2.2/\c.2.2.2<=1000000000000000
 one:∀c∈l,∀c'∈l,c.1=c'.1
theorem ia.cs {l:List av}(h:ia l):yO l:=⟨by have:=h.len;omega,λc E=>by have:=h.c c E;omega⟩
abbrev LW:List av->List Data:=λ(l:List av)=>[.X (l.map bR)]
def LY:=bU LW λ(l:List av)=>cq (ia l) (.same (.bool true))
theorem acY:∀a b,LW a=LW b->a=b:=by
  intro fK ab h;simp only[bn,Data.X.injEq] at h;exact map_inj oC _ _ h.1
@[go_sem] theorem ao6 (l:List av)(E:ia l):LY [.X (l.map bR)]=some (.same (.bool true)):=(b3 acY l).trans (cw E _)
theorem ao7 (T:br)  (l:List av) (E:ia l):WP T Tl (.same (.bool true)) [.J (.X (l.map bR))]:=by
 refine b4 ?_;simp only[Tl];have hlen:=E.len;have d0:decide ((o l:Int)>2000)=false:=cY;simp only[go_sem,go_sem_proc,d0,af];refine dw [0] [] (λ(i:Nat) tm m=>i<=o l/\tm 3=.J (.int .i64 i)) (λi=>o l-i) 0 (by refine⟨by omega,rfl⟩) ?_;intro vs ms a7 aY;simp only[go_sem,go_sem_proc,af] at a7 aY;subst a7 aY;rintro i tm m R hm ⟨Q,cI⟩;simp only[go_sem,go_sem_proc,bn] at R;have b8:=R;rcases dG (i<o l) with az|cb
 ·have d1:decide ((i:Int)<(o l:Int))=true:=dn;have cn:=eY (i:=i) (by omega);obtain⟨⟨bm,bN,bO,cp⟩,I⟩:∃c,l[i]?=some c:=⟨_,bL az⟩;obtain⟨⟨mZ,pj,z3,z4⟩,a8⟩:∃c,l[0]?=some c:=⟨_,bL (by omega)⟩;have jr:=E.c _ (eN I);have qJ:=E.one _ (eN I) _ (eN a8);dsimp only at jr qJ;subst qJ;have c7:decide (bm<0)=false:=cY;have c2:decide (bm>=60)=false:=cY;have iU:decide (bN < -1)=false:=cY;have DW:decide (bN>=60)=false:=cY;have ao8:decide (bO<0)=false:=cY;have ao9:decide (bO>=10)=false:=cY;have HW:decide (cp<0)=false:=cY;have apa:decide (cp>1000000000000000)=false:=cY;have rW:0<o l:=by omega
  refine aQ ?_;repeat' (intro h<;>simp only[h,go_sem,go_sem_proc,b8,cI,I,a8,d1,cn,c7,c2,iU,DW,ao8,ao9,HW,apa,rW,bR,af,bb,Int.toNat_zero,bne,beq_self_eq_true,bX]<;>try refine al ?_ ?_)
  exact⟨i+1,by omega,by omega,rfl⟩
 ·have d1:decide ((i:Int)<(o l:Int))=false:=cY;refine aQ ?_;repeat' (intro h<;>simp only[h,go_sem,go_sem_proc,b8,cI,d1,af]<;>try refine al ?_ ?_)
abbrev TD:(List av)×Int->List Data:=λ(l,r)=>[.X (l.map bR),.int .i64 r]
def TE:=bU TD λ(l,r)=>cq (yO l) (.same (.cQ [.int .i64 (dA l λc=>if c.2.2.1<r then c.2.2.2 else 0),.int .i64 (dA l λc=>if c.2.2.1=r then c.2.2.2 else 0)]))
theorem apb:∀a b,TD a=TD b->a=b:=by
  rintro⟨fK,fq⟩ ⟨ab,eV⟩ h;simp only[bn,Data.X.injEq,Data.int.injEq,true_and,and_true] at h;exact dV (map_inj oC _ _ h.1) h.2
@[go_sem] theorem apc (l:List av)(r:Int)(E:yO l):TE [.X (l.map bR),.int .i64 r]=some (.same (.cQ [.int .i64 (dA l λc=>if c.2.2.1<r then c.2.2.2 else 0),.int .i64 (dA l λc=>if c.2.2.1=r then c.2.2.2 else 0)])):=(b3 apb (l,r)).trans (cw E _)
theorem apd (T:br)  (l:List av) (r:Int) (E:yO l):WP T Tm (.same (.cQ [.int .i64 (dA l λc=>if c.2.2.1<r then c.2.2.2 else 0),.int .i64 (dA l λc=>if c.2.2.1=r then c.2.2.2 else 0)])) [.J (.X (l.map bR)),.J (.int .i64 r)]:=by
 refine b4 ?_;simp only[Tm];have hlen:=E.1;simp only[go_sem,go_sem_proc,af];refine dw [0,1] [] (λ(i:Nat) tm m=>i<=o l/\tm 8=.J (.int .i64 i)/\tm 6=.J (.int .i64 (dA (l.take i) λc=>if c.2.2.1<r then c.2.2.2 else 0))/\tm 7=.J (.int .i64 (dA (l.take i) λc=>if c.2.2.1=r then c.2.2.2 else 0))) (λi=>o l-i) 0 (by refine⟨by omega,rfl,rfl,rfl⟩) ?_;intro vs ms a7 aY;simp only[go_sem,go_sem_proc,af] at a7 aY;subst a7 aY;rintro i tm m R hm ⟨Q,cS,dB,bQ⟩;simp only[go_sem,go_sem_proc,bn] at R;obtain⟨b8,aw⟩:=R;rcases dG (i<o l) with az|cb
 ·have d1:decide ((i:Int)<(o l:Int))=true:=dn;have cn:=eY (i:=i) (by omega);obtain⟨⟨bm,bN,bO,cp⟩,I⟩:∃c,l[i]?=some c:=⟨_,bL az⟩;have jr:=E.2 _ (eN I);have s1:=E.sum (λc=>c.2.2.1<r) i;have s2:=E.sum (λc=>c.2.2.1=r) i;have t1:=Tu I λc=>if c.2.2.1<r then c.2.2.2 else 0;have t2:=Tu I λc=>if c.2.2.1=r then c.2.2.2 else 0;generalize dA (l.take i) (λc=>if c.2.2.1<r then c.2.2.2 else 0)=a at *;generalize dA (l.take i) (λc=>if c.2.2.1=r then c.2.2.2 else 0)=b at *;dsimp only at jr t1 t2;have fc:IntKind.i64.wrap (a+cp)=a+cp:=by rw[eQ _]
  have m5:IntKind.i64.wrap (b+cp)=b+cp:=by rw[eQ _]
  rcases c7:decide (bO<r)
  ·rw[aq (of_decide_eq_false c7),tw] at t1;rcases c2:(bO==r)
   ·rw[aq (by simpa using c2),tw] at t2;refine aQ ?_;repeat' (intro h<;>simp only[h,go_sem,go_sem_proc,b8,aw,dB,bQ,cS,I,d1,cn,fc,m5,c7,c2,bR,af,bb]<;>try refine al ?_ ?_)
    exact⟨i+1,by omega,by omega,rfl,by rw[t1],by rw[t2]⟩
   ·rw[aj (beq_iff_eq.1 c2)] at t2;refine aQ ?_;repeat' (intro h<;>simp only[h,go_sem,go_sem_proc,b8,aw,dB,bQ,cS,I,d1,cn,fc,m5,c7,c2,bR,af,bb]<;>try refine al ?_ ?_)
    exact⟨i+1,by omega,by omega,rfl,by rw[t1],by rw[t2]⟩
  ·have c2:(bO==r)=false:=by have:=of_decide_eq_true c7;simp;omega
   rw[aj (of_decide_eq_true c7)] at t1;rw[aq (by simpa using c2),tw] at t2;refine aQ ?_;repeat' (intro h<;>simp only[h,go_sem,go_sem_proc,b8,aw,dB,bQ,cS,I,d1,cn,fc,m5,c7,c2,bR,af,bb]<;>try refine al ?_ ?_)
   exact⟨i+1,by omega,by omega,rfl,by rw[t1],by rw[t2]⟩
 ·have d1:decide ((i:Int)<(o l:Int))=false:=cY;rw[du (by omega)] at dB bQ;refine aQ ?_;repeat' (intro h<;>simp only[h,go_sem,go_sem_proc,b8,aw,dB,bQ,cS,d1,af]<;>try refine al ?_ ?_)
def lM {α:Type}(enc:α->List O)(l:List α):List O:=(l.map enc).flatten
theorem ape {α:Type}{enc:α->List O}{sz:Nat}(h:∀a,(enc a).length=sz)(l:List α):(lM enc l).length=o l*sz:=by
 unfold lM
 induction l with
 |nil=>simp
 |cons a l aA=>rw[e8,j8,fE,aA,h,jN,qD];omega
theorem acZ {α:Type}{enc:α->List O}{sz:Nat}(h:∀a,(enc a).length=sz):∀(l:List α) (i:Nat),i<(o l)->∀b,lz (i*sz) (lM enc l)++enc b++lA (i*sz+sz) (lM enc l)=lM enc (l.set i b)
 | [],i,Q,b=>absurd Q (by simp)
 |a::l,0,_,b=>by
  have aM:=h a;unfold lM;simp only[xQ,ku,o2,ju,e8,j8,List.set_cons_zero];rw[<-aM,Cg]
 |a::l,i+1,Q,b=>by
  have aM:=h a;have aA:=acZ h l i (by simpa using Q) b;unfold lM at aA ⊢;simp only[e8,j8,ac0];rw[<-aA,qD,zs,List.drop_append,aM];rw[du (by omega),s4 (by omega),ju];rw[show i*sz+sz-sz=i*sz by omega,show i*sz+sz+sz-sz=i*sz+sz by omega]
  simp only[gZ]
def dX {α:Type}(n:Nat)(q:Nat->α):List α:=(hR n).map q
theorem rl {α:Type}(n:Nat)(q:Nat->α):(dX n q).length=n:=by simp[dX]
theorem DX {α:Type}{n i:Nat}(q:Nat->α)(h:i<n):(dX n q)[i]?=some (q i):=by
 unfold dX;rw[bb,s5 h];rfl
theorem ac1 {α:Type}{n:Nat}{l:List α}{q:Nat->α}(ax:(o l)=n)(h:∀i,i<n->l[i]?=some (q i)):l=dX n q:=by
 apply pU;intro i;rcases h1 i n with Q|Q
 ·rw[h i Q,DX q Q]
 ·rw[nh (by omega),nh (by rw[rl];exact Q)]
theorem ac2 {α:Type}{n i:Nat}(q:Nat->α)(b:α):(dX n q).set i b=dX n λj=>if j=i then b else q j:=by
 refine ac1 (by rw[kA,rl]) λj ay=>?_;rw[List.getElem?_set]
 by_cases h:i=j
 ·rw[aj h,aj (by rw[rl];omega),aj h.symm]
 ·rw[aq h,DX _ ay,aq (Ne.symm h)]
theorem pw {α:Type}{n:Nat}{p q:Nat->α}(h:∀i,i<n->p i=q i):dX n p=dX n q:=oV λi Q=>h i (od.1 Q)
def rm:Option bd->List O
 |none=>[.J (.int .i64 0),.nil,.J (.int .i64 0),.nil]
 |some f=>(aH f).map .J
theorem ac3:∀a,(rm a).length=4
 |none=>rfl
 |some _=>rfl
theorem ac4 (n:Nat):(eL n [O.J (.int .i64 0),O.nil,O.J (.int .i64 0),O.nil]).flatten=lM rm (dX n λ_=>none):=by
 unfold lM dX;rw[lX]
 congr 1
 apply pU;intro i;rw[bb];rcases h1 i n with Q|Q
 ·rw[s5 Q,List.getElem?_replicate,aj Q];rfl
 ·rw[nh (by simpa using Q),nh (by simpa using Q)];rfl
theorem ac5 (l:List bd):lM rm (l.map some)=bK aH l:=by
 unfold lM bK
 induction l with
 |nil=>rfl
 |cons f l aA =>
  simp only[e8,j8,mA];rw[aA];rfl
theorem TF {n i:Nat}{q:Nat->Option bd}(h:i<n):(i*4+4<=(lM rm (dX n q)).length)=True:=eq_true (by rw[ape ac3,rl];omega)
theorem TG {n i:Nat}{q:Nat->Option bd}(h:i<n)(a:Int)(b:List Int)(c:Int)(d:List Int):
  lz (i*4) (lM rm (dX n q))++[O.J (.int .i64 a),.J (.X (b.map Y)),.J (.int .i64 c),.J (.X (d.map Y))]++lA (i*4+4) (lM rm (dX n q))=lM rm (dX n λj=>if j=i then some ((a,b),(c,d)) else q j):=by
 rw[<-ac2];exact acZ ac3 (dX n q) i (by rw[rl];exact h) (some ((a,b),(c,d)))
structure xa (l:List av) (x:Rat):Prop where
 own:ia l
 pos:0<=x
 sz:eB 460 x
theorem ia.less {l:List av}(h:ia l){c:av}(E:c∈l)(r:Int):(dA l λc'=>if c'.2.2.1<r then c'.2.2.2 else 0)=dP l c.1 r:=by
 unfold dP;refine Hu λc' jr=>?_;have:=h.one c' jr c E
 by_cases D:c'.2.2.1<r
 ·rw[aj D,aj ⟨this,D⟩]
 ·rw[aq D,aq λh=>D h.2]
theorem TH (l:List av)(a1 cW:av->Int):dA l (λc=>a1 c+cW c)=dA l a1+dA l cW:=by
 induction l with
 |nil=>simp[dA]
 |cons c l aA=>simp only[dA,aA];omega
theorem ia.same {l:List av}(h:ia l){c:av}(E:c∈l)(r:Int):(dA l λc'=>if c'.2.2.1=r then c'.2.2.2 else 0)=iz l c.1 r:=by
 have D:=h.less E r;have G:=h.less E (r+1)
 have ag:(dA l λc'=>if c'.2.2.1<r+1 then c'.2.2.2 else 0)=(dA l λc'=>if c'.2.2.1<r then c'.2.2.2 else 0)+dA l λc'=>if c'.2.2.1=r then c'.2.2.2 else 0:=by
  rw[<-TH];refine Hu λc _=>?_
  by_cases dp:c.2.2.1<r
  ·rw[aj (by omega),aj dp,aq (by omega)];omega
  ·rw[aq dp]
   by_cases dN:c.2.2.1=r
   ·rw[aj (by omega),aj dN];omega
   ·rw[aq (by omega),aq dN];omega
 unfold iz;omega
theorem ia.bound {l:List av}(h:ia l)(p:av->Prop)[DecidablePred p]:0<=dA l (λc=>if p c then c.2.2.2 else 0)/\dA l (λc=>if p c then c.2.2.2 else 0)<=12000000000000000:=by
 have:=LC (cs:=l) (a1:=λc=>if p c then c.2.2.2 else 0) (B:=1000000000000000) (by omega) λc E=>by
  have:=h.c c E
  try dsimp only
  split<;>omega
 have:=h.len;omega
theorem ac6 (cs:List av)(i r:Int):iz cs i r=dA cs λc=>if c.1=i/\c.2.2.1=r then c.2.2.2 else 0:=by
 have ag:dP cs i (r+1)=dP cs i r+dA cs λc=>if c.1=i/\c.2.2.1=r then c.2.2.2 else 0:=by
  unfold dP;rw[<-TH];refine Hu λc _=>?_
  split<;>split<;>split<;>omega
 unfold iz;omega
theorem apf {cs:List av}{a1:av->Int}(h:∀c∈cs,0<=a1 c){c:av}(E:c∈cs):a1 c<=dA cs a1:=by
 induction cs with
 |nil=>cases E
 |cons a l aA =>
  simp only[dA];have au:=h a gP
  have D:0<=dA l a1:=by
   have:∀l:List av,(∀c∈l,0<=a1 c)->0<=dA l a1:=by
    intro l
    induction l with
    |nil=>intro _;exact Int.le_refl _
    |cons b l ih2=>intro a6;simp only[dA];have:=a6 b gP;have:=ih2 λc E=>a6 c (ha _ E);omega
   exact this l λc E=>h c (ha _ E)
  rcases hF.1 E with rfl|E
  ·omega
  ·have:=aA (λc E=>h c (ha _ E)) E;omega
theorem ac7 {cs:List av}(h:∀c∈cs,0<=c.2.2.2){c:av}(E:c∈cs):c.2.2.2<=iz cs c.1 c.2.2.1:=by
 rw[ac6];have:=apf (a1:=λc'=>if c'.1=c.1/\c'.2.2.1=c.2.2.1 then c'.2.2.2 else 0) (λc' jr=>by have:=h c' jr;split<;>omega) E;rwa [aj ⟨rfl,rfl⟩] at this
section
variable {cs:List av} {x:Rat} {c:av}
theorem TI (cs:List av)(i r:Int):((dP cs i (r+1):Int):Rat)=((dP cs i r:Int):Rat)+((iz cs i r:Int):Rat):=by
 rw[<-tV]
 congr 1
 unfold iz;omega
theorem TJ (aL:∀c∈cs,0<=c.2.2.2)(E:c∈cs)(h:x-((dP cs c.1 c.2.2.1:Int):Rat)<=0):fx cs x c=0:=by
 unfold fx;have D:=ac7 aL E;have G:=aL c E;rw[TI]
 split
 ·rename_i ag
  have aR:((iz cs c.1 c.2.2.1:Int):Rat)<=((0:Int):Rat):=by
   have:((0:Int):Rat)=0:=rfl;rw[this];generalize ((dP cs c.1 c.2.2.1:Int):Rat)=u at *;grind
  have bs:iz cs c.1 c.2.2.1<=0:=by exact_mod_cast aR
  rw[show c.2.2.2=0 by omega];rfl
 ·rw[sE h,m2]
theorem ac8 (h:((iz cs c.1 c.2.2.1:Int):Rat)<=x-((dP cs c.1 c.2.2.1:Int):Rat)):fx cs x c=(c.2.2.2:Rat):=by
 unfold fx;rw[TI,aj];generalize ((dP cs c.1 c.2.2.1:Int):Rat)=u at *;generalize ((iz cs c.1 c.2.2.1:Int):Rat)=s at *;grind
theorem ac9 (au:0<=x-((dP cs c.1 c.2.2.1:Int):Rat))(h:x-((dP cs c.1 c.2.2.1:Int):Rat)<((iz cs c.1 c.2.2.1:Int):Rat)):fx cs x c=(c.2.2.2:Rat)*(x-((dP cs c.1 c.2.2.1:Int):Rat))/((iz cs c.1 c.2.2.1:Int):Rat):=by
 unfold fx;rw[TI,aq,vj au]
 ·generalize ((dP cs c.1 c.2.2.1:Int):Rat)=u at *;generalize ((iz cs c.1 c.2.2.1:Int):Rat)=s at *;grind
 ·generalize ((dP cs c.1 c.2.2.1:Int):Rat)=u at *;generalize ((iz cs c.1 c.2.2.1:Int):Rat)=s at *;grind
end
theorem HX {n:Int}(h:c8 n):HH [.int .i64 n,.int .i64 1]=some (.same (.agg (aH (ai (n:Rat))))):=by
 have:=aoo n 1 ⟨h,TC⟩;rw[HG h] at this;exact this
theorem rn {n:Int}(h:c8 n):dD (n:Rat):=⟨by rw[Rat.num_intCast];exact u9 h,by rw[Rat.den_intCast];decide +kernel⟩
theorem apg {x:Rat}:decide (x.num.sign<=0)=decide (x<=0):=by
 have:x.num.sign<=0↔x<=0:=by
  rw[Int.sign_nonpos_iff,Rat.le_iff,ada,adb];omega
 rw[decide_eq_decide];exact this
theorem HY {x:Rat}:decide (x.num.sign<0)=decide (x<0):=by
 have:x.num.sign<0↔x<0:=by
  rw[Int.sign_neg_iff,Rat.lt_iff,ada,adb];omega
 rw[decide_eq_decide];exact this
def px:av:=(0,0,0,0)
def nN (l:List av)(x:Rat)(j:Nat):bd:=ai (fx l x (l.getD j px))
theorem ade (l:List av)(x:Rat):(dX (o l) λj=>some (nN l x j))=(l.map λc=>ai (fx l x c)).map some:=by
 symm
 refine ac1 (by simp) λi Q=>?_;rw[bb,bb,bL Q];unfold nN;rw[acW (bL Q)];rfl
abbrev LZ:Rat×(List av)->List Data:=λ(x,l)=>[.agg (aH (ai x)),.X (l.map bR)]
def TK:=bU LZ λ(x,l)=>cq (xa l x) (.same (.cQ [.X ((l.map λc=>ai (fx l x c)).map aH),.int .i64 0]))
theorem adf:∀a b,LZ a=LZ b->a=b:=by
  rintro⟨aV,fK⟩ ⟨bG,ab⟩ h;simp only[bn,Data.X.injEq,Data.agg.injEq,and_true] at h;exact dV (p6 (l4 _ _ h.1)) (map_inj oC _ _ h.2)
@[go_sem] theorem aph (x:Rat)(l:List av)(E:xa l x):TK [.agg (aH (ai x)),.X (l.map bR)]=some (.same (.cQ [.X ((l.map λc=>ai (fx l x c)).map aH),.int .i64 0])):=(b3 adf (x,l)).trans (cw E _)
theorem api (T:br)(dS:T kZ=aK tL)(iA:T Gb=aK LY)(vn:T OH=aK TE)(hM:T uQ=aK HH)(vo:T Ot=aK Li)(hN:T Ga=aK HR)(vp:T Ou=aK Lj)(vq:T Ox=aK Lk)(x:Rat)(l:List av)(E:xa l x):WP T Tk (.same (.cQ [.X ((l.map λc=>ai (fx l x c)).map aH),.int .i64 0])) [.J (.agg (aH (ai x))),.J (.X (l.map bR))]:=by
 refine b4 ?_;simp only[Tk];obtain⟨how,AR,vX⟩:=E;have nO:=oB vX (by omega);have hlen:=how.len;have HZ:=A9 nO;have po:(ai x).1.1=x.num.sign:=rfl;have p7:decide (x.num.sign<0)=false:=by rw[HY];exact gr (by grind)
 have bM:=gW nO;have gU:=ade l x;generalize e3:ai x=a1 at *;obtain⟨⟨c6,dv⟩,⟨a3,a4⟩⟩:=a1;dsimp only at po bM;subst po;have r0:(64*o l<=140737488355328)=True:=eq_true (by omega);have TL:(o l<=maxLen)=True:=eq_true (by unfold maxLen;omega);have a8:=ac4 (o l);have Qi:(dX (o l) λj=>if j<0 then some (nN l x j) else none)=dX (o l) λ_=>none:=pw λj _=>aq (by omega);rw[<-Qi] at a8;simp only[go_sem,go_sem_proc,dS,iA,vn,hM,vo,hN,vp,vq,aH,HZ,bM.1,bM.2,how,p7,r0,TL,a8,af,bX,cv];refine dw [1,2,6] [279002] (λ(i:Nat) tm m=>i<=o l/\tm 7=.J (.int .i64 i)/\m 279030=some (0,lM rm (dX (o l) λj=>if j<i then some (nN l x j) else none))) (λi=>o l-i) 0 (by refine⟨by omega,rfl,rfl⟩) ?_;intro vs ms a7 aY;simp only[go_sem,go_sem_proc,dS,iA,vn,hM,vo,hN,vp,vq,aH,af] at a7 aY;subst a7 aY;rintro i tm m R hm ⟨Q,bQ,qo⟩;simp only[go_sem,go_sem_proc,dS,iA,vn,hM,vo,hN,vp,vq,bn] at R hm;obtain⟨aw,aB,dB⟩:=R;rcases dG (i<o l) with az|cb
 ·have d1:decide ((i:Int)<(o l:Int))=true:=dn;have cn:=eY (i:=i) (by omega);obtain⟨c,I⟩:∃c,l[i]?=some c:=⟨_,bL az⟩;have fu:=eN I;have jr:=how.c _ fu;have L0:=apc l c.2.2.1 how.cs;rw[how.less fu,how.same fu] at L0;have apj:=how.bound (λc'=>c'.2.2.1<c.2.2.1);rw[how.less fu] at apj;have TM:=how.bound (λc'=>c'.2.2.1=c.2.2.1);rw[how.same fu] at TM;have adg:c8 (dP l c.1 c.2.2.1):=tY (by omega) (by omega);have vr:c8 (iz l c.1 c.2.2.1):=tY (by omega) (by omega);have H0:c8 c.2.2.2:=tY (by omega) (by omega);have DY:=HX adg;have sI:=HX vr;have xb:=HX H0;have f0:=HX TB;have L1:eB 54 ((dP l c.1 c.2.2.1:Int):Rat):=vm (by omega);have yR:eB 54 ((iz l c.1 c.2.2.1:Int):Rat):=vm (by omega);have tZ:eB 54 ((c.2.2.2:Int):Rat):=vm (by omega);have c7:=aoR nO (rn adg) (S5 vX (HA L1) (by omega));have rp:eB 515 (x-((dP l c.1 c.2.2.1:Int):Rat)):=by rw[TN];exact (S7 vX (HA L1)).mono (by omega)
  have tF:=oB rp (by omega);have c2:=acO tF (rn vr);have aL:∀c∈l,0<=c.2.2.2:=λc E=>(how.c c E).2.2.2.2.2.2.1;have L2:nN l x i=ai (fx l x c):=by unfold nN;rw[acW I]
  have sJ:=λa b c d=>TG (q:=λj=>if j<i then some (nN l x j) else none) az a b c d;have DZ:=TF (q:=λj=>if j<i then some (nN l x j) else none) az
  have uD:∀a1:bd,a1=ai (fx l x c)->(dX (o l) λj=>if j=i then some a1 else if j<i then some (nN l x j) else none)=dX (o l) λj=>if j<i+1 then some (nN l x j) else none:=by
   intro a1 e3;refine pw λj _=>?_
   by_cases D:j=i
   ·rw[aj D,aj (by omega),D,L2,e3]
   ·rw[aq D]
    by_cases G:j<i
    ·rw[aj G,aj (by omega)]
    ·rw[aq G,aq (by omega)]
  have adh:(ai (x-((dP l c.1 c.2.2.1:Int):Rat))).1.1=(x-((dP l c.1 c.2.2.1:Int):Rat)).num.sign:=rfl;have H2:decide ((x-((dP l c.1 c.2.2.1:Int):Rat)).num.sign<=0)=decide (x-((dP l c.1 c.2.2.1:Int):Rat)<=0):=apg;have cb:decide (km (x-((dP l c.1 c.2.2.1:Int):Rat)) ((iz l c.1 c.2.2.1:Int):Rat)>=0)=decide (((iz l c.1 c.2.2.1:Int):Rat)<=x-((dP l c.1 c.2.2.1:Int):Rat)):=acP;have apk:=TJ (x:=x) aL fu;have apl:=ac8 (cs:=l) (x:=x) (c:=c);have pp:=ac9 (cs:=l) (x:=x) (c:=c);have cJ:=λau=>aoS (rn H0) tF (abV tZ rp au);have cE:=λau D=>aoV (oB (HB tZ rp) D) (rn vr) au (abW (HB tZ rp) yR (by omega));have cJ:=cJ (by omega);have cE:=λau=>cE au (by omega);rw[e3] at c7;obtain⟨bm,bN,bO,cp⟩:=c;dsimp only at *;generalize x-((dP l bm bO:Int):Rat)=r at *;generalize az1:ai r=Fr at *;obtain⟨⟨fq,eV⟩,⟨adi,adj⟩⟩:=Fr;dsimp only at adh;subst adh;rcases dp:decide (r<=0)
  ·have az2:=of_decide_eq_false dp;rw[dp] at H2;rcases dN:decide (((iz l bm bO:Int):Rat)<=r)
   ·have adk:=of_decide_eq_false dN;rw[dN] at cb;have TO:((iz l bm bO:Int):Rat)≠0:=by grind
    have ua:=pp (by grind) (by grind);have cE:=cE TO;have aL:=uD (ai (((cp:Int):Rat)*r/((iz l bm bO:Int):Rat))) (by rw[ua]);generalize ai (((cp:Int):Rat)*r/((iz l bm bO:Int):Rat))=G1 at *;generalize ai (((cp:Int):Rat)*r)=G2 at *;generalize ai ((iz l bm bO:Int):Rat)=G3 at *;generalize ai ((dP l bm bO:Int):Rat)=G4 at *;generalize ai ((cp:Int):Rat)=G5 at *;obtain⟨⟨dh,cR⟩,⟨lp,qp⟩⟩:=G1;obtain⟨⟨D,G⟩,⟨ag,aR⟩⟩:=G2;obtain⟨⟨i1,i2⟩,⟨i3,i4⟩⟩:=G3;obtain⟨⟨yS,rZ⟩,⟨TP,TQ⟩⟩:=G4;obtain⟨⟨mO,mP⟩,⟨ub,uc⟩⟩:=G5;simp only[aH] at DY sI xb c7 c2 cJ cE;have c1:=sJ dh cR lp qp;rw[aL] at c1;refine aQ ?_;repeat' (intro h<;>simp only[h,go_sem,go_sem_proc,dS,iA,vn,hM,vo,hN,vp,vq,vn,hM,vo,hN,vp,vq,aw,aB,dB,bQ,hm,qo,I,d1,cn,az,L0,DY,sI,xb,c7,c2,cJ,cE,H2,cb,DZ,c1,bR,af,bb,bne,beq_self_eq_true,bX]<;>try refine al ?_ ?_)
    exact⟨i+1,by omega,by omega,rfl,rfl⟩
   ·rw[dN] at cb;have ua:=apl (of_decide_eq_true dN);have aL:=uD (ai ((cp:Int):Rat)) (by rw[ua]);generalize ai ((iz l bm bO:Int):Rat)=G3 at *;generalize ai ((dP l bm bO:Int):Rat)=G4 at *;generalize ai ((cp:Int):Rat)=G5 at *;obtain⟨⟨i1,i2⟩,⟨i3,i4⟩⟩:=G3;obtain⟨⟨yS,rZ⟩,⟨TP,TQ⟩⟩:=G4;obtain⟨⟨mO,mP⟩,⟨ub,uc⟩⟩:=G5;simp only[aH] at DY sI xb c7 c2;have c1:=sJ mO mP ub uc;rw[aL] at c1;refine aQ ?_;repeat' (intro h<;>simp only[h,go_sem,go_sem_proc,dS,iA,vn,hM,vo,hN,vp,vq,vn,hM,vo,hN,vp,vq,aw,aB,dB,bQ,hm,qo,I,d1,cn,az,L0,DY,sI,xb,c7,c2,H2,cb,DZ,c1,bR,af,bb,bne,beq_self_eq_true,bX]<;>try refine al ?_ ?_)
    exact⟨i+1,by omega,by omega,rfl,rfl⟩
  ·rw[dp] at H2;have ua:=apk (of_decide_eq_true dp);have aL:=uD (ai ((0:Int):Rat)) (by rw[ua];rfl);generalize ai ((dP l bm bO:Int):Rat)=G4 at *;generalize ai ((0:Int):Rat)=G5 at *;obtain⟨⟨yS,rZ⟩,⟨TP,TQ⟩⟩:=G4;obtain⟨⟨mO,mP⟩,⟨ub,uc⟩⟩:=G5;simp only[aH] at DY f0 c7;have c1:=sJ mO mP ub uc;rw[aL] at c1;refine aQ ?_;repeat' (intro h<;>simp only[h,go_sem,go_sem_proc,dS,iA,vn,hM,vo,hN,vp,vq,vn,hM,vo,hN,vp,vq,aw,aB,dB,bQ,hm,qo,I,d1,cn,az,L0,DY,f0,c7,H2,DZ,c1,bR,af,bb,bne,beq_self_eq_true,bX]<;>try refine al ?_ ?_)
   exact⟨i+1,by omega,by omega,rfl,rfl⟩
 ·have d1:decide ((i:Int)<(o l:Int))=false:=cY;obtain rfl:i=o l:=by omega
  have eE:(dX (o l) λj=>if j<(o l) then some (nN l x j) else none)=dX (o l) λj=>some (nN l x j):=pw λj ay=>aj ay;rw[eE,gU,ac5] at qo;have D0:=λ(K:bz->Prop) (st:bz)=>ml (K:=K) (st:=st) C9 6 279030 0 (l.map λc=>ai (fx l x c));rw[af] at D0;refine aQ ?_;repeat' (intro h<;>simp only[h,go_sem,go_sem_proc,dS,iA,vn,hM,vo,hN,vp,vq,aw,aB,dB,bQ,hm,d1,qo,D0,af]<;>try refine al ?_ ?_)
def cT (cs:List av)(cP:Int):List av:=cs.filter λc=>c.1==cP
theorem H3 {cs:List av}{cP:Int}{c:av}:c∈cT cs cP↔c∈cs/\c.1=cP:=by
 unfold cT;rw[Ht,beq_iff_eq]
theorem fV.own {H:List Int}{cs:List av}(h:fV H cs)(cP:Int):ia (cT cs cP):=by
 have U:=m3.1 h.right;have aL:=h.n5;refine⟨?_,λc E=>?_,λc E c' jr=>?_⟩
 ·have:=H4 (λc:av=>c.1==cP) cs;have:=h.HE;unfold cT;omega
 ·have D:=U.2.2.2 c (H3.1 E).1;have G:=h.am c (H3.1 E).1;omega
 ·rw[(H3.1 E).2,(H3.1 jr).2]

end Go.Mini
namespace Go.Mini
open Classical
section
variable {H:List Int} {cs:List av} (aa:fV H cs) {k r:Nat} (di:0<(cf H cs).S k r)
include aa di
end
end Go.Mini
namespace Go.Mini
open Go
def vt (l:List av):O:=if l=[] then .nil else .J (.X (l.map bR))
theorem apm {a b:List av}(h:vt a=vt b):a=b:=by
 unfold vt at h
 by_cases aM:a=[]<;>by_cases ah:b=[]
 ·rw[aM,ah]
 ·rw[aj aM,aq ah] at h;cases h
 ·rw[aq aM,aj ah] at h;cases h
 ·rw[aq aM,aq ah] at h;exact map_inj oC _ _ (Data.X.inj (O.J.inj h))
structure vu where
 H:Int
 dM:List (List av)
 us:List Int
 f:Int
 p:Bool
def H5 (x:vu):List O:=dK x.H::(x.dM.map vt++(x.us.map dK++[dK x.f,yP x.p]))
def vu.sp (x:vu)(p:Bool):vu:=⟨x.H,x.dM,x.us,x.f,p⟩
structure vu.dx (x:vu):Prop where
 dM:(o x.dM)=10
 us:(o x.us)=11
theorem apn {x y:vu}(I:x.dx)(ak:y.dx)(h:H5 x=H5 y):x=y:=by
 unfold H5 at h;obtain⟨D,G⟩:=tv h;obtain⟨ag,aR⟩:=Ag G (by rw[af,af,I.dM,ak.dM]);obtain⟨bs,b1⟩:=Ag aR (by rw[af,af,I.us,ak.us]);obtain⟨cd,de⟩:=tv b1;obtain⟨jt,-⟩:=tv de;obtain⟨aV,bG,cm,dj,gB⟩:=x;obtain⟨x2,Gw,az3,az4,az5⟩:=y;have aB:=map_inj (λa b h=>apm h) _ _ ag;have cI:=LS bs;simp only[dK,yP,O.J.injEq,Data.int.injEq,Data.bool.injEq,true_and] at D cd jt;dsimp only at *;rw[D,aB,cI,cd,jt]
section
variable {x:vu} (h:x.dx)
include h
end
structure jk where
 H:List Int
 cs:List av
 fl:List Int
 P:List Bool
 g:Nat
 gs:List Nat
def jk.D1 (a:jk)(i:Nat):vu:=⟨a.H.getD i 0,dX 10 λk=>e0 a.cs i k,dX 11 λk=>dP a.cs i (k:Nat),a.fl.getD i 10,a.P.getD i false⟩
theorem jk.adl (a:jk)(i:Nat):(a.D1 i).dx:=⟨rl _ _,rl _ _⟩
structure jk.At (a:jk) (m:Mem):Prop where
 can:a.cs=kp (o a.H) a.cs
 fl:(o a.fl)=o a.H
 pl:(o a.P)=o a.H
 adm:(o a.gs)=o a.H
 row:m 228023=some (a.g,dX (o a.H) λi => .ptr (228500+i) (a.gs.getD i 0) 0)
 dc:∀i,i<(o a.H)->m (228500+i)=some (a.gs.getD i 0,H5 (a.D1 i))
theorem L3 {α:Type}{d:α}{n:Nat}{a b:List α}(aM:(o a)=n)(ah:(o b)=n)(h:∀i,i<n->a.getD i d=b.getD i d):a=b:=by
 apply pU;intro i;rcases h1 i n with Q|Q
 ·have:=h i Q;rw[fP,fP,bL (by omega),bL (by omega)] at this;rw[bL (by omega),bL (by omega)];exact congrArg some this
 ·rw[nh (by omega),nh (by omega)]
theorem adn {α:Type}{n:Nat}{p q:Nat->α}(h:dX n p=dX n q):∀i,i<n->p i=q i:=λi Q=>by
 have D:=DX p Q;rw[h,DX q Q] at D;exact (ln D).symm
theorem jk.uniq {a b:jk}{m:Mem}(h:a.At m)(cu:b.At m):a=b:=by
 obtain⟨c6,dv,a3,a4,a5,LV⟩:=a;obtain⟨c5,eg,j2,lf,ao3,acU⟩:=b;obtain⟨bm,bN,bO,cp,nP,D2⟩:=h;obtain⟨d1,d2,d3,d4,d5,d6⟩:=cu;dsimp only at *;rw[nP,cz,eU] at d5;obtain⟨rfl,ke⟩:=d5
 have aL:(o c6)=o c5:=by
  have:=congrArg o ke;rwa [rl,rl] at this
 rw[<-aL] at ke d1 d2 d3 d4 d6
 have bw:LV=acU:=L3 (d:=0) cp d4 λi Q=>by
  have:=adn ke i Q;rw[O.ptr.injEq] at this;exact this.2.1
 subst bw
 have ah:∀i,i<(o c6)->jk.D1 ⟨c6,dv,a3,a4,a5,LV⟩ i=jk.D1 ⟨c5,eg,j2,lf,a5,LV⟩ i:=λi Q=>by
  have D:=D2 i Q;rw[d6 i Q,cz,eU] at D;exact (apn (jk.adl _ _) (jk.adl _ _) D.2).symm
 simp only[jk.D1,vu.mk.injEq] at ah;have aw:c6=c5:=L3 (d:=0) rfl aL.symm λi Q=>(ah i Q).1;subst aw
 have aB:dv=eg:=by
  rw[bm,d1];exact acA λi Q k R=>adn (ah i Q).2.1 k R
 have cI:a3=j2:=L3 (d:=10) bN d2 λi Q=>(ah i Q).2.2.2.1;have gJ:a4=lf:=L3 (d:=false) bO d3 λi Q=>(ah i Q).2.2.2.2;rw[aB,cI,gJ]
theorem jk.At.aC {a:jk}{mem m:Mem}{n:Nat}(h:a.At mem)(aN:l7 n mem m)(aL:n≠228)(bs:(o a.H)<=6):a.At m :=
 ⟨h.can,h.fl,h.pl,h.adm,by rw[aN 228023 (by omega)];exact h.row,λi Q=>by rw[aN (228500+i) (by omega)];exact h.dc i Q⟩
def TR:bP:=b5 6 1 [.t 2] (M [cj 2 false] (M [F 3 0,(dg 4 F9 3),dY 5 4,F 2 5] .ret))
def TS:bP:=b5 9 1 [.t 2] (M [cj 2 false] (M [F 3 0,bo 4 .geq 3 0,F 5 4,⟨some 6,some (5,true),.ck (.t 0)⟩,⟨some 7,some (5,true),.bin .leq (.t 6) (.c (ao 1000000000000000))⟩,gI 8 5 7,F 2 8] .ret))
def TT:bP:=b5 42 2 [.t 3] (M [cN 2 252002 0,cj 3 false] (M [bg 4 0 2,a2 5 1 4,bo 6 .lss 5 0,F 7 6,⟨some 8,some (7,false),.c3 0 (.t 2)⟩,⟨some 9,some (7,false),.load 1 false (.t 8)⟩,⟨some 10,some (7,false),.load 1 false (.t 1)⟩,⟨some 11,some (7,false),.len (.t 10)⟩,⟨some 12,some (7,false),.bin .geq (.t 9) (.t 11)⟩,cX 13 7 12,F 14 13,⟨some 15,some (14,false),.c3 1 (.t 2)⟩,⟨some 16,some (14,false),.load 1 false (.t 15)⟩,⟨some 17,some (14,false),.bin .lss (.t 16) (.c (.J (.int .i64 (-1))))⟩,cX 18 14 17,F 19 18,⟨some 20,some (19,false),.c3 1 (.t 2)⟩,⟨some 21,some (19,false),.load 1 false (.t 20)⟩,⟨some 22,some (19,false),.load 1 false (.t 1)⟩,⟨some 23,some (19,false),.len (.t 22)⟩,⟨some 24,some (19,false),.bin .geq (.t 21) (.t 23)⟩,cX 25 19 24,F 26 25,⟨some 27,some (26,false),.c3 2 (.t 2)⟩,⟨some 28,some (26,false),.load 1 false (.t 27)⟩,⟨some 29,some (26,false),.bin .lss (.t 28) (.c (ao 0))⟩,cX 30 26 29,F 31 30,⟨some 32,some (31,false),.c3 2 (.t 2)⟩,⟨some 33,some (31,false),.load 1 false (.t 32)⟩,⟨some 34,some (31,false),.bin .geq (.t 33) (.c (ao 10))⟩,cX 35 31 34,F 36 35,⟨some 37,some (36,false),.c3 3 (.t 2)⟩,⟨some 38,some (36,false),.load 1 false (.t 37)⟩,⟨some 39,some (36,false),.call F9 [(.t 38)]⟩,⟨some 40,some (36,false),.un .not (.t 39)⟩,cX 41 36 40,F 3 41] .ret))
abbrev D3:Int×Int×Int->List Data:=λ(x,a,b)=>[.int .i64 x,.int .i64 a,.int .i64 b]
def L4:=bU D3 λ(x,a,b)=>some (.same (.bool (decide (a<=x)&&decide (x<=b))))
theorem L5:∀a b,D3 a=D3 b->a=b:=by
  rintro⟨aV,c6,c5⟩ ⟨bG,dv,eg⟩ h;simp only[bn,Data.int.injEq,Data.agg.injEq,Data.X.injEq,Data.bool.injEq,Data.str.injEq,Data.ptr.injEq,Data.cQ.injEq,eU,true_and,and_true] at h ⊢
  first|exact h|simpa [uS,and_assoc] using h|grind
@[go_sem] theorem az6 (x:Int)(a:Int)(b:Int):L4 [.int .i64 x,.int .i64 a,.int .i64 b]=some (.same (.bool (decide (a<=x)&&decide (x<=b)))):=b3 L5 (x,a,b)
theorem apo (T:br)  (x:Int) (a:Int) (b:Int):WP T Q2 (.same (.bool (decide (a<=x)&&decide (x<=b)))) [.J (.int .i64 x),.J (.int .i64 a),.J (.int .i64 b)]:=by
 refine b4 ?_;simp only[Q2];rcases bm:decide (a<=x)
 ·have bN:decide (x>=a)=false:=bm;refine aQ ?_;repeat' (intro h<;>simp only[h,go_sem,go_sem_proc,bm,bN,dm]<;>try refine al ?_ ?_)
 ·have bN:decide (x>=a)=true:=bm;refine aQ ?_;repeat' (intro h<;>simp only[h,go_sem,go_sem_proc,bm,bN,eF]<;>try refine al ?_ ?_)
abbrev TU:Int->List Data:=λ(x:Int)=>[.int .i64 x,.ptr [.fn tj []]]
def TV:=bU TU λ(x:Int)=>some (.same (.bool (!e1 x)))
theorem apq:∀a b,TU a=TU b->a=b:=by
  intro aV bG h;simp only[bn,Data.int.injEq,Data.agg.injEq,Data.X.injEq,Data.bool.injEq,Data.str.injEq,Data.ptr.injEq,Data.cQ.injEq,eU,true_and,and_true] at h ⊢
  first|exact h|simpa [uS,and_assoc] using h|grind
@[go_sem] theorem apr (x:Int):TV [.int .i64 x,.ptr [.fn tj []]]=some (.same (.bool (!e1 x))):=b3 apq x
theorem aps (T:br)(TW:T tj=aK L4)(x:Int):WP T Q3 (.same (.bool (!e1 x))) [.J (.int .i64 x),.J (.ptr [.fn tj []])]:=by
 refine b4 ?_;simp only[Q3];unfold e1;refine aQ ?_;repeat' (intro h<;>simp only[h,go_sem,go_sem_proc,TW]<;>try refine al ?_ ?_)
abbrev TX:Int×Int×Int×Int×Int->List Data:=λ(a,b,k,x,n)=>[.agg [.int .i64 a,.int .i64 b,.int .i64 k,.int .i64 x],.ptr [.fn tj []],.ptr [.int .i64 n]]
def TY:=bU TX λ(a,b,k,x,n)=>cq (0<=n/\n<=1000000) (.same (.bool (!fN n (a,b,k,x))))
theorem apt:∀a b,TX a=TX b->a=b:=by
  rintro⟨c6,c5,dp,aV,mO⟩ ⟨dv,eg,dN,bG,mP⟩ h;simp only[bn,Data.int.injEq,Data.agg.injEq,Data.X.injEq,Data.bool.injEq,Data.str.injEq,Data.ptr.injEq,Data.cQ.injEq,eU,true_and,and_true] at h ⊢
  first|exact h|simpa [uS,and_assoc] using h|grind
@[go_sem] theorem apu (a:Int)(b:Int)(k:Int)(x:Int)(n:Int)(E:0<=n/\n<=1000000):TY [.agg [.int .i64 a,.int .i64 b,.int .i64 k,.int .i64 x],.ptr [.fn tj []],.ptr [.int .i64 n]]=some (.same (.bool (!fN n (a,b,k,x)))):=(b3 apt (a,b,k,x,n)).trans (cw E _)
theorem apv (T:br)(TW:T tj=aK L4)(a:Int)(b:Int)(k:Int)(x:Int)(n:Int)(E:0<=n/\n<=1000000):WP T Q4 (.same (.bool (!fN n (a,b,k,x)))) [.J (.agg [.int .i64 a,.int .i64 b,.int .i64 k,.int .i64 x]),.J (.ptr [.fn tj []]),.J (.ptr [.int .i64 n])]:=by
 refine b4 ?_;simp only[Q4];have w:IntKind.i64.wrap (n-1)=n-1:=by rw[eQ _]
 have e:fN n (a,b,k,x)=((decide (0<=a)&&decide (a<=n-1))&&((decide (-1<=b)&&decide (b<=n-1))&&((decide (0<=k)&&decide (k<=9))&&(decide (0<=x)&&decide (x<=1000000000000000))))):=by
  rw[q8,Bb];simp only[eX,decide_eq_true_eq];omega
 rw[e];rcases bm:(decide (0<=a)&&decide (a<=n-1))<;>rcases bN:(decide (-1<=b)&&decide (b<=n-1))<;>rcases bO:(decide (0<=k)&&decide (k<=9))<;>rcases cp:(decide (0<=x)&&decide (x<=1000000000000000))
 all_goals
      refine aQ ?_;repeat' (intro h<;>simp only[h,go_sem,go_sem_proc,TW,w,bm,bN,bO,cp]<;>try refine al ?_ ?_)
def TZ:bP:=b5 15 3 [.t 6] (M [cj 6 false] (M [F 7 1,F 8 0,bJ 9 .leq 7 8,F 10 9,⟨some 11,some (10,true),.ck (.t 0)⟩,⟨some 12,some (10,true),.ck (.t 2)⟩,⟨some 13,some (10,true),.bin .leq (.t 11) (.t 12)⟩,gI 14 10 13,F 6 14] .ret))
def T0:bP:=b5 6 1 [.t 2] (M [cj 2 false] (M [F 3 0,(aE 4 (.call Ad [(.t 3),(.c (ao 0)),(.c (ao 1000000000000000))])),dY 5 4,F 2 5] .ret))
def T1:bP:=b5 31 3 [.t 4] (M [cN 3 362003 0,cj 4 false] (M [bg 5 0 3,a2 6 1 5,a2 7 1 1,bo 8 .sub 7 1,(aE 9 (.call Ad [(.t 6),(.c (ao 0)),(.t 8)])),dY 10 9,F 11 10,⟨some 12,some (11,false),.c3 1 (.t 3)⟩,⟨some 13,some (11,false),.load 1 false (.t 12)⟩,⟨some 14,some (11,false),.load 1 false (.t 1)⟩,⟨some 15,some (11,false),.bin .sub (.t 14) (.c (ao 1))⟩,⟨some 16,some (11,false),.call Ad [(.t 13),(.c (.J (.int .i64 (-1)))),(.t 15)]⟩,⟨some 17,some (11,false),.un .not (.t 16)⟩,cX 18 11 17,F 19 18,⟨some 20,some (19,false),.c3 2 (.t 3)⟩,⟨some 21,some (19,false),.load 1 false (.t 20)⟩,⟨some 22,some (19,false),.call Ad [(.t 21),(.c (ao 0)),(.c (ao 9))]⟩,⟨some 23,some (19,false),.un .not (.t 22)⟩,cX 24 19 23,F 25 24,⟨some 26,some (25,false),.load 1 false (.t 2)⟩,⟨some 27,some (25,false),.c3 3 (.t 3)⟩,⟨some 28,some (25,false),.load 1 false (.t 27)⟩,⟨some 29,some (25,false),.iY (.t 26) [(.t 28)]⟩,cX 30 25 29,F 4 30] .ret))
def l8 (l:List Int):List Data:=[.X (l.map Y)]
theorem T2:∀a b:List Int,l8 a=l8 b->a=b:=by
 intro a b h;simp only[l8,bn,Data.X.injEq,and_true] at h;exact map_inj eR _ _ h
def apw (a:List (List Int)):Prop:=o a<=1000000/\∀l∈a,o l<=1000000
def ep {α:Type}:List av->List α->Int->List α
 |c::cs,p::ps,cP=>if c.1==cP then p::ep cs ps cP else ep cs ps cP
 |_,_,_=>[]
theorem T3 {α:Type}:∀(cs:List av) (ps:List α) (c:av) (p:α) (cP:Int),o cs=(o ps)->ep (cs++[c]) (ps++[p]) cP=ep cs ps cP++if c.1==cP then [p] else []
 | [],[],c,p,cP,_=>by simp only[ju,ep]
 | [],_::_,_,_,_,h=>by simp at h
 |_::_,[],_,_,_,h=>by simp at h
 |a::cs,b::ps,c,p,cP,h=>by
  have aA:=T3 cs ps c p cP (by simpa using h);simp only[jc,ep,aA]
  split<;>rfl
theorem T4 {α:Type}:∀(cs:List av) (ps:List α) (cP:Int),(ep cs ps cP).length<=o cs
 | [],_,_=>by simp[ep]
 |_::_,[],_=>by simp[ep]
 |a::cs,b::ps,cP=>by
  have aA:=T4 cs ps cP;rw[ep]
  split<;>simp<;>omega
theorem H6 {α β:Type}(f:α->β):∀(cs:List av) (ps:List α) (cP:Int),ep cs (ps.map f) cP=(ep cs ps cP).map f
 | [],_,_=>by simp[ep]
 |_::_,[],_=>by simp[ep]
 |a::cs,b::ps,cP=>by
  have aA:=H6 f cs ps cP;rw[e8,ep,ep,aA]
  split<;>simp
theorem L6 {α:Type}:∀(cs:List av) (ps:List α) (cP:Int),o ps=(o cs)->(ep cs ps cP).length=(cT cs cP).length
 | [],_,_,_=>by simp[ep,cT]
 |_::_,[],_,h=>by simp at h
 |a::cs,b::ps,cP,h=>by
  have aA:=L6 cs ps cP (by simpa using h);unfold cT at aA ⊢;rw[ep,List.filter_cons]
  split<;>simp[aA]
theorem H7 {α:Type}{x:α}:∀{cs:List av} {ps:List α} {cP:Int},x∈ep cs ps cP->x∈ps
 | [],_,_,h=>by simp[ep] at h
 |_::_,[],_,h=>by simp[ep] at h
 |a::cs,b::ps,cP,h=>by
  rw[ep] at h
  split at h
  ·rcases hF.1 h with rfl|h
   ·simp
   ·exact ha _ (H7 h)
  ·exact ha _ (H7 h)
def ho (l:List av)(q:Nat->Rat):Nat->Int
 |0=>10
 |k+1=>match l[k]? with
  |some c=>if q k<(c.2.2.2:Rat) then min (ho l q k) c.2.2.1 else ho l q k
  |none=>ho l q k
theorem ado {l:List av}{q:Nat->Rat}(h:∀c∈l,0<=c.2.2.1/\c.2.2.1<10)(k:Nat):0<=ho l q k/\ho l q k<=10:=by
 induction k with
 |zero=>exact⟨show (0:Int)<=10 by decide,show (10:Int)<=10 by decide⟩
 |succ k aA =>
  unfold ho
  split
  ·rename_i c E;have:=h c (eN E)
   split<;>omega
  ·exact aA
structure vv (l:List av) (q:List Rat):Prop where
 own:ia l
 len:(o q)=o l
 lim:∀x∈q,dD x
def rq (l:List av)(q:List Rat):Data:=if ho l (λi=>q.getD i 0) (o l)<10 then .cQ [.int .i64 (ho l (λi=>q.getD i 0) (o l)),.bool true] else .cQ [.int .i64 0,.bool false]
def kM (cs:List av)(ps:List Rat)(i:Int):Int:=ho (cT cs i) (λk=>(ep cs ps i).getD k 0) (cT cs i).length
def nQ (cs:List av)(ps:List Rat)(i:Int):Int:=if kM cs ps i<10 then kM cs ps i else 0
theorem adp (cs:List av)(ps:List Rat)(i:Int):rq (cT cs i) (ep cs ps i)=.cQ [.int .i64 (nQ cs ps i),.bool (decide (kM cs ps i<10))]:=by
 unfold rq nQ kM
 split
 ·rename_i h;rw[hc h]
 ·rename_i h;rw[gr h]
def jE (cs:List av)(ps:List Rat)(set:List Int)(i:Int):Bool:=cs.any λc=>c.1==i&&(c.2.2.1==nQ cs ps i&&(decide (c.2.2.2>0) && !decide (c.2.1∈set)))
structure iB (H:List Int) (cs:List av) (ps:List Rat):Prop where
 len:(o ps)=o cs
 l:(o cs)<=2000
 n:(o H)<=60
 own:∀i:Int,ia (cT cs i)
 lim:∀x∈ps,dD x
theorem iB.short {H:List Int}{cs:List av}{ps:List Rat}(h:iB H cs ps)(i:Int):vv (cT cs i) (ep cs ps i):=⟨h.own i,L6 cs ps i h.len,λx I=>h.lim x (H7 I)⟩
def ed (H:List Int)(cs:List av)(ad aJ:List bd)(fl:List (List Int)):List Data:=[.X (H.map Y),.X (cs.map bR),.X (ad.map aH),.X (aJ.map aH),.X (fl.map l8)]
theorem xc {H DV:List Int}{cs lj:List av}{ad lk aJ H8:List bd}{fl w9:List (List Int)}(h:ed H cs ad aJ fl=ed DV lj lk H8 w9):H=DV/\cs=lj/\ad=lk/\aJ=H8/\fl=w9:=by
 simp only[ed,bn,Data.X.injEq,and_true] at h;exact⟨map_inj eR _ _ h.1,map_inj oC _ _ h.2.1,map_inj l4 _ _ h.2.2.1,map_inj l4 _ _ h.2.2.2.1,map_inj T2 _ _ h.2.2.2.2⟩
abbrev T5:Int×(List bd)×Nat->List Data:=λ(z,h,i)=>[.int .i64 z,.ptr [.X (h.map aH)],.ptr [.int .i64 i]]
def T6:=bU T5 λ(z,h,i)=>cq (c8 z/\i<o h/\ej h) (.same (.bool (decide (h7 (h.getD i ei) (ai (z:Rat))<0))))
theorem apx:∀a b,T5 a=T5 b->a=b:=by
  rintro⟨mZ,D,i1⟩ ⟨pj,G,i2⟩ h;simp only[bn,Data.int.injEq,Data.ptr.injEq,Data.X.injEq,and_true,true_and] at h;exact dV h.1 (dV (map_inj l4 _ _ h.2.1) (by have:=h.2.2;dsimp only;omega))
@[go_sem] theorem apy (z:Int)(h:List bd)(i:Nat)(E:c8 z/\i<o h/\ej h):T6 [.int .i64 z,.ptr [.X (h.map aH)],.ptr [.int .i64 i]]=some (.same (.bool (decide (h7 (h.getD i ei) (ai (z:Rat))<0)))):=(b3 apx (z,h,i)).trans (cw E _)
theorem apz (T:br)(adq:T OA=aK Tv)(gC:T r7=aK yq)(z:Int)(h:List bd)(i:Nat)(E:c8 z/\i<o h/\ej h):WP T Q1 (.same (.bool (decide (h7 (h.getD i ei) (ai (z:Rat))<0)))) [.J (.int .i64 z),.J (.ptr [.X (h.map aH)]),.J (.ptr [.int .i64 i])]:=by
 refine b4 ?_;simp only[Q1];obtain⟨a8,Q,ff⟩:=E;have hw:=aok z a8;obtain⟨x,I⟩:∃x,h[i]?=some x:=⟨_,bL Q⟩;have QX:h.getD i ei=x:=by rw[fP,I];rfl
 obtain⟨lH,kn⟩:=ff.2 x (eN I);obtain⟨sK,sL⟩:=gW (rn a8);rw[QX];generalize ai (z:Rat)=Z at *;obtain⟨⟨c6,dv⟩,⟨a3,a4⟩⟩:=Z;obtain⟨⟨c5,eg⟩,⟨j2,lf⟩⟩:=x;have fi:=aap c5 eg j2 lf c6 dv a3 a4 ⟨lH,kn,sK,sL⟩;simp only[aH] at hw;simp only[go_sem,go_sem_proc,adq,gC,hw,I,fi,aH,af,bb];repeat' (first|refine al ?_ ?_|fail)<;>intro h<;>simp only[h,go_sem,go_sem_proc,adq,gC,hw,I,fi,aH,af,bb]
def L7:=bU tq λ(x:Int)=>some (.same (.bool (e1 x)))
@[go_sem] theorem az7 (x:Int):L7 [.int .i64 x]=some (.same (.bool (e1 x))):=b3 wo x
theorem apA (T:br)  (x:Int):WP T TS (.same (.bool (e1 x))) [.J (.int .i64 x)]:=by
 refine b4 ?_;simp only[TS];unfold e1;rcases bm:decide (0<=x)
 ·have bN:decide (x>=0)=false:=bm;refine aQ ?_;repeat' (intro h<;>simp only[h,go_sem,go_sem_proc,bm,bN,dm]<;>try refine al ?_ ?_)
 ·have bN:decide (x>=0)=true:=bm;refine aQ ?_;repeat' (intro h<;>simp only[h,go_sem,go_sem_proc,bm,bN,eF]<;>try refine al ?_ ?_)
def T7:=bU tq λ(x:Int)=>some (.same (.bool (!e1 x)))
@[go_sem] theorem apB (x:Int):T7 [.int .i64 x]=some (.same (.bool (!e1 x))):=b3 wo x
theorem apC (T:br)(H9:T F9=aK L7)(x:Int):WP T TR (.same (.bool (!e1 x))) [.J (.int .i64 x)]:=by
 refine b4 ?_;simp only[TR];refine aQ ?_;repeat' (intro h<;>simp only[h,go_sem,go_sem_proc,H9]<;>try refine al ?_ ?_)
def L8:=bU D3 λ(x,a,b)=>some (.same (.bool (decide (a<=x)&&decide (x<=b))))
@[go_sem] theorem az8 (x:Int)(a:Int)(b:Int):L8 [.int .i64 x,.int .i64 a,.int .i64 b]=some (.same (.bool (decide (a<=x)&&decide (x<=b)))):=b3 L5 (x,a,b)
theorem apD (T:br)  (x:Int) (a:Int) (b:Int):WP T TZ (.same (.bool (decide (a<=x)&&decide (x<=b)))) [.J (.int .i64 x),.J (.int .i64 a),.J (.int .i64 b)]:=by
 refine b4 ?_;simp only[TZ];rcases bm:decide (a<=x)
 ·refine aQ ?_;repeat' (intro h<;>simp only[h,go_sem,go_sem_proc,bm,dm]<;>try refine al ?_ ?_)
 ·refine aQ ?_;repeat' (intro h<;>simp only[h,go_sem,go_sem_proc,bm,eF]<;>try refine al ?_ ?_)
def L9:=bU tq λ(x:Int)=>some (.same (.bool (!e1 x)))
@[go_sem] theorem apE (x:Int):L9 [.int .i64 x]=some (.same (.bool (!e1 x))):=b3 wo x
theorem apF (T:br)(T8:T Ad=aK L8)(x:Int):WP T T0 (.same (.bool (!e1 x))) [.J (.int .i64 x)]:=by
 refine b4 ?_;simp only[T0];unfold e1;refine aQ ?_;repeat' (intro h<;>simp only[h,go_sem,go_sem_proc,T8]<;>try refine al ?_ ?_)
def Ma:=bU D3 λ(x,a,b)=>some (.same (.bool (decide (a<=x)&&decide (x<=b))))
@[go_sem] theorem az9 (x:Int)(a:Int)(b:Int):Ma [.int .i64 x,.int .i64 a,.int .i64 b]=some (.same (.bool (decide (a<=x)&&decide (x<=b)))):=b3 L5 (x,a,b)
theorem apG (T:br)  (x:Int) (a:Int) (b:Int):WP T Rb (.same (.bool (decide (a<=x)&&decide (x<=b)))) [.J (.int .i64 x),.J (.int .i64 a),.J (.int .i64 b)]:=by
 refine b4 ?_;simp only[Rb];rcases bm:decide (a<=x)
 ·refine aQ ?_;repeat' (intro h<;>simp only[h,go_sem,go_sem_proc,bm,dm]<;>try refine al ?_ ?_)
 ·refine aQ ?_;repeat' (intro h<;>simp only[h,go_sem,go_sem_proc,bm,eF]<;>try refine al ?_ ?_)
def Mb:=bU tq λ(x:Int)=>some (.same (.bool (e1 x)))
@[go_sem] theorem aAa (x:Int):Mb [.int .i64 x]=some (.same (.bool (e1 x))):=b3 wo x
theorem apH (T:br)(T9:T z8=aK Ma)(x:Int):WP T Ra (.same (.bool (e1 x))) [.J (.int .i64 x)]:=by
 refine b4 ?_;simp only[Ra];unfold e1;refine aQ ?_;repeat' (intro h<;>simp only[h,go_sem,go_sem_proc,T9]<;>try refine al ?_ ?_)
abbrev Ua:Int->List Data:=λ(x:Int)=>[.int .i64 x,.ptr [.fn ly []]]
def Ub:=bU Ua λ(x:Int)=>some (.same (.bool (!e1 x)))
theorem apI:∀a b,Ua a=Ua b->a=b:=by
  intro aV bG h;simp only[bn,Data.int.injEq,Data.agg.injEq,Data.X.injEq,Data.bool.injEq,Data.str.injEq,Data.ptr.injEq,Data.cQ.injEq,eU,true_and,and_true] at h ⊢
  first|exact h|simpa [uS,and_assoc] using h|grind
@[go_sem] theorem apJ (x:Int):Ub [.int .i64 x,.ptr [.fn ly []]]=some (.same (.bool (!e1 x))):=b3 apI x
theorem apK (T:br)(Uc:T ly=aK Mb)(x:Int):WP T Rn (.same (.bool (!e1 x))) [.J (.int .i64 x),.J (.ptr [.fn ly []])]:=by
 refine b4 ?_;simp only[Rn];refine aQ ?_;repeat' (intro h<;>simp only[h,go_sem,go_sem_proc,Uc]<;>try refine al ?_ ?_)
abbrev Ud:Int×(List Int)×(List av)×(List bd)×(List Rat)×(List (List Int))×(List Int)->List Data:=λ(x,H,cs,ad,ps,fl,set)=>[.int .i64 x,.ptr (ed H cs ad (ps.map ai) fl),.ptr [.X (set.map Y)]]
def D4:=bU Ud λ(x,H,cs,ad,ps,fl,set)=>cq (iB H cs ps/\o set<=1000000) (.same (.bool (jE cs ps set x)))
theorem apL:∀a b,Ud a=Ud b->a=b:=by
  rintro⟨aV,sM,rr,kS,D5,xd,adr⟩ ⟨bG,sN,mQ,lV,D6,xe,ads⟩ h;simp only[bn,Data.int.injEq,Data.ptr.injEq,Data.X.injEq,and_true,true_and] at h;obtain⟨D,dh,G⟩:=h;obtain⟨rfl,rfl,rfl,cR,rfl⟩:=xc dh;rw[D,map_inj eR _ _ G,map_inj (λ_ _ a6=>p6 a6) _ _ cR]
@[go_sem] theorem adt (x:Int)(H:List Int)(cs:List av)(ad:List bd)(ps:List Rat)(fl:List (List Int))(set:List Int)(E:iB H cs ps/\o set<=1000000):D4 [.int .i64 x,.ptr (ed H cs ad (ps.map ai) fl),.ptr [.X (set.map Y)]]=some (.same (.bool (jE cs ps set x))):=(b3 apL (x,H,cs,ad,ps,fl,set)).trans (cw E _)
theorem D7 (T:br)(id:FuncId)(en:List Data)(a1:List Data->Option dF)(cG:T id=aK a1)(p:Int->Bool)(l:List Int)(ax:(o l)<=1000000)(e3:∀x∈l,a1 (.int .i64 x::en)=some (.same (.bool (p x)))):WP T Gm (.same (.int .i64 (k7 p l))) [.J (.X (l.map Y)),.J (.fn id en)]:=by
 refine b4 ?_;simp only[Gm];simp only[go_sem,go_sem_proc,af];refine dw [0,1,7] [] (λ(i:Nat) tm mem=>i<=o l/\(∀x∈l.take i,p x=false)/\tm 8=.J (.int .i64 i)) (λi=>o l-i) 0 (by refine⟨fY _,by simp,rfl⟩) ?_;intro vs ms a7 aY;simp only[go_sem,go_sem_proc,af] at a7 aY;subst a7 aY;rintro i tm mem R hm ⟨Q,eE,de⟩;simp only[go_sem,go_sem_proc,bn] at R hm;obtain⟨au,D,cd⟩:=R;have fi:∀m:Mem,(en.map O.J).mapM (da 6 m)=some en:=λm=>ti (da 6 m) (λd=>rfl) en;rcases dG (i<o l) with az|cb
 ·have I:=bL az;have kH:=e3 _ (s7 az);have g7:=λh=>Ry (p:=p) eE I h;have ky:=λh=>RB (p:=p) eE I h;generalize l[i]=x at *;have kI:decide ((i:Int)<(o l:Int))=true:=dn;have hw:=eY (i:=i) (by omega);rcases ah:p x
  ·rw[ah] at kH;simp only[go_sem,go_sem_proc,cG,au,D,cd,de,I,kI,hw,kH,fi,Y,af,bb,hE];repeat' (first|refine al ?_ ?_|fail)<;>intro h<;>simp only[h,go_sem,go_sem_proc,cG,au,D,cd,de,I,kI,hw,kH,fi,Y,af,bb,hE]
   exact⟨i+1,by omega,by omega,ky ah,rfl⟩
  ·rw[ah] at kH;rw[g7 ah];simp only[go_sem,go_sem_proc,cG,au,D,cd,de,I,kI,hw,kH,fi,Y,af,bb,hE];repeat' (first|refine al ?_ ?_|fail)<;>intro h<;>simp only[h,go_sem,go_sem_proc,cG,au,D,cd,de,I,kI,hw,kH,fi,Y,af,bb,hE]
 ·have kI:decide ((i:Int)<(o l:Int))=false:=cY;obtain rfl:i=o l:=by omega
  rw[k4] at eE;rw[Rz eE];simp only[go_sem,go_sem_proc,au,D,cd,de,kI,af];repeat' (first|refine al ?_ ?_|fail)<;>intro h<;>simp only[h,go_sem,go_sem_proc,au,D,cd,de,kI,af]
inductive xf where
 |right
 |day
 |hold
 |solve (h:List bd) (i:Nat)
 |py
 |yT (H:List Int) (cs:List av) (ad:List bd) (ps:List Rat) (fl:List (List Int)) (set:List Int)
def ru:xf->Data
 |.right => .fn JU [.ptr [.fn tj []]]
 |.day => .fn Cr []
 |.hold => .fn tn []
 |.solve h i => .fn Cq [.ptr [.X (h.map aH)],.ptr [.int .i64 i]]
 |.py => .fn xY [.ptr [.fn ly []]]
 |.yT H cs ad ps fl set => .fn qX [.ptr (ed H cs ad (ps.map ai) fl),.ptr [.X (set.map Y)]]
theorem apM:∀a b:xf,ru a=ru b->a=b:=by
 intro a b e
 cases a<;>cases b
 all_goals first|rfl|(simp[ru,JU,Cr,Cq,tn,xY,qX] at e;done)|skip
 ·simp only[ru,Data.fn.injEq,bn,Data.ptr.injEq,Data.X.injEq,Data.int.injEq,and_true,true_and] at e;rw[map_inj l4 _ _ e.1,Int.ofNat.inj e.2]
 ·simp only[ru,Data.fn.injEq,bn,Data.ptr.injEq,Data.X.injEq,and_true,true_and] at e;obtain⟨dh,G⟩:=e;obtain⟨rfl,rfl,rfl,cR,rfl⟩:=xc dh;rw[map_inj eR _ _ G,map_inj (λ_ _ a6=>p6 a6) _ _ cR]
def rv:xf->Int->Bool
 |.right,x => !e1 x
 |.day,x => !e1 x
 |.hold,x => !e1 x
 |.solve h i,x=>decide (h7 (h.getD i ei) (ai (x:Rat))<0)
 |.py,x => !e1 x
 |.yT _ cs _ ps _ set,x=>jE cs ps set x
def D8 (l:List Int):xf->Prop
 |.right=>True
 |.day=>Cr<900000
 |.hold=>tn<900000
 |.solve h i=>Cq<900000/\i<o h/\ej h/\∀x∈l,c8 x
 |.py=>xY<900000
 |.yT H cs _ ps _ set=>qX<900000/\iB H cs ps/\o set<=1000000
abbrev Mc:(List Int)×xf->List Data:=λ(l,c)=>[.X (l.map Y),ru c]
def D9:=bU Mc λ(l,c)=>cq (o l<=1000000/\D8 l c) (.same (.int .i64 (k7 (rv c) l)))
theorem adu:∀a b,Mc a=Mc b->a=b:=by
  rintro⟨fK,bm⟩ ⟨ab,bN⟩ h;simp only[bn,Data.X.injEq,and_true] at h;exact dV (map_inj eR _ _ h.1) (apM _ _ h.2)
@[go_sem] theorem apN (l:List Int)(c:xf)(E:(o l)<=1000000/\D8 l c):D9 [.X (l.map Y),ru c]=some (.same (.int .i64 (k7 (rv c) l))):=(b3 adu (l,c)).trans (cw E _)
theorem apO (T:br)(apP:T JU=aK TV)(apQ:Cr<900000->T Cr=aK T7)(Ue:tn<900000->T tn=aK L9)(apR:Cq<900000->T Cq=aK T6)(apS:xY<900000->T xY=aK Ub)(Ia:qX<900000->T qX=aK D4)(l:List Int)(c:xf)(E:(o l)<=1000000/\D8 l c):WP T Gm (.same (.int .i64 (k7 (rv c) l))) [.J (.X (l.map Y)),.J (ru c)]:=by
 refine b4 ?_;simp only[Gm];obtain⟨ax,ff⟩:=E
 cases c with
 |right=>exact ow (D7 T _ _ _ apP (rv .right) l ax λx _=>apr x)
 |day=>exact ow (D7 T _ _ _ (apQ ff) (rv .day) l ax λx _=>apB x)
 |hold=>exact ow (D7 T _ _ _ (Ue ff) (rv .hold) l ax λx _=>apE x)
 |solve h k=>exact ow (D7 T _ _ _ (apR ff.1) (rv (.solve h k)) l ax λx I=>apy x h k ⟨ff.2.2.2 x I,ff.2.1,ff.2.2.1⟩)
 |py=>exact ow (D7 T _ _ _ (apS ff) (rv .py) l ax λx _=>apJ x)
 |yT H cs ad ps fl set=>exact ow (D7 T _ _ _ (Ia ff.1) (rv (.yT H cs ad ps fl set)) l ax λx _=>adt x H cs ad ps fl set ff.2)
def Uf:=bU Mc λ(l,c)=>cq (o l<=1000000/\D8 l c) (.same (.bool (l.any (rv c))))
@[go_sem] theorem apT (l:List Int)(c:xf)(E:(o l)<=1000000/\D8 l c):Uf [.X (l.map Y),ru c]=some (.same (.bool (l.any (rv c)))):=(b3 adu (l,c)).trans (cw E _)
theorem apU (T:br)(Ib:T z7=aK D9)(l:List Int)(c:xf)(E:(o l)<=1000000/\D8 l c):WP T Pt (.same (.bool (l.any (rv c)))) [.J (.X (l.map Y)),.J (ru c)]:=by
 refine b4 ?_;simp only[Pt];rw[<-KV];refine aQ ?_;repeat' (intro h<;>simp only[h,go_sem,go_sem_proc,Ib,E]<;>try refine al ?_ ?_)
abbrev Ug:Int×Int×Int×Int×(List Int)->List Data:=λ(a,b,k,x,H)=>[.agg [.int .i64 a,.int .i64 b,.int .i64 k,.int .i64 x],.ptr [.X (H.map Y)]]
def Uh:=bU Ug λ(a,b,k,x,H)=>cq (o H<=1000000) (.same (.bool (!fN (o H) (a,b,k,x))))
theorem apV:∀a b,Ug a=Ug b->a=b:=by
  rintro⟨c6,c5,dp,aV,sM⟩ ⟨dv,eg,dN,bG,sN⟩ h;simp only[bn,Data.agg.injEq,Data.int.injEq,Data.ptr.injEq,Data.X.injEq,and_true,true_and] at h;obtain⟨⟨D,G,ag,aR⟩,bs⟩:=h;rw[D,G,ag,aR,map_inj eR _ _ bs]
@[go_sem] theorem apW (a:Int)(b:Int)(k:Int)(x:Int)(H:List Int)(E:(o H)<=1000000):Uh [.agg [.int .i64 a,.int .i64 b,.int .i64 k,.int .i64 x],.ptr [.X (H.map Y)]]=some (.same (.bool (!fN (o H) (a,b,k,x)))):=(b3 apV (a,b,k,x,H)).trans (cw E _)
theorem apX (T:br)(H9:T F9=aK L7)(a:Int)(b:Int)(k:Int)(x:Int)(H:List Int)(E:(o H)<=1000000):WP T TT (.same (.bool (!fN (o H) (a,b,k,x)))) [.J (.agg [.int .i64 a,.int .i64 b,.int .i64 k,.int .i64 x]),.J (.ptr [.X (H.map Y)])]:=by
 refine b4 ?_;simp only[TT]
 by_cases U:fN (o H) (a,b,k,x)=true
 ·have xB:=Bb.1 U;dsimp only at xB;have bm:decide (a<0)=false:=cY;have bN:decide (a>=(o H:Int))=false:=cY;have bO:decide (b < -1)=false:=cY;have cp:decide (b>=(o H:Int))=false:=cY;have nP:decide (k<0)=false:=cY;have D2:decide (k>=10)=false:=cY;have yU:e1 x=true:=Bc.2 (by omega);refine aQ ?_;repeat' (intro h<;>simp only[h,go_sem,go_sem_proc,H9,U,bm,bN,bO,cp,nP,D2,yU,af,bX]<;>try refine al ?_ ?_)
 ·have aN:fN (o H) (a,b,k,x)=false:=by simpa using U
  rw[Bb] at U;dsimp only at U;rcases yU:e1 x
  ·refine aQ ?_;repeat' (intro h<;>simp only[h,go_sem,go_sem_proc,H9,aN,yU,af,bX,cv]<;>try refine al ?_ ?_)
  ·have aAb:=Bc.1 yU;refine aQ ?_;repeat' (intro h<;>simp only[h,go_sem,go_sem_proc,H9,aN,yU,af,bX,cv]<;>try refine al ?_ ?_)
   all_goals (exfalso;simp only[decide_eq_false_iff_not] at *;omega)
abbrev Ui:Int×Int×Int×Int×Int->List Data:=λ(a,b,k,x,n)=>[.agg [.int .i64 a,.int .i64 b,.int .i64 k,.int .i64 x],.ptr [.int .i64 n],.ptr [.fn tn []]]
def Uj:=bU Ui λ(a,b,k,x,n)=>cq (0<=n/\n<=1000000) (.same (.bool (!fN n (a,b,k,x))))
theorem apY:∀a b,Ui a=Ui b->a=b:=by
  rintro⟨c6,c5,dp,aV,mO⟩ ⟨dv,eg,dN,bG,mP⟩ h;simp only[bn,Data.int.injEq,Data.agg.injEq,Data.X.injEq,Data.bool.injEq,Data.str.injEq,Data.ptr.injEq,Data.cQ.injEq,eU,true_and,and_true] at h ⊢
  first|exact h|simpa [uS,and_assoc] using h|grind
@[go_sem] theorem apZ (a:Int)(b:Int)(k:Int)(x:Int)(n:Int)(E:0<=n/\n<=1000000):Uj [.agg [.int .i64 a,.int .i64 b,.int .i64 k,.int .i64 x],.ptr [.int .i64 n],.ptr [.fn tn []]]=some (.same (.bool (!fN n (a,b,k,x)))):=(b3 apY (a,b,k,x,n)).trans (cw E _)
theorem ap0 (T:br)(T8:T Ad=aK L8)(Ue:T tn=aK L9)(a:Int)(b:Int)(k:Int)(x:Int)(n:Int)(E:0<=n/\n<=1000000):WP T T1 (.same (.bool (!fN n (a,b,k,x)))) [.J (.agg [.int .i64 a,.int .i64 b,.int .i64 k,.int .i64 x]),.J (.ptr [.int .i64 n]),.J (.ptr [.fn tn []])]:=by
 refine b4 ?_;simp only[T1];have w:IntKind.i64.wrap (n-1)=n-1:=by rw[eQ _]
 have e:fN n (a,b,k,x)=((decide (0<=a)&&decide (a<=n-1))&&((decide (-1<=b)&&decide (b<=n-1))&&((decide (0<=k)&&decide (k<=9))&&e1 x))):=by
  rw[q8,Bb];simp only[eX,decide_eq_true_eq,Bc];omega
 rw[e];rcases bm:(decide (0<=a)&&decide (a<=n-1))<;>rcases bN:(decide (-1<=b)&&decide (b<=n-1))<;>rcases bO:(decide (0<=k)&&decide (k<=9))<;>rcases cp:e1 x
 all_goals
      refine aQ ?_;repeat' (intro h<;>simp only[h,go_sem,go_sem_proc,T8,Ue,w,bm,bN,bO,cp]<;>try refine al ?_ ?_)
abbrev Uk:Int×Int×Int×Int×Int->List Data:=λ(a,b,k,x,n)=>[.agg [.int .i64 a,.int .i64 b,.int .i64 k,.int .i64 x],.ptr [.int .i64 n],.ptr [.fn ly []]]
def Ul:=bU Uk λ(a,b,k,x,n)=>cq (0<=n/\n<=1000000) (.same (.bool (fN n (a,b,k,x))))
theorem ap1:∀a b,Uk a=Uk b->a=b:=by
  rintro⟨c6,c5,dp,aV,mO⟩ ⟨dv,eg,dN,bG,mP⟩ h;simp only[bn,Data.int.injEq,Data.agg.injEq,Data.X.injEq,Data.bool.injEq,Data.str.injEq,Data.ptr.injEq,Data.cQ.injEq,eU,true_and,and_true] at h ⊢
  first|exact h|simpa [uS,and_assoc] using h|grind
@[go_sem] theorem aAc (a:Int)(b:Int)(k:Int)(x:Int)(n:Int)(E:0<=n/\n<=1000000):Ul [.agg [.int .i64 a,.int .i64 b,.int .i64 k,.int .i64 x],.ptr [.int .i64 n],.ptr [.fn ly []]]=some (.same (.bool (fN n (a,b,k,x)))):=(b3 ap1 (a,b,k,x,n)).trans (cw E _)
theorem ap2 (T:br)(T9:T z8=aK Ma)(Uc:T ly=aK Mb)(a:Int)(b:Int)(k:Int)(x:Int)(n:Int)(E:0<=n/\n<=1000000):WP T Rc (.same (.bool (fN n (a,b,k,x)))) [.J (.agg [.int .i64 a,.int .i64 b,.int .i64 k,.int .i64 x]),.J (.ptr [.int .i64 n]),.J (.ptr [.fn ly []])]:=by
 refine b4 ?_;simp only[Rc];have w:IntKind.i64.wrap (n-1)=n-1:=by rw[eQ _]
 have e:fN n (a,b,k,x)=((decide (0<=a)&&decide (a<=n-1))&&((decide (-1<=b)&&decide (b<=n-1))&&((decide (0<=k)&&decide (k<=9))&&e1 x))):=by
  rw[q8,Bb];simp only[eX,decide_eq_true_eq,Bc];omega
 rw[e];rcases bm:(decide (0<=a)&&decide (a<=n-1))<;>rcases bN:(decide (-1<=b)&&decide (b<=n-1))<;>rcases bO:(decide (0<=k)&&decide (k<=9))<;>rcases cp:e1 x
 all_goals
      refine aQ ?_;repeat' (intro h<;>simp only[h,go_sem,go_sem_proc,T9,Uc,w,bm,bN,bO,cp]<;>try refine al ?_ ?_)
abbrev Um:Int×Int×Int×Int×Int->List Data:=λ(a,b,k,x,n)=>[.agg [.int .i64 a,.int .i64 b,.int .i64 k,.int .i64 x],.ptr [.fn uR [.ptr [.int .i64 n],.ptr [.fn ly []]]]]
def Un:=bU Um λ(a,b,k,x,n)=>cq (0<=n/\n<=1000000) (.same (.bool (!fN n (a,b,k,x))))
theorem ap3:∀a b,Um a=Um b->a=b:=by
  rintro⟨c6,c5,dp,aV,mO⟩ ⟨dv,eg,dN,bG,mP⟩ h;simp only[bn,Data.int.injEq,Data.agg.injEq,Data.X.injEq,Data.bool.injEq,Data.str.injEq,Data.ptr.injEq,Data.cQ.injEq,eU,true_and,and_true] at h ⊢
  first|exact h|simpa [uS,and_assoc] using h|grind
@[go_sem] theorem ap4 (a:Int)(b:Int)(k:Int)(x:Int)(n:Int)(E:0<=n/\n<=1000000):Un [.agg [.int .i64 a,.int .i64 b,.int .i64 k,.int .i64 x],.ptr [.fn uR [.ptr [.int .i64 n],.ptr [.fn ly []]]]]=some (.same (.bool (!fN n (a,b,k,x)))):=(b3 ap3 (a,b,k,x,n)).trans (cw E _)
theorem ap5 (T:br)(ap6:T uR=aK Ul)(a:Int)(b:Int)(k:Int)(x:Int)(n:Int)(E:0<=n/\n<=1000000):WP T Ro (.same (.bool (!fN n (a,b,k,x)))) [.J (.agg [.int .i64 a,.int .i64 b,.int .i64 k,.int .i64 x]),.J (.ptr [.fn uR [.ptr [.int .i64 n],.ptr [.fn ly []]]])]:=by
 refine b4 ?_;simp only[Ro];refine aQ ?_;repeat' (intro h<;>simp only[h,go_sem,go_sem_proc,ap6,E]<;>try refine al ?_ ?_)
abbrev Uo:Int×Int×Int×Int×Int×Int×(List Int)->List Data:=λ(a,b,k,x,i,e,set)=>[.agg [.int .i64 a,.int .i64 b,.int .i64 k,.int .i64 x],.ptr [.int .i64 i],.ptr [.int .i64 e],.ptr [.X (set.map Y)]]
def Up:=bU Uo λ(a,b,k,x,i,e,set)=>cq (o set<=1000000) (.same (.bool (a==i&&(k==e&&(decide (x>0) && !decide (b∈set))))))
theorem ap7:∀a b,Uo a=Uo b->a=b:=by
  rintro⟨c6,c5,dp,aV,i1,aw,adr⟩ ⟨dv,eg,dN,bG,i2,aB,ads⟩ h;simp only[bn,Data.agg.injEq,Data.int.injEq,Data.ptr.injEq,Data.X.injEq,and_true,true_and] at h;obtain⟨⟨D,G,ag,aR⟩,bs,b1,cd⟩:=h;rw[D,G,ag,aR,bs,b1,map_inj eR _ _ cd]
@[go_sem] theorem ap8 (a:Int)(b:Int)(k:Int)(x:Int)(i:Int)(e:Int)(set:List Int)(E:(o set)<=1000000):Up [.agg [.int .i64 a,.int .i64 b,.int .i64 k,.int .i64 x],.ptr [.int .i64 i],.ptr [.int .i64 e],.ptr [.X (set.map Y)]]=some (.same (.bool (a==i&&(k==e&&(decide (x>0) && !decide (b∈set)))))):=(b3 ap7 (a,b,k,x,i,e,set)).trans (cw E _)
theorem Ic (T:br)(id:FuncId)(en:List Data)(a1:List Data->Option dF)(cG:T id=aK a1)(p:av->Bool)(l:List av)(ax:(o l)<=1000000)(e3:∀a b k z,(a,b,k,z)∈l->a1 (.agg [.int .i64 a,.int .i64 b,.int .i64 k,.int .i64 z]::en)=some (.same (.bool (p (a,b,k,z))))):WP T Gp (.same (.int .i64 (k7 p l))) [.J (.X (l.map bR)),.J (.fn id en)]:=by
 refine b4 ?_;simp only[Gp];simp only[go_sem,go_sem_proc,af];refine dw [0,1,7] [] (λ(i:Nat) tm mem=>i<=o l/\(∀x∈l.take i,p x=false)/\tm 8=.J (.int .i64 i)) (λi=>o l-i) 0 (by refine⟨fY _,by simp,rfl⟩) ?_;intro vs ms a7 aY;simp only[go_sem,go_sem_proc,af] at a7 aY;subst a7 aY;rintro i tm mem R hm ⟨Q,eE,de⟩;simp only[go_sem,go_sem_proc,bn] at R hm;obtain⟨au,D,cd⟩:=R;have fi:∀m:Mem,(en.map O.J).mapM (da 6 m)=some en:=λm=>ti (da 6 m) (λd=>rfl) en;rcases dG (i<o l) with az|cb
 ·have I:=bL az;have Uq:=s7 az;have g7:=λh=>Ry (p:=p) eE I h;have ky:=λh=>RB (p:=p) eE I h;generalize l[i]=x at *;obtain⟨a,b,k,z⟩:=x;have kH:=e3 a b k z Uq;have kI:decide ((i:Int)<(o l:Int))=true:=dn;have hw:=eY (i:=i) (by omega);rcases ah:p (a,b,k,z)
  ·rw[ah] at kH;simp only[go_sem,go_sem_proc,cG,au,D,cd,de,I,kI,hw,kH,fi,bR,af,bb,hE];repeat' (first|refine al ?_ ?_|fail)<;>intro h<;>simp only[h,go_sem,go_sem_proc,cG,au,D,cd,de,I,kI,hw,kH,fi,bR,af,bb,hE]
   exact⟨i+1,by omega,by omega,ky ah,rfl⟩
  ·rw[ah] at kH;rw[g7 ah];simp only[go_sem,go_sem_proc,cG,au,D,cd,de,I,kI,hw,kH,fi,bR,af,bb,hE];repeat' (first|refine al ?_ ?_|fail)<;>intro h<;>simp only[h,go_sem,go_sem_proc,cG,au,D,cd,de,I,kI,hw,kH,fi,bR,af,bb,hE]
 ·have kI:decide ((i:Int)<(o l:Int))=false:=cY;obtain rfl:i=o l:=by omega
  rw[k4] at eE;rw[Rz eE];simp only[go_sem,go_sem_proc,au,D,cd,de,kI,af];repeat' (first|refine al ?_ ?_|fail)<;>intro h<;>simp only[h,go_sem,go_sem_proc,au,D,cd,de,kI,af]
inductive xg where
 |right (n:Int)
 |day (H:List Int)
 |hold (n:Int)
 |py (n:Int)
 |Be (i e:Int) (set:List Int)
def ud:xg->Data
 |.right n => .fn JV [.ptr [.fn tj []],.ptr [.int .i64 n]]
 |.day H => .fn Cs [.ptr [.X (H.map Y)]]
 |.hold n => .fn Cv [.ptr [.int .i64 n],.ptr [.fn tn []]]
 |.py n => .fn Ab [.ptr [.fn uR [.ptr [.int .i64 n],.ptr [.fn ly []]]]]
 |.Be i e set => .fn Ac [.ptr [.int .i64 i],.ptr [.int .i64 e],.ptr [.X (set.map Y)]]
theorem ap9:∀a b:xg,ud a=ud b->a=b:=by
 intro a b e
 cases a<;>cases b
 all_goals first|(simp[ud,JV,Cs,Cv,Ab,Ac] at e;done)|simp only[ud,Data.fn.injEq,bn,Data.ptr.injEq,Data.X.injEq,Data.int.injEq,and_true,true_and] at e
 ·rw[e]
 ·rw[map_inj eR _ _ e]
 ·rw[e]
 ·rw[e]
 ·rw[e.1,e.2.1,map_inj eR _ _ e.2.2]
def ry:xg->av->Bool
 |.right n,c => !fN n c
 |.day H,c => !fN (o H) c
 |.hold n,c => !fN n c
 |.py n,c => !fN n c
 |.Be i e set,c=>c.1==i&&(c.2.2.1==e&&(decide (c.2.2.2>0) && !decide (c.2.1∈set)))
def Ea:xg->Prop
 |.right n=>0<=n/\n<=1000000
 |.day H=>Cs<900000/\o H<=1000000
 |.hold n=>Cv<900000/\0<=n/\n<=1000000
 |.py n=>Ab<900000/\0<=n/\n<=1000000
 |.Be _ _ set=>Ac<900000/\o set<=1000000
abbrev Md:(List av)×xg->List Data:=λ(l,c)=>[.X (l.map bR),ud c]
def Ur:=bU Md λ(l,c)=>cq (o l<=1000000/\Ea c) (.same (.int .i64 (k7 (ry c) l)))
theorem adv:∀a b,Md a=Md b->a=b:=by
  rintro⟨fK,bm⟩ ⟨ab,bN⟩ h;simp only[bn,Data.X.injEq,and_true] at h;exact dV (map_inj oC _ _ h.1) (ap9 _ _ h.2)
@[go_sem] theorem aAd (l:List av)(c:xg)(E:(o l)<=1000000/\Ea c):Ur [.X (l.map bR),ud c]=some (.same (.int .i64 (k7 (ry c) l))):=(b3 adv (l,c)).trans (cw E _)
theorem aqa (T:br)(aqb:T JV=aK TY)(aqc:Cs<900000->T Cs=aK Uh)(aqd:Cv<900000->T Cv=aK Uj)(aqe:Ab<900000->T Ab=aK Un)(aqf:Ac<900000->T Ac=aK Up)(l:List av)(c:xg)(E:(o l)<=1000000/\Ea c):WP T Gp (.same (.int .i64 (k7 (ry c) l))) [.J (.X (l.map bR)),.J (ud c)]:=by
 refine b4 ?_;simp only[Gp];obtain⟨ax,ff⟩:=E
 cases c with
 |right n=>exact ow (Ic T _ _ _ aqb (ry (.right n)) l ax λa b k z _=>apu a b k z n ff)
 |day H=>exact ow (Ic T _ _ _ (aqc ff.1) (ry (.day H)) l ax λa b k z _=>apW a b k z H ff.2)
 |hold n=>exact ow (Ic T _ _ _ (aqd ff.1) (ry (.hold n)) l ax λa b k z _=>apZ a b k z n ff.2)
 |py n=>exact ow (Ic T _ _ _ (aqe ff.1) (ry (.py n)) l ax λa b k z _=>ap4 a b k z n ff.2)
 |Be i e set=>exact ow (Ic T _ _ _ (aqf ff.1) (ry (.Be i e set)) l ax λa b k z _=>ap8 a b k z i e set ff.2)
def Me:=bU Md λ(l,c)=>cq (o l<=1000000/\Ea c) (.same (.bool (l.any (ry c))))
@[go_sem] theorem adw (l:List av)(c:xg)(E:(o l)<=1000000/\Ea c):Me [.X (l.map bR),ud c]=some (.same (.bool (l.any (ry c)))):=(b3 adv (l,c)).trans (cw E _)
theorem aqg (T:br)(aqh:T OE=aK Ur)(l:List av)(c:xg)(E:(o l)<=1000000/\Ea c):WP T Pu (.same (.bool (l.any (ry c)))) [.J (.X (l.map bR)),.J (ud c)]:=by
 refine b4 ?_;simp only[Pu];rw[<-KV];refine aQ ?_;repeat' (intro h<;>simp only[h,go_sem,go_sem_proc,aqh,E]<;>try refine al ?_ ?_)
theorem Us {α:Type}(l:List α)(p:α->Bool):l.any (λx => !p x) = !l.all p:=by
 induction l with
 |nil=>rfl
 |cons a l aA=>rw[List.any_cons,List.all_cons,aA];cases p a<;>rfl

def jk.p (a:jk):List Nat:=an2 (acV a.P) (o a.H)
def jk.xs (a:jk):List bd:=yN (o a.p) λk=>(cf a.H a.cs).kL (TA a.fl) (acV a.P) (a.p.getD k 0)-(cf a.H a.cs).cH (a.p.getD k 0) (TA a.fl (a.p.getD k 0))
end Go.Mini
namespace Go.Mini
open Classical
end Go.Mini
namespace Go.Mini
open Go
theorem aqi (l:List av)(c:av)(a1:av->Int):dA (l++[c]) a1=dA l a1+a1 c:=by
 rw[abC];simp[dA]
def jk.W (a:jk)(k i:Nat):Rat:=(cf a.H a.cs).W (TA a.fl) k i
theorem Ie (l:List Int):l.map dK=bK Y l:=by
 unfold bK
 induction l with
 |nil=>rfl
 |cons a l aA=>rw[e8,e8,j8,mA,<-aA];rfl
def Ig (n:Nat)(mem m:Mem):Prop:=∀k,(∀i,i<n->k≠228500+i)->m k=mem k
theorem Ig.hO {n i g:Nat}{cs:List O}{mem m:Mem}(h:Ig n mem m)(Q:i<n):Ig n mem (bI m (228500+i) g cs):=λk R=>by
 simp only[bI];rw[aq (R i Q)];exact h k R
theorem Ig.no {n j:Nat}{mem m:Mem}(h:Ig n mem m)(aL:n<=6)(ay:j≠228)(hm:HU j mem):HU j m:=λk R=>by
 rw[h k λi Q=>by omega]
 exact hm k R
def sO (c:Int)(q:Nat->O)(us:Nat->Int)(f:Int)(p:Bool):List O:=dK c::(dX 10 q++((dX 11 us).map dK++[dK f,yP p]))
theorem aqj {c:Int}{q:Nat->O}{us:Nat->Int}{f:Int}{p:Bool}{k:Nat}(R:k<10):(sO c q us f p)[1+k]?=some (q k):=by
 unfold sO;rw[xq,Ut,uA (by rw[rl];exact R)];exact DX q R
theorem aqk {c:Int}{q:Nat->O}{us:Nat->Int}{f:Int}{p:Bool}{k:Nat}(R:k<10)(v:O):(sO c q us f p).set (1+k) v=sO c (λj=>if j=k then v else q j) us f p:=by
 unfold sO;rw[xq,ac0,List.set_append_left _ _ (by rw[rl];exact R),ac2]
theorem Ih {c:Int}{q CJ:Nat->O}{us adx:Nat->Int}{f:Int}{p:Bool}(h:∀k,k<10->q k=CJ k)(cu:∀k,k<11->us k=adx k):sO c q us f p=sO c CJ adx f p:=by
 unfold sO;rw[pw h,pw cu]
def Bf (l:List av)(ib:Nat->Nat->Nat)(i k:Nat):O:=if e0 l i k=[] then .nil else .ref (228600+10*i+k) (ib i k) 4 0 (e0 l i k).length
structure Uu (H:List Int) (l:List av) (g:Nat) (gs:Nat->Nat) (ib:Nat->Nat->Nat) (m:Mem):Prop where
 row:m 228023=some (g,dX (o H) λi => .ptr (228500+i) (gs i) 0)
 dc:∀i,i<(o H)->m (228500+i)=some (gs i,sO (H.getD i 0) (Bf l ib i) (λk=>dP l i (k:Nat)) 10 false)
 Ii:∀i k,i<(o H)->k<10->e0 l i k≠[]->m (228600+10*i+k)=some (ib i k,bK bR (e0 l i k))
theorem aql (l:List av)(c:av)(i k:Nat):e0 (l++[c]) i k=if c.1=(i:Int)/\c.2.2.1=(k:Int) then e0 l i k++[c] else e0 l i k:=by
 unfold e0;rw[ue]
 by_cases h:c.1=(i:Int)/\c.2.2.1=(k:Int)
 ·rw[aj h,yV (by simp[h.1,h.2]),rz]
 ·rw[aq h,yW (by simpa using h),rz,gk]
theorem Ij (l:List av)(bm bN bO cp:Int)(i k:Nat):e0 (l++[(bm,bN,bO,cp)]) i k=if bm=(i:Int)/\bO=(k:Int) then e0 l i k++[(bm,bN,bO,cp)] else e0 l i k:=aql l _ i k
theorem aqm (l:List av)(c:av)(i r:Int):dP (l++[c]) i r=dP l i r+if c.1=i/\c.2.2.1<r then c.2.2.2 else 0:=by
 unfold dP;rw[aqi]
theorem ady (l:List av)(bm bN bO cp i r:Int):dP (l++[(bm,bN,bO,cp)]) i r=dP l i r+if bm=i/\bO<r then cp else 0:=aqm l _ i r
theorem Uu.next {H:List Int}{l:List av}{g:Nat}{gs:Nat->Nat}{ib:Nat->Nat->Nat}{m m':Mem}(h:Uu H l g gs ib m)(aL:(o H)<=6){bm bO:Nat}{bN cp:Int}(kt:bm<o H)(CT:bO<10)(Uv:Nat)
  (ke:m' 228023=m 228023) (aqn:∀i,i<(o H)->i≠bm->m' (228500+i)=m (228500+i)) (iH:m' (228500+bm)=some (gs bm,sO (H.getD bm 0) (λk=>if k=bO then .ref (228600+10*bm+bO) Uv 4 0 ((e0 l bm bO).length+1) else Bf l ib bm k) (λk=>dP l bm (k:Nat)+if bO<k then cp else 0) 10 false))
  (aqo:m' (228600+10*bm+bO)=some (Uv,bK bR (e0 l bm bO++[((bm:Int),bN,(bO:Int),cp)]))) (aqp:∀i k,i<(o H)->k<10->¬ (i=bm/\k=bO)->m' (228600+10*i+k)=m (228600+10*i+k)):Uu H (l++[((bm:Int),bN,(bO:Int),cp)]) g gs (λi k=>if i=bm/\k=bO then Uv else ib i k) m':=by
 refine⟨by rw[ke];exact h.row,λi Q=>?_,λi k Q R bZ=>?_⟩
 ·by_cases yX:i=bm
  ·subst yX;rw[iH]
   congr 2
   refine Ih (λk R=>?_) λk R=>?_
   ·unfold Bf
    by_cases Dl:k=bO
    ·subst Dl;have aw:e0 (l++[((i:Int),bN,(k:Int),cp)]) i k=e0 l i k++[((i:Int),bN,(k:Int),cp)]:=by rw[Ij,aj ⟨rfl,rfl⟩]
     rw[aw,aj rfl,aq (by simp),fE];simp
    ·have aw:e0 (l++[((i:Int),bN,(bO:Int),cp)]) i k=e0 l i k:=by rw[Ij,aq (by omega)]
     rw[aq Dl,aw];dsimp only;rw[aq (show ¬ (i=i/\k=bO) by omega)]
   ·rw[ady]
    by_cases gi:bO<k
    ·rw[aj gi,aj (by omega)]
    ·rw[aq gi,aq (by omega)]
  ·rw[aqn i Q yX,h.dc i Q]
   congr 2
   refine Ih (λk R=>?_) λk R=>?_
   ·unfold Bf;have aw:e0 (l++[((bm:Int),bN,(bO:Int),cp)]) i k=e0 l i k:=by rw[Ij,aq (by omega)]
    rw[aw];dsimp only;rw[aq (show ¬ (i=bm/\k=bO) by omega)]
   ·rw[ady,aq (by omega),tw]
 ·by_cases yX:i=bm/\k=bO
  ·obtain⟨rfl,rfl⟩:=yX;have aw:e0 (l++[((i:Int),bN,(k:Int),cp)]) i k=e0 l i k++[((i:Int),bN,(k:Int),cp)]:=by rw[Ij,aj ⟨rfl,rfl⟩]
   rw[aw,aj ⟨rfl,rfl⟩];exact aqo
  ·have aw:e0 (l++[((bm:Int),bN,(bO:Int),cp)]) i k=e0 l i k:=by rw[Ij,aq (by omega)]
   rw[aw] at bZ ⊢;rw[aq yX,aqp i k Q R yX];exact h.Ii i k Q R bZ
theorem yY {m:Mem}{k g:Nat}{cs:List O}:bI m k g cs k=some (g,cs):=by simp[bI]
theorem oE {m:Mem}{k j g:Nat}{cs:List O}(h:k≠j):bI m j g cs k=m k:=by
 simp only[bI];rw[aq h]
theorem sZ.trans {a b c:Mem}(h:sZ a b)(cu:sZ b c):sZ a c:=by
 induction h with
 |refl=>exact cu
 |step D _ aA=>exact .step D (aA cu)
def sP (l:List av)(ib:Nat->Nat->Nat)(d i k:Nat):O:=if 10*i+k<d then vt (e0 l i k) else Bf l ib i k
structure xh (H:List Int) (l:List av) (g:Nat) (gs:Nat->Nat) (ib:Nat->Nat->Nat) (d:Nat) (m:Mem):Prop where
 row:m 228023=some (g,dX (o H) λi => .ptr (228500+i) (gs i) 0)
 dc:∀i,i<(o H)->m (228500+i)=some (gs i,sO (H.getD i 0) (sP l ib d i) (λk=>dP l i (k:Nat)) 10 false)
 Ii:∀i k,i<(o H)->k<10->d<=10*i+k->e0 l i k≠[]->m (228600+10*i+k)=some (ib i k,bK bR (e0 l i k))
theorem xh.step {H:List Int}{l:List av}{g:Nat}{gs:Nat->Nat}{ib:Nat->Nat->Nat}{d:Nat}{m:Mem}(h:xh H l g gs ib d m)(aL:(o H)<=6)(ae:d<10*o H):∃m',sZ m m'/\xh H l g gs ib (d+1) m'/\l7 228 m m':=by
 obtain⟨i,k,Q,R,rfl⟩:∃i k,i<o H/\k<10/\d=10*i+k:=⟨d/10,d%10,by omega,by omega,by omega⟩
 have Uw:∀j r,j<(o H)->r<10->¬ (j=i/\r=k)->sP l ib (10*i+k+1) j r=sP l ib (10*i+k) j r:=λj r ay U bZ=>by
  unfold sP
  by_cases D:10*j+r<10*i+k
  ·rw[aj D,aj (by omega)]
  ·rw[aq D,aq (by omega)]
 by_cases E:e0 l i k=[]
 ·refine⟨m,.refl m,⟨h.row,λj ay=>?_,λj r ay U ae bZ=>h.Ii j r ay U (by omega) bZ⟩,l7.refl _ _⟩;rw[h.dc j ay]
  congr 2
  refine Ih (λr U=>?_) λ_ _=>rfl
  by_cases adz:j=i/\r=k
  ·obtain⟨rfl,rfl⟩:=adz;unfold sP;rw[aq (by omega),aj (by omega)];unfold Bf vt;rw[aj E,aj E]
  ·exact (Uw j r ay U adz).symm
 ·have ah:=h.dc i Q;have eW:=h.Ii i k Q R (cA _) E
  have P3:sP l ib (10*i+k) i k=.ref (228600+10*i+k) (ib i k) 4 0 (e0 l i k).length:=by
   unfold sP;rw[aq (by omega)];unfold Bf;rw[aq E]
  have iN:=aqj (c:=H.getD i 0) (q:=sP l ib (10*i+k) i) (us:=λk=>dP l i (k:Nat)) (f:=10) (p:=false) R;rw[P3] at iN;have uX:da 1 m (.ref (228600+10*i+k) (ib i k) 4 0 (e0 l i k).length)=some (.X ((e0 l i k).map bR)):=xO (n:=0) HF eW;refine⟨_,.step (Fb.WC (228500+i) (gs i) _ (1+k) (228600+10*i+k) (ib i k) 4 0 (e0 l i k).length _ (.X ((e0 l i k).map bR)) ah iN eW (by show (228600+10*i+k:Nat)≠228500+i;omega) uX) (.refl _),⟨?_,λj ay=>?_,λj r ay U ae bZ=>?_⟩,λx I=>?_⟩
  ·rw[oE (by show (228023:Nat)≠228500+i;omega)];unfold kill;rw[oE (by show (228023:Nat)≠228600+10*i+k;omega)];exact h.row
  ·by_cases kX:j=i
   ·subst kX;rw[yY,aqk R]
    congr 2
    refine Ih (λr U=>?_) λ_ _=>rfl
    by_cases jD:r=k
    ·subst jD;rw[aj rfl];unfold sP;rw[aj (by omega)];unfold vt;rw[aq E]
    ·rw[aq jD];exact (Uw j r ay U (by omega)).symm
   ·rw[oE (by show (228500+j:Nat)≠228500+i;omega)];unfold kill;rw[oE (by show (228500+j:Nat)≠228600+10*i+k;omega),h.dc j ay]
    congr 2
    refine Ih (λr U=>(Uw j r ay U (by omega)).symm) λ_ _=>rfl
  ·rw[oE (by show (228600+10*j+r:Nat)≠228500+i;omega)];unfold kill;rw[oE (by show (228600+10*j+r:Nat)≠228600+10*i+k;omega)];exact h.Ii j r ay U (by omega) bZ
  ·have rX:x/1000≠228:=I;rw[oE (by show x≠228500+i;omega)];unfold kill;rw[oE (by show x≠228600+10*i+k;omega)]
theorem xh.all {H:List Int}{l:List av}{g:Nat}{gs:Nat->Nat}{ib:Nat->Nat->Nat}(aL:(o H)<=6):∀r d m,d+r=10*(o H)->xh H l g gs ib d m->∃m',sZ m m'/\xh H l g gs ib (10*o H) m'/\l7 228 m m'
 |0,d,m,ae,h=>⟨m,.refl m,by rw[<-ae];exact h,l7.refl _ _⟩
 |r+1,d,m,ae,h=>by
  obtain⟨cJ,D,G,ag⟩:=h.step aL (by omega);obtain⟨cE,dp,dN,jR⟩:=xh.all aL r (d+1) cJ (by omega) G;exact⟨cE,D.trans dp,dN,λx I=>(jR x I).trans (ag x I)⟩
def Ux (H:List Int)(cs:List av)(g:Nat)(gs:Nat->Nat):jk:=⟨H,kp (o H) cs,dX (o H) λ_=>10,Bd (o H) λ_=>false,g,dX (o H) gs⟩
theorem aqq {H:List Int}{cs:List av}(h:fV H cs)(i r:Nat):dP (kp (o H) cs) i r=dP cs i r:=by
 have D:=yH h.right i r;have G:=yH (aoB h).right i r;rw[<-(aoA h.right).cH,<-D] at G;exact_mod_cast G
theorem Ik {α:Type}{n i:Nat}(q:Nat->α)(d:α)(h:i<n):(dX n q).getD i d=q i:=by
 rw[fP,DX q h];rfl
theorem xh.at {H:List Int}{cs:List av}(aa:fV H cs){g:Nat}{gs:Nat->Nat}{ib:Nat->Nat->Nat}{m:Mem}(h:xh H cs g gs ib (10*o H) m):(Ux H cs g gs).At m:=by
 refine⟨(aox _ _).symm,rl _ _,ao4 _ _,rl _ _,?_,λi Q=>?_⟩
 ·refine h.row.trans ?_
  congr 2
  exact pw λi Q=>by
   show O.ptr (228500+i) (gs i) 0=O.ptr (228500+i) ((dX (o H) gs).getD i 0) 0;rw[Ik gs 0 Q]
 ·have kU:i<o H:=Q;refine (h.dc i kU).trans ?_;have aw:(Ux H cs g gs).gs.getD i 0=gs i:=Ik gs 0 kU;rw[aw]
  congr 2
  have aB:(dX (o H) λ_=>(10:Int)).getD i 10=10:=Ik _ _ kU;have cI:(Bd (o H) λ_=>false).getD i false=false:=by rw[fP,ao5 _ kU];rfl
  have gJ:H5 ((Ux H cs g gs).D1 i)=dK (H.getD i 0)::((dX 10 λk=>e0 (kp (o H) cs) i k).map vt++((dX 11 λk=>dP (kp (o H) cs) i (k:Nat)).map dK++[dK ((dX (o H) λ_=>(10:Int)).getD i 10),yP ((Bd (o H) λ_=>false).getD i false)])):=rfl;rw[gJ,aB,cI];unfold sO
  have b6:(dX 10 λk=>e0 (kp (o H) cs) i k).map vt=dX 10 (sP cs ib (10*o H) i):=by
   unfold dX;rw[lX];refine oV λk R=>?_;have Mf:=od.1 R;show vt (e0 (kp (o H) cs) i k)=sP cs ib (10*o H) i k;rw[acz cs kU Mf];unfold sP;rw[aj (by omega)]
  have dB:(dX 11 λk=>dP (kp (o H) cs) i (k:Nat))=dX 11 λk=>dP cs i (k:Nat):=pw λk _=>aqq aa i k;rw[b6,dB]
def oF (l:List av)(r:Int):Int:=dA l λc=>if c.2.2.1<r then c.2.2.2 else 0
def fW (l:List av)(r:Int):Int:=dA l λc=>if c.2.2.1=r then c.2.2.2 else 0
theorem adA (l:List av)(r:Int):oF l (r+1)=oF l r+fW l r:=by
 unfold oF fW;rw[<-TH];refine Hu λc _=>?_
 by_cases D:c.2.2.1<r
 ·rw[aj D,aj (by omega),aq (by omega)];omega
 ·by_cases G:c.2.2.1=r
  ·rw[aj (by omega),aq D,aj G];omega
  ·rw[aq (by omega),aq D,aq G];rfl
def gq (l:List av)(x:Rat)(k:Nat):Rat:=pos (x-((oF l k:Int):Rat))
theorem ia.Uy {l:List av}(h:ia l)(r:Int):0<=fW l r/\fW l r<=12000000000000000:=h.bound λc=>c.2.2.1=r
theorem ia.aqr {l:List av}(h:ia l)(r:Int):0<=oF l r/\oF l r<=12000000000000000:=h.bound λc=>c.2.2.1<r
theorem aqs (l:List av)(x:Rat)(k:Nat):0<=gq l x k:=DD _
theorem aqt {l:List av}(h:ia l){x:Rat}(I:0<=x):gq l x 0=x:=by
 have:oF l (0:Nat)=0:=by
  unfold oF
  have:(dA l λc=>if c.2.2.1<((0:Nat):Int) then c.2.2.2 else 0)=dA l λ_=>0:=Hu λc E=>by
   have:=(h.c c E).2.2.2.2.1;rw[aq (by omega)]
  rw[this];clear h this
  induction l with
  |nil=>rfl
  |cons c l aA=>simp only[dA,aA];omega
 unfold gq;rw[this,vj]<;>grind
theorem aqu {l:List av}(h:ia l){x:Rat}{k:Nat}(he:((fW l k:Int):Rat)<=gq l x k):gq l x (k+1)=gq l x k-((fW l k:Int):Rat):=by
 have D:=adA l k;have au:=(h.Uy k).1;have aAe:(0:Rat)<=((fW l k:Int):Rat):=by exact_mod_cast au
 unfold gq at *;rw[show ((k+1:Nat):Int)=(k:Int)+1 by omega,D,tV]
 by_cases aG:x-((oF l k:Int):Rat)<=0
 ·have aw:=sE aG;rw[aw] at he ⊢;rw[sE (by grind)];grind
 ·have aw:=vj (x:=x-((oF l k:Int):Rat)) (by grind);rw[aw] at he ⊢;rw[vj (by grind)];grind
theorem aqv {l:List av}{x:Rat}{k:Nat}(he:¬ ((fW l k:Int):Rat)<=gq l x k):gq l x (k+1)=0:=by
 have D:=adA l k;have G:=Lw (x-((oF l k:Int):Rat));unfold gq at *;rw[show ((k+1:Nat):Int)=(k:Int)+1 by omega,D,tV,sE (by grind)]
section
variable {l:List av} (h:ia l) {x:Rat} {k:Nat} {c:av} (E:c∈l) (R:c.2.2.1=k)
include h E R
theorem adB:dP l c.1 c.2.2.1=oF l k/\iz l c.1 c.2.2.1=fW l k:=by
 rw[R];exact⟨(h.less E k).symm,(h.same E k).symm⟩
theorem aqw (he:((fW l k:Int):Rat)<=gq l x k):fx l x c=(c.2.2.2:Rat):=by
 obtain⟨aw,aB⟩:=adB h E R;have aL:∀c∈l,0<=c.2.2.2:=λc E=>(h.c c E).2.2.2.2.2.2.1
 by_cases aG:x-((oF l k:Int):Rat)<=0
 ·have au:gq l x k=0:=sE aG;rw[au] at he;have di:fW l k<=0:=by exact_mod_cast he
  have aM:=ac7 aL E;rw[aB] at aM;have aAf:=aL c E;rw[TJ aL E (by rw[aw];exact aG),show c.2.2.2=0 by omega];rfl
 ·refine ac8 ?_;rw[aw,aB];unfold gq at he;rwa [vj (by grind)] at he
theorem aqx (he:¬ ((fW l k:Int):Rat)<=gq l x k):fx l x c=(c.2.2.2:Rat)*gq l x k/((fW l k:Int):Rat):=by
 obtain⟨aw,aB⟩:=adB h E R;have aL:∀c∈l,0<=c.2.2.2:=λc E=>(h.c c E).2.2.2.2.2.2.1
 by_cases aG:x-((oF l k:Int):Rat)<=0
 ·have au:gq l x k=0:=sE aG;rw[TJ aL E (by rw[aw];exact aG),au,m2,DC,w0]
 ·have au:gq l x k=x-((oF l k:Int):Rat):=vj (by grind);rw[ac9 (by rw[aw];grind) (by rw[aw,aB,<-au];grind),aw,aB,au]
end
theorem adC {l:List av}{x:Rat}(h:xa l x)(k:Nat):eB 515 (gq l x k):=by
 have gl:=h.own.aqr k;unfold gq pos
 split
 ·exact (show eB 1 0 from⟨by decide,by decide⟩).mono (by omega)
 ·rw[TN];exact (S7 h.sz (HA (vm (z:=oF l k) (b:=54) (by omega)))).mono (by omega)
def Uz:=bU D3 λ(x,a,b)=>some (.same (.bool (decide (a<=x)&&decide (x<=b))))
@[go_sem] theorem aAg (x:Int)(a:Int)(b:Int):Uz [.int .i64 x,.int .i64 a,.int .i64 b]=some (.same (.bool (decide (a<=x)&&decide (x<=b)))):=b3 L5 (x,a,b)
theorem aqy (T:br)  (x:Int) (a:Int) (b:Int):WP T Tt (.same (.bool (decide (a<=x)&&decide (x<=b)))) [.J (.int .i64 x),.J (.int .i64 a),.J (.int .i64 b)]:=by
 refine b4 ?_;simp only[Tt];rcases bm:decide (a<=x)
 ·have bN:decide (x>=a)=false:=bm;refine aQ ?_;repeat' (intro h<;>simp only[h,go_sem,go_sem_proc,bm,bN,dm]<;>try refine al ?_ ?_)
 ·have bN:decide (x>=a)=true:=bm;refine aQ ?_;repeat' (intro h<;>simp only[h,go_sem,go_sem_proc,bm,bN,eF]<;>try refine al ?_ ?_)
def Mg:=bU LW λ(l:List av)=>cq (ia l) (.same (.bool true))
@[go_sem] theorem aAh (l:List av)(E:ia l):Mg [.X (l.map bR)]=some (.same (.bool true)):=(b3 acY l).trans (cw E _)
theorem aqz (T:br)(Il:T Ct=aK Uz)(l:List av)(E:ia l):WP T Tr (.same (.bool true)) [.J (.X (l.map bR))]:=by
 refine b4 ?_;simp only[Tr];have ax:=E.len;simp only[go_sem,go_sem_proc,Il,af];refine dw [0,5,6] [] (λ(i:Nat) tm mem=>i<=o l/\tm 7=.J (.int .i64 i)) (λi=>o l-i) 0 (by refine⟨by omega,rfl⟩) ?_;intro vs ms a7 aY;simp only[go_sem,go_sem_proc,Il,af] at a7 aY;subst a7 aY;rintro i tm mem R hm ⟨Q,cd⟩;simp only[go_sem,go_sem_proc,Il,bn] at R hm;obtain⟨au,bs,b1⟩:=R;rcases dG (i<o l) with az|cb
 ·have d1:decide ((i:Int)<(o l:Int))=true:=dn;have cn:=eY (i:=i) (by omega);obtain⟨⟨bm,bN,bO,cp⟩,I⟩:∃c,l[i]?=some c:=⟨_,bL az⟩;obtain⟨⟨c6,dv,a3,a4⟩,AR⟩:∃c,l[0]?=some c:=⟨_,bL (by omega)⟩;have ja:=E.c _ (eN I);have qJ:=E.one _ (eN I) _ (eN AR);dsimp only at ja qJ;subst qJ;have c7:(decide (0<=bm)&&decide (bm<=59))=true:=by simp only[eX,decide_eq_true_eq];omega
  have c2:(decide (-1<=bN)&&decide (bN<=59))=true:=by simp only[eX,decide_eq_true_eq];omega
  have iU:(decide (0<=bO)&&decide (bO<=9))=true:=by simp only[eX,decide_eq_true_eq];omega
  have DW:(decide (0<=cp)&&decide (cp<=1000000000000000))=true:=by simp only[eX,decide_eq_true_eq];omega
  refine aQ ?_;repeat' (intro h<;>simp only[h,go_sem,go_sem_proc,Il,au,bs,b1,cd,I,AR,d1,cn,c7,c2,iU,DW,bR,bne,beq_self_eq_true,bX,af,bb]<;>try refine al ?_ ?_)
  exact⟨i+1,by omega,by omega,rfl⟩
 ·have d1:decide ((i:Int)<(o l:Int))=false:=cY;have d2:decide ((o l:Int)<=2000)=true:=dn;refine aQ ?_;repeat' (intro h<;>simp only[h,go_sem,go_sem_proc,Il,au,bs,b1,cd,d1,d2,af]<;>try refine al ?_ ?_)
theorem aqA (T:br){K:fA->bz->Prop}{kk:List iJ}(l:List av)(ax:ia l)(k:Nat)(v1 v6 adD:O)(Bg:O)(bG iV adE:Option (Nat×List O))(tm:Nat->O)(m:Mem)
  (aw:tm 1=v1) (dB:tm 6=v6) (bQ:tm 7=adD) (cS:tm 8=.J (.int .i64 k)) (eh:tm 9=.J (.int .i64 0)) (lN:tm 37=Bg) (Eb:tm 40=.J (.X (l.map bR))) (Ec:tm 41=.J (.int .i64 (o l))) (Ed:tm 42=.J (.int .i64 0)) (cE:m 249002=bG) (kG:m 249007=iV) (l9:m 249035=adE)
  (hV:∀tm' m',tm' 1=v1->tm' 6=v6->tm' 7=adD->tm' 8=.J (.int .i64 k)->tm' 9=.J (.int .i64 (fW l k))->tm' 37=Bg->m' 249002=bG->m' 249007=iV->m' 249035=adE->dd T K kk (.exit 2) ⟨tm',m'⟩) :
  wp T (Ba.body.sub [1,1,1,1,0,1,0,0,1,1,0,0,1,1,0,1,0]) (dd T K kk) ⟨tm,m⟩:=by
 simp only[Ba,e6.sub];have ah:=λt=>ax.cs.sum (λc=>c.2.2.1=(k:Int)) t;have hlen:=ax.len;refine dw [1,6,7,8,37,40,41] [249002,249007,249035] (λ(t:Nat) tm m=>t<=o l/\tm 42=.J (.int .i64 t)/\tm 9=.J (.int .i64 (fW (l.take t) k))) (λt=>o l-t) 0 (by refine⟨by omega,Ed,eh⟩) ?_;intro vs ms a7 aY;simp only[go_sem,go_sem_proc,aw,dB,bQ,cS,lN,Eb,Ec,cE,kG,l9] at a7 aY;subst a7 aY;clear aw dB bQ cS eh lN Eb Ec Ed cE kG l9 tm m;rintro t tm m R hm ⟨bV,Ed,eh⟩;simp only[go_sem,go_sem_proc,bn] at R hm;obtain⟨aw,dB,bQ,cS,lN,Eb,Ec⟩:=R;obtain⟨cE,kG,l9⟩:=hm;rcases dG (t<o l) with az|cb
 ·have d1:decide ((t:Int)<(o l:Int))=true:=dn;have cn:=eY (i:=t) (by omega);obtain⟨⟨bm,bN,bO,cp⟩,I⟩:∃c,l[t]?=some c:=⟨_,bL az⟩
  have c1:fW (l.take (t+1)) k=fW (l.take t) k+if bO=(k:Int) then cp else 0:=by
   unfold fW;rw[Tu I]
  have D:=ah t;have G:=ah (t+1);have ZI:fW (l.take t) k=dA (l.take t) λc=>if c.2.2.1=(k:Int) then c.2.2.2 else 0:=rfl;have aqB:fW (l.take (t+1)) k=dA (l.take (t+1)) λc=>if c.2.2.1=(k:Int) then c.2.2.2 else 0:=rfl;rw[<-ZI] at D;rw[<-aqB] at G;rcases q:(bO==(k:Int))
  ·rw[aq (by have:=ne_of_beq_false q;omega),tw] at c1;refine aQ ?_;repeat' (intro h<;>simp only[h,go_sem,go_sem_proc,aw,dB,bQ,cS,eh,lN,Eb,Ec,Ed,cE,kG,l9,I,d1,cn,q,bR,af,bb]<;>try refine al ?_ ?_)
   exact⟨t+1,by omega,by omega,rfl,by rw[c1]⟩
  ·rw[aj (by have:=eq_of_beq q;omega)] at c1;have aqC:IntKind.i64.wrap (fW (l.take t) k+cp)=fW (l.take (t+1)) k:=by rw[c1,wrap64 _ (by omega) (by omega)]
   refine aQ ?_;repeat' (intro h<;>simp only[h,go_sem,go_sem_proc,aw,dB,bQ,cS,eh,lN,Eb,Ec,Ed,cE,kG,l9,I,d1,cn,q,aqC,bR,af,bb]<;>try refine al ?_ ?_)
   exact⟨t+1,by omega,by omega,rfl,rfl⟩
 ·have d1:decide ((t:Int)<(o l:Int))=false:=cY;rw[du (by omega)] at eh;refine aQ ?_;repeat' (intro h<;>simp only[h,go_sem,go_sem_proc,aw,dB,bQ,cS,eh,lN,Eb,Ec,Ed,d1]<;>try refine al ?_ ?_)
  refine hV _ _ ?_ ?_ ?_ ?_ ?_ ?_ cE kG l9<;>simp only[qA,tI,if_false,aw,dB,bQ,cS,eh,lN]
def j4 (l:List av)(x:Rat)(k t j:Nat):Option bd:=if (l.getD j px).2.2.1<(k:Int)\/((l.getD j px).2.2.1=(k:Int)/\j<t) then some (nN l x j) else none
theorem aqD (l:List av)(h:ia l)(x:Rat):(dX (o l) λj=>j4 l x 0 0 j)=dX (o l) λ_=>none:=pw λj ay=>by
 have:=(h.c _ (eN (bL ay))).2.2.2.2.1;have e:l.getD j px=l[j]:=by rw[fP,bL ay];rfl
 unfold j4;rw[e,aq (by omega)]
theorem aqE (l:List av)(x:Rat)(k:Nat):(dX (o l) λj=>j4 l x k (o l) j)=dX (o l) λj=>j4 l x (k+1) 0 j:=pw λj ay=>by
 unfold j4
 by_cases h:(l.getD j px).2.2.1<((k+1:Nat):Int)
 ·rw[aj (by omega),aj (.inl h)]
 ·rw[aq (by omega),aq (by omega)]
theorem aqF (l:List av)(h:ia l)(x:Rat):(dX (o l) λj=>j4 l x 10 0 j)=dX (o l) λj=>some (nN l x j):=pw λj ay=>by
 have:=(h.c _ (eN (bL ay))).2.2.2.2.2.1;have e:l.getD j px=l[j]:=by rw[fP,bL ay];rfl
 unfold j4;rw[e,aj (.inl (by omega))]
theorem Im {n:Int}(h:c8 n):DR [.int .i64 n]=some (.same (.agg (aH (ai (n:Rat))))):=aom n h
theorem aqG (T:br)(kN:T sb=aK DR)(qq:T JO=aK GY)(qs:T JR=aK GZ){K:fA->bz->Prop}{kk:List iJ}(l:List av)(x:Rat)(gU:xa l x)(k:Nat)(cW Ee:Nat)(v1 Bg:O)(bG:Option (Nat×List O))(tm:Nat->O)(m:Mem)
  (aw:tm 1=v1) (dB:tm 6=.ref 249035 cW 4 0 (o l)) (bQ:tm 7=.ptr 249007 Ee 0) (cS:tm 8=.J (.int .i64 k)) (eh:tm 9=.J (.int .i64 (fW l k))) (gm:tm 12=.J (.bool (decide (((fW l k:Int):Rat)<=gq l x k)))) (lN:tm 37=Bg) (Bh:tm 60=.J (.X (l.map bR))) (Bi:tm 61=.J (.int .i64 (o l))) (Bj:tm 62=.J (.int .i64 0)) (cE:m 249002=bG) (kG:m 249007=some (Ee,(aH (ai (gq l x k))).map .J)) (l9:m 249035=some (cW,lM rm (dX (o l) λj=>j4 l x k 0 j)))
  (hV:∀tm' m',tm' 1=v1->tm' 6=.ref 249035 cW 4 0 (o l)->tm' 7=.ptr 249007 Ee 0->tm' 9=.J (.int .i64 (fW l k))->tm' 12=.J (.bool (decide (((fW l k:Int):Rat)<=gq l x k)))->tm' 37=Bg->m' 249002=bG->m' 249007=some (Ee,(aH (ai (gq l x k))).map .J)->m' 249035=some (cW,lM rm (dX (o l) λj=>j4 l x (k+1) 0 j))->dd T K kk (.exit 4) ⟨tm',m'⟩) :
  wp T (Ba.body.sub [1,1,1,1,0,1,0,0,1,1,0,0,1,1,1,1,0,1,0]) (dd T K kk) ⟨tm,m⟩:=by
 simp only[Ba,e6.sub];have how:=gU.own;have hlen:=how.len;refine dw [1,6,7,8,9,12,37,60,61] [249002,249007] (λ(t:Nat) tm m=>t<=o l/\tm 62=.J (.int .i64 t)/\m 249035=some (cW,lM rm (dX (o l) λj=>j4 l x k t j))) (λt=>o l-t) 0 (by refine⟨by omega,Bj,l9⟩) ?_;intro vs ms a7 aY;simp only[go_sem,go_sem_proc,aw,dB,bQ,cS,eh,gm,lN,Bh,Bi,cE,kG] at a7 aY;subst a7 aY;clear aw dB bQ cS eh gm lN Bh Bi Bj cE kG l9 tm m;rintro t tm m R hm ⟨bV,Bj,l9⟩;simp only[go_sem,go_sem_proc,bn] at R hm;obtain⟨aw,dB,bQ,cS,eh,gm,lN,Bh,Bi⟩:=R;obtain⟨cE,kG⟩:=hm;rcases dG (t<o l) with az|cb
 ·have d1:decide ((t:Int)<(o l:Int))=true:=dn;have cn:=eY (i:=t) (by omega);obtain⟨⟨bm,bN,bO,cp⟩,I⟩:∃c,l[t]?=some c:=⟨_,bL az⟩;have fu:=eN I;have jr:=how.c _ fu;dsimp only at jr;have s6:l.getD t px=(bm,bN,bO,cp):=by rw[fP,I];rfl
  have DZ:=TF (q:=λj=>j4 l x k t j) az;rcases q:(bO==(k:Int))
  ·have bZ:bO≠(k:Int):=ne_of_beq_false q
   have ky:(dX (o l) λj=>j4 l x k (t+1) j)=dX (o l) λj=>j4 l x k t j:=pw λj _=>by
    unfold j4
    by_cases ay:j=t
    ·subst ay;rw[s6];dsimp only
     by_cases D:bO<(k:Int)
     ·rw[aj (.inl D),aj (.inl D)]
     ·rw[aq (by omega),aq (by omega)]
    ·by_cases D:(l.getD j px).2.2.1<(k:Int)\/((l.getD j px).2.2.1=(k:Int)/\j<t)
     ·rw[aj D,aj (by omega)]
     ·rw[aq D,aq (by omega)]
   refine aQ ?_;repeat' (intro h<;>simp only[h,go_sem,go_sem_proc,aw,dB,bQ,cS,eh,gm,lN,Bh,Bi,Bj,cE,kG,I,d1,cn,q,bR,bne,cv,af,bb]<;>try refine al ?_ ?_)
   exact⟨t+1,by omega,by omega,rfl,by rw[ky];exact l9⟩
  ·have UA:bO=(k:Int):=eq_of_beq q;have sJ:=λa b c d=>TG (q:=λj=>j4 l x k t j) az a b c d
   have uD:∀a1:bd,a1=nN l x t->(dX (o l) λj=>if j=t then some a1 else j4 l x k t j)=dX (o l) λj=>j4 l x k (t+1) j:=by
    intro a1 e3;refine pw λj _=>?_
    by_cases ay:j=t
    ·subst ay;rw[aj rfl];unfold j4;rw[s6,aj (.inr ⟨UA,by omega⟩),e3]
    ·rw[aq ay];unfold j4
     by_cases D:(l.getD j px).2.2.1<(k:Int)\/((l.getD j px).2.2.1=(k:Int)/\j<t)
     ·rw[aj D,aj (by omega)]
     ·rw[aq D,aq (by omega)]
   have L2:nN l x t=ai (fx l x (bm,bN,bO,cp)):=by unfold nN;rw[s6]
   have H0:c8 cp:=tY (by omega) (by omega);have xb:=Im H0;rcases dN:decide (((fW l k:Int):Rat)<=gq l x k)
   ·have adk:=of_decide_eq_false dN;have TM:=how.Uy k;have vr:c8 (fW l k):=tY (by omega) (by omega);have sI:=Im vr;have rp:=adC gU k;have tZ:eB 54 ((cp:Int):Rat):=vm (by omega);have yR:eB 54 ((fW l k:Int):Rat):=vm (by omega);have TO:((fW l k:Int):Rat)≠0:=by have:=aqs l x k;grind
    have f1:=aoU (rn H0) (oB rp (by omega)) (abV tZ rp (by omega));have f2:=aoW (oB (HB tZ rp) (by omega)) (rn vr) TO (abW (HB tZ rp) yR (by omega));have ua:=aqx how fu UA adk;dsimp only at ua;have aqH:=λa b c d=>TG (q:=λj=>if j=t then some ((a,b),(c,d)) else j4 l x k t j) az;have aqI:=λa b c d=>TF (q:=λj=>if j=t then some ((a,b),(c,d)) else j4 l x k t j) az;have aL:=uD (ai (((cp:Int):Rat)*gq l x k/((fW l k:Int):Rat))) (by rw[L2,ua])
    have aqJ:∀a1 adF:bd,(dX (o l) λj=>if j=t then some a1 else if j=t then some adF else j4 l x k t j)=dX (o l) λj=>if j=t then some a1 else j4 l x k t j:=λa1 adF=>pw λj _=>by
     by_cases ay:j=t
     ·rw[aj ay,aj ay]
     ·rw[aq ay,aq ay,aq ay]
    clear rp tZ yR;generalize ai (((cp:Int):Rat)*gq l x k/((fW l k:Int):Rat))=G1 at *;generalize ai (((cp:Int):Rat)*gq l x k)=G2 at *;generalize ai ((fW l k:Int):Rat)=G3 at *;generalize UB:ai (gq l x k)=G4 at *;generalize ai ((cp:Int):Rat)=G5 at *;obtain⟨⟨dh,cR⟩,⟨lp,qp⟩⟩:=G1;obtain⟨⟨D,G⟩,⟨ag,aR⟩⟩:=G2;obtain⟨⟨i1,i2⟩,⟨i3,i4⟩⟩:=G3;obtain⟨⟨yS,rZ⟩,⟨TP,TQ⟩⟩:=G4;obtain⟨⟨mO,mP⟩,⟨ub,uc⟩⟩:=G5;simp only[aH,e8,cM] at xb sI f1 f2 kG;have c1:=sJ mO mP ub uc;have adG:=aqH mO mP ub uc dh cR lp qp;have aqK:=aqI mO mP ub uc;rw[aqJ,aL] at adG;refine aQ ?_;repeat' (intro h<;>simp only[h,go_sem,go_sem_proc,kN,qq,qs,aw,dB,bQ,cS,eh,gm,lN,Bh,Bi,Bj,cE,kG,l9,I,d1,cn,az,q,dN,xb,sI,f1,f2,DZ,aqK,c1,adG,bR,af,bb,bne,beq_self_eq_true,bX,cv]<;>try refine al ?_ ?_)
    exact⟨t+1,by omega,rfl,by omega,rfl,rfl⟩
   ·have ua:=aqw how fu UA (of_decide_eq_true dN);dsimp only at ua;have aL:=uD (ai ((cp:Int):Rat)) (by rw[L2,ua]);generalize ai ((cp:Int):Rat)=G5 at *;obtain⟨⟨mO,mP⟩,⟨ub,uc⟩⟩:=G5;simp only[aH] at xb;have c1:=sJ mO mP ub uc;rw[aL] at c1;refine aQ ?_;repeat' (intro h<;>simp only[h,go_sem,go_sem_proc,kN,aw,dB,bQ,cS,eh,gm,lN,Bh,Bi,Bj,cE,kG,l9,I,d1,cn,az,q,dN,xb,DZ,c1,bR,af,bb,bne,beq_self_eq_true,bX,cv]<;>try refine al ?_ ?_)
    exact⟨t+1,by omega,by omega,rfl,rfl⟩
 ·have d1:decide ((t:Int)<(o l:Int))=false:=cY;obtain rfl:t=o l:=by omega
  rw[aqE] at l9;refine aQ ?_;repeat' (intro h<;>simp only[h,go_sem,go_sem_proc,aw,dB,bQ,cS,eh,gm,lN,Bh,Bi,Bj,d1]<;>try refine al ?_ ?_)
  refine hV _ _ ?_ ?_ ?_ ?_ ?_ ?_ cE kG l9<;>simp only[qA,tI,if_false,aw,dB,bQ,eh,gm,lN]
def UC:=bU LZ λ(x,l)=>cq (xa l x) (.same (.cQ [.X ((l.map λc=>ai (fx l x c)).map aH),.int .i64 0]))
@[go_sem] theorem aqL (x:Rat)(l:List av)(E:xa l x):UC [.agg (aH (ai x)),.X (l.map bR)]=some (.same (.cQ [.X ((l.map λc=>ai (fx l x c)).map aH),.int .i64 0])):=(b3 adf (x,l)).trans (cw E _)
theorem aqM (T:br)(e4:T kh=aK sn)(gC:T r7=aK yq)(kN:T sb=aK DR)(mC:T F7=aK Mg)(qq:T JO=aK GY)(qs:T JR=aK GZ)(uf:T Og=aK KQ)(x:Rat)(l:List av)(E:xa l x):WP T Ba (.same (.cQ [.X ((l.map λc=>ai (fx l x c)).map aH),.int .i64 0])) [.J (.agg (aH (ai x))),.J (.X (l.map bR))]:=by
 refine b4 ?_;simp only[Ba];have ja:=E;obtain⟨how,AR,vX⟩:=E;have nO:=oB vX (by omega);have hlen:=how.len;have HZ:=A9 nO;have K9:=LQ nO (rn TB);have yZ:decide (km x ((0:Int):Rat)<0)=false:=by rw[LR];exact gr (by have:((0:Int):Rat)=0:=rfl;grind)
 have bM:=gW nO;have gU:=ade l x;have f0:=Im TB;have pd:=aqt how AR;have Di:=aqD l how x;have a8:=ac4 (o l);rw[<-Di] at a8;have r0:(64*o l<=140737488355328)=True:=eq_true (by omega);have TL:(o l<=maxLen)=True:=eq_true (by unfold maxLen;omega);generalize e3:ai x=a1 at *;generalize Mh:ai ((0:Int):Rat)=Z at *;obtain⟨⟨c6,dv⟩,⟨a3,a4⟩⟩:=a1;obtain⟨⟨mZ,pj⟩,⟨z3,z4⟩⟩:=Z;simp only[aH] at f0 K9;simp only[go_sem,go_sem_proc,e4,gC,kN,mC,qq,qs,uf,aH,HZ,bM.1,bM.2,f0,K9,yZ,how,r0,TL,a8,af,bX,cv];refine dw [1,6,7] [249002] (λ(k:Nat) tm m=>k<=10/\tm 37=.J (.int .i64 k)/\m 249007=some (0,(aH (ai (gq l x k))).map .J)/\m 249035=some (0,lM rm (dX (o l) λj=>j4 l x k 0 j))) (λk=>10-k) 0 (by refine⟨by omega,rfl,by rw[pd,e3];rfl,rfl⟩) ?_;intro vs ms a7 aY;simp only[go_sem,go_sem_proc,e4,gC,kN,mC,qq,qs,uf,aH,af] at a7 aY;subst a7 aY;rintro k tm m R hm ⟨adH,lN,kG,l9⟩;simp only[go_sem,go_sem_proc,e4,gC,kN,mC,qq,qs,uf,bn] at R hm;obtain⟨aw,dB,bQ⟩:=R;rcases dG (k<10) with az|cb
 ·have d1:decide ((k:Int)<10)=true:=dn;have cn:=eY (i:=k) (by omega);simp only[go_sem,go_sem_proc,e4,gC,kN,mC,qq,qs,uf,aw,dB,bQ,lN,hm,d1,af];refine aqA T l how k (.J (.X (l.map bR))) (.ref 249035 0 4 0 (o l)) (.ptr 249007 0 0) (.J (.int .i64 k)) _ (some (0,(aH (ai (gq l x k))).map .J)) (some (0,lM rm (dX (o l) λj=>j4 l x k 0 j))) _ _ ?_ ?_ ?_ ?_ ?_ ?_ ?_ ?_ ?_ hm kG l9 ?_
  all_goals first|(intro tm' m' dp yw yx nx ny adI c2 HW adJ)|(simp only[qA,tI,if_false,if_true,aw,dB,bQ,lN];done)
  have TM:=how.Uy k;have vr:c8 (fW l k):=tY (by omega) (by omega);have sI:=Im vr;have rp:=adC ja k;have tF:=oB rp (by omega);have yR:eB 54 ((fW l k:Int):Rat):=vm (by omega);have fi:=LQ tF (rn vr);have P9:decide (km (gq l x k) ((fW l k:Int):Rat)>=0)=decide (((fW l k:Int):Rat)<=gq l x k):=acP;have hn:=aoT tF (rn vr) (S5 rp (HA yR) (by omega));have adK:=λ(K:fA->bz->Prop) (kk:List iJ) cW Ee v1 Bg bG tm m=>aqG T kN qq qs (K:=K) (kk:=kk) l x ja k cW Ee v1 Bg bG tm m;have aqN:((fW l k:Int):Rat)<=gq l x k->ai (gq l x (k+1))=ai (gq l x k-((fW l k:Int):Rat)):=λh=>by rw[aqu how h]
  have fB:¬ ((fW l k:Int):Rat)<=gq l x k->ai (gq l x (k+1))=((mZ,pj),(z3,z4)):=λh=>by rw[aqv h,<-Mh];rfl
  generalize ai (gq l x k-((fW l k:Int):Rat))=G1 at *;generalize aAi:ai (gq l x k)=G2 at *;generalize ai ((fW l k:Int):Rat)=G3 at *;generalize UB:ai (gq l x (k+1))=G4 at *;obtain⟨⟨dh,cR⟩,⟨lp,qp⟩⟩:=G1;obtain⟨⟨D,G⟩,⟨ag,aR⟩⟩:=G2;obtain⟨⟨i1,i2⟩,⟨i3,i4⟩⟩:=G3;simp only[aH,e8,cM] at sI fi hn HW;simp only[go_sem,go_sem_proc,e4,gC,kN,mC,qq,qs,uf,dp,yw,yx,nx,ny,adI,c2,HW,adJ,sI,fi,P9,af];refine adK _ _ 0 0 (.J (.X (l.map bR))) (.J (.int .i64 k)) _ _ _ ?_ ?_ ?_ ?_ ?_ ?_ ?_ ?_ ?_ ?_ c2 ?_ adJ ?_
  all_goals first|(intro aAj cE yS Mi Mj Mk Ef Ml eV Io Mm)|(simp only[qA,tI,if_false,if_true,dp,yw,yx,nx,ny,adI];done)|(rw[HW];rfl)
  simp only[aH,e8,cM] at Io;clear adK;rcases q:decide (((fW l k:Int):Rat)<=gq l x k)
  ·have he:=fB (of_decide_eq_false q);rw[q] at Ef;simp only[go_sem,go_sem_proc,e4,gC,kN,mC,qq,qs,uf,yS,Mi,Mj,Mk,Ef,Ml,eV,Io,Mm,f0,cn,cv,bX];repeat' (first|refine al ?_ ?_|fail)<;>intro h<;>simp only[h,go_sem,go_sem_proc,e4,gC,kN,mC,qq,qs,uf,yS,Mi,Mj,Mk,Ef,Ml,eV,Io,Mm,f0,cn,cv,bX]
   exact⟨k+1,by omega,by omega,rfl,by rw[UB,he];rfl,rfl⟩
  ·have he:=aqN (of_decide_eq_true q);rw[q] at Ef;simp only[go_sem,go_sem_proc,e4,gC,kN,mC,qq,qs,uf,yS,Mi,Mj,Mk,Ef,Ml,eV,Io,Mm,sI,hn,cn,bne,beq_self_eq_true,cv,bX];repeat' (first|refine al ?_ ?_|fail)<;>intro h<;>simp only[h,go_sem,go_sem_proc,e4,gC,kN,mC,qq,qs,uf,yS,Mi,Mj,Mk,Ef,Ml,eV,Io,Mm,sI,hn,cn,bne,beq_self_eq_true,cv,bX]
   exact⟨k+1,by omega,by omega,rfl,by rw[UB,he];rfl,rfl⟩
 ·have d1:decide ((k:Int)<10)=false:=cY;obtain rfl:k=10:=by omega
  rw[aqF l how x,gU,ac5] at l9;have D0:=λ(K:bz->Prop) (st:bz)=>ml (K:=K) (st:=st) C9 6 249035 0 (l.map λc=>ai (fx l x c));rw[af] at D0;simp only[go_sem,go_sem_proc,e4,gC,kN,mC,qq,qs,uf,aw,dB,bQ,lN,hm,d1,l9,D0,af];repeat' (first|refine al ?_ ?_|fail)<;>intro h<;>simp only[h,go_sem,go_sem_proc,e4,gC,kN,mC,qq,qs,uf,aw,dB,bQ,lN,hm,d1,l9,D0,af]
def vw (l:List av)(i:Nat):List Nat:=(hR (o l)).filter λj=>(l.getD j px).1==(i:Int)
theorem adL (l:List av)(c:av)(i:Nat):vw (l++[c]) i=if c.1=(i:Int) then vw l i++[o l] else vw l i:=by
 unfold vw;have aw:(l++[c]).getD (o l) px=c:=by rw[fP,List.getElem?_append_right (cA _),xA];rfl
 have aB:(hR (o l)).filter (λj=>((l++[c]).getD j px).1==(i:Int))=(hR (o l)).filter λj=>(l.getD j px).1==(i:Int):=List.filter_congr λj ay=>by
  rw[fP,uA (od.1 ay),<-fP]
 rw[fE,AV,HI,ue,aB]
 by_cases h:c.1=(i:Int)
 ·rw[aj h,yV (by rw[aw];simpa using h),rz]
 ·rw[aq h,yW (by rw[aw];simpa using h),rz,gk]
theorem adM (l:List av)(c:av)(i:Nat):cT (l++[c]) i=if c.1=(i:Int) then cT l i++[c] else cT l i:=by
 unfold cT;rw[ue]
 by_cases h:c.1=(i:Int)
 ·rw[aj h,yV (by simpa using h),rz]
 ·rw[aq h,yW (by simpa using h),rz,gk]
def uJ (l:List av)(gc:Nat->Nat)(i:Nat):O:=if cT l i=[] then .nil else .ref (233600+i) (gc i) 4 0 (cT l i).length
def pp (l:List av)(mB:Nat->Nat)(i:Nat):O:=if cT l i=[] then .nil else .ref (233700+i) (mB i) 1 0 (cT l i).length
structure UD (n:Nat) (l:List av) (gc mB:Nat->Nat) (m:Mem):Prop where
 fq:m 233019=some (0,dX n (uJ l gc))
 eV:m 233022=some (0,dX n (pp l mB))
 dp:∀i,i<n->cT l i≠[]->m (233600+i)=some (gc i,bK bR (cT l i))
 dN:∀i,i<n->cT l i≠[]->m (233700+i)=some (mB i,bK Sw (vw l i))
theorem UD.next {n:Nat}{l:List av}{gc mB:Nat->Nat}{m m':Mem}(h:UD n l gc mB m)(aL:n<=6){bm:Nat}{bN bO cp:Int}(dh cR:Nat)
  (D:m' 233019=some (0,dX n λi=>if i=bm then .ref (233600+bm) dh 4 0 ((cT l bm).length+1) else uJ l gc i)) (G:m' 233022=some (0,dX n λi=>if i=bm then .ref (233700+bm) cR 1 0 ((cT l bm).length+1) else pp l mB i))
  (ag:m' (233600+bm)=some (dh,bK bR (cT l bm++[((bm:Int),bN,bO,cp)]))) (aR:m' (233700+bm)=some (cR,bK Sw (vw l bm++[o l])))
  (bM:∀i,i<n->i≠bm->m' (233600+i)=m (233600+i)/\m' (233700+i)=m (233700+i)):UD n (l++[((bm:Int),bN,bO,cp)]) (λi=>if i=bm then dh else gc i) (λi=>if i=bm then cR else mB i) m':=by
 have Mn:∀i:Nat,i≠bm->cT (l++[((bm:Int),bN,bO,cp)]) i=cT l i:=λi Q=>by rw[adM,aq (by show ¬ ((bm:Int)=(i:Int));omega)]
 have Kd:∀i:Nat,i≠bm->vw (l++[((bm:Int),bN,bO,cp)]) i=vw l i:=λi Q=>by rw[adL,aq (by show ¬ ((bm:Int)=(i:Int));omega)]
 have so:cT (l++[((bm:Int),bN,bO,cp)]) bm=cT l bm++[((bm:Int),bN,bO,cp)]:=by rw[adM,aj rfl]
 have sp:vw (l++[((bm:Int),bN,bO,cp)]) bm=vw l bm++[o l]:=by rw[adL,aj rfl]
 refine⟨?_,?_,λi Q bZ=>?_,λi Q bZ=>?_⟩
 ·rw[D]
  congr 2
  refine pw λi Q=>?_;unfold uJ
  by_cases E:i=bm
  ·subst E;rw[so,aj rfl,aq (by simp),fE];dsimp only;rw[aj rfl];rfl
  ·rw[Mn i E,aq E];dsimp only;rw[aq E]
 ·rw[G]
  congr 2
  refine pw λi Q=>?_;unfold pp
  by_cases E:i=bm
  ·subst E;rw[so,aj rfl,aq (by simp),fE];dsimp only;rw[aj rfl];rfl
  ·rw[Mn i E,aq E];dsimp only;rw[aq E]
 ·by_cases E:i=bm
  ·subst E;rw[aj rfl,so];exact ag
  ·rw[Mn i E] at bZ ⊢;rw[aq E,(bM i Q E).1];exact h.dp i Q bZ
 ·by_cases E:i=bm
  ·subst E;rw[aj rfl,sp];exact aR
  ·rw[Mn i E] at bZ;rw[Kd i E,aq E,(bM i Q E).2];exact h.dN i Q bZ

end Go.Mini
namespace Go.Mini
open Classical
def Bk (cs:List av)(x:Nat->Rat)(i:Nat)(acc:Option Rat)(c:av):Option Rat :=
 if c.2.1=(i:Int) then acc.bind λs=>if mx s (fx cs (x c.1.toNat) c)=true then some (s+fx cs (x c.1.toNat) c) else none else acc
def rA (H:List Int)(cs:List av)(x:Nat->Rat)(i:Nat)(l:List av):Option Rat:=l.foldl (Bk cs x i) (some ((H.getD i 0:Int):Rat))
theorem adN (H:List Int)(cs:List av)(x:Nat->Rat)(i:Nat):rA H cs x i []=some ((H.getD i 0:Int):Rat):=rfl
theorem Eg (H:List Int)(cs:List av)(x:Nat->Rat)(i:Nat)(l:List av)(c:av):rA H cs x i (l++[c])=Bk cs x i (rA H cs x i l) c:=by
 unfold rA;rw[UE];rfl
def m6 (H:List Int)(cs:List av)(x:Nat->Rat)(i:Nat)(l:List av):Rat:=((H.getD i 0:Int):Rat)+cy (l.map dJ) λc=>if c.to=(i:Int) then (cf H cs).iT x c else 0
theorem adO {H:List Int}{cs:List av}(h:hL H cs=true)(x:Nat->Rat)(i:Nat)(l:List av){c:av}(E:c∈cs):m6 H cs x i (l++[c])=m6 H cs x i l+if c.2.1=(i:Int) then fx cs (x c.1.toNat) c else 0:=by
 unfold m6;rw[mA,LN,<-acX h x E];show _+(_+((if (dJ c).to=(i:Int) then (cf H cs).iT x (dJ c) else 0)+0))=_;have e:(dJ c).to=c.2.1:=rfl;rw[e,sD];grind
theorem aqO {H:List Int}{cs:List av}(h:hL H cs=true)(x:Nat->Rat)(i:Nat):∀n (l:List av),o l=n->(∀c∈l,c∈cs)->∀s,rA H cs x i l=some s->s=m6 H cs x i l:=by
 intro n
 induction n with
 |zero =>
  intro l ax _ s aa;have:l=[]:=UF.1 ax;subst this;rw[adN,cz] at aa;rw[<-aa];unfold m6;rw[cM,cy,sD]
 |succ n aA =>
  intro l ax hm s aa;rcases zR l with au|⟨hB,c,rfl⟩
  ·subst au;cases ax
  ·rw[zS] at *;simp only[fE,AV] at ax;have E:=hm c (by simp);rw[Eg] at aa;rw[adO h x i hB E];have aA:=aA hB (by omega) (λy ak=>hm y (by simp[ak]));unfold Bk at aa
   by_cases xi:c.2.1=(i:Int)
   ·rw[aj xi] at aa
    cases aM:rA H cs x i hB with
    |none=>rw[aM] at aa;cases aa
    |some t =>
     rw[aM,hE] at aa;rw[aA t aM] at aa
     by_cases R:mx (m6 H cs x i hB) (fx cs (x c.1.toNat) c)=true
     ·rw[aj R,cz] at aa;rw[aj xi,aa]
     ·rw[aq R] at aa;cases aa
   ·rw[aq xi] at aa;rw[aq xi,sD];exact aA s aa
def UG (H:List Int)(cs:List av)(x:Nat->Rat):Prop:=∀i,i<(o H)->rA H cs x i cs=some (x i)
section
variable {H:List Int} {cs:List av} (aa:fV H cs)
include aa
theorem aqP {gd:Nat}(gj:gd=324):0<h8 (o H) (sH H cs)/\h8 (o H) (sH H cs)<=2^gd:=by
 have:=aa.n5;exact⟨anz λk R=>acH aa R,an9 (e:=gd) (λk _=>acI aa k) (by omega)⟩
theorem aqQ:∃bS:Nat,0<bS/\(∃a,a<=654/\bS<=2^a)/\(∀i,i<(o H)->fm bS ((cf H cs).eb i))/\∀c∈cs,fm bS ((cf H cs).iT (cf H cs).eb (dJ c)):=by
 obtain⟨bS,D,⟨a,G,ag⟩,aR⟩:=acG aa;obtain⟨gd,gj⟩:∃gd,gd=324:=⟨_,rfl⟩;obtain⟨hC,jb⟩:=aqP aa gj;refine⟨bS*h8 (o H) (sH H cs),Nat.mul_pos D hC,⟨a+gd,by omega,by rw[Nat.pow_add];exact Nat.mul_le_mul ag jb⟩,λi Q=>(aR i Q).more _,λc E=>?_⟩
 have bs:=acJ aa aR E;have R:(dJ c).aC<o H:=aa.ok.aC _ (tW E);refine bs.of_dvd ?_;obtain⟨m,hm⟩:=anA (cB:=sH H cs) R;exact⟨m,by rw[hm,Nat.mul_assoc]⟩
theorem aqR {i:Nat}(Q:i<o H){l hB:List av}(ax:cs=l++hB):eB 708 (m6 H cs (cf H cs).eb i l):=by
 obtain⟨bS,D,⟨a,G,ag⟩,-,aR⟩:=aqQ aa
 have LH:∀m:List av,(∀c∈m,c∈cs)->0<=cy (m.map dJ) λc=>if c.to=(i:Int) then (cf H cs).iT (cf H cs).eb c else 0:=λm hm=>yE λy ak=>by
  obtain⟨c,E,rfl⟩:=fZ.1 ak
  try dsimp only
  split
  ·exact aa.ok.abq _ (tW (hm c E))
  ·exact Rat.le_refl
 have CO:∀c∈l,c∈cs:=λc E=>by rw[ax];simp[E]
 have wD:∀c∈hB,c∈cs:=λc E=>by rw[ax];simp[E]
 have jW:(0:Rat)<=((H.getD i 0:Int):Rat):=by have:=(aa.H i).1;exact_mod_cast this
 have ae:fm bS (m6 H cs (cf H cs).eb i l):=by
  unfold m6;refine (fm.int _ _).add (fm.cy λy ak=>?_);obtain⟨c,E,rfl⟩:=fZ.1 ak
  split
  ·exact aR c (CO c E)
  ·exact fm.zero _
 have au:0<=m6 H cs (cf H cs).eb i l:=by
  have:=LH l CO;unfold m6;grind
 have hle:m6 H cs (cf H cs).eb i l<=(cf H cs).eb i:=by
  rw[(Tx aa.ok).1 i Q]
  have e:(cf H cs).qj (cf H cs).eb i=m6 H cs (cf H cs).eb i l+cy (hB.map dJ) λc=>if c.to=(i:Int) then (cf H cs).iT (cf H cs).eb c else 0:=by
   have aB:(cf H cs).qj (cf H cs).eb i=((H.getD i 0:Int):Rat)+cy (cs.map dJ) λc=>if c.to=(i:Int) then (cf H cs).iT (cf H cs).eb c else 0:=rfl;rw[aB];unfold m6;have cI:cy (cs.map dJ) (λc=>if c.to=(i:Int) then (cf H cs).iT (cf H cs).eb c else 0)=cy ((l++hB).map dJ) λc=>if c.to=(i:Int) then (cf H cs).iT (cf H cs).eb c else 0:=by rw[<-ax]
   rw[cI,mA,LN];grind
  have:=LH hB wD;grind
 exact (ae.sz D ag au (e:=54) (Rat.le_trans hle (aoF aa Q))).mono (by omega)
theorem aqS:UG H cs (cf H cs).eb:=λi Q=>by
 have key:∀n (l hB:List av),o l=n->cs=l++hB->rA H cs (cf H cs).eb i l=some (m6 H cs (cf H cs).eb i l):=by
  intro n
  induction n with
  |zero =>
   intro l hB ax _;have:l=[]:=UF.1 ax;subst this;rw[adN];unfold m6;rw[cM,cy,sD]
  |succ n aA =>
   intro l hB ax kP;rcases zR l with au|⟨m,c,rfl⟩
   ·subst au;cases ax
   ·rw[zS] at *;simp only[fE,AV] at ax;have E:c∈cs:=by rw[kP];simp
    have fu:cs=m++([c]++hB):=by rw[kP,gZ]
    rw[Eg,adO aa.right _ i m E,aA m _ (by omega) fu];unfold Bk
    by_cases xi:c.2.1=(i:Int)
    ·rw[aj xi,aj xi,hE,aj];refine S5 (aqR aa Q fu) (b:=482) ?_ (by omega);rw[<-acX aa.right _ E];exact aoH aa E
    ·rw[aq xi,aq xi,sD]
 have D:=key _ cs [] rfl (by simp);rw[D,(Tx aa.ok).1 i Q]
 rfl
end
end Go.Mini
namespace Go.Mini
open Go
theorem adP (x:Rat):x*(x.den:Rat)=(x.num:Rat):=by
 have h:(Rat.divInt x.num x.den)=x:=Rat.num_divInt_den x;rw[Rat.divInt_eq_div] at h;have au:((x.den:Int):Rat)≠0:=by have:=x.den_nz;exact_mod_cast this
 have G:(x.num:Rat)/((x.den:Int):Rat)*((x.den:Int):Rat)=(x.num:Rat):=Rat.div_mul_cancel au;rw[h,oA] at G;exact G
theorem adQ {x y:Rat}(h:mx x y=true):dD (x+y):=by
 unfold mx at h;simp only[eX] at h;obtain⟨-,-,ag,aR⟩:=h
 have ae:((x.den:Int)*y.den)≠0:=by
  have D:=x.den_nz;have G:=y.den_nz;exact Int.mul_ne_zero (by omega) (by omega)
 have e:(x+y)*(((x.den:Int)*y.den:Int):Rat)=((x.num*y.den+y.num*x.den:Int):Rat):=by
  have aw:x*(x.den:Rat)=(x.num:Rat):=adP x;have aB:y*(y.den:Rat)=(y.num:Rat):=adP y;rw[tV,oz,oz,oz,oA,oA,<-aw,<-aB];grind
 obtain⟨f1,f2⟩:=DO ae e;have:=p8 ag;have:=p8 aR;exact⟨by omega,by omega⟩
theorem aqT {x y:Rat}(I:dD x)(ak:dD y):GX [.agg (aH (ai x)),.agg (aH (ai y))]=some (.same (.cQ [.agg (aH (ss (mx x y) (x+y)).1),.int .i64 (ss (mx x y) (x+y)).2])):=by
 have D:=gW I;have G:=gW ak;have:=ala (ai x).1.1 (ai x).1.2 (ai x).2.1 (ai x).2.2 (ai y).1.1 (ai y).1.2 (ai y).2.1 (ai y).2.2 ⟨D.1,D.2,G.1,G.2⟩;exact this.trans (by show some (dF.same (cO (m0 (ai x) (ai y))))=_;rw[QU I ak];rfl)
theorem aqU {x y:Rat}(I:dD x)(ak:dD y):Lh [.agg (aH (ai x)),.agg (aH (ai y))]=some (.same (.cQ [.agg (aH (ss (mx x y) (x+y)).1),.int .i64 (ss (mx x y) (x+y)).2])):=by
 have D:=gW I;have G:=gW ak;have:=amz (ai x).1.1 (ai x).1.2 (ai x).2.1 (ai x).2.2 (ai y).1.1 (ai y).1.2 (ai y).2.1 (ai y).2.2 ⟨D.1,D.2,G.1,G.2⟩;exact this.trans (by show some (dF.same (cO (m0 (ai x) (ai y))))=_;rw[QU I ak];rfl)
def adR:=bU pn λ(s,l,s2,ab,bD,bj,bE,bh)=>cq (o l<=1000000/\o ab<=1000000/\o bj<=1000000/\o bh<=1000000) (.same (.bool (h7 ((s,l),(s2,ab)) ((bD,bj),(bE,bh))==0)))
@[go_sem] theorem aqV (s:Int)(l:List Int)(s2:Int)(ab:List Int)(bD:Int)(bj:List Int)(bE:Int)(bh:List Int)(E:(o l)<=1000000/\o ab<=1000000/\o bj<=1000000/\o bh<=1000000):adR [.agg [.int .i64 s,.X (l.map Y),.int .i64 s2,.X (ab.map Y)],.agg [.int .i64 bD,.X (bj.map Y),.int .i64 bE,.X (bh.map Y)]]=some (.same (.bool (h7 ((s,l),(s2,ab)) ((bD,bj),(bE,bh))==0))):=(b3 q9 (s,l,s2,ab,bD,bj,bE,bh)).trans (cw E _)
def iW:List bd->List bd->Bool
 | [],[]=>true
 |a::l,b::m=>(h7 a b==0)&&iW l m
 |_,_=>false
theorem adS:∀(a b:List bd),(o a)≠(o b)->iW a b=false
 | [],[],h=>absurd rfl h
 | [],_::_,_=>rfl
 |_::_,[],_=>rfl
 |a::l,b::m,h=>by
  unfold iW;rw[adS l m (by simpa using h),gQ]
theorem aqW {a b:List bd}{i:Nat}{x y:bd}(aM:a[i]?=some x)(ah:b[i]?=some y)(h:iW (a.take i) (b.take i)=true)(E:(h7 x y==0)=false):iW a b=false:=by
 induction i generalizing a b with
 |zero =>
  cases a with
  |nil=>cases aM
  |cons a l =>
   cases b with
   |nil=>cases ah
   |cons b m =>
    simp only[Fz,cz] at aM ah;subst aM ah;rw[iW,E,dm]
 |succ i aA =>
  cases a with
  |nil=>cases aM
  |cons a l =>
   cases b with
   |nil=>cases ah
   |cons b m =>
    simp only[Ut] at aM ah;rw[uN,uN,iW,eX] at h;rw[iW,aA aM ah h.2,gQ]
theorem aqX {a b:List bd}{i:Nat}{x y:bd}(aM:a[i]?=some x)(ah:b[i]?=some y)(h:iW (a.take i) (b.take i)=true)(E:(h7 x y==0)=true):iW (a.take (i+1)) (b.take (i+1))=true:=by
 induction i generalizing a b with
 |zero =>
  cases a with
  |nil=>cases aM
  |cons a l =>
   cases b with
   |nil=>cases ah
   |cons b m =>
    simp only[Fz,cz] at aM ah;subst aM ah;simp[iW,E]
 |succ i aA =>
  cases a with
  |nil=>cases aM
  |cons a l =>
   cases b with
   |nil=>cases ah
   |cons b m =>
    simp only[Ut] at aM ah;rw[uN,uN,iW,eX] at h;rw[uN,uN,iW,h.1,aA aM ah h.2];rfl
theorem adT (T:br)(f:FuncId)(a1:List Data->Option dF)(cG:T f=aK a1)(a b:List bd)(aM:ej a)(ah:ej b)(e3:∀c6 dv a3 a4 c5 eg j2 lf,o dv<=1000000->(o a4)<=1000000->(o eg)<=1000000->(o lf)<=1000000->a1 [.agg [.int .i64 c6,.X (dv.map Y),.int .i64 a3,.X (a4.map Y)],.agg [.int .i64 c5,.X (eg.map Y),.int .i64 j2,.X (lf.map Y)]]=some (.same (.bool (h7 ((c6,dv),(a3,a4)) ((c5,eg),(j2,lf))==0)))):WP T Gn (.same (.bool (iW a b))) [.J (.X (a.map aH)),.J (.X (b.map aH)),.J (.fn f [])]:=by
 refine b4 ?_;simp only[Gn];obtain⟨aM,aqY⟩:=aM;obtain⟨ah,aqZ⟩:=ah;rcases ax:((o a:Int)==(o b:Int))
 ·rw[adS a b (by have:=ne_of_beq_false ax;omega)];refine aQ ?_;repeat' (intro h<;>simp only[h,go_sem,go_sem_proc,ax,af,bne,cv]<;>try refine al ?_ ?_)
 ·have hle:(o a)=o b:=by have:=eq_of_beq ax;omega
  simp only[go_sem,go_sem_proc,ax,af,bne,bX];refine dw [1,2,15,16] [] (λ(i:Nat) tm mem=>i<=o a/\iW (a.take i) (b.take i)=true/\tm 17=.J (.int .i64 i)) (λi=>o a-i) 0 (by refine⟨fY _,by simp[iW],rfl⟩) ?_;intro vs ms a7 aY;simp only[go_sem,go_sem_proc,af] at a7 aY;subst a7 aY;rintro i tm mem R hm ⟨Q,eE,qt⟩;simp only[go_sem,go_sem_proc,bn] at R hm;obtain⟨aw,aB,UH,qu⟩:=R;rcases dG (i<o a) with az|cb
  ·have d1:decide ((i:Int)<(o a:Int))=true:=dn;have cn:=eY (i:=i) (by omega);obtain⟨x,I⟩:∃x,a[i]?=some x:=⟨_,bL az⟩;obtain⟨y,ak⟩:∃x,b[i]?=some x:=⟨_,bL (by omega)⟩;obtain⟨lH,kn⟩:=aqY x (eN I);obtain⟨sK,sL⟩:=aqZ y (eN ak);have c1:=λE=>aqW I ak eE E;have hl:=λE=>aqX I ak eE E;obtain⟨⟨c6,dv⟩,⟨a3,a4⟩⟩:=x;obtain⟨⟨c5,eg⟩,⟨j2,lf⟩⟩:=y;dsimp only at lH kn sK sL;have kH:=e3 c6 dv a3 a4 c5 eg j2 lf lH kn sK sL;rcases q:(h7 ((c6,dv),(a3,a4)) ((c5,eg),(j2,lf))==0)
   ·rw[c1 q];refine aQ ?_;repeat' (intro h<;>simp only[h,go_sem,go_sem_proc,aw,aB,UH,qu,qt,I,ak,d1,cn,cG,kH,q,aH,af,bb,cv]<;>try refine al ?_ ?_)
   ·refine aQ ?_;repeat' (intro h<;>simp only[h,go_sem,go_sem_proc,aw,aB,UH,qu,qt,I,ak,d1,cn,cG,kH,q,aH,af,bb,bX]<;>try refine al ?_ ?_)
    exact⟨i+1,by omega,by omega,hl q,rfl⟩
  ·have d1:decide ((i:Int)<(o a:Int))=false:=cY;rw[du (by omega),du (by omega)] at eE;rw[eE];refine aQ ?_;repeat' (intro h<;>simp only[h,go_sem,go_sem_proc,aw,aB,UH,qu,qt,d1,af]<;>try refine al ?_ ?_)
def UI:=bU pn λ(s,l,s2,ab,bD,bj,bE,bh)=>cq (o l<=1000000/\o ab<=1000000/\o bj<=1000000/\o bh<=1000000) (.same (.bool (h7 ((s,l),(s2,ab)) ((bD,bj),(bE,bh))==0)))
@[go_sem] theorem aq0 (s:Int)(l:List Int)(s2:Int)(ab:List Int)(bD:Int)(bj:List Int)(bE:Int)(bh:List Int)(E:(o l)<=1000000/\o ab<=1000000/\o bj<=1000000/\o bh<=1000000):UI [.agg [.int .i64 s,.X (l.map Y),.int .i64 s2,.X (ab.map Y)],.agg [.int .i64 bD,.X (bj.map Y),.int .i64 bE,.X (bh.map Y)]]=some (.same (.bool (h7 ((s,l),(s2,ab)) ((bD,bj),(bE,bh))==0))):=(b3 q9 (s,l,s2,ab,bD,bj,bE,bh)).trans (cw E _)
theorem aq1 (T:br)(gC:T r7=aK yq)(s:Int)(l:List Int)(s2:Int)(ab:List Int)(bD:Int)(bj:List Int)(bE:Int)(bh:List Int)(E:(o l)<=1000000/\o ab<=1000000/\o bj<=1000000/\o bh<=1000000):WP T Rq (.same (.bool (h7 ((s,l),(s2,ab)) ((bD,bj),(bE,bh))==0))) [.J (.agg [.int .i64 s,.X (l.map Y),.int .i64 s2,.X (ab.map Y)]),.J (.agg [.int .i64 bD,.X (bj.map Y),.int .i64 bE,.X (bh.map Y)])]:=by
 refine b4 ?_;simp only[Rq];obtain⟨lH,kn,sK,sL⟩:=E;refine aQ ?_;repeat' (intro h<;>simp only[h,go_sem,go_sem_proc,gC,lH,kn,sK,sL]<;>try refine al ?_ ?_)
abbrev UJ:(List bd)×(List bd)×FuncId->List Data:=λ(a,b,f)=>[.X (a.map aH),.X (b.map aH),.fn f []]
def UK:=bU UJ λ(a,b,f)=>cq (ej a/\ej b/\((f=xW/\xW<900000)\/(f=tl/\tl<900000))) (.same (.bool (iW a b)))
theorem aq2:∀a b,UJ a=UJ b->a=b:=by
  rintro⟨c6,c5,f1⟩ ⟨dv,eg,f2⟩ h;simp only[bn,Data.X.injEq,Data.fn.injEq,and_true] at h;exact dV (map_inj l4 _ _ h.1) (dV (map_inj l4 _ _ h.2.1) h.2.2)
@[go_sem] theorem aq3 (a:List bd)(b:List bd)(f:FuncId)(E:ej a/\ej b/\((f=xW/\xW<900000)\/(f=tl/\tl<900000))):UK [.X (a.map aH),.X (b.map aH),.fn f []]=some (.same (.bool (iW a b))):=(b3 aq2 (a,b,f)).trans (cw E _)
theorem aq4 (T:br)(aq5:xW<900000->T xW=aK adR)(aq6:tl<900000->T tl=aK UI)(a:List bd)(b:List bd)(f:FuncId)(E:ej a/\ej b/\((f=xW/\xW<900000)\/(f=tl/\tl<900000))):WP T Gn (.same (.bool (iW a b))) [.J (.X (a.map aH)),.J (.X (b.map aH)),.J (.fn f [])]:=by
 refine b4 ?_;simp only[Gn];obtain⟨aM,ah,aN⟩:=E;rcases aN with ⟨rfl,Q⟩|⟨rfl,Q⟩
 ·exact ow (adT T _ _ (aq5 Q) a b aM ah λc6 dv a3 a4 c5 eg j2 lf D G ag aR=>aqV c6 dv a3 a4 c5 eg j2 lf ⟨D,G,ag,aR⟩)
 ·exact ow (adT T _ _ (aq6 Q) a b aM ah λc6 dv a3 a4 c5 eg j2 lf D G ag aR=>aq0 c6 dv a3 a4 c5 eg j2 lf ⟨D,G,ag,aR⟩)
abbrev Mo:(List bd)×(List bd)->List Data:=λ(a,b)=>[.X (a.map aH),.X (b.map aH)]
def UL:=bU Mo λ(a,b)=>cq (ej a/\ej b) (.same (.bool (iW a b)))
theorem adU:∀a b,Mo a=Mo b->a=b:=by
  rintro⟨c6,c5⟩ ⟨dv,eg⟩ h;simp only[bn,Data.X.injEq,and_true] at h;exact dV (map_inj l4 _ _ h.1) (map_inj l4 _ _ h.2)
@[go_sem] theorem aq7 (a:List bd)(b:List bd)(E:ej a/\ej b):UL [.X (a.map aH),.X (b.map aH)]=some (.same (.bool (iW a b))):=(b3 adU (a,b)).trans (cw E _)
theorem aq8 (T:br)(aq9:T OB=aK UK)(a:List bd)(b:List bd)(E:ej a/\ej b):WP T Rj (.same (.bool (iW a b))) [.J (.X (a.map aH)),.J (.X (b.map aH))]:=by
 refine b4 ?_;simp only[Rj];have aF:=aq3 a b tl ⟨E.1,E.2,.inr ⟨rfl,by decide⟩⟩
 refine aQ ?_;repeat' (intro h<;>simp only[h,go_sem,go_sem_proc,aq9,aF]<;>try refine al ?_ ?_)
def jk.wf (a:jk)(f:Nat->Nat):jk:={ a with fl:=dX (o a.H) λi=>(f i:Int) }
theorem jk.At.up {a:jk}{m:Mem}(h:a.At m)(aL:(o a.H)<=6){k g:Nat}{cs:List O}(R:k/1000≠228):a.At (bI m k g cs) :=
 ⟨h.can,h.fl,h.pl,h.adm,by rw[oE (by omega)];exact h.row,λi Q=>by rw[oE (by omega)];exact h.dc i Q⟩
def pz (ad:List bd):List Rat:=ad.map ot
structure UM (H:List Int) (cs:List av) (ad:List bd):Prop where
 n:(o H)<=1000000
 c:(o cs)<=1000000
 ar:ej ad
 Bl:hL H cs=true->fV H cs
 sz:hL H cs=true->(o ad)=(o H)->ad.any (nE wj)=false->∀f∈ad,eB 460 (ot f)
open Classical in
def UN (H:List Int)(cs:List av)(x:Nat->Rat):Bool:=decide (UG H cs x)
open Classical in
theorem ara {H:List Int}{cs:List av}{x:Nat->Rat}:UN H cs x=true↔UG H cs x:=by
 unfold UN;exact decide_eq_true_iff
def Mp (H:List Int)(cs:List av)(ad:List bd):Bool:=hL H cs&&(decide (o ad=o H)&&(!ad.any (nE wj)&&UN H cs λi=>(pz ad).getD i 0))
theorem adV:∀(a b:List Rat),(∀x∈a,dD x)->(∀x∈b,dD x)->(iW (a.map ai) (b.map ai)=true↔a=b)
 | [],[],_,_=>by simp[iW]
 | [],_::_,_,_=>by simp[iW]
 |_::_,[],_,_=>by simp[iW]
 |x::a,y::b,aM,ah=>by
  have aA:=adV a b (λz a8=>aM z (ha _ a8)) λz a8=>ah z (ha _ a8);rw[e8,e8,iW,eX,aA,bn,KR (aM x gP) (ah y gP)]
  have:(km x y==0)=true↔x=y:=by
   have D:=aoX (x:=x) (y:=y);have G:=LR (x:=x) (y:=y);rw[beq_iff_eq]
   constructor
   ·intro h;rw[h] at D G;have aw:¬ y<x:=of_decide_eq_false (D.symm.trans rfl);have aB:¬ x<y:=of_decide_eq_false (G.symm.trans rfl);grind
   ·intro h;have aw:¬ y<x:=by grind
    have aB:¬ x<y:=by grind
    rw[gr aw] at D;rw[gr aB] at G;have:=of_decide_eq_false D;have:=of_decide_eq_false G;omega
  rw[this]
structure y0 (H:List Int) (cs:List av) (x:Nat->Rat) (l:List av) (s:Nat->Rat):Prop where
 a:∀i,i<(o H)->rA H cs x i l=some (s i)
 l:∀i,i<(o H)->dD (s i)
theorem y0.skip {H:List Int}{cs:List av}{x:Nat->Rat}{l:List av}{s:Nat->Rat}(h:y0 H cs x l s){c:av}(E:c.2.1<0):y0 H cs x (l++[c]) s:=by
 refine⟨λi Q=>?_,h.l⟩;rw[Eg,h.a i Q];unfold Bk;rw[aq (by omega)]
theorem y0.add {H:List Int}{cs:List av}{x:Nat->Rat}{l:List av}{s:Nat->Rat}(h:y0 H cs x l s){c:av}{t:Nat}(E:c.2.1=(t:Int))(R:mx (s t) (fx cs (x c.1.toNat) c)=true):y0 H cs x (l++[c]) λi=>if i=t then s t+fx cs (x c.1.toNat) c else s i:=by
 refine⟨λi Q=>?_,λi Q=>?_⟩
 ·rw[Eg,h.a i Q];unfold Bk
  by_cases Ip:i=t
  ·subst Ip;rw[aj E,hE,aj R,aj rfl]
  ·rw[aq (by omega),aq Ip]
 ·by_cases Ip:i=t
  ·rw[aj Ip];exact adQ R
  ·rw[aq Ip];exact h.l i Q
theorem Mq {cs:List av}(ff:∀c∈cs,0<=c.2.2.2/\c.2.2.2<=1000000000000000)(mn:(o cs)<=12){x:Rat}(I:eB 460 x){c:av}(E:c∈cs):dD (fx cs x c):=by
 have ah:∀(p:av->Prop) [DecidablePred p],0<=dA cs (λc=>if p c then c.2.2.2 else 0)/\dA cs (λc=>if p c then c.2.2.2 else 0)<=12000000000000000:=λp _=>by
  have:=LC (cs:=cs) (a1:=λc=>if p c then c.2.2.2 else 0) (B:=1000000000000000) (by omega) λc E=>by
   have D:=ff c E
   try dsimp only
   split<;>omega
  omega
 have tU:=ah λc'=>c'.1=c.1/\c'.2.2.1<c.2.2.1;have di:=ah λc'=>c'.1=c.1/\c'.2.2.1=c.2.2.1;rw[<-ac6] at di;have aM:=ff c E;have tZ:eB 54 ((c.2.2.2:Int):Rat):=vm (by omega);have yR:eB 54 ((iz cs c.1 c.2.2.1:Int):Rat):=vm (by omega);have L1:eB 54 ((dP cs c.1 c.2.2.1:Int):Rat):=vm (by unfold dP;omega);unfold fx
 split
 ·exact oB tZ (by omega)
 ·have arb:eB 515 (pos (x-((dP cs c.1 c.2.2.1:Int):Rat))):=by
   unfold pos
   split
   ·exact (show eB 1 0 from⟨by decide,by decide⟩).mono (by omega)
   ·rw[TN];exact (S7 I (HA L1)).mono (by omega)
  by_cases au:((iz cs c.1 c.2.2.1:Int):Rat)=0
  ·rw[au,DC,Rat.inv_zero,m2,w0];exact oB (show eB 1 0 from⟨by decide,by decide⟩) (by omega)
  ·exact oB (HB (anG tZ yR au) arb) (by omega)
abbrev UO:(List Int)×(List av)×(List bd)->List Data:=λ(H,cs,ad)=>[.X (H.map Y),.X (cs.map bR),.X (ad.map aH)]
def adW:=bU UO λ(H,cs,ad)=>cq (UM H cs ad) (.same (.bool (Mp H cs ad)))
theorem arc:∀a b,UO a=UO b->a=b:=by
  rintro⟨sM,rr,kS⟩ ⟨sN,mQ,lV⟩ h;simp only[bn,Data.X.injEq,and_true] at h;exact dV (map_inj eR _ _ h.1) (dV (map_inj oC _ _ h.2.1) (map_inj l4 _ _ h.2.2))
@[go_sem] theorem ard (H:List Int)(cs:List av)(ad:List bd)(E:UM H cs ad):adW [.X (H.map Y),.X (cs.map bR),.X (ad.map aH)]=some (.same (.bool (Mp H cs ad))):=(b3 arc (H,cs,ad)).trans (cw E _)
def UP (l:List Nat):List Data:=[.X (l.map Sw)]

theorem Alike.eb {d e:Day}(h:Alike d e):d.eb=e.eb:=by unfold Day.eb Day.oD;rw[h.top,h.rounds,h.n]
theorem Alike.DS {d e:Day}(h:Alike d e):d.DS=e.DS:=by unfold Day.DS;rw[h.rounds,h.n]
structure arf (H:List Int) (cs:List av):Prop where
 n:(o H)<=1000000
 c:(o cs)<=1000000
 Bl:hL H cs=true->fV H cs
def adX (H:List Int)(cs:List av):List bd:=cs.map λc=>ai (fx cs ((cf H cs).eb c.1.toNat) c)
def vx (H:List Int)(cs:List av):List bd:=yN (o H) (cf H cs).eb
def aAk (H:List Int)(cs:List av):Data:=if hL H cs=true then .cQ [.agg [.X ((vx H cs).map aH),.X ((adX H cs).map aH),.X ((cf H cs).DS.map UP)],.int .i64 0] else .cQ [.agg [.X [],.X [],.X []],.int .i64 1]
theorem adY (cs:List av)(w:Int):(cT cs w).length<=o cs:=by unfold cT;exact H4 _ _
theorem arh {f:bd}{d:Nat}(U:cU f=true)(aN:nG f d=true):eB (20*d) (ot f):=by
 obtain⟨e,D,G⟩:=abQ U;unfold nG at aN;simp only[eX,decide_eq_true_eq] at aN;obtain⟨dh,cR⟩:=aN;rw[e] at dh cR;have dp:=fC.1 (show (aD (ot f).num.natAbs).length<=d from adZ.1 dh);have dN:=fC.1 (show (aD ((ot f).den:Int).natAbs).length<=d from adZ.1 cR);rw[Int.natAbs_natCast] at dN;have pb:(1048576:Nat)^d=2^(20*d):=by rw[Nat.pow_mul]
 rw[pb] at dp dN;exact⟨AH dp,AH dN⟩
section
variable {H:List Int} {cs:List av} (aa:fV H cs)
include aa
theorem ari:ej (vx H cs):=by
 have:=aa.n5;exact anX (by omega) λi Q=>oB (Tz aa Q) (by omega)
theorem arj:(vx H cs).any (nE wj)=false/\pz (vx H cs)=(hR (o H)).map (cf H cs).eb:=by
 refine⟨?_,?_⟩
 ·rw[ad0];intro f aN;obtain⟨y,ak,rfl⟩:=fZ.1 aN;obtain⟨i,Q,rfl⟩:=fZ.1 ak;have kU:i<o H:=od.1 Q;have ax:=oB (Tz aa kU) (by omega);have aL:=aoD aa.ok kU;rw[aay];show ¬ (!cU (ai ((cf H cs).eb i))||decide ((ai ((cf H cs).eb i)).1.1<0))=true;rw[A9 ax];have:decide ((cf H cs).eb i<0)=false:=gr (by grind);rw[<-HY] at this;have G:decide ((ai ((cf H cs).eb i)).1.1<0)=false:=this;rw[G];decide
 ·unfold pz vx yN;rw[lX];exact (oV λx _=>AL x).trans (List.map_id _)
theorem ark:UM H cs (vx H cs)/\Mp H cs (vx H cs)=true:=by
 obtain⟨D,G⟩:=arj aa;have aL:=aa.n5;have mn:=aa.HE;refine⟨⟨by omega,by omega,ari aa,λ_=>aa,λ_ _ _ f aN=>?_⟩,?_⟩
 ·obtain⟨y,ak,rfl⟩:=fZ.1 aN;obtain⟨i,Q,rfl⟩:=fZ.1 ak;rw[AL];exact (Tz aa (od.1 Q)).mono (by omega)
 ·unfold Mp;have ax:(vx H cs).length=o H:=Tf _ _;rw[aa.right,D,hc ax,eF,eF,cv,eF,ara,G];intro i Q;have I:=aqS aa i Q
  have kP:rA H cs (λi=>((hR (o H)).map (cf H cs).eb).getD i 0) i cs=rA H cs (cf H cs).eb i cs:=by
   have U:=(m3.1 aa.right).2.2.2
   have key:∀n (l:List av),o l=n->(∀c∈l,c∈cs)->rA H cs (λi=>((hR (o H)).map (cf H cs).eb).getD i 0) i l=rA H cs (cf H cs).eb i l:=by
    intro n
    induction n with
    |zero=>intro l ax _;rw[UF.1 ax];rfl
    |succ n aA =>
     intro l ax hm;rcases zR l with au|⟨m,c,rfl⟩
     ·subst au;cases ax
     ·rw[zS] at *;simp only[fE,AV] at ax;have E:=U c (hm c (by simp));rw[Eg,Eg,aA m (by omega) λy ak=>hm y (by simp[ak])];unfold Bk;have:((hR (o H)).map (cf H cs).eb).getD c.1.toNat 0=(cf H cs).eb c.1.toNat:=Ik (cf H cs).eb 0 (show c.1.toNat<(o H) by omega);simp only[this]
   exact key _ cs rfl λc E=>E
  rw[kP,I];show _=some ((dX (o H) (cf H cs).eb).getD i 0);rw[Ik (cf H cs).eb 0 Q]
end
theorem aAl (l:List (List Nat)):l.map UP=(l.map λr=>r.map λn=>((n:Nat):Int)).map l8:=by
 rw[lX];refine oV λr _=>?_;simp only[UP,l8,Function.comp_apply,lX]
 rfl
theorem arl {x:Rat}(I:dD x):sn [.agg (aH (ai x))]=some (.same (.bool true)):=by
 have D:=gW I;have:=akP (ai x).1.1 (ai x).1.2 (ai x).2.1 (ai x).2.2 ⟨D.1,D.2⟩;rw[show cU (((ai x).1.1,(ai x).1.2),((ai x).2.1,(ai x).2.2))=true from A9 I] at this;exact this
structure ad1 (H:List Int) (cs:List av) (ad aJ:List Int) (fl:List (List Int)):Prop where
 s:fV H cs
 h:vx H cs=ad.map λn:Int=>ai (n:Rat)
 p:adX H cs=aJ.map λn:Int=>ai (n:Rat)
 f:((cf H cs).DS.map λr=>r.map λn=>((n:Nat):Int))=fl
 Q:∀n∈ad,c8 n
 pi:∀n∈aJ,c8 n
 ar:apw fl
theorem ad1.fits {H:List Int}{cs:List av}{ad aJ:List Int}{fl:List (List Int)}(h:ad1 H cs ad aJ fl):adW [.X (H.map Y),.X (cs.map bR),.X ((ad.map λn:Int=>ai (n:Rat)).map aH)]=some (.same (.bool true)):=by
 obtain⟨D,G⟩:=ark h.s;have:=ard H cs (vx H cs) D;rw[G,h.h] at this;exact this
end Go.Mini
namespace Go.Mini
open Classical
def aw:Day:=cf [5,0] [(0,1,0,10),(1,-1,0,4)]
def aB:Day:=cf [0,0] [(0,1,1,10),(1,0,1,10)]
def gJ:Day:=cf [9] [(0,-1,0,6),(0,-1,1,2),(0,-1,1,4)]
def cI:Day:=cf [0,0] [(0,1,1,10),(1,0,1,10),(0,-1,0,5)]
def b6:Day:=cf [10,30] [(1,-1,0,25)]
def dB:Day:=cf [10,0] [(0,1,0,30)]
def bQ:Day:=cf [30,0] [(0,1,0,30)]
end Go.Mini
namespace Go.Mini
open Go

end Go.Mini
namespace Go.Mini
open Classical
section
variable {H:List Int} {cs:List av} (aa:fV H cs)
include aa
theorem arn (i:Nat)(a1:dL->Rat):cy ((cT cs i).map dJ) a1=cy (cf H cs).dM λc=>if c.aC=i then a1 c else 0:=by
 have U:=(m3.1 aa.right).2.2.2
 have e:∀l:List av,(∀c∈l,c∈cs)->cy ((cT l i).map dJ) a1=cy (l.map dJ) λc=>if c.aC=i then a1 c else 0:=by
  intro l
  induction l with
  |nil=>intro _;rfl
  |cons c l aA =>
   intro hm;have au:=(U c (hm c gP)).1;have aA:=aA λy ak=>hm y (ha _ ak);unfold cT at *
   by_cases E:c.1=(i:Int)
   ·rw[yV (by simpa using E),e8,e8,cy,cy,aA,aj (by show c.1.toNat=i;omega)]
   ·rw[yW (by simpa using E),e8,cy,aA,aq (by show ¬ c.1.toNat=i;omega),Rat.zero_add]
 exact e cs λc E=>E
end
end Go.Mini
namespace Go.Mini
open Go
abbrev Mr:(List av)×(List Rat)->List Data:=λ(l,q)=>[.X (l.map bR),.X ((q.map ai).map aH)]
def UQ:=bU Mr λ(l,q)=>cq (vv l q) (.same (rq l q))
theorem ad2:∀a b,Mr a=Mr b->a=b:=by
  rintro⟨fK,c7⟩ ⟨ab,c2⟩ h;simp only[bn,Data.X.injEq,and_true] at h;exact dV (map_inj oC _ _ h.1) (map_inj (λx y a6=>p6 a6) _ _ (map_inj l4 _ _ h.2))
@[go_sem] theorem aro (l:List av)(q:List Rat)(E:vv l q):UQ [.X (l.map bR),.X ((q.map ai).map aH)]=some (.same (rq l q)):=(b3 ad2 (l,q)).trans (cw E _)
theorem arp (T:br)(mC:T F7=aK Mg)(e4:T kh=aK sn)(kN:T sb=aK DR)(gC:T r7=aK yq)(l:List av)(q:List Rat)(E:vv l q):WP T Tq (.same (rq l q)) [.J (.X (l.map bR)),.J (.X ((q.map ai).map aH))]:=by
 refine b4 ?_;simp only[Tq];obtain⟨how,hlen,nO⟩:=E;have mn:=how.len;have jD:∀c∈l,0<=c.2.2.1/\c.2.2.1<10:=λc E=>by have:=how.c c E;omega
 have hle:((o q:Int)==(o l:Int))=true:=by rw[hlen];exact beq_self_eq_true _
 simp only[go_sem,go_sem_proc,mC,e4,kN,gC,how,hle,af,bne,bX];refine dw [1,19,20] [] (λ(i:Nat) tm m=>i<=o l/\tm 21=.J (.int .i64 i)/\tm 6=.J (.int .i64 (ho l (λi=>q.getD i 0) i))) (λi=>o l-i) 0 (by refine⟨by omega,rfl,rfl⟩) ?_;intro vs ms a7 aY;simp only[go_sem,go_sem_proc,mC,e4,kN,gC,af] at a7 aY;subst a7 aY;rintro i tm m R-⟨Q,GW,dB⟩;simp only[go_sem,go_sem_proc,mC,e4,kN,gC,bn] at R;obtain⟨aw,pA,Ms⟩:=R;rcases dG (i<o l) with az|cb
 ·have d1:decide ((i:Int)<(o l:Int))=true:=dn;have cn:=eY (i:=i) (by omega);obtain⟨⟨bm,bN,bO,cp⟩,I⟩:∃c,l[i]?=some c:=⟨_,bL az⟩;obtain⟨x,ak⟩:∃x,q[i]?=some x:=⟨_,bL (by omega)⟩;have E:=how.c _ (eN I);have ax:=nO x (eN ak);dsimp only at E;have cL:c8 cp:=tY (by omega) (by omega);have c6:=arl ax;have dv:=Im cL;have a3:=LQ ax (rn cL);have aL:decide (km x ((cp:Int):Rat)<0)=decide (x<((cp:Int):Rat)):=LR;have s6:q.getD i 0=x:=by rw[fP,ak];rfl
  have sv:ho l (λi=>q.getD i 0) (i+1)=if x<((cp:Int):Rat) then min (ho l (λi=>q.getD i 0) i) bO else ho l (λi=>q.getD i 0) i:=by
   rw[ho,I];dsimp only;rw[s6]
  have Bm:(q.map ai)[i]?=some (ai x):=by rw[bb,ak];rfl
  generalize q.map ai=QE at *;generalize ai x=a1 at *;generalize ai ((cp:Int):Rat)=cW at *;obtain⟨⟨f1,f2⟩,⟨f3,f4⟩⟩:=a1;obtain⟨⟨dh,cR⟩,⟨lp,qp⟩⟩:=cW;simp only[aH] at c6 dv a3;rcases dp:decide (x<((cp:Int):Rat))
  ·rw[dp] at aL;rw[aq (of_decide_eq_false dp)] at sv;refine aQ ?_;repeat' (intro h<;>simp only[h,go_sem,go_sem_proc,mC,e4,kN,gC,aw,dB,pA,Ms,GW,I,Bm,d1,cn,c6,dv,a3,aL,bR,aH,af,bb,bX]<;>try refine al ?_ ?_)
   exact⟨i+1,by omega,by omega,rfl,by rw[sv]⟩
  ·rw[dp] at aL;rw[aj (of_decide_eq_true dp)] at sv;have arq:(if bO<ho l (λi=>q.getD i 0) i then bO else ho l (λi=>q.getD i 0) i)=min (ho l (λi=>q.getD i 0) i) bO:=by rw[Int.min_def];split<;>split<;>omega
   refine aQ ?_;repeat' (intro h<;>simp only[h,go_sem,go_sem_proc,mC,e4,kN,gC,aw,dB,pA,Ms,GW,I,Bm,d1,cn,c6,dv,a3,aL,bR,aH,af,bb,bX]<;>try refine al ?_ ?_)
   exact⟨i+1,by omega,by omega,rfl,by rw[sv,arq]⟩
 ·have d1:decide ((i:Int)<(o l:Int))=false:=cY;obtain rfl:i=o l:=by omega
  have ah:=ado (q:=λi=>q.getD i 0) jD (o l);unfold rq;generalize ho l (λi=>q.getD i 0) (o l)=s at *;rcases dp:(s==10)
  ·rw[aj (by have:=ne_of_beq_false dp;omega)];refine aQ ?_;repeat' (intro h<;>simp only[h,go_sem,go_sem_proc,mC,e4,kN,gC,aw,dB,pA,Ms,GW,d1,dp,af]<;>try refine al ?_ ?_)
  ·rw[aq (by have:=eq_of_beq dp;omega)];refine aQ ?_;repeat' (intro h<;>simp only[h,go_sem,go_sem_proc,mC,e4,kN,gC,aw,dB,pA,Ms,GW,d1,dp,af]<;>try refine al ?_ ?_)
section
variable {H:List Int} {cs:List av} (aa:fV H cs) {i:Nat}
include aa
end

abbrev Mt:(List Int)×(List Int)->List Data:=λ(l,m)=>[.X (l.map Y),.X (m.map Y)]
def UR:=bU Mt λ(l,m)=>cq (o l<=1000000/\o m<=1000000) (.same (.bool (decide (l=m))))
theorem ad3:∀a b,Mt a=Mt b->a=b:=by
  rintro⟨fK,cJ⟩ ⟨ab,cE⟩ h;simp only[bn,Data.X.injEq,and_true] at h;exact dV (map_inj eR _ _ h.1) (map_inj eR _ _ h.2)
@[go_sem] theorem ars (l:List Int)(m:List Int)(E:(o l)<=1000000/\o m<=1000000):UR [.X (l.map Y),.X (m.map Y)]=some (.same (.bool (decide (l=m)))):=(b3 ad3 (l,m)).trans (cw E _)
theorem art (T:br)  (l:List Int) (m:List Int) (E:(o l)<=1000000/\o m<=1000000):WP T Pv (.same (.bool (decide (l=m)))) [.J (.X (l.map Y)),.J (.X (m.map Y))]:=by
 refine b4 ?_;simp only[Pv];obtain⟨D,G⟩:=E;rcases q:((o l:Int)==(o m:Int))
 ·have bZ:decide (l=m)=false:=gr λe=>by rw[e,beq_self_eq_true] at q;cases q
  refine aQ ?_;repeat' (intro h<;>simp only[h,go_sem,go_sem_proc,q,bZ,af,bne,cv]<;>try refine al ?_ ?_)
 have ax:(o l)=o m:=by have:=eq_of_beq q;omega
 simp only[go_sem,go_sem_proc,q,af,bne,bX];refine dw [0,1,12] [] (λ(i:Nat) tm _=>i<=o l/\l.take i=m.take i/\tm 13=.J (.int .i64 i)) (λi=>o l-i) 0 (by refine⟨by omega,by simp,rfl⟩) ?_;intro vs ms a7 aY;simp only[go_sem,go_sem_proc,af] at a7 aY;subst a7 aY;rintro i tm mem R-⟨Q,bV,kq⟩;simp only[go_sem,go_sem_proc,bn] at R;obtain⟨b8,aw,gm⟩:=R;rcases dG (i<o l) with az|cb
 ·have d3:decide ((i:Int)<(o l:Int))=true:=dn;have cn:=eY (i:=i) (by omega);obtain⟨x,I⟩:∃x,l[i]?=some x:=⟨_,bL az⟩;obtain⟨y,ak⟩:∃y,m[i]?=some y:=⟨_,bL (by omega)⟩;rcases c2:(x==y)
  ·have bZ:decide (l=m)=false:=gr λe=>by
    rw[e,ak] at I
    cases I;rw[beq_self_eq_true] at c2
    cases c2
   refine aQ ?_;repeat' (intro h<;>simp only[h,go_sem,go_sem_proc,b8,aw,gm,kq,I,ak,d3,c2,bZ,Y,af,bb,jN,mj,ku,bne,cv]<;>try refine al ?_ ?_)
  ·obtain rfl:x=y:=eq_of_beq c2;refine aQ ?_;repeat' (intro h<;>simp only[h,go_sem,go_sem_proc,b8,aw,gm,kq,I,ak,d3,cn,c2,Y,af,bb,jN,mj,ku,bne,bX]<;>try refine al ?_ ?_)
   refine⟨i+1,by omega,by omega,?_,rfl⟩
   rw[fQ,fQ,bV,I,ak]
 ·have d3:decide ((i:Int)<(o l:Int))=false:=cY
  have he:decide (l=m)=true:=hc (by
   rw[du (by omega),du (by omega)] at bV;exact bV)
  refine aQ ?_;repeat' (intro h<;>simp only[h,go_sem,go_sem_proc,b8,aw,gm,kq,d3,he,af]<;>try refine al ?_ ?_)
def rB (v:Int):List Int->Nat->Int
 | [],_ => -1
 |x::r,i=>if (v==x)=true then (i:Int) else rB v r (i+1)
theorem ad4 (v:Int):∀(l:List Int) (i:Nat),decide (rB v l i>=0)=decide (v∈l)
 | [],i=>by simp[rB]
 |x::r,i=>by
  unfold rB;rcases q:(v==x)
  ·rw[aq (by decide),ad4 v r (i+1)];have:v≠x:=beq_eq_false_iff_ne.1 q;rw[decide_eq_decide];simp[this]
  ·rw[aj rfl];obtain rfl:v=x:=eq_of_beq q;rw[decide_eq_decide];simp
abbrev Iq:(List Int)×Int->List Data:=λ(l,v)=>[.X (l.map Y),.int .i64 v]
def US:=bU Iq λ(l,v)=>cq (o l<=1000000) (.same (.int .i64 (rB v l 0)))
theorem UT:∀a b,Iq a=Iq b->a=b:=by
  rintro⟨fK,v1⟩ ⟨ab,v2⟩ h;simp only[bn,Data.X.injEq,Data.int.injEq,and_true,true_and] at h;exact dV (map_inj eR _ _ h.1) h.2
@[go_sem] theorem aru (l:List Int)(v:Int)(E:(o l)<=1000000):US [.X (l.map Y),.int .i64 v]=some (.same (.int .i64 (rB v l 0))):=(b3 UT (l,v)).trans (cw E _)
theorem arv (T:br)  (l:List Int) (v:Int) (E:(o l)<=1000000):WP T Px (.same (.int .i64 (rB v l 0))) [.J (.X (l.map Y)),.J (.int .i64 v)]:=by
 refine b4 ?_;simp only[Px];simp only[go_sem,go_sem_proc,af];refine dw [0,1,7] [] (λ(i:Nat) tm _=>i<=o l/\rB v l 0=rB v (l.drop i) i/\tm 8=.J (.int .i64 i)) (λi=>o l-i) 0 (by refine⟨by omega,by simp,rfl⟩) ?_;intro vs ms a7 aY;simp only[go_sem,go_sem_proc,af] at a7 aY;subst a7 aY;rintro i tm mem R-⟨Q,bV,cS⟩;simp only[go_sem,go_sem_proc,bn] at R;obtain⟨b8,aw,bQ⟩:=R;rcases dG (i<o l) with az|cb
 ·have d3:decide ((i:Int)<(o l:Int))=true:=dn;have cn:=eY (i:=i) (by omega);obtain⟨x,I⟩:∃x,l[i]?=some x:=⟨_,bL az⟩;rw[List.drop_eq_getElem_cons az,(ef.1 I).2] at bV;have c1:rB v (x::l.drop (i+1)) i=if (v==x)=true then (i:Int) else rB v (l.drop (i+1)) (i+1):=rfl;rw[c1] at bV;rcases c2:(v==x)
  ·rw[c2,aq (by decide)] at bV;refine aQ ?_;repeat' (intro h<;>simp only[h,go_sem,go_sem_proc,b8,aw,bQ,cS,I,d3,cn,c2,Y,af,bb,jN,mj,ku]<;>try refine al ?_ ?_)
   exact⟨i+1,by omega,by omega,bV,rfl⟩
  ·rw[c2,aj rfl] at bV;have a8:rB v l 0=(i:Int):=bV;refine aQ ?_;repeat' (intro h<;>simp only[h,go_sem,go_sem_proc,b8,aw,bQ,cS,I,d3,c2,a8,Y,af,bb,jN,mj,ku]<;>try refine al ?_ ?_)
 ·have d3:decide ((i:Int)<(o l:Int))=false:=cY;rw[s4 (by omega)] at bV;have a8:rB v l 0 = -1:=bV;refine aQ ?_;repeat' (intro h<;>simp only[h,go_sem,go_sem_proc,b8,aw,bQ,cS,d3,a8,af]<;>try refine al ?_ ?_)
def UU:=bU Iq λ(l,v)=>cq (o l<=1000000) (.same (.bool (decide (v∈l))))
@[go_sem] theorem arw (l:List Int)(v:Int)(E:(o l)<=1000000):UU [.X (l.map Y),.int .i64 v]=some (.same (.bool (decide (v∈l)))):=(b3 UT (l,v)).trans (cw E _)
theorem arx (T:br)(ary:T OU=aK US)(l:List Int)(v:Int)(E:(o l)<=1000000):WP T Pw (.same (.bool (decide (v∈l)))) [.J (.X (l.map Y)),.J (.int .i64 v)]:=by
 refine b4 ?_;simp only[Pw];have Q:=aru l v E;have hm:=ad4 v l 0;refine aQ ?_;repeat' (intro h<;>simp only[h,go_sem,go_sem_proc,ary,Q,hm]<;>try refine al ?_ ?_)
section
variable (A cD:List Int) (x y:Int)
end
structure Ir (l:List Int) (i:Nat) (C A:List Int) (x:Int) (B:List Int):Prop where
 len:(o A)+o B=i
 ad5:(A++B).Pairwise (·<=·)
 up:∀b∈B,x<=b
 perm:(A++x::(B++C)).Perm l
theorem Ir.step {l:List Int}{i:Nat}{C A B:List Int}{x y:Int}(h:Ir l i C (A++[y]) x B)(gw:x<y):Ir l i C A x (y::B):=by
 refine⟨?_,?_,λb ah=>?_,?_⟩
 ·have:=h.len;simp at this ⊢;omega
 ·have:=h.ad5;rwa [gZ] at this
 ·rcases hF.1 ah with rfl|ah
  ·omega
  ·exact h.up b ah
 ·refine List.Perm.trans ?_ h.perm;rw[gZ];refine List.Perm.append_left A ?_;exact List.Perm.swap y x (B++C)
theorem Ir.stop {l:List Int}{i:Nat}{C A B:List Int}{x:Int}(h:Ir l i C A x B)(I:∀a∈A,a<=x):(A++x::B).Pairwise (·<=·):=by
 have aa:=UW.1 h.ad5;refine UW.2 ⟨aa.1,Bn.2 ⟨h.up,aa.2.1⟩,λa aM b ah=>?_⟩;rcases hF.1 ah with rfl|ah
 ·exact I a aM
 ·exact aa.2.2 a aM b ah
theorem UX {m:Mem}{k a b:Nat}{x y:List O}:bI (bI m k a x) k b y=bI m k b y:=by
 funext j
 by_cases h:j=k
 ·subst h;rw[yY,yY]
 ·rw[oE h,oE h,oE h]
structure y1 where
 l:List Int
 g:Nat
def ad6 (a:y1)(mem:Mem):O->Mem->Prop:=λm mem'=>m=.cQ []/\∃s:List Int,s.Perm a.l/\s.Pairwise (·<=·)/\mem'=bI mem 289040 a.g (s.map dK)

def lO:Int->List Int->List Int
 |_,[]=>[]
 |y,x::r=>if x=y then lO x r else x::lO x r
def iX:List Int->List Int
 | []=>[]
 |x::r=>x::lO x r
theorem ad7 (x:Int):∀(m:List Int) (z:Int),lO z (m++[x])=lO z m++if x=m.getLast?.getD z then [] else [x]
 | [],z=>by
  by_cases h:x=z
  ·simp[lO,h]
  ·simp[lO,h]
 |a::r,z=>by
  have e:(a::r).getLast?.getD z=r.getLast?.getD a:=by rw[List.getLast?_cons];rfl
  rw[e,jc,lO,lO,ad7 x r a]
  split
  ·rfl
  ·rfl
theorem arz (m:List Int)(y x:Int):iX (m++[y]++[x])=iX (m++[y])++if x=y then [] else [x]:=by
 cases m with
 |nil =>
  by_cases h:x=y
  ·simp[iX,lO,h]
  ·simp[iX,lO,h]
 |cons a r =>
  have:lO a (r++[y]++[x])=lO a (r++[y])++if x=y then [] else [x]:=by
   rw[ad7 x (r++[y]) a];simp
  simp only[jc,iX,this]
theorem UY {l:List Int}{q:Nat}{y x:Int}(au:0<q)(ak:l[q-1]?=some y)(I:l[q]?=some x):iX (l.take (q+1))=iX (l.take q)++if x=y then [] else [x]:=by
 have aw:l.take q=l.take (q-1)++[y]:=by
  have:q=q-1+1:=by omega
  conv=>lhs;rw[this,fQ,ak]
  rfl
 have aB:l.take (q+1)=l.take q++[x]:=by rw[fQ,I];rfl
 rw[aB,aw];exact arz _ _ _
theorem ad8:∀(l:List Int) (z:Int),(z::l).Pairwise (·<=·)->(lO z l).Pairwise (·<·)/\(∀x∈lO z l,z<x)/\∀x,x∈lO z l↔x∈l/\x≠z
 | [],z,_=>⟨List.Pairwise.nil,λx h=>(by cases h),λx=>(by simp[lO])⟩
 |a::r,z,h=>by
  have a8:=Bn.1 h;obtain⟨D,G,ag⟩:=ad8 r a a8.2;have aM:=Bn.1 a8.2;have aAm:=a8.1 a (by simp);rw[lO]
  split
  ·rename_i e;subst e;refine⟨D,G,λx=>?_⟩;rw[ag,hF]
   constructor
   ·rintro⟨dp,dN⟩;exact⟨.inr dp,dN⟩
   ·rintro⟨dp|dp,dN⟩
    ·exact absurd dp dN
    ·exact⟨dp,dN⟩
  ·rename_i e;refine⟨Bn.2 ⟨G,D⟩,λx I=>?_,λx=>?_⟩
   ·rcases hF.1 I with rfl|I
    ·omega
    ·have:=G x I;omega
   ·rw[hF,ag,hF]
    constructor
    ·rintro (rfl|⟨dp,dN⟩)
     ·exact⟨.inl rfl,e⟩
     ·refine⟨.inr dp,λaAn=>?_⟩;have:=aM.1 x dp;omega
    ·rintro⟨dp|dp,dN⟩
     ·exact .inl dp
     ·by_cases hxa:x=a
      ·exact .inl hxa
      ·exact .inr ⟨dp,hxa⟩
theorem arA {l:List Int}(h:l.Pairwise (·<=·)):(iX l).Pairwise (·<·)/\∀x,x∈iX l↔x∈l:=by
 cases l with
 |nil=>exact⟨List.Pairwise.nil,λx=>Iff.rfl⟩
 |cons a r =>
  obtain⟨D,G,ag⟩:=ad8 r a h;refine⟨Bn.2 ⟨G,D⟩,λx=>?_⟩;rw[iX,hF,hF,ag]
  constructor
  ·rintro (h|⟨h,-⟩)
   ·exact .inl h
   ·exact .inr h
  ·rintro (h|h)
   ·exact .inl h
   ·by_cases I:x=a
    ·exact .inl I
    ·exact .inr ⟨h,I⟩
theorem ad9 {K:bz->Prop}{st:bz}(s k g n:Nat)(P:List Int)(Z:List O)(Mh:nb Z=true)(aL:n=o P):
  xM K st s k g 1 0 n (some (g,P.map dK++Z))=K ⟨hO st.tm s (.J (.X (P.map Y))),kill st.mem k⟩:=by
 subst aL;unfold xM;dsimp only
 have aM:nb (P.map dK++Z)=true:=by
  unfold nb at Mh ⊢;rw[List.all_append,Mh,Bool.and_true,h2];intro x I;obtain⟨y,-,rfl⟩:=fZ.1 I
  rfl
 rw[aj ⟨rfl,aM⟩];unfold cut;rw[ku,dU,fE,af,aj (by omega)];dsimp only;rw[o1,zs,du (by rw[af];exact cA _),af,xA,o2,gk];have e:P.map dK=((P.map Y).flatten).map O.J:=by rw[Ie];rfl
 rw[e,ti _ λd=>rfl];dsimp only;have:=zM (sz:=1) (P.map Y) (λx I=>by obtain⟨y,-,rfl⟩:=fZ.1 I;rfl);rw[af] at this;rw[this]
theorem arB {l:List Int}{k:Nat}(R:0<k)(ax:k<o l){y x:Int}(ak:l[k-1]?=some y)(I:l[k]?=some x)(bZ:x≠y)(h:iX (l.take k)=l.take k):iX (l.take (k+1))=l.take (k+1):=by
 rw[UY R ak I,aq bZ,h,fQ,I];rfl
abbrev UZ:(List Int)×(List av)×(List bd)×(List bd)×(List (List Int))×Int->List Data:=λ(H,cs,ad,aJ,fl,cP)=>[.agg (ed H cs ad aJ fl),.int .i64 cP]
def Mu:=bU UZ λ(H,cs,ad,aJ,fl,cP)=>cq (o aJ=o cs/\o cs<=2000) (.same (.cQ [.X ((cT cs cP).map bR),.X ((ep cs aJ cP).map aH)]))
theorem arC:∀a b,UZ a=UZ b->a=b:=by
  rintro⟨sM,rr,kS,Mv,xd,arD⟩ ⟨sN,mQ,lV,Mw,xe,arE⟩ h;simp only[bn,Data.agg.injEq,Data.int.injEq,and_true,true_and] at h;obtain⟨dh,cR⟩:=h;obtain⟨rfl,rfl,rfl,rfl,rfl⟩:=xc dh;rw[cR]
@[go_sem] theorem aea (H:List Int)(cs:List av)(ad:List bd)(aJ:List bd)(fl:List (List Int))(cP:Int)(E:(o aJ)=o cs/\o cs<=2000):Mu [.agg (ed H cs ad aJ fl),.int .i64 cP]=some (.same (.cQ [.X ((cT cs cP).map bR),.X ((ep cs aJ cP).map aH)])):=(b3 arC (H,cs,ad,aJ,fl,cP)).trans (cw E _)
theorem arF (T:br)  (H:List Int) (cs:List av) (ad:List bd) (aJ:List bd) (fl:List (List Int)) (cP:Int) (E:(o aJ)=o cs/\o cs<=2000):WP T Ri (.same (.cQ [.X ((cT cs cP).map bR),.X ((ep cs aJ cP).map aH)])) [.J (.agg (ed H cs ad aJ fl)),.J (.int .i64 cP)]:=by
 refine b4 ?_;simp only[Ri];obtain⟨arG,hlen⟩:=E;simp only[go_sem,go_sem_proc,ed,af];refine dw [1,2,11,12] [298002] (λ((i,g,cR):Nat×Nat×Nat) tm m=>i<=o cs/\tm 13=.J (.int .i64 i)/\tm 6=.ref 298025 g 4 0 (cT (cs.take i) cP).length/\tm 7=.ref 298034 cR 4 0 (ep (cs.take i) (aJ.take i) cP).length/\m 298025=some (g,bK bR (cT (cs.take i) cP))/\m 298034=some (cR,bK aH (ep (cs.take i) (aJ.take i) cP))) (λ(i,_,_)=>o cs-i) (0,0,0) (by refine⟨by omega,rfl,rfl,rfl,rfl,rfl⟩) ?_;intro vs ms a7 aY;simp only[go_sem,go_sem_proc,ed,af] at a7 aY;subst a7 aY;rintro⟨i,g,cR⟩ tm m R hm ⟨Q,kq,dB,bQ,Mx,My⟩;simp only[go_sem,go_sem_proc,bn] at R hm;obtain⟨aw,aB,fg,gm⟩:=R;rcases dG (i<o cs) with az|cb
 ·have d1:decide ((i:Int)<(o cs:Int))=true:=dn;have cn:=eY (i:=i) (by omega);obtain⟨⟨bm,bN,bO,cp⟩,I⟩:∃c,cs[i]?=some c:=⟨_,bL az⟩;obtain⟨⟨⟨hC,jb⟩,⟨rk,ug⟩⟩,ak⟩:∃c,aJ[i]?=some c:=⟨_,bL (by omega)⟩;have hl:cs.take (i+1)=cs.take i++[(bm,bN,bO,cp)]:=by rw[fQ,I];rfl
  have U0:aJ.take (i+1)=aJ.take i++[((hC,jb),(rk,ug))]:=by rw[fQ,ak];rfl
  have U1:(cs.take i).length=(aJ.take i).length:=by rw[gO,gO];omega
  have zw:(cT (cs.take i) cP).length<=2000:=by
   have D:=adY (cs.take i) cP;have G:(cs.take i).length<=o cs:=by rw[gO];omega
   omega
  have arH:(ep (cs.take i) (aJ.take i) cP).length<=2000:=by
   have D:=T4 (cs.take i) (aJ.take i) cP;have G:(cs.take i).length<=o cs:=by rw[gO];omega
   omega
  have pB:=T3 (cs.take i) (aJ.take i) (bm,bN,bO,cp) ((hC,jb),(rk,ug)) cP U1;rw[<-hl,<-U0] at pB;have U2:i<o aJ:=by omega
  rcases c7:(bm==cP)
  ·have jq:cT (cs.take (i+1)) cP=cT (cs.take i) cP:=by
    unfold cT;rw[hl,ue,yW (by simpa using c7),rz,gk]
   rw[aq (by dsimp only;rw[c7];decide),gk] at pB;refine aQ ?_;repeat' (intro h<;>simp only[h,go_sem,go_sem_proc,aw,aB,fg,gm,kq,dB,bQ,hm,I,ak,d1,cn,c7,bR,af,bb]<;>try refine al ?_ ?_)
   exact⟨(i+1,g,cR),by dsimp only;omega,by dsimp only;omega,rfl,by rw[jq],by rw[pB],by rw[jq];exact Mx,by rw[pB];exact My⟩
  ·have jq:cT (cs.take (i+1)) cP=cT (cs.take i) cP++[(bm,bN,bO,cp)]:=by
    unfold cT;rw[hl,ue,yV (by simpa using c7),rz]
   rw[aj (by dsimp only;exact c7)] at pB;have ev:=o4 HF acr 298025 g 32 (cT (cs.take i) cP) (bm,bN,bO,cp) (cs:=[.J (.int .i64 bm),.J (.int .i64 bN),.J (.int .i64 bO),.J (.int .i64 cp)]) rfl (by omega) (by omega);rw[<-jq] at ev;have U3:=λlj kP=>o4 C9 aat 298034 cR 64 (ep (cs.take i) (aJ.take i) cP) ((hC,jb),(rk,ug)) (cs:=lj) kP (by omega) (by omega);have Bo:=U3 _ rfl;rw[<-pB] at Bo;have bk:(cT (cs.take (i+1)) cP).length=(cT (cs.take i) cP).length+1:=by rw[jq,fE];rfl
   have bp:(ep (cs.take (i+1)) (aJ.take (i+1)) cP).length=(ep (cs.take i) (aJ.take i) cP).length+1:=by rw[pB,fE];rfl
   simp only[aH,e8,cM] at Bo;refine aQ ?_;repeat' (intro h<;>simp only[h,go_sem,go_sem_proc,aw,aB,fg,gm,kq,dB,bQ,hm,Mx,My,I,ak,ev,Bo,d1,cn,c7,U2,bR,aH,af,bb]<;>try refine al ?_ ?_)
   exact⟨(i+1,g+1,cR+1),by dsimp only;omega,by dsimp only;omega,rfl,by rw[bk],by rw[bp],rfl,rfl⟩
 ·have d1:decide ((i:Int)<(o cs:Int))=false:=cY;obtain rfl:i=o cs:=by omega
  rw[k4,du (by omega)] at bQ My;rw[k4] at dB Mx;have arI:=λ(K:bz->Prop) (st:bz)=>ml (K:=K) (st:=st) HF 6 298025 g (cT cs cP);have U4:=λ(K:bz->Prop) (st:bz)=>ml (K:=K) (st:=st) C9 7 298034 cR (ep cs aJ cP);refine aQ ?_;repeat' (intro h<;>simp only[h,go_sem,go_sem_proc,aw,aB,fg,gm,kq,dB,bQ,Mx,My,d1,arI,U4,af]<;>try refine al ?_ ?_)
def U5 (cs:List av)(ps:List Rat)(n:Nat):List Nat:=(hR n).filter λi=>decide (kM cs ps (i:Int)<10)
def eH (cs:List av)(ps:List Rat)(n:Nat):List Int:=(U5 cs ps n).map λi:Nat=>(i:Int)
theorem Mz (cs:List av)(ps:List Rat)(n:Nat):eH cs ps (n+1)=eH cs ps n++if kM cs ps (n:Int)<10 then [(n:Int)] else []:=by
 unfold eH U5;rw[HI,ue,mA]
 by_cases h:kM cs ps (n:Int)<10
 ·simp[h]
 ·simp[h]
theorem Bp (cs:List av)(ps:List Rat)(n:Nat):(eH cs ps n).length<=n:=by
 unfold eH U5;rw[af];have:=H4 (λi:Nat=>decide (kM cs ps (i:Int)<10)) (hR n);rwa [List.length_range] at this
abbrev U6:(List Int)×(List av)×(List bd)×(List Rat)×(List (List Int))×Int->List Data:=λ(H,cs,ad,ps,fl,i)=>[.agg (ed H cs ad (ps.map ai) fl),.int .i64 i]
def MA:=bU U6 λ(H,cs,ad,ps,fl,i)=>cq (iB H cs ps) (.same (.cQ [.int .i64 (nQ cs ps i),.bool (decide (kM cs ps i<10))]))
theorem arJ:∀a b,U6 a=U6 b->a=b:=by
  rintro⟨sM,rr,kS,D5,xd,i1⟩ ⟨sN,mQ,lV,D6,xe,i2⟩ h;simp only[bn,Data.agg.injEq,Data.int.injEq,and_true,true_and] at h;obtain⟨dh,cR⟩:=h;obtain⟨rfl,rfl,rfl,lp,rfl⟩:=xc dh;rw[cR,map_inj (λ_ _ a6=>p6 a6) _ _ lp]
@[go_sem] theorem aeb (H:List Int)(cs:List av)(ad:List bd)(ps:List Rat)(fl:List (List Int))(i:Int)(E:iB H cs ps):MA [.agg (ed H cs ad (ps.map ai) fl),.int .i64 i]=some (.same (.cQ [.int .i64 (nQ cs ps i),.bool (decide (kM cs ps i<10))])):=(b3 arJ (H,cs,ad,ps,fl,i)).trans (cw E _)
theorem arK (T:br)(nR:T Gd=aK Mu)(arL:T Oz=aK UQ)(H:List Int)(cs:List av)(ad:List bd)(ps:List Rat)(fl:List (List Int))(i:Int)(E:iB H cs ps):WP T Rr (.same (.cQ [.int .i64 (nQ cs ps i),.bool (decide (kM cs ps i<10))])) [.J (.agg (ed H cs ad (ps.map ai) fl)),.J (.int .i64 i)]:=by
 refine b4 ?_;simp only[Rr];have D:=aea H cs ad (ps.map ai) fl i ⟨by rw[af];exact E.len,E.l⟩
 rw[H6] at D;have G:=aro (cT cs i) (ep cs ps i) (E.short i);rw[adp] at G;simp only[ed] at D;generalize ((ep cs ps i).map ai).map aH=aT at *;generalize ps.map ai=PD at *;generalize nQ cs ps i=gd at *;generalize decide (kM cs ps i<10)=B at *;refine aQ ?_;repeat' (intro h<;>simp only[h,go_sem,go_sem_proc,nR,arL,ed,D,G]<;>try refine al ?_ ?_)
theorem arM {m:Mem}{k g:Nat}{l:List Int}(h:m k=some (g,bK Y l)):te 1 m (.ref k g 1 0 (o l))=some (l.map Y):=by
 have hlen:(bK Y l).length=o l:=by rw[o3 fR];omega
 unfold te;simp only[h,hlen];rw[aj ⟨trivial,trivial⟩,aj ⟨trivial,by omega⟩,du (by omega)]
 unfold bK;rw[ti _ λd=>rfl,Option.map_some];have:=zM (sz:=1) (l.map Y) (λe he=>by obtain⟨c,-,rfl⟩:=fZ.1 he;rfl);rw[af] at this;rw[this]
abbrev Is:(List Int)×(List av)×(List bd)×(List Rat)×(List (List Int))->List Data:=λ(H,cs,ad,ps,fl)=>[.agg (ed H cs ad (ps.map ai) fl)]
def It:=bU Is λ(H,cs,ad,ps,fl)=>cq (iB H cs ps) (.own 1 ((eH cs ps (o H)).map Y))
theorem U7:∀a b,Is a=Is b->a=b:=by
  rintro⟨sM,rr,kS,D5,xd⟩ ⟨sN,mQ,lV,D6,xe⟩ h;simp only[bn,Data.agg.injEq,and_true] at h;obtain⟨rfl,rfl,rfl,lp,rfl⟩:=xc h;rw[map_inj (λ_ _ a6=>p6 a6) _ _ lp]
@[go_sem] theorem U8 (H:List Int)(cs:List av)(ad:List bd)(ps:List Rat)(fl:List (List Int))(E:iB H cs ps):It [.agg (ed H cs ad (ps.map ai) fl)]=some (.own 1 ((eH cs ps (o H)).map Y)):=(b3 U7 (H,cs,ad,ps,fl)).trans (cw E _)
theorem arN (T:br)(y2:T Ge=aK MA)(H:List Int)(cs:List av)(ad:List bd)(ps:List Rat)(fl:List (List Int))(E:iB H cs ps):WP T Rk (.own 1 ((eH cs ps (o H)).map Y)) [.J (.agg (ed H cs ad (ps.map ai) fl))]:=by
 refine b4 ?_;simp only[Rk];have aL:=E.n;have he:=λi=>aeb H cs ad ps fl i E;simp only[ed] at he;generalize ps.map ai=PD at *;simp only[go_sem,go_sem_proc,y2,ed,af];refine dw [1,9] [303001] (λ((i,g):Nat×Nat) tm m=>i<=o H/\tm 10=.J (.int .i64 i)/\tm 3=.ref 303023 g 1 0 (eH cs ps i).length/\m 303023=some (g,bK Y (eH cs ps i))) (λ(i,_)=>o H-i) (0,0) (by refine⟨by omega,rfl,rfl,rfl⟩) ?_;intro vs ms a7 aY;simp only[go_sem,go_sem_proc,y2,ed,af] at a7 aY;subst a7 aY;rintro⟨i,g⟩ tm m R hm ⟨Q,eA,cI,MB⟩;simp only[go_sem,go_sem_proc,y2,bn] at R hm;obtain⟨aw,eh⟩:=R;have vR:=Bp cs ps i;rcases dG (i<o H) with az|cb
 ·have d1:decide ((i:Int)<(o H:Int))=true:=dn;have cn:=eY (i:=i) (by omega);have he:=he i;have Eh:=Mz cs ps i;rcases q:decide (kM cs ps (i:Int)<10)
  ·rw[q] at he;rw[aq (of_decide_eq_false q),gk] at Eh;generalize nQ cs ps i=gd at *;refine aQ ?_;repeat' (intro h<;>simp only[h,go_sem,go_sem_proc,y2,aw,cI,eh,eA,hm,MB,he,d1,cn,af]<;>try refine al ?_ ?_)
   exact⟨(i+1,g),by dsimp only;omega,by dsimp only;omega,rfl,by rw[Eh],by rw[Eh]⟩
  ·rw[q] at he;rw[aj (of_decide_eq_true q)] at Eh;have ev:=o4 fR o5 303023 g 8 (eH cs ps i) (i:Int) (cs:=[.J (.int .i64 (i:Int))]) rfl (by omega) (by omega);rw[<-Eh] at ev;have ax:(eH cs ps (i+1)).length=(eH cs ps i).length+1:=by rw[Eh,fE];rfl
   generalize nQ cs ps i=gd at *;refine aQ ?_;repeat' (intro h<;>simp only[h,go_sem,go_sem_proc,y2,aw,cI,eh,eA,hm,MB,he,ev,d1,cn,af]<;>try refine al ?_ ?_)
   exact⟨(i+1,g+1),by dsimp only;omega,by dsimp only;omega,rfl,by rw[ax],rfl⟩
 ·have d1:decide ((i:Int)<(o H:Int))=false:=cY;obtain rfl:i=o H:=by omega
  refine aQ ?_;repeat' (intro h<;>simp only[h,go_sem,go_sem_proc,y2,aw,cI,eh,eA,hm,MB,d1,af]<;>try refine al ?_ ?_)
  exact arM MB
theorem arO (T:br)(MC:T OT=aK UU)(a:Int)(b:Int)(k:Int)(x:Int)(i:Int)(e:Int)(set:List Int)(E:(o set)<=1000000):WP T Rs (.same (.bool (a==i&&(k==e&&(decide (x>0) && !decide (b∈set)))))) [.J (.agg [.int .i64 a,.int .i64 b,.int .i64 k,.int .i64 x]),.J (.ptr [.int .i64 i]),.J (.ptr [.int .i64 e]),.J (.ptr [.X (set.map Y)])]:=by
 refine b4 ?_;simp only[Rs];have hK:=arw set b E;rcases bm:(a==i)
 ·refine aQ ?_;repeat' (intro h<;>simp only[h,go_sem,go_sem_proc,MC,bm,dm]<;>try refine al ?_ ?_)
 rcases bN:(k==e)
 ·refine aQ ?_;repeat' (intro h<;>simp only[h,go_sem,go_sem_proc,MC,bm,bN,dm,gQ]<;>try refine al ?_ ?_)
 rcases bO:decide (x>0)
 ·refine aQ ?_;repeat' (intro h<;>simp only[h,go_sem,go_sem_proc,MC,bm,bN,bO,dm,gQ]<;>try refine al ?_ ?_)
 ·refine aQ ?_;repeat' (intro h<;>simp only[h,go_sem,go_sem_proc,MC,bm,bN,bO,hK,eF]<;>try refine al ?_ ?_)
abbrev U9:(List Int)×(List av)×(List bd)×(List Rat)×(List (List Int))×Int×(List Int)->List Data:=λ(H,cs,ad,ps,fl,i,set)=>[.agg (ed H cs ad (ps.map ai) fl),.int .i64 i,.X (set.map Y)]
def Va:=bU U9 λ(H,cs,ad,ps,fl,i,set)=>cq (iB H cs ps/\o set<=1000000) (.same (.bool (jE cs ps set i)))
theorem arP:∀a b,U9 a=U9 b->a=b:=by
  rintro⟨sM,rr,kS,D5,xd,i1,adr⟩ ⟨sN,mQ,lV,D6,xe,i2,ads⟩ h;simp only[bn,Data.agg.injEq,Data.int.injEq,Data.X.injEq,and_true,true_and] at h;obtain⟨dh,cR,qp⟩:=h;obtain⟨rfl,rfl,rfl,lp,rfl⟩:=xc dh;rw[cR,map_inj (λ_ _ a6=>p6 a6) _ _ lp,map_inj eR _ _ qp]
@[go_sem] theorem arQ (H:List Int)(cs:List av)(ad:List bd)(ps:List Rat)(fl:List (List Int))(i:Int)(set:List Int)(E:iB H cs ps/\o set<=1000000):Va [.agg (ed H cs ad (ps.map ai) fl),.int .i64 i,.X (set.map Y)]=some (.same (.bool (jE cs ps set i))):=(b3 arP (H,cs,ad,ps,fl,i,set)).trans (cw E _)
theorem arR (T:br)(y2:T Ge=aK MA)(MD:T F8=aK Me)(H:List Int)(cs:List av)(ad:List bd)(ps:List Rat)(fl:List (List Int))(i:Int)(set:List Int)(E:iB H cs ps/\o set<=1000000):WP T Rm (.same (.bool (jE cs ps set i))) [.J (.agg (ed H cs ad (ps.map ai) fl)),.J (.int .i64 i),.J (.X (set.map Y))]:=by
 refine b4 ?_;simp only[Rm];have D:=aeb H cs ad ps fl i E.1;have G:=adw cs (.Be i (nQ cs ps i) set) ⟨by have:=E.1.l;omega,by decide,E.2⟩
 have e:cs.any (ry (.Be i (nQ cs ps i) set))=jE cs ps set i:=rfl;rw[e] at G;simp only[ud] at G;simp only[ed] at D;generalize ps.map ai=PD at *;generalize nQ cs ps i=gd at *;generalize jE cs ps set i=B at *;refine aQ ?_;repeat' (intro h<;>simp only[h,go_sem,go_sem_proc,y2,MD,ed,D,G,da,nV,iy,scalar]<;>try refine al ?_ ?_)
theorem arS (T:br)(aec:T OS=aK Va)(x:Int)(H:List Int)(cs:List av)(ad:List bd)(ps:List Rat)(fl:List (List Int))(set:List Int)(E:iB H cs ps/\o set<=1000000):WP T Rl (.same (.bool (jE cs ps set x))) [.J (.int .i64 x),.J (.ptr (ed H cs ad (ps.map ai) fl)),.J (.ptr [.X (set.map Y)])]:=by
 refine b4 ?_;simp only[Rl];have h:=arQ H cs ad ps fl x set E;simp only[ed] at h;generalize jE cs ps set x=B at *;generalize ps.map ai=PD at *;simp only[go_sem,go_sem_proc,aec,ed,h];repeat' (first|refine al ?_ ?_|fail)<;>intro h<;>simp only[h,go_sem,go_sem_proc,aec,ed,h]
structure qv where
 g:Nat
 dh:Nat
 cR:Nat
 L:List Int
 Z:List Int
 H:List Int
 cs:List av
 ad:List bd
 ps:List Rat
 fl:List (List Int)
 set:List Int
structure qv.At (a:qv) (mem:Mem):Prop where
 row:mem 290006=some (a.g,(a.L++a.Z).map dK)
 day:mem 290001=some (a.dh,(ed a.H a.cs a.ad (a.ps.map ai) a.fl).map .J)
 st:mem 290004=some (a.cR,[Data.X (a.set.map Y)].map .J)
 rC:iB a.H a.cs a.ps
 X:(o a.set)<=60
 aed:(o a.L)+o a.Z<=60
def qv.args (a:qv):List O:=[.ref 290006 a.g 1 0 (o a.L),.e5 qX [.ptr 290001 a.dh 0,.ptr 290004 a.cR 0]]
def stay (cs:List av)(ps:List Rat)(set L:List Int):List Int:=L.filter λx => !jE cs ps set x
def Iu (a:qv)(mem:Mem):O->Mem->Prop:=λm mem'=>∃Iv:List Int,o Iv+(stay a.cs a.ps a.set a.L).length=o a.L+o a.Z/\m=.ref 290006 a.g 1 0 (stay a.cs a.ps a.set a.L).length/\mem'=bI mem 290006 a.g ((stay a.cs a.ps a.set a.L++Iv).map dK)
def Iw:List O->Mem->Option (O->Mem->Prop):=ra (λ(a:qv) args mem=>args=a.args/\a.At mem) Iu
theorem arT:∀a b:Data,O.J a=O.J b->a=b:=λa b h=>by cases h;rfl
theorem arU {a b:qv}{mem:Mem}(h:a.args=b.args)(D:a.At mem)(G:b.At mem):a=b:=by
 obtain⟨g,dh,cR,L,Z,H,cs,ad,ps,fl,set⟩:=a;obtain⟨c4,aAo,aAp,aAq,Iv,DV,lj,lk,aAr,w9,aAs⟩:=b;have aw:=D.row.symm.trans G.row;have aB:=D.day.symm.trans G.day;have cI:=D.st.symm.trans G.st;simp only[qv.args,bn,O.ref.injEq,and_true,true_and] at h;simp only[cz,eU] at aw aB cI;obtain⟨rfl,aw⟩:=aw;obtain⟨rfl,aB⟩:=aB;obtain⟨rfl,cI⟩:=cI;obtain⟨rfl,rfl,rfl,w2,rfl⟩:=xc (map_inj arT _ _ aB);obtain rfl:=map_inj (λ_ _ a6=>p6 a6) _ _ w2;simp only[e8,cM,bn,O.J.injEq,Data.X.injEq,and_true] at cI;obtain rfl:=map_inj eR _ _ cI;obtain⟨rfl,rfl⟩:=Ag (LS aw) h.1.2
 rfl
theorem arV (a:qv)(mem:Mem)(h:a.At mem):Iw a.args mem=some (Iu a mem):=by
 unfold Iw;exact aa4 (a:=a) (λa b args mem D G=>arU (D.1.symm.trans G.1) D.2 G.2) ⟨rfl,h⟩
theorem ME {n k g:Nat}{mem:Mem}{ds:List Data}(h:mem k=some (g,ds.map .J)):da (n+1) mem (.ptr k g 0)=some (.ptr ds):=by
 unfold da;rw[h];simp only;rw[aj ⟨trivial,fY _⟩,o1,ti _ λd=>by cases n<;>rfl]
 rfl
theorem aee {n k g:Nat}{mem:Mem}{L Z:List Int}(h:mem k=some (g,(L++Z).map dK)):da (n+1) mem (.ref k g 1 0 (o L))=some (.X (L.map Y)):=by
 unfold da;rw[h];simp only[if_true];unfold cut;rw[ku,dU,aj (by simp),o1,mA,zs,af,xA,o2,gk,du (by rw[af];exact cA _)];have e:L.map dK=((L.map Y).flatten).map O.J:=by rw[Ie];rfl
 rw[e];simp only;rw[ti _ λd=>by cases n<;>rfl]
 have:=zM (sz:=1) (L.map Y) (λx I=>by obtain⟨y,-,rfl⟩:=fZ.1 I;rfl);rw[af] at this;simp[this]
theorem arW {T:br}(Ia:T qX=aK D4){a:qv}{mem m:Mem}(aM:a.At mem)(D:m 290001=mem 290001)(aR:m 290004=mem 290004)(x:Int):
  T qX [.J (.int .i64 x),.ptr 290001 a.dh 0,.ptr 290004 a.cR 0] m=some (.same (.bool (jE a.cs a.ps a.set x))):=by
 have t1:da 6 m (.ptr 290001 a.dh 0)=some (.ptr (ed a.H a.cs a.ad (a.ps.map ai) a.fl)):=ME (D.trans aM.day);have t2:da 6 m (.ptr 290004 a.cR 0)=some (.ptr [.X (a.set.map Y)]):=ME (aR.trans aM.st);have t3:da 6 m (.J (.int .i64 x))=some (.int .i64 x):=rfl;have e3:=adt x a.H a.cs a.ad a.ps a.fl a.set ⟨aM.rC,by have:=aM.X;omega⟩
 have aw:[O.J (.int .i64 x),.ptr 290001 a.dh 0,.ptr 290004 a.cR 0].mapM (da 6 m)=some [.int .i64 x,.ptr (ed a.H a.cs a.ad (a.ps.map ai) a.fl),.ptr [.X (a.set.map Y)]]:=by
  simp only[lT,Cc,t1,t2,t3];rfl
 have b8:[O.J (.int .i64 x),.ptr 290001 a.dh 0,.ptr 290004 a.cR 0].mapM (da 6 emp)=none:=rfl;rw[Ia];unfold aK;rw[b8,aw];show (D4 _).bind o0=_;rw[e3];simp[o0,scalar]
theorem arX {T:br}(Ib:T z7=aK D9){a:qv}{mem:Mem}(aM:a.At mem):
  T z7 a.args mem=some (.same (.int .i64 (k7 (λx=>jE a.cs a.ps a.set x) a.L))):=by
 have t1:da 5 mem (.ptr 290001 a.dh 0)=some (.ptr (ed a.H a.cs a.ad (a.ps.map ai) a.fl)):=ME aM.day;have t2:da 5 mem (.ptr 290004 a.cR 0)=some (.ptr [.X (a.set.map Y)]):=ME aM.st;have t3:da 6 mem (.ref 290006 a.g 1 0 (o a.L))=some (.X (a.L.map Y)):=aee aM.row
 have t4:da 6 mem (.e5 qX [.ptr 290001 a.dh 0,.ptr 290004 a.cR 0])=some (ru (.yT a.H a.cs a.ad a.ps a.fl a.set)):=by
  rw[aiv];simp only[lT,Cc,t1,t2];rfl
 have ax:=aM.aed;have e3:=apN a.L (.yT a.H a.cs a.ad a.ps a.fl a.set) ⟨by omega,by decide,aM.rC,by have:=aM.X;omega⟩
 have aw:a.args.mapM (da 6 mem)=some [.X (a.L.map Y),ru (.yT a.H a.cs a.ad a.ps a.fl a.set)]:=by
  unfold qv.args;simp only[lT,Cc,t3,t4];rfl
 have b8:a.args.mapM (da 6 emp)=none:=rfl;rw[Ib];unfold aK;rw[b8,aw];show (D9 _).bind o0=_;rw[e3];simp only[hE,o0,scalar,if_true]
 rfl
theorem aef {p:Int->Bool}{L:List Int}{j:Nat}{x:Int}(h:L[j]?=some x):(L.take (j+1)).filter p=(L.take j).filter p++if p x=true then [x] else []:=by
 rw[fQ,h,ue]
 cases aG:p x<;>simp[aG]
theorem arY (n:Nat):(eL n [O.J (.int .i64 0)]).flatten=(eL n (0:Int)).map dK:=by
 induction n with
 |zero=>rfl
 |succ n aA=>rw[qF,j8,aA,qF];rfl
theorem arZ (T:br)(Ib:T z7=aK D9)(Ia:T qX=aK D4)(a:qv)(mem:Mem)(aM:a.At mem):
  wp T J2.body (yB J2.res (Iu a mem)) ⟨nd a.args,mem⟩:=by
 have Ix:=arX Ib aM;have ja:=λ(m:Mem) (D:m 290001=mem 290001) (aR:m 290004=mem 290004) (x:Int)=>arW Ia aM D aR x;have ke:=aM.row;have MF:=aM.aed;obtain⟨g,dh,cR,L,Z,H,cs,ad,ps,fl,set⟩:=a;clear aM;unfold Iu;simp only[qv.args,stay] at Ix ja ke MF ⊢;generalize aG:jE cs ps set=p at *;refine B5 ?_;simp only[J2];rcases aF:(k7 (λx=>p x) L == -1)
 case true =>
  have aN:L.filter (λx => !p x)=L:=by
   rw[aeg];intro x I;have:=KV (λx=>p x) L;rw[eq_of_beq aF] at this;have G:=ad0.1 this.symm x I
   simpa using G
  rw[aN];simp only[go_sem,go_sem_proc,Ix,aF];repeat' (first|refine al ?_ ?_|fail)<;>intro h<;>simp only[h,go_sem,go_sem_proc,Ix,aF]
  exact⟨_,rfl,Z,by omega,rfl,by
   funext k
   by_cases R:k=290006
   ·subst R;rw[yY,ke]
   ·rw[oE R]⟩
 obtain⟨i0,p2,aAt,g7,Kl⟩:∃i0:Nat,k7 (λx=>p x) L=(i0:Int)/\i0<o L/\(∃x,L[i0]?=some x/\p x=true)/\∀x∈L.take i0,p x=false:=by
  unfold k7 at aF ⊢
  cases h:L.findIdx? (λx=>p x) with
  |none=>rw[h] at aF;cases aF
  |some i =>
   obtain⟨D,G,ag⟩:=List.findIdx?_eq_some_iff_getElem.1 h;refine⟨i,rfl,D,⟨_,bL D,G⟩,λx I=>?_⟩;obtain⟨j,ay⟩:=List.mem_iff_getElem?.1 I;rw[List.getElem?_take] at ay
   split at ay
   ·rename_i kX;obtain⟨ik,rfl⟩:=ef.1 ay;have:=ag j kX
    simpa using this
   ·cases ay
 rw[p2] at Ix aF;have ee:=eY (i:=i0) (by omega);simp only[go_sem,go_sem_proc,Ix,aF,ee]
 refine dw [0,1] [] (λ((j,row):Nat×List Int) tm m=>j<=o L/\tm 6=.J (.int .i64 (j:Int))/\tm 5=.J (.int .i64 (((L.take j).filter λx => !p x).length:Int))/\o row=o L+o Z/\row.take ((L.take j).filter λx => !p x).length=(L.take j).filter (λx => !p x)/\row.drop j=(L++Z).drop j/\m=bI mem 290006 g (row.map dK)) (λ(j,_)=>o L-j) (i0+1,L++Z) (by
  obtain⟨x,I,Ei⟩:=g7
  have e:(L.take (i0+1)).filter (λx => !p x)=L.take i0:=by
   rw[aef I,aq (by rw[Ei];decide),gk,aeg];intro y ak;rw[Kl y ak];rfl
  have aB:(L.take i0).length=i0:=by rw[gO];omega
  refine⟨by omega,rfl,?_,by rw[fE],?_,rfl,?_⟩
  ·rw[e,aB];rfl
  ·rw[e,aB,zs,show i0-o L=0 by omega,o2,gk]
  ·funext k
   by_cases R:k=290006
   ·subst R;rw[yY];exact ke
   ·rw[oE R]) ?_
 intro vs ms a7 aY;simp only[go_sem,go_sem_proc] at a7 aY;subst a7 aY;rintro⟨j,row⟩ tm m R-⟨ay,dB,b6,cK,hl,oh,hm⟩;simp only[go_sem,go_sem_proc,bn] at R;obtain⟨b8,aw⟩:=R;subst hm;have eW:=λ(x:Int)=>ja (bI mem 290006 g (row.map dK)) rfl rfl x
 have nj:((L.take j).filter λx => !p x).length<=j:=by
  have D:=H4 (λx => !p x) (L.take j);have G:(L.take j).length<=j:=List.length_take_le _ _;omega
 rcases dG (j<o L) with az|cb
 ·have d1:decide ((j:Int)<(o L:Int))=true:=dn;obtain⟨x,I⟩:∃x,L[j]?=some x:=⟨_,bL az⟩
  have ar0:row[j]?=some x:=by
   have D:row[j]?=(row.drop j)[0]?:=by rw[ll];rfl
   rw[D,oh,ll,Nat.add_zero,uA az,I]
  have Ej:=aef (p:=λx => !p x) I;have eW:=eW x;have w1:=eY (i:=j) (by omega);have s1:lz 1 (lA j (row.map dK))=[.J (.int .i64 x)]:=HV (f:=dK) ar0;have c5:(j<o L)=True:=eq_true az;have eg:(j+1<=o L+o Z)=True:=eq_true (by omega);have m7:(row.map dK).length=o L+o Z:=by rw[af,cK]
  have uV:∀y:List Int,o y=(o row)->(∀k,j+1<=k->y[k]?=row[k]?)->y.drop (j+1)=(L++Z).drop (j+1):=λy WJ ak=>by
   apply pU;intro k;rw[ll,ll,ak _ (by omega)];have D:row[j+1+k]?=(row.drop j)[1+k]?:=by rw[ll];congr 1;omega
   have G:(L++Z)[j+1+k]?=((L++Z).drop j)[1+k]?:=by rw[ll];congr 1;omega
   rw[D,G,oh]
  rcases Ei:p x
  ·rw[Ei] at eW;rw[aj (by rw[Ei];rfl)] at Ej;have pg:((L.take (j+1)).filter λx => !p x).length=((L.take j).filter λx => !p x).length+1:=by rw[Ej,fE];rfl
   generalize aL:((L.take j).filter λx => !p x).length=n at *;have lg:=eY (i:=n) (by omega);have j2:(n<o L)=True:=eq_true (by omega);have lf:(n+1<=o L+o Z)=True:=eq_true (by omega)
   have sJ:lz n (row.map dK)++[O.J (.int .i64 x)]++lA (n+1) (row.map dK)=(row.set n x).map dK:=by
    rw[List.set_eq_take_append_cons_drop,aj (by omega),mA,e8,yu,aeh,gZ];rfl
   generalize Iy:row.map dK=Bq at *;simp only[go_sem,go_sem_proc,b8,aw,b6,dB,s1,d1,w1,lg,c5,eg,j2,lf,m7,sJ,eW,cv,dU];repeat' (first|refine al ?_ ?_|fail)<;>intro h<;>simp only[h,go_sem,go_sem_proc,b8,aw,b6,dB,s1,d1,w1,lg,c5,eg,j2,lf,m7,sJ,eW,cv,dU]
   refine⟨(j+1,row.set n x),by dsimp only;omega,by dsimp only;omega,rfl,?_,?_,?_,?_,?_⟩
   ·rw[pg]
   ·dsimp only;rw[kA,cK]
   ·dsimp only;rw[pg,Ej,fQ,List.take_set_of_le (cA _),hl,List.getElem?_set_self (by omega)];rfl
   ·exact uV _ (kA ..) λk R=>by rw[List.getElem?_set_ne (by omega)]
   ·rw[UX]
  ·rw[Ei] at eW;rw[aq (by rw[Ei];decide),gk] at Ej;generalize Iy:row.map dK=Bq at *;simp only[go_sem,go_sem_proc,b8,aw,b6,dB,s1,d1,w1,c5,eg,m7,eW,bX,dU];repeat' (first|refine al ?_ ?_|fail)<;>intro h<;>simp only[h,go_sem,go_sem_proc,b8,aw,b6,dB,s1,d1,w1,c5,eg,m7,eW,bX,dU]
   exact⟨(j+1,row),by dsimp only;omega,by dsimp only;omega,rfl,by rw[Ej],cK,by rw[Ej];exact hl,uV _ rfl λk R=>rfl,by rw[Iy]⟩
 ·have d1:decide ((j:Int)<(o L:Int))=false:=cY;obtain rfl:j=o L:=by omega
  rw[k4] at b6 hl nj;have hlen:((L.filter λx => !p x).length)<=o L:=nj;generalize e3:L.filter (λx => !p x)=a1 at *;have bm:(o a1<=o L)=True:=eq_true hlen;have bN:(o a1+(o L-o a1)<=o L+o Z)=True:=eq_true (by omega);have bO:(o L<=o L)=True:=eq_true (cA _);have m7:(row.map dK).length=o L+o Z:=by rw[af,cK]
  have An:lz (o a1) (row.map dK)=a1.map dK:=by rw[<-yu,hl]
  have wM:lA (o L) (row.map dK)=Z.map dK:=by rw[<-aeh,oh,Cg]
  have rT:lz (o a1) (row.map dK)++(eL (o L-o a1) [O.J (.int .i64 0)]).flatten++lA (o a1+(eL (o L-o a1) [O.J (.int .i64 0)]).flatten.length) (row.map dK)=(a1++(eL (o L-o a1) 0++Z)).map dK:=by
   rw[arY,af,aei,show (o a1)+(o L-o a1)=(o L) by omega,wM,An,mA,mA,gZ]
  generalize row.map dK=Bq at *;simp only[go_sem,go_sem_proc,b8,aw,b6,dB,d1,bm,bN,bO,m7,rT,Iz,dU,sV,xQ,ku];repeat' (first|refine al ?_ ?_|fail)<;>intro h<;>simp only[h,go_sem,go_sem_proc,b8,aw,b6,dB,d1,bm,bN,bO,m7,rT,Iz,dU,sV,xQ,ku]
  exact⟨_,rfl,eL (o L-o a1) 0++Z,by rw[fE,aei];omega,rfl,by rw[UX];rfl⟩
def eC (cs:List av)(ps:List Rat)(s:List Int):Nat->List Int
 |0=>s
 |k+1=>stay cs ps (eC cs ps s k) (eC cs ps s k)
theorem Vb (cs:List av)(ps:List Rat)(set L:List Int):(stay cs ps set L).length<=o L:=H4 _ _
theorem aej (cs:List av)(ps:List Rat)(s:List Int)(k:Nat):(eC cs ps s k).length<=o s:=by
 induction k with
 |zero=>exact cA _
 |succ k aA=>exact Nat.le_trans (Vb ..) aA
def Vc:=bU Is λ(H,cs,ad,ps,fl)=>cq (iB H cs ps) (.same (.bool (decide (((eC cs ps (eH cs ps (o H)) (o H)).length:Int)>0))))
@[go_sem] theorem ar1 (H:List Int)(cs:List av)(ad:List bd)(ps:List Rat)(fl:List (List Int))(E:iB H cs ps):Vc [.agg (ed H cs ad (ps.map ai) fl)]=some (.same (.bool (decide (((eC cs ps (eH cs ps (o H)) (o H)).length:Int)>0)))):=(b3 U7 (H,cs,ad,ps,fl)).trans (cw E _)
theorem ar2 (T:br)(iC:T Aa=aK It)(fb:T sa=aK x0)(Ek:T OR=wV Iw)(H:List Int)(cs:List av)(ad:List bd)(ps:List Rat)(fl:List (List Int))(E:iB H cs ps):WP T Q9 (.same (.bool (decide (((eC cs ps (eH cs ps (o H)) (o H)).length:Int)>0)))) [.J (.agg (ed H cs ad (ps.map ai) fl))]:=by
 refine b4 ?_;simp only[Q9];have aL:=E.n;have iw:=U8 H cs ad ps fl E;have vR:=Bp cs ps (o H);have eW:=aej cs ps (eH cs ps (o H));have ke:∀l:List Int,bK Y l=l.map dK:=λl=>(Ie l).symm;generalize di:eH cs ps (o H)=uh at *
 have fr:∀(m:Mem) (g dh cR:Nat) (L Z:List Int),m 290006=some (g,(L++Z).map dK)->(o L)+o Z<=60->m 290001=some (dh,[.J (.X (H.map Y)),.J (.X (cs.map bR)),.J (.X (ad.map aH)),.J (.X ((ps.map ai).map aH)),.J (.X (fl.map l8))])->Iw [.ref 290006 g 1 0 (o L),.e5 qX [.ptr 290001 dh 0,.ptr 290004 cR 0]] (bI (bI m 290004 cR [.nil]) 290004 cR [.J (.X (L.map Y))])=some (Iu ⟨g,dh,cR,L,Z,H,cs,ad,ps,fl,L⟩ (bI (bI m 290004 cR [.nil]) 290004 cR [.J (.X (L.map Y))])):=λm g dh cR L Z D G ag =>
  arV ⟨g,dh,cR,L,Z,H,cs,ad,ps,fl,L⟩ _ ⟨D,ag,yY,E,by dsimp only;omega,G⟩
 simp only[ed] at iw;generalize aAu:ps.map ai=PD at *;simp only[go_sem,go_sem_proc,iC,fb,Ek,ed,iw,af]
 refine dw [1,9] [290001] (λ((k,g,Z):Nat×Nat×List Int) tm m=>k<=o H/\tm 10=.J (.int .i64 k)/\tm 3=.ref 290006 g 1 0 (eC cs ps uh k).length/\m 290006=some (g,(eC cs ps uh k++Z).map dK)/\(eC cs ps uh k).length+o Z<=60) (λ(k,_,_)=>o H-k) (0,0,[]) (by
  refine⟨by omega,rfl,?_,?_,?_⟩
  ·show _=O.ref 290006 0 1 0 (o uh);simp[qA]
  ·show _=some (0,(uh++[]).map dK);rw[gk,Ie]
   rfl
  ·show (o uh)+0<=60;omega) ?_
 intro vs ms a7 aY;simp only[go_sem,go_sem_proc,iC,fb,Ek,ed,af] at a7 aY;subst a7 aY;rintro⟨k,g,Z⟩ tm m R hm ⟨oY,eA,cI,aek,MF⟩;simp only[go_sem,go_sem_proc,iC,fb,Ek,bn] at R hm;obtain⟨aw,eh⟩:=R;rcases dG (k<o H) with az|cb
 ·have d1:decide ((k:Int)<(o H:Int))=true:=dn;have cn:=eY (i:=k) (by omega);have ky:eC cs ps uh (k+1)=stay cs ps (eC cs ps uh k) (eC cs ps uh k):=rfl;generalize eC cs ps uh k=S at *;have bV:da 6 m (.ref 290006 g 1 0 (o S))=some (.X (S.map Y)):=aee aek;have ar3:da 6 emp (.ref 290006 g 1 0 (o S))=none:=rfl;have hK:=Y0 S (by omega)
  have mD:((S.map Y).all λe=>e.all scalar)=true:=by
   rw[h2];intro x I;obtain⟨y,-,rfl⟩:=fZ.1 I;simp[Y,scalar]
  have aF:=fr m g 0 (uH (m 290004)) S Z aek MF hm;simp only[go_sem,go_sem_proc,iC,fb,Ek,aw,cI,eh,eA,hm,d1,bV,ar3,hK,aF,o0,mD,iy,hE];rintro r m' ⟨Iv,a8,U,lq⟩;dsimp only at a8 U lq;rw[<-ky] at a8 U lq;subst U lq;refine aQ ?_;repeat' (intro h<;>simp only[h,go_sem,go_sem_proc,iC,fb,Ek,aw,eh,eA,hm,cn]<;>try refine al ?_ ?_)
  exact⟨(k+1,g,Iv),by dsimp only;omega,by dsimp only;omega,rfl,rfl,rfl,by dsimp only;omega⟩
 ·have d1:decide ((k:Int)<(o H:Int))=false:=cY;obtain rfl:k=o H:=by omega
  generalize eC cs ps uh (o H)=S at *;refine aQ ?_;repeat' (intro h<;>simp only[h,go_sem,go_sem_proc,iC,fb,Ek,aw,cI,eh,eA,hm,d1]<;>try refine al ?_ ?_)



theorem ar4 {n:Int}(h:c8 n):C5 [.int .i64 n,.int .i64 1]=some (.same (.cQ [.agg (aH (ai (n:Rat))),.int .i64 0])):=by
 have:=akT n 1 ⟨h,TC⟩;rw[HG h] at this;exact this
abbrev Vd:List Int->List Data:=λ(l:List Int)=>[.X (l.map Y),.fn ly []]
def Ve:=bU Vd λ(l:List Int)=>cq (o l<=1000000) (.same (.bool (l.all e1)))
theorem ar5:∀a b,Vd a=Vd b->a=b:=by
  intro fK ab h;simp only[bn,Data.X.injEq,and_true] at h;exact map_inj eR _ _ h
@[go_sem] theorem ar6 (l:List Int)(E:(o l)<=1000000):Ve [.X (l.map Y),.fn ly []]=some (.same (.bool (l.all e1))):=(b3 ar5 l).trans (cw E _)
theorem ar7 (T:br)(ael:T OC=aK Uf)(l:List Int)(E:(o l)<=1000000):WP T Rf (.same (.bool (l.all e1))) [.J (.X (l.map Y)),.J (.fn ly [])]:=by
 refine b4 ?_;simp only[Rf];have h:=apT l .py ⟨E,by show xY<900000;decide⟩
 have e:l.any (rv .py) = !l.all e1:=Us l e1;rw[e] at h;simp only[ru] at h;simp only[go_sem,go_sem_proc,ael,h,da,nV,iy,scalar,El];repeat' (first|refine al ?_ ?_|fail)<;>intro h<;>simp only[h,go_sem,go_sem_proc,ael,h,da,nV,iy,scalar,El]
abbrev Vf:(List av)×Int->List Data:=λ(l,n)=>[.X (l.map bR),.fn uR [.ptr [.int .i64 n],.ptr [.fn ly []]]]
def Vg:=bU Vf λ(l,n)=>cq (o l<=1000000/\0<=n/\n<=1000000) (.same (.bool (l.all (fN n))))
theorem ar8:∀a b,Vf a=Vf b->a=b:=by
  rintro⟨fK,mO⟩ ⟨ab,mP⟩ h;simp only[bn,Data.X.injEq,Data.fn.injEq,Data.ptr.injEq,Data.int.injEq,and_true,true_and] at h;exact dV (map_inj oC _ _ h.1) h.2
@[go_sem] theorem ar9 (l:List av)(n:Int)(E:(o l)<=1000000/\0<=n/\n<=1000000):Vg [.X (l.map bR),.fn uR [.ptr [.int .i64 n],.ptr [.fn ly []]]]=some (.same (.bool (l.all (fN n)))):=(b3 ar8 (l,n)).trans (cw E _)
theorem asa (T:br)(MD:T F8=aK Me)(l:List av)(n:Int)(E:(o l)<=1000000/\0<=n/\n<=1000000):WP T Rg (.same (.bool (l.all (fN n)))) [.J (.X (l.map bR)),.J (.fn uR [.ptr [.int .i64 n],.ptr [.fn ly []]])]:=by
 refine b4 ?_;simp only[Rg];have h:=adw l (.py n) ⟨E.1,by decide,E.2⟩
 have e:l.any (ry (.py n)) = !l.all (fN n):=Us l _;rw[e] at h;simp only[ud] at h;simp only[go_sem,go_sem_proc,MD,h,da,nV,iy,scalar,El];repeat' (first|refine al ?_ ?_|fail)<;>intro h<;>simp only[h,go_sem,go_sem_proc,MD,h,da,nV,iy,scalar,El]
def jF (f:bd):Bool:=cU f&&decide (f.1.1>=0)
abbrev Vh:List bd->List Data:=λ(l:List bd)=>[.X (l.map aH),.fn tk []]
def Vi:=bU Vh λ(l:List bd)=>cq (ej l) (.same (.bool (l.all jF)))
theorem asb:∀a b,Vh a=Vh b->a=b:=by
  intro fK ab h;simp only[bn,Data.X.injEq,and_true] at h;exact map_inj l4 _ _ h
@[go_sem] theorem aem (l:List bd)(E:ej l):Vi [.X (l.map aH),.fn tk []]=some (.same (.bool (l.all jF))):=(b3 asb l).trans (cw E _)
theorem asc (T:br)(aen:T Of=aK KX)(l:List bd)(E:ej l):WP T Rh (.same (.bool (l.all jF))) [.J (.X (l.map aH)),.J (.fn tk [])]:=by
 refine b4 ?_;simp only[Rh];have h:=aaB l sc ⟨E,.inr (.inr ⟨rfl,by decide⟩)⟩;have e:l.any (nE sc) = !l.all jF:=by rw[aaz];exact Us l jF
 have QW:Da sc=[.ptr [.fn tk []]]:=aj rfl;rw[e,QW] at h;simp only[go_sem,go_sem_proc,aen,h,da,nV,iy,scalar,El];repeat' (first|refine al ?_ ?_|fail)<;>intro h<;>simp only[h,go_sem,go_sem_proc,aen,h,da,nV,iy,scalar,El]
def gD (H:List Int)(cs:List av)(ad aJ:List bd):Bool:=!(decide ((o H:Int)>60)||(decide ((o cs:Int)>2000)||(!((o ad:Int)==(o H:Int)) || !((o aJ:Int)==(o cs:Int)))))&&(H.all e1&&(cs.all (fN (o H))&&(ad.all jF&&aJ.all jF)))
abbrev Vj:(List Int)×(List av)×(List bd)×(List bd)×(List (List Int))->List Data:=λ(H,cs,ad,aJ,fl)=>[.agg (ed H cs ad aJ fl)]
def MG:=bU Vj λ(H,cs,ad,aJ,fl)=>cq (o H<=1000000/\o cs<=1000000/\ej ad/\ej aJ) (.same (.bool (gD H cs ad aJ)))
theorem asd:∀a b,Vj a=Vj b->a=b:=by
  rintro⟨sM,rr,kS,Mv,xd⟩ ⟨sN,mQ,lV,Mw,xe⟩ h;simp only[bn,Data.agg.injEq,and_true] at h;obtain⟨rfl,rfl,rfl,rfl,rfl⟩:=xc h;rfl
@[go_sem] theorem aeo (H:List Int)(cs:List av)(ad:List bd)(aJ:List bd)(fl:List (List Int))(E:(o H)<=1000000/\o cs<=1000000/\ej ad/\ej aJ):MG [.agg (ed H cs ad aJ fl)]=some (.same (.bool (gD H cs ad aJ))):=(b3 asd (H,cs,ad,aJ,fl)).trans (cw E _)
theorem ase (T:br)(y3:T OL=aK Ve)(y4:T OM=aK Vg)(y5:T JW=aK Vi)(H:List Int)(cs:List av)(ad:List bd)(aJ:List bd)(fl:List (List Int))(E:(o H)<=1000000/\o cs<=1000000/\ej ad/\ej aJ):WP T Q6 (.same (.bool (gD H cs ad aJ))) [.J (.agg (ed H cs ad aJ fl))]:=by
 refine b4 ?_;simp only[Q6];obtain⟨D,G,ag,aR⟩:=E;have c6:=ar6 H D;have dv:=ar9 cs (o H) ⟨G,by omega,by omega⟩
 have a3:=aem ad ag;have a4:=aem aJ aR;unfold gD;generalize ad.all jF=A3 at *;generalize aJ.all jF=A4 at *;generalize H.all e1=Hx at *;generalize cs.all (fN (o H))=DK at *;rcases bm:decide ((o H:Int)>60)
 case true =>
        refine aQ ?_;repeat' (intro h<;>simp only[h,go_sem,go_sem_proc,y3,y4,y5,ed,bm,af,nr,bX,dm]<;>try refine al ?_ ?_)
 rcases bN:decide ((o cs:Int)>2000)
 case true =>
        refine aQ ?_;repeat' (intro h<;>simp only[h,go_sem,go_sem_proc,y3,y4,y5,ed,bm,bN,af,nr,lr,bX,dm]<;>try refine al ?_ ?_)
 rcases bO:((o ad:Int)==(o H:Int))
 case false =>
        refine aQ ?_;repeat' (intro h<;>simp only[h,go_sem,go_sem_proc,y3,y4,y5,ed,bm,bN,bO,af,bne,nr,lr,bX,cv,dm]<;>try refine al ?_ ?_)
 rcases cp:((o aJ:Int)==(o cs:Int))
 case false =>
        refine aQ ?_;repeat' (intro h<;>simp only[h,go_sem,go_sem_proc,y3,y4,y5,ed,bm,bN,bO,cp,af,bne,nr,Bool.or_true,lr,bX,cv,dm]<;>try refine al ?_ ?_)
 cases Hx
 ·refine aQ ?_;repeat' (intro h<;>simp only[h,go_sem,go_sem_proc,y3,y4,y5,ed,bm,bN,bO,cp,c6,af,bne,da,nV,iy,scalar,lY,bX,cv,dm,gQ]<;>try refine al ?_ ?_)
 cases DK
 ·refine aQ ?_;repeat' (intro h<;>simp only[h,go_sem,go_sem_proc,y3,y4,y5,ed,bm,bN,bO,cp,c6,dv,af,bne,da,nV,iy,scalar,lY,bX,cv,eF,dm,gQ]<;>try refine al ?_ ?_)
 cases A3
 ·refine aQ ?_;repeat' (intro h<;>simp only[h,go_sem,go_sem_proc,y3,y4,y5,ed,bm,bN,bO,cp,c6,dv,a3,af,bne,da,nV,iy,scalar,lY,bX,cv,eF,dm,gQ]<;>try refine al ?_ ?_)
 ·refine aQ ?_;repeat' (intro h<;>simp only[h,go_sem,go_sem_proc,y3,y4,y5,ed,bm,bN,bO,cp,c6,dv,a3,a4,af,bne,da,nV,iy,scalar,lY,bX,cv,eF,dm,gQ]<;>try refine al ?_ ?_)
def ui (i:Int)(acc:Option Rat)(Vk:av×Rat):Option Rat:=if Vk.1.2.1=i then acc.bind λs=>if mx s Vk.2=true then some (s+Vk.2) else none else acc
def qw (z:Int)(i:Int)(l:List (av×Rat)):Option Rat:=l.foldl (ui i) (some (z:Rat))
theorem aep {z i:Int}{l:List (av×Rat)}{k:Nat}{c:av×Rat}(h:l[k]?=some c):qw z i (l.take (k+1))=ui i (qw z i (l.take k)) c:=by
 unfold qw;rw[fQ,h,UE];rfl
theorem asf (i:Int)(l:List (av×Rat)):l.foldl (ui i) none=none:=by
 induction l with
 |nil=>rfl
 |cons c l aA =>
  have:ui i none c=none:=by unfold ui;split<;>rfl
  rw[List.foldl_cons,this,aA]
theorem aeq {z i:Int}{l:List (av×Rat)}{k:Nat}(h:qw z i (l.take k)=none):qw z i l=none:=by
 have:l=l.take k++l.drop k:=(List.take_append_drop k l).symm;rw[this];unfold qw at *;rw[UE,h,asf]
theorem aer {z i:Int}(a8:c8 z)(l:List (av×Rat)):∀x,qw z i l=some x->dD x:=by
 unfold qw
 have:∀(l:List (av×Rat)) (a:Option Rat),(∀x,a=some x->dD x)->∀x,l.foldl (ui i) a=some x->dD x:=by
  intro l
  induction l with
  |nil=>intro a h;exact h
  |cons c l aA =>
   intro a h;refine aA _ λx I=>?_;unfold ui at I
   split at I
   ·cases a with
    |none=>cases I
    |some s =>
     rw[hE] at I
     split at I
     ·rename_i R;rw[<-ln I];exact adQ R
     ·cases I
   ·exact h x I
 exact this l _ λx I=>by rw[<-ln I];exact rn a8
def hZ (H:List Int)(cs:List av)(aF ps:List Rat)(i:Nat):Int:=match qw (H.getD i 0) i (cs.zip ps) with
 |none=>6
 |some x=>if x=aF.getD i 0/\ep cs ps i=(cT cs i).map (λc=>fx (cT cs i) x c) then 0 else 24
structure IA (H:List Int) (cs:List av) (aF ps:List Rat) (i:Nat):Prop where
 rC:iB H cs ps
 Q:i<o H
 ax:(o aF)=o H
 nO:∀x∈aF,dD x
 aAv:c8 (H.getD i 0)
 split:∀x,qw (H.getD i 0) i (cs.zip ps)=some x->x=aF.getD i 0->xa (cT cs i) x
theorem ia.Mq {l:List av}(h:ia l){x:Rat}(I:eB 460 x){c:av}(E:c∈l):dD (fx l x c):=Mini.Mq (λc E=>by have:=h.c c E;omega) h.len I E
abbrev Vl:(List Int)×(List av)×(List Rat)×(List Rat)×(List (List Int))×Nat->List Data:=λ(H,cs,aF,ps,fl,i)=>[.agg (ed H cs (aF.map ai) (ps.map ai) fl),.int .i64 (i:Int)]
def Vm:=bU Vl λ(H,cs,aF,ps,fl,i)=>cq (IA H cs aF ps i) (.same (.int .i64 (hZ H cs aF ps i)))
theorem asg:∀a b,Vl a=Vl b->a=b:=by
  rintro⟨sM,rr,pe,D5,xd,i1⟩ ⟨sN,mQ,Av,D6,xe,i2⟩ h;simp only[bn,Data.agg.injEq,Data.int.injEq,and_true,true_and] at h;obtain⟨h,qp⟩:=h;obtain⟨rfl,rfl,cR,lp,rfl⟩:=xc h;rw[map_inj (λ_ _ a6=>p6 a6) _ _ lp,map_inj (λ_ _ a6=>p6 a6) _ _ cR,Int.ofNat.inj qp]
@[go_sem] theorem ash (H:List Int)(cs:List av)(aF:List Rat)(ps:List Rat)(fl:List (List Int))(i:Nat)(E:IA H cs aF ps i):Vm [.agg (ed H cs (aF.map ai) (ps.map ai) fl),.int .i64 (i:Int)]=some (.same (.int .i64 (hZ H cs aF ps i))):=(b3 asg (H,cs,aF,ps,fl,i)).trans (cw E _)
theorem asi (T:br)(lL:T zW=aK C5)(mw:T FV=aK GX)(gC:T r7=aK yq)(nR:T Gd=aK Mu)(pC:T OD=aK UC)(pD:T ON=aK UL)(H:List Int)(cs:List av)(aF:List Rat)(ps:List Rat)(fl:List (List Int))(i:Nat)(E:IA H cs aF ps i):WP T Q7 (.same (.int .i64 (hZ H cs aF ps i))) [.J (.agg (ed H cs (aF.map ai) (ps.map ai) fl)),.J (.int .i64 (i:Int))]:=by
 refine b4 ?_;simp only[Q7];obtain⟨g4,Q,ax,nO,Br,gU⟩:=E;have hlen:=g4.len;have Em:=g4.l;obtain⟨z,a8⟩:∃z,H[i]?=some z:=⟨_,bL Q⟩;have ya:H.getD i 0=z:=by rw[fP,a8];rfl
 rw[ya] at Br gU;unfold hZ;rw[ya];have au:=ar4 Br;have qH:=aer (i:=(i:Int)) Br;have Vn:∀k c p,cs[k]?=some c->ps[k]?=some p->(cs.zip ps)[k]?=some (c,p):=λk c p D G=>List.getElem?_zip_eq_some.2 ⟨D,G⟩;have asj:(cs.zip ps).length=o cs:=by rw[List.length_zip];omega
 have qx:=aea H cs (aF.map ai) (ps.map ai) fl i ⟨by rw[af];exact hlen,Em⟩
 rw[H6] at qx;simp only[ed] at qx;have asl:∃x,aF[i]?=some x:=⟨_,bL (by omega)⟩;obtain⟨I,Bs⟩:=asl;have Vo:aF.getD i 0=I:=by rw[fP,Bs];rfl
 have Vp:=nO I (eN Bs);have cb:(aF.map ai)[i]?=some (ai I):=by rw[bb,Bs];rfl
 have Vq:∀k,(ps.map ai)[k]?=(ps[k]?).map ai:=λk=>bb;have hy:i<(aF.map ai).length:=by rw[af];omega
 have asm:(ps.map ai).length=o cs:=by rw[af];exact hlen
 rw[Vo] at gU ⊢;generalize asn:aF.map ai=MH at *;generalize Vr:ps.map ai=vy at *;have Vs:∃e,e=ai ((z:Int):Rat):=⟨_,rfl⟩;obtain⟨e,he⟩:=Vs;rw[<-he] at au;obtain⟨⟨mZ,pj⟩,⟨z3,z4⟩⟩:=e;simp only[aH] at au;simp only[go_sem,go_sem_proc,lL,mw,gC,nR,pC,pD,ed,a8,Q,au,Y,jN,mj,ku,af,bb]
 refine dw [1,2,5,25,26] [288002] (λ((k,x,f):Nat×Rat×bd) tm m=>k<=o cs/\tm 27=.J (.int .i64 k)/\qw z i ((cs.zip ps).take k)=some x/\f=ai x/\m 288005=some (0,(aH f).map .J)) (λ(k,_,_)=>o cs-k) (0,((z:Int):Rat),((mZ,pj),(z3,z4))) (by
  refine⟨by omega,rfl,rfl,he,rfl⟩) ?_
 intro vs ms a7 aY;simp only[go_sem,go_sem_proc,lL,mw,gC,nR,pC,pD,ed,af] at a7 aY;subst a7 aY;rintro⟨k,x,⟨⟨aV,bG⟩,⟨cm,dj⟩⟩⟩ tm m R hm ⟨oY,sQ,jX,mR,ic⟩;simp only[go_sem,go_sem_proc,lL,mw,gC,nR,pC,pD,bn] at R hm;obtain⟨aw,aB,b6,sR,sS⟩:=R;have pR:=qH ((cs.zip ps).take k) x jX;simp only[aH,e8,cM] at ic;rcases dG (k<o cs) with az|aso
 ·have d1:decide ((k:Int)<(o cs:Int))=true:=dn;have cn:=eY (i:=k) (by omega);obtain⟨⟨bm,bN,bO,cp⟩,E⟩:∃c,cs[k]?=some c:=⟨_,bL az⟩;obtain⟨p,aG⟩:∃p,ps[k]?=some p:=⟨_,bL (by omega)⟩;have rU:=g4.lim p (eN aG);have c1:=aep (z:=z) (i:=(i:Int)) (Vn k _ p E aG);rw[jX] at c1;have mE:vy[k]?=some (ai p):=by rw[Vq,aG];rfl
  have vz:k<o vy:=by omega
  have eT:=aqT pR rU;rw[<-mR] at eT;obtain⟨e,Vt⟩:∃e,e=ai p:=⟨_,rfl⟩;rw[<-Vt] at eT mE;obtain⟨⟨hC,jb⟩,⟨rk,ug⟩⟩:=e;simp only[aH] at eT;rcases c7:(bN==(i:Int))
  ·have bZ:¬ bN=(i:Int):=ne_of_beq_false c7;unfold ui at c1;rw[aq bZ] at c1;simp only[go_sem,go_sem_proc,lL,mw,gC,nR,pC,pD,aw,aB,b6,sR,sS,sQ,hm,ic,E,d1,cn,c7,bR,af,bb,bne,cv];repeat' (first|refine al ?_ ?_|fail)<;>intro h<;>simp only[h,go_sem,go_sem_proc,lL,mw,gC,nR,pC,pD,aw,aB,b6,sR,sS,sQ,hm,ic,E,d1,cn,c7,bR,af,bb,bne,cv]
   exact⟨(k+1,x,((aV,bG),(cm,dj))),by dsimp only;omega,by dsimp only;omega,rfl,c1,mR,rfl⟩
  ·have heq:bN=(i:Int):=eq_of_beq c7;unfold ui at c1;rw[aj heq,hE] at c1;rcases gi:mx x p
   ·rw[gi] at eT c1;rw[aq (by decide)] at c1;have fB:=aeq c1;rw[fB];have Bt:ss false (x+p)=(ei,6):=rfl;simp only[Bt,ei] at eT;have b1:((6:Int)==0)=false:=rfl;simp only[go_sem,go_sem_proc,lL,mw,gC,nR,pC,pD,aw,aB,b6,sR,sS,sQ,hm,ic,E,mE,vz,eT,b1,d1,cn,c7,bR,aH,af,bb,bne,bX,cv];repeat' (first|refine al ?_ ?_|fail)<;>intro h<;>simp only[h,go_sem,go_sem_proc,lL,mw,gC,nR,pC,pD,aw,aB,b6,sR,sS,sQ,hm,ic,E,mE,vz,eT,b1,d1,cn,c7,bR,aH,af,bb,bne,bX,cv]
   ·rw[gi] at eT c1;rw[aj rfl] at c1;have Bt:ss true (x+p)=(ai (x+p),0):=rfl;simp only[Bt] at eT;obtain⟨e,lF⟩:∃e,e=ai (x+p):=⟨_,rfl⟩;rw[<-lF] at eT;obtain⟨⟨s1,s2⟩,⟨bD,bE⟩⟩:=e;simp only at eT;simp only[go_sem,go_sem_proc,lL,mw,gC,nR,pC,pD,aw,aB,b6,sR,sS,sQ,hm,ic,E,mE,vz,eT,d1,cn,c7,bR,aH,af,bb,bne,beq_self_eq_true,bX];repeat' (first|refine al ?_ ?_|fail)<;>intro h<;>simp only[h,go_sem,go_sem_proc,lL,mw,gC,nR,pC,pD,aw,aB,b6,sR,sS,sQ,hm,ic,E,mE,vz,eT,d1,cn,c7,bR,aH,af,bb,bne,beq_self_eq_true,bX]
    exact⟨(k+1,x+p,((s1,s2),(bD,bE))),by dsimp only;omega,by dsimp only;omega,rfl,c1,lF,rfl⟩
 ·have d1:decide ((k:Int)<(o cs:Int))=false:=cY;rw[du (by omega)] at jX;rw[jX];have fi:=LQ pR Vp;rw[<-mR] at fi;obtain⟨e,Vu⟩:∃e,e=ai I:=⟨_,rfl⟩;rw[<-Vu] at fi cb;obtain⟨⟨D,G⟩,⟨ag,aR⟩⟩:=e;simp only[aH] at fi;dsimp only;rcases c2:(km x I==0)
  ·have bZ:¬ x=I:=λh=>by rw[aal.2 h] at c2;cases c2
   rw[aq (λh=>bZ h.1)];simp only[go_sem,go_sem_proc,lL,mw,gC,nR,pC,pD,aw,aB,b6,sR,sS,sQ,hm,ic,cb,hy,fi,d1,c2,aH,af,bb,bne,cv];repeat' (first|refine al ?_ ?_|fail)<;>intro h<;>simp only[h,go_sem,go_sem_proc,lL,mw,gC,nR,pC,pD,aw,aB,b6,sR,sS,sQ,hm,ic,cb,hy,fi,d1,c2,aH,af,bb,bne,cv]
  ·have heq:x=I:=aal.1 (eq_of_beq c2);have uj:=gU x jX heq;have nf:=aqL x (cT cs i) uj;rw[<-mR] at nf;have kV:(cT cs (i:Int)).map (λc=>ai (fx (cT cs i) x c))=((cT cs (i:Int)).map λc=>fx (cT cs i) x c).map ai:=by rw[lX];rfl
   rw[kV] at nf;have zw:=uj.own.len;have hG:∀y∈ep cs ps (i:Int),dD y:=λy ak=>g4.lim y (H7 ak)
   have je:∀y∈(cT cs (i:Int)).map (λc=>fx (cT cs i) x c),dD y:=λy ak=>by
    obtain⟨c,E,rfl⟩:=fZ.1 ak;exact uj.own.Mq uj.sz E
   have eu:=L6 cs ps (i:Int) hlen;have jZ:=aq7 ((ep cs ps (i:Int)).map ai) (((cT cs (i:Int)).map λc=>fx (cT cs i) x c).map ai) ⟨⟨by rw[af];omega,λf aN=>by obtain⟨y,ak,rfl⟩:=fZ.1 aN;exact gW (hG y ak)⟩,⟨by rw[af,af];omega,λf aN=>by obtain⟨y,ak,rfl⟩:=fZ.1 aN;exact gW (je y ak)⟩⟩
   have IB:=adV _ _ hG je;generalize (ep cs ps (i:Int)).map ai=Vv at *;generalize (((cT cs (i:Int)).map λc=>fx (cT cs i) x c).map ai)=Vw at *;simp only[aH] at nf;rcases iU:iW Vv Vw
   ·rw[iU] at jZ;rw[aq (λh=>by rw[IB.2 h.2] at iU;cases iU)];simp only[go_sem,go_sem_proc,lL,mw,gC,nR,pC,pD,aw,aB,b6,sR,sS,sQ,hm,ic,cb,hy,fi,qx,nf,jZ,d1,c2,aH,af,bb,bne,beq_self_eq_true,bX,cv];repeat' (first|refine al ?_ ?_|fail)<;>intro h<;>simp only[h,go_sem,go_sem_proc,lL,mw,gC,nR,pC,pD,aw,aB,b6,sR,sS,sQ,hm,ic,cb,hy,fi,qx,nf,jZ,d1,c2,aH,af,bb,bne,beq_self_eq_true,bX,cv]
   ·rw[iU] at jZ;rw[aj ⟨heq,IB.1 iU⟩];simp only[go_sem,go_sem_proc,lL,mw,gC,nR,pC,pD,aw,aB,b6,sR,sS,sQ,hm,ic,cb,hy,fi,qx,nf,jZ,d1,c2,aH,af,bb,bne,beq_self_eq_true,bX,cv];repeat' (first|refine al ?_ ?_|fail)<;>intro h<;>simp only[h,go_sem,go_sem_proc,lL,mw,gC,nR,pC,pD,aw,aB,b6,sR,sS,sQ,hm,ic,cb,hy,fi,qx,nf,jZ,d1,c2,aH,af,bb,bne,beq_self_eq_true,bX,cv]
theorem aes:∀{a b:List Int},a.Pairwise (·<·)->b.Pairwise (·<·)->(∀x,x∈a↔x∈b)->a=b
 | [],[],_,_,_=>rfl
 | [],y::b,_,_,h=>by have:=(h y).2 (by simp);cases this
 |x::a,[],_,_,h=>by have:=(h x).1 (by simp);cases this
 |x::a,y::b,aM,ah,h=>by
  have Vx:=Bn.1 aM;have g6:=Bn.1 ah
  have gw:x=y:=by
   have D:=(h x).1 (by simp);have G:=(h y).2 (by simp);rcases hF.1 D with D|D
   ·exact D
   ·rcases hF.1 G with G|G
    ·exact G.symm
    ·have:=Vx.1 y G;have:=g6.1 x D;omega
  subst gw;rw[aes Vx.2 g6.2 λz=>?_]
  constructor
  ·intro a8;have:=(h z).1 (ha _ a8);rcases hF.1 this with D|D
   ·have:=Vx.1 z a8;omega
   ·exact D
  ·intro a8;have:=(h z).2 (ha _ a8);rcases hF.1 this with D|D
   ·have:=g6.1 z a8;omega
   ·exact D
theorem asp (cs:List av)(ps:List Rat)(n:Nat):(eH cs ps n).Pairwise (·<·)/\∀x,x∈eH cs ps n->∃i:Nat,x=(i:Int)/\i<n:=by
 induction n with
 |zero=>exact⟨List.Pairwise.nil,λx h=>by cases h⟩
 |succ n aA =>
  obtain⟨D,G⟩:=aA;rw[Mz]
  by_cases aF:kM cs ps (n:Int)<10
  ·rw[aj aF];refine⟨UW.2 ⟨D,List.pairwise_singleton _ _,λa aM b ah=>?_⟩,λx I=>?_⟩
   ·obtain⟨i,rfl,Q⟩:=G a aM;rw[tx.1 ah];omega
   ·rcases List.mem_append.1 I with I|I
    ·obtain⟨i,e,Q⟩:=G x I;exact⟨i,e,by omega⟩
    ·exact⟨n,tx.1 I,by omega⟩
  ·rw[aq aF,gk];exact⟨D,λx I=>by obtain⟨i,e,Q⟩:=G x I;exact⟨i,e,by omega⟩⟩

end Go.Mini
namespace Go.Mini
open Classical
end Go.Mini
namespace Go.Mini
open Go
def jG (f:Nat->Int):Nat->Int
 |0=>0
 |k+1=>if jG f k=0 then f k else jG f k
theorem Vy {f:Nat->Int}{k:Nat}(h:jG f k=0)(R:f k≠0):∀{n:Nat},k<n->jG f n=f k
 |0,h=>by omega
 |n+1,aL=>by
  by_cases e:k=n
  ·subst e;rw[jG,aj h]
  ·have:=Vy h R (n:=n) (by omega);rw[jG,this,aq R]
theorem asq {l:List av}{q:Nat->Rat}{k i:Nat}{c:av}(Q:i<k)(E:l[i]?=some c)(aF:q i<(c.2.2.2:Rat)):ho l q k<=c.2.2.1:=by
 induction k with
 |zero=>omega
 |succ k aA =>
  have e:ho l q (k+1)=match l[k]? with|some c=>if q k<(c.2.2.2:Rat) then min (ho l q k) c.2.2.1 else ho l q k|none=>ho l q k:=rfl
  rw[e]
  by_cases he:i=k
  ·subst he;rw[E];dsimp only;rw[aj aF];exact Int.min_le_right ..
  ·have aA:=aA (by omega)
   split
   ·split
    ·exact Int.le_trans (Int.min_le_left ..) aA
    ·exact aA
   ·exact aA
theorem aet {l:List av}{q:Nat->Rat}{k:Nat}(h:ho l q k<10):∃i,i<k/\∃c,l[i]?=some c/\q i<(c.2.2.2:Rat)/\ho l q k=c.2.2.1:=by
 induction k with
 |zero=>exact absurd h (show ¬ (10:Int)<10 by decide)
 |succ k aA =>
  have e:ho l q (k+1)=match l[k]? with|some c=>if q k<(c.2.2.2:Rat) then min (ho l q k) c.2.2.1 else ho l q k|none=>ho l q k:=rfl
  rw[e] at h ⊢
  cases R:l[k]? with
  |none =>
   rw[R] at h;obtain⟨i,D,G⟩:=aA h;exact⟨i,by omega,G⟩
  |some c =>
   rw[R] at h;dsimp only at h ⊢
   by_cases aF:q k<(c.2.2.2:Rat)
   ·rw[aj aF] at h ⊢
    by_cases hm:ho l q k<c.2.2.1
    ·have aB:min (ho l q k) c.2.2.1=ho l q k:=Int.min_eq_left (by omega);rw[aB] at h ⊢;obtain⟨i,D,G⟩:=aA h;exact⟨i,by omega,G⟩
    ·exact⟨k,by omega,c,R,aF,Int.min_eq_right (by omega)⟩
   ·rw[aq aF] at h ⊢;obtain⟨i,D,G⟩:=aA h;exact⟨i,by omega,G⟩
theorem asr {cs:List av}{ps:List Rat}{set L:List Int}{x:Int}:x∈stay cs ps set L↔x∈L/\jE cs ps set x=false:=by
 unfold stay;rw[Ht,Bool.not_eq_true']
theorem aeu {cs:List av}{ps:List Rat}{s:List Int}{x:Int}:∀k,x∈eC cs ps s k->x∈s
 |0,h=>h
 |k+1,h=>aeu k (asr.1 h).1
theorem aev (cs:List av)(ps:List Rat)(s:List Int):∀k,stay cs ps (eC cs ps s k) (eC cs ps s k)=eC cs ps s k\/(eC cs ps s k).length+k<=o s
 |0 => .inr (cA _)
 |k+1=>by
  have e:eC cs ps s (k+1)=stay cs ps (eC cs ps s k) (eC cs ps s k):=rfl;rcases dG (stay cs ps (eC cs ps s k) (eC cs ps s k)=eC cs ps s k) with h|h
  ·left;rw[e,h];exact h
  ·rcases aev cs ps s k with D|D
   ·exact absurd D h
   ·right
    have G:=Vb cs ps (eC cs ps s k) (eC cs ps s k);have ag:(stay cs ps (eC cs ps s k) (eC cs ps s k)).length≠(eC cs ps s k).length:=λag=>h (List.Sublist.eq_of_length List.filter_sublist ag);rw[e];omega
section
variable {H:List Int} {cs:List av} (aa:fV H cs)
include aa
omit aa in
theorem ass {aF ps:List Rat}(U:hL H cs=true)(fK:(o aF)=o H)(ab:(o ps)=o cs)(hC:∀x∈aF,0<=x/\dD x)(jb:∀x∈ps,0<=x/\dD x):gD H cs (aF.map ai) (ps.map ai)=true:=by
 obtain⟨D,G,ag,aR⟩:=m3.1 U;unfold hL at U;simp only[eX] at U;obtain⟨⟨-,adi⟩,adj⟩:=U
 have IC:∀l:List Rat,(∀x∈l,0<=x/\dD x)->(l.map ai).all jF=true:=λl ax=>by
  rw[h2];intro f aN;obtain⟨x,I,rfl⟩:=fZ.1 aN;obtain⟨dp,dN⟩:=ax x I;unfold jF;rw[A9 dN,eF];have:decide (x<0)=false:=gr (by grind);rw[<-HY] at this;have jR:=of_decide_eq_false this;exact hc (show x.num.sign>=0 by omega)
 unfold gD;have a3:H.all e1=true:=adi;have c5:decide ((o H:Int)>60)=false:=cY;have eg:decide ((o cs:Int)>2000)=false:=cY;rw[af,af,fK,ab,a3,adj,IC aF hC,IC ps jb,c5,eg];simp
end

theorem ast {x y:Rat}(I:dD x)(ak:dD y):Hi [.agg (aH (ai x)),.agg (aH (ai y))]=some (.same (.bool (decide (x=y)))):=by
 have D:=gW I;have G:=gW ak;have h:=aml (ai x).1.1 (ai x).1.2 (ai x).2.1 (ai x).2.2 (ai y).1.1 (ai y).1.2 (ai y).2.1 (ai y).2.2 ⟨D.1,D.2,G.1,G.2⟩
 have e:AW (((ai x).1.1,(ai x).1.2),((ai x).2.1,(ai x).2.2)) (((ai y).1.1,(ai y).1.2),((ai y).2.1,(ai y).2.2))=decide (x=y):=by
  show decide (ai x=ai y)=_
  by_cases gw:x=y
  ·rw[hc gw,gw];exact hc rfl
  ·rw[gr gw];exact gr λh=>gw (p6 h)
 rw[e] at h;exact h





theorem Vz {n:Int}(h:c8 n):Dp [.int .i64 n,.int .i64 1]=some (.same (.cQ [.agg (aH (ai (n:Rat))),.int .i64 0])):=by
 have:=ami n 1 ⟨h,TC⟩;rw[HG h] at this;exact this
def VA:bP:=b5 86 2 [.t 4] (M [cj 4 false] (.seq (M [F 8 0,cx 9 8,bo 10 .gtr 9 60,F 11 10,⟨some 12,some (11,false),.ck (.t 1)⟩,⟨some 13,some (11,false),.len (.t 12)⟩,⟨some 14,some (11,false),.bin .gtr (.t 13) (.c (ao 2000))⟩,cX 15 11 14] (aX 15 (M [cj 4 false] .ret) .skip)) (.seq (M [bq 5 0] (.block 0 (.loop  (.seq (M [F 16 5,F 17 0,cx 18 17,bJ 19 .lss 16 18] (aX 19 .skip (.exit 0))) (.seq (.block 1 (M [F 22 0,F 23 5,cC 24 1 22 23,a2 25 1 24,bo 26 .lss 25 0,F 27 26,⟨some 28,some (27,false),.ck (.t 0)⟩,⟨some 29,some (27,false),.ck (.t 5)⟩,⟨some 30,some (27,false),.jO 1 (.t 28) (.t 29)⟩,⟨some 31,some (27,false),.load 1 false (.t 30)⟩,⟨some 32,some (27,false),.bin .gtr (.t 31) (.c (ao 1000000000000000))⟩,cX 33 27 32] (aX 33 (M [cj 4 false] .ret) .skip))) (.ops [F 20 5,bo 21 .add 20 1,F 5 21])))))) (.seq (M [bq 6 0] (.block 2 (.loop  (.seq (M [F 34 6,F 35 1,cx 36 35,bJ 37 .lss 34 36] (aX 37 .skip (.exit 2))) (.seq (.block 3 (M [F 40 1,F 41 6,cC 42 4 40 41,ba 43 4 42,(aE 7 (.alloc 358007 [(ao 0),(ao 0),(ao 0),(ao 0)])),bu 4 7 43] (M [bg 44 0 7,a2 45 1 44,bo 46 .lss 45 0,F 47 46,⟨some 48,some (47,false),.c3 0 (.t 7)⟩,⟨some 49,some (47,false),.load 1 false (.t 48)⟩,⟨some 50,some (47,false),.ck (.t 0)⟩,⟨some 51,some (47,false),.len (.t 50)⟩,⟨some 52,some (47,false),.bin .geq (.t 49) (.t 51)⟩,cX 53 47 52,F 54 53,⟨some 55,some (54,false),.c3 1 (.t 7)⟩,⟨some 56,some (54,false),.load 1 false (.t 55)⟩,⟨some 57,some (54,false),.bin .lss (.t 56) (.c (.J (.int .i64 (-1))))⟩,cX 58 54 57,F 59 58,⟨some 60,some (59,false),.c3 1 (.t 7)⟩,⟨some 61,some (59,false),.load 1 false (.t 60)⟩,⟨some 62,some (59,false),.ck (.t 0)⟩,⟨some 63,some (59,false),.len (.t 62)⟩,⟨some 64,some (59,false),.bin .geq (.t 61) (.t 63)⟩,cX 65 59 64,F 66 65,⟨some 67,some (66,false),.c3 2 (.t 7)⟩,⟨some 68,some (66,false),.load 1 false (.t 67)⟩,⟨some 69,some (66,false),.bin .lss (.t 68) (.c (ao 0))⟩,cX 70 66 69,F 71 70,⟨some 72,some (71,false),.c3 2 (.t 7)⟩,⟨some 73,some (71,false),.load 1 false (.t 72)⟩,⟨some 74,some (71,false),.bin .gtr (.t 73) (.c (ao 9))⟩,cX 75 71 74,F 76 75,⟨some 77,some (76,false),.c3 3 (.t 7)⟩,⟨some 78,some (76,false),.load 1 false (.t 77)⟩,⟨some 79,some (76,false),.bin .lss (.t 78) (.c (ao 0))⟩,cX 80 76 79,F 81 80,⟨some 82,some (81,false),.c3 3 (.t 7)⟩,⟨some 83,some (81,false),.load 1 false (.t 82)⟩,⟨some 84,some (81,false),.bin .gtr (.t 83) (.c (ao 1000000000000000))⟩,cX 85 81 84] (aX 85 (M [cj 4 false] .ret) .skip)))) (.ops [F 38 6,bo 39 .add 38 1,F 6 39])))))) (M [cj 4 true] .ret)))))
def VB:bP:=b5 78 3 [.t 6] (M [cN 5 369005 2,cj 6 false] (.seq (M [F 10 0,cx 11 10,bo 12 .gtr 11 6,F 13 12,⟨some 14,some (13,false),.ck (.t 1)⟩,⟨some 15,some (13,false),.len (.t 14)⟩,⟨some 16,some (13,false),.bin .gtr (.t 15) (.c (ao 12))⟩,cX 17 13 16,F 18 17,⟨some 19,some (18,false),.c3 0 (.t 5)⟩,⟨some 20,some (18,false),.load 1 false (.t 19)⟩,⟨some 21,some (18,false),.len (.t 20)⟩,⟨some 22,some (18,false),.bin .gtr (.t 21) (.c (ao 8))⟩,cX 23 18 22,F 24 23,⟨some 25,some (24,false),.c3 1 (.t 5)⟩,⟨some 26,some (24,false),.load 1 false (.t 25)⟩,⟨some 27,some (24,false),.len (.t 26)⟩,⟨some 28,some (24,false),.bin .gtr (.t 27) (.c (ao 14))⟩,cX 29 24 28,F 30 29,⟨some 31,some (30,false),.c3 2 (.t 5)⟩,⟨some 32,some (30,false),.load 1 false (.t 31)⟩,⟨some 33,some (30,false),.len (.t 32)⟩,⟨some 34,some (30,false),.bin .gtr (.t 33) (.c (ao 12))⟩,cX 35 30 34] (aX 35 (M [cj 6 false] .ret) .skip)) (.seq (M [bq 7 0] (.block 0 (.loop  (.seq (M [F 36 7,bg 37 0 5,a2 38 1 37,cx 39 38,bJ 40 .lss 36 39] (aX 40 .skip (.exit 0))) (.seq (.block 1 (M [bg 43 0 5,a2 44 1 43,F 45 7,cC 46 4 44 45,ba 47 4 46,(aE 48 (.call JN [(.t 47),(.c (ao 8))])),dY 49 48] (aX 49 (M [cj 6 false] .ret) .skip))) (.ops [F 41 7,bo 42 .add 41 1,F 7 42])))))) (.seq (M [bq 8 0] (.block 2 (.loop  (.seq (M [F 50 8,bg 51 1 5,a2 52 1 51,cx 53 52,bJ 54 .lss 50 53] (aX 54 .skip (.exit 2))) (.seq (.block 3 (M [bg 57 1 5,a2 58 1 57,F 59 8,cC 60 4 58 59,ba 61 4 60,(aE 62 (.call JN [(.t 61),(.c (ao 8))])),dY 63 62] (aX 63 (M [cj 6 false] .ret) .skip))) (.ops [F 55 8,bo 56 .add 55 1,F 8 56])))))) (.seq (M [bq 9 0] (.block 4 (.loop  (.seq (M [F 64 9,bg 65 2 5,a2 66 1 65,cx 67 66,bJ 68 .lss 64 67] (aX 68 .skip (.exit 4))) (.seq (.block 5 (M [bg 71 2 5,a2 72 1 71,F 73 9,cC 74 1 72 73,a2 75 1 74,cx 76 75,bo 77 .gtr 76 12] (aX 77 (M [cj 6 false] .ret) .skip))) (.ops [F 69 9,bo 70 .add 69 1,F 9 70])))))) (M [cj 6 true] .ret))))))
def VC:bP:=b5 103 3 [.t 6] (M [cN 5 370005 2,bq 6 0] (.seq (M [F 17 0,F 18 1,ba 19 3 5,(ns 20 Gh 17 18 19),dY 21 20] (aX 21 (M [bq 6 1] .ret) .skip)) (.seq (M [bq 7 0] (.block 0 (.loop  (.seq (M [F 22 7,F 23 0,cx 24 23,bJ 25 .lss 22 24] (aX 25 .skip (.exit 0))) (.seq (.block 1 (M [F 29 0,F 30 7,cC 31 1 29 30,a2 32 1 31,(aE 33 (.call xT [(.t 32),(.c (ao 1))])),F 28 33,bx 34 0 28,bx 35 1 28,(aE 8 (.alloc 370008 [(ao 0),.nil,(ao 0),.nil])),bu 4 8 34,F 9 35] (.seq (M [bq 10 0] (.block 2 (.loop  (.seq (M [F 36 10,F 37 1,cx 38 37,bJ 39 .lss 36 38] (aX 39 .skip (.exit 2))) (.seq (.block 3 (.seq (M [F 42 1,F 43 10,cC 44 4 42 43,bg 45 1 44,a2 46 1 45,F 47 7,bJ 48 .neq 46 47] (aX 48 (.exit 3) .skip)) (eS [ba 50 4 8,bg 51 1 5,a2 52 1 51,F 53 10,cC 54 4 52 53,ba 55 4 54,(b0 56 Ov 50 55),F 49 56,bx 57 0 49,bx 58 1 49,(aE 11 (.alloc 370011 [(ao 0),.nil,(ao 0),.nil])),bu 4 11 57,F 12 58] [[],[],[],[],[],[],[],[],[],[],[0,2,5],[],[]] (.seq (M [F 59 12,bo 60 .neq 59 0] (aX 60 (M [F 61 12,F 6 61] .ret) .skip)) (.ops [ba 62 4 11,bu 4 8 62]))))) (.ops [F 40 10,bo 41 .add 40 1,F 10 41])))))) (.seq (eS [ba 63 4 8,bg 64 0 5,a2 65 1 64,F 66 7,cC 67 4 65 66,ba 68 4 67,(b0 69 FW 63 68),dY 70 69] YT (aX 70 (M [bq 6 24] .ret) .skip)) (M [F 72 1,bg 73 1 5,a2 74 1 73,F 75 7,(ns 76 Gi 72 74 75),F 71 76,bx 77 0 71,bx 78 1 71,F 13 77,F 14 78] (M [ba 80 4 8,F 81 13,(b0 82 OG 80 81),F 79 82,bx 83 0 79,bx 84 1 79,F 15 83,F 16 84] (.seq (M [F 85 16,bo 86 .neq 85 0] (aX 86 (M [F 87 16,F 6 87] .ret) .skip)) (M [F 88 15,F 89 14,(b0 90 OZ 88 89),dY 91 90] (aX 91 (M [bq 6 24] .ret) .skip))))))))) (.ops [F 26 7,bo 27 .add 26 1,F 7 27])))))) (.seq (M [F 92 0,F 93 1,ba 94 3 5,(ns 95 O0 92 93 94),dY 96 95,F 97 96,⟨some 98,some (97,false),.ck (.t 0)⟩,⟨some 99,some (97,false),.ck (.t 1)⟩,⟨some 100,some (97,false),.load 3 true (.t 5)⟩,⟨some 101,some (97,false),.call O1 [(.t 98),(.t 99),(.t 100)]⟩,cX 102 97 101] (aX 102 (M [bq 6 24] .ret) .skip)) (M [bq 6 0] .ret)))))
def VD:bP:=b5 26 2 [.t 4] (M [cj 4 false] (.seq (M [F 6 0,cx 7 6,F 8 1,cx 9 8,bJ 10 .neq 7 9] (aX 10 (M [cj 4 false] .ret) .skip)) (.seq (M [bq 5 0] (.block 0 (.loop  (.seq (M [F 11 5,F 12 0,cx 13 12,bJ 14 .lss 11 13] (aX 14 .skip (.exit 0))) (.seq (.block 1 (eS [F 17 0,F 18 5,cC 19 1 17 18,a2 20 1 19,F 21 1,F 22 5,cC 23 1 21 22,a2 24 1 23,bJ 25 .neq 20 24] wk (aX 25 (M [cj 4 false] .ret) .skip))) (.ops [F 15 5,bo 16 .add 15 1,F 5 16])))))) (M [cj 4 true] .ret))))
def VE:bP:=b5 32 3 [.t 6] (M [cN 5 373005 2,fa 6] (M [fa 7] (.seq (M [F 9 0,F 10 1,ba 11 3 5,(ns 12 Gh 9 10 11),dY 13 12] (aX 13 (M [F 14 7,F 6 14] .ret) .skip)) (.seq (M [bq 8 0] (.block 0 (.ghost (.nT 7 373030 1) (.loop  (.seq (M [F 15 8,F 16 0,cx 17 16,bJ 18 .lss 15 17] (aX 18 .skip (.exit 0))) (.seq (.block 1 (M [F 21 1,bg 22 1 5,a2 23 1 22,F 24 8,(ns 25 Gj 21 23 24),bo 26 .geq 25 0] (aX 26 (.ops [F 27 7,F 28 8,(aE 29 (.fz 373029 false [(ao 0)] 1 1 [(0,1,(.t 28))])),(aE 30 (.app 373030 [(ao 0)] 8 (.t 27) (.t 29))),F 7 30]) .skip))) (.ops [F 19 8,bo 20 .add 19 1,F 8 20]))))))) (.seq (.ghost (.freeze 7) (.ops [F 31 7,F 6 31])) .ret)))))
def VF:bP:=b5 18 2 [.t 4] (M [cj 4 false] (.seq (M [bq 5 0] (.block 0 (.loop  (.seq (M [F 6 5,F 7 0,cx 8 7,bJ 9 .lss 6 8] (aX 9 .skip (.exit 0))) (.seq (.block 1 (M [F 12 0,F 13 5,cC 14 1 12 13,a2 15 1 14,F 16 1,bJ 17 .eql 15 16] (aX 17 (M [cj 4 true] .ret) .skip))) (.ops [F 10 5,bo 11 .add 10 1,F 5 11])))))) (M [cj 4 false] .ret)))
def VG:bP:=b5 36 3 [.t 6] (M [cN 5 379005 2,cj 6 false] (M [F 7 0,F 8 1,(b0 9 OV 7 8),F 10 9,⟨some 11,some (10,true),.c3 0 (.t 5)⟩,⟨some 12,some (10,true),.load 1 false (.t 11)⟩,⟨some 13,some (10,true),.len (.t 12)⟩,⟨some 14,some (10,true),.ck (.t 0)⟩,⟨some 15,some (10,true),.len (.t 14)⟩,⟨some 16,some (10,true),.bin .eql (.t 13) (.t 15)⟩,gI 17 10 16,F 18 17,⟨some 19,some (18,true),.c3 1 (.t 5)⟩,⟨some 20,some (18,true),.load 1 false (.t 19)⟩,⟨some 21,some (18,true),.len (.t 20)⟩,⟨some 22,some (18,true),.ck (.t 1)⟩,⟨some 23,some (18,true),.len (.t 22)⟩,⟨some 24,some (18,true),.bin .eql (.t 21) (.t 23)⟩,gI 25 18 24,F 26 25,⟨some 27,some (26,true),.c3 0 (.t 5)⟩,⟨some 28,some (26,true),.load 1 false (.t 27)⟩,⟨some 29,some (26,true),.call JX [(.t 28)]⟩,gI 30 26 29,F 31 30,⟨some 32,some (31,true),.c3 1 (.t 5)⟩,⟨some 33,some (31,true),.load 1 false (.t 32)⟩,⟨some 34,some (31,true),.call JX [(.t 33)]⟩,gI 35 31 34,F 6 35] .ret))
def VH:bP:=b5 40 3 [.t 6,.t 7] (M [fa 6,fa 7] (M [fa 8] (M [fa 9] (.seq (M [bq 10 0] (.block 0 (.ghost (.nT 8 380030 4) (.ghost (.nT 9 380037 4) (.loop  (.seq (M [F 11 10,F 12 0,cx 13 12,bJ 14 .lss 11 13] (aX 14 .skip (.exit 0))) (.seq (.block 1 (M [F 17 0,F 18 10,cC 19 4 17 18,bg 20 0 19,a2 21 1 20,F 22 2,bJ 23 .eql 21 22] (aX 23 (M [F 24 8,F 25 0,F 26 10,cC 27 4 25 26,ba 28 4 27,(aE 29 (.fz 380029 false [(ao 0),(ao 0),(ao 0),(ao 0)] 4 1 [(0,4,(.t 28))])),(aE 30 (.app 380030 [(ao 0),(ao 0),(ao 0),(ao 0)] 32 (.t 24) (.t 29))),F 8 30] (.ops [F 31 9,F 32 1,F 33 10,cC 34 4 32 33,ba 35 4 34,(aE 36 (.fz 380036 false [(ao 0),.nil,(ao 0),.nil] 4 1 [(0,4,(.t 35))])),(aE 37 (.app 380037 [(ao 0),.nil,(ao 0),.nil] 64 (.t 31) (.t 36))),F 9 37])) .skip))) (.ops [F 15 10,bo 16 .add 15 1,F 10 16])))))))) (.seq (.ghost (.freeze 8) (.ghost (.freeze 9) (.ops [F 38 8,F 39 9,F 6 38,F 7 39]))) .ret)))))
def VI:bP:=b5 82 3 [.t 6] (M [cN 5 381005 2,cj 6 false] (M [F 13 0,F 14 1,ba 15 3 5,(ns 16 Ae 13 14 15),F 7 16] (M [fa 8] (.seq (M [bq 9 0] (.block 0 (.ghost (.nT 8 381068 1) (.loop  (.seq (M [F 17 9,bg 18 2 5,a2 19 1 18,cx 20 19,bJ 21 .lss 17 20] (aX 21 .skip (.exit 0))) (.seq (.block 1 (M [bg 24 2 5,a2 25 1 24,F 26 9,cC 27 1 25 26,a2 28 1 27,F 10 28] (.seq (M [F 29 10,cx 30 29,bo 31 .eql 30 0] (aX 31 (M [cj 6 false] .ret) .skip)) (M [bq 11 0] (.block 2 (.loop  (.seq (M [F 32 11,F 33 10,cx 34 33,bJ 35 .lss 32 34] (aX 35 .skip (.exit 2))) (.seq (.block 3 (.seq (eS [F 38 7,F 39 10,F 40 11,cC 41 1 39 40,a2 42 1 41,(b0 43 Cw 38 42),dY 44 43,F 45 44,⟨some 46,some (45,false),.ck (.t 11)⟩,⟨some 47,some (45,false),.bin .gtr (.t 46) (.c (ao 0))⟩,⟨some 48,some (45,false),.ck (.t 47)⟩,⟨some 49,some (48,true),.ck (.t 10)⟩,⟨some 50,some (48,true),.ck (.t 11)⟩,⟨some 51,some (48,true),.jO 1 (.t 49) (.t 50)⟩,⟨some 52,some (48,true),.load 1 false (.t 51)⟩,⟨some 53,some (48,true),.ck (.t 10)⟩,⟨some 54,some (48,true),.ck (.t 11)⟩,⟨some 55,some (48,true),.bin .sub (.t 54) (.c (ao 1))⟩,⟨some 56,some (48,true),.jP true (.t 55) (.c (ao 0))⟩,⟨some 57,some (48,true),.jO 1 (.t 53) (.t 56)⟩,⟨some 58,some (48,true),.load 1 false (.t 57)⟩,⟨some 59,some (48,true),.bin .leq (.t 52) (.t 58)⟩,⟨some 60,some (45,false),.pick (.t 48) (.t 59) (.c (.J (.bool false)))⟩,cX 61 45 60] YV (aX 61 (M [cj 6 false] .ret) .skip)) (.ops [F 62 8,F 63 10,F 64 11,cC 65 1 63 64,a2 66 1 65,(aE 67 (.fz 381067 false [(ao 0)] 1 1 [(0,1,(.t 66))])),(aE 68 (.app 381068 [(ao 0)] 8 (.t 62) (.t 67))),F 8 68]))) (.ops [F 36 11,bo 37 .add 36 1,F 11 37]))))))))) (.ops [F 22 9,bo 23 .add 22 1,F 9 23]))))))) (.seq (M [bq 12 0] (.block 4 (.loop  (.seq (M [F 69 12,F 70 7,cx 71 70,bJ 72 .lss 69 71] (aX 72 .skip (.exit 4))) (.seq (.block 5 (M [F 75 8,F 76 7,F 77 12,cC 78 1 76 77,a2 79 1 78,(b0 80 Cw 75 79),dY 81 80] (aX 81 (M [cj 6 false] .ret) .skip))) (.ops [F 73 12,bo 74 .add 73 1,F 12 74])))))) (M [cj 6 true] .ret))))))
def VJ:bP:=b5 84 3 [.t 6] (M [cN 5 382005 2,cj 6 false] (M [F 15 0,F 16 1,ba 17 3 5,(ns 18 Ae 15 16 17),F 7 18] (.seq (M [cj 8 true] (.block 0 (.loop  (.seq (M [F 19 8] (aX 19 .skip (.exit 0))) (.block 1 (M [cj 8 false] (M [fa 9] (.seq (M [bq 10 0] (.block 2 (.ghost (.nT 9 382079 1) (.loop  (.seq (M [F 20 10,F 21 7,cx 22 21,bJ 23 .lss 20 22] (aX 23 .skip (.exit 2))) (.seq (.block 3 (M [cj 11 false] (eS [F 26 1,bg 27 1 5,a2 28 1 27,F 29 7,F 30 10,cC 31 1 29 30,a2 32 1 31,(ns 33 Gj 26 28 32),F 12 33] wk (.seq (M [bq 13 0] (.block 4 (.loop  (.seq (M [F 34 13,F 35 1,cx 36 35,bJ 37 .lss 34 36] (aX 37 .skip (.exit 4))) (.seq (.block 5 (M [F 40 1,F 41 13,cC 42 4 40 41,ba 43 4 42,(aE 14 (.alloc 382014 [(ao 0),(ao 0),(ao 0),(ao 0)])),bu 4 14 43] (.pN [F 44 11,F 45 44,⟨some 46,some (45,false),.c3 0 (.t 14)⟩,⟨some 47,some (45,false),.load 1 false (.t 46)⟩,⟨some 48,some (45,false),.ck (.t 7)⟩,⟨some 49,some (45,false),.ck (.t 10)⟩,⟨some 50,some (45,false),.jO 1 (.t 48) (.t 49)⟩,⟨some 51,some (45,false),.load 1 false (.t 50)⟩,⟨some 52,some (45,false),.bin .eql (.t 47) (.t 51)⟩,⟨some 53,some (45,false),.ck (.t 52)⟩,⟨some 54,some (53,true),.c3 2 (.t 14)⟩,⟨some 55,some (53,true),.load 1 false (.t 54)⟩,⟨some 56,some (53,true),.ck (.t 12)⟩,⟨some 57,some (53,true),.bin .eql (.t 55) (.t 56)⟩,⟨some 58,some (45,false),.pick (.t 53) (.t 57) (.c (.J (.bool false)))⟩,⟨some 59,some (45,false),.ck (.t 58)⟩,⟨some 60,some (59,true),.c3 3 (.t 14)⟩,⟨some 61,some (59,true),.load 1 false (.t 60)⟩,⟨some 62,some (59,true),.bin .gtr (.t 61) (.c (ao 0))⟩,⟨some 63,some (45,false),.pick (.t 59) (.t 62) (.c (.J (.bool false)))⟩,⟨some 64,some (45,false),.ck (.t 63)⟩,⟨some 65,some (64,true),.ck (.t 7)⟩,⟨some 66,some (64,true),.c3 1 (.t 14)⟩,⟨some 67,some (64,true),.load 1 false (.t 66)⟩,⟨some 68,some (64,true),.call Cw [(.t 65),(.t 67)]⟩,⟨some 69,some (64,true),.un .not (.t 68)⟩,⟨some 70,some (45,false),.pick (.t 64) (.t 69) (.c (.J (.bool false)))⟩,cX 71 45 70,F 11 71] aje))) (.ops [F 38 13,bo 39 .add 38 1,F 13 39])))))) (M [F 72 11] (aX 72 (.ops [cj 8 true]) (.ops [F 73 9,F 74 7,F 75 10,cC 76 1 74 75,a2 77 1 76,(aE 78 (.fz 382078 false [(ao 0)] 1 1 [(0,1,(.t 77))])),(aE 79 (.app 382079 [(ao 0)] 8 (.t 73) (.t 78))),F 9 79]))))))) (.ops [F 24 10,bo 25 .add 24 1,F 10 25]))))))) (.ghost (.freeze 9) (.ops [F 80 9,F 7 80])))))))))) (M [F 81 7,cx 82 81,bo 83 .gtr 82 0,F 6 83] .ret))))
def VK:bP:=b5 27 3 [.t 6] (M [bq 6 0] (M [F 12 0,F 13 1,F 14 2,(ns 15 Gi 12 13 14),F 11 15,bx 16 0 11,bx 17 1 11,F 7 16,F 8 17] (M [F 19 7,F 20 8,(b0 21 O2 19 20),F 18 21,bx 22 0 18,bx 23 1 18,F 9 22,F 10 23] (.seq (M [F 24 10,dY 25 24] (aX 25 (M [(aE 6 (.ck (.c (.J (.int .i64 (-1))))))] .ret) .skip)) (M [F 26 9,F 6 26] .ret)))))
def VL:bP:=b5 23 1 [.t 2] (M [cj 2 false] (.seq (M [bq 3 0] (.block 0 (.loop  (.seq (M [F 4 3,F 5 0,cx 6 5,bJ 7 .lss 4 6] (aX 7 .skip (.exit 0))) (.seq (.block 1 (.seq (M [F 10 0,F 11 3,cC 12 4 10 11,ba 13 4 12,(dg 14 kZ 13),dY 15 14] (aX 15 (M [cj 2 false] .ret) .skip)) (M [F 16 0,F 17 3,cC 18 4 16 17,bg 19 0 18,bg 20 0 19,a2 21 1 20,bo 22 .lss 21 0] (aX 22 (M [cj 2 false] .ret) .skip)))) (.ops [F 8 3,bo 9 .add 8 1,F 3 9])))))) (M [cj 2 true] .ret)))
def VM:bP:=b5 38 3 [.t 6] (M [cN 5 363005 2,cj 6 false] (M [(aE 8 (.call OW [])),F 7 8] (.seq (M [F 9 0,F 10 1,ba 11 3 5,(ns 12 OX 9 10 11),dY 13 12] (aX 13 (M [F 14 7,F 6 14] .ret) .skip)) (eS [F 15 7,F 16 15,⟨some 17,some (16,true),.ck (.t 0)⟩,⟨some 18,some (16,true),.ck (.t 1)⟩,⟨some 19,some (16,true),.load 3 true (.t 5)⟩,⟨some 20,some (16,true),.call xX [(.t 17),(.t 18),(.t 19)]⟩,⟨some 21,some (16,true),.ck (.t 0)⟩,⟨some 22,some (16,true),.ck (.t 1)⟩,⟨some 23,some (16,true),.load 3 true (.t 5)⟩,⟨some 24,some (16,true),.call OY [(.t 21),(.t 22),(.t 23)]⟩,⟨some 25,some (16,true),.bin .eql (.t 20) (.t 24)⟩,gI 26 16 25,F 27 26,⟨some 28,some (27,true),.ck (.t 0)⟩,⟨some 29,some (27,true),.ck (.t 1)⟩,⟨some 30,some (27,true),.load 3 true (.t 5)⟩,⟨some 31,some (27,true),.call Gg [(.t 28),(.t 29),(.t 30)]⟩,⟨some 32,some (27,true),.ck (.t 0)⟩,⟨some 33,some (27,true),.ck (.t 1)⟩,⟨some 34,some (27,true),.load 3 true (.t 5)⟩,⟨some 35,some (27,true),.call Ae [(.t 32),(.t 33),(.t 34)]⟩,⟨some 36,some (27,true),.call Gf [(.t 31),(.t 35)]⟩,gI 37 27 36,F 6 37] YV .ret))))
def VN:bP:=b5 54 0 [.t 0] (M [cj 0 false] (M [(aE 6 (.fz 368006 false [(ao 0),(ao 0)] 1 2 [(0,1,(.c (ao 0))),(1,1,(.c (ao 0)))])),F 1 6] (M [(aE 7 (.build [(ao 0),(ao 0),(ao 0),(ao 0)] [(0,1,(.c (ao 1))),(1,1,(.c (ao 0))),(3,1,(.c (ao 5)))])),(aE 8 (.build [(ao 0),(ao 0),(ao 0),(ao 0)] [(0,1,(.c (ao 0))),(1,1,(.c (ao 1))),(3,1,(.c (ao 5)))])),(aE 9 (.fz 368009 false [(ao 0),(ao 0),(ao 0),(ao 0),(ao 0),(ao 0),(ao 0),(ao 0)] 4 2 [(0,4,(.t 7)),(4,4,(.t 8))])),F 2 9] (M [(aE 10 (.call xZ [(.c (ao 5)),(.c (ao 5))])),(aE 11 (.call xZ [(.c (ao 5)),(.c (ao 5))])),(aE 12 (.build [.nil,.nil,.nil] [(0,1,(.t 10)),(1,1,(.t 11))])),(aE 3 (.alloc 368003 [.nil,.nil,.nil])),bu 3 3 12] (M [(aE 13 (.call xZ [(.c (ao 2)),(.c (ao 2))])),(aE 14 (.call xZ [(.c (ao 2)),(.c (ao 2))])),(aE 15 (.fz 368015 false [(ao 0),(ao 0)] 1 2 [(0,1,(.c (ao 0))),(1,1,(.c (ao 1)))])),(aE 16 (.fz 368016 false [.nil] 1 1 [(0,1,(.t 15))])),(aE 17 (.build [.nil,.nil,.nil] [(0,1,(.t 13)),(1,1,(.t 14)),(2,1,(.t 16))])),(aE 4 (.alloc 368004 [.nil,.nil,.nil])),bu 3 4 17] (M [(aE 18 (.call xZ [(.c (ao 5)),(.c (ao 4))])),(aE 19 (.call xZ [(.c (ao 5)),(.c (ao 5))])),(aE 20 (.build [.nil,.nil,.nil] [(0,1,(.t 18)),(1,1,(.t 19))])),(aE 5 (.alloc 368005 [.nil,.nil,.nil])),bu 3 5 20] (M [F 21 1,F 22 2,ba 23 3 3,(ns 24 xX 21 22 23),bo 25 .eql 24 0,F 26 25,⟨some 27,some (26,true),.ck (.t 1)⟩,⟨some 28,some (26,true),.ck (.t 2)⟩,⟨some 29,some (26,true),.load 3 true (.t 4)⟩,⟨some 30,some (26,true),.call xX [(.t 27),(.t 28),(.t 29)]⟩,⟨some 31,some (26,true),.bin .eql (.t 30) (.c (ao 24))⟩,gI 32 26 31,F 33 32,⟨some 34,some (33,true),.ck (.t 1)⟩,⟨some 35,some (33,true),.ck (.t 2)⟩,⟨some 36,some (33,true),.load 3 true (.t 5)⟩,⟨some 37,some (33,true),.call xX [(.t 34),(.t 35),(.t 36)]⟩,⟨some 38,some (33,true),.bin .eql (.t 37) (.c (ao 24))⟩,gI 39 33 38,F 40 39,⟨some 41,some (40,true),.ck (.t 1)⟩,⟨some 42,some (40,true),.ck (.t 2)⟩,⟨some 43,some (40,true),.load 3 true (.t 4)⟩,⟨some 44,some (40,true),.call Gg [(.t 41),(.t 42),(.t 43)]⟩,⟨some 45,some (40,true),.fz 368045 false [(ao 0),(ao 0)] 1 2 [(0,1,(.c (ao 0))),(1,1,(.c (ao 1)))]⟩,⟨some 46,some (40,true),.call Gf [(.t 44),(.t 45)]⟩,gI 47 40 46,F 48 47,⟨some 49,some (48,true),.ck (.t 1)⟩,⟨some 50,some (48,true),.load 3 true (.t 3)⟩,⟨some 51,some (48,true),.call xX [(.t 49),(.c .nil),(.t 50)]⟩,⟨some 52,some (48,true),.bin .eql (.t 51) (.c (ao 1))⟩,gI 53 48 52,F 0 53] .ret)))))))
def VO:bP:=b5 22 2 [.t 4] (M [fa 4] (M [F 10 0,(aE 11 (.call xT [(.t 10),(.c (ao 1))])),F 9 11,bx 12 0 9,bx 13 1 9,(aE 5 (.alloc 378005 [(ao 0),.nil,(ao 0),.nil])),bu 4 5 12,F 6 13] (M [F 15 1,(aE 16 (.call xT [(.t 15),(.c (ao 1))])),F 14 16,bx 17 0 14,bx 18 1 14,(aE 7 (.alloc 378007 [(ao 0),.nil,(ao 0),.nil])),bu 4 7 17,F 8 18] (M [ba 19 4 5,ba 20 4 7,(aE 21 (.fz 378021 false [(ao 0),.nil,(ao 0),.nil,(ao 0),.nil,(ao 0),.nil] 4 2 [(0,4,(.t 19)),(4,4,(.t 20))])),F 4 21] .ret))))
end Go.Mini
