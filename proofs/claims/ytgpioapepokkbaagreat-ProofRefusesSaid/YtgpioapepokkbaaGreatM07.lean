/- A part of the proof. -/
import Derived.Shelf.SortM.Plain
import Derived.Shelf.SortM.SortNone
import Derived.Test.YtgpioapepokkbaaGreatProg
import Derived.KernelRfl
import Derived.Test.YtgpioapepokkbaaGreatM06
set_option linter.unusedSimpArgs false
set_option linter.unusedVariables false
set_option maxRecDepth 100000
set_option maxHeartbeats 4000000
noncomputable section
open Bool renaming and_eq_true->eM,and_false->hP,false_and->fu,not_eq_true'->rO,not_false->dH,not_true->c5,or_eq_false_iff->anf
open Decidable renaming em->dF
open List renaming all_eq_false->anH,all_eq_true->jh,append_nil->fE,drop->gL,eq_nil_of_length_eq_zero->oM,ext_getElem?->qx,filter_append->pG,flatten_append->EL,flatten_cons->jt,getD_eq_getElem?_getD->ep,getElem?_cons_succ->zc,getElem?_cons_zero->vl,getElem?_drop->k3,getElem?_eq_getElem->bz,getElem?_eq_some_iff->dD,getElem?_map->bn,getElem?_set_self->Gl,getElem_take->Jr,length->D,length_append->fr,length_filter_le->mY,length_map->aj,length_nil->jy,length_set->hn,length_singleton->vQ,length_take->fI,mapM_cons->ju,mapM_nil->wU,map_append->jD,map_cons->eA,map_nil->cY,map_set->vV,map_take->Cr,mem_map->dT,mem_of_getElem?->ei,mem_or_eq_of_mem_set->yU,mem_range->gX,pairwise_iff_getElem->ano,replicate->dG,replicate_succ->pO,set_cons_zero->rQ,take->gu,take_add_one->hc,take_length->kN,take_of_length_le->dB
open List.cons renaming injEq->bf
open Nat renaming add_assoc->qu,le_of_ble_eq_true->x0,le_refl->b1,mod_lt->oj,mul_one->cI,one_mul->wF,sub_zero->AL,zero_add->jv,zero_le->fk
open Option renaming bind_none->iz,bind_some->ir,getD_some->Kn,map_eq_some_iff->dV,map_some->k5
open Option.some renaming inj->nt,injEq->ca
open Prod renaming ext->dR
namespace Go.Mini
open Go
def lN:List au:=[(1,0,0,5),(0,1,0,5)]
theorem acs:fo [0,0] lN:=⟨by decide,by decide,by decide,by decide⟩
theorem aEa {n:Int}(ao:0<=n)(h:n<=9):(0:Rat)<=(n:Rat)/\dU 460 (n:Rat):=by
 refine⟨by exact_mod_cast ao,(show dU 4 (n:Rat) from⟨?_,?_⟩).mono (by omega)⟩
 ·rw[Rat.num_intCast];omega
 ·rw[Rat.den_intCast];decide
def fP (l:List Int):List Rat:=l.map λn:Int=>(n:Rat)
theorem nine {l:List Int}(h:∀x∈l,0<=x/\x<=9):∀q∈fP l,0<=q/\dU 460 q:=λq aL=>by
 obtain⟨n,aK,rfl⟩:=dT.1 aL;exact aEa (h n aK).1 (h n aK).2
theorem NJ {l:List Int}(h:∀x∈l,0<=x/\x<=9):∀q∈fP l,dv q:=λq aL=>hL (nine h q aL).2 (by omega)
theorem anc {a b:List Int}(F:(D a)=2)(I:(D b)=2)(aN:∀x∈a,0<=x/\x<=9)(ag:∀x∈b,0<=x/\x<=9):m1 [0,0] lN ((fP a).map av) ((fP b).map av)=true :=
 am5 acs.right (by unfold fP;rw[aj,F];rfl) (by unfold fP;rw[aj,I];rfl) (λx O=>⟨(nine aN x O).1,hL (nine aN x O).2 (by omega)⟩) λx O=>⟨(nine ag x O).1,NJ ag x O⟩
theorem aEb:ga lN (fP [2,2]) 2=[0,1]:=by decide +kernel
theorem aEc:ga lN (fP [5,5]) 2=[]:=by decide +kernel
theorem aEd:(ht lN (fP [2,2]) (ga lN (fP [2,2]) 2) 2).length=2:=by decide +kernel
theorem aEe:(ht lN (fP [5,5]) (ga lN (fP [5,5]) 2) 2).length=0:=by decide +kernel
theorem aEf:nk (mm [0,0] lN (fP [2,2]) (fP [2,2])) 2=0:=by decide +kernel
theorem aEg:nk (mm [0,0] lN (fP [5,5]) (fP [5,5])) 2=0:=by decide +kernel
theorem ane:nk (mm [0,0] lN (fP [5,4]) (fP [5,5])) 2=24:=by decide +kernel
theorem aEh:NI [.Y (([0,0]:List Int).map ae),.Y (lN.map ck),.agg (kT ((fP [2,2]).map av) ((fP [2,2]).map av) [[0,1]])]=some (.same (.Y (([0,1]:List Int).map ae))):=by
 have cW:fN ((fP [2,2]).map av):=⟨by decide,λf aH=>by obtain⟨x,O,rfl⟩:=dT.1 aH;exact lH (NJ (by decide) x O)⟩
 have h:=anb [0,0] lN ((fP [2,2]).map av) (fP [2,2]) [[0,1]] ⟨by decide,by decide,cW,cW,λ_=>⟨rfl,by decide,by decide,λi=>acs.own i,NJ (by decide)⟩⟩
 unfold Jo at h;rw[ad (anc rfl rfl (by decide) (by decide)),show ([0,0]:List Int).length=2 from rfl,aEb] at h;exact h
theorem aEi {E:List Int}{cs:List au}{ak bI:List bg}{fl:List (List Int)}(h:Dd E cs ak bI fl=true):(D E)<=6/\D cs<=12:=by
 unfold Dd NH at h;simp only[eM,rO,anf,decide_eq_false_iff_not] at h;omega
theorem ang {E:List Int}{cs:List au}{ak bI:List bg}{fl:List (List Int)}(h:Dd E cs ak bI fl=true):SH E cs:=by
 obtain⟨F,I⟩:=aEi h;exact⟨by omega,by omega,λab=>⟨ab,F,I,λc H=>((hD.1 ab).2.2.2 c H).2.2.2.2.2.2.2⟩⟩
section
variable {E:List Int} {cs:List au} (U:fo E cs)
include U
end
def Ba (cs:List au)(n:Nat):List au:=(List.range n).flatMap λi:Nat=>cB cs (i:Int)
theorem aEj (cs:List au)(n:Nat):Ba cs (n+1)=Ba cs n++cB cs (n:Int):=by
 unfold Ba;rw[List.range_succ,List.flatMap_append];simp
theorem aEk {cs:List au}{n:Nat}{c:au}(h:c∈Ba cs n):c∈cs:=by
 unfold Ba at h;obtain⟨i,-,H⟩:=List.mem_flatMap.1 h;exact (nL.1 H).1
theorem aEl {E:List Int}{cs:List au}(U:fo E cs)(aP:en->Rat):cx ((Ba cs (D E)).map cJ) aP=cx (aB E cs).dk aP:=by
 have F:∀n,cx ((Ba cs n).map cJ) aP=bJ n λi=>cx (aB E cs).dk λc=>if c.aF=i then aP c else 0:=by
  intro n
  induction n with
  |zero=>rfl
  |succ n ay =>
   rw[aEj,jD,Il,ay,aCz U];rfl
 rw[F,QW (n:=D E) U.ok.aF λ_ c=>aP c]
theorem aEm {E:List Int}{cs:List au}(U:fo E cs)(x:Nat->Rat)(i:Nat):pJ E cs x i (Ba cs (D E))=(aB E cs).s6 x i:=by
 unfold pJ;rw[aEl U];rfl
theorem C5.s6 {E:List Int}{cs:List au}(U:fo E cs){x:Nat->Rat}{s:Nat->Rat}(h:C5 E cs x (Ba cs (D E)) s):∀i,i<(D E)->s i=(aB E cs).s6 x i:=λi M=>by
 rw[<-aEm U];exact aBH U.right x i _ _ rfl (λc H=>aEk H) _ (h.a i M)

theorem aEn {n:Int}(h:(Lit.int .i8 n).wf=true):-128<=n/\n<=127:=by
 simpa [Lit.wf,IntKind.min,IntKind.max,IntKind.signed,IntKind.bits] using h
end Go.Mini
namespace Go.Mini
open Go
variable {P:Program} {ρ:Shelf.Ren} {A:Nat->Prop} {w:World} {B:Lay} {mem:Mem}
theorem aEo (w:World)(n df:Nat)(d:Array Int)(os:Array Obj){vs:Array Value}{T:TypeId}(h:w.heap[df]?=some (.cells vs T (0,0))):
  (Sort.grow (Sort.putRow (Value.int .i64) (Sort.ahead w n) df 0 d) os).heap[df]?=some (.cells (Sort.putCells (Value.int .i64) 0 d vs) T (0,0)):=by
 have aA:=(Array.getElem?_eq_some_iff.1 h).1;unfold Sort.grow Sort.putRow Sort.mapBlock Sort.ahead;dsimp only;rw[Array.getElem?_append_left (by rw[Array.size_modify];exact aA),Array.getElem?_modify,ad rfl,h]
 rfl
theorem anh (w:World)(n df:Nat)(d:Array Int)(os:Array Obj){b:Nat}(ag:b<w.heap.size)(h:b≠df):
  (Sort.grow (Sort.putRow (Value.int .i64) (Sort.ahead w n) df 0 d) os).heap[b]?=w.heap[b]?:=by
 unfold Sort.grow Sort.putRow Sort.mapBlock Sort.ahead;dsimp only;rw[Array.getElem?_append_left (by rw[Array.size_modify];exact ag),Array.getElem?_modify,ah (λe=>h e.symm)]
theorem acu (w:World)(n df:Nat)(d:Array Int)(os:Array Obj):w.heap.size<=(Sort.grow (Sort.putRow (Value.int .i64) (Sort.ahead w n) df 0 d) os).heap.size:=by
 unfold Sort.grow Sort.putRow Sort.mapBlock Sort.ahead;dsimp only;rw[Array.size_append,Array.size_modify];omega
def Jp (l:List Int):List Int:=l.mergeSort λx y=>decide (x<=y)
theorem aEp (L:Proofs.SlLaysM.n5 P ρ){f:FuncId}(aH:ρ.f 5=f){k g:Nat}{l:List Int}(ar:(D l)<=1000000)(hm:mem k=some (g,l.map λx=>R.J (.int .i64 x))){vs:List Value}(bW:fp A w B mem)
  (ak:dq w (b6 A B) B [.ref k g 1 0 (D l)] vs):Oq P f vs A w B mem (.rel λm mem'=>m=.cM []/\mem'=a1 mem k g ((Jp l).map λx=>R.J (.int .i64 x))):=by
 obtain⟨hlen,ak⟩:=ak
 obtain⟨v,rfl⟩:∃v,vs=[v]:=by
  cases vs with
  |nil=>cases hlen
  |cons v r =>
   cases r with
   |nil=>exact⟨v,rfl⟩
   |cons _ _=>simp at hlen
 have ao:=ak 0 _ v rfl rfl
 cases ao with
 | @ref _ _ _ _ _ e _ he bc qw =>
 obtain⟨e',gg,Bn,-,fa⟩:=bW.df k g _ hm;obtain rfl:e=e':=nt (he.symm.trans gg);obtain⟨a,cap,rfl,F,I,af⟩:=qw;rcases af with rfl|⟨b,rfl,aO⟩
 ·have:l=[]:=oM (by omega);subst this;show Calls P f _ w _;rw[<-aH];refine Calls.mono (Proofs.AnyM.slices_Sort_int_none L a 0 w) λaz w1 h=>?_;obtain⟨rfl,rfl⟩:=h;refine⟨_,.cM [],mem,B,rfl,eD.still bW (Fr.refl _ _),.cM (vs:=[]) rfl λi d v h=>(by cases h),rfl,?_⟩
  funext j
  by_cases ai:j=k
  ·subst ai;simp[a1,hm,Jp]
  ·simp[a1,ai]
 obtain⟨br,bR⟩:=aO Bn.symm;obtain⟨cs,T,aR,e2,hle,ab⟩:=fa b br;have DA:=(Array.getElem?_eq_some_iff.1 aR).1
 have cj:∀(i:Nat) (x:Int),l[i]?=some x->cs[i]?=some (.int .i64 x):=λi x O=>by
  obtain⟨u,hu,qw⟩:=ab i (.J (.int .i64 x)) (by rw[bn,O];rfl)
  cases qw with
  |J aa=>cases aa;exact hu
 have aa1:Sort.Holds (Value.int .i64) w b 0 l.toArray:=λj ai=>by
  have ik:j<D l:=by simpa using ai
  refine⟨?_,frozen_of_row w b _ cs T aR⟩;rw[cell_of_row w b _ cs T (0,0) aR,jv,cj j _ (bz ik)];simp[ik]
 show Calls P f _ w _;rw[<-aH];refine Calls.mono (Proofs.AnyM.slices_Sort_int L b 0 cap l w aa1 DA (by omega)) λaz w1 h=>?_;obtain⟨rfl,n,os,hw⟩:=h;have cQ:(Jp l).length=D l:=List.length_mergeSort l;have hw:w1=Sort.grow (Sort.putRow (Value.int .i64) (Sort.ahead w n) b 0 (Jp l).toArray) os:=hw;generalize Jp l=s at *;subst hw;have acv:∀ew,e.df=some ew->w.heap.size<=ew\/∃aD,B k=some aD/\aD.df=some ew:=λew h2 => .inr ⟨e,he,h2⟩
 have hold:∀ew,ew<w.heap.size->(∀aD,B k=some aD->aD.df≠some ew)->(Sort.grow (Sort.putRow (Value.int .i64) (Sort.ahead w n) b 0 s.toArray) os).heap[ew]?=w.heap[ew]?:=λew h2 bE =>
  anh w n b _ os h2 λO=>bE e he (by rw[br,O])
 have NF:∀aD,B k=some aD->e=aD\/aD.g<e.g:=λaD h => .inl (nt (he.symm.trans h));refine⟨_,.cM [],a1 mem k e.g (s.map λx=>R.J (.int .i64 x)),gn B k e,rfl,⟨?_,Trans.change (acu w n b _ os) hold NF acv,⟨rfl,rfl,rfl,acu w n b _ os,λew h2 bM=>anh w n b _ os h2 λO=>bM ⟨k,e,he,by rw[br,O]⟩⟩,N8 acv⟩,.cM (vs:=[]) rfl λi d v h=>(by cases h),rfl,by rw[Bn]⟩
 refine bW.Ti (e':=e) (acu w n b _ os) hold NF acv (λh=>by rw[br] at h;cases h) λew h2=>?_;obtain rfl:b=ew:=nt (br.symm.trans h2);have jM:(Sort.putCells (Value.int .i64) 0 s.toArray cs).size=cs.size:=by unfold Sort.putCells;simp
 refine⟨_,T,aEo w n b _ os aR,by rw[jM];exact e2,by rw[jM,aj,cQ];simpa using hle,λi m M=>?_⟩
 rw[bn,dV] at M;obtain⟨x,O,rfl⟩:=M;have hU:i<D s:=(dD.1 O).1;refine⟨.int .i64 x,?_,.J .int⟩;unfold Sort.putCells;rw[Array.getElem?_mapIdx];have C0:i<cs.size:=by rw[aj] at hle;omega
 rw[Array.getElem?_eq_getElem C0,k5,ad ⟨fk _,by simpa using hU⟩]
 have aw:=(dD.1 O).2;simp[hU,aw]
end Go.Mini
namespace Go.Mini
open Go
def Fz (a:C7)(mem:Mem):Prop:=mem 289040=some (a.g,a.l.map b9)/\D a.l<=1000
theorem ani {a b:C7}{mem:Mem}(F:Fz a mem)(I:Fz b mem):a=b:=by
 have:=F.1.symm.trans I.1;simp only[ca,Prod.mk.injEq] at this;obtain⟨l,g⟩:=a;obtain⟨ft,c8⟩:=b;dsimp only at this;rw[this.1,Rw this.2]
def NK:List R->Mem->Option (R->Mem->Prop):=xv (λ(a:C7) args mem=>args=[.ref 289040 a.g 1 0 (D a.l)]/\Fz a mem) amz
theorem aEq (a:C7)(mem:Mem)(h:Fz a mem):NK [.ref 289040 a.g 1 0 (D a.l)] mem=some (amz a mem):=by
 unfold NK;exact Yr (a:=a) (λa b args mem F I=>ani F.2 I.2) ⟨rfl,h⟩
theorem aEr {P:Program}{ρ:Shelf.Ren}(L:Proofs.SlLaysM.n5 P ρ){f:FuncId}(aH:ρ.f 5=f)(ab:Real P f):lj P f (qU NK):=by
 refine⟨ab,λargs mem oO hz A w B vs bW ak=>?_⟩;unfold qU at hz;rw[dV] at hz;obtain⟨cg,gU,rfl⟩:=hz;obtain⟨a,⟨rfl,hm,ar⟩,rfl⟩:=LS gU;have h:=aEp L aH (by omega) hm bW ak;refine Calls.mono h λe aQ he=>?_;obtain⟨v,r,mem',bu,F,I,af,aO,br⟩:=he;refine⟨v,r,mem',bu,F,I,af,aO,Jp a.l,List.mergeSort_perm _ _,?_,br⟩;have:=List.pairwise_mergeSort (le:=λx y:Int=>decide (x<=y)) (λa b c F I=>by simp at F I ⊢;omega) (λa b=>by simp;omega) a.l;exact this.imp λh=>by simpa using h
def SZ:List R->Mem->Option (Data×Key):=MI (λ(a:C7) args mem=>args=[.ref 289040 a.g 1 0 (D a.l)]/\Fz a mem) (λa=>(.Y ((kB a.l).map ae),289040))
theorem aEs (a:C7)(mem:Mem)(h:Fz a mem):SZ [.ref 289040 a.g 1 0 (D a.l)] mem=some (.Y ((kB a.l).map ae),289040):=by
 unfold SZ;exact axW (a:=a) (λa b args mem F I=>by rw[ani F.2 I.2]) ⟨rfl,h⟩
theorem aEt (T:bl)(a:C7)(mem:Mem)(aN:Fz a mem):
  wp T O8.body (p4 O8.res λm mem'=>cl 6 emp m=some (.Y ((kB a.l).map ae))/\∀j,¬ False->mem' j=a1 mem 289040 (bX mem 289040) [] j) ⟨lv [.ref 289040 a.g 1 0 (D a.l)],mem⟩:=by
 obtain⟨kH,aK⟩:=aN;obtain⟨l,g⟩:=a;dsimp only at kH aK ⊢
 have aH:∀(K:bd->Prop) (st:bd),BI K st 2 289040 g 1 0 (D l) (some (g,l.map b9))=K ⟨e6 st.tm 2 (.J (.Y (l.map ae))),kill st.mem 289040⟩:=λK st=>by
  have:=amC (K:=K) (st:=st) 2 289040 g (D l) l [] rfl rfl;rwa [fE] at this
 refine tw ?_;simp only[O8];rcases d0:decide ((D l:Int)<2)
 case true =>
  have H:kB l=l:=by
   have:=of_decide_eq_true d0
   match l,this with
   | [],_=>rfl
   | [x],_=>rfl
   |x::y::r,h=>simp at h;omega
  rw[H];simp only[go_sem,go_sem_proc,d0,kH,aH];repeat' (first|refine ax ?_ ?_|fail)<;>intro h<;>simp only[h,go_sem,go_sem_proc,d0,kH,aH]
  refine⟨_,rfl,?_,λj _=>?_⟩<;>first|rfl|trivial
 have yb:2<=D l:=by have:=of_decide_eq_false d0;omega
 simp only[go_sem,go_sem_proc,d0]
 refine dw [0] [] (λ(k:Nat) tm m=>1<=k/\k<=D l/\tm 3=.J (.int .i64 k)/\m=mem/\kB (l.take k)=l.take k) (λk=>D l-k) 1 (by
  refine⟨by omega,by omega,rfl,rfl,?_⟩
  match l,yb with
  |x::r,_=>rfl) ?_
 intro vs ms aT aS;simp only[go_sem,go_sem_proc] at aT aS;subst aT aS;rintro k tm m Q-⟨jG,gz,bZ,hm,H⟩;simp only[go_sem,go_sem_proc,bf] at Q;have bC:=Q;subst hm;rcases dF (k<D l) with aA|b7
 ·have d1:decide ((k:Int)<(D l:Int))=true:=dp;have b5:=e9 (i:=k) (by omega);have o0:IntKind.i64.wrap ((k:Int)-1)=((k-1:Nat):Int):=by rw[fc _];omega
  obtain⟨x,O⟩:∃x,l[k]?=some x:=⟨_,bz aA⟩;obtain⟨y,aw⟩:∃y,l[k-1]?=some y:=⟨_,bz (by omega)⟩;have t1:gu 1 (gL k (l.map b9))=[.J (.int .i64 x)]:=AR (f:=b9) O;have t2:gu 1 (gL (k-1) (l.map b9))=[.J (.int .i64 y)]:=AR (f:=b9) aw;have cr:(k+1<=D l)=True:=eq_true (by omega);have rp:(k-1+1<=D l)=True:=eq_true (by omega);have wK:(k<D l)=True:=eq_true aA;have lz:(k-1<D l)=True:=eq_true (by omega);have mD:(l.map b9).length=D l:=aj _;rcases q:(x==y)
  ·have bE:x≠y:=by simpa using q
   have lS:=aCO (by omega) aA aw O bE H;generalize gU:l.map b9=cg at *;simp only[go_sem,go_sem_proc,bC,bZ,kH,t1,t2,d1,b5,o0,cr,rp,wK,lz,mD,q,cI];repeat' (first|refine ax ?_ ?_|fail)<;>intro h<;>simp only[h,go_sem,go_sem_proc,bC,bZ,kH,t1,t2,d1,b5,o0,cr,rp,wK,lz,mD,q,cI]
   exact⟨k+1,by omega,by omega,by omega,rfl,lS⟩
  ·have oN:x=y:=by simpa using q
   have aEu:kB (l.take (k+1))=l.take k:=by rw[abN (by omega) aw O,ad oN,fE,H]
   have hA:(k<=D l/\D l<=D l)=True:=eq_true ⟨by omega,b1 _⟩
   simp only[go_sem,go_sem_proc,bC,bZ,kH,t1,t2,d1,o0,cr,rp,wK,lz,mD,hA,q,cI]
   refine dw [0,4] [] (λ((d,kk,row):Nat×Nat×List Int) tm m'=>1<=d/\k+d<=D l/\kk<k+d/\D row=D l/\row.take kk=kB (l.take (k+d))/\row.drop (k+d-1)=l.drop (k+d-1)/\tm 5=.J (.int .i64 d)/\tm 3=.J (.int .i64 kk)/\m'=a1 m 289040 g (row.map b9)) (λ(d,_,_)=>D l-(k+d)) (1,k,l) (by
    refine⟨b1 _,by omega,by omega,rfl,aEu.symm,rfl,rfl,?_,?_⟩
    ·simp only[e7,Nat.reduceEqDiff,if_false];exact bZ
    ·funext j
     by_cases ai:j=289040
     ·subst ai;rw[iN];exact kH
     ·rw[du ai]) ?_
   intro vs ms aT aS;simp only[go_sem,go_sem_proc,bC] at aT aS;subst aT aS;clear bC bZ;rintro⟨d,kk,row⟩ tm m' Q-⟨jV,mK,Dq,b2,gM,qJ,cm,bZ,n4⟩;simp only[go_sem,go_sem_proc,bf] at Q;obtain⟨bC,dr⟩:=Q;subst n4
   have cj:∀j,k+d-1<=j->row[j]?=l[j]?:=λj ai=>by
    have F:row[j]?=(row.drop (k+d-1))[j-(k+d-1)]?:=by rw[k3];congr 1;omega
    have I:l[j]?=(l.drop (k+d-1))[j-(k+d-1)]?:=by rw[k3];congr 1;omega
    rw[F,I,qJ]
   rcases dF (k+d<D l) with kG|aMi
   ·have d2:decide ((d:Int)<((D l-k:Nat):Int))=true:=dp;have Bb:=e9 (i:=d) (by omega);have S0:IntKind.i64.wrap ((d:Int)-1)=((d-1:Nat):Int):=by rw[fc _];omega
    have anj:=e9 (i:=kk) (by omega);obtain⟨a,iU⟩:∃x,l[k+d]?=some x:=⟨_,bz kG⟩;obtain⟨b,kK⟩:∃y,l[k+d-1]?=some y:=⟨_,bz (by omega)⟩;have R0:=(cj (k+d) (by omega)).trans iU;have aEv:=(cj (k+d-1) (b1 _)).trans kK;have s1:gu 1 (gL (k+d) (row.map b9))=[.J (.int .i64 a)]:=AR (f:=b9) R0
    have s2:gu 1 (gL (k+(d-1)) (row.map b9))=[.J (.int .i64 b)]:=by
     rw[show k+(d-1)=k+d-1 by omega];exact AR (f:=b9) aEv
    have dE:=abN (by omega) kK iU;have cF:(d<D l-k)=True:=eq_true (by omega);have cp:(d-1<D l-k)=True:=eq_true (by omega);have hb:(k+d+1<=D l)=True:=eq_true (by omega);have j5:(k+(d-1)+1<=D l)=True:=eq_true (by omega);have ank:(kk<D l)=True:=eq_true (by omega);have pH:(kk+1<=D l)=True:=eq_true (by omega);have q7:(row.map b9).length=D l:=by rw[aj,b2]
    rcases eV:(a==b)
    ·have bE:a≠b:=by simpa using eV
     rw[ah bE,<-gM] at dE
     have mU:gu kk (row.map b9)++[R.J (.int .i64 a)]++gL (kk+1) (row.map b9)=(row.set kk a).map b9:=by
      rw[List.set_eq_take_append_cons_drop,ad (by omega),jD,eA,Cr,List.map_drop,List.append_assoc];rfl
     generalize NB:row.map b9=Fx at *;simp only[go_sem,go_sem_proc,bC,bZ,dr,cm,s1,s2,d2,Bb,S0,anj,cF,cp,hb,j5,ank,pH,q7,mU,eV,bne,dH,cI];repeat' (first|refine ax ?_ ?_|fail)<;>intro h<;>simp only[h,go_sem,go_sem_proc,bC,bZ,dr,cm,s1,s2,d2,Bb,S0,anj,cF,cp,hb,j5,ank,pH,q7,mU,eV,bne,dH,cI]
     refine⟨(d+1,kk+1,row.set kk a),by dsimp only;omega,by dsimp only;omega,by dsimp only;omega,by dsimp only;omega,by dsimp only;rw[hn,b2],?_,?_,rfl,rfl,?_⟩
     ·dsimp only;rw[<-qu,dE,hc,List.take_set_of_le (b1 _),Gl (by omega)];rfl
     ·dsimp only;rw[List.drop_set_of_lt (by omega)];apply qx;intro j;rw[k3,k3];exact cj _ (by omega)
     ·rw[abM]
    ·have he:a=b:=by simpa using eV
     rw[ad he,fE,<-gM] at dE;generalize NB:row.map b9=Fx at *;simp only[go_sem,go_sem_proc,bC,bZ,dr,cm,s1,s2,d2,Bb,S0,cF,cp,hb,j5,q7,eV,bne,c5,cI];repeat' (first|refine ax ?_ ?_|fail)<;>intro h<;>simp only[h,go_sem,go_sem_proc,bC,bZ,dr,cm,s1,s2,d2,Bb,S0,cF,cp,hb,j5,q7,eV,bne,c5,cI]
     refine⟨(d+1,kk,row),by dsimp only;omega,by dsimp only;omega,by dsimp only;omega,by dsimp only;omega,b2,?_,?_,rfl,rfl,by rw[NB]⟩
     ·dsimp only;rw[<-qu,dE]
     ·dsimp only;apply qx;intro j;rw[k3,k3];exact cj _ (by omega)
   ·have d2:decide ((d:Int)<((D l-k:Nat):Int))=false:=dn;have aEw:k+d=D l:=by omega
    rw[aEw,kN] at gM;have ko:(kk<=D l/\D l<=D l)=True:=eq_true ⟨by omega,b1 _⟩
    have s8:(kk+(D l-kk)<=D l)=True:=eq_true (by omega);have anl:(kk<=D l)=True:=eq_true (by omega);have q7:(row.map b9).length=D l:=by rw[aj,b2]
    have D9:gu kk (row.map b9)=(kB l).map b9:=by rw[<-Cr,gM]
    have eL:(kB l).length=kk:=by rw[<-gM,fI];omega
    have Aj:gL (D l) (row.map b9)=[]:=List.drop_eq_nil_of_le (by rw[q7];exact b1 _);generalize row.map b9=Fx at *;have anm:(D l<=D l)=True:=eq_true (b1 _)
    have qG:∀n:Nat,(dG n [R.J (.int .i64 0)]).flatten=dG n (R.J (.int .i64 0)):=λn=>by
     induction n with
     |zero=>rfl
     |succ n ay=>rw[pO,jt,ay,pO];rfl
    have pg:gu kk Fx++(dG (D l-kk) [R.J (.int .i64 0)]).flatten++gL (kk+(dG (D l-kk) [R.J (.int .i64 0)]).flatten.length) Fx=(kB l).map b9++(dG (D l-kk) [R.J (.int .i64 0)]).flatten:=by
     rw[qG,List.length_replicate,show kk+(D l-kk)=(D l) by omega,Aj,D9,fE]
    have ann:=λ(K:bd->Prop) (st:bd)=>amC (K:=K) (st:=st) 2 289040 g kk (kB l) (dG (D l-kk) [R.J (.int .i64 0)]).flatten (by rw[qG];unfold nZ;rw[jh];intro x O;rw[(List.mem_replicate.1 O).2];rfl) eL.symm;simp only[go_sem,go_sem_proc,bC,bZ,dr,cm,d2,s8,anl,anm,q7,pg,ann,show (0<=kk)=True from eq_true (fk _),AL,cI,wF];repeat' (first|refine ax ?_ ?_|fail)<;>intro h<;>simp only[h,go_sem,go_sem_proc,bC,bZ,dr,cm,d2,s8,anl,anm,q7,pg,ann,show (0<=kk)=True from eq_true (fk _),AL,cI,wF]
    exact⟨_,rfl,rfl,λj _=>by by_cases h:j=289040<;>simp[h]⟩
 ·have d1:decide ((k:Int)<(D l:Int))=false:=dn;obtain rfl:k=D l:=by omega
  rw[kN] at H;rw[H];simp only[go_sem,go_sem_proc,bC,bZ,kH,d1,aH];repeat' (first|refine ax ?_ ?_|fail)<;>intro h<;>simp only[h,go_sem,go_sem_proc,bC,bZ,kH,d1,aH]
  refine⟨_,rfl,?_,λj _=>?_⟩<;>first|rfl|trivial
def Jq (r:List Int):Bool:=decide (r≠[]/\r.Pairwise (·<·))
def nW (cs:List au)(ps:List Rat)(n:Nat)(fl:List (List Int)):Bool:=fl.all Jq&&(fl.flatten.all (λx=>decide (x∈ga cs ps n))&&(ga cs ps n).all λx=>decide (x∈fl.flatten))
theorem aEx {cs:List au}{ps:List Rat}{n:Nat}{fl:List (List Int)}{i:Nat}{r:List Int}(h:fl[i]?=some r)(ab:Jq r=false):nW cs ps n fl=false:=by
 unfold nW;rw[SY h ab,fu]
theorem aEy {r:List Int}{k:Nat}{x y:Int}(ao:0<k)(O:r[k]?=some x)(aw:r[k-1]?=some y)(h:x<=y):Jq r=false:=by
 refine mw fun⟨_,aG⟩=>?_;obtain⟨F,rfl⟩:=dD.1 O;obtain⟨I,rfl⟩:=dD.1 aw;have:=ano.1 aG (k-1) k I F (by omega);omega
theorem aEz {r:List Int}{k:Nat}{x y:Int}(ao:0<k)(O:r[k]?=some x)(aw:r[k-1]?=some y)(h:y<x)(aG:(r.take k).Pairwise (·<·)):(r.take (k+1)).Pairwise (·<·):=by
 have l7:=(dD.1 O).1;rw[ano] at aG ⊢;intro i j M ai lA;rw[fI] at M ai;rw[Jr,Jr]
 by_cases ea:j=k
 ·subst ea;obtain⟨_,rfl⟩:=dD.1 O;obtain⟨_,rfl⟩:=dD.1 aw
  by_cases MO:i=j-1
  ·subst MO;exact h
  ·have:=aG i (j-1) (by rw[fI];omega) (by rw[fI];omega) (by omega);rw[Jr,Jr] at this;omega
 ·have:=aG i j (by rw[fI];omega) (by rw[fI];omega) lA;rwa [Jr,Jr] at this
structure Bc (fl:List (List Int)):Prop where
 len:(D fl)<=1000
 names:(D fl.flatten)<=1000
def acw:=cu Nw λ(E,cs,ak,ps,fl)=>cU (ku E cs ps/\Bc fl) (.same (.bool (nW cs ps (D E) fl)))
@[go_sem] theorem aEA (E:List Int)(cs:List au)(ak:List bg)(ps:List Rat)(fl:List (List Int))(H:ku E cs ps/\Bc fl):acw [.agg (eO E cs ak (ps.map av) fl)]=some (.same (.bool (nW cs ps (D E) fl))):=(cD abR (E,cs,ak,ps,fl)).trans (cZ H _)
theorem aEB (T:bl)(o9:T UR=qU NK)(pa:T UT=MH SZ)(kd:T DW=aW Nx)(pb:T US=aW abH)(E:List Int)(cs:List au)(ak:List bg)(ps:List Rat)(fl:List (List Int))(H:ku E cs ps/\Bc fl):WP T Xk (.same (.bool (nW cs ps (D E) fl))) [.J (.agg (eO E cs ak (ps.map av) fl))]:=by
 refine cE ?_;simp only[Xk];obtain⟨qh,Js⟩:=H;have aK:=qh.n;have jx:=abS E cs ak ps fl qh;have Gd:=Nv cs ps (D E);have gC:=λi r=>aEx (cs:=cs) (ps:=ps) (n:=D E) (fl:=fl) (i:=i) (r:=r);simp only[eO] at jx;generalize ps.map av=ie at *;simp only[go_sem,go_sem_proc,o9,pa,kd,pb,eO,aj];refine dw [1,10,11] [289001] (λ((i,g):Nat×Nat) tm m=>i<=D fl/\tm 12=.J (.int .i64 i)/\tm 3=.ref 289040 g 1 0 (fl.take i).flatten.length/\m 289040=some (g,a7 ae (fl.take i).flatten)/\(fl.take i).all Jq=true) (λ(i,_)=>D fl-i) (0,0) (by refine⟨by omega,rfl,rfl,rfl,rfl⟩) ?_;intro vs ms aT aS;simp only[go_sem,go_sem_proc,o9,pa,kd,pb,eO,aj] at aT aS;subst aT aS;rintro⟨i,g⟩ tm m Q hm ⟨M,er,bZ,q9,e4⟩;simp only[go_sem,go_sem_proc,o9,pa,kd,pb,bf] at Q hm;obtain⟨az,dx,hs⟩:=Q;rcases dF (i<D fl) with aA|b7
 ·have hlen:=Js.len;have d1:decide ((i:Int)<(D fl:Int))=true:=dp;have b5:=e9 (i:=i) (by omega);obtain⟨r,O⟩:∃r,fl[i]?=some r:=⟨_,bz aA⟩;have gC:=gC i r O;have gM:(fl.take (i+1)).flatten=(fl.take i).flatten++r:=by rw[hc,O,Option.toList_some,EL];simp
  have anp:(fl.take i).flatten.length+D r<=1000:=by
   have F:fl.flatten=(fl.take (i+1)).flatten++(fl.drop (i+1)).flatten:=by rw[<-EL,List.take_append_drop]
   have I:=Js.names;rw[F,gM,fr,fr] at I;omega
  simp only[go_sem,go_sem_proc,o9,pa,kd,pb,az,bZ,dx,hs,er,hm,O,d1,fj,aj,bn];refine dw [1,3,5,10,11,12,16,17] [289001,289040] (λ(k:Nat) tm m=>k<=D r/\tm 18=.J (.int .i64 k)/\(r.take k).Pairwise (·<·)) (λk=>D r-k) 0 (by refine⟨by omega,rfl,List.Pairwise.nil⟩) ?_;intro vs ms aT aS;simp only[go_sem,go_sem_proc,o9,pa,kd,pb,az,bZ,dx,hs,er,hm,q9,aj] at aT aS;subst aT aS;clear az bZ dx hs er hm q9;rintro k tm m Q hm ⟨Dq,jE,acx⟩;simp only[go_sem,go_sem_proc,o9,pa,kd,pb,bf] at Q hm;obtain⟨az,bZ,cm,dx,hs,er,p9,iB⟩:=Q;obtain⟨dA,q9⟩:=hm;rcases dF (k<D r) with L2|ahf
  ·have d2:decide ((k:Int)<(D r:Int))=true:=dp;have o0:=e9 (i:=k) (by omega);obtain⟨x,sf⟩:∃x,r[k]?=some x:=⟨_,bz L2⟩;rcases Nat.eq_zero_or_pos k with yp|yp
   ·have d3:decide ((k:Int)>0)=false:=dn;subst yp;simp only[go_sem,go_sem_proc,o9,pa,kd,pb,az,bZ,cm,dx,hs,er,p9,iB,jE,dA,q9,sf,d2,d3,o0,ae,aj,bn];repeat' (first|refine ax ?_ ?_|fail)<;>intro h<;>simp only[h,go_sem,go_sem_proc,o9,pa,kd,pb,az,bZ,cm,dx,hs,er,p9,iB,jE,dA,q9,sf,d2,d3,o0,ae,aj,bn]
    exact⟨1,by omega,by omega,rfl,by rw[hc,sf,List.take_zero];exact List.pairwise_singleton _ _⟩
   ·have d3:decide ((k:Int)>0)=true:=dp;have Bb:IntKind.i64.wrap ((k:Int)-1)=((k-1:Nat):Int):=by rw[fc _];omega
    obtain⟨y,Jt⟩:∃x,r[k-1]?=some x:=⟨_,bz (by omega)⟩;have jG:k-1<D r:=by omega
    rcases d4:decide (x<=y)
    ·have kG:y<x:=by have:=of_decide_eq_false d4;omega
     have aEC:=aEz yp sf Jt kG acx;simp only[go_sem,go_sem_proc,o9,pa,kd,pb,az,bZ,cm,dx,hs,er,p9,iB,jE,dA,q9,sf,Jt,d2,d3,d4,o0,Bb,jG,ae,aj,bn];repeat' (first|refine ax ?_ ?_|fail)<;>intro h<;>simp only[h,go_sem,go_sem_proc,o9,pa,kd,pb,az,bZ,cm,dx,hs,er,p9,iB,jE,dA,q9,sf,Jt,d2,d3,d4,o0,Bb,jG,ae,aj,bn]
     exact⟨k+1,by omega,by omega,rfl,aEC⟩
    ·rw[gC (aEy yp sf Jt (of_decide_eq_true d4))];simp only[go_sem,go_sem_proc,o9,pa,kd,pb,az,bZ,cm,dx,hs,er,p9,iB,jE,dA,q9,sf,Jt,d2,d3,d4,o0,Bb,jG,ae,aj,bn];repeat' (first|refine ax ?_ ?_|fail)<;>intro h<;>simp only[h,go_sem,go_sem_proc,o9,pa,kd,pb,az,bZ,cm,dx,hs,er,p9,iB,jE,dA,q9,sf,Jt,d2,d3,d4,o0,Bb,jG,ae,aj,bn]
  ·have d2:decide ((k:Int)<(D r:Int))=false:=dn;rw[dB (by omega)] at acx;rcases d5:((D r:Int)==0)
   ·have bE:r≠[]:=λh=>by rw[h] at d5;cases d5
    have aED:Jq r=true:=kf ⟨bE,acx⟩
    have dg:kW 289040 g 1 (fl.take i).flatten.length 8 (D r) (a7 ae r) (some (g,a7 ae (fl.take i).flatten))=some (.ref 289040 (g+1) 1 0 ((fl.take i).flatten.length+D r),some (289040,g+1,a7 ae (fl.take (i+1)).flatten)):=by
     have:=yr hd tN 289040 g 8 (fl.take i).flatten r (by omega) (by omega);rw[<-gM] at this;exact this
    have anq:(r.map ae).flatten.map R.J=a7 ae r:=rfl;simp only[go_sem,go_sem_proc,o9,pa,kd,pb,az,bZ,cm,dx,hs,er,p9,iB,jE,dA,q9,d2,d5,b5,dg,anq,K5,aj];repeat' (first|refine ax ?_ ?_|fail)<;>intro h<;>simp only[h,go_sem,go_sem_proc,o9,pa,kd,pb,az,bZ,cm,dx,hs,er,p9,iB,jE,dA,q9,d2,d5,b5,dg,anq,K5,aj]
    exact⟨(i+1,g+1),by dsimp only;omega,by dsimp only;omega,rfl,by rw[gM,fr],rfl,by rw[Qq O,e4,aED];rfl⟩
   ·have he:r=[]:=oM (by have:=eq_of_beq d5;omega);rw[gC (mw λh=>h.1 he)];simp only[go_sem,go_sem_proc,o9,pa,kd,pb,az,bZ,cm,dx,hs,er,p9,iB,jE,dA,q9,d2,d5,aj];repeat' (first|refine ax ?_ ?_|fail)<;>intro h<;>simp only[h,go_sem,go_sem_proc,o9,pa,kd,pb,az,bZ,cm,dx,hs,er,p9,iB,jE,dA,q9,d2,d5,aj]
 ·have d1:decide ((i:Int)<(D fl:Int))=false:=dn;obtain rfl:i=D fl:=by omega
  rw[kN] at bZ q9 e4;rw[<-IV] at q9;have fm:=aEq ⟨fl.flatten,g⟩ m ⟨q9,Js.names⟩;dsimp only at fm;simp only[go_sem,go_sem_proc,o9,pa,kd,pb,az,bZ,dx,hs,er,hm,d1,fm];rintro Cu m' gU;obtain⟨EC,s,aG,yW,n4⟩:=gU;dsimp only at aG n4;subst EC n4;have anr:=aG.length_eq;have anp:=Js.names;have rD:=aEs ⟨s,g⟩ (a1 emp 289040 g (s.map b9)) ⟨iN,by rw[anr];exact anp⟩
  dsimp only at rD;rw[anr] at rD;have iT:=aCN yW
  have heq:decide (kB s=ga cs ps (D E))=nW cs ps (D E) fl:=by
   unfold nW;rw[e4,Bool.true_and,Bool.eq_iff_iff,decide_eq_true_iff,eM,jh,jh]
   constructor
   ·intro h;refine⟨λx O=>kf ?_,λx O=>kf ?_⟩
    ·rw[<-h,iT.2,aG.mem_iff];exact O
    ·rw[<-h,iT.2,aG.mem_iff] at O;exact O
   ·rintro⟨F,I⟩;refine amU iT.1 (aDI cs ps (D E)).1 λx=>?_;rw[iT.2,aG.mem_iff];exact⟨λO=>of_decide_eq_true (F x O),λO=>of_decide_eq_true (I x O)⟩
  have eL:(kB s).length<=D s:=by
   have:∀(l:List Int) (z:Int),(nU z l).length<=D l:=by
    intro l
    induction l with
    |nil=>intro z;simp[nU]
    |cons a r ay =>
     intro z;have F:=ay z;have I:=ay a;rw[nU]
     split<;>simp<;>omega
   cases s with
   |nil=>simp[kB]
   |cons a r=>have:=this r a;simp[kB];omega
  have acy:=aCF (kB s) (ga cs ps (D E)) ⟨by omega,by omega⟩
  rw[heq] at acy;have Ft:nZ (s.map b9)=true:=by unfold nZ;rw[jh];intro x O;obtain⟨y,-,rfl⟩:=dT.1 O;rfl
  generalize nW cs ps (D E) fl=ans at *;simp only[go_sem,go_sem_proc,o9,pa,kd,pb,az,bZ,dx,hs,hm,rD,jx,acy,Ft,rQ,k5,aj];repeat' (first|refine ax ?_ ?_|fail)<;>intro h<;>simp only[h,go_sem,go_sem_proc,o9,pa,kd,pb,az,bZ,dx,hs,hm,rD,jx,acy,Ft,rQ,k5,aj]
  done
def zn (E:List Int)(cs:List au)(aL ps:List Rat)(fl:List (List Int)):Int :=
 if m1 E cs (aL.map av) (ps.map av)=true then
  (if nk (mm E cs aL ps) (D E)=0 then (if nW cs ps (D E) fl=true/\(ht cs ps (ga cs ps (D E)) (D E)).length=0 then 0 else 24) else nk (mm E cs aL ps) (D E))
 else 1
structure NL (E:List Int) (cs:List au) (aL ps:List Rat) (fl:List (List Int)):Prop where
 n:(D E)<=1000000
 c:(D cs)<=1000000
 h:fN (aL.map av)
 p:fN (ps.map av)
 sum:m1 E cs (aL.map av) (ps.map av)=true->∀i,i<(D E)->Jl E cs aL ps i
 C9:m1 E cs (aL.map av) (ps.map av)=true->ku E cs ps
 f:Bc fl
abbrev acz:(List Int)×(List au)×(List Rat)×(List Rat)×(List (List Int))->List Data:=λ(E,cs,aL,ps,fl)=>[.Y (E.map ae),.Y (cs.map ck),.agg [.Y ((aL.map av).map aE),.Y ((ps.map av).map aE),.Y (fl.map fj)]]
def sg:=cu acz λ(E,cs,aL,ps,fl)=>cU (NL E cs aL ps fl) (.same (.int .i64 (zn E cs aL ps fl)))
theorem aEE:∀a b,acz a=acz b->a=b:=by
  rintro⟨uO,uP,qL,Iy,za⟩ ⟨uQ,n3,B5,Iz,zb⟩ h;simp only[bf,Data.agg.injEq,Data.Y.injEq,and_true] at h;obtain⟨F,I,af,aO,br⟩:=h;rw[map_inj fh _ _ F,map_inj r0 _ _ I,map_inj (λ_ _ aR=>ui aR) _ _ (map_inj nd _ _ af),map_inj (λ_ _ aR=>ui aR) _ _ (map_inj nd _ _ aO),map_inj RG _ _ br]
@[go_sem] theorem Ju (E:List Int)(cs:List au)(aL:List Rat)(ps:List Rat)(fl:List (List Int))(H:NL E cs aL ps fl):sg [.Y (E.map ae),.Y (cs.map ck),.agg [.Y ((aL.map av).map aE),.Y ((ps.map av).map aE),.Y (fl.map fj)]]=some (.same (.int .i64 (zn E cs aL ps fl))):=(cD aEE (E,cs,aL,ps,fl)).trans (cZ H _)
theorem aEF (T:bl)(pK:T KU=aW SW)(si:T UL=aW ab5)(sj:T UM=aW acw)(sk:T UN=aW abV)(E:List Int)(cs:List au)(aL:List Rat)(ps:List Rat)(fl:List (List Int))(H:NL E cs aL ps fl):WP T Xh (.same (.int .i64 (zn E cs aL ps fl))) [.J (.Y (E.map ae)),.J (.Y (cs.map ck)),.J (.agg [.Y ((aL.map av).map aE),.Y ((ps.map av).map aE),.Y (fl.map fj)])]:=by
 refine cE ?_;simp only[Xh];have ab:=amS E cs (aL.map av) (ps.map av) fl ⟨H.n,H.c,H.h,H.p⟩;have px:=H.sum;have qh:=H.C9;have Js:=H.f;have aMj:=H.n;clear H;unfold zn;rcases gU:m1 E cs (aL.map av) (ps.map av)
 ·rw[gU] at ab;rw[ah (by decide)];simp only[eO] at ab;generalize aL.map av=HQ at *;generalize ps.map av=Jn at *;simp only[go_sem,go_sem_proc,pK,si,sj,sk,ab,dH];repeat' (first|refine ax ?_ ?_|fail)<;>intro h<;>simp only[h,go_sem,go_sem_proc,pK,si,sj,sk,ab,dH]
 rw[gU] at ab;rw[ad rfl];have U:=λi M=>aDw E cs aL ps fl i (px gU i M);have aH:=aEA E cs (aL.map av) ps fl ⟨qh gU,Js⟩;have jP:=aDb E cs (aL.map av) ps fl (qh gU);clear px qh;have dE:=λk F I af=>amZ (f:=mm E cs aL ps) (k:=k) F I (n:=D E) af;have MY:∀k,nk (mm E cs aL ps) (k+1)=if nk (mm E cs aL ps) k=0 then mm E cs aL ps k else nk (mm E cs aL ps) k:=λk=>rfl;generalize (ht cs ps (ga cs ps (D E)) (D E)).length=aEG at *;generalize nW cs ps (D E) fl=ans at *;generalize mm E cs aL ps=S2 at *;generalize aL.map av=HQ at *;generalize ps.map av=Jn at *;simp only[eO] at ab U aH jP;simp only[go_sem,go_sem_proc,pK,si,sj,sk,ab,c5,aj];refine dw [7,18] [286007] (λ(k:Nat) tm m=>k<=D E/\tm 19=.J (.int .i64 k)/\nk S2 k=0) (λk=>D E-k) 0 (by refine⟨by omega,rfl,rfl⟩) ?_;intro vs ms aT aS;simp only[go_sem,go_sem_proc,pK,si,sj,sk,aj] at aT aS;subst aT aS;rintro k tm m Q hm ⟨pT,sc,aV⟩;simp only[go_sem,go_sem_proc,pK,si,sj,sk,bf] at Q hm;obtain⟨bL,jE⟩:=Q;rcases dF (k<D E) with aA|b7
 ·have d1:decide ((k:Int)<(D E:Int))=true:=dp;have b5:=e9 (i:=k) (by omega);have U:=U k aA;have ant:=MY k;rw[ad aV] at ant;rcases q:(S2 k==0)
  ·have bE:S2 k≠0:=ne_of_beq_false q;have F:=dE k aV bE aA;rw[F,ah bE];simp only[go_sem,go_sem_proc,pK,si,sj,sk,bL,jE,sc,hm,U,d1,q,bne,dH];repeat' (first|refine ax ?_ ?_|fail)<;>intro h<;>simp only[h,go_sem,go_sem_proc,pK,si,sj,sk,bL,jE,sc,hm,U,d1,q,bne,dH]
  ·have he:S2 k=0:=eq_of_beq q;simp only[go_sem,go_sem_proc,pK,si,sj,sk,bL,jE,sc,hm,U,d1,b5,q,bne,c5];repeat' (first|refine ax ?_ ?_|fail)<;>intro h<;>simp only[h,go_sem,go_sem_proc,pK,si,sj,sk,bL,jE,sc,hm,U,d1,b5,q,bne,c5]
   exact⟨k+1,by omega,by omega,rfl,by rw[ant,he]⟩
 ·have d1:decide ((k:Int)<(D E:Int))=false:=dn;obtain rfl:k=D E:=by omega
  rw[ad aV];rcases ans
  ·rw[ah (λh=>by have:=h.1;cases this)];simp only[go_sem,go_sem_proc,pK,si,sj,sk,bL,jE,sc,hm,aH,jP,d1,dH];repeat' (first|refine ax ?_ ?_|fail)<;>intro h<;>simp only[h,go_sem,go_sem_proc,pK,si,sj,sk,bL,jE,sc,hm,aH,jP,d1,dH]
  rcases q:decide ((aEG:Int)>0)
  ·rw[ad ⟨rfl,by have:=of_decide_eq_false q;omega⟩]
   simp only[go_sem,go_sem_proc,pK,si,sj,sk,bL,jE,sc,hm,aH,jP,d1,q,c5];repeat' (first|refine ax ?_ ?_|fail)<;>intro h<;>simp only[h,go_sem,go_sem_proc,pK,si,sj,sk,bL,jE,sc,hm,aH,jP,d1,q,c5]
  ·rw[ah (λh=>by have:=of_decide_eq_true q;have:=h.2;omega)];simp only[go_sem,go_sem_proc,pK,si,sj,sk,bL,jE,sc,hm,aH,jP,d1,q,c5];repeat' (first|refine ax ?_ ?_|fail)<;>intro h<;>simp only[h,go_sem,go_sem_proc,pK,si,sj,sk,bL,jE,sc,hm,aH,jP,d1,q,c5]
theorem aEH {r:List Int}(F:r≠[])(I:r.Pairwise (·<·)):Jq r=true:=kf ⟨F,I⟩
section
variable {E:List Int} {cs:List au} (U:fo E cs)
include U
theorem Jv:Bc (ke E cs):=⟨(ND U).len,by have:=(ND U).names;omega⟩
theorem aEI:nW cs (fU E cs) (D E) (ke E cs)=true:=by
 have h:=ND U;unfold nW;rw[eM,eM,jh,jh,jh];exact⟨λr ab=>aEH (h.ne r ab).1 (h.ne r ab).2,λx O=>kf ((h.mem x).1 O),λx O=>kf ((h.mem x).2 O)⟩
theorem anu {fl:List (List Int)}(aH:Bc fl):NL E cs (q8 E cs) (fU E cs) fl:=by
 have h:=am8 U;exact⟨h.n,h.c,h.h,h.p,h.sum,λ_=>Fy U,aH⟩
theorem anv {fl:List (List Int)}:zn E cs (q8 E cs) (fU E cs) fl=if nW cs (fU E cs) (D E) fl=true then 0 else 24:=by
 unfold zn;rw[ad (am6 U),ad (aDQ λi M=>am7 U M)]
 by_cases h:nW cs (fU E cs) (D E) fl=true
 ·rw[ad ⟨h,aDV U⟩,ad h]
 ·rw[ah (λaR=>h aR.1),ah h]
theorem aEJ:sg [.Y (E.map ae),.Y (cs.map ck),.agg [.Y ((lp E cs).map aE),.Y ((oE E cs).map aE),.Y ((aB E cs).iY.map uW)]]=some (.same (.int .i64 0)):=by
 have h:=Ju E cs (q8 E cs) (fU E cs) (ke E cs) (anu U (Jv U));rw[NG,NC,amY,anv U,ad (aEI U)] at h;exact h
theorem anw {fl:List (List Int)}(aH:Bc fl)(h:nW cs (fU E cs) (D E) fl=false):sg [.Y (E.map ae),.Y (cs.map ck),.agg [.Y ((lp E cs).map aE),.Y ((oE E cs).map aE),.Y (fl.map fj)]]=some (.same (.int .i64 24)):=by
 have F:=Ju E cs (q8 E cs) (fU E cs) fl (anu U aH);rw[NG,NC,anv U,ah (by rw[h];decide)] at F;exact F
end
theorem anx {E:List Int}{cs:List au}{aL ps:List Rat}{fl:List (List Int)}(h:zn E cs aL ps fl=0):m1 E cs (aL.map av) (ps.map av)=true/\(∀i,i<(D E)->mm E cs aL ps i=0)/\(ht cs ps (ga cs ps (D E)) (D E)).length=0:=by
 unfold zn at h
 by_cases F:m1 E cs (aL.map av) (ps.map av)=true
 ·rw[ad F] at h
  by_cases I:nk (mm E cs aL ps) (D E)=0
  ·rw[ad I] at h
   by_cases af:nW cs ps (D E) fl=true/\(ht cs ps (ga cs ps (D E)) (D E)).length=0
   ·exact⟨F,aDP I,af.2⟩
   ·rw[ah af] at h;cases h
  ·rw[ah I] at h;exact absurd h I
 ·rw[ah F] at h;cases h
theorem acA {E:List Int}{cs:List au}{aL ps:List Rat}{i:Nat}(h:mm E cs aL ps i=0):sd (E.getD i 0) i (cs.zip ps)=some (aL.getD i 0)/\fT cs ps i=(cB cs i).map λc=>e1 (cB cs i) (aL.getD i 0) c:=by
 unfold mm at h
 cases aG:sd (E.getD i 0) i (cs.zip ps) with
 |none=>rw[aG] at h;cases h
 |some x =>
  rw[aG] at h;dsimp only at h
  split at h
  ·rename_i aR;obtain⟨rfl,I⟩:=aR;exact⟨rfl,I⟩
  ·cases h
theorem acB {E:List Int}{cs:List au}(U:fo E cs){aL ps:List Rat}(eh:(D aL)=D E)(aq:(D ps)=D cs)(km:∀x∈aL,dU 460 x)(aEK:m1 E cs (aL.map av) (ps.map av)=true->∀x∈aL,0<=x)(kI:∀x∈ps,dv x){fl:List (List Int)}(aH:Bc fl):NL E cs aL ps fl:=by
 have aK:=U.n5;have iV:=U.rZ;have qh:ku E cs ps:=⟨aq,by omega,by omega,λi=>U.own i,kI⟩
 refine⟨by omega,by omega,⟨by rw[aj];omega,λf aH=>?_⟩,⟨by rw[aj];omega,λf aH=>?_⟩,λab i M=>⟨qh,M,eh,λx O=>hL (km x O) (by omega),?_,λx O he=>?_⟩,λ_=>qh,aH⟩
 ·obtain⟨x,O,rfl⟩:=dT.1 aH;exact lH (hL (km x O) (by omega))
 ·obtain⟨x,O,rfl⟩:=dT.1 aH;exact lH (kI x O)
 ·have:=U.E i
  constructor<;>omega
 ·have hm:aL.getD i 0∈aL:=by
   rw[ep,bz (by omega),Kn];exact List.getElem_mem _
  rw[he];exact⟨U.own i,aEK ab _ hm,km _ hm⟩
theorem anz {E:List Int}{cs:List au}{aL ps:List Rat}(h:m1 E cs (aL.map av) (ps.map av)=true):jr E cs=true/\D aL=D E/\D ps=D cs/\(∀x∈aL,0<=x)/\∀x∈ps,0<=x:=by
 unfold m1 at h;simp only[eM,rO,anf,decide_eq_false_iff_not,beq_iff_eq,aj,Bool.not_eq_false'] at h;obtain⟨⟨F,I,af,aO⟩,br,bR,bN,cb⟩:=h
 have r9:∀l:List Rat,(l.map av).all u1=true->∀x∈l,0<=x:=λl ar x O=>by
  rw[jh] at ar;have:=ar (av x) (List.mem_map_of_mem O);unfold u1 at this;rw[eM] at this;have k:=of_decide_eq_true this.2;have cS:¬ x.num.sign<0:=by have:x.num.sign>=0:=k;omega
  have eF:=aaf (x:=x);rw[mw cS] at eF;have:=of_decide_eq_false eF.symm;grind
 refine⟨?_,by omega,by omega,r9 aL bN,r9 ps cb⟩
 unfold jr;simp only[eM];exact⟨⟨⟨dp,dp⟩,br⟩,bR⟩
theorem acC {a b:List Int}(F:(D a)=2)(I:(D b)=2)(aN:∀x∈a,0<=x/\x<=9)(ag:∀x∈b,0<=x/\x<=9){fl:List (List Int)}(aH:Bc fl):sg [.Y (([0,0]:List Int).map ae),.Y (lN.map ck),.agg (kT ((fP a).map av) ((fP b).map av) fl)]=some (.same (.int .i64 (if nk (mm [0,0] lN (fP a) (fP b)) 2=0 then (if nW lN (fP b) 2 fl=true/\(ht lN (fP b) (ga lN (fP b) 2) 2).length=0 then 0 else 24) else nk (mm [0,0] lN (fP a) (fP b)) 2))):=by
 have h:=Ju [0,0] lN (fP a) (fP b) fl (acB acs (by unfold fP;rw[aj,F];rfl) (by unfold fP;rw[aj,I];rfl) (λx O=>(nine aN x O).2) (λ_ x O=>(nine aN x O).1) (NJ ag) aH);unfold zn at h;rw[ad (anc F I aN ag)] at h;exact h
theorem aEL:nW lN (fP [5,5]) 2 []=true:=by
 unfold nW;rw[aEc];rfl
theorem aEM:sg [.Y (([0,0]:List Int).map ae),.Y (lN.map ck),.agg (kT ((fP [5,5]).map av) ((fP [5,5]).map av) [])]=some (.same (.int .i64 0)):=by
 have h:=acC (a:=[5,5]) (b:=[5,5]) rfl rfl (by decide) (by decide) (fl:=[]) ⟨by decide,by decide⟩
 rw[ad aEg,ad ⟨aEL,aEe⟩] at h;exact h
theorem aEN:sg [.Y (([0,0]:List Int).map ae),.Y (lN.map ck),.agg (kT ((fP [2,2]).map av) ((fP [2,2]).map av) [[0,1]])]=some (.same (.int .i64 24)):=by
 have h:=acC (a:=[2,2]) (b:=[2,2]) rfl rfl (by decide) (by decide) (fl:=[[0,1]]) ⟨by decide,by decide⟩
 rw[ad aEf,ah (λaR=>by have:=aR.2;rw[aEd] at this;cases this)] at h;exact h
theorem aEO:sg [.Y (([0,0]:List Int).map ae),.Y (lN.map ck),.agg (kT ((fP [5,4]).map av) ((fP [5,5]).map av) [])]=some (.same (.int .i64 24)):=by
 have h:=acC (a:=[5,4]) (b:=[5,5]) rfl rfl (by decide) (by decide) (fl:=[]) ⟨by decide,by decide⟩
 rw[ah (by rw[ane];decide),ane] at h;exact h
theorem aEP:sg [.Y (([0,0]:List Int).map ae),.Y [],.agg (kT ((fP [5,5]).map av) ((fP [5,5]).map av) [])]=some (.same (.int .i64 1)):=by
 have gC:m1 [0,0] [] ((fP [5,5]).map av) ((fP [5,5]).map av)=false:=rfl;have cW:fN ((fP [5,5]).map av):=⟨by decide,λf aH=>by obtain⟨x,O,rfl⟩:=dT.1 aH;exact lH (NJ (by decide) x O)⟩
 have h:=Ju [0,0] [] (fP [5,5]) (fP [5,5]) [] ⟨by decide,by decide,cW,cW,λh=>absurd h (by rw[gC];decide),λh=>absurd h (by rw[gC];decide),⟨by decide,by decide⟩⟩
 unfold zn at h;rw[ah (by rw[gC];decide)] at h;exact h
abbrev acD:Unit->List Data:=λ(_:Unit)=>[]
def acE:=cu acD λ(_:Unit)=>some (.same (.bool true))
theorem aEQ:∀a b,acD a=acD b->a=b:=by
  intro _ _ _;rfl
@[go_sem] theorem aER :acE []=some (.same (.bool true)):=cD aEQ ()
theorem aES (T:bl)(aET:T BR=aW acq)(lr:T wZ=aW sg)(lu:T KX=aW NI)(aEU:T U1=aW acm):WP T acg (.same (.bool true)) []:=by
 refine cE ?_;simp only[acg];have i2:dC 2:=o6 (by omega) (by omega);have i4:dC 4:=o6 (by omega) (by omega);have i5:dC 5:=o6 (by omega) (by omega);have wo:=acr 2 2 ⟨i2,i2⟩;have anA:=acr 5 5 ⟨i5,i5⟩;have anB:=acr 5 4 ⟨i5,i4⟩;have az:=aEM;have aD:=aEN;have bZ:=aEO;have dr:=aEP;have cm:=aEh;have bP:=aD3 [0,1] [0,1] ⟨by decide,by decide⟩
 rw[kf rfl] at bP;simp only[kT,lN,fP,eA,cY,ae,ck,fj] at wo anA anB az aD bZ dr cm bP;generalize aE (av ((5:Int):Rat))=E5 at *;generalize aE (av ((2:Int):Rat))=Nh at *;generalize aE (av ((4:Int):Rat))=E4 at *;refine aZ ?_;repeat' (intro h<;>simp only[h,go_sem,go_sem_proc,aET,lr,lu,aEU,wo,anA,anB,az,aD,bZ,dr,cm,bP,eA,cY,beq_self_eq_true]<;>try refine ax ?_ ?_)
def pc (n:Int)(r:List Int):List Int:=r.filter λx => !(x==n)
def ra (fl:List (List Int))(n:Int):List (List Int):=fl.map λr=>pc n r
theorem NM (l:List Int):(fj l).length=1:=rfl
abbrev acF:(List (List Int))×Int->List Data:=λ(fl,n)=>[.Y (fl.map fj),.int .i64 n]
def acG:=cu acF λ(fl,n)=>cU (D fl<=1000/\∀r∈fl,D r<=1000) (.same (.Y ((ra fl n).map fj)))
theorem aEV:∀a b,acF a=acF b->a=b:=by
  rintro⟨za,iR⟩ ⟨zb,jR⟩ h;simp only[bf,Data.Y.injEq,Data.int.injEq,and_true,true_and] at h;exact dR (map_inj RG _ _ h.1) h.2
@[go_sem] theorem aEW (fl:List (List Int))(n:Int)(H:(D fl)<=1000/\∀r∈fl,D r<=1000):acG [.Y (fl.map fj),.int .i64 n]=some (.same (.Y ((ra fl n).map fj))):=(cD aEV (fl,n)).trans (cZ H _)
theorem aEX (T:bl)  (fl:List (List Int)) (n:Int) (H:(D fl)<=1000/\∀r∈fl,D r<=1000):WP T ach (.same (.Y ((ra fl n).map fj))) [.J (.Y (fl.map fj)),.J (.int .i64 n)]:=by
 refine cE ?_;simp only[ach];obtain⟨ar,ab⟩:=H;simp only[go_sem,go_sem_proc,aj];refine dw [0,1] [] (λ((i,g):Nat×Nat) tm m=>i<=D fl/\tm 6=.J (.int .i64 i)/\tm 5=.ref 377046 g 1 0 i/\m 377046=some (g,a7 fj (ra (fl.take i) n))) (λ(i,_)=>D fl-i) (0,0) (by refine⟨by omega,rfl,rfl,rfl⟩) ?_;intro vs ms aT aS;simp only[go_sem,go_sem_proc,aj] at aT aS;subst aT aS;rintro⟨i,g⟩ tm m Q-⟨M,bP,cm,wC⟩;simp only[go_sem,go_sem_proc,bf] at Q;obtain⟨bC,az⟩:=Q;have ye:(ra (fl.take i) n).length=i:=by unfold ra;rw[aj,fI];omega
 rcases dF (i<D fl) with aA|b7
 ·have d1:decide ((i:Int)<(D fl:Int))=true:=dp;have b5:=e9 (i:=i) (by omega);obtain⟨r,O⟩:∃r,fl[i]?=some r:=⟨_,bz aA⟩;have b2:=ab r (ei O);have gM:ra (fl.take (i+1)) n=ra (fl.take i) n++[pc n r]:=by unfold ra;rw[hc,O,jD];rfl
  simp only[go_sem,go_sem_proc,bC,az,cm,bP,d1,aj];refine dw [0,1,5,6] [377046] (λ((k,wm):Nat×Nat) tm m=>k<=D r/\tm 8=.J (.int .i64 k)/\tm 7=.ref 377042 wm 1 0 (pc n (r.take k)).length/\m 377042=some (wm,a7 ae (pc n (r.take k)))) (λ(k,_)=>D r-k) (0,bX m 377042) (by refine⟨by omega,rfl,rfl,rfl⟩) ?_;intro vs ms aT aS;simp only[go_sem,go_sem_proc,bC,az,cm,bP,wC,aj] at aT aS;subst aT aS;clear bC az cm bP wC;rintro⟨k,wm⟩ tm m Q hm ⟨pT,dN,bL,FA⟩;simp only[go_sem,go_sem_proc,bf] at Q hm;obtain⟨bC,az,cm,bP⟩:=Q;have wC:=hm
  have jQ:(pc n (r.take k)).length<=1000:=by
   have F:(pc n (r.take k)).length<=(r.take k).length:=mY _ _;have I:(r.take k).length<=D r:=List.length_take_le' ..;omega
  rcases dF (k<D r) with L2|ahf
  ·have d2:decide ((k:Int)<(D r:Int))=true:=dp;have o0:=e9 (i:=k) (by omega);obtain⟨x,sf⟩:∃x,r[k]?=some x:=⟨_,bz L2⟩
   have rT:pc n (r.take (k+1))=pc n (r.take k)++if x=n then [] else [x]:=by
    unfold pc;rw[hc,sf,pG]
    by_cases h:x=n
    ·simp[h]
    ·simp[h]
   rcases q:(x==n)
   ·have bE:x≠n:=beq_eq_false_iff_ne.1 q;rw[ah bE] at rT;have dg:=k6 hd tN 377042 wm 8 (pc n (r.take k)) x (cs:=[.J (.int .i64 x)]) rfl (by omega) (by omega);rw[<-rT] at dg;have cr:(pc n (r.take (k+1))).length=(pc n (r.take k)).length+1:=by rw[rT,fr];rfl
    simp only[go_sem,go_sem_proc,bC,az,cm,bP,bL,dN,wC,FA,O,sf,d2,o0,q,dg,fj,ae,aj,bn,bne,dH];repeat' (first|refine ax ?_ ?_|fail)<;>intro h<;>simp only[h,go_sem,go_sem_proc,bC,az,cm,bP,bL,dN,wC,FA,O,sf,d2,o0,q,dg,fj,ae,aj,bn,bne,dH]
    exact⟨(k+1,wm+1),by dsimp only;omega,by dsimp only;omega,rfl,by dsimp only;rw[cr],rfl⟩
   ·have heq:x=n:=eq_of_beq q;rw[ad heq,fE] at rT;simp only[go_sem,go_sem_proc,bC,az,cm,bP,bL,dN,wC,FA,O,sf,d2,o0,q,fj,ae,aj,bn,bne,c5];repeat' (first|refine ax ?_ ?_|fail)<;>intro h<;>simp only[h,go_sem,go_sem_proc,bC,az,cm,bP,bL,dN,wC,FA,O,sf,d2,o0,q,fj,ae,aj,bn,bne,c5]
    exact⟨(k+1,wm),by dsimp only;omega,by dsimp only;omega,rfl,by dsimp only;rw[rT],by dsimp only;rw[rT]⟩
  ·have d2:decide ((k:Int)<(D r:Int))=false:=dn;rw[dB (by omega)] at bL FA jQ;have Fc:=λ(K:bd->Prop) (st:bd)=>lX (K:=K) (st:=st) hd 7 377042 wm (pc n r);have dg:=k6 NM (λ_=>rfl) 377046 g 24 (ra (fl.take i) n) (pc n r) (cs:=[.J (.Y ((pc n r).map ae))]) rfl (by omega) (by omega);rw[<-gM,ye] at dg;simp only[go_sem,go_sem_proc,bC,az,cm,bP,bL,dN,wC,FA,O,d2,b5,Fc,dg,fj,aj,bn];repeat' (first|refine ax ?_ ?_|fail)<;>intro h<;>simp only[h,go_sem,go_sem_proc,bC,az,cm,bP,bL,dN,wC,FA,O,d2,b5,Fc,dg,fj,aj,bn]
   exact⟨(i+1,g+1),by dsimp only;omega,by dsimp only;omega,rfl,rfl,rfl⟩
 ·have d1:decide ((i:Int)<(D fl:Int))=false:=dn;obtain rfl:i=D fl:=by omega
  rw[kN] at wC ye;have Fb:=λ(K:bd->Prop) (st:bd)=>lX (K:=K) (st:=st) NM 5 377046 g (ra fl n);rw[ye] at Fb;simp only[go_sem,go_sem_proc,bC,az,cm,bP,wC,d1,Fb,aj];repeat' (first|refine ax ?_ ?_|fail)<;>intro h<;>simp only[h,go_sem,go_sem_proc,bC,az,cm,bP,wC,d1,Fb,aj]





theorem setRow {l:List e0}{k:Nat}(h:k<D l)(A:List bg)(a:Int)(b:List Int)(c:Int)(d:List Int):
  gu (k*5) (a7 iX l)++[R.J (.Y (A.map aE)),R.J (.int .i64 a),.J (.Y (b.map ae)),.J (.int .i64 c),.J (.Y (d.map ae))]++gL (k*5+5) (a7 iX l)=a7 iX (l.set k (A,((a,b),(c,d)))):=by
 rw[<-T2 XF h]
 rfl
theorem S3 {K:bd->Prop}{tm:Nat->R}{m:Mem}(P:(Nat->R)->Mem->Prop)(ao:P tm m)(h:∀tm m,P tm m->K ⟨tm,m⟩):kD K ⟨tm,m⟩ .move:=aqP (h tm m ao)
theorem acH:∀{cs:List au} {ps Jg:List Rat} {i:Int} {k:Nat} {c:au},D ps=(D cs)->(D Jg)=(D cs)->fT cs ps i=fT cs Jg i->cs[k]?=some c->c.1=i->ps[k]?=Jg[k]?
 | [],_,_,_,k,c,_,_,_,Q,_=>by simp at Q
 |_::_,[],_,_,_,_,h,_,_,_,_=>by simp at h
 |_::_,_::_,[],_,_,_,_,h,_,_,_=>by simp at h
 |a::cs,p::ps,pn::Jg,i,k,c,eh,aq,h,Q,H=>by
  rw[fT,fT] at h;have anC:(D ps)=D cs:=by simpa using eh
  have anD:(D Jg)=D cs:=by simpa using aq
  by_cases aN:(a.1==i)=true
  ·rw[ad aN,ad aN] at h;obtain⟨F,I⟩:=List.cons.inj h
   cases k with
   |zero=>rw[vl,vl,F]
   |succ k=>rw[zc,zc];exact acH anC anD I (by simpa using Q) H
  ·rw[ah aN,ah aN] at h
   cases k with
   |zero =>
    rw[vl,ca] at Q;rw[Q] at aN;exact absurd (beq_iff_eq.2 H) aN
   |succ k=>rw[zc,zc];exact acH anC anD h (by simpa using Q) H
theorem anE (E:List Int)(cs:List au):(q8 E cs).length=D E:=by unfold q8;simp
theorem anF (E:List Int)(cs:List au):(fU E cs).length=D cs:=by unfold fU;simp
theorem anG (fl:List (List Int))(n:Int):(ra fl n).flatten=pc n fl.flatten:=by
 unfold ra pc
 induction fl with
 |nil=>rfl
 |cons r fl ay=>rw[eA,jt,jt,pG,ay]
section
variable {E:List Int} {cs:List au} (U:fo E cs)
include U
theorem aEY {k:Nat}(Q:k<D E){x:Rat}(O:dU 460 x)(bE:x≠(aB E cs).cL k):∃v:Int,(v==0)=false/\sg [.Y (E.map ae),.Y (cs.map ck),.agg [.Y (((lp E cs).set k (av x)).map aE),.Y ((oE E cs).map aE),.Y ((ke E cs).map fj)]]=some (.same (.int .i64 v)):=by
 have ar:=anE E cs
 have h:=Ju E cs ((q8 E cs).set k x) (fU E cs) (ke E cs) (acB U (by rw[hn,ar]) (anF E cs) (λy aw=>by
  rcases yU aw with h|rfl
  ·obtain⟨j,ai,rfl⟩:=dT.1 h;exact (y7 U (gX.1 ai)).mono (by omega)
  ·exact O) (λab=>(anz ab).2.2.2.1) (Fy U).lim (Jv U))
 rw[vV,NG,NC] at h;refine⟨_,beq_eq_false_iff_ne.2 λao=>?_,h⟩;have F:=(acA ((anx ao).2.1 k Q)).1;rw[am4 U Q,ca,ep,Gl (by rw[ar];exact Q),Kn] at F;exact bE F.symm
theorem aEZ {k:Nat}{c:au}(H:cs[k]?=some c){x:Rat}(O:dv x)(bE:x≠e1 cs ((aB E cs).cL c.1.toNat) c):∃v:Int,(v==0)=false/\sg [.Y (E.map ae),.Y (cs.map ck),.agg [.Y ((lp E cs).map aE),.Y (((oE E cs).set k (av x)).map aE),.Y ((ke E cs).map fj)]]=some (.same (.int .i64 v)):=by
 have ar:=anF E cs;have l7:k<D cs:=(dD.1 H).1
 have h:=Ju E cs (q8 E cs) ((fU E cs).set k x) (ke E cs) (acB U (anE E cs) (by rw[hn,ar]) (λy aw=>by
  obtain⟨j,ai,rfl⟩:=dT.1 aw;exact (y7 U (gX.1 ai)).mono (by omega)) (λab=>(anz ab).2.2.2.1) (λy aw=>by
  rcases yU aw with h|rfl
  ·exact (Fy U).lim y h
  ·exact O) (Jv U))
 rw[vV,NG,NC] at h;refine⟨_,beq_eq_false_iff_ne.2 λao=>?_,h⟩;have lR:=(hD.1 U.right).2.2.2 c (ei H);have M:c.1.toNat<D E:=by omega
 have az:=(acA ((anx ao).2.1 c.1.toNat M)).2;have aD:=(acA (am7 U M)).2;have bZ:=acH (by rw[hn,ar]) ar (az.trans aD.symm) H (by omega);rw[Gl (by rw[ar];exact l7)] at bZ;unfold fU at bZ;rw[bn,H,k5,ca] at bZ;exact bE bZ
theorem aE0 {n:Int}(h:n∈ga cs (fU E cs) (D E)):sg [.Y (E.map ae),.Y (cs.map ck),.agg [.Y ((lp E cs).map aE),.Y ((oE E cs).map aE),.Y ((ra (ke E cs) n).map fj)]]=some (.same (.int .i64 24)):=by
 have bc:=Jv U;refine anw U ⟨by unfold ra;rw[aj];exact bc.len,?_⟩ ?_
 ·rw[anG];have F:(pc n (ke E cs).flatten).length<=(ke E cs).flatten.length:=mY _ _;have:=bc.names;omega
 ·unfold nW
  have I:(ga cs (fU E cs) (D E)).all (λx=>decide (x∈(ra (ke E cs) n).flatten))=false:=by
   rw[anH];refine⟨n,h,?_⟩;rw[anG,decide_eq_true_iff];intro hm;unfold pc at hm;have:=(List.mem_filter.1 hm).2;simp at this
  rw[I,hP,hP]
theorem aE1 {n:Int}(h:n ∉ ga cs (fU E cs) (D E)):sg [.Y (E.map ae),.Y (cs.map ck),.agg [.Y ((lp E cs).map aE),.Y ((oE E cs).map aE),.Y ((ke E cs++[[n]]).map fj)]]=some (.same (.int .i64 24)):=by
 have bc:=ND U;refine anw U ⟨?_,?_⟩ ?_
 ·have:(ke E cs).length<=60:=by
   unfold ke Day.iY;rw[aj];have F:=Nq (aB E cs) (10*(aB E cs).n) λ_=>10;have jB:(aB E cs).n=D E:=rfl;have:=U.n5;omega
  rw[fr,vQ];omega
 ·have:=bc.names;have F:([[n]]:List (List Int)).flatten.length=1:=rfl;rw[EL,fr];omega
 ·unfold nW
  have I:(ke E cs++[[n]]).flatten.all (λx=>decide (x∈ga cs (fU E cs) (D E)))=false:=by
   rw[anH];exact⟨n,by simp,by rw[decide_eq_true_iff];exact h⟩
  rw[I,fu,hP]
end
theorem aE2 {b:Int}(h:-128<=b/\b<=127):HB [.int .i64 b,.int .i64 3]=some (.same (.cM [.agg (aE (av ((b:Rat)/((3:Int):Rat)))),.int .i64 0])):=by
 have ag:dC b:=o6 (by omega) (by omega);have af:dC 3:=o6 (by omega) (by omega);have F:=agS b 3 ⟨ag,af⟩;rw[ajO ag af (by decide)] at F;exact F
theorem aE3 {b:Int}(h:-128<=b/\b<=127)(ao:b≠0):dU 10 ((b:Rat)/((3:Int):Rat))/\(b:Rat)/((3:Int):Rat)≠0:=by
 refine⟨aiv (xK (b:=8) (by omega)) (xK (b:=2) (by decide)) (by decide),λe=>?_⟩;have af:((3:Int):Rat)≠0:=by decide
 have aD:(b:Rat)=(b:Rat)/((3:Int):Rat)*((3:Int):Rat):=by grind
 rw[e,Rat.zero_mul] at aD;exact ao (by exact_mod_cast aD)
abbrev acI:(List Int)×(List au)×Nat×Int->List Data:=λ(E,cs,ka,b)=>[.Y (E.map ae),.Y (cs.map ck),.int .u8 (ka:Int),.int .i8 b]
def acJ:=cu acI λ(E,cs,ka,b)=>cU (ka<256 /\ -128<=b/\b<=127) (.same (.bool true))
theorem aE4:∀a b,acI a=acI b->a=b:=by
  rintro⟨uO,uP,aMk,di⟩ ⟨uQ,n3,aMl,eK⟩ h;simp only[bf,Data.Y.injEq,Data.int.injEq,and_true,true_and] at h;exact dR (map_inj fh _ _ h.1) (dR (map_inj r0 _ _ h.2.1) (dR (Int.ofNat.inj h.2.2.1) h.2.2.2))
@[go_sem] theorem aE5 (E:List Int)(cs:List au)(ka:Nat)(b:Int)(H:ka<256 /\ -128<=b/\b<=127):acJ [.Y (E.map ae),.Y (cs.map ck),.int .u8 (ka:Int),.int .i8 b]=some (.same (.bool true)):=(cD aE4 (E,cs,ka,b)).trans (cZ H _)
theorem aE6 (T:bl)(mn:T UZ=aW acE)(mo:T U0=aW ack)(mq:T UC=aW SI)(lr:T wZ=aW sg)(lq:T Gx=aW HB)(fM:T tO=aW yN)(lu:T KX=aW NI)(mr:T U2=aW acn)(mu:T U3=aW acG)(E:List Int)(cs:List au)(ka:Nat)(b:Int)(H:ka<256 /\ -128<=b/\b<=127):WP T acf (.same (.bool true)) [.J (.Y (E.map ae)),.J (.Y (cs.map ck)),.J (.int .u8 (ka:Int)),.J (.int .i8 b)]:=by
 refine cE ?_;simp only[acf];obtain⟨aMm,Nn⟩:=H;have q3:=aER;have cF:=aD1 E cs [] [] [];simp only[kT,cY] at cF;rcases aH:Dd E cs [] [] []
 ·rw[aH] at cF;simp only[go_sem,go_sem_proc,mn,mo,mq,lr,lq,fM,lu,mr,mu,q3,cF,dH];repeat' (first|refine ax ?_ ?_|fail)<;>intro h<;>simp only[h,go_sem,go_sem_proc,mn,mo,mq,lr,lq,fM,lu,mr,mu,q3,cF,dH]
 rw[aH] at cF;rcases FB:(b==0)
 case true =>
        simp only[go_sem,go_sem_proc,mn,mo,mq,lr,lq,fM,lu,mr,mu,q3,cF,FB,c5];repeat' (first|refine ax ?_ ?_|fail)<;>intro h<;>simp only[h,go_sem,go_sem_proc,mn,mo,mq,lr,lq,fM,lu,mr,mu,q3,cF,FB,c5]
 have qI:b≠0:=beq_eq_false_iff_ne.1 FB;have uY:=ams E cs (ang aH);unfold Jc at uY;rcases ab:jr E cs
 ·rw[ah (by rw[ab];decide)] at uY;simp only[go_sem,go_sem_proc,mn,mo,mq,lr,lq,fM,lu,mr,mu,q3,cF,FB,uY,show ((1:Int)==0)=false from rfl,bne,dH,c5];repeat' (first|refine ax ?_ ?_|fail)<;>intro h<;>simp only[h,go_sem,go_sem_proc,mn,mo,mq,lr,lq,fM,lu,mr,mu,q3,cF,FB,uY,show ((1:Int)==0)=false from rfl,bne,dH,c5]
 rw[ad ab] at uY;have U:=(ang aH).q3 ab;have aMn:=U.n5;have iV:=U.rZ;have ar:(lp E cs).length=D E:=qf _ _;have hle:(((lp E cs).length:Int)==(D E:Int))=true:=by rw[ar];exact beq_self_eq_true _
 have cf:(oE E cs).length=D cs:=by unfold oE;rw[aj]
 have Tz:(((oE E cs).length:Int)==(D cs:Int))=true:=by rw[cf];exact beq_self_eq_true _
 have S4:=aEJ U;rw[<-amY] at uY S4;have acK:=aE2 Nn;obtain⟨Bd,Ar⟩:=aE3 Nn qI;have anI:IntKind.i64.wrap b=b:=by rw[fc _]
 have Jw:=anb E cs (lp E cs) (fU E cs) (ke E cs) ⟨by omega,by omega,abF U,(am8 U).p,λ_=>Fy U⟩
 unfold Jo at Jw;have OQ:=am6 U;rw[NG] at OQ;rw[ad OQ] at Jw;simp only[kT] at Jw;rw[NC] at Jw;have Gd:=Nv cs (fU E cs) (D E);have AE:∀i,i<(D E)->dU 428 ((aB E cs).cL i):=λi M=>y7 U M;have anJ:∀c∈cs,dU 482 (e1 cs ((aB E cs).cL c.1.toNat) c):=λc H=>by rw[<-MK U.right _ H];exact Rt U H
 have aE7:∀i,i<(D E)->(lp E cs)[i]?=some (av ((aB E cs).cL i)):=λi M=>uJ _ M;have anK:∀k c,cs[k]?=some c->(oE E cs)[k]?=some (av (e1 cs ((aB E cs).cL c.1.toNat) c)):=λk c H=>by unfold oE;rw[bn,H];rfl
 have eX:=λk Q x O bE=>aEY U (k:=k) Q (x:=x) O bE;have eg:=λk c H x O bE=>aEZ U (k:=k) (c:=c) H (x:=x) O bE;have aca:=λn h=>aE0 U (n:=n) h;have C6:=λn h=>aE1 U (n:=n) h;have jQ:=(Jv U).len
 have bV:∀r∈ke E cs,D r<=1000:=λr ab=>by
  have F:=(Jv U).names;have I:(D r)<=(ke E cs).flatten.length:=(List.sublist_flatten_of_mem ab).length_le;omega
 have aMo:(ke E cs).length+1<=1000:=by
  have:(ke E cs).length<=60:=by
   unfold ke Day.iY;rw[aj];have F:=Nq (aB E cs) (10*(aB E cs).n) λ_=>10;have jB:(aB E cs).n=D E:=rfl;omega
  omega
 generalize (aB E cs).cL=cL at *;generalize ga cs (fU E cs) (D E)=anL at *;generalize ke E cs=mv at *;generalize lp E cs=ml at *;generalize oE E cs=ie at *;generalize (b:Rat)/((3:Int):Rat)=q at *;generalize acL:av q=QE at *;obtain⟨⟨gF,eV⟩,⟨qd,l8⟩⟩:=QE;simp only[aE] at acK
 have NN:∀L:List bg,((L.map aE).all λe=>D e==4)=true:=λL=>by
  rw[jh];intro e he;obtain⟨f,-,rfl⟩:=dT.1 he
  rfl
 have aE8:∀L:List (List Int),((L.map fj).all λe=>D e==1)=true:=λL=>by
  rw[jh];intro e he;obtain⟨f,-,rfl⟩:=dT.1 he
  rfl
 have NO:∀L:List bg,(L.map aE).flatten.map R.J=a7 aE L:=λL=>rfl;have aE9:∀L:List (List Int),(L.map fj).flatten.map R.J=a7 fj L:=λL=>rfl;rcases S5:decide ((D E:Int)>0)
 ·have aFa:cs=[]:=by
   cases cs with
   |nil=>rfl
   |cons c l =>
    have:=(hD.1 ab).2.2.2 c (by simp);have:=of_decide_eq_false S5;omega
  subst aFa;have akY:E=[]:=oM (by have:=of_decide_eq_false S5;omega);subst akY;have aFb:ml=[]:=oM (by simpa using ar);have amP:ie=[]:=oM (by simpa using cf);subst aFb amP;simp only[cY] at cF uY S4;simp only[cY];simp only[go_sem,go_sem_proc,mn,mo,mq,lr,lq,fM,lu,mr,mu,q3,cF,FB,uY,S4,anI,acK,show decide (((0:Nat):Int)>0)=false from rfl,jy,aE,aj,bne,beq_self_eq_true,c5,dH];refine S3 (λtm m=>tm 1=.J (.Y [])/\tm 9=.J (.bool true)) (by refine⟨?_,?_⟩<;>first|rfl|simp only[go_sem,go_sem_proc,mn,mo,mq,lr,lq,fM,lu,mr,mu]) ?_
  rintro tm m ⟨az,ej⟩;simp only[go_sem,go_sem_proc,mn,mo,mq,lr,lq,fM,lu,mr,mu,az,ej,jy,show decide (((0:Nat):Int)>0)=false from rfl];repeat' (first|refine ax ?_ ?_|fail)<;>intro h<;>simp only[h,go_sem,go_sem_proc,mn,mo,mq,lr,lq,fM,lu,mr,mu,az,ej,jy,show decide (((0:Nat):Int)>0)=false from rfl]
 have lz:0<D E:=by have:=of_decide_eq_true S5;omega
 have NP:IntKind.i64.wrap ((ka:Nat):Int)=(ka:Int):=by rw[fc _]
 have aFc:((ka:Nat):Int).tmod ((D E:Nat):Int)=((ka%(D E):Nat):Int):=rfl;have aFd:(((D E:Nat):Int)=0)=False:=eq_false (by omega);have l7:ka%(D E)<D E:=oj _ lz;generalize ka%(D E)=k at *;have tj:=MG (hL (AE k l7) (by omega)) (hL Bd (by omega)) (y4 (AE k l7) Bd (by omega));obtain⟨v1,ki,fH⟩:=eX k l7 (cL k+q) ((Mw (AE k l7) Bd).mono (by omega)) (λh=>Ar (by grind));have De:=aE7 k l7;rw[acL] at tj;generalize av (cL k+q)=c6 at *;generalize aMp:av (cL k)=GK at *;obtain⟨⟨a2,bS⟩,⟨cP,dJ⟩⟩:=c6;obtain⟨⟨cv,cS⟩,⟨eF,ks⟩⟩:=GK;simp only[aE] at tj;have dg:=yr kO As 366089 0 64 [] ml (by simp;omega) (by simp;omega)
 have dg:kW 366089 0 4 0 64 (D E) (a7 aE ml) (some (0,[]))=some (.ref 366089 1 4 0 (D E),some (366089,1,a7 aE ml)):=by
  simpa [a7,ar] using dg
 have acM:k<D ml:=by omega
 have t2:=AB (l:=ml) (k:=k) acM;have t3:=HF (l:=ml) (k:=k) acM a2 bS cP dJ
 have cC:∀mem:Mem,mem 366089=some (1,a7 aE (ml.set k ((a2,bS),(cP,dJ))))->cl 6 mem (.agg [.ref 366089 1 4 0 (D E),.J (.Y (ie.map aE)),.J (.Y (mv.map fj))])=some (.agg [.Y ((ml.set k ((a2,bS),(cP,dJ))).map aE),.Y (ie.map aE),.Y (mv.map fj)]):=λmem h=>by
  have F:=oa (n:=4) kO h;rw[hn,ar] at F;rw[OO];simp only[ju,wU,F,BH];rfl
 have Df:cl 6 emp (.agg [.ref 366089 1 4 0 (D E),.J (.Y (ie.map aE)),.J (.Y (mv.map fj))])=none:=rfl;simp only[go_sem,go_sem_proc,mn,mo,mq,lr,lq,fM,lu,mr,mu,q3,cF,FB,uY,hle,Tz,S4,anI,acK,S5,NP,aFc,aFd,De,l7,acM,tj,NN,NO,ar,dg,t2,t3,cC,Df,fH,ki,pV,scalar,aE,aj,bn,cI,bne,beq_self_eq_true,c5,dH,ir,iz];refine S3 (λtm m=>tm 0=.J (.Y (E.map ae))/\tm 1=.J (.Y (cs.map ck))/\tm 2=.J (.int .u8 (ka:Int))/\tm 9=.J (.bool true)/\tm 10=.ptr 366010 0 0/\tm 12=.ptr 366012 0 0/\tm 14=.J (.int .i64 (k:Int))/\tm 17=.ptr 366017 0 0/\m 366010=some (0,[.J (.Y (ml.map aE)),.J (.Y (ie.map aE)),.J (.Y (mv.map fj))])/\m 366012=some (0,[.J (.int .i64 gF),.J (.Y (eV.map ae)),.J (.int .i64 qd),.J (.Y (l8.map ae))])/\m 366017=some (0,[.ref 366089 1 4 0 (D E),.J (.Y (ie.map aE)),.J (.Y (mv.map fj))])/\m 366121=none/\m 366154=none) (by refine⟨?_,?_,?_,?_,?_,?_,?_,?_,?_,?_,?_,?_,?_⟩<;>first|rfl|simp only[go_sem,go_sem_proc,mn,mo,mq,lr,lq,fM,lu,mr,mu]) ?_
 rintro tm m ⟨bC,az,aD,ej,dx,er,xz,iB,wD,wE,uS,acN,zo⟩;clear cC Df t2 t3 dg tj fH ki eX De;have S6:=aD5 anL (k:Int) (by omega);rcases d1:decide ((k:Int)∈anL)
 ·rw[d1] at S6;have Bw:=C6 (k:Int) (of_decide_eq_false d1)
  have QM:kW 366121 0 1 0 24 (D mv) (a7 fj mv) (some (0,[]))=some (.ref 366121 1 1 0 (D mv),some (366121,1,a7 fj mv)):=by
   have:=yr NM (λ_=>rfl) 366121 0 24 [] mv (by simp;omega) (by simp;omega)
   simpa [a7] using this
  have SP:=k6 NM (λ_=>rfl) 366121 1 24 mv [(k:Int)] (cs:=[.J (.Y [[.int .i64 (k:Int)]])]) rfl (by omega) (by omega)
  have ED:∀mem:Mem,mem 366121=some (2,a7 fj (mv++[[(k:Int)]]))->cl 6 mem (.agg [.J (.Y (ml.map aE)),.J (.Y (ie.map aE)),.ref 366121 2 1 0 (D mv+1)])=some (.agg [.Y (ml.map aE),.Y (ie.map aE),.Y ((mv++[[(k:Int)]]).map fj)]):=λmem h=>by
   have F:=oa (n:=4) NM h;rw[fr,vQ] at F;rw[OO];simp only[ju,wU,F,BH];rfl
  have anM:cl 6 emp (.agg [.J (.Y (ml.map aE)),.J (.Y (ie.map aE)),.ref 366121 2 1 0 (D mv+1)])=none:=rfl;simp only[go_sem,go_sem_proc,mn,mo,mq,lr,lq,fM,lu,mr,mu,bC,az,aD,ej,dx,er,xz,iB,wD,wE,uS,acN,Jw,S6,aE8,aE9,QM,SP,ED,anM,Bw,pV,scalar,aj,List.length_cons,jy,jv,bne,beq_self_eq_true,c5,dH,ir,iz];refine S3 (λtm m=>tm 0=.J (.Y (E.map ae))/\tm 1=.J (.Y (cs.map ck))/\tm 2=.J (.int .u8 (ka:Int))/\tm 9=.J (.bool true)/\tm 10=.ptr 366010 0 0/\tm 12=.ptr 366012 0 0/\m 366010=some (0,[.J (.Y (ml.map aE)),.J (.Y (ie.map aE)),.J (.Y (mv.map fj))])/\m 366012=some (0,[.J (.int .i64 gF),.J (.Y (eV.map ae)),.J (.int .i64 qd),.J (.Y (l8.map ae))])/\m 366154=none) (by refine⟨?_,?_,?_,?_,?_,?_,?_,?_,?_⟩<;>first|rfl|simp only[go_sem,go_sem_proc,mn,mo,mq,lr,lq,fM,lu,mr,mu,bC,az,aD,ej,dx,er,wD,wE,zo]) ?_
  clear bC az aD ej dx er xz iB wD wE uS acN zo ED anM QM SP Bw tm m;rintro tm m ⟨bC,az,aD,ej,dx,er,wD,wE,zo⟩;rcases xY:decide ((D cs:Int)>0)
  ·simp only[go_sem,go_sem_proc,mn,mo,mq,lr,lq,fM,lu,mr,mu,bC,az,aD,ej,dx,er,xY,aj];repeat' (first|refine ax ?_ ?_|fail)<;>intro h<;>simp only[h,go_sem,go_sem_proc,mn,mo,mq,lr,lq,fM,lu,mr,mu,bC,az,aD,ej,dx,er,xY,aj]
  have kH:0<D cs:=by have:=of_decide_eq_true xY;omega
  have NQ:((ka:Nat):Int).tmod ((D cs:Nat):Int)=((ka%(D cs):Nat):Int):=rfl;have NR:(((D cs:Nat):Int)=0)=False:=eq_false (by omega);have FC:ka%(D cs)<D cs:=oj _ kH;generalize ka%(D cs)=cS at *;obtain⟨c,H⟩:∃c,cs[cS]?=some c:=⟨_,bz FC⟩;have FD:=anJ c (ei H);have tj:=MG (hL FD (by omega)) (hL Bd (by omega)) (y4 FD Bd (by omega));obtain⟨v1,ki,fH⟩:=eg cS c H (e1 cs (cL c.1.toNat) c+q) (hL (Mw FD Bd) (by omega)) (λh=>Ar (by grind));have De:=anK cS c H;rw[acL] at tj;generalize av (e1 cs (cL c.1.toNat) c+q)=c6 at *;generalize av (e1 cs (cL c.1.toNat) c)=GP at *;obtain⟨⟨a2,bS⟩,⟨cP,dJ⟩⟩:=c6;obtain⟨⟨aFe,abg⟩,⟨aFf,aFg⟩⟩:=GP;simp only[aE] at tj
  have dg:kW 366154 0 4 0 64 (D cs) (a7 aE ie) (some (0,[]))=some (.ref 366154 1 4 0 (D cs),some (366154,1,a7 aE ie)):=by
   have:=yr kO As 366154 0 64 [] ie (by simp;omega) (by simp;omega)
   simpa [a7,cf] using this
  have Be:cS<D ie:=by omega
  have t2:=AB (l:=ie) (k:=cS) Be;have t3:=HF (l:=ie) (k:=cS) Be a2 bS cP dJ
  have cC:∀mem:Mem,mem 366154=some (1,a7 aE (ie.set cS ((a2,bS),(cP,dJ))))->cl 6 mem (.agg [.J (.Y (ml.map aE)),.ref 366154 1 4 0 (D cs),.J (.Y (mv.map fj))])=some (.agg [.Y (ml.map aE),.Y ((ie.set cS ((a2,bS),(cP,dJ))).map aE),.Y (mv.map fj)]):=λmem h=>by
   have F:=oa (n:=4) kO h;rw[hn,cf] at F;rw[OO];simp only[ju,wU,F,BH];rfl
  have Df:cl 6 emp (.agg [.J (.Y (ml.map aE)),.ref 366154 1 4 0 (D cs),.J (.Y (mv.map fj))])=none:=rfl;simp only[go_sem,go_sem_proc,mn,mo,mq,lr,lq,fM,lu,mr,mu,bC,az,aD,ej,dx,er,wD,wE,zo,xY,NP,NQ,NR,FC,Be,De,tj,NN,NO,cf,dg,t2,t3,cC,Df,fH,ki,pV,scalar,aE,aj,bn,cI,bne,beq_self_eq_true,c5,dH,ir,iz];repeat' (first|refine ax ?_ ?_|fail)<;>intro h<;>simp only[h,go_sem,go_sem_proc,mn,mo,mq,lr,lq,fM,lu,mr,mu,bC,az,aD,ej,dx,er,wD,wE,zo,xY,NP,NQ,NR,FC,Be,De,tj,NN,NO,cf,dg,t2,t3,cC,Df,fH,ki,pV,scalar,aE,aj,bn,cI,bne,beq_self_eq_true,c5,dH,ir,iz]
 ·rw[d1] at S6;have Bw:=aca (k:Int) (of_decide_eq_true d1);have hw:=aEW mv (k:Int) ⟨jQ,bV⟩;simp only[go_sem,go_sem_proc,mn,mo,mq,lr,lq,fM,lu,mr,mu,bC,az,aD,ej,dx,er,xz,iB,wD,wE,uS,Jw,S6,hw,Bw,aj,bne,beq_self_eq_true,c5];refine S3 (λtm m=>tm 0=.J (.Y (E.map ae))/\tm 1=.J (.Y (cs.map ck))/\tm 2=.J (.int .u8 (ka:Int))/\tm 9=.J (.bool true)/\tm 10=.ptr 366010 0 0/\tm 12=.ptr 366012 0 0/\m 366010=some (0,[.J (.Y (ml.map aE)),.J (.Y (ie.map aE)),.J (.Y (mv.map fj))])/\m 366012=some (0,[.J (.int .i64 gF),.J (.Y (eV.map ae)),.J (.int .i64 qd),.J (.Y (l8.map ae))])/\m 366154=none) (by refine⟨?_,?_,?_,?_,?_,?_,?_,?_,?_⟩<;>first|rfl|simp only[go_sem,go_sem_proc,mn,mo,mq,lr,lq,fM,lu,mr,mu,bC,az,aD,ej,dx,er,wD,wE,zo]) ?_
  clear bC az aD ej dx er xz iB wD wE uS acN zo Bw hw tm m;rintro tm m ⟨bC,az,aD,ej,dx,er,wD,wE,zo⟩;rcases xY:decide ((D cs:Int)>0)
  ·simp only[go_sem,go_sem_proc,mn,mo,mq,lr,lq,fM,lu,mr,mu,bC,az,aD,ej,dx,er,xY,aj];repeat' (first|refine ax ?_ ?_|fail)<;>intro h<;>simp only[h,go_sem,go_sem_proc,mn,mo,mq,lr,lq,fM,lu,mr,mu,bC,az,aD,ej,dx,er,xY,aj]
  have kH:0<D cs:=by have:=of_decide_eq_true xY;omega
  have NQ:((ka:Nat):Int).tmod ((D cs:Nat):Int)=((ka%(D cs):Nat):Int):=rfl;have NR:(((D cs:Nat):Int)=0)=False:=eq_false (by omega);have FC:ka%(D cs)<D cs:=oj _ kH;generalize ka%(D cs)=cS at *;obtain⟨c,H⟩:∃c,cs[cS]?=some c:=⟨_,bz FC⟩;have FD:=anJ c (ei H);have tj:=MG (hL FD (by omega)) (hL Bd (by omega)) (y4 FD Bd (by omega));obtain⟨v1,ki,fH⟩:=eg cS c H (e1 cs (cL c.1.toNat) c+q) (hL (Mw FD Bd) (by omega)) (λh=>Ar (by grind));have De:=anK cS c H;rw[acL] at tj;generalize av (e1 cs (cL c.1.toNat) c+q)=c6 at *;generalize av (e1 cs (cL c.1.toNat) c)=GP at *;obtain⟨⟨a2,bS⟩,⟨cP,dJ⟩⟩:=c6;obtain⟨⟨aFe,abg⟩,⟨aFf,aFg⟩⟩:=GP;simp only[aE] at tj
  have dg:kW 366154 0 4 0 64 (D cs) (a7 aE ie) (some (0,[]))=some (.ref 366154 1 4 0 (D cs),some (366154,1,a7 aE ie)):=by
   have:=yr kO As 366154 0 64 [] ie (by simp;omega) (by simp;omega)
   simpa [a7,cf] using this
  have Be:cS<D ie:=by omega
  have t2:=AB (l:=ie) (k:=cS) Be;have t3:=HF (l:=ie) (k:=cS) Be a2 bS cP dJ
  have cC:∀mem:Mem,mem 366154=some (1,a7 aE (ie.set cS ((a2,bS),(cP,dJ))))->cl 6 mem (.agg [.J (.Y (ml.map aE)),.ref 366154 1 4 0 (D cs),.J (.Y (mv.map fj))])=some (.agg [.Y (ml.map aE),.Y ((ie.set cS ((a2,bS),(cP,dJ))).map aE),.Y (mv.map fj)]):=λmem h=>by
   have F:=oa (n:=4) kO h;rw[hn,cf] at F;rw[OO];simp only[ju,wU,F,BH];rfl
  have Df:cl 6 emp (.agg [.J (.Y (ml.map aE)),.ref 366154 1 4 0 (D cs),.J (.Y (mv.map fj))])=none:=rfl;simp only[go_sem,go_sem_proc,mn,mo,mq,lr,lq,fM,lu,mr,mu,bC,az,aD,ej,dx,er,wD,wE,zo,xY,NP,NQ,NR,FC,Be,De,tj,NN,NO,cf,dg,t2,t3,cC,Df,fH,ki,pV,scalar,aE,aj,bn,cI,bne,beq_self_eq_true,c5,dH,ir,iz];repeat' (first|refine ax ?_ ?_|fail)<;>intro h<;>simp only[h,go_sem,go_sem_proc,mn,mo,mq,lr,lq,fM,lu,mr,mu,bC,az,aD,ej,dx,er,wD,wE,zo,xY,NP,NQ,NR,FC,Be,De,tj,NN,NO,cf,dg,t2,t3,cC,Df,fH,ki,pV,scalar,aE,aj,bn,cI,bne,beq_self_eq_true,c5,dH,ir,iz]
end Go.Mini
namespace Go.Mini
open Go Go.Proofs
theorem mixed:Tryz.prog.follows .mixedOrders=true:=by kernel_rfl
abbrev acO:Option eR->(eR->Prop)->Prop
 |some r,aM=>aM r
 |none,_=>True
theorem c7 {c:Prop}{r:eR}{aM:eR->Prop}(h:c->aM r):acO (cU c r) aM:=by
 by_cases H:c
 ·rw[cZ H];exact h H
 ·have:cU c r=none:=ah H;rw[this];trivial
abbrev cG:=tH Tryz.prog
theorem xZ (mf : bY)(kb : Nat)(own : List Nat){α : Type}{args : α -> List Data}{res : α -> Option eR}{l : List (FuncId × (List Data -> Option eR))}{e : List (FuncId × (List R -> Mem -> Option g0))}(ar : ∀ p ∈ l, tH Tryz.prog p.1 p.2)(he : ∀ p ∈ e, lj Tryz.prog p.1 p.2){f : FuncId}{fn : Func}(aH : Tryz.prog.funcs[f]? = some fn)(h : ∀ a, acO (res a) fun r => Nat.ble (args a).length mf.n = true /\ wp (xt (OP l) (Qv e)) mf.body (zM mf.res r) ⟨lv ((args a).map .J), emp⟩)(aK : (fn.name == "runtime.NumGoroutine", sw Tryz.prog kb own fn) = (false, some { mf with body := erase mf.body }) := by kernel_rfl): cG f (cu args res) := aqA (vS (vo ar) (vT he)) mixed aH (congrArg Prod.fst aK) (congrArg Prod.snd aK) fun ds r ab => by
 obtain⟨a,rfl,I⟩:=aqR ab;have af:=h a;rw[I] at af;exact⟨x0 af.1,af.2⟩
theorem cV (mf : bY)(kb : Nat)(own : List Nat){α : Type}{args : α -> List Data}{res : α -> Option eR}{l : List (FuncId × (List Data -> Option eR))}(ar : ∀ p ∈ l, tH Tryz.prog p.1 p.2){f : FuncId}{fn : Func}(aH : Tryz.prog.funcs[f]? = some fn)(h : ∀ a, acO (res a) fun r => Nat.ble (args a).length mf.n = true /\ wp (xt (OP l) (Qv [])) mf.body (zM mf.res r) ⟨lv ((args a).map .J), emp⟩)(aK : (fn.name == "runtime.NumGoroutine", sw Tryz.prog kb own fn) = (false, some { mf with body := erase mf.body }) := by kernel_rfl): cG f (cu args res) := xZ mf kb own ar nf aH h aK
theorem bo {lU:FuncId->Option (List Data->Option eR)}{sS:FuncId->Option (List R->Mem->Option g0)}{f:FuncId}{aP:List Data->Option eR}(F:sS f=none:=by rfl)(I:lU f=some aP:=by rfl):xt lU sS f=aW aP:=o1 F I
theorem Jx:cG qF zW:=cV D4 177000 [] cn Tryz.func190 λa8=>c7 λH=>⟨rfl,arz _  a8 H⟩
theorem Jy:lj Tryz.prog qF (BK vz):=KC.agU (aeL (mf:=D4) (kb:=177000) (own:=[]) (vS (vo cn) (vT nf)) mixed Tryz.func190 (by kernel_rfl) (by kernel_rfl) λargs mem x h=>by
 obtain⟨a,⟨rfl,hm,ar⟩,rfl⟩:=Uf h;exact⟨x0 rfl,arA _ a.l a.k a.g mem hm ar⟩)
theorem aFh:cG O1 VF:=cV Vp 184000 [] cn Tryz.func194 λa8=>⟨rfl,arB _  a8⟩
theorem anN:cG GC Pf:=cV Vn 174000 [] (bb aFh cn) Tryz.func159 fun⟨a8,a2⟩=>⟨rfl,arC _ bo a8 a2⟩
theorem aFi:cG UA VG:=cV Vo 179000 [] cn Tryz.func195 λa8=>c7 λH=>⟨rfl,arF _  a8 H⟩
theorem NS:cG vt BS:=cV Vv 156000 [5] cn Tryz.func94 λa8=>c7 λH=>⟨rfl,arG _  a8 H⟩
theorem Bf:cG k7 w5:=cV U6 136000 [] cn Tryz.func146 fun⟨a8,a2⟩=>c7 λH=>⟨rfl,arH _  a8 a2 H⟩
theorem Jz:cG pr BU:=xZ Vf 158000 [] (bb Jx cn) (p5 Jy nf) Tryz.func150 fun⟨a8,a2⟩=>c7 λH=>⟨rfl,arJ _ (HC rfl rfl) a8 a2 H⟩
theorem acP:cG DS K8:=cV Vl 175000 [] (bb anN cn) Tryz.func160 fun⟨a8,a2⟩=>c7 λH=>⟨rfl,arM _ bo a8 a2 H⟩
theorem anO:cG KK Pk:=xZ Vj 172000 [] (bb Jx cn) (p5 Jy nf) Tryz.func157 fun⟨a8,a2⟩=>c7 λH=>⟨rfl,arN _ (HC rfl rfl) a8 a2 H⟩
theorem anP:cG GA Pl:=xZ Vk 173000 [10] (bb NS (bb Jx cn)) (p5 Jy nf) Tryz.func158 fun⟨a8,a2⟩=>c7 λH=>⟨rfl,arP _ bo (HC rfl rfl) a8 a2 H⟩
theorem anQ:cG Gz Pm:=xZ Vi 161000 [] (bb Jx cn) (p5 Jy nf) Tryz.func151 fun⟨a8,a2⟩=>c7 λH=>⟨rfl,arS _ (HC rfl rfl) a8 a2 H⟩
theorem aFj:cG O0 VT:=xZ Vm 176000 [] (bb Jx cn) (p5 Jy nf) Tryz.func192 fun⟨a8,a2⟩=>c7 λH=>⟨rfl,arU _ (HC rfl rfl) a8 a2 H⟩
theorem aFk:lj Tryz.prog Uz (BK Le):=KC.agU (aeL (mf:=O7) (kb:=178000) (own:=[]) (vS (vo cn) (vT nf)) mixed Tryz.func193 (by kernel_rfl) (by kernel_rfl) λargs mem x h=>by
 obtain⟨a,⟨rfl,H⟩,rfl⟩:=Uf h;exact⟨x0 rfl,ar2 _ a mem H⟩)
theorem anR:cG KI Ps:=xZ Ve 157000 [54] (bb acP (bb NS (bb aFj (bb Jx (bb anQ cn))))) (p5 Jy (p5 aFk nf)) Tryz.func156 fun⟨a8,a2⟩=>c7 λH=>⟨rfl,asd _ bo bo bo (HC rfl rfl) bo (xu rfl rfl) a8 a2 H⟩
theorem acQ:cG vr Lk:=cV Vd 155000 [] cn Tryz.func149 fun⟨a8,a2,bS⟩=>⟨rfl,asN _  a8 a2 bS⟩
theorem anS:cG Gy PL:=cV Va 152000 [] (bb Bf (bb NS (bb Jz cn))) Tryz.func91 fun⟨a8,a2⟩=>c7 λH=>⟨rfl,asO _ bo bo bo a8 a2 H⟩
theorem S7:cG vq He:=cV U8 140000 [] (bb Bf (bb anQ (bb Jz (bb acQ cn)))) Tryz.func85 fun⟨a8,a2,bS,cP⟩=>c7 λH=>⟨rfl,asP _ bo bo bo bo a8 a2 bS cP H⟩
theorem aFl:cG Uw Wo:=cV Vh 160000 [] (bb Bf (bb aFi (bb anO (bb anP (bb acP (bb Jz (bb acQ cn))))))) Tryz.func161 fun⟨a8,a2,bS,cP⟩=>c7 λH=>⟨rfl,asQ _ bo bo bo bo bo bo bo a8 a2 bS cP H⟩
theorem aFm:cG Uu Wp:=cV Vc 154000 [] (bb Bf (bb anN (bb acP cn))) Tryz.func89 fun⟨a8,a2,bS,cP⟩=>c7 λH=>⟨rfl,asR _ bo bo bo a8 a2 bS cP H⟩
theorem anT:cG KG PO:=cV U7 137000 [] (bb Bf (bb NS (bb anR (bb Jz (bb acQ cn))))) Tryz.func147 fun⟨a8,a2,bS,cP⟩=>c7 λH=>⟨rfl,asS _ bo bo bo bo bo a8 a2 bS cP H⟩
theorem anU:cG DQ PV:=cV Vb 153000 [] (bb Bf (bb anR (bb anO (bb anP (bb Jz cn))))) Tryz.func88 fun⟨a8,a2,bS,cP⟩=>c7 λH=>⟨rfl,asU _ bo bo bo bo bo a8 a2 bS cP H⟩
theorem aFn:cG OX Wz:=cV U9 150000 [] (bb Jz cn) Tryz.func165 λa8=>c7 λH=>⟨rfl,asZ _ bo a8 H⟩
theorem aFo:cG Uv WA:=cV Vg 159000 [] (bb Bf cn) Tryz.func189 fun⟨a8,a2⟩=>c7 λH=>⟨rfl,as2 _ bo a8 a2 H⟩
theorem aFp:cG Un WO:=cV WJ 138000 [] (bb aFo cn) Tryz.func148 fun⟨a8,a2⟩=>c7 λH=>⟨rfl,as7 _ bo a8 a2 H⟩
theorem Bg:cG lZ vL:=cV WC 116000 [] (bb Bf (bb anT (bb aFp cn))) Tryz.func84 fun⟨a8,a2,bS,cP⟩=>c7 λH=>⟨rfl,as9 _ bo bo bo a8 a2 bS cP H⟩
theorem anV:cG KH P5:=cV WM 149000 [] (bb Bf (bb anS (bb anT (bb anU cn)))) Tryz.func152 fun⟨a8,a2,bS,cP⟩=>c7 λH=>⟨rfl,atb _ bo bo bo bo a8 a2 bS cP H⟩
theorem S8:cG zU Eu:=cV WE 130000 [] (bb aFn (bb anV cn)) Tryz.func96 fun⟨a8,a2⟩=>c7 λH=>⟨rfl,atc _ bo bo a8 a2 H⟩
theorem aFq:cG Uo WT:=cV WK 139000 [] (bb S7 (bb aFl cn)) Tryz.func90 fun⟨a8,a2,bS,cP,dJ,jb,nS,pI⟩=>c7 λH=>⟨rfl,atp _ bo bo a8 a2 bS cP dJ jb nS pI H⟩
theorem acR:cG DP Lx:=cV WL 141000 [] (bb anV cn) Tryz.func86 fun⟨a8,a2,bS,cP,dJ,jb⟩=>c7 λH=>⟨rfl,atr _ bo a8 a2 bS cP dJ jb H⟩
theorem NT:cG tO yN:=cV WD 119000 [] (bb Bg (bb aFq (bb S7 (bb acR cn)))) Tryz.func40 fun⟨a8,a2,bS,cP,dJ,jb,nS,pI⟩=>c7 λH=>⟨rfl,att _ bo bo bo bo a8 a2 bS cP dJ jb nS pI H⟩
theorem acS:cG yv An:=cV WG 132000 [] (bb Bg (bb anS (bb NT cn))) Tryz.func43 fun⟨a8,a2,bS,cP,dJ,jb,nS,pI⟩=>c7 λH=>⟨rfl,atv _ bo bo bo a8 a2 bS cP dJ jb nS pI H⟩
theorem acT:cG wX yO:=cV WH 134000 [] (bb Bg (bb S7 (bb acR cn))) Tryz.func36 fun⟨a8,a2,bS,cP,dJ,jb,nS,pI⟩=>c7 λH=>⟨rfl,atx _ bo bo bo a8 a2 bS cP dJ jb nS pI H⟩
theorem anW:cG DR Ex:=cV WN 169000 [] (bb Bg (bb S7 (bb acR cn))) Tryz.func155 fun⟨a8,a2,bS,cP,dJ,jb,nS,pI⟩=>c7 λH=>⟨rfl,atz _ bo bo bo a8 a2 bS cP dJ jb nS pI H⟩
theorem FE:cG oU uk:=cV WI 135000 [] (bb Bg (bb anU (bb aFm cn))) Tryz.func38 fun⟨a8,a2,bS,cP,dJ,jb,nS,pI⟩=>c7 λH=>⟨rfl,atF _ bo bo bo a8 a2 bS cP dJ jb nS pI H⟩
theorem anX:cG oT Qe:=cV W8 125000 [] (bb Bg cn) Tryz.func233 fun⟨a8,a2,bS,cP⟩=>c7 λH=>⟨rfl,atL _ bo a8 a2 bS cP H⟩
theorem aFr:cG w0 XH:=cV Xp 294000 [] (bb Bg cn) Tryz.func116 fun⟨a8,a2,bS,cP⟩=>c7 λH=>⟨rfl,atN _ bo a8 a2 bS cP H⟩
theorem aFs:cG vy XJ:=cV XA 309000 [] (bb aFr cn) Tryz.func174 fun⟨a8,a2,bS,cP⟩=>c7 λH=>⟨rfl,atQ _ bo a8 a2 bS cP H⟩
theorem aFt:cG Ur XL:=cV GI 146000 [] (bb anX (bb aFs cn)) Tryz.func201 fun⟨a8,a2⟩=>c7 λH=>⟨rfl,atU _ bo (λh=>absurd h (by decide)) (λ_=>bo) a8 a2 H⟩
theorem anY:cG KF LK:=cV Vr 128000 [] (bb aFt cn) Tryz.func173 fun⟨a8,a2⟩=>c7 λH=>⟨rfl,atX _ bo a8 a2 H⟩
theorem aFu:cG BN XN:=cV W9 127000 [] (bb anX (bb anY cn)) Tryz.func235 fun⟨a8,a2,bS,cP,dJ,jb⟩=>c7 λH=>⟨rfl,at0 _ bo bo a8 a2 bS cP dJ jb H⟩
theorem aFv:cG Uq XO:=cV Vt 145000 [] (bb aFu cn) Tryz.func239 fun⟨a8,a2⟩=>c7 λH=>⟨rfl,at1 _ bo a8 a2 H⟩
theorem aFw:cG Uk XP:=cV Vq 126000 [] (bb aFv cn) Tryz.func234 fun⟨a8,a2⟩=>c7 λH=>⟨rfl,at2 _ bo a8 a2 H⟩
theorem aFx:cG Ui XQ:=cV W6 108000 [] (bb aFw cn) Tryz.func224 fun⟨a8,a2⟩=>c7 λH=>⟨rfl,at4 _ bo a8 a2 H⟩
theorem aFy:lj Tryz.prog BO (Cv Az):=auF (mf:=Qc) (kb:=168000) (own:=[]) (vS (vo cn) (vT nf)) mixed Tryz.func241 (by kernel_rfl) (by kernel_rfl) Qx λargs mem r k g i d h=>by
 obtain⟨F,I,af,aO,br⟩:=auG _ args mem r k g i d h;exact⟨F,I,af,aO,br⟩
theorem aFz:cG KJ Qw:=cV Xa 167000 [] cn Tryz.func240 fun⟨a8,a2,bS,cP⟩=>⟨rfl,LU _  a8 a2 bS cP⟩
theorem aFA:lj Tryz.prog Us (qU L5):=Qt (mf:=yR) (kb:=148000) (own:=[3000106,3000165,3000169]) (vS (vo (bb aFz (bb anW (bb acS (bb acT cn))))) (vT (p5 aFy nf))) mixed Tryz.func237 (by kernel_rfl) (by kernel_rfl) λargs mem cg h=>by
 obtain⟨a,rfl,⟨F,I,af,aO,br,bR,bN⟩,rfl⟩:=avn h;exact⟨x0 rfl,avb _ (o1 rfl rfl) (xu rfl rfl) (o1 rfl rfl) (o1 rfl rfl) (o1 rfl rfl) a.go a.N a.rows a.r a.c mem F I af aO br bR bN⟩
theorem aFB:cG OW QI:=cV Vu 147000 [5] cn Tryz.func236 λa8=>c7 λH=>⟨rfl,avp _  a8 H⟩
theorem aFC:cG Ul QO:=xZ LG 129000 [29,34] (bb aFB cn) (p5 aFA nf) Tryz.func225 fun⟨a8,a2,bS⟩=>c7 λH=>⟨rfl,avD _ bo (xu rfl rfl) a8 a2 bS H⟩
theorem aFD:cG Uj YS:=cV W7 109000 [] (bb aFx (bb aFC cn)) Tryz.func215 fun⟨a8,a2⟩=>c7 λH=>⟨rfl,avJ _ bo bo a8 a2 H⟩
theorem aFE:cG Uy YY:=cV YW 171000 [] cn Tryz.func232 λa8=>c7 λH=>⟨rfl,avN _  a8 H⟩
theorem aFF:cG Ut YZ:=cV YV 151000 [] (bb aFE cn) Tryz.func223 λa8=>c7 λH=>⟨rfl,avO _ bo a8 H⟩
theorem aFG:cG Um Y2:=cV Vs 131000 [] (bb aFF cn) Tryz.func214 fun⟨a8,a2,bS,cP,dJ⟩=>c7 λH=>⟨rfl,avY _ bo a8 a2 bS cP dJ H⟩
theorem NU:cG tP Cq:=cV XZ 183000 [18] cn Tryz.func188 λa8=>c7 λH=>⟨rfl,at7 _  a8 H⟩
theorem S9:cG tQ Hs:=cV X2 187000 [] cn Tryz.func200 fun⟨a8,a2⟩=>c7 λH=>⟨rfl,aua _  a8 a2 H⟩
theorem aFH:cG O2 Ql:=cV X0 185000 [] (bb S9 cn) Tryz.func182 fun⟨a8,a2⟩=>c7 λH=>⟨rfl,auc _ bo a8 a2 H⟩
theorem aFI:cG UB X7:=cV XX 181000 [] (bb S9 (bb NU cn)) Tryz.func181 fun⟨a8,a2⟩=>c7 λH=>⟨rfl,aue _ bo bo a8 a2 H⟩
theorem anZ:cG KM Qm:=cV XY 182000 [] (bb S9 (bb NU cn)) Tryz.func183 fun⟨a8,a2⟩=>c7 λH=>⟨rfl,auf _ bo bo a8 a2 H⟩
theorem aFJ:cG KN Qn:=cV X1 186000 [] (bb S9 (bb NU cn)) Tryz.func170 fun⟨a8,a2⟩=>c7 λH=>⟨rfl,aug _ bo bo a8 a2 H⟩
theorem an0:cG KL Qo:=cV LL 180000 [26] (bb NU (bb aFJ (bb aFH (bb anZ cn)))) Tryz.func187 fun⟨a8,a2⟩=>c7 λH=>⟨rfl,aun _ bo bo bo bo a8 a2 H⟩
theorem Ta:cG vv Hz:=cV XW 166000 [] (bb NU cn) Tryz.func145 fun⟨a8,a2⟩=>c7 λH=>⟨rfl,aup _ bo a8 a2 H⟩
theorem Tb:cG vu HA:=cV XS 162000 [] cn Tryz.func141 fun⟨a8,a2⟩=>c7 λH=>⟨rfl,auq _  a8 a2 H⟩
theorem aFK:cG OY Yf:=cV XT 163000 [] (bb Tb (bb Ta cn)) Tryz.func142 fun⟨a8,a2⟩=>c7 λH=>⟨rfl,aur _ bo bo a8 a2 H⟩
theorem aFL:cG OV Yg:=cV XR 144000 [] (bb Ta cn) Tryz.func83 λa8=>c7 λH=>⟨rfl,aus _ bo a8 H⟩
theorem aFM:cG Ux Yh:=cV XU 164000 [] (bb Tb (bb an0 (bb Ta cn))) Tryz.func143 fun⟨a8,a2,bS,cP⟩=>c7 λH=>⟨rfl,auu _ bo bo bo a8 a2 bS cP H⟩
theorem aFN:cG OZ Yi:=cV XV 165000 [] (bb Tb (bb an0 (bb aFI (bb anZ (bb Ta cn))))) Tryz.func144 fun⟨a8,a2,bS,cP⟩=>c7 λH=>⟨rfl,auv _ bo bo bo bo bo a8 a2 bS cP H⟩
theorem aFO:cG Up Ym:=cV Yl 143000 [] (bb Tb (bb aFK (bb aFM (bb aFN cn)))) Tryz.func82 fun⟨a8,a2,bS,cP⟩=>c7 λH=>⟨rfl,auw _ bo bo bo bo a8 a2 bS cP H⟩
theorem an1:cG Gx HB:=cV Yk 124000 [] (bb aFL (bb aFO cn)) Tryz.func35 fun⟨a8,a2⟩=>c7 λH=>⟨rfl,auy _ bo bo a8 a2 H⟩
theorem aFP:cG OU Yo:=cV Yj 115000 [] cn Tryz.func39 fun⟨a8,a2,bS,cP,dJ⟩=>⟨rfl,auC _  a8 a2 bS cP dJ⟩
theorem JA:cG pt wh:=cV Xc 230000 [] (bb S8 cn) Tryz.func78 λa8=>c7 λH=>⟨rfl,axz _ bo a8 H⟩
theorem an2:cG vw Ij:=cV ZX 241000 [] (bb S8 cn) Tryz.func153 λa8=>c7 λH=>⟨rfl,axB _ bo a8 H⟩
theorem an3:cG vx RE:=cV Xe 243000 [] cn Tryz.func137 fun⟨a8,a2,bS⟩=>⟨rfl,ays _  a8 a2 bS⟩
theorem aFQ:cG KP aal:=cV Xf 244000 [] (bb an3 cn) Tryz.func138 λa8=>⟨rfl,ayv _ bo a8⟩
theorem aFR:cG KQ aao:=cV Xg 245000 [] (bb an3 cn) Tryz.func139 fun⟨a8,a2,bS,cP,dJ⟩=>c7 λH=>⟨rfl,ayy _ bo a8 a2 bS cP dJ H⟩
theorem aFS:cG DT aaw:=cV Xd 232000 [] (bb JA (bb FE cn)) Tryz.func80 fun⟨a8,a2,bS⟩=>c7 λH=>⟨rfl,ayF _ bo bo a8 a2 bS H⟩
theorem an4:cG KT RJ:=cV aai 251000 [] cn Tryz.func163 λa8=>⟨rfl,ayG _  a8⟩
theorem aFT:cG GD aax:=cV aah 250000 [] (bb an4 cn) Tryz.func162 λa8=>⟨rfl,ayI _ bo a8⟩
theorem an5:cG DZ RK:=cV aap 355000 [] cn Tryz.func54 fun⟨a8,a2,bS⟩=>⟨rfl,ayJ _  a8 a2 bS⟩
theorem an6:cG w3 RL:=cV aaq 361000 [] (bb an5 cn) Tryz.func104 λa8=>⟨rfl,ayL _ bo a8⟩
theorem an7:cG DV RM:=cV Xn 292000 [] cn Tryz.func114 fun⟨a8,a2,bS⟩=>⟨rfl,ayM _  a8 a2 bS⟩
theorem an8:cG ny RN:=cV Xm 291000 [] (bb an7 cn) Tryz.func113 λa8=>⟨rfl,ayN _ bo a8⟩
theorem aFU:cG BQ aaB:=cV Xy 307000 [] (bb an8 cn) Tryz.func171 λa8=>⟨rfl,ayQ _ bo a8⟩
theorem an9:cG KV SM:=cV Xt 298000 [] cn Tryz.func120 fun⟨a8,a2,bS,cP,dJ,jb⟩=>c7 λH=>⟨rfl,aCQ _  a8 a2 bS cP dJ jb H⟩
theorem aFV:cG GG abd:=cV ZY 253000 [] cn Tryz.func191 fun⟨a8,a2,bS⟩=>⟨rfl,aAO _  a8 a2 bS⟩
theorem aoa:cG KO Sn:=cV ZW 240000 [] (bb aFV cn) Tryz.func154 λa8=>c7 λH=>⟨rfl,aAQ _ bo a8 H⟩
theorem aFW:cG UD abG:=cV ZV 225000 [] (bb aoa (bb Bg (bb an2 (bb FE cn)))) Tryz.func184 fun⟨a8,a2⟩=>c7 λH=>⟨rfl,aCB _ bo bo bo bo a8 a2 H⟩
theorem aob:cG KW SQ:=cV XC 313000 [] (bb an9 (bb aFW cn)) Tryz.func135 fun⟨a8,a2,bS,cP,dJ,jb⟩=>c7 λH=>⟨rfl,aCT _ bo bo a8 a2 bS cP dJ jb H⟩
theorem aFX:cG GF aaG:=cV aaj 252000 [] (bb an4 cn) Tryz.func164 fun⟨a8,a2,bS,cP,dJ⟩=>c7 λH=>⟨rfl,ay1 _ bo a8 a2 bS cP dJ H⟩
theorem aFY:cG GH aaI:=cV aar 362000 [] (bb an5 (bb an6 cn)) Tryz.func105 fun⟨a8,a2,bS,cP,dJ⟩=>c7 λH=>⟨rfl,ay4 _ bo bo a8 a2 bS cP dJ H⟩
theorem aFZ:cG yw aaK:=cV Xo 293000 [] (bb an7 (bb an8 cn)) Tryz.func115 fun⟨a8,a2,bS,cP,dJ⟩=>c7 λH=>⟨rfl,ay6 _ bo bo a8 a2 bS cP dJ H⟩
theorem aF0:cG DX aaM:=cV Xz 308000 [] (bb aFZ cn) Tryz.func172 fun⟨a8,a2,bS,cP,dJ⟩=>c7 λH=>⟨rfl,ay9 _ bo a8 a2 bS cP dJ H⟩
theorem aF1:cG UY abI:=cV VA 327000 [] cn Tryz.func213 fun⟨a8,a2⟩=>c7 λH=>⟨rfl,aCI _  a8 a2 H⟩
theorem aF2:cG UX abK:=cV Vz 315000 [] (bb aF1 cn) Tryz.func180 fun⟨a8,a2⟩=>c7 λH=>⟨rfl,aCK _ bo a8 a2 H⟩
theorem aF3:cG DY aaO:=cV XD 314000 [] (bb aF2 cn) Tryz.func179 fun⟨a8,a2,bS,cP,dJ,jb,nS⟩=>c7 λH=>⟨rfl,aCX _ bo a8 a2 bS cP dJ jb nS H⟩
theorem aF4:cG UJ aaP:=cV K3 254000 [] (bb aFR (bb aFX (bb aFY (bb aF0 (bb aF3 cn))))) Tryz.func167 fun⟨a8,a2⟩=>c7 λH=>⟨rfl,aze _ bo (λ_=>bo) (λ_=>bo) (λ_=>bo) (λ_=>bo) a8 a2 H⟩
theorem acU:cG DU MT:=cV Vx 247000 [] (bb aF4 cn) Tryz.func107 fun⟨a8,a2⟩=>c7 λH=>⟨rfl,azk _ bo a8 a2 H⟩
theorem aF5:cG UW abU:=cV Xx 306000 [] (bb aob (bb acU cn)) Tryz.func127 fun⟨a8,a2,bS,cP,dJ,jb,nS⟩=>c7 λH=>⟨rfl,aC0 _ bo bo a8 a2 bS cP dJ jb nS H⟩
theorem aoc:cG tR Ix:=cV Xw 305000 [] (bb aF5 cn) Tryz.func126 fun⟨a8,a2,bS,cP,dJ,jb,nS⟩=>c7 λH=>⟨rfl,aC1 _ bo a8 a2 bS cP dJ jb nS H⟩
theorem acV:cG wY AY:=cV K1 231000 [] (bb aFQ (bb aFT (bb an6 (bb aFS (bb aFU (bb aoc cn)))))) Tryz.func79 fun⟨a8,a2⟩=>c7 λH=>⟨rfl,ayT _ bo (λ_=>bo) (λ_=>bo) (λ_=>bo) (λ_=>bo) (λ_=>bo) a8 a2 H⟩
theorem aod:cG KR RP:=cV Vw 246000 [] (bb acV cn) Tryz.func106 fun⟨a8,a2⟩=>c7 λH=>⟨rfl,ayY _ bo a8 a2 H⟩
theorem aoe:cG KS Sq:=cV EY 249000 [] (bb Bg (bb FE (bb an2 (bb aoa (bb acT (bb anW (bb acS cn))))))) Tryz.func87 fun⟨a8,a2⟩=>c7 λH=>⟨rfl,aA5 _ bo bo bo bo bo bo bo a8 a2 H⟩
theorem aF6:cG UE aaR:=cV Xb 227000 [] (bb aod (bb acU cn)) Tryz.func75 fun⟨a8,a2⟩=>c7 λH=>⟨rfl,azm _ bo bo a8 a2 H⟩
theorem aF7:cG UG SD:=cV EA 233000 [] (bb aoe cn) Tryz.func81 fun⟨a8,a2⟩=>c7 λH=>⟨rfl,aBD _ bo a8 a2 H⟩
theorem aF8:lj Tryz.prog O4 (y8 RU):=Z7 (mf:=Qd) (kb:=255000) (own:=[17]) (vS (vo (bb JA (bb aFG (bb S8 (bb NT cn))))) (vT nf)) mixed Tryz.func185 (by kernel_rfl) (by kernel_rfl) (λj=>j/1000=255) λargs mem d h=>by
 obtain⟨a,⟨rfl,aN⟩,rfl⟩:=Z9 h;exact⟨x0 rfl,aN.no,azp _ (o1 rfl rfl) (o1 rfl rfl) (o1 rfl rfl) (o1 rfl rfl) a.1 a.2 mem aN⟩
theorem aF9:lj Tryz.prog UK (y8 RY):=Z7 (mf:=Hm) (kb:=256000) (own:=[]) (vS (vo (bb JA (bb acS (bb aFD cn)))) (vT nf)) mixed Tryz.func186 (by kernel_rfl) (by kernel_rfl) (λj=>j/1000=256) λargs mem d h=>by
 obtain⟨a,⟨rfl,aN⟩,rfl⟩:=Z9 h;exact⟨x0 rfl,aN.no,azx _ (o1 rfl rfl) (o1 rfl rfl) (o1 rfl rfl) a mem aN⟩
theorem aGa:lj Tryz.prog UI (y8 aaY):=Z7 (mf:=vP) (kb:=248000) (own:=[]) (vS (vo (bb JA (bb acT (bb NT cn)))) (vT (p5 aF8 (p5 aF9 nf)))) mixed Tryz.func140 (by kernel_rfl) (by kernel_rfl) (λj=>j/1000=248) λargs mem d h=>by
 obtain⟨a,⟨rfl,aN⟩,rfl⟩:=Z9 h;exact⟨x0 rfl,aN.iR,aAc _ (o1 rfl rfl) (xu rfl rfl) (xu rfl rfl) (o1 rfl rfl) (o1 rfl rfl) a mem aN⟩
theorem aGb:lj Tryz.prog O3 (qU M6):=Qt (mf:=Hl) (kb:=229000) (own:=[]) (vS (vo (bb JA (bb FE cn))) (vT (p5 aGa nf))) mixed Tryz.func77 (by kernel_rfl) (by kernel_rfl) λargs mem cg h=>by
 obtain⟨a,⟨rfl,aN⟩,rfl⟩:=LS h;exact⟨x0 rfl,aAl _ (xu rfl rfl) (o1 rfl rfl) (o1 rfl rfl) a mem aN⟩
theorem aGc:lj Tryz.prog UF (qU abb):=Qt (mf:=Cp) (kb:=228000) (own:=[22]) (vS (vo cn) (vT nf)) mixed Tryz.func76 (by kernel_rfl) (by kernel_rfl) λargs mem cg h=>by
 obtain⟨a,⟨rfl,aN⟩,rfl⟩:=LS h;exact⟨x0 rfl,aAE _  a.1 a.2 mem aN⟩
theorem aGd:cG UC SI:=xZ Ez 217000 [] (bb aF6 (bb JA (bb FE (bb acV (bb aF7 cn))))) (p5 aGc (p5 aGb nf)) Tryz.func33 fun⟨a8,a2⟩=>c7 λH=>⟨rfl,aCt _ bo (xu rfl rfl) (xu rfl rfl) bo bo bo bo a8 a2 H⟩
theorem aGe:cG w2 abq:=cV XB 310000 [] (bb FE cn) Tryz.func176 fun⟨a8,a2,bS,cP,dJ,jb,nS,pI⟩=>c7 λH=>⟨rfl,aBS _ bo a8 a2 bS cP dJ jb nS pI H⟩
theorem aGf:cG UH abt:=cV K2 235000 [] (bb aGe cn) Tryz.func175 fun⟨a8,a2,bS⟩=>c7 λH=>⟨rfl,aBV _ (λh=>absurd h (by decide)) (λ_=>bo) a8 a2 bS H⟩
theorem aGg:cG US abH:=cV Vy 301000 [] cn Tryz.func123 fun⟨a8,a2⟩=>c7 λH=>⟨rfl,aCG _  a8 a2 H⟩
theorem acW:cG DW Nx:=cV Xv 303000 [] (bb aob cn) Tryz.func73 fun⟨a8,a2,bS,cP,dJ⟩=>c7 λH=>⟨rfl,aCW _ bo a8 a2 bS cP dJ H⟩
theorem aGh:cG UQ abv:=cV Xu 299000 [] (bb aGf cn) Tryz.func121 fun⟨a8,a2⟩=>c7 λH=>⟨rfl,aB0 _ bo a8 a2 H⟩
theorem aGi:lj Tryz.prog UU (qU NA):=Qt (mf:=O9) (kb:=304000) (own:=[]) (vS (vo (bb acV (bb aoc cn))) (vT nf)) mixed Tryz.func125 (by kernel_rfl) (by kernel_rfl) λargs mem cg h=>by
 obtain⟨a,⟨rfl,aN⟩,rfl⟩:=LS h;exact⟨x0 rfl,aC8 _ (o1 rfl rfl) (o1 rfl rfl) a mem aN⟩
theorem aGj:cG UN abV:=xZ Xl 290000 [6] (bb acW (bb NS cn)) (p5 aGi nf) Tryz.func66 fun⟨a8,a2,bS,cP,dJ⟩=>c7 λH=>⟨rfl,aDc _ bo bo (xu rfl rfl) a8 a2 bS cP dJ H⟩
theorem aGk:cG UO abX:=cV Xq 295000 [] (bb aod cn) Tryz.func117 λa8=>c7 λH=>⟨rfl,aDj _ bo a8 H⟩
theorem aGl:cG UP abZ:=cV Xr 296000 [] (bb acU cn) Tryz.func118 fun⟨a8,a2⟩=>c7 λH=>⟨rfl,aDm _ bo a8 a2 H⟩
theorem aGm:cG O5 ab1:=cV Xs 297000 [] (bb anY cn) Tryz.func119 λa8=>c7 λH=>⟨rfl,aDo _ bo a8 H⟩
theorem aof:cG KU SW:=cV Xi 287000 [] (bb aGk (bb aGl (bb aGm cn))) Tryz.func63 fun⟨a8,a2,bS,cP,dJ⟩=>c7 λH=>⟨rfl,aDq _ bo bo bo a8 a2 bS cP dJ H⟩
theorem aGn:cG UL ab5:=cV Xj 288000 [] (bb S8 (bb NT (bb FE (bb an9 (bb aoe (bb aGh cn)))))) Tryz.func64 fun⟨a8,a2,bS,cP,dJ,jb⟩=>c7 λH=>⟨rfl,aDx _ bo bo bo bo bo bo a8 a2 bS cP dJ jb H⟩
theorem aGo:cG U0 ack:=cV acb 369000 [] (bb aFP cn) Tryz.func27 fun⟨a8,a2,bS,cP,dJ⟩=>⟨rfl,aD2 _ bo a8 a2 bS cP dJ⟩
theorem aGp:cG U1 acm:=cV acd 371000 [] cn Tryz.func30 fun⟨a8,a2⟩=>c7 λH=>⟨rfl,aD4 _  a8 a2 H⟩
theorem aGq:cG U2 acn:=cV ace 376000 [] cn Tryz.func41 fun⟨a8,a2⟩=>c7 λH=>⟨rfl,aD6 _  a8 a2 H⟩
theorem aog:cG KX NI:=cV XE 372000 [] (bb aof (bb acW cn)) Tryz.func31 fun⟨a8,a2,bS,cP,dJ⟩=>c7 λH=>⟨rfl,aD8 _ bo bo a8 a2 bS cP dJ H⟩
theorem aGr:cG BR acq:=cV aci 378000 [] (bb an1 cn) Tryz.func62 fun⟨a8,a2⟩=>c7 λH=>⟨rfl,aD9 _ bo a8 a2 H⟩
def aGs:Go.Shelf.Ren:=⟨fun|5=>122|8=>178|7=>177|19=>211|20=>212|10=>202|11=>203|12=>204|13=>205|14=>206|15=>207|16=>208|17=>209|18=>210|30=>218|31=>219|32=>220|33=>221|34=>222|35=>194|40=>230|n=>n,fun|23=>22|25=>3|3=>3|32=>166|22=>22|0=>0|44=>193|46=>175|4=>4|36=>186|35=>185|41=>149|5=>5|9=>9|53=>199|57=>203|63=>216|64=>146|n=>n,fun|n=>n⟩
theorem aGt:Go.Proofs.SlLaysM.n5 Tryz.prog aGs where
 mixed:=by kernel_rfl
 f5 := ⟨"slices.Sort[[]int,int]", by decide, Tryz.func122.trans (congrArg some (by kernel_rfl))⟩
 f7 := ⟨"slices.pdqsortOrdered[int]", by decide, Tryz.func177.trans (congrArg some (by kernel_rfl))⟩
 f8:=Tryz.func178.trans (congrArg some (by kernel_rfl))
 f10 := ⟨"slices.insertionSortOrdered[int]", by decide, Tryz.func202.trans (congrArg some (by kernel_rfl))⟩
 f11 := ⟨"slices.heapSortOrdered[int]", by decide, Tryz.func203.trans (congrArg some (by kernel_rfl))⟩
 f12 := ⟨"slices.breakPatternsOrdered[int]", by decide, Tryz.func204.trans (congrArg some (by kernel_rfl))⟩
 f13 := ⟨"slices.choosePivotOrdered[int]", by decide, Tryz.func205.trans (congrArg some (by kernel_rfl))⟩
 f14 := ⟨"slices.reverseRangeOrdered[int]", by decide, Tryz.func206.trans (congrArg some (by kernel_rfl))⟩
 f15 := ⟨"slices.partialInsertionSortOrdered[int]", by decide, Tryz.func207.trans (congrArg some (by kernel_rfl))⟩
 f16 := ⟨"cmp.Less[int]", by decide, Tryz.func208.trans (congrArg some (by kernel_rfl))⟩
 f17 := ⟨"slices.partitionEqualOrdered[int]", by decide, Tryz.func209.trans (congrArg some (by kernel_rfl))⟩
 f18 := ⟨"slices.partitionOrdered[int]", by decide, Tryz.func210.trans (congrArg some (by kernel_rfl))⟩
 f19:=Tryz.func211.trans (congrArg some (by kernel_rfl))
 f20:=Tryz.func212.trans (congrArg some (by kernel_rfl))
 f30 := ⟨"slices.siftDownOrdered[int]", by decide, Tryz.func218.trans (congrArg some (by kernel_rfl))⟩
 f31:=Tryz.func219.trans (congrArg some (by kernel_rfl))
 f32:=Tryz.func220.trans (congrArg some (by kernel_rfl))
 f33 := ⟨"slices.medianAdjacentOrdered[int]", by decide, Tryz.func221.trans (congrArg some (by kernel_rfl))⟩
 f34 := ⟨"slices.medianOrdered[int]", by decide, Tryz.func222.trans (congrArg some (by kernel_rfl))⟩
 f35 := ⟨"cmp.isNaN[int]", by decide, Tryz.func194.trans (congrArg some (by kernel_rfl))⟩
 f40 := ⟨"slices.order2Ordered[int]", by decide, Tryz.func230.trans (congrArg some (by kernel_rfl))⟩
 t0:=Tryz.underlying0
 a0:=Tryz.isAgg0
 z0:=Tryz.sizeOf0
 v0:=Tryz.zeroValue0
 t3:=Tryz.underlying3
 a3:=Tryz.isAgg3
 z3:=Tryz.sizeOf3
 v3:=Tryz.zeroValue3
 t4:=Tryz.underlying4
 a4:=Tryz.isAgg4
 z4:=Tryz.sizeOf4
 v4:=Tryz.zeroValue4
 t5:=Tryz.underlying5
 a5:=Tryz.isAgg5
 z5:=Tryz.sizeOf5
 v5:=Tryz.zeroValue5
 t9:=Tryz.underlying9
 a9:=Tryz.isAgg9
 z9:=Tryz.sizeOf9
 v9:=Tryz.zeroValue9
 t22:=Tryz.underlying22
 a22:=Tryz.isAgg22
 z22:=Tryz.sizeOf22
 v22:=Tryz.zeroValue22
 t23:=Tryz.underlying22
 a23:=Tryz.isAgg22
 z23:=Tryz.sizeOf22
 v23:=Tryz.zeroValue22
 t25:=Tryz.underlying3
 a25:=Tryz.isAgg3
 z25:=Tryz.sizeOf3
 v25:=Tryz.zeroValue3
 t32:=Tryz.underlying166
 a32:=Tryz.isAgg166
 z32:=Tryz.sizeOf166
 v32:=Tryz.zeroValue166
 t35:=Tryz.underlying185
 a35:=Tryz.isAgg185
 z35:=Tryz.sizeOf185
 v35:=Tryz.zeroValue185
 t36:=Tryz.underlying186
 a36:=Tryz.isAgg186
 z36:=Tryz.sizeOf186
 v36:=Tryz.zeroValue186
 t41:=Tryz.underlying149
 a41:=Tryz.isAgg149
 z41:=Tryz.sizeOf149
 v41:=Tryz.zeroValue149
 t44:=Tryz.underlying193
 a44:=Tryz.isAgg193
 z44:=Tryz.sizeOf193
 v44:=Tryz.zeroValue193
 t46:=Tryz.underlying175
 a46:=Tryz.isAgg175
 z46:=Tryz.sizeOf175
 v46:=Tryz.zeroValue175
 t53:=Tryz.underlying199
 a53:=Tryz.isAgg199
 z53:=Tryz.sizeOf199
 v53:=Tryz.zeroValue199
 t57:=Tryz.underlying203
 a57:=Tryz.isAgg203
 z57:=Tryz.sizeOf203
 v57:=Tryz.zeroValue203
 t63:=Tryz.underlying216
 a63:=Tryz.isAgg216
 z63:=Tryz.sizeOf216
 v63:=Tryz.zeroValue216
 t64:=Tryz.underlying146
 a64:=Tryz.isAgg146
 z64:=Tryz.sizeOf146
 v64:=Tryz.zeroValue146
theorem aGu:lj Tryz.prog UR (qU NK):=aEr aGt rfl ⟨Tryz.f122,_,Tryz.func122,rfl,by kernel_rfl⟩
theorem aGv:lj Tryz.prog UT (MH SZ):=axV (mf:=O8) (kb:=302000) (own:=[]) (vS (vo cn) (vT nf)) mixed Tryz.func124 (by kernel_rfl) (by kernel_rfl) (λ_=>False) λargs mem d k h=>by
 obtain⟨a,⟨rfl,aN⟩,aR⟩:=axX h
 cases aR;exact⟨x0 rfl,λ_ h=>h.elim,λh=>h,aEt _  a mem aN⟩
theorem aGw:cG UM acw:=xZ Xk 289000 [1000000000045] (bb acW (bb aGg cn)) (p5 aGu (p5 aGv nf)) Tryz.func65 fun⟨a8,a2,bS,cP,dJ⟩=>c7 λH=>⟨rfl,aEB _ (xu rfl rfl) (xu rfl rfl) bo bo a8 a2 bS cP dJ H⟩
theorem aoh:cG wZ sg:=cV Xh 286000 [] (bb aof (bb aGn (bb aGw (bb aGj cn)))) Tryz.func28 fun⟨a8,a2,bS,cP,dJ⟩=>c7 λH=>⟨rfl,aEF _ bo bo bo bo a8 a2 bS cP dJ H⟩
theorem aGx:cG UZ acE:=cV acg 368000 [] (bb aGr (bb aoh (bb aog (bb aGp cn)))) Tryz.func26 λ_=>⟨rfl,aES _ bo bo bo bo⟩
theorem aGy:cG U3 acG:=cV ach 377000 [] cn Tryz.func42 fun⟨a8,a2⟩=>c7 λH=>⟨rfl,aEX _  a8 a2 H⟩
theorem aGz:cG arq acJ:=cV acf 366000 [89,121,154] (bb aGx (bb aGo (bb aGd (bb aoh (bb an1 (bb NT (bb aog (bb aGq (bb aGy cn))))))))) Tryz.func7 fun⟨a8,a2,bS,cP⟩=>c7 λH=>⟨rfl,aE6 _ bo bo bo bo bo bo bo bo bo a8 a2 bS cP H⟩
end Go.Mini
