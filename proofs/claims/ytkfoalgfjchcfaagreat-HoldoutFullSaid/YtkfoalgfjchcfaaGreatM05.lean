/- A part of the proof. -/
import Derived.Test.YtkfoalgfjchcfaaGreatM04
set_option linter.unusedSimpArgs false
set_option linter.unusedVariables false
set_option maxRecDepth 100000
set_option maxHeartbeats 4000000
noncomputable section
open Bool renaming and_eq_true->e3,and_false->hy,eq_iff_iff->kB,false_and->fC,not_false->cv,not_true->ca,or_eq_true->qz,or_false->nT,or_true->tD,true_and->hP
open Classical renaming byContradiction->j6,choose_spec->oX
open Decidable renaming em->dQ
open Int renaming add_zero->tV,le_refl->J8,sign_neg_iff->afB,toNat_natCast->gX
open List renaming append_assoc->gN,append_inj->Ey,append_nil->h1,drop->h4,drop_append->pK,drop_append_of_le_length->age,drop_eq_nil_of_le->k7,drop_succ_cons->C7,drop_zero->nk,ext_getElem?->ri,filter_append->ze,filter_cons_of_neg->xy,filter_cons_of_pos->xx,filter_nil->s5,flatMap_append->vJ,flatMap_cons->o0,flatMap_def->vK,flatMap_nil->zg,flatten_append->FN,flatten_cons->kL,getD_eq_getElem?_getD->dY,getElem?_append_left->re,getElem?_append_right->rf,getElem?_cons_succ->ahk,getElem?_eq_getElem->bs,getElem?_eq_none->lL,getElem?_eq_some_iff->dK,getElem?_map->a5,getElem?_range->sb,getElem?_replicate->afS,getElem?_set->mo,getElem_mem->mD,length->D,length_append->hr,length_cons->kf,length_drop->pL,length_eq_zero_iff->Bb,length_filter_le->rU,length_map->aj,length_range->rm,length_replicate->JP,length_set->ja,length_singleton->yX,length_take->hh,map->xn,map_append->mq,map_congr_left->nj,map_cons->e5,map_map->oU,map_nil->cl,map_replicate->FM,map_set->xi,mem_cons_of_mem->ir,mem_cons_self->hv,mem_filter->FZ,mem_map->fO,mem_map_of_mem->vG,mem_of_getElem?->eL,mem_range->hk,nil_append->iM,range->dL,range_add->agI,range_succ->po,replicate->eu,replicate_succ'->ag6,set_append_left->ahl,set_append_right->CC,set_cons_succ->Fz,set_cons_zero->ug,set_eq_take_append_cons_drop->agL,take->hA,take_add_one->ks,take_append_drop->zX,take_append_of_le_length->y6,take_length->oA,take_of_length_le->dD,take_succ_cons->Ed,take_zero->oY
open List.cons renaming inj->vb,injEq->bh
open Nat renaming add_comm->xT,le_refl->bP,le_trans->eF,lt_or_ge->hV,mul_one->cM,one_le_two_pow->Ws,reduceEqDiff->dA,sub_self->mE,succ_mul->sc,zero_le->fr
open Option renaming bind_some->oZ,map_some->jo
open Option.some renaming inj->ni,injEq->cb
open Prod renaming ext->eS,ext_iff->B1
open Prod.mk renaming injEq->fu
open Rat renaming add_zero->pj,den_intCast->afM,div_def->za,div_mul_cancel->afW,intCast_add->xv,intCast_natCast->nB,intCast_sub->sZ,inv_zero->afZ,le_of_mul_le_mul_right->afX,le_refl->fA,le_trans->uq,lt_iff->Wn,mul_zero->nA,num_intCast->afL,zero_mul->zb
namespace Go.Mini
open Go
theorem afy {x y:Rat}(O:dz x)(ao:dz y)(h:o7 x y=true):Cr [.agg (aL (aE x)),.agg (aL (aE y))]=some (.same (.cw [.agg (aL (aE (x+y))),.int .i64 0])):=by
 have E:=pc O;have H:=pc ao;have:=aou (aE x).1.1 (aE x).1.2 (aE x).2.1 (aE x).2.2 (aE y).1.1 (aE y).1.2 (aE y).2.1 (aE y).2.2 ⟨E.1,E.2,H.1,H.2⟩;have e:vl (aE x) (aE y)=(aE (x+y),0):=by rw[ab7 O ao,h];rfl
 exact this.trans (by show some (ez.same (eh (vl (aE x) (aE y))))=_;rw[e];rfl)
theorem Of {x y:Rat}(O:dz x)(ao:dz y)(h:o7 x (-y)=true):w3 [.agg (aL (aE x)),.agg (aL (aE y))]=some (.same (.cw [.agg (aL (aE (x-y))),.int .i64 0])):=by
 have E:=pc O;have H:=pc ao;have:=aow (aE x).1.1 (aE x).1.2 (aE x).2.1 (aE x).2.2 (aE y).1.1 (aE y).1.2 (aE y).2.1 (aE y).2.2 ⟨E.1,E.2,H.1,H.2⟩;have e:oB (aE x) (aE y)=(aE (x-y),0):=by rw[MW O ao,h];rfl
 exact this.trans (by show some (ez.same (eh (oB (aE x) (aE y))))=_;rw[e];rfl)
theorem afz {x y:Rat}(O:dz x)(ao:dz y)(h:yR x y=true):w5 [.agg (aL (aE x)),.agg (aL (aE y))]=some (.same (.cw [.agg (aL (aE (x*y))),.int .i64 0])):=by
 have E:=pc O;have H:=pc ao;have:=aoy (aE x).1.1 (aE x).1.2 (aE x).2.1 (aE x).2.2 (aE y).1.1 (aE y).1.2 (aE y).2.1 (aE y).2.2 ⟨E.1,E.2,H.1,H.2⟩;have e:nx (aE x) (aE y)=(aE (x*y),0):=by rw[Tv O ao,h];rfl
 exact this.trans (by show some (ez.same (eh (nx (aE x) (aE y))))=_;rw[e];rfl)
theorem asM {x y:Rat}(O:dz x)(ao:dz y)(ak:y≠0)(h:vm x y=true):Cs [.agg (aL (aE x)),.agg (aL (aE y))]=some (.same (.cw [.agg (aL (aE (x/y))),.int .i64 0])):=by
 have E:=pc O;have H:=pc ao;have:=aoA (aE x).1.1 (aE x).1.2 (aE x).2.1 (aE x).2.2 (aE y).1.1 (aE y).1.2 (aE y).2.1 (aE y).2.2 ⟨E.1,E.2,H.1,H.2⟩;have e:jw (aE x) (aE y)=(aE (x/y),0):=by rw[MX O ao ak,h];rfl
 exact this.trans (by show some (ez.same (eh (jw (aE x) (aE y))))=_;rw[e];rfl)
theorem C0 {x y:Rat}(O:dz x)(ao:dz y):ud [.agg (aL (aE x)),.agg (aL (aE y))]=some (.same (.int .i64 (kC x y))):=by
 have E:=pc O;have H:=pc ao;have:=acf (aE x).1.1 (aE x).1.2 (aE x).2.1 (aE x).2.2 (aE y).1.1 (aE y).1.2 (aE y).2.1 (aE y).2.2 ⟨E.1,E.2,H.1,H.2⟩;exact this.trans (by show some (ez.same (.int .i64 (qM (aE x) (aE y))))=_;rw[Tw O ao])
theorem afA {x y:Rat}:decide (kC x y>0)=decide (y<x):=by
 have E:kC x y>0↔y<x:=by
  unfold kC;rw[gt_iff_lt,Int.sign_pos_iff,Wn];omega
 rw[decide_eq_decide];exact E
theorem Wo {x y:Rat}:decide (kC x y<0)=decide (x<y):=by
 have E:kC x y<0↔x<y:=by
  unfold kC;rw[afB,Wn];omega
 rw[decide_eq_decide];exact E
theorem afC {x y:Rat}:decide (kC x y>=0)=decide (y<=x):=by
 have E:kC x y>=0↔y<=x:=by
  unfold kC;rw[ge_iff_le,Int.sign_nonneg_iff,Rat.le_iff];omega
 rw[decide_eq_decide];exact E
end Go.Mini
namespace Go.Mini
open Go
variable {P:Program} {A:Nat->Prop} {w aN:World} {B bq:eK} {mem mem':Mem}
def xz (N:List M->Mem->Option Data)(args:List M)(mem:Mem):Option gT:=(N args mem).map λd => .rel (yl (.I d) mem)
@[go_sem] theorem aDE (N:List M->Mem->Option Data)(args:List M)(mem:Mem):xz N args mem=(N args mem).map λd => .rel (yl (.I d) mem):=bn
theorem Wp {T : bk}{kb : Nat}{own : List Nat}(cE : qy P T)(hm : P.follows .mixedOrders = true){f : FuncId}{fn : Func}{mf : b1}(aJ : P.funcs[f]? = some fn)(u1 : (fn.name == "runtime.NumGoroutine") = false)(aU : r9 P kb own fn = some { mf with body := erase mf.body })
  (cR:Key->Prop) {N:List M->Mem->Option Data}
  (h:∀args mem d,N args mem=some d->(D args)<=mf.n/\(∀j,cR j->mem j=none) /\
   wp T mf.body (rG mf.res λm mem'=>c8 6 emp m=some d/\∀j,¬ cR j->mem' j=mem j) ⟨mA args,mem⟩):mV P f (xz N):=by
 refine⟨Ut aJ u1 aU,λargs mem oR iA A w B vs bT aI=>?_⟩;unfold xz at iA;rw[Option.map_eq_some_iff] at iA;obtain⟨d,mW,rfl⟩:=iA;obtain⟨hlen,xf,yh⟩:=h args mem d mW;refine Calls.mono (H3 (Post:=λm mem'=>c8 6 emp m=some d/\∀j,¬ cR j->mem' j=mem j) cE hm aJ aU hlen (λe st J=>Us J) yh bT aI) λe aN he=>?_;obtain⟨v,m,mem',bq,rfl,Q,ra,X,fH⟩:=he;exact⟨v,.I d,mem,sO cR bq,rfl,Q.drop bT xf xf (λj ai=>(fH j ai).symm) (λk g cs J m hm => .inr ⟨k,g,cs,J,hm⟩),.I ((QD 6 m v d X ra).less λb ae=>ae.imp Fo id),rfl,rfl⟩
open Classical in
def C3 {α:Type}(a8:α->List M->Mem->Prop)(res:α->Data):List M->Mem->Option Data:=λargs mem=>if h:∃a,a8 a args mem then some (res (Classical.choose h)) else none
theorem Wq {α:Type}{a8:α->List M->Mem->Prop}{res:α->Data}(uniq:∀a b args mem,a8 a args mem->a8 b args mem->res a=res b){a:α}{args:List M}{mem:Mem}(h:a8 a args mem):C3 a8 res args mem=some (res a):=by
 have O:∃b,a8 b args mem:=⟨a,h⟩;unfold C3;rw[dif_pos O,uniq _ _ _ _ (oX O) h]
theorem Wr {α:Type}{a8:α->List M->Mem->Prop}{res:α->Data}{args:List M}{mem:Mem}{d:Data}(h:C3 a8 res args mem=some d):∃a,a8 a args mem/\d=res a:=by
 unfold C3 at h
 split at h
 ·rename_i O;exact⟨_,oX O,(ni h).symm⟩
 ·cases h
theorem afD {α:Type}{a8:α->List M->Mem->Prop}{bZ:α->Mem->M->Mem->Prop}(uniq:∀a b args mem,a8 a args mem->a8 b args mem->bZ a mem=bZ b mem){a:α}{args:List M}{mem:Mem}(h:a8 a args mem):yY a8 bZ args mem=some (bZ a mem):=by
 have O:∃b,a8 b args mem:=⟨a,h⟩;unfold yY;rw[dif_pos O,uniq _ _ _ _ (oX O) h]
theorem asN {K:a2->Prop}{st:a2}{x:bH}{i k sz kc g off:Nat}{cs:List M}(E:aZ st.tm x=.ptr kc g off)(H:st.mem kc=some (g,cs))(ab:cs[off+i]?=some .nil)(aM:k≠kc)
  (h:K ⟨st.tm,a3 (a3 st.mem k (bY st.mem k) []) kc g (cs.set (off+i) (.ref k (bY st.mem k) sz 0 0))⟩):kM K st (.K4 x i k sz):=by
 simp only[kM,E,H,if_true,ab];rw[Z aM];exact h
theorem asO {K:a2->Prop}{st:a2}{x:bH}{i kc gc off k g sz o len:Nat}{cc cs:List M}{d:Data}(E:aZ st.tm x=.ptr kc gc off)(H:st.mem kc=some (gc,cc))(ab:cc[off+i]?=some (.ref k g sz o len))(aM:st.mem k=some (g,cs))(bl:v9 cs=true)(bI:k≠kc)(bC:c8 1 st.mem (.ref k g sz o len)=some d)
  (h:K ⟨st.tm,a3 (kill st.mem k) kc gc (cc.set (off+i) (.I d))⟩):kM K st (.K5 x i):=by
 simp only[kM,E,H,if_true,ab,aM];rw[Z ⟨trivial,bl,bI⟩,bC];exact h
def dU (n:Nat)(mem m:Mem):Prop:=∀k,k/1000≠n->m k=mem k
theorem dU.refl (n:Nat)(mem:Mem):dU n mem mem:=λ_ _=>rfl
theorem dU.eP {n k g:Nat}{cs:List M}{mem m:Mem}(h:dU n mem m)(J:k/1000=n):dU n mem (a3 m k g cs):=λj ai=>by
 have:j≠k:=λe=>ai (by rw[e];exact J);simp only[a3,this,if_false];exact h j ai
theorem dU.kill {n k:Nat}{mem m:Mem}(h:dU n mem m)(J:k/1000=n):dU n mem (kill m k):=h.eP J
theorem dU.at {n:Nat}{mem m:Mem}(h:dU n mem m)(k:Nat)(J:k/1000≠n):m k=mem k:=h k J
def qW (n:Nat)(mem:Mem):Prop:=∀k,k/1000=n->mem k=none
theorem qW.az {n Og:Nat}{mem m:Mem}(h:qW n mem)(aJ:dU Og mem m)(aG:n≠Og):qW n m:=λk J=>by rw[aJ k (by omega)];exact h k J
end Go.Mini
namespace Go.Mini
open Go
def dy (x:Int):M:=.I (.int .i64 x)
def kI (b:Bool):M:=.I (.bool b)
theorem Oh {α:Type}{f:α->M}{l:List α}{k:Nat}{y:α}(h:l[k]?=some y):hA 1 (h4 k (l.map f))=[f y]:=by
 obtain⟨au,rfl⟩:=dK.1 h;rw[<-List.map_drop,List.drop_eq_getElem_cons au,e5,Ed,oY]
structure A4 (cash:List Int) (cs:List ar) (bg:List Int) (P:List Bool) (g dw gm:Nat) (mem:Mem):Prop where
 r:mem 261029=some (g,[.I (.af (cash.map ad)),.I (.af (cs.map bp)),.ref 261042 dw 1 0 (D bg),.ref 261027 gm 1 0 (D P),.I (.bool false)])
 f:mem 261042=some (dw,bg.map dy)
 p:mem 261027=some (gm,P.map kI)
theorem A4.az {cash:List Int}{cs:List ar}{bg:List Int}{P:List Bool}{g dw gm n:Nat}{mem m:Mem}(h:A4 cash cs bg P g dw gm mem)(aJ:dU n mem m)(aG:n≠261):A4 cash cs bg P g dw gm m :=
 ⟨(aJ.at 261029 (by omega)).trans h.r,(aJ.at 261042 (by omega)).trans h.f,(aJ.at 261027 (by omega)).trans h.p⟩
theorem afE {a b:List Int}(h:a.map dy=b.map dy):a=b:=map_inj (λx y h=>by simpa [dy] using h) _ _ h
theorem asP {a b:List Bool}(h:a.map kI=b.map kI):a=b:=map_inj (λx y h=>by simpa [kI] using h) _ _ h
theorem A4.uniq {cash Kd:List Int}{cs nM:List ar}{bg afF:List Int}{P afG:List Bool}{g dw gm dh afH Oi:Nat}{mem:Mem}(h:A4 cash cs bg P g dw gm mem)(b2:A4 Kd nM afF afG dh afH Oi mem):cash=Kd/\cs=nM/\bg=afF/\P=afG/\g=dh/\dw=afH/\gm=Oi:=by
 have E:=h.r;rw[b2.r] at E;simp only[cb,fu,bh,M.I.injEq,Data.af.injEq,M.ref.injEq,true_and,and_true] at E;obtain⟨aw,aC,cx,⟨dk,-⟩,bQ,-⟩:=E;have H:=h.f;rw[b2.f] at H;simp only[cb,fu] at H;have ab:=h.p;rw[b2.p] at ab;simp only[cb,fu] at ab;exact⟨(map_inj g7 _ _ aC).symm,(map_inj zf _ _ cx).symm,(afE H.2).symm,(asP ab.2).symm,aw.symm,dk.symm,bQ.symm⟩
structure Oj where
 cash:List Int
 cs:List ar
 bg:List Int
 P:List Bool
 g:Nat
 dw:Nat
 gm:Nat
def Oj.eR (a:Oj)(mem:Mem):Prop:=A4 a.cash a.cs a.bg a.P a.g a.dw a.gm mem
theorem Oj.uniq {a b:Oj}{mem:Mem}(h:a.eR mem)(b2:b.eR mem):a=b:=by
 obtain⟨db,dH,fk,fM,n6,rV,afI⟩:=a;obtain⟨dP,gV,oH,s7,asQ,afJ,afK⟩:=b;have:=A4.uniq h b2;dsimp only at this;obtain⟨rfl,rfl,rfl,rfl,rfl,rfl,rfl⟩:=this
 rfl
theorem dU.same {n k g:Nat}{cs:List M}{mem m:Mem}(h:dU n mem m)(hm:mem k=some (g,cs)):dU n mem (a3 m k g cs):=λj ai=>by
 by_cases e:j=k
 ·subst e;simp only[a3,if_true];exact hm.symm
 ·simp only[a3,e,if_false];exact h j ai
theorem oK {z:Int}(E:-9000000000000000000<=z)(H:z<=9000000000000000000):dv z:=by unfold dv;omega
theorem Gd.upto {cs:List ar}(h:Gd cs)(i r:Int):0<=cr cs i r/\cr cs i r<=2000000000000000000:=by
 have:=h.sum (λc=>c.1=i/\c.2.2.1<r) (D cs);rw[oA] at this;exact this
theorem asR {p q:Int}(aB:dv p)(bd:dv q)(ak:q≠0):g8 (bE p) (bE q)=(aE ((p:Rat)/(q:Rat)),0):=by
 rw[yP (wZ aB) (wZ bd) ak,Rat.divInt_eq_div]
def jR (cs:List ar)(i r:Int):Int:=cr cs i (r+1)-cr cs i r
end Go.Mini
namespace Go.Mini
open Go Classical
def bD (bg:List Int)(i:Nat):Nat:=(bg.getD i 10).toNat
def e6 (P:List Bool)(i:Nat):Prop:=P.getD i false=true
theorem Ge {z:Int}{b:Nat}(h:z.natAbs<=2^b):eI b (z:Rat):=⟨by rw[afL];exact h,by rw[afM];exact Ws⟩
theorem asS {cash:List Int}{cs:List ar}(Q:fG cash cs){c:ar}(G:c∈cs):eI 54 ((aA cash cs).w (cK c)):=by
 have Y:=(g1.1 Q.right).2.2.2 c G;have p7:=Q.am c G
 by_cases ak:c.2.2.2=0
 ·have:(cK c).am=0:=by show ((c.2.2.2:Int):Rat)=0;rw[ak];rfl
  rw[Day.Jy this];exact⟨fr _,Ws⟩
 ·have cB:=CW Q.right (cK c).az (cK c).rk;have hle:=(VF Q.right).Vo (c:=cK c) (vG G);rw[<-cB] at hle
  have E:c.2.2.2<=((hS cs (cK c).az (cK c).rk:Nat):Int):=by
   have:((c.2.2.2:Int):Rat)<=(((hS cs (cK c).az (cK c).rk:Nat):Int):Rat):=by rw[nB];exact hle
   exact_mod_cast this
  have H:=Q.CX (cK c).az (cK c).rk
  obtain⟨f1,f2⟩:=AU (q:=(aA cash cs).w (cK c)) (v:=c.2.2.2) (d:=((hS cs (cK c).az (cK c).rk:Nat):Int)) (by omega) (by
   rw[nB,cB];refine Day.FU ?_;rw[<-cB];have:0<hS cs (cK c).az (cK c).rk:=by omega
   exact_mod_cast this)
  rw[Int.natAbs_natCast] at f2;exact⟨by omega,by omega⟩
section
variable {cash:List Int} {cs:List ar} (Q:fG cash cs) (f:Nat->Nat) (P:Nat->Prop) (i:Nat) (cB:∀k,P k->0<(aA cash cs).S k (f k))
include Q cB
end
end Go.Mini
namespace Go.Mini
open Go
theorem Ke:dv 0:=by unfold dv;omega
theorem Wt:dv 1:=by unfold dv;omega
theorem asT {N k:Nat}(x:Nat->Rat)(y:Rat):(df N x).set k (aE y)=df N λj=>if j=k then y else x j:=by
 refine J6 (by rw[ja,qa]) λj ai=>?_;rw[mo]
 by_cases h:k=j
 ·rw[Z h,Z (by rw[qa];omega),Z h.symm]
 ·rw[aa h,ux _ ai,aa (Ne.symm h)]
theorem l1 {α:Type}{l:List α}{k:Nat}{d x:α}(h:l[k]?=some x):l.getD k d=x:=by rw[dY,h];rfl
theorem asU (r:eC):((jx r).map M.I).all M.one=true:=rfl

def m2 (n:Nat)(p:Nat->Bool):List Bool:=(dL n).map p
theorem Ok (n:Nat)(p:Nat->Bool):(m2 n p).length=n:=by simp[m2]
theorem Ol {n i:Nat}(p:Nat->Bool)(h:i<n):(m2 n p)[i]?=some (p i):=by
 unfold m2;rw[a5,sb h];rfl
theorem asV {n:Nat}{p q:Nat->Bool}(h:∀i,i<n->p i=q i):m2 n p=m2 n q:=nj λi L=>h i (hk.1 L)
theorem Om {n i:Nat}{p:Nat->Bool}:e6 (m2 n p) i↔i<n/\p i=true:=by
 unfold e6;rcases hV i n with h|h
 ·rw[l1 (Ol p h)];exact⟨λe=>⟨h,e⟩,λe=>e.2⟩
 ·rw[dY,lL (by rw[Ok];exact h)];simp;omega
def uz (d:Day)(f:Nat->Nat)(h:Nat->Rat)(i:Nat):Bool:=decide (f i<10)&&decide (d.U i (f i)<h i)
def nD (d:Day)(f:Nat->Nat)(h:Nat->Rat)(p:Nat->Bool)(i j:Nat):Bool:=p j||(decide (j<i)&&uz d f h j)
def xA (d:Day)(f:Nat->Nat)(h:Nat->Rat)(p:Nat->Bool)(i:Nat):Bool:=(dL i).any λj => !p j&&uz d f h j
theorem asW (d:Day)(f:Nat->Nat)(h:Nat->Rat)(p:Nat->Bool)(i:Nat):xA d f h p (i+1)=(xA d f h p i||(!p i&&uz d f h i)):=by
 unfold xA;rw[po,List.any_append];simp
theorem afN (d:Day)(f:Nat->Nat)(h:Nat->Rat)(p:Nat->Bool)(i:Nat):nD d f h p i i=p i:=by
 unfold nD;rw[ob (Nat.lt_irrefl i),fC,nT]
theorem afO (d:Day)(f:Nat->Nat)(h:Nat->Rat)(p:Nat->Bool)(i j:Nat):nD d f h p (i+1) j=if j=i then (p i||uz d f h i) else nD d f h p i j:=by
 unfold nD
 by_cases ai:j=i
 ·subst ai;rw[Z rfl,iH (Nat.lt_succ_self j),hP]
 ·rw[aa ai]
  congr 2
  rw[decide_eq_decide];omega
theorem asX {d:Day}{f:Nat->Nat}{h:Nat->Rat}{p:Nat->Bool}:e6 (m2 d.n (nD d f h p d.n))=rR d f (e6 (m2 d.n p)) h:=by
 funext i
 apply propext;rw[Om];unfold rR nD uz;rw[Om]
 constructor
 ·rintro⟨E,H⟩;rw[qz] at H;rcases H with H|H
  ·exact .inl ⟨E,H⟩
  ·simp only[e3,decide_eq_true_eq] at H;exact .inr ⟨E,H.2⟩
 ·rintro (⟨E,H⟩|⟨E,H⟩)
  ·exact⟨E,by rw[H];rfl⟩
  ·refine⟨E,?_⟩;rw[qz]
   right
   simp only[e3,decide_eq_true_eq];exact⟨E,H⟩
theorem asY {n:Nat}:e6 (m2 n λ_=>false)=λ_=>False:=by
 funext i
 apply propext;rw[Om];simp
theorem asZ {d:Day}{f:Nat->Nat}{h:Nat->Rat}{p:Nat->Bool}{n:Nat}(hm:xA d f h p n=true):lZ n (λi=>if nD d f h p n i then 0 else 1)<lZ n λi=>if p i then 0 else 1:=by
 unfold xA at hm;rw[List.any_eq_true] at hm;obtain⟨j,ai,H⟩:=hm;have ai:=hk.1 ai;simp only[e3,Bool.not_eq_true'] at H;refine VD (j:=j) (λi L=>?_) ai ?_
 ·unfold nD
  cases p i
  ·try dsimp only
   split<;>simp
  ·simp
 ·unfold nD;rw[H.1,H.2,iH ai]
  decide
theorem as0 {d:Day}{f:Nat->Nat}{h:Nat->Rat}{p:Nat->Bool}{n:Nat}(hm:xA d f h p n=false){i:Nat}(L:i<n)(E:f i<10)(H:d.U i (f i)<h i):p i=true:=by
 unfold xA at hm;rw[List.any_eq_false] at hm;have:=hm i (hk.2 L);unfold uz at this;rw[iH E,iH H] at this
 simpa using this
def gn (cs:List ar)(x:Rat)(c:ar):Rat:=if ((cr cs c.1 (c.2.2.1+1):Int):Rat)<=x then (c.2.2.2:Rat) else (c.2.2.2:Rat)/((jR cs c.1 c.2.2.1:Int):Rat)*pos (x-((cr cs c.1 c.2.2.1:Int):Rat))
theorem Wu {cash:List Int}{cs:List ar}(h:gR cash cs=true)(x:Nat->Rat){c:ar}(G:c∈cs):(aA cash cs).iS x (cK c)=gn cs (x c.1.toNat) c:=by
 have Y:=(g1.1 h).2.2.2 c G;obtain⟨aD,c2,c3,c4⟩:=c;dsimp only at Y;obtain⟨aD,rfl⟩:∃k:Nat,aD=(k:Int):=⟨aD.toNat,by omega⟩
 obtain⟨c3,rfl⟩:∃k:Nat,c3=(k:Int):=⟨c3.toNat,by omega⟩
 unfold Day.iS gn Day.w;have E:=sY h aD (c3+1);have H:=sY h aD c3;have ab:=NT h aD c3;have aw:(cK ((aD:Int),c2,(c3:Int),c4)).az=aD:=gX aD;have aC:(cK ((aD:Int),c2,(c3:Int),c4)).rk=c3:=gX c3;have cx:(cK ((aD:Int),c2,(c3:Int),c4)).am=(c4:Rat):=rfl;rw[aw,aC,cx,<-E,<-H,<-ab]
 rfl
structure lz (l:List ar):Prop where
 len:(D l)<=12
 c:∀c∈l,0<=c.1/\c.1<60 /\ -1<=c.2.1/\c.2.1<60/\0<=c.2.2.1/\c.2.2.1<10/\0<=c.2.2.2/\c.2.2.2<=1000000000000000
 one:∀c∈l,∀c'∈l,c.1=c'.1
theorem lz.cs {l:List ar}(h:lz l):Gd l:=⟨by have:=h.len;omega,λc G=>by have:=h.c c G;omega⟩
def lA {α:Type}(enc:α->List M)(l:List α):List M:=(l.map enc).flatten
theorem as1 {α:Type}{enc:α->List M}{sz:Nat}(h:∀a,(enc a).length=sz)(l:List α):(lA enc l).length=D l*sz:=by
 unfold lA
 induction l with
 |nil=>simp
 |cons a l ay=>rw[e5,kL,hr,ay,h,kf,sc];omega
theorem afP {α:Type}{enc:α->List M}{sz:Nat}(h:∀a,(enc a).length=sz):∀(l:List α) (i:Nat),i<(D l)->∀b,hA (i*sz) (lA enc l)++enc b++h4 (i*sz+sz) (lA enc l)=lA enc (l.set i b)
 | [],i,L,b=>absurd L (by simp)
 |a::l,0,_,b=>by
  have a1:=h a;unfold lA;simp only[Nat.zero_mul,Nat.zero_add,oY,iM,e5,kL,ug];rw[<-a1,List.drop_left]
 |a::l,i+1,L,b=>by
  have a1:=h a;have ay:=afP h l i (by simpa using L) b;unfold lA at ay ⊢;simp only[e5,kL,Fz];rw[<-ay,sc,List.take_append,pK,a1];rw[dD (by omega),k7 (by omega),iM];rw[show i*sz+sz-sz=i*sz by omega,show i*sz+sz+sz-sz=i*sz+sz by omega]
  simp only[gN]
def bu {α:Type}(n:Nat)(q:Nat->α):List α:=(dL n).map q
theorem gp {α:Type}(n:Nat)(q:Nat->α):(bu n q).length=n:=by simp[bu]
theorem iE {α:Type}{n i:Nat}(q:Nat->α)(h:i<n):(bu n q)[i]?=some (q i):=by
 unfold bu;rw[a5,sb h];rfl
theorem Wv {α:Type}{n:Nat}{l:List α}{q:Nat->α}(au:(D l)=n)(h:∀i,i<n->l[i]?=some (q i)):l=bu n q:=by
 apply ri;intro i;rcases hV i n with L|L
 ·rw[h i L,iE q L]
 ·rw[lL (by omega),lL (by rw[gp];exact L)]
theorem zh {α:Type}{n i:Nat}(q:Nat->α)(b:α):(bu n q).set i b=bu n λj=>if j=i then b else q j:=by
 refine Wv (by rw[ja,gp]) λj ai=>?_;rw[mo]
 by_cases h:i=j
 ·rw[Z h,Z (by rw[gp];omega),Z h.symm]
 ·rw[aa h,iE _ ai,aa (Ne.symm h)]
theorem j9 {α:Type}{n:Nat}{p q:Nat->α}(h:∀i,i<n->p i=q i):bu n p=bu n q:=nj λi L=>h i (hk.1 L)
def qc:Option bU->List M
 |none=>[.I (.int .i64 0),.nil,.I (.int .i64 0),.nil]
 |some f=>(aL f).map .I
theorem afQ:∀a,(qc a).length=4
 |none=>rfl
 |some _=>rfl
theorem afR (n:Nat):(eu n [M.I (.int .i64 0),M.nil,M.I (.int .i64 0),M.nil]).flatten=lA qc (bu n λ_=>none):=by
 unfold lA bu;rw[oU]
 congr 1
 apply ri;intro i;rw[a5];rcases hV i n with L|L
 ·rw[sb L,afS,Z L];rfl
 ·rw[lL (by simpa using L),lL (by simpa using L)];rfl
theorem afT (l:List bU):lA qc (l.map some)=aY aL l:=by
 unfold lA aY
 induction l with
 |nil=>rfl
 |cons f l ay =>
  simp only[e5,kL,mq];rw[ay];rfl
theorem Ww {n i:Nat}{q:Nat->Option bU}(h:i<n):(i*4+4<=(lA qc (bu n q)).length)=True:=eq_true (by rw[as1 afQ,gp];omega)
theorem Wx {n i:Nat}{q:Nat->Option bU}(h:i<n)(a:Int)(b:List Int)(c:Int)(d:List Int):
  hA (i*4) (lA qc (bu n q))++[M.I (.int .i64 a),.I (.af (b.map ad)),.I (.int .i64 c),.I (.af (d.map ad))]++h4 (i*4+4) (lA qc (bu n q))=lA qc (bu n λj=>if j=i then some ((a,b),(c,d)) else q j):=by
 rw[<-zh];exact afP afQ (bu n q) i (by rw[gp];exact h) (some ((a,b),(c,d)))
structure Kf (l:List ar) (x:Rat):Prop where
 own:lz l
 pos:0<=x
 sz:eI 460 x
theorem lz.less {l:List ar}(h:lz l){c:ar}(G:c∈l)(r:Int):(cq l λc'=>if c'.2.2.1<r then c'.2.2.2 else 0)=cr l c.1 r:=by
 unfold cr;refine F6 λc' nR=>?_;have:=h.one c' nR c G
 by_cases E:c'.2.2.1<r
 ·rw[Z E,Z ⟨this,E⟩]
 ·rw[aa E,aa λh=>E h.2]
theorem Wy (l:List ar)(aP bA:ar->Int):cq l (λc=>aP c+bA c)=cq l aP+cq l bA:=by
 induction l with
 |nil=>simp[cq]
 |cons c l ay=>simp only[cq,ay];omega
theorem lz.same {l:List ar}(h:lz l){c:ar}(G:c∈l)(r:Int):(cq l λc'=>if c'.2.2.1=r then c'.2.2.2 else 0)=jR l c.1 r:=by
 have E:=h.less G r;have H:=h.less G (r+1)
 have ab:(cq l λc'=>if c'.2.2.1<r+1 then c'.2.2.2 else 0)=(cq l λc'=>if c'.2.2.1<r then c'.2.2.2 else 0)+cq l λc'=>if c'.2.2.1=r then c'.2.2.2 else 0:=by
  rw[<-Wy];refine F6 λc _=>?_
  by_cases cH:c.2.2.1<r
  ·rw[Z (by omega),Z cH,aa (by omega)];omega
  ·rw[aa cH]
   by_cases dc:c.2.2.1=r
   ·rw[Z (by omega),Z dc];omega
   ·rw[aa (by omega),aa dc];omega
 unfold jR;omega
theorem lz.bound {l:List ar}(h:lz l)(p:ar->Prop)[DecidablePred p]:0<=cq l (λc=>if p c then c.2.2.2 else 0)/\cq l (λc=>if p c then c.2.2.2 else 0)<=12000000000000000:=by
 have:=VG (cs:=l) (aP:=λc=>if p c then c.2.2.2 else 0) (B:=1000000000000000) (by omega) λc G=>by
  have:=h.c c G
  try dsimp only
  split<;>omega
 have:=h.len;omega
theorem as2 (cs:List ar)(i r:Int):jR cs i r=cq cs λc=>if c.1=i/\c.2.2.1=r then c.2.2.2 else 0:=by
 have ab:cr cs i (r+1)=cr cs i r+cq cs λc=>if c.1=i/\c.2.2.1=r then c.2.2.2 else 0:=by
  unfold cr;rw[<-Wy];refine F6 λc _=>?_
  split<;>split<;>split<;>omega
 unfold jR;omega
theorem as3 {cs:List ar}{aP:ar->Int}(h:∀c∈cs,0<=aP c){c:ar}(G:c∈cs):aP c<=cq cs aP:=by
 induction cs with
 |nil=>cases G
 |cons a l ay =>
  simp only[cq];have ak:=h a hv
  have E:0<=cq l aP:=by
   have:∀l:List ar,(∀c∈l,0<=aP c)->0<=cq l aP:=by
    intro l
    induction l with
    |nil=>intro _;exact J8 _
    |cons b l NY=>intro aS;simp only[cq];have:=aS b hv;have:=NY λc G=>aS c (ir _ G);omega
   exact this l λc G=>h c (ir _ G)
  rcases List.mem_cons.1 G with rfl|G
  ·omega
  ·have:=ay (λc G=>h c (ir _ G)) G;omega
theorem Wz {cs:List ar}(h:∀c∈cs,0<=c.2.2.2){c:ar}(G:c∈cs):c.2.2.2<=jR cs c.1 c.2.2.1:=by
 rw[as2];have:=as3 (aP:=λc'=>if c'.1=c.1/\c'.2.2.1=c.2.2.1 then c'.2.2.2 else 0) (λc' nR=>by have:=h c' nR;split<;>omega) G;rwa [Z ⟨rfl,rfl⟩] at this
section
variable {cs:List ar} {x:Rat} {c:ar}
theorem On (cs:List ar)(i r:Int):((cr cs i (r+1):Int):Rat)=((cr cs i r:Int):Rat)+((jR cs i r:Int):Rat):=by
 rw[<-xv]
 congr 1
 unfold jR;omega
theorem afU (aG:∀c∈cs,0<=c.2.2.2)(G:c∈cs)(h:x-((cr cs c.1 c.2.2.1:Int):Rat)<=0):gn cs x c=0:=by
 unfold gn;have E:=Wz aG G;have H:=aG c G;rw[On]
 split
 ·rename_i ab
  have aM:((jR cs c.1 c.2.2.1:Int):Rat)<=((0:Int):Rat):=by
   have:((0:Int):Rat)=0:=rfl;rw[this];generalize ((cr cs c.1 c.2.2.1:Int):Rat)=u at *;grind
  have bl:jR cs c.1 c.2.2.1<=0:=by exact_mod_cast aM
  rw[show c.2.2.2=0 by omega];rfl
 ·rw[uo h,nA]
theorem as4 (h:((jR cs c.1 c.2.2.1:Int):Rat)<=x-((cr cs c.1 c.2.2.1:Int):Rat)):gn cs x c=(c.2.2.2:Rat):=by
 unfold gn;rw[On,Z];generalize ((cr cs c.1 c.2.2.1:Int):Rat)=u at *;generalize ((jR cs c.1 c.2.2.1:Int):Rat)=s at *;grind
theorem afV (ak:0<=x-((cr cs c.1 c.2.2.1:Int):Rat))(h:x-((cr cs c.1 c.2.2.1:Int):Rat)<((jR cs c.1 c.2.2.1:Int):Rat)):gn cs x c=(c.2.2.2:Rat)*(x-((cr cs c.1 c.2.2.1:Int):Rat))/((jR cs c.1 c.2.2.1:Int):Rat):=by
 unfold gn;rw[On,aa,xu ak]
 ·generalize ((cr cs c.1 c.2.2.1:Int):Rat)=u at *;generalize ((jR cs c.1 c.2.2.1:Int):Rat)=s at *;grind
 ·generalize ((cr cs c.1 c.2.2.1:Int):Rat)=u at *;generalize ((jR cs c.1 c.2.2.1:Int):Rat)=s at *;grind
end
theorem qd {n:Int}(h:dv n):dz (n:Rat):=⟨by rw[afL];exact wZ h,by rw[afM];decide +kernel⟩
theorem as5 {x:Rat}:decide (x.num.sign<0)=decide (x<0):=by
 have:x.num.sign<0↔x<0:=by
  rw[afB,Wn,Rat.zero_num,Rat.zero_den];omega
 rw[decide_eq_decide];exact this
def iF:ar:=(0,0,0,0)
def C4 (l:List ar)(x:Rat)(j:Nat):bU:=aE (gn l x (l.getD j iF))
theorem as6 (l:List ar)(x:Rat):(bu (D l) λj=>some (C4 l x j))=(l.map λc=>aE (gn l x c)).map some:=by
 symm
 refine Wv (by simp) λi L=>?_;rw[a5,a5,bs L];unfold C4;rw[l1 (bs L)];rfl
end Go.Mini
namespace Go.Mini
open Classical
def Gf (u s a x:Rat):Rat:=if u+s+a<=x then a else a/(s+a)*pos (x-u)
theorem as7 {a b z:Rat}(ae:0<b)(h:a<=z*b):a/b<=z:=by
 have e:a/b*b=a:=afW (by grind);exact afX (by rw[e];exact h) ae
theorem as8 {a b z:Rat}(ae:0<b)(h:z*b<=a):z<=a/b:=by
 have e:a/b*b=a:=afW (by grind);exact afX (by rw[e];exact h) ae
theorem afY (a b p:Rat):a/b*p=a*p/b:=by rw[za,za];grind
section
variable {u s a x:Rat} (Q:0<=s) (a1:0<=a)
include Q a1
theorem as9:0<=Gf u s a x:=by
 unfold Gf
 split
 ·exact a1
 ·rw[afY]
  by_cases h:0<s+a
  ·exact as8 h (by rw[zb];exact Rat.mul_nonneg a1 (CL _))
  ·have:s+a=0:=by grind
   rw[this,za,afZ,nA];exact fA
theorem ata:Gf u s a x<=a:=by
 unfold Gf
 split
 ·exact fA
 ·rename_i E;rw[afY]
  by_cases h:0<s+a
  ·refine as7 h (Rat.mul_le_mul_of_nonneg_left ?_ a1);unfold pos
   split<;>grind
  ·have:s+a=0:=by grind
   rw[this,za,afZ,nA];exact a1
end
theorem atb (cs:List ar)(x:Rat)(c:ar):gn cs x c=Gf ((cr cs c.1 c.2.2.1:Int):Rat) (((jR cs c.1 c.2.2.1:Int):Rat)-(c.2.2.2:Rat)) (c.2.2.2:Rat) x:=by
 unfold gn Gf;rw[On];have e:∀u s a:Rat,u+(s-a)+a=u+s:=λu s a=>by grind
 have aC:∀s a:Rat,s-a+a=s:=λs a=>by grind
 rw[e,aC]
theorem atc {cs:List ar}(aG:∀c∈cs,0<=c.2.2.2){c:ar}(G:c∈cs)(x:Rat):0<=gn cs x c/\gn cs x c<=(c.2.2.2:Rat):=by
 have q:∀z:Int,0<=z->(0:Rat)<=(z:Rat):=λz h=>by exact_mod_cast h
 have E:=Wz aG G
 have H:(0:Rat)<=((jR cs c.1 c.2.2.1:Int):Rat)-(c.2.2.2:Rat):=by
  rw[<-sZ];exact q _ (by omega)
 rw[atb];exact⟨as9 H (q _ (aG c G)),ata H (q _ (aG c G))⟩
end Go.Mini
namespace Go.Mini
open Classical
section
variable {d:Day} (X:d.c0)
include X
end
end Go.Mini
namespace Go.Mini
open Classical
def Day.times (d:Day)(k:Rat):Day:=⟨d.n,λi=>k*d.cash i,d.cZ.map λc=>⟨c.az,c.to,c.rk,k*c.am⟩⟩
section
variable {d:Day} (X:d.c0) {k:Rat} (J:0<k)
include J
end
section
variable {d:Day} (X:d.c0) (j8:Nat)
include X
end
end Go.Mini
namespace Go.Mini
open Classical
theorem af0 {d:Day}(X:d.c0){f:Nat->Nat}{g:Nat->Rat}(L:Inv d f g):∀m (P:Nat->Prop),idle d P<=m->ia d f g P (d.eN f P)->∃P,rT d f P/\∀i,i<d.n->d.eN f P i=d.top f i
 |m,P,hm,aB=>by
  by_cases Q:∀i,i<d.n->f i<10->d.U i (f i)<d.eN f P i->P i
  ·exact⟨P,⟨X,g,L,aB⟩,aB.ae2 X L Q⟩
  ·have⟨i,E,H,ab,aM⟩:∃i,i<d.n/\f i<10/\d.U i (f i)<d.eN f P i/\¬ P i:=by
    apply j6;intro aG;exact Q λi E H ab=>j6 λaM=>aG ⟨i,E,H,ab,aM⟩
   have aq:=ae1 (h:=d.eN f P) E H ab aM
   cases m with
   |zero=>omega
   |succ m=>exact af0 X L m _ (by omega) (aB.succ X L)
theorem WA {d:Day}(X:d.c0){f:Nat->Nat}(Y:Reach d f):∃P,rT d f P/\∀i,i<d.n->d.eN f P i=d.top f i:=by
 obtain⟨g,L,-⟩:=Y;exact af0 X L _ _ (bP _) (ia.first X L)
section
variable {cash:List Int} {cs:List ar} (Q:fG cash cs)
include Q
theorem af1 {f:Nat->Nat}(Y:Reach (aA cash cs) f){i:Nat}(L:i<D cash):eI 428 ((aA cash cs).top f i):=by
 obtain⟨P,aB,he⟩:=WA Q.ok Y;rw[<-he i L];exact afh Q aB L
theorem Oo {i:Nat}(L:i<D cash):eI 428 ((aA cash cs).dw i):=af1 Q (Kc Q.ok).1 L
theorem atd {i:Nat}(L:i<D cash):(aA cash cs).dw i<=((2^54:Nat):Rat):=by
 obtain⟨P,aB,he⟩:=WA Q.ok (Kc Q.ok).1;have:=(N6 Q aB L).2;rw[he i L] at this;exact this
theorem af2:∃a8:Nat,0<a8/\(∃a,a<=330/\a8<=2^a)/\∀i,i<(D cash)->eO a8 ((aA cash cs).dw i):=by
 obtain⟨P,aB,he⟩:=WA Q.ok (Kc Q.ok).1;obtain⟨a8,E,H,ab⟩:=afg Q aB;refine⟨a8,E,H,λi L=>?_⟩;have:=ab i L;rw[he i L] at this;exact this
end
section
variable {d:Day} (X:d.c0)
include X
end
def uA (cash:List Int)(cs:List ar)(k:Nat):Nat:=if (aA cash cs).oJ k<10 then hS cs k ((aA cash cs).oJ k) else 1
section
variable {cash:List Int} {cs:List ar} (Q:fG cash cs)
include Q
theorem af3 {k:Nat}(J:k<D cash):0<uA cash cs k:=by
 unfold uA
 split
 ·rename_i h;obtain⟨g,E,-⟩:=Ob Q.ok;have H:=E.qS (i:=k) J h;rw[<-CW Q.right] at H;exact_mod_cast H
 ·omega
theorem af4 (k:Nat):uA cash cs k<=2^54:=by
 unfold uA
 split
 ·exact Q.CX _ _
 ·exact Ws
theorem af5 {a8:Nat}(mg:∀i,i<(D cash)->eO a8 ((aA cash cs).dw i)){c:ar}(G:c∈cs):eO (a8*uA cash cs (cK c).az) ((aA cash cs).iS (aA cash cs).dw (cK c)):=by
 have X:=Q.ok;have gA:cK c∈(aA cash cs).cZ:=vG G;have J:(cK c).az<D cash:=X.az _ gA;have p7:∀N,eO N (cK c).am:=λN=>eO.int N c.2.2.2;have aQ:∀N,eO N (0:Rat):=eO.zero;have mW:=λr s=>@Day.c0.vB _ X (cK c).az r s;have ha:=X.rk _ gA;have ie:=afw X _ J;unfold Day.iS
 by_cases E:(aA cash cs).U (cK c).az ((cK c).rk+1)<=(aA cash cs).dw (cK c).az
 ·rw[Z E];exact p7 _
 ·rw[aa E]
  have aJ:(aA cash cs).oJ (cK c).az<10:=by
   refine ((Oc X).2 _ J).2 ?_;have:=mW ((cK c).rk+1) 10 (by omega);grind
  have aq:(aA cash cs).dw (cK c).az<(aA cash cs).U (cK c).az ((aA cash cs).oJ (cK c).az+1):=by
   obtain⟨g,cH,-,dV⟩:=Ob X;have:=cH.L _ J aJ;have:=dV _ J;grind
  rcases Nat.lt_trichotomy (cK c).rk ((aA cash cs).oJ (cK c).az) with H|H|H
  ·have:=mW ((cK c).rk+1) ((aA cash cs).oJ (cK c).az) (by omega);exact absurd (uq this ie) E
  ·have hw:eO (uA cash cs (cK c).az) ((aA cash cs).w (cK c)):=by
    unfold uA;rw[Z aJ];refine⟨c.2.2.2,?_⟩;rw[CW Q.right,<-H]
    have:0<(aA cash cs).S (cK c).az (cK c).rk:=by
     have:=(aA cash cs).xt (cK c).az ((aA cash cs).oJ (cK c).az);rw[H];grind
    exact Day.FU this
   have af6:eO a8 ((aA cash cs).dw (cK c).az-(aA cash cs).U (cK c).az (cK c).rk):=by
    refine (mg _ J).sub ?_;rw[<-sY Q.right];exact eO.int _ _
   rw[xu (by rw[H];grind),Nat.mul_comm];exact hw.mul af6
  ·have:=mW ((aA cash cs).oJ (cK c).az+1) (cK c).rk (by omega);rw[uo (by grind),nA];exact aQ _
theorem af7 {c:ar}(G:c∈cs):eI 482 ((aA cash cs).iS (aA cash cs).dw (cK c)):=by
 obtain⟨a8,E,⟨a,H,ab⟩,aM⟩:=af2 Q;have gA:cK c∈(aA cash cs).cZ:=vG G;have J:(cK c).az<D cash:=Q.ok.az _ gA;have bl:=af5 Q aM G;have bI:=af3 Q J;have bC:=af4 Q (cK c).az;have bW:a8*uA cash cs (cK c).az<=2^(a+54):=by rw[Nat.pow_add];exact Nat.mul_le_mul ab bC
 have iL:=Q.ok.adT (aA cash cs).dw gA
 have fI:(aA cash cs).iS (aA cash cs).dw (cK c)<=((2^50:Nat):Rat):=by
  refine uq (Q.ok.Vu _ gA) ?_;have:=Q.am c G;show ((c.2.2.2:Int):Rat)<=_;have:c.2.2.2<=((2^50:Nat):Int):=by omega
  rw[<-nB];exact Rat.intCast_le_intCast.2 this
 exact (bl.sz (Nat.mul_pos E bI) bW iL fI).mono (by omega)
end
end Go.Mini
namespace Go.Mini
open Go
def eT (cs:List ar)(j8:Int):List ar:=cs.filter λc=>c.1==j8
theorem ate (cs:List ar)(j8:Int)(p:ar->Prop)[DecidablePred p]:cq (eT cs j8) (λc=>if c.1=j8/\p c then c.2.2.2 else 0)=cq cs λc=>if c.1=j8/\p c then c.2.2.2 else 0:=by
 unfold eT
 induction cs with
 |nil=>rfl
 |cons c l ay =>
  by_cases h:c.1=j8
  ·rw[xx (by simpa using h)];simp only[cq,ay]
  ·rw[xy (by simpa using h),ay];simp only[cq];rw[aa λaS=>h aS.1];omega
theorem af8 (cs:List ar)(j8 r:Int):cr (eT cs j8) j8 r=cr cs j8 r:=ate cs j8 λc=>c.2.2.1<r
theorem A5 {cs:List ar}{j8:Int}{c:ar}:c∈eT cs j8↔c∈cs/\c.1=j8:=by
 unfold eT;rw[FZ,beq_iff_eq]
theorem atf {cs:List ar}{j8:Int}{x:Rat}{c:ar}(h:c.1=j8):gn (eT cs j8) x c=gn cs x c:=by
 unfold gn jR;rw[h,af8,af8]
theorem atg (cs:List ar)(j8:Int)(x:Rat):((eT cs j8).map λc=>aE (gn (eT cs j8) x c))=(eT cs j8).map λc=>aE (gn cs x c) :=
 nj λc G=>by rw[atf (A5.1 G).2]
theorem fG.own {cash:List Int}{cs:List ar}(h:fG cash cs)(j8:Int):lz (eT cs j8):=by
 have Y:=g1.1 h.right;have aG:=h.ly;refine⟨?_,λc G=>?_,λc G c' nR=>?_⟩
 ·have:=rU (λc:ar=>c.1==j8) cs;have:=h.vI;unfold eT;omega
 ·have E:=Y.2.2.2 c (A5.1 G).1;have H:=h.am c (A5.1 G).1;omega
 ·rw[(A5.1 G).2,(A5.1 nR).2]
theorem af9 (n:Nat):((h9 n).map M.I).all M.one=true:=rfl
def s8 (d:Day)(f:Nat->Nat)(h:Nat->Rat)(i:Nat):List Nat:=(dL i).filter λj=>decide (h j<d.U j (f j))
theorem ath (d:Day)(f:Nat->Nat)(h:Nat->Rat)(i:Nat):s8 d f h (i+1)=if h i<d.U i (f i) then s8 d f h i++[i] else s8 d f h i:=by
 unfold s8;rw[po,ze]
 by_cases aS:h i<d.U i (f i)
 ·rw[Z aS,xx (by simpa using aS),s5]
 ·rw[aa aS,xy (by simpa using aS),s5,h1]
theorem ati (d:Day)(f:Nat->Nat)(h:Nat->Rat)(i:Nat):(s8 d f h i).length<=i:=by
 have:=rU (λj=>decide (h j<d.U j (f j))) (dL i);rw[rm] at this;exact this
end Go.Mini
namespace Go.Mini
open Classical
def jD (d:Day)(l:List ar)(i:Nat):Rat:=cm (l.map cK) λc=>if c.to=(i:Int) then d.w c else 0
theorem atj (d:Day)(i:Nat):jD d [] i=0:=rfl
theorem aga (d:Day)(l:List ar)(c:ar)(i:Nat):jD d (l++[c]) i=jD d l i+if c.2.1=(i:Int) then d.w (cK c) else 0:=by
 unfold jD;rw[mq,Kb]
 congr 1
 show (if (cK c).to=(i:Int) then d.w (cK c) else 0)+0=_;rw[pj]
 rfl
theorem atk {cash:List Int}{cs:List ar}(h:gR cash cs=true)(f:Nat->Nat)(k i:Nat):jD (aA cash cs) (cO cs k (f k)) i=(aA cash cs).W f k i:=by
 have Y:=(g1.1 h).2.2.2;unfold jD Day.W;rw[Wk λc G=>⟨(Y c G).1,(Y c G).2.2.2.2.1⟩];refine vA λc _=>?_
 by_cases E:c.az=k/\c.rk=f k
 ·rw[Z E]
  by_cases H:c.to=(i:Int)
  ·rw[Z H,Z ⟨H,E⟩]
  ·rw[aa H,aa λh=>H h.1]
 ·rw[aa E,aa λh=>E h.2]
section
variable {cash:List Int} {cs:List ar} (Q:fG cash cs) {k r:Nat} (cB:0<(aA cash cs).S k r)
include Q cB
theorem Oq {c:ar}(G:c∈cO cs k r):eO (hS cs k r) ((aA cash cs).w (cK c))/\0<=(aA cash cs).w (cK c)/\(aA cash cs).w (cK c)=(c.2.2.2:Rat)/((jR cs k r:Int):Rat):=by
 obtain⟨E,H,ab⟩:=CZ.1 G;have aw:(cK c).az=k:=by show c.1.toNat=k;omega
 have aC:(cK c).rk=r:=by show c.2.2.1.toNat=r;omega
 have hm:cK c∈(aA cash cs).cZ:=vG E;refine⟨⟨c.2.2.2,?_⟩,Q.ok.p6 hm,?_⟩
 ·rw[CW Q.right,<-aw,<-aC];exact Day.FU (by rw[aw,aC];exact cB)
 ·unfold Day.w jR;rw[aw,aC];have:=NT Q.right k r;rw[<-this]
  rfl
theorem atl {l:List ar}(au:∃fv,cO cs k r=l++fv)(i:Nat):eI 54 (jD (aA cash cs) l i):=by
 obtain⟨fv,au⟩:=au;have fH:∀c∈l,c∈cO cs k r:=λc G=>by rw[au];simp[G]
 have atm:∀c∈fv,c∈cO cs k r:=λc G=>by rw[au];simp[G]
 have X:eO (hS cs k r) (jD (aA cash cs) l i):=by
  unfold jD;refine eO.cm λx O=>?_;obtain⟨c,G,rfl⟩:=fO.1 O
  split
  ·exact (Oq Q cB (fH c G)).1
  ·exact eO.zero _
 have ak:∀m:List ar,(∀c∈m,c∈cO cs k r)->0<=jD (aA cash cs) m i:=λm hm=>xr λx O=>by
  obtain⟨c,G,rfl⟩:=fO.1 O
  try dsimp only
  split
  ·exact (Oq Q cB (hm c G)).2.1
  ·exact fA
 have E:jD (aA cash cs) l i<=1:=by
  have e:jD (aA cash cs) (cO cs k r) i=jD (aA cash cs) l i+jD (aA cash cs) fv i:=by
   rw[au];unfold jD;rw[mq,Kb]
  have aC:jD (aA cash cs) (cO cs k r) i<=cm ((cO cs k r).map cK) (aA cash cs).w:=CK λx O=>by
   obtain⟨c,G,rfl⟩:=fO.1 O;have:=(Oq Q cB G).2.1
   split
   ·exact fA
   ·exact this
  have Y:=(g1.1 Q.right).2.2.2;rw[Wk λc G=>⟨(Y c G).1,(Y c G).2.2.2.2.1⟩] at aC
  have cx:cm (cs.map cK) (λc=>if c.az=k/\c.rk=r then (aA cash cs).w c else 0)=1:=by
   have J:k<(aA cash cs).n:=by
    obtain⟨c,G,aB⟩:=Vj cB
    by_cases mI:c.az=k/\c.rk=r
    ·rw[<-mI.1];exact Q.ok.az c G
    ·rw[aa mI] at aB;grind
   have:=Q.ok.JU (λj=>j=k) (λ_=>r) (λj ai=>by subst ai;exact cB) λ_=>1;rw[xq J (λj _ ai=>by rw[aa ai]),Z rfl] at this;refine (vA λc _=>?_).trans this
   by_cases G:c.az=k/\c.rk=r
   ·rw[Z G,Z G,Rat.mul_one]
   ·rw[aa G,aa G]
  have:=ak fv atm;grind
 have gH:0<hS cs k r:=by
  rw[<-CW Q.right] at cB;exact_mod_cast cB
 exact (X.sz gH (Q.CX k r) (ak l fH) (e:=0) (by rw[show ((2^0:Nat):Rat)=1 from rfl];exact E)).mono (by omega)
end
end Go.Mini
namespace Go.Mini
open Go
def jE (l:List ar):M:=if l=[] then .nil else .I (.af (l.map bp))
theorem atn {a b:List ar}(h:jE a=jE b):a=b:=by
 unfold jE at h
 by_cases a1:a=[]<;>by_cases ae:b=[]
 ·rw[a1,ae]
 ·rw[Z a1,aa ae] at h;cases h
 ·rw[aa a1,Z ae] at h;cases h
 ·rw[aa a1,aa ae] at h;exact map_inj zf _ _ (Data.af.inj (M.I.inj h))
theorem agb (l:List ar):pA (jE l)=some (D l):=by
 unfold jE
 split
 ·rename_i h;rw[h];rfl
 ·simp[pA]
theorem agc {l:List ar}{n:Nat}{c:ar}(h:l[n]?=some c):xW 4 n (jE l)=some (.I (.ptr (bp c))):=by
 unfold jE
 split
 ·rename_i au;rw[au] at h;cases h
 ·simp only[xW,a5,h,jo];rw[Z (qb c)]
structure nE where
 cash:Int
 cZ:List (List ar)
 us:List Int
 f:Int
 p:Bool
def fh (x:nE):List M:=dy x.cash::(x.cZ.map jE++(x.us.map dy++[dy x.f,kI x.p]))
def nE.vL (x:nE)(f:Int):nE:=⟨x.cash,x.cZ,x.us,f,x.p⟩
def nE.sp (x:nE)(p:Bool):nE:=⟨x.cash,x.cZ,x.us,x.f,p⟩
structure nE.c0 (x:nE):Prop where
 cZ:(D x.cZ)=10
 us:(D x.us)=11
theorem A6 {x:nE}(h:x.c0):(fh x).length=24:=by
 simp[fh,h.cZ,h.us]
theorem ato {x y:nE}(O:x.c0)(ao:y.c0)(h:fh x=fh y):x=y:=by
 unfold fh at h;obtain⟨E,H⟩:=vb h;obtain⟨ab,aM⟩:=Ey H (by rw[aj,aj,O.cZ,ao.cZ]);obtain⟨bl,bI⟩:=Ey aM (by rw[aj,aj,O.us,ao.us]);obtain⟨bC,bW⟩:=vb bI;obtain⟨iL,-⟩:=vb bW;obtain⟨bf,b5,cU,dr,hJ⟩:=x;obtain⟨sx,sy,C5,C6,aDF⟩:=y;have aC:=map_inj (λa b h=>atn h) _ _ ab;have cx:=afE bl;simp only[dy,kI,M.I.injEq,Data.int.injEq,Data.bool.injEq,true_and] at E bC iL;dsimp only at *;rw[E,aC,cx,bC,iL]
section
variable {x:nE} (h:x.c0)
include h
omit h in
theorem atp:hA 1 (fh x)=[dy x.cash]:=rfl
omit h in
theorem agd {k:Nat}{l:List ar}(J:x.cZ[k]?=some l):hA 1 (h4 (1+k) (fh x))=[jE l]:=by
 have aq:=(dK.1 J).1;unfold fh;rw[xT,C7,age (by rw[aj];omega),y6 (by rw[pL,aj];omega)];exact Oh (f:=jE) J
theorem Kg {k:Nat}{z:Int}(J:x.us[k]?=some z):hA 1 (h4 (11+k) (fh x))=[dy z]:=by
 have aq:=(dK.1 J).1;unfold fh;rw[show 11+k=(10+k)+1 by omega,C7,pK,k7 (by rw[aj,h.cZ];omega),aj,h.cZ,iM,show 10+k-10=k by omega,age (by rw[aj];omega),y6 (by rw[pL,aj];omega)]
 exact Oh (f:=dy) J
theorem Kh:hA 1 (h4 22 (fh x))=[dy x.f]:=by
 unfold fh;rw[C7,pK,k7 (by rw[aj,h.cZ];omega),aj,h.cZ,iM,pK,k7 (by rw[aj,h.us];omega),aj,h.us]
 rfl
theorem agf:hA 1 (h4 23 (fh x))=[kI x.p]:=by
 unfold fh;rw[C7,pK,k7 (by rw[aj,h.cZ];omega),aj,h.cZ,iM,pK,k7 (by rw[aj,h.us];omega),aj,h.us]
 rfl
theorem atq (f:Int):hA 22 (fh x)++[M.I (.int .i64 f)]++h4 23 (fh x)=fh (x.vL f):=by
 have e:fh x=(dy x.cash::(x.cZ.map jE++x.us.map dy))++[dy x.f,kI x.p]:=by simp[fh]
 have l:(dy x.cash::(x.cZ.map jE++x.us.map dy)).length=22:=by simp[h.cZ,h.us]
 rw[e,y6 (by omega),dD (by omega),pK,k7 (by omega),l];simp[fh,nE.vL,dy]
theorem agh (p:Bool):hA 23 (fh x)++[M.I (.bool p)]++h4 24 (fh x)=fh (x.sp p):=by
 have e:fh x=(dy x.cash::(x.cZ.map jE++(x.us.map dy++[dy x.f])))++[kI x.p]:=by simp[fh]
 have l:(dy x.cash::(x.cZ.map jE++(x.us.map dy++[dy x.f]))).length=23:=by simp[h.cZ,h.us]
 rw[e,y6 (by omega),dD (by omega),pK,k7 (by omega),l];simp[fh,nE.sp,kI]
end
structure cL where
 cash:List Int
 cs:List ar
 bg:List Int
 P:List Bool
 g:Nat
 gs:List Nat
def cL.gb (a:cL)(i:Nat):nE:=⟨a.cash.getD i 0,bu 10 λk=>cO a.cs i k,bu 11 λk=>cr a.cs i (k:Nat),a.bg.getD i 10,a.P.getD i false⟩
theorem cL.vM (a:cL)(i:Nat):(a.gb i).c0:=⟨gp _ _,gp _ _⟩
structure cL.eR (a:cL) (m:Mem):Prop where
 can:a.cs=da (D a.cash) a.cs
 bg:(D a.bg)=D a.cash
 pl:(D a.P)=D a.cash
 Ot:(D a.gs)=D a.cash
 row:m 228023=some (a.g,bu (D a.cash) λi => .ptr (228500+i) (a.gs.getD i 0) 0)
 dp:∀i,i<(D a.cash)->m (228500+i)=some (a.gs.getD i 0,fh (a.gb i))
theorem Ki {α:Type}{d:α}{n:Nat}{a b:List α}(a1:(D a)=n)(ae:(D b)=n)(h:∀i,i<n->a.getD i d=b.getD i d):a=b:=by
 apply ri;intro i;rcases hV i n with L|L
 ·have:=h i L;rw[dY,dY,bs (by omega),bs (by omega)] at this;rw[bs (by omega),bs (by omega)];exact congrArg some this
 ·rw[lL (by omega),lL (by omega)]
theorem agi {α:Type}{n:Nat}{p q:Nat->α}(h:bu n p=bu n q):∀i,i<n->p i=q i:=λi L=>by
 have E:=iE p L;rw[h,iE q L] at E;exact (ni E).symm
theorem cL.uniq {a b:cL}{m:Mem}(h:a.eR m)(b2:b.eR m):a=b:=by
 obtain⟨db,dH,fk,fM,n6,rV⟩:=a;obtain⟨dP,gV,oH,s7,asQ,afJ⟩:=b;obtain⟨aD,c2,c3,c4,Ou,Ov⟩:=h;obtain⟨d1,d2,d3,d4,d5,d6⟩:=b2;dsimp only at *;rw[Ou,cb,fu] at d5;obtain⟨rfl,e7⟩:=d5
 have aG:(D db)=D dP:=by
  have:=congrArg D e7;rwa [gp,gp] at this
 rw[<-aG] at e7 d1 d2 d3 d4 d6
 have aX:rV=afJ:=Ki (d:=0) c4 d4 λi L=>by
  have:=agi e7 i L;rw[M.ptr.injEq] at this;exact this.2.1
 subst aX
 have ae:∀i,i<(D db)->cL.gb ⟨db,dH,fk,fM,n6,rV⟩ i=cL.gb ⟨dP,gV,oH,s7,n6,rV⟩ i:=λi L=>by
  have E:=Ov i L;rw[d6 i L,cb,fu] at E;exact (ato (cL.vM _ _) (cL.vM _ _) E.2).symm
 simp only[cL.gb,nE.mk.injEq] at ae;have aw:db=dP:=Ki (d:=0) rfl aG.symm λi L=>(ae i L).1;subst aw
 have aC:dH=gV:=by
  rw[aD,d1];exact afq λi L k J=>agi (ae i L).2.1 k J
 have cx:fk=oH:=Ki (d:=10) c2 d2 λi L=>(ae i L).2.2.2.1;have dk:fM=s7:=Ki (d:=false) c3 d3 λi L=>(ae i L).2.2.2.2;rw[aC,cx,dk]
theorem cL.eR.az {a:cL}{mem m:Mem}{n:Nat}(h:a.eR mem)(aJ:dU n mem m)(aG:n≠228)(bl:(D a.cash)<=6):a.eR m :=
 ⟨h.can,h.bg,h.pl,h.Ot,by rw[aJ 228023 (by omega)];exact h.row,λi L=>by rw[aJ (228500+i) (by omega)];exact h.dp i L⟩

abbrev Kj:Int×Int×Int->List Data:=λ(x,a,b)=>[.int .i64 x,.int .i64 a,.int .i64 b]
def Ow:=cy Kj λ(x,a,b)=>some (.same (.bool (decide (a<=x)&&decide (x<=b))))
theorem WB:∀a b,Kj a=Kj b->a=b:=by
  rintro⟨bf,db,dP⟩ ⟨b5,dH,gV⟩ h;simp only[bh,Data.int.injEq,Data.agg.injEq,Data.af.injEq,Data.bool.injEq,Data.str.injEq,Data.ptr.injEq,Data.cw.injEq,fu,true_and,and_true] at h ⊢
  first|exact h|simpa [B1,and_assoc] using h|grind
@[go_sem] theorem aDG (x:Int)(a:Int)(b:Int):Ow [.int .i64 x,.int .i64 a,.int .i64 b]=some (.same (.bool (decide (a<=x)&&decide (x<=b)))):=cI WB (x,a,b)
theorem atr (T:bk)  (x:Int) (a:Int) (b:Int):WP T TH (.same (.bool (decide (a<=x)&&decide (x<=b)))) [.I (.int .i64 x),.I (.int .i64 a),.I (.int .i64 b)]:=by
 refine cC ?_;simp only[TH];rcases aD:decide (a<=x)
 ·have c2:decide (x>=a)=false:=aD;refine a9 ?_;repeat' (intro h<;>simp only[h,go_sem,go_sem_proc,aD,c2,fC]<;>try refine av ?_ ?_)
 ·have c2:decide (x>=a)=true:=aD;refine a9 ?_;repeat' (intro h<;>simp only[h,go_sem,go_sem_proc,aD,c2,hP]<;>try refine av ?_ ?_)
abbrev WD:Int->List Data:=λ(x:Int)=>[.int .i64 x,.ptr [.fn tM []]]
def WE:=cy WD λ(x:Int)=>some (.same (.bool (!jh x)))
theorem ats:∀a b,WD a=WD b->a=b:=by
  intro bf b5 h;simp only[bh,Data.int.injEq,Data.agg.injEq,Data.af.injEq,Data.bool.injEq,Data.str.injEq,Data.ptr.injEq,Data.cw.injEq,fu,true_and,and_true] at h ⊢
  first|exact h|simpa [B1,and_assoc] using h|grind
@[go_sem] theorem att (x:Int):WE [.int .i64 x,.ptr [.fn tM []]]=some (.same (.bool (!jh x))):=cI ats x
theorem atu (T:bk)(WG:T tM=aW Ow)(x:Int):WP T TI (.same (.bool (!jh x))) [.I (.int .i64 x),.I (.ptr [.fn tM []])]:=by
 refine cC ?_;simp only[TI];unfold jh;refine a9 ?_;repeat' (intro h<;>simp only[h,go_sem,go_sem_proc,WG]<;>try refine av ?_ ?_)
abbrev WH:Int×Int×Int×Int×Int->List Data:=λ(a,b,k,x,n)=>[.agg [.int .i64 a,.int .i64 b,.int .i64 k,.int .i64 x],.ptr [.fn tM []],.ptr [.int .i64 n]]
def WI:=cy WH λ(a,b,k,x,n)=>cT (0<=n/\n<=1000000) (.same (.bool (!kY n (a,b,k,x))))
theorem atv:∀a b,WH a=WH b->a=b:=by
  rintro⟨db,dP,cH,bf,ht⟩ ⟨dH,gV,dc,b5,jI⟩ h;simp only[bh,Data.int.injEq,Data.agg.injEq,Data.af.injEq,Data.bool.injEq,Data.str.injEq,Data.ptr.injEq,Data.cw.injEq,fu,true_and,and_true] at h ⊢
  first|exact h|simpa [B1,and_assoc] using h|grind
@[go_sem] theorem atw (a:Int)(b:Int)(k:Int)(x:Int)(n:Int)(G:0<=n/\n<=1000000):WI [.agg [.int .i64 a,.int .i64 b,.int .i64 k,.int .i64 x],.ptr [.fn tM []],.ptr [.int .i64 n]]=some (.same (.bool (!kY n (a,b,k,x)))):=(cI atv (a,b,k,x,n)).trans (cY G _)
theorem atx (T:bk)(WG:T tM=aW Ow)(a:Int)(b:Int)(k:Int)(x:Int)(n:Int)(G:0<=n/\n<=1000000):WP T TJ (.same (.bool (!kY n (a,b,k,x)))) [.I (.agg [.int .i64 a,.int .i64 b,.int .i64 k,.int .i64 x]),.I (.ptr [.fn tM []]),.I (.ptr [.int .i64 n])]:=by
 refine cC ?_;simp only[TJ];have w:IntKind.i64.wrap (n-1)=n-1:=by rw[eA _]
 have e:kY n (a,b,k,x)=((decide (0<=a)&&decide (a<=n-1))&&((decide (-1<=b)&&decide (b<=n-1))&&((decide (0<=k)&&decide (k<=9))&&(decide (0<=x)&&decide (x<=1000000000000000))))):=by
  rw[kB,Od];simp only[e3,decide_eq_true_eq];omega
 rw[e];rcases aD:(decide (0<=a)&&decide (a<=n-1))<;>rcases c2:(decide (-1<=b)&&decide (b<=n-1))<;>rcases c3:(decide (0<=k)&&decide (k<=9))<;>rcases c4:(decide (0<=x)&&decide (x<=1000000000000000))
 all_goals
      refine a9 ?_;repeat' (intro h<;>simp only[h,go_sem,go_sem_proc,WG,w,aD,c2,c3,c4]<;>try refine av ?_ ?_)
structure cL.Gg (a:cL):Prop where
 pq:fG a.cash a.cs
 fI:∀x∈a.bg,0<=x/\x<=10
theorem cL.Kk {a:cL}{m:Mem}(h:a.eR m)(aJ:a.Gg){i:Nat}(L:i<D a.cash):a.bg.getD i 10=(bD a.bg i:Int)/\bD a.bg i<=10:=by
 have au:=h.bg
 have:a.bg.getD i 10∈a.bg:=by
  rw[dY,bs (by omega)];exact mD _
 have:=aJ.fI _ this;unfold bD;omega
structure WJ (x:cL×Nat) (mem:Mem):Prop where
 at_:x.1.eR mem
 no:qW 255 mem
 Gh:x.1.Gg
 lt:x.2<x.1.cash.length
 f10:bD x.1.bg x.2<10
 S:0<(aA x.1.cash x.1.cs).S x.2 (bD x.1.bg x.2)
def Ox (x:cL×Nat):Data:=.cw [.af ((df x.1.cash.length λi=>(aA x.1.cash x.1.cs).W (bD x.1.bg) x.2 i).map aL),.bool true]
def Oy:List M->Mem->Option Data:=C3 (λ(x:cL×Nat) args mem=>args=[.ptr (228500+x.2) (x.1.gs.getD x.2 0) 0,.I (.int .i64 x.1.cash.length)]/\WJ x mem) Ox
theorem aty (a:cL)(k:Nat)(mem:Mem)(h:WJ (a,k) mem):Oy [.ptr (228500+k) (a.gs.getD k 0) 0,.I (.int .i64 (D a.cash))] mem=some (Ox (a,k)):=by
 refine Wq (a:=(a,k)) ?_ ⟨rfl,h⟩;rintro⟨a,i⟩ ⟨b,j⟩ args mem ⟨aw,aC⟩ ⟨cx,dk⟩;obtain rfl:=cL.uniq aC.at_ dk.at_;rw[aw] at cx;simp only[bh,M.ptr.injEq,M.I.injEq,Data.int.injEq,true_and,and_true] at cx;have E:228500+i=228500+j:=cx.1;have:i=j:=by omega
 rw[this]
theorem atz (N:Nat)(aP:bU):(eu N (aL aP)).flatten.map M.I=aY aL (eu N aP):=by
 unfold aY;rw[FM,List.map_flatten,FM]
theorem atA (T:bk)(hb:T ox=aW uy)(atB:T Q7=aW Vb)(A3:T BP=aW Jc)(w4:T z0=aW Cr)(a:cL)(k:Nat)(mem:Mem)(h:WJ (a,k) mem):
  wp T M3.body (rG M3.res λm mem'=>c8 6 emp m=some (Ox (a,k))/\dU 255 mem mem') ⟨mA [.ptr (228500+k) (a.gs.getD k 0) 0,.I (.int .i64 (D a.cash))],mem⟩:=by
 obtain⟨bF,ie,qX,J,uB,cB⟩:=h;dsimp only at *;obtain⟨Q,fI⟩:=qX;have aG:=Q.ly;have rz:=bF.dp k J;have sV:=(cL.Kk bF ⟨Q,fI⟩ J).1;have cX:=a.vM k;have hlen:=A6 cX;have lB:=Kh cX;rw[show (a.gb k).f=(bD a.bg k:Int) from sV] at lB;have gr:=agd (x:=a.gb k) (k:=bD a.bg k) (l:=cO a.cs k (bD a.bg k)) (iE _ uB);have rW:=Kg cX (k:=bD a.bg k) (z:=cr a.cs k (bD a.bg k:Nat)) (iE _ (by omega));have agj:=Kg cX (k:=bD a.bg k+1) (z:=cr a.cs k (bD a.bg k+1:Nat)) (iE _ (by omega));have S7:∀j,228500+k≠255000+j:=λj=>by omega
 generalize fh (a.gb k)=DC at *;have WK:=A2 0 Ke;have aQ:df (D a.cash) (jD (aA a.cash a.cs) [])=eu (D a.cash) (aE ((0:Int):Rat)):=(J6 JP λj ai=>by rw[afS,Z ai,atj];rfl).symm;generalize fQ:cO a.cs k (bD a.bg k)=cN at *;refine wq ?_;simp only[M3];have s9:(228500+k)/1000≠255:=by omega
 have kU:mem 255017=none:=ie 255017 (by decide);have fH:=λc (G:c∈cN)=>CZ.1 (fQ ▸ G:c∈cO a.cs k (bD a.bg k));have agk:=λc (G:c∈cN)=>(Oq Q cB (fQ ▸ G:c∈cO a.cs k (bD a.bg k))).2.2;have agl:=λl i (au:∃fv,cN=l++fv)=>atl Q cB (l:=l) (by rw[fQ];exact au) i;have agm:=λi=>atk Q.right (bD a.bg) k i;rw[fQ] at agm
 have aDH:(D cN)<=12:=by
  have E:=rU (λc:ar=>c.1==(k:Int)&&c.2.2.1==(bD a.bg k:Int)) a.cs;have H:=Q.vI;rw[<-fQ];unfold cO;omega
 have aDI:(0:Int)<jR a.cs k (bD a.bg k):=by
  have E:=NT Q.right k (bD a.bg k);rw[<-E] at cB;have:(0:Int)<cr a.cs k (bD a.bg k+1:Nat)-cr a.cs k (bD a.bg k):=by exact_mod_cast cB
  exact this
 have atC:jR a.cs k (bD a.bg k)=cr a.cs k (bD a.bg k+1:Nat)-cr a.cs k (bD a.bg k:Nat):=rfl;have Ty:=Q.upto k (bD a.bg k+1:Nat);have Cj:=Q.upto k (bD a.bg k:Nat);have atD:=(g1.1 Q.right).2.2.2;generalize du:228500+k=dJ at *;have n7:∀j,dJ≠255000+j:=λj=>by omega
 have Kl:(dJ=255009)=False:=eq_false (n7 9);have agn:(dJ=255010)=False:=eq_false (n7 10);have ago:(dJ=255012)=False:=eq_false (n7 12);have WL:(dJ=255017)=False:=eq_false (n7 17);have C8:(dJ==255009)=false:=beq_eq_false_iff_ne.2 (n7 9);have agp:(dJ==255010)=false:=beq_eq_false_iff_ne.2 (n7 10);have agq:(dJ==255012)=false:=beq_eq_false_iff_ne.2 (n7 12);have agr:(dJ==255017)=false:=beq_eq_false_iff_ne.2 (n7 17);have d9:(255009==dJ)=false:=beq_eq_false_iff_ne.2 (n7 9).symm;have d10:(255010==dJ)=false:=beq_eq_false_iff_ne.2 (n7 10).symm;have d12:(255012==dJ)=false:=beq_eq_false_iff_ne.2 (n7 12).symm;have d17:(255017==dJ)=false:=beq_eq_false_iff_ne.2 (n7 17).symm;have eB:bD a.bg k+1<11:=by omega
 have al:bD a.bg k<11:=by omega
 have bO:(1+bD a.bg k+1<=24)=True:=eq_true (by omega);have b7:(11+bD a.bg k+1<=24)=True:=eq_true (by omega);have ags:(11+(bD a.bg k+1)+1<=24)=True:=eq_true (by omega);have wf:IntKind.i64.wrap ((bD a.bg k:Int)+1)=((bD a.bg k+1:Nat):Int):=by rw[eA _];omega
 have kq:=rz;generalize aDJ:cr a.cs k (bD a.bg k+1:Nat)=agt at *;generalize aDK:cr a.cs k (bD a.bg k:Nat)=atE at *;generalize aDL:bD a.bg k=F0 at *;generalize agu:aE ((0:Int):Rat)=xc at *;obtain⟨⟨gj,h7⟩,⟨uC,A7⟩⟩:=xc;have WM:=aqT gj h7 uC A7 (D a.cash) (by omega);have gg:=atz (D a.cash) ((gj,h7),(uC,A7));simp only[aL] at WK WM gg;have eb:=agb cN;simp only[go_sem,go_sem_proc] at eb;simp only[go_sem,go_sem_proc,hb,WK,atB,WM,gg,rz,hlen,uB,lB,gr,WL,bO,kU,dy,cM,eb,JP]
 refine dE [0,6,26,27] [] (λ(j:Nat) tm m=>j<=D cN/\tm 28=.I (.int .i64 j)/\tm 7=.I (.bool true)/\m 255017=some (0,aY aL (df (D a.cash) (jD (aA a.cash a.cs) (cN.take j))))/\dU 255 mem m) (λj=>D cN-j) 0 (by
  refine⟨by omega,rfl,rfl,?_,(dU.refl _ _).eP (by decide)⟩
  rw[oY,aQ];simp[a3,kU,gh]) ?_
 intro vs ms aV aR;simp only[go_sem,go_sem_proc] at aV aR;subst aV aR;clear WK WM gg rz;rintro j tm m J-⟨ai,nF,cg,A8,bR⟩;simp only[go_sem,go_sem_proc,bh] at J;obtain⟨b6,bQ,k2,mx⟩:=J;have ae:=(bR dJ s9).trans kq;rcases dQ (j<D cN) with aq|ck
 ·have d1:decide ((j:Int)<(D cN:Int))=true:=dg;have cf:=fW (i:=j) (by omega);obtain⟨⟨aD,c2,c3,c4⟩,O⟩:∃c,cN[j]?=some c:=⟨_,bs aq⟩;have AJ:=eL O;have mF:=atD _ (fH _ AJ).1;dsimp only at mF;have rK:=agc O;simp only[go_sem,go_sem_proc] at rK;have ll:cN.take (j+1)=cN.take j++[(aD,c2,c3,c4)]:=by rw[ks,O];rfl
  rcases q:decide (c2<0)
  ·have ts:0<=c2:=by have:=of_decide_eq_false q;omega
   obtain⟨t,rfl⟩:∃t:Nat,c2=(t:Int):=⟨c2.toNat,by omega⟩
   have hw:=agk _ AJ;dsimp only at hw;have kN:=asR (p:=c4) (q:=jR a.cs k F0) (oK (by omega) (by omega)) (oK (by omega) (by omega)) (by omega);rw[<-hw] at kN;have Oz:=aoc c4 (jR a.cs k F0) ⟨oK (by omega) (by omega),oK (by omega) (by omega)⟩;rw[kN] at Oz;have gj:=agl (cN.take j) t ⟨cN.drop j,(zX j cN).symm⟩;have h7:=asS Q (fH _ AJ).1;have n1:=afy (k1 gj (by omega)) (k1 h7 (by omega)) (AW gj h7 (by omega))
   have zi:df (D a.cash) (jD (aA a.cash a.cs) (cN.take (j+1)))=(df (D a.cash) (jD (aA a.cash a.cs) (cN.take j))).set t (aE (jD (aA a.cash a.cs) (cN.take j) t+(aA a.cash a.cs).w (cK (aD,(t:Int),c3,c4)))):=by
    rw[asT];refine Gc λi _=>?_;rw[ll,aga]
    by_cases L:i=t
    ·rw[Z L,Z (by dsimp only;omega),L]
    ·rw[aa L,aa (by dsimp only;omega),pj]
   have agv:IntKind.i64.wrap (agt-atE)=jR a.cs k F0:=by rw[wrap64 _ (by omega) (by omega),atC]
   have Uf:(df (D a.cash) (jD (aA a.cash a.cs) (cN.take j))).length=D a.cash:=qa _ _;have atF:=ux (N:=D a.cash) (jD (aA a.cash a.cs) (cN.take j)) (k:=t) (by omega);clear gj h7 agl agk kN hw;generalize aE (jD (aA a.cash a.cs) (cN.take j) t+(aA a.cash a.cs).w (cK (aD,(t:Int),c3,c4)))=F1 at *;generalize aE (jD (aA a.cash a.cs) (cN.take j) t)=F2 at *;generalize aE ((aA a.cash a.cs).w (cK (aD,(t:Int),c3,c4)))=F3 at *;generalize df (D a.cash) (jD (aA a.cash a.cs) (cN.take j))=bZ at *;obtain⟨⟨db,dH⟩,⟨fk,fM⟩⟩:=F1;obtain⟨⟨f1,f2⟩,⟨f3,f4⟩⟩:=F2;obtain⟨⟨cF,cQ⟩,⟨h0,kV⟩⟩:=F3;have t1:=Fv atF;have t2:=Fu (l:=bZ) (k:=t) (by omega);have t3:=UA (l:=bZ) (k:=t) (by omega) db dH fk fM;have LF:t<D a.cash:=by omega
   simp only[aL,eh] at Oz n1;simp only[go_sem,go_sem_proc,A3,w4,b6,bQ,cg,k2,mx,nF,ae,A8,rK,hlen,lB,rW,agj,wf,agv,d1,cf,q,Oz,n1,t1,t2,t3,LF,uB,eB,al,bO,b7,ags,Kl,agn,ago,WL,C8,agp,agq,agr,d9,d10,d12,d17,bp,dy,cM,beq_self_eq_true];repeat' (first|refine av ?_ ?_|fail)<;>intro h<;>simp only[h,go_sem,go_sem_proc,A3,w4,b6,bQ,cg,k2,mx,nF,ae,A8,rK,hlen,lB,rW,agj,wf,agv,d1,cf,q,Oz,n1,t1,t2,t3,LF,uB,eB,al,bO,b7,ags,Kl,agn,ago,WL,C8,agp,agq,agr,d9,d10,d12,d17,bp,dy,cM,beq_self_eq_true]
   refine⟨j+1,by omega,by omega,rfl,by rw[zi],by repeat first|exact bR|refine dU.eP ?_ (by decide)⟩
  ·have ts:c2<0:=of_decide_eq_true q
   have zi:df (D a.cash) (jD (aA a.cash a.cs) (cN.take (j+1)))=df (D a.cash) (jD (aA a.cash a.cs) (cN.take j)):=Gc λi _=>by
    rw[ll,aga,aa (by dsimp only;omega),pj]
   simp only[go_sem,go_sem_proc,b6,bQ,cg,k2,mx,nF,ae,A8,rK,d1,cf,q,bp,cM];repeat' (first|refine av ?_ ?_|fail)<;>intro h<;>simp only[h,go_sem,go_sem_proc,b6,bQ,cg,k2,mx,nF,ae,A8,rK,d1,cf,q,bp,cM]
   refine⟨j+1,by omega,by omega,rfl,by rw[zi],by repeat first|exact bR|refine dU.eP ?_ (by decide)⟩
 ·have d1:decide ((j:Int)<(D cN:Int))=false:=c1;rw[dD (by omega)] at A8;have zi:df (D a.cash) (jD (aA a.cash a.cs) cN)=df (D a.cash) λi=>(aA a.cash a.cs).W (bD a.bg) k i:=Gc λi _=>agm i;rw[zi] at A8;have l8:(df (D a.cash) λi=>(aA a.cash a.cs).W (bD a.bg) k i).length=D a.cash:=qa _ _;have l0:=λ(K:a2->Prop) (st:a2)=>mb (K:=K) (st:=st) mU 6 255017 0 (df (D a.cash) λi=>(aA a.cash a.cs).W (bD a.bg) k i);rw[l8] at l0;simp only[go_sem,go_sem_proc,b6,bQ,cg,k2,mx,nF,ae,A8,d1,l0];repeat' (first|refine av ?_ ?_|fail)<;>intro h<;>simp only[h,go_sem,go_sem_proc,b6,bQ,cg,k2,mx,nF,ae,A8,d1,l0]
  exact⟨_,rfl,rfl,by repeat first|exact bR|refine dU.eP ?_ (by decide)|refine dU.kill ?_ (by decide)⟩
theorem agw (N:Nat)(x:Nat->Rat):df (N+1) x=df N x++[aE (x N)]:=by
 unfold df;rw[po,mq,mq];rfl
theorem uD {l:List M}{k:Nat}{y:M}(h:l[k]?=some y):hA 1 (h4 k l)=[y]:=by
 have:=Oh (f:=id) h;rwa [List.map_id] at this
def rX (n:Nat)(W:Nat->Nat->Rat)(k:Nat):List Data:=[.af ((df n (W k)).map aL)]
theorem atG (T:bk)(hb:T ox=aW uy)(kF:T tH=aW w3){K:ev->a2->Prop}{kk:List fV}(ec:Mem)(n:Nat)(aG:n<=60)(p:List Nat)(aB:(D p)<=60)(W:Nat->Nat->Rat)(r i:Nat)(L:i<n)(wD:∀k,k<(D p)->eI 54 (W (p.getD k 0) i))(v0 v1 v10 v20 agx agy:M)(bA Gi:Nat)(aD c2 c3 c4:M)(agz:Option (Nat×List M))(tm:Nat->M)(m:Mem)
  (b6:tm 0=v0) (aw:tm 1=v1) (aC:tm 2=.I (.af (p.map h9))) (cx:tm 3=.I (.af (p.map (rX n W)))) (fL:tm 10=v10) (pr:tm 11=.I (.int .i64 r)) (ij:tm 12=.I (.int .i64 i)) (iR:tm 13=.ptr 256013 bA 0) (n8:tm 20=v20) (sM:tm 21=agx) (qL:tm 22=agy) (m3:tm 50=.I (.int .i64 (D p))) (m4:tm 51=.I (.int .i64 0)) (Gj:m 256013=some (bA,[.ref 256076 Gi 4 0 0,aD,c2,c3,c4])) (Gk:m 256076=some (Gi,[])) (C9:m 256082=agz) (bR:dU 256 ec m)
  (du:∀tm' m' agA,tm' 0=v0->tm' 1=v1->tm' 2=.I (.af (p.map h9))->tm' 3=.I (.af (p.map (rX n W)))->tm' 10=v10->tm' 13=.ptr 256013 bA 0->tm' 20=v20->tm' 21=agx->tm' 22=agy->m' 256013=some (bA,[.ref 256076 agA 4 0 (D p),aD,c2,c3,c4])->m' 256076=some (agA,aY aL (df (D p) λk=>(if r=k then 1 else 0)-W (p.getD k 0) i))->m' 256082=agz->dU 256 ec m'->b8 T K kk (.exit 2) ⟨tm',m'⟩) :
  wp T (Fa.body.sub [1,1,0,1,0,0,0,1,1,0,0,1,1,0,1,0]) (b8 T K kk) ⟨tm,m⟩:=by
 simp only[Fa,dZ.sub];refine dE [0,1,2,3,10,11,12,13,20,21,22,50] [256082] (λ((k,g):Nat×Nat) tm m=>k<=D p/\tm 51=.I (.int .i64 k)/\m 256013=some (bA,[.ref 256076 g 4 0 k,aD,c2,c3,c4])/\m 256076=some (g,aY aL (df k λk=>(if r=k then 1 else 0)-W (p.getD k 0) i))/\dU 256 ec m) (λ(k,_)=>D p-k) (0,Gi) (by refine⟨by omega,m4,Gj,Gk,bR⟩) ?_;intro vs ms aV aR;simp only[go_sem,go_sem_proc,b6,aw,aC,cx,fL,pr,ij,iR,n8,sM,qL,m3,C9] at aV aR;subst aV aR;clear b6 aw aC cx fL pr ij iR n8 sM qL m3 m4 Gj Gk C9 bR tm m;rintro⟨k,g⟩ tm m J hm ⟨FT,m4,Gj,Gk,bR⟩;simp only[go_sem,go_sem_proc,bh] at J hm;obtain⟨b6,aw,aC,cx,fL,pr,ij,iR,n8,sM,qL,m3⟩:=J;rcases dQ (k<D p) with aq|ck
 ·have d1:decide ((k:Int)<(D p:Int))=true:=dg;have cf:=fW (i:=k) (by omega);obtain⟨uE,O⟩:∃c,p[k]?=some c:=⟨_,bs aq⟩;have kW:p.getD k 0=uE:=by rw[dY,O];rfl
  have Km:=wD k aq;have aV:=agw k λk=>(if r=k then 1 else 0)-W (p.getD k 0) i;have bX:(df k λk=>(if r=k then 1 else 0)-W (p.getD k 0) i).length=k:=qa _ _;have di:=λ(aP:bU) cs kj=>mK mU Fb 256076 g 64 (df k λk=>(if r=k then 1 else 0)-W (p.getD k 0) i) aP (cs:=cs) kj (by omega) (by omega);simp only[bX] at di;rw[kW] at Km aV;have aX:=ux (W uE) L;generalize df k (λk=>(if r=k then 1 else 0)-W (p.getD k 0) i)=V at *;generalize tX:df (k+1) (λk=>(if r=k then 1 else 0)-W (p.getD k 0) i)=V2 at *;clear du wD;have key:∀o:Int,(o=0\/o=1)->(if r=k then (1:Rat) else 0)=(o:Rat)->True:=λ_ _ _=>trivial;rcases q:((k:Int)==(r:Int))
  ·have ha:¬ r=k:=by have:=ne_of_beq_false q;omega
   have hw:=A2 0 Ke;have Q:=Of (qd Ke) (k1 Km (by omega)) (AW (Ge (z:=0) (b:=1) (by decide)) (CT Km) (by omega));rw[aa ha,show (0:Rat)=((0:Int):Rat) from rfl] at aV;generalize aE ((0:Int):Rat)=xc at *;generalize aE (W uE i)=eJ at *;generalize aE (((0:Int):Rat)-W uE i)=cA at *;obtain⟨⟨gj,h7⟩,⟨uC,A7⟩⟩:=xc;obtain⟨⟨sx,sy⟩,⟨C5,C6⟩⟩:=eJ;obtain⟨⟨bf,b5⟩,⟨cU,dr⟩⟩:=cA;have qY:=di ((bf,b5),(cU,dr)) _ rfl;rw[<-aV] at qY;simp only[aL,e5,cl] at qY hw Q;refine a9 ?_;repeat' (intro h<;>simp only[h,go_sem,go_sem_proc,hb,kF,b6,aw,aC,cx,fL,pr,ij,iR,n8,sM,qL,m3,m4,Gj,Gk,hm,d1,cf,q,O,rX,aX,hw,Q,qY,aL,aj,a5,bne,beq_self_eq_true,ca,ug]<;>try refine av ?_ ?_)
   exact⟨(k+1,g+1),by dsimp only;omega,by dsimp only;omega,rfl,rfl,by rw[<-tX],by repeat first|exact bR|refine dU.eP ?_ (by decide)⟩
  ·have ha:r=k:=by have:=eq_of_beq q;omega
   have hw:=A2 1 Wt;have Q:=Of (qd Wt) (k1 Km (by omega)) (AW (Ge (z:=1) (b:=1) (by decide)) (CT Km) (by omega));rw[Z ha,show (1:Rat)=((1:Int):Rat) from rfl] at aV;generalize aE ((1:Int):Rat)=xc at *;generalize aE (W uE i)=eJ at *;generalize aE (((1:Int):Rat)-W uE i)=cA at *;obtain⟨⟨gj,h7⟩,⟨uC,A7⟩⟩:=xc;obtain⟨⟨sx,sy⟩,⟨C5,C6⟩⟩:=eJ;obtain⟨⟨bf,b5⟩,⟨cU,dr⟩⟩:=cA;have qY:=di ((bf,b5),(cU,dr)) _ rfl;rw[<-aV] at qY;simp only[aL,e5,cl] at qY hw Q;refine a9 ?_;repeat' (intro h<;>simp only[h,go_sem,go_sem_proc,hb,kF,b6,aw,aC,cx,fL,pr,ij,iR,n8,sM,qL,m3,m4,Gj,Gk,hm,d1,cf,q,O,rX,aX,hw,Q,qY,aL,aj,a5,bne,beq_self_eq_true,ca,ug]<;>try refine av ?_ ?_)
   exact⟨(k+1,g+1),by dsimp only;omega,by dsimp only;omega,rfl,rfl,by rw[<-tX],by repeat first|exact bR|refine dU.eP ?_ (by decide)⟩
 ·have d1:decide ((k:Int)<(D p:Int))=false:=c1;obtain rfl:k=D p:=by omega
  refine a9 ?_;repeat' (intro h<;>simp only[h,go_sem,go_sem_proc,b6,aw,aC,cx,fL,pr,ij,iR,n8,sM,qL,m3,m4,d1]<;>try refine av ?_ ?_)
  refine du _ _ g ?_ ?_ ?_ ?_ ?_ ?_ ?_ ?_ ?_ Gj Gk hm bR<;>simp only[eQ,dA,if_false,b6,aw,aC,cx,fL,iR,n8,sM,qL]
structure WN (a:cL) (mem:Mem):Prop where
 at_:a.eR mem
 no:qW 256 mem
 Gh:a.Gg
 iS:rT (aA a.cash a.cs) (bD a.bg) (e6 a.P)
def cL.p (a:cL):List Nat:=cz (e6 a.P) (D a.cash)
def OA (a:cL):List M:=[.ref 228023 a.g 1 0 (D a.cash),.I (.af ((bu (D a.cash) λi=>kG a.cash a.cs (bD a.bg) i).map ad)),.I (.af (a.p.map h9)),.I (.af (a.p.map (rX (D a.cash) λk i=>(aA a.cash a.cs).W (bD a.bg) k i)))]
def cL.xs (a:cL):List bU:=df (D a.p) λk=>(aA a.cash a.cs).eN (bD a.bg) (e6 a.P) (a.p.getD k 0)-(aA a.cash a.cs).U (a.p.getD k 0) (bD a.bg (a.p.getD k 0))
def OB (a:cL):Data:=.cw [.af (a.xs.map aL),.bool true]
def OC:List M->Mem->Option Data:=C3 (λ(a:cL) args mem=>args=OA a/\WN a mem) OB
theorem atH (a:cL)(mem:Mem)(h:WN a mem):OC (OA a) mem=some (OB a):=by
 refine Wq (a:=a) ?_ ⟨rfl,h⟩;rintro a b args mem ⟨aw,aC⟩ ⟨cx,dk⟩;rw[cL.uniq aC.at_ dk.at_]
theorem atI (T:bk)(hb:T ox=aW uy)(kF:T tH=aW w3)(atJ:T Q2=aW U1)(a:cL)(mem:Mem)(a1:WN a mem):
  wp T Fa.body (rG Fa.res λm mem'=>c8 6 emp m=some (OB a)/\dU 256 mem mem') ⟨mA (OA a),mem⟩:=by
 obtain⟨bF,ie,qX,m5⟩:=a1;have sV:=λi=>cL.Kk bF qX (i:=i);obtain⟨Q,fI⟩:=qX;have aG:=Q.ly;have nS:=λk=>vH (P:=e6 a.P) (n:=D a.cash) (k:=k);have N9:=ast Q m5;have WO:=Wa Q m5.qS (cz (e6 a.P) (D a.cash)) (λk J=>⟨(vH J).2,(vH J).1⟩) λi j L ai=>Wb L ai;have atK:=λk (J:e6 a.P k) i=>(N8 Q m5 J i).1
 have aDM:(cz (e6 a.P) (D a.cash)).length<=6:=by
  unfold cz;exact eF (rU _ _) (by rw[rm];exact aG)
 have atL:mem 256082=none:=ie 256082 (by decide);unfold OA OB cL.xs cL.p;generalize aB:cz (e6 a.P) (D a.cash)=p at *;generalize dj:(aA a.cash a.cs).s6 (bD a.bg) p=A at *;generalize atM:(bu (D a.cash) λi=>kG a.cash a.cs (bD a.bg) i).map ad=agB at *;have atN:∀i,i<(D a.cash)->agB[i]?=some [.int .i64 (kG a.cash a.cs (bD a.bg) i)]:=λi L=>by rw[<-atM,a5,iE _ L];rfl
 refine wq ?_;simp only[Fa];simp only[go_sem,go_sem_proc,atL,aj];refine dE [0,1,2,3,20,21] [] (λ((r,g):Nat×Nat) tm m=>r<=D p/\tm 22=.I (.int .i64 r)/\tm 10=.ref 256082 g 5 0 r/\m 256082=some (g,aY jx ((rowsOf (D p) A).take r))/\dU 256 mem m) (λ(r,_)=>D p-r) (0,0) (by refine⟨by omega,rfl,rfl,rfl,(dU.refl _ _).eP (by decide)⟩) ?_;intro vs ms aV aR;simp only[go_sem,go_sem_proc,aj] at aV aR;subst aV aR;rintro⟨r,g⟩ tm m J hm ⟨agC,qL,fL,C9,bR⟩;simp only[go_sem,go_sem_proc,bh] at J;obtain⟨b6,aw,aC,cx,n8,sM⟩:=J;rcases dQ (r<D p) with aq|ck
 ·have d1:decide ((r:Int)<(D p:Int))=true:=dg;have cf:=fW (i:=r) (by omega);obtain⟨i,O⟩:∃c,p[r]?=some c:=⟨_,bs aq⟩;have CV:p.getD r 0=i:=by rw[dY,O];rfl
  obtain⟨L,atO⟩:=nS r aq;rw[CV] at L atO;obtain⟨qX,uB⟩:=sV i L;have e7:=(bR.at 228023 (by omega)).trans bF.row;have eV:=(bR.at (228500+i) (by omega)).trans (bF.dp i L);have hZ:=uD (iE (λi=>M.ptr (228500+i) (a.gs.getD i 0) 0) L);have bX:(bu (D a.cash) λi=>M.ptr (228500+i) (a.gs.getD i 0) 0).length=D a.cash:=gp _ _;have cX:=a.vM i;have hlen:=A6 cX;have lB:=Kh cX;rw[show (a.gb i).f=(bD a.bg i:Int) from qX] at lB;have rW:=Kg cX (k:=bD a.bg i) (z:=cr a.cs i (bD a.bg i:Nat)) (iE _ (by omega));have ey:=atN i L;have dP:=Q.steady (bD a.bg) i;have gV:=Q.upto i (bD a.bg i);have atP:IntKind.i64.wrap (kG a.cash a.cs (bD a.bg) i-cr a.cs i (bD a.bg i:Nat))=kG a.cash a.cs (bD a.bg) i-cr a.cs i (bD a.bg i:Nat):=by rw[eA _]
  have hw:=A2 (kG a.cash a.cs (bD a.bg) i-cr a.cs i (bD a.bg i:Nat)) (oK (by omega) (by omega))
  have atQ:A r (D p)=((kG a.cash a.cs (bD a.bg) i-cr a.cs i (bD a.bg i:Nat):Int):Rat):=by
   rw[<-dj];unfold Day.s6;rw[aa (by omega),CV,<-J9 Q.right,<-sY Q.right,sZ]
  have atS:∀k,k<(D p)->A r k=(if r=k then 1 else 0)-(aA a.cash a.cs).W (bD a.bg) (p.getD k 0) i:=λk J=>by
   rw[<-dj];unfold Day.s6;rw[Z J,CV]
  have eB:i+1<=D a.cash:=by omega
  have al:bD a.bg i<11:=by omega
  have bO:(11+bD a.bg i+1<=24)=True:=eq_true (by omega);rw[<-atQ] at hw;generalize s9:228500+i=dJ at *;generalize fh (a.gb i)=DC at *;generalize (bu (D a.cash) λi=>M.ptr (228500+i) (a.gs.getD i 0) 0)=vN at *;generalize kG a.cash a.cs (bD a.bg) i=S1 at *;generalize cr a.cs i (bD a.bg i:Nat)=agt at *;generalize bD a.bg i=F0 at *;generalize iA:aE (A r (D p))=eJ at *;obtain⟨⟨sx,sy⟩,⟨C5,C6⟩⟩:=eJ;simp only[aL] at hw;have atT:(dJ==256013)=false:=beq_eq_false_iff_ne.2 (by omega);have atU:(256013==dJ)=false:=beq_eq_false_iff_ne.2 (by omega);have atV:(dJ=256013)=False:=eq_false (by omega);simp only[go_sem,go_sem_proc,hb,b6,aw,aC,cx,fL,n8,sM,qL,e7,eV,hZ,bX,hlen,lB,rW,ey,atP,hw,O,d1,cf,L,eB,al,bO,atT,atU,atV,dy,h9,cM,aj,a5];refine asN (kc:=256013) (g:=gh (m 256013)) (off:=0) (cs:=[.nil,.I (.int .i64 sx),.I (.af (sy.map ad)),.I (.int .i64 C5),.I (.af (C6.map ad))]) ?_ ?_ rfl (by decide) ?_
  ·simp only[go_sem,go_sem_proc]
  ·simp[a3]
  simp only[go_sem,go_sem_proc,aC,aj,ug];refine atG T hb kF mem (D a.cash) (by omega) p (by omega) (λk i=>(aA a.cash a.cs).W (bD a.bg) k i) r i L (λk J=>atK _ (nS k J).2 i) (.ref 228023 a.g 1 0 (D a.cash)) (.I (.af agB)) (.ref 256082 g 5 0 r) (.I (.af (p.map h9))) (.I (.int .i64 (D p))) (.I (.int .i64 r)) (gh (m 256013)) (gh (m 256076)) (.I (.int .i64 sx)) (.I (.af (sy.map ad))) (.I (.int .i64 C5)) (.I (.af (C6.map ad))) (some (g,aY jx ((rowsOf (D p) A).take r))) _ _ ?_ ?_ ?_ ?_ ?_ ?_ ?_ ?_ ?_ ?_ ?_ ?_ ?_ ?_ ?_ ?_ ?_ ?_
  ·simp only[eQ,dA,if_false];exact b6
  ·simp only[eQ,dA,if_false];exact aw
  ·simp only[eQ,dA,if_false];exact aC
  ·simp only[eQ,dA,if_false];exact cx
  ·simp only[eQ,dA,if_false];exact fL
  ·simp only[eQ,dA,if_false,if_true]
  ·simp only[eQ,dA,if_false,if_true]
  ·simp only[eQ,dA,if_false,if_true]
  ·simp only[eQ,dA,if_false];exact n8
  ·simp only[eQ,dA,if_false];exact sM
  ·simp only[eQ,dA,if_false];exact qL
  ·simp only[eQ,dA,if_false,if_true]
  ·simp only[eQ,dA,if_false,if_true]
  ·simp[a3]
  ·simp[a3]
  ·simp only[a3,dA,if_false];exact C9
  ·repeat first|exact bR|refine dU.eP ?_ (by decide)
  intro tm cn Gi ff cH dc dV nu vf OD atW atX atY WQ atZ qe;have at0:(df (D p) λk=>(if r=k then 1 else 0)-(aA a.cash a.cs).W (bD a.bg) (p.getD k 0) i)=df (D p) (A r):=Gc λk J=>(atS k J).symm;rw[at0] at WQ;clear b6 aw aC cx fL n8 sM qL C9 e7 eV hZ bR;have di:=λcs kj=>mK aci asU 256082 g 88 ((rowsOf (D p) A).take r) (df (D p) (A r),aE (A r (D p))) (cs:=cs) kj;have uj:((rowsOf (D p) A).take r).length=r:=by rw[hh,A1];omega
  have ll:(rowsOf (D p) A).take r++[(df (D p) (A r),aE (A r (D p)))]=(rowsOf (D p) A).take (r+1):=by
   rw[ks,afb A aq];rfl
  rw[uj,ll,iA] at di;have l8:(df (D p) (A r)).length=D p:=qa _ _;generalize df (D p) (A r)=V at *;have qY:=di _ rfl (by omega) (by omega);simp only[aL,jx,e5,cl] at qY;simp only[go_sem,go_sem_proc];refine asO (kc:=256013) (gc:=gh (m 256013)) (off:=0) (cc:=[.ref 256076 Gi 4 0 (D p),.I (.int .i64 sx),.I (.af (sy.map ad)),.I (.int .i64 C5),.I (.af (C6.map ad))]) (k:=256076) (g:=Gi) (sz:=4) (o:=0) (len:=D p) (cs:=aY aL V) (d:=.af (V.map aL)) ?_ atY rfl WQ (aaq _ _) (by decide) ?_ ?_
  ·exact vf
  ·have:=pM (n:=0) mU WQ;rw[l8] at this;exact this
  refine a9 ?_;repeat' (intro h<;>simp only[h,go_sem,go_sem_proc,ff,cH,dc,dV,nu,vf,OD,atW,atX,atZ,qY,cf,ug]<;>try refine av ?_ ?_)
  exact⟨(r+1,g+1),by dsimp only;omega,by dsimp only;omega,rfl,rfl,rfl,by repeat first|exact qe|refine dU.eP ?_ (by decide)⟩
 ·have d1:decide ((r:Int)<(D p:Int))=false:=c1;have agC:r=D p:=by omega
  have hlen:=A1 (D p) A;rw[dD (by rw[hlen];omega)] at C9;obtain⟨dP,gV⟩:=N9;have mw:qO (rowsOf (D p) A):=asl (by omega) λi L k J=>k1 (WO.sz (by omega) L J) (by omega);have e4:=aqE (rowsOf (D p) A) (D p) mw;rw[dP] at e4;dsimp only at e4;have l0:=λ(K:a2->Prop) (st:a2)=>mb (K:=K) (st:=st) aci 10 256082 g (rowsOf (D p) A);rw[hlen] at l0;subst agC;refine a9 ?_;repeat' (intro h<;>simp only[h,go_sem,go_sem_proc,atJ,b6,aw,aC,cx,fL,n8,sM,qL,C9,d1,l0,e4,aj,bne,beq_self_eq_true,ca]<;>try refine av ?_ ?_)
  exact⟨_,rfl,rfl,by repeat first|exact bR|refine dU.eP ?_ (by decide)|refine dU.kill ?_ (by decide)⟩
end Go.Mini
namespace Go.Mini
open Classical
def rY (cs:List ar)(f:Nat->Nat)(n:Nat):List ar:=(dL n).flatMap λi=>(dL (f i)).flatMap λk=>cO cs i k
theorem at1 (aP:Nat->List ar)(r n:Nat)(h:r<=n):((dL n).flatMap λk=>if k<r then aP k else [])=(dL r).flatMap aP:=by
 induction n with
 |zero=>rw[show r=0 by omega];rfl
 |succ n ay =>
  rw[po,vJ,o0,zg,h1]
  by_cases Y:r=n+1
  ·subst Y;rw[Z (by omega),po,vJ,o0,zg,h1]
   congr 1
   rw[vK,vK]
   congr 1
   exact nj λk J=>Z (by have:=hk.1 J;omega)
  ·rw[aa (by omega),h1];exact ay (by omega)
theorem agD {α:Type}(l:List α)(aP:α->List ar)(p:ar->Bool):(l.flatMap aP).filter p=l.flatMap λx=>(aP x).filter p:=by
 induction l with
 |nil=>rfl
 |cons a l ay=>rw[o0,o0,ze,ay]
theorem at2 {cs:List ar}{f:Nat->Nat}{n:Nat}(aJ:∀i,i<n->f i<=10):rY cs f n=(da n cs).filter λc=>decide (c.2.2.1<(f c.1.toNat:Int)):=by
 unfold rY da;rw[agD,vK,vK]
 congr 1
 refine nj λi L=>?_;rw[agD,<-at1 (λk=>cO cs i k) (f i) 10 (aJ i (hk.1 L)),vK,vK]
 congr 1
 refine nj λk _=>?_
 by_cases h:k<f i
 ·rw[Z h];refine (List.filter_eq_self.2 λc G=>?_).symm;obtain⟨-,E,H⟩:=CZ.1 G;rw[E,H,gX];exact dg
 ·rw[aa h];refine (List.filter_eq_nil_iff.2 λc G=>?_).symm;obtain⟨-,E,H⟩:=CZ.1 G;rw[E,H,gX,decide_eq_true_eq];omega
theorem at3 (cs:List ar)(p:ar->Prop)[DecidablePred p](aP:ar->Int):cq (cs.filter λc=>decide (p c)) aP=cq cs λc=>if p c then aP c else 0:=by
 induction cs with
 |nil=>rfl
 |cons c l ay =>
  by_cases h:p c
  ·rw[xx (by simpa using h)];simp only[cq,ay,Z h]
  ·rw[xy (by simpa using h),ay];simp only[cq,aa h];omega
def gu (j:Nat)(c:ar):Int:=if c.2.1=(j:Int) then c.2.2.2 else 0
theorem agE {cash:List Int}{cs:List ar}{f:Nat->Nat}(Kn:cs=da (D cash) cs)(aJ:∀i,i<(D cash)->f i<=10)(j:Nat):kG cash cs f j=cash.getD j 0+cq (rY cs f (D cash)) (gu j):=by
 rw[at2 aJ,<-Kn,at3 cs (λc=>c.2.2.1<(f c.1.toNat:Int))];unfold kG
 congr 1
 refine F6 λc _=>?_;unfold gu
 by_cases E:c.2.1=(j:Int)
 ·by_cases H:c.2.2.1<(f c.1.toNat:Int)
  ·rw[Z ⟨E,H⟩,Z H,Z E]
  ·rw[aa λh=>H h.2,aa H]
 ·rw[aa λh=>E h.1,aa E]
  split<;>rfl
theorem at4 {cs:List ar}{f:Nat->Nat}{n:Nat}{c:ar}(h:c∈rY cs f n):c∈cs:=by
 unfold rY at h;simp only[List.mem_flatMap] at h;obtain⟨i,-,k,-,G⟩:=h;exact (CZ.1 G).1
def jS (cs:List ar)(f:Nat->Nat)(i k t:Nat):List ar:=rY cs f i++(((dL k).flatMap λk=>cO cs i k)++(cO cs i k).take t)
theorem at5 (cs:List ar)(f:Nat->Nat):jS cs f 0 0 0=[]:=rfl
theorem at6 (cs:List ar)(f:Nat->Nat)(i k:Nat):jS cs f i k (cO cs i k).length=jS cs f i (k+1) 0:=by
 unfold jS;rw[oA,oY,h1,po,vJ,o0,zg,h1]
theorem at7 (cs:List ar)(f:Nat->Nat)(i:Nat):jS cs f i (f i) 0=jS cs f (i+1) 0 0:=by
 unfold jS rY;rw[oY,oY,h1,po,vJ,o0,zg,h1];simp
theorem agF (cs:List ar)(f:Nat->Nat)(n:Nat):jS cs f n 0 0=rY cs f n:=by
 unfold jS;simp
theorem agG (cs:List ar)(f:Nat->Nat){n i k t:Nat}(L:i<n)(J:k<f i):∃l,rY cs f n=jS cs f i k t++l:=by
 have aG:∃m,n=i+1+m:=⟨n-(i+1),by omega⟩
 obtain⟨m,rfl⟩:=aG;have aJ:∃r,f i=k+1+r:=⟨f i-(k+1),by omega⟩
 obtain⟨r,Y⟩:=aJ;have agH:∀(a b:Nat) (aP:Nat->List ar),(dL (a+b)).flatMap aP=(dL a).flatMap aP++((dL b).map (a+·)).flatMap aP:=λa b aP=>by rw[agI,vJ]
 unfold rY jS;rw[agH,po,vJ,o0,zg,h1,Y,agH,po,vJ,o0,zg,h1];refine⟨(cO cs i k).drop t++(((dL r).map (k+1+·)).flatMap (λk=>cO cs i k)++((dL m).map (i+1+·)).flatMap λi=>(dL (f i)).flatMap λk=>cO cs i k),?_⟩;unfold rY;simp only[gN]
 congr 1
 congr 1
 rw[<-gN ((cO cs i k).take t),zX]
theorem agJ {cash:List Int}{cs:List ar}(h:fG cash cs){f:Nat->Nat}(Kn:cs=da (D cash) cs)(aJ:∀i,i<(D cash)->f i<=10)(j:Nat){l fv:List ar}(au:rY cs f (D cash)=l++fv):0<=cq l (gu j)/\cq l (gu j)<=13000000000000000:=by
 have DS:∀m:List ar,(∀c∈m,c∈cs)->0<=cq m (gu j):=by
  intro m
  induction m with
  |nil=>intro _;exact J8 _
  |cons c m ay =>
   intro hm;have E:=ay λy ao=>hm y (ir _ ao);have H:=((g1.1 h.right).2.2.2 c (hm c hv)).2.2.2.2.2.2.1;simp only[cq,gu] at *
   split<;>omega
 have hm:∀c∈l++fv,c∈cs:=λc G=>at4 (by rw[au];exact G);have E:=DS l λc G=>hm c (by simp[G]);have H:=DS fv λc G=>hm c (by simp[G]);have ab:=agE Kn aJ j;rw[au,JX] at ab;have aM:=h.steady f j;have bl:=h.cash j;omega
end Go.Mini
namespace Go.Mini
open Go
theorem agK {n c:Nat}(G:c<n)(q:Nat->Int)(v:Int):hA c (xn dy (bu n q))++[M.I (.int .i64 v)]++h4 (c+1) (xn dy (bu n q))=xn dy (bu n λj=>if j=c then v else q j):=by
 rw[<-zh,xi,agL,Z (by rw[aj,gp];exact G)];simp[dy]
theorem agM {n c:Nat}(G:c<n)(q:Nat->Int):hA 1 (h4 c (xn dy (bu n q)))=[.I (.int .i64 (q c))]:=Oh (f:=dy) (iE q G)
theorem agN (n:Nat)(q:Nat->Int):(xn dy (bu n q)).length=n:=by rw[aj,gp]
theorem OE (l:List ar)(c:ar)(aP:ar->Int):cq (l++[c]) aP=cq l aP+aP c:=by
 rw[JX];simp[cq]
theorem at8 (T:bk){K:ev->a2->Prop}{kk:List fV}(ec:Mem)(n:Nat)(aG:n<=60)(cN:List ar)(B:Nat->Int)(fi:∀t j,0<=B j+cq (cN.take t) (gu j)/\B j+cq (cN.take t) (gu j)<=4000000000000000000)(fQ:∀c∈cN,c.2.1<n /\ -1<=c.2.1)(Ko:(D cN)<=2000)(v0 v4 v6 qZ yW agO v30 Gl Gm agP agQ:M)(bA:Nat)(Gn Gp:Option (Nat×List M))(tm:Nat->M)(m:Mem)
  (b6:tm 0=v0) (dk:tm 4=v4) (dS:tm 5=.ref 248029 bA 1 0 n) (bQ:tm 6=v6) (cg:tm 7=qZ) (dR:tm 8=yW) (fY:tm 9=agO) (hK:tm 30=v30) (fo:tm 31=Gl) (fp:tm 32=Gm) (m3:tm 50=agP) (m4:tm 51=agQ) (nG:tm 59=jE cN) (jT:tm 60=.I (.int .i64 (D cN))) (rZ:tm 61=.I (.int .i64 0))
  (lC:m 248029=some (bA,(bu n B).map dy)) (m6:m 248094=Gn) (m7:m 248098=Gp) (bR:dU 248 ec m)
  (du:∀tm' m',tm' 0=v0->tm' 4=v4->tm' 5=.ref 248029 bA 1 0 n->tm' 6=v6->tm' 7=qZ->tm' 8=yW->tm' 9=agO->tm' 30=v30->tm' 31=Gl->tm' 32=Gm->tm' 50=agP->tm' 51=agQ->m' 248029=some (bA,(bu n λj=>B j+cq cN (gu j)).map dy)->m' 248094=Gn->m' 248098=Gp->dU 248 ec m'->b8 T K kk (.exit 4) ⟨tm',m'⟩) :
  wp T (ue.body.sub [1,1,1,1,1,0,1,0,0,0,0,1,1,0,0,1,1,0,1,0,0,1,1,0,0,1,1,0]) (b8 T K kk) ⟨tm,m⟩:=by
 simp only[ue,dZ.sub]
 refine dE [0,4,5,6,7,8,9,30,31,32,50,51,59,60] [248094,248098] (λ(t:Nat) tm m=>t<=D cN/\tm 61=.I (.int .i64 t)/\m 248029=some (bA,(bu n λj=>B j+cq (cN.take t) (gu j)).map dy)/\dU 248 ec m) (λt=>D cN-t) 0 (by
  refine⟨by omega,rZ,?_,bR⟩
  rw[lC]
  congr 3
  exact j9 λj _=>by rw[oY];simp[cq]) ?_
 intro vs ms aV aR;simp only[go_sem,go_sem_proc,b6,dk,dS,bQ,cg,dR,fY,hK,fo,fp,m3,m4,nG,jT,m6,m7] at aV aR;subst aV aR;clear b6 dk dS bQ cg dR fY hK fo fp m3 m4 nG jT rZ lC m6 m7 bR tm m;rintro t tm m J hm ⟨afe,rZ,lC,bR⟩;simp only[go_sem,go_sem_proc,bh] at J hm;obtain⟨b6,dk,dS,bQ,cg,dR,fY,hK,fo,fp,m3,m4,nG,jT⟩:=J;obtain⟨m6,m7⟩:=hm;rcases dQ (t<D cN) with aq|ck
 ·have d1:decide ((t:Int)<(D cN:Int))=true:=dg;have cf:=fW (i:=t) (by omega);obtain⟨⟨aD,c2,c3,c4⟩,O⟩:∃c,cN[t]?=some c:=⟨_,bs aq⟩;have mF:=fQ _ (eL O);dsimp only at mF;have rK:=agc O;simp only[go_sem,go_sem_proc] at rK;have ll:cN.take (t+1)=cN.take t++[(aD,c2,c3,c4)]:=by rw[ks,O];rfl
  rcases q:decide (c2>=0)
  ·have ts:c2<0:=by have:=of_decide_eq_false q;omega
   have zi:(bu n λj=>B j+cq (cN.take (t+1)) (gu j))=bu n λj=>B j+cq (cN.take t) (gu j):=j9 λj _=>by
    rw[ll,OE];unfold gu;rw[aa (by dsimp only;omega)];omega
   refine a9 ?_;repeat' (intro h<;>simp only[h,go_sem,go_sem_proc,b6,dk,dS,bQ,cg,dR,fY,hK,fo,fp,m3,m4,nG,jT,rZ,lC,m6,m7,rK,d1,cf,q,bp,cM]<;>try refine av ?_ ?_)
   refine⟨t+1,by omega,by omega,rfl,by rw[zi],by repeat first|exact bR|refine dU.eP ?_ (by decide)⟩
  ·have ts:0<=c2:=of_decide_eq_true q;obtain⟨i,rfl⟩:∃t:Nat,c2=(t:Int):=⟨c2.toNat,by omega⟩
   have b9:i<n:=by omega
   have kq:=fi t i;have en:=fi (t+1) i;rw[ll,OE] at en;have zj:gu i (aD,(i:Int),c3,c4)=c4:=by unfold gu;rw[Z rfl]
   rw[zj] at en;have Kp:IntKind.i64.wrap (B i+cq (cN.take t) (gu i)+c4)=B i+cq (cN.take t) (gu i)+c4:=by rw[eA _]
   have zi:(bu n λj=>B j+cq (cN.take (t+1)) (gu j))=bu n λj=>if j=i then B i+cq (cN.take t) (gu i)+c4 else B j+cq (cN.take t) (gu j):=j9 λj _=>by
    rw[ll,OE]
    by_cases ai:j=i
    ·rw[Z ai,ai,zj];omega
    ·rw[aa ai];have:gu j (aD,(i:Int),c3,c4)=0:=by unfold gu;rw[aa (by dsimp only;omega)]
     rw[this];omega
   have t1:=agM b9 λj=>B j+cq (cN.take t) (gu j);have t2:=agN n λj=>B j+cq (cN.take t) (gu j);have t3:=agK b9 (λj=>B j+cq (cN.take t) (gu j)) (B i+cq (cN.take t) (gu i)+c4);rw[<-zi] at t3;have eB:i+1<=n:=by omega
   generalize aI:(bu n λj=>B j+cq (cN.take t) (gu j)).map dy=bZ at *;generalize wj:(bu n λj=>B j+cq (cN.take (t+1)) (gu j)).map dy=qP at *;generalize B i+cq (cN.take t) (gu i)=S1 at *;refine a9 ?_;repeat' (intro h<;>simp only[h,go_sem,go_sem_proc,b6,dk,dS,bQ,cg,dR,fY,hK,fo,fp,m3,m4,nG,jT,rZ,lC,m6,m7,rK,d1,cf,q,Kp,t1,t2,t3,b9,eB,bp,cM]<;>try refine av ?_ ?_)
   refine⟨t+1,by omega,by omega,rfl,by rw[wj],by repeat first|exact bR|refine dU.eP ?_ (by decide)⟩
 ·have d1:decide ((t:Int)<(D cN:Int))=false:=c1;rw[dD (by omega)] at lC;refine a9 ?_;repeat' (intro h<;>simp only[h,go_sem,go_sem_proc,b6,dk,dS,bQ,cg,dR,fY,hK,fo,fp,m3,m4,nG,jT,rZ,d1]<;>try refine av ?_ ?_)
  refine du _ _ ?_ ?_ ?_ ?_ ?_ ?_ ?_ ?_ ?_ ?_ ?_ ?_ lC m6 m7 bR<;>simp only[eQ,dA,if_false,b6,dk,dS,bQ,cg,dR,fY,hK,fo,fp,m3,m4]
theorem agR (cs:List ar)(f:Nat->Nat)(i k t:Nat):jS cs f i k t=jS cs f i k 0++(cO cs i k).take t:=by
 unfold jS;simp
theorem at9 (T:bk){K:ev->a2->Prop}{kk:List fV}(ec:Mem)(cash:List Int)(cs:List ar)(f:Nat->Nat)(Q:fG cash cs)(Kn:cs=da (D cash) cs)(aJ:∀i,i<(D cash)->f i<=10)(i:Nat)(L:i<D cash)(x:nE)(O:x.c0)(eb:∀k,k<10->x.cZ[k]?=some (cO cs i k))(B:Nat->Int)(fi:∀j,0<=B j/\B j<=1000000000000000)(dJ g:Nat)(s9:dJ/1000≠248)(l9:ec dJ=some (g,fh x))(v0 v4 v6 qZ yW v30 Gl Gm:M)(bA:Nat)(Gn Gp:Option (Nat×List M))(tm:Nat->M)(m:Mem)
  (b6:tm 0=v0) (dk:tm 4=v4) (dS:tm 5=.ref 248029 bA 1 0 (D cash)) (bQ:tm 6=v6) (cg:tm 7=qZ) (dR:tm 8=yW) (fY:tm 9=.ptr dJ g 0) (hK:tm 30=v30) (fo:tm 31=Gl) (fp:tm 32=Gm) (m3:tm 50=.I (.int .i64 (f i))) (m4:tm 51=.I (.int .i64 0))
  (lC:m 248029=some (bA,(bu (D cash) λj=>B j+cq (jS cs f i 0 0) (gu j)).map dy)) (m6:m 248094=Gn) (m7:m 248098=Gp) (bR:dU 248 ec m)
  (du:∀tm' m',tm' 0=v0->tm' 4=v4->tm' 5=.ref 248029 bA 1 0 (D cash)->tm' 6=v6->tm' 7=qZ->tm' 8=yW->tm' 9=.ptr dJ g 0->tm' 30=v30->tm' 31=Gl->tm' 32=Gm->m' 248029=some (bA,(bu (D cash) λj=>B j+cq (jS cs f (i+1) 0 0) (gu j)).map dy)->m' 248094=Gn->m' 248098=Gp->dU 248 ec m'->b8 T K kk (.exit 2) ⟨tm',m'⟩) :
  wp T (ue.body.sub [1,1,1,1,1,0,1,0,0,0,0,1,1,0,0,1,1,0,1,0]) (b8 T K kk) ⟨tm,m⟩:=by
 simp only[ue,dZ.sub];have qX:=aJ i L;have aG:=Q.ly;refine dE [0,4,5,6,7,8,9,30,31,32,50] [248094,248098] (λ(k:Nat) tm m=>k<=f i/\tm 51=.I (.int .i64 k)/\m 248029=some (bA,(bu (D cash) λj=>B j+cq (jS cs f i k 0) (gu j)).map dy)/\dU 248 ec m) (λk=>f i-k) 0 (by refine⟨by omega,m4,lC,bR⟩) ?_;intro vs ms aV aR;simp only[go_sem,go_sem_proc,b6,dk,dS,bQ,cg,dR,fY,hK,fo,fp,m3,m6,m7] at aV aR;subst aV aR;clear b6 dk dS bQ cg dR fY hK fo fp m3 m4 lC m6 m7 bR tm m;rintro k tm m J hm ⟨FT,m4,lC,bR⟩;simp only[go_sem,go_sem_proc,bh] at J hm;obtain⟨b6,dk,dS,bQ,cg,dR,fY,hK,fo,fp,m3⟩:=J;obtain⟨m6,m7⟩:=hm;rcases dQ (k<f i) with aq|ck
 ·have d1:decide ((k:Int)<(f i:Int))=true:=dg;have cf:=fW (i:=k) (by omega);have ae:=(bR dJ s9).trans l9;have hlen:=A6 O;have gr:=agd (x:=x) (k:=k) (l:=cO cs i k) (eb k (by omega));have eB:k<10:=by omega
  have bO:(1+k+1<=24)=True:=eq_true (by omega);have agS:=agb (cO cs i k);simp only[go_sem,go_sem_proc] at agS;generalize fh x=DC at *;simp only[go_sem,go_sem_proc,b6,dk,dS,bQ,cg,dR,fY,hK,fo,fp,m3,m4,ae,hlen,gr,d1,eB,bO,agS,cM];refine at8 T ec (D cash) (by omega) (cO cs i k) (λj=>B j+cq (jS cs f i k 0) (gu j)) (λt j=>?_) (λc G=>?_) ?_ v0 v4 v6 qZ yW (.ptr dJ g 0) v30 Gl Gm (.I (.int .i64 (f i))) (.I (.int .i64 k)) bA Gn Gp _ _ ?_ ?_ ?_ ?_ ?_ ?_ ?_ ?_ ?_ ?_ ?_ ?_ ?_ ?_ ?_ lC m6 m7 bR ?_
  ·obtain⟨l,au⟩:=agG cs f (n:=D cash) (t:=t) L aq;have E:=agJ Q Kn aJ j au;rw[agR,JX] at E;have H:=fi j;omega
  ·have:=(g1.1 Q.right).2.2.2 c (CZ.1 G).1;omega
  ·have E:=rU (λc:ar=>c.1==(i:Int)&&c.2.2.1==(k:Int)) cs;have H:=Q.vI;unfold cO;omega
  all_goals first|(intro tm' m' ff iu mu h8 hG hE mi OG OH OI aua aub Gq OJ OK vO)|(simp only[eQ,dA,if_false,if_true,b6,dk,dS,bQ,cg,dR,fY,hK,fo,fp,m3,m4])
  have gz:(bu (D cash) λj=>B j+cq (jS cs f i k 0) (gu j)+cq (cO cs i k) (gu j))=bu (D cash) λj=>B j+cq (jS cs f i (k+1) 0) (gu j):=j9 λj _=>by
   rw[<-at6,agR cs f i k (cO cs i k).length,oA,JX];omega
  rw[gz] at Gq;refine a9 ?_;repeat' (intro h<;>simp only[h,go_sem,go_sem_proc,ff,iu,mu,h8,hG,hE,mi,OG,OH,OI,aua,aub,OJ,OK,cf]<;>try refine av ?_ ?_)
  refine⟨k+1,by omega,by omega,rfl,Gq,vO⟩
 ·have d1:decide ((k:Int)<(f i:Int))=false:=c1;obtain rfl:k=f i:=by omega
  rw[at7] at lC;refine a9 ?_;repeat' (intro h<;>simp only[h,go_sem,go_sem_proc,b6,dk,dS,bQ,cg,dR,fY,hK,fo,fp,m3,m4,d1]<;>try refine av ?_ ?_)
  refine du _ _ ?_ ?_ ?_ ?_ ?_ ?_ ?_ ?_ ?_ ?_ lC m6 m7 bR<;>simp only[eQ,dA,if_false,b6,dk,dS,bQ,cg,dR,fY,hK,fo,fp]
structure OL (a:cL) (mem:Mem):Prop where
 at_:a.eR mem
 ht:qW 248 mem
 jI:qW 255 mem
 vP:qW 256 mem
 Gh:a.Gg
 iS:rT (aA a.cash a.cs) (bD a.bg) (e6 a.P)
open Classical in
theorem agT (P:Nat->Prop)(n:Nat):cz P (n+1)=cz P n++(if P n then [n] else []):=by
 unfold cz;rw[po,ze]
 by_cases h:P n
 ·rw[Z h,xx (by simpa using h),s5]
 ·rw[aa h,xy (by simpa using h),s5]
theorem agU (P:Nat->Prop)(n:Nat):(cz P n).length<=n:=by
 unfold cz;exact eF (rU _ _) (by rw[rm];exact bP _)
def cL.W (a:cL)(k i:Nat):Rat:=(aA a.cash a.cs).W (bD a.bg) k i
theorem agV (n:Nat)(W:Nat->Nat->Rat)(k:Nat):(rX n W k).length=1:=rfl
theorem auc (n:Nat)(W:Nat->Nat->Rat)(k:Nat):((rX n W k).map M.I).all M.one=true:=rfl
def nH (a:cL)(i j:Nat):Int:=(if j<i then a.cash.getD j 0 else 0)+cq (jS a.cs (bD a.bg) i 0 0) (gu j)
theorem aud (T:bk)(WR:T L6=xz Oy){K:ev->a2->Prop}{kk:List fV}(a:cL)(ec:Mem)(a1:OL a ec)(v0 v4 v30:M)(bA qf kJ:Nat)(tm:Nat->M)(m:Mem)
  (b6:tm 0=v0) (dk:tm 4=.I (.int .i64 (D a.cash))) (dS:tm 5=.ref 248029 bA 1 0 (D a.cash)) (bQ:tm 6=.ref 248094 qf 1 0 0) (cg:tm 7=.ref 248098 kJ 1 0 0) (hK:tm 30=.ref 228023 a.g 1 0 (D a.cash)) (fo:tm 31=.I (.int .i64 (D a.cash))) (fp:tm 32=.I (.int .i64 0))
  (lC:m 248029=some (bA,(bu (D a.cash) λj=>nH a 0 j).map dy)) (m6:m 248094=some (qf,[])) (m7:m 248098=some (kJ,[])) (bR:dU 248 ec m)
  (du:∀tm' m' agW agX,tm' 0=v0->tm' 4=.I (.int .i64 (D a.cash))->tm' 5=.ref 248029 bA 1 0 (D a.cash)->tm' 6=.ref 248094 agW 1 0 (D a.p)->tm' 7=.ref 248098 agX 1 0 (D a.p)->m' 248029=some (bA,(bu (D a.cash) λj=>nH a (D a.cash) j).map dy)->m' 248094=some (agW,aY h9 a.p)->m' 248098=some (agX,aY (rX (D a.cash) a.W) a.p)->dU 248 ec m'->b8 T K kk (.exit 0) ⟨tm',m'⟩) :
  wp T (ue.body.sub [1,1,1,1,1,0,1,0,0,0]) (b8 T K kk) ⟨tm,m⟩:=by
 have aDN:=a1;obtain⟨bF,ht,jI,vP,zk,m5⟩:=a1;have sV:=λi=>cL.Kk bF zk (i:=i);obtain⟨Q,fI⟩:=zk;have aG:=Q.ly;simp only[ue,dZ.sub];refine dE [0,4,5,30,31] [] (λ((i,qf,kJ):Nat×Nat×Nat) tm m=>i<=D a.cash/\tm 32=.I (.int .i64 i)/\tm 6=.ref 248094 qf 1 0 (cz (e6 a.P) i).length/\tm 7=.ref 248098 kJ 1 0 (cz (e6 a.P) i).length/\m 248029=some (bA,(bu (D a.cash) λj=>nH a i j).map dy)/\m 248094=some (qf,aY h9 (cz (e6 a.P) i))/\m 248098=some (kJ,aY (rX (D a.cash) a.W) (cz (e6 a.P) i))/\dU 248 ec m) (λ(i,_)=>D a.cash-i) (0,qf,kJ) (by refine⟨by omega,fp,bQ,cg,lC,m6,m7,bR⟩) ?_;intro vs ms aV aR;simp only[go_sem,go_sem_proc,b6,dk,dS,hK,fo] at aV aR;subst aV aR;clear b6 dk dS bQ cg hK fo fp lC m6 m7 bR tm m;rintro⟨i,qf,kJ⟩ tm m J-⟨b9,fp,bQ,cg,lC,m6,m7,bR⟩;simp only[go_sem,go_sem_proc,bh] at J;obtain⟨b6,dk,dS,hK,fo⟩:=J;rcases dQ (i<D a.cash) with L|ck
 ·have d1:decide ((i:Int)<(D a.cash:Int))=true:=dg;have cf:=fW (i:=i) (by omega);obtain⟨qX,uB⟩:=sV i L;have e7:=(bR.at 228023 (by omega)).trans bF.row;have rz:=bF.dp i L;have eV:=(bR.at (228500+i) (by omega)).trans rz;have hZ:=uD (iE (λi=>M.ptr (228500+i) (a.gs.getD i 0) 0) L);have bX:(bu (D a.cash) λi=>M.ptr (228500+i) (a.gs.getD i 0) 0).length=D a.cash:=gp _ _;have cX:=a.vM i;have hlen:=A6 cX;have lB:=Kh cX;have q0:=agf cX;have agY:=atp (x:=a.gb i);rw[show (a.gb i).f=(bD a.bg i:Int) from qX] at lB;rw[show (a.gb i).p=a.P.getD i false from rfl] at q0;rw[show (a.gb i).cash=a.cash.getD i 0 from rfl] at agY;have aDO:=Q.cash i;have kQ:=agG a.cs (bD a.bg) (n:=D a.cash) (i:=i) (k:=0) (t:=0) L
  have aDP:0<=cq (jS a.cs (bD a.bg) i 0 0) (gu i)/\cq (jS a.cs (bD a.bg) i 0 0) (gu i)<=13000000000000000:=by
   have:∃l,rY a.cs (bD a.bg) (D a.cash)=jS a.cs (bD a.bg) i 0 0++l:=by
    obtain⟨r,Y⟩:∃r,D a.cash=i+r:=⟨D a.cash-i,by omega⟩
    refine⟨((dL r).map (i+·)).flatMap λi=>(dL (bD a.bg i)).flatMap λk=>cO a.cs i k,?_⟩;rw[agF];unfold rY;rw[Y,agI,vJ]
   obtain⟨l,au⟩:=this;exact agJ Q bF.can (λi L=>(sV i L).2) i au
  have Wd:nH a i i=cq (jS a.cs (bD a.bg) i 0 0) (gu i):=by unfold nH;rw[aa (by omega)];omega
  have aue:IntKind.i64.wrap (nH a i i+a.cash.getD i 0)=nH a i i+a.cash.getD i 0:=by rw[eA _]
  have t1:=agM L λj=>nH a i j;have t2:=agN (D a.cash) λj=>nH a i j;have t3:=agK L (λj=>nH a i j) (nH a i i+a.cash.getD i 0)
  have Da:(bu (D a.cash) λj=>if j=i then nH a i i+a.cash.getD i 0 else nH a i j)=bu (D a.cash) λj=>(if j<i+1 then a.cash.getD j 0 else 0)+cq (jS a.cs (bD a.bg) i 0 0) (gu j):=j9 λj _=>by
   by_cases ai:j=i
   ·rw[Z ai,ai,Z (by omega),Wd];omega
   ·rw[aa ai];unfold nH
    by_cases tB:j<i
    ·rw[Z tB,Z (by omega)]
    ·rw[aa tB,aa (by omega)]
  rw[Da] at t3;have eB:i+1<=D a.cash:=by omega
  have s9:(228500+i)/1000≠248:=by omega
  generalize n7:228500+i=dJ at *;have auf:(dJ=248029)=False:=eq_false (by omega);have aug:(dJ==248029)=false:=beq_eq_false_iff_ne.2 (by omega);have auh:(248029==dJ)=false:=beq_eq_false_iff_ne.2 (by omega);have aDQ:fh (a.gb i)=fh (a.gb i):=rfl;generalize j0:(bu (D a.cash) λj=>nH a i j).map dy=bZ at *;generalize aui:(bu (D a.cash) λj=>(if j<i+1 then a.cash.getD j 0 else 0)+cq (jS a.cs (bD a.bg) i 0 0) (gu j)).map dy=qP at *;generalize Gr:(bu (D a.cash) λi=>M.ptr (228500+i) (a.gs.getD i 0) 0)=vN at *;generalize Kq:fh (a.gb i)=DC at *;simp only[go_sem,go_sem_proc,b6,dk,dS,bQ,cg,hK,fo,fp,e7,eV,hZ,bX,hlen,lB,q0,agY,lC,t1,t2,t3,aue,d1,L,eB,auf,aug,auh,dy,kI,cM];refine at9 T ec a.cash a.cs (bD a.bg) Q bF.can (λi L=>(sV i L).2) i L (a.gb i) cX (λk J=>iE _ J) (λj=>if j<i+1 then a.cash.getD j 0 else 0) (λj=>?_) dJ (a.gs.getD i 0) s9 (by rw[Kq];exact rz) v0 (.I (.int .i64 (D a.cash))) (.ref 248094 qf 1 0 (cz (e6 a.P) i).length) (.ref 248098 kJ 1 0 (cz (e6 a.P) i).length) (.I (.int .i64 i)) (.ref 228023 a.g 1 0 (D a.cash)) (.I (.int .i64 (D a.cash))) (.I (.int .i64 i)) bA (some (qf,aY h9 (cz (e6 a.P) i))) (some (kJ,aY (rX (D a.cash) a.W) (cz (e6 a.P) i))) _ _ ?_ ?_ ?_ ?_ ?_ ?_ ?_ ?_ ?_ ?_ ?_ ?_ ?_ ?_ ?_ (bR.eP (by decide)) ?_
  ·have:=Q.cash j
   split<;>omega
  all_goals first|(intro tm' m' ff iu mu h8 hG hE mi OG OH OI Gq OJ OK vO)|(simp only[eQ,dA,if_false,if_true,b6,dk,dS,bQ,cg,hK,fo,fp])|(simp only[a3,dA,if_false,if_true,m6,m7])|skip
  ·rw[<-aui]
  have gz:(bu (D a.cash) λj=>(if j<i+1 then a.cash.getD j 0 else 0)+cq (jS a.cs (bD a.bg) (i+1) 0 0) (gu j))=bu (D a.cash) λj=>nH a (i+1) j:=rfl;rw[gz] at Gq;have en:=(vO dJ s9).trans rz;have pl:=agU (e6 a.P) i;rcases q:a.P.getD i false
  ·have fZ:cz (e6 a.P) (i+1)=cz (e6 a.P) i:=by
    rw[agT,aa (by unfold e6;rw[q];decide),h1]
   rw[q] at q0;refine a9 ?_;repeat' (intro h<;>simp only[h,go_sem,go_sem_proc,ff,iu,mu,h8,hG,hE,mi,OG,OH,OI,OJ,OK,en,hlen,q0,cf,kI,cM]<;>try refine av ?_ ?_)
   exact⟨(i+1,qf,kJ),by dsimp only;omega,by dsimp only;omega,rfl,by rw[fZ],by rw[fZ],Gq,by rw[fZ],by rw[fZ],vO⟩
  ·have fP:e6 a.P i:=q
   have fZ:cz (e6 a.P) (i+1)=cz (e6 a.P) i++[i]:=by
    rw[agT,Z fP]
   have auj:bD a.bg i<10:=by
    obtain⟨E,g,H,ab⟩:=m5;exact (ab.gQ i fP).2
   have ou:=aty a i m' ⟨bF.az vO (by decide) aG,jI.az vO (by decide),⟨Q,fI⟩,L,auj,m5.qS i fP⟩;rw[n7] at ou;have auk:Ox (a,i)=.cw [.af ((df (D a.cash) (a.W i)).map aL),.bool true]:=rfl;rw[auk] at ou;have agZ:=mK xo af9 248094 qf 8 (cz (e6 a.P) i) i (cs:=[.I (.int .i64 i)]) rfl (by omega) (by omega);have ag0:=mK (agV (D a.cash) a.W) (auc (D a.cash) a.W) 248098 kJ 24 (cz (e6 a.P) i) i (cs:=[.I (.af ((df (D a.cash) (a.W i)).map aL))]) rfl (by omega) (by omega);have bK:(cz (e6 a.P) (i+1)).length=(cz (e6 a.P) i).length+1:=by rw[fZ,hr];rfl
   rw[<-fZ] at agZ ag0;rw[q] at q0;generalize (df (D a.cash) (a.W i)).map aL=V at *;refine a9 ?_;repeat' (intro h<;>simp only[h,go_sem,go_sem_proc,WR,ff,iu,mu,h8,hG,hE,mi,OG,OH,OI,OJ,OK,en,hlen,q0,ou,agZ,ag0,cf,kI,cM,ca]<;>try refine av ?_ ?_)
   exact⟨(i+1,qf+1,kJ+1),by dsimp only;omega,by dsimp only;omega,rfl,by rw[bK],by rw[bK],Gq,rfl,rfl,by repeat first|exact vO|refine dU.eP ?_ (by decide)⟩
 ·have d1:decide ((i:Int)<(D a.cash:Int))=false:=c1;obtain rfl:i=D a.cash:=by omega
  refine a9 ?_;repeat' (intro h<;>simp only[h,go_sem,go_sem_proc,b6,dk,dS,bQ,cg,hK,fo,fp,d1]<;>try refine av ?_ ?_)
  refine du _ _ qf kJ ?_ ?_ ?_ ?_ ?_ lC m6 m7 bR<;>simp only[eQ,dA,if_false,b6,dk,dS,bQ,cg,cL.p]
theorem aul (T:bk)(lr:T u4=aW w5)(w4:T z0=aW Cr){K:ev->a2->Prop}{kk:List fV}(ec:Mem)(n:Nat)(p:List Nat)(aB:(D p)<=60)(W:Nat->Nat->Rat)(cA:Nat->Rat)(i:Nat)(L:i<n)(uF:Rat)(aQ:∀t,t<=(D p)->eI 708 (uF+bz t λk=>W (p.getD k 0) i*cA k))(cE:∀k,k<(D p)->eI 438 (W (p.getD k 0) i*cA k)/\eI 54 (W (p.getD k 0) i)/\eI 384 (cA k))(ag1 ag2 ag3 ag4:M)(bA:Nat)(ag5:Option (Nat×List M))(tm:Nat->M)(m:Mem)
  (bQ:tm 6=.I (.af (p.map h9))) (cg:tm 7=.I (.af (p.map (rX n W)))) (vQ:tm 15=.I (.af ((df (D p) cA).map aL))) (rP:tm 17=ag1) (AK:tm 18=.I (.int .i64 i)) (n8:tm 20=.ptr 248020 bA 0) (vR:tm 110=ag2) (vS:tm 111=ag3) (pd:tm 112=ag4) (Kr:tm 120=.I (.int .i64 (D p))) (Ks:tm 121=.I (.int .i64 0))
  (Gs:m 248020=some (bA,(aL (aE uF)).map .I)) (Gt:m 248156=ag5) (bR:dU 248 ec m)
  (du:∀tm' m',tm' 6=.I (.af (p.map h9))->tm' 7=.I (.af (p.map (rX n W)))->tm' 15=.I (.af ((df (D p) cA).map aL))->tm' 17=ag1->tm' 20=.ptr 248020 bA 0->tm' 110=ag2->tm' 111=ag3->tm' 112=ag4->m' 248020=some (bA,(aL (aE (uF+bz (D p) λk=>W (p.getD k 0) i*cA k))).map .I)->m' 248156=ag5->dU 248 ec m'->b8 T K kk (.exit 8) ⟨tm',m'⟩) :
  wp T (ue.body.sub [1,1,1,1,1,1,1,1,1,0,1,0,0,0,1,1,0,0,1,1,0,1,0]) (b8 T K kk) ⟨tm,m⟩:=by
 simp only[ue,dZ.sub]
 refine dE [6,7,15,17,18,20,110,111,112,120] [248156] (λ(k:Nat) tm m=>k<=D p/\tm 121=.I (.int .i64 k)/\m 248020=some (bA,(aL (aE (uF+bz k λk=>W (p.getD k 0) i*cA k))).map .I)/\dU 248 ec m) (λk=>D p-k) 0 (by
  refine⟨by omega,Ks,?_,bR⟩
  rw[Gs,bz,pj]) ?_
 intro vs ms aV aR;simp only[go_sem,go_sem_proc,bQ,cg,vQ,rP,AK,n8,vR,vS,pd,Kr,Gt] at aV aR;subst aV aR;clear bQ cg vQ rP AK n8 vR vS pd Kr Ks Gs Gt bR tm m;rintro k tm m J hm ⟨FT,Ks,Gs,bR⟩;simp only[go_sem,go_sem_proc,bh] at J hm;obtain⟨bQ,cg,vQ,rP,AK,n8,vR,vS,pd,Kr⟩:=J;rcases dQ (k<D p) with aq|ck
 ·have d1:decide ((k:Int)<(D p:Int))=true:=dg;have cf:=fW (i:=k) (by omega);obtain⟨uE,O⟩:∃c,p[k]?=some c:=⟨_,bs aq⟩;have kW:p.getD k 0=uE:=by rw[dY,O];rfl
  obtain⟨gj,h7,uC⟩:=cE k aq;have WS:=aQ k (by omega);rw[kW] at gj h7;have hmul:=afz (k1 h7 (by omega)) (k1 uC (by omega)) (VX h7 uC (by omega));have n1:=afy (k1 WS (by omega)) (k1 gj (by omega)) (AW WS gj (by omega))
  have Q:(uF+bz (k+1) λk=>W (p.getD k 0) i*cA k)=uF+bz k (λk=>W (p.getD k 0) i*cA k)+W uE i*cA k:=by
   rw[bz,kW];grind
  have aX:=ux (W uE) L;have aum:=ux cA aq;rw[<-Q] at n1;clear WS gj h7 uC cE aQ Q du;generalize aE (uF+bz k λk=>W (p.getD k 0) i*cA k)=F1 at *;generalize aun:aE (uF+bz (k+1) λk=>W (p.getD k 0) i*cA k)=F2 at *;generalize aE (W uE i*cA k)=F3 at *;generalize aE (W uE i)=F4 at *;generalize aE (cA k)=F5 at *;obtain⟨⟨db,dH⟩,⟨fk,fM⟩⟩:=F1;obtain⟨⟨dP,gV⟩,⟨oH,s7⟩⟩:=F2;obtain⟨⟨f1,f2⟩,⟨f3,f4⟩⟩:=F3;obtain⟨⟨cF,cQ⟩,⟨h0,kV⟩⟩:=F4;obtain⟨⟨cH,dc⟩,⟨dV,iu⟩⟩:=F5;simp only[aL,e5,cl] at hmul n1 Gs;refine a9 ?_;repeat' (intro h<;>simp only[h,go_sem,go_sem_proc,lr,w4,bQ,cg,vQ,rP,AK,n8,vR,vS,pd,Kr,Ks,Gs,hm,d1,cf,O,rX,aX,aum,hmul,n1,aL,aj,a5,bne,beq_self_eq_true,ca]<;>try refine av ?_ ?_)
  refine⟨k+1,by omega,by omega,rfl,by rw[aun],by repeat first|exact bR|refine dU.eP ?_ (by decide)⟩
 ·have d1:decide ((k:Int)<(D p:Int))=false:=c1;obtain rfl:k=D p:=by omega
  refine a9 ?_;repeat' (intro h<;>simp only[h,go_sem,go_sem_proc,bQ,cg,vQ,rP,AK,n8,vR,vS,pd,Kr,Ks,d1]<;>try refine av ?_ ?_)
  refine du _ _ ?_ ?_ ?_ ?_ ?_ ?_ ?_ ?_ Gs hm bR<;>simp only[eQ,dA,if_false,bQ,cg,vQ,rP,n8,vR,vS,pd]
def OM (a:cL):Data:=.cw [.af ((df (D a.cash) ((aA a.cash a.cs).eN (bD a.bg) (e6 a.P))).map aL),.bool true]
def WT:List M->Mem->Option Data:=C3 (λ(a:cL) args mem=>args=[.ref 228023 a.g 1 0 (D a.cash)]/\OL a mem) OM
theorem auo (a:cL)(mem:Mem)(h:OL a mem):WT [.ref 228023 a.g 1 0 (D a.cash)] mem=some (OM a):=by
 refine Wq (a:=a) ?_ ⟨rfl,h⟩;rintro a b args mem ⟨aw,aC⟩ ⟨cx,dk⟩;rw[cL.uniq aC.at_ dk.at_]
theorem aup (l:List Int):l.map dy=aY ad l:=by
 unfold aY
 induction l with
 |nil=>rfl
 |cons a l ay=>rw[e5,e5,kL,mq,<-ay];rfl
theorem auq (n:Nat):(eu n [M.I (.int .i64 0)]).flatten=(bu n λ_=>(0:Int)).map dy:=by
 induction n with
 |zero=>rfl
 |succ n ay=>rw[ag6,FN,ay];simp[bu,po,dy]
theorem aur (T:bk)(hb:T ox=aW uy)(WR:T L6=xz Oy)(aus:T Ru=xz OC)(lr:T u4=aW w5)(w4:T z0=aW Cr)(a:cL)(mem:Mem)(a1:OL a mem):
  wp T ue.body (rG ue.res λm mem'=>c8 6 emp m=some (OM a)/\dU 248 mem mem') ⟨mA [.ref 228023 a.g 1 0 (D a.cash)],mem⟩:=by
 have bF:=a1.at_;have Q:=a1.Gh.pq;have m5:=a1.iS;have aG:=Q.ly;have FO:(8*D a.cash<=140737488355328)=True:=eq_true (by omega);have AP:(D a.cash<=maxLen)=True:=eq_true (by unfold maxLen;omega);have ag7:mem 248094=none:=a1.ht 248094 (by decide);have ag8:mem 248098=none:=a1.ht 248098 (by decide);have NA:mem 248029=none:=a1.ht 248029 (by decide);have aQ:=auq (D a.cash)
 have tz:(bu (D a.cash) λj=>nH a 0 j)=bu (D a.cash) λ_=>(0:Int):=j9 λj _=>by
  unfold nH;rw[aa (by omega),at5];rfl
 refine wq ?_;simp only[ue];simp only[go_sem,go_sem_proc,FO,AP,ag7,ag8,NA,aQ];refine aud T WR a mem a1 (.ref 228023 a.g 1 0 (D a.cash)) (.ref 228023 a.g 1 0 (D a.cash)) (.ref 228023 a.g 1 0 (D a.cash)) 0 0 0 _ _ ?_ ?_ ?_ ?_ ?_ ?_ ?_ ?_ ?_ ?_ ?_ ((((dU.refl _ _).eP (by decide)).eP (by decide)).eP (by decide)) ?_
 all_goals first|(intro tm m qf kJ ff iu mu h8 hG lC m6 m7 bR)|(simp only[eQ,dA,if_false,if_true];done)|(simp only[eQ,dA,if_false,if_true];rfl)|(simp only[a3,dA,if_false,if_true,tz])|skip
 have ey:(bu (D a.cash) λj=>nH a (D a.cash) j)=bu (D a.cash) λi=>kG a.cash a.cs (bD a.bg) i:=j9 λj ai=>by
  unfold nH;rw[Z ai,agF,agE bF.can λi L=>(cL.Kk bF a1.Gh L).2]
 rw[ey,aup] at lC;have gH:∀iw,dU 248 mem iw->OC [.ref 228023 a.g 1 0 (D a.cash),.I (.af ((bu (D a.cash) λi=>kG a.cash a.cs (bD a.bg) i).map ad)),.I (.af (a.p.map h9)),.I (.af (a.p.map (rX (D a.cash) a.W)))] iw=some (.cw [.af (a.xs.map aL),.bool true]):=λiw h=>atH a iw ⟨bF.az h (by decide) aG,a1.vP.az h (by decide),a1.Gh,m5⟩;have ag9:(bu (D a.cash) λi=>kG a.cash a.cs (bD a.bg) i).length=D a.cash:=gp _ _;have aut:∀i,i<(D a.cash)->(bu (D a.cash) λi=>kG a.cash a.cs (bD a.bg) i)[i]?=some (kG a.cash a.cs (bD a.bg) i):=λi L=>iE _ L;generalize aDR:(bu (D a.cash) λi=>kG a.cash a.cs (bD a.bg) i)=ST at *;have WU:=λ(K:a2->Prop) (st:a2)=>mb (K:=K) (st:=st) hQ 5 248029 0 ST;rw[ag9] at WU;have Kt:=λ(K:a2->Prop) (st:a2)=>mb (K:=K) (st:=st) xo 6 248094 qf a.p;have aha:=λ(K:a2->Prop) (st:a2)=>mb (K:=K) (st:=st) (agV (D a.cash) a.W) 7 248098 kJ a.p;have ahb:=λcF cQ h0 aD c2 c3=>gH (a3 (a3 (a3 m 248029 cF aD) 248094 cQ c2) 248098 h0 c3) (((bR.eP (by decide)).eP (by decide)).eP (by decide));simp only[go_sem,go_sem_proc,aus,ff,iu,mu,h8,hG,lC,m6,m7,WU,Kt,aha,ahb,ag9,aj,ca];have nP:(D a.p)<=D a.cash:=agU _ _;have fZ:=λi (L:i<D a.cash) t (bJ:t<=D a.p)=>asv Q m5 L bJ;have WV:=λi (L:i<D a.cash)=>m5.good.ae0 (d:=aA a.cash a.cs) L;have Db:cz (e6 a.P) (aA a.cash a.cs).n=a.p:=rfl;have auu:cz (e6 a.P) (D a.cash)=a.p:=rfl;have zS:a.xs=df (D a.p) λk=>(aA a.cash a.cs).eN (bD a.bg) (e6 a.P) (a.p.getD k 0)-(aA a.cash a.cs).U (a.p.getD k 0) (bD a.bg (a.p.getD k 0)):=rfl;rw[Db] at WV;rw[auu] at fZ;rw[zS];generalize lS:(λk=>(aA a.cash a.cs).eN (bD a.bg) (e6 a.P) (a.p.getD k 0)-(aA a.cash a.cs).U (a.p.getD k 0) (bD a.bg (a.p.getD k 0)))=cA at *;have yU:∀k,(aA a.cash a.cs).eN (bD a.bg) (e6 a.P) (a.p.getD k 0)-(aA a.cash a.cs).U (a.p.getD k 0) (bD a.bg (a.p.getD k 0))=cA k:=λk=>congrFun lS k;simp only[yU] at fZ WV;have Gu:=λi=>J9 Q.right (bD a.bg) i;have ahc:=λi=>Q.steady (bD a.bg) i;clear WU Kt aha gH ahb zS lS yU ff iu mu h8 hG lC m6 m7 ag7 ag8 NA aQ tz FO AP
 refine dE [6,7,15,110,111] [] (λ((i,g):Nat×Nat) tm iw=>i<=D a.cash/\tm 112=.I (.int .i64 i)/\tm 17=.ref 248156 g 4 0 i/\iw 248156=some (g,aY aL (df i ((aA a.cash a.cs).eN (bD a.bg) (e6 a.P))))/\dU 248 mem iw) (λ(i,_)=>D a.cash-i) (0,gh (m 248156)) (by
  refine⟨by omega,rfl,rfl,by simp[a3];rfl,by repeat first|exact bR|refine dU.eP ?_ (by decide)⟩) ?_
 intro vs ms aV aR;simp only[go_sem,go_sem_proc] at aV aR;subst aV aR;clear bR m tm;rintro⟨i,g⟩ tm m J-⟨b9,pd,rP,Gt,bR⟩;simp only[go_sem,go_sem_proc,bh] at J;obtain⟨bQ,cg,vQ,vR,vS⟩:=J;rcases dQ (i<D a.cash) with L|ck
 ·have d1:decide ((i:Int)<(D a.cash:Int))=true:=dg;have cf:=fW (i:=i) (by omega);have auv:=aut i L;have hw:=A2 _ (oK (z:=kG a.cash a.cs (bD a.bg) i) (by have:=ahc i;omega) (by have:=ahc i;omega));rw[Gu] at hw;have WW:=fZ i L;have auw:=WV i L;generalize pV:(aA a.cash a.cs).st (bD a.bg) i=uF at *;generalize iA:aE uF=eJ at *;obtain⟨⟨sx,sy⟩,⟨C5,C6⟩⟩:=eJ;simp only[aL] at hw;simp only[go_sem,go_sem_proc,hb,bQ,cg,vQ,rP,vR,vS,pd,d1,auv,hw,ad,aj,a5];refine aul T lr w4 mem (D a.cash) a.p (by omega) a.W cA i L uF (λt bJ=>(WW t bJ).1) (λk J=>⟨(WW 0 (by omega)).2.1 k J,(N8 Q m5 (vH J).2 i).1,(WW 0 (by omega)).2.2 k J⟩) (.ref 248156 g 4 0 i) (.I (.af (ST.map ad))) (.I (.int .i64 (D a.cash))) (.I (.int .i64 i)) (gh (m 248020)) (some (g,aY aL (df i ((aA a.cash a.cs).eN (bD a.bg) (e6 a.P))))) _ _ ?_ ?_ ?_ ?_ ?_ ?_ ?_ ?_ ?_ ?_ ?_ ?_ ?_ ((bR.eP (by decide)).eP (by decide)) ?_
  all_goals first|(intro tm' m' h8 hG ahd ahe OD ahf ahg JG ON ahh vO)|(simp only[eQ,dA,if_false,if_true,bQ,cg,vQ,rP,vR,vS,pd];done)|(simp only[a3,dA,if_false,if_true,Gt];done)|(simp only[a3,if_true];rw[iA];rfl)
  have auy:uF+(bz (D a.p) λk=>a.W (a.p.getD k 0) i*cA k)=(aA a.cash a.cs).eN (bD a.bg) (e6 a.P) i:=auw.symm;rw[auy] at ON;have aV:=agw i ((aA a.cash a.cs).eN (bD a.bg) (e6 a.P));have bX:(df i ((aA a.cash a.cs).eN (bD a.bg) (e6 a.P))).length=i:=qa _ _;have di:=λ(aP:bU) cs kj=>mK mU Fb 248156 g 64 (df i ((aA a.cash a.cs).eN (bD a.bg) (e6 a.P))) aP (cs:=cs) kj (by omega) (by omega);simp only[bX] at di;generalize df i ((aA a.cash a.cs).eN (bD a.bg) (e6 a.P))=V at *;generalize tX:df (i+1) ((aA a.cash a.cs).eN (bD a.bg) (e6 a.P))=V2 at *;generalize aE ((aA a.cash a.cs).eN (bD a.bg) (e6 a.P) i)=aP at *;obtain⟨⟨db,dH⟩,⟨fk,fM⟩⟩:=aP;have qY:=di ((db,dH),(fk,fM)) _ rfl;rw[<-aV] at qY;simp only[aL,e5,cl] at qY ON;simp only[go_sem,go_sem_proc,h8,hG,ahd,ahe,OD,ahf,ahg,JG,ON,ahh,qY,cf];repeat' (first|refine av ?_ ?_|fail)<;>intro h<;>simp only[h,go_sem,go_sem_proc,h8,hG,ahd,ahe,OD,ahf,ahg,JG,ON,ahh,qY,cf]
  exact⟨(i+1,g+1),by dsimp only;omega,by dsimp only;omega,rfl,rfl,by rw[<-tX],by repeat first|exact vO|refine dU.eP ?_ (by decide)⟩
 ·have d1:decide ((i:Int)<(D a.cash:Int))=false:=c1;obtain rfl:i=D a.cash:=by omega
  have l8:(df (D a.cash) ((aA a.cash a.cs).eN (bD a.bg) (e6 a.P))).length=D a.cash:=qa _ _;have l0:=λ(K:a2->Prop) (st:a2)=>mb (K:=K) (st:=st) mU 17 248156 g (df (D a.cash) ((aA a.cash a.cs).eN (bD a.bg) (e6 a.P)));rw[l8] at l0;simp only[go_sem,go_sem_proc,bQ,cg,vQ,rP,vR,vS,pd,Gt,d1,l0];repeat' (first|refine av ?_ ?_|fail)<;>intro h<;>simp only[h,go_sem,go_sem_proc,bQ,cg,vQ,rP,vR,vS,pd,Gt,d1,l0]
  exact⟨_,rfl,rfl,by repeat first|exact bR|refine dU.eP ?_ (by decide)|refine dU.kill ?_ (by decide)⟩
def cL.hc (a:cL)(p:Nat->Bool):cL:={ a with P:=m2 (D a.cash) p }
theorem cL.OO (a:cL)(p:Nat->Bool){i:Nat}(L:i<D a.cash):(a.hc p).gb i=(a.gb i).sp (p i):=by
 have:(m2 (D a.cash) p).getD i false=p i:=by rw[dY,Ol _ L];rfl
 unfold cL.gb cL.hc nE.sp;dsimp only;rw[this]
theorem cL.eR.ahi {a:cL}{m:Mem}{p:Nat->Bool}(h:(a.hc p).eR m){i:Nat}(L:i<D a.cash)(b:Bool):(a.hc λj=>if j=i then b else p j).eR (a3 m (228500+i) (a.gs.getD i 0) (fh ((a.gb i).sp b))):=by
 refine⟨h.can,h.bg,Ok _ _,h.Ot,?_,λj ai=>?_⟩
 ·have:=h.row;simp only[a3];rw[aa (show ¬ ((228023:Nat)=228500+i) by omega)];exact this
 ·rw[cL.OO a _ ai];simp only[a3]
  by_cases j1:j=i
  ·subst j1;rw[Z rfl,Z rfl]
   rfl
  ·rw[aa (show ¬ ((228500+j:Nat)=228500+i) by omega),aa j1];have:=h.dp j ai;rw[cL.OO a _ ai] at this;exact this
theorem cL.auz {a:cL}(h:(D a.P)=D a.cash):a.hc (λj=>a.P.getD j false)=a:=by
 have:m2 (D a.cash) (λj=>a.P.getD j false)=a.P:=by
  refine Ki (d:=false) (Ok _ _) h λj ai=>?_;rw[dY,Ol _ ai];rfl
 unfold cL.hc;rw[this]
theorem cL.Gv (a:cL){p q:Nat->Bool}(h:∀i,i<(D a.cash)->p i=q i):a.hc p=a.hc q:=by
 unfold cL.hc;rw[asV h]
def vT (n:Nat)(mem m:Mem):Prop:=∀k,(∀i,i<n->k≠228500+i)->m k=mem k
theorem vT.eP {n i g:Nat}{cs:List M}{mem m:Mem}(h:vT n mem m)(L:i<n):vT n mem (a3 m (228500+i) g cs):=λk J=>by
 simp only[a3];rw[aa (J i L)];exact h k J
theorem vT.no {n j:Nat}{mem m:Mem}(h:vT n mem m)(aG:n<=6)(ai:j≠228)(hm:qW j mem):qW j m:=λk J=>by
 rw[h k λi L=>by omega]
 exact hm k J
theorem auA (T:bk)(hb:T ox=aW uy)(eD:T nn=aW ud){K:ev->a2->Prop}{kk:List fV}(ec:Mem)(a:cL)(p:Nat->Bool)(zk:a.Gg)(h:Nat->Rat)(mw:∀i,i<(D a.cash)->dz (h i))(tm:Nat->M)(m:Mem)
  (bF:(a.hc p).eR m) (bR:vT (D a.cash) ec m) (b6:tm 0=.ref 228023 a.g 1 0 (D a.cash)) (bQ:tm 6=.I (.af ((df (D a.cash) h).map aL))) (dR:tm 8=.I (.bool false)) (nF:tm 28=.ref 228023 a.g 1 0 (D a.cash)) (ta:tm 29=.I (.int .i64 (D a.cash))) (hK:tm 30=.I (.int .i64 0))
  (du:∀tm' m',tm' 0=.ref 228023 a.g 1 0 (D a.cash)->tm' 6=.I (.af ((df (D a.cash) h).map aL))->tm' 8=.I (.bool (xA (aA a.cash a.cs) (bD a.bg) h p (D a.cash)))->(a.hc (nD (aA a.cash a.cs) (bD a.bg) h p (D a.cash))).eR m'->vT (D a.cash) ec m'->b8 T K kk (.exit 4) ⟨tm',m'⟩) :
  wp T (E9.body.sub [1,1,0,0,0,1,1,1,0,1,0]) (b8 T K kk) ⟨tm,m⟩:=by
 simp only[E9,dZ.sub];obtain⟨Q,fI⟩:=zk;have aG:=Q.ly
 refine dE [0,6,28,29] [] (λ(i:Nat) tm m=>i<=D a.cash/\tm 30=.I (.int .i64 i)/\tm 8=.I (.bool (xA (aA a.cash a.cs) (bD a.bg) h p i))/\(a.hc (nD (aA a.cash a.cs) (bD a.bg) h p i)).eR m/\vT (D a.cash) ec m) (λi=>D a.cash-i) 0 (by
  refine⟨by omega,hK,dR,?_,bR⟩
  have:a.hc (nD (aA a.cash a.cs) (bD a.bg) h p 0)=a.hc p:=a.Gv λj _=>by
   unfold nD;rw[c1,fC,nT]
  rw[this];exact bF) ?_
 intro vs ms aV aR;simp only[go_sem,go_sem_proc,b6,bQ,nF,ta] at aV aR;subst aV aR;clear b6 bQ dR nF ta hK bF bR tm m;rintro i tm m J-⟨L,hK,dR,bF,bR⟩;simp only[go_sem,go_sem_proc,bh] at J;obtain⟨b6,bQ,nF,ta⟩:=J;rcases dQ (i<D a.cash) with aq|ck
 ·have d1:decide ((i:Int)<(D a.cash:Int))=true:=dg;have cf:=fW (i:=i) (by omega);have qX:a.bg.getD i 10=(bD a.bg i:Int)/\bD a.bg i<=10:=cL.Kk (a:=a.hc (nD (aA a.cash a.cs) (bD a.bg) h p i)) bF ⟨Q,fI⟩ aq;obtain⟨qX,uB⟩:=qX;have e7:m 228023=some (a.g,bu (D a.cash) λi => .ptr (228500+i) (a.gs.getD i 0) 0):=bF.row;have eV:m (228500+i)=some (a.gs.getD i 0,fh ((a.hc (nD (aA a.cash a.cs) (bD a.bg) h p i)).gb i)):=bF.dp i aq;rw[cL.OO a _ aq,afN] at eV;have hZ:=uD (iE (λi=>M.ptr (228500+i) (a.gs.getD i 0) 0) aq);have bX:(bu (D a.cash) λi=>M.ptr (228500+i) (a.gs.getD i 0) 0).length=D a.cash:=gp _ _;have cX:((a.gb i).sp (p i)).c0:=⟨(a.vM i).cZ,(a.vM i).us⟩;have hlen:=A6 cX;have lB:hA 1 (h4 22 (fh ((a.gb i).sp (p i))))=[dy (bD a.bg i:Int)]:=(Kh cX).trans (congrArg (λx=>[dy x]) qX);have q0:hA 1 (h4 23 (fh ((a.gb i).sp (p i))))=[kI (p i)]:=agf cX;have rW:=Kg cX (k:=bD a.bg i) (z:=cr a.cs i (bD a.bg i:Nat)) (iE _ (by omega));have ea:_=fh ((a.gb i).sp true):=agh cX true;have pg:=bF.ahi aq true;have aR:=asW (aA a.cash a.cs) (bD a.bg) h p i
  have we:(p i=true\/uz (aA a.cash a.cs) (bD a.bg) h i=false)->a.hc (nD (aA a.cash a.cs) (bD a.bg) h p (i+1))=a.hc (nD (aA a.cash a.cs) (bD a.bg) h p i):=λaS=>a.Gv λj _=>by
   rw[afO]
   by_cases ai:j=i
   ·subst ai;rw[Z rfl,afN];rcases aS with E|E
    ·rw[E];rfl
    ·rw[E,nT]
   ·rw[aa ai]
  have eB:i+1<=D a.cash:=by omega
  have al:bD a.bg i<11:=by omega
  have bO:(11+bD a.bg i+1<=24)=True:=eq_true (by omega);have b7:(23+1<=24)=True:=eq_true (by omega);generalize Gr:(bu (D a.cash) λi=>M.ptr (228500+i) (a.gs.getD i 0) 0)=vN at *;have n7:228500+i=228500+i:=rfl;generalize s9:228500+i=dJ at *;generalize Kq:fh ((a.gb i).sp (p i))=DC at *;rcases d2:decide ((bD a.bg i:Int)<10)
  ·have kN:uz (aA a.cash a.cs) (bD a.bg) h i=false:=by
    unfold uz;rw[ob (by have:=of_decide_eq_false d2;omega),fC]
   rw[kN,hy,nT] at aR;simp only[go_sem,go_sem_proc,b6,bQ,dR,nF,ta,hK,e7,eV,hZ,bX,hlen,lB,d1,d2,cf,aq,eB,dy,kI,cM];repeat' (first|refine av ?_ ?_|fail)<;>intro h<;>simp only[h,go_sem,go_sem_proc,b6,bQ,dR,nF,ta,hK,e7,eV,hZ,bX,hlen,lB,d1,d2,cf,aq,eB,dy,kI,cM]
   exact⟨i+1,by omega,by omega,rfl,by rw[aR],by rw[we (.inr kN)];exact bF,bR⟩
  ·rcases ya:p i
   ·rw[ya] at q0;have mW:=Q.upto i (bD a.bg i);have Dc:dv (cr a.cs i (bD a.bg i:Nat)):=oK (by omega) (by omega);have hw:=A2 _ Dc;have oz:=C0 (mw i aq) (qd Dc);have iB:decide (kC (h i) ((cr a.cs i (bD a.bg i:Nat):Int):Rat)>0)=decide (((cr a.cs i (bD a.bg i:Nat):Int):Rat)<h i):=afA
    have bN:uz (aA a.cash a.cs) (bD a.bg) h i=decide (((cr a.cs i (bD a.bg i:Nat):Int):Rat)<h i):=by
     unfold uz;rw[sY Q.right,iH (show bD a.bg i<10 by have:=of_decide_eq_true d2;omega),hP]
    rw[<-bN] at iB;have zl:=ux h aq;generalize auB:aE (h i)=hx at *;generalize lS:aE ((cr a.cs i (bD a.bg i:Nat):Int):Rat)=cA at *;obtain⟨⟨dP,gV⟩,⟨oH,s7⟩⟩:=cA;obtain⟨⟨db,dH⟩,⟨fk,fM⟩⟩:=hx;simp only[aL] at hw oz;rcases kN:uz (aA a.cash a.cs) (bD a.bg) h i
    ·rw[kN] at iB;rw[ya,kN,hy,nT] at aR;simp only[go_sem,go_sem_proc,hb,eD,b6,bQ,dR,nF,ta,hK,e7,eV,hZ,bX,hlen,lB,q0,rW,d1,d2,cf,aq,eB,al,bO,hw,oz,iB,zl,aL,dy,kI,cM,cv,ca,aj,a5];repeat' (first|refine av ?_ ?_|fail)<;>intro h<;>simp only[h,go_sem,go_sem_proc,hb,eD,b6,bQ,dR,nF,ta,hK,e7,eV,hZ,bX,hlen,lB,q0,rW,d1,d2,cf,aq,eB,al,bO,hw,oz,iB,zl,aL,dy,kI,cM,cv,ca,aj,a5]
     exact⟨i+1,by omega,by omega,rfl,by rw[aR],by rw[we (.inr kN)];exact bF,bR⟩
    ·rw[kN] at iB;rw[ya,kN,cv,hP,tD] at aR
     have gz:a.hc (nD (aA a.cash a.cs) (bD a.bg) h p (i+1))=a.hc λj=>if j=i then true else nD (aA a.cash a.cs) (bD a.bg) h p i j:=a.Gv λj _=>by
      rw[afO,kN,tD]
     rw[<-gz] at pg;have qe:=bR.eP (g:=a.gs.getD i 0) (cs:=fh ((a.gb i).sp true)) aq;rw[s9] at qe;simp only[go_sem,go_sem_proc,hb,eD,b6,bQ,dR,nF,ta,hK,e7,eV,hZ,bX,hlen,lB,q0,rW,ea,d1,d2,cf,aq,eB,al,bO,b7,hw,oz,iB,zl,aL,dy,kI,cM,cv,ca,aj,a5];repeat' (first|refine av ?_ ?_|fail)<;>intro h<;>simp only[h,go_sem,go_sem_proc,hb,eD,b6,bQ,dR,nF,ta,hK,e7,eV,hZ,bX,hlen,lB,q0,rW,ea,d1,d2,cf,aq,eB,al,bO,b7,hw,oz,iB,zl,aL,dy,kI,cM,cv,ca,aj,a5]
     exact⟨i+1,by omega,by omega,rfl,by rw[aR],pg,qe⟩
   ·rw[ya] at q0;rw[ya,ca,fC,nT] at aR;simp only[go_sem,go_sem_proc,b6,bQ,dR,nF,ta,hK,e7,eV,hZ,bX,hlen,lB,q0,d1,d2,cf,aq,eB,dy,kI,cM,ca];repeat' (first|refine av ?_ ?_|fail)<;>intro h<;>simp only[h,go_sem,go_sem_proc,b6,bQ,dR,nF,ta,hK,e7,eV,hZ,bX,hlen,lB,q0,d1,d2,cf,aq,eB,dy,kI,cM,ca]
    exact⟨i+1,by omega,by omega,rfl,by rw[aR],by rw[we (.inl ya)];exact bF,bR⟩
 ·have d1:decide ((i:Int)<(D a.cash:Int))=false:=c1;obtain rfl:i=D a.cash:=by omega
  simp only[go_sem,go_sem_proc,b6,bQ,dR,nF,ta,hK,d1];repeat' (first|refine av ?_ ?_|fail)<;>intro h<;>simp only[h,go_sem,go_sem_proc,b6,bQ,dR,nF,ta,hK,d1]
  refine du _ _ ?_ ?_ ?_ bF bR<;>simp only[eQ,dA,if_false,b6,bQ,dR]
structure WX (a:cL) (mem:Mem):Prop where
 at_:a.eR mem
 ht:qW 248 mem
 jI:qW 255 mem
 vP:qW 256 mem
 Gh:a.Gg
 inv:∃g,Inv (aA a.cash a.cs) (bD a.bg) g
def OP (a:cL)(mem:Mem):M->Mem->Prop:=λm mem'=>m=.cw [.I (.af ((df (D a.cash) ((aA a.cash a.cs).top (bD a.bg))).map aL)),.I (.bool true)]/\∃p,(a.hc p).eR mem'/\vT (D a.cash) mem mem'
def Ku:List M->Mem->Option (M->Mem->Prop):=yY (λ(a:cL) args mem=>args=[.ref 228023 a.g 1 0 (D a.cash)]/\WX a mem) OP
theorem auC (a:cL)(mem:Mem)(h:WX a mem):Ku [.ref 228023 a.g 1 0 (D a.cash)] mem=some (OP a mem):=by
 refine afD (a:=a) ?_ ⟨rfl,h⟩;rintro a b args mem ⟨aw,aC⟩ ⟨cx,dk⟩;rw[cL.uniq aC.at_ dk.at_]
theorem auD (T:bk)(auE:T Rr=xz WT)(hb:T ox=aW uy)(eD:T nn=aW ud)(a:cL)(mem:Mem)(a1:WX a mem):
  wp T E9.body (rG E9.res (OP a mem)) ⟨mA [.ref 228023 a.g 1 0 (D a.cash)],mem⟩:=by
 obtain⟨ahj,ht,jI,vP,zk,BF,hinv⟩:=a1;have Q:=zk.pq;have aG:=Q.ly;have X:=Q.ok;refine wq ?_;simp only[E9];simp only[go_sem,go_sem_proc]
 refine dE [0,11,12] [] (λ(i:Nat) tm m=>i<=D a.cash/\tm 13=.I (.int .i64 i)/\(a.hc λj=>if j<i then false else a.P.getD j false).eR m/\vT (D a.cash) mem m) (λi=>D a.cash-i) 0 (by
  refine⟨by omega,rfl,?_,λ_ _=>rfl⟩
  have:(a.hc λj=>if j<0 then false else a.P.getD j false)=a:=(a.Gv λj _=>by rw[aa (by omega)]).trans (cL.auz ahj.pl);rw[this];exact ahj) ?_
 intro vs ms aV aR;simp only[go_sem,go_sem_proc] at aV aR;subst aV aR;rintro i tm m J-⟨L,iR,bF,bR⟩;simp only[go_sem,go_sem_proc,bh] at J;obtain⟨b6,pr,ij⟩:=J;rcases dQ (i<D a.cash) with aq|ck
 ·have d1:decide ((i:Int)<(D a.cash:Int))=true:=dg;have cf:=fW (i:=i) (by omega);have e7:m 228023=some (a.g,bu (D a.cash) λi => .ptr (228500+i) (a.gs.getD i 0) 0):=bF.row;have eV:m (228500+i)=some (a.gs.getD i 0,_):=bF.dp i aq;rw[cL.OO a _ aq] at eV;have hZ:=uD (iE (λi=>M.ptr (228500+i) (a.gs.getD i 0) 0) aq);have bX:(bu (D a.cash) λi=>M.ptr (228500+i) (a.gs.getD i 0) 0).length=D a.cash:=gp _ _;have cX:((a.gb i).sp (if i<i then false else a.P.getD i false)).c0:=⟨(a.vM i).cZ,(a.vM i).us⟩;have hlen:=A6 cX;have ea:_=fh ((a.gb i).sp false):=agh cX false;have pg:=bF.ahi aq false;have qe:=bR.eP (g:=a.gs.getD i 0) (cs:=fh ((a.gb i).sp false)) aq
  have gz:(a.hc λj=>if j<i+1 then false else a.P.getD j false)=a.hc λj=>if j=i then false else if j<i then false else a.P.getD j false:=a.Gv λj _=>by
   by_cases E:j=i
   ·rw[Z E,Z (by omega)]
   ·rw[aa E]
    by_cases H:j<i
    ·rw[Z H,Z (by omega)]
    ·rw[aa H,aa (by omega)]
  rw[<-gz] at pg;have eB:i+1<=D a.cash:=by omega
  have b7:(23+1<=24)=True:=eq_true (by omega);generalize Gr:(bu (D a.cash) λi=>M.ptr (228500+i) (a.gs.getD i 0) 0)=vN at *;generalize s9:228500+i=dJ at *;generalize Kq:fh ((a.gb i).sp (if i<i then false else a.P.getD i false))=DC at *;simp only[go_sem,go_sem_proc,b6,pr,ij,iR,e7,eV,hZ,bX,hlen,ea,d1,cf,aq,eB,b7,dy,kI,cM];repeat' (first|refine av ?_ ?_|fail)<;>intro h<;>simp only[h,go_sem,go_sem_proc,b6,pr,ij,iR,e7,eV,hZ,bX,hlen,ea,d1,cf,aq,eB,b7,dy,kI,cM]
  exact⟨i+1,by omega,by omega,rfl,pg,qe⟩
 ·have d1:decide ((i:Int)<(D a.cash:Int))=false:=c1;obtain rfl:i=D a.cash:=by omega
  have gz:(a.hc λj=>if j<(D a.cash) then false else a.P.getD j false)=a.hc λ_=>false:=a.Gv λj ai=>by rw[Z ai]
  rw[gz] at bF;simp only[go_sem,go_sem_proc,b6,pr,ij,iR,d1]
  refine dE [0] [] (λ(p:Nat->Bool) tm m=>(a.hc p).eR m/\vT (D a.cash) mem m/\rT (aA a.cash a.cs) (bD a.bg) (e6 (m2 (D a.cash) p))) (λp=>lZ (D a.cash) λi=>if p i then 0 else 1) (λ_=>false) (by
   refine⟨bF,bR,?_⟩;rw[asY];exact⟨X,BF,hinv,ia.first X hinv⟩) ?_
  intro vs ms aV aR;simp only[go_sem,go_sem_proc,b6] at aV aR;subst aV aR;clear b6 pr ij iR bR bF;rintro p tm m b6-⟨bF,bR,m5⟩;simp only[go_sem,go_sem_proc,bh] at b6;have gH:=auo (a.hc p) m ⟨bF,bR.no aG (by decide) ht,bR.no aG (by decide) jI,bR.no aG (by decide) vP,⟨zk.pq,zk.fI⟩,m5⟩;have fQ:OM (a.hc p)=.cw [.af ((df (D a.cash) ((aA a.cash a.cs).eN (bD a.bg) (e6 (m2 (D a.cash) p)))).map aL),.bool true]:=rfl;rw[fQ,show (a.hc p).g=a.g from rfl,show (a.hc p).cash=a.cash from rfl] at gH;simp only[go_sem,go_sem_proc,auE,b6,gH,ca];refine auA T hb eD m a p zk ((aA a.cash a.cs).eN (bD a.bg) (e6 (m2 (D a.cash) p))) (λi L=>k1 (afh Q m5 L) (by omega)) _ _ bF (λ_ _=>rfl) ?_ ?_ ?_ ?_ ?_ ?_ ?_
  all_goals first|(intro Kv cn ff h8 hE x7 qe)|(simp only[eQ,dA,if_false,if_true,b6];done)
  obtain⟨cX,cF,qt,Mx⟩:=m5;rcases hm:xA (aA a.cash a.cs) (bD a.bg) ((aA a.cash a.cs).eN (bD a.bg) (e6 (m2 (D a.cash) p))) p (D a.cash)
  ·rw[hm] at hE;have abB:=Mx.ae2 X qt λi L E H=>Om.2 ⟨L,as0 hm L E H⟩;rw[Gc (N:=D a.cash) abB] at h8;simp only[go_sem,go_sem_proc,ff,h8,hE,cv];repeat' (first|refine av ?_ ?_|fail)<;>intro h<;>simp only[h,go_sem,go_sem_proc,ff,h8,hE,cv]
   exact⟨_,rfl,rfl,_,x7,λk J=>(qe k J).trans (bR k J)⟩
  ·rw[hm] at hE;simp only[go_sem,go_sem_proc,ff,h8,hE,ca];repeat' (first|refine av ?_ ?_|fail)<;>intro h<;>simp only[h,go_sem,go_sem_proc,ff,h8,hE,ca]
   refine⟨_,asZ hm,x7,λk J=>(qe k J).trans (bR k J),?_⟩;have xd:=asX (d:=aA a.cash a.cs) (f:=bD a.bg) (h:=(aA a.cash a.cs).eN (bD a.bg) (e6 (m2 (D a.cash) p))) (p:=p);have lh:(aA a.cash a.cs).n=D a.cash:=rfl;rw[lh] at xd;rw[xd];exact⟨X,cF,qt,Mx.succ X qt⟩
def hp (c:Int)(q:Nat->M)(us:Nat->Int)(f:Int)(p:Bool):List M:=dy c::(bu 10 q++((bu 11 us).map dy++[dy f,kI p]))
theorem OQ (c:Int)(q:Nat->M)(us:Nat->Int)(f:Int)(p:Bool):(hp c q us f p).length=24:=by
 simp[hp,gp]
theorem WY {c:Int}{q:Nat->M}{us:Nat->Int}{f:Int}{p:Bool}{k:Nat}(J:k<10):(hp c q us f p)[1+k]?=some (q k):=by
 unfold hp;rw[xT,ahk,re (by rw[gp];exact J)];exact iE q J
theorem auF {c:Int}{q:Nat->M}{us:Nat->Int}{f:Int}{p:Bool}{k:Nat}(J:k<10):hA 1 (h4 (1+k) (hp c q us f p))=[q k]:=uD (WY J)
theorem auG {c:Int}{q:Nat->M}{us:Nat->Int}{f:Int}{p:Bool}{k:Nat}(J:k<11):hA 1 (h4 (11+k) (hp c q us f p))=[.I (.int .i64 (us k))]:=by
 refine uD ?_;unfold hp;rw[show 11+k=(10+k)+1 by omega,ahk,rf (by rw[gp];omega),gp,re (by rw[aj,gp];omega),show 10+k-10=k by omega,a5,iE us J]
 rfl
theorem OR {l:List M}{k:Nat}{v:M}(J:k<D l):hA k l++[v]++h4 (k+1) l=l.set k v:=by
 rw[agL,Z J];simp
theorem WZ {c:Int}{q:Nat->M}{us:Nat->Int}{f:Int}{p:Bool}{k:Nat}(J:k<10)(v:M):(hp c q us f p).set (1+k) v=hp c (λj=>if j=k then v else q j) us f p:=by
 unfold hp;rw[xT,Fz,ahl _ _ (by rw[gp];exact J),zh]
theorem auH {c:Int}{q:Nat->M}{us:Nat->Int}{f:Int}{p:Bool}{k:Nat}(J:k<11)(v:Int):(hp c q us f p).set (11+k) (.I (.int .i64 v))=hp c q (λj=>if j=k then v else us j) f p:=by
 unfold hp;rw[show 11+k=(10+k)+1 by omega,Fz,CC _ _ (by rw[gp];omega),gp,ahl _ _ (by rw[aj,gp];omega),show 10+k-10=k by omega,<-zh,xi]
 rfl
theorem zm {c:Int}{q sF:Nat->M}{us ahm:Nat->Int}{f:Int}{p:Bool}(h:∀k,k<10->q k=sF k)(b2:∀k,k<11->us k=ahm k):hp c q us f p=hp c sF ahm f p:=by
 unfold hp;rw[j9 h,j9 b2]
theorem ahn (T:bk){K:ev->a2->Prop}{kk:List fV}(kP:Mem)(dJ OS OT:Nat)(c:Int)(q:Nat->M)(us:Nat->Int)(aD c2:Int)(r:Nat)(am:Int)(Y:r<10)(ae:∀j,0<=us j/\us j<=4000000000000000000)(p7:0<=am/\am<=1000000000000000)(n7:dJ≠228009)(aho ahp ahq ahr:M)(tm:Nat->M)(m:Mem)
  (dS:tm 5=aho) (fY:tm 9=.ptr 228009 OT 0) (fL:tm 10=.ptr dJ OS 0) (pr:tm 11=.I (.int .i64 (r+1:Nat))) (ji:tm 25=ahp) (k2:tm 26=ahq) (mx:tm 27=ahr) (auI:kP 228009=some (OT,[.I (.int .i64 aD),.I (.int .i64 c2),.I (.int .i64 r),.I (.int .i64 am)])) (Gw:m dJ=some (OS,hp c q us 10 false)) (bR:∀k,k≠dJ->m k=kP k)
  (du:∀tm' m',tm' 5=aho->tm' 25=ahp->tm' 26=ahq->tm' 27=ahr->m' dJ=some (OS,hp c q (λj=>us j+if r<j then am else 0) 10 false)->(∀k,k≠dJ->m' k=kP k)->b8 T K kk (.exit 4) ⟨tm',m'⟩) :
  wp T (Ax.body.sub [1,1,1,0,1,0,0,1,1,0,0,1,1,1,1,0]) (b8 T K kk) ⟨tm,m⟩:=by
 simp only[Ax,dZ.sub]
 refine dE [5,9,10,25,26,27] [] (λ(k:Nat) tm m=>r<k/\k<=11/\tm 11=.I (.int .i64 k)/\m dJ=some (OS,hp c q (λj=>us j+if r<j/\j<k then am else 0) 10 false)/\∀k,k≠dJ->m k=kP k) (λk=>11-k) (r+1) (by
  refine⟨by omega,by omega,pr,?_,bR⟩
  rw[Gw]
  congr 2
  exact zm (λ_ _=>rfl) λj _=>by rw[aa (by omega)];omega) ?_
 intro vs ms aV aR;simp only[go_sem,go_sem_proc,dS,fY,fL,ji,k2,mx] at aV aR;subst aV aR;clear dS fY fL pr ji k2 mx Gw bR tm m;rintro k tm m J-⟨ha,aDS,pr,Gw,bR⟩;simp only[go_sem,go_sem_proc,bh] at J;obtain⟨dS,fY,fL,ji,k2,mx⟩:=J;have auJ:=(bR 228009 (Ne.symm n7)).trans auI;rcases dQ (k<=10) with aq|ck
 ·have d1:decide ((k:Int)<=10)=true:=dg;have cf:=fW (i:=k) (by omega);have hlen:=OQ c q (λj=>us j+if r<j/\j<k then am else 0) 10 false;have aX:=auG (c:=c) (q:=q) (us:=λj=>us j+if r<j/\j<k then am else 0) (f:=10) (p:=false) (k:=k) (by omega);have ey:=(OR (l:=hp c q (λj=>us j+if r<j/\j<k then am else 0) 10 false) (k:=11+k) (v:=.I (.int .i64 (us k+am))) (by rw[OQ];omega)).trans (auH (by omega) (us k+am))
  have gz:hp c q (λj=>if j=k then us k+am else us j+if r<j/\j<k then am else 0) 10 false=hp c q (λj=>us j+if r<j/\j<k+1 then am else 0) 10 false:=zm (λ_ _=>rfl) λj _=>by
   by_cases ai:j=k
   ·rw[Z ai,ai,Z ⟨ha,by omega⟩]
   ·rw[aa ai]
    by_cases H:r<j/\j<k
    ·rw[Z H,Z ⟨H.1,by omega⟩]
    ·rw[aa H,aa (by omega)]
  rw[gz] at ey;rw[aa (by omega),tV] at aX;have Kp:IntKind.i64.wrap (us k+am)=us k+am:=by have:=ae k;rw[eA _]
  have al:k<11:=by omega
  have bO:(11+k+1<=24)=True:=eq_true (by omega);have C8:(dJ==228009)=false:=beq_eq_false_iff_ne.2 n7;have OU:(228009==dJ)=false:=beq_eq_false_iff_ne.2 (Ne.symm n7);generalize hp c q (λj=>us j+if r<j/\j<k then am else 0) 10 false=D1 at *;generalize FJ:hp c q (λj=>us j+if r<j/\j<k+1 then am else 0) 10 false=D2 at *;refine a9 ?_;repeat' (intro h<;>simp only[h,go_sem,go_sem_proc,dS,fY,fL,pr,ji,k2,mx,auJ,Gw,d1,cf,hlen,aX,ey,Kp,al,bO,C8,OU,cM]<;>try refine av ?_ ?_)
  refine⟨k+1,by omega,by omega,by omega,rfl,by rw[FJ],λj ai=>?_⟩
  simp only[a3,ai,if_false];exact bR j ai
 ·have d1:decide ((k:Int)<=10)=false:=c1;obtain rfl:k=11:=by omega
  have gz:hp c q (λj=>us j+if r<j/\j<11 then am else 0) 10 false=hp c q (λj=>us j+if r<j then am else 0) 10 false:=zm (λ_ _=>rfl) λj ai=>by
   by_cases H:r<j
   ·rw[Z ⟨H,ai⟩,Z H]
   ·rw[aa (by omega),aa H]
  rw[gz] at Gw;refine a9 ?_;repeat' (intro h<;>simp only[h,go_sem,go_sem_proc,dS,fY,fL,pr,ji,k2,mx,d1]<;>try refine av ?_ ?_)
  refine du _ _ ?_ ?_ ?_ ?_ Gw bR<;>simp only[eQ,dA,if_false,dS,ji,k2,mx]
def nI (l:List ar)(eE:Nat->Nat->Nat)(i k:Nat):M:=if cO l i k=[] then .nil else .ref (228600+10*i+k) (eE i k) 4 0 (cO l i k).length
structure xB (cash:List Int) (l:List ar) (g:Nat) (gs:Nat->Nat) (eE:Nat->Nat->Nat) (m:Mem):Prop where
 row:m 228023=some (g,bu (D cash) λi => .ptr (228500+i) (gs i) 0)
 dp:∀i,i<(D cash)->m (228500+i)=some (gs i,hp (cash.getD i 0) (nI l eE i) (λk=>cr l i (k:Nat)) 10 false)
 Dd:∀i k,i<(D cash)->k<10->cO l i k≠[]->m (228600+10*i+k)=some (eE i k,aY bp (cO l i k))
theorem auK (l:List ar)(c:ar)(i k:Nat):cO (l++[c]) i k=if c.1=(i:Int)/\c.2.2.1=(k:Int) then cO l i k++[c] else cO l i k:=by
 unfold cO;rw[ze]
 by_cases h:c.1=(i:Int)/\c.2.2.1=(k:Int)
 ·rw[Z h,xx (by simp[h.1,h.2]),s5]
 ·rw[aa h,xy (by simpa using h),s5,h1]
theorem Kw (l:List ar)(aD c2 c3 c4:Int)(i k:Nat):cO (l++[(aD,c2,c3,c4)]) i k=if aD=(i:Int)/\c3=(k:Int) then cO l i k++[(aD,c2,c3,c4)] else cO l i k:=auK l _ i k
theorem auL (l:List ar)(c:ar)(i r:Int):cr (l++[c]) i r=cr l i r+if c.1=i/\c.2.2.1<r then c.2.2.2 else 0:=by
 unfold cr;rw[OE]
theorem ahs (l:List ar)(aD c2 c3 c4 i r:Int):cr (l++[(aD,c2,c3,c4)]) i r=cr l i r+if aD=i/\c3<r then c4 else 0:=auL l _ i r
theorem xB.next {cash:List Int}{l:List ar}{g:Nat}{gs:Nat->Nat}{eE:Nat->Nat->Nat}{m m':Mem}(h:xB cash l g gs eE m)(aG:(D cash)<=6){aD c3:Nat}{c2 c4:Int}(gy:aD<D cash)(o4:c3<10)(qg:Nat)
  (e7:m' 228023=m 228023) (auM:∀i,i<(D cash)->i≠aD->m' (228500+i)=m (228500+i)) (eV:m' (228500+aD)=some (gs aD,hp (cash.getD aD 0) (λk=>if k=c3 then .ref (228600+10*aD+c3) qg 4 0 ((cO l aD c3).length+1) else nI l eE aD k) (λk=>cr l aD (k:Nat)+if c3<k then c4 else 0) 10 false))
  (OV:m' (228600+10*aD+c3)=some (qg,aY bp (cO l aD c3++[((aD:Int),c2,(c3:Int),c4)]))) (auN:∀i k,i<(D cash)->k<10->¬ (i=aD/\k=c3)->m' (228600+10*i+k)=m (228600+10*i+k)):xB cash (l++[((aD:Int),c2,(c3:Int),c4)]) g gs (λi k=>if i=aD/\k=c3 then qg else eE i k) m':=by
 refine⟨by rw[e7];exact h.row,λi L=>?_,λi k L J bN=>?_⟩
 ·by_cases hic:i=aD
  ·subst hic;rw[eV]
   congr 2
   refine zm (λk J=>?_) λk J=>?_
   ·unfold nI
    by_cases AA:k=c3
    ·subst AA;have aw:cO (l++[((i:Int),c2,(k:Int),c4)]) i k=cO l i k++[((i:Int),c2,(k:Int),c4)]:=by rw[Kw,Z ⟨rfl,rfl⟩]
     rw[aw,Z rfl,aa (by simp),hr];simp
    ·have aw:cO (l++[((i:Int),c2,(c3:Int),c4)]) i k=cO l i k:=by rw[Kw,aa (by omega)]
     rw[aa AA,aw];dsimp only;rw[aa (show ¬ (i=i/\k=c3) by omega)]
   ·rw[ahs]
    by_cases hi:c3<k
    ·rw[Z hi,Z (by omega)]
    ·rw[aa hi,aa (by omega)]
  ·rw[auM i L hic,h.dp i L]
   congr 2
   refine zm (λk J=>?_) λk J=>?_
   ·unfold nI;have aw:cO (l++[((aD:Int),c2,(c3:Int),c4)]) i k=cO l i k:=by rw[Kw,aa (by omega)]
    rw[aw];dsimp only;rw[aa (show ¬ (i=aD/\k=c3) by omega)]
   ·rw[ahs,aa (by omega),tV]
 ·by_cases hic:i=aD/\k=c3
  ·obtain⟨rfl,rfl⟩:=hic;have aw:cO (l++[((i:Int),c2,(k:Int),c4)]) i k=cO l i k++[((i:Int),c2,(k:Int),c4)]:=by rw[Kw,Z ⟨rfl,rfl⟩]
   rw[aw,Z ⟨rfl,rfl⟩];exact OV
  ·have aw:cO (l++[((aD:Int),c2,(c3:Int),c4)]) i k=cO l i k:=by rw[Kw,aa (by omega)]
   rw[aw] at bN ⊢;rw[aa hic,auN i k L J hic];exact h.Dd i k L J bN
theorem W0 {K:a2->Prop}{tm:Nat->M}{mem mem':Mem}(h:q8 mem mem')(du:∀a8,a8=mem'->K ⟨tm,a8⟩):kM K ⟨tm,mem⟩ .many:=⟨mem',.step h (.refl _),du _ rfl⟩
theorem W1 {K:a2->Prop}{tm:Nat->M}{mem:Mem}(du:∀a8,a8=mem->K ⟨tm,a8⟩):kM K ⟨tm,mem⟩ .many:=⟨mem,.refl _,du _ rfl⟩
theorem kK {m:Mem}{k g:Nat}{cs:List M}:a3 m k g cs k=some (g,cs):=by simp[a3]
theorem dd {m:Mem}{k j g:Nat}{cs:List M}(h:k≠j):a3 m j g cs k=m k:=by
 simp only[a3];rw[aa h]
theorem auO (T:bk){K:ev->a2->Prop}{kk:List fV}(ec:Mem)(cash:List Int)(cs:List ar)(Q:fG cash cs)(g:Nat)(gs:Nat->Nat)(eE:Nat->Nat->Nat)(tm:Nat->M)(m:Mem)
  (dS:tm 5=.ref 228023 g 1 0 (D cash)) (ji:tm 25=.I (.af (cs.map bp))) (k2:tm 26=.I (.int .i64 (D cs))) (mx:tm 27=.I (.int .i64 0)) (bF:xB cash [] g gs eE m) (bR:dU 228 ec m)
  (du:∀tm' m' auP,tm' 5=.ref 228023 g 1 0 (D cash)->xB cash cs g gs auP m'->dU 228 ec m'->b8 T K kk (.exit 2) ⟨tm',m'⟩) :
  wp T (Ax.body.sub [1,1,1,0,1,0]) (b8 T K kk) ⟨tm,m⟩:=by
 simp only[Ax,dZ.sub];have aG:=Q.ly;have Y:=(g1.1 Q.right).2.2.2;have hB:=Q.vI;refine dE [5,25,26] [] (λ((t,eE):Nat×(Nat->Nat->Nat)) tm m=>t<=D cs/\tm 27=.I (.int .i64 t)/\xB cash (cs.take t) g gs eE m/\dU 228 ec m) (λ(t,_)=>D cs-t) (0,eE) (by refine⟨by omega,mx,by rw[oY];exact bF,bR⟩) ?_;intro vs ms aV aR;simp only[go_sem,go_sem_proc,dS,ji,k2] at aV aR;subst aV aR;clear dS ji k2 mx bF bR tm m;rintro⟨t,eE⟩ tm m J-⟨bJ,mx,bF,bR⟩;simp only[go_sem,go_sem_proc,bh] at J;obtain⟨dS,ji,k2⟩:=J;rcases dQ (t<D cs) with aq|ck
 ·have d1:decide ((t:Int)<(D cs:Int))=true:=dg;have cf:=fW (i:=t) (by omega);obtain⟨⟨aD,c2,c3,c4⟩,O⟩:∃c,cs[t]?=some c:=⟨_,bs aq⟩;have mF:=Y _ (eL O);dsimp only at mF;obtain⟨aD,rfl⟩:∃k:Nat,aD=(k:Int):=⟨aD.toNat,by omega⟩
  obtain⟨c3,rfl⟩:∃k:Nat,c3=(k:Int):=⟨c3.toNat,by omega⟩
  have ll:cs.take (t+1)=cs.take t++[((aD:Int),c2,(c3:Int),c4)]:=by rw[ks,O];rfl
  generalize au:cs.take t=l at *;have auQ:(D l)<=12:=by rw[<-au,hh];omega
  have gy:aD<D cash:=by omega
  have o4:c3<10:=by omega
  have e7:=bF.row;have eV:=bF.dp aD gy;have hZ:=uD (iE (λi=>M.ptr (228500+i) (gs i) 0) gy);have bX:(bu (D cash) λi=>M.ptr (228500+i) (gs i) 0).length=D cash:=gp _ _;have hlen:=OQ (cash.getD aD 0) (nI l eE aD) (λk=>cr l aD (k:Nat)) 10 false;have gr:=auF (c:=cash.getD aD 0) (q:=nI l eE aD) (us:=λk=>cr l aD (k:Nat)) (f:=10) (p:=false) o4;have ea:=λv=>(OR (l:=hp (cash.getD aD 0) (nI l eE aD) (λk=>cr l aD (k:Nat)) 10 false) (k:=1+c3) (v:=v) (by rw[OQ];omega)).trans (WZ o4 v);have eB:aD+1<=D cash:=by omega
  have bO:(1+c3+1<=24)=True:=eq_true (by omega);have w1:=fW (i:=c3) (by omega);generalize Gr:(bu (D cash) λi=>M.ptr (228500+i) (gs i) 0)=vN at *;generalize Kq:hp (cash.getD aD 0) (nI l eE aD) (λk=>cr l aD (k:Nat)) 10 false=DC at *;generalize s9:228500+aD=dJ at *;have Kl:(dJ=228009)=False:=eq_false (by omega);have aht:(dJ=228048)=False:=eq_false (by omega);have C8:(dJ==228009)=false:=beq_eq_false_iff_ne.2 (by omega);have OU:(228009==dJ)=false:=beq_eq_false_iff_ne.2 (by omega);have ahu:(dJ==228048)=false:=beq_eq_false_iff_ne.2 (by omega);have ahv:(228048==dJ)=false:=beq_eq_false_iff_ne.2 (by omega);have hs:(1<=maxLen)=True:=eq_true (by decide);have aDT:=λj=>(afk Q.right).upto aD j
  have Ck:∀j:Nat,0<=cr l aD (j:Nat)/\cr l aD (j:Nat)<=4000000000000000000:=λj=>by
   have:=(afk Q.right).sum (λc=>c.1=(aD:Int)/\c.2.2.1<(j:Int)) t;rw[au] at this;unfold cr;omega
  generalize OW:228600+10*aD+c3=jU at *;have db:(228009=dJ)=False:=eq_false (by omega);have dH:(228009=jU)=False:=eq_false (by omega);have fk:(228048=jU)=False:=eq_false (by omega);have fM:(228048=dJ)=False:=eq_false (by omega);have n6:(jU=dJ)=False:=eq_false (by omega);have rV:(dJ=jU)=False:=eq_false (by omega);have afI:(jU=228009)=False:=eq_false (by omega);have auR:(jU=228048)=False:=eq_false (by omega);have ahw:(228009=228048)=False:=eq_false (by omega)
  have tail:∀(tm':Nat->M) (M2:Mem) (qg OT:Nat),tm' 5=.ref 228023 g 1 0 (D cash)->tm' 25=.I (.af (cs.map bp))->tm' 26=.I (.int .i64 (D cs))->tm' 27=.I (.int .i64 t)->M2 dJ=some (gs aD,hp (cash.getD aD 0) (λk=>if k=c3 then .ref jU qg 4 0 ((cO l aD c3).length+1) else nI l eE aD k) (λk=>cr l aD (k:Nat)  + if c3<k then c4 else 0) 10 false)->M2 jU=some (qg,aY bp (cO l aD c3++[((aD:Int),c2,(c3:Int),c4)]))->(∀k:Nat,k≠228009->k≠228048->k≠dJ->k≠jU->M2 k=m k)->xB cash (cs.take (t+1)) g gs (λi k=>if i=aD/\k=c3 then qg else eE i k) M2/\dU 228 ec M2:=by
   intro tm' M2 qg OT mu Gx Gy Gz De Kx m8;rw[ll];refine⟨xB.next bF aG gy o4 qg ?_ (λi L bN=>?_) ?_ ?_ λi k L J bN=>?_,λk J=>?_⟩
   ·exact m8 228023 (by omega) (by omega) (by omega) (by omega)
   ·exact m8 (228500+i) (by omega) (by omega) (by omega) (by omega)
   ·rw[s9,OW];exact De
   ·rw[OW];exact Kx
   ·exact m8 (228600+10*i+k) (by omega) (by omega) (by omega) (by omega)
   ·rw[m8 k (by omega) (by omega) (by omega) (by omega)];exact bR k J
  by_cases hn:cO l aD c3=[]
  ·have gA:nI l eE aD c3=.nil:=by unfold nI;rw[Z hn]
   rw[gA] at gr;simp only[go_sem,go_sem_proc,hs,dS,ji,k2,mx,O,e7,eV,hZ,bX,hlen,gr,ea,d1,eB,bO,gy,o4,Kl,aht,C8,OU,ahu,ahv,bp,cM,aj,a5];refine W0 (q8.La dJ (gs aD) _ (1+c3) 228048 (gh (m 228048)) 4 0 1 _ jU kK (WY o4 |>.trans (by rw[Z rfl])) ((dd (by omega)).trans kK) (by show (228048:Nat)≠dJ;omega) (by show jU≠(228048:Nat);omega) (by show jU≠dJ;omega)) ?_;intro M2 gI;rw[WZ o4] at gI
   have Ky:M2 228009=some (gh (m 228009),[.I (.int .i64 aD),.I (.int .i64 c2),.I (.int .i64 c3),.I (.int .i64 c4)]):=by
    rw[gI];simp only[zM,db,dH,ahw,if_false,if_true]
   have De:∃qg,M2 dJ=some (gs aD,hp (cash.getD aD 0) (λk=>if k=c3 then .ref jU qg 4 0 ((cO l aD c3).length+1) else nI l eE aD k) (λk=>cr l aD (k:Nat)) 10 false)/\M2 jU=some (qg,aY bp (cO l aD c3++[((aD:Int),c2,(c3:Int),c4)])):=by
    rw[hn];apply Exists.intro;apply And.intro
    rotate_left
    ·rw[gI];simp only[zM,n6,if_false,if_true];rfl
    ·rw[gI];simp only[zM,if_true]
     congr 2
     refine zm (λk _=>?_) λ_ _=>rfl
     by_cases J:k=c3
     ·rw[Z J,Z J];rfl
     ·rw[aa J,aa J,aa J]
   obtain⟨qg,De,Kx⟩:=De
   have m8:∀k:Nat,k≠228009->k≠228048->k≠dJ->k≠jU->M2 k=m k:=λk E H ab aM=>by
    rw[gI];simp only[zM,E,H,ab,aM,if_false]
   clear gI;simp only[go_sem,go_sem_proc,Ky,w1,db];refine ahn T M2 dJ (gs aD) (gh (m 228009)) (cash.getD aD 0) (λk=>if k=c3 then .ref jU qg 4 0 ((cO l aD c3).length+1) else nI l eE aD k) (λk=>cr l aD (k:Nat)) aD c2 c3 c4 o4 Ck (by omega) (by omega) (.ref 228023 g 1 0 (D cash)) (.I (.af (cs.map bp))) (.I (.int .i64 (D cs))) (.I (.int .i64 t)) _ _ ?_ ?_ ?_ ?_ ?_ ?_ ?_ Ky De (λ_ _=>rfl) ?_
   all_goals first|(intro tm' m' mu Gx Gy Gz W2 Kz)|(simp only[eQ,dA,if_false,if_true,dS,ji,k2,mx];done)
   have ig:=tail tm' m' qg 0 mu Gx Gy Gz W2 (by rw[Kz jU (by omega)];exact Kx) λk E H ab aM=>by rw[Kz k ab];exact m8 k E H ab aM
   refine a9 ?_;repeat' (intro h<;>simp only[h,go_sem,go_sem_proc,mu,Gx,Gy,Gz,cf]<;>try refine av ?_ ?_)
   exact⟨(t+1,λi k=>if i=aD/\k=c3 then qg else eE i k),by dsimp only;omega,by dsimp only;omega,rfl,ig.1,ig.2⟩
  ·have gA:nI l eE aD c3=.ref jU (eE aD c3) 4 0 (cO l aD c3).length:=by unfold nI;rw[aa hn,OW]
   rw[gA] at gr;have OV:=bF.Dd aD c3 gy o4 hn;rw[OW] at OV;have eb:(cO l aD c3).length<=12:=eF (rU _ _) auQ;have di:=mK qb Wh jU (eE aD c3) 32 (cO l aD c3) ((aD:Int),c2,(c3:Int),c4) (cs:=[.I (.int .i64 aD),.I (.int .i64 c2),.I (.int .i64 c3),.I (.int .i64 c4)]) rfl (by omega) (by omega);have afK:(jU==228009)=false:=beq_eq_false_iff_ne.2 (by omega);have auS:(228009==jU)=false:=beq_eq_false_iff_ne.2 (by omega);have auT:(jU==dJ)=false:=beq_eq_false_iff_ne.2 (by omega);have auU:(dJ==jU)=false:=beq_eq_false_iff_ne.2 (by omega);simp only[go_sem,go_sem_proc,hs,dS,ji,k2,mx,O,e7,eV,hZ,bX,hlen,gr,ea,d1,eB,bO,gy,o4,Kl,aht,C8,OU,ahu,ahv,fk,n6,rV,afI,auR,afK,auS,auT,auU,OV,di,bp,cM,aj,a5];refine W1 ?_;intro M2 gI
   have Ky:M2 228009=some (gh (m 228009),[.I (.int .i64 aD),.I (.int .i64 c2),.I (.int .i64 c3),.I (.int .i64 c4)]):=by
    rw[gI];simp only[zM,db,dH,ahw,if_false,if_true]
   have De:M2 dJ=some (gs aD,hp (cash.getD aD 0) (λk=>if k=c3 then .ref jU (eE aD c3+1) 4 0 ((cO l aD c3).length+1) else nI l eE aD k) (λk=>cr l aD (k:Nat)) 10 false):=by
    rw[gI];simp only[zM,if_true]
   have Kx:M2 jU=some (eE aD c3+1,aY bp (cO l aD c3++[((aD:Int),c2,(c3:Int),c4)])):=by
    rw[gI];simp only[zM,n6,if_false,if_true]
   have m8:∀k:Nat,k≠228009->k≠228048->k≠dJ->k≠jU->M2 k=m k:=λk E H ab aM=>by
    rw[gI];simp only[zM,E,ab,aM,if_false]
   clear gI;simp only[go_sem,go_sem_proc,Ky,w1,db];refine ahn T M2 dJ (gs aD) (gh (m 228009)) (cash.getD aD 0) (λk=>if k=c3 then .ref jU (eE aD c3+1) 4 0 ((cO l aD c3).length+1) else nI l eE aD k) (λk=>cr l aD (k:Nat)) aD c2 c3 c4 o4 Ck (by omega) (by omega) (.ref 228023 g 1 0 (D cash)) (.I (.af (cs.map bp))) (.I (.int .i64 (D cs))) (.I (.int .i64 t)) _ _ ?_ ?_ ?_ ?_ ?_ ?_ ?_ Ky De (λ_ _=>rfl) ?_
   all_goals first|(intro tm' m' mu Gx Gy Gz W2 Kz)|(simp only[eQ,dA,if_false,if_true,dS,ji,k2,mx];done)
   have ig:=tail tm' m' (eE aD c3+1) 0 mu Gx Gy Gz W2 (by rw[Kz jU (by omega)];exact Kx) λk E H ab aM=>by rw[Kz k ab];exact m8 k E H ab aM
   refine a9 ?_;repeat' (intro h<;>simp only[h,go_sem,go_sem_proc,mu,Gx,Gy,Gz,cf]<;>try refine av ?_ ?_)
   exact⟨(t+1,λi k=>if i=aD/\k=c3 then eE aD c3+1 else eE i k),by dsimp only;omega,by dsimp only;omega,rfl,ig.1,ig.2⟩
 ·have d1:decide ((t:Int)<(D cs:Int))=false:=c1;rw[dD (by omega)] at bF;refine a9 ?_;repeat' (intro h<;>simp only[h,go_sem,go_sem_proc,dS,ji,k2,mx,d1]<;>try refine av ?_ ?_)
  refine du _ _ eE ?_ bF bR;simp only[eQ,dA,if_false,dS]
theorem r6.trans {a b c:Mem}(h:r6 a b)(b2:r6 b c):r6 a c:=by
 induction h with
 |refl=>exact b2
 |step E _ ay=>exact .step E (ay b2)
theorem ahx {K:a2->Prop}{tm:Nat->M}{mem mem':Mem}(h:r6 mem mem')(du:K ⟨tm,mem'⟩):kM K ⟨tm,mem⟩ .many:=⟨mem',h,du⟩
def uG (l:List ar)(eE:Nat->Nat->Nat)(d i k:Nat):M:=if 10*i+k<d then jE (cO l i k) else nI l eE i k
structure vU (cash:List Int) (l:List ar) (g:Nat) (gs:Nat->Nat) (eE:Nat->Nat->Nat) (d:Nat) (m:Mem):Prop where
 row:m 228023=some (g,bu (D cash) λi => .ptr (228500+i) (gs i) 0)
 dp:∀i,i<(D cash)->m (228500+i)=some (gs i,hp (cash.getD i 0) (uG l eE d i) (λk=>cr l i (k:Nat)) 10 false)
 Dd:∀i k,i<(D cash)->k<10->d<=10*i+k->cO l i k≠[]->m (228600+10*i+k)=some (eE i k,aY bp (cO l i k))
theorem vU.step {cash:List Int}{l:List ar}{g:Nat}{gs:Nat->Nat}{eE:Nat->Nat->Nat}{d:Nat}{m:Mem}(h:vU cash l g gs eE d m)(aG:(D cash)<=6)(X:d<10*D cash):∃m',r6 m m'/\vU cash l g gs eE (d+1) m'/\dU 228 m m':=by
 obtain⟨i,k,L,J,rfl⟩:∃i k,i<D cash/\k<10/\d=10*i+k:=⟨d/10,d%10,by omega,by omega,by omega⟩
 have W3:∀j r,j<(D cash)->r<10->¬ (j=i/\r=k)->uG l eE (10*i+k+1) j r=uG l eE (10*i+k) j r:=λj r ai Y bN=>by
  unfold uG
  by_cases E:10*j+r<10*i+k
  ·rw[Z E,Z (by omega)]
  ·rw[aa E,aa (by omega)]
 by_cases G:cO l i k=[]
 ·refine⟨m,.refl m,⟨h.row,λj ai=>?_,λj r ai Y X bN=>h.Dd j r ai Y (by omega) bN⟩,dU.refl _ _⟩;rw[h.dp j ai]
  congr 2
  refine zm (λr Y=>?_) λ_ _=>rfl
  by_cases J1:j=i/\r=k
  ·obtain⟨rfl,rfl⟩:=J1;unfold uG;rw[aa (by omega),Z (by omega)];unfold nI jE;rw[Z G,Z G]
  ·exact (W3 j r ai Y J1).symm
 ·have ae:=h.dp i L;have eb:=h.Dd i k L J (bP _) G
  have SB:uG l eE (10*i+k) i k=.ref (228600+10*i+k) (eE i k) 4 0 (cO l i k).length:=by
   unfold uG;rw[aa (by omega)];unfold nI;rw[aa G]
  have jb:=WY (c:=cash.getD i 0) (q:=uG l eE (10*i+k) i) (us:=λk=>cr l i (k:Nat)) (f:=10) (p:=false) J;rw[SB] at jb;have tS:c8 1 m (.ref (228600+10*i+k) (eE i k) 4 0 (cO l i k).length)=some (.af ((cO l i k).map bp)):=pM (n:=0) qb eb;refine⟨_,.step (q8.Lb (228500+i) (gs i) _ (1+k) (228600+10*i+k) (eE i k) 4 0 (cO l i k).length _ (.af ((cO l i k).map bp)) ae jb eb (by show (228600+10*i+k:Nat)≠228500+i;omega) tS) (.refl _),⟨?_,λj ai=>?_,λj r ai Y X bN=>?_⟩,λx O=>?_⟩
  ·rw[dd (by show (228023:Nat)≠228500+i;omega)];unfold kill;rw[dd (by show (228023:Nat)≠228600+10*i+k;omega)];exact h.row
  ·by_cases j1:j=i
   ·subst j1;rw[kK,WZ J]
    congr 2
    refine zm (λr Y=>?_) λ_ _=>rfl
    by_cases ha:r=k
    ·subst ha;rw[Z rfl];unfold uG;rw[Z (by omega)];unfold jE;rw[aa G]
    ·rw[aa ha];exact (W3 j r ai Y (by omega)).symm
   ·rw[dd (by show (228500+j:Nat)≠228500+i;omega)];unfold kill;rw[dd (by show (228500+j:Nat)≠228600+10*i+k;omega),h.dp j ai]
    congr 2
    refine zm (λr Y=>(W3 j r ai Y (by omega)).symm) λ_ _=>rfl
  ·rw[dd (by show (228600+10*j+r:Nat)≠228500+i;omega)];unfold kill;rw[dd (by show (228600+10*j+r:Nat)≠228600+10*i+k;omega)];exact h.Dd j r ai Y (by omega) bN
  ·have zK:x/1000≠228:=O;rw[dd (by show x≠228500+i;omega)];unfold kill;rw[dd (by show x≠228600+10*i+k;omega)]
theorem vU.all {cash:List Int}{l:List ar}{g:Nat}{gs:Nat->Nat}{eE:Nat->Nat->Nat}(aG:(D cash)<=6):∀r d m,d+r=10*(D cash)->vU cash l g gs eE d m->∃m',r6 m m'/\vU cash l g gs eE (10*D cash) m'/\dU 228 m m'
 |0,d,m,X,h=>⟨m,.refl m,by rw[<-X];exact h,dU.refl _ _⟩
 |r+1,d,m,X,h=>by
  obtain⟨dG,E,H,ab⟩:=h.step aG (by omega);obtain⟨cn,cH,dc,dV⟩:=vU.all aG r (d+1) dG (by omega) H;exact⟨cn,E.trans cH,dc,λx O=>(dV x O).trans (ab x O)⟩
theorem xB.auV {cash:List Int}{l:List ar}{g:Nat}{gs:Nat->Nat}{eE:Nat->Nat->Nat}{m:Mem}(h:xB cash l g gs eE m):vU cash l g gs eE 0 m :=
 ⟨h.row,λi L=>by
  rw[h.dp i L]
  congr 2,λi k L J _ bN=>h.Dd i k L J bN⟩
def xC (cash:List Int)(cs:List ar)(g:Nat)(gs:Nat->Nat):cL:=⟨cash,da (D cash) cs,bu (D cash) λ_=>10,m2 (D cash) λ_=>false,g,bu (D cash) gs⟩
theorem auW {cash:List Int}{cs:List ar}(h:fG cash cs)(i r:Nat):cr (da (D cash) cs) i r=cr cs i r:=by
 have E:=sY h.right i r;have H:=sY (Wl h).right i r;rw[<-(aft h.right).U,<-E] at H;exact_mod_cast H
theorem A9 {α:Type}{n i:Nat}(q:Nat->α)(d:α)(h:i<n):(bu n q).getD i d=q i:=by
 rw[dY,iE q h];rfl
theorem vU.at {cash:List Int}{cs:List ar}(Q:fG cash cs){g:Nat}{gs:Nat->Nat}{eE:Nat->Nat->Nat}{m:Mem}(h:vU cash cs g gs eE (10*D cash) m):(xC cash cs g gs).eR m:=by
 refine⟨(asK _ _).symm,gp _ _,Ok _ _,gp _ _,?_,λi L=>?_⟩
 ·refine h.row.trans ?_
  congr 2
  exact j9 λi L=>by
   show M.ptr (228500+i) (gs i) 0=M.ptr (228500+i) ((bu (D cash) gs).getD i 0) 0;rw[A9 gs 0 L]
 ·have kO:i<D cash:=L;refine (h.dp i kO).trans ?_;have aw:(xC cash cs g gs).gs.getD i 0=gs i:=A9 gs 0 kO;rw[aw]
  congr 2
  have aC:(bu (D cash) λ_=>(10:Int)).getD i 10=10:=A9 _ _ kO;have cx:(m2 (D cash) λ_=>false).getD i false=false:=by rw[dY,Ol _ kO];rfl
  have dk:fh ((xC cash cs g gs).gb i)=dy (cash.getD i 0)::((bu 10 λk=>cO (da (D cash) cs) i k).map jE++((bu 11 λk=>cr (da (D cash) cs) i (k:Nat)).map dy++[dy ((bu (D cash) λ_=>(10:Int)).getD i 10),kI ((m2 (D cash) λ_=>false).getD i false)])):=rfl;rw[dk,aC,cx];unfold hp
  have dS:(bu 10 λk=>cO (da (D cash) cs) i k).map jE=bu 10 (uG cs eE (10*D cash) i):=by
   unfold bu;rw[oU];refine nj λk J=>?_;have adb:=hk.1 J;show jE (cO (da (D cash) cs) i k)=uG cs eE (10*D cash) i k;rw[afp cs kO adb];unfold uG;rw[Z (by omega)]
  have bQ:(bu 11 λk=>cr (da (D cash) cs) i (k:Nat))=bu 11 λk=>cr cs i (k:Nat):=j9 λk _=>auW Q i k;rw[dS,bQ]
theorem ahy {α:Type}(n:Nat)(q:Nat->α):bu (n+1) q=bu n q++[q n]:=by
 unfold bu;rw[po,mq];rfl
structure W4 (x:List Int×List ar) (mem:Mem):Prop where
 pq:fG x.1 x.2
 no:qW 228 mem
def W5 (x:List Int×List ar)(mem:Mem):M->Mem->Prop:=λm mem'=>∃g gs,m=.ref 228023 g 1 0 x.1.length/\(xC x.1 x.2 g gs).eR mem'/\dU 228 mem mem'
def W6:List M->Mem->Option (M->Mem->Prop):=yY (λ(x:List Int×List ar) args mem=>args=[.I (.af (x.1.map ad)),.I (.af (x.2.map bp))]/\W4 x mem) W5
theorem auX (cash:List Int)(cs:List ar)(mem:Mem)(h:W4 (cash,cs) mem):W6 [.I (.af (cash.map ad)),.I (.af (cs.map bp))] mem=some (W5 (cash,cs) mem):=by
 refine afD (a:=(cash,cs)) ?_ ⟨rfl,h⟩;rintro⟨a,b⟩ ⟨c,d⟩ args mem ⟨aw,aC⟩ ⟨cx,dk⟩;rw[aw] at cx;simp only[bh,M.I.injEq,Data.af.injEq,and_true] at cx;obtain⟨E,H⟩:=cx;rw[map_inj g7 _ _ E,map_inj zf _ _ H]
def ahz (_:Nat):M:=.nil
def ahA (_:Nat):Int:=0
theorem auY (T:bk)(cash:List Int)(cs:List ar)(mem:Mem)(a1:W4 (cash,cs) mem):
  wp T Ax.body (rG Ax.res (W5 (cash,cs) mem)) ⟨mA [.I (.af (cash.map ad)),.I (.af (cs.map bp))],mem⟩:=by
 obtain⟨Q,ie⟩:=a1;dsimp only at Q;have aG:=Q.ly;have auZ:mem 228023=none:=ie 228023 (by decide);refine wq ?_;simp only[Ax];simp only[go_sem,go_sem_proc,auZ,aj]
 refine dE [1,12,13] [] (λ((i,g,gs):Nat×Nat×(Nat->Nat)) tm m=>i<=D cash/\tm 14=.I (.int .i64 i)/\tm 5=.ref 228023 g 1 0 i/\m 228023=some (g,bu i λj => .ptr (228500+j) (gs j) 0)/\(∀j,j<i->m (228500+j)=some (gs j,hp (cash.getD j 0) ahz ahA 10 false))/\dU 228 mem m) (λ(i,_)=>D cash-i) (0,0,λ_=>0) (by
  refine⟨by omega,rfl,rfl,by simp[a3];rfl,λj ai=>by omega,(dU.refl _ _).eP (by decide)⟩) ?_
 intro vs ms aV aR;simp only[go_sem,go_sem_proc] at aV aR;subst aV aR;rintro⟨i,g,gs⟩ tm m J-⟨L,xk,dS,e7,eV,bR⟩;simp only[go_sem,go_sem_proc,bh] at J;obtain⟨aw,ij,iR⟩:=J;rcases dQ (i<D cash) with aq|ck
 ·have d1:decide ((i:Int)<(D cash:Int))=true:=dg;have cf:=fW (i:=i) (by omega);obtain⟨y,ao⟩:∃y,cash[i]?=some y:=⟨_,bs aq⟩;have vn:cash.getD i 0=y:=by rw[dY,ao];rfl
  have bX:(bu i λj=>M.ptr (228500+j) (gs j) 0).length=i:=gp _ _;have ll:hA i (bu i λj=>M.ptr (228500+j) (gs j) 0)=bu i λj=>M.ptr (228500+j) (gs j) 0:=dD (by omega);have eB:((i+1)*8<=140737488355328)=True:=eq_true (by omega);have al:(i+1<=maxLen)=True:=eq_true (by unfold maxLen;omega);have bO:(i<=i)=True:=eq_true (bP _)
  have di:l5 228023 g 1 i 8 1 [.ptr 228021 (gh (m 228021)) 0] (some (g,bu i λj=>M.ptr (228500+j) (gs j) 0))=some (.ref 228023 (g+1) 1 0 (i+1),some (228023,g+1,(bu i λj=>M.ptr (228500+j) (gs j) 0)++[.ptr 228021 (gh (m 228021)) 0])):=by
   unfold l5;dsimp only;rw[Z ⟨rfl,by rw[gp];omega,by omega,by unfold maxLen;omega,rfl⟩,cM,ll]
  generalize Gr:(bu i λj=>M.ptr (228500+j) (gs j) 0)=vN at *;simp only[go_sem,go_sem_proc,aw,dS,ij,iR,xk,e7,ao,bX,di,d1,ad,cM,aj,a5]
  have OX:(vN++[M.ptr 228021 (gh (m 228021)) 0])[i]?=some (.ptr 228021 (gh (m 228021)) 0):=by
   rw[rf (by omega),bX];simp
  have db:(228021=228022)=False:=eq_false (by decide);refine W0 (q8.YM 228023 (g+1) _ i 228021 (gh (m 228021)) 0 _ (228500+i) kK OX ((dd (by decide)).trans ((dd (by decide)).trans kK)) (by decide) (by show (228500+i:Nat)≠228021;omega) (by show (228500+i:Nat)≠228023;omega)) ?_;intro M2 gI
  have pg:∀p,(vN++[M.ptr 228021 (gh (m 228021)) 0]).set i p=vN++[p]:=λp=>by
   rw[CC _ _ (by omega),bX,mE];rfl
  rw[pg] at gI
  obtain⟨GA,ahB,au0⟩:∃GA,M2 228023=some (g+1,vN++[.ptr (228500+i) GA 0])/\M2 (228500+i)=some (GA,hp y ahz ahA 10 false):=by
   apply Exists.intro;apply And.intro
   rotate_left
   ·rw[gI,dd (by show (228500+i:Nat)≠228023;omega),kK];rfl
   ·rw[gI,kK]
  have m8:∀k:Nat,k≠228021->k≠228022->k≠228023->k≠228500+i->M2 k=m k:=λk E H ab aM=>by
   rw[gI,dd ab,dd aM,dd E,dd ab,dd H,dd E]
  clear gI
  have gz:vN++[M.ptr (228500+i) GA 0]=bu (i+1) λj => .ptr (228500+j) (if j=i then GA else gs j) 0:=by
   rw[ahy,Z rfl,<-Gr]
   congr 1
   exact j9 λj ai=>by rw[aa (by omega)]
  rw[gz] at ahB;refine a9 ?_;repeat' (intro h<;>simp only[h,go_sem,go_sem_proc,aw,ij,iR,xk,cf]<;>try refine av ?_ ?_)
  refine⟨(i+1,g+1,λj=>if j=i then GA else gs j),by dsimp only;omega,by dsimp only;omega,rfl,rfl,ahB,λj ai=>?_,λk J=>?_⟩
  ·by_cases j1:j=i
   ·subst j1;dsimp only;rw[Z rfl,au0,vn]
   ·dsimp only;rw[aa j1,m8 (228500+j) (by omega) (by omega) (by omega) (by omega)];exact eV j (by dsimp only at ai;omega)
  ·rw[m8 k (by omega) (by omega) (by omega) (by omega)];exact bR k J
 ·have d1:decide ((i:Int)<(D cash:Int))=false:=c1;obtain rfl:i=D cash:=by omega
  simp only[go_sem,go_sem_proc,aw,dS,ij,iR,xk,d1,aj];refine auO T mem cash cs Q g gs (λ_ _=>0) _ _ ?_ ?_ ?_ ?_ ⟨e7,λj ai=>?_,λj k ai J bN=>absurd rfl bN⟩ bR ?_
  all_goals first|(intro tm' m' eE mu bF vO)|(simp only[eQ,dA,if_false,if_true,aw,dS];done)|skip
  ·rw[eV j ai]
   congr 2
  obtain⟨cn,E,H,ab⟩:=vU.all aG (10*D cash) 0 m' (by omega) bF.auV;simp only[go_sem,go_sem_proc];refine ahx E ?_;refine a9 ?_;repeat' (intro h<;>simp only[h,go_sem,go_sem_proc,mu]<;>try refine av ?_ ?_)
  exact⟨_,rfl,g,gs,rfl,H.at Q,λk J=>(ab k J).trans (vO k J)⟩
def W7:b1:=cu 40 1 [.t 2,.t 3] (R [dM 1 341001 0,eH 2,bt 3 0] (.seq (R [bm 9 5 1,(dN 10 yt 9),gi 11 10] (a4 11 (R [eH 2,bt 3 1] .ret) .skip)) (fc [aT 13 0 1,aK 14 1 13,bm 15 5 1,(ax 16 (.call BZ [(.t 15),(.c (.I (.int .i64 (-1))))])),(cd 17 BU 14 16),F 12 17,br 18 0 12,br 19 1 12,(ax 4 (.alloc 341004 [.nil,.nil,.nil])),bb 3 4 18,F 5 19] [[],[],[],[],[],[],[],[],[1,2],[],[]] (.seq (R [F 20 5,bc 21 .neq 20 0] (a4 21 (R [F 22 5,eH 2,F 3 22] .ret) .skip)) (R [eH 6] (.seq (R [aT 23 2 1,aK 24 1 23,cp 25 24,bt 26 0] (.block 0 (.ghost (.pz 6 341037 4) (.loop  (R [bB 27 .lss 26 25] (.seq (a4 27 .skip (.exit 0)) (.seq (.block 1 (R [bM 28 1 24 26,aK 29 1 28,F 8 29] (.ops [F 30 6,aT 31 1 4,aK 32 1 31,F 33 8,bM 34 4 32 33,bm 35 4 34,(ax 36 (.e1 341036 false [(ag 0),.nil,(ag 0),.nil] 4 1 [(0,4,(.t 35))])),(ax 37 (.app 341037 [(ag 0),.nil,(ag 0),.nil] 64 (.t 30) (.t 36))),F 6 37]))) (.ops [bc 38 .add 26 1,F 26 38])))))))) (.seq (.ghost (.freeze 6) (.ops [F 39 6,F 2 39,bt 3 0])) .ret)))))))
def W8:b1:=cu 44 2 [.cell 4 4 true,.t 5] (R [dM 2 343002 0,(ax 4 (.alloc 343004 [(ag 0),.nil,(ag 0),.nil])),bt 5 0] (.seq (.block 0 (R [bm 9 5 2,(dN 10 yt 9),gi 11 10,F 8 11] (a4 8 (R [(ax 12 (.build [(ag 0),.nil,(ag 0),.nil] [])),bb 4 4 12,bt 5 1] .ret) (R [F 14 1,aT 15 2 2,aK 16 1 15,cp 17 16,bc 18 .sub 17 1,(ax 19 (.call ru [(.t 14),(.c (ag 0)),(.t 18)])),gi 20 19,F 13 20] (a4 13 (R [(ax 21 (.build [(ag 0),.nil,(ag 0),.nil] [])),bb 4 4 21,bt 5 4] .ret) .skip))))) (fc [aT 23 0 2,aK 24 1 23,bm 25 5 2,F 26 1,(cd 27 BZ 25 26),(cd 28 BU 24 27),F 22 28,br 29 0 22,br 30 1 22,(ax 6 (.alloc 343006 [.nil,.nil,.nil])),bb 3 6 29,F 7 30] [[],[],[],[],[],[],[],[],[],[1,2],[],[]] (.seq (R [F 31 7,bc 32 .neq 31 0] (a4 32 (R [(ax 33 (.build [(ag 0),.nil,(ag 0),.nil] [])),F 34 7,bb 4 4 33,F 5 34] .ret) .skip)) (fc [aT 35 1 6,aK 36 1 35,aT 37 2 2,aK 38 1 37,F 39 1,bM 40 1 38 39,aK 41 1 40,bM 42 4 36 41,bm 43 4 42,bb 4 4 43,bt 5 0] z4 .ret)))))
def W9:b1:=cu 85 1 [.t 2] (R [dM 1 346001 0,c5 2 false] (.seq (R [aT 6 0 1,aK 7 1 6,aT 8 1 1,aK 9 1 8,(cd 10 RB 7 9),gi 11 10,F 12 11,⟨some 13,some (12,false),.et 2 (.t 1)⟩,⟨some 14,some (12,false),.load 1 false (.t 13)⟩,⟨some 15,some (12,false),.len (.t 14)⟩,⟨some 16,some (12,false),.bin .eql (.t 15) (.c (ag 0))⟩,dn 17 12 16,F 18 17,⟨some 19,some (18,false),.et 3 (.t 1)⟩,⟨some 20,some (18,false),.load 1 false (.t 19)⟩,⟨some 21,some (18,false),.call ru [(.t 20),(.c (ag 0)),(.c (ag 10000))]⟩,⟨some 22,some (18,false),.un .not (.t 21)⟩,dn 23 18 22,F 24 23,⟨some 25,some (24,false),.et 4 (.t 1)⟩,⟨some 26,some (24,false),.load 1 false (.t 25)⟩,⟨some 27,some (24,false),.call ru [(.t 26),(.c (ag 0)),(.c (ag 9))]⟩,⟨some 28,some (24,false),.un .not (.t 27)⟩,dn 29 24 28] (a4 29 (R [c5 2 false] .ret) .skip)) (.seq (R [aT 30 2 1,aK 31 1 30,cp 32 31,bt 33 0] (.block 0 (.loop  (R [bB 34 .lss 33 32] (.seq (a4 34 .skip (.exit 0)) (.seq (.block 1 (R [F 35 33,bM 36 1 31 33,aK 37 1 36,F 3 35,F 4 37] (.seq (R [F 38 4,aT 39 1 1,aK 40 1 39,cp 41 40,bc 42 .sub 41 1,(ax 43 (.call ru [(.t 38),(.c (ag 0)),(.t 42)])),gi 44 43,F 45 44,⟨some 46,some (45,false),.b3 (.t 3)⟩,⟨some 47,some (45,false),.bin .gtr (.t 46) (.c (ag 0))⟩,⟨some 48,some (45,false),.b3 (.t 47)⟩,⟨some 49,some (48,true),.b3 (.t 4)⟩,⟨some 50,some (48,true),.et 2 (.t 1)⟩,⟨some 51,some (48,true),.load 1 false (.t 50)⟩,⟨some 52,some (48,true),.b3 (.t 3)⟩,⟨some 53,some (48,true),.bin .sub (.t 52) (.c (ag 1))⟩,⟨some 54,some (48,true),.jj 1 (.t 51) (.t 53)⟩,⟨some 55,some (48,true),.load 1 false (.t 54)⟩,⟨some 56,some (48,true),.bin .leq (.t 49) (.t 55)⟩,⟨some 57,some (45,false),.pick (.t 48) (.t 56) (.c (.I (.bool false)))⟩,dn 58 45 57] (a4 58 (R [c5 2 false] .ret) .skip)) (R [aT 59 1 1,aK 60 1 59,F 61 4,bM 62 4 60 61,bm 63 4 62,(ax 5 (.alloc 346005 [(ag 0),(ag 0),(ag 0),(ag 0)])),bb 4 5 63] (fc [aT 64 0 5,aK 65 1 64,aT 66 1 1,aK 67 1 66,aT 68 2 1,aK 69 1 68,(ax 70 (.jj 1 (.t 69) (.c (ag 0)))),aK 71 1 70,bM 72 4 67 71,aT 73 0 72,aK 74 1 73,bB 75 .neq 65 74,F 76 75,⟨some 77,some (76,false),.load 5 true (.t 1)⟩,⟨some 78,some (76,false),.load 4 true (.t 5)⟩,⟨some 79,some (76,false),.call Iv [(.t 77),(.t 78)]⟩,⟨some 80,some (76,false),.zv 3 1 false (.t 79)⟩,⟨some 81,some (76,false),.call ru [(.t 80),(.c (ag 0)),(.c (ag 1000000000000000))]⟩,⟨some 82,some (76,false),.un .not (.t 81)⟩,dn 83 76 82] amu (a4 83 (R [c5 2 false] .ret) .skip)))))) (.ops [bc 84 .add 33 1,F 33 84]))))))) (R [c5 2 true] .ret))))
def Xa:b1:=cu 48 2 [.t 4,.cell 5 4 true,.t 6] (R [dM 2 348002 0,c5 4 false,(ax 5 (.alloc 348005 [(ag 0),.nil,(ag 0),.nil])),bt 6 0] (R [bm 12 5 2,F 13 1,(cd 14 BW 12 13),F 11 14,br 15 0 11,br 16 1 11,(ax 7 (.alloc 348007 [(ag 0),.nil,(ag 0),.nil])),bb 4 7 15,F 8 16] (.seq (R [F 17 8,bc 18 .neq 17 0] (a4 18 (R [(ax 19 (.build [(ag 0),.nil,(ag 0),.nil] [])),F 20 8,c5 4 false,bb 4 5 19,F 6 20] .ret) .skip)) (R [bm 22 5 2,(dN 23 yr 22),F 21 23,br 24 0 21,br 25 1 21,F 9 24,F 8 25] (.seq (R [F 26 8,bc 27 .neq 26 0] (a4 27 (R [(ax 28 (.build [(ag 0),.nil,(ag 0),.nil] [])),F 29 8,c5 4 false,bb 4 5 28,F 6 29] .ret) .skip)) (fc [bm 31 4 7,F 32 9,F 33 1,bM 34 4 32 33,bm 35 4 34,(cd 36 tH 31 35),F 30 36,br 37 0 30,br 38 1 30,(ax 10 (.alloc 348010 [(ag 0),.nil,(ag 0),.nil])),bb 4 10 37,F 8 38] [[],[],[],[],[],[],[],[],[],[0,4],[],[]] (.seq (R [F 39 8,bc 40 .neq 39 0] (a4 40 (R [(ax 41 (.build [(ag 0),.nil,(ag 0),.nil] [])),F 42 8,c5 4 false,bb 4 5 41,F 6 42] .ret) .skip)) (fc [aT 43 0 10,aT 44 0 43,aK 45 1 44,bc 46 .gtr 45 0,bm 47 4 10,F 4 46,bb 4 5 47,bt 6 0] aaR .ret))))))))
def Xb:b1:=cu 72 2 [.t 4,.t 5] (R [dM 2 350002 0,bt 4 0,bt 5 0] (R [bm 14 5 2,F 15 1,(cd 16 BX 14 15),F 13 16,br 17 0 13,br 18 1 13,br 19 2 13,(ax 7 (.alloc 350007 [(ag 0),.nil,(ag 0),.nil])),F 6 17,bb 4 7 18,F 8 19] (.seq (R [F 20 8,bc 21 .neq 20 0,F 22 21,⟨some 23,some (22,false),.b3 (.t 6)⟩,⟨some 24,some (22,false),.un .not (.t 23)⟩,dn 25 22 24] (a4 25 (R [F 26 8,bt 4 0,F 5 26] .ret) .skip)) (R [bm 28 5 2,(dN 29 yr 28),F 27 29,br 30 0 27,br 31 1 27,F 9 30,F 10 31] (R [bm 32 5 2,F 33 1,(ax 34 (.nf 350034 4 BZ [(.t 32),(.t 33)])),F 11 34] (fc [F 35 11,aT 36 2 2,aK 37 1 36,F 38 1,bM 39 1 37 38,aK 40 1 39,aT 41 4 2,aK 42 1 41,bM 43 4 35 40,aT 44 2 43,bb 1 44 42] z4 (.seq (.ghost (.freeze 11) (.ops [aT 46 0 2,aK 47 1 46,F 48 11,(cd 49 BU 47 48),F 45 49,br 50 0 45,br 51 1 45,(ax 12 (.alloc 350012 [.nil,.nil,.nil])),bb 3 12 50,F 8 51])) (.seq (.block 0 (R [F 53 8,bc 54 .neq 53 0,F 52 54] (a4 52 (R [F 55 8,bt 4 0,F 5 55] .ret) (fc [aT 57 1 12,aK 58 1 57,aT 59 2 2,aK 60 1 59,F 61 1,bM 62 1 60 61,aK 63 1 62,bM 64 4 58 63,bm 65 4 64,F 66 9,F 67 1,bM 68 4 66 67,bm 69 4 68,(cd 70 nn 65 69),bc 71 .leq 70 0,F 56 71] Ew (a4 56 (R [bt 4 1,bt 5 0] .ret) .skip))))) (R [bt 4 2,bt 5 0] .ret)))))))))
def Xc:b1:=cu 33 2 [.t 4] (R [dM 2 354002 0,eH 4] (R [aT 8 1 2,aK 9 1 8,(ax 10 (.nf 354010 4 RD [(.t 9)])),F 5 10] (.seq (R [aT 11 2 2,aK 12 1 11,cp 13 12,bt 14 0] (.block 0 (.loop  (R [bB 15 .lss 14 13] (.seq (a4 15 .skip (.exit 0)) (.seq (.block 1 (R [F 16 14,bM 17 1 12 14,aK 18 1 17,F 6 16,F 7 18] (R [F 19 6,F 20 1,bB 21 .neq 19 20] (a4 21 (.mz [F 22 5,F 23 7,bm 24 5 2,F 25 5,F 26 7,bM 27 4 25 26,bm 28 4 27,(cd 29 Iv 24 28),bM 30 4 22 23,bb 4 30 29] L7) .skip)))) (.ops [bc 31 .add 14 1,F 14 31]))))))) (R [F 32 5,F 4 32] .ret))))
def Xd:b1:=cu 15 3 [.t 6] (R [c5 6 false] (R [F 7 1,F 8 0,bB 9 .leq 7 8,F 10 9,⟨some 11,some (10,true),.b3 (.t 0)⟩,⟨some 12,some (10,true),.b3 (.t 2)⟩,⟨some 13,some (10,true),.bin .leq (.t 11) (.t 12)⟩,gG 14 10 13,F 6 14] .ret))
def Xe:b1:=cu 30 2 [.t 4] (R [c5 4 false] (R [F 8 0,cp 9 8,(ax 5 (.alloc 356005 [(ag 0)])),bb 1 5 9] (R [(ax 6 (.alloc 356006 [(.I .tl)])),⟨none,none,.store 1 (.t 6) (.c (.fS wI []))⟩] (R [(ax 10 (.tn Ix [(.t 5),(.t 6)])),F 7 10] (R [aK 11 1 5,bc 12 .leq 11 60,F 13 12,⟨some 14,some (13,true),.b3 (.t 1)⟩,⟨some 15,some (13,true),.len (.t 14)⟩,⟨some 16,some (13,true),.bin .leq (.t 15) (.c (ag 2000))⟩,gG 17 13 16,F 18 17,⟨some 19,some (18,true),.b3 (.t 0)⟩,⟨some 20,some (18,true),.load 1 false (.t 6)⟩,⟨some 21,some (18,true),.call It [(.t 19),(.t 20)]⟩,⟨some 22,some (18,true),.un .not (.t 21)⟩,gG 23 18 22,F 24 23,⟨some 25,some (24,true),.b3 (.t 1)⟩,⟨some 26,some (24,true),.b3 (.t 7)⟩,⟨some 27,some (24,true),.call Iu [(.t 25),(.t 26)]⟩,⟨some 28,some (24,true),.un .not (.t 27)⟩,gG 29 24 28,F 4 29] .ret)))))
def Xf:b1:=cu 24 2 [.cell 4 4 true] (R [dM 2 357002 0,dM 3 357003 1,(ax 4 (.alloc 357004 [(ag 0),(ag 0),(ag 0),(ag 0)]))] (fc [aT 5 4 2,aK 6 1 5,aT 7 3 3,aK 8 1 7,bc 9 .quo 8 1000,aT 10 3 2,aK 11 1 10,bB 12 .mul 9 11,aT 13 3 3,aK 14 1 13,bc 15 .rem 14 1000,aT 16 3 2,aK 17 1 16,bB 18 .mul 15 17,bc 19 .quo 18 1000,bB 20 .add 12 19,aT 21 2 3,bb 1 21 6,aT 22 3 3,bb 1 22 20] [[],[],[],[],[],[],[],[],[],[],[],[],[],[],[],[],[],[6,12],[],[]] (R [bm 23 4 3,bb 4 4 23] .ret)))
def Xg:b1:=cu 6 1 [.t 2] (R [c5 2 false] (R [F 3 0,(ax 4 (.call ru [(.t 3),(.c (ag 0)),(.c (ag 1000000000000000))])),gi 5 4,F 2 5] .ret))
def Xh:b1:=cu 31 3 [.t 4] (R [dM 3 362003 0,c5 4 false] (R [aT 5 0 3,aK 6 1 5,aK 7 1 1,bc 8 .sub 7 1,(ax 9 (.call ru [(.t 6),(.c (ag 0)),(.t 8)])),gi 10 9,F 11 10,⟨some 12,some (11,false),.et 1 (.t 3)⟩,⟨some 13,some (11,false),.load 1 false (.t 12)⟩,⟨some 14,some (11,false),.load 1 false (.t 1)⟩,⟨some 15,some (11,false),.bin .sub (.t 14) (.c (ag 1))⟩,⟨some 16,some (11,false),.call ru [(.t 13),(.c (.I (.int .i64 (-1)))),(.t 15)]⟩,⟨some 17,some (11,false),.un .not (.t 16)⟩,dn 18 11 17,F 19 18,⟨some 20,some (19,false),.et 2 (.t 3)⟩,⟨some 21,some (19,false),.load 1 false (.t 20)⟩,⟨some 22,some (19,false),.call ru [(.t 21),(.c (ag 0)),(.c (ag 9))]⟩,⟨some 23,some (19,false),.un .not (.t 22)⟩,dn 24 19 23,F 25 24,⟨some 26,some (25,false),.load 1 false (.t 2)⟩,⟨some 27,some (25,false),.et 3 (.t 3)⟩,⟨some 28,some (25,false),.load 1 false (.t 27)⟩,⟨some 29,some (25,false),.lG (.t 26) [(.t 28)]⟩,dn 30 25 29,F 4 30] .ret))
abbrev Xi:Int×(List bU)×Nat->List Data:=λ(z,h,i)=>[.int .i64 z,.ptr [.af (h.map aL)],.ptr [.int .i64 i]]
def Xj:=cy Xi λ(z,h,i)=>cT (dv z/\i<D h/\o8 h) (.same (.bool (decide (qM (h.getD i dW) (aE (z:Rat))<0))))
theorem au1:∀a b,Xi a=Xi b->a=b:=by
  rintro⟨gj,E,i1⟩ ⟨h7,H,i2⟩ h;simp only[bh,Data.int.injEq,Data.ptr.injEq,Data.af.injEq,and_true,true_and] at h;exact eS h.1 (eS (map_inj vo _ _ h.2.1) (by have:=h.2.2;dsimp only;omega))
@[go_sem] theorem au2 (z:Int)(h:List bU)(i:Nat)(G:dv z/\i<D h/\o8 h):Xj [.int .i64 z,.ptr [.af (h.map aL)],.ptr [.int .i64 i]]=some (.same (.bool (decide (qM (h.getD i dW) (aE (z:Rat))<0)))):=(cI au1 (z,h,i)).trans (cY G _)
theorem au3 (T:bk)(hb:T ox=aW uy)(eD:T nn=aW ud)(z:Int)(h:List bU)(i:Nat)(G:dv z/\i<D h/\o8 h):WP T TG (.same (.bool (decide (qM (h.getD i dW) (aE (z:Rat))<0)))) [.I (.int .i64 z),.I (.ptr [.af (h.map aL)]),.I (.ptr [.int .i64 i])]:=by
 refine cC ?_;simp only[TG];obtain⟨aQ,L,cX⟩:=G;have hw:=A2 z aQ;obtain⟨x,O⟩:∃x,h[i]?=some x:=⟨_,bs L⟩;have jf:h.getD i dW=x:=by rw[dY,O];rfl
 obtain⟨xD,xE⟩:=cX.2 x (eL O);obtain⟨Xk,Xl⟩:=pc (qd aQ);rw[jf];generalize aE (z:Rat)=xc at *;obtain⟨⟨db,dH⟩,⟨fk,fM⟩⟩:=xc;obtain⟨⟨dP,gV⟩,⟨oH,s7⟩⟩:=x;have lj:=acf dP gV oH s7 db dH fk fM ⟨xD,xE,Xk,Xl⟩;simp only[aL] at hw;simp only[go_sem,go_sem_proc,hb,eD,hw,O,lj,aL,aj,a5];repeat' (first|refine av ?_ ?_|fail)<;>intro h<;>simp only[h,go_sem,go_sem_proc,hb,eD,hw,O,lj,aL,aj,a5]
def GC:=cy Kj λ(x,a,b)=>some (.same (.bool (decide (a<=x)&&decide (x<=b))))
@[go_sem] theorem aDU (x:Int)(a:Int)(b:Int):GC [.int .i64 x,.int .i64 a,.int .i64 b]=some (.same (.bool (decide (a<=x)&&decide (x<=b)))):=cI WB (x,a,b)
theorem au4 (T:bk)  (x:Int) (a:Int) (b:Int):WP T Xd (.same (.bool (decide (a<=x)&&decide (x<=b)))) [.I (.int .i64 x),.I (.int .i64 a),.I (.int .i64 b)]:=by
 refine cC ?_;simp only[Xd];rcases aD:decide (a<=x)
 ·refine a9 ?_;repeat' (intro h<;>simp only[h,go_sem,go_sem_proc,aD,fC]<;>try refine av ?_ ?_)
 ·refine a9 ?_;repeat' (intro h<;>simp only[h,go_sem,go_sem_proc,aD,hP]<;>try refine av ?_ ?_)
def OY:=cy z5 λ(x:Int)=>some (.same (.bool (!jh x)))
@[go_sem] theorem au5 (x:Int):OY [.int .i64 x]=some (.same (.bool (!jh x))):=cI Ez x
theorem au6 (T:bk)(hq:T ru=aW GC)(x:Int):WP T Xg (.same (.bool (!jh x))) [.I (.int .i64 x)]:=by
 refine cC ?_;simp only[Xg];unfold jh;refine a9 ?_;repeat' (intro h<;>simp only[h,go_sem,go_sem_proc,hq]<;>try refine av ?_ ?_)
theorem KA {T:bk}{c:dZ}{K:ev->a2->Prop}{st:a2}(h:wp T c K st):wp T c (b8 T K []) st:=by
 have:b8 T K []=K:=by funext e st;cases e<;>rfl
 rwa [this]
theorem Xm (T:bk)(id:FuncId)(eZ:List Data)(aP:List Data->Option ez)(cE:T id=aW aP)(p:Int->Bool)(l:List Int)(au:(D l)<=1000000)(e4:∀x∈l,aP (.int .i64 x::eZ)=some (.same (.bool (p x)))):WP T IA (.same (.int .i64 (mm p l))) [.I (.af (l.map ad)),.I (.fn id eZ)]:=by
 refine cC ?_;simp only[IA];simp only[go_sem,go_sem_proc,aj];refine dE [0,1,7] [] (λ(i:Nat) tm mem=>i<=D l/\(∀x∈l.take i,p x=false)/\tm 8=.I (.int .i64 i)) (λi=>D l-i) 0 (by refine⟨fr _,by simp,rfl⟩) ?_;intro vs ms aV aR;simp only[go_sem,go_sem_proc,aj] at aV aR;subst aV aR;rintro i tm mem J hm ⟨L,ef,bW⟩;simp only[go_sem,go_sem_proc,bh] at J hm;obtain⟨ak,E,bC⟩:=J;have lj:∀m:Mem,(eZ.map M.I).mapM (c8 6 m)=some eZ:=λm=>wC (c8 6 m) (λd=>rfl) eZ;rcases dQ (i<D l) with aq|ck
 ·have O:=bs aq;have tb:=e4 _ (mD aq);have bF:=λh=>Jo (p:=p) ef O h;have gz:=λh=>M7 (p:=p) ef O h;generalize l[i]=x at *;have gZ:decide ((i:Int)<(D l:Int))=true:=dg;have hw:=fW (i:=i) (by omega);rcases ae:p x
  ·rw[ae] at tb;simp only[go_sem,go_sem_proc,cE,ak,E,bC,bW,O,gZ,hw,tb,lj,ad,aj,a5,oZ];repeat' (first|refine av ?_ ?_|fail)<;>intro h<;>simp only[h,go_sem,go_sem_proc,cE,ak,E,bC,bW,O,gZ,hw,tb,lj,ad,aj,a5,oZ]
   exact⟨i+1,by omega,by omega,gz ae,rfl⟩
  ·rw[ae] at tb;rw[bF ae];simp only[go_sem,go_sem_proc,cE,ak,E,bC,bW,O,gZ,hw,tb,lj,ad,aj,a5,oZ];repeat' (first|refine av ?_ ?_|fail)<;>intro h<;>simp only[h,go_sem,go_sem_proc,cE,ak,E,bC,bW,O,gZ,hw,tb,lj,ad,aj,a5,oZ]
 ·have gZ:decide ((i:Int)<(D l:Int))=false:=c1;obtain rfl:i=D l:=by omega
  rw[oA] at ef;rw[M5 ef];simp only[go_sem,go_sem_proc,ak,E,bC,bW,gZ,aj];repeat' (first|refine av ?_ ?_|fail)<;>intro h<;>simp only[h,go_sem,go_sem_proc,ak,E,bC,bW,gZ,aj]
inductive zn where
 |right
 |day
 |hold
 |solve (h:List bU) (i:Nat)
def uH:zn->Data
 |.right => .fn Ir [.ptr [.fn tM []]]
 |.day => .fn aaN []
 |.hold => .fn wI []
 |.solve h i => .fn Iq [.ptr [.af (h.map aL)],.ptr [.int .i64 i]]
theorem au7:∀a b:zn,uH a=uH b->a=b:=by
 rintro (_|_|_|⟨h,i⟩) (_|_|_|⟨b2,a6⟩) e
 all_goals first|rfl|(simp[uH,Ir,aaN,Iq,wI] at e;done)|skip
 simp only[uH,Data.fn.injEq,bh,Data.ptr.injEq,Data.af.injEq,Data.int.injEq,and_true,true_and] at e;rw[map_inj vo _ _ e.1,show i=a6 by omega]
def r0:zn->Int->Bool
 |.right,x => !jh x
 |.day,x => !jh x
 |.hold,x => !jh x
 |.solve h i,x=>decide (qM (h.getD i dW) (aE (x:Rat))<0)
def GD (l:List Int):zn->Prop
 |.solve h i=>i<D h/\o8 h/\∀x∈l,dv x
 |.day=>False
 |_=>True
abbrev OZ:(List Int)×zn->List Data:=λ(l,c)=>[.af (l.map ad),uH c]
def GF:=cy OZ λ(l,c)=>cT (D l<=1000000/\GD l c) (.same (.int .i64 (mm (r0 c) l)))
theorem ahC:∀a b,OZ a=OZ b->a=b:=by
  rintro⟨eB,aD⟩ ⟨al,c2⟩ h;simp only[bh,Data.af.injEq,and_true] at h;exact eS (map_inj g7 _ _ h.1) (au7 _ _ h.2)
@[go_sem] theorem au8 (l:List Int)(c:zn)(G:(D l)<=1000000/\GD l c):GF [.af (l.map ad),uH c]=some (.same (.int .i64 (mm (r0 c) l))):=(cI ahC (l,c)).trans (cY G _)
theorem au9 (T:bk)(ava:T Ir=aW WE)(Xn:T wI=aW OY)(avb:T Iq=aW Xj)(l:List Int)(c:zn)(G:(D l)<=1000000/\GD l c):WP T IA (.same (.int .i64 (mm (r0 c) l))) [.I (.af (l.map ad)),.I (uH c)]:=by
 refine cC ?_;simp only[IA];obtain⟨au,cX⟩:=G
 cases c with
 |right=>exact KA (Xm T _ _ _ ava (r0 .right) l au λx _=>att x)
 |day=>exact False.elim cX
 |hold=>exact KA (Xm T _ _ _ Xn (r0 .hold) l au λx _=>au5 x)
 |solve h k=>exact KA (Xm T _ _ _ avb (r0 (.solve h k)) l au λx O=>au2 x h k ⟨cX.2.2 x O,cX.1,cX.2.1⟩)
def O0:=cy OZ λ(l,c)=>cT (D l<=1000000/\GD l c) (.same (.bool (l.any (r0 c))))
@[go_sem] theorem ahD (l:List Int)(c:zn)(G:(D l)<=1000000/\GD l c):O0 [.af (l.map ad),uH c]=some (.same (.bool (l.any (r0 c)))):=(cI ahC (l,c)).trans (cY G _)
theorem avc (T:bk)(oL:T BV=aW GF)(l:List Int)(c:zn)(G:(D l)<=1000000/\GD l c):WP T R6 (.same (.bool (l.any (r0 c)))) [.I (.af (l.map ad)),.I (uH c)]:=by
 refine cC ?_;simp only[R6];rw[<-M6];refine a9 ?_;repeat' (intro h<;>simp only[h,go_sem,go_sem_proc,oL,G]<;>try refine av ?_ ?_)
abbrev Xo:Int×Int×Int×Int×Int->List Data:=λ(a,b,k,x,n)=>[.agg [.int .i64 a,.int .i64 b,.int .i64 k,.int .i64 x],.ptr [.int .i64 n],.ptr [.fn wI []]]
def Xp:=cy Xo λ(a,b,k,x,n)=>cT (0<=n/\n<=1000000) (.same (.bool (!kY n (a,b,k,x))))
theorem avd:∀a b,Xo a=Xo b->a=b:=by
  rintro⟨db,dP,cH,bf,ht⟩ ⟨dH,gV,dc,b5,jI⟩ h;simp only[bh,Data.int.injEq,Data.agg.injEq,Data.af.injEq,Data.bool.injEq,Data.str.injEq,Data.ptr.injEq,Data.cw.injEq,fu,true_and,and_true] at h ⊢
  first|exact h|simpa [B1,and_assoc] using h|grind
@[go_sem] theorem ave (a:Int)(b:Int)(k:Int)(x:Int)(n:Int)(G:0<=n/\n<=1000000):Xp [.agg [.int .i64 a,.int .i64 b,.int .i64 k,.int .i64 x],.ptr [.int .i64 n],.ptr [.fn wI []]]=some (.same (.bool (!kY n (a,b,k,x)))):=(cI avd (a,b,k,x,n)).trans (cY G _)
theorem avf (T:bk)(hq:T ru=aW GC)(Xn:T wI=aW OY)(a:Int)(b:Int)(k:Int)(x:Int)(n:Int)(G:0<=n/\n<=1000000):WP T Xh (.same (.bool (!kY n (a,b,k,x)))) [.I (.agg [.int .i64 a,.int .i64 b,.int .i64 k,.int .i64 x]),.I (.ptr [.int .i64 n]),.I (.ptr [.fn wI []])]:=by
 refine cC ?_;simp only[Xh];have w:IntKind.i64.wrap (n-1)=n-1:=by rw[eA _]
 have e:kY n (a,b,k,x)=((decide (0<=a)&&decide (a<=n-1))&&((decide (-1<=b)&&decide (b<=n-1))&&((decide (0<=k)&&decide (k<=9))&&jh x))):=by
  rw[kB,Od];simp only[e3,decide_eq_true_eq,Oe];omega
 rw[e];rcases aD:(decide (0<=a)&&decide (a<=n-1))<;>rcases c2:(decide (-1<=b)&&decide (b<=n-1))<;>rcases c3:(decide (0<=k)&&decide (k<=9))<;>rcases c4:jh x
 all_goals
      refine a9 ?_;repeat' (intro h<;>simp only[h,go_sem,go_sem_proc,hq,Xn,w,aD,c2,c3,c4]<;>try refine av ?_ ?_)
theorem ahE (T:bk)(id:FuncId)(eZ:List Data)(aP:List Data->Option ez)(cE:T id=aW aP)(p:ar->Bool)(l:List ar)(au:(D l)<=1000000)(e4:∀a b k z,(a,b,k,z)∈l->aP (.agg [.int .i64 a,.int .i64 b,.int .i64 k,.int .i64 z]::eZ)=some (.same (.bool (p (a,b,k,z))))):WP T IB (.same (.int .i64 (mm p l))) [.I (.af (l.map bp)),.I (.fn id eZ)]:=by
 refine cC ?_;simp only[IB];simp only[go_sem,go_sem_proc,aj];refine dE [0,1,7] [] (λ(i:Nat) tm mem=>i<=D l/\(∀x∈l.take i,p x=false)/\tm 8=.I (.int .i64 i)) (λi=>D l-i) 0 (by refine⟨fr _,by simp,rfl⟩) ?_;intro vs ms aV aR;simp only[go_sem,go_sem_proc,aj] at aV aR;subst aV aR;rintro i tm mem J hm ⟨L,ef,bW⟩;simp only[go_sem,go_sem_proc,bh] at J hm;obtain⟨ak,E,bC⟩:=J;have lj:∀m:Mem,(eZ.map M.I).mapM (c8 6 m)=some eZ:=λm=>wC (c8 6 m) (λd=>rfl) eZ;rcases dQ (i<D l) with aq|ck
 ·have O:=bs aq;have AJ:=mD aq;have bF:=λh=>Jo (p:=p) ef O h;have gz:=λh=>M7 (p:=p) ef O h;generalize l[i]=x at *;obtain⟨a,b,k,z⟩:=x;have tb:=e4 a b k z AJ;have gZ:decide ((i:Int)<(D l:Int))=true:=dg;have hw:=fW (i:=i) (by omega);rcases ae:p (a,b,k,z)
  ·rw[ae] at tb;simp only[go_sem,go_sem_proc,cE,ak,E,bC,bW,O,gZ,hw,tb,lj,bp,aj,a5,oZ];repeat' (first|refine av ?_ ?_|fail)<;>intro h<;>simp only[h,go_sem,go_sem_proc,cE,ak,E,bC,bW,O,gZ,hw,tb,lj,bp,aj,a5,oZ]
   exact⟨i+1,by omega,by omega,gz ae,rfl⟩
  ·rw[ae] at tb;rw[bF ae];simp only[go_sem,go_sem_proc,cE,ak,E,bC,bW,O,gZ,hw,tb,lj,bp,aj,a5,oZ];repeat' (first|refine av ?_ ?_|fail)<;>intro h<;>simp only[h,go_sem,go_sem_proc,cE,ak,E,bC,bW,O,gZ,hw,tb,lj,bp,aj,a5,oZ]
 ·have gZ:decide ((i:Int)<(D l:Int))=false:=c1;obtain rfl:i=D l:=by omega
  rw[oA] at ef;rw[M5 ef];simp only[go_sem,go_sem_proc,ak,E,bC,bW,gZ,aj];repeat' (first|refine av ?_ ?_|fail)<;>intro h<;>simp only[h,go_sem,go_sem_proc,ak,E,bC,bW,gZ,aj]
inductive xF where
 |right (n:Int)
 |day (cash:List Int)
 |hold (n:Int)
def tc:xF->Data
 |.right n => .fn Is [.ptr [.fn tM []],.ptr [.int .i64 n]]
 |.day cash => .fn aaO [.ptr [.af (cash.map ad)]]
 |.hold n => .fn Ix [.ptr [.int .i64 n],.ptr [.fn wI []]]
theorem avg:∀a b:xF,tc a=tc b->a=b:=by
 rintro (n|c|n) (Og|c'|Og) e
 all_goals first|(simp[tc,Is,aaO,Ix] at e;done)|skip
 ·simp only[tc,Data.fn.injEq,bh,Data.ptr.injEq,Data.int.injEq,and_true,true_and] at e;rw[e]
 ·simp only[tc,Data.fn.injEq,bh,Data.ptr.injEq,Data.af.injEq,and_true,true_and] at e;rw[map_inj g7 _ _ e]
 ·simp only[tc,Data.fn.injEq,bh,Data.ptr.injEq,Data.int.injEq,and_true,true_and] at e;rw[e]
def Xq:xF->Int
 |.right n=>n
 |.day cash=>D cash
 |.hold n=>n
def xG (c:xF)(x:ar):Bool:=!kY (Xq c) x
def GG:xF->Prop
 |.day _=>False
 |c=>0<=Xq c/\Xq c<=1000000
abbrev O1:(List ar)×xF->List Data:=λ(l,c)=>[.af (l.map bp),tc c]
def Xr:=cy O1 λ(l,c)=>cT (D l<=1000000/\GG c) (.same (.int .i64 (mm (xG c) l)))
theorem ahF:∀a b,O1 a=O1 b->a=b:=by
  rintro⟨eB,aD⟩ ⟨al,c2⟩ h;simp only[bh,Data.af.injEq,and_true] at h;exact eS (map_inj zf _ _ h.1) (avg _ _ h.2)
@[go_sem] theorem aDV (l:List ar)(c:xF)(G:(D l)<=1000000/\GG c):Xr [.af (l.map bp),tc c]=some (.same (.int .i64 (mm (xG c) l))):=(cI ahF (l,c)).trans (cY G _)
theorem avh (T:bk)(avi:T Is=aW WI)(avj:T Ix=aW Xp)(l:List ar)(c:xF)(G:(D l)<=1000000/\GG c):WP T IB (.same (.int .i64 (mm (xG c) l))) [.I (.af (l.map bp)),.I (tc c)]:=by
 refine cC ?_;simp only[IB];obtain⟨au,cX⟩:=G
 cases c with
 |right n=>exact KA (ahE T _ _ _ avi (xG (.right n)) l au λa b k z _=>atw a b k z n cX)
 |day cash=>exact False.elim cX
 |hold n=>exact KA (ahE T _ _ _ avj (xG (.hold n)) l au λa b k z _=>ave a b k z n cX)
def O2:=cy O1 λ(l,c)=>cT (D l<=1000000/\GG c) (.same (.bool (l.any (xG c))))
@[go_sem] theorem ahG (l:List ar)(c:xF)(G:(D l)<=1000000/\GG c):O2 [.af (l.map bp),tc c]=some (.same (.bool (l.any (xG c)))):=(cI ahF (l,c)).trans (cY G _)
theorem avk (T:bk)(avl:T Rt=aW Xr)(l:List ar)(c:xF)(G:(D l)<=1000000/\GG c):WP T R7 (.same (.bool (l.any (xG c)))) [.I (.af (l.map bp)),.I (tc c)]:=by
 refine cC ?_;simp only[R7];rw[<-M6];refine a9 ?_;repeat' (intro h<;>simp only[h,go_sem,go_sem_proc,avl,G]<;>try refine av ?_ ?_)
theorem O3 {α:Type}(l:List α)(p:α->Bool):l.any (λx => !p x) = !l.all p:=by
 induction l with
 |nil=>rfl
 |cons a l ay=>rw[List.any_cons,List.all_cons,ay];cases p a<;>rfl
abbrev GH:(List Int)×(List ar)->List Data:=λ(cash,cs)=>[.af (cash.map ad),.af (cs.map bp)]
def Xs:=cy GH λ(cash,cs)=>cT (D cash<=1000000/\D cs<=1000000) (.same (.bool (gR cash cs)))
theorem O4:∀a b,GH a=GH b->a=b:=by
  rintro⟨O5,KB⟩ ⟨O6,wx⟩ h;simp only[bh,Data.af.injEq,and_true] at h;exact eS (map_inj g7 _ _ h.1) (map_inj zf _ _ h.2)
@[go_sem] theorem aDW (cash:List Int)(cs:List ar)(G:(D cash)<=1000000/\D cs<=1000000):Xs [.af (cash.map ad),.af (cs.map bp)]=some (.same (.bool (gR cash cs))):=(cI O4 (cash,cs)).trans (cY G _)
theorem avm (T:bk)(Xt:T It=aW O0)(Xu:T Iu=aW O2)(cash:List Int)(cs:List ar)(G:(D cash)<=1000000/\D cs<=1000000):WP T TE (.same (.bool (gR cash cs))) [.I (.af (cash.map ad)),.I (.af (cs.map bp))]:=by
 refine cC ?_;simp only[TE];obtain⟨E,H⟩:=G;rw[Wm];have dj:=ahD cash .right ⟨E,trivial⟩;have fi:=ahG cs (.right (D cash)) ⟨H,by show (0:Int)<=(D cash:Int);omega,by show (D cash:Int)<=1000000;omega⟩
 have aw:cash.any (r0 .right) = !cash.all jh:=O3 cash jh;have aC:cs.any (xG (.right (D cash))) = !cs.all (kY (D cash)):=O3 cs _;rw[aw] at dj;rw[aC] at fi;simp only[uH] at dj;simp only[tc] at fi;have d1:decide (D cash<=60)=decide ((D cash:Int)<=60):=by rw[kB,decide_eq_true_iff,decide_eq_true_iff];omega
 have d2:decide (D cs<=2000)=decide ((D cs:Int)<=2000):=by rw[kB,decide_eq_true_iff,decide_eq_true_iff];omega
 rw[d1,d2];rcases fF:decide ((D cash:Int)<=60)<;>rcases eY:decide ((D cs:Int)<=2000)<;>rcases jC:cash.all jh<;>rcases iD:cs.all (kY (D cash))
 all_goals rw[jC] at dj
 all_goals rw[iD] at fi
 all_goals
      refine a9 ?_;repeat' (intro h<;>simp only[h,go_sem,go_sem_proc,Xt,Xu,dj,fi,fF,eY,aj,ca,cv,Bool.and_true,hy,c8,v5,Option.bind_none,scalar]<;>try refine av ?_ ?_)
def qh (l:List ar)(r:Int):Int:=cq l λc=>if c.2.2.1<r then c.2.2.2 else 0
def gv (l:List ar)(r:Int):Int:=cq l λc=>if c.2.2.1=r then c.2.2.2 else 0
theorem ahH (l:List ar)(r:Int):qh l (r+1)=qh l r+gv l r:=by
 unfold qh gv;rw[<-Wy];refine F6 λc _=>?_
 by_cases E:c.2.2.1<r
 ·rw[Z E,Z (by omega),aa (by omega)];omega
 ·by_cases H:c.2.2.1=r
  ·rw[Z (by omega),aa E,Z H];omega
  ·rw[aa (by omega),aa E,aa H];rfl
def gL (l:List ar)(x:Rat)(k:Nat):Rat:=pos (x-((qh l k:Int):Rat))
theorem lz.Xv {l:List ar}(h:lz l)(r:Int):0<=gv l r/\gv l r<=12000000000000000:=h.bound λc=>c.2.2.1=r
theorem lz.avn {l:List ar}(h:lz l)(r:Int):0<=qh l r/\qh l r<=12000000000000000:=h.bound λc=>c.2.2.1<r
theorem avo (l:List ar)(x:Rat)(k:Nat):0<=gL l x k:=CL _
theorem avp {l:List ar}(h:lz l){x:Rat}(O:0<=x):gL l x 0=x:=by
 have:qh l (0:Nat)=0:=by
  unfold qh
  have:(cq l λc=>if c.2.2.1<((0:Nat):Int) then c.2.2.2 else 0)=cq l λ_=>0:=F6 λc G=>by
   have:=(h.c c G).2.2.2.2.1;rw[aa (by omega)]
  rw[this];clear h this
  induction l with
  |nil=>rfl
  |cons c l ay=>simp only[cq,ay];omega
 unfold gL;rw[this,xu]<;>grind
theorem avq {l:List ar}(h:lz l){x:Rat}{k:Nat}(he:((gv l k:Int):Rat)<=gL l x k):gL l x (k+1)=gL l x k-((gv l k:Int):Rat):=by
 have E:=ahH l k;have ak:=(h.Xv k).1;have aDX:(0:Rat)<=((gv l k:Int):Rat):=by exact_mod_cast ak
 unfold gL at *;rw[show ((k+1:Nat):Int)=(k:Int)+1 by omega,E,xv]
 by_cases aB:x-((qh l k:Int):Rat)<=0
 ·have aw:=uo aB;rw[aw] at he ⊢;rw[uo (by grind)];grind
 ·have aw:=xu (x:=x-((qh l k:Int):Rat)) (by grind);rw[aw] at he ⊢;rw[xu (by grind)];grind
theorem avr {l:List ar}{x:Rat}{k:Nat}(he:¬ ((gv l k:Int):Rat)<=gL l x k):gL l x (k+1)=0:=by
 have E:=ahH l k;have H:=NN (x-((qh l k:Int):Rat));unfold gL at *;rw[show ((k+1:Nat):Int)=(k:Int)+1 by omega,E,xv,uo (by grind)]
section
variable {l:List ar} (h:lz l) {x:Rat} {k:Nat} {c:ar} (G:c∈l) (J:c.2.2.1=k)
include h G J
theorem ahI:cr l c.1 c.2.2.1=qh l k/\jR l c.1 c.2.2.1=gv l k:=by
 rw[J];exact⟨(h.less G k).symm,(h.same G k).symm⟩
theorem avs (he:((gv l k:Int):Rat)<=gL l x k):gn l x c=(c.2.2.2:Rat):=by
 obtain⟨aw,aC⟩:=ahI h G J;have aG:∀c∈l,0<=c.2.2.2:=λc G=>(h.c c G).2.2.2.2.2.2.1
 by_cases aB:x-((qh l k:Int):Rat)<=0
 ·have ak:gL l x k=0:=uo aB;rw[ak] at he;have cB:gv l k<=0:=by exact_mod_cast he
  have a1:=Wz aG G;rw[aC] at a1;have aDY:=aG c G;rw[afU aG G (by rw[aw];exact aB),show c.2.2.2=0 by omega];rfl
 ·refine as4 ?_;rw[aw,aC];unfold gL at he;rwa [xu (by grind)] at he
theorem avt (he:¬ ((gv l k:Int):Rat)<=gL l x k):gn l x c=(c.2.2.2:Rat)*gL l x k/((gv l k:Int):Rat):=by
 obtain⟨aw,aC⟩:=ahI h G J;have aG:∀c∈l,0<=c.2.2.2:=λc G=>(h.c c G).2.2.2.2.2.2.1
 by_cases aB:x-((qh l k:Int):Rat)<=0
 ·have ak:gL l x k=0:=uo aB;rw[afU aG G (by rw[aw];exact aB),ak,nA,za,zb]
 ·have ak:gL l x k=x-((qh l k:Int):Rat):=xu (by grind);rw[afV (by rw[aw];grind) (by rw[aw,aC,<-ak];grind),aw,aC,ak]
end
theorem ahJ {l:List ar}{x:Rat}(h:Kf l x)(k:Nat):eI 515 (gL l x k):=by
 have fQ:=h.own.avn k;unfold gL pos
 split
 ·exact (show eI 1 0 from⟨by decide,by decide⟩).mono (by omega)
 ·rw[Rat.sub_eq_add_neg];exact (aex h.sz (CT (Ge (z:=qh l k) (b:=54) (by omega)))).mono (by omega)
def Xw:=cy Kj λ(x,a,b)=>some (.same (.bool (decide (a<=x)&&decide (x<=b))))
@[go_sem] theorem aDZ (x:Int)(a:Int)(b:Int):Xw [.int .i64 x,.int .i64 a,.int .i64 b]=some (.same (.bool (decide (a<=x)&&decide (x<=b)))):=cI WB (x,a,b)
theorem avu (T:bk)  (x:Int) (a:Int) (b:Int):WP T Wg (.same (.bool (decide (a<=x)&&decide (x<=b)))) [.I (.int .i64 x),.I (.int .i64 a),.I (.int .i64 b)]:=by
 refine cC ?_;simp only[Wg];rcases aD:decide (a<=x)
 ·have c2:decide (x>=a)=false:=aD;refine a9 ?_;repeat' (intro h<;>simp only[h,go_sem,go_sem_proc,aD,c2,fC]<;>try refine av ?_ ?_)
 ·have c2:decide (x>=a)=true:=aD;refine a9 ?_;repeat' (intro h<;>simp only[h,go_sem,go_sem_proc,aD,c2,hP]<;>try refine av ?_ ?_)
abbrev O7:List ar->List Data:=λ(l:List ar)=>[.af (l.map bp)]
def Xx:=cy O7 λ(l:List ar)=>cT (lz l) (.same (.bool true))
theorem ahK:∀a b,O7 a=O7 b->a=b:=by
  intro eB al h;simp only[bh,Data.af.injEq,and_true] at h;exact map_inj zf _ _ h
@[go_sem] theorem aD0 (l:List ar)(G:lz l):Xx [.af (l.map bp)]=some (.same (.bool true)):=(cI ahK l).trans (cY G _)
theorem avv (T:bk)(KC:T Ev=aW Xw)(l:List ar)(G:lz l):WP T We (.same (.bool true)) [.I (.af (l.map bp))]:=by
 refine cC ?_;simp only[We];have au:=G.len;simp only[go_sem,go_sem_proc,KC,aj];refine dE [0,5,6] [] (λ(i:Nat) tm mem=>i<=D l/\tm 7=.I (.int .i64 i)) (λi=>D l-i) 0 (by refine⟨by omega,rfl⟩) ?_;intro vs ms aV aR;simp only[go_sem,go_sem_proc,KC,aj] at aV aR;subst aV aR;rintro i tm mem J hm ⟨L,bC⟩;simp only[go_sem,go_sem_proc,KC,bh] at J hm;obtain⟨ak,bl,bI⟩:=J;rcases dQ (i<D l) with aq|ck
 ·have d1:decide ((i:Int)<(D l:Int))=true:=dg;have cf:=fW (i:=i) (by omega);obtain⟨⟨aD,c2,c3,c4⟩,O⟩:∃c,l[i]?=some c:=⟨_,bs aq⟩;obtain⟨⟨db,dH,fk,fM⟩,fE⟩:∃c,l[0]?=some c:=⟨_,bs (by omega)⟩;have mI:=G.c _ (eL O);have Bz:=G.one _ (eL O) _ (eL fE);dsimp only at mI Bz;subst Bz;have fF:(decide (0<=aD)&&decide (aD<=59))=true:=by simp only[e3,decide_eq_true_eq];omega
  have eY:(decide (-1<=c2)&&decide (c2<=59))=true:=by simp only[e3,decide_eq_true_eq];omega
  have jC:(decide (0<=c3)&&decide (c3<=9))=true:=by simp only[e3,decide_eq_true_eq];omega
  have iD:(decide (0<=c4)&&decide (c4<=1000000000000000))=true:=by simp only[e3,decide_eq_true_eq];omega
  refine a9 ?_;repeat' (intro h<;>simp only[h,go_sem,go_sem_proc,KC,ak,bl,bI,bC,O,fE,d1,cf,fF,eY,jC,iD,bp,bne,beq_self_eq_true,ca,aj,a5]<;>try refine av ?_ ?_)
  exact⟨i+1,by omega,by omega,rfl⟩
 ·have d1:decide ((i:Int)<(D l:Int))=false:=c1;have d2:decide ((D l:Int)<=2000)=true:=dg;refine a9 ?_;repeat' (intro h<;>simp only[h,go_sem,go_sem_proc,KC,ak,bl,bI,bC,d1,d2,aj]<;>try refine av ?_ ?_)
theorem avw (T:bk){K:ev->a2->Prop}{kk:List fV}(l:List ar)(au:lz l)(k:Nat)(v1 v6 qZ:M)(Df:M)(b5 my ahL:Option (Nat×List M))(tm:Nat->M)(m:Mem)
  (aw:tm 1=v1) (bQ:tm 6=v6) (cg:tm 7=qZ) (dR:tm 8=.I (.int .i64 k)) (fY:tm 9=.I (.int .i64 0)) (m9:tm 37=Df) (GI:tm 40=.I (.af (l.map bp))) (GJ:tm 41=.I (.int .i64 (D l))) (GK:tm 42=.I (.int .i64 0)) (cn:m 249002=b5) (kD:m 249007=my) (nJ:m 249035=ahL)
  (du:∀tm' m',tm' 1=v1->tm' 6=v6->tm' 7=qZ->tm' 8=.I (.int .i64 k)->tm' 9=.I (.int .i64 (gv l k))->tm' 37=Df->m' 249002=b5->m' 249007=my->m' 249035=ahL->b8 T K kk (.exit 2) ⟨tm',m'⟩) :
  wp T (CY.body.sub [1,1,1,1,0,1,0,0,1,1,0,0,1,1,0,1,0]) (b8 T K kk) ⟨tm,m⟩:=by
 simp only[CY,dZ.sub];have ae:=λt=>au.cs.sum (λc=>c.2.2.1=(k:Int)) t;have hlen:=au.len;refine dE [1,6,7,8,37,40,41] [249002,249007,249035] (λ(t:Nat) tm m=>t<=D l/\tm 42=.I (.int .i64 t)/\tm 9=.I (.int .i64 (gv (l.take t) k))) (λt=>D l-t) 0 (by refine⟨by omega,GK,fY⟩) ?_;intro vs ms aV aR;simp only[go_sem,go_sem_proc,aw,bQ,cg,dR,m9,GI,GJ,cn,kD,nJ] at aV aR;subst aV aR;clear aw bQ cg dR fY m9 GI GJ GK cn kD nJ tm m;rintro t tm m J hm ⟨bJ,GK,fY⟩;simp only[go_sem,go_sem_proc,bh] at J hm;obtain⟨aw,bQ,cg,dR,m9,GI,GJ⟩:=J;obtain⟨cn,kD,nJ⟩:=hm;rcases dQ (t<D l) with aq|ck
 ·have d1:decide ((t:Int)<(D l:Int))=true:=dg;have cf:=fW (i:=t) (by omega);obtain⟨⟨aD,c2,c3,c4⟩,O⟩:∃c,l[t]?=some c:=⟨_,bs aq⟩
  have ey:gv (l.take (t+1)) k=gv (l.take t) k+if c3=(k:Int) then c4 else 0:=by
   unfold gv;rw[asA O]
  have E:=ae t;have H:=ae (t+1);have abF:gv (l.take t) k=cq (l.take t) λc=>if c.2.2.1=(k:Int) then c.2.2.2 else 0:=rfl;have avx:gv (l.take (t+1)) k=cq (l.take (t+1)) λc=>if c.2.2.1=(k:Int) then c.2.2.2 else 0:=rfl;rw[<-abF] at E;rw[<-avx] at H;rcases q:(c3==(k:Int))
  ·rw[aa (by have:=ne_of_beq_false q;omega),tV] at ey;refine a9 ?_;repeat' (intro h<;>simp only[h,go_sem,go_sem_proc,aw,bQ,cg,dR,fY,m9,GI,GJ,GK,cn,kD,nJ,O,d1,cf,q,bp,aj,a5]<;>try refine av ?_ ?_)
   exact⟨t+1,by omega,by omega,rfl,by rw[ey]⟩
  ·rw[Z (by have:=eq_of_beq q;omega)] at ey;have Kp:IntKind.i64.wrap (gv (l.take t) k+c4)=gv (l.take (t+1)) k:=by rw[ey,wrap64 _ (by omega) (by omega)]
   refine a9 ?_;repeat' (intro h<;>simp only[h,go_sem,go_sem_proc,aw,bQ,cg,dR,fY,m9,GI,GJ,GK,cn,kD,nJ,O,d1,cf,q,Kp,bp,aj,a5]<;>try refine av ?_ ?_)
   exact⟨t+1,by omega,by omega,rfl,rfl⟩
 ·have d1:decide ((t:Int)<(D l:Int))=false:=c1;rw[dD (by omega)] at fY;refine a9 ?_;repeat' (intro h<;>simp only[h,go_sem,go_sem_proc,aw,bQ,cg,dR,fY,m9,GI,GJ,GK,d1]<;>try refine av ?_ ?_)
  refine du _ _ ?_ ?_ ?_ ?_ ?_ ?_ cn kD nJ<;>simp only[eQ,dA,if_false,aw,bQ,cg,dR,fY,m9]
def k3 (l:List ar)(x:Rat)(k t j:Nat):Option bU:=if (l.getD j iF).2.2.1<(k:Int)\/((l.getD j iF).2.2.1=(k:Int)/\j<t) then some (C4 l x j) else none
theorem avy (l:List ar)(h:lz l)(x:Rat):(bu (D l) λj=>k3 l x 0 0 j)=bu (D l) λ_=>none:=j9 λj ai=>by
 have:=(h.c _ (eL (bs ai))).2.2.2.2.1;have e:l.getD j iF=l[j]:=by rw[dY,bs ai];rfl
 unfold k3;rw[e,aa (by omega)]
theorem avz (l:List ar)(x:Rat)(k:Nat):(bu (D l) λj=>k3 l x k (D l) j)=bu (D l) λj=>k3 l x (k+1) 0 j:=j9 λj ai=>by
 unfold k3
 by_cases h:(l.getD j iF).2.2.1<((k+1:Nat):Int)
 ·rw[Z (by omega),Z (.inl h)]
 ·rw[aa (by omega),aa (by omega)]
theorem avA (l:List ar)(h:lz l)(x:Rat):(bu (D l) λj=>k3 l x 10 0 j)=bu (D l) λj=>some (C4 l x j):=j9 λj ai=>by
 have:=(h.c _ (eL (bs ai))).2.2.2.2.2.1;have e:l.getD j iF=l[j]:=by rw[dY,bs ai];rfl
 unfold k3;rw[e,Z (.inl (by omega))]
theorem O8 {n:Int}(h:dv n):Ka [.int .i64 n]=some (.same (.agg (aL (aE (n:Rat))))):=asC n h
theorem avB (T:bk)(q1:T wH=aW Ka)(lr:T u4=aW w5)(oG:T BS=aW Cs){K:ev->a2->Prop}{kk:List fV}(l:List ar)(x:Rat)(kQ:Kf l x)(k:Nat)(bA kJ:Nat)(v1 Df:M)(b5:Option (Nat×List M))(tm:Nat->M)(m:Mem)
  (aw:tm 1=v1) (bQ:tm 6=.ref 249035 bA 4 0 (D l)) (cg:tm 7=.ptr 249007 kJ 0) (dR:tm 8=.I (.int .i64 k)) (fY:tm 9=.I (.int .i64 (gv l k))) (ij:tm 12=.I (.bool (decide (((gv l k:Int):Rat)<=gL l x k)))) (m9:tm 37=Df) (jT:tm 60=.I (.af (l.map bp))) (rZ:tm 61=.I (.int .i64 (D l))) (Dg:tm 62=.I (.int .i64 0)) (cn:m 249002=b5) (kD:m 249007=some (kJ,(aL (aE (gL l x k))).map .I)) (nJ:m 249035=some (bA,lA qc (bu (D l) λj=>k3 l x k 0 j)))
  (du:∀tm' m',tm' 1=v1->tm' 6=.ref 249035 bA 4 0 (D l)->tm' 7=.ptr 249007 kJ 0->tm' 9=.I (.int .i64 (gv l k))->tm' 12=.I (.bool (decide (((gv l k:Int):Rat)<=gL l x k)))->tm' 37=Df->m' 249002=b5->m' 249007=some (kJ,(aL (aE (gL l x k))).map .I)->m' 249035=some (bA,lA qc (bu (D l) λj=>k3 l x (k+1) 0 j))->b8 T K kk (.exit 4) ⟨tm',m'⟩) :
  wp T (CY.body.sub [1,1,1,1,0,1,0,0,1,1,0,0,1,1,1,1,0,1,0]) (b8 T K kk) ⟨tm,m⟩:=by
 simp only[CY,dZ.sub];have how:=kQ.own;have hlen:=how.len;refine dE [1,6,7,8,9,12,37,60,61] [249002,249007] (λ(t:Nat) tm m=>t<=D l/\tm 62=.I (.int .i64 t)/\m 249035=some (bA,lA qc (bu (D l) λj=>k3 l x k t j))) (λt=>D l-t) 0 (by refine⟨by omega,Dg,nJ⟩) ?_;intro vs ms aV aR;simp only[go_sem,go_sem_proc,aw,bQ,cg,dR,fY,ij,m9,jT,rZ,cn,kD] at aV aR;subst aV aR;clear aw bQ cg dR fY ij m9 jT rZ Dg cn kD nJ tm m;rintro t tm m J hm ⟨bJ,Dg,nJ⟩;simp only[go_sem,go_sem_proc,bh] at J hm;obtain⟨aw,bQ,cg,dR,fY,ij,m9,jT,rZ⟩:=J;obtain⟨cn,kD⟩:=hm;rcases dQ (t<D l) with aq|ck
 ·have d1:decide ((t:Int)<(D l:Int))=true:=dg;have cf:=fW (i:=t) (by omega);obtain⟨⟨aD,c2,c3,c4⟩,O⟩:∃c,l[t]?=some c:=⟨_,bs aq⟩;have gA:=eL O;have nR:=how.c _ gA;dsimp only at nR;have uP:l.getD t iF=(aD,c2,c3,c4):=by rw[dY,O];rfl
  have KD:=Ww (q:=λj=>k3 l x k t j) aq;rcases q:(c3==(k:Int))
  ·have bN:c3≠(k:Int):=ne_of_beq_false q
   have gz:(bu (D l) λj=>k3 l x k (t+1) j)=bu (D l) λj=>k3 l x k t j:=j9 λj _=>by
    unfold k3
    by_cases ai:j=t
    ·subst ai;rw[uP];dsimp only
     by_cases E:c3<(k:Int)
     ·rw[Z (.inl E),Z (.inl E)]
     ·rw[aa (by omega),aa (by omega)]
    ·by_cases E:(l.getD j iF).2.2.1<(k:Int)\/((l.getD j iF).2.2.1=(k:Int)/\j<t)
     ·rw[Z E,Z (by omega)]
     ·rw[aa E,aa (by omega)]
   refine a9 ?_;repeat' (intro h<;>simp only[h,go_sem,go_sem_proc,aw,bQ,cg,dR,fY,ij,m9,jT,rZ,Dg,cn,kD,O,d1,cf,q,bp,bne,cv,aj,a5]<;>try refine av ?_ ?_)
   exact⟨t+1,by omega,by omega,rfl,by rw[gz];exact nJ⟩
  ·have Xy:c3=(k:Int):=eq_of_beq q;have pg:=λa b c d=>Wx (q:=λj=>k3 l x k t j) aq a b c d
   have tA:∀aP:bU,aP=C4 l x t->(bu (D l) λj=>if j=t then some aP else k3 l x k t j)=bu (D l) λj=>k3 l x k (t+1) j:=by
    intro aP e4;refine j9 λj _=>?_
    by_cases ai:j=t
    ·subst ai;rw[Z rfl];unfold k3;rw[uP,Z (.inr ⟨Xy,by omega⟩),e4]
    ·rw[aa ai];unfold k3
     by_cases E:(l.getD j iF).2.2.1<(k:Int)\/((l.getD j iF).2.2.1=(k:Int)/\j<t)
     ·rw[Z E,Z (by omega)]
     ·rw[aa E,aa (by omega)]
   have ahM:C4 l x t=aE (gn l x (aD,c2,c3,c4)):=by unfold C4;rw[uP]
   have KE:dv c4:=oK (by omega) (by omega);have O9:=O8 KE;rcases dc:decide (((gv l k:Int):Rat)<=gL l x k)
   ·have avC:=of_decide_eq_false dc;have avD:=how.Xv k;have GL:dv (gv l k):=oK (by omega) (by omega);have Dh:=O8 GL;have Ba:=ahJ kQ k;have Pa:eI 54 ((c4:Int):Rat):=Ge (by omega);have Pb:eI 54 ((gv l k:Int):Rat):=Ge (by omega);have avE:((gv l k:Int):Rat)≠0:=by have:=avo l x k;grind
    have f1:=afz (qd KE) (k1 Ba (by omega)) (VX Pa Ba (by omega));have f2:=asM (k1 (NZ Pa Ba) (by omega)) (qd GL) avE (aeu (NZ Pa Ba) Pb (by omega));have m5:=avt how gA Xy avC;dsimp only at m5;have avF:=λa b c d=>Wx (q:=λj=>if j=t then some ((a,b),(c,d)) else k3 l x k t j) aq;have avG:=λa b c d=>Ww (q:=λj=>if j=t then some ((a,b),(c,d)) else k3 l x k t j) aq;have aG:=tA (aE (((c4:Int):Rat)*gL l x k/((gv l k:Int):Rat))) (by rw[ahM,m5])
    have avH:∀aP ahN:bU,(bu (D l) λj=>if j=t then some aP else if j=t then some ahN else k3 l x k t j)=bu (D l) λj=>if j=t then some aP else k3 l x k t j:=λaP ahN=>j9 λj _=>by
     by_cases ai:j=t
     ·rw[Z ai,Z ai]
     ·rw[aa ai,aa ai,aa ai]
    clear Ba Pa Pb;generalize aE (((c4:Int):Rat)*gL l x k/((gv l k:Int):Rat))=G1 at *;generalize aE (((c4:Int):Rat)*gL l x k)=G2 at *;generalize aE ((gv l k:Int):Rat)=G3 at *;generalize Xz:aE (gL l x k)=G4 at *;generalize aE ((c4:Int):Rat)=G5 at *;obtain⟨⟨cF,cQ⟩,⟨h0,kV⟩⟩:=G1;obtain⟨⟨E,H⟩,⟨ab,aM⟩⟩:=G2;obtain⟨⟨i1,i2⟩,⟨i3,i4⟩⟩:=G3;obtain⟨⟨KF,aD1⟩,⟨aD2,Nt⟩⟩:=G4;obtain⟨⟨ht,jI⟩,⟨vP,vv⟩⟩:=G5;simp only[aL,e5,cl] at O9 Dh f1 f2 kD;have ey:=pg ht jI vP vv;have Oa:=avF ht jI vP vv cF cQ h0 kV;have avI:=avG ht jI vP vv;rw[avH,aG] at Oa;refine a9 ?_;repeat' (intro h<;>simp only[h,go_sem,go_sem_proc,q1,lr,oG,aw,bQ,cg,dR,fY,ij,m9,jT,rZ,Dg,cn,kD,nJ,O,d1,cf,aq,q,dc,O9,Dh,f1,f2,KD,avI,ey,Oa,bp,aj,a5,bne,beq_self_eq_true,ca,cv]<;>try refine av ?_ ?_)
    exact⟨t+1,by omega,rfl,by omega,rfl,rfl⟩
   ·have m5:=avs how gA Xy (of_decide_eq_true dc);dsimp only at m5;have aG:=tA (aE ((c4:Int):Rat)) (by rw[ahM,m5]);generalize aE ((c4:Int):Rat)=G5 at *;obtain⟨⟨ht,jI⟩,⟨vP,vv⟩⟩:=G5;simp only[aL] at O9;have ey:=pg ht jI vP vv;rw[aG] at ey;refine a9 ?_;repeat' (intro h<;>simp only[h,go_sem,go_sem_proc,q1,aw,bQ,cg,dR,fY,ij,m9,jT,rZ,Dg,cn,kD,nJ,O,d1,cf,aq,q,dc,O9,KD,ey,bp,aj,a5,bne,beq_self_eq_true,ca,cv]<;>try refine av ?_ ?_)
    exact⟨t+1,by omega,by omega,rfl,rfl⟩
 ·have d1:decide ((t:Int)<(D l:Int))=false:=c1;obtain rfl:t=D l:=by omega
  rw[avz] at nJ;refine a9 ?_;repeat' (intro h<;>simp only[h,go_sem,go_sem_proc,aw,bQ,cg,dR,fY,ij,m9,jT,rZ,Dg,d1]<;>try refine av ?_ ?_)
  refine du _ _ ?_ ?_ ?_ ?_ ?_ ?_ cn kD nJ<;>simp only[eQ,dA,if_false,aw,bQ,cg,fY,ij,m9]
abbrev XA:Rat×(List ar)->List Data:=λ(x,l)=>[.agg (aL (aE x)),.af (l.map bp)]
def XB:=cy XA λ(x,l)=>cT (Kf l x) (.same (.cw [.af ((l.map λc=>aE (gn l x c)).map aL),.int .i64 0]))
theorem avJ:∀a b,XA a=XA b->a=b:=by
  rintro⟨bf,eB⟩ ⟨b5,al⟩ h;simp only[bh,Data.af.injEq,Data.agg.injEq,and_true] at h;exact eS (MR (vo _ _ h.1)) (map_inj zf _ _ h.2)
@[go_sem] theorem avK (x:Rat)(l:List ar)(G:Kf l x):XB [.agg (aL (aE x)),.af (l.map bp)]=some (.same (.cw [.af ((l.map λc=>aE (gn l x c)).map aL),.int .i64 0])):=(cI avJ (x,l)).trans (cY G _)
theorem avL (T:bk)(gJ:T nm=aW yO)(eD:T nn=aW ud)(q1:T wH=aW Ka)(vV:T Rq=aW Xx)(lr:T u4=aW w5)(oG:T BS=aW Cs)(kF:T tH=aW w3)(x:Rat)(l:List ar)(G:Kf l x):WP T CY (.same (.cw [.af ((l.map λc=>aE (gn l x c)).map aL),.int .i64 0])) [.I (.agg (aL (aE x))),.I (.af (l.map bp))]:=by
 refine cC ?_;simp only[CY];have mI:=G;obtain⟨how,fE,zS⟩:=G;have mw:=k1 zS (by omega);have hlen:=how.len;have avM:=N5 mw;have OX:=C0 mw (qd Ke);have KG:decide (kC x ((0:Int):Rat)<0)=false:=by rw[Wo];exact ob (by have:((0:Int):Rat)=0:=rfl;grind)
 have bx:=pc mw;have kQ:=as6 l x;have f0:=O8 Ke;have o2:=avp how fE;have fZ:=avy l how x;have aQ:=afR (D l);rw[<-fZ] at aQ;have wz:(64*D l<=140737488355328)=True:=eq_true (by omega);have AP:(D l<=maxLen)=True:=eq_true (by unfold maxLen;omega);generalize e4:aE x=aP at *;generalize agu:aE ((0:Int):Rat)=xc at *;obtain⟨⟨db,dH⟩,⟨fk,fM⟩⟩:=aP;obtain⟨⟨gj,h7⟩,⟨uC,A7⟩⟩:=xc;simp only[aL] at f0 OX;simp only[go_sem,go_sem_proc,gJ,eD,q1,vV,lr,oG,kF,aL,avM,bx.1,bx.2,f0,OX,KG,how,wz,AP,aQ,aj,ca,cv];refine dE [1,6,7] [249002] (λ(k:Nat) tm m=>k<=10/\tm 37=.I (.int .i64 k)/\m 249007=some (0,(aL (aE (gL l x k))).map .I)/\m 249035=some (0,lA qc (bu (D l) λj=>k3 l x k 0 j))) (λk=>10-k) 0 (by refine⟨by omega,rfl,by rw[o2,e4];rfl,rfl⟩) ?_;intro vs ms aV aR;simp only[go_sem,go_sem_proc,gJ,eD,q1,vV,lr,oG,kF,aL,aj] at aV aR;subst aV aR;rintro k tm m J hm ⟨aD3,m9,kD,nJ⟩;simp only[go_sem,go_sem_proc,gJ,eD,q1,vV,lr,oG,kF,bh] at J hm;obtain⟨aw,bQ,cg⟩:=J;rcases dQ (k<10) with aq|ck
 ·have d1:decide ((k:Int)<10)=true:=dg;have cf:=fW (i:=k) (by omega);simp only[go_sem,go_sem_proc,gJ,eD,q1,vV,lr,oG,kF,aw,bQ,cg,m9,hm,d1,aj];refine avw T l how k (.I (.af (l.map bp))) (.ref 249035 0 4 0 (D l)) (.ptr 249007 0 0) (.I (.int .i64 k)) _ (some (0,(aL (aE (gL l x k))).map .I)) (some (0,lA qc (bu (D l) λj=>k3 l x k 0 j))) _ _ ?_ ?_ ?_ ?_ ?_ ?_ ?_ ?_ ?_ hm kD nJ ?_
  all_goals first|(intro tm' m' cH h8 hG hE mi ahO eY ps ahP)|(simp only[eQ,dA,if_false,if_true,aw,bQ,cg,m9];done)
  have avD:=how.Xv k;have GL:dv (gv l k):=oK (by omega) (by omega);have Dh:=O8 GL;have Ba:=ahJ mI k;have Aw:=k1 Ba (by omega);have Pb:eI 54 ((gv l k:Int):Rat):=Ge (by omega);have lj:=C0 Aw (qd GL);have Ah:decide (kC (gL l x k) ((gv l k:Int):Rat)>=0)=decide (((gv l k:Int):Rat)<=gL l x k):=afC;have ln:=Of Aw (qd GL) (AW Ba (CT Pb) (by omega));have ahQ:=λ(K:ev->a2->Prop) (kk:List fV) bA kJ v1 Df b5 tm m=>avB T q1 lr oG (K:=K) (kk:=kk) l x mI k bA kJ v1 Df b5 tm m;have VV:((gv l k:Int):Rat)<=gL l x k->aE (gL l x (k+1))=aE (gL l x k-((gv l k:Int):Rat)):=λh=>by rw[avq how h]
  have ie:¬ ((gv l k:Int):Rat)<=gL l x k->aE (gL l x (k+1))=((gj,h7),(uC,A7)):=λh=>by rw[avr h,<-agu];rfl
  generalize aE (gL l x k-((gv l k:Int):Rat))=G1 at *;generalize aD4:aE (gL l x k)=G2 at *;generalize aE ((gv l k:Int):Rat)=G3 at *;generalize Xz:aE (gL l x (k+1))=G4 at *;obtain⟨⟨cF,cQ⟩,⟨h0,kV⟩⟩:=G1;obtain⟨⟨E,H⟩,⟨ab,aM⟩⟩:=G2;obtain⟨⟨i1,i2⟩,⟨i3,i4⟩⟩:=G3;simp only[aL,e5,cl] at Dh lj ln ps;simp only[go_sem,go_sem_proc,gJ,eD,q1,vV,lr,oG,kF,cH,h8,hG,hE,mi,ahO,eY,ps,ahP,Dh,lj,Ah,aj];refine ahQ _ _ 0 0 (.I (.af (l.map bp))) (.I (.int .i64 k)) _ _ _ ?_ ?_ ?_ ?_ ?_ ?_ ?_ ?_ ?_ ?_ eY ?_ ahP ?_
  all_goals first|(intro Kv cn KF AE Pc Pf GM Pg ew vW Ph)|(simp only[eQ,dA,if_false,if_true,cH,h8,hG,hE,mi,ahO];done)|(rw[ps];rfl)
  simp only[aL,e5,cl] at vW;clear ahQ;rcases q:decide (((gv l k:Int):Rat)<=gL l x k)
  ·have he:=ie (of_decide_eq_false q);rw[q] at GM;simp only[go_sem,go_sem_proc,gJ,eD,q1,vV,lr,oG,kF,KF,AE,Pc,Pf,GM,Pg,ew,vW,Ph,f0,cf,cv,ca];repeat' (first|refine av ?_ ?_|fail)<;>intro h<;>simp only[h,go_sem,go_sem_proc,gJ,eD,q1,vV,lr,oG,kF,KF,AE,Pc,Pf,GM,Pg,ew,vW,Ph,f0,cf,cv,ca]
   exact⟨k+1,by omega,by omega,rfl,by rw[Xz,he];rfl,rfl⟩
  ·have he:=VV (of_decide_eq_true q);rw[q] at GM;simp only[go_sem,go_sem_proc,gJ,eD,q1,vV,lr,oG,kF,KF,AE,Pc,Pf,GM,Pg,ew,vW,Ph,Dh,ln,cf,bne,beq_self_eq_true,cv,ca];repeat' (first|refine av ?_ ?_|fail)<;>intro h<;>simp only[h,go_sem,go_sem_proc,gJ,eD,q1,vV,lr,oG,kF,KF,AE,Pc,Pf,GM,Pg,ew,vW,Ph,Dh,ln,cf,bne,beq_self_eq_true,cv,ca]
   exact⟨k+1,by omega,by omega,rfl,by rw[Xz,he];rfl,rfl⟩
 ·have d1:decide ((k:Int)<10)=false:=c1;obtain rfl:k=10:=by omega
  rw[avA l how x,kQ,afT] at nJ;have l0:=λ(K:a2->Prop) (st:a2)=>mb (K:=K) (st:=st) mU 6 249035 0 (l.map λc=>aE (gn l x c));rw[aj] at l0;simp only[go_sem,go_sem_proc,gJ,eD,q1,vV,lr,oG,kF,aw,bQ,cg,m9,hm,d1,nJ,l0,aj];repeat' (first|refine av ?_ ?_|fail)<;>intro h<;>simp only[h,go_sem,go_sem_proc,gJ,eD,q1,vV,lr,oG,kF,aw,bQ,cg,m9,hm,d1,nJ,l0,aj]
theorem Pj {fq gE n:Nat}(key:Nat->Nat)(sF:Nat->M)(Pk:∀i,i<n->key i≠fq)(HE:∀i j,i<n->j<n->key i=key j->i=j):∀r d (q:Nat->M) (m:Mem),d+r=n->m fq=some (gE,bu n q)->(∀i,i<d->q i=sF i) ->
  (∀i,d<=i->i<n->q i=sF i\/∃g sz len cs x,q i=.ref (key i) g sz 0 len/\m (key i)=some (g,cs)/\(∀cn:Mem,cn (key i)=some (g,cs)->c8 1 cn (.ref (key i) g sz 0 len)=some x)/\sF i=.I x) ->
  ∃m',r6 m m'/\m' fq=some (gE,bu n sF)/\∀k:Nat,k≠fq->(∀i,i<n->k≠key i)->m' k=m k
 |0,d,q,m,X,E,H,_=>⟨m,.refl m,by rw[E,j9 λi L=>H i (by omega)],λ_ _ _=>rfl⟩
 |r+1,d,q,m,X,E,H,ab=>by
  rcases ab d (bP _) (by omega) with he|⟨g,sz,len,cs,x,aw,aC,cx,dk⟩
  ·obtain⟨m',cH,dc,dV⟩:=Pj key sF Pk HE r (d+1) q m (by omega) E (λi L=>by
    by_cases kl:i=d
    ·rw[kl];exact he
    ·exact H i (by omega)) λi L b9=>ab i (by omega) b9
   exact⟨m',cH,dc,dV⟩
  ·have lh:d<n:=by omega
   have jb:(bu n q)[d]?=some (.ref (key d) g sz 0 len):=by rw[iE q lh,aw]
   have sg:=q8.Lb fq gE _ d (key d) g sz 0 len cs x E jb aC (Pk d lh) (cx m aC);have kN:a3 (kill m (key d)) fq gE ((bu n q).set d (.I x)) fq=some (gE,bu n λj=>if j=d then .I x else q j):=by rw[kK,zh]
   obtain⟨m',cH,dc,dV⟩:=Pj key sF Pk HE r (d+1) (λj=>if j=d then .I x else q j) _ (by omega) kN (λi L=>by
    by_cases kl:i=d
    ·rw[Z kl,kl,dk]
    ·rw[aa kl];exact H i (by omega)) λi L b9=>by
     rw[aa (by omega)];rcases ab i (by omega) b9 with he|⟨dh,dX,Y3,nM,iW,f1,f2,f3,f4⟩
     ·exact .inl he
     ·refine .inr ⟨dh,dX,Y3,nM,iW,f1,?_,f3,f4⟩;rw[dd (Pk i b9)];unfold kill;rw[dd λaS=>by have:=HE i d b9 lh aS;omega]
      exact f2
   refine⟨m',.step sg cH,dc,λk J sk=>?_⟩;rw[dV k J sk,dd J];unfold kill;rw[dd (sk d lh)]
def fN (l:List ar)(i:Nat):List Nat:=(dL (D l)).filter λj=>(l.getD j iF).1==(i:Int)
theorem XC (l:List ar)(c:ar)(i:Nat):fN (l++[c]) i=if c.1=(i:Int) then fN l i++[D l] else fN l i:=by
 unfold fN;have aw:(l++[c]).getD (D l) iF=c:=by rw[dY,rf (bP _),mE];rfl
 have aC:(dL (D l)).filter (λj=>((l++[c]).getD j iF).1==(i:Int))=(dL (D l)).filter λj=>(l.getD j iF).1==(i:Int):=List.filter_congr λj ai=>by
  rw[dY,re (hk.1 ai),<-dY]
 rw[hr,yX,po,ze,aC]
 by_cases h:c.1=(i:Int)
 ·rw[Z h,xx (by rw[aw];simpa using h),s5]
 ·rw[aa h,xy (by rw[aw];simpa using h),s5,h1]
theorem XD {l:List ar}{i j:Nat}:j∈fN l i↔j<D l/\(l.getD j iF).1=(i:Int):=by
 unfold fN;rw[FZ,hk,beq_iff_eq]
theorem XE (l:List ar)(c:ar)(i:Nat):eT (l++[c]) i=if c.1=(i:Int) then eT l i++[c] else eT l i:=by
 unfold eT;rw[ze]
 by_cases h:c.1=(i:Int)
 ·rw[Z h,xx (by simpa using h),s5]
 ·rw[aa h,xy (by simpa using h),s5,h1]
theorem ahR (l:List ar)(i:Nat):eT l i=(fN l i).map λj=>l.getD j iF:=by
 have:∀n (l:List ar),D l=n->eT l i=(fN l i).map λj=>l.getD j iF:=by
  intro n
  induction n with
  |zero =>
   intro l au;have:l=[]:=Bb.1 au;subst this;rfl
  |succ n ay =>
   intro l au;rcases List.eq_nil_or_concat l with ak|⟨fv,c,rfl⟩
   ·subst ak;cases au
   ·rw[List.concat_eq_append] at *;simp only[hr,yX] at au;have aw:(fv++[c]).getD (D fv) iF=c:=by rw[dY,rf (bP _),mE];rfl
    have aC:(fN fv i).map (λj=>(fv++[c]).getD j iF)=(fN fv i).map λj=>fv.getD j iF:=nj λj ai=>by
     rw[dY,re (XD.1 ai).1,<-dY]
    rw[XE,XC]
    by_cases h:c.1=(i:Int)
    ·rw[Z h,Z h,mq,aC,ay fv (by omega)];show _=_++[(fv++[c]).getD (D fv) iF];rw[aw]
    ·rw[aa h,aa h,aC,ay fv (by omega)]
 exact this _ l rfl
theorem Pl (l:List ar)(i:Nat):(fN l i).length=(eT l i).length:=by rw[ahR,aj]
theorem avN (l:List ar)(i:Nat):(fN l i).length<=D l:=by
 unfold fN;exact eF (rU _ _) (by rw[rm];exact bP _)
def la (l:List ar)(gc:Nat->Nat)(i:Nat):M:=if eT l i=[] then .nil else .ref (233600+i) (gc i) 4 0 (eT l i).length
def pp (l:List ar)(gm:Nat->Nat)(i:Nat):M:=if eT l i=[] then .nil else .ref (233700+i) (gm i) 1 0 (eT l i).length
structure GN (n:Nat) (l:List ar) (gc gm:Nat->Nat) (m:Mem):Prop where
 fb:m 233019=some (0,bu n (la l gc))
 ew:m 233022=some (0,bu n (pp l gm))
 cH:∀i,i<n->eT l i≠[]->m (233600+i)=some (gc i,aY bp (eT l i))
 dc:∀i,i<n->eT l i≠[]->m (233700+i)=some (gm i,aY h9 (fN l i))
theorem GN.next {n:Nat}{l:List ar}{gc gm:Nat->Nat}{m m':Mem}(h:GN n l gc gm m)(aG:n<=6){aD:Nat}{c2 c3 c4:Int}(cF cQ:Nat)
  (E:m' 233019=some (0,bu n λi=>if i=aD then .ref (233600+aD) cF 4 0 ((eT l aD).length+1) else la l gc i)) (H:m' 233022=some (0,bu n λi=>if i=aD then .ref (233700+aD) cQ 1 0 ((eT l aD).length+1) else pp l gm i))
  (ab:m' (233600+aD)=some (cF,aY bp (eT l aD++[((aD:Int),c2,c3,c4)]))) (aM:m' (233700+aD)=some (cQ,aY h9 (fN l aD++[D l])))
  (bx:∀i,i<n->i≠aD->m' (233600+i)=m (233600+i)/\m' (233700+i)=m (233700+i)):GN n (l++[((aD:Int),c2,c3,c4)]) (λi=>if i=aD then cF else gc i) (λi=>if i=aD then cQ else gm i) m':=by
 have Pm:∀i:Nat,i≠aD->eT (l++[((aD:Int),c2,c3,c4)]) i=eT l i:=λi L=>by rw[XE,aa (by show ¬ ((aD:Int)=(i:Int));omega)]
 have Ml:∀i:Nat,i≠aD->fN (l++[((aD:Int),c2,c3,c4)]) i=fN l i:=λi L=>by rw[XC,aa (by show ¬ ((aD:Int)=(i:Int));omega)]
 have so:eT (l++[((aD:Int),c2,c3,c4)]) aD=eT l aD++[((aD:Int),c2,c3,c4)]:=by rw[XE,Z rfl]
 have sp:fN (l++[((aD:Int),c2,c3,c4)]) aD=fN l aD++[D l]:=by rw[XC,Z rfl]
 refine⟨?_,?_,λi L bN=>?_,λi L bN=>?_⟩
 ·rw[E]
  congr 2
  refine j9 λi L=>?_;unfold la
  by_cases G:i=aD
  ·subst G;rw[so,Z rfl,aa (by simp),hr];dsimp only;rw[Z rfl];rfl
  ·rw[Pm i G,aa G];dsimp only;rw[aa G]
 ·rw[H]
  congr 2
  refine j9 λi L=>?_;unfold pp
  by_cases G:i=aD
  ·subst G;rw[so,Z rfl,aa (by simp),hr];dsimp only;rw[Z rfl];rfl
  ·rw[Pm i G,aa G];dsimp only;rw[aa G]
 ·by_cases G:i=aD
  ·subst G;rw[Z rfl,so];exact ab
  ·rw[Pm i G] at bN ⊢;rw[aa G,(bx i L G).1];exact h.cH i L bN
 ·by_cases G:i=aD
  ·subst G;rw[Z rfl,sp];exact aM
  ·rw[Pm i G] at bN;rw[Ml i G,aa G,(bx i L G).2];exact h.dc i L bN
structure Bc (cs:List ar) (h:List Rat):Prop where
 len:(D cs)<=12
 n:(D h)<=6
 c:∀c∈cs,0<=c.1/\c.1<(D h) /\ -1<=c.2.1/\c.2.1<60/\0<=c.2.2.1/\c.2.2.1<10/\0<=c.2.2.2/\c.2.2.2<=1000000000000000
 x:∀x∈h,0<=x/\eI 460 x
theorem avO {K:a2->Prop}{tm:Nat->M}{mem Hy mem':Mem}(h:q8 mem Hy)(H:q8 Hy mem')(du:∀a8,a8=mem'->K ⟨tm,a8⟩):kM K ⟨tm,mem⟩ .many:=⟨mem',.step h (.step H (.refl _)),du _ rfl⟩
theorem avP (T:bk){K:ev->a2->Prop}{kk:List fV}(cs:List ar)(h:List Rat)(aB:Bc cs h)(v1:M)(tm:Nat->M)(m:Mem)
  (b6:tm 0=.I (.af (cs.map bp))) (aw:tm 1=v1) (bQ:tm 6=.ref 233019 0 1 0 (D h)) (cg:tm 7=.ref 233022 0 1 0 (D h)) (vX:tm 23=.I (.af (cs.map bp))) (r1:tm 24=.I (.int .i64 (D cs))) (ji:tm 25=.I (.int .i64 0)) (iG:m 233057=none) (gc gm:Nat->Nat) (bF:GN (D h) [] gc gm m)
  (du:∀tm' m' Hz Oi,tm' 0=.I (.af (cs.map bp))->tm' 1=v1->tm' 6=.ref 233019 0 1 0 (D h)->tm' 7=.ref 233022 0 1 0 (D h)->m' 233057=none->GN (D h) cs Hz Oi m'->b8 T K kk (.exit 0) ⟨tm',m'⟩) :
  wp T (Cw.body.sub [1,1,1,0,1,0]) (b8 T K kk) ⟨tm,m⟩:=by
 simp only[Cw,dZ.sub];have aG:=aB.n;have hB:=aB.len;refine dE [0,1,6,7,23,24] [233057] (λ((t,gc,gm):Nat×(Nat->Nat)×(Nat->Nat)) tm m=>t<=D cs/\tm 25=.I (.int .i64 t)/\GN (D h) (cs.take t) gc gm m) (λ(t,_)=>D cs-t) (0,gc,gm) (by refine⟨by omega,ji,by rw[oY];exact bF⟩) ?_;intro vs ms aV aR;simp only[go_sem,go_sem_proc,b6,aw,bQ,cg,vX,r1,iG] at aV aR;subst aV aR;clear b6 aw bQ cg vX r1 ji iG bF tm m;rintro⟨t,gc,gm⟩ tm m J iG ⟨bJ,ji,bF⟩;simp only[go_sem,go_sem_proc,bh] at J iG;obtain⟨b6,aw,bQ,cg,vX,r1⟩:=J;rcases dQ (t<D cs) with aq|ck
 ·have d1:decide ((t:Int)<(D cs:Int))=true:=dg;have cf:=fW (i:=t) (by omega);obtain⟨⟨aD,c2,c3,c4⟩,O⟩:∃c,cs[t]?=some c:=⟨_,bs aq⟩;have mF:=aB.c _ (eL O);dsimp only at mF;obtain⟨aD,rfl⟩:∃k:Nat,aD=(k:Int):=⟨aD.toNat,by omega⟩
  have ll:cs.take (t+1)=cs.take t++[((aD:Int),c2,c3,c4)]:=by rw[ks,O];rfl
  have uj:(cs.take t).length=t:=by rw[hh];omega
  generalize au:cs.take t=l at *;have gy:aD<D h:=by omega
  have fb:=bF.fb;have ew:=bF.ew;have cF:=uD (iE (la l gc) gy);have cQ:=uD (iE (pp l gm) gy);have ht:(bu (D h) (la l gc)).length=D h:=gp _ _;have jI:(bu (D h) (pp l gm)).length=D h:=gp _ _;have s1:=λv=>(OR (l:=bu (D h) (la l gc)) (k:=aD) (v:=v) (by rw[gp];exact gy)).trans (zh (la l gc) v);have s2:=λv=>(OR (l:=bu (D h) (pp l gm)) (k:=aD) (v:=v) (by rw[gp];exact gy)).trans (zh (pp l gm) v);have eB:aD+1<=D h:=by omega
  have hs:(1<=maxLen)=True:=eq_true (by decide);have Lq:(eT l aD).length<=12:=eF (rU _ _) (by omega);have nP:=Pl l aD;have Pn:∀i,i<(D h)->233600+i≠233009/\233600+i≠233019/\233600+i≠233022/\233600+i≠233043/\233600+i≠233051/\233600+i≠233700+aD/\233600+i≠233057:=λi L=>by omega
  have Po:∀i,i<(D h)->233700+i≠233009/\233700+i≠233019/\233700+i≠233022/\233700+i≠233043/\233700+i≠233051/\233700+i≠233600+aD/\233700+i≠233057:=λi L=>by omega
  by_cases hn:eT l aD=[]
  ·have XF:la l gc aD=.nil:=by unfold la;rw[Z hn]
   have XG:pp l gm aD=.nil:=by unfold pp;rw[Z hn]
   have Db:fN l aD=[]:=Bb.1 (by rw[nP,hn];rfl);rw[XF] at cF;rw[XG] at cQ;simp only[go_sem,go_sem_proc,hs,b6,aw,bQ,cg,vX,r1,ji,O,fb,ew,cF,cQ,ht,jI,s1,s2,d1,eB,gy,bp,cM,aj,a5];obtain⟨f11,f12,f13,f14,f15,f16,f17⟩:=Pn aD gy;obtain⟨f21,f22,f23,f24,f25,f26,f27⟩:=Po aD gy
   refine avO (q8.La 233019 0 _ aD 233043 (gh (m 233043)) 4 0 1 _ (233600+aD) ((dd (by decide)).trans kK) ((iE _ gy).trans (by rw[Z rfl])) ((dd (by decide)).trans ((dd (by decide)).trans ((dd (by decide)).trans kK))) (by decide) f14 f12)
    (q8.La 233022 0 _ aD 233051 (gh (m 233051)) 1 0 1 _ (233700+aD) ((dd (by decide)).trans ((dd (Ne.symm f13)).trans ((dd (by decide)).trans kK))) ((iE _ gy).trans (by rw[Z rfl])) ((dd (by decide)).trans ((dd (Ne.symm f15)).trans ((dd (by decide)).trans ((dd (by decide)).trans ((dd (by decide)).trans kK))))) (by decide) f25 f23) ?_
   intro M2 gI
   have m8:∀k:Nat,k≠233009->k≠233019->k≠233022->k≠233043->k≠233051->k≠233600+aD->k≠233700+aD->M2 k=m k:=λk iL vc ry ahS ahT avQ avR=>by
    rw[gI,dd ry,dd avR,dd ahT,dd vc,dd avQ,dd ahS,dd ry,dd vc,dd ahT,dd ahS,dd iL,dd iL]
   obtain⟨Pp,vz,CU⟩:∃Pp,M2 233019=some (0,bu (D h) λi=>if i=aD then .ref (233600+aD) Pp 4 0 ((eT l aD).length+1) else la l gc i)/\M2 (233600+aD)=some (Pp,aY bp (eT l aD++[((aD:Int),c2,c3,c4)])):=by
    rw[hn];apply Exists.intro;apply And.intro
    rotate_left
    ·rw[gI,dd f13,dd f16,dd f15,dd f12,kK];rfl
    ·rw[gI,dd (by decide),dd (Ne.symm f22),dd (by decide),kK,zh]
     congr 2
     refine j9 λi _=>?_
     by_cases L:i=aD
     ·rw[Z L,Z L];rfl
     ·rw[aa L,aa L,aa L]
   obtain⟨Pq,KH,Da⟩:∃Pq,M2 233022=some (0,bu (D h) λi=>if i=aD then .ref (233700+aD) Pq 1 0 ((eT l aD).length+1) else pp l gm i)/\M2 (233700+aD)=some (Pq,aY h9 (fN l aD++[D l])):=by
    rw[hn,Db,uj];apply Exists.intro;apply And.intro
    rotate_left
    ·rw[gI,dd f23,kK];rfl
    ·rw[gI,kK,zh]
     congr 2
     refine j9 λi _=>?_
     by_cases L:i=aD
     ·rw[Z L,Z L];rfl
     ·rw[aa L,aa L,aa L]
   have ig:=bF.next (m':=M2) aG Pp Pq vz KH CU Da λi L bN=>⟨by
    obtain⟨db,dH,fk,fM,n6,rV,-⟩:=Pn i L;exact m8 _ db dH fk fM n6 (by omega) rV,by
    obtain⟨db,dH,fk,fM,n6,rV,-⟩:=Po i L;exact m8 _ db dH fk fM n6 rV (by omega)⟩
   have KI:M2 233057=none:=(m8 233057 (by decide) (by decide) (by decide) (by decide) (by decide) (Ne.symm f17) (Ne.symm f27)).trans iG;clear gI m8 vz CU KH Da;simp only[go_sem,go_sem_proc,b6,aw,bQ,cg,vX,r1,ji,cf,KI];repeat' (first|refine av ?_ ?_|fail)<;>intro h<;>simp only[h,go_sem,go_sem_proc,b6,aw,bQ,cg,vX,r1,ji,cf,KI]
   exact⟨(t+1,_,_),by dsimp only;omega,by dsimp only;omega,rfl,by rw[ll];exact ig⟩
  ·have XF:la l gc aD=.ref (233600+aD) (gc aD) 4 0 (eT l aD).length:=by unfold la;rw[aa hn]
   have XG:pp l gm aD=.ref (233700+aD) (gm aD) 1 0 (fN l aD).length:=by unfold pp;rw[aa hn,nP]
   rw[XF] at cF;rw[XG] at cQ;have cH:=bF.cH aD gy hn;have dc:=bF.dc aD gy hn;have QS:=mK qb Wh (233600+aD) (gc aD) 32 (eT l aD) ((aD:Int),c2,c3,c4) (cs:=[.I (.int .i64 aD),.I (.int .i64 c2),.I (.int .i64 c3),.I (.int .i64 c4)]) rfl (by omega) (by omega);have Ei:=mK xo adr (233700+aD) (gm aD) 8 (fN l aD) (D l) (cs:=[.I (.int .i64 t)]) (by rw[uj];rfl) (by omega) (by omega);obtain⟨f11,f12,f13,f14,f15,f16,f17⟩:=Pn aD gy;obtain⟨f21,f22,f23,f24,f25,f26,f27⟩:=Po aD gy;have aD5:(233600+aD)=233600+aD:=rfl;generalize dj:233600+aD=A at *;generalize fi:233700+aD=B at *;have KJ:A≠B:=f16;have fF:(A==233009)=false:=beq_eq_false_iff_ne.2 f11;have avS:(233009==A)=false:=beq_eq_false_iff_ne.2 (Ne.symm f11);have eY:(A==233019)=false:=beq_eq_false_iff_ne.2 f12;have avT:(233019==A)=false:=beq_eq_false_iff_ne.2 (Ne.symm f12);have jC:(A==233022)=false:=beq_eq_false_iff_ne.2 f13;have avU:(233022==A)=false:=beq_eq_false_iff_ne.2 (Ne.symm f13);have iD:(A==233043)=false:=beq_eq_false_iff_ne.2 f14;have avV:(233043==A)=false:=beq_eq_false_iff_ne.2 (Ne.symm f14);have qi:(A==233051)=false:=beq_eq_false_iff_ne.2 f15;have avW:(233051==A)=false:=beq_eq_false_iff_ne.2 (Ne.symm f15);have AH:(A==B)=false:=beq_eq_false_iff_ne.2 KJ;have avX:(B==A)=false:=beq_eq_false_iff_ne.2 (Ne.symm KJ);have js:(B==233009)=false:=beq_eq_false_iff_ne.2 f21;have avY:(233009==B)=false:=beq_eq_false_iff_ne.2 (Ne.symm f21);have iX:(B==233019)=false:=beq_eq_false_iff_ne.2 f22;have avZ:(233019==B)=false:=beq_eq_false_iff_ne.2 (Ne.symm f22);have p1:(B==233022)=false:=beq_eq_false_iff_ne.2 f23;have av0:(233022==B)=false:=beq_eq_false_iff_ne.2 (Ne.symm f23);have CE:(B==233043)=false:=beq_eq_false_iff_ne.2 f24;have av1:(233043==B)=false:=beq_eq_false_iff_ne.2 (Ne.symm f24);have r2:(B==233051)=false:=beq_eq_false_iff_ne.2 f25;have av2:(233051==B)=false:=beq_eq_false_iff_ne.2 (Ne.symm f25);have bf:(A=233009)=False:=eq_false f11;have b5:(B=233009)=False:=eq_false f21;have cU:(B=A)=False:=eq_false (Ne.symm KJ);have dr:(233019=A)=False:=eq_false (Ne.symm f12);have hJ:(233019=B)=False:=eq_false (Ne.symm f22);have n9:(233022=A)=False:=eq_false (Ne.symm f13);have my:(233022=B)=False:=eq_false (Ne.symm f23);have KK:(233009=A)=False:=eq_false (Ne.symm f11);have av3:(233009=B)=False:=eq_false (Ne.symm f21);have av4:(A=B)=False:=eq_false KJ;simp only[go_sem,go_sem_proc,hs,b6,aw,bQ,cg,vX,r1,ji,O,fb,ew,cF,cQ,ht,jI,s1,s2,d1,eB,gy,cH,dc,QS,Ei,fF,avS,eY,avT,jC,avU,iD,avV,qi,avW,AH,avX,js,avY,iX,avZ,p1,av0,CE,av1,r2,av2,bf,b5,cU,dr,hJ,n9,my,KK,av3,av4,bp,cM,aj,a5];refine W1 ?_;intro M2 gI
   have m8:∀k:Nat,k≠233009->k≠233019->k≠233022->k≠A->k≠B->M2 k=m k:=λk iL vc ry dj fi=>by
    rw[gI,dd ry,dd vc,dd fi,dd dj,dd iL,dd iL]
   have vz:M2 233019=some (0,bu (D h) λi=>if i=aD then .ref A (gc aD+1) 4 0 ((eT l aD).length+1) else la l gc i):=by
    rw[gI,dd (by decide),kK]
   have CU:M2 A=some (gc aD+1,aY bp (eT l aD++[((aD:Int),c2,c3,c4)])):=by
    rw[gI,dd f13,dd f12,dd KJ,kK]
   have KH:M2 233022=some (0,bu (D h) λi=>if i=aD then .ref B (gm aD+1) 1 0 ((eT l aD).length+1) else pp l gm i):=by
    rw[gI,kK,nP]
   have Da:M2 B=some (gm aD+1,aY h9 (fN l aD++[D l])):=by
    rw[gI,dd f23,dd f22,kK]
   have ig:=bF.next (m':=M2) aG (c2:=c2) (c3:=c3) (c4:=c4) (gc aD+1) (gm aD+1) (by rw[dj];exact vz) (by rw[fi];exact KH) (by rw[dj];exact CU) (by rw[fi];exact Da) λi L bN=>⟨by
    obtain⟨db,dH,fk,fM,n6,rV,-⟩:=Pn i L;exact m8 _ db dH fk (by omega) rV,by
    obtain⟨db,dH,fk,fM,n6,rV,-⟩:=Po i L;exact m8 _ db dH fk rV (by omega)⟩
   have KI:M2 233057=none:=(m8 233057 (by decide) (by decide) (by decide) (Ne.symm f17) (Ne.symm f27)).trans iG;clear gI m8 vz CU KH Da;simp only[go_sem,go_sem_proc,b6,aw,bQ,cg,vX,r1,ji,cf,KI];repeat' (first|refine av ?_ ?_|fail)<;>intro h<;>simp only[h,go_sem,go_sem_proc,b6,aw,bQ,cg,vX,r1,ji,cf,KI]
   exact⟨(t+1,_,_),by dsimp only;omega,by dsimp only;omega,rfl,by rw[ll];exact ig⟩
 ·have d1:decide ((t:Int)<(D cs:Int))=false:=c1;rw[dD (by omega)] at bF;simp only[go_sem,go_sem_proc,b6,aw,bQ,cg,vX,r1,ji,d1];repeat' (first|refine av ?_ ?_|fail)<;>intro h<;>simp only[h,go_sem,go_sem_proc,b6,aw,bQ,cg,vX,r1,ji,d1]
  refine du _ _ gc gm ?_ ?_ ?_ ?_ iG bF<;>simp only[eQ,dA,if_false,b6,aw,bQ,cg]
def xH (l:List Nat):M:=if l=[] then .nil else .I (.af (l.map h9))
theorem av5 (l:List Nat):pA (xH l)=some (D l):=by
 unfold xH
 split
 ·rename_i h;rw[h];rfl
 ·simp[pA]
theorem av6 {l:List Nat}{n y:Nat}(h:l[n]?=some y):xW 1 n (xH l)=some (.I (.ptr (h9 y))):=by
 unfold xH
 split
 ·rename_i au;rw[au] at h;cases h
 ·simp only[xW,a5,h,jo]
  rfl
theorem av7 (l:List ar)(n:Nat)(m:Mem):c8 n m (jE l)=some (.af (l.map bp)):=by
 unfold jE
 split
 ·rename_i h;rw[h];exact alL n
 ·exact LO n _
def GO (cs:List ar)(h:List Rat)(j:Nat):bU:=aE (gn cs (h.getD (cs.getD j iF).1.toNat 0) (cs.getD j iF))
def pt (cs:List ar)(h:List Rat)(i t j:Nat):Option bU:=if (cs.getD j iF).1<(i:Int)\/((cs.getD j iF).1=(i:Int)/\j∈(fN cs i).take t) then some (GO cs h j) else none
theorem av8 (cs:List ar)(h:List Rat)(i:Nat):(bu (D cs) λj=>pt cs h i (fN cs i).length j)=bu (D cs) λj=>pt cs h (i+1) 0 j:=j9 λj ai=>by
 unfold pt;rw[oA,oY];have hm:=XD (l:=cs) (i:=i) (j:=j)
 by_cases E:(cs.getD j iF).1<(i:Int)
 ·rw[Z (.inl E),Z (.inl (by omega))]
 ·by_cases H:(cs.getD j iF).1=(i:Int)
  ·rw[Z (.inr ⟨H,hm.2 ⟨ai,H⟩⟩),Z (.inl (by omega))]
  ·rw[aa (λaS=>aS.elim E λx=>H x.1),aa (λaS=>aS.elim (by omega) λx=>by simpa using x.2)]
theorem av9 (cs:List ar)(h:List Rat)(aB:Bc cs h):(bu (D cs) λj=>pt cs h 0 0 j)=bu (D cs) λ_=>none:=j9 λj ai=>by
 have:=(aB.c _ (eL (bs ai))).1;have e:cs.getD j iF=cs[j]:=by rw[dY,bs ai];rfl
 unfold pt;rw[e,oY,aa (λaS=>aS.elim (by omega) λx=>by simpa using x.2)]
theorem awa (cs:List ar)(h:List Rat)(aB:Bc cs h):(bu (D cs) λj=>pt cs h (D h) 0 j)=(cs.map λc=>aE (gn cs (h.getD c.1.toNat 0) c)).map some:=by
 refine (Wv (by simp) λj ai=>?_).symm;have:=(aB.c _ (eL (bs ai))).2.1;have e:cs.getD j iF=cs[j]:=by rw[dY,bs ai];rfl
 unfold pt;rw[a5,a5,bs ai,e,Z (.inl this)];unfold GO;rw[e];rfl
theorem awb (T:bk){K:ev->a2->Prop}{kk:List fV}(cs:List ar)(h:List Rat)(aB:Bc cs h)(i:Nat)(L:i<D h)(v1 qZ ahU ahV ahW:M)(ahX ahY:Option (Nat×List M))(tm:Nat->M)(m:Mem)
  (aw:tm 1=v1) (cg:tm 7=qZ) (fL:tm 10=.ref 233057 0 4 0 (D cs)) (iR:tm 13=.I (.af (((eT cs i).map λc=>aE (gn cs (h.getD i 0) c)).map aL))) (td:tm 58=ahU) (nG:tm 59=ahV) (jT:tm 60=ahW) (Di:tm 79=xH (fN cs i)) (Dj:tm 80=.I (.int .i64 (fN cs i).length)) (Dk:tm 81=.I (.int .i64 0)) (zo:m 233019=ahX) (zp:m 233022=ahY) (iG:m 233057=some (0,lA qc (bu (D cs) λj=>pt cs h i 0 j)))
  (du:∀tm' m',tm' 1=v1->tm' 7=qZ->tm' 10=.ref 233057 0 4 0 (D cs)->tm' 58=ahU->tm' 59=ahV->tm' 60=ahW->m' 233019=ahX->m' 233022=ahY->m' 233057=some (0,lA qc (bu (D cs) λj=>pt cs h (i+1) 0 j))->b8 T K kk (.exit 4) ⟨tm',m'⟩) :
  wp T (Cw.body.sub [1,1,1,1,1,0,1,0,0,1,1,0,0,1,1,1,1,0]) (b8 T K kk) ⟨tm,m⟩:=by
 simp only[Cw,dZ.sub];have hB:=aB.len;have nP:=avN cs i;refine dE [1,7,10,13,58,59,60,79,80] [233019,233022] (λ(k:Nat) tm m=>k<=(fN cs i).length/\tm 81=.I (.int .i64 k)/\m 233057=some (0,lA qc (bu (D cs) λj=>pt cs h i k j))) (λk=>(fN cs i).length-k) 0 (by refine⟨by omega,Dk,iG⟩) ?_;intro vs ms aV aR;simp only[go_sem,go_sem_proc,aw,cg,fL,iR,td,nG,jT,Di,Dj,zo,zp] at aV aR;subst aV aR;clear aw cg fL iR td nG jT Di Dj Dk zo zp iG tm m;rintro k tm m J hm ⟨y1,Dk,iG⟩;simp only[go_sem,go_sem_proc,bh] at J hm;obtain⟨aw,cg,fL,iR,td,nG,jT,Di,Dj⟩:=J;obtain⟨zo,zp⟩:=hm;rcases dQ (k<(fN cs i).length) with aq|ck
 ·have d1:decide ((k:Int)<((fN cs i).length:Int))=true:=dg;have cf:=fW (i:=k) (by omega);obtain⟨y,ao⟩:∃y,(fN cs i)[k]?=some y:=⟨_,bs aq⟩;obtain⟨zE,ahZ⟩:=XD.1 (eL ao);have rK:=av6 ao;simp only[go_sem,go_sem_proc,cM] at rK
  have ah0:((eT cs i).map λc=>aE (gn cs (h.getD i 0) c))[k]?=some (GO cs h y):=by
   rw[ahR,a5,a5,ao];unfold GO;rw[ahZ,gX];rfl
  have KD:=Ww (q:=λj=>pt cs h i k j) zE;have pg:=λa b c d=>Wx (q:=λj=>pt cs h i k j) zE a b c d
  have gz:∀aP:bU,aP=GO cs h y->(bu (D cs) λj=>if j=y then some aP else pt cs h i k j)=bu (D cs) λj=>pt cs h i (k+1) j:=λaP e4=>j9 λj _=>by
   have ll:(fN cs i).take (k+1)=(fN cs i).take k++[y]:=by rw[ks,ao];rfl
   by_cases ai:j=y
   ·subst ai;rw[Z rfl];unfold pt;rw[ll,Z (.inr ⟨ahZ,by simp⟩),e4]
   ·rw[aa ai];unfold pt;rw[ll]
    by_cases E:(cs.getD j iF).1<(i:Int)\/((cs.getD j iF).1=(i:Int)/\j∈(fN cs i).take k)
    ·rw[Z E,Z (E.imp id λx=>⟨x.1,by simp[x.2]⟩)]
    ·rw[aa E,aa λaS=>E (aS.imp id λx=>⟨x.1,by simpa [ai] using x.2⟩)]
  have aG:=gz _ rfl;clear du;generalize ((eT cs i).map λc=>aE (gn cs (h.getD i 0) c))=KL at *;generalize GO cs h y=aP at *;obtain⟨⟨db,dH⟩,⟨fk,fM⟩⟩:=aP;have ey:=pg db dH fk fM;rw[aG] at ey;simp only[go_sem,go_sem_proc,aw,cg,fL,iR,td,nG,jT,Di,Dj,Dk,zo,zp,iG,d1,cf,rK,ah0,KD,ey,zE,h9,aL,cM,aj,a5];repeat' (first|refine av ?_ ?_|fail)<;>intro h<;>simp only[h,go_sem,go_sem_proc,aw,cg,fL,iR,td,nG,jT,Di,Dj,Dk,zo,zp,iG,d1,cf,rK,ah0,KD,ey,zE,h9,aL,cM,aj,a5]
  exact⟨k+1,by omega,by omega,rfl,rfl⟩
 ·have d1:decide ((k:Int)<((fN cs i).length:Int))=false:=c1;obtain rfl:k=(fN cs i).length:=by omega
  rw[av8] at iG;simp only[go_sem,go_sem_proc,aw,cg,fL,iR,td,nG,jT,Di,Dj,Dk,d1];repeat' (first|refine av ?_ ?_|fail)<;>intro h<;>simp only[h,go_sem,go_sem_proc,aw,cg,fL,iR,td,nG,jT,Di,Dj,Dk,d1]
  refine du _ _ ?_ ?_ ?_ ?_ ?_ ?_ zo zp iG<;>simp only[eQ,dA,if_false,aw,cg,fL,td,nG,jT]
theorem awc (n:Nat):(eu n [M.nil]).flatten=bu n λ_ => .nil:=by
 induction n with
 |zero=>rfl
 |succ n ay=>rw[ag6,FN,ay,ahy];rfl
theorem awd {a b:List Rat}(h:(a.map aE).map aL=(b.map aE).map aL):a=b:=map_inj (λ_ _ h=>MR h) _ _ (map_inj vo _ _ h)
abbrev XH:(List ar)×(List Rat)->List Data:=λ(cs,h)=>[.af (cs.map bp),.af ((h.map aE).map aL)]
def Pr:=cy XH λ(cs,h)=>cT (Bc cs h) (.same (.cw [.af ((cs.map λc=>aE (gn cs (h.getD c.1.toNat 0) c)).map aL),.bool true]))
theorem awe:∀a b,XH a=XH b->a=b:=by
  rintro⟨KB,E⟩ ⟨wx,H⟩ h;simp only[bh,Data.af.injEq,and_true] at h;exact eS (map_inj zf _ _ h.1) (awd h.2)
@[go_sem] theorem awf (cs:List ar)(h:List Rat)(G:Bc cs h):Pr [.af (cs.map bp),.af ((h.map aE).map aL)]=some (.same (.cw [.af ((cs.map λc=>aE (gn cs (h.getD c.1.toNat 0) c)).map aL),.bool true])):=(cI awe (cs,h)).trans (cY G _)
theorem awg (T:bk)(uI:T Rs=aW XB)(cs:List ar)(h:List Rat)(G:Bc cs h):WP T Cw (.same (.cw [.af ((cs.map λc=>aE (gn cs (h.getD c.1.toNat 0) c)).map aL),.bool true])) [.I (.af (cs.map bp)),.I (.af ((h.map aE).map aL))]:=by
 refine cC ?_;simp only[Cw];have aG:=G.n;have hB:=G.len;have FO:(24*D h<=140737488355328)=True:=eq_true (by omega);have AP:(D h<=maxLen)=True:=eq_true (by unfold maxLen;omega);have awh:(64*D cs<=140737488355328)=True:=eq_true (by omega);have awi:(D cs<=maxLen)=True:=eq_true (by unfold maxLen;omega);have aQ:=awc (D h);have ah1:=afR (D cs);rw[<-av9 cs h G] at ah1;simp only[go_sem,go_sem_proc,uI,FO,AP,aQ,aj];refine avP T cs h G (.I (.af ((h.map aE).map aL))) _ _ ?_ ?_ ?_ ?_ ?_ ?_ ?_ ?_ (λ_=>0) (λ_=>0) ⟨?_,?_,λi L bN=>absurd rfl bN,λi L bN=>absurd rfl bN⟩ ?_
 all_goals first|(intro tm m gc gm ff cH h8 hG iG bF)|(simp only[eQ,dA,if_false,if_true];done)|(simp only[eQ,dA,if_false,if_true];rfl)|(simp only[a3,dA,if_false,if_true];rfl)|skip
 obtain⟨dG,E,H,ab⟩:=Pj (λi=>233600+i) (λi=>jE (eT cs i)) (λi L=>by omega) (λi j _ _ he=>by omega) (D h) 0 (la cs gc) m (by omega) bF.fb (λi L=>by omega) λi _ L=>by
  by_cases hn:eT cs i=[]
  ·refine .inl ?_;unfold la jE;rw[Z hn,Z hn]
  ·refine .inr ⟨gc i,4,(eT cs i).length,aY bp (eT cs i),.af ((eT cs i).map bp),?_,bF.cH i L hn,λcn nZ=>pM (n:=0) qb nZ,?_⟩
   ·unfold la;rw[aa hn]
   ·unfold jE;rw[aa hn]
 have ry:dG 233022=some (0,bu (D h) (pp cs gm)):=(ab 233022 (by decide) λi L=>by omega).trans bF.ew;have ah2:dG 233057=none:=(ab 233057 (by decide) λi L=>by omega).trans iG
 obtain⟨cn,cF,cQ,h0⟩:=Pj (λi=>233700+i) (λi=>xH (fN cs i)) (λi L=>by omega) (λi j _ _ he=>by omega) (D h) 0 (pp cs gm) dG (by omega) ry (λi L=>by omega) λi _ L=>by
  by_cases hn:eT cs i=[]
  ·refine .inl ?_;have Db:fN cs i=[]:=Bb.1 (by rw[Pl,hn];rfl);unfold pp xH;rw[Z hn,Z Db]
  ·have Db:fN cs i≠[]:=λaS=>hn (Bb.1 (by rw[<-Pl,aS];rfl));refine .inr ⟨gm i,1,(eT cs i).length,aY h9 (fN cs i),.af ((fN cs i).map h9),?_,?_,λcn nZ=>by rw[<-Pl];exact pM (n:=0) xo nZ,?_⟩
   ·unfold pp;rw[aa hn]
   ·exact (ab (233700+i) (by omega) λj ai=>by omega).trans (bF.dc i L hn)
   ·unfold xH;rw[aa Db]
 have KM:cn 233019=some (0,bu (D h) λi=>jE (eT cs i)):=(h0 233019 (by decide) λi L=>by omega).trans H;have xI:cn 233057=none:=(h0 233057 (by decide) λi L=>by omega).trans ah2;simp only[go_sem,go_sem_proc,uI];refine ahx (E.trans cF) ?_;clear E H ab cF h0 ry ah2 bF iG;simp only[go_sem,go_sem_proc,uI,ff,cH,h8,hG,awh,awi,ah1,xI,aj];refine dE [1,7,10,58,59] [233019,233022] (λ(i:Nat) tm m=>i<=D h/\tm 60=.I (.int .i64 i)/\m 233057=some (0,lA qc (bu (D cs) λj=>pt cs h i 0 j))) (λi=>D h-i) 0 (by refine⟨by omega,rfl,by simp[a3]⟩) ?_;intro vs ms aV aR;simp only[go_sem,go_sem_proc,uI,cH,hG,KM,cQ,aj] at aV aR;subst aV aR;clear ff cH h8 hG KM xI cQ tm m dG cn;rintro i tm m J hm ⟨L,jT,iG⟩;simp only[go_sem,go_sem_proc,uI,bh] at J hm;obtain⟨aw,cg,fL,td,nG⟩:=J;obtain⟨zo,zp⟩:=hm;rcases dQ (i<D h) with aq|ck
 ·have d1:decide ((i:Int)<(D h:Int))=true:=dg;have cf:=fW (i:=i) (by omega);obtain⟨x,O⟩:∃x,h[i]?=some x:=⟨_,bs aq⟩;have jf:h.getD i 0=x:=by rw[dY,O];rfl
  have fE:=G.x x (eL O)
  have uW:lz (eT cs i):=⟨eF (rU _ _) hB,λc gA=>by
   have E:=G.c c (A5.1 gA).1;omega,λc gA c' awj=>by rw[(A5.1 gA).2,(A5.1 awj).2]⟩
  have e4:=avK x (eT cs i) ⟨uW,fE.1,fE.2⟩;rw[atg,<-jf] at e4;rw[<-jf] at O;have fb:=uD (iE (λi=>jE (eT cs i)) aq);have ew:=uD (iE (λi=>xH (fN cs i)) aq);have ht:(bu (D h) λi=>jE (eT cs i)).length=D h:=gp _ _;have jI:(bu (D h) λi=>xH (fN cs i)).length=D h:=gp _ _;have eB:i+1<=D h:=by omega
  have tS:=av7 (eT cs i) 6;have ah3:=av5 (fN cs i);simp only[go_sem,go_sem_proc,uI] at ah3;generalize lS:aE (h.getD i 0)=cA at *;obtain⟨⟨db,dH⟩,⟨fk,fM⟩⟩:=cA;simp only[aL] at e4;simp only[go_sem,go_sem_proc,uI,uI,aw,cg,fL,td,nG,jT,zo,zp,iG,d1,fb,ew,ht,jI,eB,aq,O,lS,tS,e4,ah3,aL,cM,aj,a5,bne,beq_self_eq_true,ca];refine awb T cs h G i aq (.I (.af ((h.map aE).map aL))) (.ref 233022 0 1 0 (D h)) (.ref 233019 0 1 0 (D h)) (.I (.int .i64 (D h))) (.I (.int .i64 i)) _ _ _ _ ?_ ?_ ?_ ?_ ?_ ?_ ?_ ?_ ?_ ?_ zo zp iG ?_
  all_goals first|(intro tm' m' cH hG nu ah4 ah5 ah6 KM ah7 xI)|(simp only[eQ,dA,if_false,if_true,aw,cg,fL,td,nG,jT];done)
  simp only[go_sem,go_sem_proc,uI,cH,hG,nu,ah4,ah5,ah6,KM,ah7,xI,cf];repeat' (first|refine av ?_ ?_|fail)<;>intro h<;>simp only[h,go_sem,go_sem_proc,uI,cH,hG,nu,ah4,ah5,ah6,KM,ah7,xI,cf]
  exact⟨i+1,by omega,by omega,rfl,rfl⟩
 ·have d1:decide ((i:Int)<(D h:Int))=false:=c1;obtain rfl:i=D h:=by omega
  rw[awa cs h G,afT] at iG;have l0:=λ(K:a2->Prop) (st:a2)=>mb (K:=K) (st:=st) mU 10 233057 0 (cs.map λc=>aE (gn cs (h.getD c.1.toNat 0) c));rw[aj] at l0;simp only[go_sem,go_sem_proc,uI,aw,cg,fL,td,nG,jT,d1,iG,l0,aj];repeat' (first|refine av ?_ ?_|fail)<;>intro h<;>simp only[h,go_sem,go_sem_proc,uI,aw,cg,fL,td,nG,jT,d1,iG,l0,aj]
theorem awk {α:Type}(p:α->Bool)(l:List α)(k:Nat)(J:k<D l)(h:∀j (ai:j<k),p (l[j]'(by omega))=false)(H:p l[k]=true):mm p l=k :=
 Jo (λx O=>by
  obtain⟨j,ai⟩:=List.mem_iff_getElem?.1 O;rw[List.getElem?_take] at ai
  by_cases eW:j<k
  ·rw[Z eW,bs (by omega),cb] at ai;rw[<-ai];exact h j eW
  ·rw[aa eW] at ai;cases ai) (bs J) H
theorem ah8 {d:Day}{h:Nat->Rat}{i:Nat}:∀k,k<=10->d.jg h i k<10->(∀j,10-k<=j->j<d.jg h i k->d.U i (j+1)<=h i)/\h i<d.U i (d.jg h i k+1)/\10-k<=d.jg h i k
 |0,_,E=>by rw[Day.jg] at E;omega
 |k+1,J,E=>by
  rw[Day.jg] at E ⊢
  by_cases G:h i<d.U i (10-(k+1)+1)
  ·rw[Z G] at E ⊢;exact⟨λj H ab=>by omega,G,bP _⟩
  ·rw[aa G] at E ⊢;obtain⟨cH,dc,dV⟩:=ah8 k (by omega) E;refine⟨λj H ab=>?_,dc,by omega⟩
   by_cases ai:j=10-(k+1)
   ·rw[ai];grind
   ·exact cH j (by omega) ab
theorem awl {cash:List Int}{cs:List ar}(Q:fG cash cs)(h:Nat->Rat)(n i:Nat)(L:i<n)(mw:dz (h i))(aJ:(aA cash cs).jg h i 10<10):mm (r0 (.solve (df n h) i)) (bu 10 λk=>cr cs i (k+1:Nat))=((aA cash cs).jg h i 10:Int):=by
 obtain⟨E,H,ab⟩:=ah8 10 (bP _) aJ;have mW:=λk:Nat=>Q.upto i k
 have aB:∀k:Nat,r0 (.solve (df n h) i) (cr cs i (k+1:Nat))=decide (h i<(aA cash cs).U i (k+1)):=λk=>by
  have X:(df n h).getD i dW=aE (h i):=by rw[dY,ux h L];rfl
  have Dc:dv (cr cs i (k+1:Nat)):=oK (by have:=mW (k+1);omega) (by have:=mW (k+1);omega);simp only[r0];rw[X,Tw mw (qd Dc),Wo,sY Q.right]
 refine awk _ _ _ (by rw[gp];exact aJ) (λj ai=>?_) ?_
 ·have e:=iE (λk=>cr cs i (k+1:Nat)) (show j<10 by omega);rw[bs (by rw[gp];omega),cb] at e;rw[e,aB];exact ob (by have:=E j (by omega) ai;grind)
 ·have e:=iE (λk=>cr cs i (k+1:Nat)) aJ;rw[bs (by rw[gp];omega),cb] at e;rw[e,aB];exact iH H
def cL.wf (a:cL)(f:Nat->Nat):cL:={ a with bg:=bu (D a.cash) λi=>(f i:Int) }
theorem cL.XI (a:cL)(f:Nat->Nat){i:Nat}(L:i<D a.cash):(a.wf f).gb i=(a.gb i).vL (f i):=by
 have:(bu (D a.cash) λi=>(f i:Int)).getD i 10=(f i:Int):=A9 _ _ L;unfold cL.gb cL.wf nE.vL;dsimp only;rw[this]
theorem cL.eR.awm {a:cL}{m:Mem}{f:Nat->Nat}(h:(a.wf f).eR m){i:Nat}(L:i<D a.cash)(r:Nat):(a.wf λj=>if j=i then r else f j).eR (a3 m (228500+i) (a.gs.getD i 0) (fh ((a.gb i).vL r))):=by
 refine⟨h.can,gp _ _,h.pl,h.Ot,?_,λj ai=>?_⟩
 ·have:=h.row;simp only[a3];rw[aa (show ¬ ((228023:Nat)=228500+i) by omega)];exact this
 ·rw[cL.XI a _ ai];simp only[a3]
  by_cases j1:j=i
  ·subst j1;rw[Z rfl,Z rfl]
   rfl
  ·rw[aa (show ¬ ((228500+j:Nat)=228500+i) by omega),aa j1];have:=h.dp j ai;rw[cL.XI a _ ai] at this;exact this
theorem cL.Ps (a:cL){p q:Nat->Nat}(h:∀i,i<(D a.cash)->p i=q i):a.wf p=a.wf q:=by
 unfold cL.wf;rw[j9 λi L=>by rw[h i L]]
theorem awn {n i:Nat}(f:Nat->Nat)(h:i<n):bD (bu n λi=>(f i:Int)) i=f i:=by
 unfold bD;rw[A9 _ _ h,gX]
theorem awo {x:nE}(h:x.c0){k g:Nat}{m:Mem}(hm:m k=some (g,fh x))(n:Nat):c8 (n+1) m (.ref k g 1 12 10)=some (.af (x.us.tail.map ad)):=by
 have e:cut (fh x) 12 10=some (x.us.tail.map dy):=by
  unfold cut;rw[Z (by rw[A6 h];omega)]
  congr 1
  obtain⟨c,cZ,us,f,p⟩:=x;obtain⟨E,H⟩:=h;dsimp only at E H
  cases us with
  |nil=>cases H
  |cons u us =>
   have au:(D us)=10:=by simpa using H
   unfold fh;dsimp only;rw[C7,pK,k7 (by rw[aj];omega),aj,E,iM,e5];rw[show 11-10=1 from rfl,List.cons_append,C7,nk,y6 (by rw[aj];omega),dD (by rw[aj];omega)]
   rfl
 have aC:∀l:List Int,(l.map dy).mapM (c8 n m)=some (l.map λz=>Data.int .i64 z):=by
  intro l
  induction l with
  |nil=>rfl
  |cons a l ay =>
   rw[e5,List.mapM_cons,ay];rw[show c8 n m (dy a)=some (.int .i64 a) from LO n _]
   rfl
 have cx:∀l:List Int,chunk 1 (D l) (l.map λz=>Data.int .i64 z)=l.map ad:=by
  intro l
  induction l with
  |nil=>rfl
  |cons a l ay=>simp only[kf,e5,chunk,Ed,oY,C7,nk,ay];rfl
 have au:(D x.us.tail)=10:=by rw[List.length_tail,h.us]
 unfold c8;rw[hm];dsimp only;rw[Z rfl,cM,e];dsimp only;rw[aC];have:=cx x.us.tail;rw[au] at this;rw[jo,this]
end Go.Mini
