/- A part of the proof. -/
import Derived.Test.YtkfoalgfjchcfaaGreatM04
set_option linter.unusedSimpArgs false
set_option linter.unusedVariables false
set_option maxRecDepth 100000
set_option maxHeartbeats 4000000
noncomputable section
open Bool renaming and_eq_true->e3,and_false->ju,eq_iff_iff->pK,false_and->ja,not_false->dc,not_true->cR,or_eq_true->qn,or_false->nL,or_true->tC,true_and->iy
open Classical renaming byContradiction->kC,choose_spec->oQ
open Decidable renaming em->dX
open Int renaming add_zero->tU,le_refl->FG,sign_neg_iff->ae9,toNat_natCast->gZ
open List renaming append_assoc->gK,append_inj->D6,append_nil->hO,drop->hR,drop_append->oc,drop_append_of_le_length->afT,drop_eq_nil_of_le->lq,drop_succ_cons->AW,ext_getElem?->q6,filter_append->y6,filter_cons_of_neg->xw,filter_cons_of_pos->xv,filter_nil->s6,flatMap_append->vG,flatMap_cons->oS,flatMap_def->vH,flatMap_nil->y8,flatten_append->Fj,flatten_cons->ko,getD_eq_getElem?_getD->ea,getElem?_append_left->q3,getElem?_append_right->q4,getElem?_cons_succ->agY,getElem?_eq_getElem->bx,getElem?_eq_none->lr,getElem?_eq_some_iff->dM,getElem?_map->bd,getElem?_range->r0,getElem?_replicate->afq,getElem?_set->kz,getElem_mem->n7,length->D,length_append->hj,length_drop->pA,length_eq_zero_iff->A1,length_filter_le->rK,length_map->al,length_range->q9,length_replicate->Jx,length_set->iM,length_singleton->yP,length_take->g7,map->xm,map_append->k0,map_congr_left->m5,map_cons->eY,map_map->oN,map_nil->cg,map_replicate->Fi,map_set->xi,mem_cons_of_mem->hY,mem_cons_self->ha,mem_filter->Fw,mem_map->fI,mem_map_of_mem->vD,mem_of_getElem?->eU,mem_range->hn,nil_append->iJ,range->dQ,range_add->agn,range_succ->pd,replicate->ep,replicate_succ'->agL,set_append_left->agZ,set_append_right->Cn,set_cons_succ->E4,set_cons_zero->qE,set_eq_take_append_cons_drop->agq,take->ho,take_add_one->lA,take_append_drop->zN,take_append_of_le_length->AA,take_length->om,take_of_length_le->dE,take_zero->nK
open List.cons renaming inj->u6,injEq->bf
open Nat renaming add_comm->xL,le_refl->bM,le_trans->ey,lt_or_ge->hK,mul_one->cI,one_le_two_pow->V5,reduceEqDiff->dA,sub_self->kL,succ_mul->r1,zero_le->fr
open Option renaming bind_some->oR,map_some->iW
open Option.some renaming inj->m4,injEq->b8
open Prod renaming ext->eN,ext_iff->BL
open Prod.mk renaming injEq->fv
open Rat renaming add_zero->pa,den_intCast->afk,div_def->sS,div_mul_cancel->afx,intCast_add->sZ,intCast_le_intCast->We,intCast_natCast->nm,inv_zero->N7,le_of_mul_le_mul_right->afy,le_refl->fQ,le_trans->sY,lt_iff->V0,mul_le_mul_of_nonneg_left->N8,mul_le_mul_of_nonneg_right->N9,mul_zero->l8,num_intCast->afj,zero_den->JQ,zero_mul->y2,zero_num->JR
namespace Go.Mini
open Go
theorem ae5 {x y:Rat}(O:dI x)(ak:dI y)(h:oZ x y=true):Cc [.agg (aK (aE x)),.agg (aK (aE y))]=some (.same (.cq [.agg (aK (aE (x+y))),.int .i64 0])):=by
 have E:=o4 O;have H:=o4 ak;have:=anX (aE x).1.1 (aE x).1.2 (aE x).2.1 (aE x).2.2 (aE y).1.1 (aE y).1.2 (aE y).2.1 (aE y).2.2 ⟨E.1,E.2,H.1,H.2⟩;have e:vh (aE x) (aE y)=(aE (x+y),0):=by rw[abD O ak,h];rfl
 exact this.trans (by show some (et.same (ef (vh (aE x) (aE y))))=_;rw[e];rfl)
theorem NX {x y:Rat}(O:dI x)(ak:dI y)(h:oZ x (-y)=true):w3 [.agg (aK (aE x)),.agg (aK (aE y))]=some (.same (.cq [.agg (aK (aE (x-y))),.int .i64 0])):=by
 have E:=o4 O;have H:=o4 ak;have:=anZ (aE x).1.1 (aE x).1.2 (aE x).2.1 (aE x).2.2 (aE y).1.1 (aE y).1.2 (aE y).2.1 (aE y).2.2 ⟨E.1,E.2,H.1,H.2⟩;have e:oo (aE x) (aE y)=(aE (x-y),0):=by rw[MH O ak,h];rfl
 exact this.trans (by show some (et.same (ef (oo (aE x) (aE y))))=_;rw[e];rfl)
theorem ae6 {x y:Rat}(O:dI x)(ak:dI y)(h:yJ x y=true):w5 [.agg (aK (aE x)),.agg (aK (aE y))]=some (.same (.cq [.agg (aK (aE (x*y))),.int .i64 0])):=by
 have E:=o4 O;have H:=o4 ak;have:=an1 (aE x).1.1 (aE x).1.2 (aE x).2.1 (aE x).2.2 (aE y).1.1 (aE y).1.2 (aE y).2.1 (aE y).2.2 ⟨E.1,E.2,H.1,H.2⟩;have e:nh (aE x) (aE y)=(aE (x*y),0):=by rw[Tb O ak,h];rfl
 exact this.trans (by show some (et.same (ef (nh (aE x) (aE y))))=_;rw[e];rfl)
theorem asf {x y:Rat}(O:dI x)(ak:dI y)(ai:y≠0)(h:vi x y=true):Cd [.agg (aK (aE x)),.agg (aK (aE y))]=some (.same (.cq [.agg (aK (aE (x/y))),.int .i64 0])):=by
 have E:=o4 O;have H:=o4 ak;have:=an3 (aE x).1.1 (aE x).1.2 (aE x).2.1 (aE x).2.2 (aE y).1.1 (aE y).1.2 (aE y).2.1 (aE y).2.2 ⟨E.1,E.2,H.1,H.2⟩;have e:je (aE x) (aE y)=(aE (x/y),0):=by rw[MI O ak ai,h];rfl
 exact this.trans (by show some (et.same (ef (je (aE x) (aE y))))=_;rw[e];rfl)
theorem JV {x y:Rat}(O:dI x)(ak:dI y):vj [.agg (aK (aE x)),.agg (aK (aE y))]=some (.same (.int .i64 (ni x y))):=by
 have E:=o4 O;have H:=o4 ak;have:=abK (aE x).1.1 (aE x).1.2 (aE x).2.1 (aE x).2.2 (aE y).1.1 (aE y).1.2 (aE y).2.1 (aE y).2.2 ⟨E.1,E.2,H.1,H.2⟩;exact this.trans (by show some (et.same (.int .i64 (qC (aE x) (aE y))))=_;rw[Tc O ak])
theorem ae7 {x y:Rat}:decide (ni x y>0)=decide (y<x):=by
 have E:ni x y>0↔y<x:=by
  unfold ni;rw[gt_iff_lt,Int.sign_pos_iff,V0];omega
 rw[decide_eq_decide];exact E
theorem ae8 {x y:Rat}:decide (ni x y<0)=decide (x<y):=by
 have E:ni x y<0↔x<y:=by
  unfold ni;rw[ae9,V0];omega
 rw[decide_eq_decide];exact E
theorem afa {x y:Rat}:decide (ni x y>=0)=decide (y<=x):=by
 have E:ni x y>=0↔y<=x:=by
  unfold ni;rw[ge_iff_le,Int.sign_nonneg_iff,Rat.le_iff];omega
 rw[decide_eq_decide];exact E
end Go.Mini
namespace Go.Mini
open Go
variable {P:Program} {A:Nat->Prop} {w aL:World} {B bo:eH} {mem mem':Mem}
def xx (N:List M->Mem->Option Data)(args:List M)(mem:Mem):Option gO:=(N args mem).map λd => .rel (yf (.I d) mem)
@[go_sem] theorem aDe (N:List M->Mem->Option Data)(args:List M)(mem:Mem):xx N args mem=(N args mem).map λd => .rel (yf (.I d) mem):=bl
theorem V1 {T : bk}{kb : Nat}{own : List Nat}(cz : qm P T)(hm : P.follows .mixedOrders = true){f : FuncId}{fn : Func}{mf : b5}(aJ : P.funcs[f]? = some fn)(uX : (fn.name == "runtime.NumGoroutine") = false)(aT : rY P kb own fn = some { mf with body := erase mf.body })
  (cP:Key->Prop) {N:List M->Mem->Option Data}
  (h:∀args mem d,N args mem=some d->(D args)<=mf.n/\(∀j,cP j->mem j=none) /\
   wp T mf.body (ru mf.res λm mem'=>cZ 6 emp m=some d/\∀j,¬ cP j->mem' j=mem j) ⟨mj args,mem⟩):mH P f (xx N):=by
 refine⟨T9 aJ uX aT,λargs mem oK iI A w B vs bO aI=>?_⟩;unfold xx at iI;rw[Option.map_eq_some_iff] at iI;obtain⟨d,kY,rfl⟩:=iI;obtain⟨hlen,xf,yb⟩:=h args mem d kY;refine Calls.mono (HJ (Post:=λm mem'=>cZ 6 emp m=some d/\∀j,¬ cP j->mem' j=mem j) cz hm aJ aT hlen (λe st J=>T8 J) yb bO aI) λe aL he=>?_;obtain⟨v,m,mem',bo,rfl,Q,q1,X,gR⟩:=he;exact⟨v,.I d,mem,sJ cP bo,rfl,Q.drop bO xf xf (λj ag=>(gR j ag).symm) (λk g cs J m hm => .inr ⟨k,g,cs,J,hm⟩),.I ((Qk 6 m v d X q1).less λb ad=>ad.imp EU id),rfl,rfl⟩
open Classical in
def CH {α:Type}(a5:α->List M->Mem->Prop)(res:α->Data):List M->Mem->Option Data:=λargs mem=>if h:∃a,a5 a args mem then some (res (Classical.choose h)) else none
theorem V3 {α:Type}{a5:α->List M->Mem->Prop}{res:α->Data}(uniq:∀a b args mem,a5 a args mem->a5 b args mem->res a=res b){a:α}{args:List M}{mem:Mem}(h:a5 a args mem):CH a5 res args mem=some (res a):=by
 have O:∃b,a5 b args mem:=⟨a,h⟩;unfold CH;rw[dif_pos O,uniq _ _ _ _ (oQ O) h]
theorem V4 {α:Type}{a5:α->List M->Mem->Prop}{res:α->Data}{args:List M}{mem:Mem}{d:Data}(h:CH a5 res args mem=some d):∃a,a5 a args mem/\d=res a:=by
 unfold CH at h
 split at h
 ·rename_i O;exact⟨_,oQ O,(m4 h).symm⟩
 ·cases h
theorem afb {α:Type}{a5:α->List M->Mem->Prop}{bZ:α->Mem->M->Mem->Prop}(uniq:∀a b args mem,a5 a args mem->a5 b args mem->bZ a mem=bZ b mem){a:α}{args:List M}{mem:Mem}(h:a5 a args mem):yQ a5 bZ args mem=some (bZ a mem):=by
 have O:∃b,a5 b args mem:=⟨a,h⟩;unfold yQ;rw[dif_pos O,uniq _ _ _ _ (oQ O) h]
theorem asg {K:a2->Prop}{st:a2}{x:bF}{i k sz kc g off:Nat}{cs:List M}(E:a0 st.tm x=.ptr kc g off)(H:st.mem kc=some (g,cs))(ab:cs[off+i]?=some .nil)(aM:k≠kc)
  (h:K ⟨st.tm,a3 (a3 st.mem k (bW st.mem k) []) kc g (cs.set (off+i) (.ref k (bW st.mem k) sz 0 0))⟩):kp K st (.KN x i k sz):=by
 simp only[kp,E,H,if_true,ab];rw[Z aM];exact h
theorem ash {K:a2->Prop}{st:a2}{x:bF}{i kc gc off k g sz o len:Nat}{cc cs:List M}{d:Data}(E:a0 st.tm x=.ptr kc gc off)(H:st.mem kc=some (gc,cc))(ab:cc[off+i]?=some (.ref k g sz o len))(aM:st.mem k=some (g,cs))(bj:v8 cs=true)(bH:k≠kc)(bA:cZ 1 st.mem (.ref k g sz o len)=some d)
  (h:K ⟨st.tm,a3 (kill st.mem k) kc gc (cc.set (off+i) (.I d))⟩):kp K st (.KO x i):=by
 simp only[kp,E,H,if_true,ab,aM];rw[Z ⟨trivial,bj,bH⟩,bA];exact h
def dS (n:Nat)(mem m:Mem):Prop:=∀k,k/1000≠n->m k=mem k
theorem dS.refl (n:Nat)(mem:Mem):dS n mem mem:=λ_ _=>rfl
theorem dS.eK {n k g:Nat}{cs:List M}{mem m:Mem}(h:dS n mem m)(J:k/1000=n):dS n mem (a3 m k g cs):=λj ag=>by
 have:j≠k:=λe=>ag (by rw[e];exact J);simp only[a3,this,if_false];exact h j ag
theorem dS.kill {n k:Nat}{mem m:Mem}(h:dS n mem m)(J:k/1000=n):dS n mem (kill m k):=h.eK J
theorem dS.at {n:Nat}{mem m:Mem}(h:dS n mem m)(k:Nat)(J:k/1000≠n):m k=mem k:=h k J
def qM (n:Nat)(mem:Mem):Prop:=∀k,k/1000=n->mem k=none
theorem qM.ax {n NY:Nat}{mem m:Mem}(h:qM n mem)(aJ:dS NY mem m)(aG:n≠NY):qM n m:=λk J=>by rw[aJ k (by omega)];exact h k J
end Go.Mini
namespace Go.Mini
open Go
def dv (x:Int):M:=.I (.int .i64 x)
def ki (b:Bool):M:=.I (.bool b)
theorem NZ {α:Type}{f:α->M}{l:List α}{k:Nat}{y:α}(h:l[k]?=some y):ho 1 (hR k (l.map f))=[f y]:=by
 obtain⟨aq,rfl⟩:=dM.1 h;rw[<-List.map_drop,List.drop_eq_getElem_cons aq,eY,List.take_succ_cons,nK]
structure AS (cash:List Int) (cs:List ar) (bc:List Int) (P:List Bool) (g db gj:Nat) (mem:Mem):Prop where
 r:mem 261029=some (g,[.I (.ae (cash.map af)),.I (.ae (cs.map bE)),.ref 261042 db 1 0 (D bc),.ref 261027 gj 1 0 (D P),.I (.bool false)])
 f:mem 261042=some (db,bc.map dv)
 p:mem 261027=some (gj,P.map ki)
theorem AS.ax {cash:List Int}{cs:List ar}{bc:List Int}{P:List Bool}{g db gj n:Nat}{mem m:Mem}(h:AS cash cs bc P g db gj mem)(aJ:dS n mem m)(aG:n≠261):AS cash cs bc P g db gj m :=
 ⟨(aJ.at 261029 (by omega)).trans h.r,(aJ.at 261042 (by omega)).trans h.f,(aJ.at 261027 (by omega)).trans h.p⟩
theorem afc {a b:List Int}(h:a.map dv=b.map dv):a=b:=map_inj (λx y h=>by simpa [dv] using h) _ _ h
theorem asi {a b:List Bool}(h:a.map ki=b.map ki):a=b:=map_inj (λx y h=>by simpa [ki] using h) _ _ h
theorem AS.uniq {cash JW:List Int}{cs nA:List ar}{bc afd:List Int}{P afe:List Bool}{g db gj df aff N0:Nat}{mem:Mem}(h:AS cash cs bc P g db gj mem)(b2:AS JW nA afd afe df aff N0 mem):cash=JW/\cs=nA/\bc=afd/\P=afe/\g=df/\db=aff/\gj=N0:=by
 have E:=h.r;rw[b2.r] at E;simp only[b8,fv,bf,M.I.injEq,Data.ae.injEq,M.ref.injEq,true_and,and_true] at E;obtain⟨aA,ay,cV,⟨da,-⟩,bL,-⟩:=E;have H:=h.f;rw[b2.f] at H;simp only[b8,fv] at H;have ab:=h.p;rw[b2.p] at ab;simp only[b8,fv] at ab;exact⟨(map_inj gY _ _ ay).symm,(map_inj y7 _ _ cV).symm,(afc H.2).symm,(asi ab.2).symm,aA.symm,da.symm,bL.symm⟩
structure N1 where
 cash:List Int
 cs:List ar
 bc:List Int
 P:List Bool
 g:Nat
 db:Nat
 gj:Nat
def N1.eM (a:N1)(mem:Mem):Prop:=AS a.cash a.cs a.bc a.P a.g a.db a.gj mem
theorem N1.uniq {a b:N1}{mem:Mem}(h:a.eM mem)(b2:b.eM mem):a=b:=by
 obtain⟨c5,dK,fl,fP,nX,rL,afg⟩:=a;obtain⟨dR,gQ,ox,s8,asj,afh,afi⟩:=b;have:=AS.uniq h b2;dsimp only at this;obtain⟨rfl,rfl,rfl,rfl,rfl,rfl,rfl⟩:=this
 rfl
theorem dS.same {n k g:Nat}{cs:List M}{mem m:Mem}(h:dS n mem m)(hm:mem k=some (g,cs)):dS n mem (a3 m k g cs):=λj ag=>by
 by_cases e:j=k
 ·subst e;simp only[a3,if_true];exact hm.symm
 ·simp only[a3,e,if_false];exact h j ag
theorem qN {z:Int}(E:-9000000000000000000<=z)(H:z<=9000000000000000000):dz z:=by unfold dz;omega
theorem FH.upto {cs:List ar}(h:FH cs)(i r:Int):0<=ca cs i r/\ca cs i r<=2000000000000000000:=by
 have:=h.sum (λc=>c.1=i/\c.2.2.1<r) (D cs);rw[om] at this;exact this
theorem asl {p q:Int}(aC:dz p)(a9:dz q)(ai:q≠0):g0 (bD p) (bD q)=(aE ((p:Rat)/(q:Rat)),0):=by
 rw[yH (wY aC) (wY a9) ai,Rat.divInt_eq_div]
def ia (cs:List ar)(i r:Int):Int:=ca cs i (r+1)-ca cs i r
end Go.Mini
namespace Go.Mini
open Go Classical
def bB (bc:List Int)(i:Nat):Nat:=(bc.getD i 10).toNat
def e6 (P:List Bool)(i:Nat):Prop:=P.getD i false=true
theorem FK {z:Int}{b:Nat}(h:z.natAbs<=2^b):eB b (z:Rat):=⟨by rw[afj];exact h,by rw[afk];exact V5⟩
theorem asm {cash:List Int}{cs:List ar}(Q:fF cash cs){c:ar}(G:c∈cs):eB 54 ((aB cash cs).w (cm c)):=by
 have Y:=(g2.1 Q.right).2.2.2 c G;have sX:=Q.am c G
 by_cases ai:c.2.2.2=0
 ·have:(cm c).am=0:=by show ((c.2.2.2:Int):Rat)=0;rw[ai];rfl
  rw[Day.Jg this];exact⟨fr _,V5⟩
 ·have cv:=CD Q.right (cm c).ax (cm c).rk;have hle:=(JG Q.right).U4 (c:=cm c) (vD G);rw[<-cv] at hle
  have E:c.2.2.2<=((hJ cs (cm c).ax (cm c).rk:Nat):Int):=by
   have:((c.2.2.2:Int):Rat)<=(((hJ cs (cm c).ax (cm c).rk:Nat):Int):Rat):=by rw[nm];exact hle
   exact_mod_cast this
  have H:=Q.CE (cm c).ax (cm c).rk
  obtain⟨f1,f2⟩:=AG (q:=(aB cash cs).w (cm c)) (v:=c.2.2.2) (d:=((hJ cs (cm c).ax (cm c).rk:Nat):Int)) (by omega) (by
   rw[nm,cv];refine Day.Fq ?_;rw[<-cv];have:0<hJ cs (cm c).ax (cm c).rk:=by omega
   exact_mod_cast this)
  rw[Int.natAbs_natCast] at f2;exact⟨by omega,by omega⟩
section
variable {cash:List Int} {cs:List ar} (Q:fF cash cs) (f:Nat->Nat) (P:Nat->Prop) (i:Nat) (cv:∀k,P k->0<(aB cash cs).S k (f k))
include Q cv
end
end Go.Mini
namespace Go.Mini
open Go
theorem JX:dz 0:=by unfold dz;omega
theorem V6:dz 1:=by unfold dz;omega
theorem asn {N k:Nat}(x:Nat->Rat)(y:Rat):(de N x).set k (aE y)=de N λj=>if j=k then y else x j:=by
 refine JP (by rw[iM,p2]) λj ag=>?_;rw[kz]
 by_cases h:k=j
 ·rw[Z h,Z (by rw[p2];omega),Z h.symm]
 ·rw[aa h,uq _ ag,aa (Ne.symm h)]
theorem pe {α:Type}{l:List α}{k:Nat}{d x:α}(h:l[k]?=some x):l.getD k d=x:=by rw[ea,h];rfl
theorem aso (r:eu):((jf r).map M.I).all M.one=true:=rfl

def mN (n:Nat)(p:Nat->Bool):List Bool:=(dQ n).map p
theorem N2 (n:Nat)(p:Nat->Bool):(mN n p).length=n:=by simp[mN]
theorem N3 {n i:Nat}(p:Nat->Bool)(h:i<n):(mN n p)[i]?=some (p i):=by
 unfold mN;rw[bd,r0 h];rfl
theorem asp {n:Nat}{p q:Nat->Bool}(h:∀i,i<n->p i=q i):mN n p=mN n q:=m5 λi L=>h i (hn.1 L)
theorem N4 {n i:Nat}{p:Nat->Bool}:e6 (mN n p) i↔i<n/\p i=true:=by
 unfold e6;rcases hK i n with h|h
 ·rw[pe (N3 p h)];exact⟨λe=>⟨h,e⟩,λe=>e.2⟩
 ·rw[ea,lr (by rw[N2];exact h)];simp;omega
def uu (d:Day)(f:Nat->Nat)(h:Nat->Rat)(i:Nat):Bool:=decide (f i<10)&&decide (d.U i (f i)<h i)
def np (d:Day)(f:Nat->Nat)(h:Nat->Rat)(p:Nat->Bool)(i j:Nat):Bool:=p j||(decide (j<i)&&uu d f h j)
def xy (d:Day)(f:Nat->Nat)(h:Nat->Rat)(p:Nat->Bool)(i:Nat):Bool:=(dQ i).any λj => !p j&&uu d f h j
theorem asq (d:Day)(f:Nat->Nat)(h:Nat->Rat)(p:Nat->Bool)(i:Nat):xy d f h p (i+1)=(xy d f h p i||(!p i&&uu d f h i)):=by
 unfold xy;rw[pd,List.any_append];simp
theorem afl (d:Day)(f:Nat->Nat)(h:Nat->Rat)(p:Nat->Bool)(i:Nat):np d f h p i i=p i:=by
 unfold np;rw[oE (Nat.lt_irrefl i),ja,nL]
theorem afm (d:Day)(f:Nat->Nat)(h:Nat->Rat)(p:Nat->Bool)(i j:Nat):np d f h p (i+1) j=if j=i then (p i||uu d f h i) else np d f h p i j:=by
 unfold np
 by_cases ag:j=i
 ·subst ag;rw[Z rfl,kH (Nat.lt_succ_self j),iy]
 ·rw[aa ag]
  congr 2
  rw[decide_eq_decide];omega
theorem asr {d:Day}{f:Nat->Nat}{h:Nat->Rat}{p:Nat->Bool}:e6 (mN d.n (np d f h p d.n))=rH d f (e6 (mN d.n p)) h:=by
 funext i
 apply propext;rw[N4];unfold rH np uu;rw[N4]
 constructor
 ·rintro⟨E,H⟩;rw[qn] at H;rcases H with H|H
  ·exact .inl ⟨E,H⟩
  ·simp only[e3,decide_eq_true_eq] at H;exact .inr ⟨E,H.2⟩
 ·rintro (⟨E,H⟩|⟨E,H⟩)
  ·exact⟨E,by rw[H];rfl⟩
  ·refine⟨E,?_⟩;rw[qn]
   right
   simp only[e3,decide_eq_true_eq];exact⟨E,H⟩
theorem ass {n:Nat}:e6 (mN n λ_=>false)=λ_=>False:=by
 funext i
 apply propext;rw[N4];simp
theorem ast {d:Day}{f:Nat->Nat}{h:Nat->Rat}{p:Nat->Bool}{n:Nat}(hm:xy d f h p n=true):lL n (λi=>if np d f h p n i then 0 else 1)<lL n λi=>if p i then 0 else 1:=by
 unfold xy at hm;rw[List.any_eq_true] at hm;obtain⟨j,ag,H⟩:=hm;have ag:=hn.1 ag;simp only[e3,Bool.not_eq_true'] at H;refine Vj (j:=j) (λi L=>?_) ag ?_
 ·unfold np
  cases p i
  ·try dsimp only
   split<;>simp
  ·simp
 ·unfold np;rw[H.1,H.2,kH ag]
  decide
theorem asu {d:Day}{f:Nat->Nat}{h:Nat->Rat}{p:Nat->Bool}{n:Nat}(hm:xy d f h p n=false){i:Nat}(L:i<n)(E:f i<10)(H:d.U i (f i)<h i):p i=true:=by
 unfold xy at hm;rw[List.any_eq_false] at hm;have:=hm i (hn.2 L);unfold uu at this;rw[kH E,kH H] at this
 simpa using this
def gk (cs:List ar)(x:Rat)(c:ar):Rat:=if ((ca cs c.1 (c.2.2.1+1):Int):Rat)<=x then (c.2.2.2:Rat) else (c.2.2.2:Rat)/((ia cs c.1 c.2.2.1:Int):Rat)*pos (x-((ca cs c.1 c.2.2.1:Int):Rat))
theorem V7 {cash:List Int}{cs:List ar}(h:hI cash cs=true)(x:Nat->Rat){c:ar}(G:c∈cs):(aB cash cs).hy x (cm c)=gk cs (x c.1.toNat) c:=by
 have Y:=(g2.1 h).2.2.2 c G;obtain⟨aH,c2,c3,c4⟩:=c;dsimp only at Y;obtain⟨aH,rfl⟩:∃k:Nat,aH=(k:Int):=⟨aH.toNat,by omega⟩
 obtain⟨c3,rfl⟩:∃k:Nat,c3=(k:Int):=⟨c3.toNat,by omega⟩
 unfold Day.hy gk Day.w;have E:=s0 h aH (c3+1);have H:=s0 h aH c3;have ab:=ND h aH c3;have aA:(cm ((aH:Int),c2,(c3:Int),c4)).ax=aH:=gZ aH;have ay:(cm ((aH:Int),c2,(c3:Int),c4)).rk=c3:=gZ c3;have cV:(cm ((aH:Int),c2,(c3:Int),c4)).am=(c4:Rat):=rfl;rw[aA,ay,cV,<-E,<-H,<-ab]
 rfl
structure k8 (l:List ar):Prop where
 len:(D l)<=12
 c:∀c∈l,0<=c.1/\c.1<60 /\ -1<=c.2.1/\c.2.1<60/\0<=c.2.2.1/\c.2.2.1<10/\0<=c.2.2.2/\c.2.2.2<=1000000000000000
 one:∀c∈l,∀c'∈l,c.1=c'.1
theorem k8.cs {l:List ar}(h:k8 l):FH l:=⟨by have:=h.len;omega,λc G=>by have:=h.c c G;omega⟩
def k9 {α:Type}(enc:α->List M)(l:List α):List M:=(l.map enc).flatten
theorem asv {α:Type}{enc:α->List M}{sz:Nat}(h:∀a,(enc a).length=sz)(l:List α):(k9 enc l).length=D l*sz:=by
 unfold k9
 induction l with
 |nil=>simp
 |cons a l aw=>rw[eY,ko,hj,aw,h,List.length_cons,r1];omega
theorem afn {α:Type}{enc:α->List M}{sz:Nat}(h:∀a,(enc a).length=sz):∀(l:List α) (i:Nat),i<(D l)->∀b,ho (i*sz) (k9 enc l)++enc b++hR (i*sz+sz) (k9 enc l)=k9 enc (l.set i b)
 | [],i,L,b=>absurd L (by simp)
 |a::l,0,_,b=>by
  have aZ:=h a;unfold k9;simp only[Nat.zero_mul,Nat.zero_add,nK,iJ,eY,ko,qE];rw[<-aZ,List.drop_left]
 |a::l,i+1,L,b=>by
  have aZ:=h a;have aw:=afn h l i (by simpa using L) b;unfold k9 at aw ⊢;simp only[eY,ko,E4];rw[<-aw,r1,List.take_append,oc,aZ];rw[dE (by omega),lq (by omega),iJ];rw[show i*sz+sz-sz=i*sz by omega,show i*sz+sz+sz-sz=i*sz+sz by omega]
  simp only[gK]
def bq {α:Type}(n:Nat)(q:Nat->α):List α:=(dQ n).map q
theorem gl {α:Type}(n:Nat)(q:Nat->α):(bq n q).length=n:=by simp[bq]
theorem ig {α:Type}{n i:Nat}(q:Nat->α)(h:i<n):(bq n q)[i]?=some (q i):=by
 unfold bq;rw[bd,r0 h];rfl
theorem V8 {α:Type}{n:Nat}{l:List α}{q:Nat->α}(aq:(D l)=n)(h:∀i,i<n->l[i]?=some (q i)):l=bq n q:=by
 apply q6;intro i;rcases hK i n with L|L
 ·rw[h i L,ig q L]
 ·rw[lr (by omega),lr (by rw[gl];exact L)]
theorem y9 {α:Type}{n i:Nat}(q:Nat->α)(b:α):(bq n q).set i b=bq n λj=>if j=i then b else q j:=by
 refine V8 (by rw[iM,gl]) λj ag=>?_;rw[kz]
 by_cases h:i=j
 ·rw[Z h,Z (by rw[gl];omega),Z h.symm]
 ·rw[aa h,ig _ ag,aa (Ne.symm h)]
theorem jR {α:Type}{n:Nat}{p q:Nat->α}(h:∀i,i<n->p i=q i):bq n p=bq n q:=m5 λi L=>h i (hn.1 L)
def p4:Option bS->List M
 |none=>[.I (.int .i64 0),.nil,.I (.int .i64 0),.nil]
 |some f=>(aK f).map .I
theorem afo:∀a,(p4 a).length=4
 |none=>rfl
 |some _=>rfl
theorem afp (n:Nat):(ep n [M.I (.int .i64 0),M.nil,M.I (.int .i64 0),M.nil]).flatten=k9 p4 (bq n λ_=>none):=by
 unfold k9 bq;rw[oN]
 congr 1
 apply q6;intro i;rw[bd];rcases hK i n with L|L
 ·rw[r0 L,afq,Z L];rfl
 ·rw[lr (by simpa using L),lr (by simpa using L)];rfl
theorem afr (l:List bS):k9 p4 (l.map some)=aY aK l:=by
 unfold k9 aY
 induction l with
 |nil=>rfl
 |cons f l aw =>
  simp only[eY,ko,k0];rw[aw];rfl
theorem V9 {n i:Nat}{q:Nat->Option bS}(h:i<n):(i*4+4<=(k9 p4 (bq n q)).length)=True:=eq_true (by rw[asv afo,gl];omega)
theorem Wa {n i:Nat}{q:Nat->Option bS}(h:i<n)(a:Int)(b:List Int)(c:Int)(d:List Int):
  ho (i*4) (k9 p4 (bq n q))++[M.I (.int .i64 a),.I (.ae (b.map af)),.I (.int .i64 c),.I (.ae (d.map af))]++hR (i*4+4) (k9 p4 (bq n q))=k9 p4 (bq n λj=>if j=i then some ((a,b),(c,d)) else q j):=by
 rw[<-y9];exact afn afo (bq n q) i (by rw[gl];exact h) (some ((a,b),(c,d)))
structure JY (l:List ar) (x:Rat):Prop where
 own:k8 l
 pos:0<=x
 sz:eB 460 x
theorem k8.less {l:List ar}(h:k8 l){c:ar}(G:c∈l)(r:Int):(ck l λc'=>if c'.2.2.1<r then c'.2.2.2 else 0)=ca l c.1 r:=by
 unfold ca;refine Fx λc' nG=>?_;have:=h.one c' nG c G
 by_cases E:c'.2.2.1<r
 ·rw[Z E,Z ⟨this,E⟩]
 ·rw[aa E,aa λh=>E h.2]
theorem Wb (l:List ar)(aO bz:ar->Int):ck l (λc=>aO c+bz c)=ck l aO+ck l bz:=by
 induction l with
 |nil=>simp[ck]
 |cons c l aw=>simp only[ck,aw];omega
theorem k8.same {l:List ar}(h:k8 l){c:ar}(G:c∈l)(r:Int):(ck l λc'=>if c'.2.2.1=r then c'.2.2.2 else 0)=ia l c.1 r:=by
 have E:=h.less G r;have H:=h.less G (r+1)
 have ab:(ck l λc'=>if c'.2.2.1<r+1 then c'.2.2.2 else 0)=(ck l λc'=>if c'.2.2.1<r then c'.2.2.2 else 0)+ck l λc'=>if c'.2.2.1=r then c'.2.2.2 else 0:=by
  rw[<-Wb];refine Fx λc _=>?_
  by_cases cF:c.2.2.1<r
  ·rw[Z (by omega),Z cF,aa (by omega)];omega
  ·rw[aa cF]
   by_cases dk:c.2.2.1=r
   ·rw[Z (by omega),Z dk];omega
   ·rw[aa (by omega),aa dk];omega
 unfold ia;omega
theorem k8.bound {l:List ar}(h:k8 l)(p:ar->Prop)[DecidablePred p]:0<=ck l (λc=>if p c then c.2.2.2 else 0)/\ck l (λc=>if p c then c.2.2.2 else 0)<=12000000000000000:=by
 have:=Vl (cs:=l) (aO:=λc=>if p c then c.2.2.2 else 0) (B:=1000000000000000) (by omega) λc G=>by
  have:=h.c c G
  try dsimp only
  split<;>omega
 have:=h.len;omega
theorem asw (cs:List ar)(i r:Int):ia cs i r=ck cs λc=>if c.1=i/\c.2.2.1=r then c.2.2.2 else 0:=by
 have ab:ca cs i (r+1)=ca cs i r+ck cs λc=>if c.1=i/\c.2.2.1=r then c.2.2.2 else 0:=by
  unfold ca;rw[<-Wb];refine Fx λc _=>?_
  split<;>split<;>split<;>omega
 unfold ia;omega
theorem asx {cs:List ar}{aO:ar->Int}(h:∀c∈cs,0<=aO c){c:ar}(G:c∈cs):aO c<=ck cs aO:=by
 induction cs with
 |nil=>cases G
 |cons a l aw =>
  simp only[ck];have ai:=h a ha
  have E:0<=ck l aO:=by
   have:∀l:List ar,(∀c∈l,0<=aO c)->0<=ck l aO:=by
    intro l
    induction l with
    |nil=>intro _;exact FG _
    |cons b l NJ=>intro aQ;simp only[ck];have:=aQ b ha;have:=NJ λc G=>aQ c (hY _ G);omega
   exact this l λc G=>h c (hY _ G)
  rcases List.mem_cons.1 G with rfl|G
  ·omega
  ·have:=aw (λc G=>h c (hY _ G)) G;omega
theorem afs {cs:List ar}(h:∀c∈cs,0<=c.2.2.2){c:ar}(G:c∈cs):c.2.2.2<=ia cs c.1 c.2.2.1:=by
 rw[asw];have:=asx (aO:=λc'=>if c'.1=c.1/\c'.2.2.1=c.2.2.1 then c'.2.2.2 else 0) (λc' nG=>by have:=h c' nG;split<;>omega) G;rwa [Z ⟨rfl,rfl⟩] at this
section
variable {cs:List ar} {x:Rat} {c:ar}
theorem N5 (cs:List ar)(i r:Int):((ca cs i (r+1):Int):Rat)=((ca cs i r:Int):Rat)+((ia cs i r:Int):Rat):=by
 rw[<-sZ]
 congr 1
 unfold ia;omega
theorem aft (aG:∀c∈cs,0<=c.2.2.2)(G:c∈cs)(h:x-((ca cs c.1 c.2.2.1:Int):Rat)<=0):gk cs x c=0:=by
 unfold gk;have E:=afs aG G;have H:=aG c G;rw[N5]
 split
 ·rename_i ab
  have aM:((ia cs c.1 c.2.2.1:Int):Rat)<=((0:Int):Rat):=by
   have:((0:Int):Rat)=0:=rfl;rw[this];generalize ((ca cs c.1 c.2.2.1:Int):Rat)=u at *;grind
  have bj:ia cs c.1 c.2.2.1<=0:=by exact_mod_cast aM
  rw[show c.2.2.2=0 by omega];rfl
 ·rw[sU h,l8]
theorem asy (h:((ia cs c.1 c.2.2.1:Int):Rat)<=x-((ca cs c.1 c.2.2.1:Int):Rat)):gk cs x c=(c.2.2.2:Rat):=by
 unfold gk;rw[N5,Z];generalize ((ca cs c.1 c.2.2.1:Int):Rat)=u at *;generalize ((ia cs c.1 c.2.2.1:Int):Rat)=s at *;grind
theorem afu (ai:0<=x-((ca cs c.1 c.2.2.1:Int):Rat))(h:x-((ca cs c.1 c.2.2.1:Int):Rat)<((ia cs c.1 c.2.2.1:Int):Rat)):gk cs x c=(c.2.2.2:Rat)*(x-((ca cs c.1 c.2.2.1:Int):Rat))/((ia cs c.1 c.2.2.1:Int):Rat):=by
 unfold gk;rw[N5,aa,sT ai]
 ·generalize ((ca cs c.1 c.2.2.1:Int):Rat)=u at *;generalize ((ia cs c.1 c.2.2.1:Int):Rat)=s at *;grind
 ·generalize ((ca cs c.1 c.2.2.1:Int):Rat)=u at *;generalize ((ia cs c.1 c.2.2.1:Int):Rat)=s at *;grind
end
theorem rM {n:Int}(h:dz n):dI (n:Rat):=⟨by rw[afj];exact wY h,by rw[afk];decide +kernel⟩
theorem asz {x:Rat}:decide (x.num.sign<=0)=decide (x<=0):=by
 have:x.num.sign<=0↔x<=0:=by
  rw[Int.sign_nonpos_iff,Rat.le_iff,JR,JQ];omega
 rw[decide_eq_decide];exact this
theorem asA {x:Rat}:decide (x.num.sign<0)=decide (x<0):=by
 have:x.num.sign<0↔x<0:=by
  rw[ae9,V0,JR,JQ];omega
 rw[decide_eq_decide];exact this
def ih:ar:=(0,0,0,0)
def CI (l:List ar)(x:Rat)(j:Nat):bS:=aE (gk l x (l.getD j ih))
theorem asB (l:List ar)(x:Rat):(bq (D l) λj=>some (CI l x j))=(l.map λc=>aE (gk l x c)).map some:=by
 symm
 refine V8 (by simp) λi L=>?_;rw[bd,bd,bx L];unfold CI;rw[pe (bx L)];rfl
end Go.Mini
namespace Go.Mini
open Classical
theorem asC {d e:Day}(X:d.cT)(he:e.cT)(aG:e.n=d.n)(afv:e.cash=d.cash)(a b:List dL)(gx aH:dL)(dF:d.cN=a++gx::b)(Wc:e.cN=a++aH::b)(bK:aH.ax=gx.ax)(nq:∀c∈d.cN,c.ax=gx.ax->c.to<0)(aDf:aH.to<0):∀i,i<d.n->d.db i=e.db i:=by
 have kY:∀k r,k≠gx.ax->d.U k r=e.U k r:=λk r J=>by
  unfold Day.U;rw[dF,Wc,vI,vI,b4,b4,aa (λh=>J h.1.symm),aa (λh=>J (by rw[<-h.1,bK]))]
 have cv:∀k r,k≠gx.ax->d.S k r=e.S k r:=λk r J=>by
  unfold Day.S;rw[dF,Wc,vI,vI,b4,b4,aa (λh=>J h.1.symm),aa (λh=>J (by rw[<-h.1,bK]))]
 have lN:∀(x:Nat->Rat) c,c.ax≠gx.ax->d.hy x c=e.hy x c:=λx c h=>by
  unfold Day.hy Day.w;rw[kY _ _ h,kY _ _ h,cv _ _ h]
 have afw:∀x i,d.pY x i=e.pY x i:=λx i=>by
  unfold Day.pY Day.eG;rw[afv,dF,Wc,vI,vI,b4,b4,aa (show ¬ gx.to=(i:Int) from by have:=nq gx (by rw[dF];simp) rfl;omega),aa (show ¬ aH.to=(i:Int) from by omega)]
  congr 1
  have aC:∀l:List dL,(∀c∈l,c∈d.cN)->b4 l (λc=>if c.to=(i:Int) then d.hy x c else 0)=b4 l (λc=>if c.to=(i:Int) then e.hy x c else 0):=λl aq=>uj λc G=>by
   split
   ·rename_i h;exact lN x c λH=>by have:=nq c (aq c G) H;omega
   ·rfl
  rw[aC a λc G=>by rw[dF];simp[G],aC b λc G=>by rw[dF];simp[G]]
 intro i L;have E:=ae1 he (z:=d.db) (λi L=>by rw[<-afw];exact y1 ((FJ X).1 i (by omega))) i (by omega);have H:=ae1 X (z:=e.db) (λi L=>by rw[afw];exact y1 ((FJ he).1 i (by omega))) i L;grind
def me (u s a x:Rat):Rat:=if u+s+a<=x then a else a/(s+a)*pos (x-u)
theorem Wd {a b z:Rat}(ad:0<b)(h:a<=z*b):a/b<=z:=by
 have e:a/b*b=a:=afx (by grind);exact afy (by rw[e];exact h) ad
theorem N6 {a b z:Rat}(ad:0<b)(h:z*b<=a):z<=a/b:=by
 have e:a/b*b=a:=afx (by grind);exact afy (by rw[e];exact h) ad
theorem FL (a b p:Rat):a/b*p=a*p/b:=by rw[sS,sS];grind
section
variable {u s a x:Rat} (Q:0<=s) (aZ:0<=a)
include Q aZ
theorem afz:0<=me u s a x:=by
 unfold me
 split
 ·exact aZ
 ·rw[FL]
  by_cases h:0<s+a
  ·exact N6 h (by rw[y2];exact Rat.mul_nonneg aZ (xt _))
  ·have:s+a=0:=by grind
   rw[this,sS,N7,l8];exact fQ
theorem afA:me u s a x<=a:=by
 unfold me
 split
 ·exact fQ
 ·rename_i E;rw[FL]
  by_cases h:0<s+a
  ·refine Wd h (N8 ?_ aZ);unfold pos
   split<;>grind
  ·have:s+a=0:=by grind
   rw[this,sS,N7,l8];exact aZ
theorem afB:me u s a x<=pos (x-u):=by
 unfold me
 split
 ·have:=JD (x-u);grind
 ·rw[FL]
  by_cases h:0<s+a
  ·refine Wd h ?_;rw[Rat.mul_comm];exact N8 (by grind) (xt _)
  ·have:s+a=0:=by grind
   rw[this,sS,N7,l8];exact xt _
end
theorem asD {u s a eS x:Rat}(Q:0<=s)(aZ:0<=a)(h:a<=eS):me u s a x<=me u s eS x:=by
 by_cases E:u+s+eS<=x
 ·have:=afA (u:=u) (x:=x) Q aZ;have e:me u s eS x=eS:=Z E;grind
 ·have e:me u s eS x=eS*pos (x-u)/(s+eS):=by unfold me;rw[aa E,FL]
  by_cases H:u+s+a<=x
  ·have ay:me u s a x=a:=Z H;rw[e,ay,sT (by grind)];refine N6 (by grind) ?_;have cF:eS*(s+a)<=eS*(x-u):=N8 (by grind) (by grind);have dk:a*s<=eS*s:=N9 h Q;grind
  ·have ay:me u s a x=a*pos (x-u)/(s+a):=by unfold me;rw[aa H,FL]
   by_cases ai:0<s+a
   ·rw[e,ay];refine Wd ai ?_;rw[sS];have e5:=xt (x-u);have dk:a*s<=eS*s:=N9 h Q;have dN:a*(s+eS)<=eS*(s+a):=by grind
    have hH:=N9 dN e5;have k5:a*pos (x-u)<=(eS*pos (x-u)*(s+a))/(s+eS):=N6 (by grind) (by grind);rw[sS] at k5;grind
   ·have ab:s+a=0:=by grind
    have cV:me u s a x=0:=by rw[ay,ab,sS,N7,l8]
    rw[cV];exact afz Q (by grind)
theorem asE {u s a yw r8 eS x:Rat}(Q:0<=s)(aZ:0<=a)(hE:0<=r8)(h:a<=eS)(hu:yw+r8<=u):me u s a x<=me yw r8 eS x:=by
 by_cases E:yw+r8+eS<=x
 ·have:=afA (u:=u) (x:=x) Q aZ;have e:me yw r8 eS x=eS:=Z E;grind
 ·by_cases H:x<=u
  ·have cF:=afB (u:=u) (x:=x) Q aZ;rw[sU (by grind)] at cF;have dk:=afz (u:=yw) (x:=x) hE (show 0<=eS by grind);grind
  ·have e:me yw r8 eS x=eS*pos (x-yw)/(r8+eS):=by unfold me;rw[aa E,FL]
   have cF:=afB (u:=u) (x:=x) Q aZ;rw[sT (by grind)] at cF;rw[e,sT (by grind)];refine sY cF (N6 (by grind) ?_);have dN:eS*(x-u+r8)<=eS*(x-yw):=N8 (by grind) (by grind);have hH:(x-u)*r8<=eS*r8:=N9 (by grind) hE;grind
theorem afC (cs:List ar)(x:Rat)(c:ar):gk cs x c=me ((ca cs c.1 c.2.2.1:Int):Rat) (((ia cs c.1 c.2.2.1:Int):Rat)-(c.2.2.2:Rat)) (c.2.2.2:Rat) x:=by
 unfold gk me;rw[N5];have e:∀u s a:Rat,u+(s-a)+a=u+s:=λu s a=>by grind
 have ay:∀s a:Rat,s-a+a=s:=λs a=>by grind
 rw[e,ay]
theorem afD (A B:List ar)(c:ar)(i r:Int):ca (A++c::B) i r=ca (A++B) i r+if c.1=i/\c.2.2.1<r then c.2.2.2 else 0:=by
 unfold ca;rw[Cx,Cx];simp only[ck];omega
theorem afE {cs:List ar}(h:∀c∈cs,0<=c.2.2.2)(i:Int){r s:Int}(x8:r<=s):ca cs i r<=ca cs i s:=by
 unfold ca
 induction cs with
 |nil=>exact FG _
 |cons c l aw =>
  have E:=aw λx O=>h x (hY _ O);have H:=h c ha;simp only[ck]
  split<;>split<;>omega
theorem asF {A B:List ar}{c c':ar}(aG:∀x∈A++B,0<=x.2.2.2)(ai:0<=c.2.2.2)(bK:c'.1=c.1)(gH:c'.2.2.1<=c.2.2.1)(sX:c.2.2.2<=c'.2.2.2)(x:Rat):gk (A++c::B) x c<=gk (A++c'::B) x c':=by
 have Q:∀r,0<=ia (A++B) c.1 r:=λr=>by
  have:=afE aG c.1 (show r<=r+1 by omega);unfold ia;omega
 have aA:∀d:ar,d.1=c.1->ca (A++d::B) d.1 d.2.2.1=ca (A++B) c.1 d.2.2.1/\ia (A++d::B) d.1 d.2.2.1=ia (A++B) c.1 d.2.2.1+d.2.2.2:=λd X=>by
  unfold ia;rw[afD,afD,X,aa (by omega),Z ⟨rfl,by omega⟩]
  constructor<;>omega
 rw[afC,afC,(aA c rfl).1,(aA c rfl).2,(aA c' bK).1,(aA c' bK).2,sZ,sZ];have ay:∀s a:Rat,s+a-a=s:=λs a=>by grind
 rw[ay,ay];have q:∀z:Int,0<=z->(0:Rat)<=(z:Rat):=λz h=>by exact_mod_cast h
 have afF:(c.2.2.2:Rat)<=(c'.2.2.2:Rat):=We.2 sX
 by_cases Y:c'.2.2.1=c.2.2.1
 ·rw[Y];exact asD (q _ (Q _)) (q _ ai) afF
 ·refine asE (q _ (Q _)) (q _ ai) (q _ (Q _)) afF ?_;rw[<-sZ];refine We.2 ?_;have:=afE aG c.1 (show c'.2.2.1+1<=c.2.2.1 by omega);unfold ia;omega
end Go.Mini
namespace Go.Mini
open Classical
section
variable {d:Day} (X:d.cT)
include X
end
end Go.Mini
namespace Go.Mini
open Classical
def Day.times (d:Day)(k:Rat):Day:=⟨d.n,λi=>k*d.cash i,d.cN.map λc=>⟨c.ax,c.to,c.rk,k*c.am⟩⟩
section
variable {d:Day} (X:d.cT) {k:Rat} (J:0<k)
include J
end
section
variable {d:Day} (X:d.cT) (jQ:Nat)
include X
end
end Go.Mini
namespace Go.Mini
open Classical
theorem afG {d:Day}(X:d.cT){f:Nat->Nat}{g:Nat->Rat}(L:Inv d f g):∀m (P:Nat->Prop),idle d P<=m->hZ d f g P (d.eI f P)->∃P,rJ d f P/\∀i,i<d.n->d.eI f P i=d.top f i
 |m,P,hm,aC=>by
  by_cases Q:∀i,i<d.n->f i<10->d.U i (f i)<d.eI f P i->P i
  ·exact⟨P,⟨X,g,L,aC⟩,aC.aew X L Q⟩
  ·have⟨i,E,H,ab,aM⟩:∃i,i<d.n/\f i<10/\d.U i (f i)<d.eI f P i/\¬ P i:=by
    apply kC;intro aG;exact Q λi E H ab=>kC λaM=>aG ⟨i,E,H,ab,aM⟩
   have ao:=aev (h:=d.eI f P) E H ab aM
   cases m with
   |zero=>omega
   |succ m=>exact afG X L m _ (by omega) (aC.succ X L)
theorem Wf {d:Day}(X:d.cT){f:Nat->Nat}(Y:Reach d f):∃P,rJ d f P/\∀i,i<d.n->d.eI f P i=d.top f i:=by
 obtain⟨g,L,-⟩:=Y;exact afG X L _ _ (bM _) (hZ.first X L)
section
variable {cash:List Int} {cs:List ar} (Q:fF cash cs)
include Q
theorem afH {f:Nat->Nat}(Y:Reach (aB cash cs) f){i:Nat}(L:i<D cash):eB 428 ((aB cash cs).top f i):=by
 obtain⟨P,aC,he⟩:=Wf Q.ok Y;rw[<-he i L];exact aeL Q aC L
theorem Oa {i:Nat}(L:i<D cash):eB 428 ((aB cash cs).db i):=afH Q (FI Q.ok).1 L
theorem asG {i:Nat}(L:i<D cash):(aB cash cs).db i<=((2^54:Nat):Rat):=by
 obtain⟨P,aC,he⟩:=Wf Q.ok (FI Q.ok).1;have:=(NR Q aC L).2;rw[he i L] at this;exact this
theorem afI:∃a5:Nat,0<a5/\(∃a,a<=330/\a5<=2^a)/\∀i,i<(D cash)->eJ a5 ((aB cash cs).db i):=by
 obtain⟨P,aC,he⟩:=Wf Q.ok (FI Q.ok).1;obtain⟨a5,E,H,ab⟩:=aeK Q aC;refine⟨a5,E,H,λi L=>?_⟩;have:=ab i L;rw[he i L] at this;exact this
end
section
variable {d:Day} (X:d.cT)
include X
end
def uv (cash:List Int)(cs:List ar)(k:Nat):Nat:=if (aB cash cs).oA k<10 then hJ cs k ((aB cash cs).oA k) else 1
section
variable {cash:List Int} {cs:List ar} (Q:fF cash cs)
include Q
theorem afJ {k:Nat}(J:k<D cash):0<uv cash cs k:=by
 unfold uv
 split
 ·rename_i h;obtain⟨g,E,-⟩:=NW Q.ok;have H:=E.qI (i:=k) J h;rw[<-CD Q.right] at H;exact_mod_cast H
 ·omega
theorem afK (k:Nat):uv cash cs k<=2^54:=by
 unfold uv
 split
 ·exact Q.CE _ _
 ·exact V5
theorem afL {a5:Nat}(l0:∀i,i<(D cash)->eJ a5 ((aB cash cs).db i)){c:ar}(G:c∈cs):eJ (a5*uv cash cs (cm c).ax) ((aB cash cs).hy (aB cash cs).db (cm c)):=by
 have X:=Q.ok;have gr:cm c∈(aB cash cs).cN:=vD G;have J:(cm c).ax<D cash:=X.ax _ gr;have sX:∀N,eJ N (cm c).am:=λN=>eJ.int N c.2.2.2;have aR:∀N,eJ N (0:Rat):=eJ.zero;have kY:=λr s=>@Day.cT.vy _ X (cm c).ax r s;have gH:=X.rk _ gr;have jt:=ae0 X _ J;unfold Day.hy
 by_cases E:(aB cash cs).U (cm c).ax ((cm c).rk+1)<=(aB cash cs).db (cm c).ax
 ·rw[Z E];exact sX _
 ·rw[aa E]
  have aJ:(aB cash cs).oA (cm c).ax<10:=by
   refine ((FJ X).2 _ J).2 ?_;have:=kY ((cm c).rk+1) 10 (by omega);grind
  have ao:(aB cash cs).db (cm c).ax<(aB cash cs).U (cm c).ax ((aB cash cs).oA (cm c).ax+1):=by
   obtain⟨g,cF,-,dN⟩:=NW X;have:=cF.L _ J aJ;have:=dN _ J;grind
  rcases Nat.lt_trichotomy (cm c).rk ((aB cash cs).oA (cm c).ax) with H|H|H
  ·have:=kY ((cm c).rk+1) ((aB cash cs).oA (cm c).ax) (by omega);exact absurd (sY this jt) E
  ·have hw:eJ (uv cash cs (cm c).ax) ((aB cash cs).w (cm c)):=by
    unfold uv;rw[Z aJ];refine⟨c.2.2.2,?_⟩;rw[CD Q.right,<-H]
    have:0<(aB cash cs).S (cm c).ax (cm c).rk:=by
     have:=(aB cash cs).xr (cm c).ax ((aB cash cs).oA (cm c).ax);rw[H];grind
    exact Day.Fq this
   have Ob:eJ a5 ((aB cash cs).db (cm c).ax-(aB cash cs).U (cm c).ax (cm c).rk):=by
    refine (l0 _ J).sub ?_;rw[<-s0 Q.right];exact eJ.int _ _
   rw[sT (by rw[H];grind),Nat.mul_comm];exact hw.mul Ob
  ·have:=kY ((aB cash cs).oA (cm c).ax+1) (cm c).rk (by omega);rw[sU (by grind),l8];exact aR _
theorem afM {c:ar}(G:c∈cs):eB 482 ((aB cash cs).hy (aB cash cs).db (cm c)):=by
 obtain⟨a5,E,⟨a,H,ab⟩,aM⟩:=afI Q;have gr:cm c∈(aB cash cs).cN:=vD G;have J:(cm c).ax<D cash:=Q.ok.ax _ gr;have bj:=afL Q aM G;have bH:=afJ Q J;have bA:=afK Q (cm c).ax;have bT:a5*uv cash cs (cm c).ax<=2^(a+54):=by rw[Nat.pow_add];exact Nat.mul_le_mul ab bA
 have ix:=Q.ok.adp (aB cash cs).db gr
 have fH:(aB cash cs).hy (aB cash cs).db (cm c)<=((2^50:Nat):Rat):=by
  refine sY (Q.ok.Va _ gr) ?_;have:=Q.am c G;show ((c.2.2.2:Int):Rat)<=_;have:c.2.2.2<=((2^50:Nat):Int):=by omega
  rw[<-nm];exact We.2 this
 exact (bj.sz (Nat.mul_pos E bH) bT ix fH).mono (by omega)
end
end Go.Mini
namespace Go.Mini
open Go
def eO (cs:List ar)(jQ:Int):List ar:=cs.filter λc=>c.1==jQ
theorem asH (cs:List ar)(jQ:Int)(p:ar->Prop)[DecidablePred p]:ck (eO cs jQ) (λc=>if c.1=jQ/\p c then c.2.2.2 else 0)=ck cs λc=>if c.1=jQ/\p c then c.2.2.2 else 0:=by
 unfold eO
 induction cs with
 |nil=>rfl
 |cons c l aw =>
  by_cases h:c.1=jQ
  ·rw[xv (by simpa using h)];simp only[ck,aw]
  ·rw[xw (by simpa using h),aw];simp only[ck];rw[aa λaQ=>h aQ.1];omega
theorem afN (cs:List ar)(jQ r:Int):ca (eO cs jQ) jQ r=ca cs jQ r:=asH cs jQ λc=>c.2.2.1<r
theorem AU {cs:List ar}{jQ:Int}{c:ar}:c∈eO cs jQ↔c∈cs/\c.1=jQ:=by
 unfold eO;rw[Fw,beq_iff_eq]
theorem asI {cs:List ar}{jQ:Int}{x:Rat}{c:ar}(h:c.1=jQ):gk (eO cs jQ) x c=gk cs x c:=by
 unfold gk ia;rw[h,afN,afN]
theorem asJ (cs:List ar)(jQ:Int)(x:Rat):((eO cs jQ).map λc=>aE (gk (eO cs jQ) x c))=(eO cs jQ).map λc=>aE (gk cs x c) :=
 m5 λc G=>by rw[asI (AU.1 G).2]
theorem fF.own {cash:List Int}{cs:List ar}(h:fF cash cs)(jQ:Int):k8 (eO cs jQ):=by
 have Y:=g2.1 h.right;have aG:=h.k7;refine⟨?_,λc G=>?_,λc G c' nG=>?_⟩
 ·have:=rK (λc:ar=>c.1==jQ) cs;have:=h.vF;unfold eO;omega
 ·have E:=Y.2.2.2 c (AU.1 G).1;have H:=h.am c (AU.1 G).1;omega
 ·rw[(AU.1 G).2,(AU.1 nG).2]
theorem afO (n:Nat):((hX n).map M.I).all M.one=true:=rfl
def s9 (d:Day)(f:Nat->Nat)(h:Nat->Rat)(i:Nat):List Nat:=(dQ i).filter λj=>decide (h j<d.U j (f j))
theorem asK (d:Day)(f:Nat->Nat)(h:Nat->Rat)(i:Nat):s9 d f h (i+1)=if h i<d.U i (f i) then s9 d f h i++[i] else s9 d f h i:=by
 unfold s9;rw[pd,y6]
 by_cases aQ:h i<d.U i (f i)
 ·rw[Z aQ,xv (by simpa using aQ),s6]
 ·rw[aa aQ,xw (by simpa using aQ),s6,hO]
theorem asL (d:Day)(f:Nat->Nat)(h:Nat->Rat)(i:Nat):(s9 d f h i).length<=i:=by
 have:=rK (λj=>decide (h j<d.U j (f j))) (dQ i);rw[q9] at this;exact this
end Go.Mini
namespace Go.Mini
open Classical
def jk (d:Day)(l:List ar)(i:Nat):Rat:=b4 (l.map cm) λc=>if c.to=(i:Int) then d.w c else 0
theorem asM (d:Day)(i:Nat):jk d [] i=0:=rfl
theorem afP (d:Day)(l:List ar)(c:ar)(i:Nat):jk d (l++[c]) i=jk d l i+if c.2.1=(i:Int) then d.w (cm c) else 0:=by
 unfold jk;rw[k0,vI]
 congr 1
 show (if (cm c).to=(i:Int) then d.w (cm c) else 0)+0=_;rw[pa]
 rfl
theorem asN {cash:List Int}{cs:List ar}(h:hI cash cs=true)(f:Nat->Nat)(k i:Nat):jk (aB cash cs) (cL cs k (f k)) i=(aB cash cs).W f k i:=by
 have Y:=(g2.1 h).2.2.2;unfold jk Day.W;rw[VY λc G=>⟨(Y c G).1,(Y c G).2.2.2.2.1⟩];refine uj λc _=>?_
 by_cases E:c.ax=k/\c.rk=f k
 ·rw[Z E]
  by_cases H:c.to=(i:Int)
  ·rw[Z H,Z ⟨H,E⟩]
  ·rw[aa H,aa λh=>H h.1]
 ·rw[aa E,aa λh=>E h.2]
section
variable {cash:List Int} {cs:List ar} (Q:fF cash cs) {k r:Nat} (cv:0<(aB cash cs).S k r)
include Q cv
theorem Oc {c:ar}(G:c∈cL cs k r):eJ (hJ cs k r) ((aB cash cs).w (cm c))/\0<=(aB cash cs).w (cm c)/\(aB cash cs).w (cm c)=(c.2.2.2:Rat)/((ia cs k r:Int):Rat):=by
 obtain⟨E,H,ab⟩:=CG.1 G;have aA:(cm c).ax=k:=by show c.1.toNat=k;omega
 have ay:(cm c).rk=r:=by show c.2.2.1.toNat=r;omega
 have hm:cm c∈(aB cash cs).cN:=vD E;refine⟨⟨c.2.2.2,?_⟩,Q.ok.pX hm,?_⟩
 ·rw[CD Q.right,<-aA,<-ay];exact Day.Fq (by rw[aA,ay];exact cv)
 ·unfold Day.w ia;rw[aA,ay];have:=ND Q.right k r;rw[<-this]
  rfl
theorem asO {l:List ar}(aq:∃fw,cL cs k r=l++fw)(i:Nat):eB 54 (jk (aB cash cs) l i):=by
 obtain⟨fw,aq⟩:=aq;have gR:∀c∈l,c∈cL cs k r:=λc G=>by rw[aq];simp[G]
 have asP:∀c∈fw,c∈cL cs k r:=λc G=>by rw[aq];simp[G]
 have X:eJ (hJ cs k r) (jk (aB cash cs) l i):=by
  unfold jk;refine eJ.b4 λx O=>?_;obtain⟨c,G,rfl⟩:=fI.1 O
  split
  ·exact (Oc Q cv (gR c G)).1
  ·exact eJ.zero _
 have ai:∀m:List ar,(∀c∈m,c∈cL cs k r)->0<=jk (aB cash cs) m i:=λm hm=>xq λx O=>by
  obtain⟨c,G,rfl⟩:=fI.1 O
  try dsimp only
  split
  ·exact (Oc Q cv (hm c G)).2.1
  ·exact fQ
 have E:jk (aB cash cs) l i<=1:=by
  have e:jk (aB cash cs) (cL cs k r) i=jk (aB cash cs) l i+jk (aB cash cs) fw i:=by
   rw[aq];unfold jk;rw[k0,vI]
  have ay:jk (aB cash cs) (cL cs k r) i<=b4 ((cL cs k r).map cm) (aB cash cs).w:=Ct λx O=>by
   obtain⟨c,G,rfl⟩:=fI.1 O;have:=(Oc Q cv G).2.1
   split
   ·exact fQ
   ·exact this
  have Y:=(g2.1 Q.right).2.2.2;rw[VY λc G=>⟨(Y c G).1,(Y c G).2.2.2.2.1⟩] at ay
  have cV:b4 (cs.map cm) (λc=>if c.ax=k/\c.rk=r then (aB cash cs).w c else 0)=1:=by
   have J:k<(aB cash cs).n:=by
    obtain⟨c,G,aC⟩:=UZ cv
    by_cases mr:c.ax=k/\c.rk=r
    ·rw[<-mr.1];exact Q.ok.ax c G
    ·rw[aa mr] at aC;grind
   have:=Q.ok.JC (λj=>j=k) (λ_=>r) (λj ag=>by subst ag;exact cv) λ_=>1;rw[xp J (λj _ ag=>by rw[aa ag]),Z rfl] at this;refine (uj λc _=>?_).trans this
   by_cases G:c.ax=k/\c.rk=r
   ·rw[Z G,Z G,Rat.mul_one]
   ·rw[aa G,aa G]
  have:=ai fw asP;grind
 have gB:0<hJ cs k r:=by
  rw[<-CD Q.right] at cv;exact_mod_cast cv
 exact (X.sz gB (Q.CE k r) (ai l gR) (e:=0) (by rw[show ((2^0:Nat):Rat)=1 from rfl];exact E)).mono (by omega)
end
end Go.Mini
namespace Go.Mini
open Go
def jl (l:List ar):M:=if l=[] then .nil else .I (.ae (l.map bE))
theorem asQ {a b:List ar}(h:jl a=jl b):a=b:=by
 unfold jl at h
 by_cases aZ:a=[]<;>by_cases ad:b=[]
 ·rw[aZ,ad]
 ·rw[Z aZ,aa ad] at h;cases h
 ·rw[aa aZ,Z ad] at h;cases h
 ·rw[aa aZ,aa ad] at h;exact map_inj y7 _ _ (Data.ae.inj (M.I.inj h))
theorem afQ (l:List ar):pq (jl l)=some (D l):=by
 unfold jl
 split
 ·rename_i h;rw[h];rfl
 ·simp[pq]
theorem afR {l:List ar}{n:Nat}{c:ar}(h:l[n]?=some c):xO 4 n (jl l)=some (.I (.ptr (bE c))):=by
 unfold jl
 split
 ·rename_i aq;rw[aq] at h;cases h
 ·simp only[xO,bd,h,iW];rw[Z (p3 c)]
structure nr where
 cash:Int
 cN:List (List ar)
 us:List Int
 f:Int
 p:Bool
def ff (x:nr):List M:=dv x.cash::(x.cN.map jl++(x.us.map dv++[dv x.f,ki x.p]))
def nr.vJ (x:nr)(f:Int):nr:=⟨x.cash,x.cN,x.us,f,x.p⟩
def nr.sp (x:nr)(p:Bool):nr:=⟨x.cash,x.cN,x.us,x.f,p⟩
structure nr.cT (x:nr):Prop where
 cN:(D x.cN)=10
 us:(D x.us)=11
theorem AV {x:nr}(h:x.cT):(ff x).length=24:=by
 simp[ff,h.cN,h.us]
theorem asR {x y:nr}(O:x.cT)(ak:y.cT)(h:ff x=ff y):x=y:=by
 unfold ff at h;obtain⟨E,H⟩:=u6 h;obtain⟨ab,aM⟩:=D6 H (by rw[al,al,O.cN,ak.cN]);obtain⟨bj,bH⟩:=D6 aM (by rw[al,al,O.us,ak.us]);obtain⟨bA,bT⟩:=u6 bH;obtain⟨ix,-⟩:=u6 bT;obtain⟨bh,cd,c7,eZ,ij⟩:=x;obtain⟨sq,sr,CJ,CK,aDg⟩:=y;have ay:=map_inj (λa b h=>asQ h) _ _ ab;have cV:=afc bj;simp only[dv,ki,M.I.injEq,Data.int.injEq,Data.bool.injEq,true_and] at E bA ix;dsimp only at *;rw[E,ay,cV,bA,ix]
section
variable {x:nr} (h:x.cT)
include h
omit h in
theorem asS:ho 1 (ff x)=[dv x.cash]:=rfl
omit h in
theorem afS {k:Nat}{l:List ar}(J:x.cN[k]?=some l):ho 1 (hR (1+k) (ff x))=[jl l]:=by
 have ao:=(dM.1 J).1;unfold ff;rw[xL,AW,afT (by rw[al];omega),AA (by rw[pA,al];omega)];exact NZ (f:=jl) J
theorem JZ {k:Nat}{z:Int}(J:x.us[k]?=some z):ho 1 (hR (11+k) (ff x))=[dv z]:=by
 have ao:=(dM.1 J).1;unfold ff;rw[show 11+k=(10+k)+1 by omega,AW,oc,lq (by rw[al,h.cN];omega),al,h.cN,iJ,show 10+k-10=k by omega,afT (by rw[al];omega),AA (by rw[pA,al];omega)]
 exact NZ (f:=dv) J
theorem J0:ho 1 (hR 22 (ff x))=[dv x.f]:=by
 unfold ff;rw[AW,oc,lq (by rw[al,h.cN];omega),al,h.cN,iJ,oc,lq (by rw[al,h.us];omega),al,h.us]
 rfl
theorem afU:ho 1 (hR 23 (ff x))=[ki x.p]:=by
 unfold ff;rw[AW,oc,lq (by rw[al,h.cN];omega),al,h.cN,iJ,oc,lq (by rw[al,h.us];omega),al,h.us]
 rfl
theorem asT (f:Int):ho 22 (ff x)++[M.I (.int .i64 f)]++hR 23 (ff x)=ff (x.vJ f):=by
 have e:ff x=(dv x.cash::(x.cN.map jl++x.us.map dv))++[dv x.f,ki x.p]:=by simp[ff]
 have l:(dv x.cash::(x.cN.map jl++x.us.map dv)).length=22:=by simp[h.cN,h.us]
 rw[e,AA (by omega),dE (by omega),oc,lq (by omega),l];simp[ff,nr.vJ,dv]
theorem afV (p:Bool):ho 23 (ff x)++[M.I (.bool p)]++hR 24 (ff x)=ff (x.sp p):=by
 have e:ff x=(dv x.cash::(x.cN.map jl++(x.us.map dv++[dv x.f])))++[ki x.p]:=by simp[ff]
 have l:(dv x.cash::(x.cN.map jl++(x.us.map dv++[dv x.f]))).length=23:=by simp[h.cN,h.us]
 rw[e,AA (by omega),dE (by omega),oc,lq (by omega),l];simp[ff,nr.sp,ki]
end
structure cD where
 cash:List Int
 cs:List ar
 bc:List Int
 P:List Bool
 g:Nat
 gs:List Nat
def cD.fZ (a:cD)(i:Nat):nr:=⟨a.cash.getD i 0,bq 10 λk=>cL a.cs i k,bq 11 λk=>ca a.cs i (k:Nat),a.bc.getD i 10,a.P.getD i false⟩
theorem cD.vK (a:cD)(i:Nat):(a.fZ i).cT:=⟨gl _ _,gl _ _⟩
structure cD.eM (a:cD) (m:Mem):Prop where
 can:a.cs=c1 (D a.cash) a.cs
 bc:(D a.bc)=D a.cash
 pl:(D a.P)=D a.cash
 Od:(D a.gs)=D a.cash
 row:m 228023=some (a.g,bq (D a.cash) λi => .ptr (228500+i) (a.gs.getD i 0) 0)
 di:∀i,i<(D a.cash)->m (228500+i)=some (a.gs.getD i 0,ff (a.fZ i))
theorem J1 {α:Type}{d:α}{n:Nat}{a b:List α}(aZ:(D a)=n)(ad:(D b)=n)(h:∀i,i<n->a.getD i d=b.getD i d):a=b:=by
 apply q6;intro i;rcases hK i n with L|L
 ·have:=h i L;rw[ea,ea,bx (by omega),bx (by omega)] at this;rw[bx (by omega),bx (by omega)];exact congrArg some this
 ·rw[lr (by omega),lr (by omega)]
theorem afW {α:Type}{n:Nat}{p q:Nat->α}(h:bq n p=bq n q):∀i,i<n->p i=q i:=λi L=>by
 have E:=ig p L;rw[h,ig q L] at E;exact (m4 E).symm
theorem cD.uniq {a b:cD}{m:Mem}(h:a.eM m)(b2:b.eM m):a=b:=by
 obtain⟨c5,dK,fl,fP,nX,rL⟩:=a;obtain⟨dR,gQ,ox,s8,asj,afh⟩:=b;obtain⟨aH,c2,c3,c4,asU,asV⟩:=h;obtain⟨d1,d2,d3,d4,d5,d6⟩:=b2;dsimp only at *;rw[asU,b8,fv] at d5;obtain⟨rfl,e8⟩:=d5
 have aG:(D c5)=D dR:=by
  have:=congrArg D e8;rwa [gl,gl] at this
 rw[<-aG] at e8 d1 d2 d3 d4 d6
 have aU:rL=afh:=J1 (d:=0) c4 d4 λi L=>by
  have:=afW e8 i L;rw[M.ptr.injEq] at this;exact this.2.1
 subst aU
 have ad:∀i,i<(D c5)->cD.fZ ⟨c5,dK,fl,fP,nX,rL⟩ i=cD.fZ ⟨dR,gQ,ox,s8,nX,rL⟩ i:=λi L=>by
  have E:=asV i L;rw[d6 i L,b8,fv] at E;exact (asR (cD.vK _ _) (cD.vK _ _) E.2).symm
 simp only[cD.fZ,nr.mk.injEq] at ad;have aA:c5=dR:=J1 (d:=0) rfl aG.symm λi L=>(ad i L).1;subst aA
 have ay:dK=gQ:=by
  rw[aH,d1];exact aeU λi L k J=>afW (ad i L).2.1 k J
 have cV:fl=ox:=J1 (d:=10) c2 d2 λi L=>(ad i L).2.2.2.1;have da:fP=s8:=J1 (d:=false) c3 d3 λi L=>(ad i L).2.2.2.2;rw[ay,cV,da]
theorem cD.eM.ax {a:cD}{mem m:Mem}{n:Nat}(h:a.eM mem)(aJ:dS n mem m)(aG:n≠228)(bj:(D a.cash)<=6):a.eM m :=
 ⟨h.can,h.bc,h.pl,h.Od,by rw[aJ 228023 (by omega)];exact h.row,λi L=>by rw[aJ (228500+i) (by omega)];exact h.di i L⟩

abbrev J2:Int×Int×Int->List Data:=λ(x,a,b)=>[.int .i64 x,.int .i64 a,.int .i64 b]
def Oe:=cy J2 λ(x,a,b)=>some (.same (.bool (decide (a<=x)&&decide (x<=b))))
theorem Wg:∀a b,J2 a=J2 b->a=b:=by
  rintro⟨bh,c5,dR⟩ ⟨cd,dK,gQ⟩ h;simp only[bf,Data.int.injEq,Data.agg.injEq,Data.ae.injEq,Data.bool.injEq,Data.str.injEq,Data.ptr.injEq,Data.cq.injEq,fv,true_and,and_true] at h ⊢
  first|exact h|simpa [BL,and_assoc] using h|grind
@[go_sem] theorem aDh (x:Int)(a:Int)(b:Int):Oe [.int .i64 x,.int .i64 a,.int .i64 b]=some (.same (.bool (decide (a<=x)&&decide (x<=b)))):=cK Wg (x,a,b)
theorem asW (T:bk)  (x:Int) (a:Int) (b:Int):WP T Tn (.same (.bool (decide (a<=x)&&decide (x<=b)))) [.I (.int .i64 x),.I (.int .i64 a),.I (.int .i64 b)]:=by
 refine cH ?_;simp only[Tn];rcases aH:decide (a<=x)
 ·have c2:decide (x>=a)=false:=aH;refine a7 ?_;repeat' (intro h<;>simp only[h,go_sem,go_sem_proc,aH,c2,ja]<;>try refine av ?_ ?_)
 ·have c2:decide (x>=a)=true:=aH;refine a7 ?_;repeat' (intro h<;>simp only[h,go_sem,go_sem_proc,aH,c2,iy]<;>try refine av ?_ ?_)
abbrev Wh:Int->List Data:=λ(x:Int)=>[.int .i64 x,.ptr [.fn tK []]]
def Wi:=cy Wh λ(x:Int)=>some (.same (.bool (!md x)))
theorem asX:∀a b,Wh a=Wh b->a=b:=by
  intro bh cd h;simp only[bf,Data.int.injEq,Data.agg.injEq,Data.ae.injEq,Data.bool.injEq,Data.str.injEq,Data.ptr.injEq,Data.cq.injEq,fv,true_and,and_true] at h ⊢
  first|exact h|simpa [BL,and_assoc] using h|grind
@[go_sem] theorem asY (x:Int):Wi [.int .i64 x,.ptr [.fn tK []]]=some (.same (.bool (!md x))):=cK asX x
theorem asZ (T:bk)(Wj:T tK=aX Oe)(x:Int):WP T To (.same (.bool (!md x))) [.I (.int .i64 x),.I (.ptr [.fn tK []])]:=by
 refine cH ?_;simp only[To];unfold md;refine a7 ?_;repeat' (intro h<;>simp only[h,go_sem,go_sem_proc,Wj]<;>try refine av ?_ ?_)
abbrev Wk:Int×Int×Int×Int×Int->List Data:=λ(a,b,k,x,n)=>[.agg [.int .i64 a,.int .i64 b,.int .i64 k,.int .i64 x],.ptr [.fn tK []],.ptr [.int .i64 n]]
def Wl:=cy Wk λ(a,b,k,x,n)=>cW (0<=n/\n<=1000000) (.same (.bool (!oy n (a,b,k,x))))
theorem as0:∀a b,Wk a=Wk b->a=b:=by
  rintro⟨c5,dR,cF,bh,iv⟩ ⟨dK,gQ,dk,cd,jr⟩ h;simp only[bf,Data.int.injEq,Data.agg.injEq,Data.ae.injEq,Data.bool.injEq,Data.str.injEq,Data.ptr.injEq,Data.cq.injEq,fv,true_and,and_true] at h ⊢
  first|exact h|simpa [BL,and_assoc] using h|grind
@[go_sem] theorem as1 (a:Int)(b:Int)(k:Int)(x:Int)(n:Int)(G:0<=n/\n<=1000000):Wl [.agg [.int .i64 a,.int .i64 b,.int .i64 k,.int .i64 x],.ptr [.fn tK []],.ptr [.int .i64 n]]=some (.same (.bool (!oy n (a,b,k,x)))):=(cK as0 (a,b,k,x,n)).trans (c6 G _)
theorem as2 (T:bk)(Wj:T tK=aX Oe)(a:Int)(b:Int)(k:Int)(x:Int)(n:Int)(G:0<=n/\n<=1000000):WP T Tp (.same (.bool (!oy n (a,b,k,x)))) [.I (.agg [.int .i64 a,.int .i64 b,.int .i64 k,.int .i64 x]),.I (.ptr [.fn tK []]),.I (.ptr [.int .i64 n])]:=by
 refine cH ?_;simp only[Tp];have w:IntKind.i64.wrap (n-1)=n-1:=by rw[eC _]
 have e:oy n (a,b,k,x)=((decide (0<=a)&&decide (a<=n-1))&&((decide (-1<=b)&&decide (b<=n-1))&&((decide (0<=k)&&decide (k<=9))&&(decide (0<=x)&&decide (x<=1000000000000000))))):=by
  rw[pK,ae3];simp only[e3,decide_eq_true_eq];omega
 rw[e];rcases aH:(decide (0<=a)&&decide (a<=n-1))<;>rcases c2:(decide (-1<=b)&&decide (b<=n-1))<;>rcases c3:(decide (0<=k)&&decide (k<=9))<;>rcases c4:(decide (0<=x)&&decide (x<=1000000000000000))
 all_goals
      refine a7 ?_;repeat' (intro h<;>simp only[h,go_sem,go_sem_proc,Wj,w,aH,c2,c3,c4]<;>try refine av ?_ ?_)
structure cD.FM (a:cD):Prop where
 rN:fF a.cash a.cs
 fH:∀x∈a.bc,0<=x/\x<=10
theorem cD.J3 {a:cD}{m:Mem}(h:a.eM m)(aJ:a.FM){i:Nat}(L:i<D a.cash):a.bc.getD i 10=(bB a.bc i:Int)/\bB a.bc i<=10:=by
 have aq:=h.bc
 have:a.bc.getD i 10∈a.bc:=by
  rw[ea,bx (by omega)];exact n7 _
 have:=aJ.fH _ this;unfold bB;omega
structure Wm (x:cD×Nat) (mem:Mem):Prop where
 at_:x.1.eM mem
 no:qM 255 mem
 FN:x.1.FM
 lt:x.2<x.1.cash.length
 f10:bB x.1.bc x.2<10
 S:0<(aB x.1.cash x.1.cs).S x.2 (bB x.1.bc x.2)
def Of (x:cD×Nat):Data:=.cq [.ae ((de x.1.cash.length λi=>(aB x.1.cash x.1.cs).W (bB x.1.bc) x.2 i).map aK),.bool true]
def Og:List M->Mem->Option Data:=CH (λ(x:cD×Nat) args mem=>args=[.ptr (228500+x.2) (x.1.gs.getD x.2 0) 0,.I (.int .i64 x.1.cash.length)]/\Wm x mem) Of
theorem as3 (a:cD)(k:Nat)(mem:Mem)(h:Wm (a,k) mem):Og [.ptr (228500+k) (a.gs.getD k 0) 0,.I (.int .i64 (D a.cash))] mem=some (Of (a,k)):=by
 refine V3 (a:=(a,k)) ?_ ⟨rfl,h⟩;rintro⟨a,i⟩ ⟨b,j⟩ args mem ⟨aA,ay⟩ ⟨cV,da⟩;obtain rfl:=cD.uniq ay.at_ da.at_;rw[aA] at cV;simp only[bf,M.ptr.injEq,M.I.injEq,Data.int.injEq,true_and,and_true] at cV;have E:228500+i=228500+j:=cV.1;have:i=j:=by omega
 rw[this]
theorem as4 (N:Nat)(aO:bS):(ep N (aK aO)).flatten.map M.I=aY aK (ep N aO):=by
 unfold aY;rw[Fi,List.map_flatten,Fi]
theorem as5 (T:bk)(g3:T og=aX ur)(as6:T QQ=aX UQ)(AR:T BA=aX IW)(w4:T zQ=aX Cc)(a:cD)(k:Nat)(mem:Mem)(h:Wm (a,k) mem):
  wp T MM.body (ru MM.res λm mem'=>cZ 6 emp m=some (Of (a,k))/\dS 255 mem mem') ⟨mj [.ptr (228500+k) (a.gs.getD k 0) 0,.I (.int .i64 (D a.cash))],mem⟩:=by
 obtain⟨bJ,jt,qO,J,uw,cv⟩:=h;dsimp only at *;obtain⟨Q,fH⟩:=qO;have aG:=Q.k7;have rj:=bJ.di k J;have sR:=(cD.J3 bJ ⟨Q,fH⟩ J).1;have cU:=a.vK k;have hlen:=AV cU;have la:=J0 cU;rw[show (a.fZ k).f=(bB a.bc k:Int) from sR] at la;have lO:=afS (x:=a.fZ k) (k:=bB a.bc k) (l:=cL a.cs k (bB a.bc k)) (ig _ uw);have rO:=JZ cU (k:=bB a.bc k) (z:=ca a.cs k (bB a.bc k:Nat)) (ig _ (by omega));have afX:=JZ cU (k:=bB a.bc k+1) (z:=ca a.cs k (bB a.bc k+1:Nat)) (ig _ (by omega));have SK:∀j,228500+k≠255000+j:=λj=>by omega
 generalize ff (a.fZ k)=DC at *;have Wn:=AQ 0 JX;have aR:de (D a.cash) (jk (aB a.cash a.cs) [])=ep (D a.cash) (aE ((0:Int):Rat)):=(JP Jx λj ag=>by rw[afq,Z ag,asM];rfl).symm;generalize fD:cL a.cs k (bB a.bc k)=cr at *;refine wo ?_;simp only[MM];have ta:(228500+k)/1000≠255:=by omega
 have ky:mem 255017=none:=jt 255017 (by decide);have gR:=λc (G:c∈cr)=>CG.1 (fD ▸ G:c∈cL a.cs k (bB a.bc k));have afY:=λc (G:c∈cr)=>(Oc Q cv (fD ▸ G:c∈cL a.cs k (bB a.bc k))).2.2;have afZ:=λl i (aq:∃fw,cr=l++fw)=>asO Q cv (l:=l) (by rw[fD];exact aq) i;have af0:=λi=>asN Q.right (bB a.bc) k i;rw[fD] at af0
 have aDi:(D cr)<=12:=by
  have E:=rK (λc:ar=>c.1==(k:Int)&&c.2.2.1==(bB a.bc k:Int)) a.cs;have H:=Q.vF;rw[<-fD];unfold cL;omega
 have aDj:(0:Int)<ia a.cs k (bB a.bc k):=by
  have E:=ND Q.right k (bB a.bc k);rw[<-E] at cv;have:(0:Int)<ca a.cs k (bB a.bc k+1:Nat)-ca a.cs k (bB a.bc k):=by exact_mod_cast cv
  exact this
 have as7:ia a.cs k (bB a.bc k)=ca a.cs k (bB a.bc k+1:Nat)-ca a.cs k (bB a.bc k:Nat):=rfl;have Te:=Q.upto k (bB a.bc k+1:Nat);have B4:=Q.upto k (bB a.bc k:Nat);have as8:=(g2.1 Q.right).2.2.2;generalize dp:228500+k=dJ at *;have nY:∀j,dJ≠255000+j:=λj=>by omega
 have J4:(dJ=255009)=False:=eq_false (nY 9);have af1:(dJ=255010)=False:=eq_false (nY 10);have af2:(dJ=255012)=False:=eq_false (nY 12);have Wo:(dJ=255017)=False:=eq_false (nY 17);have CL:(dJ==255009)=false:=beq_eq_false_iff_ne.2 (nY 9);have af3:(dJ==255010)=false:=beq_eq_false_iff_ne.2 (nY 10);have af4:(dJ==255012)=false:=beq_eq_false_iff_ne.2 (nY 12);have af5:(dJ==255017)=false:=beq_eq_false_iff_ne.2 (nY 17);have d9:(255009==dJ)=false:=beq_eq_false_iff_ne.2 (nY 9).symm;have d10:(255010==dJ)=false:=beq_eq_false_iff_ne.2 (nY 10).symm;have d12:(255012==dJ)=false:=beq_eq_false_iff_ne.2 (nY 12).symm;have d17:(255017==dJ)=false:=beq_eq_false_iff_ne.2 (nY 17).symm;have eE:bB a.bc k+1<11:=by omega
 have aj:bB a.bc k<11:=by omega
 have bQ:(1+bB a.bc k+1<=24)=True:=eq_true (by omega);have b6:(11+bB a.bc k+1<=24)=True:=eq_true (by omega);have af6:(11+(bB a.bc k+1)+1<=24)=True:=eq_true (by omega);have wf:IntKind.i64.wrap ((bB a.bc k:Int)+1)=((bB a.bc k+1:Nat):Int):=by rw[eC _];omega
 have j2:=rj;generalize aDk:ca a.cs k (bB a.bc k+1:Nat)=af7 at *;generalize aDl:ca a.cs k (bB a.bc k:Nat)=as9 at *;generalize aDm:bB a.bc k=F0 at *;generalize af8:aE ((0:Int):Rat)=xc at *;obtain⟨⟨gD,iC⟩,⟨ux,AX⟩⟩:=xc;have Wp:=aqm gD iC ux AX (D a.cash) (by omega);have gd:=as4 (D a.cash) ((gD,iC),(ux,AX));simp only[aK] at Wn Wp gd;have dF:=afQ cr;simp only[go_sem,go_sem_proc] at dF;simp only[go_sem,go_sem_proc,g3,Wn,as6,Wp,gd,rj,hlen,uw,la,lO,Wo,bQ,ky,dv,cI,dF,Jx]
 refine dG [0,6,26,27] [] (λ(j:Nat) tm m=>j<=D cr/\tm 28=.I (.int .i64 j)/\tm 7=.I (.bool true)/\m 255017=some (0,aY aK (de (D a.cash) (jk (aB a.cash a.cs) (cr.take j))))/\dS 255 mem m) (λj=>D cr-j) 0 (by
  refine⟨by omega,rfl,rfl,?_,(dS.refl _ _).eK (by decide)⟩
  rw[nK,aR];simp[a3,ky,gf]) ?_
 intro vs ms aV aS;simp only[go_sem,go_sem_proc] at aV aS;subst aV aS;clear Wn Wp gd rj;rintro j tm m J-⟨ag,ns,b1,AY,bK⟩;simp only[go_sem,go_sem_proc,bf] at J;obtain⟨cw,bL,kF,mg⟩:=J;have ad:=(bK dJ ta).trans j2;rcases dX (j<D cr) with ao|cf
 ·have d1:decide ((j:Int)<(D cr:Int))=true:=dn;have cl:=gu (i:=j) (by omega);obtain⟨⟨aH,c2,c3,c4⟩,O⟩:∃c,cr[j]?=some c:=⟨_,bx ao⟩;have Av:=eU O;have mo:=as8 _ (gR _ Av).1;dsimp only at mo;have rA:=afR O;simp only[go_sem,go_sem_proc] at rA;have l1:cr.take (j+1)=cr.take j++[(aH,c2,c3,c4)]:=by rw[lA,O];rfl
  rcases q:decide (c2<0)
  ·have tq:0<=c2:=by have:=of_decide_eq_false q;omega
   obtain⟨t,rfl⟩:∃t:Nat,c2=(t:Int):=⟨c2.toNat,by omega⟩
   have hw:=afY _ Av;dsimp only at hw;have kq:=asl (p:=c4) (q:=ia a.cs k F0) (qN (by omega) (by omega)) (qN (by omega) (by omega)) (by omega);rw[<-hw] at kq;have Oh:=anF c4 (ia a.cs k F0) ⟨qN (by omega) (by omega),qN (by omega) (by omega)⟩;rw[kq] at Oh;have gD:=afZ (cr.take j) t ⟨cr.drop j,(zN j cr).symm⟩;have iC:=asm Q (gR _ Av).1;have nS:=ae5 (mc gD (by omega)) (mc iC (by omega)) (AJ gD iC (by omega))
   have za:de (D a.cash) (jk (aB a.cash a.cs) (cr.take (j+1)))=(de (D a.cash) (jk (aB a.cash a.cs) (cr.take j))).set t (aE (jk (aB a.cash a.cs) (cr.take j) t+(aB a.cash a.cs).w (cm (aH,(t:Int),c3,c4)))):=by
    rw[asn];refine FF λi _=>?_;rw[l1,afP]
    by_cases L:i=t
    ·rw[Z L,Z (by dsimp only;omega),L]
    ·rw[aa L,aa (by dsimp only;omega),pa]
   have af9:IntKind.i64.wrap (af7-as9)=ia a.cs k F0:=by rw[wrap64 _ (by omega) (by omega),as7]
   have TV:(de (D a.cash) (jk (aB a.cash a.cs) (cr.take j))).length=D a.cash:=p2 _ _;have ata:=uq (N:=D a.cash) (jk (aB a.cash a.cs) (cr.take j)) (k:=t) (by omega);clear gD iC afZ afY kq hw;generalize aE (jk (aB a.cash a.cs) (cr.take j) t+(aB a.cash a.cs).w (cm (aH,(t:Int),c3,c4)))=F1 at *;generalize aE (jk (aB a.cash a.cs) (cr.take j) t)=F2 at *;generalize aE ((aB a.cash a.cs).w (cm (aH,(t:Int),c3,c4)))=F3 at *;generalize de (D a.cash) (jk (aB a.cash a.cs) (cr.take j))=bZ at *;obtain⟨⟨c5,dK⟩,⟨fl,fP⟩⟩:=F1;obtain⟨⟨f1,f2⟩,⟨f3,f4⟩⟩:=F2;obtain⟨⟨cG,cO⟩,⟨h1,k2⟩⟩:=F3;have t1:=E0 ata;have t2:=EZ (l:=bZ) (k:=t) (by omega);have t3:=Ug (l:=bZ) (k:=t) (by omega) c5 dK fl fP;have Lp:t<D a.cash:=by omega
   simp only[aK,ef] at Oh nS;simp only[go_sem,go_sem_proc,AR,w4,cw,bL,b1,kF,mg,ns,ad,AY,rA,hlen,la,rO,afX,wf,af9,d1,cl,q,Oh,nS,t1,t2,t3,Lp,uw,eE,aj,bQ,b6,af6,J4,af1,af2,Wo,CL,af3,af4,af5,d9,d10,d12,d17,bE,dv,cI,beq_self_eq_true];repeat' (first|refine av ?_ ?_|fail)<;>intro h<;>simp only[h,go_sem,go_sem_proc,AR,w4,cw,bL,b1,kF,mg,ns,ad,AY,rA,hlen,la,rO,afX,wf,af9,d1,cl,q,Oh,nS,t1,t2,t3,Lp,uw,eE,aj,bQ,b6,af6,J4,af1,af2,Wo,CL,af3,af4,af5,d9,d10,d12,d17,bE,dv,cI,beq_self_eq_true]
   refine⟨j+1,by omega,by omega,rfl,by rw[za],by repeat first|exact bK|refine dS.eK ?_ (by decide)⟩
  ·have tq:c2<0:=of_decide_eq_true q
   have za:de (D a.cash) (jk (aB a.cash a.cs) (cr.take (j+1)))=de (D a.cash) (jk (aB a.cash a.cs) (cr.take j)):=FF λi _=>by
    rw[l1,afP,aa (by dsimp only;omega),pa]
   simp only[go_sem,go_sem_proc,cw,bL,b1,kF,mg,ns,ad,AY,rA,d1,cl,q,bE,cI];repeat' (first|refine av ?_ ?_|fail)<;>intro h<;>simp only[h,go_sem,go_sem_proc,cw,bL,b1,kF,mg,ns,ad,AY,rA,d1,cl,q,bE,cI]
   refine⟨j+1,by omega,by omega,rfl,by rw[za],by repeat first|exact bK|refine dS.eK ?_ (by decide)⟩
 ·have d1:decide ((j:Int)<(D cr:Int))=false:=dr;rw[dE (by omega)] at AY;have za:de (D a.cash) (jk (aB a.cash a.cs) cr)=de (D a.cash) λi=>(aB a.cash a.cs).W (bB a.bc) k i:=FF λi _=>af0 i;rw[za] at AY;have lU:(de (D a.cash) λi=>(aB a.cash a.cs).W (bB a.bc) k i).length=D a.cash:=p2 _ _;have lM:=λ(K:a2->Prop) (st:a2)=>lV (K:=K) (st:=st) mG 6 255017 0 (de (D a.cash) λi=>(aB a.cash a.cs).W (bB a.bc) k i);rw[lU] at lM;simp only[go_sem,go_sem_proc,cw,bL,b1,kF,mg,ns,ad,AY,d1,lM];repeat' (first|refine av ?_ ?_|fail)<;>intro h<;>simp only[h,go_sem,go_sem_proc,cw,bL,b1,kF,mg,ns,ad,AY,d1,lM]
  exact⟨_,rfl,rfl,by repeat first|exact bK|refine dS.eK ?_ (by decide)|refine dS.kill ?_ (by decide)⟩
theorem aga (N:Nat)(x:Nat->Rat):de (N+1) x=de N x++[aE (x N)]:=by
 unfold de;rw[pd,k0,k0];rfl
theorem uy {l:List M}{k:Nat}{y:M}(h:l[k]?=some y):ho 1 (hR k l)=[y]:=by
 have:=NZ (f:=id) h;rwa [List.map_id] at this
def rP (n:Nat)(W:Nat->Nat->Rat)(k:Nat):List Data:=[.ae ((de n (W k)).map aK)]
theorem atb (T:bk)(g3:T og=aX ur)(kf:T tF=aX w3){K:er->a2->Prop}{kk:List fU}(eb:Mem)(n:Nat)(aG:n<=60)(p:List Nat)(aC:(D p)<=60)(W:Nat->Nat->Rat)(r i:Nat)(L:i<n)(wC:∀k,k<(D p)->eB 54 (W (p.getD k 0) i))(v0 v1 v10 v20 agb agc:M)(bz FO:Nat)(aH c2 c3 c4:M)(agd:Option (Nat×List M))(tm:Nat->M)(m:Mem)
  (cw:tm 0=v0) (aA:tm 1=v1) (ay:tm 2=.I (.ae (p.map hX))) (cV:tm 3=.I (.ae (p.map (rP n W)))) (fL:tm 10=v10) (pf:tm 11=.I (.int .i64 r)) (h4:tm 12=.I (.int .i64 i)) (iE:tm 13=.ptr 256013 bz 0) (nZ:tm 20=v20) (sG:tm 21=agb) (qB:tm 22=agc) (mO:tm 50=.I (.int .i64 (D p))) (mP:tm 51=.I (.int .i64 0)) (FP:m 256013=some (bz,[.ref 256076 FO 4 0 0,aH,c2,c3,c4])) (FQ:m 256076=some (FO,[])) (CM:m 256082=agd) (bK:dS 256 eb m)
  (dp:∀tm' m' age,tm' 0=v0->tm' 1=v1->tm' 2=.I (.ae (p.map hX))->tm' 3=.I (.ae (p.map (rP n W)))->tm' 10=v10->tm' 13=.ptr 256013 bz 0->tm' 20=v20->tm' 21=agb->tm' 22=agc->m' 256013=some (bz,[.ref 256076 age 4 0 (D p),aH,c2,c3,c4])->m' 256076=some (age,aY aK (de (D p) λk=>(if r=k then 1 else 0)-W (p.getD k 0) i))->m' 256082=agd->dS 256 eb m'->b7 T K kk (.exit 2) ⟨tm',m'⟩) :
  wp T (EH.body.sub [1,1,0,1,0,0,0,1,1,0,0,1,1,0,1,0]) (b7 T K kk) ⟨tm,m⟩:=by
 simp only[EH,dY.sub];refine dG [0,1,2,3,10,11,12,13,20,21,22,50] [256082] (λ((k,g):Nat×Nat) tm m=>k<=D p/\tm 51=.I (.int .i64 k)/\m 256013=some (bz,[.ref 256076 g 4 0 k,aH,c2,c3,c4])/\m 256076=some (g,aY aK (de k λk=>(if r=k then 1 else 0)-W (p.getD k 0) i))/\dS 256 eb m) (λ(k,_)=>D p-k) (0,FO) (by refine⟨by omega,mP,FP,FQ,bK⟩) ?_;intro vs ms aV aS;simp only[go_sem,go_sem_proc,cw,aA,ay,cV,fL,pf,h4,iE,nZ,sG,qB,mO,CM] at aV aS;subst aV aS;clear cw aA ay cV fL pf h4 iE nZ sG qB mO mP FP FQ CM bK tm m;rintro⟨k,g⟩ tm m J hm ⟨Fp,mP,FP,FQ,bK⟩;simp only[go_sem,go_sem_proc,bf] at J hm;obtain⟨cw,aA,ay,cV,fL,pf,h4,iE,nZ,sG,qB,mO⟩:=J;rcases dX (k<D p) with ao|cf
 ·have d1:decide ((k:Int)<(D p:Int))=true:=dn;have cl:=gu (i:=k) (by omega);obtain⟨uz,O⟩:∃c,p[k]?=some c:=⟨_,bx ao⟩;have kA:p.getD k 0=uz:=by rw[ea,O];rfl
  have J5:=wC k ao;have aV:=aga k λk=>(if r=k then 1 else 0)-W (p.getD k 0) i;have bV:(de k λk=>(if r=k then 1 else 0)-W (p.getD k 0) i).length=k:=p2 _ _;have dm:=λ(aO:bS) cs jW=>mw mG EI 256076 g 64 (de k λk=>(if r=k then 1 else 0)-W (p.getD k 0) i) aO (cs:=cs) jW (by omega) (by omega);simp only[bV] at dm;rw[kA] at J5 aV;have aU:=uq (W uz) L;generalize de k (λk=>(if r=k then 1 else 0)-W (p.getD k 0) i)=V at *;generalize tW:de (k+1) (λk=>(if r=k then 1 else 0)-W (p.getD k 0) i)=V2 at *;clear dp wC;have key:∀o:Int,(o=0\/o=1)->(if r=k then (1:Rat) else 0)=(o:Rat)->True:=λ_ _ _=>trivial;rcases q:((k:Int)==(r:Int))
  ·have gH:¬ r=k:=by have:=ne_of_beq_false q;omega
   have hw:=AQ 0 JX;have Q:=NX (rM JX) (mc J5 (by omega)) (AJ (FK (z:=0) (b:=1) (by decide)) (FB J5) (by omega));rw[aa gH,show (0:Rat)=((0:Int):Rat) from rfl] at aV;generalize aE ((0:Int):Rat)=xc at *;generalize aE (W uz i)=eF at *;generalize aE (((0:Int):Rat)-W uz i)=cA at *;obtain⟨⟨gD,iC⟩,⟨ux,AX⟩⟩:=xc;obtain⟨⟨sq,sr⟩,⟨CJ,CK⟩⟩:=eF;obtain⟨⟨bh,cd⟩,⟨c7,eZ⟩⟩:=cA;have qP:=dm ((bh,cd),(c7,eZ)) _ rfl;rw[<-aV] at qP;simp only[aK,eY,cg] at qP hw Q;refine a7 ?_;repeat' (intro h<;>simp only[h,go_sem,go_sem_proc,g3,kf,cw,aA,ay,cV,fL,pf,h4,iE,nZ,sG,qB,mO,mP,FP,FQ,hm,d1,cl,q,O,rP,aU,hw,Q,qP,aK,al,bd,bne,beq_self_eq_true,cR,qE]<;>try refine av ?_ ?_)
   exact⟨(k+1,g+1),by dsimp only;omega,by dsimp only;omega,rfl,rfl,by rw[<-tW],by repeat first|exact bK|refine dS.eK ?_ (by decide)⟩
  ·have gH:r=k:=by have:=eq_of_beq q;omega
   have hw:=AQ 1 V6;have Q:=NX (rM V6) (mc J5 (by omega)) (AJ (FK (z:=1) (b:=1) (by decide)) (FB J5) (by omega));rw[Z gH,show (1:Rat)=((1:Int):Rat) from rfl] at aV;generalize aE ((1:Int):Rat)=xc at *;generalize aE (W uz i)=eF at *;generalize aE (((1:Int):Rat)-W uz i)=cA at *;obtain⟨⟨gD,iC⟩,⟨ux,AX⟩⟩:=xc;obtain⟨⟨sq,sr⟩,⟨CJ,CK⟩⟩:=eF;obtain⟨⟨bh,cd⟩,⟨c7,eZ⟩⟩:=cA;have qP:=dm ((bh,cd),(c7,eZ)) _ rfl;rw[<-aV] at qP;simp only[aK,eY,cg] at qP hw Q;refine a7 ?_;repeat' (intro h<;>simp only[h,go_sem,go_sem_proc,g3,kf,cw,aA,ay,cV,fL,pf,h4,iE,nZ,sG,qB,mO,mP,FP,FQ,hm,d1,cl,q,O,rP,aU,hw,Q,qP,aK,al,bd,bne,beq_self_eq_true,cR,qE]<;>try refine av ?_ ?_)
   exact⟨(k+1,g+1),by dsimp only;omega,by dsimp only;omega,rfl,rfl,by rw[<-tW],by repeat first|exact bK|refine dS.eK ?_ (by decide)⟩
 ·have d1:decide ((k:Int)<(D p:Int))=false:=dr;obtain rfl:k=D p:=by omega
  refine a7 ?_;repeat' (intro h<;>simp only[h,go_sem,go_sem_proc,cw,aA,ay,cV,fL,pf,h4,iE,nZ,sG,qB,mO,mP,d1]<;>try refine av ?_ ?_)
  refine dp _ _ g ?_ ?_ ?_ ?_ ?_ ?_ ?_ ?_ ?_ FP FQ hm bK<;>simp only[eL,dA,if_false,cw,aA,ay,cV,fL,iE,nZ,sG,qB]
structure Wq (a:cD) (mem:Mem):Prop where
 at_:a.eM mem
 no:qM 256 mem
 FN:a.FM
 hy:rJ (aB a.cash a.cs) (bB a.bc) (e6 a.P)
def cD.p (a:cD):List Nat:=ct (e6 a.P) (D a.cash)
def Oi (a:cD):List M:=[.ref 228023 a.g 1 0 (D a.cash),.I (.ae ((bq (D a.cash) λi=>kg a.cash a.cs (bB a.bc) i).map af)),.I (.ae (a.p.map hX)),.I (.ae (a.p.map (rP (D a.cash) λk i=>(aB a.cash a.cs).W (bB a.bc) k i)))]
def cD.xs (a:cD):List bS:=de (D a.p) λk=>(aB a.cash a.cs).eI (bB a.bc) (e6 a.P) (a.p.getD k 0)-(aB a.cash a.cs).U (a.p.getD k 0) (bB a.bc (a.p.getD k 0))
def Oj (a:cD):Data:=.cq [.ae (a.xs.map aK),.bool true]
def Ok:List M->Mem->Option Data:=CH (λ(a:cD) args mem=>args=Oi a/\Wq a mem) Oj
theorem atc (a:cD)(mem:Mem)(h:Wq a mem):Ok (Oi a) mem=some (Oj a):=by
 refine V3 (a:=a) ?_ ⟨rfl,h⟩;rintro a b args mem ⟨aA,ay⟩ ⟨cV,da⟩;rw[cD.uniq ay.at_ da.at_]
theorem atd (T:bk)(g3:T og=aX ur)(kf:T tF=aX w3)(ate:T QK=aX UG)(a:cD)(mem:Mem)(aZ:Wq a mem):
  wp T EH.body (ru EH.res λm mem'=>cZ 6 emp m=some (Oj a)/\dS 256 mem mem') ⟨mj (Oi a),mem⟩:=by
 obtain⟨bJ,jt,qO,lN⟩:=aZ;have sR:=λi=>cD.J3 bJ qO (i:=i);obtain⟨Q,fH⟩:=qO;have aG:=Q.k7;have nH:=λk=>vE (P:=e6 a.P) (n:=D a.cash) (k:=k);have NU:=arV Q lN;have Wr:=VO Q lN.qI (ct (e6 a.P) (D a.cash)) (λk J=>⟨(vE J).2,(vE J).1⟩) λi j L ag=>VP L ag;have atf:=λk (J:e6 a.P k) i=>(NT Q lN J i).1
 have aDn:(ct (e6 a.P) (D a.cash)).length<=6:=by
  unfold ct;exact ey (rK _ _) (by rw[q9];exact aG)
 have atg:mem 256082=none:=jt 256082 (by decide);unfold Oi Oj cD.xs cD.p;generalize aC:ct (e6 a.P) (D a.cash)=p at *;generalize dh:(aB a.cash a.cs).s7 (bB a.bc) p=A at *;generalize ath:(bq (D a.cash) λi=>kg a.cash a.cs (bB a.bc) i).map af=agf at *;have ati:∀i,i<(D a.cash)->agf[i]?=some [.int .i64 (kg a.cash a.cs (bB a.bc) i)]:=λi L=>by rw[<-ath,bd,ig _ L];rfl
 refine wo ?_;simp only[EH];simp only[go_sem,go_sem_proc,atg,al];refine dG [0,1,2,3,20,21] [] (λ((r,g):Nat×Nat) tm m=>r<=D p/\tm 22=.I (.int .i64 r)/\tm 10=.ref 256082 g 5 0 r/\m 256082=some (g,aY jf ((rowsOf (D p) A).take r))/\dS 256 mem m) (λ(r,_)=>D p-r) (0,0) (by refine⟨by omega,rfl,rfl,rfl,(dS.refl _ _).eK (by decide)⟩) ?_;intro vs ms aV aS;simp only[go_sem,go_sem_proc,al] at aV aS;subst aV aS;rintro⟨r,g⟩ tm m J hm ⟨agh,qB,fL,CM,bK⟩;simp only[go_sem,go_sem_proc,bf] at J;obtain⟨cw,aA,ay,cV,nZ,sG⟩:=J;rcases dX (r<D p) with ao|cf
 ·have d1:decide ((r:Int)<(D p:Int))=true:=dn;have cl:=gu (i:=r) (by omega);obtain⟨i,O⟩:∃c,p[r]?=some c:=⟨_,bx ao⟩;have CC:p.getD r 0=i:=by rw[ea,O];rfl
  obtain⟨L,atj⟩:=nH r ao;rw[CC] at L atj;obtain⟨qO,uw⟩:=sR i L;have e8:=(bK.at 228023 (by omega)).trans bJ.row;have eQ:=(bK.at (228500+i) (by omega)).trans (bJ.di i L);have hN:=uy (ig (λi=>M.ptr (228500+i) (a.gs.getD i 0) 0) L);have bV:(bq (D a.cash) λi=>M.ptr (228500+i) (a.gs.getD i 0) 0).length=D a.cash:=gl _ _;have cU:=a.vK i;have hlen:=AV cU;have la:=J0 cU;rw[show (a.fZ i).f=(bB a.bc i:Int) from qO] at la;have rO:=JZ cU (k:=bB a.bc i) (z:=ca a.cs i (bB a.bc i:Nat)) (ig _ (by omega));have eA:=ati i L;have dR:=Q.steady (bB a.bc) i;have gQ:=Q.upto i (bB a.bc i);have atk:IntKind.i64.wrap (kg a.cash a.cs (bB a.bc) i-ca a.cs i (bB a.bc i:Nat))=kg a.cash a.cs (bB a.bc) i-ca a.cs i (bB a.bc i:Nat):=by rw[eC _]
  have hw:=AQ (kg a.cash a.cs (bB a.bc) i-ca a.cs i (bB a.bc i:Nat)) (qN (by omega) (by omega))
  have atl:A r (D p)=((kg a.cash a.cs (bB a.bc) i-ca a.cs i (bB a.bc i:Nat):Int):Rat):=by
   rw[<-dh];unfold Day.s7;rw[aa (by omega),CC,<-JT Q.right,<-s0 Q.right,Rat.intCast_sub]
  have atm:∀k,k<(D p)->A r k=(if r=k then 1 else 0)-(aB a.cash a.cs).W (bB a.bc) (p.getD k 0) i:=λk J=>by
   rw[<-dh];unfold Day.s7;rw[Z J,CC]
  have eE:i+1<=D a.cash:=by omega
  have aj:bB a.bc i<11:=by omega
  have bQ:(11+bB a.bc i+1<=24)=True:=eq_true (by omega);rw[<-atl] at hw;generalize ta:228500+i=dJ at *;generalize ff (a.fZ i)=DC at *;generalize (bq (D a.cash) λi=>M.ptr (228500+i) (a.gs.getD i 0) 0)=vL at *;generalize kg a.cash a.cs (bB a.bc) i=S1 at *;generalize ca a.cs i (bB a.bc i:Nat)=af7 at *;generalize bB a.bc i=F0 at *;generalize iI:aE (A r (D p))=eF at *;obtain⟨⟨sq,sr⟩,⟨CJ,CK⟩⟩:=eF;simp only[aK] at hw;have atn:(dJ==256013)=false:=beq_eq_false_iff_ne.2 (by omega);have ato:(256013==dJ)=false:=beq_eq_false_iff_ne.2 (by omega);have atp:(dJ=256013)=False:=eq_false (by omega);simp only[go_sem,go_sem_proc,g3,cw,aA,ay,cV,fL,nZ,sG,qB,e8,eQ,hN,bV,hlen,la,rO,eA,atk,hw,O,d1,cl,L,eE,aj,bQ,atn,ato,atp,dv,hX,cI,al,bd];refine asg (kc:=256013) (g:=gf (m 256013)) (off:=0) (cs:=[.nil,.I (.int .i64 sq),.I (.ae (sr.map af)),.I (.int .i64 CJ),.I (.ae (CK.map af))]) ?_ ?_ rfl (by decide) ?_
  ·simp only[go_sem,go_sem_proc]
  ·simp[a3]
  simp only[go_sem,go_sem_proc,ay,al,qE];refine atb T g3 kf mem (D a.cash) (by omega) p (by omega) (λk i=>(aB a.cash a.cs).W (bB a.bc) k i) r i L (λk J=>atf _ (nH k J).2 i) (.ref 228023 a.g 1 0 (D a.cash)) (.I (.ae agf)) (.ref 256082 g 5 0 r) (.I (.ae (p.map hX))) (.I (.int .i64 (D p))) (.I (.int .i64 r)) (gf (m 256013)) (gf (m 256076)) (.I (.int .i64 sq)) (.I (.ae (sr.map af))) (.I (.int .i64 CJ)) (.I (.ae (CK.map af))) (some (g,aY jf ((rowsOf (D p) A).take r))) _ _ ?_ ?_ ?_ ?_ ?_ ?_ ?_ ?_ ?_ ?_ ?_ ?_ ?_ ?_ ?_ ?_ ?_ ?_
  ·simp only[eL,dA,if_false];exact cw
  ·simp only[eL,dA,if_false];exact aA
  ·simp only[eL,dA,if_false];exact ay
  ·simp only[eL,dA,if_false];exact cV
  ·simp only[eL,dA,if_false];exact fL
  ·simp only[eL,dA,if_false,if_true]
  ·simp only[eL,dA,if_false,if_true]
  ·simp only[eL,dA,if_false,if_true]
  ·simp only[eL,dA,if_false];exact nZ
  ·simp only[eL,dA,if_false];exact sG
  ·simp only[eL,dA,if_false];exact qB
  ·simp only[eL,dA,if_false,if_true]
  ·simp only[eL,dA,if_false,if_true]
  ·simp[a3]
  ·simp[a3]
  ·simp only[a3,dA,if_false];exact CM
  ·repeat first|exact bK|refine dS.eK ?_ (by decide)
  intro tm bY FO e5 cF dk dN nc vb Ol atq atr ats Ws att p5;have atu:(de (D p) λk=>(if r=k then 1 else 0)-(aB a.cash a.cs).W (bB a.bc) (p.getD k 0) i)=de (D p) (A r):=FF λk J=>(atm k J).symm;rw[atu] at Ws;clear cw aA ay cV fL nZ sG qB CM e8 eQ hN bK;have dm:=λcs jW=>mw abN aso 256082 g 88 ((rowsOf (D p) A).take r) (de (D p) (A r),aE (A r (D p))) (cs:=cs) jW;have ug:((rowsOf (D p) A).take r).length=r:=by rw[g7,AP];omega
  have l1:(rowsOf (D p) A).take r++[(de (D p) (A r),aE (A r (D p)))]=(rowsOf (D p) A).take (r+1):=by
   rw[lA,aeF A ao];rfl
  rw[ug,l1,iI] at dm;have lU:(de (D p) (A r)).length=D p:=p2 _ _;generalize de (D p) (A r)=V at *;have qP:=dm _ rfl (by omega) (by omega);simp only[aK,jf,eY,cg] at qP;simp only[go_sem,go_sem_proc];refine ash (kc:=256013) (gc:=gf (m 256013)) (off:=0) (cc:=[.ref 256076 FO 4 0 (D p),.I (.int .i64 sq),.I (.ae (sr.map af)),.I (.int .i64 CJ),.I (.ae (CK.map af))]) (k:=256076) (g:=FO) (sz:=4) (o:=0) (len:=D p) (cs:=aY aK V) (d:=.ae (V.map aK)) ?_ ats rfl Ws (ZW _ _) (by decide) ?_ ?_
  ·exact vb
  ·have:=pB (n:=0) mG Ws;rw[lU] at this;exact this
  refine a7 ?_;repeat' (intro h<;>simp only[h,go_sem,go_sem_proc,e5,cF,dk,dN,nc,vb,Ol,atq,atr,att,qP,cl,qE]<;>try refine av ?_ ?_)
  exact⟨(r+1,g+1),by dsimp only;omega,by dsimp only;omega,rfl,rfl,rfl,by repeat first|exact p5|refine dS.eK ?_ (by decide)⟩
 ·have d1:decide ((r:Int)<(D p:Int))=false:=dr;have agh:r=D p:=by omega
  have hlen:=AP (D p) A;rw[dE (by rw[hlen];omega)] at CM;obtain⟨dR,gQ⟩:=NU;have mb:qD (rowsOf (D p) A):=arN (by omega) λi L k J=>mc (Wr.sz (by omega) L J) (by omega);have e4:=ap7 (rowsOf (D p) A) (D p) mb;rw[dR] at e4;dsimp only at e4;have lM:=λ(K:a2->Prop) (st:a2)=>lV (K:=K) (st:=st) abN 10 256082 g (rowsOf (D p) A);rw[hlen] at lM;subst agh;refine a7 ?_;repeat' (intro h<;>simp only[h,go_sem,go_sem_proc,ate,cw,aA,ay,cV,fL,nZ,sG,qB,CM,d1,lM,e4,al,bne,beq_self_eq_true,cR]<;>try refine av ?_ ?_)
  exact⟨_,rfl,rfl,by repeat first|exact bK|refine dS.eK ?_ (by decide)|refine dS.kill ?_ (by decide)⟩
end Go.Mini
namespace Go.Mini
open Classical
def rQ (cs:List ar)(f:Nat->Nat)(n:Nat):List ar:=(dQ n).flatMap λi=>(dQ (f i)).flatMap λk=>cL cs i k
theorem atv (aO:Nat->List ar)(r n:Nat)(h:r<=n):((dQ n).flatMap λk=>if k<r then aO k else [])=(dQ r).flatMap aO:=by
 induction n with
 |zero=>rw[show r=0 by omega];rfl
 |succ n aw =>
  rw[pd,vG,oS,y8,hO]
  by_cases Y:r=n+1
  ·subst Y;rw[Z (by omega),pd,vG,oS,y8,hO]
   congr 1
   rw[vH,vH]
   congr 1
   exact m5 λk J=>Z (by have:=hn.1 J;omega)
  ·rw[aa (by omega),hO];exact aw (by omega)
theorem agi {α:Type}(l:List α)(aO:α->List ar)(p:ar->Bool):(l.flatMap aO).filter p=l.flatMap λx=>(aO x).filter p:=by
 induction l with
 |nil=>rfl
 |cons a l aw=>rw[oS,oS,y6,aw]
theorem atw {cs:List ar}{f:Nat->Nat}{n:Nat}(aJ:∀i,i<n->f i<=10):rQ cs f n=(c1 n cs).filter λc=>decide (c.2.2.1<(f c.1.toNat:Int)):=by
 unfold rQ c1;rw[agi,vH,vH]
 congr 1
 refine m5 λi L=>?_;rw[agi,<-atv (λk=>cL cs i k) (f i) 10 (aJ i (hn.1 L)),vH,vH]
 congr 1
 refine m5 λk _=>?_
 by_cases h:k<f i
 ·rw[Z h];refine (List.filter_eq_self.2 λc G=>?_).symm;obtain⟨-,E,H⟩:=CG.1 G;rw[E,H,gZ];exact dn
 ·rw[aa h];refine (List.filter_eq_nil_iff.2 λc G=>?_).symm;obtain⟨-,E,H⟩:=CG.1 G;rw[E,H,gZ,decide_eq_true_eq];omega
theorem atx (cs:List ar)(p:ar->Prop)[DecidablePred p](aO:ar->Int):ck (cs.filter λc=>decide (p c)) aO=ck cs λc=>if p c then aO c else 0:=by
 induction cs with
 |nil=>rfl
 |cons c l aw =>
  by_cases h:p c
  ·rw[xv (by simpa using h)];simp only[ck,aw,Z h]
  ·rw[xw (by simpa using h),aw];simp only[ck,aa h];omega
def gm (j:Nat)(c:ar):Int:=if c.2.1=(j:Int) then c.2.2.2 else 0
theorem agj {cash:List Int}{cs:List ar}{f:Nat->Nat}(J6:cs=c1 (D cash) cs)(aJ:∀i,i<(D cash)->f i<=10)(j:Nat):kg cash cs f j=cash.getD j 0+ck (rQ cs f (D cash)) (gm j):=by
 rw[atw aJ,<-J6,atx cs (λc=>c.2.2.1<(f c.1.toNat:Int))];unfold kg
 congr 1
 refine Fx λc _=>?_;unfold gm
 by_cases E:c.2.1=(j:Int)
 ·by_cases H:c.2.2.1<(f c.1.toNat:Int)
  ·rw[Z ⟨E,H⟩,Z H,Z E]
  ·rw[aa λh=>H h.2,aa H]
 ·rw[aa λh=>E h.1,aa E]
  split<;>rfl
theorem aty {cs:List ar}{f:Nat->Nat}{n:Nat}{c:ar}(h:c∈rQ cs f n):c∈cs:=by
 unfold rQ at h;simp only[List.mem_flatMap] at h;obtain⟨i,-,k,-,G⟩:=h;exact (CG.1 G).1
def jB (cs:List ar)(f:Nat->Nat)(i k t:Nat):List ar:=rQ cs f i++(((dQ k).flatMap λk=>cL cs i k)++(cL cs i k).take t)
theorem atz (cs:List ar)(f:Nat->Nat):jB cs f 0 0 0=[]:=rfl
theorem atA (cs:List ar)(f:Nat->Nat)(i k:Nat):jB cs f i k (cL cs i k).length=jB cs f i (k+1) 0:=by
 unfold jB;rw[om,nK,hO,pd,vG,oS,y8,hO]
theorem atB (cs:List ar)(f:Nat->Nat)(i:Nat):jB cs f i (f i) 0=jB cs f (i+1) 0 0:=by
 unfold jB rQ;rw[nK,nK,hO,pd,vG,oS,y8,hO];simp
theorem agk (cs:List ar)(f:Nat->Nat)(n:Nat):jB cs f n 0 0=rQ cs f n:=by
 unfold jB;simp
theorem agl (cs:List ar)(f:Nat->Nat){n i k t:Nat}(L:i<n)(J:k<f i):∃l,rQ cs f n=jB cs f i k t++l:=by
 have aG:∃m,n=i+1+m:=⟨n-(i+1),by omega⟩
 obtain⟨m,rfl⟩:=aG;have aJ:∃r,f i=k+1+r:=⟨f i-(k+1),by omega⟩
 obtain⟨r,Y⟩:=aJ;have agm:∀(a b:Nat) (aO:Nat->List ar),(dQ (a+b)).flatMap aO=(dQ a).flatMap aO++((dQ b).map (a+·)).flatMap aO:=λa b aO=>by rw[agn,vG]
 unfold rQ jB;rw[agm,pd,vG,oS,y8,hO,Y,agm,pd,vG,oS,y8,hO];refine⟨(cL cs i k).drop t++(((dQ r).map (k+1+·)).flatMap (λk=>cL cs i k)++((dQ m).map (i+1+·)).flatMap λi=>(dQ (f i)).flatMap λk=>cL cs i k),?_⟩;unfold rQ;simp only[gK]
 congr 1
 congr 1
 rw[<-gK ((cL cs i k).take t),zN]
theorem ago {cash:List Int}{cs:List ar}(h:fF cash cs){f:Nat->Nat}(J6:cs=c1 (D cash) cs)(aJ:∀i,i<(D cash)->f i<=10)(j:Nat){l fw:List ar}(aq:rQ cs f (D cash)=l++fw):0<=ck l (gm j)/\ck l (gm j)<=13000000000000000:=by
 have Dr:∀m:List ar,(∀c∈m,c∈cs)->0<=ck m (gm j):=by
  intro m
  induction m with
  |nil=>intro _;exact FG _
  |cons c m aw =>
   intro hm;have E:=aw λy ak=>hm y (hY _ ak);have H:=((g2.1 h.right).2.2.2 c (hm c ha)).2.2.2.2.2.2.1;simp only[ck,gm] at *
   split<;>omega
 have hm:∀c∈l++fw,c∈cs:=λc G=>aty (by rw[aq];exact G);have E:=Dr l λc G=>hm c (by simp[G]);have H:=Dr fw λc G=>hm c (by simp[G]);have ab:=agj J6 aJ j;rw[aq,Cx] at ab;have aM:=h.steady f j;have bj:=h.cash j;omega
end Go.Mini
namespace Go.Mini
open Go
theorem agp {n c:Nat}(G:c<n)(q:Nat->Int)(v:Int):ho c (xm dv (bq n q))++[M.I (.int .i64 v)]++hR (c+1) (xm dv (bq n q))=xm dv (bq n λj=>if j=c then v else q j):=by
 rw[<-y9,xi,agq,Z (by rw[al,gl];exact G)];simp[dv]
theorem agr {n c:Nat}(G:c<n)(q:Nat->Int):ho 1 (hR c (xm dv (bq n q)))=[.I (.int .i64 (q c))]:=NZ (f:=dv) (ig q G)
theorem ags (n:Nat)(q:Nat->Int):(xm dv (bq n q)).length=n:=by rw[al,gl]
theorem Om (l:List ar)(c:ar)(aO:ar->Int):ck (l++[c]) aO=ck l aO+aO c:=by
 rw[Cx];simp[ck]
theorem atC (T:bk){K:er->a2->Prop}{kk:List fU}(eb:Mem)(n:Nat)(aG:n<=60)(cr:List ar)(B:Nat->Int)(fh:∀t j,0<=B j+ck (cr.take t) (gm j)/\B j+ck (cr.take t) (gm j)<=4000000000000000000)(fD:∀c∈cr,c.2.1<n /\ -1<=c.2.1)(J7:(D cr)<=2000)(v0 v4 v6 qQ yO agt v30 FR FT agu agv:M)(bz:Nat)(FU FV:Option (Nat×List M))(tm:Nat->M)(m:Mem)
  (cw:tm 0=v0) (da:tm 4=v4) (dC:tm 5=.ref 248029 bz 1 0 n) (bL:tm 6=v6) (b1:tm 7=qQ) (dq:tm 8=yO) (fb:tm 9=agt) (hz:tm 30=v30) (fm:tm 31=FR) (fo:tm 32=FT) (mO:tm 50=agu) (mP:tm 51=agv) (nt:tm 59=jl cr) (jC:tm 60=.I (.int .i64 (D cr))) (rR:tm 61=.I (.int .i64 0))
  (lb:m 248029=some (bz,(bq n B).map dv)) (mQ:m 248094=FU) (mR:m 248098=FV) (bK:dS 248 eb m)
  (dp:∀tm' m',tm' 0=v0->tm' 4=v4->tm' 5=.ref 248029 bz 1 0 n->tm' 6=v6->tm' 7=qQ->tm' 8=yO->tm' 9=agt->tm' 30=v30->tm' 31=FR->tm' 32=FT->tm' 50=agu->tm' 51=agv->m' 248029=some (bz,(bq n λj=>B j+ck cr (gm j)).map dv)->m' 248094=FU->m' 248098=FV->dS 248 eb m'->b7 T K kk (.exit 4) ⟨tm',m'⟩) :
  wp T (uc.body.sub [1,1,1,1,1,0,1,0,0,0,0,1,1,0,0,1,1,0,1,0,0,1,1,0,0,1,1,0]) (b7 T K kk) ⟨tm,m⟩:=by
 simp only[uc,dY.sub]
 refine dG [0,4,5,6,7,8,9,30,31,32,50,51,59,60] [248094,248098] (λ(t:Nat) tm m=>t<=D cr/\tm 61=.I (.int .i64 t)/\m 248029=some (bz,(bq n λj=>B j+ck (cr.take t) (gm j)).map dv)/\dS 248 eb m) (λt=>D cr-t) 0 (by
  refine⟨by omega,rR,?_,bK⟩
  rw[lb]
  congr 3
  exact jR λj _=>by rw[nK];simp[ck]) ?_
 intro vs ms aV aS;simp only[go_sem,go_sem_proc,cw,da,dC,bL,b1,dq,fb,hz,fm,fo,mO,mP,nt,jC,mQ,mR] at aV aS;subst aV aS;clear cw da dC bL b1 dq fb hz fm fo mO mP nt jC rR lb mQ mR bK tm m;rintro t tm m J hm ⟨aeI,rR,lb,bK⟩;simp only[go_sem,go_sem_proc,bf] at J hm;obtain⟨cw,da,dC,bL,b1,dq,fb,hz,fm,fo,mO,mP,nt,jC⟩:=J;obtain⟨mQ,mR⟩:=hm;rcases dX (t<D cr) with ao|cf
 ·have d1:decide ((t:Int)<(D cr:Int))=true:=dn;have cl:=gu (i:=t) (by omega);obtain⟨⟨aH,c2,c3,c4⟩,O⟩:∃c,cr[t]?=some c:=⟨_,bx ao⟩;have mo:=fD _ (eU O);dsimp only at mo;have rA:=afR O;simp only[go_sem,go_sem_proc] at rA;have l1:cr.take (t+1)=cr.take t++[(aH,c2,c3,c4)]:=by rw[lA,O];rfl
  rcases q:decide (c2>=0)
  ·have tq:c2<0:=by have:=of_decide_eq_false q;omega
   have za:(bq n λj=>B j+ck (cr.take (t+1)) (gm j))=bq n λj=>B j+ck (cr.take t) (gm j):=jR λj _=>by
    rw[l1,Om];unfold gm;rw[aa (by dsimp only;omega)];omega
   refine a7 ?_;repeat' (intro h<;>simp only[h,go_sem,go_sem_proc,cw,da,dC,bL,b1,dq,fb,hz,fm,fo,mO,mP,nt,jC,rR,lb,mQ,mR,rA,d1,cl,q,bE,cI]<;>try refine av ?_ ?_)
   refine⟨t+1,by omega,by omega,rfl,by rw[za],by repeat first|exact bK|refine dS.eK ?_ (by decide)⟩
  ·have tq:0<=c2:=of_decide_eq_true q;obtain⟨i,rfl⟩:∃t:Nat,c2=(t:Int):=⟨c2.toNat,by omega⟩
   have b9:i<n:=by omega
   have j2:=fh t i;have eh:=fh (t+1) i;rw[l1,Om] at eh;have nq:gm i (aH,(i:Int),c3,c4)=c4:=by unfold gm;rw[Z rfl]
   rw[nq] at eh;have J8:IntKind.i64.wrap (B i+ck (cr.take t) (gm i)+c4)=B i+ck (cr.take t) (gm i)+c4:=by rw[eC _]
   have za:(bq n λj=>B j+ck (cr.take (t+1)) (gm j))=bq n λj=>if j=i then B i+ck (cr.take t) (gm i)+c4 else B j+ck (cr.take t) (gm j):=jR λj _=>by
    rw[l1,Om]
    by_cases ag:j=i
    ·rw[Z ag,ag,nq];omega
    ·rw[aa ag];have:gm j (aH,(i:Int),c3,c4)=0:=by unfold gm;rw[aa (by dsimp only;omega)]
     rw[this];omega
   have t1:=agr b9 λj=>B j+ck (cr.take t) (gm j);have t2:=ags n λj=>B j+ck (cr.take t) (gm j);have t3:=agp b9 (λj=>B j+ck (cr.take t) (gm j)) (B i+ck (cr.take t) (gm i)+c4);rw[<-za] at t3;have eE:i+1<=n:=by omega
   generalize aI:(bq n λj=>B j+ck (cr.take t) (gm j)).map dv=bZ at *;generalize wi:(bq n λj=>B j+ck (cr.take (t+1)) (gm j)).map dv=qF at *;generalize B i+ck (cr.take t) (gm i)=S1 at *;refine a7 ?_;repeat' (intro h<;>simp only[h,go_sem,go_sem_proc,cw,da,dC,bL,b1,dq,fb,hz,fm,fo,mO,mP,nt,jC,rR,lb,mQ,mR,rA,d1,cl,q,J8,t1,t2,t3,b9,eE,bE,cI]<;>try refine av ?_ ?_)
   refine⟨t+1,by omega,by omega,rfl,by rw[wi],by repeat first|exact bK|refine dS.eK ?_ (by decide)⟩
 ·have d1:decide ((t:Int)<(D cr:Int))=false:=dr;rw[dE (by omega)] at lb;refine a7 ?_;repeat' (intro h<;>simp only[h,go_sem,go_sem_proc,cw,da,dC,bL,b1,dq,fb,hz,fm,fo,mO,mP,nt,jC,rR,d1]<;>try refine av ?_ ?_)
  refine dp _ _ ?_ ?_ ?_ ?_ ?_ ?_ ?_ ?_ ?_ ?_ ?_ ?_ lb mQ mR bK<;>simp only[eL,dA,if_false,cw,da,dC,bL,b1,dq,fb,hz,fm,fo,mO,mP]
theorem agw (cs:List ar)(f:Nat->Nat)(i k t:Nat):jB cs f i k t=jB cs f i k 0++(cL cs i k).take t:=by
 unfold jB;simp
theorem atD (T:bk){K:er->a2->Prop}{kk:List fU}(eb:Mem)(cash:List Int)(cs:List ar)(f:Nat->Nat)(Q:fF cash cs)(J6:cs=c1 (D cash) cs)(aJ:∀i,i<(D cash)->f i<=10)(i:Nat)(L:i<D cash)(x:nr)(O:x.cT)(dF:∀k,k<10->x.cN[k]?=some (cL cs i k))(B:Nat->Int)(fh:∀j,0<=B j/\B j<=1000000000000000)(dJ g:Nat)(ta:dJ/1000≠248)(r6:eb dJ=some (g,ff x))(v0 v4 v6 qQ yO v30 FR FT:M)(bz:Nat)(FU FV:Option (Nat×List M))(tm:Nat->M)(m:Mem)
  (cw:tm 0=v0) (da:tm 4=v4) (dC:tm 5=.ref 248029 bz 1 0 (D cash)) (bL:tm 6=v6) (b1:tm 7=qQ) (dq:tm 8=yO) (fb:tm 9=.ptr dJ g 0) (hz:tm 30=v30) (fm:tm 31=FR) (fo:tm 32=FT) (mO:tm 50=.I (.int .i64 (f i))) (mP:tm 51=.I (.int .i64 0))
  (lb:m 248029=some (bz,(bq (D cash) λj=>B j+ck (jB cs f i 0 0) (gm j)).map dv)) (mQ:m 248094=FU) (mR:m 248098=FV) (bK:dS 248 eb m)
  (dp:∀tm' m',tm' 0=v0->tm' 4=v4->tm' 5=.ref 248029 bz 1 0 (D cash)->tm' 6=v6->tm' 7=qQ->tm' 8=yO->tm' 9=.ptr dJ g 0->tm' 30=v30->tm' 31=FR->tm' 32=FT->m' 248029=some (bz,(bq (D cash) λj=>B j+ck (jB cs f (i+1) 0 0) (gm j)).map dv)->m' 248094=FU->m' 248098=FV->dS 248 eb m'->b7 T K kk (.exit 2) ⟨tm',m'⟩) :
  wp T (uc.body.sub [1,1,1,1,1,0,1,0,0,0,0,1,1,0,0,1,1,0,1,0]) (b7 T K kk) ⟨tm,m⟩:=by
 simp only[uc,dY.sub];have qO:=aJ i L;have aG:=Q.k7;refine dG [0,4,5,6,7,8,9,30,31,32,50] [248094,248098] (λ(k:Nat) tm m=>k<=f i/\tm 51=.I (.int .i64 k)/\m 248029=some (bz,(bq (D cash) λj=>B j+ck (jB cs f i k 0) (gm j)).map dv)/\dS 248 eb m) (λk=>f i-k) 0 (by refine⟨by omega,mP,lb,bK⟩) ?_;intro vs ms aV aS;simp only[go_sem,go_sem_proc,cw,da,dC,bL,b1,dq,fb,hz,fm,fo,mO,mQ,mR] at aV aS;subst aV aS;clear cw da dC bL b1 dq fb hz fm fo mO mP lb mQ mR bK tm m;rintro k tm m J hm ⟨Fp,mP,lb,bK⟩;simp only[go_sem,go_sem_proc,bf] at J hm;obtain⟨cw,da,dC,bL,b1,dq,fb,hz,fm,fo,mO⟩:=J;obtain⟨mQ,mR⟩:=hm;rcases dX (k<f i) with ao|cf
 ·have d1:decide ((k:Int)<(f i:Int))=true:=dn;have cl:=gu (i:=k) (by omega);have ad:=(bK dJ ta).trans r6;have hlen:=AV O;have lO:=afS (x:=x) (k:=k) (l:=cL cs i k) (dF k (by omega));have eE:k<10:=by omega
  have bQ:(1+k+1<=24)=True:=eq_true (by omega);have agx:=afQ (cL cs i k);simp only[go_sem,go_sem_proc] at agx;generalize ff x=DC at *;simp only[go_sem,go_sem_proc,cw,da,dC,bL,b1,dq,fb,hz,fm,fo,mO,mP,ad,hlen,lO,d1,eE,bQ,agx,cI];refine atC T eb (D cash) (by omega) (cL cs i k) (λj=>B j+ck (jB cs f i k 0) (gm j)) (λt j=>?_) (λc G=>?_) ?_ v0 v4 v6 qQ yO (.ptr dJ g 0) v30 FR FT (.I (.int .i64 (f i))) (.I (.int .i64 k)) bz FU FV _ _ ?_ ?_ ?_ ?_ ?_ ?_ ?_ ?_ ?_ ?_ ?_ ?_ ?_ ?_ ?_ lb mQ mR bK ?_
  ·obtain⟨l,aq⟩:=agl cs f (n:=D cash) (t:=t) L ao;have E:=ago Q J6 aJ j aq;rw[agw,Cx] at E;have H:=fh j;omega
  ·have:=(g2.1 Q.right).2.2.2 c (CG.1 G).1;omega
  ·have E:=rK (λc:ar=>c.1==(i:Int)&&c.2.2.1==(k:Int)) cs;have H:=Q.vF;unfold cL;omega
  all_goals first|(intro tm' m' e5 hH k5 hW ht hr l3 On Oo Oq atE atF FW Ot Ou vM)|(simp only[eL,dA,if_false,if_true,cw,da,dC,bL,b1,dq,fb,hz,fm,fo,mO,mP])
  have fV:(bq (D cash) λj=>B j+ck (jB cs f i k 0) (gm j)+ck (cL cs i k) (gm j))=bq (D cash) λj=>B j+ck (jB cs f i (k+1) 0) (gm j):=jR λj _=>by
   rw[<-atA,agw cs f i k (cL cs i k).length,om,Cx];omega
  rw[fV] at FW;refine a7 ?_;repeat' (intro h<;>simp only[h,go_sem,go_sem_proc,e5,hH,k5,hW,ht,hr,l3,On,Oo,Oq,atE,atF,Ot,Ou,cl]<;>try refine av ?_ ?_)
  refine⟨k+1,by omega,by omega,rfl,FW,vM⟩
 ·have d1:decide ((k:Int)<(f i:Int))=false:=dr;obtain rfl:k=f i:=by omega
  rw[atB] at lb;refine a7 ?_;repeat' (intro h<;>simp only[h,go_sem,go_sem_proc,cw,da,dC,bL,b1,dq,fb,hz,fm,fo,mO,mP,d1]<;>try refine av ?_ ?_)
  refine dp _ _ ?_ ?_ ?_ ?_ ?_ ?_ ?_ ?_ ?_ ?_ lb mQ mR bK<;>simp only[eL,dA,if_false,cw,da,dC,bL,b1,dq,fb,hz,fm,fo]
structure Ov (a:cD) (mem:Mem):Prop where
 at_:a.eM mem
 iv:qM 248 mem
 jr:qM 255 mem
 vN:qM 256 mem
 FN:a.FM
 hy:rJ (aB a.cash a.cs) (bB a.bc) (e6 a.P)
open Classical in
theorem agy (P:Nat->Prop)(n:Nat):ct P (n+1)=ct P n++(if P n then [n] else []):=by
 unfold ct;rw[pd,y6]
 by_cases h:P n
 ·rw[Z h,xv (by simpa using h),s6]
 ·rw[aa h,xw (by simpa using h),s6]
theorem agz (P:Nat->Prop)(n:Nat):(ct P n).length<=n:=by
 unfold ct;exact ey (rK _ _) (by rw[q9];exact bM _)
def cD.W (a:cD)(k i:Nat):Rat:=(aB a.cash a.cs).W (bB a.bc) k i
theorem agA (n:Nat)(W:Nat->Nat->Rat)(k:Nat):(rP n W k).length=1:=rfl
theorem atG (n:Nat)(W:Nat->Nat->Rat)(k:Nat):((rP n W k).map M.I).all M.one=true:=rfl
def nu (a:cD)(i j:Nat):Int:=(if j<i then a.cash.getD j 0 else 0)+ck (jB a.cs (bB a.bc) i 0 0) (gm j)
theorem atH (T:bk)(Wt:T LQ=xx Og){K:er->a2->Prop}{kk:List fU}(a:cD)(eb:Mem)(aZ:Ov a eb)(v0 v4 v30:M)(bz qR kj:Nat)(tm:Nat->M)(m:Mem)
  (cw:tm 0=v0) (da:tm 4=.I (.int .i64 (D a.cash))) (dC:tm 5=.ref 248029 bz 1 0 (D a.cash)) (bL:tm 6=.ref 248094 qR 1 0 0) (b1:tm 7=.ref 248098 kj 1 0 0) (hz:tm 30=.ref 228023 a.g 1 0 (D a.cash)) (fm:tm 31=.I (.int .i64 (D a.cash))) (fo:tm 32=.I (.int .i64 0))
  (lb:m 248029=some (bz,(bq (D a.cash) λj=>nu a 0 j).map dv)) (mQ:m 248094=some (qR,[])) (mR:m 248098=some (kj,[])) (bK:dS 248 eb m)
  (dp:∀tm' m' agB agC,tm' 0=v0->tm' 4=.I (.int .i64 (D a.cash))->tm' 5=.ref 248029 bz 1 0 (D a.cash)->tm' 6=.ref 248094 agB 1 0 (D a.p)->tm' 7=.ref 248098 agC 1 0 (D a.p)->m' 248029=some (bz,(bq (D a.cash) λj=>nu a (D a.cash) j).map dv)->m' 248094=some (agB,aY hX a.p)->m' 248098=some (agC,aY (rP (D a.cash) a.W) a.p)->dS 248 eb m'->b7 T K kk (.exit 0) ⟨tm',m'⟩) :
  wp T (uc.body.sub [1,1,1,1,1,0,1,0,0,0]) (b7 T K kk) ⟨tm,m⟩:=by
 have aDo:=aZ;obtain⟨bJ,iv,jr,vN,zb,lN⟩:=aZ;have sR:=λi=>cD.J3 bJ zb (i:=i);obtain⟨Q,fH⟩:=zb;have aG:=Q.k7;simp only[uc,dY.sub];refine dG [0,4,5,30,31] [] (λ((i,qR,kj):Nat×Nat×Nat) tm m=>i<=D a.cash/\tm 32=.I (.int .i64 i)/\tm 6=.ref 248094 qR 1 0 (ct (e6 a.P) i).length/\tm 7=.ref 248098 kj 1 0 (ct (e6 a.P) i).length/\m 248029=some (bz,(bq (D a.cash) λj=>nu a i j).map dv)/\m 248094=some (qR,aY hX (ct (e6 a.P) i))/\m 248098=some (kj,aY (rP (D a.cash) a.W) (ct (e6 a.P) i))/\dS 248 eb m) (λ(i,_)=>D a.cash-i) (0,qR,kj) (by refine⟨by omega,fo,bL,b1,lb,mQ,mR,bK⟩) ?_;intro vs ms aV aS;simp only[go_sem,go_sem_proc,cw,da,dC,hz,fm] at aV aS;subst aV aS;clear cw da dC bL b1 hz fm fo lb mQ mR bK tm m;rintro⟨i,qR,kj⟩ tm m J-⟨b9,fo,bL,b1,lb,mQ,mR,bK⟩;simp only[go_sem,go_sem_proc,bf] at J;obtain⟨cw,da,dC,hz,fm⟩:=J;rcases dX (i<D a.cash) with L|cf
 ·have d1:decide ((i:Int)<(D a.cash:Int))=true:=dn;have cl:=gu (i:=i) (by omega);obtain⟨qO,uw⟩:=sR i L;have e8:=(bK.at 228023 (by omega)).trans bJ.row;have rj:=bJ.di i L;have eQ:=(bK.at (228500+i) (by omega)).trans rj;have hN:=uy (ig (λi=>M.ptr (228500+i) (a.gs.getD i 0) 0) L);have bV:(bq (D a.cash) λi=>M.ptr (228500+i) (a.gs.getD i 0) 0).length=D a.cash:=gl _ _;have cU:=a.vK i;have hlen:=AV cU;have la:=J0 cU;have qS:=afU cU;have agD:=asS (x:=a.fZ i);rw[show (a.fZ i).f=(bB a.bc i:Int) from qO] at la;rw[show (a.fZ i).p=a.P.getD i false from rfl] at qS;rw[show (a.fZ i).cash=a.cash.getD i 0 from rfl] at agD;have afv:=Q.cash i;have kt:=agl a.cs (bB a.bc) (n:=D a.cash) (i:=i) (k:=0) (t:=0) L
  have aDp:0<=ck (jB a.cs (bB a.bc) i 0 0) (gm i)/\ck (jB a.cs (bB a.bc) i 0 0) (gm i)<=13000000000000000:=by
   have:∃l,rQ a.cs (bB a.bc) (D a.cash)=jB a.cs (bB a.bc) i 0 0++l:=by
    obtain⟨r,Y⟩:∃r,D a.cash=i+r:=⟨D a.cash-i,by omega⟩
    refine⟨((dQ r).map (i+·)).flatMap λi=>(dQ (bB a.bc i)).flatMap λk=>cL a.cs i k,?_⟩;rw[agk];unfold rQ;rw[Y,agn,vG]
   obtain⟨l,aq⟩:=this;exact ago Q bJ.can (λi L=>(sR i L).2) i aq
  have VR:nu a i i=ck (jB a.cs (bB a.bc) i 0 0) (gm i):=by unfold nu;rw[aa (by omega)];omega
  have atI:IntKind.i64.wrap (nu a i i+a.cash.getD i 0)=nu a i i+a.cash.getD i 0:=by rw[eC _]
  have t1:=agr L λj=>nu a i j;have t2:=ags (D a.cash) λj=>nu a i j;have t3:=agp L (λj=>nu a i j) (nu a i i+a.cash.getD i 0)
  have CN:(bq (D a.cash) λj=>if j=i then nu a i i+a.cash.getD i 0 else nu a i j)=bq (D a.cash) λj=>(if j<i+1 then a.cash.getD j 0 else 0)+ck (jB a.cs (bB a.bc) i 0 0) (gm j):=jR λj _=>by
   by_cases ag:j=i
   ·rw[Z ag,ag,Z (by omega),VR];omega
   ·rw[aa ag];unfold nu
    by_cases tA:j<i
    ·rw[Z tA,Z (by omega)]
    ·rw[aa tA,aa (by omega)]
  rw[CN] at t3;have eE:i+1<=D a.cash:=by omega
  have ta:(228500+i)/1000≠248:=by omega
  generalize nY:228500+i=dJ at *;have atJ:(dJ=248029)=False:=eq_false (by omega);have atK:(dJ==248029)=false:=beq_eq_false_iff_ne.2 (by omega);have atL:(248029==dJ)=false:=beq_eq_false_iff_ne.2 (by omega);have aDq:ff (a.fZ i)=ff (a.fZ i):=rfl;generalize jK:(bq (D a.cash) λj=>nu a i j).map dv=bZ at *;generalize atM:(bq (D a.cash) λj=>(if j<i+1 then a.cash.getD j 0 else 0)+ck (jB a.cs (bB a.bc) i 0 0) (gm j)).map dv=qF at *;generalize FX:(bq (D a.cash) λi=>M.ptr (228500+i) (a.gs.getD i 0) 0)=vL at *;generalize J9:ff (a.fZ i)=DC at *;simp only[go_sem,go_sem_proc,cw,da,dC,bL,b1,hz,fm,fo,e8,eQ,hN,bV,hlen,la,qS,agD,lb,t1,t2,t3,atI,d1,L,eE,atJ,atK,atL,dv,ki,cI];refine atD T eb a.cash a.cs (bB a.bc) Q bJ.can (λi L=>(sR i L).2) i L (a.fZ i) cU (λk J=>ig _ J) (λj=>if j<i+1 then a.cash.getD j 0 else 0) (λj=>?_) dJ (a.gs.getD i 0) ta (by rw[J9];exact rj) v0 (.I (.int .i64 (D a.cash))) (.ref 248094 qR 1 0 (ct (e6 a.P) i).length) (.ref 248098 kj 1 0 (ct (e6 a.P) i).length) (.I (.int .i64 i)) (.ref 228023 a.g 1 0 (D a.cash)) (.I (.int .i64 (D a.cash))) (.I (.int .i64 i)) bz (some (qR,aY hX (ct (e6 a.P) i))) (some (kj,aY (rP (D a.cash) a.W) (ct (e6 a.P) i))) _ _ ?_ ?_ ?_ ?_ ?_ ?_ ?_ ?_ ?_ ?_ ?_ ?_ ?_ ?_ ?_ (bK.eK (by decide)) ?_
  ·have:=Q.cash j
   split<;>omega
  all_goals first|(intro tm' m' e5 hH k5 hW ht hr l3 On Oo Oq FW Ot Ou vM)|(simp only[eL,dA,if_false,if_true,cw,da,dC,bL,b1,hz,fm,fo])|(simp only[a3,dA,if_false,if_true,mQ,mR])|skip
  ·rw[<-atM]
  have fV:(bq (D a.cash) λj=>(if j<i+1 then a.cash.getD j 0 else 0)+ck (jB a.cs (bB a.bc) (i+1) 0 0) (gm j))=bq (D a.cash) λj=>nu a (i+1) j:=rfl;rw[fV] at FW;have eh:=(vM dJ ta).trans rj;have pl:=agz (e6 a.P) i;rcases q:a.P.getD i false
  ·have fX:ct (e6 a.P) (i+1)=ct (e6 a.P) i:=by
    rw[agy,aa (by unfold e6;rw[q];decide),hO]
   rw[q] at qS;refine a7 ?_;repeat' (intro h<;>simp only[h,go_sem,go_sem_proc,e5,hH,k5,hW,ht,hr,l3,On,Oo,Oq,Ot,Ou,eh,hlen,qS,cl,ki,cI]<;>try refine av ?_ ?_)
   exact⟨(i+1,qR,kj),by dsimp only;omega,by dsimp only;omega,rfl,by rw[fX],by rw[fX],FW,by rw[fX],by rw[fX],vM⟩
  ·have fN:e6 a.P i:=q
   have fX:ct (e6 a.P) (i+1)=ct (e6 a.P) i++[i]:=by
    rw[agy,Z fN]
   have atN:bB a.bc i<10:=by
    obtain⟨E,g,H,ab⟩:=lN;exact (ab.gN i fN).2
   have ob:=as3 a i m' ⟨bJ.ax vM (by decide) aG,jr.ax vM (by decide),⟨Q,fH⟩,L,atN,lN.qI i fN⟩;rw[nY] at ob;have atO:Of (a,i)=.cq [.ae ((de (D a.cash) (a.W i)).map aK),.bool true]:=rfl;rw[atO] at ob;have agE:=mw xn afO 248094 qR 8 (ct (e6 a.P) i) i (cs:=[.I (.int .i64 i)]) rfl (by omega) (by omega);have agF:=mw (agA (D a.cash) a.W) (atG (D a.cash) a.W) 248098 kj 24 (ct (e6 a.P) i) i (cs:=[.I (.ae ((de (D a.cash) (a.W i)).map aK))]) rfl (by omega) (by omega);have bU:(ct (e6 a.P) (i+1)).length=(ct (e6 a.P) i).length+1:=by rw[fX,hj];rfl
   rw[<-fX] at agE agF;rw[q] at qS;generalize (de (D a.cash) (a.W i)).map aK=V at *;refine a7 ?_;repeat' (intro h<;>simp only[h,go_sem,go_sem_proc,Wt,e5,hH,k5,hW,ht,hr,l3,On,Oo,Oq,Ot,Ou,eh,hlen,qS,ob,agE,agF,cl,ki,cI,cR]<;>try refine av ?_ ?_)
   exact⟨(i+1,qR+1,kj+1),by dsimp only;omega,by dsimp only;omega,rfl,by rw[bU],by rw[bU],FW,rfl,rfl,by repeat first|exact vM|refine dS.eK ?_ (by decide)⟩
 ·have d1:decide ((i:Int)<(D a.cash:Int))=false:=dr;obtain rfl:i=D a.cash:=by omega
  refine a7 ?_;repeat' (intro h<;>simp only[h,go_sem,go_sem_proc,cw,da,dC,bL,b1,hz,fm,fo,d1]<;>try refine av ?_ ?_)
  refine dp _ _ qR kj ?_ ?_ ?_ ?_ ?_ lb mQ mR bK<;>simp only[eL,dA,if_false,cw,da,dC,bL,b1,cD.p]
theorem atP (T:bk)(k1:T u0=aX w5)(w4:T zQ=aX Cc){K:er->a2->Prop}{kk:List fU}(eb:Mem)(n:Nat)(p:List Nat)(aC:(D p)<=60)(W:Nat->Nat->Rat)(cA:Nat->Rat)(i:Nat)(L:i<n)(uA:Rat)(aR:∀t,t<=(D p)->eB 708 (uA+bw t λk=>W (p.getD k 0) i*cA k))(cz:∀k,k<(D p)->eB 438 (W (p.getD k 0) i*cA k)/\eB 54 (W (p.getD k 0) i)/\eB 384 (cA k))(agG agH agI agJ:M)(bz:Nat)(agK:Option (Nat×List M))(tm:Nat->M)(m:Mem)
  (bL:tm 6=.I (.ae (p.map hX))) (b1:tm 7=.I (.ae (p.map (rP n W)))) (vO:tm 15=.I (.ae ((de (D p) cA).map aK))) (rF:tm 17=agG) (Aw:tm 18=.I (.int .i64 i)) (nZ:tm 20=.ptr 248020 bz 0) (vP:tm 110=agH) (vQ:tm 111=agI) (o5:tm 112=agJ) (Ka:tm 120=.I (.int .i64 (D p))) (Kb:tm 121=.I (.int .i64 0))
  (FY:m 248020=some (bz,(aK (aE uA)).map .I)) (FZ:m 248156=agK) (bK:dS 248 eb m)
  (dp:∀tm' m',tm' 6=.I (.ae (p.map hX))->tm' 7=.I (.ae (p.map (rP n W)))->tm' 15=.I (.ae ((de (D p) cA).map aK))->tm' 17=agG->tm' 20=.ptr 248020 bz 0->tm' 110=agH->tm' 111=agI->tm' 112=agJ->m' 248020=some (bz,(aK (aE (uA+bw (D p) λk=>W (p.getD k 0) i*cA k))).map .I)->m' 248156=agK->dS 248 eb m'->b7 T K kk (.exit 8) ⟨tm',m'⟩) :
  wp T (uc.body.sub [1,1,1,1,1,1,1,1,1,0,1,0,0,0,1,1,0,0,1,1,0,1,0]) (b7 T K kk) ⟨tm,m⟩:=by
 simp only[uc,dY.sub]
 refine dG [6,7,15,17,18,20,110,111,112,120] [248156] (λ(k:Nat) tm m=>k<=D p/\tm 121=.I (.int .i64 k)/\m 248020=some (bz,(aK (aE (uA+bw k λk=>W (p.getD k 0) i*cA k))).map .I)/\dS 248 eb m) (λk=>D p-k) 0 (by
  refine⟨by omega,Kb,?_,bK⟩
  rw[FY,bw,pa]) ?_
 intro vs ms aV aS;simp only[go_sem,go_sem_proc,bL,b1,vO,rF,Aw,nZ,vP,vQ,o5,Ka,FZ] at aV aS;subst aV aS;clear bL b1 vO rF Aw nZ vP vQ o5 Ka Kb FY FZ bK tm m;rintro k tm m J hm ⟨Fp,Kb,FY,bK⟩;simp only[go_sem,go_sem_proc,bf] at J hm;obtain⟨bL,b1,vO,rF,Aw,nZ,vP,vQ,o5,Ka⟩:=J;rcases dX (k<D p) with ao|cf
 ·have d1:decide ((k:Int)<(D p:Int))=true:=dn;have cl:=gu (i:=k) (by omega);obtain⟨uz,O⟩:∃c,p[k]?=some c:=⟨_,bx ao⟩;have kA:p.getD k 0=uz:=by rw[ea,O];rfl
  obtain⟨gD,iC,ux⟩:=cz k ao;have Wu:=aR k (by omega);rw[kA] at gD iC;have hmul:=ae6 (mc iC (by omega)) (mc ux (by omega)) (VC iC ux (by omega));have nS:=ae5 (mc Wu (by omega)) (mc gD (by omega)) (AJ Wu gD (by omega))
  have Q:(uA+bw (k+1) λk=>W (p.getD k 0) i*cA k)=uA+bw k (λk=>W (p.getD k 0) i*cA k)+W uz i*cA k:=by
   rw[bw,kA];grind
  have aU:=uq (W uz) L;have atQ:=uq cA ao;rw[<-Q] at nS;clear Wu gD iC ux cz aR Q dp;generalize aE (uA+bw k λk=>W (p.getD k 0) i*cA k)=F1 at *;generalize atS:aE (uA+bw (k+1) λk=>W (p.getD k 0) i*cA k)=F2 at *;generalize aE (W uz i*cA k)=F3 at *;generalize aE (W uz i)=F4 at *;generalize aE (cA k)=F5 at *;obtain⟨⟨c5,dK⟩,⟨fl,fP⟩⟩:=F1;obtain⟨⟨dR,gQ⟩,⟨ox,s8⟩⟩:=F2;obtain⟨⟨f1,f2⟩,⟨f3,f4⟩⟩:=F3;obtain⟨⟨cG,cO⟩,⟨h1,k2⟩⟩:=F4;obtain⟨⟨cF,dk⟩,⟨dN,hH⟩⟩:=F5;simp only[aK,eY,cg] at hmul nS FY;refine a7 ?_;repeat' (intro h<;>simp only[h,go_sem,go_sem_proc,k1,w4,bL,b1,vO,rF,Aw,nZ,vP,vQ,o5,Ka,Kb,FY,hm,d1,cl,O,rP,aU,atQ,hmul,nS,aK,al,bd,bne,beq_self_eq_true,cR]<;>try refine av ?_ ?_)
  refine⟨k+1,by omega,by omega,rfl,by rw[atS],by repeat first|exact bK|refine dS.eK ?_ (by decide)⟩
 ·have d1:decide ((k:Int)<(D p:Int))=false:=dr;obtain rfl:k=D p:=by omega
  refine a7 ?_;repeat' (intro h<;>simp only[h,go_sem,go_sem_proc,bL,b1,vO,rF,Aw,nZ,vP,vQ,o5,Ka,Kb,d1]<;>try refine av ?_ ?_)
  refine dp _ _ ?_ ?_ ?_ ?_ ?_ ?_ ?_ ?_ FY hm bK<;>simp only[eL,dA,if_false,bL,b1,vO,rF,nZ,vP,vQ,o5]
def Ow (a:cD):Data:=.cq [.ae ((de (D a.cash) ((aB a.cash a.cs).eI (bB a.bc) (e6 a.P))).map aK),.bool true]
def Wv:List M->Mem->Option Data:=CH (λ(a:cD) args mem=>args=[.ref 228023 a.g 1 0 (D a.cash)]/\Ov a mem) Ow
theorem atT (a:cD)(mem:Mem)(h:Ov a mem):Wv [.ref 228023 a.g 1 0 (D a.cash)] mem=some (Ow a):=by
 refine V3 (a:=a) ?_ ⟨rfl,h⟩;rintro a b args mem ⟨aA,ay⟩ ⟨cV,da⟩;rw[cD.uniq ay.at_ da.at_]
theorem atU (l:List Int):l.map dv=aY af l:=by
 unfold aY
 induction l with
 |nil=>rfl
 |cons a l aw=>rw[eY,eY,ko,k0,<-aw];rfl
theorem atV (n:Nat):(ep n [M.I (.int .i64 0)]).flatten=(bq n λ_=>(0:Int)).map dv:=by
 induction n with
 |zero=>rfl
 |succ n aw=>rw[agL,Fj,aw];simp[bq,pd,dv]
theorem atW (T:bk)(g3:T og=aX ur)(Wt:T LQ=xx Og)(atX:T Rd=xx Ok)(k1:T u0=aX w5)(w4:T zQ=aX Cc)(a:cD)(mem:Mem)(aZ:Ov a mem):
  wp T uc.body (ru uc.res λm mem'=>cZ 6 emp m=some (Ow a)/\dS 248 mem mem') ⟨mj [.ref 228023 a.g 1 0 (D a.cash)],mem⟩:=by
 have bJ:=aZ.at_;have Q:=aZ.FN.rN;have lN:=aZ.hy;have aG:=Q.k7;have Fk:(8*D a.cash<=140737488355328)=True:=eq_true (by omega);have AB:(D a.cash<=maxLen)=True:=eq_true (by unfold maxLen;omega);have agM:mem 248094=none:=aZ.iv 248094 (by decide);have agN:mem 248098=none:=aZ.iv 248098 (by decide);have Nl:mem 248029=none:=aZ.iv 248029 (by decide);have aR:=atV (D a.cash)
 have tw:(bq (D a.cash) λj=>nu a 0 j)=bq (D a.cash) λ_=>(0:Int):=jR λj _=>by
  unfold nu;rw[aa (by omega),atz];rfl
 refine wo ?_;simp only[uc];simp only[go_sem,go_sem_proc,Fk,AB,agM,agN,Nl,aR];refine atH T Wt a mem aZ (.ref 228023 a.g 1 0 (D a.cash)) (.ref 228023 a.g 1 0 (D a.cash)) (.ref 228023 a.g 1 0 (D a.cash)) 0 0 0 _ _ ?_ ?_ ?_ ?_ ?_ ?_ ?_ ?_ ?_ ?_ ?_ ((((dS.refl _ _).eK (by decide)).eK (by decide)).eK (by decide)) ?_
 all_goals first|(intro tm m qR kj e5 hH k5 hW ht lb mQ mR bK)|(simp only[eL,dA,if_false,if_true];done)|(simp only[eL,dA,if_false,if_true];rfl)|(simp only[a3,dA,if_false,if_true,tw])|skip
 have eA:(bq (D a.cash) λj=>nu a (D a.cash) j)=bq (D a.cash) λi=>kg a.cash a.cs (bB a.bc) i:=jR λj ag=>by
  unfold nu;rw[Z ag,agk,agj bJ.can λi L=>(cD.J3 bJ aZ.FN L).2]
 rw[eA,atU] at lb;have gB:∀il,dS 248 mem il->Ok [.ref 228023 a.g 1 0 (D a.cash),.I (.ae ((bq (D a.cash) λi=>kg a.cash a.cs (bB a.bc) i).map af)),.I (.ae (a.p.map hX)),.I (.ae (a.p.map (rP (D a.cash) a.W)))] il=some (.cq [.ae (a.xs.map aK),.bool true]):=λil h=>atc a il ⟨bJ.ax h (by decide) aG,aZ.vN.ax h (by decide),aZ.FN,lN⟩;have agO:(bq (D a.cash) λi=>kg a.cash a.cs (bB a.bc) i).length=D a.cash:=gl _ _;have atY:∀i,i<(D a.cash)->(bq (D a.cash) λi=>kg a.cash a.cs (bB a.bc) i)[i]?=some (kg a.cash a.cs (bB a.bc) i):=λi L=>ig _ L;generalize aDr:(bq (D a.cash) λi=>kg a.cash a.cs (bB a.bc) i)=ST at *;have Ww:=λ(K:a2->Prop) (st:a2)=>lV (K:=K) (st:=st) hF 5 248029 0 ST;rw[agO] at Ww;have Kc:=λ(K:a2->Prop) (st:a2)=>lV (K:=K) (st:=st) xn 6 248094 qR a.p;have agP:=λ(K:a2->Prop) (st:a2)=>lV (K:=K) (st:=st) (agA (D a.cash) a.W) 7 248098 kj a.p;have agQ:=λcG cO h1 aH c2 c3=>gB (a3 (a3 (a3 m 248029 cG aH) 248094 cO c2) 248098 h1 c3) (((bK.eK (by decide)).eK (by decide)).eK (by decide));simp only[go_sem,go_sem_proc,atX,e5,hH,k5,hW,ht,lb,mQ,mR,Ww,Kc,agP,agQ,agO,al,cR];have nD:(D a.p)<=D a.cash:=agz _ _;have fX:=λi (L:i<D a.cash) t (bI:t<=D a.p)=>arX Q lN L bI;have Wx:=λi (L:i<D a.cash)=>lN.good.aeu (d:=aB a.cash a.cs) L;have CO:ct (e6 a.P) (aB a.cash a.cs).n=a.p:=rfl;have atZ:ct (e6 a.P) (D a.cash)=a.p:=rfl;have zJ:a.xs=de (D a.p) λk=>(aB a.cash a.cs).eI (bB a.bc) (e6 a.P) (a.p.getD k 0)-(aB a.cash a.cs).U (a.p.getD k 0) (bB a.bc (a.p.getD k 0)):=rfl;rw[CO] at Wx;rw[atZ] at fX;rw[zJ];generalize lZ:(λk=>(aB a.cash a.cs).eI (bB a.bc) (e6 a.P) (a.p.getD k 0)-(aB a.cash a.cs).U (a.p.getD k 0) (bB a.bc (a.p.getD k 0)))=cA at *;have yM:∀k,(aB a.cash a.cs).eI (bB a.bc) (e6 a.P) (a.p.getD k 0)-(aB a.cash a.cs).U (a.p.getD k 0) (bB a.bc (a.p.getD k 0))=cA k:=λk=>congrFun lZ k;simp only[yM] at fX Wx;have F6:=λi=>JT Q.right (bB a.bc) i;have agR:=λi=>Q.steady (bB a.bc) i;clear Ww Kc agP gB agQ zJ lZ yM e5 hH k5 hW ht lb mQ mR agM agN Nl aR tw Fk AB
 refine dG [6,7,15,110,111] [] (λ((i,g):Nat×Nat) tm il=>i<=D a.cash/\tm 112=.I (.int .i64 i)/\tm 17=.ref 248156 g 4 0 i/\il 248156=some (g,aY aK (de i ((aB a.cash a.cs).eI (bB a.bc) (e6 a.P))))/\dS 248 mem il) (λ(i,_)=>D a.cash-i) (0,gf (m 248156)) (by
  refine⟨by omega,rfl,rfl,by simp[a3];rfl,by repeat first|exact bK|refine dS.eK ?_ (by decide)⟩) ?_
 intro vs ms aV aS;simp only[go_sem,go_sem_proc] at aV aS;subst aV aS;clear bK m tm;rintro⟨i,g⟩ tm m J-⟨b9,o5,rF,FZ,bK⟩;simp only[go_sem,go_sem_proc,bf] at J;obtain⟨bL,b1,vO,vP,vQ⟩:=J;rcases dX (i<D a.cash) with L|cf
 ·have d1:decide ((i:Int)<(D a.cash:Int))=true:=dn;have cl:=gu (i:=i) (by omega);have at0:=atY i L;have hw:=AQ _ (qN (z:=kg a.cash a.cs (bB a.bc) i) (by have:=agR i;omega) (by have:=agR i;omega));rw[F6] at hw;have Wy:=fX i L;have at1:=Wx i L;generalize pM:(aB a.cash a.cs).st (bB a.bc) i=uA at *;generalize iI:aE uA=eF at *;obtain⟨⟨sq,sr⟩,⟨CJ,CK⟩⟩:=eF;simp only[aK] at hw;simp only[go_sem,go_sem_proc,g3,bL,b1,vO,rF,vP,vQ,o5,d1,at0,hw,af,al,bd];refine atP T k1 w4 mem (D a.cash) a.p (by omega) a.W cA i L uA (λt bI=>(Wy t bI).1) (λk J=>⟨(Wy 0 (by omega)).2.1 k J,(NT Q lN (vE J).2 i).1,(Wy 0 (by omega)).2.2 k J⟩) (.ref 248156 g 4 0 i) (.I (.ae (ST.map af))) (.I (.int .i64 (D a.cash))) (.I (.int .i64 i)) (gf (m 248020)) (some (g,aY aK (de i ((aB a.cash a.cs).eI (bB a.bc) (e6 a.P))))) _ _ ?_ ?_ ?_ ?_ ?_ ?_ ?_ ?_ ?_ ?_ ?_ ?_ ?_ ((bK.eK (by decide)).eK (by decide)) ?_
  all_goals first|(intro tm' m' hW ht agS agT Ol agU agV Jo Ox agW vM)|(simp only[eL,dA,if_false,if_true,bL,b1,vO,rF,vP,vQ,o5];done)|(simp only[a3,dA,if_false,if_true,FZ];done)|(simp only[a3,if_true];rw[iI];rfl)
  have at2:uA+(bw (D a.p) λk=>a.W (a.p.getD k 0) i*cA k)=(aB a.cash a.cs).eI (bB a.bc) (e6 a.P) i:=at1.symm;rw[at2] at Ox;have aV:=aga i ((aB a.cash a.cs).eI (bB a.bc) (e6 a.P));have bV:(de i ((aB a.cash a.cs).eI (bB a.bc) (e6 a.P))).length=i:=p2 _ _;have dm:=λ(aO:bS) cs jW=>mw mG EI 248156 g 64 (de i ((aB a.cash a.cs).eI (bB a.bc) (e6 a.P))) aO (cs:=cs) jW (by omega) (by omega);simp only[bV] at dm;generalize de i ((aB a.cash a.cs).eI (bB a.bc) (e6 a.P))=V at *;generalize tW:de (i+1) ((aB a.cash a.cs).eI (bB a.bc) (e6 a.P))=V2 at *;generalize aE ((aB a.cash a.cs).eI (bB a.bc) (e6 a.P) i)=aO at *;obtain⟨⟨c5,dK⟩,⟨fl,fP⟩⟩:=aO;have qP:=dm ((c5,dK),(fl,fP)) _ rfl;rw[<-aV] at qP;simp only[aK,eY,cg] at qP Ox;simp only[go_sem,go_sem_proc,hW,ht,agS,agT,Ol,agU,agV,Jo,Ox,agW,qP,cl];repeat' (first|refine av ?_ ?_|fail)<;>intro h<;>simp only[h,go_sem,go_sem_proc,hW,ht,agS,agT,Ol,agU,agV,Jo,Ox,agW,qP,cl]
  exact⟨(i+1,g+1),by dsimp only;omega,by dsimp only;omega,rfl,rfl,by rw[<-tW],by repeat first|exact vM|refine dS.eK ?_ (by decide)⟩
 ·have d1:decide ((i:Int)<(D a.cash:Int))=false:=dr;obtain rfl:i=D a.cash:=by omega
  have lU:(de (D a.cash) ((aB a.cash a.cs).eI (bB a.bc) (e6 a.P))).length=D a.cash:=p2 _ _;have lM:=λ(K:a2->Prop) (st:a2)=>lV (K:=K) (st:=st) mG 17 248156 g (de (D a.cash) ((aB a.cash a.cs).eI (bB a.bc) (e6 a.P)));rw[lU] at lM;simp only[go_sem,go_sem_proc,bL,b1,vO,rF,vP,vQ,o5,FZ,d1,lM];repeat' (first|refine av ?_ ?_|fail)<;>intro h<;>simp only[h,go_sem,go_sem_proc,bL,b1,vO,rF,vP,vQ,o5,FZ,d1,lM]
  exact⟨_,rfl,rfl,by repeat first|exact bK|refine dS.eK ?_ (by decide)|refine dS.kill ?_ (by decide)⟩
def cD.g4 (a:cD)(p:Nat->Bool):cD:={ a with P:=mN (D a.cash) p }
theorem cD.Oy (a:cD)(p:Nat->Bool){i:Nat}(L:i<D a.cash):(a.g4 p).fZ i=(a.fZ i).sp (p i):=by
 have:(mN (D a.cash) p).getD i false=p i:=by rw[ea,N3 _ L];rfl
 unfold cD.fZ cD.g4 nr.sp;dsimp only;rw[this]
theorem cD.eM.agX {a:cD}{m:Mem}{p:Nat->Bool}(h:(a.g4 p).eM m){i:Nat}(L:i<D a.cash)(b:Bool):(a.g4 λj=>if j=i then b else p j).eM (a3 m (228500+i) (a.gs.getD i 0) (ff ((a.fZ i).sp b))):=by
 refine⟨h.can,h.bc,N2 _ _,h.Od,?_,λj ag=>?_⟩
 ·have:=h.row;simp only[a3];rw[aa (show ¬ ((228023:Nat)=228500+i) by omega)];exact this
 ·rw[cD.Oy a _ ag];simp only[a3]
  by_cases jL:j=i
  ·subst jL;rw[Z rfl,Z rfl]
   rfl
  ·rw[aa (show ¬ ((228500+j:Nat)=228500+i) by omega),aa jL];have:=h.di j ag;rw[cD.Oy a _ ag] at this;exact this
theorem cD.at3 {a:cD}(h:(D a.P)=D a.cash):a.g4 (λj=>a.P.getD j false)=a:=by
 have:mN (D a.cash) (λj=>a.P.getD j false)=a.P:=by
  refine J1 (d:=false) (N2 _ _) h λj ag=>?_;rw[ea,N3 _ ag];rfl
 unfold cD.g4;rw[this]
theorem cD.F7 (a:cD){p q:Nat->Bool}(h:∀i,i<(D a.cash)->p i=q i):a.g4 p=a.g4 q:=by
 unfold cD.g4;rw[asp h]
def vR (n:Nat)(mem m:Mem):Prop:=∀k,(∀i,i<n->k≠228500+i)->m k=mem k
theorem vR.eK {n i g:Nat}{cs:List M}{mem m:Mem}(h:vR n mem m)(L:i<n):vR n mem (a3 m (228500+i) g cs):=λk J=>by
 simp only[a3];rw[aa (J i L)];exact h k J
theorem vR.no {n j:Nat}{mem m:Mem}(h:vR n mem m)(aG:n<=6)(ag:j≠228)(hm:qM j mem):qM j m:=λk J=>by
 rw[h k λi L=>by omega]
 exact hm k J
theorem at4 (T:bk)(g3:T og=aX ur)(fp:T qt=aX vj){K:er->a2->Prop}{kk:List fU}(eb:Mem)(a:cD)(p:Nat->Bool)(zb:a.FM)(h:Nat->Rat)(mb:∀i,i<(D a.cash)->dI (h i))(tm:Nat->M)(m:Mem)
  (bJ:(a.g4 p).eM m) (bK:vR (D a.cash) eb m) (cw:tm 0=.ref 228023 a.g 1 0 (D a.cash)) (bL:tm 6=.I (.ae ((de (D a.cash) h).map aK))) (dq:tm 8=.I (.bool false)) (ns:tm 28=.ref 228023 a.g 1 0 (D a.cash)) (tb:tm 29=.I (.int .i64 (D a.cash))) (hz:tm 30=.I (.int .i64 0))
  (dp:∀tm' m',tm' 0=.ref 228023 a.g 1 0 (D a.cash)->tm' 6=.I (.ae ((de (D a.cash) h).map aK))->tm' 8=.I (.bool (xy (aB a.cash a.cs) (bB a.bc) h p (D a.cash)))->(a.g4 (np (aB a.cash a.cs) (bB a.bc) h p (D a.cash))).eM m'->vR (D a.cash) eb m'->b7 T K kk (.exit 4) ⟨tm',m'⟩) :
  wp T (EG.body.sub [1,1,0,0,0,1,1,1,0,1,0]) (b7 T K kk) ⟨tm,m⟩:=by
 simp only[EG,dY.sub];obtain⟨Q,fH⟩:=zb;have aG:=Q.k7
 refine dG [0,6,28,29] [] (λ(i:Nat) tm m=>i<=D a.cash/\tm 30=.I (.int .i64 i)/\tm 8=.I (.bool (xy (aB a.cash a.cs) (bB a.bc) h p i))/\(a.g4 (np (aB a.cash a.cs) (bB a.bc) h p i)).eM m/\vR (D a.cash) eb m) (λi=>D a.cash-i) 0 (by
  refine⟨by omega,hz,dq,?_,bK⟩
  have:a.g4 (np (aB a.cash a.cs) (bB a.bc) h p 0)=a.g4 p:=a.F7 λj _=>by
   unfold np;rw[dr,ja,nL]
  rw[this];exact bJ) ?_
 intro vs ms aV aS;simp only[go_sem,go_sem_proc,cw,bL,ns,tb] at aV aS;subst aV aS;clear cw bL dq ns tb hz bJ bK tm m;rintro i tm m J-⟨L,hz,dq,bJ,bK⟩;simp only[go_sem,go_sem_proc,bf] at J;obtain⟨cw,bL,ns,tb⟩:=J;rcases dX (i<D a.cash) with ao|cf
 ·have d1:decide ((i:Int)<(D a.cash:Int))=true:=dn;have cl:=gu (i:=i) (by omega);have qO:a.bc.getD i 10=(bB a.bc i:Int)/\bB a.bc i<=10:=cD.J3 (a:=a.g4 (np (aB a.cash a.cs) (bB a.bc) h p i)) bJ ⟨Q,fH⟩ ao;obtain⟨qO,uw⟩:=qO;have e8:m 228023=some (a.g,bq (D a.cash) λi => .ptr (228500+i) (a.gs.getD i 0) 0):=bJ.row;have eQ:m (228500+i)=some (a.gs.getD i 0,ff ((a.g4 (np (aB a.cash a.cs) (bB a.bc) h p i)).fZ i)):=bJ.di i ao;rw[cD.Oy a _ ao,afl] at eQ;have hN:=uy (ig (λi=>M.ptr (228500+i) (a.gs.getD i 0) 0) ao);have bV:(bq (D a.cash) λi=>M.ptr (228500+i) (a.gs.getD i 0) 0).length=D a.cash:=gl _ _;have cU:((a.fZ i).sp (p i)).cT:=⟨(a.vK i).cN,(a.vK i).us⟩;have hlen:=AV cU;have la:ho 1 (hR 22 (ff ((a.fZ i).sp (p i))))=[dv (bB a.bc i:Int)]:=(J0 cU).trans (congrArg (λx=>[dv x]) qO);have qS:ho 1 (hR 23 (ff ((a.fZ i).sp (p i))))=[ki (p i)]:=afU cU;have rO:=JZ cU (k:=bB a.bc i) (z:=ca a.cs i (bB a.bc i:Nat)) (ig _ (by omega));have dZ:_=ff ((a.fZ i).sp true):=afV cU true;have o8:=bJ.agX ao true;have aS:=asq (aB a.cash a.cs) (bB a.bc) h p i
  have wc:(p i=true\/uu (aB a.cash a.cs) (bB a.bc) h i=false)->a.g4 (np (aB a.cash a.cs) (bB a.bc) h p (i+1))=a.g4 (np (aB a.cash a.cs) (bB a.bc) h p i):=λaQ=>a.F7 λj _=>by
   rw[afm]
   by_cases ag:j=i
   ·subst ag;rw[Z rfl,afl];rcases aQ with E|E
    ·rw[E];rfl
    ·rw[E,nL]
   ·rw[aa ag]
  have eE:i+1<=D a.cash:=by omega
  have aj:bB a.bc i<11:=by omega
  have bQ:(11+bB a.bc i+1<=24)=True:=eq_true (by omega);have b6:(23+1<=24)=True:=eq_true (by omega);generalize FX:(bq (D a.cash) λi=>M.ptr (228500+i) (a.gs.getD i 0) 0)=vL at *;have nY:228500+i=228500+i:=rfl;generalize ta:228500+i=dJ at *;generalize J9:ff ((a.fZ i).sp (p i))=DC at *;rcases d2:decide ((bB a.bc i:Int)<10)
  ·have kq:uu (aB a.cash a.cs) (bB a.bc) h i=false:=by
    unfold uu;rw[oE (by have:=of_decide_eq_false d2;omega),ja]
   rw[kq,ju,nL] at aS;simp only[go_sem,go_sem_proc,cw,bL,dq,ns,tb,hz,e8,eQ,hN,bV,hlen,la,d1,d2,cl,ao,eE,dv,ki,cI];repeat' (first|refine av ?_ ?_|fail)<;>intro h<;>simp only[h,go_sem,go_sem_proc,cw,bL,dq,ns,tb,hz,e8,eQ,hN,bV,hlen,la,d1,d2,cl,ao,eE,dv,ki,cI]
   exact⟨i+1,by omega,by omega,rfl,by rw[aS],by rw[wc (.inr kq)];exact bJ,bK⟩
  ·rcases x3:p i
   ·rw[x3] at qS;have kY:=Q.upto i (bB a.bc i);have CP:dz (ca a.cs i (bB a.bc i:Nat)):=qN (by omega) (by omega);have hw:=AQ _ CP;have oi:=JV (mb i ao) (rM CP);have ic:decide (ni (h i) ((ca a.cs i (bB a.bc i:Nat):Int):Rat)>0)=decide (((ca a.cs i (bB a.bc i:Nat):Int):Rat)<h i):=ae7
    have bP:uu (aB a.cash a.cs) (bB a.bc) h i=decide (((ca a.cs i (bB a.bc i:Nat):Int):Rat)<h i):=by
     unfold uu;rw[s0 Q.right,kH (show bB a.bc i<10 by have:=of_decide_eq_true d2;omega),iy]
    rw[<-bP] at ic;have zc:=uq h ao;generalize at5:aE (h i)=hk at *;generalize lZ:aE ((ca a.cs i (bB a.bc i:Nat):Int):Rat)=cA at *;obtain⟨⟨dR,gQ⟩,⟨ox,s8⟩⟩:=cA;obtain⟨⟨c5,dK⟩,⟨fl,fP⟩⟩:=hk;simp only[aK] at hw oi;rcases kq:uu (aB a.cash a.cs) (bB a.bc) h i
    ·rw[kq] at ic;rw[x3,kq,ju,nL] at aS;simp only[go_sem,go_sem_proc,g3,fp,cw,bL,dq,ns,tb,hz,e8,eQ,hN,bV,hlen,la,qS,rO,d1,d2,cl,ao,eE,aj,bQ,hw,oi,ic,zc,aK,dv,ki,cI,dc,cR,al,bd];repeat' (first|refine av ?_ ?_|fail)<;>intro h<;>simp only[h,go_sem,go_sem_proc,g3,fp,cw,bL,dq,ns,tb,hz,e8,eQ,hN,bV,hlen,la,qS,rO,d1,d2,cl,ao,eE,aj,bQ,hw,oi,ic,zc,aK,dv,ki,cI,dc,cR,al,bd]
     exact⟨i+1,by omega,by omega,rfl,by rw[aS],by rw[wc (.inr kq)];exact bJ,bK⟩
    ·rw[kq] at ic;rw[x3,kq,dc,iy,tC] at aS
     have fV:a.g4 (np (aB a.cash a.cs) (bB a.bc) h p (i+1))=a.g4 λj=>if j=i then true else np (aB a.cash a.cs) (bB a.bc) h p i j:=a.F7 λj _=>by
      rw[afm,kq,tC]
     rw[<-fV] at o8;have p5:=bK.eK (g:=a.gs.getD i 0) (cs:=ff ((a.fZ i).sp true)) ao;rw[ta] at p5;simp only[go_sem,go_sem_proc,g3,fp,cw,bL,dq,ns,tb,hz,e8,eQ,hN,bV,hlen,la,qS,rO,dZ,d1,d2,cl,ao,eE,aj,bQ,b6,hw,oi,ic,zc,aK,dv,ki,cI,dc,cR,al,bd];repeat' (first|refine av ?_ ?_|fail)<;>intro h<;>simp only[h,go_sem,go_sem_proc,g3,fp,cw,bL,dq,ns,tb,hz,e8,eQ,hN,bV,hlen,la,qS,rO,dZ,d1,d2,cl,ao,eE,aj,bQ,b6,hw,oi,ic,zc,aK,dv,ki,cI,dc,cR,al,bd]
     exact⟨i+1,by omega,by omega,rfl,by rw[aS],o8,p5⟩
   ·rw[x3] at qS;rw[x3,cR,ja,nL] at aS;simp only[go_sem,go_sem_proc,cw,bL,dq,ns,tb,hz,e8,eQ,hN,bV,hlen,la,qS,d1,d2,cl,ao,eE,dv,ki,cI,cR];repeat' (first|refine av ?_ ?_|fail)<;>intro h<;>simp only[h,go_sem,go_sem_proc,cw,bL,dq,ns,tb,hz,e8,eQ,hN,bV,hlen,la,qS,d1,d2,cl,ao,eE,dv,ki,cI,cR]
    exact⟨i+1,by omega,by omega,rfl,by rw[aS],by rw[wc (.inl x3)];exact bJ,bK⟩
 ·have d1:decide ((i:Int)<(D a.cash:Int))=false:=dr;obtain rfl:i=D a.cash:=by omega
  simp only[go_sem,go_sem_proc,cw,bL,dq,ns,tb,hz,d1];repeat' (first|refine av ?_ ?_|fail)<;>intro h<;>simp only[h,go_sem,go_sem_proc,cw,bL,dq,ns,tb,hz,d1]
  refine dp _ _ ?_ ?_ ?_ bJ bK<;>simp only[eL,dA,if_false,cw,bL,dq]
structure Wz (a:cD) (mem:Mem):Prop where
 at_:a.eM mem
 iv:qM 248 mem
 jr:qM 255 mem
 vN:qM 256 mem
 FN:a.FM
 inv:∃g,Inv (aB a.cash a.cs) (bB a.bc) g
def Oz (a:cD)(mem:Mem):M->Mem->Prop:=λm mem'=>m=.cq [.I (.ae ((de (D a.cash) ((aB a.cash a.cs).top (bB a.bc))).map aK)),.I (.bool true)]/\∃p,(a.g4 p).eM mem'/\vR (D a.cash) mem mem'
def Kd:List M->Mem->Option (M->Mem->Prop):=yQ (λ(a:cD) args mem=>args=[.ref 228023 a.g 1 0 (D a.cash)]/\Wz a mem) Oz
theorem at6 (a:cD)(mem:Mem)(h:Wz a mem):Kd [.ref 228023 a.g 1 0 (D a.cash)] mem=some (Oz a mem):=by
 refine afb (a:=a) ?_ ⟨rfl,h⟩;rintro a b args mem ⟨aA,ay⟩ ⟨cV,da⟩;rw[cD.uniq ay.at_ da.at_]
theorem at7 (T:bk)(at8:T Ra=xx Wv)(g3:T og=aX ur)(fp:T qt=aX vj)(a:cD)(mem:Mem)(aZ:Wz a mem):
  wp T EG.body (ru EG.res (Oz a mem)) ⟨mj [.ref 228023 a.g 1 0 (D a.cash)],mem⟩:=by
 obtain⟨CR,iv,jr,vN,zb,Bq,hinv⟩:=aZ;have Q:=zb.rN;have aG:=Q.k7;have X:=Q.ok;refine wo ?_;simp only[EG];simp only[go_sem,go_sem_proc]
 refine dG [0,11,12] [] (λ(i:Nat) tm m=>i<=D a.cash/\tm 13=.I (.int .i64 i)/\(a.g4 λj=>if j<i then false else a.P.getD j false).eM m/\vR (D a.cash) mem m) (λi=>D a.cash-i) 0 (by
  refine⟨by omega,rfl,?_,λ_ _=>rfl⟩
  have:(a.g4 λj=>if j<0 then false else a.P.getD j false)=a:=(a.F7 λj _=>by rw[aa (by omega)]).trans (cD.at3 CR.pl);rw[this];exact CR) ?_
 intro vs ms aV aS;simp only[go_sem,go_sem_proc] at aV aS;subst aV aS;rintro i tm m J-⟨L,iE,bJ,bK⟩;simp only[go_sem,go_sem_proc,bf] at J;obtain⟨cw,pf,h4⟩:=J;rcases dX (i<D a.cash) with ao|cf
 ·have d1:decide ((i:Int)<(D a.cash:Int))=true:=dn;have cl:=gu (i:=i) (by omega);have e8:m 228023=some (a.g,bq (D a.cash) λi => .ptr (228500+i) (a.gs.getD i 0) 0):=bJ.row;have eQ:m (228500+i)=some (a.gs.getD i 0,_):=bJ.di i ao;rw[cD.Oy a _ ao] at eQ;have hN:=uy (ig (λi=>M.ptr (228500+i) (a.gs.getD i 0) 0) ao);have bV:(bq (D a.cash) λi=>M.ptr (228500+i) (a.gs.getD i 0) 0).length=D a.cash:=gl _ _;have cU:((a.fZ i).sp (if i<i then false else a.P.getD i false)).cT:=⟨(a.vK i).cN,(a.vK i).us⟩;have hlen:=AV cU;have dZ:_=ff ((a.fZ i).sp false):=afV cU false;have o8:=bJ.agX ao false;have p5:=bK.eK (g:=a.gs.getD i 0) (cs:=ff ((a.fZ i).sp false)) ao
  have fV:(a.g4 λj=>if j<i+1 then false else a.P.getD j false)=a.g4 λj=>if j=i then false else if j<i then false else a.P.getD j false:=a.F7 λj _=>by
   by_cases E:j=i
   ·rw[Z E,Z (by omega)]
   ·rw[aa E]
    by_cases H:j<i
    ·rw[Z H,Z (by omega)]
    ·rw[aa H,aa (by omega)]
  rw[<-fV] at o8;have eE:i+1<=D a.cash:=by omega
  have b6:(23+1<=24)=True:=eq_true (by omega);generalize FX:(bq (D a.cash) λi=>M.ptr (228500+i) (a.gs.getD i 0) 0)=vL at *;generalize ta:228500+i=dJ at *;generalize J9:ff ((a.fZ i).sp (if i<i then false else a.P.getD i false))=DC at *;simp only[go_sem,go_sem_proc,cw,pf,h4,iE,e8,eQ,hN,bV,hlen,dZ,d1,cl,ao,eE,b6,dv,ki,cI];repeat' (first|refine av ?_ ?_|fail)<;>intro h<;>simp only[h,go_sem,go_sem_proc,cw,pf,h4,iE,e8,eQ,hN,bV,hlen,dZ,d1,cl,ao,eE,b6,dv,ki,cI]
  exact⟨i+1,by omega,by omega,rfl,o8,p5⟩
 ·have d1:decide ((i:Int)<(D a.cash:Int))=false:=dr;obtain rfl:i=D a.cash:=by omega
  have fV:(a.g4 λj=>if j<(D a.cash) then false else a.P.getD j false)=a.g4 λ_=>false:=a.F7 λj ag=>by rw[Z ag]
  rw[fV] at bJ;simp only[go_sem,go_sem_proc,cw,pf,h4,iE,d1]
  refine dG [0] [] (λ(p:Nat->Bool) tm m=>(a.g4 p).eM m/\vR (D a.cash) mem m/\rJ (aB a.cash a.cs) (bB a.bc) (e6 (mN (D a.cash) p))) (λp=>lL (D a.cash) λi=>if p i then 0 else 1) (λ_=>false) (by
   refine⟨bJ,bK,?_⟩;rw[ass];exact⟨X,Bq,hinv,hZ.first X hinv⟩) ?_
  intro vs ms aV aS;simp only[go_sem,go_sem_proc,cw] at aV aS;subst aV aS;clear cw pf h4 iE bK bJ;rintro p tm m cw-⟨bJ,bK,lN⟩;simp only[go_sem,go_sem_proc,bf] at cw;have gB:=atT (a.g4 p) m ⟨bJ,bK.no aG (by decide) iv,bK.no aG (by decide) jr,bK.no aG (by decide) vN,⟨zb.rN,zb.fH⟩,lN⟩;have fD:Ow (a.g4 p)=.cq [.ae ((de (D a.cash) ((aB a.cash a.cs).eI (bB a.bc) (e6 (mN (D a.cash) p)))).map aK),.bool true]:=rfl;rw[fD,show (a.g4 p).g=a.g from rfl,show (a.g4 p).cash=a.cash from rfl] at gB;simp only[go_sem,go_sem_proc,at8,cw,gB,cR];refine at4 T g3 fp m a p zb ((aB a.cash a.cs).eI (bB a.bc) (e6 (mN (D a.cash) p))) (λi L=>mc (aeL Q lN L) (by omega)) _ _ bJ (λ_ _=>rfl) ?_ ?_ ?_ ?_ ?_ ?_ ?_
  all_goals first|(intro Ke bY e5 hW hr x0 p5)|(simp only[eL,dA,if_false,if_true,cw];done)
  obtain⟨cU,cG,qi,Mh⟩:=lN;rcases hm:xy (aB a.cash a.cs) (bB a.bc) ((aB a.cash a.cs).eI (bB a.bc) (e6 (mN (D a.cash) p))) p (D a.cash)
  ·rw[hm] at hr;have aa6:=Mh.aew X qi λi L E H=>N4.2 ⟨L,asu hm L E H⟩;rw[FF (N:=D a.cash) aa6] at hW;simp only[go_sem,go_sem_proc,e5,hW,hr,dc];repeat' (first|refine av ?_ ?_|fail)<;>intro h<;>simp only[h,go_sem,go_sem_proc,e5,hW,hr,dc]
   exact⟨_,rfl,rfl,_,x0,λk J=>(p5 k J).trans (bK k J)⟩
  ·rw[hm] at hr;simp only[go_sem,go_sem_proc,e5,hW,hr,cR];repeat' (first|refine av ?_ ?_|fail)<;>intro h<;>simp only[h,go_sem,go_sem_proc,e5,hW,hr,cR]
   refine⟨_,ast hm,x0,λk J=>(p5 k J).trans (bK k J),?_⟩;have xd:=asr (d:=aB a.cash a.cs) (f:=bB a.bc) (h:=(aB a.cash a.cs).eI (bB a.bc) (e6 (mN (D a.cash) p))) (p:=p);have kS:(aB a.cash a.cs).n=D a.cash:=rfl;rw[kS] at xd;rw[xd];exact⟨X,cG,qi,Mh.succ X qi⟩
def hf (c:Int)(q:Nat->M)(us:Nat->Int)(f:Int)(p:Bool):List M:=dv c::(bq 10 q++((bq 11 us).map dv++[dv f,ki p]))
theorem OA (c:Int)(q:Nat->M)(us:Nat->Int)(f:Int)(p:Bool):(hf c q us f p).length=24:=by
 simp[hf,gl]
theorem WA {c:Int}{q:Nat->M}{us:Nat->Int}{f:Int}{p:Bool}{k:Nat}(J:k<10):(hf c q us f p)[1+k]?=some (q k):=by
 unfold hf;rw[xL,agY,q3 (by rw[gl];exact J)];exact ig q J
theorem at9 {c:Int}{q:Nat->M}{us:Nat->Int}{f:Int}{p:Bool}{k:Nat}(J:k<10):ho 1 (hR (1+k) (hf c q us f p))=[q k]:=uy (WA J)
theorem aua {c:Int}{q:Nat->M}{us:Nat->Int}{f:Int}{p:Bool}{k:Nat}(J:k<11):ho 1 (hR (11+k) (hf c q us f p))=[.I (.int .i64 (us k))]:=by
 refine uy ?_;unfold hf;rw[show 11+k=(10+k)+1 by omega,agY,q4 (by rw[gl];omega),gl,q3 (by rw[al,gl];omega),show 10+k-10=k by omega,bd,ig us J]
 rfl
theorem OB {l:List M}{k:Nat}{v:M}(J:k<D l):ho k l++[v]++hR (k+1) l=l.set k v:=by
 rw[agq,Z J];simp
theorem WB {c:Int}{q:Nat->M}{us:Nat->Int}{f:Int}{p:Bool}{k:Nat}(J:k<10)(v:M):(hf c q us f p).set (1+k) v=hf c (λj=>if j=k then v else q j) us f p:=by
 unfold hf;rw[xL,E4,agZ _ _ (by rw[gl];exact J),y9]
theorem aub {c:Int}{q:Nat->M}{us:Nat->Int}{f:Int}{p:Bool}{k:Nat}(J:k<11)(v:Int):(hf c q us f p).set (11+k) (.I (.int .i64 v))=hf c q (λj=>if j=k then v else us j) f p:=by
 unfold hf;rw[show 11+k=(10+k)+1 by omega,E4,Cn _ _ (by rw[gl];omega),gl,agZ _ _ (by rw[al,gl];omega),show 10+k-10=k by omega,<-y9,xi]
 rfl
theorem zd {c:Int}{q sy:Nat->M}{us ag0:Nat->Int}{f:Int}{p:Bool}(h:∀k,k<10->q k=sy k)(b2:∀k,k<11->us k=ag0 k):hf c q us f p=hf c sy ag0 f p:=by
 unfold hf;rw[jR h,jR b2]
theorem ag1 (T:bk){K:er->a2->Prop}{kk:List fU}(ks:Mem)(dJ OC OD:Nat)(c:Int)(q:Nat->M)(us:Nat->Int)(aH c2:Int)(r:Nat)(am:Int)(Y:r<10)(ad:∀j,0<=us j/\us j<=4000000000000000000)(sX:0<=am/\am<=1000000000000000)(nY:dJ≠228009)(ag2 ag3 ag4 ag5:M)(tm:Nat->M)(m:Mem)
  (dC:tm 5=ag2) (fb:tm 9=.ptr 228009 OD 0) (fL:tm 10=.ptr dJ OC 0) (pf:tm 11=.I (.int .i64 (r+1:Nat))) (iR:tm 25=ag3) (kF:tm 26=ag4) (mg:tm 27=ag5) (auc:ks 228009=some (OD,[.I (.int .i64 aH),.I (.int .i64 c2),.I (.int .i64 r),.I (.int .i64 am)])) (F8:m dJ=some (OC,hf c q us 10 false)) (bK:∀k,k≠dJ->m k=ks k)
  (dp:∀tm' m',tm' 5=ag2->tm' 25=ag3->tm' 26=ag4->tm' 27=ag5->m' dJ=some (OC,hf c q (λj=>us j+if r<j then am else 0) 10 false)->(∀k,k≠dJ->m' k=ks k)->b7 T K kk (.exit 4) ⟨tm',m'⟩) :
  wp T (Al.body.sub [1,1,1,0,1,0,0,1,1,0,0,1,1,1,1,0]) (b7 T K kk) ⟨tm,m⟩:=by
 simp only[Al,dY.sub]
 refine dG [5,9,10,25,26,27] [] (λ(k:Nat) tm m=>r<k/\k<=11/\tm 11=.I (.int .i64 k)/\m dJ=some (OC,hf c q (λj=>us j+if r<j/\j<k then am else 0) 10 false)/\∀k,k≠dJ->m k=ks k) (λk=>11-k) (r+1) (by
  refine⟨by omega,by omega,pf,?_,bK⟩
  rw[F8]
  congr 2
  exact zd (λ_ _=>rfl) λj _=>by rw[aa (by omega)];omega) ?_
 intro vs ms aV aS;simp only[go_sem,go_sem_proc,dC,fb,fL,iR,kF,mg] at aV aS;subst aV aS;clear dC fb fL pf iR kF mg F8 bK tm m;rintro k tm m J-⟨gH,aDs,pf,F8,bK⟩;simp only[go_sem,go_sem_proc,bf] at J;obtain⟨dC,fb,fL,iR,kF,mg⟩:=J;have aud:=(bK 228009 (Ne.symm nY)).trans auc;rcases dX (k<=10) with ao|cf
 ·have d1:decide ((k:Int)<=10)=true:=dn;have cl:=gu (i:=k) (by omega);have hlen:=OA c q (λj=>us j+if r<j/\j<k then am else 0) 10 false;have aU:=aua (c:=c) (q:=q) (us:=λj=>us j+if r<j/\j<k then am else 0) (f:=10) (p:=false) (k:=k) (by omega);have eA:=(OB (l:=hf c q (λj=>us j+if r<j/\j<k then am else 0) 10 false) (k:=11+k) (v:=.I (.int .i64 (us k+am))) (by rw[OA];omega)).trans (aub (by omega) (us k+am))
  have fV:hf c q (λj=>if j=k then us k+am else us j+if r<j/\j<k then am else 0) 10 false=hf c q (λj=>us j+if r<j/\j<k+1 then am else 0) 10 false:=zd (λ_ _=>rfl) λj _=>by
   by_cases ag:j=k
   ·rw[Z ag,ag,Z ⟨gH,by omega⟩]
   ·rw[aa ag]
    by_cases H:r<j/\j<k
    ·rw[Z H,Z ⟨H.1,by omega⟩]
    ·rw[aa H,aa (by omega)]
  rw[fV] at eA;rw[aa (by omega),tU] at aU;have J8:IntKind.i64.wrap (us k+am)=us k+am:=by have:=ad k;rw[eC _]
  have aj:k<11:=by omega
  have bQ:(11+k+1<=24)=True:=eq_true (by omega);have CL:(dJ==228009)=false:=beq_eq_false_iff_ne.2 nY;have OE:(228009==dJ)=false:=beq_eq_false_iff_ne.2 (Ne.symm nY);generalize hf c q (λj=>us j+if r<j/\j<k then am else 0) 10 false=D1 at *;generalize Ff:hf c q (λj=>us j+if r<j/\j<k+1 then am else 0) 10 false=D2 at *;refine a7 ?_;repeat' (intro h<;>simp only[h,go_sem,go_sem_proc,dC,fb,fL,pf,iR,kF,mg,aud,F8,d1,cl,hlen,aU,eA,J8,aj,bQ,CL,OE,cI]<;>try refine av ?_ ?_)
  refine⟨k+1,by omega,by omega,by omega,rfl,by rw[Ff],λj ag=>?_⟩
  simp only[a3,ag,if_false];exact bK j ag
 ·have d1:decide ((k:Int)<=10)=false:=dr;obtain rfl:k=11:=by omega
  have fV:hf c q (λj=>us j+if r<j/\j<11 then am else 0) 10 false=hf c q (λj=>us j+if r<j then am else 0) 10 false:=zd (λ_ _=>rfl) λj ag=>by
   by_cases H:r<j
   ·rw[Z ⟨H,ag⟩,Z H]
   ·rw[aa (by omega),aa H]
  rw[fV] at F8;refine a7 ?_;repeat' (intro h<;>simp only[h,go_sem,go_sem_proc,dC,fb,fL,pf,iR,kF,mg,d1]<;>try refine av ?_ ?_)
  refine dp _ _ ?_ ?_ ?_ ?_ F8 bK<;>simp only[eL,dA,if_false,dC,iR,kF,mg]
def nv (l:List ar)(ev:Nat->Nat->Nat)(i k:Nat):M:=if cL l i k=[] then .nil else .ref (228600+10*i+k) (ev i k) 4 0 (cL l i k).length
structure xz (cash:List Int) (l:List ar) (g:Nat) (gs:Nat->Nat) (ev:Nat->Nat->Nat) (m:Mem):Prop where
 row:m 228023=some (g,bq (D cash) λi => .ptr (228500+i) (gs i) 0)
 di:∀i,i<(D cash)->m (228500+i)=some (gs i,hf (cash.getD i 0) (nv l ev i) (λk=>ca l i (k:Nat)) 10 false)
 CS:∀i k,i<(D cash)->k<10->cL l i k≠[]->m (228600+10*i+k)=some (ev i k,aY bE (cL l i k))
theorem aue (l:List ar)(c:ar)(i k:Nat):cL (l++[c]) i k=if c.1=(i:Int)/\c.2.2.1=(k:Int) then cL l i k++[c] else cL l i k:=by
 unfold cL;rw[y6]
 by_cases h:c.1=(i:Int)/\c.2.2.1=(k:Int)
 ·rw[Z h,xv (by simp[h.1,h.2]),s6]
 ·rw[aa h,xw (by simpa using h),s6,hO]
theorem Kf (l:List ar)(aH c2 c3 c4:Int)(i k:Nat):cL (l++[(aH,c2,c3,c4)]) i k=if aH=(i:Int)/\c3=(k:Int) then cL l i k++[(aH,c2,c3,c4)] else cL l i k:=aue l _ i k
theorem auf (l:List ar)(c:ar)(i r:Int):ca (l++[c]) i r=ca l i r+if c.1=i/\c.2.2.1<r then c.2.2.2 else 0:=by
 unfold ca;rw[Om]
theorem ag6 (l:List ar)(aH c2 c3 c4 i r:Int):ca (l++[(aH,c2,c3,c4)]) i r=ca l i r+if aH=i/\c3<r then c4 else 0:=auf l _ i r
theorem xz.next {cash:List Int}{l:List ar}{g:Nat}{gs:Nat->Nat}{ev:Nat->Nat->Nat}{m m':Mem}(h:xz cash l g gs ev m)(aG:(D cash)<=6){aH c3:Nat}{c2 c4:Int}(gq:aH<D cash)(oW:c3<10)(p6:Nat)
  (e8:m' 228023=m 228023) (aug:∀i,i<(D cash)->i≠aH->m' (228500+i)=m (228500+i)) (eQ:m' (228500+aH)=some (gs aH,hf (cash.getD aH 0) (λk=>if k=c3 then .ref (228600+10*aH+c3) p6 4 0 ((cL l aH c3).length+1) else nv l ev aH k) (λk=>ca l aH (k:Nat)+if c3<k then c4 else 0) 10 false))
  (OG:m' (228600+10*aH+c3)=some (p6,aY bE (cL l aH c3++[((aH:Int),c2,(c3:Int),c4)]))) (auh:∀i k,i<(D cash)->k<10->¬ (i=aH/\k=c3)->m' (228600+10*i+k)=m (228600+10*i+k)):xz cash (l++[((aH:Int),c2,(c3:Int),c4)]) g gs (λi k=>if i=aH/\k=c3 then p6 else ev i k) m':=by
 refine⟨by rw[e8];exact h.row,λi L=>?_,λi k L J bP=>?_⟩
 ·by_cases hic:i=aH
  ·subst hic;rw[eQ]
   congr 2
   refine zd (λk J=>?_) λk J=>?_
   ·unfold nv
    by_cases Ao:k=c3
    ·subst Ao;have aA:cL (l++[((i:Int),c2,(k:Int),c4)]) i k=cL l i k++[((i:Int),c2,(k:Int),c4)]:=by rw[Kf,Z ⟨rfl,rfl⟩]
     rw[aA,Z rfl,aa (by simp),hj];simp
    ·have aA:cL (l++[((i:Int),c2,(c3:Int),c4)]) i k=cL l i k:=by rw[Kf,aa (by omega)]
     rw[aa Ao,aA];dsimp only;rw[aa (show ¬ (i=i/\k=c3) by omega)]
   ·rw[ag6]
    by_cases g8:c3<k
    ·rw[Z g8,Z (by omega)]
    ·rw[aa g8,aa (by omega)]
  ·rw[aug i L hic,h.di i L]
   congr 2
   refine zd (λk J=>?_) λk J=>?_
   ·unfold nv;have aA:cL (l++[((aH:Int),c2,(c3:Int),c4)]) i k=cL l i k:=by rw[Kf,aa (by omega)]
    rw[aA];dsimp only;rw[aa (show ¬ (i=aH/\k=c3) by omega)]
   ·rw[ag6,aa (by omega),tU]
 ·by_cases hic:i=aH/\k=c3
  ·obtain⟨rfl,rfl⟩:=hic;have aA:cL (l++[((i:Int),c2,(k:Int),c4)]) i k=cL l i k++[((i:Int),c2,(k:Int),c4)]:=by rw[Kf,Z ⟨rfl,rfl⟩]
   rw[aA,Z ⟨rfl,rfl⟩];exact OG
  ·have aA:cL (l++[((aH:Int),c2,(c3:Int),c4)]) i k=cL l i k:=by rw[Kf,aa (by omega)]
   rw[aA] at bP ⊢;rw[aa hic,auh i k L J hic];exact h.CS i k L J bP
theorem WD {K:a2->Prop}{tm:Nat->M}{mem mem':Mem}(h:qZ mem mem')(dp:∀a5,a5=mem'->K ⟨tm,a5⟩):kp K ⟨tm,mem⟩ .many:=⟨mem',.step h (.refl _),dp _ rfl⟩
theorem WE {K:a2->Prop}{tm:Nat->M}{mem:Mem}(dp:∀a5,a5=mem->K ⟨tm,a5⟩):kp K ⟨tm,mem⟩ .many:=⟨mem,.refl _,dp _ rfl⟩
theorem kl {m:Mem}{k g:Nat}{cs:List M}:a3 m k g cs k=some (g,cs):=by simp[a3]
theorem c8 {m:Mem}{k j g:Nat}{cs:List M}(h:k≠j):a3 m j g cs k=m k:=by
 simp only[a3];rw[aa h]
theorem aui (T:bk){K:er->a2->Prop}{kk:List fU}(eb:Mem)(cash:List Int)(cs:List ar)(Q:fF cash cs)(g:Nat)(gs:Nat->Nat)(ev:Nat->Nat->Nat)(tm:Nat->M)(m:Mem)
  (dC:tm 5=.ref 228023 g 1 0 (D cash)) (iR:tm 25=.I (.ae (cs.map bE))) (kF:tm 26=.I (.int .i64 (D cs))) (mg:tm 27=.I (.int .i64 0)) (bJ:xz cash [] g gs ev m) (bK:dS 228 eb m)
  (dp:∀tm' m' auj,tm' 5=.ref 228023 g 1 0 (D cash)->xz cash cs g gs auj m'->dS 228 eb m'->b7 T K kk (.exit 2) ⟨tm',m'⟩) :
  wp T (Al.body.sub [1,1,1,0,1,0]) (b7 T K kk) ⟨tm,m⟩:=by
 simp only[Al,dY.sub];have aG:=Q.k7;have Y:=(g2.1 Q.right).2.2.2;have hS:=Q.vF;refine dG [5,25,26] [] (λ((t,ev):Nat×(Nat->Nat->Nat)) tm m=>t<=D cs/\tm 27=.I (.int .i64 t)/\xz cash (cs.take t) g gs ev m/\dS 228 eb m) (λ(t,_)=>D cs-t) (0,ev) (by refine⟨by omega,mg,by rw[nK];exact bJ,bK⟩) ?_;intro vs ms aV aS;simp only[go_sem,go_sem_proc,dC,iR,kF] at aV aS;subst aV aS;clear dC iR kF mg bJ bK tm m;rintro⟨t,ev⟩ tm m J-⟨bI,mg,bJ,bK⟩;simp only[go_sem,go_sem_proc,bf] at J;obtain⟨dC,iR,kF⟩:=J;rcases dX (t<D cs) with ao|cf
 ·have d1:decide ((t:Int)<(D cs:Int))=true:=dn;have cl:=gu (i:=t) (by omega);obtain⟨⟨aH,c2,c3,c4⟩,O⟩:∃c,cs[t]?=some c:=⟨_,bx ao⟩;have mo:=Y _ (eU O);dsimp only at mo;obtain⟨aH,rfl⟩:∃k:Nat,aH=(k:Int):=⟨aH.toNat,by omega⟩
  obtain⟨c3,rfl⟩:∃k:Nat,c3=(k:Int):=⟨c3.toNat,by omega⟩
  have l1:cs.take (t+1)=cs.take t++[((aH:Int),c2,(c3:Int),c4)]:=by rw[lA,O];rfl
  generalize aq:cs.take t=l at *;have auk:(D l)<=12:=by rw[<-aq,g7];omega
  have gq:aH<D cash:=by omega
  have oW:c3<10:=by omega
  have e8:=bJ.row;have eQ:=bJ.di aH gq;have hN:=uy (ig (λi=>M.ptr (228500+i) (gs i) 0) gq);have bV:(bq (D cash) λi=>M.ptr (228500+i) (gs i) 0).length=D cash:=gl _ _;have hlen:=OA (cash.getD aH 0) (nv l ev aH) (λk=>ca l aH (k:Nat)) 10 false;have lO:=at9 (c:=cash.getD aH 0) (q:=nv l ev aH) (us:=λk=>ca l aH (k:Nat)) (f:=10) (p:=false) oW;have dZ:=λv=>(OB (l:=hf (cash.getD aH 0) (nv l ev aH) (λk=>ca l aH (k:Nat)) 10 false) (k:=1+c3) (v:=v) (by rw[OA];omega)).trans (WB oW v);have eE:aH+1<=D cash:=by omega
  have bQ:(1+c3+1<=24)=True:=eq_true (by omega);have w1:=gu (i:=c3) (by omega);generalize FX:(bq (D cash) λi=>M.ptr (228500+i) (gs i) 0)=vL at *;generalize J9:hf (cash.getD aH 0) (nv l ev aH) (λk=>ca l aH (k:Nat)) 10 false=DC at *;generalize ta:228500+aH=dJ at *;have J4:(dJ=228009)=False:=eq_false (by omega);have ag7:(dJ=228048)=False:=eq_false (by omega);have CL:(dJ==228009)=false:=beq_eq_false_iff_ne.2 (by omega);have OE:(228009==dJ)=false:=beq_eq_false_iff_ne.2 (by omega);have ag8:(dJ==228048)=false:=beq_eq_false_iff_ne.2 (by omega);have ag9:(228048==dJ)=false:=beq_eq_false_iff_ne.2 (by omega);have lS:(1<=maxLen)=True:=eq_true (by decide);have aDt:=λj=>(aeO Q.right).upto aH j
  have B5:∀j:Nat,0<=ca l aH (j:Nat)/\ca l aH (j:Nat)<=4000000000000000000:=λj=>by
   have:=(aeO Q.right).sum (λc=>c.1=(aH:Int)/\c.2.2.1<(j:Int)) t;rw[aq] at this;unfold ca;omega
  generalize OH:228600+10*aH+c3=jD at *;have c5:(228009=dJ)=False:=eq_false (by omega);have dK:(228009=jD)=False:=eq_false (by omega);have fl:(228048=jD)=False:=eq_false (by omega);have fP:(228048=dJ)=False:=eq_false (by omega);have nX:(jD=dJ)=False:=eq_false (by omega);have rL:(dJ=jD)=False:=eq_false (by omega);have afg:(jD=228009)=False:=eq_false (by omega);have aul:(jD=228048)=False:=eq_false (by omega);have aha:(228009=228048)=False:=eq_false (by omega)
  have tail:∀(tm':Nat->M) (M2:Mem) (p6 OD:Nat),tm' 5=.ref 228023 g 1 0 (D cash)->tm' 25=.I (.ae (cs.map bE))->tm' 26=.I (.int .i64 (D cs))->tm' 27=.I (.int .i64 t)->M2 dJ=some (gs aH,hf (cash.getD aH 0) (λk=>if k=c3 then .ref jD p6 4 0 ((cL l aH c3).length+1) else nv l ev aH k) (λk=>ca l aH (k:Nat)  + if c3<k then c4 else 0) 10 false)->M2 jD=some (p6,aY bE (cL l aH c3++[((aH:Int),c2,(c3:Int),c4)]))->(∀k:Nat,k≠228009->k≠228048->k≠dJ->k≠jD->M2 k=m k)->xz cash (cs.take (t+1)) g gs (λi k=>if i=aH/\k=c3 then p6 else ev i k) M2/\dS 228 eb M2:=by
   intro tm' M2 p6 OD k5 F9 Ga Gb CT Kg mS;rw[l1];refine⟨xz.next bJ aG gq oW p6 ?_ (λi L bP=>?_) ?_ ?_ λi k L J bP=>?_,λk J=>?_⟩
   ·exact mS 228023 (by omega) (by omega) (by omega) (by omega)
   ·exact mS (228500+i) (by omega) (by omega) (by omega) (by omega)
   ·rw[ta,OH];exact CT
   ·rw[OH];exact Kg
   ·exact mS (228600+10*i+k) (by omega) (by omega) (by omega) (by omega)
   ·rw[mS k (by omega) (by omega) (by omega) (by omega)];exact bK k J
  by_cases hc:cL l aH c3=[]
  ·have gr:nv l ev aH c3=.nil:=by unfold nv;rw[Z hc]
   rw[gr] at lO;simp only[go_sem,go_sem_proc,lS,dC,iR,kF,mg,O,e8,eQ,hN,bV,hlen,lO,dZ,d1,eE,bQ,gq,oW,J4,ag7,CL,OE,ag8,ag9,bE,cI,al,bd];refine WD (qZ.KT dJ (gs aH) _ (1+c3) 228048 (gf (m 228048)) 4 0 1 _ jD kl (WA oW |>.trans (by rw[Z rfl])) ((c8 (by omega)).trans kl) (by show (228048:Nat)≠dJ;omega) (by show jD≠(228048:Nat);omega) (by show jD≠dJ;omega)) ?_;intro M2 gC;rw[WB oW] at gC
   have Kh:M2 228009=some (gf (m 228009),[.I (.int .i64 aH),.I (.int .i64 c2),.I (.int .i64 c3),.I (.int .i64 c4)]):=by
    rw[gC];simp only[zD,c5,dK,aha,if_false,if_true]
   have CT:∃p6,M2 dJ=some (gs aH,hf (cash.getD aH 0) (λk=>if k=c3 then .ref jD p6 4 0 ((cL l aH c3).length+1) else nv l ev aH k) (λk=>ca l aH (k:Nat)) 10 false)/\M2 jD=some (p6,aY bE (cL l aH c3++[((aH:Int),c2,(c3:Int),c4)])):=by
    rw[hc];apply Exists.intro;apply And.intro
    rotate_left
    ·rw[gC];simp only[zD,nX,if_false,if_true];rfl
    ·rw[gC];simp only[zD,if_true]
     congr 2
     refine zd (λk _=>?_) λ_ _=>rfl
     by_cases J:k=c3
     ·rw[Z J,Z J];rfl
     ·rw[aa J,aa J,aa J]
   obtain⟨p6,CT,Kg⟩:=CT
   have mS:∀k:Nat,k≠228009->k≠228048->k≠dJ->k≠jD->M2 k=m k:=λk E H ab aM=>by
    rw[gC];simp only[zD,E,H,ab,aM,if_false]
   clear gC;simp only[go_sem,go_sem_proc,Kh,w1,c5];refine ag1 T M2 dJ (gs aH) (gf (m 228009)) (cash.getD aH 0) (λk=>if k=c3 then .ref jD p6 4 0 ((cL l aH c3).length+1) else nv l ev aH k) (λk=>ca l aH (k:Nat)) aH c2 c3 c4 oW B5 (by omega) (by omega) (.ref 228023 g 1 0 (D cash)) (.I (.ae (cs.map bE))) (.I (.int .i64 (D cs))) (.I (.int .i64 t)) _ _ ?_ ?_ ?_ ?_ ?_ ?_ ?_ Kh CT (λ_ _=>rfl) ?_
   all_goals first|(intro tm' m' k5 F9 Ga Gb WG Ki)|(simp only[eL,dA,if_false,if_true,dC,iR,kF,mg];done)
   have h2:=tail tm' m' p6 0 k5 F9 Ga Gb WG (by rw[Ki jD (by omega)];exact Kg) λk E H ab aM=>by rw[Ki k ab];exact mS k E H ab aM
   refine a7 ?_;repeat' (intro h<;>simp only[h,go_sem,go_sem_proc,k5,F9,Ga,Gb,cl]<;>try refine av ?_ ?_)
   exact⟨(t+1,λi k=>if i=aH/\k=c3 then p6 else ev i k),by dsimp only;omega,by dsimp only;omega,rfl,h2.1,h2.2⟩
  ·have gr:nv l ev aH c3=.ref jD (ev aH c3) 4 0 (cL l aH c3).length:=by unfold nv;rw[aa hc,OH]
   rw[gr] at lO;have OG:=bJ.CS aH c3 gq oW hc;rw[OH] at OG;have dF:(cL l aH c3).length<=12:=ey (rK _ _) auk;have dm:=mw p3 VV jD (ev aH c3) 32 (cL l aH c3) ((aH:Int),c2,(c3:Int),c4) (cs:=[.I (.int .i64 aH),.I (.int .i64 c2),.I (.int .i64 c3),.I (.int .i64 c4)]) rfl (by omega) (by omega);have afi:(jD==228009)=false:=beq_eq_false_iff_ne.2 (by omega);have aum:(228009==jD)=false:=beq_eq_false_iff_ne.2 (by omega);have aun:(jD==dJ)=false:=beq_eq_false_iff_ne.2 (by omega);have auo:(dJ==jD)=false:=beq_eq_false_iff_ne.2 (by omega);simp only[go_sem,go_sem_proc,lS,dC,iR,kF,mg,O,e8,eQ,hN,bV,hlen,lO,dZ,d1,eE,bQ,gq,oW,J4,ag7,CL,OE,ag8,ag9,fl,nX,rL,afg,aul,afi,aum,aun,auo,OG,dm,bE,cI,al,bd];refine WE ?_;intro M2 gC
   have Kh:M2 228009=some (gf (m 228009),[.I (.int .i64 aH),.I (.int .i64 c2),.I (.int .i64 c3),.I (.int .i64 c4)]):=by
    rw[gC];simp only[zD,c5,dK,aha,if_false,if_true]
   have CT:M2 dJ=some (gs aH,hf (cash.getD aH 0) (λk=>if k=c3 then .ref jD (ev aH c3+1) 4 0 ((cL l aH c3).length+1) else nv l ev aH k) (λk=>ca l aH (k:Nat)) 10 false):=by
    rw[gC];simp only[zD,if_true]
   have Kg:M2 jD=some (ev aH c3+1,aY bE (cL l aH c3++[((aH:Int),c2,(c3:Int),c4)])):=by
    rw[gC];simp only[zD,nX,if_false,if_true]
   have mS:∀k:Nat,k≠228009->k≠228048->k≠dJ->k≠jD->M2 k=m k:=λk E H ab aM=>by
    rw[gC];simp only[zD,E,ab,aM,if_false]
   clear gC;simp only[go_sem,go_sem_proc,Kh,w1,c5];refine ag1 T M2 dJ (gs aH) (gf (m 228009)) (cash.getD aH 0) (λk=>if k=c3 then .ref jD (ev aH c3+1) 4 0 ((cL l aH c3).length+1) else nv l ev aH k) (λk=>ca l aH (k:Nat)) aH c2 c3 c4 oW B5 (by omega) (by omega) (.ref 228023 g 1 0 (D cash)) (.I (.ae (cs.map bE))) (.I (.int .i64 (D cs))) (.I (.int .i64 t)) _ _ ?_ ?_ ?_ ?_ ?_ ?_ ?_ Kh CT (λ_ _=>rfl) ?_
   all_goals first|(intro tm' m' k5 F9 Ga Gb WG Ki)|(simp only[eL,dA,if_false,if_true,dC,iR,kF,mg];done)
   have h2:=tail tm' m' (ev aH c3+1) 0 k5 F9 Ga Gb WG (by rw[Ki jD (by omega)];exact Kg) λk E H ab aM=>by rw[Ki k ab];exact mS k E H ab aM
   refine a7 ?_;repeat' (intro h<;>simp only[h,go_sem,go_sem_proc,k5,F9,Ga,Gb,cl]<;>try refine av ?_ ?_)
   exact⟨(t+1,λi k=>if i=aH/\k=c3 then ev aH c3+1 else ev i k),by dsimp only;omega,by dsimp only;omega,rfl,h2.1,h2.2⟩
 ·have d1:decide ((t:Int)<(D cs:Int))=false:=dr;rw[dE (by omega)] at bJ;refine a7 ?_;repeat' (intro h<;>simp only[h,go_sem,go_sem_proc,dC,iR,kF,mg,d1]<;>try refine av ?_ ?_)
  refine dp _ _ ev ?_ bJ bK;simp only[eL,dA,if_false,dC]
theorem rW.trans {a b c:Mem}(h:rW a b)(b2:rW b c):rW a c:=by
 induction h with
 |refl=>exact b2
 |step E _ aw=>exact .step E (aw b2)
theorem ahb {K:a2->Prop}{tm:Nat->M}{mem mem':Mem}(h:rW mem mem')(dp:K ⟨tm,mem'⟩):kp K ⟨tm,mem⟩ .many:=⟨mem',h,dp⟩
def uB (l:List ar)(ev:Nat->Nat->Nat)(d i k:Nat):M:=if 10*i+k<d then jl (cL l i k) else nv l ev i k
structure vS (cash:List Int) (l:List ar) (g:Nat) (gs:Nat->Nat) (ev:Nat->Nat->Nat) (d:Nat) (m:Mem):Prop where
 row:m 228023=some (g,bq (D cash) λi => .ptr (228500+i) (gs i) 0)
 di:∀i,i<(D cash)->m (228500+i)=some (gs i,hf (cash.getD i 0) (uB l ev d i) (λk=>ca l i (k:Nat)) 10 false)
 CS:∀i k,i<(D cash)->k<10->d<=10*i+k->cL l i k≠[]->m (228600+10*i+k)=some (ev i k,aY bE (cL l i k))
theorem vS.step {cash:List Int}{l:List ar}{g:Nat}{gs:Nat->Nat}{ev:Nat->Nat->Nat}{d:Nat}{m:Mem}(h:vS cash l g gs ev d m)(aG:(D cash)<=6)(X:d<10*D cash):∃m',rW m m'/\vS cash l g gs ev (d+1) m'/\dS 228 m m':=by
 obtain⟨i,k,L,J,rfl⟩:∃i k,i<D cash/\k<10/\d=10*i+k:=⟨d/10,d%10,by omega,by omega,by omega⟩
 have WH:∀j r,j<(D cash)->r<10->¬ (j=i/\r=k)->uB l ev (10*i+k+1) j r=uB l ev (10*i+k) j r:=λj r ag Y bP=>by
  unfold uB
  by_cases E:10*j+r<10*i+k
  ·rw[Z E,Z (by omega)]
  ·rw[aa E,aa (by omega)]
 by_cases G:cL l i k=[]
 ·refine⟨m,.refl m,⟨h.row,λj ag=>?_,λj r ag Y X bP=>h.CS j r ag Y (by omega) bP⟩,dS.refl _ _⟩;rw[h.di j ag]
  congr 2
  refine zd (λr Y=>?_) λ_ _=>rfl
  by_cases JK:j=i/\r=k
  ·obtain⟨rfl,rfl⟩:=JK;unfold uB;rw[aa (by omega),Z (by omega)];unfold nv jl;rw[Z G,Z G]
  ·exact (WH j r ag Y JK).symm
 ·have ad:=h.di i L;have dF:=h.CS i k L J (bM _) G
  have Sg:uB l ev (10*i+k) i k=.ref (228600+10*i+k) (ev i k) 4 0 (cL l i k).length:=by
   unfold uB;rw[aa (by omega)];unfold nv;rw[aa G]
  have iN:=WA (c:=cash.getD i 0) (q:=uB l ev (10*i+k) i) (us:=λk=>ca l i (k:Nat)) (f:=10) (p:=false) J;rw[Sg] at iN;have tR:cZ 1 m (.ref (228600+10*i+k) (ev i k) 4 0 (cL l i k).length)=some (.ae ((cL l i k).map bE)):=pB (n:=0) p3 dF;refine⟨_,.step (qZ.KU (228500+i) (gs i) _ (1+k) (228600+10*i+k) (ev i k) 4 0 (cL l i k).length _ (.ae ((cL l i k).map bE)) ad iN dF (by show (228600+10*i+k:Nat)≠228500+i;omega) tR) (.refl _),⟨?_,λj ag=>?_,λj r ag Y X bP=>?_⟩,λx O=>?_⟩
  ·rw[c8 (by show (228023:Nat)≠228500+i;omega)];unfold kill;rw[c8 (by show (228023:Nat)≠228600+10*i+k;omega)];exact h.row
  ·by_cases jL:j=i
   ·subst jL;rw[kl,WB J]
    congr 2
    refine zd (λr Y=>?_) λ_ _=>rfl
    by_cases gH:r=k
    ·subst gH;rw[Z rfl];unfold uB;rw[Z (by omega)];unfold jl;rw[aa G]
    ·rw[aa gH];exact (WH j r ag Y (by omega)).symm
   ·rw[c8 (by show (228500+j:Nat)≠228500+i;omega)];unfold kill;rw[c8 (by show (228500+j:Nat)≠228600+10*i+k;omega),h.di j ag]
    congr 2
    refine zd (λr Y=>(WH j r ag Y (by omega)).symm) λ_ _=>rfl
  ·rw[c8 (by show (228600+10*j+r:Nat)≠228500+i;omega)];unfold kill;rw[c8 (by show (228600+10*j+r:Nat)≠228600+10*i+k;omega)];exact h.CS j r ag Y (by omega) bP
  ·have zB:x/1000≠228:=O;rw[c8 (by show x≠228500+i;omega)];unfold kill;rw[c8 (by show x≠228600+10*i+k;omega)]
theorem vS.all {cash:List Int}{l:List ar}{g:Nat}{gs:Nat->Nat}{ev:Nat->Nat->Nat}(aG:(D cash)<=6):∀r d m,d+r=10*(D cash)->vS cash l g gs ev d m->∃m',rW m m'/\vS cash l g gs ev (10*D cash) m'/\dS 228 m m'
 |0,d,m,X,h=>⟨m,.refl m,by rw[<-X];exact h,dS.refl _ _⟩
 |r+1,d,m,X,h=>by
  obtain⟨dD,E,H,ab⟩:=h.step aG (by omega);obtain⟨bY,cF,dk,dN⟩:=vS.all aG r (d+1) dD (by omega) H;exact⟨bY,E.trans cF,dk,λx O=>(dN x O).trans (ab x O)⟩
theorem xz.aup {cash:List Int}{l:List ar}{g:Nat}{gs:Nat->Nat}{ev:Nat->Nat->Nat}{m:Mem}(h:xz cash l g gs ev m):vS cash l g gs ev 0 m :=
 ⟨h.row,λi L=>by
  rw[h.di i L]
  congr 2,λi k L J _ bP=>h.CS i k L J bP⟩
def xA (cash:List Int)(cs:List ar)(g:Nat)(gs:Nat->Nat):cD:=⟨cash,c1 (D cash) cs,bq (D cash) λ_=>10,mN (D cash) λ_=>false,g,bq (D cash) gs⟩
theorem auq {cash:List Int}{cs:List ar}(h:fF cash cs)(i r:Nat):ca (c1 (D cash) cs) i r=ca cs i r:=by
 have E:=s0 h.right i r;have H:=s0 (VZ h).right i r;rw[<-(aeX h.right).U,<-E] at H;exact_mod_cast H
theorem AZ {α:Type}{n i:Nat}(q:Nat->α)(d:α)(h:i<n):(bq n q).getD i d=q i:=by
 rw[ea,ig q h];rfl
theorem vS.at {cash:List Int}{cs:List ar}(Q:fF cash cs){g:Nat}{gs:Nat->Nat}{ev:Nat->Nat->Nat}{m:Mem}(h:vS cash cs g gs ev (10*D cash) m):(xA cash cs g gs).eM m:=by
 refine⟨(asc _ _).symm,gl _ _,N2 _ _,gl _ _,?_,λi L=>?_⟩
 ·refine h.row.trans ?_
  congr 2
  exact jR λi L=>by
   show M.ptr (228500+i) (gs i) 0=M.ptr (228500+i) ((bq (D cash) gs).getD i 0) 0;rw[AZ gs 0 L]
 ·have kr:i<D cash:=L;refine (h.di i kr).trans ?_;have aA:(xA cash cs g gs).gs.getD i 0=gs i:=AZ gs 0 kr;rw[aA]
  congr 2
  have ay:(bq (D cash) λ_=>(10:Int)).getD i 10=10:=AZ _ _ kr;have cV:(mN (D cash) λ_=>false).getD i false=false:=by rw[ea,N3 _ kr];rfl
  have da:ff ((xA cash cs g gs).fZ i)=dv (cash.getD i 0)::((bq 10 λk=>cL (c1 (D cash) cs) i k).map jl++((bq 11 λk=>ca (c1 (D cash) cs) i (k:Nat)).map dv++[dv ((bq (D cash) λ_=>(10:Int)).getD i 10),ki ((mN (D cash) λ_=>false).getD i false)])):=rfl;rw[da,ay,cV];unfold hf
  have dC:(bq 10 λk=>cL (c1 (D cash) cs) i k).map jl=bq 10 (uB cs ev (10*D cash) i):=by
   unfold bq;rw[oN];refine m5 λk J=>?_;have acH:=hn.1 J;show jl (cL (c1 (D cash) cs) i k)=uB cs ev (10*D cash) i k;rw[aeT cs kr acH];unfold uB;rw[Z (by omega)]
  have bL:(bq 11 λk=>ca (c1 (D cash) cs) i (k:Nat))=bq 11 λk=>ca cs i (k:Nat):=jR λk _=>auq Q i k;rw[dC,bL]
theorem ahc {α:Type}(n:Nat)(q:Nat->α):bq (n+1) q=bq n q++[q n]:=by
 unfold bq;rw[pd,k0];rfl
structure WI (x:List Int×List ar) (mem:Mem):Prop where
 rN:fF x.1 x.2
 no:qM 228 mem
def WJ (x:List Int×List ar)(mem:Mem):M->Mem->Prop:=λm mem'=>∃g gs,m=.ref 228023 g 1 0 x.1.length/\(xA x.1 x.2 g gs).eM mem'/\dS 228 mem mem'
def WK:List M->Mem->Option (M->Mem->Prop):=yQ (λ(x:List Int×List ar) args mem=>args=[.I (.ae (x.1.map af)),.I (.ae (x.2.map bE))]/\WI x mem) WJ
theorem aur (cash:List Int)(cs:List ar)(mem:Mem)(h:WI (cash,cs) mem):WK [.I (.ae (cash.map af)),.I (.ae (cs.map bE))] mem=some (WJ (cash,cs) mem):=by
 refine afb (a:=(cash,cs)) ?_ ⟨rfl,h⟩;rintro⟨a,b⟩ ⟨c,d⟩ args mem ⟨aA,ay⟩ ⟨cV,da⟩;rw[aA] at cV;simp only[bf,M.I.injEq,Data.ae.injEq,and_true] at cV;obtain⟨E,H⟩:=cV;rw[map_inj gY _ _ E,map_inj y7 _ _ H]
def ahd (_:Nat):M:=.nil
def ahe (_:Nat):Int:=0
theorem aus (T:bk)(cash:List Int)(cs:List ar)(mem:Mem)(aZ:WI (cash,cs) mem):
  wp T Al.body (ru Al.res (WJ (cash,cs) mem)) ⟨mj [.I (.ae (cash.map af)),.I (.ae (cs.map bE))],mem⟩:=by
 obtain⟨Q,jt⟩:=aZ;dsimp only at Q;have aG:=Q.k7;have aut:mem 228023=none:=jt 228023 (by decide);refine wo ?_;simp only[Al];simp only[go_sem,go_sem_proc,aut,al]
 refine dG [1,12,13] [] (λ((i,g,gs):Nat×Nat×(Nat->Nat)) tm m=>i<=D cash/\tm 14=.I (.int .i64 i)/\tm 5=.ref 228023 g 1 0 i/\m 228023=some (g,bq i λj => .ptr (228500+j) (gs j) 0)/\(∀j,j<i->m (228500+j)=some (gs j,hf (cash.getD j 0) ahd ahe 10 false))/\dS 228 mem m) (λ(i,_)=>D cash-i) (0,0,λ_=>0) (by
  refine⟨by omega,rfl,rfl,by simp[a3];rfl,λj ag=>by omega,(dS.refl _ _).eK (by decide)⟩) ?_
 intro vs ms aV aS;simp only[go_sem,go_sem_proc] at aV aS;subst aV aS;rintro⟨i,g,gs⟩ tm m J-⟨L,xj,dC,e8,eQ,bK⟩;simp only[go_sem,go_sem_proc,bf] at J;obtain⟨aA,h4,iE⟩:=J;rcases dX (i<D cash) with ao|cf
 ·have d1:decide ((i:Int)<(D cash:Int))=true:=dn;have cl:=gu (i:=i) (by omega);obtain⟨y,ak⟩:∃y,cash[i]?=some y:=⟨_,bx ao⟩;have vk:cash.getD i 0=y:=by rw[ea,ak];rfl
  have bV:(bq i λj=>M.ptr (228500+j) (gs j) 0).length=i:=gl _ _;have l1:ho i (bq i λj=>M.ptr (228500+j) (gs j) 0)=bq i λj=>M.ptr (228500+j) (gs j) 0:=dE (by omega);have eE:((i+1)*8<=140737488355328)=True:=eq_true (by omega);have aj:(i+1<=maxLen)=True:=eq_true (by unfold maxLen;omega);have bQ:(i<=i)=True:=eq_true (bM _)
  have dm:lQ 228023 g 1 i 8 1 [.ptr 228021 (gf (m 228021)) 0] (some (g,bq i λj=>M.ptr (228500+j) (gs j) 0))=some (.ref 228023 (g+1) 1 0 (i+1),some (228023,g+1,(bq i λj=>M.ptr (228500+j) (gs j) 0)++[.ptr 228021 (gf (m 228021)) 0])):=by
   unfold lQ;dsimp only;rw[Z ⟨rfl,by rw[gl];omega,by omega,by unfold maxLen;omega,rfl⟩,cI,l1]
  generalize FX:(bq i λj=>M.ptr (228500+j) (gs j) 0)=vL at *;simp only[go_sem,go_sem_proc,aA,dC,h4,iE,xj,e8,ak,bV,dm,d1,af,cI,al,bd]
  have OI:(vL++[M.ptr 228021 (gf (m 228021)) 0])[i]?=some (.ptr 228021 (gf (m 228021)) 0):=by
   rw[q4 (by omega),bV];simp
  have c5:(228021=228022)=False:=eq_false (by decide);refine WD (qZ.Yj 228023 (g+1) _ i 228021 (gf (m 228021)) 0 _ (228500+i) kl OI ((c8 (by decide)).trans ((c8 (by decide)).trans kl)) (by decide) (by show (228500+i:Nat)≠228021;omega) (by show (228500+i:Nat)≠228023;omega)) ?_;intro M2 gC
  have o8:∀p,(vL++[M.ptr 228021 (gf (m 228021)) 0]).set i p=vL++[p]:=λp=>by
   rw[Cn _ _ (by omega),bV,kL];rfl
  rw[o8] at gC
  obtain⟨Gc,ahf,auu⟩:∃Gc,M2 228023=some (g+1,vL++[.ptr (228500+i) Gc 0])/\M2 (228500+i)=some (Gc,hf y ahd ahe 10 false):=by
   apply Exists.intro;apply And.intro
   rotate_left
   ·rw[gC,c8 (by show (228500+i:Nat)≠228023;omega),kl];rfl
   ·rw[gC,kl]
  have mS:∀k:Nat,k≠228021->k≠228022->k≠228023->k≠228500+i->M2 k=m k:=λk E H ab aM=>by
   rw[gC,c8 ab,c8 aM,c8 E,c8 ab,c8 H,c8 E]
  clear gC
  have fV:vL++[M.ptr (228500+i) Gc 0]=bq (i+1) λj => .ptr (228500+j) (if j=i then Gc else gs j) 0:=by
   rw[ahc,Z rfl,<-FX]
   congr 1
   exact jR λj ag=>by rw[aa (by omega)]
  rw[fV] at ahf;refine a7 ?_;repeat' (intro h<;>simp only[h,go_sem,go_sem_proc,aA,h4,iE,xj,cl]<;>try refine av ?_ ?_)
  refine⟨(i+1,g+1,λj=>if j=i then Gc else gs j),by dsimp only;omega,by dsimp only;omega,rfl,rfl,ahf,λj ag=>?_,λk J=>?_⟩
  ·by_cases jL:j=i
   ·subst jL;dsimp only;rw[Z rfl,auu,vk]
   ·dsimp only;rw[aa jL,mS (228500+j) (by omega) (by omega) (by omega) (by omega)];exact eQ j (by dsimp only at ag;omega)
  ·rw[mS k (by omega) (by omega) (by omega) (by omega)];exact bK k J
 ·have d1:decide ((i:Int)<(D cash:Int))=false:=dr;obtain rfl:i=D cash:=by omega
  simp only[go_sem,go_sem_proc,aA,dC,h4,iE,xj,d1,al];refine aui T mem cash cs Q g gs (λ_ _=>0) _ _ ?_ ?_ ?_ ?_ ⟨e8,λj ag=>?_,λj k ag J bP=>absurd rfl bP⟩ bK ?_
  all_goals first|(intro tm' m' ev k5 bJ vM)|(simp only[eL,dA,if_false,if_true,aA,dC];done)|skip
  ·rw[eQ j ag]
   congr 2
  obtain⟨bY,E,H,ab⟩:=vS.all aG (10*D cash) 0 m' (by omega) bJ.aup;simp only[go_sem,go_sem_proc];refine ahb E ?_;refine a7 ?_;repeat' (intro h<;>simp only[h,go_sem,go_sem_proc,k5]<;>try refine av ?_ ?_)
  exact⟨_,rfl,g,gs,rfl,H.at Q,λk J=>(ab k J).trans (vM k J)⟩
def WL:b5:=cx 40 1 [.t 2,.t 3] (R [dW 1 341001 0,eD 2,bs 3 0] (.seq (R [bp 9 5 1,(dP 10 yl 9),gv 11 10] (a6 11 (R [eD 2,bs 3 1] .ret) .skip)) (fs [aW 13 0 1,aN 14 1 13,bp 15 5 1,(az 16 (.call BJ [(.t 15),(.c (.I (.int .i64 (-1))))])),(cj 17 BF 14 16),F 12 17,bt 18 0 12,bt 19 1 12,(az 4 (.alloc 341004 [.nil,.nil,.nil])),ba 3 4 18,F 5 19] [[],[],[],[],[],[],[],[],[1,2],[],[]] (.seq (R [F 20 5,bg 21 .neq 20 0] (a6 21 (R [F 22 5,eD 2,F 3 22] .ret) .skip)) (R [eD 6] (.seq (R [aW 23 2 1,aN 24 1 23,cp 25 24,bs 26 0] (.block 0 (.ghost (.po 6 341037 4) (.loop  (R [bC 27 .lss 26 25] (.seq (a6 27 .skip (.exit 0)) (.seq (.block 1 (R [bX 28 1 24 26,aN 29 1 28,F 8 29] (.ops [F 30 6,aW 31 1 4,aN 32 1 31,F 33 8,bX 34 4 32 33,bp 35 4 34,(az 36 (.e7 341036 false [(ah 0),.nil,(ah 0),.nil] 4 1 [(0,4,(.t 35))])),(az 37 (.app 341037 [(ah 0),.nil,(ah 0),.nil] 64 (.t 30) (.t 36))),F 6 37]))) (.ops [bg 38 .add 26 1,F 26 38])))))))) (.seq (.ghost (.freeze 6) (.ops [F 39 6,F 2 39,bs 3 0])) .ret)))))))
def WM:b5:=cx 44 2 [.cell 4 4 true,.t 5] (R [dW 2 343002 0,(az 4 (.alloc 343004 [(ah 0),.nil,(ah 0),.nil])),bs 5 0] (.seq (.block 0 (R [bp 9 5 2,(dP 10 yl 9),gv 11 10,F 8 11] (a6 8 (R [(az 12 (.build [(ah 0),.nil,(ah 0),.nil] [])),ba 4 4 12,bs 5 1] .ret) (R [F 14 1,aW 15 2 2,aN 16 1 15,cp 17 16,bg 18 .sub 17 1,(az 19 (.call rh [(.t 14),(.c (ah 0)),(.t 18)])),gv 20 19,F 13 20] (a6 13 (R [(az 21 (.build [(ah 0),.nil,(ah 0),.nil] [])),ba 4 4 21,bs 5 4] .ret) .skip))))) (fs [aW 23 0 2,aN 24 1 23,bp 25 5 2,F 26 1,(cj 27 BJ 25 26),(cj 28 BF 24 27),F 22 28,bt 29 0 22,bt 30 1 22,(az 6 (.alloc 343006 [.nil,.nil,.nil])),ba 3 6 29,F 7 30] [[],[],[],[],[],[],[],[],[],[1,2],[],[]] (.seq (R [F 31 7,bg 32 .neq 31 0] (a6 32 (R [(az 33 (.build [(ah 0),.nil,(ah 0),.nil] [])),F 34 7,ba 4 4 33,F 5 34] .ret) .skip)) (fs [aW 35 1 6,aN 36 1 35,aW 37 2 2,aN 38 1 37,F 39 1,bX 40 1 38 39,aN 41 1 40,bX 42 4 36 41,bp 43 4 42,ba 4 4 43,bs 5 0] D4 .ret)))))
def WN:b5:=cx 85 1 [.t 2] (R [dW 1 346001 0,du 2 false] (.seq (R [aW 6 0 1,aN 7 1 6,aW 8 1 1,aN 9 1 8,(cj 10 Rh 7 9),gv 11 10,F 12 11,⟨some 13,some (12,false),.eX 2 (.t 1)⟩,⟨some 14,some (12,false),.load 1 false (.t 13)⟩,⟨some 15,some (12,false),.len (.t 14)⟩,⟨some 16,some (12,false),.bin .eql (.t 15) (.c (ah 0))⟩,eo 17 12 16,F 18 17,⟨some 19,some (18,false),.eX 3 (.t 1)⟩,⟨some 20,some (18,false),.load 1 false (.t 19)⟩,⟨some 21,some (18,false),.call rh [(.t 20),(.c (ah 0)),(.c (ah 10000))]⟩,⟨some 22,some (18,false),.un .not (.t 21)⟩,eo 23 18 22,F 24 23,⟨some 25,some (24,false),.eX 4 (.t 1)⟩,⟨some 26,some (24,false),.load 1 false (.t 25)⟩,⟨some 27,some (24,false),.call rh [(.t 26),(.c (ah 0)),(.c (ah 9))]⟩,⟨some 28,some (24,false),.un .not (.t 27)⟩,eo 29 24 28] (a6 29 (R [du 2 false] .ret) .skip)) (.seq (R [aW 30 2 1,aN 31 1 30,cp 32 31,bs 33 0] (.block 0 (.loop  (R [bC 34 .lss 33 32] (.seq (a6 34 .skip (.exit 0)) (.seq (.block 1 (R [F 35 33,bX 36 1 31 33,aN 37 1 36,F 3 35,F 4 37] (.seq (R [F 38 4,aW 39 1 1,aN 40 1 39,cp 41 40,bg 42 .sub 41 1,(az 43 (.call rh [(.t 38),(.c (ah 0)),(.t 42)])),gv 44 43,F 45 44,⟨some 46,some (45,false),.cn (.t 3)⟩,⟨some 47,some (45,false),.bin .gtr (.t 46) (.c (ah 0))⟩,⟨some 48,some (45,false),.cn (.t 47)⟩,⟨some 49,some (48,true),.cn (.t 4)⟩,⟨some 50,some (48,true),.eX 2 (.t 1)⟩,⟨some 51,some (48,true),.load 1 false (.t 50)⟩,⟨some 52,some (48,true),.cn (.t 3)⟩,⟨some 53,some (48,true),.bin .sub (.t 52) (.c (ah 1))⟩,⟨some 54,some (48,true),.jF 1 (.t 51) (.t 53)⟩,⟨some 55,some (48,true),.load 1 false (.t 54)⟩,⟨some 56,some (48,true),.bin .leq (.t 49) (.t 55)⟩,⟨some 57,some (45,false),.pick (.t 48) (.t 56) (.c (.I (.bool false)))⟩,eo 58 45 57] (a6 58 (R [du 2 false] .ret) .skip)) (R [aW 59 1 1,aN 60 1 59,F 61 4,bX 62 4 60 61,bp 63 4 62,(az 5 (.alloc 346005 [(ah 0),(ah 0),(ah 0),(ah 0)])),ba 4 5 63] (fs [aW 64 0 5,aN 65 1 64,aW 66 1 1,aN 67 1 66,aW 68 2 1,aN 69 1 68,(az 70 (.jF 1 (.t 69) (.c (ah 0)))),aN 71 1 70,bX 72 4 67 71,aW 73 0 72,aN 74 1 73,bC 75 .neq 65 74,F 76 75,⟨some 77,some (76,false),.load 5 true (.t 1)⟩,⟨some 78,some (76,false),.load 4 true (.t 5)⟩,⟨some 79,some (76,false),.call Ic [(.t 77),(.t 78)]⟩,⟨some 80,some (76,false),.zm 3 1 false (.t 79)⟩,⟨some 81,some (76,false),.call rh [(.t 80),(.c (ah 0)),(.c (ah 1000000000000000))]⟩,⟨some 82,some (76,false),.un .not (.t 81)⟩,eo 83 76 82] alY (a6 83 (R [du 2 false] .ret) .skip)))))) (.ops [bg 84 .add 33 1,F 33 84]))))))) (R [du 2 true] .ret))))
def WO:b5:=cx 48 2 [.t 4,.cell 5 4 true,.t 6] (R [dW 2 348002 0,du 4 false,(az 5 (.alloc 348005 [(ah 0),.nil,(ah 0),.nil])),bs 6 0] (R [bp 12 5 2,F 13 1,(cj 14 Ia 12 13),F 11 14,bt 15 0 11,bt 16 1 11,(az 7 (.alloc 348007 [(ah 0),.nil,(ah 0),.nil])),ba 4 7 15,F 8 16] (.seq (R [F 17 8,bg 18 .neq 17 0] (a6 18 (R [(az 19 (.build [(ah 0),.nil,(ah 0),.nil] [])),F 20 8,du 4 false,ba 4 5 19,F 6 20] .ret) .skip)) (R [bp 22 5 2,(dP 23 BH 22),F 21 23,bt 24 0 21,bt 25 1 21,F 9 24,F 8 25] (.seq (R [F 26 8,bg 27 .neq 26 0] (a6 27 (R [(az 28 (.build [(ah 0),.nil,(ah 0),.nil] [])),F 29 8,du 4 false,ba 4 5 28,F 6 29] .ret) .skip)) (fs [bp 31 4 7,F 32 9,F 33 1,bX 34 4 32 33,bp 35 4 34,(cj 36 tF 31 35),F 30 36,bt 37 0 30,bt 38 1 30,(az 10 (.alloc 348010 [(ah 0),.nil,(ah 0),.nil])),ba 4 10 37,F 8 38] [[],[],[],[],[],[],[],[],[],[0,4],[],[]] (.seq (R [F 39 8,bg 40 .neq 39 0] (a6 40 (R [(az 41 (.build [(ah 0),.nil,(ah 0),.nil] [])),F 42 8,du 4 false,ba 4 5 41,F 6 42] .ret) .skip)) (fs [aW 43 0 10,aW 44 0 43,aN 45 1 44,bg 46 .gtr 45 0,bp 47 4 10,F 4 46,ba 4 5 47,bs 6 0] aan .ret))))))))
def WQ:b5:=cx 72 2 [.t 4,.t 5] (R [dW 2 350002 0,bs 4 0,bs 5 0] (R [bp 14 5 2,F 15 1,(cj 16 BI 14 15),F 13 16,bt 17 0 13,bt 18 1 13,bt 19 2 13,(az 7 (.alloc 350007 [(ah 0),.nil,(ah 0),.nil])),F 6 17,ba 4 7 18,F 8 19] (.seq (R [F 20 8,bg 21 .neq 20 0,F 22 21,⟨some 23,some (22,false),.cn (.t 6)⟩,⟨some 24,some (22,false),.un .not (.t 23)⟩,eo 25 22 24] (a6 25 (R [F 26 8,bs 4 0,F 5 26] .ret) .skip)) (R [bp 28 5 2,(dP 29 BH 28),F 27 29,bt 30 0 27,bt 31 1 27,F 9 30,F 10 31] (R [bp 32 5 2,F 33 1,(az 34 (.m0 350034 4 BJ [(.t 32),(.t 33)])),F 11 34] (fs [F 35 11,aW 36 2 2,aN 37 1 36,F 38 1,bX 39 1 37 38,aN 40 1 39,aW 41 4 2,aN 42 1 41,bX 43 4 35 40,aW 44 2 43,ba 1 44 42] D4 (.seq (.ghost (.freeze 11) (.ops [aW 46 0 2,aN 47 1 46,F 48 11,(cj 49 BF 47 48),F 45 49,bt 50 0 45,bt 51 1 45,(az 12 (.alloc 350012 [.nil,.nil,.nil])),ba 3 12 50,F 8 51])) (.seq (.block 0 (R [F 53 8,bg 54 .neq 53 0,F 52 54] (a6 52 (R [F 55 8,bs 4 0,F 5 55] .ret) (fs [aW 57 1 12,aN 58 1 57,aW 59 2 2,aN 60 1 59,F 61 1,bX 62 1 60 61,aN 63 1 62,bX 64 4 58 63,bp 65 4 64,F 66 9,F 67 1,bX 68 4 66 67,bp 69 4 68,(cj 70 qt 65 69),bg 71 .leq 70 0,F 56 71] Ij (a6 56 (R [bs 4 1,bs 5 0] .ret) .skip))))) (R [bs 4 2,bs 5 0] .ret)))))))))
def WR:b5:=cx 33 2 [.t 4] (R [dW 2 354002 0,eD 4] (R [aW 8 1 2,aN 9 1 8,(az 10 (.m0 354010 4 Ri [(.t 9)])),F 5 10] (.seq (R [aW 11 2 2,aN 12 1 11,cp 13 12,bs 14 0] (.block 0 (.loop  (R [bC 15 .lss 14 13] (.seq (a6 15 .skip (.exit 0)) (.seq (.block 1 (R [F 16 14,bX 17 1 12 14,aN 18 1 17,F 6 16,F 7 18] (R [F 19 6,F 20 1,bC 21 .neq 19 20] (a6 21 (.m1 [F 22 5,F 23 7,bp 24 5 2,F 25 5,F 26 7,bX 27 4 25 26,bp 28 4 27,(cj 29 Ic 24 28),bX 30 4 22 23,ba 4 30 29] Ih) .skip)))) (.ops [bg 31 .add 14 1,F 14 31]))))))) (R [F 32 5,F 4 32] .ret))))
def WS:b5:=cx 15 3 [.t 6] (R [du 6 false] (R [F 7 1,F 8 0,bC 9 .leq 7 8,F 10 9,⟨some 11,some (10,true),.cn (.t 0)⟩,⟨some 12,some (10,true),.cn (.t 2)⟩,⟨some 13,some (10,true),.bin .leq (.t 11) (.t 12)⟩,gg 14 10 13,F 6 14] .ret))
def WT:b5:=cx 30 2 [.t 4] (R [du 4 false] (R [F 8 0,cp 9 8,(az 5 (.alloc 356005 [(ah 0)])),ba 1 5 9] (R [(az 6 (.alloc 356006 [(.I .tj)])),⟨none,none,.store 1 (.t 6) (.c (.fR wH []))⟩] (R [(az 10 (.tk Ie [(.t 5),(.t 6)])),F 7 10] (R [aN 11 1 5,bg 12 .leq 11 60,F 13 12,⟨some 14,some (13,true),.cn (.t 1)⟩,⟨some 15,some (13,true),.len (.t 14)⟩,⟨some 16,some (13,true),.bin .leq (.t 15) (.c (ah 2000))⟩,gg 17 13 16,F 18 17,⟨some 19,some (18,true),.cn (.t 0)⟩,⟨some 20,some (18,true),.load 1 false (.t 6)⟩,⟨some 21,some (18,true),.call H8 [(.t 19),(.t 20)]⟩,⟨some 22,some (18,true),.un .not (.t 21)⟩,gg 23 18 22,F 24 23,⟨some 25,some (24,true),.cn (.t 1)⟩,⟨some 26,some (24,true),.cn (.t 7)⟩,⟨some 27,some (24,true),.call H9 [(.t 25),(.t 26)]⟩,⟨some 28,some (24,true),.un .not (.t 27)⟩,gg 29 24 28,F 4 29] .ret)))))
def WU:b5:=cx 24 2 [.cell 4 4 true] (R [dW 2 357002 0,dW 3 357003 1,(az 4 (.alloc 357004 [(ah 0),(ah 0),(ah 0),(ah 0)]))] (fs [aW 5 4 2,aN 6 1 5,aW 7 3 3,aN 8 1 7,bg 9 .quo 8 1000,aW 10 3 2,aN 11 1 10,bC 12 .mul 9 11,aW 13 3 3,aN 14 1 13,bg 15 .rem 14 1000,aW 16 3 2,aN 17 1 16,bC 18 .mul 15 17,bg 19 .quo 18 1000,bC 20 .add 12 19,aW 21 2 3,ba 1 21 6,aW 22 3 3,ba 1 22 20] [[],[],[],[],[],[],[],[],[],[],[],[],[],[],[],[],[],[6,12],[],[]] (R [bp 23 4 3,ba 4 4 23] .ret)))
def WV:b5:=cx 6 1 [.t 2] (R [du 2 false] (R [F 3 0,(az 4 (.call rh [(.t 3),(.c (ah 0)),(.c (ah 1000000000000000))])),gv 5 4,F 2 5] .ret))
def WW:b5:=cx 31 3 [.t 4] (R [dW 3 362003 0,du 4 false] (R [aW 5 0 3,aN 6 1 5,aN 7 1 1,bg 8 .sub 7 1,(az 9 (.call rh [(.t 6),(.c (ah 0)),(.t 8)])),gv 10 9,F 11 10,⟨some 12,some (11,false),.eX 1 (.t 3)⟩,⟨some 13,some (11,false),.load 1 false (.t 12)⟩,⟨some 14,some (11,false),.load 1 false (.t 1)⟩,⟨some 15,some (11,false),.bin .sub (.t 14) (.c (ah 1))⟩,⟨some 16,some (11,false),.call rh [(.t 13),(.c (.I (.int .i64 (-1)))),(.t 15)]⟩,⟨some 17,some (11,false),.un .not (.t 16)⟩,eo 18 11 17,F 19 18,⟨some 20,some (19,false),.eX 2 (.t 3)⟩,⟨some 21,some (19,false),.load 1 false (.t 20)⟩,⟨some 22,some (19,false),.call rh [(.t 21),(.c (ah 0)),(.c (ah 9))]⟩,⟨some 23,some (19,false),.un .not (.t 22)⟩,eo 24 19 23,F 25 24,⟨some 26,some (25,false),.load 1 false (.t 2)⟩,⟨some 27,some (25,false),.eX 3 (.t 3)⟩,⟨some 28,some (25,false),.load 1 false (.t 27)⟩,⟨some 29,some (25,false),.lk (.t 26) [(.t 28)]⟩,eo 30 25 29,F 4 30] .ret))
abbrev WX:Int×(List bS)×Nat->List Data:=λ(z,h,i)=>[.int .i64 z,.ptr [.ae (h.map aK)],.ptr [.int .i64 i]]
def WY:=cy WX λ(z,h,i)=>cW (dz z/\i<D h/\o0 h) (.same (.bool (decide (qC (h.getD i dT) (aE (z:Rat))<0))))
theorem auv:∀a b,WX a=WX b->a=b:=by
  rintro⟨gD,E,i1⟩ ⟨iC,H,i2⟩ h;simp only[bf,Data.int.injEq,Data.ptr.injEq,Data.ae.injEq,and_true,true_and] at h;exact eN h.1 (eN (map_inj vl _ _ h.2.1) (by have:=h.2.2;dsimp only;omega))
@[go_sem] theorem auw (z:Int)(h:List bS)(i:Nat)(G:dz z/\i<D h/\o0 h):WY [.int .i64 z,.ptr [.ae (h.map aK)],.ptr [.int .i64 i]]=some (.same (.bool (decide (qC (h.getD i dT) (aE (z:Rat))<0)))):=(cK auv (z,h,i)).trans (c6 G _)
theorem auy (T:bk)(g3:T og=aX ur)(fp:T qt=aX vj)(z:Int)(h:List bS)(i:Nat)(G:dz z/\i<D h/\o0 h):WP T Tm (.same (.bool (decide (qC (h.getD i dT) (aE (z:Rat))<0)))) [.I (.int .i64 z),.I (.ptr [.ae (h.map aK)]),.I (.ptr [.int .i64 i])]:=by
 refine cH ?_;simp only[Tm];obtain⟨aR,L,cU⟩:=G;have hw:=AQ z aR;obtain⟨x,O⟩:∃x,h[i]?=some x:=⟨_,bx L⟩;have lI:h.getD i dT=x:=by rw[ea,O];rfl
 obtain⟨ahg,ahh⟩:=cU.2 x (eU O);obtain⟨ahi,ahj⟩:=o4 (rM aR);rw[lI];generalize aE (z:Rat)=xc at *;obtain⟨⟨c5,dK⟩,⟨fl,fP⟩⟩:=xc;obtain⟨⟨dR,gQ⟩,⟨ox,s8⟩⟩:=x;have kT:=abK dR gQ ox s8 c5 dK fl fP ⟨ahg,ahh,ahi,ahj⟩;simp only[aK] at hw;simp only[go_sem,go_sem_proc,g3,fp,hw,O,kT,aK,al,bd];repeat' (first|refine av ?_ ?_|fail)<;>intro h<;>simp only[h,go_sem,go_sem_proc,g3,fp,hw,O,kT,aK,al,bd]
def Gd:=cy J2 λ(x,a,b)=>some (.same (.bool (decide (a<=x)&&decide (x<=b))))
@[go_sem] theorem aDu (x:Int)(a:Int)(b:Int):Gd [.int .i64 x,.int .i64 a,.int .i64 b]=some (.same (.bool (decide (a<=x)&&decide (x<=b)))):=cK Wg (x,a,b)
theorem auz (T:bk)  (x:Int) (a:Int) (b:Int):WP T WS (.same (.bool (decide (a<=x)&&decide (x<=b)))) [.I (.int .i64 x),.I (.int .i64 a),.I (.int .i64 b)]:=by
 refine cH ?_;simp only[WS];rcases aH:decide (a<=x)
 ·refine a7 ?_;repeat' (intro h<;>simp only[h,go_sem,go_sem_proc,aH,ja]<;>try refine av ?_ ?_)
 ·refine a7 ?_;repeat' (intro h<;>simp only[h,go_sem,go_sem_proc,aH,iy]<;>try refine av ?_ ?_)
def OJ:=cy zT λ(x:Int)=>some (.same (.bool (!md x)))
@[go_sem] theorem auA (x:Int):OJ [.int .i64 x]=some (.same (.bool (!md x))):=cK D7 x
theorem auB (T:bk)(hg:T rh=aX Gd)(x:Int):WP T WV (.same (.bool (!md x))) [.I (.int .i64 x)]:=by
 refine cH ?_;simp only[WV];unfold md;refine a7 ?_;repeat' (intro h<;>simp only[h,go_sem,go_sem_proc,hg]<;>try refine av ?_ ?_)
theorem Kj {T:bk}{c:dY}{K:er->a2->Prop}{st:a2}(h:wp T c K st):wp T c (b7 T K []) st:=by
 have:b7 T K []=K:=by funext e st;cases e<;>rfl
 rwa [this]
theorem WZ (T:bk)(id:FuncId)(eW:List Data)(aO:List Data->Option et)(cz:T id=aX aO)(p:Int->Bool)(l:List Int)(aq:(D l)<=1000000)(e4:∀x∈l,aO (.int .i64 x::eW)=some (.same (.bool (p x)))):WP T Ik (.same (.int .i64 (l7 p l))) [.I (.ae (l.map af)),.I (.fn id eW)]:=by
 refine cH ?_;simp only[Ik];simp only[go_sem,go_sem_proc,al];refine dG [0,1,7] [] (λ(i:Nat) tm mem=>i<=D l/\(∀x∈l.take i,p x=false)/\tm 8=.I (.int .i64 i)) (λi=>D l-i) 0 (by refine⟨fr _,by simp,rfl⟩) ?_;intro vs ms aV aS;simp only[go_sem,go_sem_proc,al] at aV aS;subst aV aS;rintro i tm mem J hm ⟨L,e1,bT⟩;simp only[go_sem,go_sem_proc,bf] at J hm;obtain⟨ai,E,bA⟩:=J;have kT:∀m:Mem,(eW.map M.I).mapM (cZ 6 m)=some eW:=λm=>wB (cZ 6 m) (λd=>rfl) eW;rcases dX (i<D l) with ao|cf
 ·have O:=bx ao;have tc:=e4 _ (n7 ao);have bJ:=λh=>I7 (p:=p) e1 O h;have fV:=λh=>MQ (p:=p) e1 O h;generalize l[i]=x at *;have gU:decide ((i:Int)<(D l:Int))=true:=dn;have hw:=gu (i:=i) (by omega);rcases ad:p x
  ·rw[ad] at tc;simp only[go_sem,go_sem_proc,cz,ai,E,bA,bT,O,gU,hw,tc,kT,af,al,bd,oR];repeat' (first|refine av ?_ ?_|fail)<;>intro h<;>simp only[h,go_sem,go_sem_proc,cz,ai,E,bA,bT,O,gU,hw,tc,kT,af,al,bd,oR]
   exact⟨i+1,by omega,by omega,fV ad,rfl⟩
  ·rw[ad] at tc;rw[bJ ad];simp only[go_sem,go_sem_proc,cz,ai,E,bA,bT,O,gU,hw,tc,kT,af,al,bd,oR];repeat' (first|refine av ?_ ?_|fail)<;>intro h<;>simp only[h,go_sem,go_sem_proc,cz,ai,E,bA,bT,O,gU,hw,tc,kT,af,al,bd,oR]
 ·have gU:decide ((i:Int)<(D l:Int))=false:=dr;obtain rfl:i=D l:=by omega
  rw[om] at e1;rw[MO e1];simp only[go_sem,go_sem_proc,ai,E,bA,bT,gU,al];repeat' (first|refine av ?_ ?_|fail)<;>intro h<;>simp only[h,go_sem,go_sem_proc,ai,E,bA,bT,gU,al]
inductive ze where
 |right
 |day
 |hold
 |solve (h:List bS) (i:Nat)
def uC:ze->Data
 |.right => .fn H6 [.ptr [.fn tK []]]
 |.day => .fn aaj []
 |.hold => .fn wH []
 |.solve h i => .fn H5 [.ptr [.ae (h.map aK)],.ptr [.int .i64 i]]
theorem auC:∀a b:ze,uC a=uC b->a=b:=by
 rintro (_|_|_|⟨h,i⟩) (_|_|_|⟨b2,a4⟩) e
 all_goals first|rfl|(simp[uC,H6,aaj,H5,wH] at e;done)|skip
 simp only[uC,Data.fn.injEq,bf,Data.ptr.injEq,Data.ae.injEq,Data.int.injEq,and_true,true_and] at e;rw[map_inj vl _ _ e.1,show i=a4 by omega]
def rS:ze->Int->Bool
 |.right,x => !md x
 |.day,x => !md x
 |.hold,x => !md x
 |.solve h i,x=>decide (qC (h.getD i dT) (aE (x:Rat))<0)
def Ge (l:List Int):ze->Prop
 |.solve h i=>i<D h/\o0 h/\∀x∈l,dz x
 |.day=>False
 |_=>True
abbrev OK:(List Int)×ze->List Data:=λ(l,c)=>[.ae (l.map af),uC c]
def Gf:=cy OK λ(l,c)=>cW (D l<=1000000/\Ge l c) (.same (.int .i64 (l7 (rS c) l)))
theorem ahk:∀a b,OK a=OK b->a=b:=by
  rintro⟨eE,aH⟩ ⟨aj,c2⟩ h;simp only[bf,Data.ae.injEq,and_true] at h;exact eN (map_inj gY _ _ h.1) (auC _ _ h.2)
@[go_sem] theorem auD (l:List Int)(c:ze)(G:(D l)<=1000000/\Ge l c):Gf [.ae (l.map af),uC c]=some (.same (.int .i64 (l7 (rS c) l))):=(cK ahk (l,c)).trans (c6 G _)
theorem auE (T:bk)(auF:T H6=aX Wi)(W0:T wH=aX OJ)(auG:T H5=aX WY)(l:List Int)(c:ze)(G:(D l)<=1000000/\Ge l c):WP T Ik (.same (.int .i64 (l7 (rS c) l))) [.I (.ae (l.map af)),.I (uC c)]:=by
 refine cH ?_;simp only[Ik];obtain⟨aq,cU⟩:=G
 cases c with
 |right=>exact Kj (WZ T _ _ _ auF (rS .right) l aq λx _=>asY x)
 |day=>exact False.elim cU
 |hold=>exact Kj (WZ T _ _ _ W0 (rS .hold) l aq λx _=>auA x)
 |solve h k=>exact Kj (WZ T _ _ _ auG (rS (.solve h k)) l aq λx O=>auw x h k ⟨cU.2.2 x O,cU.1,cU.2.1⟩)
def OL:=cy OK λ(l,c)=>cW (D l<=1000000/\Ge l c) (.same (.bool (l.any (rS c))))
@[go_sem] theorem ahl (l:List Int)(c:ze)(G:(D l)<=1000000/\Ge l c):OL [.ae (l.map af),uC c]=some (.same (.bool (l.any (rS c)))):=(cK ahk (l,c)).trans (c6 G _)
theorem auH (T:bk)(oB:T BG=aX Gf)(l:List Int)(c:ze)(G:(D l)<=1000000/\Ge l c):WP T RL (.same (.bool (l.any (rS c)))) [.I (.ae (l.map af)),.I (uC c)]:=by
 refine cH ?_;simp only[RL];rw[<-MP];refine a7 ?_;repeat' (intro h<;>simp only[h,go_sem,go_sem_proc,oB,G]<;>try refine av ?_ ?_)
abbrev W1:Int×Int×Int×Int×Int->List Data:=λ(a,b,k,x,n)=>[.agg [.int .i64 a,.int .i64 b,.int .i64 k,.int .i64 x],.ptr [.int .i64 n],.ptr [.fn wH []]]
def W2:=cy W1 λ(a,b,k,x,n)=>cW (0<=n/\n<=1000000) (.same (.bool (!oy n (a,b,k,x))))
theorem auI:∀a b,W1 a=W1 b->a=b:=by
  rintro⟨c5,dR,cF,bh,iv⟩ ⟨dK,gQ,dk,cd,jr⟩ h;simp only[bf,Data.int.injEq,Data.agg.injEq,Data.ae.injEq,Data.bool.injEq,Data.str.injEq,Data.ptr.injEq,Data.cq.injEq,fv,true_and,and_true] at h ⊢
  first|exact h|simpa [BL,and_assoc] using h|grind
@[go_sem] theorem auJ (a:Int)(b:Int)(k:Int)(x:Int)(n:Int)(G:0<=n/\n<=1000000):W2 [.agg [.int .i64 a,.int .i64 b,.int .i64 k,.int .i64 x],.ptr [.int .i64 n],.ptr [.fn wH []]]=some (.same (.bool (!oy n (a,b,k,x)))):=(cK auI (a,b,k,x,n)).trans (c6 G _)
theorem auK (T:bk)(hg:T rh=aX Gd)(W0:T wH=aX OJ)(a:Int)(b:Int)(k:Int)(x:Int)(n:Int)(G:0<=n/\n<=1000000):WP T WW (.same (.bool (!oy n (a,b,k,x)))) [.I (.agg [.int .i64 a,.int .i64 b,.int .i64 k,.int .i64 x]),.I (.ptr [.int .i64 n]),.I (.ptr [.fn wH []])]:=by
 refine cH ?_;simp only[WW];have w:IntKind.i64.wrap (n-1)=n-1:=by rw[eC _]
 have e:oy n (a,b,k,x)=((decide (0<=a)&&decide (a<=n-1))&&((decide (-1<=b)&&decide (b<=n-1))&&((decide (0<=k)&&decide (k<=9))&&md x))):=by
  rw[pK,ae3];simp only[e3,decide_eq_true_eq,ase];omega
 rw[e];rcases aH:(decide (0<=a)&&decide (a<=n-1))<;>rcases c2:(decide (-1<=b)&&decide (b<=n-1))<;>rcases c3:(decide (0<=k)&&decide (k<=9))<;>rcases c4:md x
 all_goals
      refine a7 ?_;repeat' (intro h<;>simp only[h,go_sem,go_sem_proc,hg,W0,w,aH,c2,c3,c4]<;>try refine av ?_ ?_)
theorem ahm (T:bk)(id:FuncId)(eW:List Data)(aO:List Data->Option et)(cz:T id=aX aO)(p:ar->Bool)(l:List ar)(aq:(D l)<=1000000)(e4:∀a b k z,(a,b,k,z)∈l->aO (.agg [.int .i64 a,.int .i64 b,.int .i64 k,.int .i64 z]::eW)=some (.same (.bool (p (a,b,k,z))))):WP T Il (.same (.int .i64 (l7 p l))) [.I (.ae (l.map bE)),.I (.fn id eW)]:=by
 refine cH ?_;simp only[Il];simp only[go_sem,go_sem_proc,al];refine dG [0,1,7] [] (λ(i:Nat) tm mem=>i<=D l/\(∀x∈l.take i,p x=false)/\tm 8=.I (.int .i64 i)) (λi=>D l-i) 0 (by refine⟨fr _,by simp,rfl⟩) ?_;intro vs ms aV aS;simp only[go_sem,go_sem_proc,al] at aV aS;subst aV aS;rintro i tm mem J hm ⟨L,e1,bT⟩;simp only[go_sem,go_sem_proc,bf] at J hm;obtain⟨ai,E,bA⟩:=J;have kT:∀m:Mem,(eW.map M.I).mapM (cZ 6 m)=some eW:=λm=>wB (cZ 6 m) (λd=>rfl) eW;rcases dX (i<D l) with ao|cf
 ·have O:=bx ao;have Av:=n7 ao;have bJ:=λh=>I7 (p:=p) e1 O h;have fV:=λh=>MQ (p:=p) e1 O h;generalize l[i]=x at *;obtain⟨a,b,k,z⟩:=x;have tc:=e4 a b k z Av;have gU:decide ((i:Int)<(D l:Int))=true:=dn;have hw:=gu (i:=i) (by omega);rcases ad:p (a,b,k,z)
  ·rw[ad] at tc;simp only[go_sem,go_sem_proc,cz,ai,E,bA,bT,O,gU,hw,tc,kT,bE,al,bd,oR];repeat' (first|refine av ?_ ?_|fail)<;>intro h<;>simp only[h,go_sem,go_sem_proc,cz,ai,E,bA,bT,O,gU,hw,tc,kT,bE,al,bd,oR]
   exact⟨i+1,by omega,by omega,fV ad,rfl⟩
  ·rw[ad] at tc;rw[bJ ad];simp only[go_sem,go_sem_proc,cz,ai,E,bA,bT,O,gU,hw,tc,kT,bE,al,bd,oR];repeat' (first|refine av ?_ ?_|fail)<;>intro h<;>simp only[h,go_sem,go_sem_proc,cz,ai,E,bA,bT,O,gU,hw,tc,kT,bE,al,bd,oR]
 ·have gU:decide ((i:Int)<(D l:Int))=false:=dr;obtain rfl:i=D l:=by omega
  rw[om] at e1;rw[MO e1];simp only[go_sem,go_sem_proc,ai,E,bA,bT,gU,al];repeat' (first|refine av ?_ ?_|fail)<;>intro h<;>simp only[h,go_sem,go_sem_proc,ai,E,bA,bT,gU,al]
inductive xB where
 |right (n:Int)
 |day (cash:List Int)
 |hold (n:Int)
def td:xB->Data
 |.right n => .fn H7 [.ptr [.fn tK []],.ptr [.int .i64 n]]
 |.day cash => .fn aak [.ptr [.ae (cash.map af)]]
 |.hold n => .fn Ie [.ptr [.int .i64 n],.ptr [.fn wH []]]
theorem auL:∀a b:xB,td a=td b->a=b:=by
 rintro (n|c|n) (NY|c'|NY) e
 all_goals first|(simp[td,H7,aak,Ie] at e;done)|skip
 ·simp only[td,Data.fn.injEq,bf,Data.ptr.injEq,Data.int.injEq,and_true,true_and] at e;rw[e]
 ·simp only[td,Data.fn.injEq,bf,Data.ptr.injEq,Data.ae.injEq,and_true,true_and] at e;rw[map_inj gY _ _ e]
 ·simp only[td,Data.fn.injEq,bf,Data.ptr.injEq,Data.int.injEq,and_true,true_and] at e;rw[e]
def W3:xB->Int
 |.right n=>n
 |.day cash=>D cash
 |.hold n=>n
def xC (c:xB)(x:ar):Bool:=!oy (W3 c) x
def Gg:xB->Prop
 |.day _=>False
 |c=>0<=W3 c/\W3 c<=1000000
abbrev OM:(List ar)×xB->List Data:=λ(l,c)=>[.ae (l.map bE),td c]
def W4:=cy OM λ(l,c)=>cW (D l<=1000000/\Gg c) (.same (.int .i64 (l7 (xC c) l)))
theorem ahn:∀a b,OM a=OM b->a=b:=by
  rintro⟨eE,aH⟩ ⟨aj,c2⟩ h;simp only[bf,Data.ae.injEq,and_true] at h;exact eN (map_inj y7 _ _ h.1) (auL _ _ h.2)
@[go_sem] theorem aDv (l:List ar)(c:xB)(G:(D l)<=1000000/\Gg c):W4 [.ae (l.map bE),td c]=some (.same (.int .i64 (l7 (xC c) l))):=(cK ahn (l,c)).trans (c6 G _)
theorem auM (T:bk)(auN:T H7=aX Wl)(auO:T Ie=aX W2)(l:List ar)(c:xB)(G:(D l)<=1000000/\Gg c):WP T Il (.same (.int .i64 (l7 (xC c) l))) [.I (.ae (l.map bE)),.I (td c)]:=by
 refine cH ?_;simp only[Il];obtain⟨aq,cU⟩:=G
 cases c with
 |right n=>exact Kj (ahm T _ _ _ auN (xC (.right n)) l aq λa b k z _=>as1 a b k z n cU)
 |day cash=>exact False.elim cU
 |hold n=>exact Kj (ahm T _ _ _ auO (xC (.hold n)) l aq λa b k z _=>auJ a b k z n cU)
def ON:=cy OM λ(l,c)=>cW (D l<=1000000/\Gg c) (.same (.bool (l.any (xC c))))
@[go_sem] theorem aho (l:List ar)(c:xB)(G:(D l)<=1000000/\Gg c):ON [.ae (l.map bE),td c]=some (.same (.bool (l.any (xC c)))):=(cK ahn (l,c)).trans (c6 G _)
theorem auP (T:bk)(auQ:T Rc=aX W4)(l:List ar)(c:xB)(G:(D l)<=1000000/\Gg c):WP T RM (.same (.bool (l.any (xC c)))) [.I (.ae (l.map bE)),.I (td c)]:=by
 refine cH ?_;simp only[RM];rw[<-MP];refine a7 ?_;repeat' (intro h<;>simp only[h,go_sem,go_sem_proc,auQ,G]<;>try refine av ?_ ?_)
theorem OO {α:Type}(l:List α)(p:α->Bool):l.any (λx => !p x) = !l.all p:=by
 induction l with
 |nil=>rfl
 |cons a l aw=>rw[List.any_cons,List.all_cons,aw];cases p a<;>rfl
abbrev Kk:(List Int)×(List ar)->List Data:=λ(cash,cs)=>[.ae (cash.map af),.ae (cs.map bE)]
def W5:=cy Kk λ(cash,cs)=>cW (D cash<=1000000/\D cs<=1000000) (.same (.bool (hI cash cs)))
theorem W6:∀a b,Kk a=Kk b->a=b:=by
  rintro⟨OP,Kl⟩ ⟨OQ,wv⟩ h;simp only[bf,Data.ae.injEq,and_true] at h;exact eN (map_inj gY _ _ h.1) (map_inj y7 _ _ h.2)
@[go_sem] theorem aDw (cash:List Int)(cs:List ar)(G:(D cash)<=1000000/\D cs<=1000000):W5 [.ae (cash.map af),.ae (cs.map bE)]=some (.same (.bool (hI cash cs))):=(cK W6 (cash,cs)).trans (c6 G _)
theorem auR (T:bk)(W7:T H8=aX OL)(W8:T H9=aX ON)(cash:List Int)(cs:List ar)(G:(D cash)<=1000000/\D cs<=1000000):WP T Tk (.same (.bool (hI cash cs))) [.I (.ae (cash.map af)),.I (.ae (cs.map bE))]:=by
 refine cH ?_;simp only[Tk];obtain⟨E,H⟩:=G;rw[ae4];have dh:=ahl cash .right ⟨E,trivial⟩;have fh:=aho cs (.right (D cash)) ⟨H,by show (0:Int)<=(D cash:Int);omega,by show (D cash:Int)<=1000000;omega⟩
 have aA:cash.any (rS .right) = !cash.all md:=OO cash md;have ay:cs.any (xC (.right (D cash))) = !cs.all (oy (D cash)):=OO cs _;rw[aA] at dh;rw[ay] at fh;simp only[uC] at dh;simp only[td] at fh;have d1:decide (D cash<=60)=decide ((D cash:Int)<=60):=by rw[pK,decide_eq_true_iff,decide_eq_true_iff];omega
 have d2:decide (D cs<=2000)=decide ((D cs:Int)<=2000):=by rw[pK,decide_eq_true_iff,decide_eq_true_iff];omega
 rw[d1,d2];rcases fE:decide ((D cash:Int)<=60)<;>rcases gF:decide ((D cs:Int)<=2000)<;>rcases p1:cash.all md<;>rcases lJ:cs.all (oy (D cash))
 all_goals rw[p1] at dh
 all_goals rw[lJ] at fh
 all_goals
      refine a7 ?_;repeat' (intro h<;>simp only[h,go_sem,go_sem_proc,W7,W8,dh,fh,fE,gF,al,cR,dc,Bool.and_true,ju,cZ,v3,Option.bind_none,scalar]<;>try refine av ?_ ?_)
def p7 (l:List ar)(r:Int):Int:=ck l λc=>if c.2.2.1<r then c.2.2.2 else 0
def gn (l:List ar)(r:Int):Int:=ck l λc=>if c.2.2.1=r then c.2.2.2 else 0
theorem ahp (l:List ar)(r:Int):p7 l (r+1)=p7 l r+gn l r:=by
 unfold p7 gn;rw[<-Wb];refine Fx λc _=>?_
 by_cases E:c.2.2.1<r
 ·rw[Z E,Z (by omega),aa (by omega)];omega
 ·by_cases H:c.2.2.1=r
  ·rw[Z (by omega),aa E,Z H];omega
  ·rw[aa (by omega),aa E,aa H];rfl
def gI (l:List ar)(x:Rat)(k:Nat):Rat:=pos (x-((p7 l k:Int):Rat))
theorem k8.W9 {l:List ar}(h:k8 l)(r:Int):0<=gn l r/\gn l r<=12000000000000000:=h.bound λc=>c.2.2.1=r
theorem k8.auS {l:List ar}(h:k8 l)(r:Int):0<=p7 l r/\p7 l r<=12000000000000000:=h.bound λc=>c.2.2.1<r
theorem auT (l:List ar)(x:Rat)(k:Nat):0<=gI l x k:=xt _
theorem auU {l:List ar}(h:k8 l){x:Rat}(O:0<=x):gI l x 0=x:=by
 have:p7 l (0:Nat)=0:=by
  unfold p7
  have:(ck l λc=>if c.2.2.1<((0:Nat):Int) then c.2.2.2 else 0)=ck l λ_=>0:=Fx λc G=>by
   have:=(h.c c G).2.2.2.2.1;rw[aa (by omega)]
  rw[this];clear h this
  induction l with
  |nil=>rfl
  |cons c l aw=>simp only[ck,aw];omega
 unfold gI;rw[this,sT]<;>grind
theorem auV {l:List ar}(h:k8 l){x:Rat}{k:Nat}(he:((gn l k:Int):Rat)<=gI l x k):gI l x (k+1)=gI l x k-((gn l k:Int):Rat):=by
 have E:=ahp l k;have ai:=(h.W9 k).1;have aDx:(0:Rat)<=((gn l k:Int):Rat):=by exact_mod_cast ai
 unfold gI at *;rw[show ((k+1:Nat):Int)=(k:Int)+1 by omega,E,sZ]
 by_cases aC:x-((p7 l k:Int):Rat)<=0
 ·have aA:=sU aC;rw[aA] at he ⊢;rw[sU (by grind)];grind
 ·have aA:=sT (x:=x-((p7 l k:Int):Rat)) (by grind);rw[aA] at he ⊢;rw[sT (by grind)];grind
theorem auW {l:List ar}{x:Rat}{k:Nat}(he:¬ ((gn l k:Int):Rat)<=gI l x k):gI l x (k+1)=0:=by
 have E:=ahp l k;have H:=JD (x-((p7 l k:Int):Rat));unfold gI at *;rw[show ((k+1:Nat):Int)=(k:Int)+1 by omega,E,sZ,sU (by grind)]
section
variable {l:List ar} (h:k8 l) {x:Rat} {k:Nat} {c:ar} (G:c∈l) (J:c.2.2.1=k)
include h G J
theorem ahq:ca l c.1 c.2.2.1=p7 l k/\ia l c.1 c.2.2.1=gn l k:=by
 rw[J];exact⟨(h.less G k).symm,(h.same G k).symm⟩
theorem auX (he:((gn l k:Int):Rat)<=gI l x k):gk l x c=(c.2.2.2:Rat):=by
 obtain⟨aA,ay⟩:=ahq h G J;have aG:∀c∈l,0<=c.2.2.2:=λc G=>(h.c c G).2.2.2.2.2.2.1
 by_cases aC:x-((p7 l k:Int):Rat)<=0
 ·have ai:gI l x k=0:=sU aC;rw[ai] at he;have cv:gn l k<=0:=by exact_mod_cast he
  have aZ:=afs aG G;rw[ay] at aZ;have aDy:=aG c G;rw[aft aG G (by rw[aA];exact aC),show c.2.2.2=0 by omega];rfl
 ·refine asy ?_;rw[aA,ay];unfold gI at he;rwa [sT (by grind)] at he
theorem auY (he:¬ ((gn l k:Int):Rat)<=gI l x k):gk l x c=(c.2.2.2:Rat)*gI l x k/((gn l k:Int):Rat):=by
 obtain⟨aA,ay⟩:=ahq h G J;have aG:∀c∈l,0<=c.2.2.2:=λc G=>(h.c c G).2.2.2.2.2.2.1
 by_cases aC:x-((p7 l k:Int):Rat)<=0
 ·have ai:gI l x k=0:=sU aC;rw[aft aG G (by rw[aA];exact aC),ai,l8,sS,y2]
 ·have ai:gI l x k=x-((p7 l k:Int):Rat):=sT (by grind);rw[afu (by rw[aA];grind) (by rw[aA,ay,<-ai];grind),aA,ay,ai]
end
theorem ahr {l:List ar}{x:Rat}(h:JY l x)(k:Nat):eB 515 (gI l x k):=by
 have fD:=h.own.auS k;unfold gI pos
 split
 ·exact (show eB 1 0 from⟨by decide,by decide⟩).mono (by omega)
 ·rw[Rat.sub_eq_add_neg];exact (arb h.sz (FB (FK (z:=p7 l k) (b:=54) (by omega)))).mono (by omega)
def Xa:=cy J2 λ(x,a,b)=>some (.same (.bool (decide (a<=x)&&decide (x<=b))))
@[go_sem] theorem aDz (x:Int)(a:Int)(b:Int):Xa [.int .i64 x,.int .i64 a,.int .i64 b]=some (.same (.bool (decide (a<=x)&&decide (x<=b)))):=cK Wg (x,a,b)
theorem auZ (T:bk)  (x:Int) (a:Int) (b:Int):WP T VU (.same (.bool (decide (a<=x)&&decide (x<=b)))) [.I (.int .i64 x),.I (.int .i64 a),.I (.int .i64 b)]:=by
 refine cH ?_;simp only[VU];rcases aH:decide (a<=x)
 ·have c2:decide (x>=a)=false:=aH;refine a7 ?_;repeat' (intro h<;>simp only[h,go_sem,go_sem_proc,aH,c2,ja]<;>try refine av ?_ ?_)
 ·have c2:decide (x>=a)=true:=aH;refine a7 ?_;repeat' (intro h<;>simp only[h,go_sem,go_sem_proc,aH,c2,iy]<;>try refine av ?_ ?_)
abbrev OR:List ar->List Data:=λ(l:List ar)=>[.ae (l.map bE)]
def Xb:=cy OR λ(l:List ar)=>cW (k8 l) (.same (.bool true))
theorem ahs:∀a b,OR a=OR b->a=b:=by
  intro eE aj h;simp only[bf,Data.ae.injEq,and_true] at h;exact map_inj y7 _ _ h
@[go_sem] theorem aDA (l:List ar)(G:k8 l):Xb [.ae (l.map bE)]=some (.same (.bool true)):=(cK ahs l).trans (c6 G _)
theorem au0 (T:bk)(Km:T D0=aX Xa)(l:List ar)(G:k8 l):WP T VS (.same (.bool true)) [.I (.ae (l.map bE))]:=by
 refine cH ?_;simp only[VS];have aq:=G.len;simp only[go_sem,go_sem_proc,Km,al];refine dG [0,5,6] [] (λ(i:Nat) tm mem=>i<=D l/\tm 7=.I (.int .i64 i)) (λi=>D l-i) 0 (by refine⟨by omega,rfl⟩) ?_;intro vs ms aV aS;simp only[go_sem,go_sem_proc,Km,al] at aV aS;subst aV aS;rintro i tm mem J hm ⟨L,bA⟩;simp only[go_sem,go_sem_proc,Km,bf] at J hm;obtain⟨ai,bj,bH⟩:=J;rcases dX (i<D l) with ao|cf
 ·have d1:decide ((i:Int)<(D l:Int))=true:=dn;have cl:=gu (i:=i) (by omega);obtain⟨⟨aH,c2,c3,c4⟩,O⟩:∃c,l[i]?=some c:=⟨_,bx ao⟩;obtain⟨⟨c5,dK,fl,fP⟩,hV⟩:∃c,l[0]?=some c:=⟨_,bx (by omega)⟩;have mr:=G.c _ (eU O);have Bk:=G.one _ (eU O) _ (eU hV);dsimp only at mr Bk;subst Bk;have fE:(decide (0<=aH)&&decide (aH<=59))=true:=by simp only[e3,decide_eq_true_eq];omega
  have gF:(decide (-1<=c2)&&decide (c2<=59))=true:=by simp only[e3,decide_eq_true_eq];omega
  have p1:(decide (0<=c3)&&decide (c3<=9))=true:=by simp only[e3,decide_eq_true_eq];omega
  have lJ:(decide (0<=c4)&&decide (c4<=1000000000000000))=true:=by simp only[e3,decide_eq_true_eq];omega
  refine a7 ?_;repeat' (intro h<;>simp only[h,go_sem,go_sem_proc,Km,ai,bj,bH,bA,O,hV,d1,cl,fE,gF,p1,lJ,bE,bne,beq_self_eq_true,cR,al,bd]<;>try refine av ?_ ?_)
  exact⟨i+1,by omega,by omega,rfl⟩
 ·have d1:decide ((i:Int)<(D l:Int))=false:=dr;have d2:decide ((D l:Int)<=2000)=true:=dn;refine a7 ?_;repeat' (intro h<;>simp only[h,go_sem,go_sem_proc,Km,ai,bj,bH,bA,d1,d2,al]<;>try refine av ?_ ?_)
theorem au1 (T:bk){K:er->a2->Prop}{kk:List fU}(l:List ar)(aq:k8 l)(k:Nat)(v1 v6 qQ:M)(CU:M)(cd nw aht:Option (Nat×List M))(tm:Nat->M)(m:Mem)
  (aA:tm 1=v1) (bL:tm 6=v6) (b1:tm 7=qQ) (dq:tm 8=.I (.int .i64 k)) (fb:tm 9=.I (.int .i64 0)) (mT:tm 37=CU) (Gh:tm 40=.I (.ae (l.map bE))) (Gi:tm 41=.I (.int .i64 (D l))) (Gj:tm 42=.I (.int .i64 0)) (bY:m 249002=cd) (kd:m 249007=nw) (nx:m 249035=aht)
  (dp:∀tm' m',tm' 1=v1->tm' 6=v6->tm' 7=qQ->tm' 8=.I (.int .i64 k)->tm' 9=.I (.int .i64 (gn l k))->tm' 37=CU->m' 249002=cd->m' 249007=nw->m' 249035=aht->b7 T K kk (.exit 2) ⟨tm',m'⟩) :
  wp T (CF.body.sub [1,1,1,1,0,1,0,0,1,1,0,0,1,1,0,1,0]) (b7 T K kk) ⟨tm,m⟩:=by
 simp only[CF,dY.sub];have ad:=λt=>aq.cs.sum (λc=>c.2.2.1=(k:Int)) t;have hlen:=aq.len;refine dG [1,6,7,8,37,40,41] [249002,249007,249035] (λ(t:Nat) tm m=>t<=D l/\tm 42=.I (.int .i64 t)/\tm 9=.I (.int .i64 (gn (l.take t) k))) (λt=>D l-t) 0 (by refine⟨by omega,Gj,fb⟩) ?_;intro vs ms aV aS;simp only[go_sem,go_sem_proc,aA,bL,b1,dq,mT,Gh,Gi,bY,kd,nx] at aV aS;subst aV aS;clear aA bL b1 dq fb mT Gh Gi Gj bY kd nx tm m;rintro t tm m J hm ⟨bI,Gj,fb⟩;simp only[go_sem,go_sem_proc,bf] at J hm;obtain⟨aA,bL,b1,dq,mT,Gh,Gi⟩:=J;obtain⟨bY,kd,nx⟩:=hm;rcases dX (t<D l) with ao|cf
 ·have d1:decide ((t:Int)<(D l:Int))=true:=dn;have cl:=gu (i:=t) (by omega);obtain⟨⟨aH,c2,c3,c4⟩,O⟩:∃c,l[t]?=some c:=⟨_,bx ao⟩
  have eA:gn (l.take (t+1)) k=gn (l.take t) k+if c3=(k:Int) then c4 else 0:=by
   unfold gn;rw[ar2 O]
  have E:=ad t;have H:=ad (t+1);have aba:gn (l.take t) k=ck (l.take t) λc=>if c.2.2.1=(k:Int) then c.2.2.2 else 0:=rfl;have au2:gn (l.take (t+1)) k=ck (l.take (t+1)) λc=>if c.2.2.1=(k:Int) then c.2.2.2 else 0:=rfl;rw[<-aba] at E;rw[<-au2] at H;rcases q:(c3==(k:Int))
  ·rw[aa (by have:=ne_of_beq_false q;omega),tU] at eA;refine a7 ?_;repeat' (intro h<;>simp only[h,go_sem,go_sem_proc,aA,bL,b1,dq,fb,mT,Gh,Gi,Gj,bY,kd,nx,O,d1,cl,q,bE,al,bd]<;>try refine av ?_ ?_)
   exact⟨t+1,by omega,by omega,rfl,by rw[eA]⟩
  ·rw[Z (by have:=eq_of_beq q;omega)] at eA;have J8:IntKind.i64.wrap (gn (l.take t) k+c4)=gn (l.take (t+1)) k:=by rw[eA,wrap64 _ (by omega) (by omega)]
   refine a7 ?_;repeat' (intro h<;>simp only[h,go_sem,go_sem_proc,aA,bL,b1,dq,fb,mT,Gh,Gi,Gj,bY,kd,nx,O,d1,cl,q,J8,bE,al,bd]<;>try refine av ?_ ?_)
   exact⟨t+1,by omega,by omega,rfl,rfl⟩
 ·have d1:decide ((t:Int)<(D l:Int))=false:=dr;rw[dE (by omega)] at fb;refine a7 ?_;repeat' (intro h<;>simp only[h,go_sem,go_sem_proc,aA,bL,b1,dq,fb,mT,Gh,Gi,Gj,d1]<;>try refine av ?_ ?_)
  refine dp _ _ ?_ ?_ ?_ ?_ ?_ ?_ bY kd nx<;>simp only[eL,dA,if_false,aA,bL,b1,dq,fb,mT]
def kG (l:List ar)(x:Rat)(k t j:Nat):Option bS:=if (l.getD j ih).2.2.1<(k:Int)\/((l.getD j ih).2.2.1=(k:Int)/\j<t) then some (CI l x j) else none
theorem au3 (l:List ar)(h:k8 l)(x:Rat):(bq (D l) λj=>kG l x 0 0 j)=bq (D l) λ_=>none:=jR λj ag=>by
 have:=(h.c _ (eU (bx ag))).2.2.2.2.1;have e:l.getD j ih=l[j]:=by rw[ea,bx ag];rfl
 unfold kG;rw[e,aa (by omega)]
theorem au4 (l:List ar)(x:Rat)(k:Nat):(bq (D l) λj=>kG l x k (D l) j)=bq (D l) λj=>kG l x (k+1) 0 j:=jR λj ag=>by
 unfold kG
 by_cases h:(l.getD j ih).2.2.1<((k+1:Nat):Int)
 ·rw[Z (by omega),Z (.inl h)]
 ·rw[aa (by omega),aa (by omega)]
theorem au5 (l:List ar)(h:k8 l)(x:Rat):(bq (D l) λj=>kG l x 10 0 j)=bq (D l) λj=>some (CI l x j):=jR λj ag=>by
 have:=(h.c _ (eU (bx ag))).2.2.2.2.2.1;have e:l.getD j ih=l[j]:=by rw[ea,bx ag];rfl
 unfold kG;rw[e,Z (.inl (by omega))]
theorem OS {n:Int}(h:dz n):JU [.int .i64 n]=some (.same (.agg (aK (aE (n:Rat))))):=ar4 n h
theorem au6 (T:bk)(qT:T wG=aX JU)(k1:T u0=aX w5)(ow:T BD=aX Cd){K:er->a2->Prop}{kk:List fU}(l:List ar)(x:Rat)(kt:JY l x)(k:Nat)(bz kj:Nat)(v1 CU:M)(cd:Option (Nat×List M))(tm:Nat->M)(m:Mem)
  (aA:tm 1=v1) (bL:tm 6=.ref 249035 bz 4 0 (D l)) (b1:tm 7=.ptr 249007 kj 0) (dq:tm 8=.I (.int .i64 k)) (fb:tm 9=.I (.int .i64 (gn l k))) (h4:tm 12=.I (.bool (decide (((gn l k:Int):Rat)<=gI l x k)))) (mT:tm 37=CU) (jC:tm 60=.I (.ae (l.map bE))) (rR:tm 61=.I (.int .i64 (D l))) (CV:tm 62=.I (.int .i64 0)) (bY:m 249002=cd) (kd:m 249007=some (kj,(aK (aE (gI l x k))).map .I)) (nx:m 249035=some (bz,k9 p4 (bq (D l) λj=>kG l x k 0 j)))
  (dp:∀tm' m',tm' 1=v1->tm' 6=.ref 249035 bz 4 0 (D l)->tm' 7=.ptr 249007 kj 0->tm' 9=.I (.int .i64 (gn l k))->tm' 12=.I (.bool (decide (((gn l k:Int):Rat)<=gI l x k)))->tm' 37=CU->m' 249002=cd->m' 249007=some (kj,(aK (aE (gI l x k))).map .I)->m' 249035=some (bz,k9 p4 (bq (D l) λj=>kG l x (k+1) 0 j))->b7 T K kk (.exit 4) ⟨tm',m'⟩) :
  wp T (CF.body.sub [1,1,1,1,0,1,0,0,1,1,0,0,1,1,1,1,0,1,0]) (b7 T K kk) ⟨tm,m⟩:=by
 simp only[CF,dY.sub];have how:=kt.own;have hlen:=how.len;refine dG [1,6,7,8,9,12,37,60,61] [249002,249007] (λ(t:Nat) tm m=>t<=D l/\tm 62=.I (.int .i64 t)/\m 249035=some (bz,k9 p4 (bq (D l) λj=>kG l x k t j))) (λt=>D l-t) 0 (by refine⟨by omega,CV,nx⟩) ?_;intro vs ms aV aS;simp only[go_sem,go_sem_proc,aA,bL,b1,dq,fb,h4,mT,jC,rR,bY,kd] at aV aS;subst aV aS;clear aA bL b1 dq fb h4 mT jC rR CV bY kd nx tm m;rintro t tm m J hm ⟨bI,CV,nx⟩;simp only[go_sem,go_sem_proc,bf] at J hm;obtain⟨aA,bL,b1,dq,fb,h4,mT,jC,rR⟩:=J;obtain⟨bY,kd⟩:=hm;rcases dX (t<D l) with ao|cf
 ·have d1:decide ((t:Int)<(D l:Int))=true:=dn;have cl:=gu (i:=t) (by omega);obtain⟨⟨aH,c2,c3,c4⟩,O⟩:∃c,l[t]?=some c:=⟨_,bx ao⟩;have gr:=eU O;have nG:=how.c _ gr;dsimp only at nG;have xY:l.getD t ih=(aH,c2,c3,c4):=by rw[ea,O];rfl
  have Kn:=V9 (q:=λj=>kG l x k t j) ao;rcases q:(c3==(k:Int))
  ·have bP:c3≠(k:Int):=ne_of_beq_false q
   have fV:(bq (D l) λj=>kG l x k (t+1) j)=bq (D l) λj=>kG l x k t j:=jR λj _=>by
    unfold kG
    by_cases ag:j=t
    ·subst ag;rw[xY];dsimp only
     by_cases E:c3<(k:Int)
     ·rw[Z (.inl E),Z (.inl E)]
     ·rw[aa (by omega),aa (by omega)]
    ·by_cases E:(l.getD j ih).2.2.1<(k:Int)\/((l.getD j ih).2.2.1=(k:Int)/\j<t)
     ·rw[Z E,Z (by omega)]
     ·rw[aa E,aa (by omega)]
   refine a7 ?_;repeat' (intro h<;>simp only[h,go_sem,go_sem_proc,aA,bL,b1,dq,fb,h4,mT,jC,rR,CV,bY,kd,O,d1,cl,q,bE,bne,dc,al,bd]<;>try refine av ?_ ?_)
   exact⟨t+1,by omega,by omega,rfl,by rw[fV];exact nx⟩
  ·have Xc:c3=(k:Int):=eq_of_beq q;have o8:=λa b c d=>Wa (q:=λj=>kG l x k t j) ao a b c d
   have tz:∀aO:bS,aO=CI l x t->(bq (D l) λj=>if j=t then some aO else kG l x k t j)=bq (D l) λj=>kG l x k (t+1) j:=by
    intro aO e4;refine jR λj _=>?_
    by_cases ag:j=t
    ·subst ag;rw[Z rfl];unfold kG;rw[xY,Z (.inr ⟨Xc,by omega⟩),e4]
    ·rw[aa ag];unfold kG
     by_cases E:(l.getD j ih).2.2.1<(k:Int)\/((l.getD j ih).2.2.1=(k:Int)/\j<t)
     ·rw[Z E,Z (by omega)]
     ·rw[aa E,aa (by omega)]
   have ahu:CI l x t=aE (gk l x (aH,c2,c3,c4)):=by unfold CI;rw[xY]
   have ahv:dz c4:=qN (by omega) (by omega);have OT:=OS ahv;rcases dk:decide (((gn l k:Int):Rat)<=gI l x k)
   ·have au7:=of_decide_eq_false dk;have au8:=how.W9 k;have Gk:dz (gn l k):=qN (by omega) (by omega);have CW:=OS Gk;have A0:=ahr kt k;have OU:eB 54 ((c4:Int):Rat):=FK (by omega);have OV:eB 54 ((gn l k:Int):Rat):=FK (by omega);have au9:((gn l k:Int):Rat)≠0:=by have:=auT l x k;grind
    have f1:=ae6 (rM ahv) (mc A0 (by omega)) (VC OU A0 (by omega));have f2:=asf (mc (NK OU A0) (by omega)) (rM Gk) au9 (ad1 (NK OU A0) OV (by omega));have lN:=auY how gr Xc au7;dsimp only at lN;have ava:=λa b c d=>Wa (q:=λj=>if j=t then some ((a,b),(c,d)) else kG l x k t j) ao;have avb:=λa b c d=>V9 (q:=λj=>if j=t then some ((a,b),(c,d)) else kG l x k t j) ao;have aG:=tz (aE (((c4:Int):Rat)*gI l x k/((gn l k:Int):Rat))) (by rw[ahu,lN])
    have avc:∀aO ahw:bS,(bq (D l) λj=>if j=t then some aO else if j=t then some ahw else kG l x k t j)=bq (D l) λj=>if j=t then some aO else kG l x k t j:=λaO ahw=>jR λj _=>by
     by_cases ag:j=t
     ·rw[Z ag,Z ag]
     ·rw[aa ag,aa ag,aa ag]
    clear A0 OU OV;generalize aE (((c4:Int):Rat)*gI l x k/((gn l k:Int):Rat))=G1 at *;generalize aE (((c4:Int):Rat)*gI l x k)=G2 at *;generalize aE ((gn l k:Int):Rat)=G3 at *;generalize Xd:aE (gI l x k)=G4 at *;generalize aE ((c4:Int):Rat)=G5 at *;obtain⟨⟨cG,cO⟩,⟨h1,k2⟩⟩:=G1;obtain⟨⟨E,H⟩,⟨ab,aM⟩⟩:=G2;obtain⟨⟨i1,i2⟩,⟨i3,i4⟩⟩:=G3;obtain⟨⟨Ko,aDB⟩,⟨aDC,Nd⟩⟩:=G4;obtain⟨⟨iv,jr⟩,⟨vN,vr⟩⟩:=G5;simp only[aK,eY,cg] at OT CW f1 f2 kd;have eA:=o8 iv jr vN vr;have NV:=ava iv jr vN vr cG cO h1 k2;have avd:=avb iv jr vN vr;rw[avc,aG] at NV;refine a7 ?_;repeat' (intro h<;>simp only[h,go_sem,go_sem_proc,qT,k1,ow,aA,bL,b1,dq,fb,h4,mT,jC,rR,CV,bY,kd,nx,O,d1,cl,ao,q,dk,OT,CW,f1,f2,Kn,avd,eA,NV,bE,al,bd,bne,beq_self_eq_true,cR,dc]<;>try refine av ?_ ?_)
    exact⟨t+1,by omega,rfl,by omega,rfl,rfl⟩
   ·have lN:=auX how gr Xc (of_decide_eq_true dk);dsimp only at lN;have aG:=tz (aE ((c4:Int):Rat)) (by rw[ahu,lN]);generalize aE ((c4:Int):Rat)=G5 at *;obtain⟨⟨iv,jr⟩,⟨vN,vr⟩⟩:=G5;simp only[aK] at OT;have eA:=o8 iv jr vN vr;rw[aG] at eA;refine a7 ?_;repeat' (intro h<;>simp only[h,go_sem,go_sem_proc,qT,aA,bL,b1,dq,fb,h4,mT,jC,rR,CV,bY,kd,nx,O,d1,cl,ao,q,dk,OT,Kn,eA,bE,al,bd,bne,beq_self_eq_true,cR,dc]<;>try refine av ?_ ?_)
    exact⟨t+1,by omega,by omega,rfl,rfl⟩
 ·have d1:decide ((t:Int)<(D l:Int))=false:=dr;obtain rfl:t=D l:=by omega
  rw[au4] at nx;refine a7 ?_;repeat' (intro h<;>simp only[h,go_sem,go_sem_proc,aA,bL,b1,dq,fb,h4,mT,jC,rR,CV,d1]<;>try refine av ?_ ?_)
  refine dp _ _ ?_ ?_ ?_ ?_ ?_ ?_ bY kd nx<;>simp only[eL,dA,if_false,aA,bL,b1,fb,h4,mT]
abbrev Xe:Rat×(List ar)->List Data:=λ(x,l)=>[.agg (aK (aE x)),.ae (l.map bE)]
def Xf:=cy Xe λ(x,l)=>cW (JY l x) (.same (.cq [.ae ((l.map λc=>aE (gk l x c)).map aK),.int .i64 0]))
theorem ave:∀a b,Xe a=Xe b->a=b:=by
  rintro⟨bh,eE⟩ ⟨cd,aj⟩ h;simp only[bf,Data.ae.injEq,Data.agg.injEq,and_true] at h;exact eN (MC (vl _ _ h.1)) (map_inj y7 _ _ h.2)
@[go_sem] theorem avf (x:Rat)(l:List ar)(G:JY l x):Xf [.agg (aK (aE x)),.ae (l.map bE)]=some (.same (.cq [.ae ((l.map λc=>aE (gk l x c)).map aK),.int .i64 0])):=(cK ave (x,l)).trans (c6 G _)
theorem avg (T:bk)(gE:T m6=aX yG)(fp:T qt=aX vj)(qT:T wG=aX JU)(vT:T Q9=aX Xb)(k1:T u0=aX w5)(ow:T BD=aX Cd)(kf:T tF=aX w3)(x:Rat)(l:List ar)(G:JY l x):WP T CF (.same (.cq [.ae ((l.map λc=>aE (gk l x c)).map aK),.int .i64 0])) [.I (.agg (aK (aE x))),.I (.ae (l.map bE))]:=by
 refine cH ?_;simp only[CF];have mr:=G;obtain⟨how,hV,zJ⟩:=G;have mb:=mc zJ (by omega);have hlen:=how.len;have avh:=NQ mb;have OI:=JV mb (rM JX);have Xg:decide (ni x ((0:Int):Rat)<0)=false:=by rw[ae8];exact oE (by have:((0:Int):Rat)=0:=rfl;grind)
 have bu:=o4 mb;have kt:=asB l x;have f0:=OS JX;have oU:=auU how hV;have fX:=au3 l how x;have aR:=afp (D l);rw[<-fX] at aR;have wy:(64*D l<=140737488355328)=True:=eq_true (by omega);have AB:(D l<=maxLen)=True:=eq_true (by unfold maxLen;omega);generalize e4:aE x=aO at *;generalize af8:aE ((0:Int):Rat)=xc at *;obtain⟨⟨c5,dK⟩,⟨fl,fP⟩⟩:=aO;obtain⟨⟨gD,iC⟩,⟨ux,AX⟩⟩:=xc;simp only[aK] at f0 OI;simp only[go_sem,go_sem_proc,gE,fp,qT,vT,k1,ow,kf,aK,avh,bu.1,bu.2,f0,OI,Xg,how,wy,AB,aR,al,cR,dc];refine dG [1,6,7] [249002] (λ(k:Nat) tm m=>k<=10/\tm 37=.I (.int .i64 k)/\m 249007=some (0,(aK (aE (gI l x k))).map .I)/\m 249035=some (0,k9 p4 (bq (D l) λj=>kG l x k 0 j))) (λk=>10-k) 0 (by refine⟨by omega,rfl,by rw[oU,e4];rfl,rfl⟩) ?_;intro vs ms aV aS;simp only[go_sem,go_sem_proc,gE,fp,qT,vT,k1,ow,kf,aK,al] at aV aS;subst aV aS;rintro k tm m J hm ⟨aDD,mT,kd,nx⟩;simp only[go_sem,go_sem_proc,gE,fp,qT,vT,k1,ow,kf,bf] at J hm;obtain⟨aA,bL,b1⟩:=J;rcases dX (k<10) with ao|cf
 ·have d1:decide ((k:Int)<10)=true:=dn;have cl:=gu (i:=k) (by omega);simp only[go_sem,go_sem_proc,gE,fp,qT,vT,k1,ow,kf,aA,bL,b1,mT,hm,d1,al];refine au1 T l how k (.I (.ae (l.map bE))) (.ref 249035 0 4 0 (D l)) (.ptr 249007 0 0) (.I (.int .i64 k)) _ (some (0,(aK (aE (gI l x k))).map .I)) (some (0,k9 p4 (bq (D l) λj=>kG l x k 0 j))) _ _ ?_ ?_ ?_ ?_ ?_ ?_ ?_ ?_ ?_ hm kd nx ?_
  all_goals first|(intro tm' m' cF hW ht hr l3 ahx gF pg ahy)|(simp only[eL,dA,if_false,if_true,aA,bL,b1,mT];done)
  have au8:=how.W9 k;have Gk:dz (gn l k):=qN (by omega) (by omega);have CW:=OS Gk;have A0:=ahr mr k;have Ak:=mc A0 (by omega);have OV:eB 54 ((gn l k:Int):Rat):=FK (by omega);have kT:=JV Ak (rM Gk);have z6:decide (ni (gI l x k) ((gn l k:Int):Rat)>=0)=decide (((gn l k:Int):Rat)<=gI l x k):=afa;have kV:=NX Ak (rM Gk) (AJ A0 (FB OV) (by omega));have ahz:=λ(K:er->a2->Prop) (kk:List fU) bz kj v1 CU cd tm m=>au6 T qT k1 ow (K:=K) (kk:=kk) l x mr k bz kj v1 CU cd tm m;have VA:((gn l k:Int):Rat)<=gI l x k->aE (gI l x (k+1))=aE (gI l x k-((gn l k:Int):Rat)):=λh=>by rw[auV how h]
  have jt:¬ ((gn l k:Int):Rat)<=gI l x k->aE (gI l x (k+1))=((gD,iC),(ux,AX)):=λh=>by rw[auW h,<-af8];rfl
  generalize aE (gI l x k-((gn l k:Int):Rat))=G1 at *;generalize aDE:aE (gI l x k)=G2 at *;generalize aE ((gn l k:Int):Rat)=G3 at *;generalize Xd:aE (gI l x (k+1))=G4 at *;obtain⟨⟨cG,cO⟩,⟨h1,k2⟩⟩:=G1;obtain⟨⟨E,H⟩,⟨ab,aM⟩⟩:=G2;obtain⟨⟨i1,i2⟩,⟨i3,i4⟩⟩:=G3;simp only[aK,eY,cg] at CW kT kV pg;simp only[go_sem,go_sem_proc,gE,fp,qT,vT,k1,ow,kf,cF,hW,ht,hr,l3,ahx,gF,pg,ahy,CW,kT,z6,al];refine ahz _ _ 0 0 (.I (.ae (l.map bE))) (.I (.int .i64 k)) _ _ _ ?_ ?_ ?_ ?_ ?_ ?_ ?_ ?_ ?_ ?_ gF ?_ ahy ?_
  all_goals first|(intro Ke bY Ko Ar OW OX Gl OY ei vU OZ)|(simp only[eL,dA,if_false,if_true,cF,hW,ht,hr,l3,ahx];done)|(rw[pg];rfl)
  simp only[aK,eY,cg] at vU;clear ahz;rcases q:decide (((gn l k:Int):Rat)<=gI l x k)
  ·have he:=jt (of_decide_eq_false q);rw[q] at Gl;simp only[go_sem,go_sem_proc,gE,fp,qT,vT,k1,ow,kf,Ko,Ar,OW,OX,Gl,OY,ei,vU,OZ,f0,cl,dc,cR];repeat' (first|refine av ?_ ?_|fail)<;>intro h<;>simp only[h,go_sem,go_sem_proc,gE,fp,qT,vT,k1,ow,kf,Ko,Ar,OW,OX,Gl,OY,ei,vU,OZ,f0,cl,dc,cR]
   exact⟨k+1,by omega,by omega,rfl,by rw[Xd,he];rfl,rfl⟩
  ·have he:=VA (of_decide_eq_true q);rw[q] at Gl;simp only[go_sem,go_sem_proc,gE,fp,qT,vT,k1,ow,kf,Ko,Ar,OW,OX,Gl,OY,ei,vU,OZ,CW,kV,cl,bne,beq_self_eq_true,dc,cR];repeat' (first|refine av ?_ ?_|fail)<;>intro h<;>simp only[h,go_sem,go_sem_proc,gE,fp,qT,vT,k1,ow,kf,Ko,Ar,OW,OX,Gl,OY,ei,vU,OZ,CW,kV,cl,bne,beq_self_eq_true,dc,cR]
   exact⟨k+1,by omega,by omega,rfl,by rw[Xd,he];rfl,rfl⟩
 ·have d1:decide ((k:Int)<10)=false:=dr;obtain rfl:k=10:=by omega
  rw[au5 l how x,kt,afr] at nx;have lM:=λ(K:a2->Prop) (st:a2)=>lV (K:=K) (st:=st) mG 6 249035 0 (l.map λc=>aE (gk l x c));rw[al] at lM;simp only[go_sem,go_sem_proc,gE,fp,qT,vT,k1,ow,kf,aA,bL,b1,mT,hm,d1,nx,lM,al];repeat' (first|refine av ?_ ?_|fail)<;>intro h<;>simp only[h,go_sem,go_sem_proc,gE,fp,qT,vT,k1,ow,kf,aA,bL,b1,mT,hm,d1,nx,lM,al]
theorem O0 {fq gz n:Nat}(key:Nat->Nat)(sy:Nat->M)(O1:∀i,i<n->key i≠fq)(Hl:∀i j,i<n->j<n->key i=key j->i=j):∀r d (q:Nat->M) (m:Mem),d+r=n->m fq=some (gz,bq n q)->(∀i,i<d->q i=sy i) ->
  (∀i,d<=i->i<n->q i=sy i\/∃g sz len cs x,q i=.ref (key i) g sz 0 len/\m (key i)=some (g,cs)/\(∀bY:Mem,bY (key i)=some (g,cs)->cZ 1 bY (.ref (key i) g sz 0 len)=some x)/\sy i=.I x) ->
  ∃m',rW m m'/\m' fq=some (gz,bq n sy)/\∀k:Nat,k≠fq->(∀i,i<n->k≠key i)->m' k=m k
 |0,d,q,m,X,E,H,_=>⟨m,.refl m,by rw[E,jR λi L=>H i (by omega)],λ_ _ _=>rfl⟩
 |r+1,d,q,m,X,E,H,ab=>by
  rcases ab d (bM _) (by omega) with he|⟨g,sz,len,cs,x,aA,ay,cV,da⟩
  ·obtain⟨m',cF,dk,dN⟩:=O0 key sy O1 Hl r (d+1) q m (by omega) E (λi L=>by
    by_cases jX:i=d
    ·rw[jX];exact he
    ·exact H i (by omega)) λi L b9=>ab i (by omega) b9
   exact⟨m',cF,dk,dN⟩
  ·have kS:d<n:=by omega
   have iN:(bq n q)[d]?=some (.ref (key d) g sz 0 len):=by rw[ig q kS,aA]
   have r7:=qZ.KU fq gz _ d (key d) g sz 0 len cs x E iN ay (O1 d kS) (cV m ay);have kq:a3 (kill m (key d)) fq gz ((bq n q).set d (.I x)) fq=some (gz,bq n λj=>if j=d then .I x else q j):=by rw[kl,y9]
   obtain⟨m',cF,dk,dN⟩:=O0 key sy O1 Hl r (d+1) (λj=>if j=d then .I x else q j) _ (by omega) kq (λi L=>by
    by_cases jX:i=d
    ·rw[Z jX,jX,da]
    ·rw[aa jX];exact H i (by omega)) λi L b9=>by
     rw[aa (by omega)];rcases ab i (by omega) b9 with he|⟨df,dU,YA,nA,iH,f1,f2,f3,f4⟩
     ·exact .inl he
     ·refine .inr ⟨df,dU,YA,nA,iH,f1,?_,f3,f4⟩;rw[c8 (O1 i b9)];unfold kill;rw[c8 λaQ=>by have:=Hl i d b9 kS aQ;omega]
      exact f2
   refine⟨m',.step r7 cF,dk,λk J sb=>?_⟩;rw[dN k J sb,c8 J];unfold kill;rw[c8 (sb d kS)]
def fM (l:List ar)(i:Nat):List Nat:=(dQ (D l)).filter λj=>(l.getD j ih).1==(i:Int)
theorem Xh (l:List ar)(c:ar)(i:Nat):fM (l++[c]) i=if c.1=(i:Int) then fM l i++[D l] else fM l i:=by
 unfold fM;have aA:(l++[c]).getD (D l) ih=c:=by rw[ea,q4 (bM _),kL];rfl
 have ay:(dQ (D l)).filter (λj=>((l++[c]).getD j ih).1==(i:Int))=(dQ (D l)).filter λj=>(l.getD j ih).1==(i:Int):=List.filter_congr λj ag=>by
  rw[ea,q3 (hn.1 ag),<-ea]
 rw[hj,yP,pd,y6,ay]
 by_cases h:c.1=(i:Int)
 ·rw[Z h,xv (by rw[aA];simpa using h),s6]
 ·rw[aa h,xw (by rw[aA];simpa using h),s6,hO]
theorem Xi {l:List ar}{i j:Nat}:j∈fM l i↔j<D l/\(l.getD j ih).1=(i:Int):=by
 unfold fM;rw[Fw,hn,beq_iff_eq]
theorem Xj (l:List ar)(c:ar)(i:Nat):eO (l++[c]) i=if c.1=(i:Int) then eO l i++[c] else eO l i:=by
 unfold eO;rw[y6]
 by_cases h:c.1=(i:Int)
 ·rw[Z h,xv (by simpa using h),s6]
 ·rw[aa h,xw (by simpa using h),s6,hO]
theorem ahA (l:List ar)(i:Nat):eO l i=(fM l i).map λj=>l.getD j ih:=by
 have:∀n (l:List ar),D l=n->eO l i=(fM l i).map λj=>l.getD j ih:=by
  intro n
  induction n with
  |zero =>
   intro l aq;have:l=[]:=A1.1 aq;subst this;rfl
  |succ n aw =>
   intro l aq;rcases List.eq_nil_or_concat l with ai|⟨fw,c,rfl⟩
   ·subst ai;cases aq
   ·rw[List.concat_eq_append] at *;simp only[hj,yP] at aq;have aA:(fw++[c]).getD (D fw) ih=c:=by rw[ea,q4 (bM _),kL];rfl
    have ay:(fM fw i).map (λj=>(fw++[c]).getD j ih)=(fM fw i).map λj=>fw.getD j ih:=m5 λj ag=>by
     rw[ea,q3 (Xi.1 ag).1,<-ea]
    rw[Xj,Xh]
    by_cases h:c.1=(i:Int)
    ·rw[Z h,Z h,k0,ay,aw fw (by omega)];show _=_++[(fw++[c]).getD (D fw) ih];rw[aA]
    ·rw[aa h,aa h,ay,aw fw (by omega)]
 exact this _ l rfl
theorem O2 (l:List ar)(i:Nat):(fM l i).length=(eO l i).length:=by rw[ahA,al]
theorem avi (l:List ar)(i:Nat):(fM l i).length<=D l:=by
 unfold fM;exact ey (rK _ _) (by rw[q9];exact bM _)
def kN (l:List ar)(gc:Nat->Nat)(i:Nat):M:=if eO l i=[] then .nil else .ref (233600+i) (gc i) 4 0 (eO l i).length
def pp (l:List ar)(gj:Nat->Nat)(i:Nat):M:=if eO l i=[] then .nil else .ref (233700+i) (gj i) 1 0 (eO l i).length
structure Gm (n:Nat) (l:List ar) (gc gj:Nat->Nat) (m:Mem):Prop where
 eT:m 233019=some (0,bq n (kN l gc))
 ei:m 233022=some (0,bq n (pp l gj))
 cF:∀i,i<n->eO l i≠[]->m (233600+i)=some (gc i,aY bE (eO l i))
 dk:∀i,i<n->eO l i≠[]->m (233700+i)=some (gj i,aY hX (fM l i))
theorem Gm.next {n:Nat}{l:List ar}{gc gj:Nat->Nat}{m m':Mem}(h:Gm n l gc gj m)(aG:n<=6){aH:Nat}{c2 c3 c4:Int}(cG cO:Nat)
  (E:m' 233019=some (0,bq n λi=>if i=aH then .ref (233600+aH) cG 4 0 ((eO l aH).length+1) else kN l gc i)) (H:m' 233022=some (0,bq n λi=>if i=aH then .ref (233700+aH) cO 1 0 ((eO l aH).length+1) else pp l gj i))
  (ab:m' (233600+aH)=some (cG,aY bE (eO l aH++[((aH:Int),c2,c3,c4)]))) (aM:m' (233700+aH)=some (cO,aY hX (fM l aH++[D l])))
  (bu:∀i,i<n->i≠aH->m' (233600+i)=m (233600+i)/\m' (233700+i)=m (233700+i)):Gm n (l++[((aH:Int),c2,c3,c4)]) (λi=>if i=aH then cG else gc i) (λi=>if i=aH then cO else gj i) m':=by
 have O3:∀i:Nat,i≠aH->eO (l++[((aH:Int),c2,c3,c4)]) i=eO l i:=λi L=>by rw[Xj,aa (by show ¬ ((aH:Int)=(i:Int));omega)]
 have L5:∀i:Nat,i≠aH->fM (l++[((aH:Int),c2,c3,c4)]) i=fM l i:=λi L=>by rw[Xh,aa (by show ¬ ((aH:Int)=(i:Int));omega)]
 have so:eO (l++[((aH:Int),c2,c3,c4)]) aH=eO l aH++[((aH:Int),c2,c3,c4)]:=by rw[Xj,Z rfl]
 have sp:fM (l++[((aH:Int),c2,c3,c4)]) aH=fM l aH++[D l]:=by rw[Xh,Z rfl]
 refine⟨?_,?_,λi L bP=>?_,λi L bP=>?_⟩
 ·rw[E]
  congr 2
  refine jR λi L=>?_;unfold kN
  by_cases G:i=aH
  ·subst G;rw[so,Z rfl,aa (by simp),hj];dsimp only;rw[Z rfl];rfl
  ·rw[O3 i G,aa G];dsimp only;rw[aa G]
 ·rw[H]
  congr 2
  refine jR λi L=>?_;unfold pp
  by_cases G:i=aH
  ·subst G;rw[so,Z rfl,aa (by simp),hj];dsimp only;rw[Z rfl];rfl
  ·rw[O3 i G,aa G];dsimp only;rw[aa G]
 ·by_cases G:i=aH
  ·subst G;rw[Z rfl,so];exact ab
  ·rw[O3 i G] at bP ⊢;rw[aa G,(bu i L G).1];exact h.cF i L bP
 ·by_cases G:i=aH
  ·subst G;rw[Z rfl,sp];exact aM
  ·rw[O3 i G] at bP;rw[L5 i G,aa G,(bu i L G).2];exact h.dk i L bP
structure A2 (cs:List ar) (h:List Rat):Prop where
 len:(D cs)<=12
 n:(D h)<=6
 c:∀c∈cs,0<=c.1/\c.1<(D h) /\ -1<=c.2.1/\c.2.1<60/\0<=c.2.2.1/\c.2.2.1<10/\0<=c.2.2.2/\c.2.2.2<=1000000000000000
 x:∀x∈h,0<=x/\eB 460 x
theorem avj {K:a2->Prop}{tm:Nat->M}{mem Hf mem':Mem}(h:qZ mem Hf)(H:qZ Hf mem')(dp:∀a5,a5=mem'->K ⟨tm,a5⟩):kp K ⟨tm,mem⟩ .many:=⟨mem',.step h (.step H (.refl _)),dp _ rfl⟩
theorem avk (T:bk){K:er->a2->Prop}{kk:List fU}(cs:List ar)(h:List Rat)(aC:A2 cs h)(v1:M)(tm:Nat->M)(m:Mem)
  (cw:tm 0=.I (.ae (cs.map bE))) (aA:tm 1=v1) (bL:tm 6=.ref 233019 0 1 0 (D h)) (b1:tm 7=.ref 233022 0 1 0 (D h)) (vV:tm 23=.I (.ae (cs.map bE))) (rT:tm 24=.I (.int .i64 (D cs))) (iR:tm 25=.I (.int .i64 0)) (ik:m 233057=none) (gc gj:Nat->Nat) (bJ:Gm (D h) [] gc gj m)
  (dp:∀tm' m' Hg N0,tm' 0=.I (.ae (cs.map bE))->tm' 1=v1->tm' 6=.ref 233019 0 1 0 (D h)->tm' 7=.ref 233022 0 1 0 (D h)->m' 233057=none->Gm (D h) cs Hg N0 m'->b7 T K kk (.exit 0) ⟨tm',m'⟩) :
  wp T (Cg.body.sub [1,1,1,0,1,0]) (b7 T K kk) ⟨tm,m⟩:=by
 simp only[Cg,dY.sub];have aG:=aC.n;have hS:=aC.len;refine dG [0,1,6,7,23,24] [233057] (λ((t,gc,gj):Nat×(Nat->Nat)×(Nat->Nat)) tm m=>t<=D cs/\tm 25=.I (.int .i64 t)/\Gm (D h) (cs.take t) gc gj m) (λ(t,_)=>D cs-t) (0,gc,gj) (by refine⟨by omega,iR,by rw[nK];exact bJ⟩) ?_;intro vs ms aV aS;simp only[go_sem,go_sem_proc,cw,aA,bL,b1,vV,rT,ik] at aV aS;subst aV aS;clear cw aA bL b1 vV rT iR ik bJ tm m;rintro⟨t,gc,gj⟩ tm m J ik ⟨bI,iR,bJ⟩;simp only[go_sem,go_sem_proc,bf] at J ik;obtain⟨cw,aA,bL,b1,vV,rT⟩:=J;rcases dX (t<D cs) with ao|cf
 ·have d1:decide ((t:Int)<(D cs:Int))=true:=dn;have cl:=gu (i:=t) (by omega);obtain⟨⟨aH,c2,c3,c4⟩,O⟩:∃c,cs[t]?=some c:=⟨_,bx ao⟩;have mo:=aC.c _ (eU O);dsimp only at mo;obtain⟨aH,rfl⟩:∃k:Nat,aH=(k:Int):=⟨aH.toNat,by omega⟩
  have l1:cs.take (t+1)=cs.take t++[((aH:Int),c2,c3,c4)]:=by rw[lA,O];rfl
  have ug:(cs.take t).length=t:=by rw[g7];omega
  generalize aq:cs.take t=l at *;have gq:aH<D h:=by omega
  have eT:=bJ.eT;have ei:=bJ.ei;have cG:=uy (ig (kN l gc) gq);have cO:=uy (ig (pp l gj) gq);have iv:(bq (D h) (kN l gc)).length=D h:=gl _ _;have jr:(bq (D h) (pp l gj)).length=D h:=gl _ _;have s1:=λv=>(OB (l:=bq (D h) (kN l gc)) (k:=aH) (v:=v) (by rw[gl];exact gq)).trans (y9 (kN l gc) v);have s2:=λv=>(OB (l:=bq (D h) (pp l gj)) (k:=aH) (v:=v) (by rw[gl];exact gq)).trans (y9 (pp l gj) v);have eE:aH+1<=D h:=by omega
  have lS:(1<=maxLen)=True:=eq_true (by decide);have Lb:(eO l aH).length<=12:=ey (rK _ _) (by omega);have nD:=O2 l aH;have O4:∀i,i<(D h)->233600+i≠233009/\233600+i≠233019/\233600+i≠233022/\233600+i≠233043/\233600+i≠233051/\233600+i≠233700+aH/\233600+i≠233057:=λi L=>by omega
  have O5:∀i,i<(D h)->233700+i≠233009/\233700+i≠233019/\233700+i≠233022/\233700+i≠233043/\233700+i≠233051/\233700+i≠233600+aH/\233700+i≠233057:=λi L=>by omega
  by_cases hc:eO l aH=[]
  ·have Xk:kN l gc aH=.nil:=by unfold kN;rw[Z hc]
   have Xl:pp l gj aH=.nil:=by unfold pp;rw[Z hc]
   have CO:fM l aH=[]:=A1.1 (by rw[nD,hc];rfl);rw[Xk] at cG;rw[Xl] at cO;simp only[go_sem,go_sem_proc,lS,cw,aA,bL,b1,vV,rT,iR,O,eT,ei,cG,cO,iv,jr,s1,s2,d1,eE,gq,bE,cI,al,bd];obtain⟨f11,f12,f13,f14,f15,f16,f17⟩:=O4 aH gq;obtain⟨f21,f22,f23,f24,f25,f26,f27⟩:=O5 aH gq
   refine avj (qZ.KT 233019 0 _ aH 233043 (gf (m 233043)) 4 0 1 _ (233600+aH) ((c8 (by decide)).trans kl) ((ig _ gq).trans (by rw[Z rfl])) ((c8 (by decide)).trans ((c8 (by decide)).trans ((c8 (by decide)).trans kl))) (by decide) f14 f12)
    (qZ.KT 233022 0 _ aH 233051 (gf (m 233051)) 1 0 1 _ (233700+aH) ((c8 (by decide)).trans ((c8 (Ne.symm f13)).trans ((c8 (by decide)).trans kl))) ((ig _ gq).trans (by rw[Z rfl])) ((c8 (by decide)).trans ((c8 (Ne.symm f15)).trans ((c8 (by decide)).trans ((c8 (by decide)).trans ((c8 (by decide)).trans kl))))) (by decide) f25 f23) ?_
   intro M2 gC
   have mS:∀k:Nat,k≠233009->k≠233019->k≠233022->k≠233043->k≠233051->k≠233600+aH->k≠233700+aH->M2 k=m k:=λk ix u7 ri ahB ahC avl avm=>by
    rw[gC,c8 ri,c8 avm,c8 ahC,c8 u7,c8 avl,c8 ahB,c8 ri,c8 u7,c8 ahC,c8 ahB,c8 ix,c8 ix]
   obtain⟨O6,vx,CB⟩:∃O6,M2 233019=some (0,bq (D h) λi=>if i=aH then .ref (233600+aH) O6 4 0 ((eO l aH).length+1) else kN l gc i)/\M2 (233600+aH)=some (O6,aY bE (eO l aH++[((aH:Int),c2,c3,c4)])):=by
    rw[hc];apply Exists.intro;apply And.intro
    rotate_left
    ·rw[gC,c8 f13,c8 f16,c8 f15,c8 f12,kl];rfl
    ·rw[gC,c8 (by decide),c8 (Ne.symm f22),c8 (by decide),kl,y9]
     congr 2
     refine jR λi _=>?_
     by_cases L:i=aH
     ·rw[Z L,Z L];rfl
     ·rw[aa L,aa L,aa L]
   obtain⟨O7,Kp,CN⟩:∃O7,M2 233022=some (0,bq (D h) λi=>if i=aH then .ref (233700+aH) O7 1 0 ((eO l aH).length+1) else pp l gj i)/\M2 (233700+aH)=some (O7,aY hX (fM l aH++[D l])):=by
    rw[hc,CO,ug];apply Exists.intro;apply And.intro
    rotate_left
    ·rw[gC,c8 f23,kl];rfl
    ·rw[gC,kl,y9]
     congr 2
     refine jR λi _=>?_
     by_cases L:i=aH
     ·rw[Z L,Z L];rfl
     ·rw[aa L,aa L,aa L]
   have h2:=bJ.next (m':=M2) aG O6 O7 vx Kp CB CN λi L bP=>⟨by
    obtain⟨c5,dK,fl,fP,nX,rL,-⟩:=O4 i L;exact mS _ c5 dK fl fP nX (by omega) rL,by
    obtain⟨c5,dK,fl,fP,nX,rL,-⟩:=O5 i L;exact mS _ c5 dK fl fP nX rL (by omega)⟩
   have Kq:M2 233057=none:=(mS 233057 (by decide) (by decide) (by decide) (by decide) (by decide) (Ne.symm f17) (Ne.symm f27)).trans ik;clear gC mS vx CB Kp CN;simp only[go_sem,go_sem_proc,cw,aA,bL,b1,vV,rT,iR,cl,Kq];repeat' (first|refine av ?_ ?_|fail)<;>intro h<;>simp only[h,go_sem,go_sem_proc,cw,aA,bL,b1,vV,rT,iR,cl,Kq]
   exact⟨(t+1,_,_),by dsimp only;omega,by dsimp only;omega,rfl,by rw[l1];exact h2⟩
  ·have Xk:kN l gc aH=.ref (233600+aH) (gc aH) 4 0 (eO l aH).length:=by unfold kN;rw[aa hc]
   have Xl:pp l gj aH=.ref (233700+aH) (gj aH) 1 0 (fM l aH).length:=by unfold pp;rw[aa hc,nD]
   rw[Xk] at cG;rw[Xl] at cO;have cF:=bJ.cF aH gq hc;have dk:=bJ.dk aH gq hc;have QA:=mw p3 VV (233600+aH) (gc aH) 32 (eO l aH) ((aH:Int),c2,c3,c4) (cs:=[.I (.int .i64 aH),.I (.int .i64 c2),.I (.int .i64 c3),.I (.int .i64 c4)]) rfl (by omega) (by omega);have DP:=mw xn acV (233700+aH) (gj aH) 8 (fM l aH) (D l) (cs:=[.I (.int .i64 t)]) (by rw[ug];rfl) (by omega) (by omega);obtain⟨f11,f12,f13,f14,f15,f16,f17⟩:=O4 aH gq;obtain⟨f21,f22,f23,f24,f25,f26,f27⟩:=O5 aH gq;have aDF:(233600+aH)=233600+aH:=rfl;generalize dh:233600+aH=A at *;generalize fh:233700+aH=B at *;have Kr:A≠B:=f16;have fE:(A==233009)=false:=beq_eq_false_iff_ne.2 f11;have avn:(233009==A)=false:=beq_eq_false_iff_ne.2 (Ne.symm f11);have gF:(A==233019)=false:=beq_eq_false_iff_ne.2 f12;have avo:(233019==A)=false:=beq_eq_false_iff_ne.2 (Ne.symm f12);have p1:(A==233022)=false:=beq_eq_false_iff_ne.2 f13;have avp:(233022==A)=false:=beq_eq_false_iff_ne.2 (Ne.symm f13);have lJ:(A==233043)=false:=beq_eq_false_iff_ne.2 f14;have avq:(233043==A)=false:=beq_eq_false_iff_ne.2 (Ne.symm f14);have avr:(A==233051)=false:=beq_eq_false_iff_ne.2 f15;have avs:(233051==A)=false:=beq_eq_false_iff_ne.2 (Ne.symm f15);have Au:(A==B)=false:=beq_eq_false_iff_ne.2 Kr;have avt:(B==A)=false:=beq_eq_false_iff_ne.2 (Ne.symm Kr);have nI:(B==233009)=false:=beq_eq_false_iff_ne.2 f21;have avu:(233009==B)=false:=beq_eq_false_iff_ne.2 (Ne.symm f21);have nJ:(B==233019)=false:=beq_eq_false_iff_ne.2 f22;have avv:(233019==B)=false:=beq_eq_false_iff_ne.2 (Ne.symm f22);have pS:(B==233022)=false:=beq_eq_false_iff_ne.2 f23;have avw:(233022==B)=false:=beq_eq_false_iff_ne.2 (Ne.symm f23);have sP:(B==233043)=false:=beq_eq_false_iff_ne.2 f24;have avx:(233043==B)=false:=beq_eq_false_iff_ne.2 (Ne.symm f24);have uD:(B==233051)=false:=beq_eq_false_iff_ne.2 f25;have avy:(233051==B)=false:=beq_eq_false_iff_ne.2 (Ne.symm f25);have bh:(A=233009)=False:=eq_false f11;have cd:(B=233009)=False:=eq_false f21;have c7:(B=A)=False:=eq_false (Ne.symm Kr);have eZ:(233019=A)=False:=eq_false (Ne.symm f12);have ij:(233019=B)=False:=eq_false (Ne.symm f22);have ph:(233022=A)=False:=eq_false (Ne.symm f13);have nw:(233022=B)=False:=eq_false (Ne.symm f23);have Xm:(233009=A)=False:=eq_false (Ne.symm f11);have avz:(233009=B)=False:=eq_false (Ne.symm f21);have avA:(A=B)=False:=eq_false Kr;simp only[go_sem,go_sem_proc,lS,cw,aA,bL,b1,vV,rT,iR,O,eT,ei,cG,cO,iv,jr,s1,s2,d1,eE,gq,cF,dk,QA,DP,fE,avn,gF,avo,p1,avp,lJ,avq,avr,avs,Au,avt,nI,avu,nJ,avv,pS,avw,sP,avx,uD,avy,bh,cd,c7,eZ,ij,ph,nw,Xm,avz,avA,bE,cI,al,bd];refine WE ?_;intro M2 gC
   have mS:∀k:Nat,k≠233009->k≠233019->k≠233022->k≠A->k≠B->M2 k=m k:=λk ix u7 ri dh fh=>by
    rw[gC,c8 ri,c8 u7,c8 fh,c8 dh,c8 ix,c8 ix]
   have vx:M2 233019=some (0,bq (D h) λi=>if i=aH then .ref A (gc aH+1) 4 0 ((eO l aH).length+1) else kN l gc i):=by
    rw[gC,c8 (by decide),kl]
   have CB:M2 A=some (gc aH+1,aY bE (eO l aH++[((aH:Int),c2,c3,c4)])):=by
    rw[gC,c8 f13,c8 f12,c8 Kr,kl]
   have Kp:M2 233022=some (0,bq (D h) λi=>if i=aH then .ref B (gj aH+1) 1 0 ((eO l aH).length+1) else pp l gj i):=by
    rw[gC,kl,nD]
   have CN:M2 B=some (gj aH+1,aY hX (fM l aH++[D l])):=by
    rw[gC,c8 f23,c8 f22,kl]
   have h2:=bJ.next (m':=M2) aG (c2:=c2) (c3:=c3) (c4:=c4) (gc aH+1) (gj aH+1) (by rw[dh];exact vx) (by rw[fh];exact Kp) (by rw[dh];exact CB) (by rw[fh];exact CN) λi L bP=>⟨by
    obtain⟨c5,dK,fl,fP,nX,rL,-⟩:=O4 i L;exact mS _ c5 dK fl (by omega) rL,by
    obtain⟨c5,dK,fl,fP,nX,rL,-⟩:=O5 i L;exact mS _ c5 dK fl rL (by omega)⟩
   have Kq:M2 233057=none:=(mS 233057 (by decide) (by decide) (by decide) (Ne.symm f17) (Ne.symm f27)).trans ik;clear gC mS vx CB Kp CN;simp only[go_sem,go_sem_proc,cw,aA,bL,b1,vV,rT,iR,cl,Kq];repeat' (first|refine av ?_ ?_|fail)<;>intro h<;>simp only[h,go_sem,go_sem_proc,cw,aA,bL,b1,vV,rT,iR,cl,Kq]
   exact⟨(t+1,_,_),by dsimp only;omega,by dsimp only;omega,rfl,by rw[l1];exact h2⟩
 ·have d1:decide ((t:Int)<(D cs:Int))=false:=dr;rw[dE (by omega)] at bJ;simp only[go_sem,go_sem_proc,cw,aA,bL,b1,vV,rT,iR,d1];repeat' (first|refine av ?_ ?_|fail)<;>intro h<;>simp only[h,go_sem,go_sem_proc,cw,aA,bL,b1,vV,rT,iR,d1]
  refine dp _ _ gc gj ?_ ?_ ?_ ?_ ik bJ<;>simp only[eL,dA,if_false,cw,aA,bL,b1]
def xD (l:List Nat):M:=if l=[] then .nil else .I (.ae (l.map hX))
theorem avB (l:List Nat):pq (xD l)=some (D l):=by
 unfold xD
 split
 ·rename_i h;rw[h];rfl
 ·simp[pq]
theorem avC {l:List Nat}{n y:Nat}(h:l[n]?=some y):xO 1 n (xD l)=some (.I (.ptr (hX y))):=by
 unfold xD
 split
 ·rename_i aq;rw[aq] at h;cases h
 ·simp only[xO,bd,h,iW]
  rfl
theorem avD (l:List ar)(n:Nat)(m:Mem):cZ n m (jl l)=some (.ae (l.map bE)):=by
 unfold jl
 split
 ·rename_i h;rw[h];exact ald n
 ·exact Ly n _
def Gn (cs:List ar)(h:List Rat)(j:Nat):bS:=aE (gk cs (h.getD (cs.getD j ih).1.toNat 0) (cs.getD j ih))
def pj (cs:List ar)(h:List Rat)(i t j:Nat):Option bS:=if (cs.getD j ih).1<(i:Int)\/((cs.getD j ih).1=(i:Int)/\j∈(fM cs i).take t) then some (Gn cs h j) else none
theorem avE (cs:List ar)(h:List Rat)(i:Nat):(bq (D cs) λj=>pj cs h i (fM cs i).length j)=bq (D cs) λj=>pj cs h (i+1) 0 j:=jR λj ag=>by
 unfold pj;rw[om,nK];have hm:=Xi (l:=cs) (i:=i) (j:=j)
 by_cases E:(cs.getD j ih).1<(i:Int)
 ·rw[Z (.inl E),Z (.inl (by omega))]
 ·by_cases H:(cs.getD j ih).1=(i:Int)
  ·rw[Z (.inr ⟨H,hm.2 ⟨ag,H⟩⟩),Z (.inl (by omega))]
  ·rw[aa (λaQ=>aQ.elim E λx=>H x.1),aa (λaQ=>aQ.elim (by omega) λx=>by simpa using x.2)]
theorem avF (cs:List ar)(h:List Rat)(aC:A2 cs h):(bq (D cs) λj=>pj cs h 0 0 j)=bq (D cs) λ_=>none:=jR λj ag=>by
 have:=(aC.c _ (eU (bx ag))).1;have e:cs.getD j ih=cs[j]:=by rw[ea,bx ag];rfl
 unfold pj;rw[e,nK,aa (λaQ=>aQ.elim (by omega) λx=>by simpa using x.2)]
theorem avG (cs:List ar)(h:List Rat)(aC:A2 cs h):(bq (D cs) λj=>pj cs h (D h) 0 j)=(cs.map λc=>aE (gk cs (h.getD c.1.toNat 0) c)).map some:=by
 refine (V8 (by simp) λj ag=>?_).symm;have:=(aC.c _ (eU (bx ag))).2.1;have e:cs.getD j ih=cs[j]:=by rw[ea,bx ag];rfl
 unfold pj;rw[bd,bd,bx ag,e,Z (.inl this)];unfold Gn;rw[e];rfl
theorem avH (T:bk){K:er->a2->Prop}{kk:List fU}(cs:List ar)(h:List Rat)(aC:A2 cs h)(i:Nat)(L:i<D h)(v1 qQ ahD ahE ahF:M)(ahG ahH:Option (Nat×List M))(tm:Nat->M)(m:Mem)
  (aA:tm 1=v1) (b1:tm 7=qQ) (fL:tm 10=.ref 233057 0 4 0 (D cs)) (iE:tm 13=.I (.ae (((eO cs i).map λc=>aE (gk cs (h.getD i 0) c)).map aK))) (te:tm 58=ahD) (nt:tm 59=ahE) (jC:tm 60=ahF) (CX:tm 79=xD (fM cs i)) (CY:tm 80=.I (.int .i64 (fM cs i).length)) (CZ:tm 81=.I (.int .i64 0)) (zf:m 233019=ahG) (zg:m 233022=ahH) (ik:m 233057=some (0,k9 p4 (bq (D cs) λj=>pj cs h i 0 j)))
  (dp:∀tm' m',tm' 1=v1->tm' 7=qQ->tm' 10=.ref 233057 0 4 0 (D cs)->tm' 58=ahD->tm' 59=ahE->tm' 60=ahF->m' 233019=ahG->m' 233022=ahH->m' 233057=some (0,k9 p4 (bq (D cs) λj=>pj cs h (i+1) 0 j))->b7 T K kk (.exit 4) ⟨tm',m'⟩) :
  wp T (Cg.body.sub [1,1,1,1,1,0,1,0,0,1,1,0,0,1,1,1,1,0]) (b7 T K kk) ⟨tm,m⟩:=by
 simp only[Cg,dY.sub];have hS:=aC.len;have nD:=avi cs i;refine dG [1,7,10,13,58,59,60,79,80] [233019,233022] (λ(k:Nat) tm m=>k<=(fM cs i).length/\tm 81=.I (.int .i64 k)/\m 233057=some (0,k9 p4 (bq (D cs) λj=>pj cs h i k j))) (λk=>(fM cs i).length-k) 0 (by refine⟨by omega,CZ,ik⟩) ?_;intro vs ms aV aS;simp only[go_sem,go_sem_proc,aA,b1,fL,iE,te,nt,jC,CX,CY,zf,zg] at aV aS;subst aV aS;clear aA b1 fL iE te nt jC CX CY CZ zf zg ik tm m;rintro k tm m J hm ⟨yT,CZ,ik⟩;simp only[go_sem,go_sem_proc,bf] at J hm;obtain⟨aA,b1,fL,iE,te,nt,jC,CX,CY⟩:=J;obtain⟨zf,zg⟩:=hm;rcases dX (k<(fM cs i).length) with ao|cf
 ·have d1:decide ((k:Int)<((fM cs i).length:Int))=true:=dn;have cl:=gu (i:=k) (by omega);obtain⟨y,ak⟩:∃y,(fM cs i)[k]?=some y:=⟨_,bx ao⟩;obtain⟨zv,ahI⟩:=Xi.1 (eU ak);have rA:=avC ak;simp only[go_sem,go_sem_proc,cI] at rA
  have ahJ:((eO cs i).map λc=>aE (gk cs (h.getD i 0) c))[k]?=some (Gn cs h y):=by
   rw[ahA,bd,bd,ak];unfold Gn;rw[ahI,gZ];rfl
  have Kn:=V9 (q:=λj=>pj cs h i k j) zv;have o8:=λa b c d=>Wa (q:=λj=>pj cs h i k j) zv a b c d
  have fV:∀aO:bS,aO=Gn cs h y->(bq (D cs) λj=>if j=y then some aO else pj cs h i k j)=bq (D cs) λj=>pj cs h i (k+1) j:=λaO e4=>jR λj _=>by
   have l1:(fM cs i).take (k+1)=(fM cs i).take k++[y]:=by rw[lA,ak];rfl
   by_cases ag:j=y
   ·subst ag;rw[Z rfl];unfold pj;rw[l1,Z (.inr ⟨ahI,by simp⟩),e4]
   ·rw[aa ag];unfold pj;rw[l1]
    by_cases E:(cs.getD j ih).1<(i:Int)\/((cs.getD j ih).1=(i:Int)/\j∈(fM cs i).take k)
    ·rw[Z E,Z (E.imp id λx=>⟨x.1,by simp[x.2]⟩)]
    ·rw[aa E,aa λaQ=>E (aQ.imp id λx=>⟨x.1,by simpa [ag] using x.2⟩)]
  have aG:=fV _ rfl;clear dp;generalize ((eO cs i).map λc=>aE (gk cs (h.getD i 0) c))=Ks at *;generalize Gn cs h y=aO at *;obtain⟨⟨c5,dK⟩,⟨fl,fP⟩⟩:=aO;have eA:=o8 c5 dK fl fP;rw[aG] at eA;simp only[go_sem,go_sem_proc,aA,b1,fL,iE,te,nt,jC,CX,CY,CZ,zf,zg,ik,d1,cl,rA,ahJ,Kn,eA,zv,hX,aK,cI,al,bd];repeat' (first|refine av ?_ ?_|fail)<;>intro h<;>simp only[h,go_sem,go_sem_proc,aA,b1,fL,iE,te,nt,jC,CX,CY,CZ,zf,zg,ik,d1,cl,rA,ahJ,Kn,eA,zv,hX,aK,cI,al,bd]
  exact⟨k+1,by omega,by omega,rfl,rfl⟩
 ·have d1:decide ((k:Int)<((fM cs i).length:Int))=false:=dr;obtain rfl:k=(fM cs i).length:=by omega
  rw[avE] at ik;simp only[go_sem,go_sem_proc,aA,b1,fL,iE,te,nt,jC,CX,CY,CZ,d1];repeat' (first|refine av ?_ ?_|fail)<;>intro h<;>simp only[h,go_sem,go_sem_proc,aA,b1,fL,iE,te,nt,jC,CX,CY,CZ,d1]
  refine dp _ _ ?_ ?_ ?_ ?_ ?_ ?_ zf zg ik<;>simp only[eL,dA,if_false,aA,b1,fL,te,nt,jC]
theorem avI (n:Nat):(ep n [M.nil]).flatten=bq n λ_ => .nil:=by
 induction n with
 |zero=>rfl
 |succ n aw=>rw[agL,Fj,aw,ahc];rfl
theorem avJ {a b:List Rat}(h:(a.map aE).map aK=(b.map aE).map aK):a=b:=map_inj (λ_ _ h=>MC h) _ _ (map_inj vl _ _ h)
abbrev Xn:(List ar)×(List Rat)->List Data:=λ(cs,h)=>[.ae (cs.map bE),.ae ((h.map aE).map aK)]
def O8:=cy Xn λ(cs,h)=>cW (A2 cs h) (.same (.cq [.ae ((cs.map λc=>aE (gk cs (h.getD c.1.toNat 0) c)).map aK),.bool true]))
theorem avK:∀a b,Xn a=Xn b->a=b:=by
  rintro⟨Kl,E⟩ ⟨wv,H⟩ h;simp only[bf,Data.ae.injEq,and_true] at h;exact eN (map_inj y7 _ _ h.1) (avJ h.2)
@[go_sem] theorem avL (cs:List ar)(h:List Rat)(G:A2 cs h):O8 [.ae (cs.map bE),.ae ((h.map aE).map aK)]=some (.same (.cq [.ae ((cs.map λc=>aE (gk cs (h.getD c.1.toNat 0) c)).map aK),.bool true])):=(cK avK (cs,h)).trans (c6 G _)
theorem avM (T:bk)(uE:T Rb=aX Xf)(cs:List ar)(h:List Rat)(G:A2 cs h):WP T Cg (.same (.cq [.ae ((cs.map λc=>aE (gk cs (h.getD c.1.toNat 0) c)).map aK),.bool true])) [.I (.ae (cs.map bE)),.I (.ae ((h.map aE).map aK))]:=by
 refine cH ?_;simp only[Cg];have aG:=G.n;have hS:=G.len;have Fk:(24*D h<=140737488355328)=True:=eq_true (by omega);have AB:(D h<=maxLen)=True:=eq_true (by unfold maxLen;omega);have avN:(64*D cs<=140737488355328)=True:=eq_true (by omega);have avO:(D cs<=maxLen)=True:=eq_true (by unfold maxLen;omega);have aR:=avI (D h);have ahK:=afp (D cs);rw[<-avF cs h G] at ahK;simp only[go_sem,go_sem_proc,uE,Fk,AB,aR,al];refine avk T cs h G (.I (.ae ((h.map aE).map aK))) _ _ ?_ ?_ ?_ ?_ ?_ ?_ ?_ ?_ (λ_=>0) (λ_=>0) ⟨?_,?_,λi L bP=>absurd rfl bP,λi L bP=>absurd rfl bP⟩ ?_
 all_goals first|(intro tm m gc gj e5 cF hW ht ik bJ)|(simp only[eL,dA,if_false,if_true];done)|(simp only[eL,dA,if_false,if_true];rfl)|(simp only[a3,dA,if_false,if_true];rfl)|skip
 obtain⟨dD,E,H,ab⟩:=O0 (λi=>233600+i) (λi=>jl (eO cs i)) (λi L=>by omega) (λi j _ _ he=>by omega) (D h) 0 (kN cs gc) m (by omega) bJ.eT (λi L=>by omega) λi _ L=>by
  by_cases hc:eO cs i=[]
  ·refine .inl ?_;unfold kN jl;rw[Z hc,Z hc]
  ·refine .inr ⟨gc i,4,(eO cs i).length,aY bE (eO cs i),.ae ((eO cs i).map bE),?_,bJ.cF i L hc,λbY oj=>pB (n:=0) p3 oj,?_⟩
   ·unfold kN;rw[aa hc]
   ·unfold jl;rw[aa hc]
 have ri:dD 233022=some (0,bq (D h) (pp cs gj)):=(ab 233022 (by decide) λi L=>by omega).trans bJ.ei;have ahL:dD 233057=none:=(ab 233057 (by decide) λi L=>by omega).trans ik
 obtain⟨bY,cG,cO,h1⟩:=O0 (λi=>233700+i) (λi=>xD (fM cs i)) (λi L=>by omega) (λi j _ _ he=>by omega) (D h) 0 (pp cs gj) dD (by omega) ri (λi L=>by omega) λi _ L=>by
  by_cases hc:eO cs i=[]
  ·refine .inl ?_;have CO:fM cs i=[]:=A1.1 (by rw[O2,hc];rfl);unfold pp xD;rw[Z hc,Z CO]
  ·have CO:fM cs i≠[]:=λaQ=>hc (A1.1 (by rw[<-O2,aQ];rfl));refine .inr ⟨gj i,1,(eO cs i).length,aY hX (fM cs i),.ae ((fM cs i).map hX),?_,?_,λbY oj=>by rw[<-O2];exact pB (n:=0) xn oj,?_⟩
   ·unfold pp;rw[aa hc]
   ·exact (ab (233700+i) (by omega) λj ag=>by omega).trans (bJ.dk i L hc)
   ·unfold xD;rw[aa CO]
 have Kt:bY 233019=some (0,bq (D h) λi=>jl (eO cs i)):=(h1 233019 (by decide) λi L=>by omega).trans H;have xE:bY 233057=none:=(h1 233057 (by decide) λi L=>by omega).trans ahL;simp only[go_sem,go_sem_proc,uE];refine ahb (E.trans cG) ?_;clear E H ab cG h1 ri ahL bJ ik;simp only[go_sem,go_sem_proc,uE,e5,cF,hW,ht,avN,avO,ahK,xE,al];refine dG [1,7,10,58,59] [233019,233022] (λ(i:Nat) tm m=>i<=D h/\tm 60=.I (.int .i64 i)/\m 233057=some (0,k9 p4 (bq (D cs) λj=>pj cs h i 0 j))) (λi=>D h-i) 0 (by refine⟨by omega,rfl,by simp[a3]⟩) ?_;intro vs ms aV aS;simp only[go_sem,go_sem_proc,uE,cF,ht,Kt,cO,al] at aV aS;subst aV aS;clear e5 cF hW ht Kt xE cO tm m dD bY;rintro i tm m J hm ⟨L,jC,ik⟩;simp only[go_sem,go_sem_proc,uE,bf] at J hm;obtain⟨aA,b1,fL,te,nt⟩:=J;obtain⟨zf,zg⟩:=hm;rcases dX (i<D h) with ao|cf
 ·have d1:decide ((i:Int)<(D h:Int))=true:=dn;have cl:=gu (i:=i) (by omega);obtain⟨x,O⟩:∃x,h[i]?=some x:=⟨_,bx ao⟩;have lI:h.getD i 0=x:=by rw[ea,O];rfl
  have hV:=G.x x (eU O)
  have uS:k8 (eO cs i):=⟨ey (rK _ _) hS,λc gr=>by
   have E:=G.c c (AU.1 gr).1;omega,λc gr c' avP=>by rw[(AU.1 gr).2,(AU.1 avP).2]⟩
  have e4:=avf x (eO cs i) ⟨uS,hV.1,hV.2⟩;rw[asJ,<-lI] at e4;rw[<-lI] at O;have eT:=uy (ig (λi=>jl (eO cs i)) ao);have ei:=uy (ig (λi=>xD (fM cs i)) ao);have iv:(bq (D h) λi=>jl (eO cs i)).length=D h:=gl _ _;have jr:(bq (D h) λi=>xD (fM cs i)).length=D h:=gl _ _;have eE:i+1<=D h:=by omega
  have tR:=avD (eO cs i) 6;have ahM:=avB (fM cs i);simp only[go_sem,go_sem_proc,uE] at ahM;generalize lZ:aE (h.getD i 0)=cA at *;obtain⟨⟨c5,dK⟩,⟨fl,fP⟩⟩:=cA;simp only[aK] at e4;simp only[go_sem,go_sem_proc,uE,uE,aA,b1,fL,te,nt,jC,zf,zg,ik,d1,eT,ei,iv,jr,eE,ao,O,lZ,tR,e4,ahM,aK,cI,al,bd,bne,beq_self_eq_true,cR];refine avH T cs h G i ao (.I (.ae ((h.map aE).map aK))) (.ref 233022 0 1 0 (D h)) (.ref 233019 0 1 0 (D h)) (.I (.int .i64 (D h))) (.I (.int .i64 i)) _ _ _ _ ?_ ?_ ?_ ?_ ?_ ?_ ?_ ?_ ?_ ?_ zf zg ik ?_
  all_goals first|(intro tm' m' cF ht nc ahN ahO ahP Kt ahQ xE)|(simp only[eL,dA,if_false,if_true,aA,b1,fL,te,nt,jC];done)
  simp only[go_sem,go_sem_proc,uE,cF,ht,nc,ahN,ahO,ahP,Kt,ahQ,xE,cl];repeat' (first|refine av ?_ ?_|fail)<;>intro h<;>simp only[h,go_sem,go_sem_proc,uE,cF,ht,nc,ahN,ahO,ahP,Kt,ahQ,xE,cl]
  exact⟨i+1,by omega,by omega,rfl,rfl⟩
 ·have d1:decide ((i:Int)<(D h:Int))=false:=dr;obtain rfl:i=D h:=by omega
  rw[avG cs h G,afr] at ik;have lM:=λ(K:a2->Prop) (st:a2)=>lV (K:=K) (st:=st) mG 10 233057 0 (cs.map λc=>aE (gk cs (h.getD c.1.toNat 0) c));rw[al] at lM;simp only[go_sem,go_sem_proc,uE,aA,b1,fL,te,nt,jC,d1,ik,lM,al];repeat' (first|refine av ?_ ?_|fail)<;>intro h<;>simp only[h,go_sem,go_sem_proc,uE,aA,b1,fL,te,nt,jC,d1,ik,lM,al]
end Go.Mini
