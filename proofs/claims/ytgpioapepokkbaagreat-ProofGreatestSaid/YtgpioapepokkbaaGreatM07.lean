/- A part of the proof. -/
import Derived.Test.YtgpioapepokkbaaGreatProg
import Derived.KernelRfl
import Derived.Test.YtgpioapepokkbaaGreatM06
set_option linter.unusedSimpArgs false
set_option linter.unusedVariables false
set_option maxRecDepth 100000
set_option maxHeartbeats 4000000
noncomputable section
open Bool renaming and_eq_true->eW,false_and->fx,false_or->po,not_eq_true'->uo,not_false->dD,not_true->cP,or_eq_false_iff->anI,true_and->gQ
open Decidable renaming em->dn
open List renaming all_eq_true->lU,append_assoc->gb,append_nil->fv,filter_append->pI,filter_nil->ot,foldl_cons->Bn,getD_eq_getElem?_getD->dX,getElem?_eq_getElem->bs,getElem?_map->bj,getElem_mem->m2,length->D,length_map->ak,length_range->pW,map_cons->ev,map_nil->cZ,mem_filter->v5,mem_map->dR,mem_of_getElem?->ee,mem_range->gR,range->dF,take_add_one->g4,take_of_length_le->dr
open List.cons renaming injEq->a3
open Nat renaming le_of_ble_eq_true->tr,le_refl->b0,reduceEqDiff->dC
open Option renaming getD_some->DI
open Option.some renaming inj->n0,injEq->cl
open Prod renaming ext->dS
open Rat renaming mul_nonneg->Mc
namespace Go.Mini
open Go
theorem aEJ {l:List au}{q:Nat->Rat}{k i:Nat}{c:au}(M:i<k)(H:l[i]?=some c)(hq:q i<(c.2.2.2:Rat)):ih l q k<=c.2.2.1:=by
 induction k with
 |zero=>omega
 |succ k aA =>
  have e:ih l q (k+1)=match l[k]? with|some c=>if q k<(c.2.2.2:Rat) then min (ih l q k) c.2.2.1 else ih l q k|none=>ih l q k:=rfl
  rw[e]
  by_cases he:i=k
  ·subst he;rw[H];dsimp only;rw[ad hq];exact Int.min_le_right ..
  ·have aA:=aA (by omega)
   split
   ·split
    ·exact Int.le_trans (Int.min_le_left ..) aA
    ·exact aA
   ·exact aA
theorem aEK {l:List au}{q:Nat->Rat}{k:Nat}(h:ih l q k<10):∃i,i<k/\∃c,l[i]?=some c/\q i<(c.2.2.2:Rat)/\ih l q k=c.2.2.1:=by
 induction k with
 |zero=>exact absurd h (show ¬ (10:Int)<10 by decide)
 |succ k aA =>
  have e:ih l q (k+1)=match l[k]? with|some c=>if q k<(c.2.2.2:Rat) then min (ih l q k) c.2.2.1 else ih l q k|none=>ih l q k:=rfl
  rw[e] at h ⊢
  cases O:l[k]? with
  |none =>
   rw[O] at h;obtain⟨i,G,I⟩:=aA h;exact⟨i,by omega,I⟩
  |some c =>
   rw[O] at h;dsimp only at h ⊢
   by_cases hq:q k<(c.2.2.2:Rat)
   ·rw[ad hq] at h ⊢
    by_cases hm:ih l q k<c.2.2.1
    ·have aC:min (ih l q k) c.2.2.1=ih l q k:=Int.min_eq_left (by omega);rw[aC] at h ⊢;obtain⟨i,G,I⟩:=aA h;exact⟨i,by omega,I⟩
    ·exact⟨k,by omega,c,O,hq,Int.min_eq_right (by omega)⟩
   ·rw[ah hq] at h ⊢;obtain⟨i,G,I⟩:=aA h;exact⟨i,by omega,I⟩
theorem aEL {E:List Int}{cs:List au}(X:ff E cs){i:Nat}(M:i<D E)(h:(aB E cs).cr i<(aB E cs).bD i 10):r5 cs (jd E cs) i=((aB E cs).hv i:Int):=by
 have jQ:=(SZ X M).2 h;unfold r5;rw[ad jQ];have aa:=X.ok;obtain⟨g,hinv,-,hle⟩:=Ig aa;have aJ:=((Ih aa).2 i M).2 h;have fQ:=Re aa i M
 have ug:(aB E cs).cr i<(aB E cs).bD i ((aB E cs).hv i+1):=by
  have G:=hinv.M i M aJ;have I:=hle i M;grind
 unfold qe at jQ ⊢;rw[acs] at jQ ⊢
 have iI:∀(k:Nat) (c:au),(bK cs i)[k]?=some c->(uV E cs i).getD k 0=(aB E cs).hk (aB E cs).cr (cG c):=λk c H=>by
  have hm:=ee H;rw[<-Sz X hm];unfold uV;rw[dX,bj,H];rfl
 obtain⟨k,O,c,H,hq,he⟩:=aEK jQ;have hm:=mg.1 (ee H);have lp:=(hF.1 X.right).2.2.2 c hm.1;have bX:(cG c).aG=i:=by show c.1.toNat=i;omega
 rw[iI k c H] at hq
 have G:¬ (cG c).bw<(aB E cs).hv i:=λaz=>by
  have mU:(aB E cs).hk (aB E cs).cr (cG c)=(cG c).am:=by
   unfold Day.hk;rw[ad];rw[bX];have:=aa.uB i (show (cG c).bw+1<=(aB E cs).hv i from az);grind
  rw[mU] at hq;exact absurd hq Rat.lt_irrefl
 have cN:0<(aB E cs).S i ((aB E cs).hv i):=by
  rw[(aB E cs).s3] at ug;grind
 obtain⟨b,ag,dh,eH,jz⟩:=(ajJ aa i _).1 cN;obtain⟨c',lX,rfl⟩:=dR.1 ag;have aM8:=(hF.1 X.right).2.2.2 c' lX;have aM9:c'.1.toNat=i:=dh;have n3:c'∈bK cs i:=mg.2 ⟨lX,by omega⟩
 obtain⟨k',LX,JV⟩:=List.getElem_of_mem n3;have anB:(bK cs i)[k']?=some c':=by rw[bs LX,JV]
 have az:(uV E cs i).getD k' 0<(c'.2.2.2:Rat):=by
  rw[iI k' c' anB];show (aB E cs).hk (aB E cs).cr (cG c')<(cG c').am;unfold Day.hk;rw[dh,eH,ah (by grind)];have hw:=aa.Md ag jz
  have aNa:(aB E cs).w (cG c')*(aB E cs).S i ((aB E cs).hv i)=(cG c').am:=by
   have h:=Day.CJ (d:=aB E cs) (c:=cG c') (by rw[dh,eH];exact cN);rw[dh,eH] at h;exact h
  have bV:=Rat.mul_lt_mul_of_pos_left (show (aB E cs).cr i-(aB E cs).bD i ((aB E cs).hv i)<(aB E cs).S i ((aB E cs).hv i) by rw[(aB E cs).s3] at ug;grind) hw;rw[s4 (by grind)];grind
 have I:=aEJ (q:=λk=>(uV E cs i).getD k 0) LX anB az;have aNb:c'.2.2.1.toNat=(aB E cs).hv i:=eH;have ay:(cG c).bw=c.2.2.1.toNat:=rfl;omega
theorem anC {cs:List au}{ps:List Rat}{set L:List Int}{x:Int}:x∈stay cs ps set L↔x∈L/\q7 cs ps set x=false:=by
 unfold stay;rw[v5,uo]
theorem anD {cs:List au}{ps:List Rat}{s:List Int}{x:Int}:∀k,x∈h3 cs ps s k->x∈s
 |0,h=>h
 |k+1,h=>anD k (anC.1 h).1
theorem anE (cs:List au)(ps:List Rat)(s:List Int):∀k,stay cs ps (h3 cs ps s k) (h3 cs ps s k)=h3 cs ps s k\/(h3 cs ps s k).length+k<=D s
 |0 => .inr (b0 _)
 |k+1=>by
  have e:h3 cs ps s (k+1)=stay cs ps (h3 cs ps s k) (h3 cs ps s k):=rfl;rcases dn (stay cs ps (h3 cs ps s k) (h3 cs ps s k)=h3 cs ps s k) with h|h
  ·left;rw[e,h];exact h
  ·rcases anE cs ps s k with G|G
   ·exact absurd G h
   ·right
    have I:=ann cs ps (h3 cs ps s k) (h3 cs ps s k);have af:(stay cs ps (h3 cs ps s k) (h3 cs ps s k)).length≠(h3 cs ps s k).length:=λaf=>h (List.Sublist.eq_of_length List.filter_sublist af);rw[e];omega
section
variable {E:List Int} {cs:List au} (X:ff E cs)
include X
theorem aEM:(h3 cs (jd E cs) (hx cs (jd E cs) (D E)) (D E)).length=0:=by
 have gr:∀x,x∈hx cs (jd E cs) (D E)->∃i:Nat,x=(i:Int)/\i<D E/\(aB E cs).cr i<(aB E cs).bD i 10:=λx Q=>by
  unfold hx Np at Q;obtain⟨i,M,rfl⟩:=dR.1 Q;obtain⟨b9,dc⟩:=v5.1 M;have b9:=gR.1 b9;exact⟨i,rfl,b9,(SZ X b9).1 (of_decide_eq_true dc)⟩
 have ye:=SR cs (jd E cs) (D E);have jU:=λx=>anD (cs:=cs) (ps:=jd E cs) (s:=hx cs (jd E cs) (D E)) (x:=x) (D E);rcases anE cs (jd E cs) (hx cs (jd E cs) (D E)) (D E) with h|h
 ·generalize h3 cs (jd E cs) (hx cs (jd E cs) (D E)) (D E)=C at *;rcases C with _|⟨y,C⟩
  ·rfl
  refine absurd ?_ (aED X.ok (C:=λi=>(i:Int)∈y::C) ?_ ?_)
  ·intro b ag gT h1 uE;obtain⟨c,H,rfl⟩:=dR.1 ag;have lp:=(hF.1 X.right).2.2.2 c H;have bX:(((cG c).aG:Nat):Int)=c.1:=by show ((c.1.toNat:Nat):Int)=c.1;omega
   rw[bX] at gT;have O:c.1∈stay cs (jd E cs) (y::C) (y::C):=by rw[h];exact gT
   have aw:=(anC.1 O).2;obtain⟨i,ay,aC,cg⟩:=gr c.1 (jU _ gT);have he:=aEL X aC cg;have M:(cG c).aG=i:=by omega
   rw[M] at h1;unfold q7 at aw;rw[List.any_eq_false] at aw;have aw:=aw c H;have aEN:(0:Rat)<(c.2.2.2:Rat):=uE;have aEO:0<c.2.2.2:=by exact_mod_cast aEN
   have aNc:c.2.2.1.toNat=(aB E cs).hv i:=h1;have aW:c.2.2.1=r5 cs (jd E cs) c.1:=by rw[ay,he];omega
   have sc:c.2.1∈y::C:=Decidable.byContradiction λgH=>aw (by
    simp only[beq_self_eq_true,gQ,eW,beq_iff_eq,decide_eq_true_eq,uo,decide_eq_false_iff_not];exact⟨aW,aEO,gH⟩)
   obtain⟨j,C6,yn,aBm⟩:=gr c.2.1 (jU _ sc);exact⟨j,C6,by show (j:Int)∈y::C;rw[<-C6];exact sc⟩
  ·obtain⟨i,ay,aC,cg⟩:=gr y (jU y (by simp));exact⟨i,by show (i:Int)∈y::C;rw[<-ay];simp⟩
  ·intro i M;obtain⟨j,ay,aC,cg⟩:=gr i (jU i M);obtain rfl:i=j:=by omega
   exact⟨aC,cg⟩
 ·omega
def zn (E:List Int)(cs:List au):List Rat:=(dF (D E)).map (aB E cs).cr
omit X in
theorem aEP:(zn E cs).map ao=jC E cs:=rfl
omit X in
theorem anF {i:Nat}(M:i<D E):(zn E cs).getD i 0=(aB E cs).cr i:=A1 (aB E cs).cr 0 M
omit X in
theorem aEQ (z:Int)(i:Int)(aQ:au->Rat)(l:List au)(a:Option Rat):(l.zip (l.map aQ)).foldl (zl i) a=l.foldl (λa c=>if c.2.1=i then a.bind λs=>if lE s (aQ c)=true then some (s+aQ c) else none else a) a:=by
 induction l generalizing a with
 |nil=>rfl
 |cons c l aA=>rw[ev,List.zip_cons_cons,Bn,Bn,aA];rfl
theorem aER {i:Nat}(M:i<D E):uX (E.getD i 0) i (cs.zip (jd E cs))=some ((aB E cs).cr i):=by
 have h:=aml X i M;unfold uX jd;rw[aEQ (E.getD i 0)];exact h
omit X in
theorem anG {hq ps:List Rat}(ab:j5 E cs=true)(ei:(D hq)=D E)(ai:(D ps)=D cs)(ia:∀x∈hq,0<=x/\di x)(iF:∀x∈ps,0<=x/\di x):rf E cs (hq.map ao) (ps.map ao)=true:=by
 obtain⟨G,I,af,aS⟩:=hF.1 ab;unfold j5 at ab;simp only[eW] at ab;obtain⟨⟨-,aES⟩,I6⟩:=ab
 have wv:∀l:List Rat,(∀x∈l,0<=x/\di x)->(l.map ao).all xW=true:=λl aw=>by
  rw[lU];intro f aJ;obtain⟨x,Q,rfl⟩:=dR.1 aJ;obtain⟨b9,dc⟩:=aw x Q;unfold xW;rw[Fc dc,gQ];have:decide (x<0)=false:=lj (by grind);rw[<-akf] at this;have eI:=of_decide_eq_false this;exact lQ (show x.num.sign>=0 by omega)
 unfold rf;have ej:E.all gn=true:=aES;have dh:decide ((D E:Int)>60)=false:=cY;have eH:decide ((D cs:Int)>2000)=false:=cY;rw[ak,ak,ei,ai,ej,I6,wv hq ia,wv ps iF,dh,eH];simp
theorem aET:rf E cs ((zn E cs).map ao) ((jd E cs).map ao)=true:=by
 refine anG X.right (by unfold zn;simp) (by unfold jd;simp) (λx Q=>?_) λx Q=>?_
 ·obtain⟨i,M,rfl⟩:=dR.1 Q;have ke:=gR.1 M;exact⟨Ii X.ok ke,ig (y7 X ke) (by omega)⟩
 ·obtain⟨c,H,rfl⟩:=dR.1 Q;rw[<-Ro X.right _ H];exact⟨X.ok.Mi _ (List.mem_map_of_mem H),ig (aac X H) (by omega)⟩
theorem aEU {i:Nat}(M:i<D E):Nv E cs (zn E cs) (jd E cs) i:=by
 refine⟨acu X,M,by unfold zn;simp,λx Q=>?_,?_,λx Q he=>?_⟩
 ·obtain⟨j,aj,rfl⟩:=dR.1 Q;exact ig (y7 X (gR.1 aj)) (by omega)
 ·have:=X.E i
  constructor<;>omega
 ·rw[he,anF M];exact⟨X.own i,Ii X.ok M,(y7 X M).mono (by omega)⟩
theorem aEV {i:Nat}(M:i<D E):oF E cs (zn E cs) (jd E cs) i=0:=by
 unfold oF;rw[aER X M];dsimp only;rw[ad];refine⟨(anF M).symm,?_⟩;rw[acs];unfold uV;exact List.map_congr_left λc H=>(akh (mg.1 H).2).symm
theorem aEW:Nw E cs (zn E cs) (jd E cs) (De E cs):=by
 have aK:=X.iX;have iy:=X.q3
 have I:fq ((jd E cs).map ao):=by
  refine⟨by unfold jd;simp;omega,λf aJ=>?_⟩
  obtain⟨x,Q,rfl⟩:=dR.1 aJ;exact k9 ((acu X).CU x Q)
 exact⟨by omega,by omega,amT X,I,λ_ i M=>aEU X M,λ_ _=>aEB X⟩
theorem aEX:zm E cs (zn E cs) (jd E cs)=0:=by
 unfold zm;rw[ad (aET X),ad (aEF λi M=>aEV X M),ad (aEM X)]
theorem aEY:Bd [.Y (E.map ae),.Y (cs.map ck),.agg [.Y ((jC E cs).map aH),.Y ((zf E cs).map aH),.Y ((aB E cs).js.map tl)]]=some (.same (.int .i64 0)):=by
 have h:=Nx E cs (zn E cs) (jd E cs) (De E cs) (aEW X);rw[aEP,aEA,aEC,aEX X] at h;exact h
end







theorem acx {n:Int}(h:dB n):EJ [.int .i64 n,.int .i64 1]=some (.same (.cH [.agg (aH (ao (n:Rat))),.int .i64 0])):=by
 have:=ag7 n 1 ⟨h,Rk⟩;rw[Rd h] at this;exact this
def acy:bP:=b8 78 3 [.t 6] (U [dL 5 369005 2,cA 6 false] (.seq (U [F 10 0,b6 11 10,a5 12 .gtr 11 6,F 13 12,⟨some 14,some (13,false),.cm (.t 1)⟩,⟨some 15,some (13,false),.len (.t 14)⟩,⟨some 16,some (13,false),.bin .gtr (.t 15) (.c (al 12))⟩,eh 17 13 16,F 18 17,⟨some 19,some (18,false),.dY 0 (.t 5)⟩,⟨some 20,some (18,false),.load 1 false (.t 19)⟩,⟨some 21,some (18,false),.len (.t 20)⟩,⟨some 22,some (18,false),.bin .gtr (.t 21) (.c (al 8))⟩,eh 23 18 22,F 24 23,⟨some 25,some (24,false),.dY 1 (.t 5)⟩,⟨some 26,some (24,false),.load 1 false (.t 25)⟩,⟨some 27,some (24,false),.len (.t 26)⟩,⟨some 28,some (24,false),.bin .gtr (.t 27) (.c (al 14))⟩,eh 29 24 28,F 30 29,⟨some 31,some (30,false),.dY 2 (.t 5)⟩,⟨some 32,some (30,false),.load 1 false (.t 31)⟩,⟨some 33,some (30,false),.len (.t 32)⟩,⟨some 34,some (30,false),.bin .gtr (.t 33) (.c (al 12))⟩,eh 35 30 34] (aY 35 (U [cA 6 false] .ret) .skip)) (.seq (U [br 7 0] (.block 0 (.loop  (.seq (U [F 36 7,bf 37 0 5,aV 38 1 37,b6 39 38,bo 40 .lss 36 39] (aY 40 .skip (.exit 0))) (.seq (.block 1 (U [bf 43 0 5,aV 44 1 43,F 45 7,bH 46 4 44 45,bn 47 4 46,(aD 48 (.call DW [(.t 47),(.c (al 8))])),fh 49 48] (aY 49 (U [cA 6 false] .ret) .skip))) (.ops [F 41 7,a5 42 .add 41 1,F 7 42])))))) (.seq (U [br 8 0] (.block 2 (.loop  (.seq (U [F 50 8,bf 51 1 5,aV 52 1 51,b6 53 52,bo 54 .lss 50 53] (aY 54 .skip (.exit 2))) (.seq (.block 3 (U [bf 57 1 5,aV 58 1 57,F 59 8,bH 60 4 58 59,bn 61 4 60,(aD 62 (.call DW [(.t 61),(.c (al 8))])),fh 63 62] (aY 63 (U [cA 6 false] .ret) .skip))) (.ops [F 55 8,a5 56 .add 55 1,F 8 56])))))) (.seq (U [br 9 0] (.block 4 (.loop  (.seq (U [F 64 9,bf 65 2 5,aV 66 1 65,b6 67 66,bo 68 .lss 64 67] (aY 68 .skip (.exit 4))) (.seq (.block 5 (U [bf 71 2 5,aV 72 1 71,F 73 9,bH 74 1 72 73,aV 75 1 74,b6 76 75,a5 77 .gtr 76 12] (aY 77 (U [cA 6 false] .ret) .skip))) (.ops [F 69 9,a5 70 .add 69 1,F 9 70])))))) (U [cA 6 true] .ret))))))
def acz:bP:=b8 26 2 [.t 4] (U [cA 4 false] (.seq (U [F 6 0,b6 7 6,F 8 1,b6 9 8,bo 10 .neq 7 9] (aY 10 (U [cA 4 false] .ret) .skip)) (.seq (U [br 5 0] (.block 0 (.loop  (.seq (U [F 11 5,F 12 0,b6 13 12,bo 14 .lss 11 13] (aY 14 .skip (.exit 0))) (.seq (.block 1 (fD [F 17 0,F 18 5,bH 19 1 17 18,aV 20 1 19,F 21 1,F 22 5,bH 23 1 21 22,aV 24 1 23,bo 25 .neq 20 24] BP (aY 25 (U [cA 4 false] .ret) .skip))) (.ops [F 15 5,a5 16 .add 15 1,F 5 16])))))) (U [cA 4 true] .ret))))
def Ny:bP:=b8 146 3 [.t 6] (U [cA 6 false] (U [(aD 21 (.call U7 [])),F 7 21] (.seq (U [F 22 0,F 23 1,(aD 24 (.build [.nil,.nil,.nil] [])),(tW 25 U8 22 23 24),fh 26 25,F 27 26,⟨some 28,some (27,false),.cm (.t 2)⟩,⟨some 29,some (27,false),.len (.t 28)⟩,⟨some 30,some (27,false),.bin .gtr (.t 29) (.c (al 12))⟩,eh 31 27 30] (aY 31 (U [F 32 7,F 6 32] .ret) .skip)) (U [F 34 0,F 35 1,(cv 36 UH 34 35),F 33 36,bA 37 0 33,bA 38 1 33,(aD 8 (.alloc 365008 [.nil,.nil,.nil])),bp 3 8 37,F 9 38] (.seq (U [F 39 9,a5 40 .neq 39 0] (aY 40 (U [F 41 7,F 6 41] .ret) .skip)) (.seq (U [F 42 0,F 43 1,bn 44 3 8,(tW 45 BM 42 43 44),a5 46 .neq 45 0] (aY 46 (U [cA 6 false] .ret) .skip)) (U [(aD 47 (.e0 365047 true [] 4 0 [])),bf 48 0 8,aV 49 1 48,(aD 50 (.app 365050 [(al 0),.nil,(al 0),.nil] 64 (.t 47) (.t 49))),F 10 50] (.seq (U [br 11 0] (.block 0 (.loop  (.seq (U [F 51 11,F 52 10,b6 53 52,bo 54 .lss 51 53,F 55 54,⟨some 56,some (55,true),.cm (.t 11)⟩,⟨some 57,some (55,true),.cm (.t 2)⟩,⟨some 58,some (55,true),.len (.t 57)⟩,⟨some 59,some (55,true),.bin .lss (.t 56) (.t 58)⟩,fN 60 55 59] (aY 60 .skip (.exit 0))) (.seq (.block 1 (U [F 64 2,F 65 11,bH 66 1 64 65,aV 67 1 66,(aD 68 (.bin .rem (.t 67) (.c (.J (.int .u8 9))))),(aD 69 (.conv .i64 (.t 68))),(aD 70 (.call BI [(.t 69),(.c (al 8))])),F 63 70,bA 71 0 63,bA 72 1 63,(aD 12 (.alloc 365012 [(al 0),.nil,(al 0),.nil])),bp 4 12 71,F 13 72] (fD [F 74 10,F 75 11,bH 76 4 74 75,bn 77 4 76,bn 78 4 12,(cv 79 tS 77 78),F 73 79,bA 80 0 73,bA 81 1 73,(aD 14 (.alloc 365014 [(al 0),.nil,(al 0),.nil])),bp 4 14 80,F 15 81] [[],[],[],[],[],[],[],[],[],[3,4],[],[]] (.seq (U [F 82 15,a5 83 .neq 82 0] (aY 83 (U [F 84 7,F 6 84] .ret) .skip)) (.ops [F 85 10,F 86 11,bn 87 4 14,bH 88 4 85 86,bp 4 88 87]))))) (.ops [F 61 11,a5 62 .add 61 1,F 11 62])))))) (.seq (.seq (.ghost (.freeze 10) (.ops [br 16 0])) (.block 2 (.loop  (.seq (U [F 89 16,a5 90 .lss 89 12] (aY 90 .skip (.exit 2))) (.seq (.block 3 (U [F 94 0,F 95 1,F 96 10,(tW 97 OR 94 95 96),F 93 97,bA 98 0 93,bA 99 1 93,F 17 98,F 18 99] (.seq (U [F 100 18,fh 101 100] (aY 101 (U [F 102 7,F 6 102] .ret) .skip)) (.seq (U [F 103 17,F 104 10,(cv 105 OQ 103 104)] (aY 105 (.seq (U [br 19 0] (.block 4 (.loop  (.seq (U [F 106 19,F 107 10,b6 108 107,bo 109 .lss 106 108,F 110 109,⟨some 111,some (110,true),.cm (.t 19)⟩,⟨some 112,some (110,true),.dY 0 (.t 8)⟩,⟨some 113,some (110,true),.load 1 false (.t 112)⟩,⟨some 114,some (110,true),.len (.t 113)⟩,⟨some 115,some (110,true),.bin .lss (.t 111) (.t 114)⟩,fN 116 110 115] (aY 116 .skip (.exit 4))) (.seq (.block 5 (fD [F 119 10,F 120 19,bH 121 4 119 120,bn 122 4 121,bf 123 0 8,aV 124 1 123,F 125 19,bH 126 4 124 125,bn 127 4 126,(cv 128 m7 122 127),a5 129 .gtr 128 0] KO (aY 129 (U [cA 6 false] .ret) .skip))) (.ops [F 117 19,a5 118 .add 117 1,F 19 118])))))) (U [F 130 7,F 6 130] .ret)) .skip)) (U [F 131 17,F 10 131] (U [br 20 0] (.block 6 (.loop  (.seq (U [F 132 20,F 133 10,b6 134 133,bo 135 .lss 132 134] (aY 135 .skip (.exit 6))) (.seq (.block 7 (U [F 138 10,F 139 20,bH 140 4 138 139,bn 141 4 140,(aD 142 (.call DW [(.t 141),(.c (al 8))])),fh 143 142] (aY 143 (U [F 144 7,F 6 144] .ret) .skip))) (.ops [F 136 20,a5 137 .add 136 1,F 20 137]))))))))))) (.ops [F 91 16,a5 92 .add 91 1,F 16 92])))))) (U [F 145 7,F 6 145] .ret))))))))))
def acA:bP:=b8 54 0 [.t 0] (U [cA 0 false] (U [(aD 6 (.e0 368006 false [(al 0),(al 0)] 1 2 [(0,1,(.c (al 0))),(1,1,(.c (al 0)))])),F 1 6] (U [(aD 7 (.build [(al 0),(al 0),(al 0),(al 0)] [(0,1,(.c (al 1))),(1,1,(.c (al 0))),(3,1,(.c (al 5)))])),(aD 8 (.build [(al 0),(al 0),(al 0),(al 0)] [(0,1,(.c (al 0))),(1,1,(.c (al 1))),(3,1,(.c (al 5)))])),(aD 9 (.e0 368009 false [(al 0),(al 0),(al 0),(al 0),(al 0),(al 0),(al 0),(al 0)] 4 2 [(0,4,(.t 7)),(4,4,(.t 8))])),F 2 9] (U [(aD 10 (.call BO [(.c (al 5)),(.c (al 5))])),(aD 11 (.call BO [(.c (al 5)),(.c (al 5))])),(aD 12 (.build [.nil,.nil,.nil] [(0,1,(.t 10)),(1,1,(.t 11))])),(aD 3 (.alloc 368003 [.nil,.nil,.nil])),bp 3 3 12] (U [(aD 13 (.call BO [(.c (al 2)),(.c (al 2))])),(aD 14 (.call BO [(.c (al 2)),(.c (al 2))])),(aD 15 (.e0 368015 false [(al 0),(al 0)] 1 2 [(0,1,(.c (al 0))),(1,1,(.c (al 1)))])),(aD 16 (.e0 368016 false [.nil] 1 1 [(0,1,(.t 15))])),(aD 17 (.build [.nil,.nil,.nil] [(0,1,(.t 13)),(1,1,(.t 14)),(2,1,(.t 16))])),(aD 4 (.alloc 368004 [.nil,.nil,.nil])),bp 3 4 17] (U [(aD 18 (.call BO [(.c (al 5)),(.c (al 4))])),(aD 19 (.call BO [(.c (al 5)),(.c (al 5))])),(aD 20 (.build [.nil,.nil,.nil] [(0,1,(.t 18)),(1,1,(.t 19))])),(aD 5 (.alloc 368005 [.nil,.nil,.nil])),bp 3 5 20] (U [F 21 1,F 22 2,bn 23 3 3,(tW 24 BM 21 22 23),a5 25 .eql 24 0,F 26 25,⟨some 27,some (26,true),.cm (.t 1)⟩,⟨some 28,some (26,true),.cm (.t 2)⟩,⟨some 29,some (26,true),.load 3 true (.t 4)⟩,⟨some 30,some (26,true),.call BM [(.t 27),(.t 28),(.t 29)]⟩,⟨some 31,some (26,true),.bin .eql (.t 30) (.c (al 24))⟩,fN 32 26 31,F 33 32,⟨some 34,some (33,true),.cm (.t 1)⟩,⟨some 35,some (33,true),.cm (.t 2)⟩,⟨some 36,some (33,true),.load 3 true (.t 5)⟩,⟨some 37,some (33,true),.call BM [(.t 34),(.t 35),(.t 36)]⟩,⟨some 38,some (33,true),.bin .eql (.t 37) (.c (al 24))⟩,fN 39 33 38,F 40 39,⟨some 41,some (40,true),.cm (.t 1)⟩,⟨some 42,some (40,true),.cm (.t 2)⟩,⟨some 43,some (40,true),.load 3 true (.t 4)⟩,⟨some 44,some (40,true),.call Va [(.t 41),(.t 42),(.t 43)]⟩,⟨some 45,some (40,true),.e0 368045 false [(al 0),(al 0)] 1 2 [(0,1,(.c (al 0))),(1,1,(.c (al 1)))]⟩,⟨some 46,some (40,true),.call U9 [(.t 44),(.t 45)]⟩,fN 47 40 46,F 48 47,⟨some 49,some (48,true),.cm (.t 1)⟩,⟨some 50,some (48,true),.load 3 true (.t 3)⟩,⟨some 51,some (48,true),.call BM [(.t 49),(.c .nil),(.t 50)]⟩,⟨some 52,some (48,true),.bin .eql (.t 51) (.c (al 1))⟩,fN 53 48 52,F 0 53] .ret)))))))
def acB:bP:=b8 142 3 [.t 6,.t 7] (U [eo 6,cA 7 false] (U [eo 8] (.seq (U [br 9 0] (.block 0 (.ghost (.nj 8 375037 4) (.loop  (.seq (U [F 20 9,F 21 0,b6 22 21,bo 23 .lss 20 22] (aY 23 .skip (.exit 0))) (.seq (.block 1 (U [F 27 0,F 28 9,bH 29 1 27 28,aV 30 1 29,(aD 31 (.call BI [(.t 30),(.c (al 1))])),F 26 31,bA 32 0 26,bA 33 1 26,(aD 10 (.alloc 375010 [(al 0),.nil,(al 0),.nil])),bp 4 10 32,F 11 33] (.ops [F 34 8,bn 35 4 10,(aD 36 (.e0 375036 false [(al 0),.nil,(al 0),.nil] 4 1 [(0,4,(.t 35))])),(aD 37 (.app 375037 [(al 0),.nil,(al 0),.nil] 64 (.t 34) (.t 36))),F 8 37]))) (.ops [F 24 9,a5 25 .add 24 1,F 9 25]))))))) (.seq (U [br 12 0] (.block 2 (.loop  (.seq (U [F 38 12,F 39 0,b6 40 39,bo 41 .lss 38 40,F 42 41,⟨some 43,some (42,true),.cm (.t 12)⟩,⟨some 44,some (42,true),.cm (.t 2)⟩,⟨some 45,some (42,true),.len (.t 44)⟩,⟨some 46,some (42,true),.bin .lss (.t 43) (.t 45)⟩,fN 47 42 46] (aY 47 .skip (.exit 2))) (.seq (.block 3 (U [eo 13] (.seq (U [br 14 0] (.block 4 (.ghost (.nj 13 375069 4) (.loop  (.seq (U [F 50 14,F 51 1,b6 52 51,bo 53 .lss 50 52] (aY 53 .skip (.exit 4))) (.seq (.block 5 (U [F 56 1,F 57 14,bH 58 4 56 57,bf 59 0 58,aV 60 1 59,F 61 12,bo 62 .eql 60 61] (aY 62 (.ops [F 63 13,F 64 1,F 65 14,bH 66 4 64 65,bn 67 4 66,(aD 68 (.e0 375068 false [(al 0),(al 0),(al 0),(al 0)] 4 1 [(0,4,(.t 67))])),(aD 69 (.app 375069 [(al 0),(al 0),(al 0),(al 0)] 32 (.t 63) (.t 68))),F 13 69]) .skip))) (.ops [F 54 14,a5 55 .add 54 1,F 14 55]))))))) (.seq (.ghost (.freeze 13) (.ops [F 71 2,F 72 12,bH 73 4 71 72,bn 74 4 73,F 75 13,(cv 76 D6 74 75),F 70 76,bA 77 0 70,bA 78 1 70,F 15 77,F 16 78])) (.seq (U [F 79 16,a5 80 .neq 79 0,F 81 80,⟨some 82,some (81,false),.cm (.t 15)⟩,⟨some 83,some (81,false),.len (.t 82)⟩,⟨some 84,some (81,false),.cm (.t 13)⟩,⟨some 85,some (81,false),.len (.t 84)⟩,⟨some 86,some (81,false),.bin .neq (.t 83) (.t 85)⟩,eh 87 81 86] (aY 87 (U [eo 6,cA 7 false] .ret) .skip)) (U [br 17 0] (.block 6 (.loop  (.seq (U [F 88 17,F 89 13,b6 90 89,bo 91 .lss 88 90] (aY 91 .skip (.exit 6))) (.seq (.block 7 (.seq (U [F 94 13,F 95 17,bH 96 4 94 95,bf 97 1 96,aV 98 1 97,a5 99 .lss 98 0,F 100 99,⟨some 101,some (100,false),.cm (.t 13)⟩,⟨some 102,some (100,false),.cm (.t 17)⟩,⟨some 103,some (100,false),.kO 4 (.t 101) (.t 102)⟩,⟨some 104,some (100,false),.dY 1 (.t 103)⟩,⟨some 105,some (100,false),.load 1 false (.t 104)⟩,⟨some 106,some (100,false),.cm (.t 8)⟩,⟨some 107,some (100,false),.len (.t 106)⟩,⟨some 108,some (100,false),.bin .geq (.t 105) (.t 107)⟩,eh 109 100 108] (aY 109 (.exit 7) .skip)) (fD [F 111 8,F 112 13,F 113 17,bH 114 4 112 113,bf 115 1 114,aV 116 1 115,bH 117 4 111 116,bn 118 4 117,F 119 15,F 120 17,bH 121 4 119 120,bn 122 4 121,(cv 123 vp 118 122),F 110 123,bA 124 0 110,bA 125 1 110,(aD 18 (.alloc 375018 [(al 0),.nil,(al 0),.nil])),bp 4 18 124,F 19 125] [[],[],[],[],[],[],[],[],[],[],[],[],[],[],[],[],[5,7,11],[],[]] (.seq (U [F 126 19,a5 127 .neq 126 0] (aY 127 (U [eo 6,cA 7 false] .ret) .skip)) (.mY [F 128 8,F 129 13,F 130 17,bH 131 4 129 130,bf 132 1 131,aV 133 1 132,bn 134 4 18,bH 135 4 128 133,bp 4 135 134] BP))))) (.ops [F 92 17,a5 93 .add 92 1,F 17 93]))))))))))) (.ops [F 48 12,a5 49 .add 48 1,F 12 49])))))) (.seq (.ghost (.freeze 8) (.ops [F 136 8,F 137 2,b6 138 137,F 139 0,b6 140 139,bo 141 .eql 138 140,F 6 136,F 7 141])) .ret)))))
def acC:bP:=b8 22 2 [.t 4] (U [eo 4] (U [F 10 0,(aD 11 (.call BI [(.t 10),(.c (al 1))])),F 9 11,bA 12 0 9,bA 13 1 9,(aD 5 (.alloc 378005 [(al 0),.nil,(al 0),.nil])),bp 4 5 12,F 6 13] (U [F 15 1,(aD 16 (.call BI [(.t 15),(.c (al 1))])),F 14 16,bA 17 0 14,bA 18 1 14,(aD 7 (.alloc 378007 [(al 0),.nil,(al 0),.nil])),bp 4 7 17,F 8 18] (U [bn 19 4 5,bn 20 4 7,(aD 21 (.e0 378021 false [(al 0),.nil,(al 0),.nil,(al 0),.nil,(al 0),.nil] 4 2 [(0,4,(.t 19)),(4,4,(.t 20))])),F 4 21] .ret))))
def lP (aq bE:List bc)(aF:List (List Int)):List Data:=[.Y (aq.map aH),.Y (bE.map aH),.Y (aF.map o5)]
theorem anH {aq ln bE uG:List bc}{aF AR:List (List Int)}(h:lP aq bE aF=lP ln uG AR):aq=ln/\bE=uG/\aF=AR:=by
 simp only[lP,a3,Data.Y.injEq,and_true] at h;exact⟨map_inj mM _ _ h.1,map_inj mM _ _ h.2.1,map_inj aaC _ _ h.2.2⟩
def Nz (E:List Int)(cs:List au)(aq bE:List bc)(aF:List (List Int)):Bool:=decide ((D E:Int)>6)||(decide ((D cs:Int)>12)||(decide ((D aq:Int)>8)||(decide ((D bE:Int)>14)||decide ((D aF:Int)>12))))
def Df (E:List Int)(cs:List au)(aq bE:List bc)(aF:List (List Int)):Bool:=!Nz E cs aq bE aF&&((aq.all λf=>qU f 8)&&((bE.all λf=>qU f 8)&&aF.all λr => !decide ((D r:Int)>12)))
theorem acD {α:Type}{p:α->Bool}{l:List α}{i:Nat}{x:α}(Q:l[i]?=some x)(h:p x=false):l.all p=false:=by
 rw[List.all_eq_false];exact⟨x,ee Q,by rw[h];decide⟩
abbrev acE:(List Int)×(List au)×(List bc)×(List bc)×(List (List Int))->List Data:=λ(E,cs,aq,bE,aF)=>[.Y (E.map ae),.Y (cs.map ck),.agg (lP aq bE aF)]
def acF:=cj acE λ(E,cs,aq,bE,aF)=>some (.same (.bool (Df E cs aq bE aF)))
theorem aEZ:∀a b,acE a=acE b->a=b:=by
  rintro⟨tc,td,oL,ana,AV⟩ ⟨te,nr,oM,anb,AW⟩ h;simp only[a3,Data.Y.injEq,Data.agg.injEq,and_true] at h;obtain⟨G,I,af⟩:=h;obtain⟨rfl,rfl,rfl⟩:=anH af;rw[map_inj e9 _ _ G,map_inj q5 _ _ I]
@[go_sem] theorem aE0 (E:List Int)(cs:List au)(aq:List bc)(bE:List bc)(aF:List (List Int)):acF [.Y (E.map ae),.Y (cs.map ck),.agg (lP aq bE aF)]=some (.same (.bool (Df E cs aq bE aF))):=ct aEZ (E,cs,aq,bE,aF)
theorem aE1 (T:bb)(fY:T DW=aU LJ)(E:List Int)(cs:List au)(aq:List bc)(bE:List bc)(aF:List (List Int)):WP T acy (.same (.bool (Df E cs aq bE aF))) [.J (.Y (E.map ae)),.J (.Y (cs.map ck)),.J (.agg (lP aq bE aF))]:=by
 refine cu ?_;simp only[acy];unfold Df;rcases fQ:Nz E cs aq bE aF
 case true =>
  unfold Nz at fQ;rcases aI:decide ((D E:Int)>6)
  case true =>
         refine aX ?_;repeat' (intro h<;>simp only[h,go_sem,go_sem_proc,fY,lP,aI,ak,cP,fx]<;>try refine ax ?_ ?_)
  rw[aI,po] at fQ;rcases c2:decide ((D cs:Int)>12)
  case true =>
         refine aX ?_;repeat' (intro h<;>simp only[h,go_sem,go_sem_proc,fY,lP,aI,c2,ak,cP,fx]<;>try refine ax ?_ ?_)
  rw[c2,po] at fQ;rcases c3:decide ((D aq:Int)>8)
  case true =>
         refine aX ?_;repeat' (intro h<;>simp only[h,go_sem,go_sem_proc,fY,lP,aI,c2,c3,ak,cP,fx]<;>try refine ax ?_ ?_)
  rw[c3,po] at fQ;rcases c4:decide ((D bE:Int)>14)
  case true =>
         refine aX ?_;repeat' (intro h<;>simp only[h,go_sem,go_sem_proc,fY,lP,aI,c2,c3,c4,ak,cP,fx]<;>try refine ax ?_ ?_)
  rw[c4,po] at fQ;refine aX ?_;repeat' (intro h<;>simp only[h,go_sem,go_sem_proc,fY,lP,aI,c2,c3,c4,fQ,ak,cP,fx]<;>try refine ax ?_ ?_)
 unfold Nz at fQ;simp only[anI] at fQ;obtain⟨aI,c2,c3,c4,Il⟩:=fQ;have wu:=of_decide_eq_false c3;have vT:=of_decide_eq_false c4;have iX:=of_decide_eq_false Il;simp only[go_sem,go_sem_proc,fY,lP,aI,c2,c3,c4,Il,ak,dD,gQ];refine dd [5] [369005] (λ(i:Nat) tm m=>i<=D aq/\tm 7=.J (.int .i64 i)/\(aq.take i).all (λf=>qU f 8)=true) (λi=>D aq-i) 0 (by refine⟨by omega,rfl,rfl⟩) ?_;intro vs ms aP aO;simp only[go_sem,go_sem_proc,fY,lP,ak] at aP aO;subst aP aO;rintro i tm m O hm ⟨M,bq,aN⟩;simp only[go_sem,go_sem_proc,fY,a3] at O hm;have cX:=O;rcases dn (i<D aq) with az|b4
 ·have d1:decide ((i:Int)<(D aq:Int))=true:=c6;have bT:=eA (i:=i) (by omega);obtain⟨⟨⟨f1,f2⟩,⟨f3,f4⟩⟩,Q⟩:∃x,aq[i]?=some x:=⟨_,bs az⟩;rcases q:qU ((f1,f2),(f3,f4)) 8
  ·rw[acD Q q,fx];refine aX ?_;repeat' (intro h<;>simp only[h,go_sem,go_sem_proc,fY,cX,bq,hm,Q,d1,q,aH,ak,bj,dD]<;>try refine ax ?_ ?_)
  ·refine aX ?_;repeat' (intro h<;>simp only[h,go_sem,go_sem_proc,fY,cX,bq,hm,Q,d1,bT,q,aH,ak,bj,cP]<;>try refine ax ?_ ?_)
   exact⟨i+1,by omega,by omega,rfl,by rw[Yy Q,aN,q];rfl⟩
 have d1:decide ((i:Int)<(D aq:Int))=false:=cY;rw[dr (by omega)] at aN;rw[aN,gQ];simp only[go_sem,go_sem_proc,fY,cX,bq,hm,d1,ak];refine dd [5] [369005] (λ(i:Nat) tm m=>i<=D bE/\tm 8=.J (.int .i64 i)/\(bE.take i).all (λf=>qU f 8)=true) (λi=>D bE-i) 0 (by refine⟨by omega,rfl,rfl⟩) ?_;intro vs ms aP aO;simp only[go_sem,go_sem_proc,fY,cX,bq,hm,ak] at aP aO;subst aP aO;clear cX bq hm O d1 aN;clear b4 M;rintro i tm m O hm ⟨M,bq,aN⟩;simp only[go_sem,go_sem_proc,fY,a3] at O hm;have cX:=O;rcases dn (i<D bE) with az|b4
 ·have d1:decide ((i:Int)<(D bE:Int))=true:=c6;have bT:=eA (i:=i) (by omega);obtain⟨⟨⟨f1,f2⟩,⟨f3,f4⟩⟩,Q⟩:∃x,bE[i]?=some x:=⟨_,bs az⟩;rcases q:qU ((f1,f2),(f3,f4)) 8
  ·rw[acD Q q,fx];refine aX ?_;repeat' (intro h<;>simp only[h,go_sem,go_sem_proc,fY,cX,bq,hm,Q,d1,q,aH,ak,bj,dD]<;>try refine ax ?_ ?_)
  ·refine aX ?_;repeat' (intro h<;>simp only[h,go_sem,go_sem_proc,fY,cX,bq,hm,Q,d1,bT,q,aH,ak,bj,cP]<;>try refine ax ?_ ?_)
   exact⟨i+1,by omega,by omega,rfl,by rw[Yy Q,aN,q];rfl⟩
 have d1:decide ((i:Int)<(D bE:Int))=false:=cY;rw[dr (by omega)] at aN;rw[aN,gQ];simp only[go_sem,go_sem_proc,fY,cX,bq,hm,d1,ak];refine dd [5] [369005] (λ(i:Nat) tm m=>i<=D aF/\tm 9=.J (.int .i64 i)/\(aF.take i).all (λr => !decide ((D r:Int)>12))=true) (λi=>D aF-i) 0 (by refine⟨by omega,rfl,rfl⟩) ?_;intro vs ms aP aO;simp only[go_sem,go_sem_proc,fY,cX,bq,hm,ak] at aP aO;subst aP aO;clear cX bq hm O d1 aN;clear b4 M;rintro i tm m O hm ⟨M,bq,aN⟩;simp only[go_sem,go_sem_proc,fY,a3] at O hm;have cX:=O;rcases dn (i<D aF) with az|b4
 ·have d1:decide ((i:Int)<(D aF:Int))=true:=c6;have bT:=eA (i:=i) (by omega);obtain⟨r,Q⟩:∃x,aF[i]?=some x:=⟨_,bs az⟩;rcases q:decide ((D r:Int)>12)
  ·refine aX ?_;repeat' (intro h<;>simp only[h,go_sem,go_sem_proc,fY,cX,bq,hm,Q,d1,bT,q,o5,ak,bj]<;>try refine ax ?_ ?_)
   exact⟨i+1,by omega,by omega,rfl,by rw[Yy Q,aN,q];rfl⟩
  ·rw[acD Q (by rw[q];rfl)];refine aX ?_;repeat' (intro h<;>simp only[h,go_sem,go_sem_proc,fY,cX,bq,hm,Q,d1,q,o5,ak,bj]<;>try refine ax ?_ ?_)
 have d1:decide ((i:Int)<(D aF:Int))=false:=cY;rw[dr (by omega)] at aN;rw[aN];refine aX ?_;repeat' (intro h<;>simp only[h,go_sem,go_sem_proc,fY,cX,bq,hm,d1,ak]<;>try refine ax ?_ ?_)
def acG:=cj SB λ(l,m)=>cM (D l<=1000000/\D m<=1000000) (.same (.bool (decide (l=m))))
@[go_sem] theorem aE2 (l:List Int)(m:List Int)(H:(D l)<=1000000/\D m<=1000000):acG [.Y (l.map ae),.Y (m.map ae)]=some (.same (.bool (decide (l=m)))):=(ct amU (l,m)).trans (cR H _)
theorem aE3 (T:bb)  (l:List Int) (m:List Int) (H:(D l)<=1000000/\D m<=1000000):WP T acz (.same (.bool (decide (l=m)))) [.J (.Y (l.map ae)),.J (.Y (m.map ae))]:=by
 refine cu ?_;simp only[acz];obtain⟨G,I⟩:=H;rcases q:((D l:Int)==(D m:Int))
 ·have bG:decide (l=m)=false:=lj λe=>by rw[e,beq_self_eq_true] at q;cases q
  refine aX ?_;repeat' (intro h<;>simp only[h,go_sem,go_sem_proc,q,bG,ak,bne,dD]<;>try refine ax ?_ ?_)
 have aw:(D l)=D m:=by have:=eq_of_beq q;omega
 simp only[go_sem,go_sem_proc,q,ak,bne,cP];refine dd [0,1] [] (λ(i:Nat) tm _=>i<=D l/\l.take i=m.take i/\tm 5=.J (.int .i64 i)) (λi=>D l-i) 0 (by refine⟨by omega,by simp,rfl⟩) ?_;intro vs ms aP aO;simp only[go_sem,go_sem_proc,ak] at aP aO;subst aP aO;rintro i tm mem O-⟨M,bz,cX⟩;simp only[go_sem,go_sem_proc,a3] at O;obtain⟨bl,ay⟩:=O;rcases dn (i<D l) with az|b4
 ·have d3:decide ((i:Int)<(D l:Int))=true:=c6;have bT:=eA (i:=i) (by omega);obtain⟨x,Q⟩:∃x,l[i]?=some x:=⟨_,bs az⟩;obtain⟨y,av⟩:∃y,m[i]?=some y:=⟨_,bs (by omega)⟩;rcases fi:(x==y)
  ·have bG:decide (l=m)=false:=lj λe=>by
    rw[e,av] at Q
    cases Q;rw[beq_self_eq_true] at fi
    cases fi
   refine aX ?_;repeat' (intro h<;>simp only[h,go_sem,go_sem_proc,bl,ay,cX,Q,av,d3,fi,bG,ae,ak,bj,bne,dD]<;>try refine ax ?_ ?_)
  ·obtain rfl:x=y:=eq_of_beq fi;refine aX ?_;repeat' (intro h<;>simp only[h,go_sem,go_sem_proc,bl,ay,cX,Q,av,d3,bT,fi,ae,ak,bj,bne,cP]<;>try refine ax ?_ ?_)
   refine⟨i+1,by omega,by omega,?_,rfl⟩
   rw[g4,g4,bz,Q,av]
 ·have d3:decide ((i:Int)<(D l:Int))=false:=cY
  have he:decide (l=m)=true:=lQ (by
   rw[dr (by omega),dr (by omega)] at bz;exact bz)
  refine aX ?_;repeat' (intro h<;>simp only[h,go_sem,go_sem_proc,bl,ay,cX,d3,he,ak]<;>try refine ax ?_ ?_)
structure acH (E:List Int) (cs:List au) (aq:List bc) (ps:List Rat):Prop where
 n:(D E)<=1000000
 c:(D cs)<=1000000
 h:fq aq
 p:fq (ps.map ao)
 Ba:rf E cs aq (ps.map ao)=true->lN E cs ps
def NA (E:List Int)(cs:List au)(aq:List bc)(ps:List Rat):List Int:=if rf E cs aq (ps.map ao)=true then hx cs ps (D E) else []
abbrev acI:(List Int)×(List au)×(List bc)×(List Rat)×(List (List Int))->List Data:=λ(E,cs,aq,ps,aF)=>[.Y (E.map ae),.Y (cs.map ck),.agg (lP aq (ps.map ao) aF)]
def S2:=cj acI λ(E,cs,aq,ps,aF)=>cM (acH E cs aq ps) (.same (.Y ((NA E cs aq ps).map ae)))
theorem aE4:∀a b,acI a=acI b->a=b:=by
  rintro⟨tc,td,oL,Iq,AV⟩ ⟨te,nr,oM,Ir,AW⟩ h;simp only[a3,Data.Y.injEq,Data.agg.injEq,and_true] at h;obtain⟨G,I,af⟩:=h;obtain⟨rfl,aS,rfl⟩:=anH af;rw[map_inj e9 _ _ G,map_inj q5 _ _ I,map_inj (λ_ _ aT=>rR aT) _ _ aS]
@[go_sem] theorem aE5 (E:List Int)(cs:List au)(aq:List bc)(ps:List Rat)(aF:List (List Int))(H:acH E cs aq ps):S2 [.Y (E.map ae),.Y (cs.map ck),.agg (lP aq (ps.map ao) aF)]=some (.same (.Y ((NA E cs aq ps).map ae))):=(ct aE4 (E,cs,aq,ps,aF)).trans (cR H _)
theorem aE6 (T:bb)(rh:T KK=aU SY)(nS:T D8=aU Nr)(E:List Int)(cs:List au)(aq:List bc)(ps:List Rat)(aF:List (List Int))(H:acH E cs aq ps):WP T XL (.same (.Y ((NA E cs aq ps).map ae))) [.J (.Y (E.map ae)),.J (.Y (cs.map ck)),.J (.agg (lP aq (ps.map ao) aF))]:=by
 refine cu ?_;simp only[XL];have ab:=anq E cs aq (ps.map ao) aF ⟨H.n,H.c,H.h,H.p⟩;have y4:=H.Ba;clear H;unfold NA;rcases fZ:rf E cs aq (ps.map ao)
 ·rw[fZ] at ab;rw[ah (by decide)];simp only[eL] at ab;generalize ps.map ao=Jk at *;refine aX ?_;repeat' (intro h<;>simp only[h,go_sem,go_sem_proc,rh,nS,lP,ab,dD,cZ]<;>try refine ax ?_ ?_)
 rw[fZ] at ab;rw[ad rfl];have X:=ab5 E cs aq ps aF (y4 fZ);simp only[eL] at ab X;generalize ps.map ao=Jk at *;generalize hx cs ps (D E)=S at *;refine aX ?_;repeat' (intro h<;>simp only[h,go_sem,go_sem_proc,rh,nS,lP,ab,X,cP]<;>try refine ax ?_ ?_)
def acJ:=cj Ed λ(a,b)=>cM (dB a/\dB b) (.same (.Y ([ao (a:Rat),ao (b:Rat)].map aH)))
@[go_sem] theorem acK (a:Int)(b:Int)(H:dB a/\dB b):acJ [.int .i64 a,.int .i64 b]=some (.same (.Y ([ao (a:Rat),ao (b:Rat)].map aH))):=(ct KU (a,b)).trans (cR H _)
theorem aE7 (T:bb)(gN:T BI=aU EJ)(a:Int)(b:Int)(H:dB a/\dB b):WP T acC (.same (.Y ([ao (a:Rat),ao (b:Rat)].map aH))) [.J (.int .i64 a),.J (.int .i64 b)]:=by
 refine cu ?_;simp only[acC];obtain⟨G,I⟩:=H;have r6:=acx G;have pJ:=acx I;generalize ao (a:Rat)=A at *;generalize ao (b:Rat)=B at *;obtain⟨⟨cW,de⟩,⟨ej,fa⟩⟩:=A;obtain⟨⟨dh,eH⟩,⟨jz,lM⟩⟩:=B;simp only[aH] at r6 pJ;refine aX ?_;repeat' (intro h<;>simp only[h,go_sem,go_sem_proc,gN,r6,pJ,aH,ev,cZ]<;>try refine ax ?_ ?_)
def oG:List au:=[(1,0,0,5),(0,1,0,5)]
theorem NB:ff [0,0] oG:=⟨by decide,by decide,by decide,by decide⟩
theorem acL {E:List Int}{cs:List au}(X:ff E cs){hq ps:List Rat}(ei:(D hq)=D E)(ai:(D ps)=D cs)(ia:∀x∈hq,0<=x/\dE 460 x)(iF:∀x∈ps,di x){aF:List (List Int)}
  (aJ:lN E cs ps->(∀i,i<(D E)->oF E cs hq ps i=0)->Jl E cs ps aF):Nw E cs hq ps aF:=by
 have aK:=X.iX;have iy:=X.q3;have y4:lN E cs ps:=⟨ai,by omega,by omega,λi=>X.own i,iF⟩
 refine⟨by omega,by omega,⟨by rw[ak];omega,λf aJ=>?_⟩,⟨by rw[ak];omega,λf aJ=>?_⟩,λ_ i M=>⟨y4,M,ei,λx Q=>ig (ia x Q).2 (by omega),?_,λx Q he=>?_⟩,λ_=>aJ y4⟩
 ·obtain⟨x,Q,rfl⟩:=dR.1 aJ;exact k9 (ig (ia x Q).2 (by omega))
 ·obtain⟨x,Q,rfl⟩:=dR.1 aJ;exact k9 (iF x Q)
 ·have:=X.E i
  constructor<;>omega
 ·have hm:hq.getD i 0∈hq:=by
   rw[dX,bs (by omega),DI];exact m2 _
  rw[he];exact⟨X.own i,(ia _ hm).1,(ia _ hm).2⟩
theorem aE8 {n:Int}(ar:0<=n)(h:n<=9):(0:Rat)<=(n:Rat)/\dE 460 (n:Rat):=by
 refine⟨by exact_mod_cast ar,(show dE 4 (n:Rat) from⟨?_,?_⟩).mono (by omega)⟩
 ·rw[Rat.num_intCast];omega
 ·rw[Rat.den_intCast];decide
def g0 (l:List Int):List Rat:=l.map λn:Int=>(n:Rat)
theorem nine {l:List Int}(h:∀x∈l,0<=x/\x<=9):∀q∈g0 l,0<=q/\dE 460 q:=λq hq=>by
 obtain⟨n,aK,rfl⟩:=dR.1 hq;exact aE8 (h n aK).1 (h n aK).2
theorem FI {l:List Int}(h:∀x∈l,0<=x/\x<=9):∀q∈g0 l,di q:=λq hq=>ig (nine h q hq).2 (by omega)
theorem S3 {a b:List Int}(G:(D a)=2)(I:(D b)=2)(aN:∀x∈a,0<=x/\x<=9)(ag:∀x∈b,0<=x/\x<=9):rf [0,0] oG ((g0 a).map ao) ((g0 b).map ao)=true :=
 anG NB.right (by unfold g0;rw[ak,G];rfl) (by unfold g0;rw[ak,I];rfl) (λx Q=>⟨(nine aN x Q).1,ig (nine aN x Q).2 (by omega)⟩) λx Q=>⟨(nine ag x Q).1,FI ag x Q⟩
theorem anJ:hx oG (g0 [2,2]) 2=[0,1]:=by decide +kernel
theorem anK:hx oG (g0 [5,5]) 2=[]:=by decide +kernel
theorem aE9:(h3 oG (g0 [2,2]) (hx oG (g0 [2,2]) 2) 2).length=2:=by decide +kernel
theorem aFa:(h3 oG (g0 [5,5]) (hx oG (g0 [5,5]) 2) 2).length=0:=by decide +kernel
theorem aFb:o9 (oF [0,0] oG (g0 [2,2]) (g0 [2,2])) 2=0:=by decide +kernel
theorem aFc:o9 (oF [0,0] oG (g0 [5,5]) (g0 [5,5])) 2=0:=by decide +kernel
theorem anL:o9 (oF [0,0] oG (g0 [5,4]) (g0 [5,5])) 2=24:=by decide +kernel
theorem aFd:Bd [.Y (([0,0]:List Int).map ae),.Y (oG.map ck),.agg (lP ((g0 [5,5]).map ao) ((g0 [5,5]).map ao) [])]=some (.same (.int .i64 0)):=by
 have h:=Nx [0,0] oG (g0 [5,5]) (g0 [5,5]) [] (acL NB rfl rfl (nine (by decide)) (FI (by decide)) λaE _=>⟨aE,by decide,λr ab=>(by cases ab),by decide,λx=>by rw[show ([0,0]:List Int).length=2 from rfl,anK];rfl⟩);unfold zm at h;rw[ad (S3 rfl rfl (by decide) (by decide)),show ([0,0]:List Int).length=2 from rfl,ad aFc,ad aFa] at h;exact h
theorem aFe:Bd [.Y (([0,0]:List Int).map ae),.Y (oG.map ck),.agg (lP ((g0 [2,2]).map ao) ((g0 [2,2]).map ao) [[0,1]])]=some (.same (.int .i64 24)):=by
 have h:=Nx [0,0] oG (g0 [2,2]) (g0 [2,2]) [[0,1]] (acL NB rfl rfl (nine (by decide)) (FI (by decide)) λaE _=>⟨aE,by decide,by decide,by decide,λx=>by rw[show ([0,0]:List Int).length=2 from rfl,anJ];rfl⟩);unfold zm at h;rw[ad (S3 rfl rfl (by decide) (by decide)),show ([0,0]:List Int).length=2 from rfl,ad aFb,ah (by rw[aE9];decide)] at h;exact h
theorem aFf:Bd [.Y (([0,0]:List Int).map ae),.Y (oG.map ck),.agg (lP ((g0 [5,4]).map ao) ((g0 [5,5]).map ao) [])]=some (.same (.int .i64 24)):=by
 have h:=Nx [0,0] oG (g0 [5,4]) (g0 [5,5]) [] (acL NB rfl rfl (nine (by decide)) (FI (by decide)) λaE _=>⟨aE,by decide,λr ab=>(by cases ab),by decide,λx=>by rw[show ([0,0]:List Int).length=2 from rfl,anK];rfl⟩);unfold zm at h;rw[ad (S3 rfl rfl (by decide) (by decide)),show ([0,0]:List Int).length=2 from rfl,ah (by rw[anL];decide),anL] at h;exact h
theorem aFg:Bd [.Y (([0,0]:List Int).map ae),.Y [],.agg (lP ((g0 [5,5]).map ao) ((g0 [5,5]).map ao) [])]=some (.same (.int .i64 1)):=by
 have gH:rf [0,0] [] ((g0 [5,5]).map ao) ((g0 [5,5]).map ao)=false:=rfl;have cU:fq ((g0 [5,5]).map ao):=⟨by decide,λf aJ=>by obtain⟨x,Q,rfl⟩:=dR.1 aJ;exact k9 (FI (by decide) x Q)⟩
 have h:=Nx [0,0] [] (g0 [5,5]) (g0 [5,5]) [] ⟨by decide,by decide,cU,cU,λh=>absurd h (by rw[gH];decide),λh=>absurd h (by rw[gH];decide)⟩
 unfold zm at h;rw[ah (by rw[gH];decide)] at h;exact h
theorem aFh:S2 [.Y (([0,0]:List Int).map ae),.Y (oG.map ck),.agg (lP ((g0 [2,2]).map ao) ((g0 [2,2]).map ao) [[0,1]])]=some (.same (.Y (([0,1]:List Int).map ae))):=by
 have cU:fq ((g0 [2,2]).map ao):=⟨by decide,λf aJ=>by obtain⟨x,Q,rfl⟩:=dR.1 aJ;exact k9 (FI (by decide) x Q)⟩
 have h:=aE5 [0,0] oG ((g0 [2,2]).map ao) (g0 [2,2]) [[0,1]] ⟨by decide,by decide,cU,cU,λ_=>⟨rfl,by decide,by decide,λi=>NB.own i,FI (by decide)⟩⟩
 unfold NA at h;rw[ad (S3 rfl rfl (by decide) (by decide)),show ([0,0]:List Int).length=2 from rfl,anJ] at h;exact h
abbrev acM:Unit->List Data:=λ(_:Unit)=>[]
def acN:=cj acM λ(_:Unit)=>some (.same (.bool true))
theorem aFi:∀a b,acM a=acM b->a=b:=by
  intro _ _ _;rfl
@[go_sem] theorem aFj :acN []=some (.same (.bool true)):=ct aFi ()
theorem aFk (T:bb)(aFl:T BO=aU acJ)(mX:T BM=aU Bd)(aFm:T Va=aU S2)(aFn:T U9=aU acG):WP T acA (.same (.bool true)) []:=by
 refine cu ?_;simp only[acA];have i2:dB 2:=nJ (by omega) (by omega);have i4:dB 4:=nJ (by omega) (by omega);have i5:dB 5:=nJ (by omega) (by omega);have pJ:=acK 2 2 ⟨i2,i2⟩;have anM:=acK 5 5 ⟨i5,i5⟩;have anN:=acK 5 4 ⟨i5,i4⟩;have ay:=aFd;have aC:=aFe;have cg:=aFf;have dw:=aFg;have cX:=aFh;have bN:=aE2 [0,1] [0,1] ⟨by decide,by decide⟩
 rw[lQ rfl] at bN;simp only[lP,oG,g0,ev,cZ,ae,ck,o5] at pJ anM anN ay aC cg dw cX bN;generalize aH (ao ((5:Int):Rat))=E5 at *;generalize aH (ao ((2:Int):Rat))=Nb at *;generalize aH (ao ((4:Int):Rat))=E4 at *;refine aX ?_;repeat' (intro h<;>simp only[h,go_sem,go_sem_proc,aFl,mX,aFm,aFn,pJ,anM,anN,ay,aC,cg,dw,cX,bN,ev,cZ,beq_self_eq_true]<;>try refine ax ?_ ?_)
theorem aFo {E:List Int}{cs:List au}{aq bE:List bc}{aF:List (List Int)}(h:Df E cs aq bE aF=true):(D E)<=6/\D cs<=12:=by
 unfold Df Nz at h;simp only[eW,uo,anI,decide_eq_false_iff_not] at h;omega
theorem anO {E:List Int}{cs:List au}{aq bE:List bc}{aF:List (List Int)}(h:Df E cs aq bE aF=true):Sx E cs:=by
 obtain⟨G,I⟩:=aFo h;exact⟨by omega,by omega,λab=>⟨ab,G,I,λc H=>((hF.1 ab).2.2.2 c H).2.2.2.2.2.2.2⟩⟩
section
variable {E:List Int} {cs:List au} (X:ff E cs)
include X
end
theorem aFp {x:Rat}:xh false x=(fm,6):=rfl
theorem aFq {x:Rat}:xh true x=(ao x,0):=rfl
def pa (cs:List au)(n:Nat):List au:=(dF n).flatMap λi:Nat=>bK cs (i:Int)
theorem acO (cs:List au)(n:Nat):pa cs (n+1)=pa cs n++bK cs (n:Int):=by
 unfold pa;rw[List.range_succ,List.flatMap_append];simp
theorem aFr (cs:List au){i n:Nat}(h:i<n):∃m,pa cs n=pa cs i++(bK cs (i:Int)++m):=by
 induction n with
 |zero=>omega
 |succ n aA =>
  rw[acO]
  by_cases e:i=n
  ·subst e;exact⟨[],by simp⟩
  ·obtain⟨m,hm⟩:=aA (by omega);exact⟨m++bK cs (n:Int),by rw[hm];simp⟩
theorem aFs {cs:List au}{n:Nat}{c:au}(h:c∈pa cs n):c∈cs:=by
 unfold pa at h;obtain⟨i,-,H⟩:=List.mem_flatMap.1 h;exact (mg.1 H).1
theorem aFt {E:List Int}{cs:List au}(X:ff E cs)(aQ:eg->Rat):cy ((pa cs (D E)).map cG) aQ=cy (aB E cs).dj aQ:=by
 have G:∀n,cy ((pa cs n).map cG) aQ=bF n λi=>cy (aB E cs).dj λc=>if c.aG=i then aQ c else 0:=by
  intro n
  induction n with
  |zero=>rfl
  |succ n aA =>
   rw[acO,List.map_append,Ic,aA,aCT X];rfl
 rw[G,QH (n:=D E) X.ok.aG λ_ c=>aQ c]
theorem aFu {E:List Int}{cs:List au}(X:ff E cs)(x:Nat->Rat)(i:Nat):pL E cs x i (pa cs (D E))=(aB E cs).mR x i:=by
 unfold pL;rw[aFt X];rfl
open Classical in
def Dg (E:List Int)(cs:List au)(hq:List Rat):Data:=if ∃s,tk E cs (λi=>hq.getD i 0) (pa cs (D E)) s then .cH [.Y ((cT (D E) ((aB E cs).mR λi=>hq.getD i 0)).map aH),.bool true] else .cH [.Y [],.bool false]
structure acP (E:List Int) (cs:List au) (hq:List Rat):Prop where
 s:ff E cs
 l:(D hq)=D E
 x:∀x∈hq,0<=x/\dE 460 x
theorem tk.mR {E:List Int}{cs:List au}(X:ff E cs){x:Nat->Rat}{s:Nat->Rat}(h:tk E cs x (pa cs (D E)) s):∀i,i<(D E)->s i=(aB E cs).mR x i:=λi M=>by
 rw[<-aFu X];exact aB3 X.right x i _ _ rfl (λc H=>aFs H) _ (h.a i M)
theorem anP {E:List Int}{cs:List au}{hq:List Rat}(X:ff E cs){s:Nat->Rat}(h:tk E cs (λi=>hq.getD i 0) (pa cs (D E)) s):Dg E cs hq=.cH [.Y ((cT (D E) s).map aH),.bool true]:=by
 unfold Dg;rw[ad ⟨s,h⟩,CS λi M=>(h.mR X i M).symm]
theorem aFv {E:List Int}{cs:List au}{hq:List Rat}{l m:List au}{s:Nat->Rat}(h:tk E cs (λi=>hq.getD i 0) l s){c:au}{t:Nat}(bz:t<D E)(H:c.2.1=(t:Int))(O:lE (s t) (eD cs (hq.getD c.1.toNat 0) c)=false)(aw:pa cs (D E)=(l++[c])++m):Dg E cs hq=.cH [.Y [],.bool false]:=by
 unfold Dg;rw[ah];rintro⟨TE,cx⟩;have G:=cx.a t bz
 have I:qj E cs (λi=>hq.getD i 0) t (l++[c])=none:=by
  rw[FC,h.a t bz];unfold xS;rw[ad H,Option.bind_some,O];rfl
 rw[aw,aB2 I m] at G
 cases G
abbrev acQ:(List Int)×(List au)×(List Rat)->List Data:=λ(E,cs,hq)=>[.Y (E.map ae),.Y (cs.map ck),.Y ((hq.map ao).map aH)]
def S4:=cj acQ λ(E,cs,hq)=>cM (acP E cs hq) (.same (Dg E cs hq))
theorem aFw:∀a b,acQ a=acQ b->a=b:=by
  rintro⟨tc,td,pZ⟩ ⟨te,nr,Ac⟩ h;simp only[a3,Data.Y.injEq,and_true] at h;exact dS (map_inj e9 _ _ h.1) (dS (map_inj q5 _ _ h.2.1) (map_inj (λ_ _ aT=>rR aT) _ _ (map_inj mM _ _ h.2.2)))
@[go_sem] theorem aFx (E:List Int)(cs:List au)(hq:List Rat)(H:acP E cs hq):S4 [.Y (E.map ae),.Y (cs.map ck),.Y ((hq.map ao).map aH)]=some (.same (Dg E cs hq)):=(ct aFw (E,cs,hq)).trans (cR H _)
theorem aFy (T:bb)(gN:T BI=aU EJ)(fX:T D6=aU Na)(gf:T vp=aU yQ)(E:List Int)(cs:List au)(hq:List Rat)(H:acP E cs hq):WP T acB (.same (Dg E cs hq)) [.J (.Y (E.map ae)),.J (.Y (cs.map ck)),.J (.Y ((hq.map ao).map aH))]:=by
 refine cu ?_;simp only[acB];obtain⟨X,aw,Q⟩:=H;have aK:=X.iX;have iy:=X.q3;have ab:=X.right;have Ao:=(hF.1 ab).2.2.2
 have aFz:∀i,i<(D E)->hq.getD i 0∈hq:=λi M=>by
  rw[dX,bs (by omega),DI];exact m2 _
 have Jb:∀i,i<(D E)->(hq.map ao)[i]?=some (ao (hq.getD i 0)):=λi M=>by
  rw[bj,dX,bs (by omega)];rfl
 have vJ:(hq.map ao).length=D E:=by rw[ak];exact aw
 generalize aco:hq.map ao=Bb at *;simp only[go_sem,go_sem_proc,gN,fX,gf,ak];refine dd [0,1,2] [] (λ((i,g):Nat×Nat) tm m=>i<=D E/\tm 9=.J (.int .i64 i)/\tm 8=.ref 375037 g 4 0 i/\m 375037=some (g,a9 aH (cT i λj=>((E.getD j 0:Int):Rat)))) (λ(i,_)=>D E-i) (0,0) (by refine⟨by omega,rfl,rfl,rfl⟩) ?_;intro vs ms aP aO;simp only[go_sem,go_sem_proc,gN,fX,gf,ak] at aP aO;subst aP aO;rintro⟨i,g⟩ tm m O-⟨M,fp,cE,pb⟩;simp only[go_sem,go_sem_proc,gN,fX,gf,a3] at O;obtain⟨bl,ay,aC⟩:=O;rcases dn (i<D E) with az|b4
 ·have d1:decide ((i:Int)<(D E:Int))=true:=c6;have bT:=eA (i:=i) (by omega);obtain⟨y,av⟩:∃y,E[i]?=some y:=⟨_,bs az⟩;have Lo:E.getD i 0=y:=by rw[dX,av];rfl
  have xu:=(hF.1 ab).2.2.1 y (ee av);have hw:=acx (n:=y) (nJ (by omega) (by omega));have aP:=aa8 i λj=>((E.getD j 0:Int):Rat)
  rw[Lo] at aP;have bW:(cT i λj=>((E.getD j 0:Int):Rat)).length=i:=mT _ _;have dz:=λ(aQ:bc) cs kd=>lv lG Co 375037 g 64 (cT i λj=>((E.getD j 0:Int):Rat)) aQ (cs:=cs) kd (by omega) (by omega);simp only[bW] at dz;generalize ao ((y:Int):Rat)=aQ at *;obtain⟨⟨cW,de⟩,⟨ej,fa⟩⟩:=aQ;have o7:=dz ((cW,de),(ej,fa)) _ rfl;rw[<-aP] at o7;simp only[aH,ev,cZ] at o7 hw;refine aX ?_;repeat' (intro h<;>simp only[h,go_sem,go_sem_proc,gN,fX,gf,bl,ay,aC,cE,fp,pb,av,d1,bT,hw,o7,ae,ak,bj]<;>try refine ax ?_ ?_)
  exact⟨(i+1,g+1),by dsimp only;omega,by dsimp only;omega,rfl,rfl,rfl⟩
 have d1:decide ((i:Int)<(D E:Int))=false:=cY;obtain rfl:i=D E:=by omega
 clear b4 M;simp only[go_sem,go_sem_proc,gN,fX,gf,bl,ay,aC,cE,fp,d1,ak]
 refine dd [0,1,2,8] [] (λ((i,s):Nat×(Nat->Rat)) tm m=>i<=D E/\tm 12=.J (.int .i64 i)/\m 375037=some (g,a9 aH (cT (D E) s))/\tk E cs (λi=>hq.getD i 0) (pa cs i) s) (λ(i,_)=>D E-i) (0,λj=>((E.getD j 0:Int):Rat)) (by
  refine⟨by omega,rfl,pb,⟨λi M=>rfl,λi M=>tb (nJ (by have:=X.E i;omega) (by have:=X.E i;omega))⟩⟩) ?_
 intro vs ms aP aO;simp only[go_sem,go_sem_proc,gN,fX,gf,bl,ay,aC,cE,ak] at aP aO;subst aP aO;clear bl ay aC cE fp pb d1;rintro⟨i,s⟩ tm m O-⟨M,eX,pb,tq⟩;simp only[go_sem,go_sem_proc,gN,fX,gf,a3] at O;obtain⟨bl,ay,aC,cE⟩:=O;rcases dn (i<D E) with az|b4
 ·have d1:decide ((i:Int)<(D E:Int))=true:=c6;have bT:=eA (i:=i) (by omega);have aFA:=Jb i az;have HA:=Q _ (aFz i az);have Dx:=aby (hq.getD i 0) (bK cs i) ⟨X.own i,HA.1,HA.2⟩;rw[aki] at Dx;have aFB:∀c∈bK cs i,di (eD cs (hq.getD i 0) c):=λc H=>Sv (λc H=>⟨(Ao c H).2.2.2.2.2.2.1,X.am c H⟩) iy HA.2 (mg.1 H).1;have bX:∀c∈bK cs (i:Int),c.1.toNat=i:=λc H=>by have:=(mg.1 H).2;omega
  obtain⟨il,NX⟩:=aFr cs az;have DA:=acO cs i
  have Bq:∀k,(bK (cs.take k) (i:Int)).length<=12:=λk=>by
   have G:=abS (cs.take k) i;have I:(cs.take k).length<=D cs:=List.length_take_le' ..;omega
  simp only[go_sem,go_sem_proc,gN,fX,gf,bl,ay,aC,cE,eX,d1,vJ,ak];refine dd [0,1,2,8,12] [375037] (λ((k,wh):Nat×Nat) tm m=>k<=D cs/\tm 14=.J (.int .i64 k)/\tm 13=.ref 375069 wh 4 0 (bK (cs.take k) i).length/\m 375069=some (wh,a9 ck (bK (cs.take k) i))) (λ(k,_)=>D cs-k) (0,bZ m 375069) (by refine⟨by omega,rfl,rfl,rfl⟩) ?_;intro vs ms aP aO;simp only[go_sem,go_sem_proc,gN,fX,gf,bl,ay,aC,cE,eX,pb,ak] at aP aO;subst aP aO;clear bl ay aC cE eX pb;rintro⟨k,wh⟩ tm m O hm ⟨pk,xv,gl,NC⟩;simp only[go_sem,go_sem_proc,gN,fX,gf,a3] at O hm;obtain⟨bl,ay,aC,cE,eX⟩:=O;have pb:=hm;rcases dn (k<D cs) with Cx|YK
  ·have d2:decide ((k:Int)<(D cs:Int))=true:=c6;have og:=eA (i:=k) (by omega);obtain⟨⟨aI,c2,c3,c4⟩,vc⟩:∃c,cs[k]?=some c:=⟨_,bs Cx⟩;have ga:cs.take (k+1)=cs.take k++[(aI,c2,c3,c4)]:=by rw[g4,vc];rfl
   have cU:=Bq k;rcases gA:(aI==(i:Int))
   ·have my:bK (cs.take (k+1)) (i:Int)=bK (cs.take k) i:=by
     unfold bK;rw[ga,pI,List.filter_cons_of_neg (by simpa using gA),ot,fv]
    refine aX ?_;repeat' (intro h<;>simp only[h,go_sem,go_sem_proc,gN,fX,gf,bl,ay,aC,cE,eX,gl,xv,pb,vc,d2,og,gA,ck,ak,bj]<;>try refine ax ?_ ?_)
    exact⟨(k+1,wh),by dsimp only;omega,by dsimp only;omega,rfl,by rw[my],by rw[my];exact NC⟩
   ·have my:bK (cs.take (k+1)) (i:Int)=bK (cs.take k) i++[(aI,c2,c3,c4)]:=by
     unfold bK;rw[ga,pI,List.filter_cons_of_pos (by simpa using gA),ot]
    have dz:=lv AQ Rc 375069 wh 32 (bK (cs.take k) (i:Int)) (aI,c2,c3,c4) (cs:=[.J (.int .i64 aI),.J (.int .i64 c2),.J (.int .i64 c3),.J (.int .i64 c4)]) rfl (by omega) (by omega);rw[<-my] at dz;have b2:(bK (cs.take (k+1)) (i:Int)).length=(bK (cs.take k) (i:Int)).length+1:=by rw[my,List.length_append];rfl
    refine aX ?_;repeat' (intro h<;>simp only[h,go_sem,go_sem_proc,gN,fX,gf,bl,ay,aC,cE,eX,gl,xv,pb,NC,vc,dz,d2,og,gA,ck,ak,bj]<;>try refine ax ?_ ?_)
    exact⟨(k+1,wh+1),by dsimp only;omega,by dsimp only;omega,rfl,by rw[b2],rfl⟩
  have d2:decide ((k:Int)<(D cs:Int))=false:=cY;rw[dr (by omega)] at gl NC;have anQ:=λ(K:a8->Prop) (st:a8)=>lx (K:=K) (st:=st) AQ 13 375069 wh (bK cs i);have aNd:(bK cs (i:Int)).length<=12:=by have:=abS cs i;omega
  have nq:((bK cs (i:Int)).map λc=>ao (eD cs (hq.getD i 0) c)).length=(bK cs (i:Int)).length:=ak ..;have xM:((((bK cs (i:Int)).map λc=>ao (eD cs (hq.getD i 0) c)).length:Int)==((bK cs (i:Int)).length:Int))=true:=by rw[nq];exact beq_self_eq_true _
  have acn:∀(k:Nat) (c:au),(bK cs (i:Int))[k]?=some c->((bK cs (i:Int)).map λc=>ao (eD cs (hq.getD i 0) c))[k]?=some (ao (eD cs (hq.getD i 0) c)):=λk c H=>by rw[bj,H];rfl
  generalize aNe:(bK cs (i:Int)).map (λc=>ao (eD cs (hq.getD i 0) c))=PP at *;generalize aNf:ao (hq.getD i 0)=XI at *;obtain⟨⟨a6,bY⟩,⟨c1,ec⟩⟩:=XI;simp only[aH] at Dx;simp only[go_sem,go_sem_proc,gN,fX,gf,bl,ay,aC,cE,eX,gl,xv,pb,NC,d2,anQ,aFA,vJ,az,Dx,xM,aH,ak,bj,bne,beq_self_eq_true,cP]
  refine dd [0,1,2,8,12,13,15] [] (λ((k,s):Nat×(Nat->Rat)) tm m=>k<=(bK cs (i:Int)).length/\tm 17=.J (.int .i64 k)/\m 375037=some (g,a9 aH (cT (D E) s))/\tk E cs (λi=>hq.getD i 0) (pa cs i++(bK cs (i:Int)).take k) s) (λ(k,_)=>(bK cs (i:Int)).length-k) (0,s) (by
   refine⟨by omega,rfl,?_,by rw[List.take_zero,fv];exact tq⟩
   first|exact pb|(simp only[kill,a2,dC,if_false];exact pb)) ?_
  intro vs ms aP aO;simp only[go_sem,go_sem_proc,gN,fX,gf,bl,ay,aC,cE,eX,ak] at aP aO;subst aP aO;clear bl ay aC cE eX gl xv pb NC anQ tq d2 hm;rintro⟨k,s⟩ tm m O-⟨pk,kH,pb,tq⟩;simp only[go_sem,go_sem_proc,gN,fX,gf,a3] at O;obtain⟨bl,ay,aC,cE,eX,gl,oB⟩:=O;rcases dn (k<(bK cs (i:Int)).length) with Cx|YK
  ·have d2:decide ((k:Int)<((bK cs (i:Int)).length:Int))=true:=c6;have og:=eA (i:=k) (by omega);obtain⟨⟨aI,c2,c3,c4⟩,vc⟩:∃c,(bK cs (i:Int))[k]?=some c:=⟨_,bs Cx⟩;have gh:=ee vc;have lp:=Ao _ (mg.1 gh).1;have aFC:=aFB _ gh;have p7:=acn k _ vc;have L3:=bX _ gh;have p6:k<D PP:=by omega
   dsimp only at lp L3;have ga:pa cs i++(bK cs (i:Int)).take (k+1)=pa cs i++(bK cs (i:Int)).take k++[(aI,c2,c3,c4)]:=by rw[g4,vc,<-gb];rfl
   rcases q:decide (c2<0)
   ·obtain⟨j,rfl⟩:∃j:Nat,c2=(j:Int):=⟨c2.toNat,by have:=of_decide_eq_false q;omega⟩
    have aj:j<D E:=by omega
    have fi:decide ((j:Int)>=(D E:Int))=false:=cY;have ye:=tq.l j aj;have hj:=amo ye aFC;have qg:=pG s aj;have S5:(cT (D E) s).length=D E:=mT _ _;rcases fR:lE (s j) (eD cs (hq.getD i 0) (aI,(j:Int),c3,c4))
    ·have gH:=aFv tq aj (c:=(aI,(j:Int),c3,c4)) rfl (by dsimp only;rw[L3];exact fR) (m:=(bK cs (i:Int)).drop (k+1)++il) (by rw[<-ga,NX,gb,<-gb (List.take _ _),List.take_append_drop]);rw[gH];rw[fR,aFp] at hj;generalize cT (D E) s=bL at *;generalize ao (eD cs (hq.getD i 0) (aI,(j:Int),c3,c4))=P at *;generalize ao (s j)=F1 at *;obtain⟨⟨ia,iF⟩,⟨qX,sY⟩⟩:=P;obtain⟨⟨f1,f2⟩,⟨f3,f4⟩⟩:=F1;have t1:=AA qg;have t2:=Az (l:=bL) (k:=j) (by omega);simp only[aH,fm] at hj;have aFD:((6:Int)==0)=false:=rfl;refine aX ?_;repeat' (intro h<;>simp only[h,go_sem,go_sem_proc,gN,fX,gf,bl,ay,aC,cE,eX,gl,oB,kH,pb,vc,p7,p6,d2,q,fi,aj,hj,t1,t2,ck,aH,ak,bj,cZ,aFD,bne,dD]<;>try refine ax ?_ ?_)
    ·have mO:=tq.add (c:=(aI,(j:Int),c3,c4)) rfl (by dsimp only;rw[L3];exact fR);rw[<-ga] at mO;dsimp only at mO;rw[L3] at mO;rw[fR,aFq] at hj;have uR:=aak (N:=D E) (k:=j) s (s j+eD cs (hq.getD i 0) (aI,(j:Int),c3,c4));generalize IG:cT (D E) (λl=>if l=j then s j+eD cs (hq.getD i 0) (aI,(j:Int),c3,c4) else s l)=pD at *;generalize cT (D E) s=bL at *;generalize ao (s j+eD cs (hq.getD i 0) (aI,(j:Int),c3,c4))=aM at *;generalize ao (eD cs (hq.getD i 0) (aI,(j:Int),c3,c4))=P at *;generalize ao (s j)=F1 at *;obtain⟨⟨ia,iF⟩,⟨qX,sY⟩⟩:=P;obtain⟨⟨f1,f2⟩,⟨f3,f4⟩⟩:=F1;obtain⟨⟨cz,cf⟩,⟨g3,jq⟩⟩:=aM;have t1:=AA qg;have t2:=Az (l:=bL) (k:=j) (by omega);have t3:=LO (l:=bL) (k:=j) (by omega) cz cf g3 jq;rw[uR] at t3;simp only[aH] at hj;refine aX ?_;repeat' (intro h<;>simp only[h,go_sem,go_sem_proc,gN,fX,gf,bl,ay,aC,cE,eX,gl,oB,kH,pb,vc,p7,p6,d2,og,q,fi,aj,hj,t1,t2,t3,ck,aH,ak,bj,bne,beq_self_eq_true,cP]<;>try refine ax ?_ ?_)
     exact⟨(k+1,λl=>if l=j then s j+eD cs (hq.getD i 0) (aI,(j:Int),c3,c4) else s l),by dsimp only;omega,by dsimp only;omega,rfl,by rw[IG],mO⟩
   ·have mO:=tq.skip (c:=(aI,c2,c3,c4)) (of_decide_eq_true q);rw[<-ga] at mO;refine aX ?_;repeat' (intro h<;>simp only[h,go_sem,go_sem_proc,gN,fX,gf,bl,ay,aC,cE,eX,gl,oB,kH,pb,vc,d2,og,q,ck,ak,bj]<;>try refine ax ?_ ?_)
    exact⟨(k+1,s),by dsimp only;omega,by dsimp only;omega,rfl,rfl,mO⟩
  have d2:decide ((k:Int)<((bK cs (i:Int)).length:Int))=false:=cY;rw[dr (by omega),<-DA] at tq;refine aX ?_;repeat' (intro h<;>simp only[h,go_sem,go_sem_proc,gN,fX,gf,bl,ay,aC,cE,eX,gl,oB,kH,d2,bT,ak]<;>try refine ax ?_ ?_)
  exact⟨(i+1,s),by dsimp only;omega,by dsimp only;omega,rfl,pb,tq⟩
 have d1:decide ((i:Int)<(D E:Int))=false:=cY;obtain rfl:i=D E:=by omega
 rw[anP X tq];have S5:(cT (D E) s).length=D E:=mT _ _;have anR:=λ(K:a8->Prop) (st:a8)=>lx (K:=K) (st:=st) lG 8 375037 g (cT (D E) s);rw[S5] at anR;refine aX ?_;repeat' (intro h<;>simp only[h,go_sem,go_sem_proc,gN,fX,gf,bl,ay,aC,cE,eX,pb,d1,anR,vJ,ak,beq_self_eq_true]<;>try refine ax ?_ ?_)
def zo (n:Nat):List Data:=[.int .u8 (n:Int)]
theorem aFE:∀a b:Nat,zo a=zo b->a=b:=by
 intro a b h;simp only[zo,a3,Data.int.injEq,and_true,true_and] at h;omega
def S6:=cj Sr λ(l,ai)=>cM (fq l/\fq ai) (.same (.bool (EK l ai)))
@[go_sem] theorem aFF (l:List bc)(ai:List bc)(H:fq l/\fq ai):S6 [.Y (l.map aH),.Y (ai.map aH)]=some (.same (.bool (EK l ai))):=(ct ams (l,ai)).trans (cR H _)
theorem aFG (T:bb)(x0:T Uo=aU Yw)(l:List bc)(ai:List bc)(H:fq l/\fq ai):WP T Z2 (.same (.bool (EK l ai))) [.J (.Y (l.map aH)),.J (.Y (ai.map aH))]:=by
 refine cu ?_;simp only[Z2];obtain⟨⟨b2,N7⟩,cp,TD⟩:=H
 by_cases aw:(D l)=D ai
 ·have ay:(((D l:Nat):Int)==((D ai:Nat):Int))=true:=by simp;omega
  simp only[go_sem,go_sem_proc,x0,ak,ay,cP,bne];refine dd [0,1] [] (λ(i:Nat) tm mem=>i<=D l/\l.take i=ai.take i/\tm 5=.J (.int .i64 i)) (λi=>D l-i) 0 (by refine⟨by omega,by simp,rfl⟩) ?_;intro vs ms aP aO;simp only[go_sem,go_sem_proc,x0,ak] at aP aO;subst aP aO;rintro i tm mem O hm ⟨M,aJ,bm⟩;simp only[go_sem,go_sem_proc,x0,a3] at O;obtain⟨ar,G⟩:=O;rcases dn (i<D l) with az|b4
  ·obtain⟨⟨⟨a,b⟩,⟨c,e⟩⟩,Q⟩:∃f,l[i]?=some f:=⟨_,bs az⟩;obtain⟨⟨⟨jK,fl⟩,⟨c',e'⟩⟩,av⟩:∃f,ai[i]?=some f:=⟨_,bs (by omega)⟩;obtain⟨r6,pJ⟩:=N7 _ (ee Q);obtain⟨wi,wj⟩:=TD _ (ee av);dsimp only at r6 pJ wi wj;have d1:decide ((i:Int)<(D l:Int))=true:=c6;have bT:=eA (i:=i) (by omega);rcases X:Hx ((a,b),(c,e)) ((jK,fl),(c',e'))
   ·have ab:EK l ai=false:=by
     refine lj λh=>of_decide_eq_false X ?_;rw[h,av] at Q;exact (n0 Q).symm
    rw[ab];simp only[go_sem,go_sem_proc,x0,ar,G,bm,Q,av,d1,bT,r6,pJ,wi,wj,X,aH,ak,bj];repeat' (first|refine ax ?_ ?_|fail)<;>intro h<;>simp only[h,go_sem,go_sem_proc,x0,ar,G,bm,Q,av,d1,bT,r6,pJ,wi,wj,X,aH,ak,bj]
   ·simp only[go_sem,go_sem_proc,x0,ar,G,bm,Q,av,d1,bT,r6,pJ,wi,wj,X,aH,ak,bj];repeat' (first|refine ax ?_ ?_|fail)<;>intro h<;>simp only[h,go_sem,go_sem_proc,x0,ar,G,bm,Q,av,d1,bT,r6,pJ,wi,wj,X,aH,ak,bj]
    exact⟨i+1,by omega,by omega,by rw[g4,g4,Q,av,aJ,of_decide_eq_true X],rfl⟩
  ·have d1:decide ((i:Int)<(D l:Int))=false:=cY
   have ab:EK l ai=true:=by
    refine lQ ?_;rw[dr (by omega),dr (by omega)] at aJ;exact aJ
   rw[ab];simp only[go_sem,go_sem_proc,x0,ar,G,bm,d1,ak];repeat' (first|refine ax ?_ ?_|fail)<;>intro h<;>simp only[h,go_sem,go_sem_proc,x0,ar,G,bm,d1,ak]
 ·have ay:(((D l:Nat):Int)==((D ai:Nat):Int))=false:=by simp;omega
  have ab:EK l ai=false:=lj λh=>aw (by rw[h]);rw[ab];simp only[go_sem,go_sem_proc,x0,ak,ay,dD,bne];repeat' (first|refine ax ?_ ?_|fail)<;>intro h<;>simp only[h,go_sem,go_sem_proc,x0,ak,ay,dD,bne]
theorem aFH {p:Nat}(h:p<256):EJ [.int .i64 ((p%9:Nat):Int),.int .i64 8]=some (.same (.cH [.agg (aH (ao ((((p%9:Nat):Int):Rat)/((8:Int):Rat)))),.int .i64 0])):=by
 have aE:dB ((p%9:Nat):Int):=nJ (by omega) (by omega);have ca:dB 8:=nJ (by omega) (by omega);have G:=ag7 ((p%9:Nat):Int) 8 ⟨aE,ca⟩;rw[aj1 aE ca (by decide)] at G;exact G
theorem aFI (p:Nat):(0:Rat)<=(((p%9:Nat):Int):Rat)/((8:Int):Rat)/\dE 8 ((((p%9:Nat):Int):Rat)/((8:Int):Rat)):=by
 have iS:p%9<9:=Nat.mod_lt _ (by omega);have ar:(0:Rat)<=(((p%9:Nat):Int):Rat):=by exact_mod_cast Int.natCast_nonneg _
 refine⟨?_,aiJ (xF (b:=4) (by omega)) (xF (b:=4) (by decide)) (by decide)⟩;rw[Rat.div_def];exact Mc ar (by decide +kernel)
theorem aFJ {l:List Rat}(h:(D l)<=1000)(Q:∀x∈l,di x):fq (l.map ao):=⟨by rw[ak];omega,λf aJ=>by
 obtain⟨x,sw,rfl⟩:=dR.1 aJ;exact k9 (Q x sw)⟩
theorem anS {E:List Int}{cs:List au}(X:ff E cs){hq:List Rat}(aw:(D hq)=D E)(h:cT (D E) ((aB E cs).mR λi=>hq.getD i 0)=hq.map ao):∀i,i<(D E)->hq.getD i 0<=(aB E cs).cr i:=by
 have e:∀i,i<(D E)->(aB E cs).mR (λi=>hq.getD i 0) i=hq.getD i 0:=λi M=>by
  have G:(cT (D E) ((aB E cs).mR λi=>hq.getD i 0))[i]?=(hq.map ao)[i]?:=by rw[h]
  rw[pG _ M,bj,bs (show i<(D hq) by omega),Option.map_some,cl] at G;rw[dX,bs (show i<(D hq) by omega),DI];exact rR G
 exact ax1 X.ok (z:=λi=>hq.getD i 0) λi M=>CH (e i M).symm
theorem aFK {x:Rat}(h:di x)(aJ:qU (ao x) 8=true):dE 460 x:=by
 have:=aCO (d:=8) (Fc h) aJ;rw[Ch] at this;exact this.mono (by omega)
theorem anT (T:bb)(kN:T OR=aU S4)(lh:T OQ=aU S6)(dm:T m7=aU rS)(fY:T DW=aU LJ){K:eT->a8->Prop}{kk:List gu}{E:List Int}{cs:List au}(X:ff E cs)(s:Nat->Rat)(ew:∀j,j<(D E)->0<=s j/\dE 460 (s j))(wz S7:R)(tm:Nat->R)(m:Mem)
  (bl:tm 0=.J (.Y (E.map ae))) (ay:tm 1=.J (.Y (cs.map ck))) (bq:tm 7=.J (.bool true)) (cE:tm 8=.ptr 365008 0 0) (dp:tm 10=.J (.Y ((cT (D E) s).map aH))) (km:tm 16=.J (.int .i64 0))
  (mL:m 365008=some (0,[.J (.Y ((jC E cs).map aH)),wz,S7]))
  (acR:∀tm' m',tm' 6=.J (.bool true)->cD T K kk .ret ⟨tm',m'⟩) (dK:∀tm' m',tm' 7=.J (.bool true)->cD T K kk (.exit 2) ⟨tm',m'⟩) :
  wp T (Ny.body.sub [1,1,1,1,1,1,1,1,0,1,0]) (cD T K kk) ⟨tm,m⟩:=by
 simp only[Ny,eu.sub];have aFL:=X.iX;have aw:(jC E cs).length=D E:=mT _ _;have anU:∀i,i<(D E)->(jC E cs)[i]?=some (ao ((aB E cs).cr i)):=λi M=>pG _ M;have anV:∀i,i<(D E)->di ((aB E cs).cr i):=λi M=>ig (y7 X M) (by omega);have bW:=λhq aw h=>anS X (hq:=hq) aw h;have anW:∀x:Nat->Rat,∀i,i<(D E)->0<=(aB E cs).mR x i:=λx i M=>X.ok.Mj (λc H=>X.ok.Mi x H) M;generalize aFM:(aB E cs).cr=cr at *;generalize jC E cs=I8 at *
 refine dd [0,1,7,8] [365008] (λ((r,hq):Nat×List Rat) tm m=>r<=12/\tm 16=.J (.int .i64 r)/\tm 10=.J (.Y ((hq.map ao).map aH))/\D hq=D E/\∀x∈hq,0<=x/\dE 460 x) (λ(r,_)=>12-r) (0,(dF (D E)).map s) (by
  refine⟨by omega,km,dp,by rw[ak,pW],λx Q=>?_⟩
  obtain⟨j,aj,rfl⟩:=dR.1 Q;exact ew j (gR.1 aj)) ?_
 intro vs ms aP aO;simp only[go_sem,go_sem_proc,bl,ay,bq,cE,mL] at aP aO;subst aP aO;clear bl ay bq cE dp km mL tm m ew;rintro⟨r,hq⟩ tm m O hm ⟨h8,km,dp,vJ,acS⟩;simp only[go_sem,go_sem_proc,a3] at O hm;obtain⟨bl,ay,bq,cE⟩:=O;have mL:=hm;rcases dn (r<12) with az|b4
 ·have d1:decide ((r:Int)<12)=true:=c6;have bT:=eA (i:=r) (by omega);have aE:=aFx E cs hq ⟨X,vJ,acS⟩
  by_cases hex:∃s,tk E cs (λi=>hq.getD i 0) (pa cs (D E)) s
  case neg =>
   unfold Dg at aE;rw[ah hex] at aE;generalize hq.map ao=Bb at *;simp only[go_sem,go_sem_proc,kN,bl,ay,bq,cE,dp,km,d1,aE,dD];exact acR _ _ (by simp only[eE,dC,if_false,if_true,bq])
  obtain⟨s,tq⟩:=hex;rw[anP X tq] at aE;have anX:=tq.mR X;have ye:=tq.l;have aFN:=Q0 (N:=D E) (x:=s) (by omega) ye;have rD:=aFJ (l:=hq) (by omega) λx Q=>ig (acS x Q).2 (by omega);have q4:=aFF (cT (D E) s) (hq.map ao) ⟨aFN,rD⟩;have lV:(cT (D E) s).length=D E:=mT _ _;have aNg:(hq.map ao).length=D E:=by rw[ak];exact vJ
  rcases acT:EK (cT (D E) s) (hq.map ao)
  ·rw[acT] at q4;have qg:=λi (M:i<D E)=>pG (N:=D E) s M
   have su:∀x∈(dF (D E)).map s,(qU (ao x) 8=true->0<=x/\dE 460 x):=λx Q S8=>by
    obtain⟨j,aj,rfl⟩:=dR.1 Q;have np:=gR.1 aj;exact⟨by rw[anX j np];exact anW _ j np,aFK (ye j np) S8⟩
   have dv:cT (D E) s=((dF (D E)).map s).map ao:=rfl;generalize aco:hq.map ao=Bb at *;generalize aFO:cT (D E) s=S9 at *;simp only[go_sem,go_sem_proc,kN,lh,bl,ay,bq,cE,dp,km,d1,aE,q4,ak,cP];refine dd [0,1,7,8,10,16] [365008] (λ(i:Nat) tm m=>i<=D E/\tm 20=.J (.int .i64 i)/\∀j,j<i->qU (ao (s j)) 8=true) (λi=>D E-i) 0 (by refine⟨by omega,rfl,λj aj=>by omega⟩) ?_;intro vs ms aP aO;simp only[go_sem,go_sem_proc,bl,ay,bq,cE,km,mL,ak] at aP aO;subst aP aO;clear bl ay bq cE dp km mL d1 tm;rintro i tm m O hm ⟨M,jB,S8⟩;simp only[go_sem,go_sem_proc,a3] at O hm;obtain⟨bl,ay,bq,cE,dp,km⟩:=O;rcases dn (i<D E) with ha|aFP
   ·have d2:decide ((i:Int)<(D S9:Int))=true:=c6;have og:=eA (i:=i) (by omega);have Q:=qg i ha;have EX:i<D S9:=by omega
    generalize hT:ao (s i)=eK at *;obtain⟨⟨f1,f2⟩,⟨f3,f4⟩⟩:=eK;rcases q:qU ((f1,f2),(f3,f4)) 8
    ·simp only[go_sem,go_sem_proc,fY,bl,ay,bq,cE,dp,km,jB,hm,Q,EX,d2,q,aH,ak,bj,dD];exact acR _ _ (by simp only[eE,dC,if_false,if_true,bq])
    ·simp only[go_sem,go_sem_proc,fY,bl,ay,bq,cE,dp,km,jB,hm,Q,EX,d2,og,q,aH,ak,bj,cP];repeat' (first|refine ax ?_ ?_|fail)<;>intro h<;>simp only[h,go_sem,go_sem_proc,fY,bl,ay,bq,cE,dp,km,jB,hm,Q,EX,d2,og,q,aH,ak,bj,cP]
     exact⟨i+1,by omega,by omega,rfl,λj aj=>by
      by_cases h:j=i
      ·subst h;rw[hT];exact q
      ·exact S8 j (by omega)⟩
   have d2:decide ((i:Int)<(D S9:Int))=false:=cY;obtain rfl:i=D E:=by omega
   simp only[go_sem,go_sem_proc,bl,ay,bq,cE,dp,km,jB,hm,d2,bT,ak];repeat' (first|refine ax ?_ ?_|fail)<;>intro h<;>simp only[h,go_sem,go_sem_proc,bl,ay,bq,cE,dp,km,jB,hm,d2,bT,ak]
   refine⟨(r+1,(dF (D E)).map s),by dsimp only;omega,by dsimp only;omega,rfl,by rw[dv],by rw[ak,pW],λx Q=>?_⟩
   obtain⟨j,aj,rfl⟩:=dR.1 Q;exact su _ Q (S8 j (gR.1 aj))
  ·rw[acT] at q4;have heq:cT (D E) s=hq.map ao:=of_decide_eq_true acT;have hle:=bW hq vJ (by rw[<-CS λi M=>anX i M];exact heq)
   have Jb:∀i,i<(D E)->(hq.map ao)[i]?=some (ao (hq.getD i 0)):=λi M=>by
    rw[bj,dX,bs (by omega)];rfl
   have aFQ:∀i,i<(D E)->di (hq.getD i 0):=λi M=>ig (acS _ (by
    rw[dX,bs (by omega),DI];exact m2 _)).2 (by omega)
   generalize aco:hq.map ao=Bb at *;generalize aFO:cT (D E) s=S9 at *;simp only[go_sem,go_sem_proc,kN,lh,bl,ay,bq,cE,dp,km,d1,aE,q4,ak,cP];refine dd [7,8,10] [365008] (λ(i:Nat) tm m=>i<=D E/\tm 19=.J (.int .i64 i)) (λi=>D E-i) 0 (by refine⟨by omega,rfl⟩) ?_;intro vs ms aP aO;simp only[go_sem,go_sem_proc,bl,ay,bq,cE,dp,km,mL,ak] at aP aO;subst aP aO;clear bl ay bq cE dp km mL d1 tm;rintro i tm m O hm ⟨M,qk⟩;simp only[go_sem,go_sem_proc,a3] at O hm;obtain⟨bq,cE,dp⟩:=O;rcases dn (i<D E) with ha|aFP
   ·have d2:decide ((i:Int)<(D Bb:Int))=true:=c6;have d3:decide ((i:Int)<(D I8:Int))=true:=c6;have og:=eA (i:=i) (by omega);have Q:=Jb i ha;have av:=anU i ha;have hM:=Fg (aFQ i ha) (anV i ha);have gH:decide (l8 (hq.getD i 0) (cr i)>0)=false:=by rw[aaf];have:=hle i ha;exact lj (by grind)
    have b2:i<D Bb:=by omega
    have cp:i<D I8:=by omega
    generalize ao (hq.getD i 0)=A at *;generalize ao (cr i)=B at *;obtain⟨⟨cW,de⟩,⟨ej,fa⟩⟩:=A;obtain⟨⟨dh,eH⟩,⟨jz,lM⟩⟩:=B;simp only[aH] at hM;simp only[go_sem,go_sem_proc,dm,bq,cE,dp,qk,hm,Q,av,b2,cp,d2,d3,og,hM,gH,aH,ak,bj];repeat' (first|refine ax ?_ ?_|fail)<;>intro h<;>simp only[h,go_sem,go_sem_proc,dm,bq,cE,dp,qk,hm,Q,av,b2,cp,d2,d3,og,hM,gH,aH,ak,bj]
    exact⟨i+1,by omega,by omega,rfl⟩
   have d2:decide ((i:Int)<(D Bb:Int))=false:=cY;simp only[go_sem,go_sem_proc,bq,cE,dp,qk,hm,d2,ak];exact acR _ _ (by simp only[eE,dC,if_false,if_true,bq])
 have d1:decide ((r:Int)<12)=false:=cY;simp only[go_sem,go_sem_proc,bl,ay,bq,cE,dp,km,d1];exact dK _ _ (by simp only[eE,dC,if_false,if_true,bq])
abbrev acU:(List Int)×(List au)×(List Nat)->List Data:=λ(E,cs,ri)=>[.Y (E.map ae),.Y (cs.map ck),.Y (ri.map zo)]
def acV:=cj acU λ(E,cs,ri)=>cM (∀p∈ri,p<256) (.same (.bool true))
theorem aFR:∀a b,acU a=acU b->a=b:=by
  rintro⟨tc,td,aNh⟩ ⟨te,nr,aNi⟩ h;simp only[a3,Data.Y.injEq,and_true] at h;exact dS (map_inj e9 _ _ h.1) (dS (map_inj q5 _ _ h.2.1) (map_inj aFE _ _ h.2.2))
@[go_sem] theorem aFS (E:List Int)(cs:List au)(ri:List Nat)(H:∀p∈ri,p<256):acV [.Y (E.map ae),.Y (cs.map ck),.Y (ri.map zo)]=some (.same (.bool true)):=(ct aFR (E,cs,ri)).trans (cR H _)
theorem aFT (T:bb)(nT:T U7=aU acN)(nU:T U8=aU acF)(nV:T UH=aU Sy)(mX:T BM=aU Bd)(gN:T BI=aU EJ)(gk:T tS=aU xg)(kN:T OR=aU S4)(lh:T OQ=aU S6)(dm:T m7=aU rS)(fY:T DW=aU LJ)(E:List Int)(cs:List au)(ri:List Nat)(H:∀p∈ri,p<256):WP T Ny (.same (.bool true)) [.J (.Y (E.map ae)),.J (.Y (cs.map ck)),.J (.Y (ri.map zo))]:=by
 refine cu ?_;simp only[Ny];have r9:=aFj;have cz:=aE0 E cs [] [] [];simp only[lP,cZ] at cz;rcases aJ:Df E cs [] [] []
 ·rw[aJ] at cz;simp only[go_sem,go_sem_proc,nT,nU,nV,mX,gN,gk,kN,lh,dm,fY,r9,cz,dD];repeat' (first|refine ax ?_ ?_|fail)<;>intro h<;>simp only[h,go_sem,go_sem_proc,nT,nU,nV,mX,gN,gk,kN,lh,dm,fY,r9,cz,dD]
 rw[aJ] at cz;rcases Jm:decide ((D ri:Int)>12)
 case true =>
        simp only[go_sem,go_sem_proc,nT,nU,nV,mX,gN,gk,kN,lh,dm,fY,r9,cz,Jm,ak,cP];repeat' (first|refine ax ?_ ?_|fail)<;>intro h<;>simp only[h,go_sem,go_sem_proc,nT,nU,nV,mX,gN,gk,kN,lh,dm,fY,r9,cz,Jm,ak,cP]
 have nq:=of_decide_eq_false Jm;have zj:=amP E cs (anO aJ);unfold I7 at zj;rcases ab:j5 E cs
 ·rw[ah (by rw[ab];decide)] at zj;simp only[go_sem,go_sem_proc,nT,nU,nV,mX,gN,gk,kN,lh,dm,fY,r9,cz,Jm,zj,show ((1:Int)==0)=false from rfl,ak,bne,dD,cP];repeat' (first|refine ax ?_ ?_|fail)<;>intro h<;>simp only[h,go_sem,go_sem_proc,nT,nU,nV,mX,gN,gk,kN,lh,dm,fY,r9,cz,Jm,zj,show ((1:Int)==0)=false from rfl,ak,bne,dD,cP]
 rw[ad ab] at zj;have X:=(anO aJ).r9 ab;have aFL:=X.iX;have iy:=X.q3;have aw:(jC E cs).length=D E:=mT _ _;have aFU:=aEY X;have anU:∀i,i<(D E)->(jC E cs)[i]?=some (ao ((aB E cs).cr i)):=λi M=>pG _ M;have anV:∀i,i<(D E)->di ((aB E cs).cr i):=λi M=>ig (y7 X M) (by omega);have AD:∀i,i<(D E)->0<=(aB E cs).cr i/\dE 428 ((aB E cs).cr i):=λi M=>⟨Ii X.ok M,y7 X M⟩;have bW:=λhq aw h=>anS X (hq:=hq) aw h;have aFV:jC E cs=cT (D E) (aB E cs).cr:=rfl;have eS:((jC E cs).map aH).flatten.map R.J=a9 aH (jC E cs):=rfl
 have dz:mq 365047 0 4 0 64 (D E) (a9 aH (jC E cs)) (some (0,[]))=some (.ref 365047 1 4 0 (D E),some (365047,1,a9 aH (jC E cs))):=by
  have:=DO lG Co 365047 0 64 [] (jC E cs) (by simp;omega) (by simp;omega)
  simpa [a9,aw] using this
 have ry:(((jC E cs).map aH).all λe=>D e==4)=true:=by
  rw[lU];intro e he;obtain⟨f,-,rfl⟩:=dR.1 he
  rfl
 have anW:∀x:Nat->Rat,∀i,i<(D E)->0<=(aB E cs).mR x i:=λx i M=>X.ok.Mj (λc H=>X.ok.Mi x H) M;generalize aFM:(aB E cs).cr=cr at *;generalize (aB E cs).js.map tl=S7 at *;generalize aFW:jC E cs=I8 at *;generalize zf E cs=wz at *;simp only[go_sem,go_sem_proc,nT,nU,nV,mX,gN,gk,kN,lh,dm,fY,r9,cz,Jm,zj,aFU,eS,ry,dz,aw,ak,bne,beq_self_eq_true,dD,cP]
 refine dd [0,1,2,7,8,10] [365008] (λ((i,s):Nat×(Nat->Rat)) tm m=>i<=D E/\tm 11=.J (.int .i64 i)/\m 365047=some (1,a9 aH (cT (D E) s))/\(∀j,j<(D E)->0<=s j/\dE 460 (s j))/\∀j,i<=j->s j=cr j) (λ(i,_)=>D E-i) (0,cr) (by
  refine⟨by omega,rfl,?_,λj aj=>⟨(AD j aj).1,(AD j aj).2.mono (by omega)⟩,λj _=>rfl⟩
  rw[<-aFV];rfl) ?_
 intro vs ms aP aO;simp only[go_sem,go_sem_proc,nT,nU,nV,mX,gN,gk,kN,lh,dm,fY,ak] at aP aO;subst aP aO;rintro⟨i,s⟩ tm m O hm ⟨M,hH,Ta,ew,anY⟩;simp only[go_sem,go_sem_proc,nT,nU,nV,mX,gN,gk,kN,lh,dm,fY,a3] at O hm;obtain⟨bl,ay,aC,bq,cE,dp⟩:=O;have mL:=hm;have S5:(cT (D E) s).length=D E:=mT _ _;have pT:i<(D E)->i<(D ri)->decide ((i:Int)<(D E:Int))=true/\decide ((i:Int)<(D ri:Int))=true:=λG I=>⟨c6,c6⟩
 by_cases LV:i<D E/\i<D ri
 ·obtain⟨G,I⟩:=LV;obtain⟨d1,d2⟩:=pT G I;have bT:=eA (i:=i) (by omega);obtain⟨p,aE⟩:∃p,ri[i]?=some p:=⟨_,bs I⟩;have aFX:=H p (ee aE)
  have anZ:IntKind.i64.wrap (((p:Nat):Int).tmod 9)=((p%9:Nat):Int):=by
   rw[show ((p:Nat):Int).tmod 9=((p%9:Nat):Int) from rfl,wrap64 _ (by omega) (by omega)]
  have xU:=aFH aFX;obtain⟨n9,acW⟩:=aFI p;obtain⟨G6,acX⟩:=AD i G;have J3:=anY i (b0 _);have yF:=aae (ig acX (by omega)) (ig acW (by omega)) (QY acX acW (by omega));have aFY:=H6 acX acW;have kf:=Mc G6 n9;have qg:=pG s G;rw[J3] at qg;have uR:=aak (N:=D E) (k:=i) s (cr i*((((p%9:Nat):Int):Rat)/((8:Int):Rat)));generalize (((p%9:Nat):Int):Rat)/((8:Int):Rat)=q at *
  have qV:(∀j,j<(D E)->0<=(if j=i then cr i*q else s j)/\dE 460 (if j=i then cr i*q else s j))/\∀j,i+1<=j->(if j=i then cr i*q else s j)=cr j:=by
   refine⟨λj aj=>?_,λj aj=>?_⟩
   ·by_cases h:j=i
    ·rw[ad h];exact⟨kf,aFY.mono (by omega)⟩
    ·rw[ah h];exact ew j aj
   ·rw[ah (by omega)];exact anY j (by omega)
  generalize IG:cT (D E) (λl=>if l=i then cr i*q else s l)=pD at *;generalize cT (D E) s=bL at *;generalize ao (cr i*q)=aM at *;generalize ao q=P at *;generalize ao (cr i)=F1 at *;obtain⟨⟨ia,iF⟩,⟨qX,sY⟩⟩:=P;obtain⟨⟨f1,f2⟩,⟨f3,f4⟩⟩:=F1;obtain⟨⟨ani,anj⟩,⟨aFZ,aF0⟩⟩:=aM;have t1:=AA qg;have t2:=Az (l:=bL) (k:=i) (by omega);have t3:=LO (l:=bL) (k:=i) (by omega) ani anj aFZ aF0;rw[uR] at t3;simp only[aH] at xU yF;simp only[go_sem,go_sem_proc,nT,nU,nV,mX,gN,gk,kN,lh,dm,fY,bl,ay,aC,bq,cE,dp,hH,mL,Ta,aE,anZ,d1,d2,bT,G,xU,yF,t1,t2,t3,zo,aH,ak,bj,bne,beq_self_eq_true,cP];repeat' (first|refine ax ?_ ?_|fail)<;>intro h<;>simp only[h,go_sem,go_sem_proc,nT,nU,nV,mX,gN,gk,kN,lh,dm,fY,bl,ay,aC,bq,cE,dp,hH,mL,Ta,aE,anZ,d1,d2,bT,G,xU,yF,t1,t2,t3,zo,aH,ak,bj,bne,beq_self_eq_true,cP]
  exact⟨(i+1,λl=>if l=i then cr i*q else s l),by dsimp only;omega,by dsimp only;omega,rfl,by rw[IG],qV.1,qV.2⟩
 have q8:=λ(K:a8->Prop) (st:a8)=>lx (K:=K) (st:=st) lG 10 365047 1 (cT (D E) s);rw[S5] at q8
 have yd:(decide ((i:Int)<(D E:Int))=true/\decide ((i:Int)<(D ri:Int))=false)\/decide ((i:Int)<(D E:Int))=false:=by
  by_cases G:i<D E
  ·exact .inl ⟨c6,cY⟩
  ·exact .inr (cY)
 rw[<-aFW] at mL;rcases yd with ⟨d1,d2⟩|d1
 ·simp only[go_sem,go_sem_proc,nT,nU,nV,mX,gN,gk,kN,lh,dm,fY,bl,ay,aC,bq,cE,dp,hH,mL,Ta,d1,d2,q8,ak];refine anT T kN lh dm fY X s ew (.J (.Y (wz.map aH))) (.J (.Y S7)) _ _ ?_ ?_ ?_ ?_ ?_ ?_ ?_ ?_ ?_
  all_goals first|(intro Fs cJ gK)|(simp only[eE,dC,if_false,if_true,bl,ay,aC,bq,cE,dp,hH];done)|(simp only[kill,a2,dC,if_false];exact mL)|skip
  ·simp only[go_sem,go_sem_proc,nT,nU,nV,mX,gN,gk,kN,lh,dm,fY,gK];repeat' (first|refine ax ?_ ?_|fail)<;>intro h<;>simp only[h,go_sem,go_sem_proc,nT,nU,nV,mX,gN,gk,kN,lh,dm,fY,gK]
  ·simp only[go_sem,go_sem_proc,nT,nU,nV,mX,gN,gk,kN,lh,dm,fY,gK];repeat' (first|refine ax ?_ ?_|fail)<;>intro h<;>simp only[h,go_sem,go_sem_proc,nT,nU,nV,mX,gN,gk,kN,lh,dm,fY,gK]
 ·simp only[go_sem,go_sem_proc,nT,nU,nV,mX,gN,gk,kN,lh,dm,fY,bl,ay,aC,bq,cE,dp,hH,mL,Ta,d1,q8,ak];refine anT T kN lh dm fY X s ew (.J (.Y (wz.map aH))) (.J (.Y S7)) _ _ ?_ ?_ ?_ ?_ ?_ ?_ ?_ ?_ ?_
  all_goals first|(intro Fs cJ gK)|(simp only[eE,dC,if_false,if_true,bl,ay,aC,bq,cE,dp,hH];done)|(simp only[kill,a2,dC,if_false];exact mL)|skip
  ·simp only[go_sem,go_sem_proc,nT,nU,nV,mX,gN,gk,kN,lh,dm,fY,gK];repeat' (first|refine ax ?_ ?_|fail)<;>intro h<;>simp only[h,go_sem,go_sem_proc,nT,nU,nV,mX,gN,gk,kN,lh,dm,fY,gK]
  ·simp only[go_sem,go_sem_proc,nT,nU,nV,mX,gN,gk,kN,lh,dm,fY,gK];repeat' (first|refine ax ?_ ?_|fail)<;>intro h<;>simp only[h,go_sem,go_sem_proc,nT,nU,nV,mX,gN,gk,kN,lh,dm,fY,gK]
theorem aF1 {es:List (List Data)}(h:∀x∈es,Fit (.int .u8) x):∃l:List Nat,es=l.map zo/\∀p∈l,p<256 :=
 OB (e:=zo) (good:=λp=>p<256) λx Q=>by
  have:=h x Q;simp only[Fit] at this;obtain⟨n,rfl,w⟩:=this;obtain⟨m,rfl,hm⟩:=aun w;exact⟨m,rfl,hm⟩
end Go.Mini
namespace Go.Mini
open Go Go.Proofs
theorem mixed:Tryz.prog.follows .mixedOrders=true:=by kernel_rfl
abbrev acY:Option eN->(eN->Prop)->Prop
 |some r,aM=>aM r
 |none,_=>True
theorem c0 {c:Prop}{r:eN}{aM:eN->Prop}(h:c->aM r):acY (cM c r) aM:=by
 by_cases H:c
 ·rw[cR H];exact h H
 ·have:cM c r=none:=ah H;rw[this];trivial
abbrev cw:=tL Tryz.prog
theorem x1 (mf : bP)(kb : Nat)(own : List Nat){α : Type}{args : α -> List Data}{res : α -> Option eN}{l : List (FuncId × (List Data -> Option eN))}{e : List (FuncId × (List R -> Mem -> Option g7))}(aw : ∀ p ∈ l, tL Tryz.prog p.1 p.2)(he : ∀ p ∈ e, kF Tryz.prog p.1 p.2){f : FuncId}{fn : Func}(aJ : Tryz.prog.funcs[f]? = some fn)(h : ∀ a, acY (res a) fun r => Nat.ble (args a).length mf.n = true /\ wp (xp (Oz l) (Qi e)) mf.body (zN mf.res r) ⟨ka ((args a).map .J), emp⟩)(aK : (fn.name == "runtime.NumGoroutine", sr Tryz.prog kb own fn) = (false, some { mf with body := erase mf.body }) := by kernel_rfl): cw f (cj args res) := aqL (rV (rF aw) (rW he)) mixed aJ (congrArg Prod.fst aK) (congrArg Prod.snd aK) fun ds r ab => by
 obtain⟨a,rfl,I⟩:=aq1 ab;have af:=h a;rw[I] at af;exact⟨tr af.1,af.2⟩
theorem cK (mf : bP)(kb : Nat)(own : List Nat){α : Type}{args : α -> List Data}{res : α -> Option eN}{l : List (FuncId × (List Data -> Option eN))}(aw : ∀ p ∈ l, tL Tryz.prog p.1 p.2){f : FuncId}{fn : Func}(aJ : Tryz.prog.funcs[f]? = some fn)(h : ∀ a, acY (res a) fun r => Nat.ble (args a).length mf.n = true /\ wp (xp (Oz l) (Qi [])) mf.body (zN mf.res r) ⟨ka ((args a).map .J), emp⟩)(aK : (fn.name == "runtime.NumGoroutine", sr Tryz.prog kb own fn) = (false, some { mf with body := erase mf.body }) := by kernel_rfl): cw f (cj args res) := x1 mf kb own aw lH aJ h aK
theorem bh {lZ:FuncId->Option (List Data->Option eN)}{sS:FuncId->Option (List R->Mem->Option g7)}{f:FuncId}{aQ:List Data->Option eN}(G:sS f=none:=by rfl)(I:lZ f=some aQ:=by rfl):xp lZ sS f=aU aQ:=nC G I
theorem Jn:cw qG z0:=cK Ec 177000 [] b7 Tryz.func190 λa1=>c0 λH=>⟨rfl,arR _  a1 H⟩
theorem Jo:kF Tryz.prog qG (BH vz):=Kt.aha (aeX (mf:=Ec) (kb:=177000) (own:=[]) (rV (rF b7) (rW lH)) mixed Tryz.func190 (by kernel_rfl) (by kernel_rfl) λargs mem x h=>by
 obtain⟨a,⟨rfl,hm,aw⟩,rfl⟩:=Uj h;exact⟨tr rfl,arS _ a.l a.k a.g mem hm aw⟩)
theorem an0:cw D3 O2:=cK Vv 184000 [] b7 Tryz.func194 λa1=>⟨rfl,arT _  a1⟩
theorem an1:cw GC O3:=cK Vt 174000 [] (a4 an0 b7) Tryz.func159 fun⟨a1,a6⟩=>⟨rfl,arU _ bh a1 a6⟩
theorem aF2:cw UF VN:=cK Vu 179000 [] b7 Tryz.func195 λa1=>c0 λH=>⟨rfl,arW _  a1 H⟩
theorem ND:cw vt BQ:=cK VC 156000 [5] b7 Tryz.func94 λa1=>c0 λH=>⟨rfl,arX _  a1 H⟩
theorem Be:cw k0 wW:=cK Vc 136000 [] b7 Tryz.func146 fun⟨a1,a6⟩=>c0 λH=>⟨rfl,arY _  a1 a6 H⟩
theorem Jp:cw pr BS:=x1 Vl 158000 [] (a4 Jn b7) (oZ Jo lH) Tryz.func150 fun⟨a1,a6⟩=>c0 λH=>⟨rfl,ar0 _ (Hy rfl rfl) a1 a6 H⟩
theorem acZ:cw D0 KX:=cK Vr 175000 [] (a4 an1 b7) Tryz.func160 fun⟨a1,a6⟩=>c0 λH=>⟨rfl,ar3 _ bh a1 a6 H⟩
theorem an2:cw KB O7:=x1 Vp 172000 [] (a4 Jn b7) (oZ Jo lH) Tryz.func157 fun⟨a1,a6⟩=>c0 λH=>⟨rfl,ar4 _ (Hy rfl rfl) a1 a6 H⟩
theorem an3:cw GA O8:=x1 Vq 173000 [10] (a4 ND (a4 Jn b7)) (oZ Jo lH) Tryz.func158 fun⟨a1,a6⟩=>c0 λH=>⟨rfl,ar6 _ bh (Hy rfl rfl) a1 a6 H⟩
theorem an4:cw Gz O9:=x1 Vo 161000 [] (a4 Jn b7) (oZ Jo lH) Tryz.func151 fun⟨a1,a6⟩=>c0 λH=>⟨rfl,ar9 _ (Hy rfl rfl) a1 a6 H⟩
theorem aF3:cw OK V0:=x1 Vs 176000 [] (a4 Jn b7) (oZ Jo lH) Tryz.func192 fun⟨a1,a6⟩=>c0 λH=>⟨rfl,asb _ (Hy rfl rfl) a1 a6 H⟩
theorem aF4:kF Tryz.prog UE (BH K3):=Kt.aha (aeX (mf:=OT) (kb:=178000) (own:=[]) (rV (rF b7) (rW lH)) mixed Tryz.func193 (by kernel_rfl) (by kernel_rfl) λargs mem x h=>by
 obtain⟨a,⟨rfl,H⟩,rfl⟩:=Uj h;exact⟨tr rfl,asj _ a mem H⟩)
theorem an5:cw Kz Pj:=x1 Vk 157000 [54] (a4 acZ (a4 ND (a4 aF3 (a4 Jn (a4 an4 b7))))) (oZ Jo (oZ aF4 lH)) Tryz.func156 fun⟨a1,a6⟩=>c0 λH=>⟨rfl,asv _ bh bh bh (Hy rfl rfl) bh (uq rfl rfl) a1 a6 H⟩
theorem ac0:cw vr K9:=cK Vj 155000 [] b7 Tryz.func149 fun⟨a1,a6,bY⟩=>⟨rfl,as4 _  a1 a6 bY⟩
theorem an6:cw Gy PA:=cK Vg 152000 [] (a4 Be (a4 ND (a4 Jp b7))) Tryz.func91 fun⟨a1,a6⟩=>c0 λH=>⟨rfl,as5 _ bh bh bh a1 a6 H⟩
theorem Tb:cw vq Hb:=cK Ve 140000 [] (a4 Be (a4 an4 (a4 Jp (a4 ac0 b7)))) Tryz.func85 fun⟨a1,a6,bY,c1⟩=>c0 λH=>⟨rfl,as6 _ bh bh bh bh a1 a6 bY c1 H⟩
theorem aF5:cw UB Wv:=cK Vn 160000 [] (a4 Be (a4 aF2 (a4 an2 (a4 an3 (a4 acZ (a4 Jp (a4 ac0 b7))))))) Tryz.func161 fun⟨a1,a6,bY,c1⟩=>c0 λH=>⟨rfl,as7 _ bh bh bh bh bh bh bh a1 a6 bY c1 H⟩
theorem aF6:cw Uz Ww:=cK Vi 154000 [] (a4 Be (a4 an1 (a4 acZ b7))) Tryz.func89 fun⟨a1,a6,bY,c1⟩=>c0 λH=>⟨rfl,as8 _ bh bh bh a1 a6 bY c1 H⟩
theorem an7:cw Kx PD:=cK Vd 137000 [] (a4 Be (a4 ND (a4 an5 (a4 Jp (a4 ac0 b7))))) Tryz.func147 fun⟨a1,a6,bY,c1⟩=>c0 λH=>⟨rfl,as9 _ bh bh bh bh bh a1 a6 bY c1 H⟩
theorem an8:cw DY PJ:=cK Vh 153000 [] (a4 Be (a4 an5 (a4 an2 (a4 an3 (a4 Jp b7))))) Tryz.func88 fun⟨a1,a6,bY,c1⟩=>c0 λH=>⟨rfl,atb _ bh bh bh bh bh a1 a6 bY c1 H⟩
theorem aF7:cw OH WH:=cK Vf 150000 [] (a4 Jp b7) Tryz.func165 λa1=>c0 λH=>⟨rfl,atg _ bh a1 H⟩
theorem aF8:cw UA WI:=cK Vm 159000 [] (a4 Be b7) Tryz.func189 fun⟨a1,a6⟩=>c0 λH=>⟨rfl,atj _ bh a1 a6 H⟩
theorem aF9:cw Us WW:=cK WR 138000 [] (a4 aF8 b7) Tryz.func148 fun⟨a1,a6⟩=>c0 λH=>⟨rfl,ato _ bh a1 a6 H⟩
theorem Bf:cw l3 vN:=cK WK 116000 [] (a4 Be (a4 an7 (a4 aF9 b7))) Tryz.func84 fun⟨a1,a6,bY,c1⟩=>c0 λH=>⟨rfl,atq _ bh bh bh a1 a6 bY c1 H⟩
theorem an9:cw Ky PT:=cK WU 149000 [] (a4 Be (a4 an6 (a4 an7 (a4 an8 b7)))) Tryz.func152 fun⟨a1,a6,bY,c1⟩=>c0 λH=>⟨rfl,ats _ bh bh bh bh a1 a6 bY c1 H⟩
theorem Tc:cw zX ED:=cK WM 130000 [] (a4 aF7 (a4 an9 b7)) Tryz.func96 fun⟨a1,a6⟩=>c0 λH=>⟨rfl,att _ bh bh a1 a6 H⟩
theorem aGa:cw Ut W0:=cK WS 139000 [] (a4 Tb (a4 aF5 b7)) Tryz.func90 fun⟨a1,a6,bY,c1,ec,iD,mW,oD⟩=>c0 λH=>⟨rfl,atG _ bh bh a1 a6 bY c1 ec iD mW oD H⟩
theorem ac1:cw DX Lm:=cK WT 141000 [] (a4 an9 b7) Tryz.func86 fun⟨a1,a6,bY,c1,ec,iD⟩=>c0 λH=>⟨rfl,atI _ bh a1 a6 bY c1 ec iD H⟩
theorem NF:cw vp yQ:=cK WL 119000 [] (a4 Bf (a4 aGa (a4 Tb (a4 ac1 b7)))) Tryz.func40 fun⟨a1,a6,bY,c1,ec,iD,mW,oD⟩=>c0 λH=>⟨rfl,atK _ bh bh bh bh a1 a6 bY c1 ec iD mW oD H⟩
theorem ac2:cw yv Al:=cK WN 132000 [] (a4 Bf (a4 an6 (a4 NF b7))) Tryz.func43 fun⟨a1,a6,bY,c1,ec,iD,mW,oD⟩=>c0 λH=>⟨rfl,atM _ bh bh bh a1 a6 bY c1 ec iD mW oD H⟩
theorem Td:cw tS xg:=cK WO 134000 [] (a4 Bf (a4 Tb (a4 ac1 b7))) Tryz.func36 fun⟨a1,a6,bY,c1,ec,iD,mW,oD⟩=>c0 λH=>⟨rfl,atO _ bh bh bh a1 a6 bY c1 ec iD mW oD H⟩
theorem aoa:cw DZ EF:=cK WV 169000 [] (a4 Bf (a4 Tb (a4 ac1 b7))) Tryz.func155 fun⟨a1,a6,bY,c1,ec,iD,mW,oD⟩=>c0 λH=>⟨rfl,atQ _ bh bh bh a1 a6 bY c1 ec iD mW oD H⟩
theorem Dh:cw m7 rS:=cK WQ 135000 [] (a4 Bf (a4 an8 (a4 aF6 b7))) Tryz.func38 fun⟨a1,a6,bY,c1,ec,iD,mW,oD⟩=>c0 λH=>⟨rfl,atX _ bh bh bh a1 a6 bY c1 ec iD mW oD H⟩
theorem aob:cw oT P2:=cK Xe 125000 [] (a4 Bf b7) Tryz.func233 fun⟨a1,a6,bY,c1⟩=>c0 λH=>⟨rfl,at3 _ bh a1 a6 bY c1 H⟩
theorem aGb:cw wS XN:=cK Xv 294000 [] (a4 Bf b7) Tryz.func116 fun⟨a1,a6,bY,c1⟩=>c0 λH=>⟨rfl,at5 _ bh a1 a6 bY c1 H⟩
theorem aGc:cw vy XP:=cK XG 309000 [] (a4 aGb b7) Tryz.func174 fun⟨a1,a6,bY,c1⟩=>c0 λH=>⟨rfl,at8 _ bh a1 a6 bY c1 H⟩
theorem aGd:cw Uw XR:=cK GJ 146000 [] (a4 aob (a4 aGc b7)) Tryz.func201 fun⟨a1,a6⟩=>c0 λH=>⟨rfl,aub _ bh (λh=>absurd h (by decide)) (λ_=>bh) a1 a6 H⟩
theorem aoc:cw Kw LA:=cK Vy 128000 [] (a4 aGd b7) Tryz.func173 fun⟨a1,a6⟩=>c0 λH=>⟨rfl,aue _ bh a1 a6 H⟩
theorem aGe:cw BJ XT:=cK Xf 127000 [] (a4 aob (a4 aoc b7)) Tryz.func235 fun⟨a1,a6,bY,c1,ec,iD⟩=>c0 λH=>⟨rfl,auh _ bh bh a1 a6 bY c1 ec iD H⟩
theorem aGf:cw Uv XU:=cK VA 145000 [] (a4 aGe b7) Tryz.func239 fun⟨a1,a6⟩=>c0 λH=>⟨rfl,aui _ bh a1 a6 H⟩
theorem aGg:cw Up XV:=cK Vx 126000 [] (a4 aGf b7) Tryz.func234 fun⟨a1,a6⟩=>c0 λH=>⟨rfl,auj _ bh a1 a6 H⟩
theorem aGh:cw Um XW:=cK Xc 108000 [] (a4 aGg b7) Tryz.func224 fun⟨a1,a6⟩=>c0 λH=>⟨rfl,aul _ bh a1 a6 H⟩
theorem aGi:kF Tryz.prog BK (Cs Aw):=auY (mf:=P0) (kb:=168000) (own:=[]) (rV (rF b7) (rW lH)) mixed Tryz.func241 (by kernel_rfl) (by kernel_rfl) Qk λargs mem r k g i d h=>by
 obtain⟨G,I,af,aS,bm⟩:=auZ _ args mem r k g i d h;exact⟨G,I,af,aS,bm⟩
theorem aGj:cw KA Qj:=cK Xg 167000 [] b7 Tryz.func240 fun⟨a1,a6,bY,c1⟩=>⟨rfl,LL _  a1 a6 bY c1⟩
theorem aGk:kF Tryz.prog Ux (pB LZ):=EL (mf:=yT) (kb:=148000) (own:=[3000106,3000165,3000169]) (rV (rF (a4 aGj (a4 aoa (a4 ac2 (a4 Td b7))))) (rW (oZ aGi lH))) mixed Tryz.func237 (by kernel_rfl) (by kernel_rfl) λargs mem bL h=>by
 obtain⟨a,rfl,⟨G,I,af,aS,bm,bV,bQ⟩,rfl⟩:=avG h;exact⟨tr rfl,avu _ (nC rfl rfl) (uq rfl rfl) (nC rfl rfl) (nC rfl rfl) (nC rfl rfl) a.go a.N a.rows a.r a.c mem G I af aS bm bV bQ⟩
theorem aGl:cw OG Qu:=cK VB 147000 [5] b7 Tryz.func236 λa1=>c0 λH=>⟨rfl,avI _  a1 H⟩
theorem aGm:cw Uq Qy:=x1 Lw 129000 [29,34] (a4 aGl b7) (oZ aGk lH) Tryz.func225 fun⟨a1,a6,bY⟩=>c0 λH=>⟨rfl,avX _ bh (uq rfl rfl) a1 a6 bY H⟩
theorem aGn:cw Un Y1:=cK Xd 109000 [] (a4 aGh (a4 aGm b7)) Tryz.func215 fun⟨a1,a6⟩=>c0 λH=>⟨rfl,av3 _ bh bh a1 a6 H⟩
theorem aGo:cw UD Y8:=cK Y4 171000 [] b7 Tryz.func232 λa1=>c0 λH=>⟨rfl,av7 _  a1 H⟩
theorem aGp:cw Uy Y9:=cK Y3 151000 [] (a4 aGo b7) Tryz.func223 λa1=>c0 λH=>⟨rfl,av8 _ bh a1 H⟩
theorem aGq:cw Ur Zc:=cK Vz 131000 [] (a4 aGp b7) Tryz.func214 fun⟨a1,a6,bY,c1,ec⟩=>c0 λH=>⟨rfl,awi _ bh a1 a6 bY c1 ec H⟩
theorem NG:cw tT Cp:=cK X5 183000 [18] b7 Tryz.func188 λa1=>c0 λH=>⟨rfl,auo _  a1 H⟩
theorem Te:cw tU Ho:=cK X8 187000 [] b7 Tryz.func200 fun⟨a1,a6⟩=>c0 λH=>⟨rfl,aur _  a1 a6 H⟩
theorem aGr:cw OL P9:=cK X6 185000 [] (a4 Te b7) Tryz.func182 fun⟨a1,a6⟩=>c0 λH=>⟨rfl,aut _ bh a1 a6 H⟩
theorem aGs:cw UG Yd:=cK X3 181000 [] (a4 Te (a4 NG b7)) Tryz.func181 fun⟨a1,a6⟩=>c0 λH=>⟨rfl,auv _ bh bh a1 a6 H⟩
theorem aod:cw KD Qa:=cK X4 182000 [] (a4 Te (a4 NG b7)) Tryz.func183 fun⟨a1,a6⟩=>c0 λH=>⟨rfl,auw _ bh bh a1 a6 H⟩
theorem aGt:cw KE Qb:=cK X7 186000 [] (a4 Te (a4 NG b7)) Tryz.func170 fun⟨a1,a6⟩=>c0 λH=>⟨rfl,auy _ bh bh a1 a6 H⟩
theorem aoe:cw KC Qc:=cK LB 180000 [26] (a4 NG (a4 aGt (a4 aGr (a4 aod b7)))) Tryz.func187 fun⟨a1,a6⟩=>c0 λH=>⟨rfl,auF _ bh bh bh bh a1 a6 H⟩
theorem Tf:cw vv Hv:=cK X2 166000 [] (a4 NG b7) Tryz.func145 fun⟨a1,a6⟩=>c0 λH=>⟨rfl,auH _ bh a1 a6 H⟩
theorem Tg:cw vu Hw:=cK XY 162000 [] b7 Tryz.func141 fun⟨a1,a6⟩=>c0 λH=>⟨rfl,auI _  a1 a6 H⟩
theorem aGu:cw OI Yl:=cK XZ 163000 [] (a4 Tg (a4 Tf b7)) Tryz.func142 fun⟨a1,a6⟩=>c0 λH=>⟨rfl,auJ _ bh bh a1 a6 H⟩
theorem aGv:cw OE Ym:=cK XX 144000 [] (a4 Tf b7) Tryz.func83 λa1=>c0 λH=>⟨rfl,auK _ bh a1 H⟩
theorem aGw:cw UC Yn:=cK X0 164000 [] (a4 Tg (a4 aoe (a4 Tf b7))) Tryz.func143 fun⟨a1,a6,bY,c1⟩=>c0 λH=>⟨rfl,auM _ bh bh bh a1 a6 bY c1 H⟩
theorem aGx:cw OJ Yo:=cK X1 165000 [] (a4 Tg (a4 aoe (a4 aGs (a4 aod (a4 Tf b7))))) Tryz.func144 fun⟨a1,a6,bY,c1⟩=>c0 λH=>⟨rfl,auN _ bh bh bh bh bh a1 a6 bY c1 H⟩
theorem aGy:cw Uu Yu:=cK Yt 143000 [] (a4 Tg (a4 aGu (a4 aGw (a4 aGx b7)))) Tryz.func82 fun⟨a1,a6,bY,c1⟩=>c0 λH=>⟨rfl,auO _ bh bh bh bh a1 a6 bY c1 H⟩
theorem ac3:cw BI EJ:=cK Yr 124000 [] (a4 aGv (a4 aGy b7)) Tryz.func35 fun⟨a1,a6⟩=>c0 λH=>⟨rfl,auP _ bh bh a1 a6 H⟩
theorem aGz:cw OD Yv:=cK Ys 142000 [] b7 Tryz.func55 fun⟨a1,a6,bY,c1⟩=>c0 λH=>⟨rfl,auS _  a1 a6 bY c1 H⟩
theorem aGA:cw Uo Yw:=cK Yq 120000 [] (a4 aGz b7) Tryz.func19 fun⟨a1,a6,bY,c1,ec,iD,mW,oD⟩=>c0 λH=>⟨rfl,auT _ bh a1 a6 bY c1 ec iD mW oD H⟩
theorem aof:cw DW LJ:=cK Yp 115000 [] b7 Tryz.func39 fun⟨a1,a6,bY,c1,ec⟩=>⟨rfl,auV _  a1 a6 bY c1 ec⟩
theorem Jq:cw pt wb:=cK Xi 230000 [] (a4 Tc b7) Tryz.func78 λa1=>c0 λH=>⟨rfl,axQ _ bh a1 H⟩
theorem aog:cw vw Ia:=cK Z5 241000 [] (a4 Tc b7) Tryz.func153 λa1=>c0 λH=>⟨rfl,axS _ bh a1 H⟩
theorem aoh:cw vx Rq:=cK Xk 243000 [] b7 Tryz.func137 fun⟨a1,a6,bY⟩=>⟨rfl,ayI _  a1 a6 bY⟩
theorem aGB:cw KG aav:=cK Xl 244000 [] (a4 aoh b7) Tryz.func138 λa1=>⟨rfl,ayL _ bh a1⟩
theorem aGC:cw KH aay:=cK Xm 245000 [] (a4 aoh b7) Tryz.func139 fun⟨a1,a6,bY,c1,ec⟩=>c0 λH=>⟨rfl,ayO _ bh a1 a6 bY c1 ec H⟩
theorem aGD:cw D4 aaI:=cK Xj 232000 [] (a4 Jq (a4 Dh b7)) Tryz.func80 fun⟨a1,a6,bY⟩=>c0 λH=>⟨rfl,ayV _ bh bh a1 a6 bY H⟩
theorem aoi:cw KJ Ru:=cK aas 251000 [] b7 Tryz.func163 λa1=>⟨rfl,ayW _  a1⟩
theorem aGE:cw GD aaJ:=cK aar 250000 [] (a4 aoi b7) Tryz.func162 λa1=>⟨rfl,ayY _ bh a1⟩
theorem aoj:cw Eb Rv:=cK aaz 355000 [] b7 Tryz.func54 fun⟨a1,a6,bY⟩=>⟨rfl,ayZ _  a1 a6 bY⟩
theorem aok:cw wU Rw:=cK aaA 361000 [] (a4 aoj b7) Tryz.func104 λa1=>⟨rfl,ay1 _ bh a1⟩
theorem aol:cw D7 Rx:=cK Xt 292000 [] b7 Tryz.func114 fun⟨a1,a6,bY⟩=>⟨rfl,ay2 _  a1 a6 bY⟩
theorem aom:cw nw Ry:=cK Xs 291000 [] (a4 aol b7) Tryz.func113 λa1=>⟨rfl,ay3 _ bh a1⟩
theorem aGF:cw BN aaN:=cK XE 307000 [] (a4 aom b7) Tryz.func171 λa1=>⟨rfl,ay6 _ bh a1⟩
theorem aon:cw KL SO:=cK Xz 298000 [] b7 Tryz.func120 fun⟨a1,a6,bY,c1,ec,iD⟩=>c0 λH=>⟨rfl,aDz _  a1 a6 bY c1 ec iD H⟩
theorem aGG:cw GG abt:=cK Z6 253000 [] b7 Tryz.func191 fun⟨a1,a6,bY⟩=>⟨rfl,aA7 _  a1 a6 bY⟩
theorem aoo:cw KF Sb:=cK Z4 240000 [] (a4 aGG b7) Tryz.func154 λa1=>c0 λH=>⟨rfl,aA9 _ bh a1 H⟩
theorem aGH:cw UI abT:=cK Z3 225000 [] (a4 aoo (a4 Bf (a4 aog (a4 Dh b7)))) Tryz.func184 fun⟨a1,a6⟩=>c0 λH=>⟨rfl,aCV _ bh bh bh bh a1 a6 H⟩
theorem aop:cw KN SS:=cK XJ 313000 [] (a4 aon (a4 aGH b7)) Tryz.func135 fun⟨a1,a6,bY,c1,ec,iD⟩=>c0 λH=>⟨rfl,aDD _ bh bh a1 a6 bY c1 ec iD H⟩
theorem aGI:cw GF aaS:=cK aat 252000 [] (a4 aoi b7) Tryz.func164 fun⟨a1,a6,bY,c1,ec⟩=>c0 λH=>⟨rfl,azh _ bh a1 a6 bY c1 ec H⟩
theorem aGJ:cw GH aaU:=cK aaB 362000 [] (a4 aoj (a4 aok b7)) Tryz.func105 fun⟨a1,a6,bY,c1,ec⟩=>c0 λH=>⟨rfl,azk _ bh bh a1 a6 bY c1 ec H⟩
theorem aGK:cw yw aaW:=cK Xu 293000 [] (a4 aol (a4 aom b7)) Tryz.func115 fun⟨a1,a6,bY,c1,ec⟩=>c0 λH=>⟨rfl,azm _ bh bh a1 a6 bY c1 ec H⟩
theorem aGL:cw D9 aaY:=cK XF 308000 [] (a4 aGK b7) Tryz.func172 fun⟨a1,a6,bY,c1,ec⟩=>c0 λH=>⟨rfl,azp _ bh a1 a6 bY c1 ec H⟩
theorem aGM:cw U6 abV:=cK VH 327000 [] b7 Tryz.func213 fun⟨a1,a6⟩=>c0 λH=>⟨rfl,aC4 _  a1 a6 H⟩
theorem aGN:cw U3 abW:=cK VG 315000 [] (a4 aGM b7) Tryz.func180 fun⟨a1,a6⟩=>c0 λH=>⟨rfl,aC6 _ bh a1 a6 H⟩
theorem aGO:cw Ea aa0:=cK XK 314000 [] (a4 aGN b7) Tryz.func179 fun⟨a1,a6,bY,c1,ec,iD,mW⟩=>c0 λH=>⟨rfl,aDH _ bh a1 a6 bY c1 ec iD mW H⟩
theorem aGP:cw UO aa1:=cK KS 254000 [] (a4 aGC (a4 aGI (a4 aGJ (a4 aGL (a4 aGO b7))))) Tryz.func167 fun⟨a1,a6⟩=>c0 λH=>⟨rfl,azu _ bh (λ_=>bh) (λ_=>bh) (λ_=>bh) (λ_=>bh) a1 a6 H⟩
theorem ac4:cw D5 MM:=cK VE 247000 [] (a4 aGP b7) Tryz.func107 fun⟨a1,a6⟩=>c0 λH=>⟨rfl,azA _ bh a1 a6 H⟩
theorem aGQ:cw U1 ab7:=cK XD 306000 [] (a4 aop (a4 ac4 b7)) Tryz.func127 fun⟨a1,a6,bY,c1,ec,iD,mW⟩=>c0 λH=>⟨rfl,aDK _ bh bh a1 a6 bY c1 ec iD mW H⟩
theorem aoq:cw tV Ip:=cK XC 305000 [] (a4 aGQ b7) Tryz.func126 fun⟨a1,a6,bY,c1,ec,iD,mW⟩=>c0 λH=>⟨rfl,aDL _ bh a1 a6 bY c1 ec iD mW H⟩
theorem ac5:cw wR AY:=cK KQ 231000 [] (a4 aGB (a4 aGE (a4 aok (a4 aGD (a4 aGF (a4 aoq b7)))))) Tryz.func79 fun⟨a1,a6⟩=>c0 λH=>⟨rfl,ay9 _ bh (λ_=>bh) (λ_=>bh) (λ_=>bh) (λ_=>bh) (λ_=>bh) a1 a6 H⟩
theorem aor:cw KI RA:=cK VD 246000 [] (a4 ac5 b7) Tryz.func106 fun⟨a1,a6⟩=>c0 λH=>⟨rfl,aze _ bh a1 a6 H⟩
theorem ac6:cw D6 Na:=cK Fe 249000 [] (a4 Bf (a4 Dh (a4 aog (a4 aoo (a4 Td (a4 aoa (a4 ac2 b7))))))) Tryz.func87 fun⟨a1,a6⟩=>c0 λH=>⟨rfl,aBp _ bh bh bh bh bh bh bh a1 a6 H⟩
theorem aGR:cw UJ aa3:=cK Xh 227000 [] (a4 aor (a4 ac4 b7)) Tryz.func75 fun⟨a1,a6⟩=>c0 λH=>⟨rfl,azC _ bh bh a1 a6 H⟩
theorem aGS:cw UL Sp:=cK EH 233000 [] (a4 ac6 b7) Tryz.func81 fun⟨a1,a6⟩=>c0 λH=>⟨rfl,aBX _ bh a1 a6 H⟩
theorem aGT:kF Tryz.prog ON (y8 RF):=aah (mf:=P1) (kb:=255000) (own:=[17]) (rV (rF (a4 Jq (a4 aGq (a4 Tc (a4 NF b7))))) (rW lH)) mixed Tryz.func185 (by kernel_rfl) (by kernel_rfl) (λj=>j/1000=255) λargs mem d h=>by
 obtain⟨a,⟨rfl,aN⟩,rfl⟩:=aaj h;exact⟨tr rfl,aN.no,azF _ (nC rfl rfl) (nC rfl rfl) (nC rfl rfl) (nC rfl rfl) a.1 a.2 mem aN⟩
theorem aGU:kF Tryz.prog UP (y8 RJ):=aah (mf:=Hi) (kb:=256000) (own:=[]) (rV (rF (a4 Jq (a4 ac2 (a4 aGn b7)))) (rW lH)) mixed Tryz.func186 (by kernel_rfl) (by kernel_rfl) (λj=>j/1000=256) λargs mem d h=>by
 obtain⟨a,⟨rfl,aN⟩,rfl⟩:=aaj h;exact⟨tr rfl,aN.no,azN _ (nC rfl rfl) (nC rfl rfl) (nC rfl rfl) a mem aN⟩
theorem aGV:kF Tryz.prog UN (y8 abd):=aah (mf:=vR) (kb:=248000) (own:=[]) (rV (rF (a4 Jq (a4 Td (a4 NF b7)))) (rW (oZ aGT (oZ aGU lH)))) mixed Tryz.func140 (by kernel_rfl) (by kernel_rfl) (λj=>j/1000=248) λargs mem d h=>by
 obtain⟨a,⟨rfl,aN⟩,rfl⟩:=aaj h;exact⟨tr rfl,aN.iP,aAt _ (nC rfl rfl) (uq rfl rfl) (uq rfl rfl) (nC rfl rfl) (nC rfl rfl) a mem aN⟩
theorem aGW:kF Tryz.prog OM (pB MZ):=EL (mf:=Hh) (kb:=229000) (own:=[]) (rV (rF (a4 Jq (a4 Dh b7))) (rW (oZ aGV lH))) mixed Tryz.func77 (by kernel_rfl) (by kernel_rfl) λargs mem bL h=>by
 obtain⟨a,⟨rfl,aN⟩,rfl⟩:=EO h;exact⟨tr rfl,aAD _ (uq rfl rfl) (nC rfl rfl) (nC rfl rfl) a mem aN⟩
theorem aGX:kF Tryz.prog UK (pB abq):=EL (mf:=Cn) (kb:=228000) (own:=[22]) (rV (rF b7) (rW lH)) mixed Tryz.func76 (by kernel_rfl) (by kernel_rfl) λargs mem bL h=>by
 obtain⟨a,⟨rfl,aN⟩,rfl⟩:=EO h;exact⟨tr rfl,aAX _  a.1 a.2 mem aN⟩
theorem aGY:cw UH Sy:=x1 EG 217000 [] (a4 aGR (a4 Jq (a4 Dh (a4 ac5 (a4 aGS b7))))) (oZ aGX (oZ aGW lH)) Tryz.func33 fun⟨a1,a6⟩=>c0 λH=>⟨rfl,aCN _ bh (uq rfl rfl) (uq rfl rfl) bh bh bh bh a1 a6 H⟩
theorem aGZ:cw wT abF:=cK XH 310000 [] (a4 Dh b7) Tryz.func176 fun⟨a1,a6,bY,c1,ec,iD,mW,oD⟩=>c0 λH=>⟨rfl,aCd _ bh a1 a6 bY c1 ec iD mW oD H⟩
theorem aG0:cw UM abH:=cK KR 235000 [] (a4 aGZ b7) Tryz.func175 fun⟨a1,a6,bY⟩=>c0 λH=>⟨rfl,aCg _ (λh=>absurd h (by decide)) (λ_=>bh) a1 a6 bY H⟩
theorem aG1:cw OP SA:=cK Vw 322000 [] (a4 an0 b7) Tryz.func208 fun⟨a1,a6⟩=>⟨rfl,aC0 _ bh a1 a6⟩
theorem aG2:cw UY abU:=cK VF 301000 [] b7 Tryz.func123 fun⟨a1,a6⟩=>c0 λH=>⟨rfl,aC2 _  a1 a6 H⟩
theorem aG3:cw U5 abY:=cK Y6 326000 [] b7 Tryz.func212 λa1=>c0 λH=>⟨rfl,aDf _  a1 H⟩
theorem aG4:cw U2 abZ:=cK Y5 312000 [] (a4 aG3 b7) Tryz.func178 λa1=>c0 λH=>⟨rfl,aDh _ bh a1 H⟩
theorem ac7:cw D8 Nr:=cK XB 303000 [] (a4 aop b7) Tryz.func73 fun⟨a1,a6,bY,c1,ec⟩=>c0 λH=>⟨rfl,aDG _ bh a1 a6 bY c1 ec H⟩
theorem aG5:kF Tryz.prog U4 (pB SD):=EL (mf:=OY) (kb:=316000) (own:=[]) (rV (rF (a4 aG1 b7)) (rW lH)) mixed Tryz.func202 (by kernel_rfl) (by kernel_rfl) λargs mem bL h=>by
 obtain⟨a,⟨rfl,aN⟩,rfl⟩:=EO h;exact⟨tr rfl,aDd _ (nC rfl rfl) a mem aN⟩
theorem aG6:kF Tryz.prog KM (pB SJ):=EL (mf:=OX) (kb:=311000) (own:=[]) (rV (rF b7) (rW (oZ aG5 lH))) mixed Tryz.func177 (by kernel_rfl) (by kernel_rfl) λargs mem bL h=>by
 obtain⟨a,⟨rfl,aN⟩,rfl⟩:=EO h;exact⟨tr rfl,aDk _ (uq rfl rfl) a mem aN⟩
theorem aG7:kF Tryz.prog UX (pB SK):=EL (mf:=OU) (kb:=300000) (own:=[]) (rV (rF (a4 aG4 b7)) (rW (oZ aG6 lH))) mixed Tryz.func122 (by kernel_rfl) (by kernel_rfl) λargs mem bL h=>by
 obtain⟨a,⟨rfl,aN⟩,rfl⟩:=EO h;exact⟨tr rfl,aDn _ (nC rfl rfl) (uq rfl rfl) a mem aN⟩
theorem aG8:kF Tryz.prog UZ (MC SM):=ayd (mf:=OV) (kb:=302000) (own:=[]) (rV (rF b7) (rW lH)) mixed Tryz.func124 (by kernel_rfl) (by kernel_rfl) (λ_=>False) λargs mem d k h=>by
 obtain⟨a,⟨rfl,aN⟩,aT⟩:=ayf h
 cases aT;exact⟨tr rfl,λ_ h=>h.elim,λh=>h,aDu _  a mem aN⟩
theorem aG9:cw UR acq:=x1 Xq 289000 [1000000000045] (a4 ac7 (a4 aG2 b7)) (oZ aG7 (oZ aG8 lH)) Tryz.func65 fun⟨a1,a6,bY,c1,ec⟩=>c0 λH=>⟨rfl,aEt _ (uq rfl rfl) (uq rfl rfl) bh bh a1 a6 bY c1 ec H⟩
theorem aHa:cw UW abI:=cK XA 299000 [] (a4 aG0 b7) Tryz.func121 fun⟨a1,a6⟩=>c0 λH=>⟨rfl,aCk _ bh a1 a6 H⟩
theorem aHb:kF Tryz.prog U0 (pB Nu):=EL (mf:=OW) (kb:=304000) (own:=[]) (rV (rF (a4 ac5 (a4 aoq b7))) (rW lH)) mixed Tryz.func125 (by kernel_rfl) (by kernel_rfl) λargs mem bL h=>by
 obtain⟨a,⟨rfl,aN⟩,rfl⟩:=EO h;exact⟨tr rfl,aDS _ (nC rfl rfl) (nC rfl rfl) a mem aN⟩
theorem aHc:cw US ab8:=x1 Xr 290000 [6] (a4 ac7 (a4 ND b7)) (oZ aHb lH) Tryz.func66 fun⟨a1,a6,bY,c1,ec⟩=>c0 λH=>⟨rfl,aDW _ bh bh (uq rfl rfl) a1 a6 bY c1 ec H⟩
theorem aHd:cw UT aca:=cK Xw 295000 [] (a4 aor b7) Tryz.func117 λa1=>c0 λH=>⟨rfl,aD3 _ bh a1 H⟩
theorem aHe:cw UU acd:=cK Xx 296000 [] (a4 ac4 b7) Tryz.func118 fun⟨a1,a6⟩=>c0 λH=>⟨rfl,aD6 _ bh a1 a6 H⟩
theorem aHf:cw OO acf:=cK Xy 297000 [] (a4 aoc b7) Tryz.func119 λa1=>c0 λH=>⟨rfl,aD8 _ bh a1 H⟩
theorem aos:cw KK SY:=cK Xo 287000 [] (a4 aHd (a4 aHe (a4 aHf b7))) Tryz.func63 fun⟨a1,a6,bY,c1,ec⟩=>c0 λH=>⟨rfl,aEa _ bh bh bh a1 a6 bY c1 ec H⟩
theorem aHg:cw UQ acj:=cK Xp 288000 [] (a4 Tc (a4 NF (a4 Dh (a4 aon (a4 ac6 (a4 aHa b7)))))) Tryz.func64 fun⟨a1,a6,bY,c1,ec,iD⟩=>c0 λH=>⟨rfl,aEh _ bh bh bh bh bh bh a1 a6 bY c1 ec iD H⟩
theorem aot:cw BM Bd:=cK Xn 286000 [] (a4 aos (a4 aHg (a4 aG9 (a4 aHc b7)))) Tryz.func28 fun⟨a1,a6,bY,c1,ec⟩=>c0 λH=>⟨rfl,aEH _ bh bh bh bh a1 a6 bY c1 ec H⟩
theorem aHh:cw U8 acF:=cK acy 369000 [] (a4 aof b7) Tryz.func27 fun⟨a1,a6,bY,c1,ec⟩=>⟨rfl,aE1 _ bh a1 a6 bY c1 ec⟩
theorem aHi:cw U9 acG:=cK acz 371000 [] b7 Tryz.func30 fun⟨a1,a6⟩=>c0 λH=>⟨rfl,aE3 _  a1 a6 H⟩
theorem aHj:cw Va S2:=cK XL 372000 [] (a4 aos (a4 ac7 b7)) Tryz.func31 fun⟨a1,a6,bY,c1,ec⟩=>c0 λH=>⟨rfl,aE6 _ bh bh a1 a6 bY c1 ec H⟩
theorem aHk:cw BO acJ:=cK acC 378000 [] (a4 ac3 b7) Tryz.func62 fun⟨a1,a6⟩=>c0 λH=>⟨rfl,aE7 _ bh a1 a6 H⟩
theorem aHl:cw U7 acN:=cK acA 368000 [] (a4 aHk (a4 aot (a4 aHj (a4 aHi b7)))) Tryz.func26 λ_=>⟨rfl,aFk _ bh bh bh bh⟩
theorem aHm:cw OR S4:=cK acB 375000 [] (a4 ac3 (a4 ac6 (a4 NF b7))) Tryz.func37 fun⟨a1,a6,bY⟩=>c0 λH=>⟨rfl,aFy _ bh bh bh a1 a6 bY H⟩
theorem aHn:cw OQ S6:=cK Z2 374000 [] (a4 aGA b7) Tryz.func34 fun⟨a1,a6⟩=>c0 λH=>⟨rfl,aFG _ bh a1 a6 H⟩
theorem aHo:cw arK acV:=cK Ny 365000 [47] (a4 aHl (a4 aHh (a4 aGY (a4 aot (a4 ac3 (a4 Td (a4 aHm (a4 aHn (a4 Dh (a4 aof b7)))))))))) Tryz.func6 fun⟨a1,a6,bY⟩=>c0 λH=>⟨rfl,aFT _ bh bh bh bh bh bh bh bh bh bh a1 a6 bY H⟩
end Go.Mini
