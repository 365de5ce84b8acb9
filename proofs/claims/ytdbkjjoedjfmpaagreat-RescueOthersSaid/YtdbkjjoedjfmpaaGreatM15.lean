/- A part of the proof. -/
import Derived.Test.YtdbkjjoedjfmpaaGreatM14
import Derived.Test.YtdbkjjoedjfmpaaGreatProg
import Derived.KernelRfl
set_option linter.unusedSimpArgs false
set_option linter.unusedVariables false
open List renaming getD_eq_getElem?_getD → ahU, getElem?_eq_getElem → ahV, map_nil → ahZ, length_map → ah2, getElem?_map → ah6, map_cons → ah7, length_set → ah8, mem_of_getElem? → aia, take_add_one → aib, any_append → aid, any_eq_true → aie, take_of_length_le → aif
open Int renaming add_zero → ahW, toNat_natCast → ah3, one_mul → aig
open Prod renaming ext → ahX
open Bool renaming false_eq_true → ahY, not_false → ah0, not_true → ah1
open Nat renaming reduceEqDiff → ah4, le_of_ble_eq_true → aik
open Option renaming bind_none → ah5, toList_some → aic, getD_some → aii
open Decidable renaming em → ah9
open Rat renaming intCast_natCast → aih, natCast_nonneg → aij
namespace Go.Mini
open Go
set_option maxRecDepth 10000
set_option maxHeartbeats 4000000
theorem Pu {x:Rat} (h:x<0):pos x=0:=gP (by grind)
theorem LR {x:Rat} (h:¬ x<0):pos x=x:=lc (by grind)
theorem GD (cash:List Int) (cs:List ClR) (who:Nat):((cash.map aa).flatten.map MV.dat)=(fL cash.length (svF cash cs who 0)).map iC:=by
 have e:fL cash.length (svF cash cs who 0)=cash:=(E3 rfl fun i hi=>by
  unfold svF;rw[List.take_zero]
  show cash[i]?=some (cash.getD i 0+0);rw[ahU,ahV hi,ahW];rfl).symm
 rw[e,DN]
 rfl
noncomputable def jH:List Data→Option PRes:=FF (α:=(List Int) × (List ClR) × Int) (fun (cash,cs,who)=>([.sl (cash.map aa),.sl (cs.map clL),.int .i64 who]:List Data)) (fun (cash,cs,who)=>aF (ul cash cs) (.same (nM cash cs who)))
theorem yv:∀ a b:(List Int) × (List ClR) × Int,(fun (cash,cs,who)=>([.sl (cash.map aa),.sl (cs.map clL),.int .i64 who]:List Data)) a=(fun (cash,cs,who)=>([.sl (cash.map aa),.sl (cs.map clL),.int .i64 who]:List Data)) b→a=b:=by
  rintro⟨cash1,cs1,who1⟩ ⟨cash2,cs2,who2⟩ h;simp only[List.cons.injEq,Data.sl.injEq,Data.int.injEq,and_true,true_and] at h;exact ahX (af aj _ _ h.1) (ahX (af f6 _ _ h.2.1) h.2.2)
@[go_sem] theorem jW (cash:List Int) (cs:List ClR) (who:Int) (hc:ul cash cs):jH [.sl (cash.map aa),.sl (cs.map clL),.int .i64 who]=some (.same (nM cash cs who)):=(aV yv (cash,cs,who)).trans (an hc _)
theorem I5 (T:Tab) (jo:T lC=mkE Da) (aT:T bs=mkE lh) (js:T iW=mkE Cs) (bF:T fj=mkE ol) (gV:T eQ=mkE tN) (cy:T dr=mkE lF) (cash:List Int) (cs:List ClR) (who:Int) (hc:ul cash cs) :
  wp T mf_rescue_Least.body (bE mf_rescue_Least.res (.same (nM cash cs who))) ⟨ax [.dat (.sl (cash.map aa)),.dat (.sl (cs.map clL)),.dat (.int .i64 who)],emp⟩:=by
 refine ap ?_;simp only[mf_rescue_Least];obtain⟨hn0,hc0,hsm⟩:=hc;have rd:=Fw cash cs ⟨hn0,hc0⟩;unfold nM;rcases hr:cG cash cs
 ·rw[if_neg (by simp)]
  rw[hr] at rd;simp only[go_sem,go_sem_proc,ahY,jo,aT,js,bF,gV,cy,rd,ad,bB,ahZ,ah0]
  repeat' (first|refine qS ?_ ?_|fail)<;>intro h<;>simp only[h,go_sem,go_sem_proc,ahY,jo,aT,js,bF,gV,cy,rd,ad,bB,ahZ,ah0]
 rw[hr] at rd;rcases d1:decide (who<0)
 case true =>
  rw[if_neg (by have:=of_decide_eq_true d1;omega)];simp only[go_sem,go_sem_proc,ahY,jo,aT,js,bF,gV,cy,rd,d1,ad,bB,ahZ,ah1]
  repeat' (first|refine qS ?_ ?_|fail)<;>intro h<;>simp only[h,go_sem,go_sem_proc,ahY,jo,aT,js,bF,gV,cy,rd,d1,ad,bB,ahZ,ah1]
 rcases d2:decide (who≥(cash.length:Int))
 case true =>
  rw[if_neg (by have:=of_decide_eq_true d2;omega)];simp only[go_sem,go_sem_proc,ahY,jo,aT,js,bF,gV,cy,rd,d1,d2,ad,bB,ahZ,ah2,ah1]
  repeat' (first|refine qS ?_ ?_|fail)<;>intro h<;>simp only[h,go_sem,go_sem_proc,ahY,jo,aT,js,bF,gV,cy,rd,d1,d2,ad,bB,ahZ,ah2,ah1]
 obtain⟨w,rfl⟩:∃ w:Nat,who=(w:Int):=⟨who.toNat,by have:=of_decide_eq_false d1;omega⟩
 have hw:w<cash.length:=by have:=of_decide_eq_false d2;omega
 have hs:=hsm hr;have hn:=hs.n5;have h12:=hs.c12;rw[if_pos ⟨rfl,by omega,by omega⟩,ah3]
 have hin:=GD cash cs w;have hcl:=ta cash hn0;simp only[go_sem,go_sem_proc,ahY,jo,aT,js,bF,gV,cy,rd,d1,d2,hcl,hin,ah2,ah1];refine RE T cash cs hs w (some (0,[.dat (.int .i64 0),.nil,.dat (.int .i64 0),.nil])) 0 _ _ ?_ ?_ ?_ ?_ ?_ ?_ ?_ ?_ ?_ ?_ ?_ ?_
 all_goals first | (intro tm2 m2 g k2 k6 k8 k9 k10 q6 q34 q48) | (simp only[aP,ah4,if_false,if_true];done) | (simp only[aP,ah4,if_false,if_true];rfl) | (simp only[aA,ah4,if_false,if_true];done) | (simp only[aA,ah4,if_false,if_true];rfl) | skip
 rw[DN] at q34;have hvl:=ju cash cs w;have hD:=eM (n:=5) bj q34;have hf8:=fun (K:St→Prop) (st:St)=>bX (K:=K) (st:=st) bj 8 221034 0 (du cash cs w)
 have hf10:=fun (K:St→Prop) (st:St)=>bX (K:=K) (st:=st) mL 10 221048 g (gd cs w)
 rw[hvl] at hD hf8;have hmx:=Hj (du cash cs w) ⟨by omega,by omega⟩
 have hma:=KS (l:=du cash cs w) (by omega) 1000000000000000;have hsl:(gd cs w).length≤cs.length:=List.length_filter_le _ _;rcases hsx:p8 cash cs w
 ·have hsx':((du cash cs w).all fun x=>decide (x≤1000000000000000))=false:=hsx
  rw[hsx',ah0] at hma;rw[if_neg (by decide)];generalize du cash cs w=SC at *;simp only[go_sem,go_sem_proc,ahY,jo,aT,js,bF,gV,cy,k2,k6,k8,k9,k10,q6,q34,q48,hD,hmx,hma,iD,ah5,scalar,ad,bB,ahZ]
  repeat' (first|refine qS ?_ ?_|fail)<;>intro h<;>simp only[h,go_sem,go_sem_proc,ahY,jo,aT,js,bF,gV,cy,k2,k6,k8,k9,k10,q6,q34,q48,hD,hmx,hma,iD,ah5,scalar,ad,bB,ahZ]
 ·have hsx':((du cash cs w).all fun x=>decide (x≤1000000000000000))=true:=hsx
  rw[hsx',ah1] at hma;rw[if_pos rfl];have hss:=r9 hs hsx;have sv:=lB (du cash cs w) (gd cs w) ⟨by omega,by omega,fun _=>hss⟩
  unfold B4 at sv;rw[if_pos hss.right] at sv;have hget:(fY (du cash cs w) (gd cs w))[w]?=some (ai ((ab (du cash cs w) (gd cs w)).gr w)):=ej _ (by omega);rw[oF hs] at hget;have hob:=vm hs (l:=bR cs w) (fun c hc=>(own_mem.1 hc).1) (by have:=xw cs w;omega);have hoi:bZ (gW cs w):=fX (by unfold gW;omega) (by unfold gW;omega);have a1:=IH hoi;have z1:szR 29 ((gW cs w:Int):Rat):=nS (by unfold gW;omega);have z2:=sn hss (i:=w) (by omega);rw[oF hs] at z2;have a2:=sN (eh z1 (by omega)) (eh z2 (by omega)) (jR z1 (ne z2) (by omega));have hle:((gW cs w:Int):Rat)-((ab cash cs).saved w).gr w=kh cash cs w:=by rw[xk hs];rfl
  rw[hle] at a2;have a3:=IH qa;have hsg:(ai (kh cash cs w)).1.1=(kh cash cs w).num.sign:=rfl;have hsl2:decide ((kh cash cs w).num.sign<0)=decide (kh cash cs w<0):=ue;have p1:=@Pu (kh cash cs w);have p2:=@LR (kh cash cs w);unfold cr;generalize fY (du cash cs w) (gd cs w)=HV at *;generalize qL (du cash cs w) (gd cs w)=PD at *;generalize (ab (du cash cs w) (gd cs w)).frs.map gw=FD at *;generalize du cash cs w=SC at *;generalize kh cash cs w=L at *;have hz:ai 0=ai ((0:Int):Rat):=rfl;have hp:(L<0→ai (pos L)=ai ((0:Int):Rat))∧(¬ L<0→ai (pos L)=ai L):=⟨fun h=>by rw[p1 h,hz],fun h=>by rw[p2 h]⟩
  generalize ai (pos L)=PL at *;generalize ai ((0:Int):Rat)=Z at *;generalize ai ((gW cs w:Int):Rat)=O at *;generalize ai (((ab cash cs).saved w).gr w)=G at *;generalize hEL:ai L=EL at *;generalize L.num.sign=sg at *;obtain⟨⟨o1,o2⟩,⟨o3,o4⟩⟩:=O;obtain⟨⟨g1,g2⟩,⟨g3,g4⟩⟩:=G;obtain⟨⟨l1,l2⟩,⟨l3,l4⟩⟩:=EL;obtain⟨⟨z1,z2⟩,⟨z3,z4⟩⟩:=Z;dsimp only at hsg;subst hsg;simp only[ad] at a1 a2 a3;rcases q:decide (L<0)
  ·rw[q] at hsl2
   rw[hp.2 (of_decide_eq_false q)];simp only[go_sem,go_sem_proc,ahY,jo,aT,js,bF,gV,cy,k2,k6,k8,k9,k10,q6,q34,q48,hD,hmx,hma,hf8,hf10,sv,hget,a1,a2,a3,hsl2,iD,ah5,scalar,ad,ah2,ah6,bne,beq_self_eq_true,ah1]
   repeat' (first|refine qS ?_ ?_|fail)<;>intro h<;>simp only[h,go_sem,go_sem_proc,ahY,jo,aT,js,bF,gV,cy,k2,k6,k8,k9,k10,q6,q34,q48,hD,hmx,hma,hf8,hf10,sv,hget,a1,a2,a3,hsl2,iD,ah5,scalar,ad,ah2,ah6,bne,beq_self_eq_true,ah1]
  ·rw[q] at hsl2
   rw[hp.1 (of_decide_eq_true q)];simp only[go_sem,go_sem_proc,ahY,jo,aT,js,bF,gV,cy,k2,k6,k8,k9,k10,q6,q34,q48,hD,hmx,hma,hf8,hf10,sv,hget,a1,a2,a3,hsl2,iD,ah5,scalar,ad,ah2,ah6,bne,beq_self_eq_true,ah1]
   repeat' (first|refine qS ?_ ?_|fail)<;>intro h<;>simp only[h,go_sem,go_sem_proc,ahY,jo,aT,js,bF,gV,cy,k2,k6,k8,k9,k10,q6,q34,q48,hD,hmx,hma,hf8,hf10,sv,hget,a1,a2,a3,hsl2,iD,ah5,scalar,ad,ah2,ah6,bne,beq_self_eq_true,ah1]
theorem nb {n:Int} (h:bZ n):kE [.int .i64 n]=some (.same (.agg (ad (ai (n:Rat))))):=yx n h
theorem rt {x y:Rat} (hx:cv x) (hy:cv y):sP [.agg (ad (ai x)),.agg (ad (ai y))]=some (.same (.bool (decide (x=y)))):=by
 have h1:=eJ hx;have h2:=eJ hy;have h:=CP (ai x).1.1 (ai x).1.2 (ai x).2.1 (ai x).2.2 (ai y).1.1 (ai y).1.2 (ai y).2.1 (ai y).2.2 ⟨h1.1,h1.2,h2.1,h2.2⟩
 have e:wO (((ai x).1.1,(ai x).1.2),((ai x).2.1,(ai x).2.2)) (((ai y).1.1,(ai y).1.2),((ai y).2.1,(ai y).2.2))=decide (x=y):=by
  show decide (ai x=ai y)=_
  by_cases hxy:x=y
  ·rw[decide_eq_true hxy,hxy];exact decide_eq_true rfl
  ·rw[decide_eq_false hxy];exact decide_eq_false fun h=>hxy (qz h)
 rw[e] at h;exact h
def twoC:List ClR:=[(0,1,0,30),(1,-1,0,25)]
noncomputable def CC:List Data→Option PRes:=FF (α:=Unit) (fun (_:Unit)=>([]:List Data)) (fun (_:Unit)=>some (.same (.sl (twoC.map clL))))
theorem Dv:∀ a b:Unit,(fun (_:Unit)=>([]:List Data)) a=(fun (_:Unit)=>([]:List Data)) b→a=b:=by
  intro _ _ _;rfl
@[go_sem] theorem G7 :CC []=some (.same (.sl (twoC.map clL))):=aV Dv ()
theorem OS (T:Tab)   :
  wp T mf_law22_two.body (bE mf_law22_two.res (.same (.sl (twoC.map clL)))) ⟨ax [],emp⟩:=by
 refine ap ?_;simp only[mf_law22_two];refine qI ?_
 repeat' (intro h<;>simp only[h,go_sem,go_sem_proc,ahY,twoC,clL,ah7,ahZ]<;>try refine qS ?_ ?_)
theorem oy {a:Int} (h0:0≤a) (h:a≤100):SmallD [a,0] twoC:=by
 refine⟨rightD_iff.2 ⟨by simp,by decide,fun x hx=>?_,fun c hc=>?_⟩,by simp,by decide,by decide⟩
 ·simp at hx
  rcases hx with rfl | rfl<;>omega
 ·simp [twoC] at hc
  rcases hc with rfl | rfl<;>simp
theorem ua {cash:List Int} {cs:List ClR} (hs:SmallD cash cs) {w:Nat} (hw:w<cash.length) (hm:p8 cash cs w=true) {g:Rat} {q:Int} (hg:(ab (du cash cs w) (gd cs w)).gr w=g) (hq:pos (((gW cs w:Int):Rat)-g)=(q:Rat)):nM cash cs w = .tup [.agg (ad (ai (q:Rat))),.int .i64 0]:=by
 unfold nM;rw[if_pos ⟨hs.right,by omega,by omega⟩,ah3,if_pos hm]
 unfold cr kh;rw[←oF hs,hg,←xk hs,hq]
theorem ON:jH [.sl (([10,0]:List Int).map aa),.sl (twoC.map clL),.int .i64 0]=some (.same (.tup [.agg (ad (ai ((20:Int):Rat))),.int .i64 0])):=by
 have hs:=oy (a:=10) (by decide) (by decide);have h:=jW [10,0] twoC ((0:Nat):Int) ⟨by decide,by decide,fun _=>hs⟩
 have e:ab (du [10,0] twoC 0) (gd twoC 0)=e5:=by
  unfold e5;rw[show du [10,0] twoC 0=[10,30] by decide,show gd twoC 0=[(1,-1,0,25)] by decide]
 rw[ua (w:=0) hs (by decide) (by decide) (g:=10) (q:=20) (by rw[e];exact RI) (by rw[show gW twoC 0=30 by decide];decide +kernel)] at h;exact h
theorem O4:jH [.sl (([10,0]:List Int).map aa),.sl (twoC.map clL),.int .i64 1]=some (.same (.tup [.agg (ad (ai ((15:Int):Rat))),.int .i64 0])):=by
 have hs:=oy (a:=10) (by decide) (by decide);have h:=jW [10,0] twoC ((1:Nat):Int) ⟨by decide,by decide,fun _=>hs⟩
 have e:ab (du [10,0] twoC 1) (gd twoC 1)=e6:=by
  unfold e6;rw[show du [10,0] twoC 1=[10,0] by decide,show gd twoC 1=[(0,1,0,30)] by decide]
 rw[ua (w:=1) hs (by decide) (by decide) (g:=10) (q:=15) (by rw[e];exact RV) (by rw[show gW twoC 1=25 by decide];decide +kernel)] at h;exact h
theorem OE:jH [.sl (([30,0]:List Int).map aa),.sl (twoC.map clL),.int .i64 1]=some (.same (.tup [.agg (ad (ai ((0:Int):Rat))),.int .i64 0])):=by
 have hs:=oy (a:=30) (by decide) (by decide);have h:=jW [30,0] twoC ((1:Nat):Int) ⟨by decide,by decide,fun _=>hs⟩
 have e:ab (du [30,0] twoC 1) (gd twoC 1)=e7:=by
  unfold e7;rw[show du [30,0] twoC 1=[30,0] by decide,show gd twoC 1=[(0,1,0,30)] by decide]
 rw[ua (w:=1) hs (by decide) (by decide) (g:=30) (q:=0) (by rw[e];exact RO) (by rw[show gW twoC 1=25 by decide];decide +kernel)] at h;exact h
theorem Oh:jH [.sl (([10,0]:List Int).map aa),.sl (twoC.map clL),.int .i64 2]=some (.same (.tup [.agg (ad bB),.int .i64 1])):=by
 have hs:=oy (a:=10) (by decide) (by decide);have h:=jW [10,0] twoC 2 ⟨by decide,by decide,fun _=>hs⟩
 have e:nM [10,0] twoC 2 = .tup [.agg (ad bB),.int .i64 1]:=if_neg (by decide);rw[e] at h;exact h
noncomputable def uS:List Data→Option PRes:=FF (α:=Unit) (fun (_:Unit)=>([]:List Data)) (fun (_:Unit)=>some (.same (.bool true)))
theorem xv:∀ a b:Unit,(fun (_:Unit)=>([]:List Data)) a=(fun (_:Unit)=>([]:List Data)) b→a=b:=by
  intro _ _ _;rfl
@[go_sem] theorem Bp :uS []=some (.same (.bool true)):=aV xv ()
theorem IT (T:Tab) (Pd:T gQ=mkE CC) (cQ:T dt=mkE jH) (dk:T dq=mkE kE) (Ls:T im=mkE sP)  :
  wp T mf_law22_small.body (bE mf_law22_small.res (.same (.bool true))) ⟨ax [],emp⟩:=by
 refine ap ?_;simp only[mf_law22_small];have k0:=G7;have k1:=ON;have k2:=O4;have k3:=OE;have k4:=Oh;have i20:bZ 20:=fX (by omega) (by omega);have i15:bZ 15:=fX (by omega) (by omega);have n1:=nb i20;have n2:=nb i15;have n3:=nb qa;have s1:=rt (eA i20) (eA i20);have s2:=rt (eA i15) (eA i15);have s3:=rt (eA qa) (eA qa);rw[decide_eq_true rfl] at s1 s2 s3;generalize ai ((20:Int):Rat)=A at *;generalize ai ((15:Int):Rat)=B at *;generalize ai ((0:Int):Rat)=Z at *;generalize twoC=tw at *;obtain⟨⟨a1,a2⟩,⟨a3,a4⟩⟩:=A;obtain⟨⟨b1,b2⟩,⟨b3,b4⟩⟩:=B;obtain⟨⟨z1,z2⟩,⟨z3,z4⟩⟩:=Z;simp only[ah7,ahZ,aa,ad,bB] at k1 k2 k3 k4 n1 n2 n3 s1 s2 s3;refine qI ?_
 repeat' (intro h<;>simp only[h,go_sem,go_sem_proc,ahY,Pd,cQ,dk,Ls,k0,k1,k2,k3,k4,n1,n2,n3,s1,s2,s3,beq_self_eq_true]<;>try refine qS ?_ ?_)
def dA (cash:List Int) (who:Nat) (n:Int):List Int:=cash.set who (IntKind.i64.wrap (cash.getD who 0+n))
noncomputable def tM:List Data→Option PRes:=FF (α:=(List Int) × Nat × Int) (fun (cash,who,n)=>([.sl (cash.map aa),.int .i64 (who:Int),.int .i64 n]:List Data)) (fun (cash,who,n)=>aF (who<cash.length∧cash.length≤1000000) (.same (.sl ((dA cash who n).map aa))))
theorem yG:∀ a b:(List Int) × Nat × Int,(fun (cash,who,n)=>([.sl (cash.map aa),.int .i64 (who:Int),.int .i64 n]:List Data)) a=(fun (cash,who,n)=>([.sl (cash.map aa),.int .i64 (who:Int),.int .i64 n]:List Data)) b→a=b:=by
  rintro⟨cash1,who1,n1⟩ ⟨cash2,who2,n2⟩ h;simp only[List.cons.injEq,Data.sl.injEq,Data.int.injEq,and_true,true_and] at h;exact ahX (af aj _ _ h.1) (ahX (Int.ofNat.inj h.2.1) h.2.2)
@[go_sem] theorem zG (cash:List Int) (who:Nat) (n:Int) (hc:who<cash.length∧cash.length≤1000000):tM [.sl (cash.map aa),.int .i64 (who:Int),.int .i64 n]=some (.same (.sl ((dA cash who n).map aa))):=(aV yG (cash,who,n)).trans (an hc _)
theorem Ju (T:Tab)  (cash:List Int) (who:Nat) (n:Int) (hc:who<cash.length∧cash.length≤1000000) :
  wp T mf_law22_given.body (bE mf_law22_given.res (.same (.sl ((dA cash who n).map aa)))) ⟨ax [.dat (.sl (cash.map aa)),.dat (.int .i64 (who:Int)),.dat (.int .i64 n)],emp⟩:=by
 refine ap ?_;simp only[mf_law22_given];obtain⟨hw,hl⟩:=hc
 have hap:lf 222008 0 1 0 8 cash.length (az aa cash) (some (0,[]))=some (.ref 222008 1 1 0 cash.length,some (222008,1,az aa cash)):=by
  have:=mi bj gG 222008 0 8 [] cash (by simp;omega) (by simp;omega)
  simpa [az] using this
 have t1:List.take 1 (List.drop who (az aa cash))=[.dat (.int .i64 (cash.getD who 0))]:=by
  rw[←DN];exact zV (f:=iC) (by rw[ahU,ahV hw];rfl)
 have t2:(az aa cash).length=cash.length:=by rw[←DN,ah2]
 have t3:List.take who (az aa cash)++[MV.dat (.int .i64 (IntKind.i64.wrap (cash.getD who 0+n)))]++List.drop (who+1) (az aa cash)=az aa (dA cash who n):=by
  unfold dA;rw[←DN,←DN,List.map_set,List.set_eq_take_append_cons_drop,if_pos (by rw[ah2];exact hw)];simp [iC]
 have hgl:(dA cash who n).length=cash.length:=by unfold dA;rw[ah8]
 have hfz:=fun (K:St→Prop) (st:St)=>bX (K:=K) (st:=st) bj 7 222008 1 (dA cash who n)
 rw[hgl] at hfz;have l1:who+1≤cash.length:=by omega
 have hrow:(cash.map aa).flatten.map MV.dat=az aa cash:=rfl;refine qI ?_
 repeat' (intro h<;>simp only[h,go_sem,go_sem_proc,ahY,qr,hap,hrow,t1,t2,t3,hw,l1,hfz,ah2,Nat.mul_one]<;>try refine qS ?_ ?_)
theorem KD:∀ a b:Nat,fF a=fF b→a=b:=by
 intro a b h;simp only[fF,List.cons.injEq,Data.int.injEq,true_and,and_true] at h;exact Int.ofNat.inj h
def rX (fl:List (List Nat)) (who:Nat):Bool:=fl.any fun r=>r.any fun y=>y==who
structure K9 (fl:List (List Nat)):Prop where
 n:fl.length≤1000000
 l:∀ r∈fl,r.length≤1000000
theorem Fp:∀ a b:List Nat,gw a=gw b→a=b:=by
 intro a b h;simp only[gw,List.cons.injEq,Data.sl.injEq,and_true] at h;exact af KD _ _ h
noncomputable def tF:List Data→Option PRes:=FF (α:=(List aS) × (List aS) × (List (List Nat)) × Nat) (fun (hv,pv,fl,who)=>([.agg [.sl (hv.map ad),.sl (pv.map ad),.sl (fl.map gw)],.int .i64 (who:Int)]:List Data)) (fun (hv,pv,fl,who)=>aF (K9 fl) (.same (.bool (rX fl who))))
theorem yt:∀ a b:(List aS) × (List aS) × (List (List Nat)) × Nat,(fun (hv,pv,fl,who)=>([.agg [.sl (hv.map ad),.sl (pv.map ad),.sl (fl.map gw)],.int .i64 (who:Int)]:List Data)) a=(fun (hv,pv,fl,who)=>([.agg [.sl (hv.map ad),.sl (pv.map ad),.sl (fl.map gw)],.int .i64 (who:Int)]:List Data)) b→a=b:=by
  rintro⟨hv1,pv1,fl1,who1⟩ ⟨hv2,pv2,fl2,who2⟩ h;simp only[List.cons.injEq,Data.agg.injEq,Data.sl.injEq,Data.int.injEq,and_true,true_and] at h;exact ahX (af dO _ _ h.1.1) (ahX (af dO _ _ h.1.2.1) (ahX (af Fp _ _ h.1.2.2) (Int.ofNat.inj h.2)))
@[go_sem] theorem nH (hv:List aS) (pv:List aS) (fl:List (List Nat)) (who:Nat) (hc:K9 fl):tF [.agg [.sl (hv.map ad),.sl (pv.map ad),.sl (fl.map gw)],.int .i64 (who:Int)]=some (.same (.bool (rX fl who))):=(aV yt (hv,pv,fl,who)).trans (an hc _)
theorem IS (T:Tab)  (hv:List aS) (pv:List aS) (fl:List (List Nat)) (who:Nat) (hc:K9 fl) :
  wp T mf_law22_falls.body (bE mf_law22_falls.res (.same (.bool (rX fl who)))) ⟨ax [.dat (.agg [.sl (hv.map ad),.sl (pv.map ad),.sl (fl.map gw)]),.dat (.int .i64 (who:Int))],emp⟩:=by
 refine ap ?_;simp only[mf_law22_falls];obtain⟨hn,hl⟩:=hc;simp only[go_sem,go_sem_proc,ahY,ah2];refine ae [1,2] [266002] (fun (i:Nat) tm m=>i≤fl.length∧tm 5 = .dat (.int .i64 i)∧(fl.take i).any (fun r=>r.any fun y=>y==who)=false) (fun i=>fl.length-i) 0 (by refine⟨by omega,rfl,by simp⟩) ?_;intro vs ms hvs hms;simp only[go_sem,go_sem_proc,ahY,ah2] at hvs hms;subst hvs hms;rintro i tm m hk hm ⟨hi,e5,hno⟩;simp only[go_sem,go_sem_proc,ahY,List.cons.injEq] at hk hm;obtain⟨e1,e2⟩:=hk;rcases ah9 (i<fl.length) with hlt | hge
 ·have d1:decide ((i:Int)<(fl.length:Int))=true:=decide_eq_true (by omega)
  have w3:IntKind.i64.wrap ((i:Int)+1)=((i+1:Nat):Int):=by rw[ak _ (by omega) (by omega)];omega
  obtain⟨r,hx⟩:∃ r,fl[i]?=some r:=⟨_,ahV hlt⟩;have hlr:=hl r (aia hx)
  have hstep:(fl.take (i+1)).any (fun r=>r.any fun y=>y==who)=r.any fun y=>y==who:=by
   rw[aib,hx,aic,aid,hno];simp
  simp only[go_sem,go_sem_proc,ahY,e1,e2,e5,hm,hx,d1,gw,ah2,ah6];refine ae [1,2,5] [266002] (fun (k:Nat) tm m=>k≤r.length∧tm 6 = .dat (.int .i64 k)∧(r.take k).any (fun y=>y==who)=false) (fun k=>r.length-k) 0 (by refine⟨by omega,rfl,by simp⟩) ?_;intro vs ms hvs hms;simp only[go_sem,go_sem_proc,ahY,e1,e2,e5,hm] at hvs hms;subst hvs hms;clear e1 e2 e5 hm m tm;rintro k tm m hk hm ⟨hki,e6,hno2⟩;simp only[go_sem,go_sem_proc,ahY,List.cons.injEq] at hk hm;obtain⟨e1,e2,e5⟩:=hk;rcases ah9 (k<r.length) with hlk | hgk
  ·have d2:decide ((k:Int)<(r.length:Int))=true:=decide_eq_true (by omega)
   have w4:IntKind.i64.wrap ((k:Int)+1)=((k+1:Nat):Int):=by rw[ak _ (by omega) (by omega)];omega
   obtain⟨y,hy⟩:∃ y,r[k]?=some y:=⟨_,ahV hlk⟩;rcases q:(((y:Nat):Int)==((who:Nat):Int))
   ·have hs2:(r.take (k+1)).any (fun y=>y==who)=false:=by
     rw[aib,hy,aic,aid,hno2];have:(y==who)=false:=by rw[beq_eq_false_iff_ne] at q ⊢;omega
     simp [this]
    refine qI ?_
    repeat' (intro h<;>simp only[h,go_sem,go_sem_proc,ahY,e1,e2,e5,e6,hm,hx,hy,d2,w4,q,gw,fF,ah2,ah6]<;>try refine qS ?_ ?_)
    exact⟨k+1,by omega,by omega,rfl,hs2⟩
   ·have hyes:rX fl who=true:=by
     unfold rX;rw[aie];refine⟨r,aia hx,?_⟩;rw[aie];exact⟨y,aia hy,by rw[beq_iff_eq] at q ⊢;omega⟩
    rw[hyes];refine qI ?_
    repeat' (intro h<;>simp only[h,go_sem,go_sem_proc,ahY,e1,e2,e5,e6,hm,hx,hy,d2,q,gw,fF,ah2,ah6]<;>try refine qS ?_ ?_)
  ·have d2:decide ((k:Int)<(r.length:Int))=false:=decide_eq_false (by omega)
   rw[aif (by omega)] at hno2;refine qI ?_
   repeat' (intro h<;>simp only[h,go_sem,go_sem_proc,ahY,e1,e2,e5,e6,hm,hx,d2,w3,gw,ah2,ah6]<;>try refine qS ?_ ?_)
   exact⟨i+1,by omega,by omega,rfl,by rw[hstep,hno2]⟩
 ·have d1:decide ((i:Int)<(fl.length:Int))=false:=decide_eq_false (by omega)
  rw[aif (by omega)] at hno;have hno':rX fl who=false:=hno;rw[hno'];refine qI ?_
  repeat' (intro h<;>simp only[h,go_sem,go_sem_proc,ahY,e1,e2,e5,hm,d1,ah2]<;>try refine qS ?_ ?_)
def upN (x:Rat):Nat:=((x.num+x.den-1) / x.den).toNat
theorem yq {x:Rat} (h0:0≤x) (n:Nat):x≤(n:Rat)↔upN x≤n:=by
 have hd:=den_pos x;have hn:0≤x.num:=Rat.num_nonneg.2 h0
 have h1:x≤(n:Rat)↔x.num≤n*x.den:=by
  rw[Rat.le_iff,Rat.num_natCast,Rat.den_natCast];simp
 have h2:(x.num+x.den-1) / x.den<(n:Int)+1↔x.num+x.den-1<((n:Int)+1)*x.den:=Int.ediv_lt_iff_lt_mul hd;have h3:0≤(x.num+x.den-1) / x.den:=Int.ediv_nonneg (by omega) (by omega);rw[h1];unfold upN;have h4:((n:Int)+1)*x.den=n*x.den+x.den:=by rw[Int.add_mul,aig]
 rw[h4] at h2;generalize (n:Int)*x.den=p at *;generalize (x.num+x.den-1) / x.den=q at *;omega
noncomputable def D3:List Data→Option PRes:=FF (α:=Rat) (fun (x:Rat)=>([.agg (ad (ai x))]:List Data)) (fun (x:Rat)=>aF (0≤x∧x≤((1099511627776:Nat):Rat)∧cv x) (.same (.tup [.int .i64 (upN x),.bool true])))
theorem FS:∀ a b:Rat,(fun (x:Rat)=>([.agg (ad (ai x))]:List Data)) a=(fun (x:Rat)=>([.agg (ad (ai x))]:List Data)) b→a=b:=by
  intro x1 x2 h;simp only[List.cons.injEq,Data.agg.injEq,and_true] at h;exact qz (dO _ _ h)
@[go_sem] theorem KC (x:Rat) (hc:0≤x∧x≤((1099511627776:Nat):Rat)∧cv x):D3 [.agg (ad (ai x))]=some (.same (.tup [.int .i64 (upN x),.bool true])):=(aV FS x).trans (an hc _)
theorem QD (T:Tab) (dk:T dq=mkE kE) (aq:T bh=mkE dC) (x:Rat) (hc:0≤x∧x≤((1099511627776:Nat):Rat)∧cv x) :
  wp T mf_law22_up.body (bE mf_law22_up.res (.same (.tup [.int .i64 (upN x),.bool true]))) ⟨ax [.dat (.agg (ad (ai x)))],emp⟩:=by
 refine ap ?_;simp only[mf_law22_up];obtain⟨h0,hB,hlim⟩:=hc;have hu:=yq h0;have hcm:=fun n (hn:bZ n)=>iI (eA hn) hlim
 generalize ai x=F at *;obtain⟨⟨f1,f2⟩,⟨f3,f4⟩⟩:=F;simp only[ad] at hcm;simp only[go_sem,go_sem_proc,ahY,dk,aq,ad];refine ae [1] [265001] (fun (n:Nat) tm m=>n≤62∧tm 4 = .dat (.int .i64 n)∧∀ k,k<n→¬ upN x≤2^k) (fun n=>62-n) 0 (by refine⟨by omega,rfl,fun k hk=>by omega⟩) ?_;intro vs ms hvs hms;simp only[go_sem,go_sem_proc,ahY,dk,aq,ad] at hvs hms;subst hvs hms;rintro n tm m hk hm ⟨hn,e4,hlow⟩;simp only[go_sem,go_sem_proc,ahY,dk,aq,List.cons.injEq] at hk hm;have e1:=hk
 have hn40:n≤40:=by
  apply Classical.byContradiction;intro hc;exact hlow 40 (by omega) ((hu _).1 hB)
 have d1:decide ((n:Int)<62)=true:=decide_eq_true (by omega);have w3:IntKind.i64.wrap ((n:Int)+1)=((n+1:Nat):Int):=by rw[ak _ (by omega) (by omega)];omega
 have hnum:∀ p:Nat,p≤4398046511104→kE [.int .i64 (p:Int)]=some (.same (.agg (ad (ai (((p:Int)):Rat))))):=fun p hp=>nb (fX (by omega) (by omega))
 have hcp:∀ p:Nat,p≤4398046511104→dC [.agg (ad (ai ((p:Int):Rat))),.agg [.int .i64 f1,.sl (f2.map aa),.int .i64 f3,.sl (f4.map aa)]]=some (.same (.int .i64 (lg ((p:Int):Rat) x))):=fun p hp=>hcm _ (fX (by omega) (by omega))
 have hq1:∀ p:Nat,decide (lg ((p:Int):Rat) x<0) = !decide (upN x≤p):=fun p=>by
  have h1:=hu p;rw[uN,aih]
  by_cases hh:upN x≤p
  ·rw[decide_eq_true hh,decide_eq_false (by have:=h1.2 hh;grind)];rfl
  ·rw[decide_eq_false hh,decide_eq_true (by have:¬ x≤(p:Rat):=fun h=>hh (h1.1 h);grind)];rfl
 have hq2:∀ p:Nat,decide (lg ((p:Int):Rat) x≥0)=decide (upN x≤p):=fun p=>by
  rw[nC,aih,decide_eq_decide];exact hu p
 have hp40:2^n≤1099511627776:=Nat.le_trans (Nat.pow_le_pow_right (by omega) hn40) (by decide);have hp0:0<2^n:=Nat.two_pow_pos n;have s1:((n:Int)<0)=False:=eq_false (by omega)
 have s2:IntKind.i64.wrap (1*2^min ((n:Int)).toNat 64)=((2^n:Nat):Int):=by
  rw[ah3,Nat.min_eq_left (by omega),aig];have:((2:Int)^n)=((2^n:Nat):Int):=by push_cast;rfl
  rw[this,ak _ (by omega) (by omega)]
 have hlow':∀ k,k<n+1→(decide (upN x≤2^n)=false)→¬ upN x≤2^k:=fun k hk h=>by
  rcases Nat.lt_succ_iff_lt_or_eq.1 hk with h2 | h2
  ·exact hlow k h2
  ·subst h2;exact of_decide_eq_false h
 generalize 2^n=p at *;have a1:=hnum p (by omega);have a2:=hcp p (by omega);have b1:=hq1 p;generalize ai ((p:Int):Rat)=P at *;obtain⟨⟨p1,p2⟩,⟨p3,p4⟩⟩:=P;simp only[ad] at a1 a2;rcases q:decide (upN x≤p)
 ·rw[q,ah0] at b1
  simp only[go_sem,go_sem_proc,ahY,dk,aq,e1,e4,hm,d1,w3,s1,s2,a1,a2,b1]
  repeat' (first|refine qS ?_ ?_|fail)<;>intro h<;>simp only[h,go_sem,go_sem_proc,ahY,dk,aq,e1,e4,hm,d1,w3,s1,s2,a1,a2,b1]
  exact⟨n+1,by omega,by omega,rfl,fun k hk=>hlow' k hk q⟩
 ·rw[q,ah1] at b1
  have hup:=of_decide_eq_true q;simp only[go_sem,go_sem_proc,ahY,dk,aq,e1,e4,hm,d1,s1,s2,a1,a2,b1];refine ae [1] [265001] (fun ((lo,hi):Nat × Nat) tm m=>lo≤upN x∧upN x≤hi∧hi≤1099511627776∧tm 5 = .dat (.int .i64 lo)∧tm 6 = .dat (.int .i64 hi)) (fun (lo,hi)=>hi-lo) (0,p) (by refine⟨by omega,hup,by omega,rfl,rfl⟩) ?_;intro vs ms hvs hms;simp only[go_sem,go_sem_proc,ahY,dk,aq,e1,hm] at hvs hms;subst hvs hms;clear hk e1 hm e4 tm m a1 a2 b1 hlow hlow';rintro⟨lo,hi⟩ tm m hk hm ⟨h1,h2,h3,e5,e6⟩;simp only[go_sem,go_sem_proc,ahY,dk,aq,List.cons.injEq] at hk hm;have e1:=hk;rcases ah9 (lo<hi) with hlt | hge
  ·have d2:decide ((lo:Int)<(hi:Int))=true:=decide_eq_true (by omega)
   have w4:IntKind.i64.wrap ((lo:Int)+(hi:Int))=((lo+hi:Nat):Int):=by rw[ak _ (by omega) (by omega)];omega
   have w5:IntKind.i64.wrap ((((lo+hi:Nat)):Int).tdiv 2)=(((lo+hi) / 2:Nat):Int):=by
    rw[show (((lo+hi:Nat)):Int).tdiv 2=(((lo+hi) / 2:Nat):Int) from rfl,ak _ (by omega) (by omega)]
   have hmid:lo≤(lo+hi) / 2∧(lo+hi) / 2<hi:=by omega
   generalize (lo+hi) / 2=p at *;have w6:IntKind.i64.wrap ((p:Int)+1)=((p+1:Nat):Int):=by rw[ak _ (by omega) (by omega)];omega
   have a1:=hnum p (by omega);have a2:=hcp p (by omega);have b1:=hq2 p;generalize ai ((p:Int):Rat)=P at *;obtain⟨⟨p1,p2⟩,⟨p3,p4⟩⟩:=P;simp only[ad] at a1 a2;rcases q:decide (upN x≤p)
   ·rw[q] at b1
    simp only[go_sem,go_sem_proc,ahY,dk,aq,e1,e5,e6,hm,d2,w4,w5,w6,a1,a2,b1]
    repeat' (first|refine qS ?_ ?_|fail)<;>intro h<;>simp only[h,go_sem,go_sem_proc,ahY,dk,aq,e1,e5,e6,hm,d2,w4,w5,w6,a1,a2,b1]
    exact⟨(p+1,hi),by dsimp only;omega,by dsimp only;have:=of_decide_eq_false q;omega,h2,h3,rfl,rfl⟩
   ·rw[q] at b1
    simp only[go_sem,go_sem_proc,ahY,dk,aq,e1,e5,e6,hm,d2,w4,w5,w6,a1,a2,b1]
    repeat' (first|refine qS ?_ ?_|fail)<;>intro h<;>simp only[h,go_sem,go_sem_proc,ahY,dk,aq,e1,e5,e6,hm,d2,w4,w5,w6,a1,a2,b1]
    exact⟨(lo,p),by dsimp only;omega,h1,of_decide_eq_true q,by dsimp only;omega,rfl,rfl⟩
  ·have d2:decide ((lo:Int)<(hi:Int))=false:=decide_eq_false (by omega)
   obtain rfl:lo=upN x:=by omega
   simp only[go_sem,go_sem_proc,ahY,dk,aq,e1,e5,e6,hm,d2]
   repeat' (first|refine qS ?_ ?_|fail)<;>intro h<;>simp only[h,go_sem,go_sem_proc,ahY,dk,aq,e1,e5,e6,hm,d2]
theorem FU (fl:List (List Nat)) (who:Nat):rX fl who=decide (0<fl.flatten.count who):=by
 unfold rX;rw[Bool.eq_iff_iff,decide_eq_true_eq,List.count_pos_iff,List.mem_flatten,aie]
 constructor
 ·rintro⟨r,h1,h2⟩
  rw[aie] at h2;obtain⟨y,h3,h4⟩:=h2;rw[beq_iff_eq] at h4;exact⟨r,h1,h4 ▸ h3⟩
 ·rintro⟨r,h1,h2⟩
  refine⟨r,h1,?_⟩;rw[aie];exact⟨who,h2,beq_self_eq_true _⟩
section
variable {cash:List Int} {cs:List ClR} (hs:SmallD cash cs)
include hs
theorem vZ {i:Nat} (hi:i<cash.length):rX (ab cash cs).frs i=decide ((ab cash cs).gr i<(ab cash cs).U i 10):=by
 rw[FU,decide_eq_decide];exact (((Aa hs.ok).2 i hi).2).symm
theorem HY:K9 (ab cash cs).frs:=by
 obtain⟨hne,-⟩:=Aa hs.ok;have hn:=hs.n5;have h1:=pt (ab cash cs) (10*(ab cash cs).n) fun _=>10
 have e:(ab cash cs).n=cash.length:=rfl;refine⟨by unfold Day.frs;omega,fun r hr=>?_⟩
 obtain⟨-,h2,h3⟩:=hne r hr;have:=CI h2 h3;omega
theorem J5 {who:Nat} (hw:who<cash.length):cr cash cs who≤((536870912:Nat):Rat):=by
 have h1:=rj (AD hs.ok who) (i:=who) hw;have h2:=(hs.upto who ((10:Nat):Int)).2
 have h3:(ab cash cs).U who 10≤((536870912:Nat):Rat):=by
  rw[←dl hs.right,←aih];exact Rat.intCast_le_intCast.2 h2
 unfold cr kh pos;generalize ((536870912:Nat):Rat)=B at *
 have h4:(0:Rat)≤(ab cash cs).U who 10:=by
  have:=hs.ok.U_mono who (r:=0) (s:=10) (by omega);rw[Day.U_zero] at this;exact this
 split<;>grind
theorem Aw {who:Nat} (hw:who<cash.length) (hm:p8 cash cs who=true):D3 [.agg (ad (ai (cr cash cs who)))]=some (.same (.tup [.int .i64 (upN (cr cash cs who)),.bool true]))∧upN (cr cash cs who)≤536870912∧cr cash cs who≤(upN (cr cash cs who):Rat):=by
 obtain⟨-,h1,h2⟩:=Me hs hw hm;have h3:=J5 hs hw;refine⟨KC _ ⟨h2,Rat.le_trans h3 ?_,eh h1 (by omega)⟩,(yq h2 _).1 h3,(yq h2 _).2 (Nat.le_refl _)⟩
 exact_mod_cast (show (536870912:Nat)≤1099511627776 by decide)
theorem FJ {who:Nat} {n:Nat} (hn:n≤1000000000):dA cash who n=cash.set who (cash.getD who 0+n):=by
 unfold dA;have:=hs.cash who;rw[ak _ (by omega) (by omega)]
theorem BG {who:Nat} {n:Nat} (hn:n≤1000000000) (hw:who<cash.length) (i:Nat):(dA cash who n).getD i 0=cash.getD i 0+if i=who then (n:Int) else 0:=by
 rw[FJ hs hn,ahU,List.getElem?_set]
 by_cases h:who=i
 ·rw[if_pos h,if_pos hw,aii,h,if_pos rfl]
 ·rw[if_neg h,if_neg (Ne.symm h),ahW,ahU]
theorem pH {who:Nat} {n:Nat} (hn:n≤1000000000) (hw:who<cash.length) (hb:∀ x∈cash,x≤1000000000000):SmallD (dA cash who n) cs:=by
 have hr:=rightD_iff.1 hs.right;have hl:(dA cash who n).length=cash.length:=by unfold dA;rw[ah8]
 refine⟨rightD_iff.2 ⟨by rw[hl];exact hr.1,hr.2.1,fun x hx=>?_,by rw[hl];exact hr.2.2.2⟩,by rw[hl];exact hs.n5,hs.c12,hs.am⟩
 obtain⟨i,hi,rfl⟩:=List.getElem_of_mem hx;have h1:=BG hs hn hw i;rw[ahU,ahV hi,aii] at h1;have hic:i<cash.length:=by omega
 have h2:cash.getD i 0∈cash:=by rw[ahU,ahV hic];exact List.getElem_mem hic
 have h3:=hb _ h2;have h4:=hs.cash i;rw[h1]
 split<;>omega
theorem th {who:Nat} {n:Nat} (hn:n≤1000000000) (hw:who<cash.length):(ab (dA cash who n) cs).n=(ab cash cs).n∧(ab (dA cash who n) cs).cl=(ab cash cs).cl∧∀ i,(ab (dA cash who n) cs).cash i=(ab cash cs).cash i+if i=who then (n:Rat) else 0:=by
 have hl:(dA cash who n).length=cash.length:=by unfold dA;rw[ah8]
 refine⟨hl,rfl,fun i=>?_⟩
 show (((dA cash who n).getD i 0:Int):Rat)=((cash.getD i 0:Int):Rat)+_;rw[BG hs hn hw,Rat.intCast_add]
 congr 1
 split
 ·exact aih n
 ·rfl
theorem Fu {who:Nat} {n:Nat} (hn:n≤1000000000) (hw:who<cash.length) (hb:∀ x∈cash,x≤1000000000000) {i:Nat} (hi:i<cash.length):(ab cash cs).gr i≤(ab (dA cash who n) cs).gr i:=by
 obtain⟨h1,h2,h3⟩:=th hs hn hw
 have hk:∀ i,(ab cash cs).cash i≤(ab (dA cash who n) cs).cash i:=fun i=>by
  rw[h3];have:(0:Rat)≤(n:Rat):=aij
  split<;>grind
 have:=MG hs.ok (pH hs hn hw hb).ok h1 h2 (fun i _=>hk i) i hi;have:=hk i;grind
theorem Hw {who:Nat} (hw:who<cash.length) (hm:p8 cash cs who=true) (hb:∀ x∈cash,x≤1000000000000):(ab cash cs).U who 10≤(ab (dA cash who (upN (cr cash cs who))) cs).gr who:=by
 obtain⟨-,h1,h2⟩:=Aw hs hw hm;obtain⟨k1,k2,k3⟩:=th hs (n:=upN (cr cash cs who)) (by omega) hw;have hge:(0:Rat)≤(upN (cr cash cs who):Rat):=aij;refine (DB hs.ok who (pH hs (by omega) hw hb).ok k1 k2 hge k3 hw).2 ?_;have h3:kh cash cs who≤cr cash cs who:=vr _;unfold kh at h3;generalize (upN (cr cash cs who):Rat)=u at *;grind
end
noncomputable def r6:List Data→Option PRes:=FF (α:=(List Int) × (List ClR) × Int) (fun (cash,cs,who)=>([.sl (cash.map aa),.sl (cs.map clL),.int .i64 who]:List Data)) (fun (cash,cs,who)=>some (.same (.bool true)))
theorem vJ:∀ a b:(List Int) × (List ClR) × Int,(fun (cash,cs,who)=>([.sl (cash.map aa),.sl (cs.map clL),.int .i64 who]:List Data)) a=(fun (cash,cs,who)=>([.sl (cash.map aa),.sl (cs.map clL),.int .i64 who]:List Data)) b→a=b:=by
  rintro⟨cash1,cs1,who1⟩ ⟨cash2,cs2,who2⟩ h;simp only[List.cons.injEq,Data.sl.injEq,Data.int.injEq,and_true,true_and] at h;exact ahX (af aj _ _ h.1) (ahX (af f6 _ _ h.2.1) h.2.2)
@[go_sem] theorem yH (cash:List Int) (cs:List ClR) (who:Int):r6 [.sl (cash.map aa),.sl (cs.map clL),.int .i64 who]=some (.same (.bool true)):=aV vJ (cash,cs,who)
theorem FY (T:Tab) (c8:T kS=mkE uS) (fz:T mY=mkE Dr) (cQ:T dt=mkE jH) (iX:T n7=mkE D3) (bF:T fj=mkE ol) (dh:T kR=mkE tM) (aq:T bh=mkE dC) (de:T gm=mkE tF) (cash:List Int) (cs:List ClR) (who:Int) :
  wp T mf_law22_RescueOthers.body (bE mf_law22_RescueOthers.res (.same (.bool true))) ⟨ax [.dat (.sl (cash.map aa)),.dat (.sl (cs.map clL)),.dat (.int .i64 who)],emp⟩:=by
 refine ap ?_;simp only[mf_law22_RescueOthers];have sm:=Bp;have g1:=Hq cash cs;rcases hf:vz cash cs
 ·rw[hf] at g1
  simp only[go_sem,go_sem_proc,ahY,c8,fz,cQ,iX,bF,dh,aq,de,sm,g1,ah0]
  repeat' (first|refine qS ?_ ?_|fail)<;>intro h<;>simp only[h,go_sem,go_sem_proc,ahY,c8,fz,cQ,iX,bF,dh,aq,de,sm,g1,ah0]
 rw[hf] at g1;rcases d1:decide (who<0)
 case true =>
        simp only[go_sem,go_sem_proc,ahY,c8,fz,cQ,iX,bF,dh,aq,de,sm,g1,d1,ah1]
        repeat' (first|refine qS ?_ ?_|fail)<;>intro h<;>simp only[h,go_sem,go_sem_proc,ahY,c8,fz,cQ,iX,bF,dh,aq,de,sm,g1,d1,ah1]
 rcases d2:decide (who≥(cash.length:Int))
 case true =>
        simp only[go_sem,go_sem_proc,ahY,c8,fz,cQ,iX,bF,dh,aq,de,sm,g1,d1,d2,ah2,ah1]
        repeat' (first|refine qS ?_ ?_|fail)<;>intro h<;>simp only[h,go_sem,go_sem_proc,ahY,c8,fz,cQ,iX,bF,dh,aq,de,sm,g1,d1,d2,ah2,ah1]
 obtain⟨w,rfl⟩:∃ w:Nat,who=(w:Int):=⟨who.toNat,by have:=of_decide_eq_false d1;omega⟩
 have hw:w<cash.length:=by have:=of_decide_eq_false d2;omega
 have rl:=jW cash cs w (Eg hf);unfold nM at rl;rcases hr:cG cash cs
 ·rw[if_neg (by rw[hr];simp)] at rl
  simp only[ad,bB,ahZ] at rl;simp only[go_sem,go_sem_proc,ahY,c8,fz,cQ,iX,bF,dh,aq,de,sm,g1,d1,d2,rl,show ((1:Int)==0)=false from rfl,ah2,bne,ah1,ah0]
  repeat' (first|refine qS ?_ ?_|fail)<;>intro h<;>simp only[h,go_sem,go_sem_proc,ahY,c8,fz,cQ,iX,bF,dh,aq,de,sm,g1,d1,d2,rl,show ((1:Int)==0)=false from rfl,ah2,bne,ah1,ah0]
 rw[if_pos ⟨hr,by omega,by omega⟩,ah3] at rl
 have hs:=wk hf hr;rcases hm:p8 cash cs w
 ·rw[if_neg (by rw[hm];decide)] at rl
  simp only[ad,bB,ahZ] at rl;simp only[go_sem,go_sem_proc,ahY,c8,fz,cQ,iX,bF,dh,aq,de,sm,g1,d1,d2,rl,show ((6:Int)==0)=false from rfl,ah2,bne,ah1,ah0]
  repeat' (first|refine qS ?_ ?_|fail)<;>intro h<;>simp only[h,go_sem,go_sem_proc,ahY,c8,fz,cQ,iX,bF,dh,aq,de,sm,g1,d1,d2,rl,show ((6:Int)==0)=false from rfl,ah2,bne,ah1,ah0]
 rw[if_pos hm] at rl;have hb:∀ x∈cash,x≤1000000000000:=fun x hx=>by have:=(HD hf hr).1 x hx;omega
 have hn5:=hs.n5;have h12:=hs.c12;obtain⟨u1,u2,-⟩:=Aw hs hw hm;have hfull:=Hw hs hw hm hb;have hgm:=fun i=>Fu hs (n:=upN (cr cash cs w)) (by omega) hw hb (i:=i)
 have gv:=zG cash w (upN (cr cash cs w)) ⟨hw,by omega⟩
 have hs2:=pH hs (n:=upN (cr cash cs w)) (by omega) hw hb;have hgl:(dA cash w (upN (cr cash cs w))).length=cash.length:=by unfold dA;rw[ah8]
 have hday:=th hs (n:=upN (cr cash cs w)) (by omega) hw;have sv:=lB cash cs (Eg hf);have sv2:=lB (dA cash w (upN (cr cash cs w))) cs ⟨by omega,by omega,fun _=>hs2⟩
 unfold B4 at sv sv2;rw[if_pos hr] at sv;rw[if_pos hs2.right] at sv2;have hU:(ab (dA cash w (upN (cr cash cs w))) cs).U=(ab cash cs).U:=RN hday.2.1;have fa:=fun i=>vZ hs (i:=i)
 have fb:=fun i (hi:i<cash.length)=>vZ hs2 (i:=i) (by rw[hgl];exact hi)
 have oa:=HY hs;have ob:=HY hs2;have z1:=fun i=>sn hs (i:=i)
 have z2:=fun i (hi:i<cash.length)=>sn hs2 (i:=i) (by rw[hgl];exact hi)
 have l1:(((fY cash cs).length:Int)==(cash.length:Int))=true:=by rw[show (fY cash cs).length=cash.length from dx _ _];exact beq_self_eq_true _
 have l2:(((fY (dA cash w (upN (cr cash cs w))) cs).length:Int)==(cash.length:Int))=true:=by rw[show (fY (dA cash w (upN (cr cash cs w))) cs).length=(dA cash w (upN (cr cash cs w))).length from dx _ _,hgl];exact beq_self_eq_true _
 have get1:∀ i,i<cash.length→(fY cash cs)[i]?=some (ai ((ab cash cs).gr i)):=fun i hi=>ej _ hi
 have get2:∀ i,i<cash.length→(fY (dA cash w (upN (cr cash cs w))) cs)[i]?=some (ai ((ab (dA cash w (upN (cr cash cs w))) cs).gr i)):=fun i hi=>ej _ (by rw[hgl];exact hi)
 rw[hU] at fb;clear hday hU;generalize qL cash cs=PD at *;generalize qL (dA cash w (upN (cr cash cs w))) cs=PD2 at *;generalize fY cash cs=HV at *;generalize fY (dA cash w (upN (cr cash cs w))) cs=HV2 at *;generalize (ab cash cs).frs=fr at *;generalize (ab (dA cash w (upN (cr cash cs w))) cs).frs=fr2 at *;generalize (ab cash cs).gr=gr at *;generalize (ab (dA cash w (upN (cr cash cs w))) cs).gr=gr2 at *;generalize dA cash w (upN (cr cash cs w))=GC at *;generalize upN (cr cash cs w)=un at *;generalize ai (cr cash cs w)=LE at *;obtain⟨⟨e1,e2⟩,⟨e3,e4⟩⟩:=LE;simp only[ad] at rl u1;simp only[go_sem,go_sem_proc,ahY,c8,fz,cQ,iX,bF,dh,aq,de,sm,g1,d1,d2,rl,u1,gv,sv,sv2,l1,l2,ah2,bne,beq_self_eq_true,ah1,ah0];refine ae [0,2,7,12,14] [259012,259014] (fun (i:Nat) tm m=>i≤cash.length∧tm 16 = .dat (.int .i64 i)) (fun i=>cash.length-i) 0 (by refine⟨by omega,rfl⟩) ?_;intro vs ms hvs hms;simp only[go_sem,go_sem_proc,ahY,c8,fz,cQ,iX,bF,dh,aq,de,ah2] at hvs hms;subst hvs hms;rintro i tm m hk hm2 ⟨hi,e16⟩;simp only[go_sem,go_sem_proc,ahY,c8,fz,cQ,iX,bF,dh,aq,de,List.cons.injEq] at hk hm2;obtain⟨k0,k2,k7,k12,k14⟩:=hk;obtain⟨q12,q14⟩:=hm2;rcases ah9 (i<cash.length) with hlt | hge
 ·have d3:decide ((i:Int)<(cash.length:Int))=true:=decide_eq_true (by omega)
  have w3:IntKind.i64.wrap ((i:Int)+1)=((i+1:Nat):Int):=by rw[ak _ (by omega) (by omega)];omega
  have a1:=get1 i hlt;have a2:=get2 i hlt;have hgi:=hgm i hlt;have cp:=iI (eh (z1 i hlt) (by omega)) (eh (z2 i hlt) (by omega));have c0:decide (lg (gr i) (gr2 i)>0)=false:=by rw[zB];exact decide_eq_false (by grind)
  have t1:=nH HV PD fr i oa;have t2:=nH HV2 PD2 fr2 i ob
  have imp:rX fr2 i=true→rX fr i=true:=fun h=>by
   rw[fb i hlt] at h;rw[fa i hlt];have:=of_decide_eq_true h;exact decide_eq_true (by grind)
  generalize ai (gr i)=A at *;generalize ai (gr2 i)=B at *;obtain⟨⟨b1,b2⟩,⟨b3,b4⟩⟩:=A;obtain⟨⟨c1,c2⟩,⟨c3,c4⟩⟩:=B;simp only[ad] at cp;rcases q:rX fr2 i
  ·rw[q] at t2
   simp only[go_sem,go_sem_proc,ahY,c8,fz,cQ,iX,bF,dh,aq,de,k0,k2,k7,k12,k14,e16,q12,q14,a1,a2,d3,w3,cp,c0,t1,t2,ad,ah2,ah6,ah1]
   repeat' (first|refine qS ?_ ?_|fail)<;>intro h<;>simp only[h,go_sem,go_sem_proc,ahY,c8,fz,cQ,iX,bF,dh,aq,de,k0,k2,k7,k12,k14,e16,q12,q14,a1,a2,d3,w3,cp,c0,t1,t2,ad,ah2,ah6,ah1]
   exact⟨i+1,by omega,by omega,rfl⟩
  ·rw[q] at t2
   rw[imp q] at t1;simp only[go_sem,go_sem_proc,ahY,c8,fz,cQ,iX,bF,dh,aq,de,k0,k2,k7,k12,k14,e16,q12,q14,a1,a2,d3,w3,cp,c0,t1,t2,ad,ah2,ah6,ah1]
   repeat' (first|refine qS ?_ ?_|fail)<;>intro h<;>simp only[h,go_sem,go_sem_proc,ahY,c8,fz,cQ,iX,bF,dh,aq,de,k0,k2,k7,k12,k14,e16,q12,q14,a1,a2,d3,w3,cp,c0,t1,t2,ad,ah2,ah6,ah1]
   exact⟨i+1,by omega,by omega,rfl⟩
 ·have d3:decide ((i:Int)<(cash.length:Int))=false:=decide_eq_false (by omega)
  have t2:=nH HV2 PD2 fr2 w ob;have:rX fr2 w=false:=by rw[fb w hw];exact decide_eq_false (by grind)
  rw[this] at t2;simp only[go_sem,go_sem_proc,ahY,c8,fz,cQ,iX,bF,dh,aq,de,k0,k2,k7,k12,k14,e16,q12,q14,d3,t2,ah2,ah0]
  repeat' (first|refine qS ?_ ?_|fail)<;>intro h<;>simp only[h,go_sem,go_sem_proc,ahY,c8,fz,cQ,iX,bF,dh,aq,de,k0,k2,k7,k12,k14,e16,q12,q14,d3,t2,ah2,ah0]
end Go.Mini
namespace Go.Mini
open Go Go.Proofs
set_option maxRecDepth 100000
theorem psF {P : Program} {T : Tab} {kb : Nat} {own : List Nat} {α : Type} {args : α → List Data} {res : α → Option PRes} (hT : kg P T) (hm : P.follows .mixedOrders = true) {f : FuncId} {fn : Func} {mf : MFunc} (hf : P.funcs[f]? = some fn) (hname : (fn.name == "runtime.NumGoroutine") = false) (htr : j8 P kb own fn = some { mf with body := erase mf.body }) (h : ∀ a r, res a = some r → (args a).length ≤ mf.n ∧ wp T mf.body (bE mf.res r) ⟨ax ((args a).map .dat), emp⟩) : aK P f (FF args res) := Kh hT hm hf hname htr fun ds r hr => by
 obtain⟨a,rfl,h2⟩:=OJ hr;exact h a r h2
theorem mixed:Tryz.prog.follows .mixedOrders=true:=by kernel_rfl
theorem oD:aK Tryz.prog cq mJ:=psF (mf:=mf_big_trim) (kb:=177000) (own:=[]) (aw (aC au) (aB av)) mixed Tryz.func158 (by kernel_rfl) (by kernel_rfl) fun x0 r hr=>by obtain⟨hc,rfl⟩:=ao hr;exact⟨aik rfl,Ol _  x0 hc⟩
theorem oA:iL Tryz.prog cq (mkG j0):=RSpec.toE (AF (mf:=mf_big_trim) (kb:=177000) (own:=[]) (aw (aC au) (aB av)) mixed Tryz.func158 (by kernel_rfl) (by kernel_rfl) fun args mem x h=>by
 obtain⟨a,⟨rfl,hm,hl⟩,rfl⟩:=BV h;exact⟨aik rfl,LO _ a.l a.k a.g mem hm hl⟩)
theorem JG:aK Tryz.prog gO xX:=psF (mf:=mf_cmp_isNaN_int) (kb:=184000) (own:=[]) (aw (aC au) (aB av)) mixed Tryz.func160 (by kernel_rfl) (by kernel_rfl) fun x0 r hr=>by obtain rfl:=Option.some.inj hr;exact⟨aik rfl,L3 _  x0⟩
theorem EG:aK Tryz.prog dD xq:=psF (mf:=mf_cmp_Compare_int) (kb:=174000) (own:=[]) (aw (aC (ac JG au)) (aB av)) mixed Tryz.func113 (by kernel_rfl) (by kernel_rfl) fun⟨x0,x1⟩ r hr=>by obtain rfl:=Option.some.inj hr;exact⟨aik rfl,Oq _ (ah rfl rfl) x0 x1⟩
theorem O5:aK Tryz.prog lM IQ:=psF (mf:=mf_cmp_Or_int) (kb:=179000) (own:=[]) (aw (aC au) (aB av)) mixed Tryz.func161 (by kernel_rfl) (by kernel_rfl) fun x0 r hr=>by obtain⟨hc,rfl⟩:=ao hr;exact⟨aik rfl,Ry _  x0 hc⟩
theorem oq:aK Tryz.prog bs lh:=psF (mf:=mf_slices_Clone_int) (kb:=156000) (own:=[5]) (aw (aC au) (aB av)) mixed Tryz.func60 (by kernel_rfl) (by kernel_rfl) fun x0 r hr=>by obtain⟨hc,rfl⟩:=ao hr;exact⟨aik rfl,L8 _  x0 hc⟩
theorem eL:aK Tryz.prog aY en:=psF (mf:=mf_big_Right) (kb:=136000) (own:=[]) (aw (aC au) (aB av)) mixed Tryz.func91 (by kernel_rfl) (by kernel_rfl) fun⟨x0,x1⟩ r hr=>by obtain⟨hc,rfl⟩:=ao hr;exact⟨aik rfl,Dq _  x0 x1 hc⟩
theorem kC:aK Tryz.prog bA jN:=psF (mf:=mf_big_signed) (kb:=158000) (own:=[]) (aw (aC (ac oD au)) (aB (eK oA av))) mixed Tryz.func110 (by kernel_rfl) (by kernel_rfl) fun⟨x0,x1⟩ r hr=>by obtain⟨hc,rfl⟩:=ao hr;exact⟨aik rfl,Ij _ (oK rfl rfl) x0 x1 hc⟩
theorem pG:aK Tryz.prog dY mb:=psF (mf:=mf_big_compare) (kb:=175000) (own:=[]) (aw (aC (ac EG au)) (aB av)) mixed Tryz.func114 (by kernel_rfl) (by kernel_rfl) fun⟨x0,x1⟩ r hr=>by obtain⟨hc,rfl⟩:=ao hr;exact⟨aik rfl,Gr _ (ah rfl rfl) x0 x1 hc⟩
theorem Ih:aK Tryz.prog kM EI:=psF (mf:=mf_big_add) (kb:=172000) (own:=[]) (aw (aC (ac oD au)) (aB (eK oA av))) mixed Tryz.func111 (by kernel_rfl) (by kernel_rfl) fun⟨x0,x1⟩ r hr=>by obtain⟨hc,rfl⟩:=ao hr;exact⟨aik rfl,RM _ (oK rfl rfl) x0 x1 hc⟩
theorem I9:aK Tryz.prog jx EF:=psF (mf:=mf_big_sub) (kb:=173000) (own:=[10]) (aw (aC (ac oq (ac oD au))) (aB (eK oA av))) mixed Tryz.func112 (by kernel_rfl) (by kernel_rfl) fun⟨x0,x1⟩ r hr=>by obtain⟨hc,rfl⟩:=ao hr;exact⟨aik rfl,Qy _ (ah rfl rfl) (oK rfl rfl) x0 x1 hc⟩
theorem HK:aK Tryz.prog jA EX:=psF (mf:=mf_big_mul) (kb:=161000) (own:=[]) (aw (aC (ac oD au)) (aB (eK oA av))) mixed Tryz.func118 (by kernel_rfl) (by kernel_rfl) fun⟨x0,x1⟩ r hr=>by obtain⟨hc,rfl⟩:=ao hr;exact⟨aik rfl,Qt _ (oK rfl rfl) x0 x1 hc⟩
theorem HR:aK Tryz.prog kq xn:=psF (mf:=mf_big_short) (kb:=176000) (own:=[]) (aw (aC (ac oD au)) (aB (eK oA av))) mixed Tryz.func157 (by kernel_rfl) (by kernel_rfl) fun⟨x0,x1⟩ r hr=>by obtain⟨hc,rfl⟩:=ao hr;exact⟨aik rfl,K6 _ (oK rfl rfl) x0 x1 hc⟩
theorem Fd:iL Tryz.prog lE (mkG oh):=RSpec.toE (AF (mf:=mf_big_settle) (kb:=178000) (own:=[]) (aw (aC au) (aB av)) mixed Tryz.func159 (by kernel_rfl) (by kernel_rfl) fun args mem x h=>by
 obtain⟨a,⟨rfl,hc⟩,rfl⟩:=BV h;exact⟨aik rfl,JJ _ a mem hc⟩)
theorem Ir:aK Tryz.prog kT Es:=psF (mf:=mf_big_div) (kb:=157000) (own:=[54]) (aw (aC (ac pG (ac oq (ac HR (ac oD (ac HK au)))))) (aB (eK oA (eK Fd av)))) mixed Tryz.func109 (by kernel_rfl) (by kernel_rfl) fun⟨x0,x1⟩ r hr=>by obtain⟨hc,rfl⟩:=ao hr;exact⟨aik rfl,QY _ (ah rfl rfl) (ah rfl rfl) (ah rfl rfl) (oK rfl rfl) (ah rfl rfl) (nP rfl rfl) x0 x1 hc⟩
theorem pf:aK Tryz.prog cn mj:=psF (mf:=mf_big_checked) (kb:=155000) (own:=[]) (aw (aC au) (aB av)) mixed Tryz.func117 (by kernel_rfl) (by kernel_rfl) fun⟨x0,x1,x2⟩ r hr=>by obtain rfl:=Option.some.inj hr;exact⟨aik rfl,Gq _  x0 x1 x2⟩
theorem H5:aK Tryz.prog jq DT:=psF (mf:=mf_big_Neg) (kb:=152000) (own:=[]) (aw (aC (ac eL (ac oq (ac kC au)))) (aB av)) mixed Tryz.func74 (by kernel_rfl) (by kernel_rfl) fun⟨x0,x1⟩ r hr=>by obtain⟨hc,rfl⟩:=ao hr;exact⟨aik rfl,Ru _ (ah rfl rfl) (ah rfl rfl) (ah rfl rfl) x0 x1 hc⟩
theorem yZ:aK Tryz.prog dR wm:=psF (mf:=mf_big_Mul) (kb:=140000) (own:=[]) (aw (aC (ac eL (ac HK (ac kC (ac pf au))))) (aB av)) mixed Tryz.func76 (by kernel_rfl) (by kernel_rfl) fun⟨x0,x1,x2,x3⟩ r hr=>by obtain⟨hc,rfl⟩:=ao hr;exact⟨aik rfl,RF _ (ah rfl rfl) (ah rfl rfl) (ah rfl rfl) (ah rfl rfl) x0 x1 x2 x3 hc⟩
theorem N6:aK Tryz.prog pE JE:=psF (mf:=mf_big_Add) (kb:=160000) (own:=[]) (aw (aC (ac eL (ac O5 (ac Ih (ac I9 (ac pG (ac kC (ac pf au)))))))) (aB av)) mixed Tryz.func116 (by kernel_rfl) (by kernel_rfl) fun⟨x0,x1,x2,x3⟩ r hr=>by obtain⟨hc,rfl⟩:=ao hr;exact⟨aik rfl,QA _ (ah rfl rfl) (ah rfl rfl) (ah rfl rfl) (ah rfl rfl) (ah rfl rfl) (ah rfl rfl) (ah rfl rfl) x0 x1 x2 x3 hc⟩
theorem DE:aK Tryz.prog kU rT:=psF (mf:=mf_big_Compare) (kb:=154000) (own:=[]) (aw (aC (ac eL (ac EG (ac pG au)))) (aB av)) mixed Tryz.func69 (by kernel_rfl) (by kernel_rfl) fun⟨x0,x1,x2,x3⟩ r hr=>by obtain⟨hc,rfl⟩:=ao hr;exact⟨aik rfl,Hp _ (ah rfl rfl) (ah rfl rfl) (ah rfl rfl) x0 x1 x2 x3 hc⟩
theorem Ku:aK Tryz.prog kJ Ew:=psF (mf:=mf_big_Gcd) (kb:=137000) (own:=[]) (aw (aC (ac eL (ac oq (ac Ir (ac kC (ac pf au)))))) (aB av)) mixed Tryz.func92 (by kernel_rfl) (by kernel_rfl) fun⟨x0,x1,x2,x3⟩ r hr=>by obtain⟨hc,rfl⟩:=ao hr;exact⟨aik rfl,Rx _ (ah rfl rfl) (ah rfl rfl) (ah rfl rfl) (ah rfl rfl) (ah rfl rfl) x0 x1 x2 x3 hc⟩
theorem Ii:aK Tryz.prog iz Ef:=psF (mf:=mf_big_Div) (kb:=153000) (own:=[]) (aw (aC (ac eL (ac Ir (ac Ih (ac I9 (ac kC au)))))) (aB av)) mixed Tryz.func68 (by kernel_rfl) (by kernel_rfl) fun⟨x0,x1,x2,x3⟩ r hr=>by obtain⟨hc,rfl⟩:=ao hr;exact⟨aik rfl,QB _ (ah rfl rfl) (ah rfl rfl) (ah rfl rfl) (ah rfl rfl) (ah rfl rfl) x0 x1 x2 x3 hc⟩
theorem HX:aK Tryz.prog oI y8:=psF (mf:=mf_big_Of) (kb:=150000) (own:=[]) (aw (aC (ac kC au)) (aB av)) mixed Tryz.func106 (by kernel_rfl) (by kernel_rfl) fun x0 r hr=>by obtain⟨hc,rfl⟩:=ao hr;exact⟨aik rfl,K1 _ (ah rfl rfl) x0 hc⟩
theorem G0:aK Tryz.prog pn uK:=psF (mf:=mf_big_Int) (kb:=159000) (own:=[]) (aw (aC (ac eL au)) (aB av)) mixed Tryz.func147 (by kernel_rfl) (by kernel_rfl) fun⟨x0,x1⟩ r hr=>by obtain⟨hc,rfl⟩:=ao hr;exact⟨aik rfl,Iy _ (ah rfl rfl) x0 x1 hc⟩
theorem M0:aK Tryz.prog nz Dl:=psF (mf:=mf_frac_one) (kb:=138000) (own:=[]) (aw (aC (ac G0 au)) (aB av)) mixed Tryz.func93 (by kernel_rfl) (by kernel_rfl) fun⟨x0,x1⟩ r hr=>by obtain⟨hc,rfl⟩:=ao hr;exact⟨aik rfl,Pr _ (ah rfl rfl) x0 x1 hc⟩
theorem iF:aK Tryz.prog bb ia:=psF (mf:=mf_frac_Right) (kb:=116000) (own:=[]) (aw (aC (ac eL (ac Ku (ac M0 au)))) (aB av)) mixed Tryz.func52 (by kernel_rfl) (by kernel_rfl) fun⟨x0,x1,x2,x3⟩ r hr=>by obtain⟨hc,rfl⟩:=ao hr;exact⟨aik rfl,HN _ (ah rfl rfl) (ah rfl rfl) (ah rfl rfl) x0 x1 x2 x3 hc⟩
theorem Ed:aK Tryz.prog jU yJ:=psF (mf:=mf_frac_New) (kb:=149000) (own:=[]) (aw (aC (ac eL (ac H5 (ac Ku (ac Ii au))))) (aB av)) mixed Tryz.func105 (by kernel_rfl) (by kernel_rfl) fun⟨x0,x1,x2,x3⟩ r hr=>by obtain⟨hc,rfl⟩:=ao hr;exact⟨aik rfl,O7 _ (ah rfl rfl) (ah rfl rfl) (ah rfl rfl) (ah rfl rfl) x0 x1 x2 x3 hc⟩
theorem xL:aK Tryz.prog eQ tN:=psF (mf:=mf_frac_Of) (kb:=130000) (own:=[]) (aw (aC (ac HX (ac Ed au))) (aB av)) mixed Tryz.func62 (by kernel_rfl) (by kernel_rfl) fun⟨x0,x1⟩ r hr=>by obtain⟨hc,rfl⟩:=ao hr;exact⟨aik rfl,Qz _ (ah rfl rfl) (ah rfl rfl) x0 x1 hc⟩
theorem Mf:aK Tryz.prog nW Cm:=psF (mf:=mf_frac_sum) (kb:=139000) (own:=[]) (aw (aC (ac yZ (ac N6 au))) (aB av)) mixed Tryz.func75 (by kernel_rfl) (by kernel_rfl) fun⟨x0,x1,x2,x3,x4,x5,x6,x7⟩ r hr=>by obtain⟨hc,rfl⟩:=ao hr;exact⟨aik rfl,N0 _ (ah rfl rfl) (ah rfl rfl) x0 x1 x2 x3 x4 x5 x6 x7 hc⟩
theorem sZ:aK Tryz.prog dE qX:=psF (mf:=mf_frac_quotient) (kb:=141000) (own:=[]) (aw (aC (ac Ed au)) (aB av)) mixed Tryz.func77 (by kernel_rfl) (by kernel_rfl) fun⟨x0,x1,x2,x3,x4,x5⟩ r hr=>by obtain⟨hc,rfl⟩:=ao hr;exact⟨aik rfl,K2 _ (ah rfl rfl) x0 x1 x2 x3 x4 x5 hc⟩
theorem xB:aK Tryz.prog fx pg:=psF (mf:=mf_frac_Add) (kb:=119000) (own:=[]) (aw (aC (ac iF (ac Mf (ac yZ (ac sZ au))))) (aB av)) mixed Tryz.func30 (by kernel_rfl) (by kernel_rfl) fun⟨x0,x1,x2,x3,x4,x5,x6,x7⟩ r hr=>by obtain⟨hc,rfl⟩:=ao hr;exact⟨aik rfl,O8 _ (ah rfl rfl) (ah rfl rfl) (ah rfl rfl) (ah rfl rfl) x0 x1 x2 x3 x4 x5 x6 x7 hc⟩
theorem sL:aK Tryz.prog dr lF:=psF (mf:=mf_frac_Sub) (kb:=132000) (own:=[]) (aw (aC (ac iF (ac H5 (ac xB au)))) (aB av)) mixed Tryz.func29 (by kernel_rfl) (by kernel_rfl) fun⟨x0,x1,x2,x3,x4,x5,x6,x7⟩ r hr=>by obtain⟨hc,rfl⟩:=ao hr;exact⟨aik rfl,OW _ (ah rfl rfl) (ah rfl rfl) (ah rfl rfl) x0 x1 x2 x3 x4 x5 x6 x7 hc⟩
theorem xY:aK Tryz.prog dH lH:=psF (mf:=mf_frac_Mul) (kb:=134000) (own:=[]) (aw (aC (ac iF (ac yZ (ac sZ au)))) (aB av)) mixed Tryz.func72 (by kernel_rfl) (by kernel_rfl) fun⟨x0,x1,x2,x3,x4,x5,x6,x7⟩ r hr=>by obtain⟨hc,rfl⟩:=ao hr;exact⟨aik rfl,NJ _ (ah rfl rfl) (ah rfl rfl) (ah rfl rfl) x0 x1 x2 x3 x4 x5 x6 x7 hc⟩
theorem EQ:aK Tryz.prog gh pm:=psF (mf:=mf_frac_Div) (kb:=169000) (own:=[]) (aw (aC (ac iF (ac yZ (ac sZ au)))) (aB av)) mixed Tryz.func73 (by kernel_rfl) (by kernel_rfl) fun⟨x0,x1,x2,x3,x4,x5,x6,x7⟩ r hr=>by obtain⟨hc,rfl⟩:=ao hr;exact⟨aik rfl,Pa _ (ah rfl rfl) (ah rfl rfl) (ah rfl rfl) x0 x1 x2 x3 x4 x5 x6 x7 hc⟩
theorem iJ:aK Tryz.prog bh dC:=psF (mf:=mf_frac_Compare) (kb:=135000) (own:=[]) (aw (aC (ac iF (ac Ii (ac DE au)))) (aB av)) mixed Tryz.func22 (by kernel_rfl) (by kernel_rfl) fun⟨x0,x1,x2,x3,x4,x5,x6,x7⟩ r hr=>by obtain⟨hc,rfl⟩:=ao hr;exact⟨aik rfl,CO _ (ah rfl rfl) (ah rfl rfl) (ah rfl rfl) x0 x1 x2 x3 x4 x5 x6 x7 hc⟩
theorem xe:aK Tryz.prog ay pL:=psF (mf:=mf_linear_Right_1) (kb:=125000) (own:=[]) (aw (aC (ac iF au)) (aB av)) mixed Tryz.func203 (by kernel_rfl) (by kernel_rfl) fun⟨x0,x1,x2,x3⟩ r hr=>by obtain⟨hc,rfl⟩:=ao hr;exact⟨aik rfl,HZ _ (ah rfl rfl) x0 x1 x2 x3 hc⟩
theorem Gv:aK Tryz.prog bM vu:=psF (mf:=mf_clear_Fits_1) (kb:=234000) (own:=[]) (aw (aC (ac iF au)) (aB av)) mixed Tryz.func51 (by kernel_rfl) (by kernel_rfl) fun⟨x0,x1,x2,x3⟩ r hr=>by obtain⟨hc,rfl⟩:=ao hr;exact⟨aik rfl,J9 _ (ah rfl rfl) x0 x1 x2 x3 hc⟩
theorem Ga:aK Tryz.prog eS uB:=psF (mf:=mf_slices_IndexFunc_Frac) (kb:=146000) (own:=[]) (aw (aC (ac xe (ac Gv au))) (aB av)) mixed Tryz.func94 (by kernel_rfl) (by kernel_rfl) fun⟨x0,x1⟩ r hr=>by obtain⟨hc,rfl⟩:=ao hr;exact⟨aik rfl,IM _ (ah rfl rfl) (ah rfl rfl) x0 x1 hc⟩
theorem CJ:aK Tryz.prog dX rh:=psF (mf:=mf_slices_ContainsFunc_Frac) (kb:=128000) (own:=[]) (aw (aC (ac Ga au)) (aB av)) mixed Tryz.func53 (by kernel_rfl) (by kernel_rfl) fun⟨x0,x1⟩ r hr=>by obtain⟨hc,rfl⟩:=ao hr;exact⟨aik rfl,FO _ (ah rfl rfl) x0 x1 hc⟩
theorem BN:aK Tryz.prog bz pz:=psF (mf:=mf_linear_Right_2) (kb:=127000) (own:=[]) (aw (aC (ac xe (ac CJ au))) (aB av)) mixed Tryz.func205 (by kernel_rfl) (by kernel_rfl) fun⟨x0,x1,x2,x3,x4,x5⟩ r hr=>by obtain⟨hc,rfl⟩:=ao hr;exact⟨aik rfl,Ci _ (ah rfl rfl) (ah rfl rfl) x0 x1 x2 x3 x4 x5 hc⟩
theorem Hz:aK Tryz.prog fo zb:=psF (mf:=mf_slices_IndexFunc_Row) (kb:=145000) (own:=[]) (aw (aC (ac BN au)) (aB av)) mixed Tryz.func210 (by kernel_rfl) (by kernel_rfl) fun⟨x0,x1⟩ r hr=>by obtain⟨hc,rfl⟩:=ao hr;exact⟨aik rfl,La _ (ah rfl rfl) x0 x1 hc⟩
theorem E9:aK Tryz.prog dZ s8:=psF (mf:=mf_slices_ContainsFunc_Row) (kb:=126000) (own:=[]) (aw (aC (ac Hz au)) (aB av)) mixed Tryz.func204 (by kernel_rfl) (by kernel_rfl) fun⟨x0,x1⟩ r hr=>by obtain⟨hc,rfl⟩:=ao hr;exact⟨aik rfl,Jf _ (ah rfl rfl) x0 x1 hc⟩
theorem Am:aK Tryz.prog j5 pu:=psF (mf:=mf_linear_Right) (kb:=108000) (own:=[]) (aw (aC (ac E9 au)) (aB av)) mixed Tryz.func190 (by kernel_rfl) (by kernel_rfl) fun⟨x0,x1⟩ r hr=>by obtain⟨hc,rfl⟩:=ao hr;exact⟨aik rfl,B8 _ (ah rfl rfl) x0 x1 hc⟩
theorem LF:iL Tryz.prog bU (mkU mZ):=Fz (mf:=mf_linear_matrix_note) (kb:=168000) (own:=[]) (aw (aC au) (aB av)) mixed Tryz.func212 (by kernel_rfl) (by kernel_rfl) Eu fun args mem r k g i d h=>by
 obtain⟨h1,h2,h3,h4,h5⟩:=Ob _ args mem r k g i d h;exact⟨h1,h2,h3,h4,h5⟩
theorem LV:aK Tryz.prog gE yY:=psF (mf:=mf_linear_zero) (kb:=167000) (own:=[]) (aw (aC au) (aB av)) mixed Tryz.func211 (by kernel_rfl) (by kernel_rfl) fun⟨x0,x1,x2,x3⟩ r hr=>by obtain rfl:=Option.some.inj hr;exact⟨aik rfl,w_zero _  x0 x1 x2 x3⟩
theorem Jt:iL Tryz.prog fH (mkQ qn):=rP (mf:=mf_linear_matrix_pivot) (kb:=148000) (own:=[3000106,3000165,3000169]) (aw (aC (ac LV (ac EQ (ac sL (ac xY au))))) (aB (eK LF av))) mixed Tryz.func207 (by kernel_rfl) (by kernel_rfl) fun args mem R h=>by
 obtain⟨a,rfl,⟨h1,h2,h3,h4,h5,h6,h7⟩,rfl⟩:=AZ h;exact⟨aik rfl,Md _ (ah rfl rfl) (nP rfl rfl) (ah rfl rfl) (ah rfl rfl) (ah rfl rfl) a.go a.N a.rows a.r a.c mem h1 h2 h3 h4 h5 h6 h7⟩
theorem FE:aK Tryz.prog eN qP:=psF (mf:=mf_slices_Clone_Frac) (kb:=147000) (own:=[5]) (aw (aC au) (aB av)) mixed Tryz.func206 (by kernel_rfl) (by kernel_rfl) fun x0 r hr=>by obtain⟨hc,rfl⟩:=ao hr;exact⟨aik rfl,JM _  x0 hc⟩
theorem MW:aK Tryz.prog gH xI:=psF (mf:=mf_linear_eliminated) (kb:=129000) (own:=[29,34]) (aw (aC (ac FE au)) (aB (eK Jt av))) mixed Tryz.func191 (by kernel_rfl) (by kernel_rfl) fun⟨x0,x1,x2⟩ r hr=>by obtain⟨hc,rfl⟩:=ao hr;exact⟨aik rfl,NS _ (ah rfl rfl) (nP rfl rfl) x0 x1 x2 hc⟩
theorem AY:aK Tryz.prog jZ pd:=psF (mf:=mf_linear_Solve) (kb:=109000) (own:=[]) (aw (aC (ac Am (ac MW au))) (aB av)) mixed Tryz.func172 (by kernel_rfl) (by kernel_rfl) fun⟨x0,x1⟩ r hr=>by obtain⟨hc,rfl⟩:=ao hr;exact⟨aik rfl,Dc _ (ah rfl rfl) (ah rfl rfl) x0 x1 hc⟩
theorem I8:aK Tryz.prog iw xG:=psF (mf:=mf_math_bits_Mul64) (kb:=171000) (own:=[]) (aw (aC au) (aB av)) mixed Tryz.func202 (by kernel_rfl) (by kernel_rfl) fun x0 r hr=>by obtain⟨hc,rfl⟩:=ao hr;exact⟨aik rfl,MY _  x0 hc⟩
theorem LP:aK Tryz.prog jh BT:=psF (mf:=mf_math_bits_Mul) (kb:=151000) (own:=[]) (aw (aC (ac I8 au)) (aB av)) mixed Tryz.func189 (by kernel_rfl) (by kernel_rfl) fun x0 r hr=>by obtain⟨hc,rfl⟩:=ao hr;exact⟨aik rfl,N4 _ (ah rfl rfl) x0 hc⟩
theorem C9:aK Tryz.prog fV rA:=psF (mf:=mf_slices_Repeat_Frac) (kb:=131000) (own:=[]) (aw (aC (ac LP au)) (aB av)) mixed Tryz.func171 (by kernel_rfl) (by kernel_rfl) fun⟨x0,x1,x2,x3,x4⟩ r hr=>by obtain⟨hc,rfl⟩:=ao hr;exact⟨aik rfl,Gy _ (ah rfl rfl) x0 x1 x2 x3 x4 hc⟩
theorem nD:aK Tryz.prog co lj:=psF (mf:=mf_ref04_trim) (kb:=183000) (own:=[18]) (aw (aC au) (aB av)) mixed Tryz.func175 (by kernel_rfl) (by kernel_rfl) fun x0 r hr=>by obtain⟨hc,rfl⟩:=ao hr;exact⟨aik rfl,Ma _  x0 hc⟩
theorem oH:aK Tryz.prog bV me:=psF (mf:=mf_ref04_digit) (kb:=187000) (own:=[]) (aw (aC au) (aB av)) mixed Tryz.func176 (by kernel_rfl) (by kernel_rfl) fun⟨x0,x1⟩ r hr=>by obtain⟨hc,rfl⟩:=ao hr;exact⟨aik rfl,HS _  x0 x1 hc⟩
theorem Kx:aK Tryz.prog jB sS:=psF (mf:=mf_ref04_less) (kb:=185000) (own:=[]) (aw (aC (ac oH au)) (aB av)) mixed Tryz.func151 (by kernel_rfl) (by kernel_rfl) fun⟨x0,x1⟩ r hr=>by obtain⟨hc,rfl⟩:=ao hr;exact⟨aik rfl,LK _ (ah rfl rfl) x0 x1 hc⟩
theorem HH:aK Tryz.prog lN zc:=psF (mf:=mf_ref04_plus) (kb:=181000) (own:=[]) (aw (aC (ac oH (ac nD au))) (aB av)) mixed Tryz.func154 (by kernel_rfl) (by kernel_rfl) fun⟨x0,x1⟩ r hr=>by obtain⟨hc,rfl⟩:=ao hr;exact⟨aik rfl,Lx _ (ah rfl rfl) (ah rfl rfl) x0 x1 hc⟩
theorem wb:aK Tryz.prog gf qG:=psF (mf:=mf_ref04_minus) (kb:=182000) (own:=[]) (aw (aC (ac oH (ac nD au))) (aB av)) mixed Tryz.func155 (by kernel_rfl) (by kernel_rfl) fun⟨x0,x1⟩ r hr=>by obtain⟨hc,rfl⟩:=ao hr;exact⟨aik rfl,Iz _ (ah rfl rfl) (ah rfl rfl) x0 x1 hc⟩
theorem Fg:aK Tryz.prog gJ pT:=psF (mf:=mf_ref04_times) (kb:=186000) (own:=[]) (aw (aC (ac oH (ac nD au))) (aB av)) mixed Tryz.func153 (by kernel_rfl) (by kernel_rfl) fun⟨x0,x1⟩ r hr=>by obtain⟨hc,rfl⟩:=ao hr;exact⟨aik rfl,Je _ (ah rfl rfl) (ah rfl rfl) x0 x1 hc⟩
theorem BO:aK Tryz.prog ie sT:=psF (mf:=mf_ref04_over) (kb:=180000) (own:=[26]) (aw (aC (ac nD (ac Fg (ac Kx (ac wb au))))) (aB av)) mixed Tryz.func148 (by kernel_rfl) (by kernel_rfl) fun⟨x0,x1⟩ r hr=>by obtain⟨hc,rfl⟩:=ao hr;exact⟨aik rfl,M8 _ (ah rfl rfl) (ah rfl rfl) (ah rfl rfl) (ah rfl rfl) x0 x1 hc⟩
theorem qJ:aK Tryz.prog cB oL:=psF (mf:=mf_ref04_made) (kb:=166000) (own:=[]) (aw (aC (ac nD au)) (aB av)) mixed Tryz.func149 (by kernel_rfl) (by kernel_rfl) fun⟨x0,x1⟩ r hr=>by obtain⟨hc,rfl⟩:=ao hr;exact⟨aik rfl,K0 _ (ah rfl rfl) x0 x1 hc⟩
theorem oE:aK Tryz.prog cj md:=psF (mf:=mf_ref04_Right) (kb:=162000) (own:=[]) (aw (aC au) (aB av)) mixed Tryz.func95 (by kernel_rfl) (by kernel_rfl) fun⟨x0,x1⟩ r hr=>by obtain⟨hc,rfl⟩:=ao hr;exact⟨aik rfl,JD _  x0 x1 hc⟩
theorem Le:aK Tryz.prog kl C4:=psF (mf:=mf_ref04_Neg) (kb:=163000) (own:=[]) (aw (aC (ac oE (ac qJ au))) (aB av)) mixed Tryz.func156 (by kernel_rfl) (by kernel_rfl) fun⟨x0,x1⟩ r hr=>by obtain⟨hc,rfl⟩:=ao hr;exact⟨aik rfl,Pn _ (ah rfl rfl) (ah rfl rfl) x0 x1 hc⟩
theorem Pt:aK Tryz.prog ln Ka:=psF (mf:=mf_ref04_Of) (kb:=144000) (own:=[]) (aw (aC (ac qJ au)) (aB av)) mixed Tryz.func98 (by kernel_rfl) (by kernel_rfl) fun x0 r hr=>by obtain⟨hc,rfl⟩:=ao hr;exact⟨aik rfl,R6 _ (ah rfl rfl) x0 hc⟩
theorem LI:aK Tryz.prog mN Dg:=psF (mf:=mf_ref04_Gcd) (kb:=164000) (own:=[]) (aw (aC (ac oE (ac BO (ac qJ au)))) (aB av)) mixed Tryz.func96 (by kernel_rfl) (by kernel_rfl) fun⟨x0,x1,x2,x3⟩ r hr=>by obtain⟨hc,rfl⟩:=ao hr;exact⟨aik rfl,OQ _ (ah rfl rfl) (ah rfl rfl) (ah rfl rfl) x0 x1 x2 x3 hc⟩
theorem LL:aK Tryz.prog kn DK:=psF (mf:=mf_ref04_Div) (kb:=165000) (own:=[]) (aw (aC (ac oE (ac BO (ac HH (ac wb (ac qJ au)))))) (aB av)) mixed Tryz.func142 (by kernel_rfl) (by kernel_rfl) fun⟨x0,x1,x2,x3⟩ r hr=>by obtain⟨hc,rfl⟩:=ao hr;exact⟨aik rfl,OC _ (ah rfl rfl) (ah rfl rfl) (ah rfl rfl) (ah rfl rfl) (ah rfl rfl) x0 x1 x2 x3 hc⟩
theorem Lc:aK Tryz.prog mR CX:=psF (mf:=mf_ref05_New) (kb:=143000) (own:=[]) (aw (aC (ac oE (ac Le (ac LI (ac LL au))))) (aB av)) mixed Tryz.func107 (by kernel_rfl) (by kernel_rfl) fun⟨x0,x1,x2,x3⟩ r hr=>by obtain⟨hc,rfl⟩:=ao hr;exact⟨aik rfl,NW _ (ah rfl rfl) (ah rfl rfl) (ah rfl rfl) (ah rfl rfl) x0 x1 x2 x3 hc⟩
theorem OF:aK Tryz.prog ny IG:=psF (mf:=mf_ref05_Of) (kb:=124000) (own:=[]) (aw (aC (ac Pt (ac Lc au))) (aB av)) mixed Tryz.func64 (by kernel_rfl) (by kernel_rfl) fun⟨x0,x1⟩ r hr=>by obtain⟨hc,rfl⟩:=ao hr;exact⟨aik rfl,QR _ (ah rfl rfl) (ah rfl rfl) x0 x1 hc⟩
theorem zN:aK Tryz.prog gN pD:=psF (mf:=mf_ref05_SameBig) (kb:=142000) (own:=[]) (aw (aC au) (aB av)) mixed Tryz.func67 (by kernel_rfl) (by kernel_rfl) fun⟨x0,x1,x2,x3⟩ r hr=>by obtain⟨hc,rfl⟩:=ao hr;exact⟨aik rfl,Di _  x0 x1 x2 x3 hc⟩
theorem HI:aK Tryz.prog im sP:=psF (mf:=mf_ref05_Same) (kb:=120000) (own:=[]) (aw (aC (ac zN au)) (aB av)) mixed Tryz.func19 (by kernel_rfl) (by kernel_rfl) fun⟨x0,x1,x2,x3,x4,x5,x6,x7⟩ r hr=>by obtain⟨hc,rfl⟩:=ao hr;exact⟨aik rfl,M3 _ (ah rfl rfl) x0 x1 x2 x3 x4 x5 x6 x7 hc⟩
theorem kB:aK Tryz.prog bq fJ:=psF (mf:=mf_clear_whole) (kb:=230000) (own:=[]) (aw (aC (ac xL au)) (aB av)) mixed Tryz.func39 (by kernel_rfl) (by kernel_rfl) fun x0 r hr=>by obtain⟨hc,rfl⟩:=ao hr;exact⟨aik rfl,Kw _ (ah rfl rfl) x0 hc⟩
theorem Gx:aK Tryz.prog cZ oi:=psF (mf:=mf_rank_whole) (kb:=241000) (own:=[]) (aw (aC (ac xL au)) (aB av)) mixed Tryz.func70 (by kernel_rfl) (by kernel_rfl) fun x0 r hr=>by obtain⟨hc,rfl⟩:=ao hr;exact⟨aik rfl,Iu _ (ah rfl rfl) x0 hc⟩
theorem td:aK Tryz.prog dq kE:=psF (mf:=mf_law22_number) (kb:=223000) (own:=[]) (aw (aC (ac OF au)) (aB av)) mixed Tryz.func33 (by kernel_rfl) (by kernel_rfl) fun x0 r hr=>by obtain⟨hc,rfl⟩:=ao hr;exact⟨aik rfl,Gu _ (ah rfl rfl) x0 hc⟩
theorem LB:aK Tryz.prog mY Dr:=psF (mf:=mf_ref20_Few) (kb:=216000) (own:=[]) (aw (aC au) (aB av)) mixed Tryz.func9 (by kernel_rfl) (by kernel_rfl) fun⟨x0,x1⟩ r hr=>by obtain rfl:=Option.some.inj hr;exact⟨aik rfl,Pq _  x0 x1⟩
theorem JW:aK Tryz.prog bn Eo:=psF (mf:=mf_clear_right_1) (kb:=243000) (own:=[]) (aw (aC au) (aB av)) mixed Tryz.func82 (by kernel_rfl) (by kernel_rfl) fun⟨x0,x1,x2⟩ r hr=>by obtain rfl:=Option.some.inj hr;exact⟨aik rfl,Qu _  x0 x1 x2⟩
theorem Oa:aK Tryz.prog fm HB:=psF (mf:=mf_clear_right_2) (kb:=244000) (own:=[]) (aw (aC (ac JW au)) (aB av)) mixed Tryz.func83 (by kernel_rfl) (by kernel_rfl) fun x0 r hr=>by obtain rfl:=Option.some.inj hr;exact⟨aik rfl,Rj _ (ah rfl rfl) x0⟩
theorem Pe:aK Tryz.prog fv KB:=psF (mf:=mf_clear_right_3) (kb:=245000) (own:=[]) (aw (aC (ac JW au)) (aB av)) mixed Tryz.func84 (by kernel_rfl) (by kernel_rfl) fun⟨x0,x1,x2,x3,x4⟩ r hr=>by obtain⟨hc,rfl⟩:=ao hr;exact⟨aik rfl,R9 _ (ah rfl rfl) x0 x1 x2 x3 x4 hc⟩
theorem BP:aK Tryz.prog fu rH:=psF (mf:=mf_clear_Solve_1) (kb:=232000) (own:=[]) (aw (aC (ac kB (ac iJ au))) (aB av)) mixed Tryz.func41 (by kernel_rfl) (by kernel_rfl) fun⟨x0,x1,x2⟩ r hr=>by obtain⟨hc,rfl⟩:=ao hr;exact⟨aik rfl,Gc _ (ah rfl rfl) (ah rfl rfl) x0 x1 x2 hc⟩
theorem t9:aK Tryz.prog fp oG:=psF (mf:=mf_rescue_amount) (kb:=251000) (own:=[]) (aw (aC au) (aB av)) mixed Tryz.func103 (by kernel_rfl) (by kernel_rfl) fun x0 r hr=>by obtain rfl:=Option.some.inj hr;exact⟨aik rfl,FQ _  x0⟩
theorem J3:aK Tryz.prog fM yX:=psF (mf:=mf_rescue_day_1) (kb:=250000) (own:=[]) (aw (aC (ac t9 au)) (aB av)) mixed Tryz.func102 (by kernel_rfl) (by kernel_rfl) fun x0 r hr=>by obtain rfl:=Option.some.inj hr;exact⟨aik rfl,Mb _ (ah rfl rfl) x0⟩
theorem Bw:aK Tryz.prog bY oB:=psF (mf:=mf_slices_IndexFunc_int) (kb:=231000) (own:=[]) (aw (aC (ac Oa (ac J3 (ac BP au)))) (aB av)) mixed Tryz.func40 (by kernel_rfl) (by kernel_rfl) fun⟨x0,x1⟩ r hr=>by obtain⟨hc,rfl⟩:=ao hr;exact⟨aik rfl,K8 _ (ah rfl rfl) (ah rfl rfl) (ah rfl rfl) x0 x1 hc⟩
theorem xl:aK Tryz.prog cA pM:=psF (mf:=mf_slices_ContainsFunc_int) (kb:=246000) (own:=[]) (aw (aC (ac Bw au)) (aB av)) mixed Tryz.func85 (by kernel_rfl) (by kernel_rfl) fun⟨x0,x1⟩ r hr=>by obtain⟨hc,rfl⟩:=ao hr;exact⟨aik rfl,Ip _ (ah rfl rfl) x0 x1 hc⟩
theorem BQ:aK Tryz.prog ft rN:=psF (mf:=mf_rank_within) (kb:=253000) (own:=[]) (aw (aC au) (aB av)) mixed Tryz.func115 (by kernel_rfl) (by kernel_rfl) fun⟨x0,x1,x2⟩ r hr=>by obtain rfl:=Option.some.inj hr;exact⟨aik rfl,Hh _  x0 x1 x2⟩
theorem FN:aK Tryz.prog lG tD:=psF (mf:=mf_rank_right) (kb:=240000) (own:=[]) (aw (aC (ac BQ au)) (aB av)) mixed Tryz.func71 (by kernel_rfl) (by kernel_rfl) fun x0 r hr=>by obtain⟨hc,rfl⟩:=ao hr;exact⟨aik rfl,HW _ (ah rfl rfl) x0 hc⟩
theorem GU:aK Tryz.prog lL tn:=psF (mf:=mf_rank_Split) (kb:=249000) (own:=[]) (aw (aC (ac iF (ac iJ (ac Gx (ac FN (ac xY (ac EQ (ac sL au)))))))) (aB av)) mixed Tryz.func26 (by kernel_rfl) (by kernel_rfl) fun⟨x0,x1⟩ r hr=>by obtain⟨hc,rfl⟩:=ao hr;exact⟨aik rfl,Jw _ (ah rfl rfl) (ah rfl rfl) (ah rfl rfl) (ah rfl rfl) (ah rfl rfl) (ah rfl rfl) (ah rfl rfl) x0 x1 hc⟩
theorem Jv:aK Tryz.prog fN xz:=psF (mf:=mf_rescue_day_2) (kb:=252000) (own:=[]) (aw (aC (ac t9 au)) (aB av)) mixed Tryz.func104 (by kernel_rfl) (by kernel_rfl) fun⟨x0,x1,x2,x3,x4⟩ r hr=>by obtain⟨hc,rfl⟩:=ao hr;exact⟨aik rfl,Mv _ (ah rfl rfl) x0 x1 x2 x3 x4 hc⟩
theorem BX:aK Tryz.prog eG rV:=psF (mf:=mf_slices_IndexFunc_Claim) (kb:=254000) (own:=[]) (aw (aC (ac Pe (ac Jv au))) (aB av)) mixed Tryz.func135 (by kernel_rfl) (by kernel_rfl) fun⟨x0,x1⟩ r hr=>by obtain⟨hc,rfl⟩:=ao hr;exact⟨aik rfl,Hv _ (ah rfl rfl) (ah rfl rfl) x0 x1 hc⟩
theorem sD:aK Tryz.prog cm na:=psF (mf:=mf_slices_ContainsFunc_Claim) (kb:=247000) (own:=[]) (aw (aC (ac BX au)) (aB av)) mixed Tryz.func86 (by kernel_rfl) (by kernel_rfl) fun⟨x0,x1⟩ r hr=>by obtain⟨hc,rfl⟩:=ao hr;exact⟨aik rfl,BZ _ (ah rfl rfl) x0 x1 hc⟩
theorem Gn:aK Tryz.prog kW uM:=psF (mf:=mf_clear_right) (kb:=227000) (own:=[]) (aw (aC (ac xl (ac sD au))) (aB av)) mixed Tryz.func36 (by kernel_rfl) (by kernel_rfl) fun⟨x0,x1⟩ r hr=>by obtain⟨hc,rfl⟩:=ao hr;exact⟨aik rfl,JN _ (ah rfl rfl) (ah rfl rfl) x0 x1 hc⟩
theorem LA:aK Tryz.prog lC Da:=psF (mf:=mf_rescue_day) (kb:=238000) (own:=[]) (aw (aC (ac xl (ac sD au))) (aB av)) mixed Tryz.func59 (by kernel_rfl) (by kernel_rfl) fun⟨x0,x1⟩ r hr=>by obtain⟨hc,rfl⟩:=ao hr;exact⟨aik rfl,Om _ (ah rfl rfl) (ah rfl rfl) x0 x1 hc⟩
theorem HF:aK Tryz.prog jb sU:=psF (mf:=mf_clear_payments) (kb:=233000) (own:=[]) (aw (aC (ac GU au)) (aB av)) mixed Tryz.func42 (by kernel_rfl) (by kernel_rfl) fun⟨x0,x1⟩ r hr=>by obtain⟨hc,rfl⟩:=ao hr;exact⟨aik rfl,Ld _ (ah rfl rfl) x0 x1 hc⟩
theorem CE:iL Tryz.prog dW (mkN oJ):=pC (mf:=mf_clear_debtor_shares) (kb:=255000) (own:=[17]) (aw (aC (ac kB (ac C9 (ac xL (ac xB au))))) (aB av)) mixed Tryz.func136 (by kernel_rfl) (by kernel_rfl) (fun j=>j / 1000=255) fun args mem d h=>by
 obtain⟨a,⟨rfl,ha⟩,rfl⟩:=DM h;exact⟨aik rfl,ha.no,FG _ (ah rfl rfl) (ah rfl rfl) (ah rfl rfl) (ah rfl rfl) a.1 a.2 mem ha⟩
theorem Hk:iL Tryz.prog kP (mkN qx):=pC (mf:=mf_clear_solve) (kb:=256000) (own:=[]) (aw (aC (ac kB (ac sL (ac AY au)))) (aB av)) mixed Tryz.func137 (by kernel_rfl) (by kernel_rfl) (fun j=>j / 1000=256) fun args mem d h=>by
 obtain⟨a,⟨rfl,ha⟩,rfl⟩:=DM h;exact⟨aik rfl,ha.no,HC _ (ah rfl rfl) (ah rfl rfl) (ah rfl rfl) a mem ha⟩
theorem H6:iL Tryz.prog lU (mkN y0):=pC (mf:=mf_clear_list) (kb:=248000) (own:=[]) (aw (aC (ac kB (ac xY (ac xB au)))) (aB (eK CE (eK Hk av)))) mixed Tryz.func87 (by kernel_rfl) (by kernel_rfl) (fun j=>j / 1000=248) fun args mem d h=>by
 obtain⟨a,⟨rfl,ha⟩,rfl⟩:=DM h;exact⟨aik rfl,ha.n1,MK _ (ah rfl rfl) (nP rfl rfl) (nP rfl rfl) (ah rfl rfl) (ah rfl rfl) a mem ha⟩
theorem Fb:iL Tryz.prog iT (mkQ oo):=rP (mf:=mf_clear_round) (kb:=229000) (own:=[]) (aw (aC (ac kB (ac iJ au))) (aB (eK H6 av))) mixed Tryz.func38 (by kernel_rfl) (by kernel_rfl) fun args mem R h=>by
 obtain⟨a,⟨rfl,ha⟩,rfl⟩:=DJ h;exact⟨aik rfl,Io _ (nP rfl rfl) (ah rfl rfl) (ah rfl rfl) a mem ha⟩
theorem KO:iL Tryz.prog lV (mkQ xK):=rP (mf:=mf_clear_open) (kb:=228000) (own:=[22]) (aw (aC au) (aB av)) mixed Tryz.func37 (by kernel_rfl) (by kernel_rfl) fun args mem R h=>by
 obtain⟨a,⟨rfl,ha⟩,rfl⟩:=DJ h;exact⟨aik rfl,Lb _  a.1 a.2 mem ha⟩
theorem w9:aK Tryz.prog fj ol:=psF (mf:=mf_clear_Solve) (kb:=217000) (own:=[]) (aw (aC (ac Gn (ac kB (ac iJ (ac Bw (ac HF au)))))) (aB (eK KO (eK Fb av)))) mixed Tryz.func11 (by kernel_rfl) (by kernel_rfl) fun⟨x0,x1⟩ r hr=>by obtain⟨hc,rfl⟩:=ao hr;exact⟨aik rfl,KG _ (ah rfl rfl) (nP rfl rfl) (nP rfl rfl) (ah rfl rfl) (ah rfl rfl) (ah rfl rfl) (ah rfl rfl) x0 x1 hc⟩
theorem Mk:aK Tryz.prog iW Cs:=psF (mf:=mf_slices_Max_int) (kb:=239000) (own:=[]) (aw (aC au) (aB av)) mixed Tryz.func61 (by kernel_rfl) (by kernel_rfl) fun x0 r hr=>by obtain⟨hc,rfl⟩:=ao hr;exact⟨aik rfl,O2 _  x0 hc⟩
theorem wL:aK Tryz.prog dt jH:=psF (mf:=mf_rescue_Least) (kb:=221000) (own:=[34]) (aw (aC (ac LA (ac oq (ac Mk (ac w9 (ac xL (ac sL au))))))) (aB av)) mixed Tryz.func17 (by kernel_rfl) (by kernel_rfl) fun⟨x0,x1,x2⟩ r hr=>by obtain⟨hc,rfl⟩:=ao hr;exact⟨aik rfl,I5 _ (ah rfl rfl) (ah rfl rfl) (ah rfl rfl) (ah rfl rfl) (ah rfl rfl) (ah rfl rfl) x0 x1 x2 hc⟩
theorem Lm:aK Tryz.prog gQ CC:=psF (mf:=mf_law22_two) (kb:=237000) (own:=[]) (aw (aC au) (aB av)) mixed Tryz.func58 (by kernel_rfl) (by kernel_rfl) fun _ r hr=>by obtain rfl:=Option.some.inj hr;exact⟨aik rfl,OS _  ⟩
theorem Hm:aK Tryz.prog kS uS:=psF (mf:=mf_law22_small) (kb:=220000) (own:=[]) (aw (aC (ac Lm (ac wL (ac td (ac HI au))))) (aB av)) mixed Tryz.func16 (by kernel_rfl) (by kernel_rfl) fun _ r hr=>by obtain rfl:=Option.some.inj hr;exact⟨aik rfl,IT _ (ah rfl rfl) (ah rfl rfl) (ah rfl rfl) (ah rfl rfl) ⟩
theorem Hd:aK Tryz.prog kR tM:=psF (mf:=mf_law22_given) (kb:=222000) (own:=[8]) (aw (aC au) (aB av)) mixed Tryz.func21 (by kernel_rfl) (by kernel_rfl) fun⟨x0,x1,x2⟩ r hr=>by obtain⟨hc,rfl⟩:=ao hr;exact⟨aik rfl,Ju _  x0 x1 x2 hc⟩
theorem He:aK Tryz.prog gm tF:=psF (mf:=mf_law22_falls) (kb:=266000) (own:=[]) (aw (aC au) (aB av)) mixed Tryz.func23 (by kernel_rfl) (by kernel_rfl) fun⟨x0,x1,x2,x3⟩ r hr=>by obtain⟨hc,rfl⟩:=ao hr;exact⟨aik rfl,IS _  x0 x1 x2 x3 hc⟩
theorem Od:aK Tryz.prog n7 D3:=psF (mf:=mf_law22_up) (kb:=265000) (own:=[]) (aw (aC (ac td (ac iJ au))) (aB av)) mixed Tryz.func20 (by kernel_rfl) (by kernel_rfl) fun x0 r hr=>by obtain⟨hc,rfl⟩:=ao hr;exact⟨aik rfl,QD _ (ah rfl rfl) (ah rfl rfl) x0 hc⟩
theorem BR:aK Tryz.prog ns r6:=psF (mf:=mf_law22_RescueOthers) (kb:=259000) (own:=[]) (aw (aC (ac Hm (ac LB (ac wL (ac Od (ac w9 (ac Hd (ac iJ (ac He au))))))))) (aB av)) mixed Tryz.func5 (by kernel_rfl) (by kernel_rfl) fun⟨x0,x1,x2⟩ r hr=>by obtain rfl:=Option.some.inj hr;exact⟨aik rfl,FY _ (ah rfl rfl) (ah rfl rfl) (ah rfl rfl) (ah rfl rfl) (ah rfl rfl) (ah rfl rfl) (ah rfl rfl) (ah rfl rfl) x0 x1 x2⟩
end Go.Mini
