/- A part of the proof. -/
import Derived.Test.YtdbkjjoedjfmpaaM14
import Derived.Test.YtdbkjjoedjfmpaaProg
import Derived.KernelRfl
set_option linter.unusedSimpArgs false
set_option linter.unusedVariables false
open List renaming getD_eq_getElem?_getD → ahU, getElem?_eq_getElem → ahV, map_nil → ahZ, length_map → ah2, getElem?_map → ah6, map_cons → ah7, length_set → ah8, map_map → aid, mem_of_getElem? → aih, take_add_one → aii, length_take → aij, take_of_length_le → aik
open Int renaming add_zero → ahW, toNat_natCast → ah3, mul_nonneg → aie, mul_le_mul_of_nonneg_left → aif
open Prod renaming ext → ahX
open Bool renaming false_eq_true → ahY, not_false → ah0, not_true → ah1
open Nat renaming reduceEqDiff → ah4, le_of_ble_eq_true → ail
open Option renaming bind_none → ah5, getD_some → ah9
open Rat renaming intCast_natCast → aia, intCast_mul → aib, mul_comm → aic
open Decidable renaming em → aig
namespace Go.Mini
open Go
set_option maxRecDepth 10000
set_option maxHeartbeats 4000000
theorem OW {x:Rat} (h:x<0):pos x=0:=gL (by grind)
theorem K7 {x:Rat} (h:¬ x<0):pos x=x:=kQ (by grind)
theorem Hn (cash:List Int) (cs:List ClR) (who:Nat):((cash.map aa).flatten.map MV.dat)=(fL cash.length (svF cash cs who 0)).map iC:=by
 have e:fL cash.length (svF cash cs who 0)=cash:=(Ed rfl fun i hi=>by
  unfold svF;rw[List.take_zero]
  show cash[i]?=some (cash.getD i 0+0);rw[ahU,ahV hi,ahW];rfl).symm
 rw[e,DD]
 rfl
noncomputable def jM:List Data→Option PRes:=FF (α:=(List Int) × (List ClR) × Int) (fun (cash,cs,who)=>([.sl (cash.map aa),.sl (cs.map clL),.int .i64 who]:List Data)) (fun (cash,cs,who)=>aG (vn cash cs) (.same (lN cash cs who)))
theorem yx:∀ a b:(List Int) × (List ClR) × Int,(fun (cash,cs,who)=>([.sl (cash.map aa),.sl (cs.map clL),.int .i64 who]:List Data)) a=(fun (cash,cs,who)=>([.sl (cash.map aa),.sl (cs.map clL),.int .i64 who]:List Data)) b→a=b:=by
  rintro⟨cash1,cs1,who1⟩ ⟨cash2,cs2,who2⟩ h;simp only[List.cons.injEq,Data.sl.injEq,Data.int.injEq,and_true,true_and] at h;exact ahX (af ai _ _ h.1) (ahX (af fZ _ _ h.2.1) h.2.2)
@[go_sem] theorem gq (cash:List Int) (cs:List ClR) (who:Int) (hc:vn cash cs):jM [.sl (cash.map aa),.sl (cs.map clL),.int .i64 who]=some (.same (lN cash cs who)):=(aV yx (cash,cs,who)).trans (an hc _)
theorem IJ (T:Tab) (jo:T lS=mkE Dv) (aS:T bt=mkE lk) (ji:T iR=mkE CK) (eZ:T kX=mkE qb) (gW:T eQ=mkE ud) (cw:T dm=mkE lT) (cash:List Int) (cs:List ClR) (who:Int) (hc:vn cash cs) :
  wp T mf_rescue_Least.body (bG mf_rescue_Least.res (.same (lN cash cs who))) ⟨ax [.dat (.sl (cash.map aa)),.dat (.sl (cs.map clL)),.dat (.int .i64 who)],emp⟩:=by
 refine ap ?_;simp only[mf_rescue_Least];obtain⟨hn0,hc0,hsm⟩:=hc;have rd:=FI cash cs ⟨hn0,hc0⟩;unfold lN;rcases hr:cE cash cs
 ·rw[if_neg (by simp)]
  rw[hr] at rd;simp only[go_sem,go_sem_proc,ahY,jo,aS,ji,eZ,gW,cw,rd,ad,bz,ahZ,ah0]
  repeat' (first|refine qS ?_ ?_|fail)<;>intro h<;>simp only[h,go_sem,go_sem_proc,ahY,jo,aS,ji,eZ,gW,cw,rd,ad,bz,ahZ,ah0]
 rw[hr] at rd;rcases d1:decide (who<0)
 case true =>
  rw[if_neg (by have:=of_decide_eq_true d1;omega)];simp only[go_sem,go_sem_proc,ahY,jo,aS,ji,eZ,gW,cw,rd,d1,ad,bz,ahZ,ah1]
  repeat' (first|refine qS ?_ ?_|fail)<;>intro h<;>simp only[h,go_sem,go_sem_proc,ahY,jo,aS,ji,eZ,gW,cw,rd,d1,ad,bz,ahZ,ah1]
 rcases d2:decide (who≥(cash.length:Int))
 case true =>
  rw[if_neg (by have:=of_decide_eq_true d2;omega)];simp only[go_sem,go_sem_proc,ahY,jo,aS,ji,eZ,gW,cw,rd,d1,d2,ad,bz,ahZ,ah2,ah1]
  repeat' (first|refine qS ?_ ?_|fail)<;>intro h<;>simp only[h,go_sem,go_sem_proc,ahY,jo,aS,ji,eZ,gW,cw,rd,d1,d2,ad,bz,ahZ,ah2,ah1]
 obtain⟨w,rfl⟩:∃ w:Nat,who=(w:Int):=⟨who.toNat,by have:=of_decide_eq_false d1;omega⟩
 have hw:w<cash.length:=by have:=of_decide_eq_false d2;omega
 have hs:=hsm hr;have hn:=hs.n5;have h12:=hs.c12;rw[if_pos ⟨rfl,by omega,by omega⟩,ah3]
 have hin:=Hn cash cs w;have hcl:=tj cash hn0;simp only[go_sem,go_sem_proc,ahY,jo,aS,ji,eZ,gW,cw,rd,d1,d2,hcl,hin,ah2,ah1];refine R4 T cash cs hs w (some (0,[.dat (.int .i64 0),.nil,.dat (.int .i64 0),.nil])) 0 _ _ ?_ ?_ ?_ ?_ ?_ ?_ ?_ ?_ ?_ ?_ ?_ ?_
 all_goals first | (intro tm2 m2 g k2 k6 k8 k9 k10 q6 q34 q48) | (simp only[aH,ah4,if_false,if_true];done) | (simp only[aH,ah4,if_false,if_true];rfl) | (simp only[aA,ah4,if_false,if_true];done) | (simp only[aA,ah4,if_false,if_true];rfl) | skip
 rw[DD] at q34;have hvl:=jk cash cs w;have hD:=eG (n:=5) bc q34;have hf8:=fun (K:St→Prop) (st:St)=>bO (K:=K) (st:=st) bc 8 221034 0 (dr cash cs w)
 have hf10:=fun (K:St→Prop) (st:St)=>bO (K:=K) (st:=st) kh 10 221048 g (f9 cs w)
 rw[hvl] at hD hf8;have hmx:=Gi (dr cash cs w) ⟨by omega,by omega⟩
 have hma:=Jf (l:=dr cash cs w) (by omega) 1000000000000000;have hsl:(f9 cs w).length≤cs.length:=List.length_filter_le _ _;rcases hsx:pY cash cs w
 ·have hsx':((dr cash cs w).all fun x=>decide (x≤1000000000000000))=false:=hsx
  rw[hsx',ah0] at hma;rw[if_neg (by decide)];generalize dr cash cs w=SC at *;simp only[go_sem,go_sem_proc,ahY,jo,aS,ji,eZ,gW,cw,k2,k6,k8,k9,k10,q6,q34,q48,hD,hmx,hma,it,ah5,scalar,ad,bz,ahZ]
  repeat' (first|refine qS ?_ ?_|fail)<;>intro h<;>simp only[h,go_sem,go_sem_proc,ahY,jo,aS,ji,eZ,gW,cw,k2,k6,k8,k9,k10,q6,q34,q48,hD,hmx,hma,it,ah5,scalar,ad,bz,ahZ]
 ·have hsx':((dr cash cs w).all fun x=>decide (x≤1000000000000000))=true:=hsx
  rw[hsx',ah1] at hma;rw[if_pos rfl];have hss:=rV hs hsx;have sv:=rY (dr cash cs w) (f9 cs w) ⟨by omega,by omega,fun _=>hss⟩
  unfold FC at sv;rw[if_pos hss.right] at sv;have hget:(kY (dr cash cs w) (f9 cs w))[w]?=some (ak ((ab (dr cash cs w) (f9 cs w)).gr w)):=eY _ (by omega);rw[oh hs] at hget;have hob:=tU hs (l:=bU cs w) (fun c hc=>(own_mem.1 hc).1) (by have:=yp cs w;omega);have hoi:ca (gV cs w):=gw (by unfold gV;omega) (by unfold gV;omega);have a1:=Jr hoi;have z1:szR 29 ((gV cs w:Int):Rat):=ng (by unfold gV;omega);have z2:=wQ hss (i:=w) (by omega);rw[oh hs] at z2;have a2:=sG (dU z1 (by omega)) (dU z2 (by omega)) (jJ z1 (nf z2) (by omega));have hle:((gV cs w:Int):Rat)-((ab cash cs).saved w).gr w=kP cash cs w:=by rw[wa hs];rfl
  rw[hle] at a2;have a3:=Jr qZ;have hsg:(ak (kP cash cs w)).1.1=(kP cash cs w).num.sign:=rfl;have hsl2:decide ((kP cash cs w).num.sign<0)=decide (kP cash cs w<0):=ul;have p1:=@OW (kP cash cs w);have p2:=@K7 (kP cash cs w);unfold dL;generalize kY (dr cash cs w) (f9 cs w)=HV at *;generalize u6 (dr cash cs w) (f9 cs w)=PD at *;generalize (ab (dr cash cs w) (f9 cs w)).frs.map nM=FD at *;generalize dr cash cs w=SC at *;generalize kP cash cs w=L at *;have hz:ak 0=ak ((0:Int):Rat):=rfl;have hp:(L<0→ak (pos L)=ak ((0:Int):Rat))∧(¬ L<0→ak (pos L)=ak L):=⟨fun h=>by rw[p1 h,hz],fun h=>by rw[p2 h]⟩
  generalize ak (pos L)=PL at *;generalize ak ((0:Int):Rat)=Z at *;generalize ak ((gV cs w:Int):Rat)=O at *;generalize ak (((ab cash cs).saved w).gr w)=G at *;generalize hEL:ak L=EL at *;generalize L.num.sign=sg at *;obtain⟨⟨o1,o2⟩,⟨o3,o4⟩⟩:=O;obtain⟨⟨g1,g2⟩,⟨g3,g4⟩⟩:=G;obtain⟨⟨l1,l2⟩,⟨l3,l4⟩⟩:=EL;obtain⟨⟨z1,z2⟩,⟨z3,z4⟩⟩:=Z;dsimp only at hsg;subst hsg;simp only[ad] at a1 a2 a3;rcases q:decide (L<0)
  ·rw[q] at hsl2
   rw[hp.2 (of_decide_eq_false q)];simp only[go_sem,go_sem_proc,ahY,jo,aS,ji,eZ,gW,cw,k2,k6,k8,k9,k10,q6,q34,q48,hD,hmx,hma,hf8,hf10,sv,hget,a1,a2,a3,hsl2,it,ah5,scalar,ad,ah2,ah6,bne,beq_self_eq_true,ah1]
   repeat' (first|refine qS ?_ ?_|fail)<;>intro h<;>simp only[h,go_sem,go_sem_proc,ahY,jo,aS,ji,eZ,gW,cw,k2,k6,k8,k9,k10,q6,q34,q48,hD,hmx,hma,hf8,hf10,sv,hget,a1,a2,a3,hsl2,it,ah5,scalar,ad,ah2,ah6,bne,beq_self_eq_true,ah1]
  ·rw[q] at hsl2
   rw[hp.1 (of_decide_eq_true q)];simp only[go_sem,go_sem_proc,ahY,jo,aS,ji,eZ,gW,cw,k2,k6,k8,k9,k10,q6,q34,q48,hD,hmx,hma,hf8,hf10,sv,hget,a1,a2,a3,hsl2,it,ah5,scalar,ad,ah2,ah6,bne,beq_self_eq_true,ah1]
   repeat' (first|refine qS ?_ ?_|fail)<;>intro h<;>simp only[h,go_sem,go_sem_proc,ahY,jo,aS,ji,eZ,gW,cw,k2,k6,k8,k9,k10,q6,q34,q48,hD,hmx,hma,hf8,hf10,sv,hget,a1,a2,a3,hsl2,it,ah5,scalar,ad,ah2,ah6,bne,beq_self_eq_true,ah1]
theorem nl {n:Int} (h:ca n):mF [.int .i64 n]=some (.same (.agg (ad (ak (n:Rat))))):=xm n h
theorem oE {x y:Rat} (hx:cy x) (hy:cy y):pF [.agg (ad (ak x)),.agg (ad (ak y))]=some (.same (.bool (decide (x=y)))):=by
 have h1:=eF hx;have h2:=eF hy;have h:=Df (ak x).1.1 (ak x).1.2 (ak x).2.1 (ak x).2.2 (ak y).1.1 (ak y).1.2 (ak y).2.1 (ak y).2.2 ⟨h1.1,h1.2,h2.1,h2.2⟩
 have e:vO (((ak x).1.1,(ak x).1.2),((ak x).2.1,(ak x).2.2)) (((ak y).1.1,(ak y).1.2),((ak y).2.1,(ak y).2.2))=decide (x=y):=by
  show decide (ak x=ak y)=_
  by_cases hxy:x=y
  ·rw[decide_eq_true hxy,hxy];exact decide_eq_true rfl
  ·rw[decide_eq_false hxy];exact decide_eq_false fun h=>hxy (uR h)
 rw[e] at h;exact h
def twoC:List ClR:=[(0,1,0,30),(1,-1,0,25)]
noncomputable def C0:List Data→Option PRes:=FF (α:=Unit) (fun (_:Unit)=>([]:List Data)) (fun (_:Unit)=>some (.same (.sl (twoC.map clL))))
theorem C4:∀ a b:Unit,(fun (_:Unit)=>([]:List Data)) a=(fun (_:Unit)=>([]:List Data)) b→a=b:=by
  intro _ _ _;rfl
@[go_sem] theorem GD :C0 []=some (.same (.sl (twoC.map clL))):=aV C4 ()
theorem NL (T:Tab)   :
  wp T mf_law22_two.body (bG mf_law22_two.res (.same (.sl (twoC.map clL)))) ⟨ax [],emp⟩:=by
 refine ap ?_;simp only[mf_law22_two];refine qI ?_
 repeat' (intro h<;>simp only[h,go_sem,go_sem_proc,ahY,twoC,clL,ah7,ahZ]<;>try refine qS ?_ ?_)
theorem oy {a:Int} (h0:0≤a) (h:a≤100):SmallD [a,0] twoC:=by
 refine⟨rightD_iff.2 ⟨by simp,by decide,fun x hx=>?_,fun c hc=>?_⟩,by simp,by decide,by decide⟩
 ·simp at hx
  rcases hx with rfl | rfl<;>omega
 ·simp [twoC] at hc
  rcases hc with rfl | rfl<;>simp
theorem ux {cash:List Int} {cs:List ClR} (hs:SmallD cash cs) {w:Nat} (hw:w<cash.length) (hm:pY cash cs w=true) {g:Rat} {q:Int} (hg:(ab (dr cash cs w) (f9 cs w)).gr w=g) (hq:pos (((gV cs w:Int):Rat)-g)=(q:Rat)):lN cash cs w = .tup [.agg (ad (ak (q:Rat))),.int .i64 0]:=by
 unfold lN;rw[if_pos ⟨hs.right,by omega,by omega⟩,ah3,if_pos hm]
 unfold dL kP;rw[←oh hs,hg,←wa hs,hq]
theorem Ph:jM [.sl (([10,0]:List Int).map aa),.sl (twoC.map clL),.int .i64 0]=some (.same (.tup [.agg (ad (ak ((20:Int):Rat))),.int .i64 0])):=by
 have hs:=oy (a:=10) (by decide) (by decide);have h:=gq [10,0] twoC ((0:Nat):Int) ⟨by decide,by decide,fun _=>hs⟩
 have e:ab (dr [10,0] twoC 0) (f9 twoC 0)=e5:=by
  unfold e5;rw[show dr [10,0] twoC 0=[10,30] by decide,show f9 twoC 0=[(1,-1,0,25)] by decide]
 rw[ux (w:=0) hs (by decide) (by decide) (g:=10) (q:=20) (by rw[e];exact RE) (by rw[show gV twoC 0=30 by decide];decide +kernel)] at h;exact h
theorem Pe:jM [.sl (([10,0]:List Int).map aa),.sl (twoC.map clL),.int .i64 1]=some (.same (.tup [.agg (ad (ak ((15:Int):Rat))),.int .i64 0])):=by
 have hs:=oy (a:=10) (by decide) (by decide);have h:=gq [10,0] twoC ((1:Nat):Int) ⟨by decide,by decide,fun _=>hs⟩
 have e:ab (dr [10,0] twoC 1) (f9 twoC 1)=e6:=by
  unfold e6;rw[show dr [10,0] twoC 1=[10,0] by decide,show f9 twoC 1=[(0,1,0,30)] by decide]
 rw[ux (w:=1) hs (by decide) (by decide) (g:=10) (q:=15) (by rw[e];exact Q5) (by rw[show gV twoC 1=25 by decide];decide +kernel)] at h;exact h
theorem NZ:jM [.sl (([30,0]:List Int).map aa),.sl (twoC.map clL),.int .i64 1]=some (.same (.tup [.agg (ad (ak ((0:Int):Rat))),.int .i64 0])):=by
 have hs:=oy (a:=30) (by decide) (by decide);have h:=gq [30,0] twoC ((1:Nat):Int) ⟨by decide,by decide,fun _=>hs⟩
 have e:ab (dr [30,0] twoC 1) (f9 twoC 1)=e7:=by
  unfold e7;rw[show dr [30,0] twoC 1=[30,0] by decide,show f9 twoC 1=[(0,1,0,30)] by decide]
 rw[ux (w:=1) hs (by decide) (by decide) (g:=30) (q:=0) (by rw[e];exact RF) (by rw[show gV twoC 1=25 by decide];decide +kernel)] at h;exact h
theorem Po:jM [.sl (([10,0]:List Int).map aa),.sl (twoC.map clL),.int .i64 2]=some (.same (.tup [.agg (ad bz),.int .i64 1])):=by
 have hs:=oy (a:=10) (by decide) (by decide);have h:=gq [10,0] twoC 2 ⟨by decide,by decide,fun _=>hs⟩
 have e:lN [10,0] twoC 2 = .tup [.agg (ad bz),.int .i64 1]:=if_neg (by decide);rw[e] at h;exact h
noncomputable def ut:List Data→Option PRes:=FF (α:=Unit) (fun (_:Unit)=>([]:List Data)) (fun (_:Unit)=>some (.same (.bool true)))
theorem yR:∀ a b:Unit,(fun (_:Unit)=>([]:List Data)) a=(fun (_:Unit)=>([]:List Data)) b→a=b:=by
  intro _ _ _;rfl
@[go_sem] theorem zg :ut []=some (.same (.bool true)):=aV yR ()
theorem J8 (T:Tab) (Oe:T gJ=mkE C0) (cI:T cB=mkE jM) (cj:T dM=mkE mF) (du:T eM=mkE pF)  :
  wp T mf_law22_small.body (bG mf_law22_small.res (.same (.bool true))) ⟨ax [],emp⟩:=by
 refine ap ?_;simp only[mf_law22_small];have k0:=GD;have k1:=Ph;have k2:=Pe;have k3:=NZ;have k4:=Po;have i20:ca 20:=gw (by omega) (by omega);have i15:ca 15:=gw (by omega) (by omega);have n1:=nl i20;have n2:=nl i15;have n3:=nl qZ;have s1:=oE (ez i20) (ez i20);have s2:=oE (ez i15) (ez i15);have s3:=oE (ez qZ) (ez qZ);rw[decide_eq_true rfl] at s1 s2 s3;generalize ak ((20:Int):Rat)=A at *;generalize ak ((15:Int):Rat)=B at *;generalize ak ((0:Int):Rat)=Z at *;generalize twoC=tw at *;obtain⟨⟨a1,a2⟩,⟨a3,a4⟩⟩:=A;obtain⟨⟨b1,b2⟩,⟨b3,b4⟩⟩:=B;obtain⟨⟨z1,z2⟩,⟨z3,z4⟩⟩:=Z;simp only[ah7,ahZ,aa,ad,bz] at k1 k2 k3 k4 n1 n2 n3 s1 s2 s3;refine qI ?_
 repeat' (intro h<;>simp only[h,go_sem,go_sem_proc,ahY,Oe,cI,cj,du,k0,k1,k2,k3,k4,n1,n2,n3,s1,s2,s3,beq_self_eq_true]<;>try refine qS ?_ ?_)
def dJ (cash:List Int) (who:Nat) (n:Int):List Int:=cash.set who (IntKind.i64.wrap (cash.getD who 0+n))
noncomputable def tA:List Data→Option PRes:=FF (α:=(List Int) × Nat × Int) (fun (cash,who,n)=>([.sl (cash.map aa),.int .i64 (who:Int),.int .i64 n]:List Data)) (fun (cash,who,n)=>aG (who<cash.length∧cash.length≤1000000) (.same (.sl ((dJ cash who n).map aa))))
theorem xx:∀ a b:(List Int) × Nat × Int,(fun (cash,who,n)=>([.sl (cash.map aa),.int .i64 (who:Int),.int .i64 n]:List Data)) a=(fun (cash,who,n)=>([.sl (cash.map aa),.int .i64 (who:Int),.int .i64 n]:List Data)) b→a=b:=by
  rintro⟨cash1,who1,n1⟩ ⟨cash2,who2,n2⟩ h;simp only[List.cons.injEq,Data.sl.injEq,Data.int.injEq,and_true,true_and] at h;exact ahX (af ai _ _ h.1) (ahX (Int.ofNat.inj h.2.1) h.2.2)
@[go_sem] theorem z9 (cash:List Int) (who:Nat) (n:Int) (hc:who<cash.length∧cash.length≤1000000):tA [.sl (cash.map aa),.int .i64 (who:Int),.int .i64 n]=some (.same (.sl ((dJ cash who n).map aa))):=(aV xx (cash,who,n)).trans (an hc _)
theorem KC (T:Tab)  (cash:List Int) (who:Nat) (n:Int) (hc:who<cash.length∧cash.length≤1000000) :
  wp T mf_law22_given.body (bG mf_law22_given.res (.same (.sl ((dJ cash who n).map aa)))) ⟨ax [.dat (.sl (cash.map aa)),.dat (.int .i64 (who:Int)),.dat (.int .i64 n)],emp⟩:=by
 refine ap ?_;simp only[mf_law22_given];obtain⟨hw,hl⟩:=hc
 have hap:lg 222008 0 1 0 8 cash.length (ay aa cash) (some (0,[]))=some (.ref 222008 1 1 0 cash.length,some (222008,1,ay aa cash)):=by
  have:=me bc fO 222008 0 8 [] cash (by simp;omega) (by simp;omega)
  simpa [ay] using this
 have t1:List.take 1 (List.drop who (ay aa cash))=[.dat (.int .i64 (cash.getD who 0))]:=by
  rw[←DD];exact zY (f:=iC) (by rw[ahU,ahV hw];rfl)
 have t2:(ay aa cash).length=cash.length:=by rw[←DD,ah2]
 have t3:List.take who (ay aa cash)++[MV.dat (.int .i64 (IntKind.i64.wrap (cash.getD who 0+n)))]++List.drop (who+1) (ay aa cash)=ay aa (dJ cash who n):=by
  unfold dJ;rw[←DD,←DD,List.map_set,List.set_eq_take_append_cons_drop,if_pos (by rw[ah2];exact hw)];simp [iC]
 have hgl:(dJ cash who n).length=cash.length:=by unfold dJ;rw[ah8]
 have hfz:=fun (K:St→Prop) (st:St)=>bO (K:=K) (st:=st) bc 7 222008 1 (dJ cash who n)
 rw[hgl] at hfz;have l1:who+1≤cash.length:=by omega
 have hrow:(cash.map aa).flatten.map MV.dat=ay aa cash:=rfl;refine qI ?_
 repeat' (intro h<;>simp only[h,go_sem,go_sem_proc,ahY,qR,hap,hrow,t1,t2,t3,hw,l1,hfz,ah2,Nat.mul_one]<;>try refine qS ?_ ?_)

section
variable {cash:List Int} {cs:List ClR} (hs:SmallD cash cs)
include hs
theorem Gm {who:Nat} {n:Nat} (hn:n≤1000000000):dJ cash who n=cash.set who (cash.getD who 0+n):=by
 unfold dJ;have:=hs.cash who;rw[aj _ (by omega) (by omega)]
theorem AC {who:Nat} {n:Nat} (hn:n≤1000000000) (hw:who<cash.length) (i:Nat):(dJ cash who n).getD i 0=cash.getD i 0+if i=who then (n:Int) else 0:=by
 rw[Gm hs hn,ahU,List.getElem?_set]
 by_cases h:who=i
 ·rw[if_pos h,if_pos hw,ah9,h,if_pos rfl]
 ·rw[if_neg h,if_neg (Ne.symm h),ahW,ahU]
theorem tc {who:Nat} {n:Nat} (hn:n≤1000000000) (hw:who<cash.length) (hb:∀ x∈cash,x≤1000000000000):SmallD (dJ cash who n) cs:=by
 have hr:=rightD_iff.1 hs.right;have hl:(dJ cash who n).length=cash.length:=by unfold dJ;rw[ah8]
 refine⟨rightD_iff.2 ⟨by rw[hl];exact hr.1,hr.2.1,fun x hx=>?_,by rw[hl];exact hr.2.2.2⟩,by rw[hl];exact hs.n5,hs.c12,hs.am⟩
 obtain⟨i,hi,rfl⟩:=List.getElem_of_mem hx;have h1:=AC hs hn hw i;rw[ahU,ahV hi,ah9] at h1;have hic:i<cash.length:=by omega
 have h2:cash.getD i 0∈cash:=by rw[ahU,ahV hic];exact List.getElem_mem hic
 have h3:=hb _ h2;have h4:=hs.cash i;rw[h1]
 split<;>omega
theorem J4 {who:Nat} {n:Nat} (hn:n≤1000000000) (hw:who<cash.length):(ab (dJ cash who n) cs).n=(ab cash cs).n∧(ab (dJ cash who n) cs).cl=(ab cash cs).cl∧∀ i,(ab (dJ cash who n) cs).cash i=(ab cash cs).cash i+if i=who then (n:Rat) else 0:=by
 have hl:(dJ cash who n).length=cash.length:=by unfold dJ;rw[ah8]
 refine⟨hl,rfl,fun i=>?_⟩
 show (((dJ cash who n).getD i 0:Int):Rat)=((cash.getD i 0:Int):Rat)+_;rw[AC hs hn hw,Rat.intCast_add]
 congr 1
 split
 ·exact aia n
 ·rfl
end
def NV (k:Nat) (c:ClR):ClR:=(c.1,c.2.1,c.2.2.1,c.2.2.2*k)
def jb (cash:List Int) (k:Nat):List Int:=cash.map fun x=>x*k
def fY (cs:List ClR) (k:Nat):List ClR:=cs.map (NV k)
theorem Lj (cash:List Int) (cs:List ClR) (k:Nat):ab (jb cash k) (fY cs k)=(ab cash cs).times (k:Rat):=by
 have e1:(jb cash k).length=cash.length:=by unfold jb;rw[ah2]
 have e2:(fun i=>(((jb cash k).getD i 0:Int):Rat))=fun i=>(k:Rat)*((cash.getD i 0:Int):Rat):=by
  funext i
  unfold jb;rw[ahU,ah6,ahU]
  cases cash[i]? with
  | none=>simp
  | some x =>
   rw[Option.map_some,ah9,ah9,aib,aia,aic]
 have e3:(fY cs k).map bs=(cs.map bs).map fun c=>(⟨c.fr,c.to,c.rk,(k:Rat)*c.am⟩:Cl):=by
  unfold fY;rw[aid,aid];refine List.map_congr_left fun c _=>?_
  show bs (NV k c)=_;unfold bs NV;simp only[Function.comp_apply,Cl.mk.injEq,true_and];rw[aib,aia,aic]
 unfold ab Day.times;rw[e1,e2,e3]
theorem Ge {cash:List Int} {cs:List ClR} (hf:uq cash cs=true) (hr:cE cash cs=true) {k:Nat} (hk:k≤20):SmallD (jb cash k) (fY cs k):=by
 have hs:=rS hf hr;have hr':=rightD_iff.1 hr;obtain⟨h1,h2⟩:=t8 hf hr;have e1:(jb cash k).length=cash.length:=by unfold jb;rw[ah2]
 have e2:(fY cs k).length=cs.length:=by unfold fY;rw[ah2]
 have hm:∀ x:Int,0≤x→x≤1000000→0≤x*k∧x*k≤20000000:=fun x h0 hx=>by
  have hk':(k:Int)≤20:=by omega
  have a1:0≤x*k:=aie h0 (by omega);have a2:x*k≤x*20:=aif hk' h0;omega
 refine⟨rightD_iff.2 ⟨by omega,by omega,fun x hx=>?_,fun c hc=>?_⟩,by rw[e1];exact hs.n5,by rw[e2];exact hs.c12,fun c hc=>?_⟩
 ·obtain⟨y,hy,rfl⟩:=List.mem_map.1 hx
  have:=h1 y hy;have:=hm y this.1 this.2;omega
 ·obtain⟨b,hb,rfl⟩:=List.mem_map.1 hc
  have q1:=hr'.2.2.2 b hb;have q2:=h2 b hb;have q3:=hm _ q2.1 q2.2
  show 0≤b.1∧b.1<(jb cash k).length ∧ -1≤b.2.1∧b.2.1<(jb cash k).length∧0≤b.2.2.1∧b.2.2.1<10∧0≤b.2.2.2*k∧b.2.2.2*k≤1000000000000000;rw[e1];omega
 ·obtain⟨b,hb,rfl⟩:=List.mem_map.1 hc
  have q2:=h2 b hb;have q3:=hm _ q2.1 q2.2
  show b.2.2.2*k≤33554432;omega
theorem Ak (d:Day) (k:Rat) (who:Nat):(d.times k).saved who=(d.saved who).times k:=by
 unfold Day.saved Day.times;simp only[Day.mk.injEq,true_and]
 constructor
 ·funext i
  rw[qV,Rat.mul_add]
  congr 1
  rw[←jR];refine cK fun c _=>?_
  dsimp only
  split<;>grind
 ·rw[List.filter_map]
  rfl
theorem Gs {cash:List Int} {cs:List ClR} (hs:SmallD cash cs) {k:Nat} (hk:0<k) {who:Nat} (hw:who<cash.length):dL (jb cash k) (fY cs k) who=(k:Rat)*dL cash cs who:=by
 have hk':(0:Rat)<(k:Rat):=by exact_mod_cast hk
 unfold dL kP;rw[Lj,Ak,xw,HE hk' (tW hs.ok who) who hw,←wU hk']
 congr 1
 grind
theorem Dp {cash:List Int} {cs:List ClR} (hs:SmallD cash cs) {j n:Nat} (hn:n≤1000000000) (hj:j<cash.length) (hb:∀ x∈cash,x≤1000000000000) {who:Nat} (hw:who<cash.length):dL (dJ cash j n) cs who≤dL cash cs who:=by
 obtain⟨h1,h2,h3⟩:=J4 hs hn hj;have hs2:=tc hs hn hj hb;have hn0:(0:Rat)≤(n:Rat):=Rat.natCast_nonneg
 have hcash:∀ i,((ab cash cs).saved who).cash i≤((ab (dJ cash j n) cs).saved who).cash i:=fun i=>by
  show (ab cash cs).cash i+_≤(ab (dJ cash j n) cs).cash i+_;rw[h3,h2]
  split<;>grind
 have hg:=MA (tW hs.ok who) (tW hs2.ok who) (show ((ab (dJ cash j n) cs).saved who).n=((ab cash cs).saved who).n from h1) (by rw[vp,vp,h2]) (fun i _=>hcash i) who hw;have hc:=hcash who;unfold dL kP;refine pU ?_;rw[RG h2];grind
theorem DZ {x:Int} {k:Nat} (hk:k≤20) (h0:0≤x) (hx:x≤1000000):0≤x*k∧x*k≤20000000:=by
 have hk':(k:Int)≤20:=by omega
 have a1:0≤x*k:=aie h0 (by omega);have a2:x*k≤x*20:=aif hk' h0;omega
theorem RP (T:Tab) {K:bH→St→Prop} {kk:List Todo} (cash:List Int) (hn:cash.length≤5) (k:Nat) (hk:k≤20) (hb:∀ x∈cash,0≤x∧x≤1000000) (v1 v2 v4 v5 v13 v14 v18:MV) (x14:Option (Nat × List MV)) (g0:Nat) (tm:Nat→MV) (m:Mem)
  (e0:tm 0 = .dat (.sl (cash.map aa))) (e1:tm 1=v1) (e2:tm 2=v2) (e4:tm 4=v4) (e5:tm 5=v5) (e13:tm 13=v13) (e14:tm 14=v14) (e16:tm 16 = .dat (.int .i64 k)) (e17:tm 17 = .ref 213072 g0 1 0 0) (e18:tm 18=v18) (e19:tm 19 = .dat (.int .i64 0)) (m14:m 213014=x14) (m72:m 213072=some (g0,[]))
  (hK:∀ tm' m' g,tm' 0 = .dat (.sl (cash.map aa))→tm' 1=v1→tm' 2=v2→tm' 4=v4→tm' 5=v5→tm' 13=v13→tm' 14=v14→tm' 16 = .dat (.int .i64 k)→tm' 17 = .ref 213072 g 1 0 cash.length→tm' 18=v18→m' 213014=x14→m' 213072=some (g,ay aa (jb cash k))→kont T K kk (.exit 0) ⟨tm',m'⟩) :
  wp T (mf_law22_RescueTimes.body.sub [1,1,1,1,1,1,1,1,0,1,0,0]) (kont T K kk) ⟨tm,m⟩:=by
 simp only[mf_law22_RescueTimes,MCode.sub];have hml:(jb cash k).length=cash.length:=by unfold jb;rw[ah2]
 refine ae [0,1,2,4,5,13,14,16,18] [213014] (fun ((i,g):Nat × Nat) tm m=>i≤cash.length∧tm 19 = .dat (.int .i64 i)∧tm 17 = .ref 213072 g 1 0 i∧m 213072=some (g,ay aa ((jb cash k).take i))) (fun (i,_)=>cash.length-i) (0,g0) (by refine⟨by omega,e19,e17,m72⟩) ?_
 intro vs ms hvs hms;simp only[go_sem,go_sem_proc,ahY,e0,e1,e2,e4,e5,e13,e14,e16,e18,m14] at hvs hms;subst hvs hms;clear e0 e1 e2 e4 e5 e13 e14 e16 e17 e18 e19 m14 m72 tm m;rintro⟨i,g⟩ tm m hk2 hm ⟨hi,e19,e17,m72⟩;simp only[go_sem,go_sem_proc,ahY,List.cons.injEq] at hk2 hm;obtain⟨e0,e1,e2,e4,e5,e13,e14,e16,e18⟩:=hk2;have m14:=hm;rcases aig (i<cash.length) with hlt | hge
 ·have d1:decide ((i:Int)<(cash.length:Int))=true:=decide_eq_true (by omega)
  have w3:IntKind.i64.wrap ((i:Int)+1)=((i+1:Nat):Int):=by rw[aj _ (by omega) (by omega)];omega
  obtain⟨x,hx⟩:∃ x,cash[i]?=some x:=⟨_,ahV hlt⟩;have hbx:=hb x (aih hx);have hmb:=DZ hk hbx.1 hbx.2;have w4:IntKind.i64.wrap (x*(k:Int))=x*(k:Int):=by rw[aj _ (by omega) (by omega)]
  have htk:(jb cash k).take (i+1)=(jb cash k).take i++[x*(k:Int)]:=by
   have:(jb cash k)[i]?=some (x*(k:Int)):=by unfold jb;rw[ah6,hx];rfl
   rw[aii,this];rfl
  have htl:((jb cash k).take i).length=i:=by rw[aij,hml];omega
  have hap:=dk bc fO 213072 g 8 ((jb cash k).take i) (x*(k:Int)) (cs:=[.dat (.int .i64 (x*(k:Int)))]) rfl (by omega) (by omega);rw[htl,←htk] at hap;refine qI ?_
  repeat' (intro h<;>simp only[h,go_sem,go_sem_proc,ahY,e0,e1,e2,e4,e5,e13,e14,e16,e17,e18,e19,m14,m72,hx,d1,w3,w4,hap,aa,ah2,ah6]<;>try refine qS ?_ ?_)
  exact⟨(i+1,g+1),by dsimp only;omega,by dsimp only;omega,rfl,rfl,rfl⟩
 ·have d1:decide ((i:Int)<(cash.length:Int))=false:=decide_eq_false (by omega)
  obtain rfl:i=cash.length:=by omega
  rw[aik (by omega)] at m72;refine qI ?_
  repeat' (intro h<;>simp only[h,go_sem,go_sem_proc,ahY,e0,e1,e2,e4,e5,e13,e14,e16,e17,e18,e19,d1,ah2]<;>try refine qS ?_ ?_)
  refine hK _ _ g ?_ ?_ ?_ ?_ ?_ ?_ ?_ ?_ ?_ ?_ m14 m72<;>simp only[aH,ah4,if_false,e0,e1,e2,e4,e5,e13,e14,e16,e17,e18]
theorem QH (T:Tab) {K:bH→St→Prop} {kk:List Todo} (cs:List ClR) (hn:cs.length≤12) (k:Nat) (hk:k≤20) (hb:∀ c∈cs,0≤c.2.2.2∧c.2.2.2≤1000000) (v0 v2 v4 v5 v13 v14 v17:MV) (x14 x72:Option (Nat × List MV)) (g0:Nat) (tm:Nat→MV) (m:Mem)
  (e0:tm 0=v0) (e1:tm 1 = .dat (.sl (cs.map clL))) (e2:tm 2=v2) (e4:tm 4=v4) (e5:tm 5=v5) (e13:tm 13=v13) (e14:tm 14=v14) (e16:tm 16 = .dat (.int .i64 k)) (e17:tm 17=v17) (e18:tm 18 = .ref 213091 g0 4 0 0) (e20:tm 20 = .dat (.int .i64 0)) (m14:m 213014=x14) (m72:m 213072=x72) (m91:m 213091=some (g0,[]))
  (hK:∀ tm' m' g,tm' 0=v0→tm' 1 = .dat (.sl (cs.map clL))→tm' 2=v2→tm' 4=v4→tm' 5=v5→tm' 13=v13→tm' 14=v14→tm' 16 = .dat (.int .i64 k)→tm' 17=v17→tm' 18 = .ref 213091 g 4 0 cs.length→m' 213014=x14→m' 213072=x72→m' 213091=some (g,ay clL (fY cs k))→kont T K kk (.exit 2) ⟨tm',m'⟩) :
  wp T (mf_law22_RescueTimes.body.sub [1,1,1,1,1,1,1,1,1,0,1,0,0]) (kont T K kk) ⟨tm,m⟩:=by
 simp only[mf_law22_RescueTimes,MCode.sub];have hml:(fY cs k).length=cs.length:=by unfold fY;rw[ah2]
 refine ae [0,1,2,4,5,13,14,16,17] [213014,213072] (fun ((i,g):Nat × Nat) tm m=>i≤cs.length∧tm 20 = .dat (.int .i64 i)∧tm 18 = .ref 213091 g 4 0 i∧m 213091=some (g,ay clL ((fY cs k).take i))) (fun (i,_)=>cs.length-i) (0,g0) (by refine⟨by omega,e20,e18,m91⟩) ?_
 intro vs ms hvs hms;simp only[go_sem,go_sem_proc,ahY,e0,e1,e2,e4,e5,e13,e14,e16,e17,m14,m72] at hvs hms;subst hvs hms;clear e0 e1 e2 e4 e5 e13 e14 e16 e17 e18 e20 m14 m72 m91 tm m;rintro⟨i,g⟩ tm m hk2 hm ⟨hi,e20,e18,m91⟩;simp only[go_sem,go_sem_proc,ahY,List.cons.injEq] at hk2 hm;obtain⟨e0,e1,e2,e4,e5,e13,e14,e16,e17⟩:=hk2;obtain⟨m14,m72⟩:=hm;rcases aig (i<cs.length) with hlt | hge
 ·have d1:decide ((i:Int)<(cs.length:Int))=true:=decide_eq_true (by omega)
  have w3:IntKind.i64.wrap ((i:Int)+1)=((i+1:Nat):Int):=by rw[aj _ (by omega) (by omega)];omega
  obtain⟨⟨c1,c2,c3,c4⟩,hx⟩:∃ x,cs[i]?=some x:=⟨_,ahV hlt⟩;have hbx:=hb _ (aih hx);have hmb:=DZ hk hbx.1 hbx.2;dsimp only at hmb;have w4:IntKind.i64.wrap (c4*(k:Int))=c4*(k:Int):=by rw[aj _ (by omega) (by omega)]
  have htk:(fY cs k).take (i+1)=(fY cs k).take i++[(c1,c2,c3,c4*(k:Int))]:=by
   have:(fY cs k)[i]?=some (c1,c2,c3,c4*(k:Int)):=by unfold fY;rw[ah6,hx];rfl
   rw[aii,this];rfl
  have htl:((fY cs k).take i).length=i:=by rw[aij,hml];omega
  have hap:=dk kh sD 213091 g 32 ((fY cs k).take i) (c1,c2,c3,c4*(k:Int)) (cs:=[.dat (.int .i64 c1),.dat (.int .i64 c2),.dat (.int .i64 c3),.dat (.int .i64 (c4*(k:Int)))]) rfl (by omega) (by omega);rw[htl,←htk] at hap;refine qI ?_
  repeat' (intro h<;>simp only[h,go_sem,go_sem_proc,ahY,e0,e1,e2,e4,e5,e13,e14,e16,e17,e18,e20,m14,m72,m91,hx,d1,w3,w4,hap,clL,ah2,ah6]<;>try refine qS ?_ ?_)
  exact⟨(i+1,g+1),by dsimp only;omega,by dsimp only;omega,rfl,rfl,rfl⟩
 ·have d1:decide ((i:Int)<(cs.length:Int))=false:=decide_eq_false (by omega)
  obtain rfl:i=cs.length:=by omega
  rw[aik (by omega)] at m91;refine qI ?_
  repeat' (intro h<;>simp only[h,go_sem,go_sem_proc,ahY,e0,e1,e2,e4,e5,e13,e14,e16,e17,e18,e20,d1,ah2]<;>try refine qS ?_ ?_)
  refine hK _ _ g ?_ ?_ ?_ ?_ ?_ ?_ ?_ ?_ ?_ ?_ m14 m72 m91<;>simp only[aH,ah4,if_false,e0,e1,e2,e4,e5,e13,e14,e16,e17,e18]
noncomputable def uI:List Data→Option PRes:=FF (α:=(List Int) × (List ClR) × Int × Nat × Nat × Nat) (fun (cash,cs,who,by8,o8,n16)=>([.sl (cash.map aa),.sl (cs.map clL),.int .i64 who,.int .u8 (by8:Int),.int .u8 (o8:Int),.int .u16 (n16:Int)]:List Data)) (fun (cash,cs,who,by8,o8,n16)=>aG (by8<256∧o8<256∧n16<65536) (.same (.bool true)))
theorem yE:∀ a b:(List Int) × (List ClR) × Int × Nat × Nat × Nat,(fun (cash,cs,who,by8,o8,n16)=>([.sl (cash.map aa),.sl (cs.map clL),.int .i64 who,.int .u8 (by8:Int),.int .u8 (o8:Int),.int .u16 (n16:Int)]:List Data)) a=(fun (cash,cs,who,by8,o8,n16)=>([.sl (cash.map aa),.sl (cs.map clL),.int .i64 who,.int .u8 (by8:Int),.int .u8 (o8:Int),.int .u16 (n16:Int)]:List Data)) b→a=b:=by
  rintro⟨cash1,cs1,who1,by81,o81,n161⟩ ⟨cash2,cs2,who2,by82,o82,n162⟩ h;simp only[List.cons.injEq,Data.sl.injEq,Data.int.injEq,and_true,true_and] at h;exact ahX (af ai _ _ h.1) (ahX (af fZ _ _ h.2.1) (ahX h.2.2.1 (ahX (Int.ofNat.inj h.2.2.2.1) (ahX (Int.ofNat.inj h.2.2.2.2.1) (Int.ofNat.inj h.2.2.2.2.2)))))
@[go_sem] theorem Ac (cash:List Int) (cs:List ClR) (who:Int) (by8:Nat) (o8:Nat) (n16:Nat) (hc:by8<256∧o8<256∧n16<65536):uI [.sl (cash.map aa),.sl (cs.map clL),.int .i64 who,.int .u8 (by8:Int),.int .u8 (o8:Int),.int .u16 (n16:Int)]=some (.same (.bool true)):=(aV yE (cash,cs,who,by8,o8,n16)).trans (an hc _)
theorem JQ (T:Tab) (cW:T kT=mkE ut) (fi:T nq=mkE CM) (cI:T cB=mkE jM) (cZ:T kJ=mkE tA) (cj:T dM=mkE mF) (bM:T cY=mkE kI) (du:T eM=mkE pF) (aw:T bD=mkE d7) (cash:List Int) (cs:List ClR) (who:Int) (by8:Nat) (o8:Nat) (n16:Nat) (hc:by8<256∧o8<256∧n16<65536) :
  wp T mf_law22_RescueTimes.body (bG mf_law22_RescueTimes.res (.same (.bool true))) ⟨ax [.dat (.sl (cash.map aa)),.dat (.sl (cs.map clL)),.dat (.int .i64 who),.dat (.int .u8 (by8:Int)),.dat (.int .u8 (o8:Int)),.dat (.int .u16 (n16:Int))],emp⟩:=by
 refine ap ?_;simp only[mf_law22_RescueTimes];obtain⟨hb8,ho8,hn16⟩:=hc;have sm:=zg;have g1:=Ff cash cs;rcases hf:uq cash cs
 ·rw[hf] at g1
  simp only[go_sem,go_sem_proc,ahY,cW,fi,cI,cZ,cj,bM,du,aw,sm,g1,ah0]
  repeat' (first|refine qS ?_ ?_|fail)<;>intro h<;>simp only[h,go_sem,go_sem_proc,ahY,cW,fi,cI,cZ,cj,bM,du,aw,sm,g1,ah0]
 rw[hf] at g1;rcases d1:decide (who<0)
 case true =>
        simp only[go_sem,go_sem_proc,ahY,cW,fi,cI,cZ,cj,bM,du,aw,sm,g1,d1,ah1]
        repeat' (first|refine qS ?_ ?_|fail)<;>intro h<;>simp only[h,go_sem,go_sem_proc,ahY,cW,fi,cI,cZ,cj,bM,du,aw,sm,g1,d1,ah1]
 rcases d2:decide (who≥(cash.length:Int))
 case true =>
        simp only[go_sem,go_sem_proc,ahY,cW,fi,cI,cZ,cj,bM,du,aw,sm,g1,d1,d2,ah2,ah1]
        repeat' (first|refine qS ?_ ?_|fail)<;>intro h<;>simp only[h,go_sem,go_sem_proc,ahY,cW,fi,cI,cZ,cj,bM,du,aw,sm,g1,d1,d2,ah2,ah1]
 obtain⟨w,rfl⟩:∃ w:Nat,who=(w:Int):=⟨who.toNat,by have:=of_decide_eq_false d1;omega⟩
 have hw:w<cash.length:=by have:=of_decide_eq_false d2;omega
 have rl:=gq cash cs w (Lu hf);unfold lN at rl;rcases hr:cE cash cs
 ·rw[if_neg (by rw[hr];simp)] at rl
  simp only[ad,bz,ahZ] at rl;simp only[go_sem,go_sem_proc,ahY,cW,fi,cI,cZ,cj,bM,du,aw,sm,g1,d1,d2,rl,show ((1:Int)==0)=false from rfl,ah2,bne,ah1,ah0]
  repeat' (first|refine qS ?_ ?_|fail)<;>intro h<;>simp only[h,go_sem,go_sem_proc,ahY,cW,fi,cI,cZ,cj,bM,du,aw,sm,g1,d1,d2,rl,show ((1:Int)==0)=false from rfl,ah2,bne,ah1,ah0]
 rw[if_pos ⟨hr,by omega,by omega⟩,ah3] at rl
 have hs:=rS hf hr;rcases hm:pY cash cs w
 ·rw[if_neg (by rw[hm];decide)] at rl
  simp only[ad,bz,ahZ] at rl;simp only[go_sem,go_sem_proc,ahY,cW,fi,cI,cZ,cj,bM,du,aw,sm,g1,d1,d2,rl,show ((6:Int)==0)=false from rfl,ah2,bne,ah1,ah0]
  repeat' (first|refine qS ?_ ?_|fail)<;>intro h<;>simp only[h,go_sem,go_sem_proc,ahY,cW,fi,cI,cZ,cj,bM,du,aw,sm,g1,d1,d2,rl,show ((6:Int)==0)=false from rfl,ah2,bne,ah1,ah0]
 rw[if_pos hm] at rl;generalize hLE:ak (dL cash cs w)=LE at *;obtain⟨⟨e1,e2⟩,⟨e3,e4⟩⟩:=LE;simp only[ad] at rl;have hn5:=hs.n5;have h12:=hs.c12
 have wk:IntKind.i64.wrap (1+IntKind.i64.wrap (((by8:Nat):Int).tmod 20))=((1+by8 % 20:Nat):Int):=by
  rw[show ((by8:Nat):Int).tmod 20=((by8 % 20:Nat):Int) from rfl,aj ((by8 % 20:Nat):Int) (by omega) (by omega),aj _ (by omega) (by omega)];omega
 have wo:IntKind.i64.wrap ((o8:Nat):Int)=(o8:Int):=by rw[aj _ (by omega) (by omega)]
 have wn:IntKind.i64.wrap ((n16:Nat):Int)=(n16:Int):=by rw[aj _ (by omega) (by omega)]
 have wj:((o8:Nat):Int).tmod ((cash.length:Nat):Int)=((o8 % cash.length:Nat):Int):=rfl;have wz:(((cash.length:Nat):Int)=0)=False:=eq_false (by omega);have hjl:o8 % cash.length<cash.length:=Nat.mod_lt _ (by omega);have hk1:0<1+by8 % 20:=by omega
 have hk20:1+by8 % 20≤20:=by omega
 have hb:∀ x∈cash,x≤1000000000000:=fun x hx=>by have:=(t8 hf hr).1 x hx;omega
 have gv:=z9 cash (o8 % cash.length) n16 ⟨hjl,by omega⟩
 have hs2:=tc hs (n:=n16) (by omega) hjl hb;have hgl:(dJ cash (o8 % cash.length) n16).length=cash.length:=by unfold dJ;rw[ah8]
 have rl2:=gq (dJ cash (o8 % cash.length) n16) cs w ⟨by omega,by omega,fun _=>hs2⟩
 unfold lN at rl2;rw[if_pos ⟨hs2.right,by omega,by rw[hgl];omega⟩,ah3] at rl2
 have hmo:=Dp hs (n:=n16) (by omega) hjl hb hw;have hmul:=Gs hs hk1 hw;have hs3:=Ge hf hr hk20;have hml:(jb cash (1+by8 % 20)).length=cash.length:=by unfold jb;rw[ah2]
 have hmc:(fY cs (1+by8 % 20)).length=cs.length:=by unfold fY;rw[ah2]
 have rl3:=gq (jb cash (1+by8 % 20)) (fY cs (1+by8 % 20)) w ⟨by omega,by omega,fun _=>hs3⟩
 unfold lN at rl3;rw[if_pos ⟨hs3.right,by omega,by rw[hml];omega⟩,ah3] at rl3
 have hin:ca ((1+by8 % 20:Nat):Int):=gw (by omega) (by omega);have nk:=nl hin;have zk:szR 29 (((1+by8 % 20:Nat):Int):Rat):=ng (by omega);obtain⟨-,z1,-⟩:=EJ hs hw hm;have fm:=yk (dU z1 (by omega)) (ez hin) (qj z1 zk (by omega));have hpe:dL cash cs w*(((1+by8 % 20:Nat):Int):Rat)=dL (jb cash (1+by8 % 20)) (fY cs (1+by8 % 20)) w:=by rw[hmul,aia,aic]
 have zp:=xO z1 zk;rw[hpe] at fm zp;have lp:=dU zp (by omega);have gs:=oE lp lp;rw[decide_eq_true rfl] at gs;have z2:=fun h=>(EJ hs2 (who:=w) (by rw[hgl];exact hw) h).2.1
 have fc:=fun h=>jT (dU (z2 h) (by omega)) (dU z1 (by omega))
 have fd:decide (mM (dL (dJ cash (o8 % cash.length) n16) cs w) (dL cash cs w)≤0)=true:=by
  have h1:=zd (x:=dL (dJ cash (o8 % cash.length) n16) cs w) (y:=dL cash cs w);rw[decide_eq_false (show ¬ dL cash cs w<dL (dJ cash (o8 % cash.length) n16) cs w by grind)] at h1;have:=of_decide_eq_false h1;exact decide_eq_true (by omega)
 have hL0:=fun (K:bH→St→Prop) (kk:List Todo) v1 v2 v4 v5 v13 v14 v18 x14 g0 tm m=>RP T (K:=K) (kk:=kk) cash hn5 (1+by8 % 20) hk20 (t8 hf hr).1 v1 v2 v4 v5 v13 v14 v18 x14 g0 tm m
 have hL1:=fun (K:bH→St→Prop) (kk:List Todo) v0 v2 v4 v5 v13 v14 v17 x14 x72 g0 tm m=>QH T (K:=K) (kk:=kk) cs h12 (1+by8 % 20) hk20 (t8 hf hr).2 v0 v2 v4 v5 v13 v14 v17 x14 x72 g0 tm m
 rw[hLE] at fm fc;clear hmo hmul zp lp z1 z2 zk hpe hin hs3 hs2 hs hr hf hb hk1 hk20 hLE;generalize dL (jb cash (1+by8 % 20)) (fY cs (1+by8 % 20)) w=LM at *;generalize pY (jb cash (1+by8 % 20)) (fY cs (1+by8 % 20)) w=bm at *;generalize hsg:pY (dJ cash (o8 % cash.length) n16) cs w=bg at *;generalize ak (((1+by8 % 20:Nat):Int):Rat)=KR at *;generalize ak LM=ME at *;generalize ak (dL (dJ cash (o8 % cash.length) n16) cs w)=GE at *;generalize dL (dJ cash (o8 % cash.length) n16) cs w=GQ at *;generalize dL cash cs w=LQ at *;obtain⟨⟨a1,a2⟩,⟨a3,a4⟩⟩:=KR;obtain⟨⟨b1,b2⟩,⟨b3,b4⟩⟩:=ME;obtain⟨⟨c1,c2⟩,⟨c3,c4⟩⟩:=GE;generalize dJ cash (o8 % cash.length) n16=GC at *;generalize hML:jb cash (1+by8 % 20)=ML at *;generalize hMC:fY cs (1+by8 % 20)=MC at *;generalize 1+by8 % 20=k at *;simp only[ad,bz,ahZ] at rl2 rl3 nk fm gs fc;simp only[go_sem,go_sem_proc,ahY,cW,fi,cI,cZ,cj,bM,du,aw,sm,g1,d1,d2,rl,wk,ah2,bne,beq_self_eq_true,ah1,ah0];refine hL0 _ _ (.dat (.sl (cs.map clL))) (.dat (.int .i64 w)) (.dat (.int .u8 o8)) (.dat (.int .u16 n16)) (.dat (.bool true)) (.ptr 213014 0 0) .nil (some (0,[.dat (.int .i64 e1),.dat (.sl (e2.map aa)),.dat (.int .i64 e3),.dat (.sl (e4.map aa))])) 0 _ _ ?_ ?_ ?_ ?_ ?_ ?_ ?_ ?_ ?_ ?_ ?_ ?_ ?_ ?_
 all_goals first | (intro tm2 m2 g k0 k1 k2 k4 k5 k13 k14 k16 k17 k18 q14 q72) | (simp only[aH,ah4,if_false,if_true];done) | (simp only[aH,ah4,if_false,if_true];rfl) | (simp only[aA,ah4,if_false,if_true];done) | skip
 simp only[go_sem,go_sem_proc,ahY,cW,fi,cI,cZ,cj,bM,du,aw,k0,k1,k2,k4,k5,k13,k14,k16,k17,k18,q14,q72];refine hL1 _ _ (.dat (.sl (cash.map aa))) (.dat (.int .i64 w)) (.dat (.int .u8 o8)) (.dat (.int .u16 n16)) (.dat (.bool true)) (.ptr 213014 0 0) (.ref 213072 g 1 0 cash.length) (some (0,[.dat (.int .i64 e1),.dat (.sl (e2.map aa)),.dat (.int .i64 e3),.dat (.sl (e4.map aa))])) (some (g,ay aa ML)) (cL (m2 213091)) _ _ ?_ ?_ ?_ ?_ ?_ ?_ ?_ ?_ ?_ ?_ ?_ ?_ ?_ ?_ ?_
 all_goals first | (intro tm3 m3 g3 k0 k1 k2 k4 k5 k13 k14 k16 k17 k18 q14 q72 q91) | (simp only[aH,ah4,if_false,if_true,k0,k1,k2,k4,k5,k13,k14,k16,k17,k18];done) | (simp only[aH,ah4,if_false,if_true];rfl) | (simp only[aA,ah4,if_false,if_true,q14,q72];done) | skip
 have hf17:=fun (K:St→Prop) (st:St)=>bO (K:=K) (st:=st) bc 17 213072 g ML
 have hf18:=fun (K:St→Prop) (st:St)=>bO (K:=K) (st:=st) kh 18 213091 g3 MC
 rw[hml] at hf17;rw[hmc] at hf18
 cases bm<;>cases bg
 ·simp only[ahY,if_false] at rl2 rl3
  simp only[go_sem,go_sem_proc,ahY,cW,fi,cI,cZ,cj,bM,du,aw,k0,k1,k2,k4,k5,k13,k14,k16,k17,k18,q14,q72,q91,hf17,hf18,rl2,rl3,gv,nk,fm,wo,wn,wj,wz,hjl,show ((6:Int)==0)=false from rfl,ah2,bne,beq_self_eq_true,ah1,ah0]
  repeat' (first|refine qS ?_ ?_|fail)<;>intro h<;>simp only[h,go_sem,go_sem_proc,ahY,cW,fi,cI,cZ,cj,bM,du,aw,k0,k1,k2,k4,k5,k13,k14,k16,k17,k18,q14,q72,q91,hf17,hf18,rl2,rl3,gv,nk,fm,wo,wn,wj,wz,hjl,show ((6:Int)==0)=false from rfl,ah2,bne,beq_self_eq_true,ah1,ah0]
 ·have fc:=fc rfl
  simp only[ahY,if_false,if_true] at rl2 rl3;simp only[go_sem,go_sem_proc,ahY,cW,fi,cI,cZ,cj,bM,du,aw,k0,k1,k2,k4,k5,k13,k14,k16,k17,k18,q14,q72,q91,hf17,hf18,rl2,rl3,gv,nk,fm,fc,fd,wo,wn,wj,wz,hjl,show ((6:Int)==0)=false from rfl,ah2,bne,beq_self_eq_true,ah1,ah0]
  repeat' (first|refine qS ?_ ?_|fail)<;>intro h<;>simp only[h,go_sem,go_sem_proc,ahY,cW,fi,cI,cZ,cj,bM,du,aw,k0,k1,k2,k4,k5,k13,k14,k16,k17,k18,q14,q72,q91,hf17,hf18,rl2,rl3,gv,nk,fm,fc,fd,wo,wn,wj,wz,hjl,show ((6:Int)==0)=false from rfl,ah2,bne,beq_self_eq_true,ah1,ah0]
 ·simp only[ahY,if_false,if_true] at rl2 rl3
  simp only[go_sem,go_sem_proc,ahY,cW,fi,cI,cZ,cj,bM,du,aw,k0,k1,k2,k4,k5,k13,k14,k16,k17,k18,q14,q72,q91,hf17,hf18,rl2,rl3,gv,nk,fm,gs,wo,wn,wj,wz,hjl,show ((6:Int)==0)=false from rfl,ah2,bne,beq_self_eq_true,ah1,ah0]
  repeat' (first|refine qS ?_ ?_|fail)<;>intro h<;>simp only[h,go_sem,go_sem_proc,ahY,cW,fi,cI,cZ,cj,bM,du,aw,k0,k1,k2,k4,k5,k13,k14,k16,k17,k18,q14,q72,q91,hf17,hf18,rl2,rl3,gv,nk,fm,gs,wo,wn,wj,wz,hjl,show ((6:Int)==0)=false from rfl,ah2,bne,beq_self_eq_true,ah1,ah0]
 ·have fc:=fc rfl
  simp only[if_true] at rl2 rl3;simp only[go_sem,go_sem_proc,ahY,cW,fi,cI,cZ,cj,bM,du,aw,k0,k1,k2,k4,k5,k13,k14,k16,k17,k18,q14,q72,q91,hf17,hf18,rl2,rl3,gv,nk,fm,fc,fd,gs,wo,wn,wj,wz,hjl,show ((6:Int)==0)=false from rfl,ah2,bne,beq_self_eq_true,ah1,ah0]
  repeat' (first|refine qS ?_ ?_|fail)<;>intro h<;>simp only[h,go_sem,go_sem_proc,ahY,cW,fi,cI,cZ,cj,bM,du,aw,k0,k1,k2,k4,k5,k13,k14,k16,k17,k18,q14,q72,q91,hf17,hf18,rl2,rl3,gv,nk,fm,fc,fd,gs,wo,wn,wj,wz,hjl,show ((6:Int)==0)=false from rfl,ah2,bne,beq_self_eq_true,ah1,ah0]
end Go.Mini
namespace Go.Mini
open Go Go.Proofs
set_option maxRecDepth 100000
theorem psF {P : Program} {T : Tab} {kb : Nat} {own : List Nat} {α : Type} {args : α → List Data} {res : α → Option PRes} (hT : ke P T) (hm : P.follows .mixedOrders = true) {f : FuncId} {fn : Func} {mf : MFunc} (hf : P.funcs[f]? = some fn) (hname : (fn.name == "runtime.NumGoroutine") = false) (htr : jW P kb own fn = some { mf with body := erase mf.body }) (h : ∀ a r, res a = some r → (args a).length ≤ mf.n ∧ wp T mf.body (bG mf.res r) ⟨ax ((args a).map .dat), emp⟩) : aO P f (FF args res) := J5 hT hm hf hname htr fun ds r hr => by
 obtain⟨a,rfl,h2⟩:=Pn hr;exact h a r h2
theorem mixed:Try.prog.follows .mixedOrders=true:=by kernel_rfl
theorem oi:aO Try.prog cr nb:=psF (mf:=mf_big_trim) (kb:=177000) (own:=[]) (aq (aC au) (aB av)) mixed Try.func88 (by kernel_rfl) (by kernel_rfl) fun x0 r hr=>by obtain⟨hc,rfl⟩:=ao hr;exact⟨ail rfl,NQ _  x0 hc⟩
theorem ot:iJ Try.prog cr (mkG jZ):=RSpec.toE (ze (mf:=mf_big_trim) (kb:=177000) (own:=[]) (aq (aC au) (aB av)) mixed Try.func88 (by kernel_rfl) (by kernel_rfl) fun args mem x h=>by
 obtain⟨a,⟨rfl,hm,hl⟩,rfl⟩:=Cn h;exact⟨ail rfl,KS _ a.l a.k a.g mem hm hl⟩)
theorem Jz:aO Try.prog gO y6:=psF (mf:=mf_cmp_isNaN_int) (kb:=184000) (own:=[]) (aq (aC au) (aB av)) mixed Try.func90 (by kernel_rfl) (by kernel_rfl) fun x0 r hr=>by obtain rfl:=Option.some.inj hr;exact⟨ail rfl,KQ _  x0⟩
theorem DX:aO Try.prog dz yu:=psF (mf:=mf_cmp_Compare_int) (kb:=174000) (own:=[]) (aq (aC (ac Jz au)) (aB av)) mixed Try.func68 (by kernel_rfl) (by kernel_rfl) fun⟨x0,x1⟩ r hr=>by obtain rfl:=Option.some.inj hr;exact⟨ail rfl,Ol _ (ah rfl rfl) x0 x1⟩
theorem Pj:aO Try.prog lC Kh:=psF (mf:=mf_cmp_Or_int) (kb:=179000) (own:=[]) (aq (aC au) (aB av)) mixed Try.func91 (by kernel_rfl) (by kernel_rfl) fun x0 r hr=>by obtain⟨hc,rfl⟩:=ao hr;exact⟨ail rfl,Rt _  x0 hc⟩
theorem nR:aO Try.prog bt lk:=psF (mf:=mf_slices_Clone_int) (kb:=156000) (own:=[5]) (aq (aC au) (aB av)) mixed Try.func45 (by kernel_rfl) (by kernel_rfl) fun x0 r hr=>by obtain⟨hc,rfl⟩:=ao hr;exact⟨ail rfl,Ma _  x0 hc⟩
theorem eH:aO Try.prog aY d8:=psF (mf:=mf_big_Right) (kb:=136000) (own:=[]) (aq (aC au) (aB av)) mixed Try.func60 (by kernel_rfl) (by kernel_rfl) fun⟨x0,x1⟩ r hr=>by obtain⟨hc,rfl⟩:=ao hr;exact⟨ail rfl,B3 _  x0 x1 hc⟩
theorem kw:aO Try.prog bB jK:=psF (mf:=mf_big_signed) (kb:=158000) (own:=[]) (aq (aC (ac oi au)) (aB (eI ot av))) mixed Try.func65 (by kernel_rfl) (by kernel_rfl) fun⟨x0,x1⟩ r hr=>by obtain⟨hc,rfl⟩:=ao hr;exact⟨ail rfl,HM _ (ox rfl rfl) x0 x1 hc⟩
theorem pu:aO Try.prog dZ mz:=psF (mf:=mf_big_compare) (kb:=175000) (own:=[]) (aq (aC (ac DX au)) (aB av)) mixed Try.func69 (by kernel_rfl) (by kernel_rfl) fun⟨x0,x1⟩ r hr=>by obtain⟨hc,rfl⟩:=ao hr;exact⟨ail rfl,GT _ (ah rfl rfl) x0 x1 hc⟩
theorem JC:aO Try.prog kS ER:=psF (mf:=mf_big_add) (kb:=172000) (own:=[]) (aq (aC (ac oi au)) (aB (eI ot av))) mixed Try.func66 (by kernel_rfl) (by kernel_rfl) fun⟨x0,x1⟩ r hr=>by obtain⟨hc,rfl⟩:=ao hr;exact⟨ail rfl,Qv _ (ox rfl rfl) x0 x1 hc⟩
theorem I8:aO Try.prog jw EA:=psF (mf:=mf_big_sub) (kb:=173000) (own:=[10]) (aq (aC (ac nR (ac oi au))) (aB (eI ot av))) mixed Try.func67 (by kernel_rfl) (by kernel_rfl) fun⟨x0,x1⟩ r hr=>by obtain⟨hc,rfl⟩:=ao hr;exact⟨ail rfl,Sa _ (ah rfl rfl) (ox rfl rfl) x0 x1 hc⟩
theorem It:aO Try.prog jt EG:=psF (mf:=mf_big_mul) (kb:=161000) (own:=[]) (aq (aC (ac oi au)) (aB (eI ot av))) mixed Try.func72 (by kernel_rfl) (by kernel_rfl) fun⟨x0,x1⟩ r hr=>by obtain⟨hc,rfl⟩:=ao hr;exact⟨ail rfl,QD _ (ox rfl rfl) x0 x1 hc⟩
theorem Ir:aO Try.prog kl yV:=psF (mf:=mf_big_short) (kb:=176000) (own:=[]) (aq (aC (ac oi au)) (aB (eI ot av))) mixed Try.func87 (by kernel_rfl) (by kernel_rfl) fun⟨x0,x1⟩ r hr=>by obtain⟨hc,rfl⟩:=ao hr;exact⟨ail rfl,MU _ (ox rfl rfl) x0 x1 hc⟩
theorem Gu:iJ Try.prog lE (mkG nJ):=RSpec.toE (ze (mf:=mf_big_settle) (kb:=178000) (own:=[]) (aq (aC au) (aB av)) mixed Try.func89 (by kernel_rfl) (by kernel_rfl) fun args mem x h=>by
 obtain⟨a,⟨rfl,hc⟩,rfl⟩:=Cn h;exact⟨ail rfl,HX _ a mem hc⟩)
theorem Ka:aO Try.prog kK ES:=psF (mf:=mf_big_div) (kb:=157000) (own:=[54]) (aq (aC (ac pu (ac nR (ac Ir (ac oi (ac It au)))))) (aB (eI ot (eI Gu av)))) mixed Try.func64 (by kernel_rfl) (by kernel_rfl) fun⟨x0,x1⟩ r hr=>by obtain⟨hc,rfl⟩:=ao hr;exact⟨ail rfl,Qu _ (ah rfl rfl) (ah rfl rfl) (ah rfl rfl) (ox rfl rfl) (ah rfl rfl) (nz rfl rfl) x0 x1 hc⟩
theorem pz:aO Try.prog co ma:=psF (mf:=mf_big_checked) (kb:=155000) (own:=[]) (aq (aC au) (aB av)) mixed Try.func71 (by kernel_rfl) (by kernel_rfl) fun⟨x0,x1,x2⟩ r hr=>by obtain rfl:=Option.some.inj hr;exact⟨ail rfl,Fk _  x0 x1 x2⟩
theorem Kw:aO Try.prog jr DW:=psF (mf:=mf_big_Neg) (kb:=152000) (own:=[]) (aq (aC (ac eH (ac nR (ac kw au)))) (aB av)) mixed Try.func80 (by kernel_rfl) (by kernel_rfl) fun⟨x0,x1⟩ r hr=>by obtain⟨hc,rfl⟩:=ao hr;exact⟨ail rfl,QB _ (ah rfl rfl) (ah rfl rfl) (ah rfl rfl) x0 x1 hc⟩
theorem xU:aO Try.prog dN wv:=psF (mf:=mf_big_Mul) (kb:=140000) (own:=[]) (aq (aC (ac eH (ac It (ac kw (ac pz au))))) (aB av)) mixed Try.func40 (by kernel_rfl) (by kernel_rfl) fun⟨x0,x1,x2,x3⟩ r hr=>by obtain⟨hc,rfl⟩:=ao hr;exact⟨ail rfl,R7 _ (ah rfl rfl) (ah rfl rfl) (ah rfl rfl) (ah rfl rfl) x0 x1 x2 x3 hc⟩
theorem NS:aO Try.prog px IR:=psF (mf:=mf_big_Add) (kb:=160000) (own:=[]) (aq (aC (ac eH (ac Pj (ac JC (ac I8 (ac pu (ac kw (ac pz au)))))))) (aB av)) mixed Try.func70 (by kernel_rfl) (by kernel_rfl) fun⟨x0,x1,x2,x3⟩ r hr=>by obtain⟨hc,rfl⟩:=ao hr;exact⟨ail rfl,Qy _ (ah rfl rfl) (ah rfl rfl) (ah rfl rfl) (ah rfl rfl) (ah rfl rfl) (ah rfl rfl) (ah rfl rfl) x0 x1 x2 x3 hc⟩
theorem Dh:aO Try.prog lc rQ:=psF (mf:=mf_big_Compare) (kb:=154000) (own:=[]) (aq (aC (ac eH (ac DX (ac pu au)))) (aB av)) mixed Try.func38 (by kernel_rfl) (by kernel_rfl) fun⟨x0,x1,x2,x3⟩ r hr=>by obtain⟨hc,rfl⟩:=ao hr;exact⟨ail rfl,GF _ (ah rfl rfl) (ah rfl rfl) (ah rfl rfl) x0 x1 x2 x3 hc⟩
theorem H5:aO Try.prog kE Ex:=psF (mf:=mf_big_Gcd) (kb:=137000) (own:=[]) (aq (aC (ac eH (ac nR (ac Ka (ac kw (ac pz au)))))) (aB av)) mixed Try.func61 (by kernel_rfl) (by kernel_rfl) fun⟨x0,x1,x2,x3⟩ r hr=>by obtain⟨hc,rfl⟩:=ao hr;exact⟨ail rfl,Qx _ (ah rfl rfl) (ah rfl rfl) (ah rfl rfl) (ah rfl rfl) (ah rfl rfl) x0 x1 x2 x3 hc⟩
theorem Iy:aO Try.prog io El:=psF (mf:=mf_big_Div) (kb:=153000) (own:=[]) (aq (aC (ac eH (ac Ka (ac JC (ac I8 (ac kw au)))))) (aB av)) mixed Try.func37 (by kernel_rfl) (by kernel_rfl) fun⟨x0,x1,x2,x3⟩ r hr=>by obtain⟨hc,rfl⟩:=ao hr;exact⟨ail rfl,QV _ (ah rfl rfl) (ah rfl rfl) (ah rfl rfl) (ah rfl rfl) (ah rfl rfl) x0 x1 x2 x3 hc⟩
theorem Kk:aO Try.prog oD yJ:=psF (mf:=mf_big_Of) (kb:=150000) (own:=[]) (aq (aC (ac kw au)) (aB av)) mixed Try.func79 (by kernel_rfl) (by kernel_rfl) fun x0 r hr=>by obtain⟨hc,rfl⟩:=ao hr;exact⟨ail rfl,Ms _ (ah rfl rfl) x0 hc⟩
theorem Fo:aO Try.prog pj u9:=psF (mf:=mf_big_Int) (kb:=159000) (own:=[]) (aq (aC (ac eH au)) (aB av)) mixed Try.func86 (by kernel_rfl) (by kernel_rfl) fun⟨x0,x1⟩ r hr=>by obtain⟨hc,rfl⟩:=ao hr;exact⟨ail rfl,Ij _ (ah rfl rfl) x0 x1 hc⟩
theorem LB:aO Try.prog nB De:=psF (mf:=mf_frac_one) (kb:=138000) (own:=[]) (aq (aC (ac Fo au)) (aB av)) mixed Try.func62 (by kernel_rfl) (by kernel_rfl) fun⟨x0,x1⟩ r hr=>by obtain⟨hc,rfl⟩:=ao hr;exact⟨ail rfl,Oy _ (ah rfl rfl) x0 x1 hc⟩
theorem iI:aO Try.prog bb ii:=psF (mf:=mf_frac_Right) (kb:=116000) (own:=[]) (aq (aC (ac eH (ac H5 (ac LB au)))) (aB av)) mixed Try.func33 (by kernel_rfl) (by kernel_rfl) fun⟨x0,x1,x2,x3⟩ r hr=>by obtain⟨hc,rfl⟩:=ao hr;exact⟨ail rfl,I3 _ (ah rfl rfl) (ah rfl rfl) (ah rfl rfl) x0 x1 x2 x3 hc⟩
theorem D6:aO Try.prog jU xR:=psF (mf:=mf_frac_New) (kb:=149000) (own:=[]) (aq (aC (ac eH (ac Kw (ac H5 (ac Iy au))))) (aB av)) mixed Try.func73 (by kernel_rfl) (by kernel_rfl) fun⟨x0,x1,x2,x3⟩ r hr=>by obtain⟨hc,rfl⟩:=ao hr;exact⟨ail rfl,OC _ (ah rfl rfl) (ah rfl rfl) (ah rfl rfl) (ah rfl rfl) x0 x1 x2 x3 hc⟩
theorem xG:aO Try.prog eQ ud:=psF (mf:=mf_frac_Of) (kb:=130000) (own:=[]) (aq (aC (ac Kk (ac D6 au))) (aB av)) mixed Try.func47 (by kernel_rfl) (by kernel_rfl) fun⟨x0,x1⟩ r hr=>by obtain⟨hc,rfl⟩:=ao hr;exact⟨ail rfl,Rq _ (ah rfl rfl) (ah rfl rfl) x0 x1 hc⟩
theorem MW:aO Try.prog nD BQ:=psF (mf:=mf_frac_sum) (kb:=139000) (own:=[]) (aq (aC (ac xU (ac NS au))) (aB av)) mixed Try.func39 (by kernel_rfl) (by kernel_rfl) fun⟨x0,x1,x2,x3,x4,x5,x6,x7⟩ r hr=>by obtain⟨hc,rfl⟩:=ao hr;exact⟨ail rfl,Pg _ (ah rfl rfl) (ah rfl rfl) x0 x1 x2 x3 x4 x5 x6 x7 hc⟩
theorem s9:aO Try.prog dB pP:=psF (mf:=mf_frac_quotient) (kb:=141000) (own:=[]) (aq (aC (ac D6 au)) (aB av)) mixed Try.func41 (by kernel_rfl) (by kernel_rfl) fun⟨x0,x1,x2,x3,x4,x5⟩ r hr=>by obtain⟨hc,rfl⟩:=ao hr;exact⟨ail rfl,L3 _ (ah rfl rfl) x0 x1 x2 x3 x4 x5 hc⟩
theorem ym:aO Try.prog fy pn:=psF (mf:=mf_frac_Add) (kb:=119000) (own:=[]) (aq (aC (ac iI (ac MW (ac xU (ac s9 au))))) (aB av)) mixed Try.func13 (by kernel_rfl) (by kernel_rfl) fun⟨x0,x1,x2,x3,x4,x5,x6,x7⟩ r hr=>by obtain⟨hc,rfl⟩:=ao hr;exact⟨ail rfl,OE _ (ah rfl rfl) (ah rfl rfl) (ah rfl rfl) (ah rfl rfl) x0 x1 x2 x3 x4 x5 x6 x7 hc⟩
theorem sQ:aO Try.prog dm lT:=psF (mf:=mf_frac_Sub) (kb:=132000) (own:=[]) (aq (aC (ac iI (ac Kw (ac ym au)))) (aB av)) mixed Try.func48 (by kernel_rfl) (by kernel_rfl) fun⟨x0,x1,x2,x3,x4,x5,x6,x7⟩ r hr=>by obtain⟨hc,rfl⟩:=ao hr;exact⟨ail rfl,OM _ (ah rfl rfl) (ah rfl rfl) (ah rfl rfl) x0 x1 x2 x3 x4 x5 x6 x7 hc⟩
theorem sK:aO Try.prog cY kI:=psF (mf:=mf_frac_Mul) (kb:=134000) (own:=[]) (aq (aC (ac iI (ac xU (ac s9 au)))) (aB av)) mixed Try.func18 (by kernel_rfl) (by kernel_rfl) fun⟨x0,x1,x2,x3,x4,x5,x6,x7⟩ r hr=>by obtain⟨hc,rfl⟩:=ao hr;exact⟨ail rfl,N4 _ (ah rfl rfl) (ah rfl rfl) (ah rfl rfl) x0 x1 x2 x3 x4 x5 x6 x7 hc⟩
theorem EE:aO Try.prog gB o6:=psF (mf:=mf_frac_Div) (kb:=169000) (own:=[]) (aq (aC (ac iI (ac xU (ac s9 au)))) (aB av)) mixed Try.func85 (by kernel_rfl) (by kernel_rfl) fun⟨x0,x1,x2,x3,x4,x5,x6,x7⟩ r hr=>by obtain⟨hc,rfl⟩:=ao hr;exact⟨ail rfl,Ot _ (ah rfl rfl) (ah rfl rfl) (ah rfl rfl) x0 x1 x2 x3 x4 x5 x6 x7 hc⟩
theorem jP:aO Try.prog bD d7:=psF (mf:=mf_frac_Compare) (kb:=135000) (own:=[]) (aq (aC (ac iI (ac Iy (ac Dh au)))) (aB av)) mixed Try.func12 (by kernel_rfl) (by kernel_rfl) fun⟨x0,x1,x2,x3,x4,x5,x6,x7⟩ r hr=>by obtain⟨hc,rfl⟩:=ao hr;exact⟨ail rfl,CY _ (ah rfl rfl) (ah rfl rfl) (ah rfl rfl) x0 x1 x2 x3 x4 x5 x6 x7 hc⟩
theorem vX:aO Try.prog az qe:=psF (mf:=mf_linear_Right_1) (kb:=125000) (own:=[]) (aq (aC (ac iI au)) (aB av)) mixed Try.func111 (by kernel_rfl) (by kernel_rfl) fun⟨x0,x1,x2,x3⟩ r hr=>by obtain⟨hc,rfl⟩:=ao hr;exact⟨ail rfl,Id _ (ah rfl rfl) x0 x1 x2 x3 hc⟩
theorem GX:aO Try.prog bP uj:=psF (mf:=mf_clear_Fits_1) (kb:=234000) (own:=[]) (aq (aC (ac iI au)) (aB av)) mixed Try.func32 (by kernel_rfl) (by kernel_rfl) fun⟨x0,x1,x2,x3⟩ r hr=>by obtain⟨hc,rfl⟩:=ao hr;exact⟨ail rfl,I0 _ (ah rfl rfl) x0 x1 x2 x3 hc⟩
theorem FN:aO Try.prog eS uM:=psF (mf:=mf_slices_IndexFunc_Frac) (kb:=146000) (own:=[]) (aq (aC (ac vX (ac GX au))) (aB av)) mixed Try.func63 (by kernel_rfl) (by kernel_rfl) fun⟨x0,x1⟩ r hr=>by obtain⟨hc,rfl⟩:=ao hr;exact⟨ail rfl,H1 _ (ah rfl rfl) (ah rfl rfl) x0 x1 hc⟩
theorem CR:aO Try.prog dT ri:=psF (mf:=mf_slices_ContainsFunc_Frac) (kb:=128000) (own:=[]) (aq (aC (ac FN au)) (aB av)) mixed Try.func34 (by kernel_rfl) (by kernel_rfl) fun⟨x0,x1⟩ r hr=>by obtain⟨hc,rfl⟩:=ao hr;exact⟨ail rfl,Fw _ (ah rfl rfl) x0 x1 hc⟩
theorem Bv:aO Try.prog bA pw:=psF (mf:=mf_linear_Right_2) (kb:=127000) (own:=[]) (aq (aC (ac vX (ac CR au))) (aB av)) mixed Try.func113 (by kernel_rfl) (by kernel_rfl) fun⟨x0,x1,x2,x3,x4,x5⟩ r hr=>by obtain⟨hc,rfl⟩:=ao hr;exact⟨ail rfl,B9 _ (ah rfl rfl) (ah rfl rfl) x0 x1 x2 x3 x4 x5 hc⟩
theorem Jw:aO Try.prog fp yr:=psF (mf:=mf_slices_IndexFunc_Row) (kb:=145000) (own:=[]) (aq (aC (ac Bv au)) (aB av)) mixed Try.func116 (by kernel_rfl) (by kernel_rfl) fun⟨x0,x1⟩ r hr=>by obtain⟨hc,rfl⟩:=ao hr;exact⟨ail rfl,KW _ (ah rfl rfl) x0 x1 hc⟩
theorem GS:aO Try.prog ej uF:=psF (mf:=mf_slices_ContainsFunc_Row) (kb:=126000) (own:=[]) (aq (aC (ac Jw au)) (aB av)) mixed Try.func112 (by kernel_rfl) (by kernel_rfl) fun⟨x0,x1⟩ r hr=>by obtain⟨hc,rfl⟩:=ao hr;exact⟨ail rfl,JM _ (ah rfl rfl) x0 x1 hc⟩
theorem AX:aO Try.prog jY po:=psF (mf:=mf_linear_Right) (kb:=108000) (own:=[]) (aq (aC (ac GS au)) (aB av)) mixed Try.func104 (by kernel_rfl) (by kernel_rfl) fun⟨x0,x1⟩ r hr=>by obtain⟨hc,rfl⟩:=ao hr;exact⟨ail rfl,Dg _ (ah rfl rfl) x0 x1 hc⟩
theorem LC:iJ Try.prog bW (mkU mQ):=Hb (mf:=mf_linear_matrix_note) (kb:=168000) (own:=[]) (aq (aC au) (aB av)) mixed Try.func118 (by kernel_rfl) (by kernel_rfl) EF fun args mem r k g i d h=>by
 obtain⟨h1,h2,h3,h4,h5⟩:=NK _ args mem r k g i d h;exact⟨h1,h2,h3,h4,h5⟩
theorem Ly:aO Try.prog gf y9:=psF (mf:=mf_linear_zero) (kb:=167000) (own:=[]) (aq (aC au) (aB av)) mixed Try.func117 (by kernel_rfl) (by kernel_rfl) fun⟨x0,x1,x2,x3⟩ r hr=>by obtain rfl:=Option.some.inj hr;exact⟨ail rfl,w_zero _  x0 x1 x2 x3⟩
theorem Jd:iJ Try.prog fC (mkQ qt):=rB (mf:=mf_linear_matrix_pivot) (kb:=148000) (own:=[3000106,3000165,3000169]) (aq (aC (ac Ly (ac EE (ac sQ (ac sK au))))) (aB (eI LC av))) mixed Try.func115 (by kernel_rfl) (by kernel_rfl) fun args mem R h=>by
 obtain⟨a,rfl,⟨h1,h2,h3,h4,h5,h6,h7⟩,rfl⟩:=zD h;exact⟨ail rfl,L6 _ (ah rfl rfl) (nz rfl rfl) (ah rfl rfl) (ah rfl rfl) (ah rfl rfl) a.go a.N a.rows a.r a.c mem h1 h2 h3 h4 h5 h6 h7⟩
theorem FH:aO Try.prog eK qr:=psF (mf:=mf_slices_Clone_Frac) (kb:=147000) (own:=[5]) (aq (aC au) (aB av)) mixed Try.func114 (by kernel_rfl) (by kernel_rfl) fun x0 r hr=>by obtain⟨hc,rfl⟩:=ao hr;exact⟨ail rfl,HJ _  x0 hc⟩
theorem MQ:aO Try.prog gh xZ:=psF (mf:=mf_linear_eliminated) (kb:=129000) (own:=[29,34]) (aq (aC (ac FH au)) (aB (eI Jd av))) mixed Try.func105 (by kernel_rfl) (by kernel_rfl) fun⟨x0,x1,x2⟩ r hr=>by obtain⟨hc,rfl⟩:=ao hr;exact⟨ail rfl,OS _ (ah rfl rfl) (nz rfl rfl) x0 x1 x2 hc⟩
theorem AD:aO Try.prog j0 o5:=psF (mf:=mf_linear_Solve) (kb:=109000) (own:=[]) (aq (aC (ac AX (ac MQ au))) (aB av)) mixed Try.func98 (by kernel_rfl) (by kernel_rfl) fun⟨x0,x1⟩ r hr=>by obtain⟨hc,rfl⟩:=ao hr;exact⟨ail rfl,Do _ (ah rfl rfl) (ah rfl rfl) x0 x1 hc⟩
theorem JW:aO Try.prog iu xB:=psF (mf:=mf_math_bits_Mul64) (kb:=171000) (own:=[]) (aq (aC au) (aB av)) mixed Try.func110 (by kernel_rfl) (by kernel_rfl) fun x0 r hr=>by obtain⟨hc,rfl⟩:=ao hr;exact⟨ail rfl,LA _  x0 hc⟩
theorem MT:aO Try.prog ju CO:=psF (mf:=mf_math_bits_Mul) (kb:=151000) (own:=[]) (aq (aC (ac JW au)) (aB av)) mixed Try.func103 (by kernel_rfl) (by kernel_rfl) fun x0 r hr=>by obtain⟨hc,rfl⟩:=ao hr;exact⟨ail rfl,O7 _ (ah rfl rfl) x0 hc⟩
theorem Ck:aO Try.prog fU rA:=psF (mf:=mf_slices_Repeat_Frac) (kb:=131000) (own:=[]) (aq (aC (ac MT au)) (aB av)) mixed Try.func97 (by kernel_rfl) (by kernel_rfl) fun⟨x0,x1,x2,x3,x4⟩ r hr=>by obtain⟨hc,rfl⟩:=ao hr;exact⟨ail rfl,FU _ (ah rfl rfl) x0 x1 x2 x3 x4 hc⟩
theorem nV:aO Try.prog cq lv:=psF (mf:=mf_ref04_trim) (kb:=183000) (own:=[18]) (aq (aC au) (aB av)) mixed Try.func102 (by kernel_rfl) (by kernel_rfl) fun x0 r hr=>by obtain⟨hc,rfl⟩:=ao hr;exact⟨ail rfl,LD _  x0 hc⟩
theorem om:aO Try.prog bZ l7:=psF (mf:=mf_ref04_digit) (kb:=187000) (own:=[]) (aq (aC au) (aB av)) mixed Try.func108 (by kernel_rfl) (by kernel_rfl) fun⟨x0,x1⟩ r hr=>by obtain⟨hc,rfl⟩:=ao hr;exact⟨ail rfl,H2 _  x0 x1 hc⟩
theorem Jt:aO Try.prog jA sP:=psF (mf:=mf_ref04_less) (kb:=185000) (own:=[]) (aq (aC (ac om au)) (aB av)) mixed Try.func106 (by kernel_rfl) (by kernel_rfl) fun⟨x0,x1⟩ r hr=>by obtain⟨hc,rfl⟩:=ao hr;exact⟨ail rfl,Mi _ (ah rfl rfl) x0 x1 hc⟩
theorem HI:aO Try.prog lF yQ:=psF (mf:=mf_ref04_plus) (kb:=181000) (own:=[]) (aq (aC (ac om (ac nV au))) (aB av)) mixed Try.func100 (by kernel_rfl) (by kernel_rfl) fun⟨x0,x1⟩ r hr=>by obtain⟨hc,rfl⟩:=ao hr;exact⟨ail rfl,Ld _ (ah rfl rfl) (ah rfl rfl) x0 x1 hc⟩
theorem vZ:aO Try.prog gk q0:=psF (mf:=mf_ref04_minus) (kb:=182000) (own:=[]) (aq (aC (ac om (ac nV au))) (aB av)) mixed Try.func101 (by kernel_rfl) (by kernel_rfl) fun⟨x0,x1⟩ r hr=>by obtain⟨hc,rfl⟩:=ao hr;exact⟨ail rfl,JD _ (ah rfl rfl) (ah rfl rfl) x0 x1 hc⟩
theorem Ga:aO Try.prog gj pO:=psF (mf:=mf_ref04_times) (kb:=186000) (own:=[]) (aq (aC (ac om (ac nV au))) (aB av)) mixed Try.func107 (by kernel_rfl) (by kernel_rfl) fun⟨x0,x1⟩ r hr=>by obtain⟨hc,rfl⟩:=ao hr;exact⟨ail rfl,HO _ (ah rfl rfl) (ah rfl rfl) x0 x1 hc⟩
theorem Be:aO Try.prog ic sE:=psF (mf:=mf_ref04_over) (kb:=180000) (own:=[26]) (aq (aC (ac nV (ac Ga (ac Jt (ac vZ au))))) (aB av)) mixed Try.func99 (by kernel_rfl) (by kernel_rfl) fun⟨x0,x1⟩ r hr=>by obtain⟨hc,rfl⟩:=ao hr;exact⟨ail rfl,L8 _ (ah rfl rfl) (ah rfl rfl) (ah rfl rfl) (ah rfl rfl) x0 x1 hc⟩
theorem qO:aO Try.prog cC oH:=psF (mf:=mf_ref04_made) (kb:=166000) (own:=[]) (aq (aC (ac nV au)) (aB av)) mixed Try.func96 (by kernel_rfl) (by kernel_rfl) fun⟨x0,x1⟩ r hr=>by obtain⟨hc,rfl⟩:=ao hr;exact⟨ail rfl,Le _ (ah rfl rfl) x0 x1 hc⟩
theorem oL:aO Try.prog cn mw:=psF (mf:=mf_ref04_Right) (kb:=162000) (own:=[]) (aq (aC au) (aB av)) mixed Try.func92 (by kernel_rfl) (by kernel_rfl) fun⟨x0,x1⟩ r hr=>by obtain⟨hc,rfl⟩:=ao hr;exact⟨ail rfl,Ke _  x0 x1 hc⟩
theorem MS:aO Try.prog kv CU:=psF (mf:=mf_ref04_Neg) (kb:=163000) (own:=[]) (aq (aC (ac oL (ac qO au))) (aB av)) mixed Try.func93 (by kernel_rfl) (by kernel_rfl) fun⟨x0,x1⟩ r hr=>by obtain⟨hc,rfl⟩:=ao hr;exact⟨ail rfl,OO _ (ah rfl rfl) (ah rfl rfl) x0 x1 hc⟩
theorem Pl:aO Try.prog lA JP:=psF (mf:=mf_ref04_Of) (kb:=144000) (own:=[]) (aq (aC (ac qO au)) (aB av)) mixed Try.func75 (by kernel_rfl) (by kernel_rfl) fun x0 r hr=>by obtain⟨hc,rfl⟩:=ao hr;exact⟨ail rfl,RQ _ (ah rfl rfl) x0 hc⟩
theorem L2:aO Try.prog mJ Dc:=psF (mf:=mf_ref04_Gcd) (kb:=164000) (own:=[]) (aq (aC (ac oL (ac Be (ac qO au)))) (aB av)) mixed Try.func94 (by kernel_rfl) (by kernel_rfl) fun⟨x0,x1,x2,x3⟩ r hr=>by obtain⟨hc,rfl⟩:=ao hr;exact⟨ail rfl,NP _ (ah rfl rfl) (ah rfl rfl) (ah rfl rfl) x0 x1 x2 x3 hc⟩
theorem Mm:aO Try.prog ki DB:=psF (mf:=mf_ref04_Div) (kb:=165000) (own:=[]) (aq (aC (ac oL (ac Be (ac HI (ac vZ (ac qO au)))))) (aB av)) mixed Try.func95 (by kernel_rfl) (by kernel_rfl) fun⟨x0,x1,x2,x3⟩ r hr=>by obtain⟨hc,rfl⟩:=ao hr;exact⟨ail rfl,O3 _ (ah rfl rfl) (ah rfl rfl) (ah rfl rfl) (ah rfl rfl) (ah rfl rfl) x0 x1 x2 x3 hc⟩
theorem L4:aO Try.prog mW Dq:=psF (mf:=mf_ref05_New) (kb:=143000) (own:=[]) (aq (aC (ac oL (ac MS (ac L2 (ac Mm au))))) (aB av)) mixed Try.func74 (by kernel_rfl) (by kernel_rfl) fun⟨x0,x1,x2,x3⟩ r hr=>by obtain⟨hc,rfl⟩:=ao hr;exact⟨ail rfl,On _ (ah rfl rfl) (ah rfl rfl) (ah rfl rfl) (ah rfl rfl) x0 x1 x2 x3 hc⟩
theorem Pi:aO Try.prog nS IA:=psF (mf:=mf_ref05_Of) (kb:=124000) (own:=[]) (aq (aC (ac Pl (ac L4 au))) (aB av)) mixed Try.func42 (by kernel_rfl) (by kernel_rfl) fun⟨x0,x1⟩ r hr=>by obtain⟨hc,rfl⟩:=ao hr;exact⟨ail rfl,R0 _ (ah rfl rfl) (ah rfl rfl) x0 x1 hc⟩
theorem z5:aO Try.prog gR pD:=psF (mf:=mf_ref05_SameBig) (kb:=142000) (own:=[]) (aq (aC au) (aB av)) mixed Try.func49 (by kernel_rfl) (by kernel_rfl) fun⟨x0,x1,x2,x3⟩ r hr=>by obtain⟨hc,rfl⟩:=ao hr;exact⟨ail rfl,DG _  x0 x1 x2 x3 hc⟩
theorem Aa:aO Try.prog eM pF:=psF (mf:=mf_ref05_Same) (kb:=120000) (own:=[]) (aq (aC (ac z5 au)) (aB av)) mixed Try.func20 (by kernel_rfl) (by kernel_rfl) fun⟨x0,x1,x2,x3,x4,x5,x6,x7⟩ r hr=>by obtain⟨hc,rfl⟩:=ao hr;exact⟨ail rfl,Ml _ (ah rfl rfl) x0 x1 x2 x3 x4 x5 x6 x7 hc⟩
theorem kB:aO Try.prog bp fK:=psF (mf:=mf_clear_whole) (kb:=230000) (own:=[]) (aq (aC (ac xG au)) (aB av)) mixed Try.func28 (by kernel_rfl) (by kernel_rfl) fun x0 r hr=>by obtain⟨hc,rfl⟩:=ao hr;exact⟨ail rfl,HZ _ (ah rfl rfl) x0 hc⟩
theorem GR:aO Try.prog de oa:=psF (mf:=mf_rank_whole) (kb:=241000) (own:=[]) (aq (aC (ac xG au)) (aB av)) mixed Try.func51 (by kernel_rfl) (by kernel_rfl) fun x0 r hr=>by obtain⟨hc,rfl⟩:=ao hr;exact⟨ail rfl,Hx _ (ah rfl rfl) x0 hc⟩
theorem vj:aO Try.prog dM mF:=psF (mf:=mf_law22_number) (kb:=223000) (own:=[]) (aq (aC (ac Pi au)) (aB av)) mixed Try.func19 (by kernel_rfl) (by kernel_rfl) fun x0 r hr=>by obtain⟨hc,rfl⟩:=ao hr;exact⟨ail rfl,FE _ (ah rfl rfl) x0 hc⟩
theorem Lb:aO Try.prog nq CM:=psF (mf:=mf_ref20_Few) (kb:=216000) (own:=[]) (aq (aC au) (aB av)) mixed Try.func8 (by kernel_rfl) (by kernel_rfl) fun⟨x0,x1⟩ r hr=>by obtain rfl:=Option.some.inj hr;exact⟨ail rfl,OL _  x0 x1⟩
theorem Ie:aO Try.prog bn Et:=psF (mf:=mf_clear_right_1) (kb:=243000) (own:=[]) (aq (aC au) (aB av)) mixed Try.func53 (by kernel_rfl) (by kernel_rfl) fun⟨x0,x1,x2⟩ r hr=>by obtain rfl:=Option.some.inj hr;exact⟨ail rfl,Qr _  x0 x1 x2⟩
theorem Pm:aO Try.prog fa Kf:=psF (mf:=mf_clear_right_2) (kb:=244000) (own:=[]) (aq (aC (ac Ie au)) (aB av)) mixed Try.func54 (by kernel_rfl) (by kernel_rfl) fun x0 r hr=>by obtain rfl:=Option.some.inj hr;exact⟨ail rfl,QL _ (ah rfl rfl) x0⟩
theorem Ov:aO Try.prog fe Kb:=psF (mf:=mf_clear_right_3) (kb:=245000) (own:=[]) (aq (aC (ac Ie au)) (aB av)) mixed Try.func55 (by kernel_rfl) (by kernel_rfl) fun⟨x0,x1,x2,x3,x4⟩ r hr=>by obtain⟨hc,rfl⟩:=ao hr;exact⟨ail rfl,R6 _ (ah rfl rfl) x0 x1 x2 x3 x4 hc⟩
theorem CH:aO Try.prog fb rU:=psF (mf:=mf_clear_Solve_1) (kb:=232000) (own:=[]) (aq (aC (ac kB (ac jP au))) (aB av)) mixed Try.func30 (by kernel_rfl) (by kernel_rfl) fun⟨x0,x1,x2⟩ r hr=>by obtain⟨hc,rfl⟩:=ao hr;exact⟨ail rfl,GY _ (ah rfl rfl) (ah rfl rfl) x0 x1 x2 hc⟩
theorem tg:aO Try.prog fo oF:=psF (mf:=mf_rescue_amount) (kb:=251000) (own:=[]) (aq (aC au) (aB av)) mixed Try.func77 (by kernel_rfl) (by kernel_rfl) fun x0 r hr=>by obtain rfl:=Option.some.inj hr;exact⟨ail rfl,EZ _  x0⟩
theorem Iu:aO Try.prog fM y0:=psF (mf:=mf_rescue_day_1) (kb:=250000) (own:=[]) (aq (aC (ac tg au)) (aB av)) mixed Try.func76 (by kernel_rfl) (by kernel_rfl) fun x0 r hr=>by obtain rfl:=Option.some.inj hr;exact⟨ail rfl,LK _ (ah rfl rfl) x0⟩
theorem Bs:aO Try.prog bX oA:=psF (mf:=mf_slices_IndexFunc_int) (kb:=231000) (own:=[]) (aq (aC (ac Pm (ac Iu (ac CH au)))) (aB av)) mixed Try.func29 (by kernel_rfl) (by kernel_rfl) fun⟨x0,x1⟩ r hr=>by obtain⟨hc,rfl⟩:=ao hr;exact⟨ail rfl,KU _ (ah rfl rfl) (ah rfl rfl) (ah rfl rfl) x0 x1 hc⟩
theorem wM:aO Try.prog cA qa:=psF (mf:=mf_slices_ContainsFunc_int) (kb:=246000) (own:=[]) (aq (aC (ac Bs au)) (aB av)) mixed Try.func56 (by kernel_rfl) (by kernel_rfl) fun⟨x0,x1⟩ r hr=>by obtain⟨hc,rfl⟩:=ao hr;exact⟨ail rfl,Kr _ (ah rfl rfl) x0 x1 hc⟩
theorem Co:aO Try.prog fj rP:=psF (mf:=mf_rank_within) (kb:=253000) (own:=[]) (aq (aC au) (aB av)) mixed Try.func81 (by kernel_rfl) (by kernel_rfl) fun⟨x0,x1,x2⟩ r hr=>by obtain rfl:=Option.some.inj hr;exact⟨ail rfl,Gz _  x0 x1 x2⟩
theorem Gk:aO Try.prog lU uE:=psF (mf:=mf_rank_right) (kb:=240000) (own:=[]) (aq (aC (ac Co au)) (aB av)) mixed Try.func50 (by kernel_rfl) (by kernel_rfl) fun x0 r hr=>by obtain⟨hc,rfl⟩:=ao hr;exact⟨ail rfl,Ji _ (ah rfl rfl) x0 hc⟩
theorem Fs:aO Try.prog lM uP:=psF (mf:=mf_rank_Split) (kb:=249000) (own:=[]) (aq (aC (ac iI (ac jP (ac GR (ac Gk (ac sK (ac EE (ac sQ au)))))))) (aB av)) mixed Try.func59 (by kernel_rfl) (by kernel_rfl) fun⟨x0,x1⟩ r hr=>by obtain⟨hc,rfl⟩:=ao hr;exact⟨ail rfl,IV _ (ah rfl rfl) (ah rfl rfl) (ah rfl rfl) (ah rfl rfl) (ah rfl rfl) (ah rfl rfl) (ah rfl rfl) x0 x1 hc⟩
theorem Ks:aO Try.prog fN yZ:=psF (mf:=mf_rescue_day_2) (kb:=252000) (own:=[]) (aq (aC (ac tg au)) (aB av)) mixed Try.func78 (by kernel_rfl) (by kernel_rfl) fun⟨x0,x1,x2,x3,x4⟩ r hr=>by obtain⟨hc,rfl⟩:=ao hr;exact⟨ail rfl,LR _ (ah rfl rfl) x0 x1 x2 x3 x4 hc⟩
theorem Dy:aO Try.prog eD rR:=psF (mf:=mf_slices_IndexFunc_Claim) (kb:=254000) (own:=[]) (aq (aC (ac Ov (ac Ks au))) (aB av)) mixed Try.func82 (by kernel_rfl) (by kernel_rfl) fun⟨x0,x1⟩ r hr=>by obtain⟨hc,rfl⟩:=ao hr;exact⟨ail rfl,E4 _ (ah rfl rfl) (ah rfl rfl) x0 x1 hc⟩
theorem rW:aO Try.prog cp mL:=psF (mf:=mf_slices_ContainsFunc_Claim) (kb:=247000) (own:=[]) (aq (aC (ac Dy au)) (aB av)) mixed Try.func57 (by kernel_rfl) (by kernel_rfl) fun⟨x0,x1⟩ r hr=>by obtain⟨hc,rfl⟩:=ao hr;exact⟨ail rfl,Cp _ (ah rfl rfl) x0 x1 hc⟩
theorem FQ:aO Try.prog kZ ti:=psF (mf:=mf_clear_right) (kb:=227000) (own:=[]) (aq (aC (ac wM (ac rW au))) (aB av)) mixed Try.func25 (by kernel_rfl) (by kernel_rfl) fun⟨x0,x1⟩ r hr=>by obtain⟨hc,rfl⟩:=ao hr;exact⟨ail rfl,JU _ (ah rfl rfl) (ah rfl rfl) x0 x1 hc⟩
theorem K3:aO Try.prog lS Dv:=psF (mf:=mf_rescue_day) (kb:=238000) (own:=[]) (aq (aC (ac wM (ac rW au))) (aB av)) mixed Try.func44 (by kernel_rfl) (by kernel_rfl) fun⟨x0,x1⟩ r hr=>by obtain⟨hc,rfl⟩:=ao hr;exact⟨ail rfl,Ox _ (ah rfl rfl) (ah rfl rfl) x0 x1 hc⟩
theorem IW:aO Try.prog iX sF:=psF (mf:=mf_clear_payments) (kb:=233000) (own:=[]) (aq (aC (ac Fs au)) (aB av)) mixed Try.func31 (by kernel_rfl) (by kernel_rfl) fun⟨x0,x1⟩ r hr=>by obtain⟨hc,rfl⟩:=ao hr;exact⟨ail rfl,K4 _ (ah rfl rfl) x0 x1 hc⟩
theorem CS:iJ Try.prog dV (mkN ow):=py (mf:=mf_clear_debtor_shares) (kb:=255000) (own:=[17]) (aq (aC (ac kB (ac Ck (ac xG (ac ym au))))) (aB av)) mixed Try.func83 (by kernel_rfl) (by kernel_rfl) (fun j=>j / 1000=255) fun args mem d h=>by
 obtain⟨a,⟨rfl,ha⟩,rfl⟩:=Cr h;exact⟨ail rfl,ha.no,Hj _ (ah rfl rfl) (ah rfl rfl) (ah rfl rfl) (ah rfl rfl) a.1 a.2 mem ha⟩
theorem FZ:iJ Try.prog kC (mkN pZ):=py (mf:=mf_clear_solve) (kb:=256000) (own:=[]) (aq (aC (ac kB (ac sQ (ac AD au)))) (aB av)) mixed Try.func84 (by kernel_rfl) (by kernel_rfl) (fun j=>j / 1000=256) fun args mem d h=>by
 obtain⟨a,⟨rfl,ha⟩,rfl⟩:=Cr h;exact⟨ail rfl,ha.no,Jo _ (ah rfl rfl) (ah rfl rfl) (ah rfl rfl) a mem ha⟩
theorem J6:iJ Try.prog lD (mkN yK):=py (mf:=mf_clear_list) (kb:=248000) (own:=[]) (aq (aC (ac kB (ac sK (ac ym au)))) (aB (eI CS (eI FZ av)))) mixed Try.func58 (by kernel_rfl) (by kernel_rfl) (fun j=>j / 1000=248) fun args mem d h=>by
 obtain⟨a,⟨rfl,ha⟩,rfl⟩:=Cr h;exact⟨ail rfl,ha.n1,MN _ (ah rfl rfl) (nz rfl rfl) (nz rfl rfl) (ah rfl rfl) (ah rfl rfl) a mem ha⟩
theorem FM:iJ Try.prog iT (mkQ nH):=rB (mf:=mf_clear_round) (kb:=229000) (own:=[]) (aq (aC (ac kB (ac jP au))) (aB (eI J6 av))) mixed Try.func27 (by kernel_rfl) (by kernel_rfl) fun args mem R h=>by
 obtain⟨a,⟨rfl,ha⟩,rfl⟩:=B8 h;exact⟨ail rfl,Ib _ (nz rfl rfl) (ah rfl rfl) (ah rfl rfl) a mem ha⟩
theorem IS:iJ Try.prog lO (mkQ ya):=rB (mf:=mf_clear_open) (kb:=228000) (own:=[22]) (aq (aC au) (aB av)) mixed Try.func26 (by kernel_rfl) (by kernel_rfl) fun args mem R h=>by
 obtain⟨a,⟨rfl,ha⟩,rfl⟩:=B8 h;exact⟨ail rfl,Mv _  a.1 a.2 mem ha⟩
theorem Hg:aO Try.prog kX qb:=psF (mf:=mf_clear_Solve) (kb:=217000) (own:=[]) (aq (aC (ac FQ (ac kB (ac jP (ac Bs (ac IW au)))))) (aB (eI IS (eI FM av)))) mixed Try.func10 (by kernel_rfl) (by kernel_rfl) fun⟨x0,x1⟩ r hr=>by obtain⟨hc,rfl⟩:=ao hr;exact⟨ail rfl,HB _ (ah rfl rfl) (nz rfl rfl) (nz rfl rfl) (ah rfl rfl) (ah rfl rfl) (ah rfl rfl) (ah rfl rfl) x0 x1 hc⟩
theorem K0:aO Try.prog iR CK:=psF (mf:=mf_slices_Max_int) (kb:=239000) (own:=[]) (aq (aC au) (aB av)) mixed Try.func46 (by kernel_rfl) (by kernel_rfl) fun x0 r hr=>by obtain⟨hc,rfl⟩:=ao hr;exact⟨ail rfl,NJ _  x0 hc⟩
theorem wu:aO Try.prog cB jM:=psF (mf:=mf_rescue_Least) (kb:=221000) (own:=[34]) (aq (aC (ac K3 (ac nR (ac K0 (ac Hg (ac xG (ac sQ au))))))) (aB av)) mixed Try.func16 (by kernel_rfl) (by kernel_rfl) fun⟨x0,x1,x2⟩ r hr=>by obtain⟨hc,rfl⟩:=ao hr;exact⟨ail rfl,IJ _ (ah rfl rfl) (ah rfl rfl) (ah rfl rfl) (ah rfl rfl) (ah rfl rfl) (ah rfl rfl) x0 x1 x2 hc⟩
theorem LU:aO Try.prog gJ C0:=psF (mf:=mf_law22_two) (kb:=237000) (own:=[]) (aq (aC au) (aB av)) mixed Try.func43 (by kernel_rfl) (by kernel_rfl) fun _ r hr=>by obtain rfl:=Option.some.inj hr;exact⟨ail rfl,NL _  ⟩
theorem Gb:aO Try.prog kT ut:=psF (mf:=mf_law22_small) (kb:=220000) (own:=[]) (aq (aC (ac LU (ac wu (ac vj (ac Aa au))))) (aB av)) mixed Try.func15 (by kernel_rfl) (by kernel_rfl) fun _ r hr=>by obtain rfl:=Option.some.inj hr;exact⟨ail rfl,J8 _ (ah rfl rfl) (ah rfl rfl) (ah rfl rfl) (ah rfl rfl) ⟩
theorem Hd:aO Try.prog kJ tA:=psF (mf:=mf_law22_given) (kb:=222000) (own:=[8]) (aq (aC au) (aB av)) mixed Try.func17 (by kernel_rfl) (by kernel_rfl) fun⟨x0,x1,x2⟩ r hr=>by obtain⟨hc,rfl⟩:=ao hr;exact⟨ail rfl,KC _  x0 x1 x2 hc⟩
theorem Fc:aO Try.prog nT uI:=psF (mf:=mf_law22_RescueTimes) (kb:=213000) (own:=[]) (aq (aC (ac Gb (ac Lb (ac wu (ac Hd (ac vj (ac sK (ac Aa (ac jP au))))))))) (aB av)) mixed Try.func5 (by kernel_rfl) (by kernel_rfl) fun⟨x0,x1,x2,x3,x4,x5⟩ r hr=>by obtain⟨hc,rfl⟩:=ao hr;exact⟨ail rfl,JQ _ (ah rfl rfl) (ah rfl rfl) (ah rfl rfl) (ah rfl rfl) (ah rfl rfl) (ah rfl rfl) (ah rfl rfl) (ah rfl rfl) x0 x1 x2 x3 x4 x5 hc⟩
end Go.Mini
