/- A part of the proof. -/
import Derived.Test.YtdbkjjoedjfmpaaM13
import Derived.Test.YtdbkjjoedjfmpaaM11
import Derived.Test.YtdbkjjoedjfmpaaM12
set_option linter.unusedSimpArgs false
set_option linter.unusedVariables false
open List renaming getElem?_map → agP, take_zero → agR, mem_of_getElem? → agS, getElem?_eq_getElem → agT, getD_eq_getElem?_getD → agU, take_add_one → agZ, length_map → ag0, length_filter_le → ag4, foldl_append → ag6, map_append → ag7, mem_map_of_mem → ag9, map_nil → aha, eq_nil_or_concat → ahb, concat_eq_append → ahc, length_append → ahd, length_singleton → ahe, getElem?_cons_zero → ahk, getElem?_cons_succ → ahm, take_succ_cons → ahn, take_of_length_le → ahq, drop_succ_cons → ahs, map_cons → aht, drop_zero → ahu, mapM_cons → ahv, length_cons → ahw, map_map → ahx, any_eq_false → ahB, map_id → ahD, map_congr_left → ahE, mem_cons_of_mem → ahF, mem_cons_self → ahG, length_range → ahI, range → ahJ, length → ahK
open Option renaming map_some → agQ, bind_some → ahf, bind_none → ahy
open Bool renaming false_eq_true → agV, not_true → ag5, and_eq_true → ahh, and_false → ahj, false_and → ahl, not_false → aho, not_eq_true' → ahC, true_and → ahH
open Decidable renaming em → agW
open Nat renaming mul_one → agX, reduceEqDiff → ag1, le_trans → ag3, zero_le → ahp, le_refl → ahr
open Int renaming toNat_natCast → agY, reduceLE → ahz, reduceToNat → ahA
open Prod renaming ext → ag2
open Rat renaming add_zero → ag8, intCast_natCast → ahg, intCast_mul → ahi
namespace Go.Mini
open Go
set_option maxRecDepth 10000
set_option maxHeartbeats 4000000
def plM (l:List Nat):MV:=if l=[] then .nil else .dat (.sl (l.map gJ))
theorem Lb (l:List Nat):oL (plM l)=some l.length:=by
 unfold plM
 split
 ·rename_i h;rw[h];rfl
 ·simp [oL]
theorem Mr {l:List Nat} {n y:Nat} (h:l[n]?=some y):xG 1 n (plM l)=some (.dat (.ptr (gJ y))):=by
 unfold plM
 split
 ·rename_i hl;rw[hl] at h;cases h
 ·simp only[xG,agP,h,agQ]
  rfl
theorem KW (l:List ClR) (n:Nat) (m:Mem):toD n m (clM l)=some (.sl (l.map clL)):=by
 unfold clM
 split
 ·rename_i h;rw[h];exact Lv n
 ·exact sN n _
noncomputable def pyE (cs:List ClR) (h:List Rat) (j:Nat):aM:=aj (cC cs (h.getD (cs.getD j zC).1.toNat 0) (cs.getD j zC))
noncomputable def pyQ (cs:List ClR) (h:List Rat) (i t j:Nat):Option aM:=if (cs.getD j zC).1<(i:Int)∨((cs.getD j zC).1=(i:Int)∧j∈(plc cs i).take t) then some (pyE cs h j) else none
theorem LY (cs:List ClR) (h:List Rat) (i:Nat):(fL cs.length fun j=>pyQ cs h i (plc cs i).length j)=fL cs.length fun j=>pyQ cs h (i+1) 0 j:=bY fun j hj=>by
 unfold pyQ;rw[List.take_length,agR];have hm:=plc_mem (l:=cs) (i:=i) (j:=j)
 by_cases h1:(cs.getD j zC).1<(i:Int)
 ·rw[if_pos (.inl h1),if_pos (.inl (by omega))]
 ·by_cases h2:(cs.getD j zC).1=(i:Int)
  ·rw[if_pos (.inr ⟨h2,hm.2 ⟨hj,h2⟩⟩),if_pos (.inl (by omega))]
  ·rw[if_neg (fun hh=>hh.elim h1 fun x=>h2 x.1),if_neg (fun hh=>hh.elim (by omega) fun x=>by simpa using x.2)]
theorem Jw (cs:List ClR) (h:List Rat) (hp:xA cs h):(fL cs.length fun j=>pyQ cs h 0 0 j)=fL cs.length fun _=>none:=bY fun j hj=>by
 have:=(hp.c _ (agS (agT hj))).1;have e:cs.getD j zC=cs[j]:=by rw[agU,agT hj];rfl
 unfold pyQ;rw[e,agR,if_neg (fun hh=>hh.elim (by omega) fun x=>by simpa using x.2)]
theorem NJ (cs:List ClR) (h:List Rat) (hp:xA cs h):(fL cs.length fun j=>pyQ cs h h.length 0 j)=(cs.map fun c=>aj (cC cs (h.getD c.1.toNat 0) c)).map some:=by
 refine (D3 (by simp) fun j hj=>?_).symm;have:=(hp.c _ (agS (agT hj))).2.1;have e:cs.getD j zC=cs[j]:=by rw[agU,agT hj];rfl
 unfold pyQ;rw[agP,agP,agT hj,e,if_pos (.inl this)];unfold pyE;rw[e];rfl
theorem Rb (T:Tab) {K:bP→St→Prop} {kk:List Todo} (cs:List ClR) (h:List Rat) (hp:xA cs h) (i:Nat) (hi:i<h.length) (v1 v7 v58 v59 v60:MV) (x19 x22:Option (Nat × List MV)) (tm:Nat→MV) (m:Mem)
  (e1:tm 1=v1) (e7:tm 7=v7) (e10:tm 10 = .ref 233057 0 4 0 cs.length) (e13:tm 13 = .dat (.sl (((dm cs i).map fun c=>aj (cC cs (h.getD i 0) c)).map ae))) (e58:tm 58=v58) (e59:tm 59=v59) (e60:tm 60=v60) (e79:tm 79=plM (plc cs i)) (e80:tm 80 = .dat (.int .i64 (plc cs i).length)) (e81:tm 81 = .dat (.int .i64 0)) (m19:m 233019=x19) (m22:m 233022=x22) (m57:m 233057=some (0,ko oN (fL cs.length fun j=>pyQ cs h i 0 j)))
  (hK:∀ tm' m',tm' 1=v1→tm' 7=v7→tm' 10 = .ref 233057 0 4 0 cs.length→tm' 58=v58→tm' 59=v59→tm' 60=v60→m' 233019=x19→m' 233022=x22→m' 233057=some (0,ko oN (fL cs.length fun j=>pyQ cs h (i+1) 0 j))→kont T K kk (.exit 4) ⟨tm',m'⟩) :
  wp T (mf_clear_payments.body.sub [1,1,1,1,1,0,1,0,0,1,1,0,0,1,1,1,1,0]) (kont T K kk) ⟨tm,m⟩:=by
 simp only[mf_clear_payments,MCode.sub];have h12:=hp.len;have hpl:=O1 cs i;refine af [1,7,10,13,58,59,60,79,80] [233019,233022] (fun (k:Nat) tm m=>k≤(plc cs i).length∧tm 81 = .dat (.int .i64 k)∧m 233057=some (0,ko oN (fL cs.length fun j=>pyQ cs h i k j))) (fun k=>(plc cs i).length-k) 0 (by refine⟨by omega,e81,m57⟩) ?_;intro vs ms hvs hms;simp only[go_sem,go_sem_proc,agV,e1,e7,e10,e13,e58,e59,e60,e79,e80,m19,m22] at hvs hms;subst hvs hms;clear e1 e7 e10 e13 e58 e59 e60 e79 e80 e81 m19 m22 m57 tm m;rintro k tm m hk hm ⟨hkl,e81,m57⟩;simp only[go_sem,go_sem_proc,agV,List.cons.injEq] at hk hm;obtain⟨e1,e7,e10,e13,e58,e59,e60,e79,e80⟩:=hk;obtain⟨m19,m22⟩:=hm;rcases agW (k<(plc cs i).length) with hlt | hge
 ·have d1:decide ((k:Int)<((plc cs i).length:Int))=true:=decide_eq_true (by omega)
  have w3:IntKind.i64.wrap ((k:Int)+1)=((k+1:Nat):Int):=by rw[al _ (by omega) (by omega)];omega
  obtain⟨y,hy⟩:∃ y,(plc cs i)[k]?=some y:=⟨_,agT hlt⟩;obtain⟨hyl,hyi⟩:=plc_mem.1 (agS hy);have hia:=Mr hy;simp only[go_sem,go_sem_proc,agV,agX] at hia
  have hog:((dm cs i).map fun c=>aj (cC cs (h.getD i 0) c))[k]?=some (pyE cs h y):=by
   rw[E5,agP,agP,hy];unfold pyE;rw[hyi,agY];rfl
  have hlen4:=DA (q:=fun j=>pyQ cs h i k j) hyl;have hset:=fun a b c d=>DP (q:=fun j=>pyQ cs h i k j) hyl a b c d
  have hnx:∀ F:aM,F=pyE cs h y→(fL cs.length fun j=>if j=y then some F else pyQ cs h i k j)=fL cs.length fun j=>pyQ cs h i (k+1) j:=fun F hF=>bY fun j _=>by
   have htk:(plc cs i).take (k+1)=(plc cs i).take k++[y]:=by rw[agZ,hy];rfl
   by_cases hj:j=y
   ·subst hj
    rw[if_pos rfl];unfold pyQ;rw[htk,if_pos (.inr ⟨hyi,by simp⟩),hF]
   ·rw[if_neg hj]
    unfold pyQ;rw[htk]
    by_cases h1:(cs.getD j zC).1<(i:Int)∨((cs.getD j zC).1=(i:Int)∧j∈(plc cs i).take k)
    ·rw[if_pos h1,if_pos (h1.imp id fun x=>⟨x.1,by simp [x.2]⟩)]
    ·rw[if_neg h1,if_neg fun hh=>h1 (hh.imp id fun x=>⟨x.1,by simpa [hj] using x.2⟩)]
  have hn:=hnx _ rfl;clear hK;generalize ((dm cs i).map fun c=>aj (cC cs (h.getD i 0) c))=PD at *;generalize pyE cs h y=F at *;obtain⟨⟨a1,a2⟩,⟨a3,a4⟩⟩:=F;have hst:=hset a1 a2 a3 a4;rw[hn] at hst;simp only[go_sem,go_sem_proc,agV,e1,e7,e10,e13,e58,e59,e60,e79,e80,e81,m19,m22,m57,d1,w3,hia,hog,hlen4,hst,hyl,gJ,ae,agX,ag0,agP]
  repeat' (first|refine qS ?_ ?_|fail)<;>intro h<;>simp only[h,go_sem,go_sem_proc,agV,e1,e7,e10,e13,e58,e59,e60,e79,e80,e81,m19,m22,m57,d1,w3,hia,hog,hlen4,hst,hyl,gJ,ae,agX,ag0,agP]
  exact⟨k+1,by omega,by omega,rfl,rfl⟩
 ·have d1:decide ((k:Int)<((plc cs i).length:Int))=false:=decide_eq_false (by omega)
  obtain rfl:k=(plc cs i).length:=by omega
  rw[LY] at m57;simp only[go_sem,go_sem_proc,agV,e1,e7,e10,e13,e58,e59,e60,e79,e80,e81,d1]
  repeat' (first|refine qS ?_ ?_|fail)<;>intro h<;>simp only[h,go_sem,go_sem_proc,agV,e1,e7,e10,e13,e58,e59,e60,e79,e80,e81,d1]
  refine hK _ _ ?_ ?_ ?_ ?_ ?_ ?_ m19 m22 m57<;>simp only[aW,ag1,if_false,e1,e7,e10,e58,e59,e60]
theorem nrow (n:Nat):(List.replicate n [MV.nil]).flatten=fL n fun _ => .nil:=by
 induction n with
 | zero=>rfl
 | succ n ih=>rw[List.replicate_succ',List.flatten_append,ih,DU];rfl
theorem Jo {a b:List Rat} (h:(a.map aj).map ae=(b.map aj).map ae):a=b:=ah (fun _ _ h=>AE h) _ _ (ah dJ _ _ h)
noncomputable def rg:List Data→Option PRes:=FF (α:=(List ClR) × (List Rat)) (fun (cs,h)=>([.sl (cs.map clL),.sl ((h.map aj).map ae)]:List Data)) (fun (cs,h)=>aI (xA cs h) (.same (.tup [.sl ((cs.map fun c=>aj (cC cs (h.getD c.1.toNat 0) c)).map ae),.bool true])))
theorem zL:∀ a b:(List ClR) × (List Rat),(fun (cs,h)=>([.sl (cs.map clL),.sl ((h.map aj).map ae)]:List Data)) a=(fun (cs,h)=>([.sl (cs.map clL),.sl ((h.map aj).map ae)]:List Data)) b→a=b:=by
  rintro⟨cs1,h1⟩ ⟨cs2,h2⟩ h;simp only[List.cons.injEq,Data.sl.injEq,and_true] at h;exact ag2 (ah f7 _ _ h.1) (Jo h.2)
@[go_sem] theorem tU (cs:List ClR) (h:List Rat) (hc:xA cs h):rg [.sl (cs.map clL),.sl ((h.map aj).map ae)]=some (.same (.tup [.sl ((cs.map fun c=>aj (cC cs (h.getD c.1.toNat 0) c)).map ae),.bool true])):=(aZ zL (cs,h)).trans (ap hc _)
theorem MW (T:Tab) (fP:T lK=mkE tB) (cs:List ClR) (h:List Rat) (hc:xA cs h) :
  wp T mf_clear_payments.body (bG mf_clear_payments.res (.same (.tup [.sl ((cs.map fun c=>aj (cC cs (h.getD c.1.toNat 0) c)).map ae),.bool true]))) ⟨az [.dat (.sl (cs.map clL)),.dat (.sl ((h.map aj).map ae))],emp⟩:=by
 refine aq ?_;simp only[mf_clear_payments];have hn:=hc.n;have h12:=hc.len;have hmk1:(24*h.length≤140737488355328)=True:=eq_true (by omega);have hmk2:(h.length≤maxLen)=True:=eq_true (by unfold maxLen;omega);have hmk3:(64*cs.length≤140737488355328)=True:=eq_true (by omega);have hmk4:(cs.length≤maxLen)=True:=eq_true (by unfold maxLen;omega);have hz:=nrow h.length;have hz2:=vW cs.length;rw[←Jw cs h hc] at hz2;simp only[go_sem,go_sem_proc,agV,fP,hmk1,hmk2,hz,ag0];refine Qo T cs h hc (.dat (.sl ((h.map aj).map ae))) _ _ ?_ ?_ ?_ ?_ ?_ ?_ ?_ ?_ (fun _=>0) (fun _=>0) ⟨?_,?_,fun i hi hne=>absurd rfl hne,fun i hi hne=>absurd rfl hne⟩ ?_
 all_goals first | (intro tm m gc gp k0 k1 k6 k7 m57 hat) | (simp only[aW,ag1,if_false,if_true];done) | (simp only[aW,ag1,if_false,if_true];rfl) | (simp only[aB,ag1,if_false,if_true];rfl) | skip
 obtain⟨m1,h1,h2,h3⟩:=sL (fun i=>233600+i) (fun i=>clM (dm cs i)) (fun i hi=>by omega) (fun i j _ _ he=>by omega) h.length 0 (pc cs gc) m (by omega) hat.r1 (fun i hi=>by omega) fun i _ hi=>by
  by_cases hce:dm cs i=[]
  ·refine .inl ?_
   unfold pc clM;rw[if_pos hce,if_pos hce]
  ·refine .inr ⟨gc i,4,(dm cs i).length,ay clL (dm cs i),.sl ((dm cs i).map clL),?_,hat.k1 i hi hce,fun m2 hm2=>eS (n:=0) jz hm2,?_⟩
   ·unfold pc;rw[if_neg hce]
   ·unfold clM;rw[if_neg hce]
 have h22:m1 233022=some (0,fL h.length (pp cs gp)):=(h3 233022 (by decide) fun i hi=>by omega).trans hat.r2;have h57:m1 233057=none:=(h3 233057 (by decide) fun i hi=>by omega).trans m57
 obtain⟨m2,g1,g2,g3⟩:=sL (fun i=>233700+i) (fun i=>plM (plc cs i)) (fun i hi=>by omega) (fun i j _ _ he=>by omega) h.length 0 (pp cs gp) m1 (by omega) h22 (fun i hi=>by omega) fun i _ hi=>by
  by_cases hce:dm cs i=[]
  ·refine .inl ?_
   have hpe:plc cs i=[]:=List.length_eq_zero_iff.1 (by rw[sJ,hce];rfl);unfold pp plM;rw[if_pos hce,if_pos hpe]
  ·have hpe:plc cs i≠[]:=fun hh=>hce (List.length_eq_zero_iff.1 (by rw[←sJ,hh];rfl))
   refine .inr ⟨gp i,1,(dm cs i).length,ay gJ (plc cs i),.sl ((plc cs i).map gJ),?_,?_,fun m2 hm2=>by rw[←sJ];exact eS (n:=0) ib hm2,?_⟩
   ·unfold pp;rw[if_neg hce]
   ·exact (h3 (233700+i) (by omega) fun j hj=>by omega).trans (hat.k2 i hi hce)
   ·unfold plM;rw[if_neg hpe]
 have q19:m2 233019=some (0,fL h.length fun i=>clM (dm cs i)):=(g3 233019 (by decide) fun i hi=>by omega).trans h2;have q57:m2 233057=none:=(g3 233057 (by decide) fun i hi=>by omega).trans h57;simp only[go_sem,go_sem_proc,agV,fP];refine AA (h1.trans g1) ?_;clear h1 h2 h3 g1 g3 h22 h57 hat m57;simp only[go_sem,go_sem_proc,agV,fP,k0,k1,k6,k7,hmk3,hmk4,hz2,q57,ag0];refine af [1,7,10,58,59] [233019,233022] (fun (i:Nat) tm m=>i≤h.length∧tm 60 = .dat (.int .i64 i)∧m 233057=some (0,ko oN (fL cs.length fun j=>pyQ cs h i 0 j))) (fun i=>h.length-i) 0 (by refine⟨by omega,rfl,by simp [aB]⟩) ?_;intro vs ms hvs hms;simp only[go_sem,go_sem_proc,agV,fP,k1,k7,q19,g2,ag0] at hvs hms;subst hvs hms;clear k0 k1 k6 k7 q19 q57 g2 tm m m1 m2;rintro i tm m hk hm ⟨hi,e60,m57⟩;simp only[go_sem,go_sem_proc,agV,fP,List.cons.injEq] at hk hm;obtain⟨e1,e7,e10,e58,e59⟩:=hk;obtain⟨m19,m22⟩:=hm;rcases agW (i<h.length) with hlt | hge
 ·have d1:decide ((i:Int)<(h.length:Int))=true:=decide_eq_true (by omega)
  have w3:IntKind.i64.wrap ((i:Int)+1)=((i+1:Nat):Int):=by rw[al _ (by omega) (by omega)];omega
  obtain⟨x,hx⟩:∃ x,h[i]?=some x:=⟨_,agT hlt⟩;have hxd:h.getD i 0=x:=by rw[agU,hx];rfl
  have hx0:=hc.x x (agS hx)
  have hown:OwnOK (dm cs i):=⟨ag3 (ag4 _ _) h12,fun c hcm=>by
   have h1:=hc.c c (own_mem.1 hcm).1;omega,fun c hcm c' hcm'=>by rw[(own_mem.1 hcm).2,(own_mem.1 hcm').2]⟩
  have hF:=zZ x (dm cs i) ⟨hown,hx0.1,hx0.2⟩;rw[Fg,←hxd] at hF;rw[←hxd] at hx;have r1:=nn (cQ (fun i=>clM (dm cs i)) hlt);have r2:=nn (cQ (fun i=>plM (plc cs i)) hlt);have n1:(fL h.length fun i=>clM (dm cs i)).length=h.length:=bT _ _;have n2:(fL h.length fun i=>plM (plc cs i)).length=h.length:=bT _ _;have l1:i+1≤h.length:=by omega
  have htd:=KW (dm cs i) 6;have hpln:=Lb (plc cs i);simp only[go_sem,go_sem_proc,agV,fP] at hpln;generalize hX:aj (h.getD i 0)=X at *;obtain⟨⟨a1,a2⟩,⟨a3,a4⟩⟩:=X;simp only[ae] at hF;simp only[go_sem,go_sem_proc,agV,fP,fP,e1,e7,e10,e58,e59,e60,m19,m22,m57,d1,r1,r2,n1,n2,l1,hlt,hx,hX,htd,hF,hpln,ae,agX,ag0,agP,bne,beq_self_eq_true,ag5];refine Rb T cs h hc i hlt (.dat (.sl ((h.map aj).map ae))) (.ref 233022 0 1 0 h.length) (.ref 233019 0 1 0 h.length) (.dat (.int .i64 h.length)) (.dat (.int .i64 i)) _ _ _ _ ?_ ?_ ?_ ?_ ?_ ?_ ?_ ?_ ?_ ?_ m19 m22 m57 ?_
  all_goals first | (intro tm' m' k1 k7 k10 k58 k59 k60 q19 q22 q57) | (simp only[aW,ag1,if_false,if_true,e1,e7,e10,e58,e59,e60];done)
  simp only[go_sem,go_sem_proc,agV,fP,k1,k7,k10,k58,k59,k60,q19,q22,q57,w3]
  repeat' (first|refine qS ?_ ?_|fail)<;>intro h<;>simp only[h,go_sem,go_sem_proc,agV,fP,k1,k7,k10,k58,k59,k60,q19,q22,q57,w3]
  exact⟨i+1,by omega,by omega,rfl,rfl⟩
 ·have d1:decide ((i:Int)<(h.length:Int))=false:=decide_eq_false (by omega)
  obtain rfl:i=h.length:=by omega
  rw[NJ cs h hc,An] at m57;have hfz:=fun (K:St→Prop) (st:St)=>cu (K:=K) (st:=st) cr 10 233057 0 (cs.map fun c=>aj (cC cs (h.getD c.1.toNat 0) c))
  rw[ag0] at hfz;simp only[go_sem,go_sem_proc,agV,fP,e1,e7,e10,e58,e59,e60,d1,m57,hfz,ag0]
  repeat' (first|refine qS ?_ ?_|fail)<;>intro h<;>simp only[h,go_sem,go_sem_proc,agV,fP,e1,e7,e10,e58,e59,e60,d1,m57,hfz,ag0]
end Go.Mini
namespace Go.Mini
open Classical
noncomputable def oX (cs:List ClR) (x:Nat→Rat) (i:Nat) (acc:Option Rat) (c:ClR):Option Rat :=
 if c.2.1=(i:Int) then acc.bind fun s=>if ia s (cC cs (x c.1.toNat) c)=true then some (s+cC cs (x c.1.toNat) c) else none else acc
noncomputable def pe (cash:List Int) (cs:List ClR) (x:Nat→Rat) (i:Nat) (l:List ClR):Option Rat:=l.foldl (oX cs x i) (some ((cash.getD i 0:Int):Rat))
theorem zP (cash:List Int) (cs:List ClR) (x:Nat→Rat) (i:Nat):pe cash cs x i []=some ((cash.getD i 0:Int):Rat):=rfl
theorem lX (cash:List Int) (cs:List ClR) (x:Nat→Rat) (i:Nat) (l:List ClR) (c:ClR):pe cash cs x i (l++[c])=oX cs x i (pe cash cs x i l) c:=by
 unfold pe;rw[ag6];rfl
theorem DO (cs:List ClR) (x:Nat→Rat) (i:Nat) (l:List ClR):l.foldl (oX cs x i) none=none:=by
 induction l with
 | nil=>rfl
 | cons c l ih =>
  have:oX cs x i none c=none:=by unfold oX;split<;>rfl
  rw[List.foldl_cons,this,ih]
theorem GA {cash:List Int} {cs:List ClR} {x:Nat→Rat} {i:Nat} {l:List ClR} (h:pe cash cs x i l=none) (m:List ClR):pe cash cs x i (l++m)=none:=by
 unfold pe at *;rw[ag6,h,DO]
noncomputable def rj (cash:List Int) (cs:List ClR) (x:Nat→Rat) (i:Nat) (l:List ClR):Rat:=((cash.getD i 0:Int):Rat)+sumC (l.map bz) fun c=>if c.to=(i:Int) then (ab cash cs).pay x c else 0
theorem J0 {cash:List Int} {cs:List ClR} (h:dh cash cs=true) (x:Nat→Rat) (i:Nat) (l:List ClR) {c:ClR} (hc:c∈cs):rj cash cs x i (l++[c])=rj cash cs x i l+if c.2.1=(i:Int) then cC cs (x c.1.toNat) c else 0:=by
 unfold rj;rw[ag7,kZ,←Nf h x hc]
 show _+(_+((if (bz c).to=(i:Int) then (ab cash cs).pay x (bz c) else 0)+0))=_;have e:(bz c).to=c.2.1:=rfl;rw[e,ag8];grind
def ti (cash:List Int) (cs:List ClR) (x:Nat→Rat):Prop:=∀ i,i<cash.length→pe cash cs x i cs=some (x i)
section
variable {cash:List Int} {cs:List ClR} (hs:SmallD cash cs)
include hs
theorem Lc:0<ii cash.length (sE cash cs)∧ii cash.length (sE cash cs)≤2^145:=by
 refine⟨rt fun k hk=>zD hs hk,ag3 (ub fun k _=>Em hs k) (Nat.pow_le_pow_right (by omega) ?_)⟩
 have:=hs.n5;omega
theorem Db:∃ M:Nat,0<M∧(∃ a,a≤547∧M≤2^a)∧(∀ i,i<cash.length→DenBy M ((ab cash cs).gr i))∧∀ c∈cs,DenBy M ((ab cash cs).pay (ab cash cs).gr (bz c)):=by
 obtain⟨M,h1,⟨a,h2,h3⟩,h4⟩:=IL hs;obtain⟨p1,p2⟩:=Lc hs;refine⟨M*ii cash.length (sE cash cs),Nat.mul_pos h1 p1,⟨a+145,by omega,by rw[Nat.pow_add];exact Nat.mul_le_mul h3 p2⟩,fun i hi=>(h4 i hi).more _,fun c hc=>?_⟩
 have h5:=Eq hs h4 hc;have hk:(bz c).fr<cash.length:=hs.ok.fr _ (ag9 hc);refine h5.of_dvd ?_;obtain⟨m,hm⟩:=rO (D:=sE cash cs) hk;exact⟨m,by rw[hm,Nat.mul_assoc]⟩
theorem Lw {i:Nat} (hi:i<cash.length) {l l':List ClR} (hl:cs=l++l'):szR 598 (rj cash cs (ab cash cs).gr i l):=by
 obtain⟨M,h1,⟨a,h2,h3⟩,-,h4⟩:=Db hs
 have hpn:∀ m:List ClR,(∀ c∈m,c∈cs)→0≤sumC (m.map bz) fun c=>if c.to=(i:Int) then (ab cash cs).pay (ab cash cs).gr c else 0:=fun m hm=>dZ fun y hy=>by
  obtain⟨c,hc,rfl⟩:=List.mem_map.1 hy
  try dsimp only
  split
  ·exact hs.ok.pay_nonneg _ (ag9 (hm c hc))
  ·exact Rat.le_refl
 have hm1:∀ c∈l,c∈cs:=fun c hc=>by rw[hl];simp [hc]
 have hm2:∀ c∈l',c∈cs:=fun c hc=>by rw[hl];simp [hc]
 have hc0:(0:Rat)≤((cash.getD i 0:Int):Rat):=by have:=(hs.cash i).1;exact_mod_cast this
 have hd:DenBy M (rj cash cs (ab cash cs).gr i l):=by
  unfold rj;refine (DenBy.int _ _).add (DenBy.sumC fun y hy=>?_);obtain⟨c,hc,rfl⟩:=List.mem_map.1 hy
  split
  ·exact h4 c (hm1 c hc)
  ·exact DenBy.zero _
 have h0:0≤rj cash cs (ab cash cs).gr i l:=by
  have:=hpn l hm1;unfold rj;grind
 have hle:rj cash cs (ab cash cs).gr i l≤(ab cash cs).gr i:=by
  rw[(nI hs.ok).1 i hi]
  have e:(ab cash cs).phi (ab cash cs).gr i=rj cash cs (ab cash cs).gr i l+sumC (l'.map bz) fun c=>if c.to=(i:Int) then (ab cash cs).pay (ab cash cs).gr c else 0:=by
   have e2:(ab cash cs).phi (ab cash cs).gr i=((cash.getD i 0:Int):Rat)+sumC (cs.map bz) fun c=>if c.to=(i:Int) then (ab cash cs).pay (ab cash cs).gr c else 0:=rfl
   rw[e2];unfold rj;have e3:sumC (cs.map bz) (fun c=>if c.to=(i:Int) then (ab cash cs).pay (ab cash cs).gr c else 0)=sumC ((l++l').map bz) fun c=>if c.to=(i:Int) then (ab cash cs).pay (ab cash cs).gr c else 0:=by rw[←hl]
   rw[e3,ag7,kZ];grind
  have:=hpn l' hm2;grind
 exact (hd.sz h1 h3 h0 (e:=51) (Rat.le_trans hle (Qb hs hi))).mono (by omega)
theorem MF:ti cash cs (ab cash cs).gr:=fun i hi=>by
 have key:∀ n (l l':List ClR),l.length=n→cs=l++l'→pe cash cs (ab cash cs).gr i l=some (rj cash cs (ab cash cs).gr i l):=by
  intro n
  induction n with
  | zero =>
   intro l l' hl _;have:l=[]:=List.length_eq_zero_iff.1 hl;subst this;rw[zP];unfold rj;rw[aha,sumC,ag8]
  | succ n ih =>
   intro l l' hl hcs;rcases ahb l with h0 | ⟨m,c,rfl⟩
   ·subst h0;cases hl
   ·rw[ahc] at *
    simp only[ahd,ahe] at hl;have hc:c∈cs:=by rw[hcs];simp
    have hcm:cs=m++([c]++l'):=by rw[hcs,List.append_assoc]
    rw[lX,J0 hs.right _ i m hc,ih m _ (by omega) hcm];unfold oX
    by_cases hto:c.2.1=(i:Int)
    ·rw[if_pos hto,if_pos hto,ahf,if_pos]
     refine jO (Lw hs hi hcm) (b:=482) ?_ (by omega);rw[←Nf hs.right _ hc];exact LG hs hc
    ·rw[if_neg hto,if_neg hto,ag8]
 have h1:=key _ cs [] rfl (by simp);rw[h1,(nI hs.ok).1 i hi]
 rfl
end
end Go.Mini
namespace Go.Mini
open Go
set_option maxRecDepth 10000
set_option maxHeartbeats 4000000
theorem EB (x:Rat):x*(x.den:Rat)=(x.num:Rat):=by
 have h:(Rat.divInt x.num x.den)=x:=Rat.num_divInt_den x;rw[Rat.divInt_eq_div] at h;have h0:((x.den:Int):Rat)≠0:=by have:=x.den_nz;exact_mod_cast this
 have h2:(x.num:Rat) / ((x.den:Int):Rat)*((x.den:Int):Rat)=(x.num:Rat):=Rat.div_mul_cancel h0;rw[h,ahg] at h2;exact h2
theorem Gp {x y:Rat} (h:ia x y=true):cm (x+y):=by
 unfold ia at h;simp only[ahh] at h;obtain⟨-,-,h3,h4⟩:=h
 have hd:((x.den:Int)*y.den)≠0:=by
  have h1:=x.den_nz;have h2:=y.den_nz;exact Int.mul_ne_zero (by omega) (by omega)
 have e:(x+y)*(((x.den:Int)*y.den:Int):Rat)=((x.num*y.den+y.num*x.den:Int):Rat):=by
  have e1:x*(x.den:Rat)=(x.num:Rat):=EB x;have e2:y*(y.den:Rat)=(y.num:Rat):=EB y;rw[Rat.intCast_add,ahi,ahi,ahi,ahg,ahg,←e1,←e2];grind
 obtain⟨f1,f2⟩:=fI hd e;have:=g5 h3;have:=g5 h4;exact⟨by omega,by omega⟩
theorem Jj {x y:Rat} (hx:cm x) (hy:cm y):lP [.agg (ae (aj x)),.agg (ae (aj y))]=some (.same (.tup [.agg (ae (qz (ia x y) (x+y)).1),.int .i64 (qz (ia x y) (x+y)).2])):=by
 have h1:=eC hx;have h2:=eC hy;have:=vF (aj x).1.1 (aj x).1.2 (aj x).2.1 (aj x).2.2 (aj y).1.1 (aj y).1.2 (aj y).2.1 (aj y).2.2 ⟨h1.1,h1.2,h2.1,h2.2⟩;exact this.trans (by show some (PRes.same (bB (sG (aj x) (aj y))))=_;rw[tF hx hy];rfl)
noncomputable def yJ:List Data→Option PRes:=FF (α:=Int × (List Int) × Int × (List Int) × Int × (List Int) × Int × (List Int)) (fun (s,l,s2,l2,s3,l3,s4,l4)=>([.agg [.int .i64 s,.sl (l.map aa),.int .i64 s2,.sl (l2.map aa)],.agg [.int .i64 s3,.sl (l3.map aa),.int .i64 s4,.sl (l4.map aa)]]:List Data)) (fun (s,l,s2,l2,s3,l3,s4,l4)=>aI (l.length≤1000000∧l2.length≤1000000∧l3.length≤1000000∧l4.length≤1000000) (.same (.bool (lc ((s,l),(s2,l2)) ((s3,l3),(s4,l4))==0))))
theorem Ar:∀ a b:Int × (List Int) × Int × (List Int) × Int × (List Int) × Int × (List Int),(fun (s,l,s2,l2,s3,l3,s4,l4)=>([.agg [.int .i64 s,.sl (l.map aa),.int .i64 s2,.sl (l2.map aa)],.agg [.int .i64 s3,.sl (l3.map aa),.int .i64 s4,.sl (l4.map aa)]]:List Data)) a=(fun (s,l,s2,l2,s3,l3,s4,l4)=>([.agg [.int .i64 s,.sl (l.map aa),.int .i64 s2,.sl (l2.map aa)],.agg [.int .i64 s3,.sl (l3.map aa),.int .i64 s4,.sl (l4.map aa)]]:List Data)) b→a=b:=by
  rintro⟨s1,l1,s21,l21,s31,l31,s41,l41⟩ ⟨s2,l2,s22,l22,s32,l32,s42,l42⟩ h;simp only[List.cons.injEq,Data.agg.injEq,Data.int.injEq,Data.sl.injEq,and_true,true_and] at h;obtain⟨⟨h1,h2,h3,h4⟩,⟨h5,h6,h7,h8⟩⟩:=h;rw[h1,ah ak _ _ h2,h3,ah ak _ _ h4,h5,ah ak _ _ h6,h7,ah ak _ _ h8]
@[go_sem] theorem OQ (s:Int) (l:List Int) (s2:Int) (l2:List Int) (s3:Int) (l3:List Int) (s4:Int) (l4:List Int) (hc:l.length≤1000000∧l2.length≤1000000∧l3.length≤1000000∧l4.length≤1000000):yJ [.agg [.int .i64 s,.sl (l.map aa),.int .i64 s2,.sl (l2.map aa)],.agg [.int .i64 s3,.sl (l3.map aa),.int .i64 s4,.sl (l4.map aa)]]=some (.same (.bool (lc ((s,l),(s2,l2)) ((s3,l3),(s4,l4))==0))):=(aZ Ar (s,l,s2,l2,s3,l3,s4,l4)).trans (ap hc _)
theorem ML (T:Tab) (au:T aV=mkE cV) (s:Int) (l:List Int) (s2:Int) (l2:List Int) (s3:Int) (l3:List Int) (s4:Int) (l4:List Int) (hc:l.length≤1000000∧l2.length≤1000000∧l3.length≤1000000∧l4.length≤1000000) :
  wp T mf_clear_Fits_2.body (bG mf_clear_Fits_2.res (.same (.bool (lc ((s,l),(s2,l2)) ((s3,l3),(s4,l4))==0)))) ⟨az [.dat (.agg [.int .i64 s,.sl (l.map aa),.int .i64 s2,.sl (l2.map aa)]),.dat (.agg [.int .i64 s3,.sl (l3.map aa),.int .i64 s4,.sl (l4.map aa)])],emp⟩:=by
 refine aq ?_;simp only[mf_clear_Fits_2];obtain⟨o1,o2,o3,o4⟩:=hc;refine qI ?_
 repeat' (intro h<;>simp only[h,go_sem,go_sem_proc,agV,au,o1,o2,o3,o4]<;>try refine qS ?_ ?_)
def jT:List aM→List aM→Bool
 | [],[]=>true
 | a::l,b::m=>(lc a b==0)&&jT l m
 | _,_=>false
theorem A5:∀ (a b:List aM),a.length≠b.length→jT a b=false
 | [],[],h=>absurd rfl h
 | [],_::_,_=>rfl
 | _::_,[],_=>rfl
 | a::l,b::m,h=>by
  unfold jT;rw[A5 l m (by simpa using h),ahj]
theorem GM {a b:List aM} {i:Nat} {x y:aM} (ha:a[i]?=some x) (hb:b[i]?=some y) (h:jT (a.take i) (b.take i)=true) (hc:(lc x y==0)=false):jT a b=false:=by
 induction i generalizing a b with
 | zero =>
  cases a with
  | nil=>cases ha
  | cons a l =>
   cases b with
   | nil=>cases hb
   | cons b m =>
    simp only[ahk,Option.some.injEq] at ha hb;subst ha hb;rw[jT,hc,ahl]
 | succ i ih =>
  cases a with
  | nil=>cases ha
  | cons a l =>
   cases b with
   | nil=>cases hb
   | cons b m =>
    simp only[ahm] at ha hb;rw[ahn,ahn,jT,ahh] at h;rw[jT,ih ha hb h.2,ahj]
theorem Fx {a b:List aM} {i:Nat} {x y:aM} (ha:a[i]?=some x) (hb:b[i]?=some y) (h:jT (a.take i) (b.take i)=true) (hc:(lc x y==0)=true):jT (a.take (i+1)) (b.take (i+1))=true:=by
 induction i generalizing a b with
 | zero =>
  cases a with
  | nil=>cases ha
  | cons a l =>
   cases b with
   | nil=>cases hb
   | cons b m =>
    simp only[ahk,Option.some.injEq] at ha hb;subst ha hb;simp [jT,hc]
 | succ i ih =>
  cases a with
  | nil=>cases ha
  | cons a l =>
   cases b with
   | nil=>cases hb
   | cons b m =>
    simp only[ahm] at ha hb;rw[ahn,ahn,jT,ahh] at h;rw[ahn,ahn,jT,h.1,ih ha hb h.2];rfl
noncomputable def tJ:List Data→Option PRes:=FF (α:=(List aM) × (List aM)) (fun (a,b)=>([.sl (a.map ae),.sl (b.map ae),.fn dt []]:List Data)) (fun (a,b)=>aI (okL a∧okL b) (.same (.bool (jT a b))))
theorem yi:∀ a b:(List aM) × (List aM),(fun (a,b)=>([.sl (a.map ae),.sl (b.map ae),.fn dt []]:List Data)) a=(fun (a,b)=>([.sl (a.map ae),.sl (b.map ae),.fn dt []]:List Data)) b→a=b:=by
  rintro⟨a1,b1⟩ ⟨a2,b2⟩ h;simp only[List.cons.injEq,Data.sl.injEq,and_true] at h;exact ag2 (ah dJ _ _ h.1) (ah dJ _ _ h.2)
@[go_sem] theorem zb (a:List aM) (b:List aM) (hc:okL a∧okL b):tJ [.sl (a.map ae),.sl (b.map ae),.fn dt []]=some (.same (.bool (jT a b))):=(aZ yi (a,b)).trans (ap hc _)
theorem Im (T:Tab) (ne:T dt=mkE yJ) (a:List aM) (b:List aM) (hc:okL a∧okL b) :
  wp T mf_slices_EqualFunc_Frac.body (bG mf_slices_EqualFunc_Frac.res (.same (.bool (jT a b)))) ⟨az [.dat (.sl (a.map ae)),.dat (.sl (b.map ae)),.dat (.fn dt [])],emp⟩:=by
 refine aq ?_;simp only[mf_slices_EqualFunc_Frac];obtain⟨⟨ha,hao⟩,⟨hb,hbo⟩⟩:=hc;rcases hl:((a.length:Int)==(b.length:Int))
 ·rw[A5 a b (by have:=ne_of_beq_false hl;omega)]
  refine qI ?_
  repeat' (intro h<;>simp only[h,go_sem,go_sem_proc,agV,ne,hl,ag0,bne,aho]<;>try refine qS ?_ ?_)
 ·have hle:a.length=b.length:=by have:=eq_of_beq hl;omega
  simp only[go_sem,go_sem_proc,agV,ne,hl,ag0,bne,ag5];refine af [1,2,15,16] [] (fun (i:Nat) tm mem=>i≤a.length∧jT (a.take i) (b.take i)=true∧tm 17 = .dat (.int .i64 i)) (fun i=>a.length-i) 0 (by refine⟨ahp _,by simp [jT],rfl⟩) ?_;intro vs ms hvs hms;simp only[go_sem,go_sem_proc,agV,ne,ag0] at hvs hms;subst hvs hms;rintro i tm mem hk hm ⟨hi,hall,e17⟩;simp only[go_sem,go_sem_proc,agV,ne,List.cons.injEq] at hk hm;obtain⟨e1,e2,e15,e16⟩:=hk;rcases agW (i<a.length) with hlt | hge
  ·have d1:decide ((i:Int)<(a.length:Int))=true:=decide_eq_true (by omega)
   have w3:IntKind.i64.wrap ((i:Int)+1)=((i+1:Nat):Int):=by rw[al _ (by omega) (by omega)];omega
   obtain⟨x,hx⟩:∃ x,a[i]?=some x:=⟨_,agT hlt⟩;obtain⟨y,hy⟩:∃ x,b[i]?=some x:=⟨_,agT (by omega)⟩;obtain⟨o1,o2⟩:=hao x (agS hx);obtain⟨o3,o4⟩:=hbo y (agS hy);have hst:=fun hc=>GM hx hy hall hc
   have htk:=fun hc=>Fx hx hy hall hc
   obtain⟨⟨a1,a2⟩,⟨a3,a4⟩⟩:=x;obtain⟨⟨b1,b2⟩,⟨b3,b4⟩⟩:=y;dsimp only at o1 o2 o3 o4;rcases q:(lc ((a1,a2),(a3,a4)) ((b1,b2),(b3,b4))==0)
   ·rw[hst q]
    refine qI ?_
    repeat' (intro h<;>simp only[h,go_sem,go_sem_proc,agV,ne,e1,e2,e15,e16,e17,hx,hy,d1,w3,o1,o2,o3,o4,q,ae,ag0,agP,aho]<;>try refine qS ?_ ?_)
   ·refine qI ?_
    repeat' (intro h<;>simp only[h,go_sem,go_sem_proc,agV,ne,e1,e2,e15,e16,e17,hx,hy,d1,w3,o1,o2,o3,o4,q,ae,ag0,agP,ag5]<;>try refine qS ?_ ?_)
    exact⟨i+1,by omega,by omega,htk q,rfl⟩
  ·have d1:decide ((i:Int)<(a.length:Int))=false:=decide_eq_false (by omega)
   rw[ahq (by omega),ahq (by omega)] at hall;rw[hall];refine qI ?_
   repeat' (intro h<;>simp only[h,go_sem,go_sem_proc,agV,ne,e1,e2,e15,e16,e17,d1,ag0]<;>try refine qS ?_ ?_)
theorem L4 {α:Type} (p:α→Bool) (l:List α) (k:Nat) (hk:k<l.length) (h:∀ j (hj:j<k),p (l[j]'(by omega))=false) (h2:p l[k]=true):lW p l=k :=
 ll (fun x hx=>by
  obtain⟨j,hj⟩:=List.mem_iff_getElem?.1 hx;rw[List.getElem?_take] at hj
  by_cases hjk:j<k
  ·rw[if_pos hjk,agT (by omega),Option.some.injEq] at hj
   rw[←hj];exact h j hjk
  ·rw[if_neg hjk] at hj;cases hj) (agT hk) h2
theorem nB {d:Day} {h:Nat→Rat} {i:Nat}:∀ k,k≤10→d.fallRank h i k<10→(∀ j,10-k≤j→j<d.fallRank h i k→d.U i (j+1)≤h i)∧h i<d.U i (d.fallRank h i k+1)∧10-k≤d.fallRank h i k
 | 0,_,h1=>by rw[Day.fallRank] at h1;omega
 | k+1,hk,h1=>by
  rw[Day.fallRank] at h1 ⊢
  by_cases hc:h i<d.U i (10-(k+1)+1)
  ·rw[if_pos hc] at h1 ⊢
   exact⟨fun j h2 h3=>by omega,hc,ahr _⟩
  ·rw[if_neg hc] at h1 ⊢
   obtain⟨k1,k2,k3⟩:=nB k (by omega) h1;refine⟨fun j h2 h3=>?_,k2,by omega⟩
   by_cases hj:j=10-(k+1)
   ·rw[hj];grind
   ·exact k1 j (by omega) h3
theorem ME {cash:List Int} {cs:List ClR} (hs:SmallD cash cs) (h:Nat→Rat) (n i:Nat) (hi:i<n) (hlim:cm (h i)) (hf:(ab cash cs).fallRank h i 10<10):lW (pdI (.solve (bJ n h) i)) (fL 10 fun k=>aP cs i (k+1:Nat))=((ab cash cs).fallRank h i 10:Int):=by
 obtain⟨h1,h2,h3⟩:=nB 10 (ahr _) hf;have hU:=fun k:Nat=>hs.upto i k
 have hp:∀ k:Nat,pdI (.solve (bJ n h) i) (aP cs i (k+1:Nat))=decide (h i<(ab cash cs).U i (k+1)):=fun k=>by
  have hd:(bJ n h).getD i cb=aj (h i):=by rw[agU,dS h hi];rfl
  have iU:cn (aP cs i (k+1:Nat)):=dT (by have:=hU (k+1);omega) (by have:=hU (k+1);omega);simp only[pdI];rw[hd,qb hlim (fM iU),lU,d7 hs.right]
 refine L4 _ _ _ (by rw[bT];exact hf) (fun j hj=>?_) ?_
 ·have e:=cQ (fun k=>aP cs i (k+1:Nat)) (show j<10 by omega)
  rw[agT (by rw[bT];omega),Option.some.injEq] at e;rw[e,hp];exact decide_eq_false (by have:=h1 j (by omega) hj;grind)
 ·have e:=cQ (fun k=>aP cs i (k+1:Nat)) hf
  rw[agT (by rw[bT];omega),Option.some.injEq] at e;rw[e,hp];exact decide_eq_true h2
def DebA.wf (a:DebA) (f:Nat→Nat):DebA:={ a with fl:=fL a.cash.length fun i=>(f i:Int) }
theorem DebA.wf_deb (a:DebA) (f:Nat→Nat) {i:Nat} (hi:i<a.cash.length):(a.wf f).deb i=(a.deb i).sf (f i):=by
 have:(fL a.cash.length fun i=>(f i:Int)).getD i 10=(f i:Int):=kj _ _ hi;unfold DebA.deb DebA.wf DebR.sf;dsimp only;rw[this]
theorem DebA.At.setf {a:DebA} {m:Mem} {f:Nat→Nat} (h:(a.wf f).At m) {i:Nat} (hi:i<a.cash.length) (r:Nat):(a.wf fun j=>if j=i then r else f j).At (aB m (228500+i) (a.gs.getD i 0) (dH ((a.deb i).sf r))):=by
 refine⟨h.can,bT _ _,h.pl,h.gl,?_,fun j hj=>?_⟩
 ·have:=h.row
  simp only[aB];rw[if_neg (show ¬ ((228023:Nat)=228500+i) by omega)];exact this
 ·rw[DebA.wf_deb a _ hj]
  simp only[aB]
  by_cases hji:j=i
  ·subst hji
   rw[if_pos rfl,if_pos rfl]
   rfl
  ·rw[if_neg (show ¬ ((228500+j:Nat)=228500+i) by omega),if_neg hji]
   have:=h.blk j hj;rw[DebA.wf_deb a _ hj] at this;exact this
theorem DebA.wf_congr (a:DebA) {p q:Nat→Nat} (h:∀ i,i<a.cash.length→p i=q i):a.wf p=a.wf q:=by
 unfold DebA.wf;rw[bY fun i hi=>by rw[h i hi]]
theorem Nx {n i:Nat} (f:Nat→Nat) (h:i<n):fOf (fL n fun i=>(f i:Int)) i=f i:=by
 unfold fOf;rw[kj _ _ h,agY]
theorem Gj {x:DebR} (h:x.OK) {k g:Nat} {m:Mem} (hm:m k=some (g,dH x)) (n:Nat):toD (n+1) m (.ref k g 1 12 10)=some (.sl (x.us.tail.map aa)):=by
 have e:cut (dH x) 12 10=some (x.us.tail.map iC):=by
  unfold cut;rw[if_pos (by rw[jL h];omega)]
  congr 1
  obtain⟨c,cl,us,f,p⟩:=x;obtain⟨h1,h2⟩:=h;dsimp only at h1 h2
  cases us with
  | nil=>cases h2
  | cons u us =>
   have hl:us.length=10:=by simpa using h2
   unfold dH;dsimp only;rw[ahs,List.drop_append,List.drop_eq_nil_of_le (by rw[ag0];omega),ag0,h1,List.nil_append,aht];rw[show 11-10=1 from rfl,List.cons_append,ahs,ahu,List.take_append_of_le_length (by rw[ag0];omega),ahq (by rw[ag0];omega)]
   rfl
 have e2:∀ l:List Int,(l.map iC).mapM (toD n m)=some (l.map fun z=>Data.int .i64 z):=by
  intro l
  induction l with
  | nil=>rfl
  | cons a l ih =>
   rw[aht,ahv,ih];rw[show toD n m (iC a)=some (.int .i64 a) from sN n _]
   rfl
 have e3:∀ l:List Int,chunk 1 l.length (l.map fun z=>Data.int .i64 z)=l.map aa:=by
  intro l
  induction l with
  | nil=>rfl
  | cons a l ih=>simp only[ahw,aht,chunk,ahn,agR,ahs,ahu,ih];rfl
 have hl:x.us.tail.length=10:=by rw[List.length_tail,h.us]
 unfold toD;rw[hm];dsimp only;rw[if_pos rfl,agX,e];dsimp only;rw[e2];have:=e3 x.us.tail;rw[hl] at this;rw[agQ,this]
theorem DebA.At.up {a:DebA} {m:Mem} (h:a.At m) (hn:a.cash.length≤5) {k g:Nat} {cs:List MV} (hk:k / 1000≠228):a.At (aB m k g cs) :=
 ⟨h.can,h.fl,h.pl,h.gl,by rw[aH (by omega)];exact h.row,fun i hi=>by rw[aH (by omega)];exact h.blk i hi⟩
theorem Mf {α:Type} (n:Nat) (q:Nat→α):(fL (n+1) q).tail=fL n fun k=>q (k+1):=by
 unfold fL;rw[List.range_succ_eq_map,aht,List.tail_cons,ahx]
 rfl
theorem EE {m:Mem} {k g:Nat} {d:Data} (hm:m k=some (g,[.dat d])) (n:Nat):toD (n+1) m (.ptr k g 0)=some (.ptr [d]):=by
 unfold toD;rw[hm];dsimp only;rw[if_pos ⟨rfl,ahp _⟩,ahu,ahv,sN]
 rfl
theorem kS (n k g sz o l:Nat):toD (n+1) emp (.ref k g sz o l)=none:=by
 unfold toD;rfl
noncomputable def fiR (d:Day) (f:Nat→Nat) (h:Nat→Rat) (i j:Nat):Nat:=if j<i then d.fallen f h j else f j
theorem Rx (T:Tab) (aF:T bf=mkE fk) (au:T aV=mkE cV) (eD:T bX=mkE od) {K:bP→St→Prop} {kk:List Todo} (a:DebA) (hs:SmallD a.cash a.cs) (f:Nat→Nat) (hf:∀ i,i<a.cash.length→f i≤10) (h:Nat→Rat) (hlim:∀ i,i<a.cash.length→cm (h i)) (h0:∀ i,i<a.cash.length→0≤h i) (m0:Mem) (v1 v4 v7:MV) (G8 g10:Nat) (tm:Nat→MV) (m:Mem)
  (e1:tm 1=v1) (e4:tm 4=v4) (e6:tm 6 = .ref 228023 a.g 1 0 a.cash.length) (e7:tm 7=v7) (e8:tm 8 = .ptr 217008 G8 0) (e10:tm 10 = .ref 217057 g10 1 0 0) (e31:tm 31 = .ref 228023 a.g 1 0 a.cash.length) (e32:tm 32 = .dat (.int .i64 a.cash.length)) (e33:tm 33 = .dat (.int .i64 0))
  (hat:(a.wf f).At m) (m8:m0 217008=some (G8,[.dat (.sl ((bJ a.cash.length h).map ae))])) (m57:m 217057=some (g10,[])) (hfr:∀ k,k / 1000≠228→k≠217011→k≠217057→m k=m0 k)
  (hK:∀ tm' m' g',tm' 1=v1→tm' 4=v4→tm' 6 = .ref 228023 a.g 1 0 a.cash.length→tm' 7=v7→tm' 8 = .ptr 217008 G8 0→tm' 10 = .ref 217057 g' 1 0 (gU (ab a.cash a.cs) f h a.cash.length).length→m' 217057=some (g',ay gJ (gU (ab a.cash a.cs) f h a.cash.length))→(a.wf ((ab a.cash a.cs).fallen f h)).At m'→(∀ k,k / 1000≠228→k≠217011→k≠217057→m' k=m0 k)→kont T K kk (.exit 2) ⟨tm',m'⟩) :
  wp T (mf_clear_Solve.body.sub [1,1,1,1,0,0,0,0,1,1,1,0,1,0,0]) (kont T K kk) ⟨tm,m⟩:=by
 simp only[mf_clear_Solve,MCode.sub];have hn:=hs.n5;have hd:=hs.ok
 refine af [1,4,6,7,8,31,32] [] (fun ((i,g):Nat × Nat) tm m=>i≤a.cash.length∧tm 33 = .dat (.int .i64 i)∧tm 10 = .ref 217057 g 1 0 (gU (ab a.cash a.cs) f h i).length∧m 217057=some (g,ay gJ (gU (ab a.cash a.cs) f h i))∧(a.wf (fiR (ab a.cash a.cs) f h i)).At m∧∀ k,k / 1000≠228→k≠217011→k≠217057→m k=m0 k) (fun (i,_)=>a.cash.length-i) (0,g10) (by
  refine⟨by omega,e33,e10,m57,?_,hfr⟩
  rw[a.wf_congr (q:=f) fun j _=>by unfold fiR;rw[if_neg (by omega)]]
  exact hat) ?_
 intro vs ms hvs hms;simp only[go_sem,go_sem_proc,agV,e1,e4,e6,e7,e8,e31,e32] at hvs hms;subst hvs hms;clear e1 e4 e6 e7 e8 e10 e31 e32 e33 hat m57 hfr tm m;rintro⟨i,g⟩ tm m hk-⟨hi,e33,e10,m57,hat,hfr⟩;simp only[go_sem,go_sem_proc,agV,List.cons.injEq] at hk;obtain⟨e1,e4,e6,e7,e8,e31,e32⟩:=hk;rcases agW (i<a.cash.length) with hlt | hge
 ·have d1:decide ((i:Int)<(a.cash.length:Int))=true:=decide_eq_true (by omega)
  have w3:IntKind.i64.wrap ((i:Int)+1)=((i+1:Nat):Int):=by rw[al _ (by omega) (by omega)];omega
  have hf10:=hf i hlt;have hfi:fiR (ab a.cash a.cs) f h i i=f i:=by unfold fiR;rw[if_neg (by omega)]
  have hrow:m 228023=some (a.g,fL a.cash.length fun i => .ptr (228500+i) (a.gs.getD i 0) 0):=hat.row;have hblk:m (228500+i)=some (a.gs.getD i 0,_):=hat.blk i hlt;rw[DebA.wf_deb a _ hlt,hfi] at hblk;have q8:=(hfr 217008 (by decide) (by decide) (by decide)).trans m8;have hri:=nn (cQ (fun i=>MV.ptr (228500+i) (a.gs.getD i 0) 0) hlt);have hrl:(fL a.cash.length fun i=>MV.ptr (228500+i) (a.gs.getD i 0) 0).length=a.cash.length:=bT _ _;have hok:((a.deb i).sf (f i)).OK:=⟨(a.deb_ok i).cl,(a.deb_ok i).us⟩;have hlen:=jL hok;have qf:List.take 1 (List.drop 22 (dH ((a.deb i).sf (f i))))=[iC (f i:Int)]:=z5 hok;have qu:=sX hok (k:=f i) (z:=aP a.cs i (f i:Nat)) (cQ _ (by omega));have qs:_=dH ((a.deb i).sf ((ab a.cash a.cs).fallRank h i 10)):=KF hok ((ab a.cash a.cs).fallRank h i 10:Nat);have l1:i+1≤a.cash.length:=by omega
  have l2:f i<11:=by omega
  have l3:(11+f i+1≤24)=True:=eq_true (by omega);have hU:=hs.upto i (f i);have iU:cn (aP a.cs i (f i:Nat)):=dT (by omega) (by omega);have hw:=eN _ iU;have hcmp:=eT (hlim i hlt) (fM iU);have hcast:=d7 hs.right i (f i);have hge':decide (jp (h i) ((aP a.cs i (f i:Nat):Int):Rat)≥0)=decide (((aP a.cs i (f i:Nat):Int):Rat)≤h i):=sd;have hfs:=xv (ab a.cash a.cs) f h i;rw[←hcast] at hfs;have hvg:=dS h hlt;have hfl5:=zG (ab a.cash a.cs) f h i;have hap:=dw ib wy 217057 g 8 (gU (ab a.cash a.cs) f h i) i (cs:=[.dat (.int .i64 i)]) rfl (by omega) (by omega);have hslice:=fun (m2:Mem) (hm2:m2 (228500+i)=some (a.gs.getD i 0,dH ((a.deb i).sf (f i)))) n=>Gj hok hm2 n
  have hus:((a.deb i).sf (f i)).us.tail=fL 10 fun k=>aP a.cs i (k+1:Nat):=Mf 10 _
  simp only[hus] at hslice
  have hnf:¬ h i<((aP a.cs i (f i:Nat):Int):Rat)→a.wf (fiR (ab a.cash a.cs) f h (i+1))=a.wf (fiR (ab a.cash a.cs) f h i):=fun hh=>a.wf_congr fun j _=>by
   unfold fiR
   by_cases hj:j=i
   ·subst hj
    rw[if_pos (by omega),if_neg (by omega)];unfold Day.fallen;rw[if_neg (by rw[←hcast];exact fun x=>hh x.2)]
   ·by_cases hj2:j<i
    ·rw[if_pos hj2,if_pos (by omega)]
    ·rw[if_neg hj2,if_neg (by omega)]
  have hyf:h i<((aP a.cs i (f i:Nat):Int):Rat)→a.wf (fiR (ab a.cash a.cs) f h (i+1))=a.wf (fun j=>if j=i then (ab a.cash a.cs).fallRank h i 10 else fiR (ab a.cash a.cs) f h i j):=fun hh=>a.wf_congr fun j _=>by
   unfold fiR
   by_cases hj:j=i
   ·subst hj
    rw[if_pos (by omega),if_pos rfl];unfold Day.fallen;rw[if_pos ⟨hlt,by rw[←hcast];exact hh⟩]
   ·rw[if_neg hj]
    by_cases hj2:j<i
    ·rw[if_pos hj2,if_pos (by omega)]
    ·rw[if_neg hj2,if_neg (by omega)]
  have hset:=fun (M:Mem) (hM:(a.wf (fiR (ab a.cash a.cs) f h i)).At M)=>hM.setf hlt ((ab a.cash a.cs).fallRank h i 10)
  have hfk:h i<((aP a.cs i (f i:Nat):Int):Rat)→(ab a.cash a.cs).fallRank h i 10<10:=fun hh=>by
   rw[hcast] at hh;have:=hd.U_mono i hf10;rcases lI hd (h:=h) (i:=i) 10 (ahr _) (by rw[Nat.sub_self,Day.U_zero];exact h0 i hlt) with ⟨-,e⟩ | ⟨-,e,-⟩
   ·grind
   ·exact e
  have hixr:=fun hh=>ME hs h a.cash.length i hlt (hlim i hlt) (hfk hh)
  have hix:=Dm (fL 10 fun k=>aP a.cs i (k+1:Nat)) (.solve (bJ a.cash.length h) i) ⟨by rw[bT];omega,by rw[cI];exact hlt,sU (by omega) hlim,fun x hx=>by
   obtain⟨k,-,rfl⟩:=List.mem_map.1 hx;have:=hs.upto i (k+1:Nat);exact dT (by omega) (by omega)⟩
  simp only[nh] at hix;generalize hSL:(fL 10 fun k=>aP a.cs i (k+1:Nat))=SL at *;generalize hRW:(fL a.cash.length fun i=>MV.ptr (228500+i) (a.gs.getD i 0) 0)=RW at *;have hKd2:(228500+i) / 1000=228:=by omega
  generalize hKd:228500+i=KK at *;generalize hDD:dH ((a.deb i).sf (f i))=DC at *;have n11:(KK=217011)=False:=eq_false (by omega);have n57:(KK=217057)=False:=eq_false (by omega);have n57':(217057=KK)=False:=eq_false (by omega);have hH1:aj (h i)=aj (h i):=rfl;generalize hH:aj (h i)=H at *;generalize hX:aj ((aP a.cs i (f i:Nat):Int):Rat)=X at *;obtain⟨⟨b1,b2⟩,⟨b3,b4⟩⟩:=X;obtain⟨⟨a1,a2⟩,⟨a3,a4⟩⟩:=H;simp only[ae] at hw hcmp;rcases q1:decide (((aP a.cs i (f i:Nat):Int):Rat)≤h i)
  ·have hh:h i<((aP a.cs i (f i:Nat):Int):Rat):=by have:=of_decide_eq_false q1;grind
   rw[if_pos hh] at hfs;rw[←hfs] at hap;rw[hixr hh] at hix;simp only[←hyf hh] at hset;have hl1:(gU (ab a.cash a.cs) f h (i+1)).length=(gU (ab a.cash a.cs) f h i).length+1:=by rw[hfs,ahd];rfl
   have hb8:∀ m2:Mem,m2 217008=some (G8,[.dat (.sl ((bJ a.cash.length h).map ae))])→toD 5 m2 (.ptr 217008 G8 0)=some (.ptr [.sl ((bJ a.cash.length h).map ae)]):=fun m2 hm2=>EE hm2 4
   have hb11:∀ (m2:Mem) (g:Nat),m2 217011=some (g,[.dat (.int .i64 i)])→toD 5 m2 (.ptr 217011 g 0)=some (.ptr [.int .i64 i]):=fun m2 g hm2=>EE hm2 4
   have hempr:=kS 5 KK (a.gs.getD i 0) 1 12 10;simp only[go_sem,go_sem_proc,agV,aF,au,eD,e1,e4,e6,e7,e8,e10,e31,e32,e33,hrow,hblk,q8,m57,hri,hrl,hlen,qf,qu,qs,l1,l2,l3,hlt,hw,hcmp,hge',q1,hvg,hap,hslice,hix,hb8,hb11,hempr,n11,n57,n57',d1,w3,ae,iC,agX,ag0,agP,ahy,scalar,qF,ahz,ahA]
   repeat' (first|refine qS ?_ ?_|fail)<;>intro h<;>simp only[h,go_sem,go_sem_proc,agV,aF,au,eD,e1,e4,e6,e7,e8,e10,e31,e32,e33,hrow,hblk,q8,m57,hri,hrl,hlen,qf,qu,qs,l1,l2,l3,hlt,hw,hcmp,hge',q1,hvg,hap,hslice,hix,hb8,hb11,hempr,n11,n57,n57',d1,w3,ae,iC,agX,ag0,agP,ahy,scalar,qF,ahz,ahA]
   refine⟨(i+1,g+1),by dsimp only;omega,by dsimp only;omega,rfl,by rw[hl1],rfl,hset _ (((hat.up hn (by decide)).up hn (by decide)).up hn (by decide)),fun k h1 h2 h3=>?_⟩
   rw[if_neg (show ¬ k=KK by intro hk;rw[hk] at h1;exact h1 hKd2),if_neg h3,if_neg h2,if_neg h2];exact hfr k h1 h2 h3
  ·have hh:¬ h i<((aP a.cs i (f i:Nat):Int):Rat):=by have:=of_decide_eq_true q1;grind
   rw[if_neg hh] at hfs;simp only[go_sem,go_sem_proc,agV,aF,au,e1,e4,e6,e7,e8,e10,e31,e32,e33,hrow,hblk,q8,hri,hrl,hlen,qf,qu,l1,l2,l3,hlt,hw,hcmp,hge',q1,hvg,n11,d1,w3,ae,iC,agX,ag0,agP]
   repeat' (first|refine qS ?_ ?_|fail)<;>intro h<;>simp only[h,go_sem,go_sem_proc,agV,aF,au,e1,e4,e6,e7,e8,e10,e31,e32,e33,hrow,hblk,q8,hri,hrl,hlen,qf,qu,l1,l2,l3,hlt,hw,hcmp,hge',q1,hvg,n11,d1,w3,ae,iC,agX,ag0,agP]
   refine⟨(i+1,g),by dsimp only;omega,by dsimp only;omega,rfl,by rw[hfs],by rw[hfs];exact m57,?_,fun k h1 h2 h3=>?_⟩
   ·rw[hnf hh]
    exact (hat.up hn (by decide)).up hn (by decide)
   ·rw[if_neg h2,if_neg h2]
    exact hfr k h1 h2 h3
 ·have d1:decide ((i:Int)<(a.cash.length:Int))=false:=decide_eq_false (by omega)
  obtain rfl:i=a.cash.length:=by omega
  rw[a.wf_congr (q:=(ab a.cash a.cs).fallen f h) fun j hj=>by unfold fiR;rw[if_pos hj]] at hat
  simp only[go_sem,go_sem_proc,agV,e1,e4,e6,e7,e8,e10,e31,e32,e33,d1]
  repeat' (first|refine qS ?_ ?_|fail)<;>intro h<;>simp only[h,go_sem,go_sem_proc,agV,e1,e4,e6,e7,e8,e10,e31,e32,e33,d1]
  refine hK _ _ g ?_ ?_ ?_ ?_ ?_ ?_ m57 hat hfr<;>simp only[aW,ag1,if_false,e1,e4,e6,e7,e8,e10]
noncomputable def sI (hv:List aM):List Rat:=hv.map pC
structure EU (cash:List Int) (cs:List ClR) (hv:List aM):Prop where
 n:cash.length≤1000000
 c:cs.length≤1000000
 o:okL hv
 sm:dh cash cs=true→SmallD cash cs
 sz:dh cash cs=true→hv.length=cash.length→hv.any (pdF bp)=false→∀ f∈hv,szR 460 (pC f)
open Classical in
noncomputable def Hb (cash:List Int) (cs:List ClR) (x:Nat→Rat):Bool:=decide (ti cash cs x)
open Classical in
theorem A7 {cash:List Int} {cs:List ClR} {x:Nat→Rat}:Hb cash cs x=true↔ti cash cs x:=by
 unfold Hb;exact decide_eq_true_iff
open Classical in
theorem Lq {cash:List Int} {cs:List ClR} {x:Nat→Rat} (h:¬ ti cash cs x):Hb cash cs x=false:=by
 unfold Hb;exact decide_eq_false h
noncomputable def wL (cash:List Int) (cs:List ClR) (hv:List aM):Bool:=dh cash cs&&(decide (hv.length=cash.length)&&(!hv.any (pdF bp)&&Hb cash cs fun i=>(sI hv).getD i 0))
theorem L5 {hv:List aM} (h:hv.any (pdF bp)=false):hv=(sI hv).map aj∧∀ x∈sI hv,0≤x∧cm x:=by
 rw[ahB] at h
 have h1:∀ f∈hv,f=aj (pC f)∧cm (pC f)∧0≤pC f:=fun f hf=>by
  have h2:=h f hf;rw[qg] at h2;simp only[Bool.or_eq_true,ahC,decide_eq_true_eq,not_or] at h2;obtain⟨h3,h4⟩:=h2;have h5:=o9 (f:=f) (by simpa using h3);refine⟨h5.1,h5.2,?_⟩;rw[h5.1] at h4;have:¬ (pC f).num.sign<0:=h4;have h6:decide ((pC f).num.sign<0)=decide (pC f<0):=uj;have h7:decide ((pC f).num.sign<0)=false:=decide_eq_false this;rw[h6] at h7;have:=of_decide_eq_false h7;grind
 refine⟨?_,fun x hx=>?_⟩
 ·unfold sI
  rw[ahx];refine (ahD hv).symm.trans (ahE fun f hf=>?_);exact (h1 f hf).1
 ·obtain⟨f,hf,rfl⟩:=List.mem_map.1 hx
  exact⟨(h1 f hf).2.2,(h1 f hf).2.1⟩
theorem Bv:∀ (a b:List Rat),(∀ x∈a,cm x)→(∀ x∈b,cm x)→(jT (a.map aj) (b.map aj)=true↔a=b)
 | [],[],_,_=>by simp [jT]
 | [],_::_,_,_=>by simp [jT]
 | _::_,[],_,_=>by simp [jT]
 | x::a,y::b,ha,hb=>by
  have ih:=Bv a b (fun z hz=>ha z (ahF _ hz)) fun z hz=>hb z (ahF _ hz)
  rw[aht,aht,jT,ahh,ih,List.cons.injEq,qb (ha x ahG) (hb y ahG)]
  have:(jp x y==0)=true↔x=y:=by
   have h1:=Bi (x:=x) (y:=y);have h2:=lU (x:=x) (y:=y);rw[beq_iff_eq]
   constructor
   ·intro h
    rw[h] at h1 h2;have e1:¬ y<x:=of_decide_eq_false (h1.symm.trans rfl);have e2:¬ x<y:=of_decide_eq_false (h2.symm.trans rfl);grind
   ·intro h
    have e1:¬ y<x:=by grind
    have e2:¬ x<y:=by grind
    rw[decide_eq_false e1] at h1;rw[decide_eq_false e2] at h2;have:=of_decide_eq_false h1;have:=of_decide_eq_false h2;omega
  rw[this]
structure SumAt (cash:List Int) (cs:List ClR) (x:Nat→Rat) (l:List ClR) (s:Nat→Rat):Prop where
 a:∀ i,i<cash.length→pe cash cs x i l=some (s i)
 l:∀ i,i<cash.length→cm (s i)
theorem SumAt.skip {cash:List Int} {cs:List ClR} {x:Nat→Rat} {l:List ClR} {s:Nat→Rat} (h:SumAt cash cs x l s) {c:ClR} (hc:c.2.1<0):SumAt cash cs x (l++[c]) s:=by
 refine⟨fun i hi=>?_,h.l⟩
 rw[lX,h.a i hi];unfold oX;rw[if_neg (by omega)]
theorem SumAt.add {cash:List Int} {cs:List ClR} {x:Nat→Rat} {l:List ClR} {s:Nat→Rat} (h:SumAt cash cs x l s) {c:ClR} {t:Nat} (hc:c.2.1=(t:Int)) (hk:ia (s t) (cC cs (x c.1.toNat) c)=true):SumAt cash cs x (l++[c]) fun i=>if i=t then s t+cC cs (x c.1.toNat) c else s i:=by
 refine⟨fun i hi=>?_,fun i hi=>?_⟩
 ·rw[lX,h.a i hi]
  unfold oX
  by_cases hit:i=t
  ·subst hit
   rw[if_pos hc,ahf,if_pos hk,if_pos rfl]
  ·rw[if_neg (by omega),if_neg hit]
 ·by_cases hit:i=t
  ·rw[if_pos hit];exact Gp hk
  ·rw[if_neg hit];exact h.l i hi
theorem Ko {cash:List Int} {cs:List ClR} {x:Nat→Rat} {l m:List ClR} {s:Nat→Rat} (h:SumAt cash cs x l s) {c:ClR} {t:Nat} (ht:t<cash.length) (hc:c.2.1=(t:Int)) (hk:ia (s t) (cC cs (x c.1.toNat) c)=false) (hl:cs=(l++[c])++m):¬ ti cash cs x:=fun hf=>by
 have h1:=hf t ht
 have h2:pe cash cs x t (l++[c])=none:=by
  rw[lX,h.a t ht];unfold oX;rw[if_pos hc,ahf,hk];rfl
 have h3:=GA h2 m;rw[←hl,h1] at h3
 cases h3
theorem MA {cs:List ClR} (hok:∀ c∈cs,0≤c.2.2.2∧c.2.2.2≤33554432) (h12:cs.length≤12) {x:Rat} (hx:szR 460 x) {c:ClR} (hc:c∈cs):cm (cC cs x c):=by
 have hb:∀ (p:ClR→Prop) [DecidablePred p],0≤bt cs (fun c=>if p c then c.2.2.2 else 0)∧bt cs (fun c=>if p c then c.2.2.2 else 0)≤536870912:=fun p _=>by
  have:=sQ (cs:=cs) (F:=fun c=>if p c then c.2.2.2 else 0) (B:=33554432) (by omega) fun c hc=>by
   have h1:=hok c hc
   try dsimp only
   split<;>omega
  omega
 have hU:=hb fun c'=>c'.1=c.1∧c'.2.2.1<c.2.2.1
 have hS:=hb fun c'=>c'.1=c.1∧c'.2.2.1=c.2.2.1
 rw[←IO] at hS;have ha:=hok c hc;have zA:szR 29 ((c.2.2.2:Int):Rat):=lE (by omega);have zS:szR 29 ((SI cs c.1 c.2.2.1:Int):Rat):=lE (by omega);have zU:szR 29 ((aP cs c.1 c.2.2.1:Int):Rat):=lE (by unfold aP;omega);unfold cC
 split
 ·exact du zA (by omega)
 ·have zp:szR 490 (pos (x-((aP cs c.1 c.2.2.1:Int):Rat))):=by
   unfold pos
   split
   ·exact (show szR 1 0 from⟨by decide,by decide⟩).mono (by omega)
   ·rw[Rat.sub_eq_add_neg];exact (DR hx (oK zU)).mono (by omega)
  by_cases h0:((SI cs c.1 c.2.2.1:Int):Rat)=0
  ·rw[h0,Rat.div_def,Rat.inv_zero,Rat.mul_zero,Rat.zero_mul]
   exact du (show szR 1 0 from⟨by decide,by decide⟩) (by omega)
  ·exact du (y6 (N0 zA zS h0) zp) (by omega)
noncomputable def sM:List Data→Option PRes:=FF (α:=(List Int) × (List ClR) × (List aM)) (fun (cash,cs,hv)=>([.sl (cash.map aa),.sl (cs.map clL),.sl (hv.map ae)]:List Data)) (fun (cash,cs,hv)=>aI (EU cash cs hv) (.same (.bool (wL cash cs hv))))
theorem Bw:∀ a b:(List Int) × (List ClR) × (List aM),(fun (cash,cs,hv)=>([.sl (cash.map aa),.sl (cs.map clL),.sl (hv.map ae)]:List Data)) a=(fun (cash,cs,hv)=>([.sl (cash.map aa),.sl (cs.map clL),.sl (hv.map ae)]:List Data)) b→a=b:=by
  rintro⟨cash1,cs1,hv1⟩ ⟨cash2,cs2,hv2⟩ h;simp only[List.cons.injEq,Data.sl.injEq,and_true] at h;exact ag2 (ah ak _ _ h.1) (ag2 (ah f7 _ _ h.2.1) (ah dJ _ _ h.2.2))
@[go_sem] theorem Dx (cash:List Int) (cs:List ClR) (hv:List aM) (hc:EU cash cs hv):sM [.sl (cash.map aa),.sl (cs.map clL),.sl (hv.map ae)]=some (.same (.bool (wL cash cs hv))):=(aZ Bw (cash,cs,hv)).trans (ap hc _)
theorem Md (T:Tab) (bE:T gm=mkE pP) (bM:T cy=mkE oF) (bW:T eQ=mkE rg) (aF:T bf=mkE fk) (bI:T dp=mkE lP) (cJ:T fa=mkE tJ) (cash:List Int) (cs:List ClR) (hv:List aM) (hc:EU cash cs hv) :
  wp T mf_clear_Fits.body (bG mf_clear_Fits.res (.same (.bool (wL cash cs hv)))) ⟨az [.dat (.sl (cash.map aa)),.dat (.sl (cs.map clL)),.dat (.sl (hv.map ae))],emp⟩:=by
 refine aq ?_;simp only[mf_clear_Fits];obtain⟨hn0,hc0,ho,hsm,hsz⟩:=hc;have hany:=yp hv bp ⟨ho,.inr rfl⟩;unfold wL;rcases hr:dh cash cs
 ·rw[ahl]
  simp only[go_sem,go_sem_proc,agV,bE,bM,bW,aF,bI,cJ,hn0,hc0,hr,aho]
  repeat' (first|refine qS ?_ ?_|fail)<;>intro h<;>simp only[h,go_sem,go_sem_proc,agV,bE,bM,bW,aF,bI,cJ,hn0,hc0,hr,aho]
 ·rw[ahH]
  rcases hl:((hv.length:Int)==(cash.length:Int))
  ·rw[decide_eq_false (show ¬ hv.length=cash.length by have:=ne_of_beq_false hl;omega),ahl]
   simp only[go_sem,go_sem_proc,agV,bE,bM,bW,aF,bI,cJ,hn0,hc0,hr,hl,ag0,bne,aho,ag5]
   repeat' (first|refine qS ?_ ?_|fail)<;>intro h<;>simp only[h,go_sem,go_sem_proc,agV,bE,bM,bW,aF,bI,cJ,hn0,hc0,hr,hl,ag0,bne,aho,ag5]
  ·have hle:hv.length=cash.length:=by have:=eq_of_beq hl;omega
   rw[decide_eq_true hle,ahH];rcases ha:hv.any (pdF bp)
   ·rw[ha] at hany
    rw[aho,ahH];have hs:=hsm hr;have hn:=hs.n5;have h12:=hs.c12;obtain⟨hve,hvx⟩:=L5 ha;have hvz:=hsz hr hle ha;have hvl:(sI hv).length=cash.length:=by unfold sI;rw[ag0];exact hle
    have hrr:=(rightD_iff.1 hr).2.2.2
    have hpo:xA cs (sI hv):=⟨h12,by rw[hvl];exact hn,fun c hc=>by
     have h1:=hrr c hc;have h2:=hs.am c hc;rw[hvl];omega,fun x hx=>⟨(hvx x hx).1,by
     obtain⟨f,hf,rfl⟩:=List.mem_map.1 hx;exact hvz f hf⟩⟩
    have hpy:=tU cs (sI hv) hpo;rw[←hve] at hpy
    have hplim:∀ c∈cs,cm (cC cs ((sI hv).getD c.1.toNat 0) c):=fun c hc=>by
     have h1:=hrr c hc;refine MA (fun c hc=>⟨(hrr c hc).2.2.2.2.2.2.1,hs.am c hc⟩) h12 ?_ hc;refine (hpo.x _ ?_).2;rw[agU,agT (by rw[hvl];omega)];exact List.getElem_mem _
    generalize hXX:sI hv=X at *;simp only[go_sem,go_sem_proc,agV,bE,bM,bW,aF,bI,cJ,hn0,hc0,hr,hl,hany,hpy,ag0,bne,aho,ag5];refine af [1,2,8,41,42] [] (fun ((i,g):Nat × Nat) tm m=>i≤cash.length∧tm 43 = .dat (.int .i64 i)∧tm 10 = .ref 218051 g 4 0 i∧m 218051=some (g,ay ae (bJ i fun j=>((cash.getD j 0:Int):Rat)))) (fun (i,_)=>cash.length-i) (0,0) (by refine⟨by omega,rfl,rfl,rfl⟩) ?_
    intro vs ms hvs hms;simp only[go_sem,go_sem_proc,agV,bE,bM,bW,aF,bI,cJ,ag0] at hvs hms;subst hvs hms;rintro⟨i,g⟩ tm m hk-⟨hi,e43,e10,m51⟩;simp only[go_sem,go_sem_proc,agV,bE,bM,bW,aF,bI,cJ,List.cons.injEq] at hk;obtain⟨e1,e2,e8,e41,e42⟩:=hk;rcases agW (i<cash.length) with hlt | hge
    ·have d1:decide ((i:Int)<(cash.length:Int))=true:=decide_eq_true (by omega)
     have w3:IntKind.i64.wrap ((i:Int)+1)=((i+1:Nat):Int):=by rw[al _ (by omega) (by omega)];omega
     obtain⟨y,hy⟩:∃ y,cash[i]?=some y:=⟨_,agT hlt⟩;have hyd:cash.getD i 0=y:=by rw[agU,hy];rfl
     have hyr:=(rightD_iff.1 hr).2.2.1 y (agS hy);have hw:=eN y (dT (by omega) (by omega));have hvs:=rR i fun j=>((cash.getD j 0:Int):Rat)
     rw[hyd] at hvs;have hrl:(bJ i fun j=>((cash.getD j 0:Int):Rat)).length=i:=cI _ _;have hap:=fun (F:aM) cs hcs=>dw cr kv 218051 g 64 (bJ i fun j=>((cash.getD j 0:Int):Rat)) F (cs:=cs) hcs (by omega) (by omega)
     simp only[hrl] at hap;generalize aj ((y:Int):Rat)=F at *;obtain⟨⟨a1,a2⟩,⟨a3,a4⟩⟩:=F;have hap':=hap ((a1,a2),(a3,a4)) _ rfl;rw[←hvs] at hap';simp only[ae,aht,aha] at hap' hw;simp only[go_sem,go_sem_proc,agV,bE,bM,bW,aF,bI,cJ,e1,e2,e8,e10,e41,e42,e43,m51,hy,d1,w3,hw,hap',aa,ag0,agP]
     repeat' (first|refine qS ?_ ?_|fail)<;>intro h<;>simp only[h,go_sem,go_sem_proc,agV,bE,bM,bW,aF,bI,cJ,e1,e2,e8,e10,e41,e42,e43,m51,hy,d1,w3,hw,hap',aa,ag0,agP]
     exact⟨(i+1,g+1),by dsimp only;omega,by dsimp only;omega,rfl,rfl,rfl⟩
    ·have d1:decide ((i:Int)<(cash.length:Int))=false:=decide_eq_false (by omega)
     obtain rfl:i=cash.length:=by omega
     simp only[go_sem,go_sem_proc,agV,bE,bM,bW,aF,bI,cJ,e1,e2,e8,e10,e41,e42,e43,d1,ag0]
     refine af [2,8,10,53,54] [] (fun ((t,s):Nat × (Nat→Rat)) tm m=>t≤cs.length∧tm 55 = .dat (.int .i64 t)∧m 218051=some (g,ay ae (bJ cash.length s))∧SumAt cash cs (fun i=>X.getD i 0) (cs.take t) s) (fun (t,_)=>cs.length-t) (0,fun j=>((cash.getD j 0:Int):Rat)) (by
      refine⟨by omega,rfl,m51,⟨fun i hi=>by rw[agR,zP],fun i hi=>fM (dT (by have:=hs.cash i;omega) (by have:=hs.cash i;omega))⟩⟩) ?_
     intro vs ms hvs hms;simp only[go_sem,go_sem_proc,agV,bE,bM,bW,aF,bI,cJ,e2,e8,e10,ag0] at hvs hms;subst hvs hms;clear e1 e2 e8 e10 e41 e42 e43 m51 hany hpy tm m;rintro⟨t,s⟩ tm m hk-⟨ht,e55,m51,hsa⟩;simp only[go_sem,go_sem_proc,agV,bE,bM,bW,aF,bI,cJ,List.cons.injEq] at hk;obtain⟨e2,e8,e10,e53,e54⟩:=hk;rcases agW (t<cs.length) with hlt | hge2
     ·have d1:decide ((t:Int)<(cs.length:Int))=true:=decide_eq_true (by omega)
      have w3:IntKind.i64.wrap ((t:Int)+1)=((t+1:Nat):Int):=by rw[al _ (by omega) (by omega)];omega
      obtain⟨⟨c1,c2,c3,c4⟩,hx⟩:∃ c,cs[t]?=some c:=⟨_,agT hlt⟩;have hcm:=agS hx;have hrc:=hrr _ hcm;have hpl:=hplim _ hcm;dsimp only at hrc hpl;have htk:cs.take (t+1)=cs.take t++[(c1,c2,c3,c4)]:=by rw[agZ,hx];rfl
      rcases q:decide (c2<0)
      ·obtain⟨j,rfl⟩:∃ j:Nat,c2=(j:Int):=⟨c2.toNat,by have:=of_decide_eq_false q;omega⟩
       have hj:j<cash.length:=by omega
       have hsl:=hsa.l j hj;have hadd:=Jj hsl hpl;have hvg:=dS s hj;have hvl2:(bJ cash.length s).length=cash.length:=cI _ _;rcases hk:ia (s j) (cC cs (X.getD c1.toNat 0) (c1,(j:Int),c3,c4))
       ·have hnf:¬ ti cash cs fun i=>X.getD i 0:=Ko hsa hj (c:=(c1,(j:Int),c3,c4)) rfl hk (m:=cs.drop (t+1)) (by rw[←htk,List.take_append_drop])
        rw[Lq hnf];rw[hk] at hadd;have hk0:qz false (s j+cC cs (X.getD c1.toNat 0) (c1,(j:Int),c3,c4))=(cb,6):=rfl;rw[hk0] at hadd;generalize bJ cash.length s=R at *;generalize hP:aj (cC cs (X.getD c1.toNat 0) (c1,(j:Int),c3,c4))=P at *;generalize aj (s j)=F1 at *;obtain⟨⟨p1,p2⟩,⟨p3,p4⟩⟩:=P;obtain⟨⟨f1,f2⟩,⟨f3,f4⟩⟩:=F1;have t1:=Ai hvg;have t2:=zm (l:=R) (k:=j) (by omega);simp only[ae,cb] at hadd;have h60:((6:Int)==0)=false:=rfl;simp only[go_sem,go_sem_proc,agV,bE,bM,bW,aF,bI,cJ,e2,e8,e10,e53,e54,e55,m51,hx,hP,d1,q,hj,hadd,t1,t2,clL,ae,ag0,agP,aha,h60,bne,aho]
        repeat' (first|refine qS ?_ ?_|fail)<;>intro h<;>simp only[h,go_sem,go_sem_proc,agV,bE,bM,bW,aF,bI,cJ,e2,e8,e10,e53,e54,e55,m51,hx,hP,d1,q,hj,hadd,t1,t2,clL,ae,ag0,agP,aha,h60,bne,aho]
       ·have hsn:=hsa.add (c:=(c1,(j:Int),c3,c4)) rfl hk
        rw[←htk] at hsn;dsimp only at hsn;rw[hk] at hadd;have hk0:qz true (s j+cC cs (X.getD c1.toNat 0) (c1,(j:Int),c3,c4))=(aj (s j+cC cs (X.getD c1.toNat 0) (c1,(j:Int),c3,c4)),0):=rfl;rw[hk0] at hadd;have hvf:=AT (N:=cash.length) (k:=j) s (s j+cC cs (X.getD c1.toNat 0) (c1,(j:Int),c3,c4));generalize hR2:bJ cash.length (fun i=>if i=j then s j+cC cs (X.getD c1.toNat 0) (c1,(j:Int),c3,c4) else s i)=R2 at *;generalize bJ cash.length s=R at *;generalize aj (s j+cC cs (X.getD c1.toNat 0) (c1,(j:Int),c3,c4))=Q at *;generalize hP:aj (cC cs (X.getD c1.toNat 0) (c1,(j:Int),c3,c4))=P at *;generalize aj (s j)=F1 at *;obtain⟨⟨p1,p2⟩,⟨p3,p4⟩⟩:=P;obtain⟨⟨f1,f2⟩,⟨f3,f4⟩⟩:=F1;obtain⟨⟨g1,g2⟩,⟨g3,g4⟩⟩:=Q;have t1:=Ai hvg;have t2:=zm (l:=R) (k:=j) (by omega);have t3:=L0 (l:=R) (k:=j) (by omega) g1 g2 g3 g4;rw[hvf] at t3;simp only[ae] at hadd;simp only[go_sem,go_sem_proc,agV,bE,bM,bW,aF,bI,cJ,e2,e8,e10,e53,e54,e55,m51,hx,hP,d1,w3,q,hj,hadd,t1,t2,t3,clL,ae,ag0,agP,bne,beq_self_eq_true,ag5]
        repeat' (first|refine qS ?_ ?_|fail)<;>intro h<;>simp only[h,go_sem,go_sem_proc,agV,bE,bM,bW,aF,bI,cJ,e2,e8,e10,e53,e54,e55,m51,hx,hP,d1,w3,q,hj,hadd,t1,t2,t3,clL,ae,ag0,agP,bne,beq_self_eq_true,ag5]
        exact⟨(t+1,fun i=>if i=j then s j+cC cs (X.getD c1.toNat 0) (c1,(j:Int),c3,c4) else s i),by dsimp only;omega,by dsimp only;omega,rfl,by rw[hR2],hsn⟩
      ·have hsn:=hsa.skip (c:=(c1,c2,c3,c4)) (of_decide_eq_true q)
       rw[←htk] at hsn;simp only[go_sem,go_sem_proc,agV,bE,bM,bW,aF,bI,cJ,e2,e8,e10,e53,e54,e55,m51,hx,d1,w3,q,clL,ag0,agP]
       repeat' (first|refine qS ?_ ?_|fail)<;>intro h<;>simp only[h,go_sem,go_sem_proc,agV,bE,bM,bW,aF,bI,cJ,e2,e8,e10,e53,e54,e55,m51,hx,d1,w3,q,clL,ag0,agP]
       exact⟨(t+1,s),by dsimp only;omega,by dsimp only;omega,rfl,rfl,hsn⟩
     ·have d1:decide ((t:Int)<(cs.length:Int))=false:=decide_eq_false (by omega)
      rw[ahq (by omega)] at hsa;have hvok:okL (bJ cash.length s):=sU (by omega) hsa.l;have hF:=zb (bJ cash.length s) hv ⟨hvok,ho⟩
      have he:jT (bJ cash.length s) hv=Hb cash cs fun i=>X.getD i 0:=by
       have h1:=Bv (fL cash.length s) X (fun x hx=>by
        obtain⟨i,hi,rfl⟩:=List.mem_map.1 hx;exact hsa.l i (List.mem_range.1 hi)) fun x hx=>(hvx x hx).2
       rw[←hve] at h1
       have h2:jT (bJ cash.length s) hv=true↔ti cash cs fun i=>X.getD i 0:=by
        refine h1.trans ⟨fun h=>?_,fun h=>?_⟩
        ·intro i hi
         rw[hsa.a i hi,←h]
         show some (s i)=some ((fL cash.length s).getD i 0);rw[kj s 0 hi]
        ·refine (D3 hvl fun i hi=>?_).symm
         have h3:=h i hi;rw[hsa.a i hi,Option.some.injEq] at h3;rw[h3]
         show X[i]?=some (X.getD i 0);rw[agU,agT (by omega)]
         rfl
       rw[Bool.eq_iff_iff,A7];exact h2
      rw[he] at hF;have hD:=eS (n:=5) cr m51;rw[cI] at hD;simp only[go_sem,go_sem_proc,agV,bE,bM,bW,aF,bI,cJ,e2,e8,e10,e53,e54,e55,d1,hF,hD,kS,ahy,scalar,ag0]
      repeat' (first|refine qS ?_ ?_|fail)<;>intro h<;>simp only[h,go_sem,go_sem_proc,agV,bE,bM,bW,aF,bI,cJ,e2,e8,e10,e53,e54,e55,d1,hF,hD,kS,ahy,scalar,ag0]
   ·rw[ha] at hany
    rw[ag5,ahl];simp only[go_sem,go_sem_proc,agV,bE,bM,bW,aF,bI,cJ,hn0,hc0,hr,hl,hany,ag0,bne,aho,ag5]
    repeat' (first|refine qS ?_ ?_|fail)<;>intro h<;>simp only[h,go_sem,go_sem_proc,agV,bE,bM,bW,aF,bI,cJ,hn0,hc0,hr,hl,hany,ag0,bne,aho,ag5]
theorem JW {n:Nat} {f:Nat→Nat} (h:∀ i,n≤i→f i=10):fOf (fL n fun i=>(f i:Int))=f:=by
 funext i
 by_cases hi:i<n
 ·exact Nx f hi
 ·unfold fOf
  rw[agU,List.getElem?_eq_none (by rw[bT];omega),h i (by omega)];rfl
theorem BU {d:Day} {f:Nat→Nat} {h:Nat→Rat} (h10:∀ i,d.n≤i→f i=10):∀ i,d.n≤i→d.fallen f h i=10:=fun i hi=>by
 unfold Day.fallen;rw[if_neg fun x=>by omega,h10 i hi]
theorem uC (d:Day):∀ k f,(d.rounds k f).1.length≤k
 | 0,f=>ahr _
 | k+1,f=>by
  rw[Day.rounds]
  split
  ·exact ahp _
  ·have:=uC d k (d.fallen f (d.top f))
   simp only[ahw];omega
def nu (l:List Nat):List Data:=[.sl (l.map gJ)]
theorem vD (l:List Nat):(nu l).length=1:=rfl
theorem Hd (l:List Nat):((nu l).map MV.dat).all MV.one=true:=rfl
def o0 (done:List (List Nat)) (g:Nat):MV:=if done=[] then .nil else .ref 217077 g 1 0 done.length
structure QN (cash:List Int) (cs:List ClR) (g:Nat) (gs:Nat→Nat) (f:Nat→Nat) (done:List (List Nat)) (gF:Nat) (m:Mem):Prop where
 at_:∃ p,(((opA cash cs g gs).wf f).wP p).At m
 out:∃ g7,g7=0∧m 217007=some (g7,[.nil,.nil,o0 done gF])
 row:done≠[]→m 217077=some (gF,ay nu done)
 no:∀ k:Nat,k / 1000≠217→k / 1000≠228→m k=none
 f10:∀ i,cash.length≤i→f i=10
 reach:Reach (ab cash (aG cash.length cs)) f
 frs:∃ r,kV cash.length f≤r∧(ab cash (aG cash.length cs)).frs=done++((ab cash (aG cash.length cs)).rounds r f).1∧(ab cash (aG cash.length cs)).fend=((ab cash (aG cash.length cs)).rounds r f).2
theorem Rl (T:Tab) (fu:T iV=mkQ nR) (aF:T bf=mkE fk) (au:T aV=mkE cV) (eD:T bX=mkE od) {K:bP→St→Prop} {kk:List Todo} (cash:List Int) (cs:List ClR) (hs0:SmallD cash cs) (g:Nat) (gs:Nat→Nat) (v1:MV) (tm:Nat→MV) (m:Mem)
  (e1:tm 1=v1) (e4:tm 4 = .ptr 217004 0 0) (e6:tm 6 = .ref 228023 g 1 0 cash.length) (e7:tm 7 = .ptr 217007 0 0) (m4:m 217004=some (0,[.nil,.nil,.nil])) (hat:QN cash cs g gs (fun _=>10) [] 0 m)
  (hK:∀ tm' m' gF,tm' 1=v1→tm' 4 = .ptr 217004 0 0→tm' 7 = .ptr 217007 0 0→m' 217004=some (0,[.nil,.nil,.nil])→m' 217007=some (0,[.dat (.sl ((bJ cash.length (ab cash (aG cash.length cs)).gr).map ae)),.nil,o0 (ab cash (aG cash.length cs)).frs gF])→((ab cash (aG cash.length cs)).frs≠[]→m' 217077=some (gF,ay nu (ab cash (aG cash.length cs)).frs))→kont T K kk (.exit 0) ⟨tm',m'⟩) :
  wp T (mf_clear_Solve.body.sub [1,1,1,1,0,0]) (kont T K kk) ⟨tm,m⟩:=by
 simp only[mf_clear_Solve,MCode.sub];have hs:=mV hs0;have hn:=hs.n5;have hd:=hs.ok;refine af [1,4,6,7] [217004] (fun ((f,done,gF):(Nat→Nat) × List (List Nat) × Nat) tm m=>QN cash cs g gs f done gF m) (fun (f,_)=>kV cash.length f) (fun _=>10,[],0) (by exact hat) ?_;intro vs ms hvs hms;simp only[go_sem,go_sem_proc,agV,e1,e4,e6,e7,m4] at hvs hms;subst hvs hms;clear e1 e4 e6 e7 m4 hat tm m;rintro⟨f,done,gF⟩ tm m hk m4 hat;simp only[go_sem,go_sem_proc,agV,List.cons.injEq] at hk m4;obtain⟨e1,e4,e6,e7⟩:=hk;obtain⟨⟨p,hat⟩,⟨g7,rfl,hout⟩,hrow,hno,hf10,hreach,r,hr1,hr2,hr3⟩:=hat;dsimp only at *;have hfo:=JW hf10;have hrc:=hreach;obtain⟨gI,hinv,-⟩:=hreach
 have hQ:=Bo (((opA cash cs g gs).wf f).wP p) m ⟨hat,fun k hk=>hno k (by omega) (by omega),fun k hk=>hno k (by omega) (by omega),fun k hk=>hno k (by omega) (by omega),⟨hs,fun x hx=>by
  obtain⟨i,-,rfl⟩:=List.mem_map.1 hx;have:=hinv.le i;omega⟩,⟨gI,by show Inv (ab cash (aG cash.length cs)) (fOf (fL cash.length fun i=>(f i:Int))) gI;rw[hfo];exact hinv⟩⟩
 have hQ':nR [.ref 228023 g 1 0 cash.length] m=some (yZ (((opA cash cs g gs).wf f).wP p) m):=hQ;simp only[go_sem,go_sem_proc,agV,fu,e1,e4,e6,e7,hQ'];have ht:=Day.top_spec (hd.hex f hrc);have hlim:∀ i,i<cash.length→cm ((ab cash (aG cash.length cs)).top f i):=fun i hi=>du (Jy hs hrc hi) (by omega)
 have h0:∀ i,i<cash.length→0≤(ab cash (aG cash.length cs)).top f i:=fun i hi=>ht.nonneg hd hi
 rintro rr mem' ⟨hrr,p',hat',hout'⟩
 have hrr2:rr = .tup [.dat (.sl ((bJ cash.length ((ab cash (aG cash.length cs)).top f)).map ae)),.dat (.bool true)]:=by
  rw[hrr]
  show MV.tup [.dat (.sl ((bJ cash.length ((ab cash (aG cash.length cs)).top (fOf (fL cash.length fun i=>(f i:Int))))).map ae)),.dat (.bool true)]=_;rw[hfo]
 clear hrr hQ hQ';subst hrr2;have hO:∀ k:Nat,k / 1000≠228→mem' k=m k:=fun k hk=>hout' k fun i hi=>by have:i<cash.length:=hi;omega
 have q4:=(hO 217004 (by decide)).trans m4;have q7:=(hO 217007 (by decide)).trans hout;have hgr:(ab cash (aG cash.length cs)).falls f=gU (ab cash (aG cash.length cs)) f ((ab cash (aG cash.length cs)).top f) cash.length:=rfl
 have hfin0:(ab cash (aG cash.length cs)).falls f=[]→(ab cash (aG cash.length cs)).frs=done∧(ab cash (aG cash.length cs)).gr=(ab cash (aG cash.length cs)).top f:=fun h=>by
  have:=(ab cash (aG cash.length cs)).rounds_stop h r;rw[this,List.append_nil] at hr2;rw[this] at hr3;exact⟨hr2,by unfold Day.gr;rw[hr3]⟩
 have hnext:(ab cash (aG cash.length cs)).falls f≠[]→kV cash.length ((ab cash (aG cash.length cs)).fallen f ((ab cash (aG cash.length cs)).top f))<kV cash.length f∧Reach (ab cash (aG cash.length cs)) ((ab cash (aG cash.length cs)).fallen f ((ab cash (aG cash.length cs)).top f))∧(∀ i,cash.length≤i→(ab cash (aG cash.length cs)).fallen f ((ab cash (aG cash.length cs)).top f) i=10)∧∃ r,kV cash.length ((ab cash (aG cash.length cs)).fallen f ((ab cash (aG cash.length cs)).top f))≤r∧(ab cash (aG cash.length cs)).frs=(done++[(ab cash (aG cash.length cs)).falls f])++((ab cash (aG cash.length cs)).rounds r ((ab cash (aG cash.length cs)).fallen f ((ab cash (aG cash.length cs)).top f))).1∧(ab cash (aG cash.length cs)).fend=((ab cash (aG cash.length cs)).rounds r ((ab cash (aG cash.length cs)).fallen f ((ab cash (aG cash.length cs)).top f))).2:=fun hne=>by
  have hlt:=rV hd hd.hex hrc hne;have hlt':kV cash.length ((ab cash (aG cash.length cs)).fallen f ((ab cash (aG cash.length cs)).top f))<kV cash.length f:=hlt;refine⟨hlt',hrc.next hd hd.hex,BU (d:=ab cash (aG cash.length cs)) hf10,?_⟩
  cases r with
  | zero=>omega
  | succ r =>
   rw[Day.rounds,if_neg hne] at hr2 hr3;exact⟨r,by omega,by rw[hr2];simp,hr3⟩
 generalize hd':ab cash (aG cash.length cs)=d at *;generalize hV:(bJ cash.length (d.top f)).map ae=V at *;simp only[go_sem,go_sem_proc,agV,e1,e4,e6,e7,q4,q7,ag5];subst hd';rw[←hV];refine Rx T aF au eD ((opA cash cs g gs).wP p') hs f (fun i _=>hinv.le i) ((ab cash (aG cash.length cs)).top f) hlim h0 _ v1 (.ptr 217004 0 0) (.ptr 217007 0 0) (cR (mem' 217008)) (cR (mem' 217057)) _ _ ?_ ?_ ?_ ?_ ?_ ?_ ?_ ?_ ?_ (((show ((((opA cash cs g gs).wP p').wf f)).At mem' from hat').up hn (by decide)).up hn (by decide)|>.up hn (by decide)) ?_ ?_ (fun _ _ _ _=>rfl) ?_
 all_goals first | (intro tm2 m2 g2 k1 k4 k6 k7 k8 k10 q57 hat2 hfr2) | (simp only[aW,ag1,if_false,if_true,e1,e4,e6,e7];done) | (simp only[aW,ag1,if_false,if_true];rfl) | (simp only[aW,ag1,if_false,if_true,e1,e4,e6,e7];rfl) | (simp only[aB,ag1,if_false,if_true];done) | (simp only[aB,ag1,if_false,if_true];rfl) | skip
 replace k10:tm2 10 = .ref 217057 g2 1 0 ((ab cash (aG cash.length cs)).falls f).length:=k10;replace q57:m2 217057=some (g2,ay gJ ((ab cash (aG cash.length cs)).falls f)):=q57;replace k6:tm2 6 = .ref 228023 g 1 0 cash.length:=k6;replace hat2:(((opA cash cs g gs).wP p').wf ((ab cash (aG cash.length cs)).fallen f ((ab cash (aG cash.length cs)).top f))).At m2:=hat2;have r4:m2 217004=some (0,[.nil,.nil,.nil]):=(hfr2 217004 (by decide) (by decide) (by decide)).trans (by simp only[aB,ag1,if_false];exact q4);have r7:m2 217007=some (0,[.nil,.nil,o0 done gF]):=(hfr2 217007 (by decide) (by decide) (by decide)).trans (by simp only[aB,ag1,if_false];exact q7);have r8:m2 217008=some (cR (mem' 217008),[.dat (.sl V)]):=(hfr2 217008 (by decide) (by decide) (by decide)).trans (by simp only[aB,ag1,if_false,if_true];rw[hV]);have r77:done≠[]→m2 217077=some (gF,ay nu done):=fun h=>(hfr2 217077 (by decide) (by decide) (by decide)).trans (by simp only[aB,ag1,if_false];exact (hO 217077 (by decide)).trans (hrow h))
 have rne:∀ (k j:Nat),k / 1000≠217→j / 1000=217→k≠j:=fun k j h1 h2 h=>h1 (h ▸ h2)
 have rno:∀ k:Nat,k / 1000≠217→k / 1000≠228→m2 k=none:=fun k h1 h2=>(hfr2 k h2 (rne k _ h1 (by decide)) (rne k _ h1 (by decide))).trans (by
  rw[aH (rne k _ h1 (by decide)),aH (rne k _ h1 (by decide)),aH (rne k _ h1 (by decide))];exact (hO k h2).trans (hno k h1 h2))
 clear hfr2 hO hat' hout' q4 q7 hout hrow hno m4 e1 e4 e6 e7 hr2 hr3
 by_cases hne:(ab cash (aG cash.length cs)).falls f=[]
 ·obtain⟨h1,h2⟩:=hfin0 hne
  rw[hne] at k10;rw[h1,h2] at hK;have hl0:(((0:Nat):Int)==0)=true:=rfl;simp only[go_sem,go_sem_proc,agV,k1,k4,k6,k7,k8,k10,r4,r7,r8,hl0,List.length_nil,List.set_cons_zero];refine hK _ _ gF ?_ ?_ ?_ ?_ ?_ fun h=>?_
  ·simp only[aW,ag1,if_false];exact k1
  ·simp only[aW,ag1,if_false];exact k4
  ·simp only[aW,ag1,if_false];exact k7
  ·simp only[aB,ag1,if_false];exact r4
  ·simp only[aB,ag1,if_true];rw[hV]
  ·simp only[aB,ag1,if_false];exact r77 h
 ·obtain⟨h1,h2,h3,h4⟩:=hnext hne
  have hfl5:((ab cash (aG cash.length cs)).falls f).length≤5:=ag3 (ag4 _ _) (by rw[ahI];exact hn)
  have hl0:((((ab cash (aG cash.length cs)).falls f).length:Int)==0)=false:=by
   have:((ab cash (aG cash.length cs)).falls f).length≠0:=fun h=>hne (List.length_eq_zero_iff.1 h)
   rw[beq_eq_false_iff_ne];omega
  have hfz:=fun (K:St→Prop) (st:St)=>cu (K:=K) (st:=st) ib 10 217057 g2 ((ab cash (aG cash.length cs)).falls f)
  have hml:(1≤maxLen)=True:=eq_true (by decide);generalize hfd:(ab cash (aG cash.length cs)).falls f=fl at *;clear hfin0 hnext hK;have hnoF:∀ (M:Mem),(∀ k:Nat,k / 1000≠217→M k=m2 k)→∀ k:Nat,k / 1000≠217→k / 1000≠228→M k=none:=fun M hM k h1 h2=>(hM k h1).trans (rno k h1 h2)
  by_cases hdn:done=[]
  ·subst hdn
   have hfm:o0 [] gF = .nil:=rfl;rw[hfm] at r7;simp only[go_sem,go_sem_proc,agV,k1,k4,k6,k7,k8,k10,r4,r7,r8,q57,hl0,hfz,hml];refine⟨(_,[fl],cR (m2 217077)),h1,⟨⟨p',((hat2.up hn (by decide)).up hn (by decide)).up hn (by decide)⟩,⟨0,rfl,?_⟩,fun _=>?_,?_,h3,h2,h4⟩⟩
   ·rw[cj];rfl
   ·rw[aH (by decide),cj];rfl
   ·exact hnoF _ fun k hk=>by rw[aH (rne k _ hk (by decide)),aH (rne k _ hk (by decide)),aH (rne k _ hk (by decide))]
  ·have hfm:o0 done gF = .ref 217077 gF 1 0 done.length:=by unfold o0;rw[if_neg hdn]
   rw[hfm] at r7;have q77:=r77 hdn
   have hdl:done.length+1≤50:=by
    obtain⟨r',-,h5,-⟩:=h4;have h6:=uC (ab cash (aG cash.length cs)) (10*(ab cash (aG cash.length cs)).n) fun _=>10
    have h7:(ab cash (aG cash.length cs)).frs.length≤10*cash.length:=h6;rw[h5] at h7;simp only[ahd,ahe] at h7;omega
   have hap:=dw vD Hd 217077 gF 24 done fl (cs:=[.dat (.sl (fl.map gJ))]) rfl (by omega) (by omega);simp only[go_sem,go_sem_proc,agV,k1,k4,k6,k7,k8,k10,r4,r7,r8,q57,q77,hl0,hfz,hap];refine⟨(_,done++[fl],gF+1),h1,⟨⟨p',((hat2.up hn (by decide)).up hn (by decide)).up hn (by decide)⟩,⟨0,rfl,?_⟩,fun _=>?_,?_,h3,h2,h4⟩⟩
   ·rw[cj]
    unfold o0;rw[if_neg (by simp),ahd];rfl
   ·rw[aH (by decide),cj]
   ·exact hnoF _ fun k hk=>by rw[aH (rne k _ hk (by decide)),aH (rne k _ hk (by decide)),aH (rne k _ hk (by decide))]

theorem Alike.gr {d e:Day} (h:Alike d e):d.gr=e.gr:=by unfold Day.gr Day.fend;rw[h.top,h.rounds,h.n]
theorem Alike.frs {d e:Day} (h:Alike d e):d.frs=e.frs:=by unfold Day.frs;rw[h.rounds,h.n]
structure Ec (cash:List Int) (cs:List ClR):Prop where
 n:cash.length≤1000000
 c:cs.length≤1000000
 sm:dh cash cs=true→SmallD cash cs
noncomputable def oZ (cash:List Int) (cs:List ClR):List aM:=cs.map fun c=>aj (cC cs ((ab cash cs).gr c.1.toNat) c)
noncomputable def fE (cash:List Int) (cs:List ClR):List aM:=bJ cash.length (ab cash cs).gr
noncomputable def yc (cash:List Int) (cs:List ClR):Data:=if dh cash cs=true then .tup [.agg [.sl ((fE cash cs).map ae),.sl ((oZ cash cs).map ae),.sl ((ab cash cs).frs.map nu)],.int .i64 0] else .tup [.agg [.sl [],.sl [],.sl []],.int .i64 1]
theorem MG {cash:List Int} {cs:List ClR} (hs:SmallD cash cs):xA cs ((ahJ cash.length).map (ab cash cs).gr):=by
 have hr:=(rightD_iff.1 hs.right).2.2.2;have hn:=hs.n5;refine⟨hs.c12,by simp;exact hn,fun c hc=>?_,fun x hx=>?_⟩
 ·have h1:=hr c hc
  have h2:=hs.am c hc;rw[ag0,ahI];omega
 ·obtain⟨i,hi,rfl⟩:=List.mem_map.1 hx
  have hi':=List.mem_range.1 hi;exact⟨wu hs.ok hi',(ug hs hi').mono (by omega)⟩
theorem Mk {cash:List Int} {cs:List ClR} (hs:SmallD cash cs):(cs.map fun c=>aj (cC cs (((ahJ cash.length).map (ab cash cs).gr).getD c.1.toNat 0) c))=oZ cash cs:=ahE fun c hc=>by
 have h1:=(rightD_iff.1 hs.right).2.2.2 c hc;have:((ahJ cash.length).map (ab cash cs).gr).getD c.1.toNat 0=(ab cash cs).gr c.1.toNat:=kj (ab cash cs).gr 0 (show c.1.toNat<cash.length by omega);rw[this]
noncomputable def kX:List Data→Option PRes:=FF (α:=(List Int) × (List ClR)) (fun (cash,cs)=>([.sl (cash.map aa),.sl (cs.map clL)]:List Data)) (fun (cash,cs)=>aI (Ec cash cs) (.same (yc cash cs)))
theorem xk:∀ a b:(List Int) × (List ClR),(fun (cash,cs)=>([.sl (cash.map aa),.sl (cs.map clL)]:List Data)) a=(fun (cash,cs)=>([.sl (cash.map aa),.sl (cs.map clL)]:List Data)) b→a=b:=by
  rintro⟨cash1,cs1⟩ ⟨cash2,cs2⟩ h;simp only[List.cons.injEq,Data.sl.injEq,and_true] at h;exact ag2 (ah ak _ _ h.1) (ah f7 _ _ h.2)
@[go_sem] theorem jK (cash:List Int) (cs:List ClR) (hc:Ec cash cs):kX [.sl (cash.map aa),.sl (cs.map clL)]=some (.same (yc cash cs)):=(aZ xk (cash,cs)).trans (ap hc _)
theorem J9 (T:Tab) (bE:T gm=mkE pP) (jA:T lC=mkQ yv) (fu:T iV=mkQ nR) (aF:T bf=mkE fk) (au:T aV=mkE cV) (eD:T bX=mkE od) (bW:T eQ=mkE rg) (cash:List Int) (cs:List ClR) (hc:Ec cash cs) :
  wp T mf_clear_Solve.body (bG mf_clear_Solve.res (.same (yc cash cs))) ⟨az [.dat (.sl (cash.map aa)),.dat (.sl (cs.map clL))],emp⟩:=by
 refine aq ?_;simp only[mf_clear_Solve];obtain⟨hn0,hc0,hsm⟩:=hc;unfold yc;rcases hr:dh cash cs
 ·rw[if_neg (by decide)]
  simp only[go_sem,go_sem_proc,agV,bE,jA,fu,aF,au,eD,bW,hn0,hc0,hr,aho]
  repeat' (first|refine qS ?_ ?_|fail)<;>intro h<;>simp only[h,go_sem,go_sem_proc,agV,bE,jA,fu,aF,au,eD,bW,hn0,hc0,hr,aho]
 ·rw[if_pos rfl]
  have hs:=hsm hr;have hn:=hs.n5;have hal:=qy hr
  have hno:NoK 228 (aB emp 217004 0 [MV.nil,MV.nil,MV.nil]):=fun k hk=>by
   rw[aH (by rintro rfl;omega)];rfl
  have hQ:=CJ cash cs (aB emp 217004 0 [MV.nil,MV.nil,MV.nil]) ⟨hs,hno⟩;simp only[go_sem,go_sem_proc,agV,bE,jA,fu,aF,au,eD,bW,hn0,hc0,hr,hQ,ag5];rintro rr m ⟨g,gs,rfl,hat,hfr⟩;dsimp only at hat;have m4:m 217004=some (0,[.nil,.nil,.nil]):=(hfr 217004 (by decide)).trans cj;have m7:m 217007=none:=(hfr 217007 (by decide)).trans (aH (by decide));simp only[go_sem,go_sem_proc,agV,bE,jA,fu,aF,au,eD,bW,m7];refine Rl T fu aF au eD cash cs hs g gs (.dat (.sl (cs.map clL))) _ _ ?_ ?_ ?_ ?_ ?_ ⟨⟨fun _=>false,?_⟩,⟨0,rfl,?_⟩,fun h=>absurd rfl h,?_,fun _ _=>rfl,Reach.start (mV hs).ok,⟨10*cash.length,?_,rfl,rfl⟩⟩ ?_
  all_goals first | (intro tm2 m2 gF k1 k4 k7 q4 q7 q77) | (simp only[aW,ag1,if_false,if_true];done) | (simp only[aW,ag1,if_false,if_true];rfl) | (simp only[aB,ag1,if_false,if_true];done) | (simp only[aB,ag1,if_false,if_true];rfl) | (simp only[aB,ag1,if_false,if_true];exact m4) | skip
  ·exact hat.up hn (by decide)
  ·intro k h1 h2
   rw[aH (by rintro rfl;exact h1 (by decide)),hfr k h2,aH (by rintro rfl;exact h1 (by decide))];rfl
  ·rw[ur];exact ahr _
  rw[←hal.gr,←hal.frs] at q7;rw[←hal.frs] at q77;have hpy:=tU cs ((ahJ cash.length).map (ab cash cs).gr) (MG hs);rw[Mk hs] at hpy;replace hpy:rg [.sl (cs.map clL),.sl ((fE cash cs).map ae)]=some (.same (.tup [.sl ((oZ cash cs).map ae),.bool true])):=hpy;replace q7:m2 217007=some (0,[.dat (.sl ((fE cash cs).map ae)),.nil,o0 (ab cash cs).frs gF]):=q7;generalize fE cash cs=HV at *;generalize oZ cash cs=PD at *;generalize (ab cash cs).frs=FR at *;clear hal hQ hat hfr m4 m7
  by_cases hfe:FR=[]
  ·subst hfe
   replace q7:m2 217007=some (0,[.dat (.sl (HV.map ae)),.nil,.nil]):=q7;simp only[go_sem,go_sem_proc,agV,bE,jA,fu,aF,au,eD,bW];refine rN ?_;rintro M rfl;simp only[go_sem,go_sem_proc,agV,bE,jA,fu,aF,au,eD,bW,k1,k4,k7,q4,q7,hpy,ag5,aha]
   repeat' (first|refine qS ?_ ?_|fail)<;>intro h<;>simp only[h,go_sem,go_sem_proc,agV,bE,jA,fu,aF,au,eD,bW,k1,k4,k7,q4,q7,hpy,ag5,aha]
  ·have q8:=q77 hfe
   have hfm:o0 FR gF = .ref 217077 gF 1 0 FR.length:=by unfold o0;rw[if_neg hfe]
   rw[hfm] at q7;simp only[go_sem,go_sem_proc,agV,bE,jA,fu,aF,au,eD,bW];refine rn (MoveS.mfrz 217007 0 _ 2 217077 gF 1 0 FR.length _ (.sl (FR.map nu)) q7 rfl q8 (by decide) (eS (n:=0) vD q8)) ?_;intro M hM;have hM7:M 217007=some (0,[.dat (.sl (HV.map ae)),.nil,.dat (.sl (FR.map nu))]):=by rw[hM,cj];rfl
   have hM4:M 217004=some (0,[.nil,.nil,.nil]):=by
    rw[hM,aH (by decide)];unfold kill;rw[aH (by decide)];exact q4
   clear hM;simp only[go_sem,go_sem_proc,agV,bE,jA,fu,aF,au,eD,bW,k1,k4,k7,hM4,hM7,hpy,ag5]
   repeat' (first|refine qS ?_ ?_|fail)<;>intro h<;>simp only[h,go_sem,go_sem_proc,agV,bE,jA,fu,aF,au,eD,bW,k1,k4,k7,hM4,hM7,hpy,ag5]

set_option maxHeartbeats 1000000
theorem fewD_iff {cash:List Int} {cs:List ClR}:vw cash cs=true↔cash.length≤5∧cs.length≤12∧(∀ x∈cash,1000000<x→1000000000000000<x)∧∀ c∈cs,1000000<c.2.2.2→1000000000000000<c.2.2.2:=by
 have hf:∀ m:Int,lD m=true↔(1000000<m→1000000000000000<m):=fun m=>by
  unfold lD
  by_cases h1:m>1000000<;>by_cases h2:m≤1000000000000000<;>simp [h1,h2]<;>omega
 unfold vw;simp only[ahh,ahC,decide_eq_false_iff_not,List.all_eq_true,hf]
 constructor
 ·rintro⟨h1,h2,h3,h4⟩
  exact⟨by omega,by omega,h3,h4⟩
 ·rintro⟨h1,h2,h3,h4⟩
  exact⟨by omega,by omega,h3,h4⟩
theorem Jb {cash:List Int} {cs:List ClR} (hf:vw cash cs=true) (hr:dh cash cs=true):(∀ x∈cash,0≤x∧x≤1000000)∧∀ c∈cs,0≤c.2.2.2∧c.2.2.2≤1000000:=by
 obtain⟨-,-,h3,h4⟩:=fewD_iff.1 hf;obtain⟨-,-,h5,h6⟩:=rightD_iff.1 hr;refine⟨fun x hx=>?_,fun c hc=>?_⟩
 ·have:=h3 x hx;have:=h5 x hx;omega
 ·have:=h4 c hc;have:=h6 c hc;omega
theorem wU {cash:List Int} {cs:List ClR} (hf:vw cash cs=true) (hr:dh cash cs=true):SmallD cash cs:=by
 obtain⟨h1,h2,-,-⟩:=fewD_iff.1 hf;exact⟨hr,h1,h2,fun c hc=>by have:=(Jb hf hr).2 c hc;omega⟩
theorem Mn {cash:List Int} {cs:List ClR} (hf:vw cash cs=true):Ec cash cs:=by
 obtain⟨h1,h2,-,-⟩:=fewD_iff.1 hf;exact⟨by omega,by omega,wU hf⟩
section
variable {cash:List Int} {cs:List ClR} (hs:SmallD cash cs)
include hs
theorem MU:okL (fE cash cs):=by
 have:=hs.n5;exact sU (by omega) fun i hi=>du (ug hs hi) (by omega)
theorem Fn:(fE cash cs).any (pdF bp)=false∧sI (fE cash cs)=(ahJ cash.length).map (ab cash cs).gr:=by
 refine⟨?_,?_⟩
 ·rw[ahB]
  intro f hf;obtain⟨y,hy,rfl⟩:=List.mem_map.1 hf;obtain⟨i,hi,rfl⟩:=List.mem_map.1 hy;have hi':i<cash.length:=List.mem_range.1 hi;have hl:=du (ug hs hi') (by omega);have hn:=wu hs.ok hi';rw[qg]
  show ¬ (!bh (aj ((ab cash cs).gr i))||decide ((aj ((ab cash cs).gr i)).1.1<0))=true;rw[md hl];have:decide ((ab cash cs).gr i<0)=false:=decide_eq_false (by grind);rw[←uj] at this;have h2:decide ((aj ((ab cash cs).gr i)).1.1<0)=false:=this;rw[h2];decide
 ·unfold sI fE bJ
  rw[ahx];exact (ahE fun x _=>kG x).trans (ahD _)
theorem IA:EU cash cs (fE cash cs)∧wL cash cs (fE cash cs)=true:=by
 obtain⟨h1,h2⟩:=Fn hs;have hn:=hs.n5;have h12:=hs.c12;refine⟨⟨by omega,by omega,MU hs,fun _=>hs,fun _ _ _ f hf=>?_⟩,?_⟩
 ·obtain⟨y,hy,rfl⟩:=List.mem_map.1 hf
  obtain⟨i,hi,rfl⟩:=List.mem_map.1 hy;rw[kG];exact (ug hs (List.mem_range.1 hi)).mono (by omega)
 ·unfold wL
  have hl:(fE cash cs).length=cash.length:=cI _ _;rw[hs.right,h1,decide_eq_true hl,ahH,ahH,aho,ahH,A7,h2];intro i hi;have hx:=MF hs i hi
  have hcs:pe cash cs (fun i=>((ahJ cash.length).map (ab cash cs).gr).getD i 0) i cs=pe cash cs (ab cash cs).gr i cs:=by
   have hr:=(rightD_iff.1 hs.right).2.2.2
   have key:∀ n (l:List ClR),l.length=n→(∀ c∈l,c∈cs)→pe cash cs (fun i=>((ahJ cash.length).map (ab cash cs).gr).getD i 0) i l=pe cash cs (ab cash cs).gr i l:=by
    intro n
    induction n with
    | zero=>intro l hl _;rw[List.length_eq_zero_iff.1 hl];rfl
    | succ n ih =>
     intro l hl hm;rcases ahb l with h0 | ⟨m,c,rfl⟩
     ·subst h0;cases hl
     ·rw[ahc] at *
      simp only[ahd,ahe] at hl;have hc:=hr c (hm c (by simp));rw[lX,lX,ih m (by omega) fun y hy=>hm y (by simp [hy])]
      unfold oX;have:((ahJ cash.length).map (ab cash cs).gr).getD c.1.toNat 0=(ab cash cs).gr c.1.toNat:=kj (ab cash cs).gr 0 (show c.1.toNat<cash.length by omega);simp only[this]
   exact key _ cs rfl fun c hc=>hc
  rw[hcs,hx]
  show _=some ((fL cash.length (ab cash cs).gr).getD i 0);rw[kj (ab cash cs).gr 0 hi]
end
set_option maxHeartbeats 4000000
def jj (l:List Int):List Data:=[.sl (l.map aa)]
theorem uR:∀ a b:List Int,jj a=jj b→a=b:=by
 intro a b h;simp only[jj,List.cons.injEq,Data.sl.injEq,and_true] at h;exact ah ak _ _ h
def DM (a:List (List Int)):Prop:=a.length≤1000000∧∀ l∈a,l.length≤1000000
theorem GN (l:List (List Nat)):l.map nu=(l.map fun r=>r.map fun n=>((n:Nat):Int)).map jj:=by
 rw[ahx];refine ahE fun r _=>?_
 simp only[nu,jj,Function.comp_apply,ahx]
 rfl
theorem xa {x:Rat} (hx:cm x):fQ [.agg (ae (aj x))]=some (.same (.bool true)):=by
 have h1:=eC hx;have:=Bb (aj x).1.1 (aj x).1.2 (aj x).2.1 (aj x).2.2 ⟨h1.1,h1.2⟩;rw[show bh (((aj x).1.1,(aj x).1.2),((aj x).2.1,(aj x).2.2))=true from md hx] at this;exact this
theorem vY {n:Int} (h:cn n):nC [.int .i64 n]=some (.same (.agg (ae (aj (n:Rat))))):=sa n h
theorem wW (x:Rat):jp x x=0:=cmpQ_zero.2 rfl
noncomputable def lB:List Data→Option PRes:=FF (α:=(List (List Int)) × (List (List Int))) (fun (a,b)=>([.sl (a.map jj),.sl (b.map jj)]:List Data)) (fun (a,b)=>aI (DM a∧DM b) (.same (.bool (a==b))))
theorem qk:∀ a b:(List (List Int)) × (List (List Int)),(fun (a,b)=>([.sl (a.map jj),.sl (b.map jj)]:List Data)) a=(fun (a,b)=>([.sl (a.map jj),.sl (b.map jj)]:List Data)) b→a=b:=by
  rintro⟨a1,b1⟩ ⟨a2,b2⟩ h;simp only[List.cons.injEq,Data.sl.injEq,and_true] at h;exact ag2 (ah uR _ _ h.1) (ah uR _ _ h.2)
@[go_sem] theorem rU (a:List (List Int)) (b:List (List Int)) (hc:DM a∧DM b):lB [.sl (a.map jj),.sl (b.map jj)]=some (.same (.bool (a==b))):=(aZ qk (a,b)).trans (ap hc _)
theorem vk (T:Tab)  (a:List (List Int)) (b:List (List Int)) (hc:DM a∧DM b) :
  wp T mf_ref20_SameRounds.body (bG mf_ref20_SameRounds.res (.same (.bool (a==b)))) ⟨az [.dat (.sl (a.map jj)),.dat (.sl (b.map jj))],emp⟩:=by
 refine aq ?_;simp only[mf_ref20_SameRounds];obtain⟨⟨la,oa⟩,⟨lb,ob⟩⟩:=hc;rcases hl:((a.length:Int)==(b.length:Int))
 ·have hab:(a==b)=false:=by rw[beq_eq_false_iff_ne];rintro rfl;simp at hl
  rw[hab];refine qI ?_
  repeat' (intro h<;>simp only[h,go_sem,go_sem_proc,agV,hl,ag0,bne,aho]<;>try refine qS ?_ ?_)
 ·have hle:a.length=b.length:=by have:=eq_of_beq hl;omega
  simp only[go_sem,go_sem_proc,agV,hl,ag0,bne,ag5];refine af [0,1] [] (fun (i:Nat) tm mem=>i≤a.length∧a.take i=b.take i∧tm 5 = .dat (.int .i64 i)) (fun i=>a.length-i) 0 (by refine⟨ahp _,by simp,rfl⟩) ?_;intro vs ms hvs hms;simp only[go_sem,go_sem_proc,agV,ag0] at hvs hms;subst hvs hms;rintro i tm mem hk hm ⟨hi,hall,e5⟩;simp only[go_sem,go_sem_proc,agV,List.cons.injEq] at hk hm;obtain⟨e0,e1⟩:=hk;rcases agW (i<a.length) with hlt | hge
  ·have d1:decide ((i:Int)<(a.length:Int))=true:=decide_eq_true (by omega)
   have w3:IntKind.i64.wrap ((i:Int)+1)=((i+1:Nat):Int):=by rw[al _ (by omega) (by omega)];omega
   obtain⟨x,hx⟩:∃ x,a[i]?=some x:=⟨_,agT hlt⟩;obtain⟨y,hy⟩:∃ x,b[i]?=some x:=⟨_,agT (by omega)⟩;have ox:=oa x (agS hx);rcases q:((x.length:Int)==(y.length:Int))
   ·have hab:(a==b)=false:=by rw[beq_eq_false_iff_ne];rintro rfl;rw[hx] at hy;cases hy;simp at q
    rw[hab];refine qI ?_
    repeat' (intro h<;>simp only[h,go_sem,go_sem_proc,agV,e0,e1,e5,hx,hy,d1,q,jj,ag0,agP,bne,aho]<;>try refine qS ?_ ?_)
   ·have hxy:x.length=y.length:=by have:=eq_of_beq q;omega
    simp only[go_sem,go_sem_proc,agV,e0,e1,e5,hx,hy,d1,q,jj,ag0,agP,bne,ag5];refine af [0,1,5] [] (fun (k:Nat) tm mem=>k≤x.length∧x.take k=y.take k∧tm 6 = .dat (.int .i64 k)) (fun k=>x.length-k) 0 (by refine⟨ahp _,by simp,rfl⟩) ?_;intro vs ms hvs hms;simp only[go_sem,go_sem_proc,agV,e0,e1,e5] at hvs hms;subst hvs hms;clear e0 e1 e5 hm tm mem;rintro k tm mem hk hm ⟨hki,hal2,e6⟩;simp only[go_sem,go_sem_proc,agV,List.cons.injEq] at hk hm;obtain⟨e0,e1,e5⟩:=hk;rcases agW (k<x.length) with hlk | hgk
    ·have d2:decide ((k:Int)<(x.length:Int))=true:=decide_eq_true (by omega)
     have w4:IntKind.i64.wrap ((k:Int)+1)=((k+1:Nat):Int):=by rw[al _ (by omega) (by omega)];omega
     obtain⟨u,hu⟩:∃ u,x[k]?=some u:=⟨_,agT hlk⟩;obtain⟨v,hv⟩:∃ u,y[k]?=some u:=⟨_,agT (by omega)⟩;rcases q2:(u==v)
     ·have hab:(a==b)=false:=by
       rw[beq_eq_false_iff_ne];rintro rfl;rw[hx] at hy
       cases hy;rw[hu] at hv
       cases hv;simp at q2
      rw[hab];refine qI ?_
      repeat' (intro h<;>simp only[h,go_sem,go_sem_proc,agV,e0,e1,e5,e6,hx,hy,hu,hv,d2,q2,jj,aa,ag0,agP,bne,aho]<;>try refine qS ?_ ?_)
     ·have huv:u=v:=by simpa using q2
      refine qI ?_
      repeat' (intro h<;>simp only[h,go_sem,go_sem_proc,agV,e0,e1,e5,e6,hx,hy,hu,hv,d2,w4,q2,jj,aa,ag0,agP,bne,ag5]<;>try refine qS ?_ ?_)
      exact⟨k+1,by omega,by omega,by rw[agZ,agZ,hal2,hu,hv,huv],rfl⟩
    ·have d2:decide ((k:Int)<(x.length:Int))=false:=decide_eq_false (by omega)
     rw[ahq (by omega),ahq (by omega)] at hal2;refine qI ?_
     repeat' (intro h<;>simp only[h,go_sem,go_sem_proc,agV,e0,e1,e5,e6,hx,d2,w3,jj,ag0,agP]<;>try refine qS ?_ ?_)
     exact⟨i+1,by omega,by omega,by rw[agZ,agZ,hall,hx,hy,hal2],rfl⟩
  ·have d1:decide ((i:Int)<(a.length:Int))=false:=decide_eq_false (by omega)
   rw[ahq (by omega),ahq (by omega)] at hall;have hab:(a==b)=true:=by rw[hall];exact beq_self_eq_true _
   rw[hab];refine qI ?_
   repeat' (intro h<;>simp only[h,go_sem,go_sem_proc,agV,e0,e1,e5,d1,ag0]<;>try refine qS ?_ ?_)
structure HasOK (cash:List Int) (cs:List ClR) (hv pv:List Int) (fl:List (List Int)):Prop where
 s:SmallD cash cs
 h:fE cash cs=hv.map fun n:Int=>aj (n:Rat)
 p:oZ cash cs=pv.map fun n:Int=>aj (n:Rat)
 f:((ab cash cs).frs.map fun r=>r.map fun n=>((n:Nat):Int))=fl
 hi:∀ n∈hv,cn n
 pi:∀ n∈pv,cn n
 o:DM fl
theorem HasOK.solve {cash:List Int} {cs:List ClR} {hv pv:List Int} {fl:List (List Int)} (h:HasOK cash cs hv pv fl):kX [.sl (cash.map aa),.sl (cs.map clL)]=some (.same (.tup [.agg [.sl ((hv.map fun n:Int=>aj (n:Rat)).map ae),.sl ((pv.map fun n:Int=>aj (n:Rat)).map ae),.sl (fl.map jj)],.int .i64 0])):=by
 have hn:=h.s.n5;have h12:=h.s.c12;have sv:=jK cash cs ⟨by omega,by omega,fun _=>h.s⟩
 unfold yc at sv;rw[if_pos h.s.right,h.h,h.p,GN,h.f] at sv;exact sv
theorem HasOK.fits {cash:List Int} {cs:List ClR} {hv pv:List Int} {fl:List (List Int)} (h:HasOK cash cs hv pv fl):sM [.sl (cash.map aa),.sl (cs.map clL),.sl ((hv.map fun n:Int=>aj (n:Rat)).map ae)]=some (.same (.bool true)):=by
 obtain⟨h1,h2⟩:=IA h.s;have:=Dx cash cs (fE cash cs) h1;rw[h2,h.h] at this;exact this
theorem HasOK.small {cash:List Int} {cs:List ClR} {hv pv:List Int} {fl:List (List Int)} (h:HasOK cash cs hv pv fl):hv.length≤5∧pv.length≤12:=by
 have h1:=congrArg ahK h.h;have h2:=congrArg ahK h.p;unfold fE at h1;unfold oZ at h2;rw[cI,ag0] at h1;rw[ag0,ag0] at h2;have hn:=h.s.n5;have h12:=h.s.c12;omega
noncomputable def C1:List Data→Option PRes:=FF (α:=(List Int) × (List ClR) × (List Int) × (List Int) × (List (List Int))) (fun (cash,cs,hv,pv,fl)=>([.sl (cash.map aa),.sl (cs.map clL),.sl (hv.map aa),.sl (pv.map aa),.sl (fl.map jj)]:List Data)) (fun (cash,cs,hv,pv,fl)=>aI (HasOK cash cs hv pv fl) (.same (.bool true)))
theorem B8:∀ a b:(List Int) × (List ClR) × (List Int) × (List Int) × (List (List Int)),(fun (cash,cs,hv,pv,fl)=>([.sl (cash.map aa),.sl (cs.map clL),.sl (hv.map aa),.sl (pv.map aa),.sl (fl.map jj)]:List Data)) a=(fun (cash,cs,hv,pv,fl)=>([.sl (cash.map aa),.sl (cs.map clL),.sl (hv.map aa),.sl (pv.map aa),.sl (fl.map jj)]:List Data)) b→a=b:=by
  rintro⟨cash1,cs1,hv1,pv1,fl1⟩ ⟨cash2,cs2,hv2,pv2,fl2⟩ h;simp only[List.cons.injEq,Data.sl.injEq,and_true] at h;exact ag2 (ah ak _ _ h.1) (ag2 (ah f7 _ _ h.2.1) (ag2 (ah ak _ _ h.2.2.1) (ag2 (ah ak _ _ h.2.2.2.1) (ah uR _ _ h.2.2.2.2))))
@[go_sem] theorem oc (cash:List Int) (cs:List ClR) (hv:List Int) (pv:List Int) (fl:List (List Int)) (hc:HasOK cash cs hv pv fl):C1 [.sl (cash.map aa),.sl (cs.map clL),.sl (hv.map aa),.sl (pv.map aa),.sl (fl.map jj)]=some (.same (.bool true)):=(aZ B8 (cash,cs,hv,pv,fl)).trans (ap hc _)
theorem NI (T:Tab) (ca:T de=mkE kX) (dD:T gW=mkE lB) (cz:T iH=mkE nC) (au:T aV=mkE cV) (aK:T aY=mkE fQ) (kn:T lH=mkE sM) (cash:List Int) (cs:List ClR) (hv:List Int) (pv:List Int) (fl:List (List Int)) (hc:HasOK cash cs hv pv fl) :
  wp T mf_law20_has.body (bG mf_law20_has.res (.same (.bool true))) ⟨az [.dat (.sl (cash.map aa)),.dat (.sl (cs.map clL)),.dat (.sl (hv.map aa)),.dat (.sl (pv.map aa)),.dat (.sl (fl.map jj))],emp⟩:=by
 refine aq ?_;simp only[mf_law20_has];have sv:=hc.solve;have ft:=hc.fits;have sr:=rU fl fl ⟨hc.o,hc.o⟩;rw[beq_self_eq_true] at sr;obtain⟨l1,l2⟩:=hc.small;have hhi:=hc.hi;have hpi:=hc.pi;clear hc;simp only[go_sem,go_sem_proc,agV,ca,dD,cz,au,aK,kn,sv,sr,ag0,bne,beq_self_eq_true,ag5];refine af [0,1,2,3,11] [226011] (fun (i:Nat) tm mem=>i≤hv.length∧tm 13 = .dat (.int .i64 i)) (fun i=>hv.length-i) 0 (by refine⟨ahp _,rfl⟩) ?_;intro vs ms hvs hms;simp only[go_sem,go_sem_proc,agV,ca,dD,cz,au,aK,kn,ag0] at hvs hms;subst hvs hms;rintro i tm mem hk hm ⟨hi,e13⟩;simp only[go_sem,go_sem_proc,agV,ca,dD,cz,au,aK,kn,List.cons.injEq] at hk hm;obtain⟨e0,e1,e2,e3,e11⟩:=hk;rcases agW (i<hv.length) with hlt | hge
 ·have d1:decide ((i:Int)<(hv.length:Int))=true:=decide_eq_true (by omega)
  have w3:IntKind.i64.wrap ((i:Int)+1)=((i+1:Nat):Int):=by rw[al _ (by omega) (by omega)];omega
  obtain⟨n,hn⟩:∃ n,hv[i]?=some n:=⟨_,agT hlt⟩;have hin:=hhi n (agS hn);have hl:=fM hin;have a1:=vY hin;have a2:=eT hl hl;have a3:=xa hl;rw[wW] at a2;generalize hF:aj ((n:Int):Rat)=F at *;obtain⟨⟨f1,f2⟩,⟨f3,f4⟩⟩:=F;simp only[ae] at a1 a2 a3;refine qI ?_
  repeat' (intro h<;>simp only[h,go_sem,go_sem_proc,agV,ca,dD,cz,au,aK,kn,e0,e1,e2,e3,e11,e13,hm,hn,hF,d1,w3,a1,a2,a3,ae,aa,ag0,agP,bne,beq_self_eq_true,ag5]<;>try refine qS ?_ ?_)
  exact⟨i+1,by omega,by omega,rfl⟩
 ·have d1:decide ((i:Int)<(hv.length:Int))=false:=decide_eq_false (by omega)
  simp only[go_sem,go_sem_proc,agV,ca,dD,cz,au,aK,kn,e0,e1,e2,e3,e11,e13,hm,d1,ag0];refine af [0,1,3,11] [226011] (fun (i:Nat) tm mem=>i≤pv.length∧tm 14 = .dat (.int .i64 i)) (fun i=>pv.length-i) 0 (by refine⟨ahp _,rfl⟩) ?_;intro vs ms hvs hms;simp only[go_sem,go_sem_proc,agV,ca,dD,cz,au,aK,kn,e0,e1,e3,e11,hm,ag0] at hvs hms;subst hvs hms;clear e0 e1 e2 e3 e11 e13 hm d1 tm mem;rintro i tm mem hk hm ⟨hi,e14⟩;simp only[go_sem,go_sem_proc,agV,ca,dD,cz,au,aK,kn,List.cons.injEq] at hk hm;obtain⟨e0,e1,e3,e11⟩:=hk;rcases agW (i<pv.length) with hlt | hge
  ·have d1:decide ((i:Int)<(pv.length:Int))=true:=decide_eq_true (by omega)
   have w3:IntKind.i64.wrap ((i:Int)+1)=((i+1:Nat):Int):=by rw[al _ (by omega) (by omega)];omega
   obtain⟨n,hn⟩:∃ n,pv[i]?=some n:=⟨_,agT hlt⟩;have hin:=hpi n (agS hn);have hl:=fM hin;have a1:=vY hin;have a2:=eT hl hl;have a3:=xa hl;rw[wW] at a2;generalize hF:aj ((n:Int):Rat)=F at *;obtain⟨⟨f1,f2⟩,⟨f3,f4⟩⟩:=F;simp only[ae] at a1 a2 a3;refine qI ?_
   repeat' (intro h<;>simp only[h,go_sem,go_sem_proc,agV,ca,dD,cz,au,aK,kn,e0,e1,e3,e11,e14,hm,hn,hF,d1,w3,a1,a2,a3,ae,aa,ag0,agP,bne,beq_self_eq_true,ag5]<;>try refine qS ?_ ?_)
   exact⟨i+1,by omega,by omega,rfl⟩
  ·have d1:decide ((i:Int)<(pv.length:Int))=false:=decide_eq_false (by omega)
   refine qI ?_
   repeat' (intro h<;>simp only[h,go_sem,go_sem_proc,agV,ca,dD,cz,au,aK,kn,e0,e1,e3,e11,e14,hm,d1,ft,ag0]<;>try refine qS ?_ ?_)
end Go.Mini
