/- A part of the proof. -/
import Derived.Test.YtdbkjjoedjfmpaaM13
import Derived.Test.YtdbkjjoedjfmpaaM11
import Derived.Test.YtdbkjjoedjfmpaaM12
set_option linter.unusedSimpArgs false
set_option linter.unusedVariables false
open List renaming getElem?_map → agn, take_zero → agp, mem_of_getElem? → agq, getElem?_eq_getElem → agr, getD_eq_getElem?_getD → ags, take_add_one → agx, length_map → agy, length_filter_le → agC, foldl_append → agE, map_append → agF, map_nil → agH, eq_nil_or_concat → agI, concat_eq_append → agJ, length_append → agK, length_singleton → agL, mem_map_of_mem → agN, getElem?_cons_zero → agS, getElem?_cons_succ → agU, take_succ_cons → agV, take_of_length_le → agY, drop_succ_cons → ag0, map_cons → ag1, drop_zero → ag2, mapM_cons → ag3, length_cons → ag4, map_map → ag5, any_eq_false → ag9, map_id → ahb, map_congr_left → ahc, mem_cons_of_mem → ahd, mem_cons_self → ahe, length_range → ahg, range → ahh, all_eq_true → ahi, length → ahk
open Option renaming map_some → ago, bind_some → agM, bind_none → ag6
open Bool renaming false_eq_true → agt, not_true → agD, and_eq_true → agP, and_false → agR, false_and → agT, not_false → agW, not_eq_true' → aha, true_and → ahf
open Decidable renaming em → agu
open Nat renaming mul_one → agv, reduceEqDiff → agz, le_trans → agB, zero_le → agX, le_refl → agZ, le_of_lt → ahj
open Int renaming toNat_natCast → agw, reduceLE → ag7, reduceToNat → ag8
open Prod renaming ext → agA
open Rat renaming add_zero → agG, intCast_natCast → agO, intCast_mul → agQ
namespace Go.Mini
open Go
set_option maxRecDepth 10000
set_option maxHeartbeats 4000000
def plM (l:List Nat):MV:=if l=[] then .nil else .dat (.sl (l.map gJ))
theorem Lf (l:List Nat):oP (plM l)=some l.length:=by
 unfold plM
 split
 ·rename_i h;rw[h];rfl
 ·simp [oP]
theorem KN {l:List Nat} {n y:Nat} (h:l[n]?=some y):xZ 1 n (plM l)=some (.dat (.ptr (gJ y))):=by
 unfold plM
 split
 ·rename_i hl;rw[hl] at h;cases h
 ·simp only[xZ,agn,h,ago]
  rfl
theorem LZ (l:List ClR) (n:Nat) (m:Mem):toD n m (clM l)=some (.sl (l.map clL)):=by
 unfold clM
 split
 ·rename_i h;rw[h];exact KV n
 ·exact sE n _
noncomputable def pyE (cs:List ClR) (h:List Rat) (j:Nat):aF:=aj (cv cs (h.getD (cs.getD j zC).1.toNat 0) (cs.getD j zC))
noncomputable def pyQ (cs:List ClR) (h:List Rat) (i t j:Nat):Option aF:=if (cs.getD j zC).1<(i:Int)∨((cs.getD j zC).1=(i:Int)∧j∈(plc cs i).take t) then some (pyE cs h j) else none
theorem Li (cs:List ClR) (h:List Rat) (i:Nat):(fL cs.length fun j=>pyQ cs h i (plc cs i).length j)=fL cs.length fun j=>pyQ cs h (i+1) 0 j:=bW fun j hj=>by
 unfold pyQ;rw[List.take_length,agp];have hm:=plc_mem (l:=cs) (i:=i) (j:=j)
 by_cases h1:(cs.getD j zC).1<(i:Int)
 ·rw[if_pos (.inl h1),if_pos (.inl (by omega))]
 ·by_cases h2:(cs.getD j zC).1=(i:Int)
  ·rw[if_pos (.inr ⟨h2,hm.2 ⟨hj,h2⟩⟩),if_pos (.inl (by omega))]
  ·rw[if_neg (fun hh=>hh.elim h1 fun x=>h2 x.1),if_neg (fun hh=>hh.elim (by omega) fun x=>by simpa using x.2)]
theorem Jj (cs:List ClR) (h:List Rat) (hp:xK cs h):(fL cs.length fun j=>pyQ cs h 0 0 j)=fL cs.length fun _=>none:=bW fun j hj=>by
 have:=(hp.c _ (agq (agr hj))).1;have e:cs.getD j zC=cs[j]:=by rw[ags,agr hj];rfl
 unfold pyQ;rw[e,agp,if_neg (fun hh=>hh.elim (by omega) fun x=>by simpa using x.2)]
theorem Ot (cs:List ClR) (h:List Rat) (hp:xK cs h):(fL cs.length fun j=>pyQ cs h h.length 0 j)=(cs.map fun c=>aj (cv cs (h.getD c.1.toNat 0) c)).map some:=by
 refine (EC (by simp) fun j hj=>?_).symm;have:=(hp.c _ (agq (agr hj))).2.1;have e:cs.getD j zC=cs[j]:=by rw[ags,agr hj];rfl
 unfold pyQ;rw[agn,agn,agr hj,e,if_pos (.inl this)];unfold pyE;rw[e];rfl
theorem QK (T:Tab) {K:bM→St→Prop} {kk:List Todo} (cs:List ClR) (h:List Rat) (hp:xK cs h) (i:Nat) (hi:i<h.length) (v1 v7 v58 v59 v60:MV) (x19 x22:Option (Nat × List MV)) (tm:Nat→MV) (m:Mem)
  (e1:tm 1=v1) (e7:tm 7=v7) (e10:tm 10 = .ref 233057 0 4 0 cs.length) (e13:tm 13 = .dat (.sl (((di cs i).map fun c=>aj (cv cs (h.getD i 0) c)).map ad))) (e58:tm 58=v58) (e59:tm 59=v59) (e60:tm 60=v60) (e79:tm 79=plM (plc cs i)) (e80:tm 80 = .dat (.int .i64 (plc cs i).length)) (e81:tm 81 = .dat (.int .i64 0)) (m19:m 233019=x19) (m22:m 233022=x22) (m57:m 233057=some (0,ke oQ (fL cs.length fun j=>pyQ cs h i 0 j)))
  (hK:∀ tm' m',tm' 1=v1→tm' 7=v7→tm' 10 = .ref 233057 0 4 0 cs.length→tm' 58=v58→tm' 59=v59→tm' 60=v60→m' 233019=x19→m' 233022=x22→m' 233057=some (0,ke oQ (fL cs.length fun j=>pyQ cs h (i+1) 0 j))→kont T K kk (.exit 4) ⟨tm',m'⟩) :
  wp T (mf_clear_payments.body.sub [1,1,1,1,1,0,1,0,0,1,1,0,0,1,1,1,1,0]) (kont T K kk) ⟨tm,m⟩:=by
 simp only[mf_clear_payments,MCode.sub];have h12:=hp.len;have hpl:=Nq cs i;refine ae [1,7,10,13,58,59,60,79,80] [233019,233022] (fun (k:Nat) tm m=>k≤(plc cs i).length∧tm 81 = .dat (.int .i64 k)∧m 233057=some (0,ke oQ (fL cs.length fun j=>pyQ cs h i k j))) (fun k=>(plc cs i).length-k) 0 (by refine⟨by omega,e81,m57⟩) ?_;intro vs ms hvs hms;simp only[go_sem,go_sem_proc,agt,e1,e7,e10,e13,e58,e59,e60,e79,e80,m19,m22] at hvs hms;subst hvs hms;clear e1 e7 e10 e13 e58 e59 e60 e79 e80 e81 m19 m22 m57 tm m;rintro k tm m hk hm ⟨hkl,e81,m57⟩;simp only[go_sem,go_sem_proc,agt,List.cons.injEq] at hk hm;obtain⟨e1,e7,e10,e13,e58,e59,e60,e79,e80⟩:=hk;obtain⟨m19,m22⟩:=hm;rcases agu (k<(plc cs i).length) with hlt | hge
 ·have d1:decide ((k:Int)<((plc cs i).length:Int))=true:=decide_eq_true (by omega)
  have w3:IntKind.i64.wrap ((k:Int)+1)=((k+1:Nat):Int):=by rw[an _ (by omega) (by omega)];omega
  obtain⟨y,hy⟩:∃ y,(plc cs i)[k]?=some y:=⟨_,agr hlt⟩;obtain⟨hyl,hyi⟩:=plc_mem.1 (agq hy);have hia:=KN hy;simp only[go_sem,go_sem_proc,agt,agv] at hia
  have hog:((di cs i).map fun c=>aj (cv cs (h.getD i 0) c))[k]?=some (pyE cs h y):=by
   rw[DO,agn,agn,hy];unfold pyE;rw[hyi,agw];rfl
  have hlen4:=BT (q:=fun j=>pyQ cs h i k j) hyl;have hset:=fun a b c d=>BQ (q:=fun j=>pyQ cs h i k j) hyl a b c d
  have hnx:∀ F:aF,F=pyE cs h y→(fL cs.length fun j=>if j=y then some F else pyQ cs h i k j)=fL cs.length fun j=>pyQ cs h i (k+1) j:=fun F hF=>bW fun j _=>by
   have htk:(plc cs i).take (k+1)=(plc cs i).take k++[y]:=by rw[agx,hy];rfl
   by_cases hj:j=y
   ·subst hj
    rw[if_pos rfl];unfold pyQ;rw[htk,if_pos (.inr ⟨hyi,by simp⟩),hF]
   ·rw[if_neg hj]
    unfold pyQ;rw[htk]
    by_cases h1:(cs.getD j zC).1<(i:Int)∨((cs.getD j zC).1=(i:Int)∧j∈(plc cs i).take k)
    ·rw[if_pos h1,if_pos (h1.imp id fun x=>⟨x.1,by simp [x.2]⟩)]
    ·rw[if_neg h1,if_neg fun hh=>h1 (hh.imp id fun x=>⟨x.1,by simpa [hj] using x.2⟩)]
  have hn:=hnx _ rfl;clear hK;generalize ((di cs i).map fun c=>aj (cv cs (h.getD i 0) c))=PD at *;generalize pyE cs h y=F at *;obtain⟨⟨a1,a2⟩,⟨a3,a4⟩⟩:=F;have hst:=hset a1 a2 a3 a4;rw[hn] at hst;simp only[go_sem,go_sem_proc,agt,e1,e7,e10,e13,e58,e59,e60,e79,e80,e81,m19,m22,m57,d1,w3,hia,hog,hlen4,hst,hyl,gJ,ad,agv,agy,agn]
  repeat' (first|refine qS ?_ ?_|fail)<;>intro h<;>simp only[h,go_sem,go_sem_proc,agt,e1,e7,e10,e13,e58,e59,e60,e79,e80,e81,m19,m22,m57,d1,w3,hia,hog,hlen4,hst,hyl,gJ,ad,agv,agy,agn]
  exact⟨k+1,by omega,by omega,rfl,rfl⟩
 ·have d1:decide ((k:Int)<((plc cs i).length:Int))=false:=decide_eq_false (by omega)
  obtain rfl:k=(plc cs i).length:=by omega
  rw[Li] at m57;simp only[go_sem,go_sem_proc,agt,e1,e7,e10,e13,e58,e59,e60,e79,e80,e81,d1]
  repeat' (first|refine qS ?_ ?_|fail)<;>intro h<;>simp only[h,go_sem,go_sem_proc,agt,e1,e7,e10,e13,e58,e59,e60,e79,e80,e81,d1]
  refine hK _ _ ?_ ?_ ?_ ?_ ?_ ?_ m19 m22 m57<;>simp only[aU,agz,if_false,e1,e7,e10,e58,e59,e60]
theorem nrow (n:Nat):(List.replicate n [MV.nil]).flatten=fL n fun _ => .nil:=by
 induction n with
 | zero=>rfl
 | succ n ih=>rw[List.replicate_succ',List.flatten_append,ih,EI];rfl
theorem Jo {a b:List Rat} (h:(a.map aj).map ad=(b.map aj).map ad):a=b:=af (fun _ _ h=>Bm h) _ _ (af de _ _ h)
noncomputable def qx:List Data→Option PRes:=FF (α:=(List ClR) × (List Rat)) (fun (cs,h)=>([.sl (cs.map clL),.sl ((h.map aj).map ad)]:List Data)) (fun (cs,h)=>aI (xK cs h) (.same (.tup [.sl ((cs.map fun c=>aj (cv cs (h.getD c.1.toNat 0) c)).map ad),.bool true])))
theorem Bt:∀ a b:(List ClR) × (List Rat),(fun (cs,h)=>([.sl (cs.map clL),.sl ((h.map aj).map ad)]:List Data)) a=(fun (cs,h)=>([.sl (cs.map clL),.sl ((h.map aj).map ad)]:List Data)) b→a=b:=by
  rintro⟨cs1,h1⟩ ⟨cs2,h2⟩ h;simp only[List.cons.injEq,Data.sl.injEq,and_true] at h;exact agA (af f5 _ _ h.1) (Jo h.2)
@[go_sem] theorem tq (cs:List ClR) (h:List Rat) (hc:xK cs h):qx [.sl (cs.map clL),.sl ((h.map aj).map ad)]=some (.same (.tup [.sl ((cs.map fun c=>aj (cv cs (h.getD c.1.toNat 0) c)).map ad),.bool true])):=(aX Bt (cs,h)).trans (al hc _)
theorem K0 (T:Tab) (fO:T lu=mkE t8) (cs:List ClR) (h:List Rat) (hc:xK cs h) :
  wp T mf_clear_payments.body (bF mf_clear_payments.res (.same (.tup [.sl ((cs.map fun c=>aj (cv cs (h.getD c.1.toNat 0) c)).map ad),.bool true]))) ⟨ax [.dat (.sl (cs.map clL)),.dat (.sl ((h.map aj).map ad))],emp⟩:=by
 refine ap ?_;simp only[mf_clear_payments];have hn:=hc.n;have h12:=hc.len;have hmk1:(24*h.length≤140737488355328)=True:=eq_true (by omega);have hmk2:(h.length≤maxLen)=True:=eq_true (by unfold maxLen;omega);have hmk3:(64*cs.length≤140737488355328)=True:=eq_true (by omega);have hmk4:(cs.length≤maxLen)=True:=eq_true (by unfold maxLen;omega);have hz:=nrow h.length;have hz2:=vZ cs.length;rw[←Jj cs h hc] at hz2;simp only[go_sem,go_sem_proc,agt,fO,hmk1,hmk2,hz,agy];refine Rl T cs h hc (.dat (.sl ((h.map aj).map ad))) _ _ ?_ ?_ ?_ ?_ ?_ ?_ ?_ ?_ (fun _=>0) (fun _=>0) ⟨?_,?_,fun i hi hne=>absurd rfl hne,fun i hi hne=>absurd rfl hne⟩ ?_
 all_goals first | (intro tm m gc gp k0 k1 k6 k7 m57 hat) | (simp only[aU,agz,if_false,if_true];done) | (simp only[aU,agz,if_false,if_true];rfl) | (simp only[az,agz,if_false,if_true];rfl) | skip
 obtain⟨m1,h1,h2,h3⟩:=sM (fun i=>233600+i) (fun i=>clM (di cs i)) (fun i hi=>by omega) (fun i j _ _ he=>by omega) h.length 0 (pc cs gc) m (by omega) hat.r1 (fun i hi=>by omega) fun i _ hi=>by
  by_cases hce:di cs i=[]
  ·refine .inl ?_
   unfold pc clM;rw[if_pos hce,if_pos hce]
  ·refine .inr ⟨gc i,4,(di cs i).length,aA clL (di cs i),.sl ((di cs i).map clL),?_,hat.k1 i hi hce,fun m2 hm2=>eO (n:=0) oH hm2,?_⟩
   ·unfold pc;rw[if_neg hce]
   ·unfold clM;rw[if_neg hce]
 have h22:m1 233022=some (0,fL h.length (pp cs gp)):=(h3 233022 (by decide) fun i hi=>by omega).trans hat.r2;have h57:m1 233057=none:=(h3 233057 (by decide) fun i hi=>by omega).trans m57
 obtain⟨m2,g1,g2,g3⟩:=sM (fun i=>233700+i) (fun i=>plM (plc cs i)) (fun i hi=>by omega) (fun i j _ _ he=>by omega) h.length 0 (pp cs gp) m1 (by omega) h22 (fun i hi=>by omega) fun i _ hi=>by
  by_cases hce:di cs i=[]
  ·refine .inl ?_
   have hpe:plc cs i=[]:=List.length_eq_zero_iff.1 (by rw[sK,hce];rfl);unfold pp plM;rw[if_pos hce,if_pos hpe]
  ·have hpe:plc cs i≠[]:=fun hh=>hce (List.length_eq_zero_iff.1 (by rw[←sK,hh];rfl))
   refine .inr ⟨gp i,1,(di cs i).length,aA gJ (plc cs i),.sl ((plc cs i).map gJ),?_,?_,fun m2 hm2=>by rw[←sK];exact eO (n:=0) gW hm2,?_⟩
   ·unfold pp;rw[if_neg hce]
   ·exact (h3 (233700+i) (by omega) fun j hj=>by omega).trans (hat.k2 i hi hce)
   ·unfold plM;rw[if_neg hpe]
 have q19:m2 233019=some (0,fL h.length fun i=>clM (di cs i)):=(g3 233019 (by decide) fun i hi=>by omega).trans h2;have q57:m2 233057=none:=(g3 233057 (by decide) fun i hi=>by omega).trans h57;simp only[go_sem,go_sem_proc,agt,fO];refine AB (h1.trans g1) ?_;clear h1 h2 h3 g1 g3 h22 h57 hat m57;simp only[go_sem,go_sem_proc,agt,fO,k0,k1,k6,k7,hmk3,hmk4,hz2,q57,agy];refine ae [1,7,10,58,59] [233019,233022] (fun (i:Nat) tm m=>i≤h.length∧tm 60 = .dat (.int .i64 i)∧m 233057=some (0,ke oQ (fL cs.length fun j=>pyQ cs h i 0 j))) (fun i=>h.length-i) 0 (by refine⟨by omega,rfl,by simp [az]⟩) ?_;intro vs ms hvs hms;simp only[go_sem,go_sem_proc,agt,fO,k1,k7,q19,g2,agy] at hvs hms;subst hvs hms;clear k0 k1 k6 k7 q19 q57 g2 tm m m1 m2;rintro i tm m hk hm ⟨hi,e60,m57⟩;simp only[go_sem,go_sem_proc,agt,fO,List.cons.injEq] at hk hm;obtain⟨e1,e7,e10,e58,e59⟩:=hk;obtain⟨m19,m22⟩:=hm;rcases agu (i<h.length) with hlt | hge
 ·have d1:decide ((i:Int)<(h.length:Int))=true:=decide_eq_true (by omega)
  have w3:IntKind.i64.wrap ((i:Int)+1)=((i+1:Nat):Int):=by rw[an _ (by omega) (by omega)];omega
  obtain⟨x,hx⟩:∃ x,h[i]?=some x:=⟨_,agr hlt⟩;have hxd:h.getD i 0=x:=by rw[ags,hx];rfl
  have hx0:=hc.x x (agq hx)
  have hown:OwnOK (di cs i):=⟨agB (agC _ _) h12,fun c hcm=>by
   have h1:=hc.c c (own_mem.1 hcm).1;omega,fun c hcm c' hcm'=>by rw[(own_mem.1 hcm).2,(own_mem.1 hcm').2]⟩
  have hF:=AR x (di cs i) ⟨hown,hx0.1,hx0.2⟩;rw[GC,←hxd] at hF;rw[←hxd] at hx;have r1:=ni (cP (fun i=>clM (di cs i)) hlt);have r2:=ni (cP (fun i=>plM (plc cs i)) hlt);have n1:(fL h.length fun i=>clM (di cs i)).length=h.length:=bQ _ _;have n2:(fL h.length fun i=>plM (plc cs i)).length=h.length:=bQ _ _;have l1:i+1≤h.length:=by omega
  have htd:=LZ (di cs i) 6;have hpln:=Lf (plc cs i);simp only[go_sem,go_sem_proc,agt,fO] at hpln;generalize hX:aj (h.getD i 0)=X at *;obtain⟨⟨a1,a2⟩,⟨a3,a4⟩⟩:=X;simp only[ad] at hF;simp only[go_sem,go_sem_proc,agt,fO,fO,e1,e7,e10,e58,e59,e60,m19,m22,m57,d1,r1,r2,n1,n2,l1,hlt,hx,hX,htd,hF,hpln,ad,agv,agy,agn,bne,beq_self_eq_true,agD];refine QK T cs h hc i hlt (.dat (.sl ((h.map aj).map ad))) (.ref 233022 0 1 0 h.length) (.ref 233019 0 1 0 h.length) (.dat (.int .i64 h.length)) (.dat (.int .i64 i)) _ _ _ _ ?_ ?_ ?_ ?_ ?_ ?_ ?_ ?_ ?_ ?_ m19 m22 m57 ?_
  all_goals first | (intro tm' m' k1 k7 k10 k58 k59 k60 q19 q22 q57) | (simp only[aU,agz,if_false,if_true,e1,e7,e10,e58,e59,e60];done)
  simp only[go_sem,go_sem_proc,agt,fO,k1,k7,k10,k58,k59,k60,q19,q22,q57,w3]
  repeat' (first|refine qS ?_ ?_|fail)<;>intro h<;>simp only[h,go_sem,go_sem_proc,agt,fO,k1,k7,k10,k58,k59,k60,q19,q22,q57,w3]
  exact⟨i+1,by omega,by omega,rfl,rfl⟩
 ·have d1:decide ((i:Int)<(h.length:Int))=false:=decide_eq_false (by omega)
  obtain rfl:i=h.length:=by omega
  rw[Ot cs h hc,Bc] at m57;have hfz:=fun (K:St→Prop) (st:St)=>cy (K:=K) (st:=st) co 10 233057 0 (cs.map fun c=>aj (cv cs (h.getD c.1.toNat 0) c))
  rw[agy] at hfz;simp only[go_sem,go_sem_proc,agt,fO,e1,e7,e10,e58,e59,e60,d1,m57,hfz,agy]
  repeat' (first|refine qS ?_ ?_|fail)<;>intro h<;>simp only[h,go_sem,go_sem_proc,agt,fO,e1,e7,e10,e58,e59,e60,d1,m57,hfz,agy]
end Go.Mini
namespace Go.Mini
open Classical
noncomputable def nt (cs:List ClR) (x:Nat→Rat) (i:Nat) (acc:Option Rat) (c:ClR):Option Rat :=
 if c.2.1=(i:Int) then acc.bind fun s=>if gP s (cv cs (x c.1.toNat) c)=true then some (s+cv cs (x c.1.toNat) c) else none else acc
noncomputable def nU (cash:List Int) (cs:List ClR) (x:Nat→Rat) (i:Nat) (l:List ClR):Option Rat:=l.foldl (nt cs x i) (some ((cash.getD i 0:Int):Rat))
theorem sR (cash:List Int) (cs:List ClR) (x:Nat→Rat) (i:Nat):nU cash cs x i []=some ((cash.getD i 0:Int):Rat):=rfl
theorem ku (cash:List Int) (cs:List ClR) (x:Nat→Rat) (i:Nat) (l:List ClR) (c:ClR):nU cash cs x i (l++[c])=nt cs x i (nU cash cs x i l) c:=by
 unfold nU;rw[agE];rfl
theorem BX (cs:List ClR) (x:Nat→Rat) (i:Nat) (l:List ClR):l.foldl (nt cs x i) none=none:=by
 induction l with
 | nil=>rfl
 | cons c l ih =>
  have:nt cs x i none c=none:=by unfold nt;split<;>rfl
  rw[List.foldl_cons,this,ih]
theorem GM {cash:List Int} {cs:List ClR} {x:Nat→Rat} {i:Nat} {l:List ClR} (h:nU cash cs x i l=none) (m:List ClR):nU cash cs x i (l++m)=none:=by
 unfold nU at *;rw[agE,h,BX]
noncomputable def oO (cash:List Int) (cs:List ClR) (x:Nat→Rat) (i:Nat) (l:List ClR):Rat:=((cash.getD i 0:Int):Rat)+sumC (l.map bE) fun c=>if c.to=(i:Int) then (ac cash cs).pay x c else 0
theorem AN {cash:List Int} {cs:List ClR} (h:cS cash cs=true) (x:Nat→Rat) (i:Nat) (l:List ClR) {c:ClR} (hc:c∈cs):oO cash cs x i (l++[c])=oO cash cs x i l+if c.2.1=(i:Int) then cv cs (x c.1.toNat) c else 0:=by
 unfold oO;rw[agF,nn,←MN h x hc]
 show _+(_+((if (bE c).to=(i:Int) then (ac cash cs).pay x (bE c) else 0)+0))=_;have e:(bE c).to=c.2.1:=rfl;rw[e,agG];grind
theorem NE {cash:List Int} {cs:List ClR} (h:cS cash cs=true) (x:Nat→Rat) (i:Nat):∀ n (l:List ClR),l.length=n→(∀ c∈l,c∈cs)→∀ s,nU cash cs x i l=some s→s=oO cash cs x i l:=by
 intro n
 induction n with
 | zero =>
  intro l hl _ s hs;have:l=[]:=List.length_eq_zero_iff.1 hl;subst this;rw[sR,Option.some.injEq] at hs;rw[←hs];unfold oO;rw[agH,sumC,agG]
 | succ n ih =>
  intro l hl hm s hs;rcases agI l with h0 | ⟨l',c,rfl⟩
  ·subst h0;cases hl
  ·rw[agJ] at *
   simp only[agK,agL] at hl;have hc:=hm c (by simp);rw[ku] at hs;rw[AN h x i l' hc];have ih:=ih l' (by omega) (fun y hy=>hm y (by simp [hy]));unfold nt at hs
   by_cases hto:c.2.1=(i:Int)
   ·rw[if_pos hto] at hs
    cases ha:nU cash cs x i l' with
    | none=>rw[ha] at hs;cases hs
    | some t =>
     rw[ha,agM] at hs;rw[ih t ha] at hs
     by_cases hk:gP (oO cash cs x i l') (cv cs (x c.1.toNat) c)=true
     ·rw[if_pos hk,Option.some.injEq] at hs
      rw[if_pos hto,hs]
     ·rw[if_neg hk] at hs;cases hs
   ·rw[if_neg hto] at hs
    rw[if_neg hto,agG];exact ih s hs
def qv (cash:List Int) (cs:List ClR) (x:Nat→Rat):Prop:=∀ i,i<cash.length→nU cash cs x i cs=some (x i)
theorem H9 {cash:List Int} {cs:List ClR} (h:cS cash cs=true) {x:Nat→Rat} (hf:qv cash cs x):∀ i,i<cash.length→x i=(ac cash cs).phi x i:=fun i hi=>by
 rw[NE h x i _ cs rfl (fun c hc=>hc) _ (hf i hi)]
 rfl
section
variable {cash:List Int} {cs:List ClR} (hs:SmallD cash cs)
include hs
theorem Ky:0<g5 cash.length (ss cash cs)∧g5 cash.length (ss cash cs)≤2^145:=by
 refine⟨rt fun k hk=>A7 hs hk,agB (tS fun k _=>D7 hs k) (Nat.pow_le_pow_right (by omega) ?_)⟩
 have:=hs.n5;omega
theorem DD:∃ M:Nat,0<M∧(∃ a,a≤547∧M≤2^a)∧(∀ i,i<cash.length→DenBy M ((ac cash cs).gr i))∧∀ c∈cs,DenBy M ((ac cash cs).pay (ac cash cs).gr (bE c)):=by
 obtain⟨M,h1,⟨a,h2,h3⟩,h4⟩:=HB hs;obtain⟨p1,p2⟩:=Ky hs;refine⟨M*g5 cash.length (ss cash cs),Nat.mul_pos h1 p1,⟨a+145,by omega,by rw[Nat.pow_add];exact Nat.mul_le_mul h3 p2⟩,fun i hi=>(h4 i hi).more _,fun c hc=>?_⟩
 have h5:=DM hs h4 hc;have hk:(bE c).fr<cash.length:=hs.ok.fr _ (agN hc);refine h5.of_dvd ?_;obtain⟨m,hm⟩:=rz (D:=ss cash cs) hk;exact⟨m,by rw[hm,Nat.mul_assoc]⟩
theorem K8 {i:Nat} (hi:i<cash.length) {l l':List ClR} (hl:cs=l++l'):szR 598 (oO cash cs (ac cash cs).gr i l):=by
 obtain⟨M,h1,⟨a,h2,h3⟩,-,h4⟩:=DD hs
 have hpn:∀ m:List ClR,(∀ c∈m,c∈cs)→0≤sumC (m.map bE) fun c=>if c.to=(i:Int) then (ac cash cs).pay (ac cash cs).gr c else 0:=fun m hm=>dT fun y hy=>by
  obtain⟨c,hc,rfl⟩:=List.mem_map.1 hy
  try dsimp only
  split
  ·exact hs.ok.pay_nonneg _ (agN (hm c hc))
  ·exact Rat.le_refl
 have hm1:∀ c∈l,c∈cs:=fun c hc=>by rw[hl];simp [hc]
 have hm2:∀ c∈l',c∈cs:=fun c hc=>by rw[hl];simp [hc]
 have hc0:(0:Rat)≤((cash.getD i 0:Int):Rat):=by have:=(hs.cash i).1;exact_mod_cast this
 have hd:DenBy M (oO cash cs (ac cash cs).gr i l):=by
  unfold oO;refine (DenBy.int _ _).add (DenBy.sumC fun y hy=>?_);obtain⟨c,hc,rfl⟩:=List.mem_map.1 hy
  split
  ·exact h4 c (hm1 c hc)
  ·exact DenBy.zero _
 have h0:0≤oO cash cs (ac cash cs).gr i l:=by
  have:=hpn l hm1;unfold oO;grind
 have hle:oO cash cs (ac cash cs).gr i l≤(ac cash cs).gr i:=by
  rw[(ta hs.ok).1 i hi]
  have e:(ac cash cs).phi (ac cash cs).gr i=oO cash cs (ac cash cs).gr i l+sumC (l'.map bE) fun c=>if c.to=(i:Int) then (ac cash cs).pay (ac cash cs).gr c else 0:=by
   have e2:(ac cash cs).phi (ac cash cs).gr i=((cash.getD i 0:Int):Rat)+sumC (cs.map bE) fun c=>if c.to=(i:Int) then (ac cash cs).pay (ac cash cs).gr c else 0:=rfl
   rw[e2];unfold oO;have e3:sumC (cs.map bE) (fun c=>if c.to=(i:Int) then (ac cash cs).pay (ac cash cs).gr c else 0)=sumC ((l++l').map bE) fun c=>if c.to=(i:Int) then (ac cash cs).pay (ac cash cs).gr c else 0:=by rw[←hl]
   rw[e3,agF,nn];grind
  have:=hpn l' hm2;grind
 exact (hd.sz h1 h3 h0 (e:=51) (Rat.le_trans hle (Q3 hs hi))).mono (by omega)
theorem LF:qv cash cs (ac cash cs).gr:=fun i hi=>by
 have key:∀ n (l l':List ClR),l.length=n→cs=l++l'→nU cash cs (ac cash cs).gr i l=some (oO cash cs (ac cash cs).gr i l):=by
  intro n
  induction n with
  | zero =>
   intro l l' hl _;have:l=[]:=List.length_eq_zero_iff.1 hl;subst this;rw[sR];unfold oO;rw[agH,sumC,agG]
  | succ n ih =>
   intro l l' hl hcs;rcases agI l with h0 | ⟨m,c,rfl⟩
   ·subst h0;cases hl
   ·rw[agJ] at *
    simp only[agK,agL] at hl;have hc:c∈cs:=by rw[hcs];simp
    have hcm:cs=m++([c]++l'):=by rw[hcs,List.append_assoc]
    rw[ku,AN hs.right _ i m hc,ih m _ (by omega) hcm];unfold nt
    by_cases hto:c.2.1=(i:Int)
    ·rw[if_pos hto,if_pos hto,agM,if_pos]
     refine kQ (K8 hs hi hcm) (b:=482) ?_ (by omega);rw[←MN hs.right _ hc];exact LG hs hc
    ·rw[if_neg hto,if_neg hto,agG]
 have h1:=key _ cs [] rfl (by simp);rw[h1,(ta hs.ok).1 i hi]
 rfl
theorem KO {x:Nat→Rat} (hf:qv cash cs x):∀ i,i<cash.length→x i≤(ac cash cs).gr i:=Im hs.ok fun i hi=>iy (H9 hs.right hf i hi)
end
end Go.Mini
namespace Go.Mini
open Go
set_option maxRecDepth 10000
set_option maxHeartbeats 4000000
theorem EU (x:Rat):x*(x.den:Rat)=(x.num:Rat):=by
 have h:(Rat.divInt x.num x.den)=x:=Rat.num_divInt_den x;rw[Rat.divInt_eq_div] at h;have h0:((x.den:Int):Rat)≠0:=by have:=x.den_nz;exact_mod_cast this
 have h2:(x.num:Rat) / ((x.den:Int):Rat)*((x.den:Int):Rat)=(x.num:Rat):=Rat.div_mul_cancel h0;rw[h,agO] at h2;exact h2
theorem FL {x y:Rat} (h:gP x y=true):cg (x+y):=by
 unfold gP at h;simp only[agP] at h;obtain⟨-,-,h3,h4⟩:=h
 have hd:((x.den:Int)*y.den)≠0:=by
  have h1:=x.den_nz;have h2:=y.den_nz;exact Int.mul_ne_zero (by omega) (by omega)
 have e:(x+y)*(((x.den:Int)*y.den:Int):Rat)=((x.num*y.den+y.num*x.den:Int):Rat):=by
  have e1:x*(x.den:Rat)=(x.num:Rat):=EU x;have e2:y*(y.den:Rat)=(y.num:Rat):=EU y;rw[Rat.intCast_add,agQ,agQ,agQ,agO,agO,←e1,←e2];grind
 obtain⟨f1,f2⟩:=fD hd e;have:=gV h3;have:=gV h4;exact⟨by omega,by omega⟩
theorem Kn {x y:Rat} (hx:cg x) (hy:cg y):mZ [.agg (ad (aj x)),.agg (ad (aj y))]=some (.same (.tup [.agg (ad (pU (gP x y) (x+y)).1),.int .i64 (pU (gP x y) (x+y)).2])):=by
 have h1:=et hx;have h2:=et hy;have:=we (aj x).1.1 (aj x).1.2 (aj x).2.1 (aj x).2.2 (aj y).1.1 (aj y).1.2 (aj y).2.1 (aj y).2.2 ⟨h1.1,h1.2,h2.1,h2.2⟩;exact this.trans (by show some (PRes.same (bw (sq (aj x) (aj y))))=_;rw[uU hx hy];rfl)
noncomputable def yn:List Data→Option PRes:=FF (α:=Int × (List Int) × Int × (List Int) × Int × (List Int) × Int × (List Int)) (fun (s,l,s2,l2,s3,l3,s4,l4)=>([.agg [.int .i64 s,.sl (l.map aa),.int .i64 s2,.sl (l2.map aa)],.agg [.int .i64 s3,.sl (l3.map aa),.int .i64 s4,.sl (l4.map aa)]]:List Data)) (fun (s,l,s2,l2,s3,l3,s4,l4)=>aI (l.length≤1000000∧l2.length≤1000000∧l3.length≤1000000∧l4.length≤1000000) (.same (.bool (kg ((s,l),(s2,l2)) ((s3,l3),(s4,l4))==0))))
theorem A6:∀ a b:Int × (List Int) × Int × (List Int) × Int × (List Int) × Int × (List Int),(fun (s,l,s2,l2,s3,l3,s4,l4)=>([.agg [.int .i64 s,.sl (l.map aa),.int .i64 s2,.sl (l2.map aa)],.agg [.int .i64 s3,.sl (l3.map aa),.int .i64 s4,.sl (l4.map aa)]]:List Data)) a=(fun (s,l,s2,l2,s3,l3,s4,l4)=>([.agg [.int .i64 s,.sl (l.map aa),.int .i64 s2,.sl (l2.map aa)],.agg [.int .i64 s3,.sl (l3.map aa),.int .i64 s4,.sl (l4.map aa)]]:List Data)) b→a=b:=by
  rintro⟨s1,l1,s21,l21,s31,l31,s41,l41⟩ ⟨s2,l2,s22,l22,s32,l32,s42,l42⟩ h;simp only[List.cons.injEq,Data.agg.injEq,Data.int.injEq,Data.sl.injEq,and_true,true_and] at h;obtain⟨⟨h1,h2,h3,h4⟩,⟨h5,h6,h7,h8⟩⟩:=h;rw[h1,af ai _ _ h2,h3,af ai _ _ h4,h5,af ai _ _ h6,h7,af ai _ _ h8]
@[go_sem] theorem Oz (s:Int) (l:List Int) (s2:Int) (l2:List Int) (s3:Int) (l3:List Int) (s4:Int) (l4:List Int) (hc:l.length≤1000000∧l2.length≤1000000∧l3.length≤1000000∧l4.length≤1000000):yn [.agg [.int .i64 s,.sl (l.map aa),.int .i64 s2,.sl (l2.map aa)],.agg [.int .i64 s3,.sl (l3.map aa),.int .i64 s4,.sl (l4.map aa)]]=some (.same (.bool (kg ((s,l),(s2,l2)) ((s3,l3),(s4,l4))==0))):=(aX A6 (s,l,s2,l2,s3,l3,s4,l4)).trans (al hc _)
theorem LT (T:Tab) (aw:T a0=mkE dr) (s:Int) (l:List Int) (s2:Int) (l2:List Int) (s3:Int) (l3:List Int) (s4:Int) (l4:List Int) (hc:l.length≤1000000∧l2.length≤1000000∧l3.length≤1000000∧l4.length≤1000000) :
  wp T mf_clear_Fits_2.body (bF mf_clear_Fits_2.res (.same (.bool (kg ((s,l),(s2,l2)) ((s3,l3),(s4,l4))==0)))) ⟨ax [.dat (.agg [.int .i64 s,.sl (l.map aa),.int .i64 s2,.sl (l2.map aa)]),.dat (.agg [.int .i64 s3,.sl (l3.map aa),.int .i64 s4,.sl (l4.map aa)])],emp⟩:=by
 refine ap ?_;simp only[mf_clear_Fits_2];obtain⟨o1,o2,o3,o4⟩:=hc;refine qI ?_
 repeat' (intro h<;>simp only[h,go_sem,go_sem_proc,agt,aw,o1,o2,o3,o4]<;>try refine qS ?_ ?_)
def jP:List aF→List aF→Bool
 | [],[]=>true
 | a::l,b::m=>(kg a b==0)&&jP l m
 | _,_=>false
theorem zZ:∀ (a b:List aF),a.length≠b.length→jP a b=false
 | [],[],h=>absurd rfl h
 | [],_::_,_=>rfl
 | _::_,[],_=>rfl
 | a::l,b::m,h=>by
  unfold jP;rw[zZ l m (by simpa using h),agR]
theorem Ha {a b:List aF} {i:Nat} {x y:aF} (ha:a[i]?=some x) (hb:b[i]?=some y) (h:jP (a.take i) (b.take i)=true) (hc:(kg x y==0)=false):jP a b=false:=by
 induction i generalizing a b with
 | zero =>
  cases a with
  | nil=>cases ha
  | cons a l =>
   cases b with
   | nil=>cases hb
   | cons b m =>
    simp only[agS,Option.some.injEq] at ha hb;subst ha hb;rw[jP,hc,agT]
 | succ i ih =>
  cases a with
  | nil=>cases ha
  | cons a l =>
   cases b with
   | nil=>cases hb
   | cons b m =>
    simp only[agU] at ha hb;rw[agV,agV,jP,agP] at h;rw[jP,ih ha hb h.2,agR]
theorem Ga {a b:List aF} {i:Nat} {x y:aF} (ha:a[i]?=some x) (hb:b[i]?=some y) (h:jP (a.take i) (b.take i)=true) (hc:(kg x y==0)=true):jP (a.take (i+1)) (b.take (i+1))=true:=by
 induction i generalizing a b with
 | zero =>
  cases a with
  | nil=>cases ha
  | cons a l =>
   cases b with
   | nil=>cases hb
   | cons b m =>
    simp only[agS,Option.some.injEq] at ha hb;subst ha hb;simp [jP,hc]
 | succ i ih =>
  cases a with
  | nil=>cases ha
  | cons a l =>
   cases b with
   | nil=>cases hb
   | cons b m =>
    simp only[agU] at ha hb;rw[agV,agV,jP,agP] at h;rw[agV,agV,jP,h.1,ih ha hb h.2];rfl
noncomputable def u5:List Data→Option PRes:=FF (α:=(List aF) × (List aF)) (fun (a,b)=>([.sl (a.map ad),.sl (b.map ad),.fn dj []]:List Data)) (fun (a,b)=>aI (okL a∧okL b) (.same (.bool (jP a b))))
theorem ym:∀ a b:(List aF) × (List aF),(fun (a,b)=>([.sl (a.map ad),.sl (b.map ad),.fn dj []]:List Data)) a=(fun (a,b)=>([.sl (a.map ad),.sl (b.map ad),.fn dj []]:List Data)) b→a=b:=by
  rintro⟨a1,b1⟩ ⟨a2,b2⟩ h;simp only[List.cons.injEq,Data.sl.injEq,and_true] at h;exact agA (af de _ _ h.1) (af de _ _ h.2)
@[go_sem] theorem AV (a:List aF) (b:List aF) (hc:okL a∧okL b):u5 [.sl (a.map ad),.sl (b.map ad),.fn dj []]=some (.same (.bool (jP a b))):=(aX ym (a,b)).trans (al hc _)
theorem I8 (T:Tab) (mC:T dj=mkE yn) (a:List aF) (b:List aF) (hc:okL a∧okL b) :
  wp T mf_slices_EqualFunc_Frac.body (bF mf_slices_EqualFunc_Frac.res (.same (.bool (jP a b)))) ⟨ax [.dat (.sl (a.map ad)),.dat (.sl (b.map ad)),.dat (.fn dj [])],emp⟩:=by
 refine ap ?_;simp only[mf_slices_EqualFunc_Frac];obtain⟨⟨ha,hao⟩,⟨hb,hbo⟩⟩:=hc;rcases hl:((a.length:Int)==(b.length:Int))
 ·rw[zZ a b (by have:=ne_of_beq_false hl;omega)]
  refine qI ?_
  repeat' (intro h<;>simp only[h,go_sem,go_sem_proc,agt,mC,hl,agy,bne,agW]<;>try refine qS ?_ ?_)
 ·have hle:a.length=b.length:=by have:=eq_of_beq hl;omega
  simp only[go_sem,go_sem_proc,agt,mC,hl,agy,bne,agD];refine ae [1,2,15,16] [] (fun (i:Nat) tm mem=>i≤a.length∧jP (a.take i) (b.take i)=true∧tm 17 = .dat (.int .i64 i)) (fun i=>a.length-i) 0 (by refine⟨agX _,by simp [jP],rfl⟩) ?_;intro vs ms hvs hms;simp only[go_sem,go_sem_proc,agt,mC,agy] at hvs hms;subst hvs hms;rintro i tm mem hk hm ⟨hi,hall,e17⟩;simp only[go_sem,go_sem_proc,agt,mC,List.cons.injEq] at hk hm;obtain⟨e1,e2,e15,e16⟩:=hk;rcases agu (i<a.length) with hlt | hge
  ·have d1:decide ((i:Int)<(a.length:Int))=true:=decide_eq_true (by omega)
   have w3:IntKind.i64.wrap ((i:Int)+1)=((i+1:Nat):Int):=by rw[an _ (by omega) (by omega)];omega
   obtain⟨x,hx⟩:∃ x,a[i]?=some x:=⟨_,agr hlt⟩;obtain⟨y,hy⟩:∃ x,b[i]?=some x:=⟨_,agr (by omega)⟩;obtain⟨o1,o2⟩:=hao x (agq hx);obtain⟨o3,o4⟩:=hbo y (agq hy);have hst:=fun hc=>Ha hx hy hall hc
   have htk:=fun hc=>Ga hx hy hall hc
   obtain⟨⟨a1,a2⟩,⟨a3,a4⟩⟩:=x;obtain⟨⟨b1,b2⟩,⟨b3,b4⟩⟩:=y;dsimp only at o1 o2 o3 o4;rcases q:(kg ((a1,a2),(a3,a4)) ((b1,b2),(b3,b4))==0)
   ·rw[hst q]
    refine qI ?_
    repeat' (intro h<;>simp only[h,go_sem,go_sem_proc,agt,mC,e1,e2,e15,e16,e17,hx,hy,d1,w3,o1,o2,o3,o4,q,ad,agy,agn,agW]<;>try refine qS ?_ ?_)
   ·refine qI ?_
    repeat' (intro h<;>simp only[h,go_sem,go_sem_proc,agt,mC,e1,e2,e15,e16,e17,hx,hy,d1,w3,o1,o2,o3,o4,q,ad,agy,agn,agD]<;>try refine qS ?_ ?_)
    exact⟨i+1,by omega,by omega,htk q,rfl⟩
  ·have d1:decide ((i:Int)<(a.length:Int))=false:=decide_eq_false (by omega)
   rw[agY (by omega),agY (by omega)] at hall;rw[hall];refine qI ?_
   repeat' (intro h<;>simp only[h,go_sem,go_sem_proc,agt,mC,e1,e2,e15,e16,e17,d1,agy]<;>try refine qS ?_ ?_)
theorem Mc {α:Type} (p:α→Bool) (l:List α) (k:Nat) (hk:k<l.length) (h:∀ j (hj:j<k),p (l[j]'(by omega))=false) (h2:p l[k]=true):lQ p l=k :=
 kY (fun x hx=>by
  obtain⟨j,hj⟩:=List.mem_iff_getElem?.1 hx;rw[List.getElem?_take] at hj
  by_cases hjk:j<k
  ·rw[if_pos hjk,agr (by omega),Option.some.injEq] at hj
   rw[←hj];exact h j hjk
  ·rw[if_neg hjk] at hj;cases hj) (agr hk) h2
theorem nL {d:Day} {h:Nat→Rat} {i:Nat}:∀ k,k≤10→d.fallRank h i k<10→(∀ j,10-k≤j→j<d.fallRank h i k→d.U i (j+1)≤h i)∧h i<d.U i (d.fallRank h i k+1)∧10-k≤d.fallRank h i k
 | 0,_,h1=>by rw[Day.fallRank] at h1;omega
 | k+1,hk,h1=>by
  rw[Day.fallRank] at h1 ⊢
  by_cases hc:h i<d.U i (10-(k+1)+1)
  ·rw[if_pos hc] at h1 ⊢
   exact⟨fun j h2 h3=>by omega,hc,agZ _⟩
  ·rw[if_neg hc] at h1 ⊢
   obtain⟨k1,k2,k3⟩:=nL k (by omega) h1;refine⟨fun j h2 h3=>?_,k2,by omega⟩
   by_cases hj:j=10-(k+1)
   ·rw[hj];grind
   ·exact k1 j (by omega) h3
theorem KD {cash:List Int} {cs:List ClR} (hs:SmallD cash cs) (h:Nat→Rat) (n i:Nat) (hi:i<n) (hlim:cg (h i)) (hf:(ac cash cs).fallRank h i 10<10):lQ (pdI (.solve (bH n h) i)) (fL 10 fun k=>aO cs i (k+1:Nat))=((ac cash cs).fallRank h i 10:Int):=by
 obtain⟨h1,h2,h3⟩:=nL 10 (agZ _) hf;have hU:=fun k:Nat=>hs.upto i k
 have hp:∀ k:Nat,pdI (.solve (bH n h) i) (aO cs i (k+1:Nat))=decide (h i<(ac cash cs).U i (k+1)):=fun k=>by
  have hd:(bH n h).getD i bV=aj (h i):=by rw[ags,eP h hi];rfl
  have iU:cn (aO cs i (k+1:Nat)):=d7 (by have:=hU (k+1);omega) (by have:=hU (k+1);omega);simp only[pdI];rw[hd,nV hlim (fZ iU),tN,dU hs.right]
 refine Mc _ _ _ (by rw[bQ];exact hf) (fun j hj=>?_) ?_
 ·have e:=cP (fun k=>aO cs i (k+1:Nat)) (show j<10 by omega)
  rw[agr (by rw[bQ];omega),Option.some.injEq] at e;rw[e,hp];exact decide_eq_false (by have:=h1 j (by omega) hj;grind)
 ·have e:=cP (fun k=>aO cs i (k+1:Nat)) hf
  rw[agr (by rw[bQ];omega),Option.some.injEq] at e;rw[e,hp];exact decide_eq_true h2
def DebA.wf (a:DebA) (f:Nat→Nat):DebA:={ a with fl:=fL a.cash.length fun i=>(f i:Int) }
theorem DebA.wf_deb (a:DebA) (f:Nat→Nat) {i:Nat} (hi:i<a.cash.length):(a.wf f).deb i=(a.deb i).sf (f i):=by
 have:(fL a.cash.length fun i=>(f i:Int)).getD i 10=(f i:Int):=jY _ _ hi;unfold DebA.deb DebA.wf DebR.sf;dsimp only;rw[this]
theorem DebA.At.setf {a:DebA} {m:Mem} {f:Nat→Nat} (h:(a.wf f).At m) {i:Nat} (hi:i<a.cash.length) (r:Nat):(a.wf fun j=>if j=i then r else f j).At (az m (228500+i) (a.gs.getD i 0) (dB ((a.deb i).sf r))):=by
 refine⟨h.can,bQ _ _,h.pl,h.gl,?_,fun j hj=>?_⟩
 ·have:=h.row
  simp only[az];rw[if_neg (show ¬ ((228023:Nat)=228500+i) by omega)];exact this
 ·rw[DebA.wf_deb a _ hj]
  simp only[az]
  by_cases hji:j=i
  ·subst hji
   rw[if_pos rfl,if_pos rfl]
   rfl
  ·rw[if_neg (show ¬ ((228500+j:Nat)=228500+i) by omega),if_neg hji]
   have:=h.blk j hj;rw[DebA.wf_deb a _ hj] at this;exact this
theorem DebA.wf_congr (a:DebA) {p q:Nat→Nat} (h:∀ i,i<a.cash.length→p i=q i):a.wf p=a.wf q:=by
 unfold DebA.wf;rw[bW fun i hi=>by rw[h i hi]]
theorem Nv {n i:Nat} (f:Nat→Nat) (h:i<n):fOf (fL n fun i=>(f i:Int)) i=f i:=by
 unfold fOf;rw[jY _ _ h,agw]
theorem Fg {x:DebR} (h:x.OK) {k g:Nat} {m:Mem} (hm:m k=some (g,dB x)) (n:Nat):toD (n+1) m (.ref k g 1 12 10)=some (.sl (x.us.tail.map aa)):=by
 have e:cut (dB x) 12 10=some (x.us.tail.map iC):=by
  unfold cut;rw[if_pos (by rw[jI h];omega)]
  congr 1
  obtain⟨c,cl,us,f,p⟩:=x;obtain⟨h1,h2⟩:=h;dsimp only at h1 h2
  cases us with
  | nil=>cases h2
  | cons u us =>
   have hl:us.length=10:=by simpa using h2
   unfold dB;dsimp only;rw[ag0,List.drop_append,List.drop_eq_nil_of_le (by rw[agy];omega),agy,h1,List.nil_append,ag1];rw[show 11-10=1 from rfl,List.cons_append,ag0,ag2,List.take_append_of_le_length (by rw[agy];omega),agY (by rw[agy];omega)]
   rfl
 have e2:∀ l:List Int,(l.map iC).mapM (toD n m)=some (l.map fun z=>Data.int .i64 z):=by
  intro l
  induction l with
  | nil=>rfl
  | cons a l ih =>
   rw[ag1,ag3,ih];rw[show toD n m (iC a)=some (.int .i64 a) from sE n _]
   rfl
 have e3:∀ l:List Int,chunk 1 l.length (l.map fun z=>Data.int .i64 z)=l.map aa:=by
  intro l
  induction l with
  | nil=>rfl
  | cons a l ih=>simp only[ag4,ag1,chunk,agV,agp,ag0,ag2,ih];rfl
 have hl:x.us.tail.length=10:=by rw[List.length_tail,h.us]
 unfold toD;rw[hm];dsimp only;rw[if_pos rfl,agv,e];dsimp only;rw[e2];have:=e3 x.us.tail;rw[hl] at this;rw[ago,this]
theorem DebA.At.up {a:DebA} {m:Mem} (h:a.At m) (hn:a.cash.length≤5) {k g:Nat} {cs:List MV} (hk:k / 1000≠228):a.At (az m k g cs) :=
 ⟨h.can,h.fl,h.pl,h.gl,by rw[aH (by omega)];exact h.row,fun i hi=>by rw[aH (by omega)];exact h.blk i hi⟩
theorem Mq {α:Type} (n:Nat) (q:Nat→α):(fL (n+1) q).tail=fL n fun k=>q (k+1):=by
 unfold fL;rw[List.range_succ_eq_map,ag1,List.tail_cons,ag5]
 rfl
theorem EY {m:Mem} {k g:Nat} {d:Data} (hm:m k=some (g,[.dat d])) (n:Nat):toD (n+1) m (.ptr k g 0)=some (.ptr [d]):=by
 unfold toD;rw[hm];dsimp only;rw[if_pos ⟨rfl,agX _⟩,ag2,ag3,sE]
 rfl
theorem kL (n k g sz o l:Nat):toD (n+1) emp (.ref k g sz o l)=none:=by
 unfold toD;rfl
noncomputable def fiR (d:Day) (f:Nat→Nat) (h:Nat→Rat) (i j:Nat):Nat:=if j<i then d.fallen f h j else f j
theorem QM (T:Tab) (aE:T bf=mkE fj) (aw:T a0=mkE dr) (eA:T bY=mkE ol) {K:bM→St→Prop} {kk:List Todo} (a:DebA) (hs:SmallD a.cash a.cs) (f:Nat→Nat) (hf:∀ i,i<a.cash.length→f i≤10) (h:Nat→Rat) (hlim:∀ i,i<a.cash.length→cg (h i)) (h0:∀ i,i<a.cash.length→0≤h i) (m0:Mem) (v1 v4 v7:MV) (G8 g10:Nat) (tm:Nat→MV) (m:Mem)
  (e1:tm 1=v1) (e4:tm 4=v4) (e6:tm 6 = .ref 228023 a.g 1 0 a.cash.length) (e7:tm 7=v7) (e8:tm 8 = .ptr 217008 G8 0) (e10:tm 10 = .ref 217057 g10 1 0 0) (e31:tm 31 = .ref 228023 a.g 1 0 a.cash.length) (e32:tm 32 = .dat (.int .i64 a.cash.length)) (e33:tm 33 = .dat (.int .i64 0))
  (hat:(a.wf f).At m) (m8:m0 217008=some (G8,[.dat (.sl ((bH a.cash.length h).map ad))])) (m57:m 217057=some (g10,[])) (hfr:∀ k,k / 1000≠228→k≠217011→k≠217057→m k=m0 k)
  (hK:∀ tm' m' g',tm' 1=v1→tm' 4=v4→tm' 6 = .ref 228023 a.g 1 0 a.cash.length→tm' 7=v7→tm' 8 = .ptr 217008 G8 0→tm' 10 = .ref 217057 g' 1 0 (gM (ac a.cash a.cs) f h a.cash.length).length→m' 217057=some (g',aA gJ (gM (ac a.cash a.cs) f h a.cash.length))→(a.wf ((ac a.cash a.cs).fallen f h)).At m'→(∀ k,k / 1000≠228→k≠217011→k≠217057→m' k=m0 k)→kont T K kk (.exit 2) ⟨tm',m'⟩) :
  wp T (mf_clear_Solve.body.sub [1,1,1,1,0,0,0,0,1,1,1,0,1,0,0]) (kont T K kk) ⟨tm,m⟩:=by
 simp only[mf_clear_Solve,MCode.sub];have hn:=hs.n5;have hd:=hs.ok
 refine ae [1,4,6,7,8,31,32] [] (fun ((i,g):Nat × Nat) tm m=>i≤a.cash.length∧tm 33 = .dat (.int .i64 i)∧tm 10 = .ref 217057 g 1 0 (gM (ac a.cash a.cs) f h i).length∧m 217057=some (g,aA gJ (gM (ac a.cash a.cs) f h i))∧(a.wf (fiR (ac a.cash a.cs) f h i)).At m∧∀ k,k / 1000≠228→k≠217011→k≠217057→m k=m0 k) (fun (i,_)=>a.cash.length-i) (0,g10) (by
  refine⟨by omega,e33,e10,m57,?_,hfr⟩
  rw[a.wf_congr (q:=f) fun j _=>by unfold fiR;rw[if_neg (by omega)]]
  exact hat) ?_
 intro vs ms hvs hms;simp only[go_sem,go_sem_proc,agt,e1,e4,e6,e7,e8,e31,e32] at hvs hms;subst hvs hms;clear e1 e4 e6 e7 e8 e10 e31 e32 e33 hat m57 hfr tm m;rintro⟨i,g⟩ tm m hk-⟨hi,e33,e10,m57,hat,hfr⟩;simp only[go_sem,go_sem_proc,agt,List.cons.injEq] at hk;obtain⟨e1,e4,e6,e7,e8,e31,e32⟩:=hk;rcases agu (i<a.cash.length) with hlt | hge
 ·have d1:decide ((i:Int)<(a.cash.length:Int))=true:=decide_eq_true (by omega)
  have w3:IntKind.i64.wrap ((i:Int)+1)=((i+1:Nat):Int):=by rw[an _ (by omega) (by omega)];omega
  have hf10:=hf i hlt;have hfi:fiR (ac a.cash a.cs) f h i i=f i:=by unfold fiR;rw[if_neg (by omega)]
  have hrow:m 228023=some (a.g,fL a.cash.length fun i => .ptr (228500+i) (a.gs.getD i 0) 0):=hat.row;have hblk:m (228500+i)=some (a.gs.getD i 0,_):=hat.blk i hlt;rw[DebA.wf_deb a _ hlt,hfi] at hblk;have q8:=(hfr 217008 (by decide) (by decide) (by decide)).trans m8;have hri:=ni (cP (fun i=>MV.ptr (228500+i) (a.gs.getD i 0) 0) hlt);have hrl:(fL a.cash.length fun i=>MV.ptr (228500+i) (a.gs.getD i 0) 0).length=a.cash.length:=bQ _ _;have hok:((a.deb i).sf (f i)).OK:=⟨(a.deb_ok i).cl,(a.deb_ok i).us⟩;have hlen:=jI hok;have qf:List.take 1 (List.drop 22 (dB ((a.deb i).sf (f i))))=[iC (f i:Int)]:=y0 hok;have qu:=uk hok (k:=f i) (z:=aO a.cs i (f i:Nat)) (cP _ (by omega));have qs:_=dB ((a.deb i).sf ((ac a.cash a.cs).fallRank h i 10)):=I9 hok ((ac a.cash a.cs).fallRank h i 10:Nat);have l1:i+1≤a.cash.length:=by omega
  have l2:f i<11:=by omega
  have l3:(11+f i+1≤24)=True:=eq_true (by omega);have hU:=hs.upto i (f i);have iU:cn (aO a.cs i (f i:Nat)):=d7 (by omega) (by omega);have hw:=eM _ iU;have hcmp:=iB (hlim i hlt) (fZ iU);have hcast:=dU hs.right i (f i);have hge':decide (kU (h i) ((aO a.cs i (f i:Nat):Int):Rat)≥0)=decide (((aO a.cs i (f i:Nat):Int):Rat)≤h i):=rV;have hfs:=xM (ac a.cash a.cs) f h i;rw[←hcast] at hfs;have hvg:=eP h hlt;have hfl5:=Bq (ac a.cash a.cs) f h i;have hap:=dm gW wJ 217057 g 8 (gM (ac a.cash a.cs) f h i) i (cs:=[.dat (.int .i64 i)]) rfl (by omega) (by omega);have hslice:=fun (m2:Mem) (hm2:m2 (228500+i)=some (a.gs.getD i 0,dB ((a.deb i).sf (f i)))) n=>Fg hok hm2 n
  have hus:((a.deb i).sf (f i)).us.tail=fL 10 fun k=>aO a.cs i (k+1:Nat):=Mq 10 _
  simp only[hus] at hslice
  have hnf:¬ h i<((aO a.cs i (f i:Nat):Int):Rat)→a.wf (fiR (ac a.cash a.cs) f h (i+1))=a.wf (fiR (ac a.cash a.cs) f h i):=fun hh=>a.wf_congr fun j _=>by
   unfold fiR
   by_cases hj:j=i
   ·subst hj
    rw[if_pos (by omega),if_neg (by omega)];unfold Day.fallen;rw[if_neg (by rw[←hcast];exact fun x=>hh x.2)]
   ·by_cases hj2:j<i
    ·rw[if_pos hj2,if_pos (by omega)]
    ·rw[if_neg hj2,if_neg (by omega)]
  have hyf:h i<((aO a.cs i (f i:Nat):Int):Rat)→a.wf (fiR (ac a.cash a.cs) f h (i+1))=a.wf (fun j=>if j=i then (ac a.cash a.cs).fallRank h i 10 else fiR (ac a.cash a.cs) f h i j):=fun hh=>a.wf_congr fun j _=>by
   unfold fiR
   by_cases hj:j=i
   ·subst hj
    rw[if_pos (by omega),if_pos rfl];unfold Day.fallen;rw[if_pos ⟨hlt,by rw[←hcast];exact hh⟩]
   ·rw[if_neg hj]
    by_cases hj2:j<i
    ·rw[if_pos hj2,if_pos (by omega)]
    ·rw[if_neg hj2,if_neg (by omega)]
  have hset:=fun (M:Mem) (hM:(a.wf (fiR (ac a.cash a.cs) f h i)).At M)=>hM.setf hlt ((ac a.cash a.cs).fallRank h i 10)
  have hfk:h i<((aO a.cs i (f i:Nat):Int):Rat)→(ac a.cash a.cs).fallRank h i 10<10:=fun hh=>by
   rw[hcast] at hh;have:=hd.U_mono i hf10;rcases lw hd (h:=h) (i:=i) 10 (agZ _) (by rw[Nat.sub_self,Day.U_zero];exact h0 i hlt) with ⟨-,e⟩ | ⟨-,e,-⟩
   ·grind
   ·exact e
  have hixr:=fun hh=>KD hs h a.cash.length i hlt (hlim i hlt) (hfk hh)
  have hix:=CE (fL 10 fun k=>aO a.cs i (k+1:Nat)) (.solve (bH a.cash.length h) i) ⟨by rw[bQ];omega,by rw[cW];exact hlt,sJ (by omega) hlim,fun x hx=>by
   obtain⟨k,-,rfl⟩:=List.mem_map.1 hx;have:=hs.upto i (k+1:Nat);exact d7 (by omega) (by omega)⟩
  simp only[mI] at hix;generalize hSL:(fL 10 fun k=>aO a.cs i (k+1:Nat))=SL at *;generalize hRW:(fL a.cash.length fun i=>MV.ptr (228500+i) (a.gs.getD i 0) 0)=RW at *;have hKd2:(228500+i) / 1000=228:=by omega
  generalize hKd:228500+i=KK at *;generalize hDD:dB ((a.deb i).sf (f i))=DC at *;have n11:(KK=217011)=False:=eq_false (by omega);have n57:(KK=217057)=False:=eq_false (by omega);have n57':(217057=KK)=False:=eq_false (by omega);have hH1:aj (h i)=aj (h i):=rfl;generalize hH:aj (h i)=H at *;generalize hX:aj ((aO a.cs i (f i:Nat):Int):Rat)=X at *;obtain⟨⟨b1,b2⟩,⟨b3,b4⟩⟩:=X;obtain⟨⟨a1,a2⟩,⟨a3,a4⟩⟩:=H;simp only[ad] at hw hcmp;rcases q1:decide (((aO a.cs i (f i:Nat):Int):Rat)≤h i)
  ·have hh:h i<((aO a.cs i (f i:Nat):Int):Rat):=by have:=of_decide_eq_false q1;grind
   rw[if_pos hh] at hfs;rw[←hfs] at hap;rw[hixr hh] at hix;simp only[←hyf hh] at hset;have hl1:(gM (ac a.cash a.cs) f h (i+1)).length=(gM (ac a.cash a.cs) f h i).length+1:=by rw[hfs,agK];rfl
   have hb8:∀ m2:Mem,m2 217008=some (G8,[.dat (.sl ((bH a.cash.length h).map ad))])→toD 5 m2 (.ptr 217008 G8 0)=some (.ptr [.sl ((bH a.cash.length h).map ad)]):=fun m2 hm2=>EY hm2 4
   have hb11:∀ (m2:Mem) (g:Nat),m2 217011=some (g,[.dat (.int .i64 i)])→toD 5 m2 (.ptr 217011 g 0)=some (.ptr [.int .i64 i]):=fun m2 g hm2=>EY hm2 4
   have hempr:=kL 5 KK (a.gs.getD i 0) 1 12 10;simp only[go_sem,go_sem_proc,agt,aE,aw,eA,e1,e4,e6,e7,e8,e10,e31,e32,e33,hrow,hblk,q8,m57,hri,hrl,hlen,qf,qu,qs,l1,l2,l3,hlt,hw,hcmp,hge',q1,hvg,hap,hslice,hix,hb8,hb11,hempr,n11,n57,n57',d1,w3,ad,iC,agv,agy,agn,ag6,scalar,pV,ag7,ag8]
   repeat' (first|refine qS ?_ ?_|fail)<;>intro h<;>simp only[h,go_sem,go_sem_proc,agt,aE,aw,eA,e1,e4,e6,e7,e8,e10,e31,e32,e33,hrow,hblk,q8,m57,hri,hrl,hlen,qf,qu,qs,l1,l2,l3,hlt,hw,hcmp,hge',q1,hvg,hap,hslice,hix,hb8,hb11,hempr,n11,n57,n57',d1,w3,ad,iC,agv,agy,agn,ag6,scalar,pV,ag7,ag8]
   refine⟨(i+1,g+1),by dsimp only;omega,by dsimp only;omega,rfl,by rw[hl1],rfl,hset _ (((hat.up hn (by decide)).up hn (by decide)).up hn (by decide)),fun k h1 h2 h3=>?_⟩
   rw[if_neg (show ¬ k=KK by intro hk;rw[hk] at h1;exact h1 hKd2),if_neg h3,if_neg h2,if_neg h2];exact hfr k h1 h2 h3
  ·have hh:¬ h i<((aO a.cs i (f i:Nat):Int):Rat):=by have:=of_decide_eq_true q1;grind
   rw[if_neg hh] at hfs;simp only[go_sem,go_sem_proc,agt,aE,aw,e1,e4,e6,e7,e8,e10,e31,e32,e33,hrow,hblk,q8,hri,hrl,hlen,qf,qu,l1,l2,l3,hlt,hw,hcmp,hge',q1,hvg,n11,d1,w3,ad,iC,agv,agy,agn]
   repeat' (first|refine qS ?_ ?_|fail)<;>intro h<;>simp only[h,go_sem,go_sem_proc,agt,aE,aw,e1,e4,e6,e7,e8,e10,e31,e32,e33,hrow,hblk,q8,hri,hrl,hlen,qf,qu,l1,l2,l3,hlt,hw,hcmp,hge',q1,hvg,n11,d1,w3,ad,iC,agv,agy,agn]
   refine⟨(i+1,g),by dsimp only;omega,by dsimp only;omega,rfl,by rw[hfs],by rw[hfs];exact m57,?_,fun k h1 h2 h3=>?_⟩
   ·rw[hnf hh]
    exact (hat.up hn (by decide)).up hn (by decide)
   ·rw[if_neg h2,if_neg h2]
    exact hfr k h1 h2 h3
 ·have d1:decide ((i:Int)<(a.cash.length:Int))=false:=decide_eq_false (by omega)
  obtain rfl:i=a.cash.length:=by omega
  rw[a.wf_congr (q:=(ac a.cash a.cs).fallen f h) fun j hj=>by unfold fiR;rw[if_pos hj]] at hat
  simp only[go_sem,go_sem_proc,agt,e1,e4,e6,e7,e8,e10,e31,e32,e33,d1]
  repeat' (first|refine qS ?_ ?_|fail)<;>intro h<;>simp only[h,go_sem,go_sem_proc,agt,e1,e4,e6,e7,e8,e10,e31,e32,e33,d1]
  refine hK _ _ g ?_ ?_ ?_ ?_ ?_ ?_ m57 hat hfr<;>simp only[aU,agz,if_false,e1,e4,e6,e7,e8,e10]
noncomputable def qb (hv:List aF):List Rat:=hv.map ls
structure AK (cash:List Int) (cs:List ClR) (hv:List aF):Prop where
 n:cash.length≤1000000
 c:cs.length≤1000000
 o:okL hv
 sm:cS cash cs=true→SmallD cash cs
 sz:cS cash cs=true→hv.length=cash.length→hv.any (pdF bn)=false→∀ f∈hv,szR 460 (ls f)
open Classical in
noncomputable def Fy (cash:List Int) (cs:List ClR) (x:Nat→Rat):Bool:=decide (qv cash cs x)
open Classical in
theorem tU {cash:List Int} {cs:List ClR} {x:Nat→Rat}:Fy cash cs x=true↔qv cash cs x:=by
 unfold Fy;exact decide_eq_true_iff
open Classical in
theorem KX {cash:List Int} {cs:List ClR} {x:Nat→Rat} (h:¬ qv cash cs x):Fy cash cs x=false:=by
 unfold Fy;exact decide_eq_false h
noncomputable def oX (cash:List Int) (cs:List ClR) (hv:List aF):Bool:=cS cash cs&&(decide (hv.length=cash.length)&&(!hv.any (pdF bn)&&Fy cash cs fun i=>(qb hv).getD i 0))
theorem xP {hv:List aF} (h:hv.any (pdF bn)=false):hv=(qb hv).map aj∧∀ x∈qb hv,0≤x∧cg x:=by
 rw[ag9] at h
 have h1:∀ f∈hv,f=aj (ls f)∧cg (ls f)∧0≤ls f:=fun f hf=>by
  have h2:=h f hf;rw[pH] at h2;simp only[Bool.or_eq_true,aha,decide_eq_true_eq,not_or] at h2;obtain⟨h3,h4⟩:=h2;have h5:=mF (f:=f) (by simpa using h3);refine⟨h5.1,h5.2,?_⟩;rw[h5.1] at h4;have:¬ (ls f).num.sign<0:=h4;have h6:decide ((ls f).num.sign<0)=decide (ls f<0):=uM;have h7:decide ((ls f).num.sign<0)=false:=decide_eq_false this;rw[h6] at h7;have:=of_decide_eq_false h7;grind
 refine⟨?_,fun x hx=>?_⟩
 ·unfold qb
  rw[ag5];refine (ahb hv).symm.trans (ahc fun f hf=>?_);exact (h1 f hf).1
 ·obtain⟨f,hf,rfl⟩:=List.mem_map.1 hx
  exact⟨(h1 f hf).2.2,(h1 f hf).2.1⟩
theorem A3:∀ (a b:List Rat),(∀ x∈a,cg x)→(∀ x∈b,cg x)→(jP (a.map aj) (b.map aj)=true↔a=b)
 | [],[],_,_=>by simp [jP]
 | [],_::_,_,_=>by simp [jP]
 | _::_,[],_,_=>by simp [jP]
 | x::a,y::b,ha,hb=>by
  have ih:=A3 a b (fun z hz=>ha z (ahd _ hz)) fun z hz=>hb z (ahd _ hz)
  rw[ag1,ag1,jP,agP,ih,List.cons.injEq,nV (ha x ahe) (hb y ahe)]
  have:(kU x y==0)=true↔x=y:=by
   have h1:=tR (x:=x) (y:=y);have h2:=tN (x:=x) (y:=y);rw[beq_iff_eq]
   constructor
   ·intro h
    rw[h] at h1 h2;have e1:¬ y<x:=of_decide_eq_false (h1.symm.trans rfl);have e2:¬ x<y:=of_decide_eq_false (h2.symm.trans rfl);grind
   ·intro h
    have e1:¬ y<x:=by grind
    have e2:¬ x<y:=by grind
    rw[decide_eq_false e1] at h1;rw[decide_eq_false e2] at h2;have:=of_decide_eq_false h1;have:=of_decide_eq_false h2;omega
  rw[this]
structure SumAt (cash:List Int) (cs:List ClR) (x:Nat→Rat) (l:List ClR) (s:Nat→Rat):Prop where
 a:∀ i,i<cash.length→nU cash cs x i l=some (s i)
 l:∀ i,i<cash.length→cg (s i)
theorem SumAt.skip {cash:List Int} {cs:List ClR} {x:Nat→Rat} {l:List ClR} {s:Nat→Rat} (h:SumAt cash cs x l s) {c:ClR} (hc:c.2.1<0):SumAt cash cs x (l++[c]) s:=by
 refine⟨fun i hi=>?_,h.l⟩
 rw[ku,h.a i hi];unfold nt;rw[if_neg (by omega)]
theorem SumAt.add {cash:List Int} {cs:List ClR} {x:Nat→Rat} {l:List ClR} {s:Nat→Rat} (h:SumAt cash cs x l s) {c:ClR} {t:Nat} (hc:c.2.1=(t:Int)) (hk:gP (s t) (cv cs (x c.1.toNat) c)=true):SumAt cash cs x (l++[c]) fun i=>if i=t then s t+cv cs (x c.1.toNat) c else s i:=by
 refine⟨fun i hi=>?_,fun i hi=>?_⟩
 ·rw[ku,h.a i hi]
  unfold nt
  by_cases hit:i=t
  ·subst hit
   rw[if_pos hc,agM,if_pos hk,if_pos rfl]
  ·rw[if_neg (by omega),if_neg hit]
 ·by_cases hit:i=t
  ·rw[if_pos hit];exact FL hk
  ·rw[if_neg hit];exact h.l i hi
theorem HK {cash:List Int} {cs:List ClR} {x:Nat→Rat} {l m:List ClR} {s:Nat→Rat} (h:SumAt cash cs x l s) {c:ClR} {t:Nat} (ht:t<cash.length) (hc:c.2.1=(t:Int)) (hk:gP (s t) (cv cs (x c.1.toNat) c)=false) (hl:cs=(l++[c])++m):¬ qv cash cs x:=fun hf=>by
 have h1:=hf t ht
 have h2:nU cash cs x t (l++[c])=none:=by
  rw[ku,h.a t ht];unfold nt;rw[if_pos hc,agM,hk];rfl
 have h3:=GM h2 m;rw[←hl,h1] at h3
 cases h3
theorem Mm {cs:List ClR} (hok:∀ c∈cs,0≤c.2.2.2∧c.2.2.2≤33554432) (h12:cs.length≤12) {x:Rat} (hx:szR 460 x) {c:ClR} (hc:c∈cs):cg (cv cs x c):=by
 have hb:∀ (p:ClR→Prop) [DecidablePred p],0≤bq cs (fun c=>if p c then c.2.2.2 else 0)∧bq cs (fun c=>if p c then c.2.2.2 else 0)≤536870912:=fun p _=>by
  have:=sH (cs:=cs) (F:=fun c=>if p c then c.2.2.2 else 0) (B:=33554432) (by omega) fun c hc=>by
   have h1:=hok c hc
   try dsimp only
   split<;>omega
  omega
 have hU:=hb fun c'=>c'.1=c.1∧c'.2.2.1<c.2.2.1
 have hS:=hb fun c'=>c'.1=c.1∧c'.2.2.1=c.2.2.1
 rw[←JN] at hS;have ha:=hok c hc;have zA:szR 29 ((c.2.2.2:Int):Rat):=nf (by omega);have zS:szR 29 ((SI cs c.1 c.2.2.1:Int):Rat):=nf (by omega);have zU:szR 29 ((aO cs c.1 c.2.2.1:Int):Rat):=nf (by unfold aO;omega);unfold cv
 split
 ·exact eC zA (by omega)
 ·have zp:szR 490 (pos (x-((aO cs c.1 c.2.2.1:Int):Rat))):=by
   unfold pos
   split
   ·exact (show szR 1 0 from⟨by decide,by decide⟩).mono (by omega)
   ·rw[Rat.sub_eq_add_neg];exact (Ko hx (oh zU)).mono (by omega)
  by_cases h0:((SI cs c.1 c.2.2.1:Int):Rat)=0
  ·rw[h0,Rat.div_def,Rat.inv_zero,Rat.mul_zero,Rat.zero_mul]
   exact eC (show szR 1 0 from⟨by decide,by decide⟩) (by omega)
  ·exact eC (xA (ND zA zS h0) zp) (by omega)
noncomputable def pI:List Data→Option PRes:=FF (α:=(List Int) × (List ClR) × (List aF)) (fun (cash,cs,hv)=>([.sl (cash.map aa),.sl (cs.map clL),.sl (hv.map ad)]:List Data)) (fun (cash,cs,hv)=>aI (AK cash cs hv) (.same (.bool (oX cash cs hv))))
theorem Au:∀ a b:(List Int) × (List ClR) × (List aF),(fun (cash,cs,hv)=>([.sl (cash.map aa),.sl (cs.map clL),.sl (hv.map ad)]:List Data)) a=(fun (cash,cs,hv)=>([.sl (cash.map aa),.sl (cs.map clL),.sl (hv.map ad)]:List Data)) b→a=b:=by
  rintro⟨cash1,cs1,hv1⟩ ⟨cash2,cs2,hv2⟩ h;simp only[List.cons.injEq,Data.sl.injEq,and_true] at h;exact agA (af ai _ _ h.1) (agA (af f5 _ _ h.2.1) (af de _ _ h.2.2))
@[go_sem] theorem pD (cash:List Int) (cs:List ClR) (hv:List aF) (hc:AK cash cs hv):pI [.sl (cash.map aa),.sl (cs.map clL),.sl (hv.map ad)]=some (.same (.bool (oX cash cs hv))):=(aX Au (cash,cs,hv)).trans (al hc _)
theorem Ld (T:Tab) (bB:T gj=mkE qz) (bJ:T cu=mkE om) (bU:T eL=mkE qx) (aE:T bf=mkE fj) (cH:T dR=mkE mZ) (cE:T eZ=mkE u5) (cash:List Int) (cs:List ClR) (hv:List aF) (hc:AK cash cs hv) :
  wp T mf_clear_Fits.body (bF mf_clear_Fits.res (.same (.bool (oX cash cs hv)))) ⟨ax [.dat (.sl (cash.map aa)),.dat (.sl (cs.map clL)),.dat (.sl (hv.map ad))],emp⟩:=by
 refine ap ?_;simp only[mf_clear_Fits];obtain⟨hn0,hc0,ho,hsm,hsz⟩:=hc;have hany:=yU hv bn ⟨ho,.inr rfl⟩;unfold oX;rcases hr:cS cash cs
 ·rw[agT]
  simp only[go_sem,go_sem_proc,agt,bB,bJ,bU,aE,cH,cE,hn0,hc0,hr,agW]
  repeat' (first|refine qS ?_ ?_|fail)<;>intro h<;>simp only[h,go_sem,go_sem_proc,agt,bB,bJ,bU,aE,cH,cE,hn0,hc0,hr,agW]
 ·rw[ahf]
  rcases hl:((hv.length:Int)==(cash.length:Int))
  ·rw[decide_eq_false (show ¬ hv.length=cash.length by have:=ne_of_beq_false hl;omega),agT]
   simp only[go_sem,go_sem_proc,agt,bB,bJ,bU,aE,cH,cE,hn0,hc0,hr,hl,agy,bne,agW,agD]
   repeat' (first|refine qS ?_ ?_|fail)<;>intro h<;>simp only[h,go_sem,go_sem_proc,agt,bB,bJ,bU,aE,cH,cE,hn0,hc0,hr,hl,agy,bne,agW,agD]
  ·have hle:hv.length=cash.length:=by have:=eq_of_beq hl;omega
   rw[decide_eq_true hle,ahf];rcases ha:hv.any (pdF bn)
   ·rw[ha] at hany
    rw[agW,ahf];have hs:=hsm hr;have hn:=hs.n5;have h12:=hs.c12;obtain⟨hve,hvx⟩:=xP ha;have hvz:=hsz hr hle ha;have hvl:(qb hv).length=cash.length:=by unfold qb;rw[agy];exact hle
    have hrr:=(rightD_iff.1 hr).2.2.2
    have hpo:xK cs (qb hv):=⟨h12,by rw[hvl];exact hn,fun c hc=>by
     have h1:=hrr c hc;have h2:=hs.am c hc;rw[hvl];omega,fun x hx=>⟨(hvx x hx).1,by
     obtain⟨f,hf,rfl⟩:=List.mem_map.1 hx;exact hvz f hf⟩⟩
    have hpy:=tq cs (qb hv) hpo;rw[←hve] at hpy
    have hplim:∀ c∈cs,cg (cv cs ((qb hv).getD c.1.toNat 0) c):=fun c hc=>by
     have h1:=hrr c hc;refine Mm (fun c hc=>⟨(hrr c hc).2.2.2.2.2.2.1,hs.am c hc⟩) h12 ?_ hc;refine (hpo.x _ ?_).2;rw[ags,agr (by rw[hvl];omega)];exact List.getElem_mem _
    generalize hXX:qb hv=X at *;simp only[go_sem,go_sem_proc,agt,bB,bJ,bU,aE,cH,cE,hn0,hc0,hr,hl,hany,hpy,agy,bne,agW,agD];refine ae [1,2,8,41,42] [] (fun ((i,g):Nat × Nat) tm m=>i≤cash.length∧tm 43 = .dat (.int .i64 i)∧tm 10 = .ref 218051 g 4 0 i∧m 218051=some (g,aA ad (bH i fun j=>((cash.getD j 0:Int):Rat)))) (fun (i,_)=>cash.length-i) (0,0) (by refine⟨by omega,rfl,rfl,rfl⟩) ?_
    intro vs ms hvs hms;simp only[go_sem,go_sem_proc,agt,bB,bJ,bU,aE,cH,cE,agy] at hvs hms;subst hvs hms;rintro⟨i,g⟩ tm m hk-⟨hi,e43,e10,m51⟩;simp only[go_sem,go_sem_proc,agt,bB,bJ,bU,aE,cH,cE,List.cons.injEq] at hk;obtain⟨e1,e2,e8,e41,e42⟩:=hk;rcases agu (i<cash.length) with hlt | hge
    ·have d1:decide ((i:Int)<(cash.length:Int))=true:=decide_eq_true (by omega)
     have w3:IntKind.i64.wrap ((i:Int)+1)=((i+1:Nat):Int):=by rw[an _ (by omega) (by omega)];omega
     obtain⟨y,hy⟩:∃ y,cash[i]?=some y:=⟨_,agr hlt⟩;have hyd:cash.getD i 0=y:=by rw[ags,hy];rfl
     have hyr:=(rightD_iff.1 hr).2.2.1 y (agq hy);have hw:=eM y (d7 (by omega) (by omega));have hvs:=rp i fun j=>((cash.getD j 0:Int):Rat)
     rw[hyd] at hvs;have hrl:(bH i fun j=>((cash.getD j 0:Int):Rat)).length=i:=cW _ _;have hap:=fun (F:aF) cs hcs=>dm co kn 218051 g 64 (bH i fun j=>((cash.getD j 0:Int):Rat)) F (cs:=cs) hcs (by omega) (by omega)
     simp only[hrl] at hap;generalize aj ((y:Int):Rat)=F at *;obtain⟨⟨a1,a2⟩,⟨a3,a4⟩⟩:=F;have hap':=hap ((a1,a2),(a3,a4)) _ rfl;rw[←hvs] at hap';simp only[ad,ag1,agH] at hap' hw;simp only[go_sem,go_sem_proc,agt,bB,bJ,bU,aE,cH,cE,e1,e2,e8,e10,e41,e42,e43,m51,hy,d1,w3,hw,hap',aa,agy,agn]
     repeat' (first|refine qS ?_ ?_|fail)<;>intro h<;>simp only[h,go_sem,go_sem_proc,agt,bB,bJ,bU,aE,cH,cE,e1,e2,e8,e10,e41,e42,e43,m51,hy,d1,w3,hw,hap',aa,agy,agn]
     exact⟨(i+1,g+1),by dsimp only;omega,by dsimp only;omega,rfl,rfl,rfl⟩
    ·have d1:decide ((i:Int)<(cash.length:Int))=false:=decide_eq_false (by omega)
     obtain rfl:i=cash.length:=by omega
     simp only[go_sem,go_sem_proc,agt,bB,bJ,bU,aE,cH,cE,e1,e2,e8,e10,e41,e42,e43,d1,agy]
     refine ae [2,8,10,53,54] [] (fun ((t,s):Nat × (Nat→Rat)) tm m=>t≤cs.length∧tm 55 = .dat (.int .i64 t)∧m 218051=some (g,aA ad (bH cash.length s))∧SumAt cash cs (fun i=>X.getD i 0) (cs.take t) s) (fun (t,_)=>cs.length-t) (0,fun j=>((cash.getD j 0:Int):Rat)) (by
      refine⟨by omega,rfl,m51,⟨fun i hi=>by rw[agp,sR],fun i hi=>fZ (d7 (by have:=hs.cash i;omega) (by have:=hs.cash i;omega))⟩⟩) ?_
     intro vs ms hvs hms;simp only[go_sem,go_sem_proc,agt,bB,bJ,bU,aE,cH,cE,e2,e8,e10,agy] at hvs hms;subst hvs hms;clear e1 e2 e8 e10 e41 e42 e43 m51 hany hpy tm m;rintro⟨t,s⟩ tm m hk-⟨ht,e55,m51,hsa⟩;simp only[go_sem,go_sem_proc,agt,bB,bJ,bU,aE,cH,cE,List.cons.injEq] at hk;obtain⟨e2,e8,e10,e53,e54⟩:=hk;rcases agu (t<cs.length) with hlt | hge2
     ·have d1:decide ((t:Int)<(cs.length:Int))=true:=decide_eq_true (by omega)
      have w3:IntKind.i64.wrap ((t:Int)+1)=((t+1:Nat):Int):=by rw[an _ (by omega) (by omega)];omega
      obtain⟨⟨c1,c2,c3,c4⟩,hx⟩:∃ c,cs[t]?=some c:=⟨_,agr hlt⟩;have hcm:=agq hx;have hrc:=hrr _ hcm;have hpl:=hplim _ hcm;dsimp only at hrc hpl;have htk:cs.take (t+1)=cs.take t++[(c1,c2,c3,c4)]:=by rw[agx,hx];rfl
      rcases q:decide (c2<0)
      ·obtain⟨j,rfl⟩:∃ j:Nat,c2=(j:Int):=⟨c2.toNat,by have:=of_decide_eq_false q;omega⟩
       have hj:j<cash.length:=by omega
       have hsl:=hsa.l j hj;have hadd:=Kn hsl hpl;have hvg:=eP s hj;have hvl2:(bH cash.length s).length=cash.length:=cW _ _;rcases hk:gP (s j) (cv cs (X.getD c1.toNat 0) (c1,(j:Int),c3,c4))
       ·have hnf:¬ qv cash cs fun i=>X.getD i 0:=HK hsa hj (c:=(c1,(j:Int),c3,c4)) rfl hk (m:=cs.drop (t+1)) (by rw[←htk,List.take_append_drop])
        rw[KX hnf];rw[hk] at hadd;have hk0:pU false (s j+cv cs (X.getD c1.toNat 0) (c1,(j:Int),c3,c4))=(bV,6):=rfl;rw[hk0] at hadd;generalize bH cash.length s=R at *;generalize hP:aj (cv cs (X.getD c1.toNat 0) (c1,(j:Int),c3,c4))=P at *;generalize aj (s j)=F1 at *;obtain⟨⟨p1,p2⟩,⟨p3,p4⟩⟩:=P;obtain⟨⟨f1,f2⟩,⟨f3,f4⟩⟩:=F1;have t1:=z9 hvg;have t2:=zT (l:=R) (k:=j) (by omega);simp only[ad,bV] at hadd;have h60:((6:Int)==0)=false:=rfl;simp only[go_sem,go_sem_proc,agt,bB,bJ,bU,aE,cH,cE,e2,e8,e10,e53,e54,e55,m51,hx,hP,d1,q,hj,hadd,t1,t2,clL,ad,agy,agn,agH,h60,bne,agW]
        repeat' (first|refine qS ?_ ?_|fail)<;>intro h<;>simp only[h,go_sem,go_sem_proc,agt,bB,bJ,bU,aE,cH,cE,e2,e8,e10,e53,e54,e55,m51,hx,hP,d1,q,hj,hadd,t1,t2,clL,ad,agy,agn,agH,h60,bne,agW]
       ·have hsn:=hsa.add (c:=(c1,(j:Int),c3,c4)) rfl hk
        rw[←htk] at hsn;dsimp only at hsn;rw[hk] at hadd;have hk0:pU true (s j+cv cs (X.getD c1.toNat 0) (c1,(j:Int),c3,c4))=(aj (s j+cv cs (X.getD c1.toNat 0) (c1,(j:Int),c3,c4)),0):=rfl;rw[hk0] at hadd;have hvf:=Ay (N:=cash.length) (k:=j) s (s j+cv cs (X.getD c1.toNat 0) (c1,(j:Int),c3,c4));generalize hR2:bH cash.length (fun i=>if i=j then s j+cv cs (X.getD c1.toNat 0) (c1,(j:Int),c3,c4) else s i)=R2 at *;generalize bH cash.length s=R at *;generalize aj (s j+cv cs (X.getD c1.toNat 0) (c1,(j:Int),c3,c4))=Q at *;generalize hP:aj (cv cs (X.getD c1.toNat 0) (c1,(j:Int),c3,c4))=P at *;generalize aj (s j)=F1 at *;obtain⟨⟨p1,p2⟩,⟨p3,p4⟩⟩:=P;obtain⟨⟨f1,f2⟩,⟨f3,f4⟩⟩:=F1;obtain⟨⟨g1,g2⟩,⟨g3,g4⟩⟩:=Q;have t1:=z9 hvg;have t2:=zT (l:=R) (k:=j) (by omega);have t3:=KE (l:=R) (k:=j) (by omega) g1 g2 g3 g4;rw[hvf] at t3;simp only[ad] at hadd;simp only[go_sem,go_sem_proc,agt,bB,bJ,bU,aE,cH,cE,e2,e8,e10,e53,e54,e55,m51,hx,hP,d1,w3,q,hj,hadd,t1,t2,t3,clL,ad,agy,agn,bne,beq_self_eq_true,agD]
        repeat' (first|refine qS ?_ ?_|fail)<;>intro h<;>simp only[h,go_sem,go_sem_proc,agt,bB,bJ,bU,aE,cH,cE,e2,e8,e10,e53,e54,e55,m51,hx,hP,d1,w3,q,hj,hadd,t1,t2,t3,clL,ad,agy,agn,bne,beq_self_eq_true,agD]
        exact⟨(t+1,fun i=>if i=j then s j+cv cs (X.getD c1.toNat 0) (c1,(j:Int),c3,c4) else s i),by dsimp only;omega,by dsimp only;omega,rfl,by rw[hR2],hsn⟩
      ·have hsn:=hsa.skip (c:=(c1,c2,c3,c4)) (of_decide_eq_true q)
       rw[←htk] at hsn;simp only[go_sem,go_sem_proc,agt,bB,bJ,bU,aE,cH,cE,e2,e8,e10,e53,e54,e55,m51,hx,d1,w3,q,clL,agy,agn]
       repeat' (first|refine qS ?_ ?_|fail)<;>intro h<;>simp only[h,go_sem,go_sem_proc,agt,bB,bJ,bU,aE,cH,cE,e2,e8,e10,e53,e54,e55,m51,hx,d1,w3,q,clL,agy,agn]
       exact⟨(t+1,s),by dsimp only;omega,by dsimp only;omega,rfl,rfl,hsn⟩
     ·have d1:decide ((t:Int)<(cs.length:Int))=false:=decide_eq_false (by omega)
      rw[agY (by omega)] at hsa;have hvok:okL (bH cash.length s):=sJ (by omega) hsa.l;have hF:=AV (bH cash.length s) hv ⟨hvok,ho⟩
      have he:jP (bH cash.length s) hv=Fy cash cs fun i=>X.getD i 0:=by
       have h1:=A3 (fL cash.length s) X (fun x hx=>by
        obtain⟨i,hi,rfl⟩:=List.mem_map.1 hx;exact hsa.l i (List.mem_range.1 hi)) fun x hx=>(hvx x hx).2
       rw[←hve] at h1
       have h2:jP (bH cash.length s) hv=true↔qv cash cs fun i=>X.getD i 0:=by
        refine h1.trans ⟨fun h=>?_,fun h=>?_⟩
        ·intro i hi
         rw[hsa.a i hi,←h]
         show some (s i)=some ((fL cash.length s).getD i 0);rw[jY s 0 hi]
        ·refine (EC hvl fun i hi=>?_).symm
         have h3:=h i hi;rw[hsa.a i hi,Option.some.injEq] at h3;rw[h3]
         show X[i]?=some (X.getD i 0);rw[ags,agr (by omega)]
         rfl
       rw[Bool.eq_iff_iff,tU];exact h2
      rw[he] at hF;have hD:=eO (n:=5) co m51;rw[cW] at hD;simp only[go_sem,go_sem_proc,agt,bB,bJ,bU,aE,cH,cE,e2,e8,e10,e53,e54,e55,d1,hF,hD,kL,ag6,scalar,agy]
      repeat' (first|refine qS ?_ ?_|fail)<;>intro h<;>simp only[h,go_sem,go_sem_proc,agt,bB,bJ,bU,aE,cH,cE,e2,e8,e10,e53,e54,e55,d1,hF,hD,kL,ag6,scalar,agy]
   ·rw[ha] at hany
    rw[agD,agT];simp only[go_sem,go_sem_proc,agt,bB,bJ,bU,aE,cH,cE,hn0,hc0,hr,hl,hany,agy,bne,agW,agD]
    repeat' (first|refine qS ?_ ?_|fail)<;>intro h<;>simp only[h,go_sem,go_sem_proc,agt,bB,bJ,bU,aE,cH,cE,hn0,hc0,hr,hl,hany,agy,bne,agW,agD]
theorem JZ {n:Nat} {f:Nat→Nat} (h:∀ i,n≤i→f i=10):fOf (fL n fun i=>(f i:Int))=f:=by
 funext i
 by_cases hi:i<n
 ·exact Nv f hi
 ·unfold fOf
  rw[ags,List.getElem?_eq_none (by rw[bQ];omega),h i (by omega)];rfl
theorem BM {d:Day} {f:Nat→Nat} {h:Nat→Rat} (h10:∀ i,d.n≤i→f i=10):∀ i,d.n≤i→d.fallen f h i=10:=fun i hi=>by
 unfold Day.fallen;rw[if_neg fun x=>by omega,h10 i hi]
theorem tv (d:Day):∀ k f,(d.rounds k f).1.length≤k
 | 0,f=>agZ _
 | k+1,f=>by
  rw[Day.rounds]
  split
  ·exact agX _
  ·have:=tv d k (d.fallen f (d.top f))
   simp only[ag4];omega
def nY (l:List Nat):List Data:=[.sl (l.map gJ)]
theorem wt (l:List Nat):(nY l).length=1:=rfl
theorem E3 (l:List Nat):((nY l).map MV.dat).all MV.one=true:=rfl
def oU (done:List (List Nat)) (g:Nat):MV:=if done=[] then .nil else .ref 217077 g 1 0 done.length
structure QI (cash:List Int) (cs:List ClR) (g:Nat) (gs:Nat→Nat) (f:Nat→Nat) (done:List (List Nat)) (gF:Nat) (m:Mem):Prop where
 at_:∃ p,(((opA cash cs g gs).wf f).wP p).At m
 out:∃ g7,g7=0∧m 217007=some (g7,[.nil,.nil,oU done gF])
 row:done≠[]→m 217077=some (gF,aA nY done)
 no:∀ k:Nat,k / 1000≠217→k / 1000≠228→m k=none
 f10:∀ i,cash.length≤i→f i=10
 reach:Reach (ac cash (aG cash.length cs)) f
 frs:∃ r,kq cash.length f≤r∧(ac cash (aG cash.length cs)).frs=done++((ac cash (aG cash.length cs)).rounds r f).1∧(ac cash (aG cash.length cs)).fend=((ac cash (aG cash.length cs)).rounds r f).2
theorem P0 (T:Tab) (fB:T iX=mkQ nN) (aE:T bf=mkE fj) (aw:T a0=mkE dr) (eA:T bY=mkE ol) {K:bM→St→Prop} {kk:List Todo} (cash:List Int) (cs:List ClR) (hs0:SmallD cash cs) (g:Nat) (gs:Nat→Nat) (v1:MV) (tm:Nat→MV) (m:Mem)
  (e1:tm 1=v1) (e4:tm 4 = .ptr 217004 0 0) (e6:tm 6 = .ref 228023 g 1 0 cash.length) (e7:tm 7 = .ptr 217007 0 0) (m4:m 217004=some (0,[.nil,.nil,.nil])) (hat:QI cash cs g gs (fun _=>10) [] 0 m)
  (hK:∀ tm' m' gF,tm' 1=v1→tm' 4 = .ptr 217004 0 0→tm' 7 = .ptr 217007 0 0→m' 217004=some (0,[.nil,.nil,.nil])→m' 217007=some (0,[.dat (.sl ((bH cash.length (ac cash (aG cash.length cs)).gr).map ad)),.nil,oU (ac cash (aG cash.length cs)).frs gF])→((ac cash (aG cash.length cs)).frs≠[]→m' 217077=some (gF,aA nY (ac cash (aG cash.length cs)).frs))→kont T K kk (.exit 0) ⟨tm',m'⟩) :
  wp T (mf_clear_Solve.body.sub [1,1,1,1,0,0]) (kont T K kk) ⟨tm,m⟩:=by
 simp only[mf_clear_Solve,MCode.sub];have hs:=mT hs0;have hn:=hs.n5;have hd:=hs.ok;refine ae [1,4,6,7] [217004] (fun ((f,done,gF):(Nat→Nat) × List (List Nat) × Nat) tm m=>QI cash cs g gs f done gF m) (fun (f,_)=>kq cash.length f) (fun _=>10,[],0) (by exact hat) ?_;intro vs ms hvs hms;simp only[go_sem,go_sem_proc,agt,e1,e4,e6,e7,m4] at hvs hms;subst hvs hms;clear e1 e4 e6 e7 m4 hat tm m;rintro⟨f,done,gF⟩ tm m hk m4 hat;simp only[go_sem,go_sem_proc,agt,List.cons.injEq] at hk m4;obtain⟨e1,e4,e6,e7⟩:=hk;obtain⟨⟨p,hat⟩,⟨g7,rfl,hout⟩,hrow,hno,hf10,hreach,r,hr1,hr2,hr3⟩:=hat;dsimp only at *;have hfo:=JZ hf10;have hrc:=hreach;obtain⟨gI,hinv,-⟩:=hreach
 have hQ:=AS (((opA cash cs g gs).wf f).wP p) m ⟨hat,fun k hk=>hno k (by omega) (by omega),fun k hk=>hno k (by omega) (by omega),fun k hk=>hno k (by omega) (by omega),⟨hs,fun x hx=>by
  obtain⟨i,-,rfl⟩:=List.mem_map.1 hx;have:=hinv.le i;omega⟩,⟨gI,by show Inv (ac cash (aG cash.length cs)) (fOf (fL cash.length fun i=>(f i:Int))) gI;rw[hfo];exact hinv⟩⟩
 have hQ':nN [.ref 228023 g 1 0 cash.length] m=some (xd (((opA cash cs g gs).wf f).wP p) m):=hQ;simp only[go_sem,go_sem_proc,agt,fB,e1,e4,e6,e7,hQ'];have ht:=Day.top_spec (hd.hex f hrc);have hlim:∀ i,i<cash.length→cg ((ac cash (aG cash.length cs)).top f i):=fun i hi=>eC (Hj hs hrc hi) (by omega)
 have h0:∀ i,i<cash.length→0≤(ac cash (aG cash.length cs)).top f i:=fun i hi=>ht.nonneg hd hi
 rintro rr mem' ⟨hrr,p',hat',hout'⟩
 have hrr2:rr = .tup [.dat (.sl ((bH cash.length ((ac cash (aG cash.length cs)).top f)).map ad)),.dat (.bool true)]:=by
  rw[hrr]
  show MV.tup [.dat (.sl ((bH cash.length ((ac cash (aG cash.length cs)).top (fOf (fL cash.length fun i=>(f i:Int))))).map ad)),.dat (.bool true)]=_;rw[hfo]
 clear hrr hQ hQ';subst hrr2;have hO:∀ k:Nat,k / 1000≠228→mem' k=m k:=fun k hk=>hout' k fun i hi=>by have:i<cash.length:=hi;omega
 have q4:=(hO 217004 (by decide)).trans m4;have q7:=(hO 217007 (by decide)).trans hout;have hgr:(ac cash (aG cash.length cs)).falls f=gM (ac cash (aG cash.length cs)) f ((ac cash (aG cash.length cs)).top f) cash.length:=rfl
 have hfin0:(ac cash (aG cash.length cs)).falls f=[]→(ac cash (aG cash.length cs)).frs=done∧(ac cash (aG cash.length cs)).gr=(ac cash (aG cash.length cs)).top f:=fun h=>by
  have:=(ac cash (aG cash.length cs)).rounds_stop h r;rw[this,List.append_nil] at hr2;rw[this] at hr3;exact⟨hr2,by unfold Day.gr;rw[hr3]⟩
 have hnext:(ac cash (aG cash.length cs)).falls f≠[]→kq cash.length ((ac cash (aG cash.length cs)).fallen f ((ac cash (aG cash.length cs)).top f))<kq cash.length f∧Reach (ac cash (aG cash.length cs)) ((ac cash (aG cash.length cs)).fallen f ((ac cash (aG cash.length cs)).top f))∧(∀ i,cash.length≤i→(ac cash (aG cash.length cs)).fallen f ((ac cash (aG cash.length cs)).top f) i=10)∧∃ r,kq cash.length ((ac cash (aG cash.length cs)).fallen f ((ac cash (aG cash.length cs)).top f))≤r∧(ac cash (aG cash.length cs)).frs=(done++[(ac cash (aG cash.length cs)).falls f])++((ac cash (aG cash.length cs)).rounds r ((ac cash (aG cash.length cs)).fallen f ((ac cash (aG cash.length cs)).top f))).1∧(ac cash (aG cash.length cs)).fend=((ac cash (aG cash.length cs)).rounds r ((ac cash (aG cash.length cs)).fallen f ((ac cash (aG cash.length cs)).top f))).2:=fun hne=>by
  have hlt:=rS hd hd.hex hrc hne;have hlt':kq cash.length ((ac cash (aG cash.length cs)).fallen f ((ac cash (aG cash.length cs)).top f))<kq cash.length f:=hlt;refine⟨hlt',hrc.next hd hd.hex,BM (d:=ac cash (aG cash.length cs)) hf10,?_⟩
  cases r with
  | zero=>omega
  | succ r =>
   rw[Day.rounds,if_neg hne] at hr2 hr3;exact⟨r,by omega,by rw[hr2];simp,hr3⟩
 generalize hd':ac cash (aG cash.length cs)=d at *;generalize hV:(bH cash.length (d.top f)).map ad=V at *;simp only[go_sem,go_sem_proc,agt,e1,e4,e6,e7,q4,q7,agD];subst hd';rw[←hV];refine QM T aE aw eA ((opA cash cs g gs).wP p') hs f (fun i _=>hinv.le i) ((ac cash (aG cash.length cs)).top f) hlim h0 _ v1 (.ptr 217004 0 0) (.ptr 217007 0 0) (cN (mem' 217008)) (cN (mem' 217057)) _ _ ?_ ?_ ?_ ?_ ?_ ?_ ?_ ?_ ?_ (((show ((((opA cash cs g gs).wP p').wf f)).At mem' from hat').up hn (by decide)).up hn (by decide)|>.up hn (by decide)) ?_ ?_ (fun _ _ _ _=>rfl) ?_
 all_goals first | (intro tm2 m2 g2 k1 k4 k6 k7 k8 k10 q57 hat2 hfr2) | (simp only[aU,agz,if_false,if_true,e1,e4,e6,e7];done) | (simp only[aU,agz,if_false,if_true];rfl) | (simp only[aU,agz,if_false,if_true,e1,e4,e6,e7];rfl) | (simp only[az,agz,if_false,if_true];done) | (simp only[az,agz,if_false,if_true];rfl) | skip
 replace k10:tm2 10 = .ref 217057 g2 1 0 ((ac cash (aG cash.length cs)).falls f).length:=k10;replace q57:m2 217057=some (g2,aA gJ ((ac cash (aG cash.length cs)).falls f)):=q57;replace k6:tm2 6 = .ref 228023 g 1 0 cash.length:=k6;replace hat2:(((opA cash cs g gs).wP p').wf ((ac cash (aG cash.length cs)).fallen f ((ac cash (aG cash.length cs)).top f))).At m2:=hat2;have r4:m2 217004=some (0,[.nil,.nil,.nil]):=(hfr2 217004 (by decide) (by decide) (by decide)).trans (by simp only[az,agz,if_false];exact q4);have r7:m2 217007=some (0,[.nil,.nil,oU done gF]):=(hfr2 217007 (by decide) (by decide) (by decide)).trans (by simp only[az,agz,if_false];exact q7);have r8:m2 217008=some (cN (mem' 217008),[.dat (.sl V)]):=(hfr2 217008 (by decide) (by decide) (by decide)).trans (by simp only[az,agz,if_false,if_true];rw[hV]);have r77:done≠[]→m2 217077=some (gF,aA nY done):=fun h=>(hfr2 217077 (by decide) (by decide) (by decide)).trans (by simp only[az,agz,if_false];exact (hO 217077 (by decide)).trans (hrow h))
 have rne:∀ (k j:Nat),k / 1000≠217→j / 1000=217→k≠j:=fun k j h1 h2 h=>h1 (h ▸ h2)
 have rno:∀ k:Nat,k / 1000≠217→k / 1000≠228→m2 k=none:=fun k h1 h2=>(hfr2 k h2 (rne k _ h1 (by decide)) (rne k _ h1 (by decide))).trans (by
  rw[aH (rne k _ h1 (by decide)),aH (rne k _ h1 (by decide)),aH (rne k _ h1 (by decide))];exact (hO k h2).trans (hno k h1 h2))
 clear hfr2 hO hat' hout' q4 q7 hout hrow hno m4 e1 e4 e6 e7 hr2 hr3
 by_cases hne:(ac cash (aG cash.length cs)).falls f=[]
 ·obtain⟨h1,h2⟩:=hfin0 hne
  rw[hne] at k10;rw[h1,h2] at hK;have hl0:(((0:Nat):Int)==0)=true:=rfl;simp only[go_sem,go_sem_proc,agt,k1,k4,k6,k7,k8,k10,r4,r7,r8,hl0,List.length_nil,List.set_cons_zero];refine hK _ _ gF ?_ ?_ ?_ ?_ ?_ fun h=>?_
  ·simp only[aU,agz,if_false];exact k1
  ·simp only[aU,agz,if_false];exact k4
  ·simp only[aU,agz,if_false];exact k7
  ·simp only[az,agz,if_false];exact r4
  ·simp only[az,agz,if_true];rw[hV]
  ·simp only[az,agz,if_false];exact r77 h
 ·obtain⟨h1,h2,h3,h4⟩:=hnext hne
  have hfl5:((ac cash (aG cash.length cs)).falls f).length≤5:=agB (agC _ _) (by rw[ahg];exact hn)
  have hl0:((((ac cash (aG cash.length cs)).falls f).length:Int)==0)=false:=by
   have:((ac cash (aG cash.length cs)).falls f).length≠0:=fun h=>hne (List.length_eq_zero_iff.1 h)
   rw[beq_eq_false_iff_ne];omega
  have hfz:=fun (K:St→Prop) (st:St)=>cy (K:=K) (st:=st) gW 10 217057 g2 ((ac cash (aG cash.length cs)).falls f)
  have hml:(1≤maxLen)=True:=eq_true (by decide);generalize hfd:(ac cash (aG cash.length cs)).falls f=fl at *;clear hfin0 hnext hK;have hnoF:∀ (M:Mem),(∀ k:Nat,k / 1000≠217→M k=m2 k)→∀ k:Nat,k / 1000≠217→k / 1000≠228→M k=none:=fun M hM k h1 h2=>(hM k h1).trans (rno k h1 h2)
  by_cases hdn:done=[]
  ·subst hdn
   have hfm:oU [] gF = .nil:=rfl;rw[hfm] at r7;simp only[go_sem,go_sem_proc,agt,k1,k4,k6,k7,k8,k10,r4,r7,r8,q57,hl0,hfz,hml];refine⟨(_,[fl],cN (m2 217077)),h1,⟨⟨p',((hat2.up hn (by decide)).up hn (by decide)).up hn (by decide)⟩,⟨0,rfl,?_⟩,fun _=>?_,?_,h3,h2,h4⟩⟩
   ·rw[ce];rfl
   ·rw[aH (by decide),ce];rfl
   ·exact hnoF _ fun k hk=>by rw[aH (rne k _ hk (by decide)),aH (rne k _ hk (by decide)),aH (rne k _ hk (by decide))]
  ·have hfm:oU done gF = .ref 217077 gF 1 0 done.length:=by unfold oU;rw[if_neg hdn]
   rw[hfm] at r7;have q77:=r77 hdn
   have hdl:done.length+1≤50:=by
    obtain⟨r',-,h5,-⟩:=h4;have h6:=tv (ac cash (aG cash.length cs)) (10*(ac cash (aG cash.length cs)).n) fun _=>10
    have h7:(ac cash (aG cash.length cs)).frs.length≤10*cash.length:=h6;rw[h5] at h7;simp only[agK,agL] at h7;omega
   have hap:=dm wt E3 217077 gF 24 done fl (cs:=[.dat (.sl (fl.map gJ))]) rfl (by omega) (by omega);simp only[go_sem,go_sem_proc,agt,k1,k4,k6,k7,k8,k10,r4,r7,r8,q57,q77,hl0,hfz,hap];refine⟨(_,done++[fl],gF+1),h1,⟨⟨p',((hat2.up hn (by decide)).up hn (by decide)).up hn (by decide)⟩,⟨0,rfl,?_⟩,fun _=>?_,?_,h3,h2,h4⟩⟩
   ·rw[ce]
    unfold oU;rw[if_neg (by simp),agK];rfl
   ·rw[aH (by decide),ce]
   ·exact hnoF _ fun k hk=>by rw[aH (rne k _ hk (by decide)),aH (rne k _ hk (by decide)),aH (rne k _ hk (by decide))]

theorem Alike.gr {d e:Day} (h:Alike d e):d.gr=e.gr:=by unfold Day.gr Day.fend;rw[h.top,h.rounds,h.n]
theorem Alike.frs {d e:Day} (h:Alike d e):d.frs=e.frs:=by unfold Day.frs;rw[h.rounds,h.n]
structure DN (cash:List Int) (cs:List ClR):Prop where
 n:cash.length≤1000000
 c:cs.length≤1000000
 sm:cS cash cs=true→SmallD cash cs
noncomputable def uX (cash:List Int) (cs:List ClR):List aF:=cs.map fun c=>aj (cv cs ((ac cash cs).gr c.1.toNat) c)
noncomputable def iK (cash:List Int) (cs:List ClR):List aF:=bH cash.length (ac cash cs).gr
noncomputable def Dm (cash:List Int) (cs:List ClR):Data:=if cS cash cs=true then .tup [.agg [.sl ((iK cash cs).map ad),.sl ((uX cash cs).map ad),.sl ((ac cash cs).frs.map nY)],.int .i64 0] else .tup [.agg [.sl [],.sl [],.sl []],.int .i64 1]
theorem LW {cash:List Int} {cs:List ClR} (hs:SmallD cash cs):xK cs ((ahh cash.length).map (ac cash cs).gr):=by
 have hr:=(rightD_iff.1 hs.right).2.2.2;have hn:=hs.n5;refine⟨hs.c12,by simp;exact hn,fun c hc=>?_,fun x hx=>?_⟩
 ·have h1:=hr c hc
  have h2:=hs.am c hc;rw[agy,ahg];omega
 ·obtain⟨i,hi,rfl⟩:=List.mem_map.1 hx
  have hi':=List.mem_range.1 hi;exact⟨wH hs.ok hi',(AF hs hi').mono (by omega)⟩
theorem Lk {cash:List Int} {cs:List ClR} (hs:SmallD cash cs):(cs.map fun c=>aj (cv cs (((ahh cash.length).map (ac cash cs).gr).getD c.1.toNat 0) c))=uX cash cs:=ahc fun c hc=>by
 have h1:=(rightD_iff.1 hs.right).2.2.2 c hc;have:((ahh cash.length).map (ac cash cs).gr).getD c.1.toNat 0=(ac cash cs).gr c.1.toNat:=jY (ac cash cs).gr 0 (show c.1.toNat<cash.length by omega);rw[this]
noncomputable def mg:List Data→Option PRes:=FF (α:=(List Int) × (List ClR)) (fun (cash,cs)=>([.sl (cash.map aa),.sl (cs.map clL)]:List Data)) (fun (cash,cs)=>aI (DN cash cs) (.same (Dm cash cs)))
theorem yW:∀ a b:(List Int) × (List ClR),(fun (cash,cs)=>([.sl (cash.map aa),.sl (cs.map clL)]:List Data)) a=(fun (cash,cs)=>([.sl (cash.map aa),.sl (cs.map clL)]:List Data)) b→a=b:=by
  rintro⟨cash1,cs1⟩ ⟨cash2,cs2⟩ h;simp only[List.cons.injEq,Data.sl.injEq,and_true] at h;exact agA (af ai _ _ h.1) (af f5 _ _ h.2)
@[go_sem] theorem nI (cash:List Int) (cs:List ClR) (hc:DN cash cs):mg [.sl (cash.map aa),.sl (cs.map clL)]=some (.same (Dm cash cs)):=(aX yW (cash,cs)).trans (al hc _)
theorem H7 (T:Tab) (bB:T gj=mkE qz) (jy:T lG=mkQ xC) (fB:T iX=mkQ nN) (aE:T bf=mkE fj) (aw:T a0=mkE dr) (eA:T bY=mkE ol) (bU:T eL=mkE qx) (cash:List Int) (cs:List ClR) (hc:DN cash cs) :
  wp T mf_clear_Solve.body (bF mf_clear_Solve.res (.same (Dm cash cs))) ⟨ax [.dat (.sl (cash.map aa)),.dat (.sl (cs.map clL))],emp⟩:=by
 refine ap ?_;simp only[mf_clear_Solve];obtain⟨hn0,hc0,hsm⟩:=hc;unfold Dm;rcases hr:cS cash cs
 ·rw[if_neg (by decide)]
  simp only[go_sem,go_sem_proc,agt,bB,jy,fB,aE,aw,eA,bU,hn0,hc0,hr,agW]
  repeat' (first|refine qS ?_ ?_|fail)<;>intro h<;>simp only[h,go_sem,go_sem_proc,agt,bB,jy,fB,aE,aw,eA,bU,hn0,hc0,hr,agW]
 ·rw[if_pos rfl]
  have hs:=hsm hr;have hn:=hs.n5;have hal:=qj hr
  have hno:NoK 228 (az emp 217004 0 [MV.nil,MV.nil,MV.nil]):=fun k hk=>by
   rw[aH (by rintro rfl;omega)];rfl
  have hQ:=Cu cash cs (az emp 217004 0 [MV.nil,MV.nil,MV.nil]) ⟨hs,hno⟩;simp only[go_sem,go_sem_proc,agt,bB,jy,fB,aE,aw,eA,bU,hn0,hc0,hr,hQ,agD];rintro rr m ⟨g,gs,rfl,hat,hfr⟩;dsimp only at hat;have m4:m 217004=some (0,[.nil,.nil,.nil]):=(hfr 217004 (by decide)).trans ce;have m7:m 217007=none:=(hfr 217007 (by decide)).trans (aH (by decide));simp only[go_sem,go_sem_proc,agt,bB,jy,fB,aE,aw,eA,bU,m7];refine P0 T fB aE aw eA cash cs hs g gs (.dat (.sl (cs.map clL))) _ _ ?_ ?_ ?_ ?_ ?_ ⟨⟨fun _=>false,?_⟩,⟨0,rfl,?_⟩,fun h=>absurd rfl h,?_,fun _ _=>rfl,Reach.start (mT hs).ok,⟨10*cash.length,?_,rfl,rfl⟩⟩ ?_
  all_goals first | (intro tm2 m2 gF k1 k4 k7 q4 q7 q77) | (simp only[aU,agz,if_false,if_true];done) | (simp only[aU,agz,if_false,if_true];rfl) | (simp only[az,agz,if_false,if_true];done) | (simp only[az,agz,if_false,if_true];rfl) | (simp only[az,agz,if_false,if_true];exact m4) | skip
  ·exact hat.up hn (by decide)
  ·intro k h1 h2
   rw[aH (by rintro rfl;exact h1 (by decide)),hfr k h2,aH (by rintro rfl;exact h1 (by decide))];rfl
  ·rw[s9];exact agZ _
  rw[←hal.gr,←hal.frs] at q7;rw[←hal.frs] at q77;have hpy:=tq cs ((ahh cash.length).map (ac cash cs).gr) (LW hs);rw[Lk hs] at hpy;replace hpy:qx [.sl (cs.map clL),.sl ((iK cash cs).map ad)]=some (.same (.tup [.sl ((uX cash cs).map ad),.bool true])):=hpy;replace q7:m2 217007=some (0,[.dat (.sl ((iK cash cs).map ad)),.nil,oU (ac cash cs).frs gF]):=q7;generalize iK cash cs=HV at *;generalize uX cash cs=PD at *;generalize (ac cash cs).frs=FR at *;clear hal hQ hat hfr m4 m7
  by_cases hfe:FR=[]
  ·subst hfe
   replace q7:m2 217007=some (0,[.dat (.sl (HV.map ad)),.nil,.nil]):=q7;simp only[go_sem,go_sem_proc,agt,bB,jy,fB,aE,aw,eA,bU];refine re ?_;rintro M rfl;simp only[go_sem,go_sem_proc,agt,bB,jy,fB,aE,aw,eA,bU,k1,k4,k7,q4,q7,hpy,agD,agH]
   repeat' (first|refine qS ?_ ?_|fail)<;>intro h<;>simp only[h,go_sem,go_sem_proc,agt,bB,jy,fB,aE,aw,eA,bU,k1,k4,k7,q4,q7,hpy,agD,agH]
  ·have q8:=q77 hfe
   have hfm:oU FR gF = .ref 217077 gF 1 0 FR.length:=by unfold oU;rw[if_neg hfe]
   rw[hfm] at q7;simp only[go_sem,go_sem_proc,agt,bB,jy,fB,aE,aw,eA,bU];refine rn (MoveS.mfrz 217007 0 _ 2 217077 gF 1 0 FR.length _ (.sl (FR.map nY)) q7 rfl q8 (by decide) (eO (n:=0) wt q8)) ?_;intro M hM;have hM7:M 217007=some (0,[.dat (.sl (HV.map ad)),.nil,.dat (.sl (FR.map nY))]):=by rw[hM,ce];rfl
   have hM4:M 217004=some (0,[.nil,.nil,.nil]):=by
    rw[hM,aH (by decide)];unfold kill;rw[aH (by decide)];exact q4
   clear hM;simp only[go_sem,go_sem_proc,agt,bB,jy,fB,aE,aw,eA,bU,k1,k4,k7,hM4,hM7,hpy,agD]
   repeat' (first|refine qS ?_ ?_|fail)<;>intro h<;>simp only[h,go_sem,go_sem_proc,agt,bB,jy,fB,aE,aw,eA,bU,k1,k4,k7,hM4,hM7,hpy,agD]

set_option maxHeartbeats 1000000
theorem fewD_iff {cash:List Int} {cs:List ClR}:tG cash cs=true↔cash.length≤5∧cs.length≤12∧(∀ x∈cash,1000000<x→1000000000000000<x)∧∀ c∈cs,1000000<c.2.2.2→1000000000000000<c.2.2.2:=by
 have hf:∀ m:Int,lE m=true↔(1000000<m→1000000000000000<m):=fun m=>by
  unfold lE
  by_cases h1:m>1000000<;>by_cases h2:m≤1000000000000000<;>simp [h1,h2]<;>omega
 unfold tG;simp only[agP,aha,decide_eq_false_iff_not,ahi,hf]
 constructor
 ·rintro⟨h1,h2,h3,h4⟩
  exact⟨by omega,by omega,h3,h4⟩
 ·rintro⟨h1,h2,h3,h4⟩
  exact⟨by omega,by omega,h3,h4⟩
theorem NU {cash:List Int} {cs:List ClR} (hf:tG cash cs=true) (hr:cS cash cs=true):(∀ x∈cash,0≤x∧x≤1000000)∧∀ c∈cs,0≤c.2.2.2∧c.2.2.2≤1000000:=by
 obtain⟨-,-,h3,h4⟩:=fewD_iff.1 hf;obtain⟨-,-,h5,h6⟩:=rightD_iff.1 hr;refine⟨fun x hx=>?_,fun c hc=>?_⟩
 ·have:=h3 x hx;have:=h5 x hx;omega
 ·have:=h4 c hc;have:=h6 c hc;omega
theorem wX {cash:List Int} {cs:List ClR} (hf:tG cash cs=true) (hr:cS cash cs=true):SmallD cash cs:=by
 obtain⟨h1,h2,-,-⟩:=fewD_iff.1 hf;exact⟨hr,h1,h2,fun c hc=>by have:=(NU hf hr).2 c hc;omega⟩
theorem DK {cash:List Int} {cs:List ClR} (hf:tG cash cs=true):DN cash cs:=by
 obtain⟨h1,h2,-,-⟩:=fewD_iff.1 hf;exact⟨by omega,by omega,wX hf⟩
theorem LA {f:aF} {d:Nat} (hr:bc f=true) (hf:vv f d=true):szR (20*d) (ls f):=by
 obtain⟨e,h1,h2⟩:=mF hr;unfold vv at hf;simp only[agP,decide_eq_true_eq] at hf;obtain⟨g1,g2⟩:=hf;rw[e] at g1 g2;have k1:=dg_len.1 (show (dg (ls f).num.natAbs).length≤d from Int.ofNat_le.1 g1);have k2:=dg_len.1 (show (dg ((ls f).den:Int).natAbs).length≤d from Int.ofNat_le.1 g2);rw[Int.natAbs_natCast] at k2;have h20:(1048576:Nat)^d=2^(20*d):=by rw[Nat.pow_mul]
 rw[h20] at k1 k2;exact⟨ahj k1,ahj k2⟩
theorem Bw {l:List aF} {n d:Int} (hn:n≤1000) (hd:d≤1000) (h:nh l n d=true):okL l:=by
 unfold nh vv at h;simp only[agP,decide_eq_true_eq,ahi] at h;exact⟨by omega,fun f hf=>⟨by have:=h.2 f hf;omega,by have:=h.2 f hf;omega⟩⟩
theorem Mr {cash:List Int} {cs:List ClR} {hv:List aF} (hf:tG cash cs=true) (hh:nh hv 6 2=true):AK cash cs hv:=by
 have hc:=DK hf;refine⟨hc.n,hc.c,Bw (by omega) (by omega) hh,hc.sm,fun _ _ ha f hfm=>?_⟩
 obtain⟨h1,h2⟩:=xP ha
 have hfe:bc f=true:=by
  rw[h1] at hfm;obtain⟨x,hx,rfl⟩:=List.mem_map.1 hfm;exact ko (h2 x hx).2
 unfold nh at hh;simp only[agP,decide_eq_true_eq,ahi] at hh;exact (LA (d:=2) hfe (hh.2 f hfm)).mono (by omega)
section
variable {cash:List Int} {cs:List ClR} (hs:SmallD cash cs)
include hs
theorem Eo:okL (iK cash cs):=by
 have:=hs.n5;exact sJ (by omega) fun i hi=>eC (AF hs hi) (by omega)
theorem GQ:(iK cash cs).any (pdF bn)=false∧qb (iK cash cs)=(ahh cash.length).map (ac cash cs).gr:=by
 refine⟨?_,?_⟩
 ·rw[ag9]
  intro f hf;obtain⟨y,hy,rfl⟩:=List.mem_map.1 hf;obtain⟨i,hi,rfl⟩:=List.mem_map.1 hy;have hi':i<cash.length:=List.mem_range.1 hi;have hl:=eC (AF hs hi') (by omega);have hn:=wH hs.ok hi';rw[pH]
  show ¬ (!bc (aj ((ac cash cs).gr i))||decide ((aj ((ac cash cs).gr i)).1.1<0))=true;rw[ko hl];have:decide ((ac cash cs).gr i<0)=false:=decide_eq_false (by grind);rw[←uM] at this;have h2:decide ((aj ((ac cash cs).gr i)).1.1<0)=false:=this;rw[h2];decide
 ·unfold qb iK bH
  rw[ag5];exact (ahc fun x _=>kE x).trans (ahb _)
theorem Bf:AK cash cs (iK cash cs)∧oX cash cs (iK cash cs)=true:=by
 obtain⟨h1,h2⟩:=GQ hs;have hn:=hs.n5;have h12:=hs.c12;refine⟨⟨by omega,by omega,Eo hs,fun _=>hs,fun _ _ _ f hf=>?_⟩,?_⟩
 ·obtain⟨y,hy,rfl⟩:=List.mem_map.1 hf
  obtain⟨i,hi,rfl⟩:=List.mem_map.1 hy;rw[kE];exact (AF hs (List.mem_range.1 hi)).mono (by omega)
 ·unfold oX
  have hl:(iK cash cs).length=cash.length:=cW _ _;rw[hs.right,h1,decide_eq_true hl,ahf,ahf,agW,ahf,tU,h2];intro i hi;have hx:=LF hs i hi
  have hcs:nU cash cs (fun i=>((ahh cash.length).map (ac cash cs).gr).getD i 0) i cs=nU cash cs (ac cash cs).gr i cs:=by
   have hr:=(rightD_iff.1 hs.right).2.2.2
   have key:∀ n (l:List ClR),l.length=n→(∀ c∈l,c∈cs)→nU cash cs (fun i=>((ahh cash.length).map (ac cash cs).gr).getD i 0) i l=nU cash cs (ac cash cs).gr i l:=by
    intro n
    induction n with
    | zero=>intro l hl _;rw[List.length_eq_zero_iff.1 hl];rfl
    | succ n ih =>
     intro l hl hm;rcases agI l with h0 | ⟨m,c,rfl⟩
     ·subst h0;cases hl
     ·rw[agJ] at *
      simp only[agK,agL] at hl;have hc:=hr c (hm c (by simp));rw[ku,ku,ih m (by omega) fun y hy=>hm y (by simp [hy])]
      unfold nt;have:((ahh cash.length).map (ac cash cs).gr).getD c.1.toNat 0=(ac cash cs).gr c.1.toNat:=jY (ac cash cs).gr 0 (show c.1.toNat<cash.length by omega);simp only[this]
   exact key _ cs rfl fun c hc=>hc
  rw[hcs,hx]
  show _=some ((fL cash.length (ac cash cs).gr).getD i 0);rw[jY (ac cash cs).gr 0 hi]
theorem J7 {hv:List aF} (h:oX cash cs hv=true) {i:Nat} {f:aF} (hf:hv[i]?=some f):i<cash.length∧kg f (aj ((ac cash cs).gr i))≤0:=by
 unfold oX at h;simp only[agP,decide_eq_true_eq,aha] at h;obtain⟨-,hl,ha,hq⟩:=h;rw[tU] at hq;obtain⟨h1,h2⟩:=xP ha;have hi:i<cash.length:=by rw[←hl];exact (List.getElem?_eq_some_iff.1 hf).1
 refine⟨hi,?_⟩;have h3:=KO hs hq i hi;have hv2:(qb hv)[i]?=some (ls f):=by unfold qb;rw[agn,hf];rfl
 rw[h1] at hf;rw[agn,hv2,ago,Option.some.injEq] at hf;rw[ags,hv2,Option.getD_some] at h3;have hlim:=(h2 _ (agq hv2)).2;rw[←hf,nV hlim (eC (AF hs hi) (by omega))];have h4:=tR (x:=ls f) (y:=(ac cash cs).gr i);rw[decide_eq_false (show ¬ (ac cash cs).gr i<ls f by grind)] at h4;have:=of_decide_eq_false h4;omega
end
set_option maxHeartbeats 4000000
def jh (l:List Int):List Data:=[.sl (l.map aa)]
theorem tM:∀ a b:List Int,jh a=jh b→a=b:=by
 intro a b h;simp only[jh,List.cons.injEq,Data.sl.injEq,and_true] at h;exact af ai _ _ h
def CJ (a:List (List Int)):Prop:=a.length≤1000000∧∀ l∈a,l.length≤1000000
theorem E7 (l:List (List Nat)):l.map nY=(l.map fun r=>r.map fun n=>((n:Nat):Int)).map jh:=by
 rw[ag5];refine ahc fun r _=>?_
 simp only[nY,jh,Function.comp_apply,ag5]
 rfl
theorem wQ {x:Rat} (hx:cg x):fN [.agg (ad (aj x))]=some (.same (.bool true)):=by
 have h1:=et hx;have:=BF (aj x).1.1 (aj x).1.2 (aj x).2.1 (aj x).2.2 ⟨h1.1,h1.2⟩;rw[show bc (((aj x).1.1,(aj x).1.2),((aj x).2.1,(aj x).2.2))=true from ko hx] at this;exact this
theorem wD {n:Int} (h:cn n):pW [.int .i64 n]=some (.same (.agg (ad (aj (n:Rat))))):=zb n h
theorem wO (x:Rat):kU x x=0:=cmpQ_zero.2 rfl
noncomputable def lL:List Data→Option PRes:=FF (α:=(List (List Int)) × (List (List Int))) (fun (a,b)=>([.sl (a.map jh),.sl (b.map jh)]:List Data)) (fun (a,b)=>aI (CJ a∧CJ b) (.same (.bool (a==b))))
theorem pR:∀ a b:(List (List Int)) × (List (List Int)),(fun (a,b)=>([.sl (a.map jh),.sl (b.map jh)]:List Data)) a=(fun (a,b)=>([.sl (a.map jh),.sl (b.map jh)]:List Data)) b→a=b:=by
  rintro⟨a1,b1⟩ ⟨a2,b2⟩ h;simp only[List.cons.injEq,Data.sl.injEq,and_true] at h;exact agA (af tM _ _ h.1) (af tM _ _ h.2)
@[go_sem] theorem rQ (a:List (List Int)) (b:List (List Int)) (hc:CJ a∧CJ b):lL [.sl (a.map jh),.sl (b.map jh)]=some (.same (.bool (a==b))):=(aX pR (a,b)).trans (al hc _)
theorem vw (T:Tab)  (a:List (List Int)) (b:List (List Int)) (hc:CJ a∧CJ b) :
  wp T mf_ref20_SameRounds.body (bF mf_ref20_SameRounds.res (.same (.bool (a==b)))) ⟨ax [.dat (.sl (a.map jh)),.dat (.sl (b.map jh))],emp⟩:=by
 refine ap ?_;simp only[mf_ref20_SameRounds];obtain⟨⟨la,oa⟩,⟨lb,ob⟩⟩:=hc;rcases hl:((a.length:Int)==(b.length:Int))
 ·have hab:(a==b)=false:=by rw[beq_eq_false_iff_ne];rintro rfl;simp at hl
  rw[hab];refine qI ?_
  repeat' (intro h<;>simp only[h,go_sem,go_sem_proc,agt,hl,agy,bne,agW]<;>try refine qS ?_ ?_)
 ·have hle:a.length=b.length:=by have:=eq_of_beq hl;omega
  simp only[go_sem,go_sem_proc,agt,hl,agy,bne,agD];refine ae [0,1] [] (fun (i:Nat) tm mem=>i≤a.length∧a.take i=b.take i∧tm 5 = .dat (.int .i64 i)) (fun i=>a.length-i) 0 (by refine⟨agX _,by simp,rfl⟩) ?_;intro vs ms hvs hms;simp only[go_sem,go_sem_proc,agt,agy] at hvs hms;subst hvs hms;rintro i tm mem hk hm ⟨hi,hall,e5⟩;simp only[go_sem,go_sem_proc,agt,List.cons.injEq] at hk hm;obtain⟨e0,e1⟩:=hk;rcases agu (i<a.length) with hlt | hge
  ·have d1:decide ((i:Int)<(a.length:Int))=true:=decide_eq_true (by omega)
   have w3:IntKind.i64.wrap ((i:Int)+1)=((i+1:Nat):Int):=by rw[an _ (by omega) (by omega)];omega
   obtain⟨x,hx⟩:∃ x,a[i]?=some x:=⟨_,agr hlt⟩;obtain⟨y,hy⟩:∃ x,b[i]?=some x:=⟨_,agr (by omega)⟩;have ox:=oa x (agq hx);rcases q:((x.length:Int)==(y.length:Int))
   ·have hab:(a==b)=false:=by rw[beq_eq_false_iff_ne];rintro rfl;rw[hx] at hy;cases hy;simp at q
    rw[hab];refine qI ?_
    repeat' (intro h<;>simp only[h,go_sem,go_sem_proc,agt,e0,e1,e5,hx,hy,d1,q,jh,agy,agn,bne,agW]<;>try refine qS ?_ ?_)
   ·have hxy:x.length=y.length:=by have:=eq_of_beq q;omega
    simp only[go_sem,go_sem_proc,agt,e0,e1,e5,hx,hy,d1,q,jh,agy,agn,bne,agD];refine ae [0,1,5] [] (fun (k:Nat) tm mem=>k≤x.length∧x.take k=y.take k∧tm 6 = .dat (.int .i64 k)) (fun k=>x.length-k) 0 (by refine⟨agX _,by simp,rfl⟩) ?_;intro vs ms hvs hms;simp only[go_sem,go_sem_proc,agt,e0,e1,e5] at hvs hms;subst hvs hms;clear e0 e1 e5 hm tm mem;rintro k tm mem hk hm ⟨hki,hal2,e6⟩;simp only[go_sem,go_sem_proc,agt,List.cons.injEq] at hk hm;obtain⟨e0,e1,e5⟩:=hk;rcases agu (k<x.length) with hlk | hgk
    ·have d2:decide ((k:Int)<(x.length:Int))=true:=decide_eq_true (by omega)
     have w4:IntKind.i64.wrap ((k:Int)+1)=((k+1:Nat):Int):=by rw[an _ (by omega) (by omega)];omega
     obtain⟨u,hu⟩:∃ u,x[k]?=some u:=⟨_,agr hlk⟩;obtain⟨v,hv⟩:∃ u,y[k]?=some u:=⟨_,agr (by omega)⟩;rcases q2:(u==v)
     ·have hab:(a==b)=false:=by
       rw[beq_eq_false_iff_ne];rintro rfl;rw[hx] at hy
       cases hy;rw[hu] at hv
       cases hv;simp at q2
      rw[hab];refine qI ?_
      repeat' (intro h<;>simp only[h,go_sem,go_sem_proc,agt,e0,e1,e5,e6,hx,hy,hu,hv,d2,q2,jh,aa,agy,agn,bne,agW]<;>try refine qS ?_ ?_)
     ·have huv:u=v:=by simpa using q2
      refine qI ?_
      repeat' (intro h<;>simp only[h,go_sem,go_sem_proc,agt,e0,e1,e5,e6,hx,hy,hu,hv,d2,w4,q2,jh,aa,agy,agn,bne,agD]<;>try refine qS ?_ ?_)
      exact⟨k+1,by omega,by omega,by rw[agx,agx,hal2,hu,hv,huv],rfl⟩
    ·have d2:decide ((k:Int)<(x.length:Int))=false:=decide_eq_false (by omega)
     rw[agY (by omega),agY (by omega)] at hal2;refine qI ?_
     repeat' (intro h<;>simp only[h,go_sem,go_sem_proc,agt,e0,e1,e5,e6,hx,d2,w3,jh,agy,agn]<;>try refine qS ?_ ?_)
     exact⟨i+1,by omega,by omega,by rw[agx,agx,hall,hx,hy,hal2],rfl⟩
  ·have d1:decide ((i:Int)<(a.length:Int))=false:=decide_eq_false (by omega)
   rw[agY (by omega),agY (by omega)] at hall;have hab:(a==b)=true:=by rw[hall];exact beq_self_eq_true _
   rw[hab];refine qI ?_
   repeat' (intro h<;>simp only[h,go_sem,go_sem_proc,agt,e0,e1,e5,d1,agy]<;>try refine qS ?_ ?_)
structure HasOK (cash:List Int) (cs:List ClR) (hv pv:List Int) (fl:List (List Int)):Prop where
 s:SmallD cash cs
 h:iK cash cs=hv.map fun n:Int=>aj (n:Rat)
 p:uX cash cs=pv.map fun n:Int=>aj (n:Rat)
 f:((ac cash cs).frs.map fun r=>r.map fun n=>((n:Nat):Int))=fl
 hi:∀ n∈hv,cn n
 pi:∀ n∈pv,cn n
 o:CJ fl
theorem HasOK.solve {cash:List Int} {cs:List ClR} {hv pv:List Int} {fl:List (List Int)} (h:HasOK cash cs hv pv fl):mg [.sl (cash.map aa),.sl (cs.map clL)]=some (.same (.tup [.agg [.sl ((hv.map fun n:Int=>aj (n:Rat)).map ad),.sl ((pv.map fun n:Int=>aj (n:Rat)).map ad),.sl (fl.map jh)],.int .i64 0])):=by
 have hn:=h.s.n5;have h12:=h.s.c12;have sv:=nI cash cs ⟨by omega,by omega,fun _=>h.s⟩
 unfold Dm at sv;rw[if_pos h.s.right,h.h,h.p,E7,h.f] at sv;exact sv
theorem HasOK.fits {cash:List Int} {cs:List ClR} {hv pv:List Int} {fl:List (List Int)} (h:HasOK cash cs hv pv fl):pI [.sl (cash.map aa),.sl (cs.map clL),.sl ((hv.map fun n:Int=>aj (n:Rat)).map ad)]=some (.same (.bool true)):=by
 obtain⟨h1,h2⟩:=Bf h.s;have:=pD cash cs (iK cash cs) h1;rw[h2,h.h] at this;exact this
theorem HasOK.small {cash:List Int} {cs:List ClR} {hv pv:List Int} {fl:List (List Int)} (h:HasOK cash cs hv pv fl):hv.length≤5∧pv.length≤12:=by
 have h1:=congrArg ahk h.h;have h2:=congrArg ahk h.p;unfold iK at h1;unfold uX at h2;rw[cW,agy] at h1;rw[agy,agy] at h2;have hn:=h.s.n5;have h12:=h.s.c12;omega
noncomputable def CL:List Data→Option PRes:=FF (α:=(List Int) × (List ClR) × (List Int) × (List Int) × (List (List Int))) (fun (cash,cs,hv,pv,fl)=>([.sl (cash.map aa),.sl (cs.map clL),.sl (hv.map aa),.sl (pv.map aa),.sl (fl.map jh)]:List Data)) (fun (cash,cs,hv,pv,fl)=>aI (HasOK cash cs hv pv fl) (.same (.bool true)))
theorem Ci:∀ a b:(List Int) × (List ClR) × (List Int) × (List Int) × (List (List Int)),(fun (cash,cs,hv,pv,fl)=>([.sl (cash.map aa),.sl (cs.map clL),.sl (hv.map aa),.sl (pv.map aa),.sl (fl.map jh)]:List Data)) a=(fun (cash,cs,hv,pv,fl)=>([.sl (cash.map aa),.sl (cs.map clL),.sl (hv.map aa),.sl (pv.map aa),.sl (fl.map jh)]:List Data)) b→a=b:=by
  rintro⟨cash1,cs1,hv1,pv1,fl1⟩ ⟨cash2,cs2,hv2,pv2,fl2⟩ h;simp only[List.cons.injEq,Data.sl.injEq,and_true] at h;exact agA (af ai _ _ h.1) (agA (af f5 _ _ h.2.1) (agA (af ai _ _ h.2.2.1) (agA (af ai _ _ h.2.2.2.1) (af tM _ _ h.2.2.2.2))))
@[go_sem] theorem oK (cash:List Int) (cs:List ClR) (hv:List Int) (pv:List Int) (fl:List (List Int)) (hc:HasOK cash cs hv pv fl):CL [.sl (cash.map aa),.sl (cs.map clL),.sl (hv.map aa),.sl (pv.map aa),.sl (fl.map jh)]=some (.same (.bool true)):=(aX Ci (cash,cs,hv,pv,fl)).trans (al hc _)
theorem N8 (T:Tab) (cA:T ei=mkE mg) (dx:T gU=mkE lL) (iO:T lk=mkE pW) (aw:T a0=mkE dr) (aK:T aW=mkE fN) (dG:T eR=mkE pI) (cash:List Int) (cs:List ClR) (hv:List Int) (pv:List Int) (fl:List (List Int)) (hc:HasOK cash cs hv pv fl) :
  wp T mf_law20_has.body (bF mf_law20_has.res (.same (.bool true))) ⟨ax [.dat (.sl (cash.map aa)),.dat (.sl (cs.map clL)),.dat (.sl (hv.map aa)),.dat (.sl (pv.map aa)),.dat (.sl (fl.map jh))],emp⟩:=by
 refine ap ?_;simp only[mf_law20_has];have sv:=hc.solve;have ft:=hc.fits;have sr:=rQ fl fl ⟨hc.o,hc.o⟩;rw[beq_self_eq_true] at sr;obtain⟨l1,l2⟩:=hc.small;have hhi:=hc.hi;have hpi:=hc.pi;clear hc;simp only[go_sem,go_sem_proc,agt,cA,dx,iO,aw,aK,dG,sv,sr,agy,bne,beq_self_eq_true,agD];refine ae [0,1,2,3,11] [226011] (fun (i:Nat) tm mem=>i≤hv.length∧tm 13 = .dat (.int .i64 i)) (fun i=>hv.length-i) 0 (by refine⟨agX _,rfl⟩) ?_;intro vs ms hvs hms;simp only[go_sem,go_sem_proc,agt,cA,dx,iO,aw,aK,dG,agy] at hvs hms;subst hvs hms;rintro i tm mem hk hm ⟨hi,e13⟩;simp only[go_sem,go_sem_proc,agt,cA,dx,iO,aw,aK,dG,List.cons.injEq] at hk hm;obtain⟨e0,e1,e2,e3,e11⟩:=hk;rcases agu (i<hv.length) with hlt | hge
 ·have d1:decide ((i:Int)<(hv.length:Int))=true:=decide_eq_true (by omega)
  have w3:IntKind.i64.wrap ((i:Int)+1)=((i+1:Nat):Int):=by rw[an _ (by omega) (by omega)];omega
  obtain⟨n,hn⟩:∃ n,hv[i]?=some n:=⟨_,agr hlt⟩;have hin:=hhi n (agq hn);have hl:=fZ hin;have a1:=wD hin;have a2:=iB hl hl;have a3:=wQ hl;rw[wO] at a2;generalize hF:aj ((n:Int):Rat)=F at *;obtain⟨⟨f1,f2⟩,⟨f3,f4⟩⟩:=F;simp only[ad] at a1 a2 a3;refine qI ?_
  repeat' (intro h<;>simp only[h,go_sem,go_sem_proc,agt,cA,dx,iO,aw,aK,dG,e0,e1,e2,e3,e11,e13,hm,hn,hF,d1,w3,a1,a2,a3,ad,aa,agy,agn,bne,beq_self_eq_true,agD]<;>try refine qS ?_ ?_)
  exact⟨i+1,by omega,by omega,rfl⟩
 ·have d1:decide ((i:Int)<(hv.length:Int))=false:=decide_eq_false (by omega)
  simp only[go_sem,go_sem_proc,agt,cA,dx,iO,aw,aK,dG,e0,e1,e2,e3,e11,e13,hm,d1,agy];refine ae [0,1,3,11] [226011] (fun (i:Nat) tm mem=>i≤pv.length∧tm 14 = .dat (.int .i64 i)) (fun i=>pv.length-i) 0 (by refine⟨agX _,rfl⟩) ?_;intro vs ms hvs hms;simp only[go_sem,go_sem_proc,agt,cA,dx,iO,aw,aK,dG,e0,e1,e3,e11,hm,agy] at hvs hms;subst hvs hms;clear e0 e1 e2 e3 e11 e13 hm d1 tm mem;rintro i tm mem hk hm ⟨hi,e14⟩;simp only[go_sem,go_sem_proc,agt,cA,dx,iO,aw,aK,dG,List.cons.injEq] at hk hm;obtain⟨e0,e1,e3,e11⟩:=hk;rcases agu (i<pv.length) with hlt | hge
  ·have d1:decide ((i:Int)<(pv.length:Int))=true:=decide_eq_true (by omega)
   have w3:IntKind.i64.wrap ((i:Int)+1)=((i+1:Nat):Int):=by rw[an _ (by omega) (by omega)];omega
   obtain⟨n,hn⟩:∃ n,pv[i]?=some n:=⟨_,agr hlt⟩;have hin:=hpi n (agq hn);have hl:=fZ hin;have a1:=wD hin;have a2:=iB hl hl;have a3:=wQ hl;rw[wO] at a2;generalize hF:aj ((n:Int):Rat)=F at *;obtain⟨⟨f1,f2⟩,⟨f3,f4⟩⟩:=F;simp only[ad] at a1 a2 a3;refine qI ?_
   repeat' (intro h<;>simp only[h,go_sem,go_sem_proc,agt,cA,dx,iO,aw,aK,dG,e0,e1,e3,e11,e14,hm,hn,hF,d1,w3,a1,a2,a3,ad,aa,agy,agn,bne,beq_self_eq_true,agD]<;>try refine qS ?_ ?_)
   exact⟨i+1,by omega,by omega,rfl⟩
  ·have d1:decide ((i:Int)<(pv.length:Int))=false:=decide_eq_false (by omega)
   refine qI ?_
   repeat' (intro h<;>simp only[h,go_sem,go_sem_proc,agt,cA,dx,iO,aw,aK,dG,e0,e1,e3,e11,e14,hm,d1,ft,agy]<;>try refine qS ?_ ?_)
end Go.Mini
