/- A part of the proof. -/
import Derived.Test.YtdbkjjoedjfmpaaM08
import Derived.Test.YtdbkjjoedjfmpaaM04
import Derived.Test.YtdbkjjoedjfmpaaM03
set_option linter.unusedSimpArgs false
set_option linter.unusedVariables false
open Bool renaming and_eq_true → aaX, false_eq_true → abn
open List renaming getD_eq_getElem?_getD → aaY, take → aaZ, drop → aa0, length_map → aa1, map_set → aa2, append_assoc → aa3, length_take → aa4, set_append_right → aa5, drop_eq_getElem_cons → aa7, set_cons_zero → aa8, take_add_one → aa9, map_append → aba, getElem?_append_right → abc, getElem?_drop → abd, getElem?_eq_none → abf, length_append → abg, length_drop → abh, getElem?_set → abi, length_set → abj, ext_getElem? → abk, mem_of_getElem? → abl, mem_append → abo, mem_of_mem_drop → abp, getElem?_eq_getElem → abr, set_cons_succ → abt, set_set → abv, mem_singleton → abw, drop_eq_nil_of_le → aby, append_nil → abz, map → abA, take_of_length_le → abB, map_cons → abD, length → abE, getElem?_map → abF, getElem_mem → abH, map_nil → abJ, getElem?_zipIdx → abK, mem_cons_of_mem → abM, mem_cons_self → abN, map_map → abO, mapM_cons → abP, drop_zero → abQ, flatten_cons → abR, range → abS, length_cons → abT, replicate → abZ, map_replicate → ab0, replicate_append_replicate → ab2, flatten_append → ab3, take_append_of_le_length → ab4, drop_append → ab5, nil_append → ab6, replicate_succ → ab8, length_replicate → aca
open Nat renaming sub_self → aa6, lt_or_ge → abb, add_zero → abe, zero_le → abm, mul_one → abs, reduceLeDiff → abu, reduceEqDiff → abx, le_refl → abC, eq_zero_or_pos → abL, exists_eq_add_of_le → ab1, add_sub_cancel_left → ab7, sub_zero → ab9
open Decidable renaming em → abq
open Option renaming map_some → abG
open Prod renaming ext → abI
open Int renaming one_mul → abU, zero_mul → abV, mul_zero → abW, add_zero → abX, zero_add → abY
open Rat renaming add_zero → acb, le_refl → acd, div_def → acf
open Classical renaming byContradiction → ace
namespace Go.Mini
open Go
set_option maxRecDepth 10000
set_option maxHeartbeats 4000000
theorem eF {x:Rat} (h:cy x):okF (ak x):=⟨eP h.1,eP (tV h)⟩
theorem fw:okF bz:=⟨by simp [bz],by simp [bz]⟩
theorem MD (p q:Raw):okF (fH p q).1:=by
 unfold fH
 split
 ·rename_i h
  rw[aaX] at h;obtain⟨x,hx,e1⟩:=(bj _).1 h.1;obtain⟨y,hy,e2⟩:=(bj _).1 h.2
  split
  ·exact fw
  ·rw[e1,e2,aQ,aQ]
   exact eF (mO hx hy)
 ·exact fw
theorem tY (p q:Raw × Int):okF (nu p q).1:=by
 unfold nu
 split
 ·split
  ·exact MD _ _
  ·exact fw
 ·exact fw
theorem Li (a b:aU):okF (uA a b).1:=by
 unfold uA
 split
 ·split
  ·exact tY _ _
  ·exact fw
 ·exact fw
theorem Eh (a b:aU):okF (nv a b).1:=by
 unfold nv
 split
 ·split
  ·exact Li _ _
  ·exact fw
 ·exact fw
theorem Lq (a b:aU):okF (lX a b).1:=by
 unfold lX
 split
 ·split
  ·exact tY _ _
  ·exact fw
 ·exact fw
theorem EU (a b:aU):okF (iY a b).1:=by
 unfold iY
 split
 ·split
  ·split
   ·exact fw
   ·exact tY _ _
  ·exact fw
 ·exact fw
theorem tX {x:MR} {c:Nat} {f:aU} (h:x.2.2[c]?=some f):cJ x c=f:=by
 unfold cJ;rw[aaY,h]
 rfl
theorem kU {rows:List MR} {i:Nat} {x:MR} (h:rows[i]?=some x):ff rows i=x:=by
 unfold ff;rw[aaY,h]
 rfl
theorem Gt {l:List aU} {k:Nat} (h:k<l.length):(k*4+4≤(ay ad l).length)=True:=eq_true (by rw[dx cH];omega)
theorem Fi {l:List aU} {k:Nat} {a b c d} (h:l[k]?=some ((a,b),(c,d))):aaZ 4 (aa0 (k*4) (ay ad l))=[.dat (.int .i64 a),.dat (.sl (b.map aa)),.dat (.int .i64 c),.dat (.sl (d.map aa))]:=by
 have:=SP h;unfold cut at this;rw[if_pos (by rw[dx cH];have:=(List.getElem?_eq_some_iff.1 h).1;omega)] at this;exact Option.some.inj this
theorem Ou {l:List aU} {k:Nat} (h:k<l.length) (a:Int) (b:List Int) (c:Int) (d:List Int) :
  aaZ (k*4) (ay ad l)++[MV.dat (.int .i64 a),.dat (.sl (b.map aa)),.dat (.int .i64 c),.dat (.sl (d.map aa))]++aa0 (k*4+4) (ay ad l)=ay ad (l.set k ((a,b),(c,d))):=by
 rw[←zi cH h]
 rfl
theorem C9 {N:Nat} {rows:List MR} {i:Nat} (h:i<rows.length):(i+1≤(cb N rows).length)=True:=eq_true (by unfold cb;rw[aa1];omega)
theorem Hp {N:Nat} {rows:List MR} {i:Nat} {x:MR} (h:rows[i]?=some x):aaZ 1 (aa0 i (cb N rows))=[.ref (x.1+900000) x.2.1 4 0 (N+1)]:=by
 have:=S4 (N:=N) h;unfold cut at this;rw[if_pos (by unfold cb;rw[aa1];have:=(List.getElem?_eq_some_iff.1 h).1;omega)] at this;exact Option.some.inj this
theorem RZ {N:Nat} {rows:List MR} {i:Nat} (h:i<rows.length) (b:MR):aaZ i (cb N rows)++[MV.ref (b.1+900000) b.2.1 4 0 (N+1)]++aa0 (i+1) (cb N rows)=cb N (rows.set i b):=by
 unfold cb;rw[aa2,List.set_eq_take_append_cons_drop,if_pos (by rw[aa1];exact h),aa3]
 rfl
theorem oZ (fac:aU):∀ (l p:List aU) (b:Bool),(cV fac l p b).1.length=l.length
 | [],_,_=>by simp [cV]
 | f::fs,[],b=>by cases b<;>simp [cV]
 | f::fs,p::ps,true=>by simp [cV]
 | f::fs,p::ps,false=>by simp [cV,oZ fac fs ps]
theorem pg (fac:aU) (l p:List aU):cV fac l p true=(l,true):=by
 cases l<;>cases p<;>simp [cV]
theorem vd (fac:aU) (p:List aU) (b:Bool):cV fac [] p b=([],b):=by
 cases b<;>simp [cV]
theorem yI {α:Type} (f:α→α) {l:List α} {k:Nat} {x:α} (h:l[k]?=some x):((l.take k).map f++l.drop k).set k (f x)=(l.take (k+1)).map f++l.drop (k+1):=by
 obtain⟨hlt,hx⟩:=List.getElem?_eq_some_iff.1 h;have hl:((l.take k).map f).length=k:=by rw[aa1,aa4];omega
 rw[aa5 _ _ (by omega),hl,aa6,aa7 hlt,aa8,aa9,h,aba,aa3]
 rfl
theorem vD {α:Type} (f:α→α) {l:List α} {k:Nat}:((l.take k).map f++l.drop k)[k]?=l[k]?:=by
 rcases abb k l.length with h | h
 ·have hl:((l.take k).map f).length=k:=by rw[aa1,aa4];omega
  rw[abc (by omega),hl,aa6,abd,abe]
 ·rw[abf h,abf (by rw[abg,aa1,aa4,abh];omega)]
theorem tZ {α:Type} {rows:List α} {r i:Nat} {x xr:α} (hx:rows[i]?=some x) (hxr:rows[r]?=some xr):((rows.set r x).set i xr)[r]?=some x:=by
 have h1:=(List.getElem?_eq_some_iff.1 hx).1;have h2:=(List.getElem?_eq_some_iff.1 hxr).1;rw[abi,abi,abj]
 by_cases h:i=r
 ·subst h
  rw[hx] at hxr
  cases hxr;rw[if_pos rfl,if_pos h1]
 ·rw[if_neg h,if_pos rfl,if_pos h2]
theorem ue {α:Type} {l:List α} {i:Nat} {x:α} (h:l[i]?=some x):l.set i x=l:=by
 obtain⟨hlt,hx⟩:=List.getElem?_eq_some_iff.1 h;apply abk;intro j;rw[abi]
 by_cases hij:i=j
 ·subst hij
  rw[if_pos rfl,if_pos hlt,h]
 ·rw[if_neg hij]
theorem S9 (a b:Nat):(!(a+900000==129015)||decide (2<b*4))=true:=by
 have:(a+900000==129015)=false:=by simp
 rw[this];rfl
theorem lP:foreign 168004:=by unfold foreign;omega
theorem lK:foreign 168006:=by unfold foreign;omega
def MCode.sub:MCode→List Nat→MCode
 | .seq a _,0::p=>a.sub p
 | .seq _ b,_::p=>b.sub p
 | .cond _ a _,0::p=>a.sub p
 | .cond _ _ b,_::p=>b.sub p
 | .block _ c,_::p=>c.sub p
 | .ghost _ c,_::p=>c.sub p
 | .loop c,_::p=>c.sub p
 | c,_=>c
def RY (f:aU):List MV:=[.dat (.int .i64 f.1.1),.dat (.sl (f.1.2.map aa)),.dat (.int .i64 f.2.1),.dat (.sl (f.2.2.map aa))]
theorem Oi (T:Tab) (ld:T bW=mkU mQ) (cw:T dm=mkE lT) (bM:T cY=mkE kI) {K:bH→St→Prop} {kk:List Todo}
  (go N r c i2:Nat) (mem:Mem) (hn4:mem 168004=none) (hn6:mem 168006=none) (hN:N≤40) (R2:List MR) (hok2:MatOK N R2) (x y:MR) (prow:List aU) (hyr:R2[i2]?=some y) (hr2:R2[r]?=some (x.1,x.2.1,prow)) (hirn:i2≠r) (hrN:r<N) (bd:Bool)
  (g1:Int) (g2:List Int) (g3:Int) (g4:List Int) (hgl:okF ((g1,g2),(g3,g4))) (tm:Nat→MV) (m:Mem) (G:Nat)
  (e0:tm 0 = .ptr 129015 0 0) (e1:tm 1 = .dat (.int .i64 r)) (e2:tm 2 = .dat (.int .i64 c)) (e12:tm 12 = .ref (y.1+900000) y.2.1 4 0 (N+1)) (e13:tm 13 = .ptr 148013 G 0) (e112:tm 112 = .ref 129035 go 1 0 N) (e113:tm 113 = .dat (.int .i64 N)) (e114:tm 114 = .dat (.int .i64 i2)) (e14:tm 14 = .dat (.int .i64 0))
  (em:m 148013=some (G,[.dat (.int .i64 g1),.dat (.sl (g2.map aa)),.dat (.int .i64 g3),.dat (.sl (g4.map aa))])) (hps:PS mem go N R2 bd m)
  (hK:∀ tm' m' l b,tm' 0 = .ptr 129015 0 0→tm' 1 = .dat (.int .i64 r)→tm' 2 = .dat (.int .i64 c)→tm' 112 = .ref 129035 go 1 0 N→tm' 113 = .dat (.int .i64 N)→tm' 114 = .dat (.int .i64 i2)→(l,b)=cV ((g1,g2),(g3,g4)) y.2.2 prow bd→MatOK N (R2.set i2 (y.1,y.2.1,l))→PS mem go N (R2.set i2 (y.1,y.2.1,l)) b m'→kont T K kk (.exit 6) ⟨tm',m'⟩) :
  wp T (mf_linear_matrix_pivot.body.sub [1,1,1,1,1,1,1,0,1,0,0,1,1,0,0,1,1,1,1,0]) (kont T K kk) ⟨tm,m⟩:=by
 simp only[mf_linear_matrix_pivot,MCode.sub];have hi2N:i2<N:=by rw[←hok2.len];exact (List.getElem?_eq_some_iff.1 hyr).1
 obtain⟨hyl,hyo⟩:=hok2.row y (abl hyr);have hsety:R2.set i2 (y.1,y.2.1,[]++y.2.2.drop 0)=R2:=ue hyr
 refine ae [0,1,2,12,13,112,113,114] [148013] (fun ((k,pre,b):Nat × List aU × Bool) tm m=>k≤N+1∧pre.length=k∧(∀ f∈pre,okF f)∧cV ((g1,g2),(g3,g4)) y.2.2 prow bd=(pre++(cV ((g1,g2),(g3,g4)) (y.2.2.drop k) (prow.drop k) b).1,(cV ((g1,g2),(g3,g4)) (y.2.2.drop k) (prow.drop k) b).2)∧tm 14 = .dat (.int .i64 k)∧PS mem go N (R2.set i2 (y.1,y.2.1,pre++y.2.2.drop k)) b m) (fun (k,_,_)=>N+1-k) (0,[],bd) (by
  refine⟨abm _,rfl,(by simp),rfl,e14,?_⟩;rw[hsety];exact hps) ?_
 intro vs ms hvs hms;simp only[go_sem,go_sem_proc,abn,e0,e1,e2,e12,e13,e112,e113,e114,em] at hvs hms;subst hvs hms;clear e0 e1 e2 e12 e13 e112 e113 e114 em e14 hps tm m;rintro⟨k3,pre,b⟩ tm m3 hk hm ⟨hk3,hpre,hpo,he3,h14,hps3⟩;simp only[go_sem,go_sem_proc,abn,List.cons.injEq] at hk hm;obtain⟨h0,h1,h2,h12,h13,h112,h113,h114⟩:=hk;have hcl3:(pre++y.2.2.drop k3).length=N+1:=by rw[abg,abh];omega
 have hok3:MatOK N (R2.set i2 (y.1,y.2.1,pre++y.2.2.drop k3)):=hok2.set hyr hcl3 fun f hf=>by
  rw[abo] at hf;rcases hf with hf | hf
  ·exact hpo f hf
  ·exact hyo f (abp hf)
 have hy3:(R2.set i2 (y.1,y.2.1,pre++y.2.2.drop k3))[i2]?=some (y.1,y.2.1,pre++y.2.2.drop k3):=by
  rw[abi,if_pos rfl,if_pos (by rw[hok2.len];exact hi2N)]
 have hr3:(R2.set i2 (y.1,y.2.1,pre++y.2.2.drop k3))[r]?=some (x.1,x.2.1,prow):=by
  rw[abi,if_neg hirn];exact hr2
 have hm15':=hps3.1.m;have hm35':=hps3.1.o;rcases abq (k3<N+1) with hk3lt | hk3ge
 ·have hkl:decide ((k3:Int)<((N+1:Nat):Int))=true:=decide_eq_true (by omega)
  cases b
  ·obtain⟨⟨⟨a1,a2⟩,⟨a3,a4⟩⟩,hfk⟩:∃ f,y.2.2[k3]?=some f:=⟨_,abr (by omega)⟩
   have hprl:prow.length=N+1:=(hok2.row _ (abl hr2)).1;obtain⟨⟨⟨p1,p2⟩,⟨p3,p4⟩⟩,hpk⟩:∃ f,prow[k3]?=some f:=⟨_,abr (by omega)⟩;have hfo:=hyo _ (abl hfk);have hpo':=(hok2.row _ (abl hr2)).2 _ (abl hpk)
   have hcg:(pre++y.2.2.drop k3)[k3]?=some ((a1,a2),(a3,a4)):=by
    rw[abc (by omega),hpre,aa6,abd,abe,hfk]
   have hd1:y.2.2.drop k3=((a1,a2),(a3,a4))::y.2.2.drop (k3+1):=by
    obtain⟨hl,e⟩:=List.getElem?_eq_some_iff.1 hfk;rw[aa7 hl,e]
   have hd2:prow.drop k3=((p1,p2),(p3,p4))::prow.drop (k3+1):=by
    obtain⟨hl,e⟩:=List.getElem?_eq_some_iff.1 hpk;rw[aa7 hl,e]
   have hnew:∀ s:aU,(pre++y.2.2.drop k3).set k3 s=(pre++[s])++y.2.2.drop (k3+1):=fun s=>by
    rw[aa5 _ _ (by omega),hpre,aa6,hd1,aa8,aa3];rfl
   have hym3:=hps3.1.r _ (abl hy3);have hxm3:=hps3.1.r _ (abl hr3);have q4:m3 168004=none:=(hps3.2 _ lP).trans hn4;have q6:m3 168006=none:=(hps3.2 _ lK).trans hn6;have t1:=Hp (N:=N) hr3;have t2:=C9 (N:=N) (rows:=R2.set i2 (y.1,y.2.1,pre++y.2.2.drop k3)) (i:=r) (by rw[hok3.len];exact hrN);have t3:=Fi hcg;have t4:=Gt (l:=pre++y.2.2.drop k3) (k:=k3) (by omega);have t5:=Fi hpk;have t6:=Gt (l:=prow) (k:=k3) (by omega);have hw3:IntKind.i64.wrap ((k3:Int)+1)=((k3+1:Nat):Int):=by rw[aj _ (by omega) (by omega)];omega
   have hmo:=Lq ((g1,g2),(g3,g4)) ((p1,p2),(p3,p4));have hso:=Eh ((a1,a2),(a3,a4)) (lX ((g1,g2),(g3,g4)) ((p1,p2),(p3,p4))).1;have he4:=he3;rw[hd1,hd2] at he4;simp only[cV] at he4;generalize hM:lX ((g1,g2),(g3,g4)) ((p1,p2),(p3,p4))=M at *;obtain⟨⟨⟨u1,u2⟩,⟨u3,u4⟩⟩,e1⟩:=M;dsimp only at hso he4 hmo;generalize hS:nv ((a1,a2),(a3,a4)) ((u1,u2),(u3,u4))=S at *;obtain⟨⟨⟨v1,v2⟩,⟨v3,v4⟩⟩,e2⟩:=S;dsimp only at hso he4;have t7:=Ou (l:=pre++y.2.2.drop k3) (k:=k3) (by omega) v1 v2 v3 v4;refine qI ?_
   repeat' (intro h<;>simp only[h,go_sem,go_sem_proc,abn,ld,bM,cw,h0,h1,h2,h12,h13,h14,h112,h113,h114,hm,hm15',hm35',hym3,hxm3,q4,q6,t1,t2,t3,t4,t5,t6,t7,hkl,hk3lt,hrN,hw3,hM,hS,hfo.1,hfo.2,hpo'.1,hpo'.2,hgl.1,hgl.2,hmo.1,hmo.2,RY,bE,ad,abs,mQ,abt,aa8,decide_true,decide_false,abu,ne_eq,not_false_eq_true,and_self]<;>try refine qS ?_ ?_)
   have e5:=PS.set hok3 hy3 ((pre++y.2.2.drop k3).set k3 ((v1,v2),(v3,v4))) ((hps3.flag (e1 != 0)).flag (e1 != 0||e2 != 0));rw[abv,hnew] at e5;refine⟨S9 _ _,(k3+1,pre++[((v1,v2),(v3,v4))],(e1 != 0||e2 != 0)),by dsimp only;omega,by dsimp only;omega,by simp [hpre],?_,?_,rfl,?_⟩
   ·intro f hf
    rw[abo,abw] at hf;rcases hf with hf | rfl
    ·exact hpo f hf
    ·exact hso
   ·rw[he4]
    dsimp only;rw[aa3]
    rfl
   ·dsimp only
    rw[hnew];exact e5
  ·rw[pg] at he3
   refine qI ?_
   repeat' (intro h<;>simp only[h,go_sem,go_sem_proc,abn,h0,h1,h2,h12,h13,h14,h112,h113,h114,hm15',hm35',hkl]<;>try refine qS ?_ ?_)
   refine hK _ _ (pre++y.2.2.drop k3) true ?_ ?_ ?_ ?_ ?_ ?_ he3.symm hok3 hps3<;>simp only[aH,abx,if_false,h0,h1,h2,h112,h113,h114]
 ·have hkl:decide ((k3:Int)<((N+1:Nat):Int))=false:=decide_eq_false (by omega)
  have hnl:y.2.2.drop k3=[]:=aby (by omega);rw[hnl,vd,←hnl] at he3;refine qI ?_
  repeat' (intro h<;>simp only[h,go_sem,go_sem_proc,abn,h0,h1,h2,h12,h13,h14,h112,h113,h114,hm15',hm35',hkl]<;>try refine qS ?_ ?_)
  refine hK _ _ (pre++y.2.2.drop k3) b ?_ ?_ ?_ ?_ ?_ ?_ he3.symm hok3 hps3<;>simp only[aH,abx,if_false,h0,h1,h2,h112,h113,h114]
theorem Pb (T:Tab) (lJ:T gf=mkE y9) (ld:T bW=mkU mQ) (cw:T dm=mkE lT) (bM:T cY=mkE kI) {K:bH→St→Prop} {kk:List Todo}
  (go N r c:Nat) (mem:Mem) (hn4:mem 168004=none) (hn6:mem 168006=none) (hN:N≤40) (hrN:r<N) (hcN':c<N+1) (dv:List MR) (hcok:MatOK N dv) (x:MR) (prow:List aU) (hcr:dv[r]?=some (x.1,x.2.1,prow)) (bd0:Bool) (tm:Nat→MV) (m:Mem)
  (e0:tm 0 = .ptr 129015 0 0) (e1:tm 1 = .dat (.int .i64 r)) (e2:tm 2 = .dat (.int .i64 c)) (e112:tm 112 = .ref 129035 go 1 0 N) (e113:tm 113 = .dat (.int .i64 N)) (e114:tm 114 = .dat (.int .i64 0)) (hps:PS mem go N dv bd0 m)
  (hK:∀ tm' m',PS mem go N (bQ prow r c 0 dv bd0).1 (bQ prow r c 0 dv bd0).2 m'→kont T K kk (.exit 4) ⟨tm',m'⟩) :
  wp T (mf_linear_matrix_pivot.body.sub [1,1,1,1,1,1,1,0,1,0]) (kont T K kk) ⟨tm,m⟩:=by
 simp only[mf_linear_matrix_pivot,MCode.sub]
 refine ae [0,1,2,112,113] [] (fun ((i2,dn,bd):Nat × List MR × Bool) tm m=>i2≤N∧dn.length=i2∧bQ prow r c 0 dv bd0=(dn++(bQ prow r c i2 (dv.drop i2) bd).1,(bQ prow r c i2 (dv.drop i2) bd).2)∧MatOK N (dn++dv.drop i2)∧(dn++dv.drop i2)[r]?=some (x.1,x.2.1,prow)∧tm 114 = .dat (.int .i64 i2)∧PS mem go N (dn++dv.drop i2) bd m) (fun (i2,_,_)=>N-i2) (0,[],bd0) (by
  exact⟨abm _,rfl,rfl,hcok,hcr,e114,hps⟩) ?_
 intro vs ms hvs hms;simp only[go_sem,go_sem_proc,abn,e0,e1,e2,e112,e113] at hvs hms;subst hvs hms;clear e0 e1 e2 e112 e113 e114 hps tm m;rintro⟨i2,dn,bd⟩ tm m2 hk hm ⟨hi2,hdn,hel,hok2,hr2,h114,hps2⟩;simp only[go_sem,go_sem_proc,abn,List.cons.injEq] at hk hm;obtain⟨h0,h1,h2,h112,h113⟩:=hk;have hm15':=hps2.1.m;have hm35':=hps2.1.o;have hdvl:dv.length=N:=hcok.len;rcases abq (i2<N) with hilt | hige
 ·obtain⟨y,hy⟩:∃ y,dv[i2]?=some y:=⟨_,abr (by omega)⟩
  have hdrop:dv.drop i2=y::dv.drop (i2+1):=by
   obtain⟨hl,rfl⟩:=List.getElem?_eq_some_iff.1 hy;exact aa7 hl
  have hyr:(dn++dv.drop i2)[i2]?=some y:=by
   rw[abc (by omega),hdn,aa6,abd,abe,hy]
  obtain⟨hyl,hyo⟩:=hok2.row y (abl hyr);have hym:=hps2.1.r y (abl hyr);obtain⟨⟨⟨g1,g2⟩,⟨g3,g4⟩⟩,hg⟩:∃ f,y.2.2[c]?=some f:=⟨_,abr (by omega)⟩;have hgc:=tX hg;have t1:=Hp (N:=N) hyr;have t2:=C9 (N:=N) (rows:=dn++dv.drop i2) (i:=i2) (by rw[hok2.len];exact hilt);have t3:=Fi hg;have t4:=Gt (l:=y.2.2) (k:=c) (by omega);have hil:decide ((i2:Int)<(N:Int))=true:=decide_eq_true (by omega);have hw:IntKind.i64.wrap ((i2:Int)+1)=((i2+1:Nat):Int):=by rw[aj _ (by omega) (by omega)];omega
  have happ:∀ z:MR,(dn++[z])++dv.drop (i2+1)=(dn++dv.drop i2).set i2 z:=fun z=>by
   rw[aa5 _ _ (by omega),hdn,aa6,hdrop,aa8,aa3];rfl
  have hself:(dn++[y])++dv.drop (i2+1)=dn++dv.drop i2:=by rw[happ];exact ue hyr
  have hskip:∀ b:Bool,(b=true→i2=r∨(g1==0)=true)→b=true→bQ prow r c 0 dv bd0=((dn++[y])++(bQ prow r c (i2+1) (dv.drop (i2+1)) bd).1,(bQ prow r c (i2+1) (dv.drop (i2+1)) bd).2):=by
   intro b hb hbt
   have hcond:(i2==r||ib (cJ y c))=true:=by
    rcases hb hbt with h | h
    ·rw[h,beq_self_eq_true];rfl
    ·rw[hgc]
     have:ib ((g1,g2),(g3,g4))=true:=h;rw[this,Bool.or_true]
   rw[hel,hdrop];simp only[bQ];rw[if_pos hcond,aa3]
   rfl
  rcases hir:((i2:Int)==(r:Int))
  ·have hirn:i2≠r:=by intro h;rw[h] at hir;simp at hir
   rcases hgz:(g1==0)
   ·have hgl:okF ((g1,g2),(g3,g4)):=hyo _ (abl hg)
    simp only[go_sem,go_sem_proc,abn,lJ,h0,h1,h2,h112,h113,h114,hm15',hm35',hym,t1,t2,t3,t4,hilt,hil,hcN',hir,hgz,abs];refine Oi T ld cw bM go N r c i2 mem hn4 hn6 hN (dn++dv.drop i2) hok2 x y prow hyr hr2 hirn hrN bd g1 g2 g3 g4 hgl _ _ (cL (m2 148013)) ?_ ?_ ?_ ?_ ?_ ?_ ?_ ?_ ?_ ?_ ((hps2.own (.inr (.inr rfl))).own (.inr (.inr rfl))) ?_
    ·exact h0
    ·exact h1
    ·exact h2
    ·rfl
    ·rfl
    ·exact h112
    ·exact h113
    ·exact h114
    ·rfl
    ·simp [aA]
    ·intro tm' m' l b k0 k1 k2 k112 k113 k114 hlb hok3 hps3
     simp only[go_sem,go_sem_proc,abn,h0,h1,h2,k0,k1,k2,k112,k113,k114,hw]
     repeat' (first|refine qS ?_ ?_|fail)<;>intro h<;>simp only[h,go_sem,go_sem_proc,abn,h0,h1,h2,k0,k1,k2,k112,k113,k114,hw]
     refine⟨(i2+1,dn++[(y.1,y.2.1,l)],b),by dsimp only;omega,by dsimp only;omega,by simp [hdn],?_,by dsimp only;rw[happ];exact hok3,by dsimp only;rw[happ,abi,if_neg hirn];exact hr2,rfl,?_⟩
     ·have hcond:¬ (i2==r||ib (cJ y c))=true:=by
       rw[hgc];have h1:ib ((g1,g2),(g3,g4))=false:=hgz;have h2:(i2==r)=false:=by simpa using hirn
       rw[h1,h2];simp
      rw[hel,hdrop];simp only[bQ];rw[if_neg hcond,hgc,←hlb,aa3]
      rfl
     ·dsimp only
      rw[happ];exact hps3
   ·simp only[go_sem,go_sem_proc,abn,lJ,h0,h1,h2,h112,h113,h114,hm15',hm35',hym,t1,t2,t3,t4,hilt,hil,hcN',hw,hir,hgz,abs]
    repeat' (first|refine qS ?_ ?_|fail)<;>intro h<;>simp only[h,go_sem,go_sem_proc,abn,lJ,h0,h1,h2,h112,h113,h114,hm15',hm35',hym,t1,t2,t3,t4,hilt,hil,hcN',hw,hir,hgz,abs]
    refine⟨(i2+1,dn++[y],bd),by dsimp only;omega,by dsimp only;omega,by simp [hdn],hskip true (fun _ => .inr hgz) rfl,by dsimp only;rw[hself];exact hok2,by dsimp only;rw[hself];exact hr2,rfl,?_⟩
    dsimp only;rw[hself];exact (hps2.own (.inr (.inr rfl))).own (.inr (.inr rfl))
  ·have hirn:i2=r:=by have h:=beq_iff_eq.1 hir;omega
   simp only[go_sem,go_sem_proc,abn,lJ,h0,h1,h2,h112,h113,h114,hm15',hm35',hym,t1,t2,t3,t4,hilt,hil,hcN',hw,hir,abs]
   repeat' (first|refine qS ?_ ?_|fail)<;>intro h<;>simp only[h,go_sem,go_sem_proc,abn,lJ,h0,h1,h2,h112,h113,h114,hm15',hm35',hym,t1,t2,t3,t4,hilt,hil,hcN',hw,hir,abs]
   refine⟨(i2+1,dn++[y],bd),by dsimp only;omega,by dsimp only;omega,by simp [hdn],hskip true (fun _ => .inl hirn) rfl,by dsimp only;rw[hself];exact hok2,by dsimp only;rw[hself];exact hr2,rfl,?_⟩
   dsimp only;rw[hself];exact (hps2.own (.inr (.inr rfl))).own (.inr (.inr rfl))
 ·have hin:i2=N:=by omega
  have hil:decide ((i2:Int)<(N:Int))=false:=decide_eq_false (by omega);have hnil:dv.drop i2=[]:=aby (by omega);rw[hnil] at hel hps2;simp only[bQ,abz] at hel hps2;rw[hel] at hK;simp only[go_sem,go_sem_proc,abn,h0,h1,h2,h112,h113,h114,hm15',hm35',hil]
  repeat' (first|refine qS ?_ ?_|fail)<;>intro h<;>simp only[h,go_sem,go_sem_proc,abn,h0,h1,h2,h112,h113,h114,hm15',hm35',hil]
  exact hK _ _ hps2
theorem N3 (T:Tab) (ld:T bW=mkU mQ) (fV:T gB=mkE o6) {K:bH→St→Prop} {kk:List Todo}
  (go N r c:Nat) (mem:Mem) (hn4:mem 168004=none) (hn6:mem 168006=none) (hN:N≤40) (hrN:r<N) (sw:List MR) (hoks:MatOK N sw) (x:MR) (hswr:sw[r]?=some x) (f1:Int) (f2:List Int) (f3:Int) (f4:List Int) (hfl:okF ((f1,f2),(f3,f4))) (tm:Nat→MV) (m:Mem) (G:Nat)
  (e0:tm 0 = .ptr 129015 0 0) (e1:tm 1 = .dat (.int .i64 r)) (e2:tm 2 = .dat (.int .i64 c)) (e8:tm 8 = .ptr 148008 G 0) (e85:tm 85 = .ref (x.1+900000) x.2.1 4 0 (N+1)) (e86:tm 86 = .dat (.int .i64 ((N+1:Nat):Int))) (e87:tm 87 = .dat (.int .i64 0))
  (em:m 148008=some (G,[.dat (.int .i64 f1),.dat (.sl (f2.map aa)),.dat (.int .i64 f3),.dat (.sl (f4.map aa))])) (hps:PS mem go N sw false m)
  (hK:∀ tm' m',tm' 0 = .ptr 129015 0 0→tm' 1 = .dat (.int .i64 r)→tm' 2 = .dat (.int .i64 c)→MatOK N (sw.set r (x.1,x.2.1,(cv ((f1,f2),(f3,f4)) x.2.2).1))→PS mem go N (sw.set r (x.1,x.2.1,(cv ((f1,f2),(f3,f4)) x.2.2).1)) (cv ((f1,f2),(f3,f4)) x.2.2).2 m'→kont T K kk (.exit 2) ⟨tm',m'⟩) :
  wp T (mf_linear_matrix_pivot.body.sub [1,1,1,1,1,1,0,1,0]) (kont T K kk) ⟨tm,m⟩:=by
 simp only[mf_linear_matrix_pivot,MCode.sub];obtain⟨hxl,hxo⟩:=hoks.row x (abl hswr)
 have hset0:∀ l:List aU,(sw.set r (x.1,x.2.1,l))[r]?=some (x.1,x.2.1,l):=fun l=>by
  rw[abi,if_pos rfl,if_pos (by rw[hoks.len];exact hrN)]
 refine ae [0,1,2,8,85,86] [148008] (fun (k:Nat) tm m=>k≤N+1∧tm 87 = .dat (.int .i64 k)∧PS mem go N (sw.set r (x.1,x.2.1,(x.2.2.take k).map (fun f=>(iY f ((f1,f2),(f3,f4))).1)++x.2.2.drop k)) ((x.2.2.take k).any fun f=>(iY f ((f1,f2),(f3,f4))).2 != 0) m) (fun k=>N+1-k) 0 (by
  refine⟨abm _,e87,?_⟩;have e:sw.set r (x.1,x.2.1,(x.2.2.take 0).map (fun f=>(iY f ((f1,f2),(f3,f4))).1)++x.2.2.drop 0)=sw:=ue hswr
  rw[e];exact hps) ?_
 intro vs ms hvs hms;simp only[go_sem,go_sem_proc,abn,e0,e1,e2,e8,e85,e86,em] at hvs hms;subst hvs hms;clear e0 e1 e2 e8 e85 e86 e87 em hps tm m;rintro k tm m hk hm ⟨hkN,h87,hps⟩;simp only[go_sem,go_sem_proc,abn,List.cons.injEq] at hk hm;obtain⟨h0,h1,h2,h8,h85,h86⟩:=hk
 have hcl:((x.2.2.take k).map (fun f=>(iY f ((f1,f2),(f3,f4))).1)++x.2.2.drop k).length=N+1:=by
  rw[abg,aa1,aa4,abh];omega
 have hcok:MatOK N (sw.set r (x.1,x.2.1,(x.2.2.take k).map (fun f=>(iY f ((f1,f2),(f3,f4))).1)++x.2.2.drop k)):=by
  refine hoks.set hswr hcl fun f hf=>?_
  rw[abo] at hf;rcases hf with hf | hf
  ·obtain⟨f',-,rfl⟩:=List.mem_map.1 hf
   exact EU _ _
  ·exact hxo f (abp hf)
 have hcr:=hset0 ((x.2.2.take k).map (fun f=>(iY f ((f1,f2),(f3,f4))).1)++x.2.2.drop k)
 rcases abq (k<N+1) with hklt | hkge
 ·obtain⟨⟨⟨a1,a2⟩,⟨a3,a4⟩⟩,hfk⟩:∃ f,x.2.2[k]?=some f:=⟨_,abr (by omega)⟩
  have hcg:=(vD (fun f=>(iY f ((f1,f2),(f3,f4))).1) (l:=x.2.2) (k:=k)).trans hfk
  have hnew:=yI (fun f=>(iY f ((f1,f2),(f3,f4))).1) hfk
  have hany:(x.2.2.take (k+1)).any (fun f=>(iY f ((f1,f2),(f3,f4))).2 != 0)=((x.2.2.take k).any (fun f=>(iY f ((f1,f2),(f3,f4))).2 != 0)||(iY ((a1,a2),(a3,a4)) ((f1,f2),(f3,f4))).2 != 0):=by
   rw[aa9,hfk,List.any_append];simp
  obtain⟨hfo1,hfo2⟩:=hxo _ (abl hfk);generalize (x.2.2.take k).map (fun f=>(iY f ((f1,f2),(f3,f4))).1)++x.2.2.drop k=cur at *
  generalize ((x.2.2.take k).any fun f=>(iY f ((f1,f2),(f3,f4))).2 != 0)=bd at *
  have hm15':=hps.1.m;have hm35':=hps.1.o;have hxm':=hps.1.r _ (abl hcr);have q4:m 168004=none:=(hps.2 _ lP).trans hn4;have q6:m 168006=none:=(hps.2 _ lK).trans hn6;have t1:=Hp (N:=N) hcr;have t2:=C9 (N:=N) (rows:=sw.set r (x.1,x.2.1,cur)) (i:=r) (by rw[hcok.len];exact hrN);have t3:=Fi hcg;have t4:=Gt (l:=cur) (k:=k) (by omega);have hkl:decide ((k:Int)<((N+1:Nat):Int))=true:=decide_eq_true (by omega);have hw:IntKind.i64.wrap ((k:Int)+1)=((k+1:Nat):Int):=by rw[aj _ (by omega) (by omega)];omega
  generalize hV:iY ((a1,a2),(a3,a4)) ((f1,f2),(f3,f4))=V at *;obtain⟨⟨⟨v1,v2⟩,⟨v3,v4⟩⟩,er⟩:=V;dsimp only at hnew hany;have t5:=Ou (l:=cur) (k:=k) (by omega) v1 v2 v3 v4;refine qI ?_
  repeat' (intro h<;>simp only[h,go_sem,go_sem_proc,abn,ld,fV,h0,h1,h2,h8,h85,h86,h87,hm,hm15',hm35',hxm',q4,q6,t1,t2,t3,t4,t5,hkl,hklt,hrN,hw,hV,hfo1,hfo2,hfl.1,hfl.2,bE,ad,abs,mQ,abt,aa8,decide_true,decide_false,abu,ne_eq,not_false_eq_true,and_self]<;>try refine qS ?_ ?_)
  have e1:=PS.set hcok hcr (cur.set k ((v1,v2),(v3,v4))) (((hps.own (k:=148010) (g:=cL (m 148010)) (cs:=[MV.dat (Data.int IntKind.i64 0),MV.nil,MV.dat (Data.int IntKind.i64 0),MV.nil]) (.inr (.inl rfl))).own (k:=148010) (g:=cL (m 148010)) (cs:=[MV.dat (Data.int IntKind.i64 a1),MV.dat (Data.sl (abA aa a2)),MV.dat (Data.int IntKind.i64 a3),MV.dat (Data.sl (abA aa a4))]) (.inr (.inl rfl))).flag (bd||er != 0));rw[abv,hnew] at e1;refine⟨k+1,by omega,by omega,rfl,?_⟩
  show PS mem go N _ ((x.2.2.take (k+1)).any fun f=>(iY f ((f1,f2),(f3,f4))).2 != 0) _
  rw[hany,hnew];exact e1
 ·have hk':k=N+1:=by omega
  have ecur:(x.2.2.take k).map (fun f=>(iY f ((f1,f2),(f3,f4))).1)++x.2.2.drop k=(cv ((f1,f2),(f3,f4)) x.2.2).1:=by
   unfold cv;rw[abB (by omega),aby (by omega),abz]
  have ebad:((x.2.2.take k).any fun f=>(iY f ((f1,f2),(f3,f4))).2 != 0)=(cv ((f1,f2),(f3,f4)) x.2.2).2:=by
   unfold cv;rw[abB (by omega)]
  rw[ecur] at hcok hps;rw[ebad] at hps;have hkl:decide ((k:Int)<((N+1:Nat):Int))=false:=decide_eq_false (by omega);refine qI ?_
  repeat' (intro h<;>simp only[h,go_sem,go_sem_proc,abn,h0,h1,h2,h8,h85,h86,h87,hm,hkl]<;>try refine qS ?_ ?_)
  refine hK _ _ ?_ ?_ ?_ hcok hps<;>simp only[aH,abx,if_false,h0,h1,h2]
theorem L6 (T:Tab) (lJ:T gf=mkE y9) (ld:T bW=mkU mQ) (fV:T gB=mkE o6) (cw:T dm=mkE lT) (bM:T cY=mkE kI)
  (go N:Nat) (rows:List MR) (r c:Nat) (mem0:Mem) (hok:MatOK N rows) (hat:MatAt go N rows false mem0) (hn4:mem0 168004=none) (hn6:mem0 168006=none) (hN:N≤40) (hrc:r≤c) (hcN:c<N) :
  wp T mf_linear_matrix_pivot.body (pH mf_linear_matrix_pivot.res fun m mem'=>m = .dat (.bool (gX rows r c).1)∧PS mem0 go N (gX rows r c).2.1 (gX rows r c).2.2 mem') ⟨ax [.ptr 129015 0 0,.dat (.int .i64 r),.dat (.int .i64 c)],mem0⟩:=by
 refine ap ?_;simp only[mf_linear_matrix_pivot];simp only[go_sem,go_sem_proc,abn];refine ae [0,1,2] [] (fun (i:Nat) tm mem=>r≤i∧i≤N∧(∀ j y,r≤j→j<i→rows[j]?=some y→ib (cJ y c)=true)∧tm 7 = .dat (.int .i64 i)∧mem=mem0) (fun i=>N-i) r (by refine⟨abC _,by omega,fun j y h1 h2=>by omega,rfl,rfl⟩) ?_;intro vs ms hvs hms;simp only[go_sem,go_sem_proc,abn] at hvs hms;subst hvs hms;rintro i tm mem hk hm ⟨hri,hiN,hz,h7,rfl⟩;simp only[go_sem,go_sem_proc,abn,List.cons.injEq] at hk hm;obtain⟨h0,h1,h2⟩:=hk;have hm15:=hat.m;have hm35:=hat.o;have hlen:=hok.len;rcases abq (i<N) with hlt | hge
 ·have hx:∃ x,rows[i]?=some x:=⟨_,abr (by omega)⟩
  obtain⟨x,hx⟩:=hx;obtain⟨hxl,hxo⟩:=hok.row x (abl hx);have hxm:=hat.r x (abl hx);have hf:∃ f,x.2.2[c]?=some f:=⟨_,abr (by omega)⟩;obtain⟨⟨⟨f1,f2⟩,⟨f3,f4⟩⟩,hf⟩:=hf;have hcR:=Hp (N:=N) hx;have hlR:=C9 (N:=N) (rows:=rows) (i:=i) (by omega);have hcF:=Fi hf;have hlF:=Gt (l:=x.2.2) (k:=c) (by omega);have hcell:=tX hf;have hlt':decide ((i:Int)<(N:Int))=true:=decide_eq_true (by omega);have hcN':c<N+1:=by omega
  rcases hzf:(f1==0)
  ·have hfa:ct rows r c=i:=zW hx hri hz (by rw[hcell];exact hzf)
   obtain⟨xr,hxr⟩:∃ x,rows[r]?=some x:=⟨_,abr (by omega)⟩
   have hpv:gX rows r c=(false,bQ (cv ((f1,f2),(f3,f4)) x.2.2).1 r c 0 (((rows.set r x).set i xr).set r (x.1,x.2.1,(cv ((f1,f2),(f3,f4)) x.2.2).1)) (cv ((f1,f2),(f3,f4)) x.2.2).2):=by
    unfold gX divided;rw[if_neg (by omega),hfa];have:ff (swapped rows r i) r=x:=kU (by unfold swapped;rw[kU hx,kU hxr];exact tZ hx hxr);rw[this,hcell];unfold swapped;rw[kU hx,kU hxr]
   rw[hpv];clear hpv;have hoks:MatOK N ((rows.set r x).set i xr):=hok.swap hxr hx;have hpss:PS mem go N ((rows.set r x).set i xr) false _:=PS.swap hxr hx ⟨hat,fun _ _=>rfl⟩
   have hswr:((rows.set r x).set i xr)[r]?=some x:=tZ hx hxr;have hrN:r<N:=by omega
   have s1:=Hp (N:=N) hxr;have s2:=C9 (N:=N) (rows:=rows) (i:=r) (by omega);have s3:=RZ (N:=N) (rows:=rows) (i:=r) (by omega) x;have s4:=C9 (N:=N) (rows:=rows.set r x) (i:=i) (by rw[abj];omega);have s5:=RZ (N:=N) (rows:=rows.set r x) (i:=i) (by rw[abj];omega) xr;have s6:=Hp (N:=N) hswr;have s7:=C9 (N:=N) (rows:=(rows.set r x).set i xr) (i:=r) (by rw[abj,abj];omega);generalize hsw:(rows.set r x).set i xr=sw at *;have hfl:=hxo _ (abl hf);have hltr:decide ((i:Int)<(N:Int))=true:=hlt';have hineq:((i:Int)==(N:Int))=false:=by simp;omega
   simp only[go_sem,go_sem_proc,abn,lJ,ld,h0,h1,h2,h7,hm15,hm35,hxm,hcR,hlR,hcF,hlF,hlt,hlt',hcN',hzf,abs,hrN,s1,s2,s3,s4,s5,s6,s7,hineq];refine N3 T ld fV go N r c mem hn4 hn6 hN hrN sw hoks x hswr f1 f2 f3 f4 hfl _ _ (cL (mem 148008)) ?_ ?_ ?_ ?_ ?_ ?_ ?_ ?_ ((hpss.own (.inl rfl)).own (.inl rfl)) ?_
   ·exact h0
   ·exact h1
   ·exact h2
   ·rfl
   ·rfl
   ·rfl
   ·rfl
   ·simp [aA]
   intro tm' m' k0 k1 k2 hok2 hps2;have hm15':=hps2.1.m
   have hr2:(sw.set r (x.1,x.2.1,(cv ((f1,f2),(f3,f4)) x.2.2).1))[r]?=some (x.1,x.2.1,(cv ((f1,f2),(f3,f4)) x.2.2).1):=by
    rw[abi,if_pos rfl,if_pos (by rw[hoks.len];exact hrN)]
   simp only[go_sem,go_sem_proc,abn,k0,k1,k2,hm15'];refine Pb T lJ ld cw bM go N r c mem hn4 hn6 hN hrN hcN' _ hok2 x _ hr2 _ _ _ ?_ ?_ ?_ ?_ ?_ ?_ hps2 ?_
   ·exact k0
   ·exact k1
   ·exact k2
   ·rfl
   ·rfl
   ·rfl
   intro tm3 m3 hps3;refine qI ?_
   repeat' (intro h<;>simp only[h,go_sem,go_sem_proc,abn]<;>try refine qS ?_ ?_)
   exact⟨_,rfl,rfl,hps3⟩
  ·have hw:IntKind.i64.wrap ((i:Int)+1)=((i+1:Nat):Int):=by rw[aj _ (by omega) (by omega)];omega
   refine qI ?_
   repeat' (intro h<;>simp only[h,go_sem,go_sem_proc,abn,lJ,ld,h0,h1,h2,h7,hm15,hm35,hxm,hcR,hlR,hcF,hlF,hlt,hlt',hcN',hzf,hw,abs]<;>try refine qS ?_ ?_)
   refine⟨i+1,by omega,by omega,by omega,?_,rfl⟩
   intro j y hj1 hj2 hy
   by_cases hji:j=i
   ·subst hji
    rw[hx] at hy
    cases hy;rw[hcell];exact hzf
   ·exact hz j y hj1 (by omega) hy
 ·have hiN':i=N:=by omega
  subst hiN';have hlt':decide ((i:Int)<(i:Int))=false:=decide_eq_false (by omega);have hfe:=BZ (rows:=rows) (r:=r) (c:=c) (by omega) (fun j y hj hy=>hz j y hj (by have:=(List.getElem?_eq_some_iff.1 hy).1;omega) hy);have hp:gX rows r c=(true,rows,false):=by unfold gX;rw[if_pos hfe]
  rw[hp];refine qI ?_
  repeat' (intro h<;>simp only[h,go_sem,go_sem_proc,abn,lJ,ld,h0,h1,h2,h7,hm15,hm35,hlt',beq_self_eq_true]<;>try refine qS ?_ ?_)
  exact⟨_,rfl,rfl,hat,fun _ _=>rfl⟩
structure L0 where
 go:Nat
 N:Nat
 rows:List MR
 r:Nat
 c:Nat
def J3 (a:L0) (mem:Mem):Prop:=MatOK a.N a.rows∧MatAt a.go a.N a.rows false mem∧mem 168004=none∧mem 168006=none∧a.N≤40∧a.r≤a.c∧a.c<a.N
def OI (a:L0) (mem:Mem):MV→Mem→Prop:=fun m mem'=>m = .dat (.bool (gX a.rows a.r a.c).1)∧PS mem a.go a.N (gX a.rows a.r a.c).2.1 (gX a.rows a.r a.c).2.2 mem'
noncomputable def qt:List MV→Mem→Option (MV→Mem→Prop):=QQ (fun (a:L0) args mem=>args=[.ptr 129015 0 0,.dat (.int .i64 a.r),.dat (.int .i64 a.c)]∧J3 a mem) OI
theorem Io {N:Nat} {a b:List MR} (h:cb N a=cb N b):a.map (fun x=>(x.1,x.2.1))=b.map fun x=>(x.1,x.2.1):=by
 induction a generalizing b with
 | nil=>cases b with
  | nil=>rfl
  | cons y r=>simp [cb] at h
 | cons x a ih=>cases b with
  | nil=>simp [cb] at h
  | cons y b =>
   simp only[cb,abD,List.cons.injEq,MV.ref.injEq] at h;have h1:x.1=y.1:=by have:=h.1.1;simp only[Key] at this;omega
   simp only[abD,List.cons.injEq,Prod.mk.injEq];exact⟨⟨h1,h.1.2.1⟩,ih h.2⟩
theorem B7 (a:L0) (mem:Mem) (h:J3 a mem):qt [.ptr 129015 0 0,.dat (.int .i64 a.r),.dat (.int .i64 a.c)] mem=some (OI a mem):=by
 unfold qt;refine RO (a:=a) ?_ ⟨rfl,h⟩;rintro a b args mem ⟨h1,h2,h3,_⟩ ⟨h4,h5,h6,_⟩;rw[h1] at h4;simp only[List.cons.injEq,MV.dat.injEq,Data.int.injEq,true_and,and_true] at h4;have hm:=h3.m;rw[h6.m] at hm;simp only[Option.some.injEq,Prod.mk.injEq,List.cons.injEq,MV.ref.injEq,true_and,and_true] at hm;obtain⟨⟨hg,hn⟩,-⟩:=hm;have ho:=h3.o;rw[h6.o] at ho;simp only[Option.some.injEq,Prod.mk.injEq] at ho;obtain⟨ag,aN,ar,a1,a2⟩:=a;obtain⟨bg,bN,br,b1,b2⟩:=b;dsimp only at *;subst hg hn
 have hr:br=ar:=by
  have h7:=Io ho.2;have hl:br.length=ar.length:=by have:=congrArg abE h7;simpa using this
  apply List.ext_getElem hl;intro i hi1 hi2;have h8:(br.map fun x=>(x.1,x.2.1))[i]?=(ar.map fun x=>(x.1,x.2.1))[i]?:=by rw[h7]
  rw[abF,abF,abr hi1,abr hi2] at h8;simp only[abG,Option.some.injEq,Prod.mk.injEq] at h8;have r1:=h6.r _ (abH hi1);have r2:=h3.r _ (abH hi2);rw[h8.1,r2] at r1;simp only[Option.some.injEq,Prod.mk.injEq] at r1;have:=HD r1.2;exact abI h8.1 (abI h8.2 this.symm)
 subst hr;have e1:a1=b1:=by omega
 have e2:a2=b2:=by omega
 subst e1 e2
 rfl
theorem zD {args:List MV} {mem:Mem} {R:MV→Mem→Prop} (h:qt args mem=some R):∃ a,args=[.ptr 129015 0 0,.dat (.int .i64 a.r),.dat (.int .i64 a.c)]∧J3 a mem∧R=OI a mem:=by
 obtain⟨a,⟨h1,h2⟩,h3⟩:=B8 h;exact⟨a,h1,h2,h3⟩
theorem wW (l:List aU):((l.map ad).all fun e=>e.length==4)=true:=by simp [ad]
noncomputable def qr:List Data→Option PRes:=FF (α:=List aU) (fun (l:List aU)=>([.sl (l.map ad)]:List Data)) (fun (l:List aU)=>aG (l.length≤1000000) (.own 4 (l.map ad)))
theorem yn:∀ a b:List aU,(fun (l:List aU)=>([.sl (l.map ad)]:List Data)) a=(fun (l:List aU)=>([.sl (l.map ad)]:List Data)) b→a=b:=by
  intro l1 l2 h;exact af eX _ _ (by simpa using h)
@[go_sem] theorem Nj (l:List aU) (hc:l.length≤1000000):qr [.sl (l.map ad)]=some (.own 4 (l.map ad)):=(aV yn l).trans (an hc _)
theorem HJ (T:Tab)  (l:List aU) (hc:l.length≤1000000) :
  wp T mf_slices_Clone_Frac.body (bG mf_slices_Clone_Frac.res (.own 4 (l.map ad))) ⟨ax [.dat (.sl (l.map ad))],emp⟩:=by
 refine ap ?_;simp only[mf_slices_Clone_Frac]
 have hap:lg 147005 0 4 0 64 l.length ((l.map ad).flatten.map .dat) (some (0,[]))=some (.ref 147005 1 4 0 l.length,some (147005,1,ay ad l)):=by
  have:=me cH lY 147005 0 64 [] l (by simp;omega) (by simp;omega)
  simpa [ay] using this
 have hlen:(ay ad l).length=l.length*4:=dx cH l;refine qI ?_
 repeat' (intro h<;>simp only[h,go_sem,go_sem_proc,abn,wW,hap,aa1]<;>try refine qS ?_ ?_)
 rintro b hb
 cases b
 ·refine qI ?_
  repeat' (intro h<;>simp only[h,go_sem,go_sem_proc,abn,wW,hap,aa1,rJ,hlen]<;>try refine qS ?_ ?_)
  rw[if_pos (by omega),abB (by omega)];unfold ay;rw[mj _ fun d=>rfl]
  have:=jd (sz:=4) (l.map ad) (by intro e he;obtain⟨f,-,rfl⟩:=List.mem_map.1 he;rfl);rw[aa1] at this;simp [this]
 ·cases l with
  | nil =>
       refine qI ?_
       repeat' (intro h<;>simp only[h,go_sem,go_sem_proc,abn,rJ,abJ]<;>try refine qS ?_ ?_)
  | cons x r=>simp at hb
def dp (rs:List cG):List MR:=rs.zipIdx.map fun p=>(p.2,0,p.1.1++[p.1.2])
theorem mX (rs:List cG):(dp rs).length=rs.length:=by simp [dp]
theorem Ey {rs:List cG} {i:Nat} {r:cG} (h:rs[i]?=some r):(dp rs)[i]?=some (i,0,r.1++[r.2]):=by
 unfold dp;rw[abF,abK,h];simp
theorem tC {rs:List cG} {i:Nat} {r:cG} (h:rs[i]?=some r):(dp rs).take (i+1)=(dp rs).take i++[(i,0,r.1++[r.2])]:=by
 rw[aa9,Ey h]
 rfl
theorem La {rs:List cG} {i:Nat} {x:MR} (h:x∈(dp rs).take i):x.1<i∧x.2.1=0:=by
 obtain⟨j,hj⟩:=List.mem_iff_getElem?.1 h;rw[List.getElem?_take] at hj
 split at hj
 ·rename_i hji
  unfold dp at hj;rw[abF,abK] at hj
  cases hr:rs[j]? with
  | none=>rw[hr] at hj;cases hj
  | some r =>
   rw[hr] at hj;simp only[abG,Option.some.injEq] at hj;subst hj;exact⟨by simpa using hji,rfl⟩
 ·cases hj
theorem A9 (N:Nat) (a b:List MR):cb N (a++b)=cb N a++cb N b:=by simp [cb]
theorem mG (N:Nat) (a:List MR):(cb N a).length=a.length:=by simp [cb]
structure BS (N:Nat) (rs:List cG) (i go:Nat) (mem:Mem):Prop where
 z:i=0→mem 129015=some (0,[.nil,.dat (.int .i64 N),.dat (.bool false)])
 p:0<i→mem 129015=some (0,[.ref 129035 go 1 0 i,.dat (.int .i64 N),.dat (.bool false)])∧mem 129035=some (go,cb N ((dp rs).take i))
 r:∀ x∈(dp rs).take i,mem (x.1+900000)=some (x.2.1,ay ad x.2.2)
 n:∀ j:Nat,i≤j→mem (j+900000)=none
 a:mem 168004=none
 b:mem 168006=none
theorem vT (l:List aU):(l.map ad).flatten.map MV.dat=ay ad l:=rfl
theorem SO (G:Nat) (l:List aU) (v1:Int) (v2:List Int) (v3:Int) (v4:List Int) (h:l.length≤1000000):lg 129029 G 4 l.length 64 1 [.dat (.int .i64 v1),.dat (.sl (v2.map aa)),.dat (.int .i64 v3),.dat (.sl (v4.map aa))] (some (G,ay ad l))=some (.ref 129029 (G+1) 4 0 (l.length+1),some (129029,G+1,ay ad (l++[((v1,v2),(v3,v4))]))) :=
 dk cH lY 129029 G 64 l ((v1,v2),(v3,v4)) rfl (by omega) (by omega)
theorem SW (N G i g:Nat) (a:List MR) (hi:a.length=i) (h:i≤1000) (m:MV) (hm:m = .ref 129029 g 4 0 (N+1)):lg 129035 G 1 i 24 1 [m] (some (G,cb N a))=some (.ref 129035 (G+1) 1 0 (i+1),some (129035,G+1,cb N a++[m])):=by
 subst hm;unfold lg;dsimp only;rw[if_pos ⟨rfl,by rw[mG];omega,by omega,by unfold maxLen;omega,rfl⟩,abB (by rw[mG];omega)]
theorem Lx {N i go go' G:Nat} {rs:List cG} {r:cG} {m m':Mem} (hb:BS N rs i go m) (hr:rs[i]?=some r) (h15:m' 129015=some (0,[.ref 129035 go' 1 0 (i+1),.dat (.int .i64 N),.dat (.bool false)])) (hf:∀ k:Nat,900000≤k∨k=168004∨k=168006→m' k=m k) :
  BS N rs (i+1) go' (aA (aA (aA m' 129029 (aD m' 129029) []) (i+900000) (aD m' (i+900000)) (ay ad (r.1++[r.2]))) 129035 go' ((cb N ((dp rs).take i)++[MV.ref 129029 G 4 0 (N+1)]).set i (MV.ref (i+900000) (aD m' (i+900000)) 4 0 (N+1)))):=by
 have hlt:=(List.getElem?_eq_some_iff.1 hr).1
 have hg:aD m' (i+900000)=0:=by
  unfold aD;rw[hf _ (.inl (by omega)),hb.n i (abC _)]
 have htl:(cb N ((dp rs).take i)).length=i:=by rw[mG,aa4,mX];omega
 rw[hg]
 have hset:(cb N ((dp rs).take i)++[MV.ref 129029 G 4 0 (N+1)]).set i (.ref (i+900000) 0 4 0 (N+1))=cb N ((dp rs).take (i+1)):=by
  rw[aa5 _ _ (by omega),htl,aa6,aa8,tC hr,A9]
  rfl
 rw[hset];have at1:∀ (k:Nat),k≠129029→k≠129035→k≠i+900000→aA (aA (aA m' 129029 (aD m' 129029) []) (i+900000) 0 (ay ad (r.1++[r.2]))) 129035 go' (cb N ((dp rs).take (i+1))) k=m' k:=fun k h1 h2 h3=>by simp [aA,h1,h2,h3]
 refine⟨fun h=>by omega,fun _=>⟨by rw[at1 _ (by omega) (by omega) (by omega)];exact h15,by simp [aA]⟩,fun x hx=>?_,fun j hj=>?_,?_,?_⟩
 ·rw[tC hr,abo,abw] at hx
  rcases hx with hx | rfl
  ·obtain⟨hx1,hx2⟩:=La hx
   rw[at1 _ (by omega) (by omega) (by omega),hf _ (.inl (by omega))];exact hb.r x hx
  ·have h2:(i+900000:Nat)≠129035:=by omega
   simp [aA]
 ·rw[at1 _ (by omega) (by omega) (by omega),hf _ (.inl (by omega))]
  exact hb.n j (by omega)
 ·rw[at1 _ (by omega) (by omega) (by omega),hf _ (.inr (.inl rfl))]
  exact hb.a
 ·rw[at1 _ (by omega) (by omega) (by omega),hf _ (.inr (.inr rfl))]
  exact hb.b
theorem xj {K:St→Prop} {tm:Nat→MV} {N i go:Nat} (go' G:Nat) {rs:List cG} {r:cG} {m m':Mem} (hb:BS N rs i go m) (hr:rs[i]?=some r) (h15:m' 129015=some (0,[.ref 129035 go' 1 0 (i+1),.dat (.int .i64 N),.dat (.bool false)]))
  (h35:m' 129035=some (go',cb N ((dp rs).take i)++[.ref 129029 G 4 0 (N+1)])) (h29:m' 129029=some (G,ay ad (r.1++[r.2]))) (hf:∀ k:Nat,900000≤k∨k=168004∨k=168006→m' k=m k) (h:∀ M,BS N rs (i+1) go' M→K ⟨tm,M⟩):dP K ⟨tm,m'⟩ .move:=by
 have hlt:=(List.getElem?_eq_some_iff.1 hr).1;have htl:(cb N ((dp rs).take i)).length=i:=by rw[mG,aa4,mX];omega
 exact BB 129035 i 129029 (i+900000) h35 (by rw[abc (by omega),htl,aa6];rfl) h29 (by omega) (show (i+900000:Nat)≠129029 by omega) (show (i+900000:Nat)≠129035 by omega) (h _ (Lx hb hr h15 hf))
theorem cT {m:Mem} {k g:Nat} {cs:List MV} {j:Nat} (h:j≠k):aA m k g cs j=m j:=if_neg h
theorem L5 (T:Tab) (cu:T eK=mkE qr) {K:bH→St→Prop} {kk:List Todo} (N:Nat) (rs:List cG) (stop:Bool) (hN:N≤40) (hlen:rs.length=N) (hrs:∀ r∈rs,r.1.length=N∧oR r) (tm:Nat→MV) (m:Mem)
  (e1:tm 1 = .dat (.int .i64 N)) (e2:tm 2 = .dat (.bool stop)) (e8:tm 8 = .ptr 129015 0 0) (e16:tm 16 = .dat (.sl (rs.map ft))) (e17:tm 17 = .dat (.int .i64 N)) (e18:tm 18 = .dat (.int .i64 0)) (hb:BS N rs 0 0 m)
  (hK:∀ tm' m' go,tm' 1 = .dat (.int .i64 N)→tm' 2 = .dat (.bool stop)→tm' 8 = .ptr 129015 0 0→BS N rs N go m'→kont T K kk (.exit 0) ⟨tm',m'⟩) :
  wp T (mf_linear_eliminated.body.sub [1,1,0,1,0]) (kont T K kk) ⟨tm,m⟩:=by
 simp only[mf_linear_eliminated,MCode.sub];refine ae [1,2,8,16,17] [] (fun ((i,go):Nat × Nat) tm m=>i≤N∧tm 18 = .dat (.int .i64 i)∧BS N rs i go m) (fun (i,_)=>N-i) (0,0) (by exact⟨abm _,e18,hb⟩) ?_;intro vs ms hvs hms;simp only[go_sem,go_sem_proc,abn,e1,e2,e8,e16,e17] at hvs hms;subst hvs hms;clear e1 e2 e8 e16 e17 e18 hb tm m;rintro⟨i,go⟩ tm m hk hm ⟨hiN,h18,hb⟩;simp only[go_sem,go_sem_proc,abn,List.cons.injEq] at hk hm;obtain⟨h1,h2,h8,h16,h17⟩:=hk;rcases abq (i<N) with hlt | hge
 ·obtain⟨⟨A,⟨v1,v2⟩,⟨v3,v4⟩⟩,hr⟩:∃ r,rs[i]?=some r:=⟨_,abr (by omega)⟩
  obtain⟨hAl,⟨hAL,hAo⟩,hV1,hV2⟩:=hrs _ (abl hr);dsimp only at hAl hAL hAo hV1 hV2;have hil:decide ((i:Int)<(N:Int))=true:=decide_eq_true (by omega);have hw:IntKind.i64.wrap ((i:Int)+1)=((i+1:Nat):Int):=by rw[aj _ (by omega) (by omega)];omega
  have hap:∀ G,lg 129029 G 4 N 64 1 _ _=_:=fun G=>hAl ▸ SO G A v1 v2 v3 v4 hAL
  have hNL:N≤1000000:=by omega
  have hmx:(1≤maxLen)=True:=eq_true (by unfold maxLen;omega);have hta:=tC hr;have htl:((dp rs).take i).length=i:=by rw[aa4,mX];omega
  rcases abL i with h0 | hpos
  ·have hm15:=hb.z h0
   refine qI ?_
   repeat' (intro h<;>simp only[h,go_sem,go_sem_proc,abn,cu,h1,h2,h8,h16,h17,h18,hm15,hil,hr,hw,hNL,hAl,hap,hmx,vT,aa1,abF,ft,ad,decide_true,decide_false,ne_eq,not_false_eq_true,and_self]<;>try refine qS ?_ ?_)
   refine xj (cL (m 129035)) (cL (m 129029)+1) hb hr (by simp [aA,h0]) (by simp [aA,h0,cb]) (by simp [aA]) (fun k hk=>?_) fun M hB=>?_
   ·rw[cT (by omega),cT (by omega),cT (by omega),cT (by omega),cT (by omega),cT (by omega),cT (by omega)]
   ·refine qI ?_
    repeat' (intro h<;>simp only[h,go_sem,go_sem_proc,abn,h1,h2,h8,h16,h17,h18,hw]<;>try refine qS ?_ ?_)
    exact⟨(i+1,cL (m 129035)),by dsimp only;omega,by dsimp only;omega,rfl,hB⟩
  ·obtain⟨hm15,hm35⟩:=hb.p hpos
   have hapR:=SW N go i (cL (m 129029)+1) ((dp rs).take i) htl (by omega) _ rfl;refine qI ?_
   repeat' (intro h<;>simp only[h,go_sem,go_sem_proc,abn,cu,h1,h2,h8,h16,h17,h18,hm15,hm35,hil,hr,hw,hNL,hAl,hap,hapR,vT,aa1,abF,ft,ad,decide_true,decide_false,ne_eq,not_false_eq_true,and_self]<;>try refine qS ?_ ?_)
   refine xj (go+1) (cL (m 129029)+1) hb hr (by simp [aA]) (by simp [aA]) (by simp [aA]) (fun k hk=>?_) fun M hB=>?_
   ·rw[cT (by omega),cT (by omega),cT (by omega),cT (by omega),cT (by omega),cT (by omega),cT (by omega)]
   ·refine qI ?_
    repeat' (intro h<;>simp only[h,go_sem,go_sem_proc,abn,h1,h2,h8,h16,h17,h18,hw]<;>try refine qS ?_ ?_)
    exact⟨(i+1,go+1),by dsimp only;omega,by dsimp only;omega,rfl,hB⟩
 ·have hil:decide ((i:Int)<(N:Int))=false:=decide_eq_false (by omega)
  obtain rfl:i=N:=by omega
  refine qI ?_
  repeat' (intro h<;>simp only[h,go_sem,go_sem_proc,abn,h1,h2,h8,h16,h17,h18,hil]<;>try refine qS ?_ ?_)
  refine hK _ _ go ?_ ?_ ?_ hb<;>simp only[aH,abx,if_false,h1,h2,h8]
def f6 (stop:Bool):Nat→Nat→List MR→List Nat→Bool→List MR × List Nat × Bool
 | 0,_,rows,free,bad=>(rows,free,bad)
 | _+1,_,rows,free,true=>(rows,free,true)
 | k+1,c,rows,free,false =>
  if (gX rows (c-free.length) c).1=true then
   (if stop=true then ((gX rows (c-free.length) c).2.1,free++[c],(gX rows (c-free.length) c).2.2) else f6 stop k (c+1) (gX rows (c-free.length) c).2.1 (free++[c]) (gX rows (c-free.length) c).2.2)
  else f6 stop k (c+1) (gX rows (c-free.length) c).2.1 free (gX rows (c-free.length) c).2.2
theorem wT (stop:Bool) (k c:Nat) (rows:List MR) (free:List Nat):f6 stop k c rows free true=(rows,free,true):=by
 cases k<;>rfl
def gS (n:Nat):List Data:=[.int .i64 n]
theorem ik (n:Nat):(gS n).length=1:=rfl
theorem AZ (n:Nat):((gS n).map MV.dat).all MV.one=true:=rfl
def NU (N:Nat) (rows:List MR) (bad:Bool):Data:=.ptr [.sl (rows.map fun x=>[.sl (x.2.2.map ad)]),.int .i64 N,.bool bad]
def wZ (N:Nat) (p:List MR × List Nat × Bool):Data:=.tup [NU N p.1 p.2.2,.sl (p.2.1.map gS)]
theorem i9 (prow:List aU) (r c:Nat):∀ (i:Nat) (l:List MR) (b:Bool),(bQ prow r c i l b).1.map (fun x=>(x.1,x.2.1,x.2.2.length))=l.map fun x=>(x.1,x.2.1,x.2.2.length)
 | _,[],_=>rfl
 | i,x::xs,b=>by
  unfold bQ
  split
  ·simp only[abD,i9 prow r c (i+1) xs b]
  ·simp only[abD,i9 prow r c (i+1) xs,oZ]
theorem vU (fac:aU):∀ (l p:List aU) (b:Bool),(∀ f∈l,okF f)→∀ f∈(cV fac l p b).1,okF f
 | [],p,b,h=>by rw[vd];exact h
 | f::fs,[],b,h=>by cases b<;>(simp only[cV];exact h)
 | f::fs,p::ps,true,h=>by simp only[cV];exact h
 | f::fs,p::ps,false,h=>by
  simp only[cV];intro g hg;rcases List.mem_cons.1 hg with rfl | hg
  ·exact Eh _ _
  ·exact vU fac fs ps _ (fun x hx=>h x (abM _ hx)) g hg
theorem od (prow:List aU) (r c:Nat):∀ (i:Nat) (l:List MR) (b:Bool),(∀ x∈l,∀ f∈x.2.2,okF f)→∀ x∈(bQ prow r c i l b).1,∀ f∈x.2.2,okF f
 | _,[],_,h=>h
 | i,x::xs,b,h=>by
  unfold bQ
  split
  ·intro y hy
   rcases List.mem_cons.1 hy with rfl | hy
   ·exact h _ abN
   ·exact od prow r c (i+1) xs b (fun z hz=>h z (abM _ hz)) y hy
  ·intro y hy
   rcases List.mem_cons.1 hy with rfl | hy
   ·exact vU _ _ _ _ (h _ abN)
   ·exact od prow r c (i+1) xs _ (fun z hz=>h z (abM _ hz)) y hy
theorem w9 (rows:List MR) (r c:Nat) (hr:r≤rows.length):r≤ct rows r c∧ct rows r c≤rows.length:=by
 unfold ct;have:=List.findIdx_le_length (p:=fun x => !ib (cJ x c)) (xs:=rows.drop r);rw[abh] at this;omega
theorem MatOK.piv {N:Nat} {rows:List MR} (h:MatOK N rows) {r c:Nat} (hr:r<N):MatOK N (gX rows r c).2.1:=by
 unfold gX
 split
 ·exact h
 ·rename_i hne
  have hfl:=w9 rows r c (by rw[h.len];omega);have hl:=h.len;obtain⟨x,hx⟩:∃ x,rows[ct rows r c]?=some x:=⟨_,abr (by omega)⟩;obtain⟨xr,hxr⟩:∃ x,rows[r]?=some x:=⟨_,abr (by omega)⟩
  have hsw:MatOK N (swapped rows r (ct rows r c)):=by
   unfold swapped;rw[kU hx,kU hxr];exact h.swap hxr hx
  have hswr:(swapped rows r (ct rows r c))[r]?=some x:=by
   unfold swapped;rw[kU hx,kU hxr];exact tZ hx hxr
  generalize swapped rows r (ct rows r c)=sw at *;obtain⟨hxl,hxo⟩:=hsw.row x (abl hswr)
  have hdv:MatOK N (divided sw r c):=by
   unfold divided;rw[kU hswr];refine hsw.set hswr (by simp [cv,hxl]) fun f hf=>?_
   obtain⟨g,-,rfl⟩:=List.mem_map.1 hf;exact EU _ _
  generalize divided sw r c=dv at *;have hsh:=i9 (cv (cJ (ff sw r) c) (ff sw r).2.2).1 r c 0 dv (cv (cJ (ff sw r) c) (ff sw r).2.2).2;have hok:=od (cv (cJ (ff sw r) c) (ff sw r).2.2).1 r c 0 dv (cv (cJ (ff sw r) c) (ff sw r).2.2).2 fun x hx=>(hdv.row x hx).2
  dsimp only;generalize (bQ (cv (cJ (ff sw r) c) (ff sw r).2.2).1 r c 0 dv (cv (cJ (ff sw r) c) (ff sw r).2.2).2).1=el at *;refine⟨?_,?_,fun y hy=>⟨?_,hok y hy⟩⟩
  ·have:=congrArg abE hsh
   rw[aa1,aa1] at this;rw[this,hdv.len]
  ·have h1:el.map (·.1)=dv.map (·.1):=by
    have:=congrArg (abA fun p:Nat × Nat × Nat=>p.1) hsh
    simpa [abO,Function.comp_def] using this
   rw[h1];exact hdv.nd
  ·have h1:el.map (fun x=>x.2.2.length)=dv.map fun x=>x.2.2.length:=by
    have:=congrArg (abA fun p:Nat × Nat × Nat=>p.2.2) hsh
    simpa [abO,Function.comp_def] using this
   have h2:y.2.2.length∈dv.map fun x=>x.2.2.length:=by rw[←h1];exact List.mem_map.2 ⟨y,hy,rfl⟩
   obtain⟨z,hz,e⟩:=List.mem_map.1 h2;rw[←e];exact (hdv.row z hz).1
theorem Ix {n k g N:Nat} {mem:Mem} {l:List aU} (hl:l.length=N+1) (hm:mem k=some (g,ay ad l)):toD (n+1) mem (.ref k g 4 0 (N+1))=some (.sl (l.map ad)):=by
 rw[←hl];exact eG cH hm
theorem IK {n N:Nat} {mem:Mem} {rows:List MR} (h:∀ x∈rows,mem (x.1+900000)=some (x.2.1,ay ad x.2.2)) (hl:∀ x∈rows,x.2.2.length=N+1):(cb N rows).mapM (toD (n+1) mem)=some (rows.map fun x => .sl (x.2.2.map ad)):=by
 unfold cb
 induction rows with
 | nil=>rfl
 | cons x xs ih =>
  have h1:=Ix (n:=n) (hl x abN) (h x abN);have h2:=ih (fun y hy=>h y (abM _ hy)) fun y hy=>hl y (abM _ hy)
  simp only[abD,abP,h1,h2]
  rfl
theorem yU {n N go:Nat} {mem:Mem} {rows:List MR} {bad:Bool} (hok:MatOK N rows) (h:MatAt go N rows bad mem):toD (n+3) mem (.ptr 129015 0 0)=some (NU N rows bad):=by
 have h1:=IK (n:=n) h.r fun x hx=>(hok.row x hx).1
 have h2:toD (n+2) mem (.ref 129035 go 1 0 N)=some (.sl (rows.map fun x=>[.sl (x.2.2.map ad)])):=by
  unfold toD;rw[h.o];simp only[if_true];unfold cut;rw[if_pos (by rw[mG,hok.len];omega),abQ,abB (by rw[mG,hok.len];omega)];dsimp only;rw[h1];have:=jd (sz:=1) (rows.map fun x=>[Data.sl (x.2.2.map ad)]) (by intro e he;obtain⟨x,-,rfl⟩:=List.mem_map.1 he;rfl);rw[aa1,hok.len] at this;simp only[abG,Option.some.injEq,Data.sl.injEq]
  have hfl:∀ l:List MR,(l.map fun x=>Data.sl (x.2.2.map ad))=(l.map fun x=>[Data.sl (x.2.2.map ad)]).flatten:=by
   intro l
   induction l with
   | nil=>rfl
   | cons x xs ih=>simp only[abD,abR,ih];rfl
  rw[hfl,this]
 unfold toD;rw[h.m];simp only[if_true,abQ,abP,List.mapM_nil,h2,true_and,abm];simp only[sH]
 rfl
theorem BS.mat {N go:Nat} {rs:List cG} {m:Mem} (hl:rs.length=N) (hN:0<N) (h:BS N rs N go m):MatAt go N (dp rs) false m:=by
 have ht:(dp rs).take N=dp rs:=abB (by rw[mX];omega);have hp:=h.p hN;rw[ht] at hp;exact⟨hp.1,hp.2,by have:=h.r;rw[ht] at this;exact this⟩
theorem MatAt.other {go N:Nat} {rows:List MR} {bad:Bool} {mem:Mem} {k g:Nat} {cs:List MV} (h:MatAt go N rows bad mem) (h1:k≠129015) (h2:k≠129035) (h3:k<900000):MatAt go N rows bad (aA mem k g cs) :=
 ⟨(cT (Ne.symm h1)).trans h.m,(cT (Ne.symm h2)).trans h.o,fun x hx=>(cT (show (x.1+900000:Nat)≠k by omega)).trans (h.r x hx)⟩
theorem J2 {N:Nat} {rs:List cG} (hl:rs.length=N) (h:∀ r∈rs,r.1.length=N∧oR r):MatOK N (dp rs):=by
 refine⟨by rw[mX,hl],?_,fun x hx=>?_⟩
 ·have:(dp rs).map (·.1)=abS rs.length:=by
   unfold dp;rw[abO];apply abk;intro i;rw[abF,abK];rcases abb i rs.length with h | h
   ·rw[abr h];simp [h]
   ·rw[abf h];simp [h]
  rw[this];exact List.nodup_range
 ·unfold dp at hx
  obtain⟨⟨r,i⟩,hp,rfl⟩:=List.mem_map.1 hx;have hr:=List.fst_mem_of_mem_zipIdx hp;obtain⟨h1,h2,h3⟩:=h r hr;refine⟨by simp [h1],fun f hf=>?_⟩
  rw[abo,abw] at hf;rcases hf with hf | rfl
  ·exact h2.2 f hf
  ·exact h3
noncomputable def xZ:List Data→Option PRes:=FF (α:=(List cG) × Int × Bool) (fun (rs,n,stop)=>([.sl (rs.map ft),.int .i64 n,.bool stop]:List Data)) (fun (rs,n,stop)=>aG ((rs.length:Int)=n∧rs.length≤40∧∀ r∈rs,r.1.length=rs.length∧oR r) (.same (wZ rs.length (f6 stop rs.length 0 (dp rs) [] false))))
theorem Dr:∀ a b:(List cG) × Int × Bool,(fun (rs,n,stop)=>([.sl (rs.map ft),.int .i64 n,.bool stop]:List Data)) a=(fun (rs,n,stop)=>([.sl (rs.map ft),.int .i64 n,.bool stop]:List Data)) b→a=b:=by
  rintro⟨rs1,n1,stop1⟩ ⟨rs2,n2,stop2⟩ h;simp only[List.cons.injEq,Data.sl.injEq,Data.int.injEq,Data.bool.injEq] at h;exact abI (af nY _ _ h.1) (abI h.2.1.2 h.2.2.1)
@[go_sem] theorem G6 (rs:List cG) (n:Int) (stop:Bool) (hc:(rs.length:Int)=n∧rs.length≤40∧∀ r∈rs,r.1.length=rs.length∧oR r):xZ [.sl (rs.map ft),.int .i64 n,.bool stop]=some (.same (wZ rs.length (f6 stop rs.length 0 (dp rs) [] false))):=(aV Dr (rs,n,stop)).trans (an hc _)
theorem OS (T:Tab) (cu:T eK=mkE qr) (dC:T fC=mkQ qt) (rs:List cG) (n:Int) (stop:Bool) (hc:(rs.length:Int)=n∧rs.length≤40∧∀ r∈rs,r.1.length=rs.length∧oR r) :
  wp T mf_linear_eliminated.body (bG mf_linear_eliminated.res (.same (wZ rs.length (f6 stop rs.length 0 (dp rs) [] false)))) ⟨ax [.dat (.sl (rs.map ft)),.dat (.int .i64 n),.dat (.bool stop)],emp⟩:=by
 refine ap ?_;simp only[mf_linear_eliminated];obtain⟨hn,hN,hrs⟩:=hc;subst hn;simp only[go_sem,go_sem_proc,abn,cu,dC,aa1];generalize hNe:rs.length=N at *;refine L5 T cu N rs stop hN hNe hrs _ _ rfl rfl rfl rfl rfl rfl ⟨fun _=>by simp [aA],fun h=>by omega,fun x hx=>by simp at hx,fun j _=>cT (show (j+900000:Nat)≠129015 by omega),cT (by omega),cT (by omega)⟩ ?_
 intro tm m go h1 h2 h8 hb;rcases abL N with h0 | hpos
 ·have hr0:rs=[]:=List.eq_nil_of_length_eq_zero (by omega)
  have hz:=hb.z h0;subst h0;subst hr0;simp only[go_sem,go_sem_proc,abn,cu,dC,h1,h2,h8];refine ae [1,2,8] [129015] (fun (_:Unit) tm' m'=>tm' 11 = .ref 129061 (cL (m 129061)) 1 0 0∧m' 129061=some (cL (m 129061),[])∧tm' 12 = .dat (.int .i64 0)) (fun _=>0) () (by refine⟨rfl,?_,rfl⟩;simp [aA]) ?_;intro vs ms hvs hms;simp only[go_sem,go_sem_proc,abn,cu,dC,h1,h2,h8,hz] at hvs hms;subst hvs hms;rintro _ tm' m' hk hm ⟨k11,k61,k12⟩;simp only[go_sem,go_sem_proc,abn,cu,dC,List.cons.injEq] at hk hm;obtain⟨k1,k2,k8⟩:=hk;simp only[go_sem,go_sem_proc,abn,cu,dC,k1,k2,k8,hm,k11,k61,k12,show decide ((0:Int)<((0:Nat):Int))=false from rfl,toD,lI,abQ]
  repeat' (first|refine qS ?_ ?_|fail)<;>intro h<;>simp only[h,go_sem,go_sem_proc,abn,cu,dC,k1,k2,k8,hm,k11,k61,k12,show decide ((0:Int)<((0:Nat):Int))=false from rfl,toD,lI,abQ]
  rfl
 ·have hmat:=hb.mat hNe hpos
  have hok:=J2 hNe hrs;have hp4:=hb.a;have hp6:=hb.b;clear hb;simp only[go_sem,go_sem_proc,abn,cu,dC,h1,h2,h8]
  refine ae [1,2,8] [] (fun ((c,rows,free,bad,g):Nat × List MR × List Nat × Bool × Nat) tm m=>c≤N∧free.length≤c∧f6 stop N 0 (dp rs) [] false=f6 stop (N-c) c rows free bad∧MatOK N rows∧MatAt go N rows bad m∧m 168004=none∧m 168006=none∧tm 11 = .ref 129061 g 1 0 free.length∧m 129061=some (g,ay gS free)∧tm 12 = .dat (.int .i64 c)) (fun (c,_,_,_,_)=>N-c) (0,dp rs,[],false,cL (m 129061)) (by
   refine⟨abm _,abC _,rfl,hok,⟨?_,?_,fun x hx=>?_⟩,?_,?_,rfl,?_,rfl⟩
   ·rw[cT (by omega)];exact hmat.m
   ·rw[cT (by omega)];exact hmat.o
   ·rw[cT (show (x.1+900000:Nat)≠129061 by omega)];exact hmat.r x hx
   ·rw[cT (by omega)];exact hp4
   ·rw[cT (by omega)];exact hp6
   ·simp [aA,ay]) ?_
  intro vs ms hvs hms;simp only[go_sem,go_sem_proc,abn,cu,dC,h1,h2,h8] at hvs hms;subst hvs hms;clear h1 h2 h8 hmat hp4 hp6;rintro⟨c,rows,free,bad,g⟩ tm m hk hm ⟨hcN,hfc,hel,hok,hmat,hp4,hp6,k11,k61,k12⟩;simp only[go_sem,go_sem_proc,abn,cu,dC,List.cons.injEq] at hk hm;obtain⟨h1,h2,h8⟩:=hk;have hm15:=hmat.m
  have hexit:f6 stop N 0 (dp rs) [] false=(rows,free,bad)→((toD 5 m (.ptr 129015 0 0)).bind fun d=>(toD 5 m (.ref 129061 g 1 0 free.length)).bind fun e=>some (Data.tup [d,e]))=some (wZ N (f6 stop N 0 (dp rs) [] false)):=by
   intro h;rw[h,yU (n:=2) hok hmat,eG ik k61]
   rfl
  have hD1:=yU (n:=2) hok hmat;have hD2:=eG (n:=4) ik k61;rcases abq (c<N) with hlt | hge
  ·have hcl:decide ((c:Int)<(N:Int))=true:=decide_eq_true (by omega)
   cases bad
   ·have hw1:IntKind.i64.wrap ((c:Int)-(free.length:Int))=((c-free.length:Nat):Int):=by rw[aj _ (by omega) (by omega)];omega
    have hw2:IntKind.i64.wrap ((c:Int)+1)=((c+1:Nat):Int):=by rw[aj _ (by omega) (by omega)];omega
    have hQ:=B7 ⟨go,N,rows,c-free.length,c⟩ m ⟨hok,hmat,hp4,hp6,hN,Nat.sub_le _ _,hlt⟩;dsimp only at hQ;have hNc:N-c=(N-(c+1))+1:=by omega
    rw[hNc] at hel;simp only[f6] at hel;have hpo:=hok.piv (r:=c-free.length) (c:=c) (by omega);simp only[go_sem,go_sem_proc,abn,cu,dC,dC,h1,h2,h8,k11,k12,hm15,hcl,hw1,hQ];intro rv m' hR;obtain⟨hrv,hps⟩:=hR;dsimp only at hrv hps;subst hrv;have q4:m' 168004=none:=(hps.2 _ lP).trans hp4;have q6:m' 168006=none:=(hps.2 _ lK).trans hp6;have q61:m' 129061=some (g,ay gS free):=(hps.2 129061 (by unfold foreign;omega)).trans k61;have hap:lg 129061 g 1 free.length 8 1 [.dat (.int .i64 c)] (some (g,ay gS free))=_:=dk ik AZ 129061 g 8 free c rfl (by omega) (by omega);generalize hPV:gX rows (c-free.length) c=pv at *;obtain⟨pb,prows,pbad⟩:=pv;dsimp only at *
    cases pb
    ·simp only[abn,if_false] at hel
     simp only[go_sem,go_sem_proc,abn,cu,dC,h1,h2,h8,k11,k12,hw2]
     repeat' (first|refine qS ?_ ?_|fail)<;>intro h<;>simp only[h,go_sem,go_sem_proc,abn,cu,dC,h1,h2,h8,k11,k12,hw2]
     exact⟨(c+1,prows,free,pbad,g),by dsimp only;omega,by dsimp only;omega,by dsimp only;omega,hel,hpo,hps.1,q4,q6,rfl,q61,rfl⟩
    ·simp only[if_true] at hel
     have hma:=hps.1.other (k:=129061) (g:=g+1) (cs:=ay gS (free++[c])) (by omega) (by omega) (by omega)
     cases stop
     ·simp only[abn,if_false] at hel
      simp only[go_sem,go_sem_proc,abn,cu,dC,h1,h2,h8,k11,k12,hw2,q61,hap]
      repeat' (first|refine qS ?_ ?_|fail)<;>intro h<;>simp only[h,go_sem,go_sem_proc,abn,cu,dC,h1,h2,h8,k11,k12,hw2,q61,hap]
      exact⟨(c+1,prows,free++[c],pbad,g+1),by dsimp only;omega,by dsimp only;omega,by simp;omega,hel,hpo,hma,q4,q6,by simp,rfl,rfl⟩
     ·simp only[if_true] at hel
      simp only[go_sem,go_sem_proc,abn,cu,dC,h1,h2,h8,k11,k12,hw2,q61,hap]
      repeat' (first|refine qS ?_ ?_|fail)<;>intro h<;>simp only[h,go_sem,go_sem_proc,abn,cu,dC,h1,h2,h8,k11,k12,hw2,q61,hap]
      have hf1:free.length+1=(free++[c]).length:=by simp
      rw[yU (n:=2) hpo hma,hf1,eG (n:=4) ik (g:=g+1) (l:=free++[c]) (by simp [aA]),hel]
      rfl
   ·rw[wT] at hel
    simp only[go_sem,go_sem_proc,abn,cu,dC,h1,h2,h8,k11,k12,hm15,hcl,hD1,hD2]
    repeat' (first|refine qS ?_ ?_|fail)<;>intro h<;>simp only[h,go_sem,go_sem_proc,abn,cu,dC,h1,h2,h8,k11,k12,hm15,hcl,hD1,hD2]
    rw[hel]
    rfl
  ·have hcl:decide ((c:Int)<(N:Int))=false:=decide_eq_false (by omega)
   have hNc:N-c=0:=by omega
   rw[hNc] at hel;simp only[f6] at hel;simp only[go_sem,go_sem_proc,abn,cu,dC,h1,h2,h8,k11,k12,hm15,hcl,hD1,hD2]
   repeat' (first|refine qS ?_ ?_|fail)<;>intro h<;>simp only[h,go_sem,go_sem_proc,abn,cu,dC,h1,h2,h8,k11,k12,hm15,hcl,hD1,hD2]
   rw[hel]
   rfl
theorem rG {rs:List cG} {n:Int} (ho:ip rs) (h:fk rs n=true):(rs.length:Int)=n∧rs.length≤40∧∀ r∈rs,r.1.length=rs.length∧oR r:=by
 unfold fk at h;simp only[aaX,Bool.not_eq_true',decide_eq_false_iff_not,beq_iff_eq] at h;obtain⟨h1,h2,h3,h4⟩:=h;refine⟨h3,by omega,fun r hr=>⟨?_,ho.2 r hr⟩⟩
 rw[List.any_eq_false] at h4;have:=h4 r hr;unfold fB at this;simp at this;omega
theorem ug {stop:Bool} {N:Nat}:∀ (k c:Nat) (rows:List MR) (free:List Nat) (bad:Bool),c+k=N→MatOK N rows→MatOK N (f6 stop k c rows free bad).1
 | 0,_,rows,_,_,_,h=>h
 | k+1,c,rows,free,true,hc,h=>h
 | k+1,c,rows,free,false,hc,h=>by
  have hp:=h.piv (r:=c-free.length) (c:=c) (by omega);unfold f6
  split
  ·split
   ·exact hp
   ·exact ug k (c+1) _ _ _ (by omega) hp
  ·exact ug k (c+1) _ _ _ (by omega) hp
def j8 (stop:Bool) (rs:List cG):List MR × List Nat × Bool:=f6 stop rs.length 0 (dp rs) [] false
theorem pC (stop:Bool):∀ (k c:Nat) (rows:List MR) (free:List Nat) (bad:Bool),(f6 stop k c rows free bad).2.1.length≤free.length+k
 | 0,_,_,_,_=>by simp [f6]
 | k+1,c,rows,free,true=>by simp [f6]
 | k+1,c,rows,free,false=>by
  unfold f6
  split
  ·split
   ·simp
   ·have:=pC stop k (c+1) (gX rows (c-free.length) c).2.1 (free++[c]) (gX rows (c-free.length) c).2.2
    simp at this;omega
  ·have:=pC stop k (c+1) (gX rows (c-free.length) c).2.1 free (gX rows (c-free.length) c).2.2
   omega
theorem C3 (stop:Bool) (rs:List cG):(j8 stop rs).2.1.length≤rs.length:=by
 have:=pC stop rs.length 0 (dp rs) [] false;unfold j8
 simpa using this
theorem KA {rs:List cG} {stop:Bool} (h:∀ r∈rs,r.1.length=rs.length∧oR r):MatOK rs.length (j8 stop rs).1:=ug _ _ _ _ _ (by omega) (J2 rfl h)
def jX (N:Nat) (x:MR):aU:=x.2.2.getD N bz
def gZ (rs:List cG) (n:Int):List aU × Int :=
 if fk rs n=true then (if (j8 true rs).2.2=true then ([],6) else if (j8 true rs).2.1.length>0 then ([],17) else ((j8 true rs).1.map (jX rs.length),0)) else ([],1)
theorem HK {N:Nat} {x:MR} {f:aU} (h:x.2.2[N]?=some f):jX N x=f:=by
 unfold jX;rw[aaY,h]
 rfl
noncomputable def o5:List Data→Option PRes:=FF (α:=(List cG) × Int) (fun (rs,n)=>([.sl (rs.map ft),.int .i64 n]:List Data)) (fun (rs,n)=>aG (ip rs) (.same (.tup [.sl ((gZ rs n).1.map ad),.int .i64 (gZ rs n).2])))
theorem tG:∀ a b:(List cG) × Int,(fun (rs,n)=>([.sl (rs.map ft),.int .i64 n]:List Data)) a=(fun (rs,n)=>([.sl (rs.map ft),.int .i64 n]:List Data)) b→a=b:=by
  rintro⟨rs1,n1⟩ ⟨rs2,n2⟩ h;simp only[List.cons.injEq,Data.sl.injEq,Data.int.injEq] at h;exact abI (af nY _ _ h.1) h.2.1.2
@[go_sem] theorem vC (rs:List cG) (n:Int) (hc:ip rs):o5 [.sl (rs.map ft),.int .i64 n]=some (.same (.tup [.sl ((gZ rs n).1.map ad),.int .i64 (gZ rs n).2])):=(aV tG (rs,n)).trans (an hc _)
theorem Do (T:Tab) (gD:T jY=mkE po) (nP:T gh=mkE xZ) (rs:List cG) (n:Int) (hc:ip rs) :
  wp T mf_linear_Solve.body (bG mf_linear_Solve.res (.same (.tup [.sl ((gZ rs n).1.map ad),.int .i64 (gZ rs n).2]))) ⟨ax [.dat (.sl (rs.map ft)),.dat (.int .i64 n)],emp⟩:=by
 refine ap ?_;simp only[mf_linear_Solve];unfold gZ;rcases hr:fk rs n
 ·refine qI ?_
  repeat' (intro h<;>simp only[h,go_sem,go_sem_proc,abn,gD,nP,hc,hr,abJ]<;>try refine qS ?_ ?_)
 ·have hok:=KA (stop:=true) (rG hc hr).2.2
  have hF:xZ [.sl (rs.map ft),.int .i64 n,.bool true]=some (.same (wZ rs.length (j8 true rs))):=G6 rs n true (rG hc hr);have hfl:=C3 true rs;obtain⟨hn,hN,-⟩:=rG hc hr;rcases hP:j8 true rs with ⟨rows,free,bad⟩;rw[hP] at hfl hok hF;dsimp only at hfl hok;simp only[wZ,NU] at hF
  cases bad
  ·cases free with
   | nil =>
    simp only[go_sem,go_sem_proc,abn,gD,nP,hc,hr,hF,aa1,show decide (((0:Nat):Int)>0)=false from rfl,abJ];rw[if_neg (by simp)];refine ae [1,33,34] [] (fun ((i,g):Nat × Nat) tm m=>i≤rs.length∧tm 35 = .dat (.int .i64 i)∧tm 8 = .ref 109045 g 4 0 i∧m 109045=some (g,ay ad ((rows.take i).map (jX rs.length)))) (fun (i,_)=>rs.length-i) (0,0) (by refine⟨abm _,rfl,rfl,?_⟩;simp [aA,ay,aD,emp]) ?_
    intro vs ms hvs hms;simp only[go_sem,go_sem_proc,abn,gD,nP] at hvs hms;subst hvs hms;rintro⟨i,g⟩ tm m hk hm ⟨hiN,h35,h8,hm45⟩;simp only[go_sem,go_sem_proc,abn,gD,nP,List.cons.injEq] at hk hm;obtain⟨h1,h33,h34⟩:=hk;have hrl:=hok.len;rcases abq (i<rs.length) with hlt | hge
    ·obtain⟨x,hx⟩:∃ x,rows[i]?=some x:=⟨_,abr (by omega)⟩
     obtain⟨hxl,hxo⟩:=hok.row x (abl hx);obtain⟨⟨⟨a1,a2⟩,⟨a3,a4⟩⟩,hfk⟩:∃ f,x.2.2[rs.length]?=some f:=⟨_,abr (by omega)⟩;have hla:=HK hfk;have htl:((rows.take i).map (jX rs.length)).length=i:=by rw[aa1,aa4];omega
     have hap:=dk cH lY 109045 g 64 ((rows.take i).map (jX rs.length)) ((a1,a2),(a3,a4)) (cs:=[.dat (.int .i64 a1),.dat (.sl (a2.map aa)),.dat (.int .i64 a3),.dat (.sl (a4.map aa))]) rfl (by omega) (by omega);rw[htl] at hap
     have hnt:(rows.take (i+1)).map (jX rs.length)=(rows.take i).map (jX rs.length)++[((a1,a2),(a3,a4))]:=by
      rw[aa9,hx,aba];simp [hla]
     have hil:decide ((i:Int)<(rs.length:Int))=true:=decide_eq_true (by omega);have hil2:decide ((i:Int)<(rows.length:Int))=true:=decide_eq_true (by omega);have hw:IntKind.i64.wrap ((i:Int)+1)=((i+1:Nat):Int):=by rw[aj _ (by omega) (by omega)];omega
     have hn0:decide (0≤n)=true:=decide_eq_true (by omega);have hix:n=((rs.length:Nat):Int):=hn.symm;refine qI ?_
     repeat' (intro h<;>simp only[h,go_sem,go_sem_proc,abn,gD,nP,h1,h33,h34,h35,h8,hm45,hx,hfk,hap,hil,hil2,hw,hix,aa1,abF,ad]<;>try refine qS ?_ ?_)
     exact⟨(i+1,g+1),by dsimp only;omega,by dsimp only;omega,rfl,rfl,by dsimp only;rw[hnt]⟩
    ·have hin:i=rs.length:=by omega
     have hil2:decide ((i:Int)<(rows.length:Int))=false:=decide_eq_false (by omega);have hall:rows.take i=rows:=abB (by omega);rw[hall] at hm45
     have hD:∀ n,toD (n+1) m (.ref 109045 g 4 0 i)=some (.sl ((rows.map (jX rs.length)).map ad)):=fun n=>by
      have:=eG (n:=n) cH hm45;rw[show (rows.map (jX rs.length)).length=i by rw[aa1];omega] at this
      exact this
     have hD5:=hD 4;refine qI ?_
     repeat' (intro h<;>simp only[h,go_sem,go_sem_proc,abn,gD,nP,h1,h33,h34,h35,h8,hil2,hD5]<;>try refine qS ?_ ?_)
   | cons f fs =>
    have hgt:decide ((((f::fs).length:Nat):Int)>0)=true:=decide_eq_true (by simp only[abT];omega);simp only[abT] at hgt;refine qI ?_
    repeat' (intro h<;>simp only[h,go_sem,go_sem_proc,abn,gD,nP,hc,hr,hF,aa1,hgt,abJ]<;>try refine qS ?_ ?_)
    rw[if_pos (by omega)]
    rfl
  ·refine qI ?_
   repeat' (intro h<;>simp only[h,go_sem,go_sem_proc,abn,gD,nP,hc,hr,hF,aa1,abJ]<;>try refine qS ?_ ?_)
def mf_math_bits_Mul:MFunc :=
 { n:=30,np:=2,res:=[.t 4,.t 5],body :=
 (.seq (.ops [
 ⟨some 4,none,.mv (.c (.dat (.int .u64 0)))⟩,⟨some 5,none,.mv (.c (.dat (.int .u64 0)))⟩])
 (.seq (.cond (.c (.dat (.bool false)))
 (.seq (.ops [
 Zv 11 0,⟨some 12,none,.conv .u32 (.t 11)⟩,Zv 13 1,⟨some 14,none,.conv .u32 (.t 13)⟩,⟨some 15,none,.call pf [(.t 12),(.t 14)]⟩,Zv 10 15,Zx 16 0 10,Zx 17 1 10,Zv 6 16,Zv 7 17])
 (.seq (.ops [
 Zv 18 6,⟨some 19,none,.conv .u64 (.t 18)⟩,Zv 20 7,⟨some 21,none,.conv .u64 (.t 20)⟩,Zv 4 19,Zv 5 21])
 .ret))
 .skip)
 (.seq (.ops [
 Zv 23 0,Zv 24 1,⟨some 25,none,.call iu [(.t 23),(.t 24)]⟩,Zv 22 25,Zx 26 0 22,Zx 27 1 22,Zv 8 26,Zv 9 27])
 (.seq (.ops [
 Zv 28 8,Zv 29 9,Zv 4 28,Zv 5 29])
 .ret)))) }
def mf_math_bits_Mul64:MFunc :=
 { n:=51,np:=2,res:=[.t 4,.t 5],body :=
 (.seq (.ops [
 ⟨some 4,none,.mv (.c (.dat (.int .u64 0)))⟩,⟨some 5,none,.mv (.c (.dat (.int .u64 0)))⟩])
 (.seq (.ops [
 Zv 14 0,⟨some 15,none,.bin .and (.t 14) (.c (.dat (.int .u64 4294967295)))⟩,Zv 6 15])
 (.seq (.ops [
 Zv 16 0,⟨some 17,none,.bin .shr (.t 16) (.c (.dat (.int .u64 32)))⟩,Zv 7 17])
 (.seq (.ops [
 Zv 18 1,⟨some 19,none,.bin .and (.t 18) (.c (.dat (.int .u64 4294967295)))⟩,Zv 8 19])
 (.seq (.ops [
 Zv 20 1,⟨some 21,none,.bin .shr (.t 20) (.c (.dat (.int .u64 32)))⟩,Zv 9 21])
 (.seq (.ops [
 Zv 22 6,Zv 23 8,Zo 24 .mul 22 23,Zv 10 24])
 (.seq (.ops [
 Zv 25 7,Zv 26 8,Zo 27 .mul 25 26,Zv 28 10,⟨some 29,none,.bin .shr (.t 28) (.c (.dat (.int .u64 32)))⟩,Zo 30 .add 27 29,Zv 11 30])
 (.seq (.ops [
 Zv 31 11,⟨some 32,none,.bin .and (.t 31) (.c (.dat (.int .u64 4294967295)))⟩,Zv 12 32])
 (.seq (.ops [
 Zv 33 11,⟨some 34,none,.bin .shr (.t 33) (.c (.dat (.int .u64 32)))⟩,Zv 13 34])
 (.seq (.ops [
 Zv 35 12,Zv 36 6,Zv 37 9,Zo 38 .mul 36 37,Zo 39 .add 35 38,Zv 12 39])
 (.seq (.ops [
 Zv 40 7,Zv 41 9,Zo 42 .mul 40 41,Zv 43 13,Zo 44 .add 42 43,Zv 45 12,⟨some 46,none,.bin .shr (.t 45) (.c (.dat (.int .u64 32)))⟩,Zo 47 .add 44 46,Zv 4 47])
 (.seq (.ops [
 Zv 48 0,Zv 49 1,Zo 50 .mul 48 49,Zv 5 50])
 .ret)))))))))))) }
theorem rL:∀ y:Nat,y<41→bits .and .u64 (y:Int) 4294967295=y:=by decide
theorem Gd (y:Nat) (h:y<41):(y:Int).fdiv 4294967296=0:=by
 rw[Int.fdiv_eq_ediv_of_nonneg _ (by omega)];omega
noncomputable def xB:List Data→Option PRes:=FF (α:=Nat) (fun (y:Nat)=>([.int .u64 1,.int .u64 y]:List Data)) (fun (y:Nat)=>aG (y<41) (.same (.tup [.int .u64 0,.int .u64 y])))
theorem As:∀ a b:Nat,(fun (y:Nat)=>([.int .u64 1,.int .u64 y]:List Data)) a=(fun (y:Nat)=>([.int .u64 1,.int .u64 y]:List Data)) b→a=b:=by
  intro y1 y2 h;simp only[List.cons.injEq,Data.int.injEq] at h;omega
@[go_sem] theorem OB (y:Nat) (hc:y<41):xB [.int .u64 1,.int .u64 y]=some (.same (.tup [.int .u64 0,.int .u64 y])):=(aV As y).trans (an hc _)
theorem LA (T:Tab)  (y:Nat) (hc:y<41) :
  wp T mf_math_bits_Mul64.body (bG mf_math_bits_Mul64.res (.same (.tup [.int .u64 0,.int .u64 y]))) ⟨ax [.dat (.int .u64 1),.dat (.int .u64 y)],emp⟩:=by
 refine ap ?_;simp only[mf_math_bits_Mul64];have h1:=rL y hc;have h2:=Gd y hc;have h3:=rL 1 (by omega);have h4:=rL 0 (by omega);have h5:((1:Int)).fdiv 4294967296=0:=by decide
 have h6:((0:Int)).fdiv 4294967296=0:=by decide
 have hw:∀ x:Int,0≤x∧x<18446744073709551616→IntKind.u64.wrap x=x:=fun x h=>kt x h
 have w0:=hw 0 (by omega);have w1:=hw y (by omega);simp only[Int.natCast_zero,Int.cast_ofNat_Int,Int.natCast_one] at h3 h4;simp only[go_sem,go_sem_proc,abn,h1,h2,h3,h4,h5,h6,w0,w1,show ((32:Int)<0)=False from by simp,if_false,show (2:Int)^min (Int.toNat 32) 64=4294967296 from rfl,abU,abV,abW,abX,abY]
 repeat' (first|refine qS ?_ ?_|fail)<;>intro h<;>simp only[h,go_sem,go_sem_proc,abn,h1,h2,h3,h4,h5,h6,w0,w1,show ((32:Int)<0)=False from by simp,if_false,show (2:Int)^min (Int.toNat 32) 64=4294967296 from rfl,abU,abV,abW,abX,abY]
noncomputable def CO:List Data→Option PRes:=FF (α:=Nat) (fun (y:Nat)=>([.int .u64 1,.int .u64 y]:List Data)) (fun (y:Nat)=>aG (y<41) (.same (.tup [.int .u64 0,.int .u64 y])))
theorem Di:∀ a b:Nat,(fun (y:Nat)=>([.int .u64 1,.int .u64 y]:List Data)) a=(fun (y:Nat)=>([.int .u64 1,.int .u64 y]:List Data)) b→a=b:=by
  intro y1 y2 h;simp only[List.cons.injEq,Data.int.injEq] at h;omega
@[go_sem] theorem Pz (y:Nat) (hc:y<41):CO [.int .u64 1,.int .u64 y]=some (.same (.tup [.int .u64 0,.int .u64 y])):=(aV Di y).trans (an hc _)
theorem O7 (T:Tab) (LS:T iu=mkE xB) (y:Nat) (hc:y<41) :
  wp T mf_math_bits_Mul.body (bG mf_math_bits_Mul.res (.same (.tup [.int .u64 0,.int .u64 y]))) ⟨ax [.dat (.int .u64 1),.dat (.int .u64 y)],emp⟩:=by
 refine ap ?_;simp only[mf_math_bits_Mul];refine qI ?_
 repeat' (intro h<;>simp only[h,go_sem,go_sem_proc,abn,LS,hc]<;>try refine qS ?_ ?_)
theorem eh {α:Type} {A:List α} {k:Nat} (hA:A.length=k) (n:Nat):(abZ n A).flatten.length=n*k:=by
 rw[List.length_flatten,ab0,hA,List.sum_replicate_nat]
theorem FL {α:Type} {A:List α} {k:Nat} (hA:A.length=k) {q j:Nat} (h:q≤j):(abZ j A).flatten.take (q*k)=(abZ q A).flatten:=by
 obtain⟨d,rfl⟩:=ab1 h;rw[←ab2,ab3,ab4 (by rw[eh hA];omega),abB (by rw[eh hA];omega)]
theorem F6 {α:Type} {A:List α} {k:Nat} (hA:A.length=k) {q j:Nat} (h:q≤j):(abZ j A).flatten.drop (q*k)=(abZ (j-q) A).flatten:=by
 obtain⟨d,rfl⟩:=ab1 h;rw[←ab2,ab3,ab5,aby (by rw[eh hA];omega),eh hA,aa6,abQ,ab6,ab7]
def zeroC:List MV:=[.dat (.int .i64 0),.nil,.dat (.int .i64 0),.nil]
def nW (A:List MV) (N j:Nat):List MV:=(abZ j A).flatten++(abZ (N-j) zeroC).flatten
theorem AM {A:List MV} (hA:A.length=4) {N j:Nat} (h:j≤N):(nW A N j).length=N*4:=by
 unfold nW;rw[abg,eh hA,eh (show zeroC.length=4 from rfl)];omega
theorem vW {A:List MV} (hA:A.length=4) {N j q:Nat} (h:j+q≤N):(nW A N j).take (j*4)++(abZ q A).flatten++(nW A N j).drop (j*4+q*4)=nW A N (j+q):=by
 unfold nW;rw[ab4 (by rw[eh hA];omega),abB (by rw[eh hA];omega),ab5,aby (by rw[eh hA];omega),eh hA,ab7,F6 (show zeroC.length=4 from rfl) (by omega),ab6,←ab2 (n:=j),ab3,Nat.sub_sub]
theorem Fh {A:List MV} (hA:A.length=4) {N j:Nat}:(nW A N j).take (j*4)=(abZ j A).flatten:=by
 unfold nW;rw[ab4 (by rw[eh hA];omega),abB (by rw[eh hA];omega)]
theorem BC {A:List MV} (h:A.all MV.one=true) (q:Nat):(abZ q A).flatten.all MV.one=true:=by
 induction q with
 | zero=>rfl
 | succ n ih=>rw[ab8,abR,List.all_append,h,ih];rfl
theorem JX (f:aU) (N:Nat):nW ((ad f).map .dat) N N=ay ad (abZ N f):=by
 unfold nW ay;rw[aa6,ab0];simp only[List.replicate_zero,List.flatten_nil,abz]
 induction N with
 | zero=>rfl
 | succ n ih=>rw[ab8,abR,ab8,abR,aba,ih]
theorem Gw {A:List MV} (hA:A.length=4) (h1:A.all MV.one=true) (N:Nat):AL 131030 0 4 0 N 1 A (some (0,(abZ N zeroC).flatten))=some (.dat (.int .i64 ((min 1 N:Nat):Int)),some (131030,0,nW A N (min 1 N))):=by
 unfold AL;dsimp only;rw[if_pos ⟨rfl,by rw[eh (show zeroC.length=4 from rfl)];omega,h1⟩]
 have h0:(abZ N zeroC).flatten=nW A N 0:=by simp [nW]
 have ht:A.take (min 1 N*4)=(abZ (min 1 N) A).flatten:=by
  rcases abL N with h | h
  ·subst h;simp
  ·rw[show min 1 N=1 by omega];simp [abB (Nat.le_of_eq hA)]
 have:=vW hA (N:=N) (j:=0) (q:=min 1 N) (by omega);rw[h0,ht];unfold splice;rw[eh hA];simp only[Nat.zero_mul,Nat.zero_add] at this ⊢;rw[this]
theorem HT {A:List MV} (hA:A.length=4) (h1:A.all MV.one=true) {N j:Nat} (h:j<N):AL 131030 0 4 (j*4) (N-j) j (abZ j A).flatten (some (0,nW A N j))=some (.dat (.int .i64 ((min j (N-j):Nat):Int)),some (131030,0,nW A N (j+min j (N-j)))):=by
 unfold AL;dsimp only;rw[if_pos ⟨rfl,by rw[AM hA (by omega)];omega,BC h1 j⟩]
 rw[FL hA (show min j (N-j)≤j by omega)];have:=vW hA (N:=N) (j:=j) (q:=min j (N-j)) (by omega);unfold splice;rw[eh hA,this]
noncomputable def rA:List Data→Option PRes:=FF (α:=Int × (List Int) × Int × (List Int) × Nat) (fun (s,l,s2,l2,N)=>([.sl [[.int .i64 s,.sl (l.map aa),.int .i64 s2,.sl (l2.map aa)]],.int .i64 N]:List Data)) (fun (s,l,s2,l2,N)=>aG (N<41) (.own 4 (abZ N (ad ((s,l),(s2,l2))))))
theorem vB:∀ a b:Int × (List Int) × Int × (List Int) × Nat,(fun (s,l,s2,l2,N)=>([.sl [[.int .i64 s,.sl (l.map aa),.int .i64 s2,.sl (l2.map aa)]],.int .i64 N]:List Data)) a=(fun (s,l,s2,l2,N)=>([.sl [[.int .i64 s,.sl (l.map aa),.int .i64 s2,.sl (l2.map aa)]],.int .i64 N]:List Data)) b→a=b:=by
  rintro⟨s1,l1,s21,l21,N1⟩ ⟨s2,l2,s22,l22,N2⟩ h;simp only[List.cons.injEq,Data.int.injEq,Data.sl.injEq] at h;exact abI h.1.1.1.2 (abI (af ai _ _ h.1.1.2.1) (abI h.1.1.2.2.1.2 (abI (af ai _ _ h.1.1.2.2.2.1) (by have:=h.2.1.2;dsimp only;omega))))
@[go_sem] theorem yy (s:Int) (l:List Int) (s2:Int) (l2:List Int) (N:Nat) (hc:N<41):rA [.sl [[.int .i64 s,.sl (l.map aa),.int .i64 s2,.sl (l2.map aa)]],.int .i64 N]=some (.own 4 (abZ N (ad ((s,l),(s2,l2))))):=(aV vB (s,l,s2,l2,N)).trans (an hc _)
theorem FU (T:Tab) (mY:T ju=mkE CO) (s:Int) (l:List Int) (s2:Int) (l2:List Int) (N:Nat) (hc:N<41) :
  wp T mf_slices_Repeat_Frac.body (bG mf_slices_Repeat_Frac.res (.own 4 (abZ N (ad ((s,l),(s2,l2)))))) ⟨ax [.dat (.sl [[.int .i64 s,.sl (l.map aa),.int .i64 s2,.sl (l2.map aa)]]),.dat (.int .i64 N)],emp⟩:=by
 refine ap ?_;simp only[mf_slices_Repeat_Frac];have h0:decide ((N:Int)<0)=false:=decide_eq_false (by omega);have hw:IntKind.u64.wrap (N:Int)=N:=kt _ ⟨by omega,by omega⟩
 have hw':IntKind.i64.wrap (N:Int)=N:=aj _ (by omega) (by omega);have hw1:IntKind.u64.wrap ((1:Nat):Int)=1:=by decide
 have hg:decide ((N:Int)>9223372036854775807)=false:=decide_eq_false (by omega);have hmk1:(64*N≤140737488355328)=True:=eq_true (by omega);have hmk2:(N≤maxLen)=True:=eq_true (by unfold maxLen;omega);have hA:((ad ((s,l),(s2,l2))).map MV.dat).length=4:=rfl;have hA1:((ad ((s,l),(s2,l2))).map MV.dat).all MV.one=true:=rfl;have hfirst:=Gw hA hA1 N;have hnext:=fun j (h:j<N)=>HT hA hA1 h
 have hAdef:(ad ((s,l),(s2,l2))).map MV.dat=[.dat (.int .i64 s),.dat (.sl (l.map aa)),.dat (.int .i64 s2),.dat (.sl (l2.map aa))]:=rfl;simp only[zeroC] at hfirst;rw[hAdef] at hfirst;simp only[go_sem,go_sem_proc,abn,mY] at hfirst;simp only[go_sem,go_sem_proc,abn,mY,h0,hw,hw',hw1,hc,hg,hmk1,hmk2,show decide ((0:Int)>0)=false from rfl,hfirst];rw[hAdef] at hA hA1;have hfin:=JX ((s,l),(s2,l2)) N;rw[hAdef] at hfin;simp only[hAdef] at hnext;clear hAdef hfirst;generalize [MV.dat (.int .i64 s),.dat (.sl (l.map aa)),.dat (.int .i64 s2),.dat (.sl (l2.map aa))]=A at *;refine ae [7] [] (fun (j:Nat) tm m=>j≤N∧(0<N→0<j)∧tm 8 = .dat (.int .i64 j)∧m 131030=some (0,nW A N j)) (fun j=>N-j) (min 1 N) (by refine⟨by omega,by omega,rfl,?_⟩;simp [aA]) ?_;intro vs ms hvs hms;simp only[go_sem,go_sem_proc,abn,mY] at hvs hms;subst hvs hms;rintro j tm m hk hm ⟨hjN,hj0,h8,hm30⟩;simp only[go_sem,go_sem_proc,abn,mY,List.cons.injEq] at hk hm;have h7:=hk;rcases abq (j<N) with hlt | hge
 ·have hjl:decide ((j:Int)<(N:Int))=true:=decide_eq_true (by omega)
  have hn:=hnext j hlt;have hrow:=Fh hA (N:=N) (j:=j);have hlen:(j*4≤(nW A N j).length)=True:=eq_true (by rw[AM hA hjN];omega);have hjN':(j≤N)=True:=eq_true hjN;have hall:=BC hA1 j;simp only[go_sem,go_sem_proc,abn,mY,hall,hA1,hrow] at hn;have hw2:IntKind.i64.wrap ((j:Int)+((min j (N-j):Nat):Int))=((j+min j (N-j):Nat):Int):=by rw[aj _ (by omega) (by omega)];omega
  simp only[go_sem,go_sem_proc,abn,mY,h7,h8,hm30,hjl,hrow,hlen,hjN',hall,hn,hw2,abC,ab9,abm]
  repeat' (first|refine qS ?_ ?_|fail)<;>intro h<;>simp only[h,go_sem,go_sem_proc,abn,mY,h7,h8,hm30,hjl,hrow,hlen,hjN',hall,hn,hw2,abC,ab9,abm]
  exact⟨j+min j (N-j),by have:=hj0 (by omega);omega,by omega,by omega,rfl,rfl⟩
 ·have hjl:decide ((j:Int)<(N:Int))=false:=decide_eq_false (by omega)
  obtain rfl:j=N:=by omega
  rw[hfin] at hm30;have hlr:=dx cH (abZ j ((s,l),(s2,l2)));rw[aca] at hlr;simp only[go_sem,go_sem_proc,abn,mY,h7,h8,hm30,hjl,rJ,hlr]
  repeat' (first|refine qS ?_ ?_|fail)<;>intro h<;>simp only[h,go_sem,go_sem_proc,abn,mY,h7,h8,hm30,hjl,rJ,hlr]
  rw[if_pos (abC _),abB (by omega)];unfold ay;rw[mj _ fun d=>rfl]
  have:=jd (sz:=4) ((abZ j ((s,l),(s2,l2))).map ad) (by intro e he;obtain⟨f,-,rfl⟩:=List.mem_map.1 he;rfl);rw[aa1,aca] at this;rw[abG,this,ab0]
def zF:aU:=((0,[]),(1,[1]))
def Pk:aU:=((1,[1]),(1,[1]))
theorem vP:ak 0=zF:=by
 unfold ak aP zF;simp [pA,f8]
theorem HW:ak 1=Pk:=by
 unfold ak aP Pk;simp [pA]
def ID (rows:List MR) (f N i:Nat):List aU:=(abS N).map fun k=>if k<i then (nv zF (cJ (ff rows k) f)).1 else if k=f then Pk else zF
theorem KE (rows:List MR) (f N i:Nat):(ID rows f N i).length=N:=by simp [ID]
def Ia (rs:List cG) (n:Int):List aU × Bool :=
 if fk rs n=true then (if ((j8 true rs).2.2||(j8 true rs).2.1.length==0)=true then ([],false) else (ID (j8 true rs).1 ((j8 true rs).2.1.headD 0) rs.length ((j8 true rs).2.1.headD 0),true)) else ([],false)



section
variable {α:Type} {op:α→aU × Int} {e:α→aU}
end
def RowsOK (N:Nat) (rows:List cG):Prop:=rows.length=N∧∀ x∈rows,x.1.length=N∧oR x
theorem RowsOK.set {N:Nat} {rows:List cG} (h:RowsOK N rows) {i:Nat} {x:cG} (hx:x.1.length=N∧oR x):RowsOK N (rows.set i x):=by
 refine⟨by rw[abj];exact h.1,fun y hy=>?_⟩
 rcases List.mem_or_eq_of_mem_set hy with hy | rfl
 ·exact h.2 y hy
 ·exact hx




set_option maxHeartbeats 1000000
def O5 (r:cG):List aU:=r.1++[r.2]
def RelL (X:List MR) (R:List cG):Prop:=X.map (·.2.2)=R.map O5
theorem RelL.len {X:List MR} {R:List cG} (h:RelL X R):X.length=R.length:=by
 have:=congrArg abE h
 simpa using this
theorem RelL.at_ {X:List MR} {R:List cG} (h:RelL X R) {i:Nat} {x:MR} {r:cG} (hx:X[i]?=some x) (hr:R[i]?=some r):x.2.2=O5 r:=by
 have:=congrArg (fun l:List (List aU)=>l[i]?) h;simp only[abF,hx,hr,abG,Option.some.injEq] at this;exact this
theorem RelL.set {X:List MR} {R:List cG} (h:RelL X R) {i:Nat} {x:MR} {r:cG} (hxr:x.2.2=O5 r):RelL (X.set i x) (R.set i r):=by
 unfold RelL at h ⊢;rw[aa2,aa2,h,hxr]
def sumQ:Nat→(Nat→Rat)→Rat
 | 0,_=>0
 | n+1,f=>sumQ n f+f n
theorem bV {n:Nat} {f g:Nat→Rat} (h:∀ k,k<n→f k=g k):sumQ n f=sumQ n g:=by
 induction n with
 | zero=>rfl
 | succ n ih=>rw[sumQ,sumQ,ih fun k hk=>h k (by omega),h n (by omega)]
theorem kW (n:Nat) (f g:Nat→Rat):sumQ n (fun k=>f k+g k)=sumQ n f+sumQ n g:=by
 induction n with
 | zero=>simp [sumQ,acb]
 | succ n ih=>rw[sumQ,sumQ,sumQ,ih];grind
theorem mD (n:Nat) (c:Rat) (f:Nat→Rat):sumQ n (fun k=>c*f k)=c*sumQ n f:=by
 induction n with
 | zero=>simp [sumQ,Rat.mul_zero]
 | succ n ih=>rw[sumQ,sumQ,ih];grind
theorem gP {n:Nat} {f:Nat→Rat} (h:∀ k,k<n→f k=0):sumQ n f=0:=by
 induction n with
 | zero=>rfl
 | succ n ih=>rw[sumQ,ih fun k hk=>h k (by omega),h n (by omega)];exact acb 0
theorem iL {n:Nat} {f:Nat→Rat} {j:Nat} (hj:j<n) (h:∀ k,k<n→k≠j→f k=0):sumQ n f=f j:=by
 induction n with
 | zero=>omega
 | succ n ih =>
  rw[sumQ]
  by_cases hn:j=n
  ·subst hn
   rw[gP fun k hk=>h k (by omega) (by omega)];grind
  ·rw[ih (by omega) fun k hk=>h k (by omega),h n (by omega) (by omega)];grind
abbrev Mat:=Nat→Nat→Rat
def kF (N:Nat) (a y:Nat→Rat):Rat:=sumQ (N+1) fun k=>a k*y k
def Ann (N:Nat) (A:Mat) (y:Nat→Rat):Prop:=∀ i,i<N→kF N (A i) y=0
def di (A:Mat) (r s:Nat):Mat:=fun i=>if i=s then A r else if i=r then A s else A i
def mP (A:Mat) (r c s:Nat):Mat:=fun i k=>if i=r then di A r s r k / di A r s r c else di A r s i k-di A r s i c*(di A r s r k / di A r s r c)
theorem sN (A:Mat) (r s:Nat):di A r s r=A s:=by
 unfold di
 by_cases h:r=s
 ·simp [h]
 ·simp [h]
theorem HN {N r s:Nat} {A:Mat} {y:Nat→Rat} (hr:r<N) (hs:s<N):Ann N (di A r s) y↔Ann N A y:=by
 unfold Ann di
 constructor
 ·intro h i hi
  by_cases h1:i=r
  ·have:=h s hs;simp at this;rw[h1];exact this
  ·by_cases h2:i=s
   ·have:=h r hr
    rw[h2]
    by_cases h3:r=s
    ·omega
    ·simp [h3] at this;exact this
   ·have:=h i hi;simp [h1,h2] at this;exact this
 ·intro h i hi
  by_cases h2:i=s
  ·simp [h2];exact h r hr
  ·by_cases h1:i=r
   ·have:=h s hs
    rw[if_neg h2,if_pos h1];exact this
   ·simp [h1,h2];exact h i hi
theorem MG (N:Nat) (a b y:Nat→Rat) (x:Rat):kF N (fun k=>a k-x*b k) y=kF N a y-x*kF N b y:=by
 unfold kF;have:(fun k=>(a k-x*b k)*y k)=fun k=>a k*y k+(-x)*(b k*y k):=by funext k;grind
 rw[this,kW,mD];grind
theorem D9 (N:Nat) (a y:Nat→Rat) (x:Rat):kF N (fun k=>a k / x) y=kF N a y / x:=by
 unfold kF;have:(fun k=>(a k / x)*y k)=fun k=>(1 / x)*(a k*y k):=by funext k;grind
 rw[this,mD];grind
theorem xE {N r s c:Nat} {A:Mat} {y:Nat→Rat} (hr:r<N) (hs:s<N) (hne:A s c≠0):Ann N (mP A r c s) y↔Ann N A y:=by
 rw[←HN (A:=A) hr hs];have hne':di A r s r c≠0:=by rw[sN];exact hne
 generalize hS:di A r s=S at *
 have d1:∀ i,i≠r→kF N (mP A r c s i) y=kF N (S i) y-S i c*(kF N (S r) y / S r c):=by
  intro i hi;have:mP A r c s i=fun k=>S i k-S i c*(S r k / S r c):=by funext k;unfold mP;rw[hS,if_neg hi]
  rw[this,MG N (S i) (fun k=>S r k / S r c) y (S i c),D9]
 have d2:kF N (mP A r c s r) y=kF N (S r) y / S r c:=by
  have:mP A r c s r=fun k=>S r k / S r c:=by funext k;unfold mP;rw[hS,if_pos rfl]
  rw[this,D9]
 unfold Ann
 constructor
 ·intro h
  have h0:kF N (S r) y=0:=by
   have:=h r hr;rw[d2] at this;generalize kF N (S r) y=d at *;grind
  intro i hi
  by_cases hir:i=r
  ·rw[hir];exact h0
  ·have:=h i hi
   rw[d1 i hir,h0] at this;generalize kF N (S i) y=d at *;grind
 ·intro h i hi
  have h0:=h r hr
  by_cases hir:i=r
  ·rw[hir,d2,h0];grind
  ·rw[d1 i hir,h0,h i hi];grind
structure Red (N:Nat) (Q:Mat) (p c:Nat) (pv:Nat→Nat):Prop where
 pc:p≤c
 lt:∀ j,j<p→pv j<c
 unit:∀ j,j<p→∀ i,i<N→Q i (pv j)=if i=j then 1 else 0
 zero:∀ i,p≤i→i<N→∀ k,k<c→Q i k=0
theorem Red.free {N p c:Nat} {Q:Mat} {pv:Nat→Nat} (h:Red N Q p c pv) (hz:∀ i,p≤i→i<N→Q i c=0):Red N Q p (c+1) pv :=
 ⟨by have:=h.pc;omega,fun j hj=>by have:=h.lt j hj;omega,h.unit,fun i hi hN k hk=>by
  by_cases hkc:k=c
  ·rw[hkc];exact hz i hi hN
  ·exact h.zero i hi hN k (by omega)⟩
theorem Red.piv {N p c s:Nat} {Q:Mat} {pv:Nat→Nat} (h:Red N Q p c pv) (hp:p<N) (hs:p≤s) (hsN:s<N) (hne:Q s c≠0):Red N (mP Q p c s) (p+1) (c+1) (fun j=>if j=p then c else pv j):=by
 have hS:∀ i,i<N→∃ i',i'<N∧di Q p s i=Q i'∧(i<p→i'=i)∧(p≤i→p≤i'):=by
  intro i hi;unfold di
  by_cases h1:i=s
  ·exact⟨p,hp,by rw[if_pos h1],by omega,by omega⟩
  ·by_cases h2:i=p
   ·exact⟨s,hsN,by rw[if_neg h1,if_pos h2],by omega,by omega⟩
   ·exact⟨i,hi,by rw[if_neg h1,if_neg h2],by omega,by omega⟩
 have hSr:di Q p s p c≠0:=by rw[sN];exact hne
 have hz:∀ i,p≤i→i<N→∀ k,k<c→di Q p s i k=0:=by
  intro i hi hN k hk;obtain⟨i',h1,h2,-,h4⟩:=hS i hN;rw[h2];exact h.zero i' (h4 hi) h1 k hk
 refine⟨by have:=h.pc;omega,fun j hj=>?_,fun j hj i hi=>?_,fun i hi hN k hk=>?_⟩
 ·show (if j=p then c else pv j)<c+1
  split
  ·omega
  ·have:=h.lt j (by omega);omega
 ·unfold mP
  by_cases hjp:j=p
  ·simp only[hjp,if_true]
   by_cases hip:i=p
   ·rw[if_pos hip,if_pos hip];grind
   ·rw[if_neg hip,if_neg hip];grind
  ·simp only[hjp,if_false]
   have hj':j<p:=by omega
   have e1:di Q p s p (pv j)=0:=hz p (abC _) hp _ (h.lt j hj');rw[e1]
   by_cases hip:i=p
   ·rw[if_pos hip,if_neg (by omega)];grind
   ·rw[if_neg hip]
    obtain⟨i',h1,h2,h3,h4⟩:=hS i hi;rw[h2,h.unit j hj' i' h1];rcases abb i p with hlt | hge
    ·rw[h3 hlt];grind
    ·rw[if_neg (by have:=h4 hge;omega),if_neg (by omega)];grind
 ·unfold mP
  rw[if_neg (by omega)]
  by_cases hkc:k=c
  ·subst hkc;grind
  ·rw[hz i (by omega) hN k (by omega),hz p (abC _) hp k (by omega)];grind
theorem oI (N:Nat) (Q:Mat) (pv:Nat→Nat):Red N Q 0 0 pv:=⟨abC _,fun j hj=>by omega,fun j hj=>by omega,fun i hi hN k hk=>by omega⟩
end Go.Mini
namespace Go.Mini
open Classical
structure Cl where
 fr:Nat
 to:Int
 rk:Nat
 am:Rat
theorem jf {a b:Rat} (h:a=b):a≤b:=by rw[h];exact acd
def sumC:List Cl→(Cl→Rat)→Rat
 | [],_=>0
 | c::l,F=>F c+sumC l F
theorem cK {l:List Cl} {F G:Cl→Rat} (h:∀ c∈l,F c=G c):sumC l F=sumC l G:=by
 induction l with
 | nil=>rfl
 | cons c l ih=>rw[sumC,sumC,h c abN,ih fun x hx=>h x (abM _ hx)]
theorem qX (l:List Cl) (F G:Cl→Rat):sumC l (fun c=>F c+G c)=sumC l F+sumC l G:=by
 induction l with
 | nil=>simp only[sumC];grind
 | cons c l ih=>rw[sumC,sumC,sumC,ih];grind
theorem nA (l:List Cl) (F G:Cl→Rat):sumC l (fun c=>F c-G c)=sumC l F-sumC l G:=by
 induction l with
 | nil=>simp only[sumC];grind
 | cons c l ih=>rw[sumC,sumC,sumC,ih];grind
theorem jR (l:List Cl) (a:Rat) (F:Cl→Rat):sumC l (fun c=>a*F c)=a*sumC l F:=by
 induction l with
 | nil=>simp only[sumC];grind
 | cons c l ih=>rw[sumC,sumC,ih];grind
theorem lV {l:List Cl} {F:Cl→Rat} (h:∀ c∈l,F c=0):sumC l F=0:=by
 induction l with
 | nil=>rfl
 | cons c l ih=>rw[sumC,h c abN,ih fun x hx=>h x (abM _ hx)];grind
theorem na {l:List Cl} {F G:Cl→Rat} (h:∀ c∈l,F c≤G c):sumC l F≤sumC l G:=by
 induction l with
 | nil=>exact acd
 | cons c l ih =>
  have h1:=h c abN;have h2:=ih fun x hx=>h x (abM _ hx)
  rw[sumC,sumC];grind
theorem dF {l:List Cl} {F:Cl→Rat} (h:∀ c∈l,0≤F c):0≤sumC l F:=by
 have:=na (l:=l) (F:=fun _=>0) (G:=F) h
 rwa [lV fun _ _=>rfl] at this
theorem rn {l:List Cl} {F:Cl→Rat} (h:∀ c∈l,0≤F c) (hs:sumC l F≤0):∀ c∈l,F c=0:=by
 induction l with
 | nil=>intro c hc;cases hc
 | cons c l ih =>
  rw[sumC] at hs;have h1:=h c abN;have h2:=dF fun x hx=>h x (abM c hx)
  intro x hx;rcases List.mem_cons.1 hx with rfl | hx
  ·grind
  ·exact ih (fun y hy=>h y (abM _ hy)) (by grind) x hx
theorem My {l:List Cl} {F G:Cl→Rat} (h:∀ c∈l,F c≤G c) {c0:Cl} (hc:c0∈l) (hlt:F c0<G c0):sumC l F<sumC l G:=by
 by_cases hs:sumC l F<sumC l G
 ·exact hs
 ·have:=rn (l:=l) (F:=fun c=>G c-F c) (fun c hc=>by have:=h c hc;grind) (by rw[nA];grind) c0 hc
  grind
theorem sR {l:List Cl} {F:Cl→Rat} (h:0<sumC l F):∃ c∈l,0<F c:=by
 apply ace;intro hn
 have:=na (l:=l) (F:=F) (G:=fun _=>0) fun c hc=>by
  apply ace;intro h2;exact hn ⟨c,hc,by grind⟩
 rw[lV (F:=fun _=>(0:Rat)) fun _ _=>rfl] at this
 grind
theorem p8 {n:Nat} {f g:Nat→Rat} (h:∀ k,k<n→f k≤g k):sumQ n f≤sumQ n g:=by
 induction n with
 | zero=>exact acd
 | succ n ih =>
  have h1:=h n (by omega);have h2:=ih fun k hk=>h k (by omega)
  rw[sumQ,sumQ];grind
theorem sa {n:Nat} {f:Nat→Rat} (h:∀ k,k<n→0≤f k):0≤sumQ n f:=by
 have:=p8 (n:=n) (f:=fun _=>0) (g:=f) h
 rwa [gP fun _ _=>rfl] at this
theorem nC (n:Nat) (f g:Nat→Rat):sumQ n (fun k=>f k-g k)=sumQ n f-sumQ n g:=by
 induction n with
 | zero=>simp only[sumQ];grind
 | succ n ih=>rw[sumQ,sumQ,sumQ,ih];grind
theorem Fj {n:Nat} {f:Nat→Rat} (h:∀ k,k<n→0≤f k) (hs:sumQ n f≤0):∀ k,k<n→f k=0:=by
 induction n with
 | zero=>intro k hk;omega
 | succ n ih =>
  rw[sumQ] at hs;have h1:=h n (by omega);have h2:=sa (n:=n) (f:=f) fun k hk=>h k (by omega)
  intro k hk
  by_cases hkn:k=n
  ·subst hkn;grind
  ·exact ih (fun k hk=>h k (by omega)) (by grind) k (by omega)
def inC (C:Nat→Prop) (c:Cl):Prop:=∃ i:Nat,c.to=i∧C i
theorem Cx {n:Nat} (C:Nat→Prop) (hC:∀ i,C i→i<n) (l:List Cl) (a:Cl→Rat):sumQ n (fun i=>if C i then sumC l (fun c=>if c.to=(i:Int) then a c else 0) else 0)=sumC l (fun c=>if inC C c then a c else 0):=by
 induction l with
 | nil=>exact gP fun k _=>by split<;>rfl
 | cons c l ih =>
  rw[sumC,←ih]
  have e:(fun i:Nat=>if C i then sumC (c::l) (fun c=>if c.to=(i:Int) then a c else 0) else 0)=fun i=>(if C i then (if c.to=(i:Int) then a c else 0) else 0)+(if C i then sumC l (fun c=>if c.to=(i:Int) then a c else 0) else 0):=by
   funext i
   split
   ·rw[sumC]
   ·grind
  rw[e,kW]
  congr 1
  by_cases h:inC C c
  ·obtain⟨i,hi,hCi⟩:=h
   rw[iL (hC i hCi) fun k hk hki=>by
    split
    ·rw[if_neg (by omega)]
    ·rfl]
   rw[if_pos hCi,if_pos hi,if_pos ⟨i,hi,hCi⟩]
  ·rw[if_neg h]
   refine gP fun k hk=>?_
   split
   ·rw[if_neg fun hk2=>h ⟨k,hk2,by assumption⟩]
   ·rfl
theorem Cm {n:Nat} {l:List Cl} (hl:∀ c∈l,c.fr<n) (b:Nat→Cl→Rat):sumQ n (fun k=>sumC l (fun c=>if c.fr=k then b k c else 0))=sumC l (fun c=>b c.fr c):=by
 induction l with
 | nil=>exact gP fun k _=>rfl
 | cons c l ih =>
  rw[sumC,←ih fun x hx=>hl x (abM _ hx)]
  have e:(fun k:Nat=>sumC (c::l) (fun c=>if c.fr=k then b k c else 0))=fun k=>(if c.fr=k then b k c else 0)+sumC l (fun c=>if c.fr=k then b k c else 0):=rfl
  rw[e,kW]
  congr 1
  rw[iL (hl c abN) fun k _ hk=>if_neg (Ne.symm hk),if_pos rfl]
structure Day where
 n:Nat
 cash:Nat→Rat
 cl:List Cl
structure Day.OK (d:Day):Prop where
 fr:∀ c∈d.cl,c.fr<d.n
 to:∀ c∈d.cl,c.to<d.n
 rk:∀ c∈d.cl,c.rk<10
 am:∀ c∈d.cl,0≤c.am
 cash:∀ i,i<d.n→0≤d.cash i
noncomputable def Day.U (d:Day) (k r:Nat):Rat:=sumC d.cl fun c=>if c.fr=k∧c.rk<r then c.am else 0
noncomputable def Day.S (d:Day) (k r:Nat):Rat:=sumC d.cl fun c=>if c.fr=k∧c.rk=r then c.am else 0
theorem Day.U_zero (d:Day) (k:Nat):d.U k 0=0:=lV fun c _=>if_neg (by omega)
theorem Day.U_succ (d:Day) (k r:Nat):d.U k (r+1)=d.U k r+d.S k r:=by
 unfold Day.U Day.S;rw[←qX];refine cK fun c _=>?_
 by_cases h1:c.fr=k∧c.rk<r
 ·rw[if_pos ⟨h1.1,by omega⟩,if_pos h1,if_neg (by omega)];grind
 ·rw[if_neg h1]
  by_cases h2:c.fr=k∧c.rk=r
  ·rw[if_pos ⟨h2.1,by omega⟩,if_pos h2];grind
  ·rw[if_neg (by omega),if_neg h2];grind
theorem Day.OK.S_nonneg {d:Day} (hd:d.OK) (k r:Nat):0≤d.S k r:=dF fun c hc=>by
 split
 ·exact hd.am c hc
 ·exact acd
theorem Day.OK.U_mono {d:Day} (hd:d.OK) (k:Nat) {r s:Nat} (h:r≤s):d.U k r≤d.U k s:=by
 induction s with
 | zero =>
      obtain rfl:r=0:=by omega
      exact acd
 | succ s ih =>
  by_cases hr:r=s+1
  ·rw[hr];exact acd
  ·have h1:=ih (by omega)
   have h2:=hd.S_nonneg k s;rw[d.U_succ];grind
theorem Day.OK.U_nonneg {d:Day} (hd:d.OK) (k r:Nat):0≤d.U k r:=by
 have:=hd.U_mono k (abm r)
 rwa [d.U_zero] at this
theorem Day.OK.am_le {d:Day} (hd:d.OK) {c:Cl} (hc:c∈d.cl):c.am≤d.S c.fr c.rk:=by
 have:∀ l:List Cl,(∀ x∈l,0≤x.am)→c∈l→c.am≤sumC l fun x=>if x.fr=c.fr∧x.rk=c.rk then x.am else 0:=by
  intro l
  induction l with
  | nil=>intro _ h;cases h
  | cons x l ih =>
   intro h1 h2;rw[sumC]
   have h3:0≤sumC l fun x=>if x.fr=c.fr∧x.rk=c.rk then x.am else 0:=dF fun y hy=>by
    split
    ·exact h1 y (abM _ hy)
    ·exact acd
   rcases List.mem_cons.1 h2 with rfl | h2
   ·rw[if_pos ⟨rfl,rfl⟩];grind
   ·have h4:=ih (fun y hy=>h1 y (abM _ hy)) h2
    have h5:=h1 x abN
    split<;>grind
 exact this d.cl hd.am hc
noncomputable def Day.w (d:Day) (c:Cl):Rat:=c.am / d.S c.fr c.rk
theorem Day.OK.w_nonneg {d:Day} (hd:d.OK) {c:Cl} (hc:c∈d.cl):0≤d.w c:=by
 unfold Day.w;have h1:=hd.am c hc;have h2:=hd.S_nonneg c.fr c.rk;rw[acf]
 exact Rat.mul_nonneg h1 (by
  rcases Rat.le_iff_lt_or_eq.1 h2 with h | h
  ·exact Rat.le_of_lt (Rat.inv_pos.2 h)
  ·rw[←h];exact jf Rat.inv_zero.symm)
theorem Day.OK.w_pos {d:Day} (hd:d.OK) {c:Cl} (hc:c∈d.cl) (h:0<c.am):0<d.w c:=by
 unfold Day.w;have h2:=hd.am_le hc;rw[acf];exact Rat.mul_pos h (Rat.inv_pos.2 (by grind))
theorem Day.w_zero {d:Day} {c:Cl} (h:c.am=0):d.w c=0:=by
 unfold Day.w;rw[h,acf,Rat.zero_mul]
theorem Day.w_S {d:Day} {c:Cl} (h:0<d.S c.fr c.rk):d.w c*d.S c.fr c.rk=c.am:=by
 unfold Day.w;grind
theorem Day.OK.sum_fr {d:Day} (hd:d.OK) (C:Nat→Prop) (f:Nat→Nat) (hS:∀ k,C k→0<d.S k (f k)) (x:Nat→Rat):sumC d.cl (fun c=>if C c.fr∧c.rk=f c.fr then d.w c*x c.fr else 0)=sumQ d.n (fun k=>if C k then x k else 0):=by
 rw[←Cm hd.fr fun k c=>if C k∧c.rk=f k then d.w c*x k else 0]
 refine bV fun k hk=>?_
 by_cases hC:C k
 ·rw[if_pos hC]
  have hpos:=hS k hC
  have e:sumC d.cl (fun c=>if c.fr=k then (if C k∧c.rk=f k then d.w c*x k else 0) else 0)=sumC d.cl fun c=>(x k / d.S k (f k))*(if c.fr=k∧c.rk=f k then c.am else 0):=by
   refine cK fun c _=>?_
   by_cases h1:c.fr=k
   ·by_cases h2:c.rk=f k
    ·rw[if_pos h1,if_pos ⟨hC,h2⟩,if_pos ⟨h1,h2⟩]
     unfold Day.w;rw[h1,h2];grind
    ·rw[if_pos h1,if_neg (fun h=>h2 h.2),if_neg (fun h=>h2 h.2)];grind
   ·rw[if_neg h1,if_neg (fun h=>h1 h.1)];grind
  rw[e,jR]
  show x k / d.S k (f k)*d.S k (f k)=x k;grind
 ·rw[if_neg hC]
  exact lV fun c _=>by
   split
   ·rw[if_neg fun h=>hC h.1]
   ·rfl
end Go.Mini
