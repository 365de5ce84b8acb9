/- A part of the proof: MiniLin4, MiniLin5, MiniLin6, MiniLin7, MiniLin8, MiniLin9, MiniLin10, MiniLin11, MiniLin12, MiniLin13, MiniKMath, MiniLin14, MiniLin15. -/
import Derived.Test.YtjcpopjafedmpaaGreatM10
import Derived.Test.YtjcpopjafedmpaaGreatM04
set_option linter.unusedSimpArgs false
set_option linter.unusedVariables false
open Nat renaming reduceEqDiff → yA, reduceAdd → yB, reduceSub → yC, reduceMul → yD, reduceLeDiff → yE, reduceLT → yF, reduceBEq → yG
open Bool renaming false_eq_true → yH
open Int renaming reduceEq → yI
open List renaming length_map → yJ, getElem?_map → yK, getElem?_eq_getElem → yL
open List.cons renaming injEq → yM
namespace Go.Mini
open Go
set_option maxRecDepth 10000
set_option maxHeartbeats 4000000
theorem okF_enc {x:Rat} (h:limR x):okF (encR x):=⟨len_ok h.1,len_ok (limD h)⟩
theorem okF_zero:okF zeroF:=⟨by simp [zeroF],by simp [zeroF]⟩
theorem okF_new (p q:Raw):okF (newR p q).1:=by
 unfold newR
 split
 ·rename_i h
  rw[Bool.and_eq_true] at h
  obtain⟨x,hx,e1⟩:=(rightR_iff _).1 h.1
  obtain⟨y,hy,e2⟩:=(rightR_iff _).1 h.2
  split
  ·exact okF_zero
  ·rw[e1,e2,valB_enc,valB_enc]
   exact okF_enc (divInt_lim hx hy)
 ·exact okF_zero
theorem okF_quot (p q:Raw × Int):okF (quotR p q).1:=by
 unfold quotR
 split
 ·split
  ·exact okF_new _ _
  ·exact okF_zero
 ·exact okF_zero
theorem okF_add (a b:FRaw):okF (addF a b).1:=by
 unfold addF
 split
 ·split
  ·exact okF_quot _ _
  ·exact okF_zero
 ·exact okF_zero
theorem okF_sub (a b:FRaw):okF (subF a b).1:=by
 unfold subF
 split
 ·split
  ·exact okF_add _ _
  ·exact okF_zero
 ·exact okF_zero
theorem okF_mul (a b:FRaw):okF (mulF a b).1:=by
 unfold mulF
 split
 ·split
  ·exact okF_quot _ _
  ·exact okF_zero
 ·exact okF_zero
theorem okF_div (a b:FRaw):okF (divF a b).1:=by
 unfold divF
 split
 ·split
  ·split
   ·exact okF_zero
   ·exact okF_quot _ _
  ·exact okF_zero
 ·exact okF_zero
theorem cell_get {x:MR} {c:Nat} {f:FRaw} (h:x.2.2[c]?=some f):cellOf x c=f:=by
 unfold cellOf
 rw[List.getD_eq_getElem?_getD,h]
 rfl
theorem row_at {rows:List MR} {i:Nat} {x:MR} (h:rows[i]?=some x):rowAt rows i=x:=by
 unfold rowAt
 rw[List.getD_eq_getElem?_getD,h]
 rfl
theorem lenF {l:List FRaw} {k:Nat} (h:k<l.length):(k*4+4≤(rowE fracL l).length)=True:=eq_true (by rw[rowE_len fracL_len];omega)
theorem getF {l:List FRaw} {k:Nat} {a b c d} (h:l[k]?=some ((a,b),(c,d))):List.take 4 (List.drop (k*4) (rowE fracL l))=[.dat (.int .i64 a),.dat (.sl (b.map i64L)),.dat (.int .i64 c),.dat (.sl (d.map i64L))]:=by
 have:=cutF h
 unfold cut at this
 rw[if_pos (by rw[rowE_len fracL_len];have:=(List.getElem?_eq_some_iff.1 h).1;omega)] at this
 exact Option.some.inj this
theorem setF {l:List FRaw} {k:Nat} (h:k<l.length) (a:Int) (b:List Int) (c:Int) (d:List Int) :
  List.take (k*4) (rowE fracL l)++[MV.dat (.int .i64 a),.dat (.sl (b.map i64L)),.dat (.int .i64 c),.dat (.sl (d.map i64L))]++List.drop (k*4+4) (rowE fracL l)=rowE fracL (l.set k ((a,b),(c,d))):=by
 rw[←rowE_set fracL_len h]
 rfl
theorem lenR {N:Nat} {rows:List MR} {i:Nat} (h:i<rows.length):(i+1≤(refsOf N rows).length)=True:=eq_true (by unfold refsOf;rw[yJ];omega)
theorem getR {N:Nat} {rows:List MR} {i:Nat} {x:MR} (h:rows[i]?=some x):List.take 1 (List.drop i (refsOf N rows))=[.ref (x.1+900000) x.2.1 4 0 (N+1)]:=by
 have:=cutR (N:=N) h
 unfold cut at this
 rw[if_pos (by unfold refsOf;rw[yJ];have:=(List.getElem?_eq_some_iff.1 h).1;omega)] at this
 exact Option.some.inj this
theorem setR {N:Nat} {rows:List MR} {i:Nat} (h:i<rows.length) (b:MR):List.take i (refsOf N rows)++[MV.ref (b.1+900000) b.2.1 4 0 (N+1)]++List.drop (i+1) (refsOf N rows)=refsOf N (rows.set i b):=by
 unfold refsOf
 rw[List.map_set,List.set_eq_take_append_cons_drop,if_pos (by rw[yJ];exact h),List.append_assoc]
 rfl
theorem elimGo_length (fac:FRaw):∀ (l p:List FRaw) (b:Bool),(elimGo fac l p b).1.length=l.length
 | [],_,_=>by simp [elimGo]
 | f::fs,[],b=>by cases b<;>simp [elimGo]
 | f::fs,p::ps,true=>by simp [elimGo]
 | f::fs,p::ps,false=>by simp [elimGo,elimGo_length fac fs ps]
theorem elimGo_bad (fac:FRaw) (l p:List FRaw):elimGo fac l p true=(l,true):=by
 cases l<;>cases p<;>simp [elimGo]
theorem elimGo_nil (fac:FRaw) (p:List FRaw) (b:Bool):elimGo fac [] p b=([],b):=by
 cases b<;>simp [elimGo]
theorem note_list (a b:MV) (c d:Data):[a,b,MV.dat c].set 2 (MV.dat d)=[a,b,MV.dat d]:=rfl
theorem take_map_set {α:Type} (f:α→α) {l:List α} {k:Nat} {x:α} (h:l[k]?=some x):((l.take k).map f++l.drop k).set k (f x)=(l.take (k+1)).map f++l.drop (k+1):=by
 obtain⟨hlt,hx⟩:=List.getElem?_eq_some_iff.1 h
 have hl:((l.take k).map f).length=k:=by rw[yJ,List.length_take];omega
 rw[List.set_append_right _ _ (by omega),hl,Nat.sub_self,List.drop_eq_getElem_cons hlt,List.set_cons_zero,List.take_add_one,h,List.map_append,List.append_assoc]
 rfl
theorem take_drop_get {α:Type} (f:α→α) {l:List α} {k:Nat}:((l.take k).map f++l.drop k)[k]?=l[k]?:=by
 rcases Nat.lt_or_ge k l.length with h | h
 ·have hl:((l.take k).map f).length=k:=by rw[yJ,List.length_take];omega
  rw[List.getElem?_append_right (by omega),hl,Nat.sub_self,List.getElem?_drop,Nat.add_zero]
 ·rw[List.getElem?_eq_none h,List.getElem?_eq_none (by rw[List.length_append,yJ,List.length_take,List.length_drop];omega)]
theorem swap_get {α:Type} {rows:List α} {r i:Nat} {x xr:α} (hx:rows[i]?=some x) (hxr:rows[r]?=some xr):((rows.set r x).set i xr)[r]?=some x:=by
 have h1:=(List.getElem?_eq_some_iff.1 hx).1
 have h2:=(List.getElem?_eq_some_iff.1 hxr).1
 rw[List.getElem?_set,List.getElem?_set,List.length_set]
 by_cases h:i=r
 ·subst h
  rw[hx] at hxr
  cases hxr
  rw[if_pos rfl,if_pos h1]
 ·rw[if_neg h,if_pos rfl,if_pos h2]
theorem set_self {α:Type} {l:List α} {i:Nat} {x:α} (h:l[i]?=some x):l.set i x=l:=by
 obtain⟨hlt,hx⟩:=List.getElem?_eq_some_iff.1 h
 apply List.ext_getElem?
 intro j
 rw[List.getElem?_set]
 by_cases hij:i=j
 ·subst hij
  rw[if_pos rfl,if_pos hlt,h]
 ·rw[if_neg hij]
theorem chkA (a b:Nat):(!(a+900000==129015)||decide (2<b*4))=true:=by
 have:(a+900000==129015)=false:=by simp
 rw[this];rfl
theorem foreign_note4:foreign 168004:=by unfold foreign;omega
theorem foreign_note6:foreign 168006:=by unfold foreign;omega
/-- A part of a piece of code. -/
def MCode.sub:MCode→List Nat→MCode
 | .seq a _,0::p=>a.sub p
 | .seq _ b,_::p=>b.sub p
 | .cond _ a _,0::p=>a.sub p
 | .cond _ _ b,_::p=>b.sub p
 | .block _ c,_::p=>c.sub p
 | .ghost _ c,_::p=>c.sub p
 | .loop c,_::p=>c.sub p
 | c,_=>c
def fracM (f:FRaw):List MV:=[.dat (.int .i64 f.1.1),.dat (.sl (f.1.2.map i64L)),.dat (.int .i64 f.2.1),.dat (.sl (f.2.2.map i64L))]
end Go.Mini
namespace Go.Mini
open Go
set_option maxRecDepth 10000
set_option maxHeartbeats 4000000
theorem piv_L3 (T:Tab) (h_note:T id_linear_matrix_note=mkU U_note) (h_fSub:T id_frac_Sub=mkE F_fSub) (h_fMul:T id_frac_Mul=mkE F_fMul) {K:MExit→St→Prop} {kk:List Todo}
  (go N r c i2:Nat) (mem:Mem) (hn4:mem 168004=none) (hn6:mem 168006=none) (hN:N≤40) (R2:List MR) (hok2:MatOK N R2) (x y:MR) (prow:List FRaw) (hyr:R2[i2]?=some y) (hr2:R2[r]?=some (x.1,x.2.1,prow)) (hirn:i2≠r) (hrN:r<N) (bd:Bool)
  (g1:Int) (g2:List Int) (g3:Int) (g4:List Int) (hgl:okF ((g1,g2),(g3,g4))) (tm:Nat→MV) (m:Mem) (G:Nat)
  (e0:tm 0 = .ptr 129015 0 0) (e1:tm 1 = .dat (.int .i64 r)) (e2:tm 2 = .dat (.int .i64 c)) (e12:tm 12 = .ref (y.1+900000) y.2.1 4 0 (N+1)) (e13:tm 13 = .ptr 148013 G 0) (e112:tm 112 = .ref 129035 go 1 0 N) (e113:tm 113 = .dat (.int .i64 N)) (e114:tm 114 = .dat (.int .i64 i2)) (e14:tm 14 = .dat (.int .i64 0))
  (em:m 148013=some (G,[.dat (.int .i64 g1),.dat (.sl (g2.map i64L)),.dat (.int .i64 g3),.dat (.sl (g4.map i64L))])) (hps:PS mem go N R2 bd m)
  (hK:∀ tm' m' l b,tm' 0 = .ptr 129015 0 0→tm' 1 = .dat (.int .i64 r)→tm' 2 = .dat (.int .i64 c)→tm' 112 = .ref 129035 go 1 0 N→tm' 113 = .dat (.int .i64 N)→tm' 114 = .dat (.int .i64 i2)→(l,b)=elimGo ((g1,g2),(g3,g4)) y.2.2 prow bd→MatOK N (R2.set i2 (y.1,y.2.1,l))→PS mem go N (R2.set i2 (y.1,y.2.1,l)) b m'→kont T K kk (.exit 6) ⟨tm',m'⟩) :
  wp T (mf_linear_matrix_pivot.body.sub [1,1,1,1,1,1,1,0,1,0,0,1,1,0,0,1,1,1,1,0]) (kont T K kk) ⟨tm,m⟩:=by
 simp only[mf_linear_matrix_pivot,MCode.sub]
 have hi2N:i2<N:=by rw[←hok2.len];exact (List.getElem?_eq_some_iff.1 hyr).1
 obtain⟨hyl,hyo⟩:=hok2.row y (List.mem_of_getElem? hyr)
 have hsety:R2.set i2 (y.1,y.2.1,[]++y.2.2.drop 0)=R2:=set_self hyr
 refine wp_loop_keep [0,1,2,12,13,112,113,114] [148013] (fun ((k,pre,b):Nat × List FRaw × Bool) tm m=>k≤N+1∧pre.length=k∧(∀ f∈pre,okF f)∧elimGo ((g1,g2),(g3,g4)) y.2.2 prow bd=(pre++(elimGo ((g1,g2),(g3,g4)) (y.2.2.drop k) (prow.drop k) b).1,(elimGo ((g1,g2),(g3,g4)) (y.2.2.drop k) (prow.drop k) b).2)∧tm 14 = .dat (.int .i64 k)∧PS mem go N (R2.set i2 (y.1,y.2.1,pre++y.2.2.drop k)) b m) (fun (k,_,_)=>N+1-k) (0,[],bd) (by
  refine⟨Nat.zero_le _,rfl,(by simp),rfl,e14,?_⟩
  rw[hsety]
  exact hps) ?_
 intro vs ms hvs hms
 simp only[go_sem,reduceIte,yA,yB,yC,yD,yE,yH,reduceCtorEq,yF,yG,yI,e0,e1,e2,e12,e13,e112,e113,e114,em] at hvs hms
 subst hvs hms
 clear e0 e1 e2 e12 e13 e112 e113 e114 em e14 hps tm m
 rintro⟨k3,pre,b⟩ tm m3 hk hm ⟨hk3,hpre,hpo,he3,h14,hps3⟩
 simp only[go_sem,reduceIte,yA,yB,yC,yD,yE,yH,reduceCtorEq,yF,yG,yI,yM] at hk hm
 obtain⟨h0,h1,h2,h12,h13,h112,h113,h114⟩:=hk
 have hcl3:(pre++y.2.2.drop k3).length=N+1:=by rw[List.length_append,List.length_drop];omega
 have hok3:MatOK N (R2.set i2 (y.1,y.2.1,pre++y.2.2.drop k3)):=hok2.set hyr hcl3 fun f hf=>by
  rw[List.mem_append] at hf
  rcases hf with hf | hf
  ·exact hpo f hf
  ·exact hyo f (List.mem_of_mem_drop hf)
 have hy3:(R2.set i2 (y.1,y.2.1,pre++y.2.2.drop k3))[i2]?=some (y.1,y.2.1,pre++y.2.2.drop k3):=by
  rw[List.getElem?_set,if_pos rfl,if_pos (by rw[hok2.len];exact hi2N)]
 have hr3:(R2.set i2 (y.1,y.2.1,pre++y.2.2.drop k3))[r]?=some (x.1,x.2.1,prow):=by
  rw[List.getElem?_set,if_neg hirn];exact hr2
 have hm15':=hps3.1.m
 have hm35':=hps3.1.o
 rcases Decidable.em (k3<N+1) with hk3lt | hk3ge
 ·have hkl:decide ((k3:Int)<((N+1:Nat):Int))=true:=decide_eq_true (by omega)
  cases b
  ·obtain⟨⟨⟨a1,a2⟩,⟨a3,a4⟩⟩,hfk⟩:∃ f,y.2.2[k3]?=some f:=⟨_,yL (by omega)⟩
   have hprl:prow.length=N+1:=(hok2.row _ (List.mem_of_getElem? hr2)).1
   obtain⟨⟨⟨p1,p2⟩,⟨p3,p4⟩⟩,hpk⟩:∃ f,prow[k3]?=some f:=⟨_,yL (by omega)⟩
   have hfo:=hyo _ (List.mem_of_getElem? hfk)
   have hpo':=(hok2.row _ (List.mem_of_getElem? hr2)).2 _ (List.mem_of_getElem? hpk)
   have hcg:(pre++y.2.2.drop k3)[k3]?=some ((a1,a2),(a3,a4)):=by
    rw[List.getElem?_append_right (by omega),hpre,Nat.sub_self,List.getElem?_drop,Nat.add_zero,hfk]
   have hd1:y.2.2.drop k3=((a1,a2),(a3,a4))::y.2.2.drop (k3+1):=by
    obtain⟨hl,e⟩:=List.getElem?_eq_some_iff.1 hfk
    rw[List.drop_eq_getElem_cons hl,e]
   have hd2:prow.drop k3=((p1,p2),(p3,p4))::prow.drop (k3+1):=by
    obtain⟨hl,e⟩:=List.getElem?_eq_some_iff.1 hpk
    rw[List.drop_eq_getElem_cons hl,e]
   have hnew:∀ s:FRaw,(pre++y.2.2.drop k3).set k3 s=(pre++[s])++y.2.2.drop (k3+1):=fun s=>by
    rw[List.set_append_right _ _ (by omega),hpre,Nat.sub_self,hd1,List.set_cons_zero,List.append_assoc];rfl
   have hym3:=hps3.1.r _ (List.mem_of_getElem? hy3)
   have hxm3:=hps3.1.r _ (List.mem_of_getElem? hr3)
   have q4:m3 168004=none:=(hps3.2 _ foreign_note4).trans hn4
   have q6:m3 168006=none:=(hps3.2 _ foreign_note6).trans hn6
   have t1:=getR (N:=N) hr3
   have t2:=lenR (N:=N) (rows:=R2.set i2 (y.1,y.2.1,pre++y.2.2.drop k3)) (i:=r) (by rw[hok3.len];exact hrN)
   have t3:=getF hcg
   have t4:=lenF (l:=pre++y.2.2.drop k3) (k:=k3) (by omega)
   have t5:=getF hpk
   have t6:=lenF (l:=prow) (k:=k3) (by omega)
   have hw3:IntKind.i64.wrap ((k3:Int)+1)=((k3+1:Nat):Int):=by rw[wrap64 _ (by omega) (by omega)];omega
   have hmo:=okF_mul ((g1,g2),(g3,g4)) ((p1,p2),(p3,p4))
   have hso:=okF_sub ((a1,a2),(a3,a4)) (mulF ((g1,g2),(g3,g4)) ((p1,p2),(p3,p4))).1
   have he4:=he3
   rw[hd1,hd2] at he4
   simp only[elimGo] at he4
   generalize hM:mulF ((g1,g2),(g3,g4)) ((p1,p2),(p3,p4))=M at *
   obtain⟨⟨⟨u1,u2⟩,⟨u3,u4⟩⟩,e1⟩:=M
   dsimp only at hso he4 hmo
   generalize hS:subF ((a1,a2),(a3,a4)) ((u1,u2),(u3,u4))=S at *
   obtain⟨⟨⟨v1,v2⟩,⟨v3,v4⟩⟩,e2⟩:=S
   dsimp only at hso he4
   have t7:=setF (l:=pre++y.2.2.drop k3) (k:=k3) (by omega) v1 v2 v3 v4
   simp only[go_sem,reduceIte,yA,yB,yC,yD,yE,yH,reduceCtorEq,yF,yG,yI,h_note,h_fMul,h_fSub,h0,h1,h2,h12,h13,h14,h112,h113,h114,hm,hm15',hm35',hym3,hxm3,q4,q6,t1,t2,t3,t4,t5,t6,t7,hkl,hk3lt,hrN,hw3,hM,hS,hfo.1,hfo.2,hpo'.1,hpo'.2,hgl.1,hgl.2,hmo.1,hmo.2,fracM,fracE,fracL,Nat.mul_one,U_note,List.set_cons_succ,List.set_cons_zero,decide_true,decide_false,yE,ne_eq,not_false_eq_true,and_self]
   repeat' (first|refine qqA ?_ ?_|refine qqB ?_ ?_|refine qqC ?_ ?_|refine qqD ?_ ?_|refine qqE ?_ ?_|refine qqF ?_ ?_)<;>intro h<;>simp only[h,go_sem,reduceIte,yA,yB,yC,yD,yE,yH,reduceCtorEq,yF,yG,yI,h_note,h_fMul,h_fSub,h0,h1,h2,h12,h13,h14,h112,h113,h114,hm,hm15',hm35',hym3,hxm3,q4,q6,t1,t2,t3,t4,t5,t6,t7,hkl,hk3lt,hrN,hw3,hM,hS,hfo.1,hfo.2,hpo'.1,hpo'.2,hgl.1,hgl.2,hmo.1,hmo.2,fracM,fracE,fracL,Nat.mul_one,U_note,List.set_cons_succ,List.set_cons_zero,decide_true,decide_false,yE,ne_eq,not_false_eq_true,and_self]
   have e5:=PS.set hok3 hy3 ((pre++y.2.2.drop k3).set k3 ((v1,v2),(v3,v4))) ((hps3.flag (e1 != 0)).flag (e1 != 0||e2 != 0))
   rw[List.set_set,hnew] at e5
   refine⟨chkA _ _,(k3+1,pre++[((v1,v2),(v3,v4))],(e1 != 0||e2 != 0)),by dsimp only;omega,by dsimp only;omega,by simp [hpre],?_,?_,rfl,?_⟩
   ·intro f hf
    rw[List.mem_append,List.mem_singleton] at hf
    rcases hf with hf | rfl
    ·exact hpo f hf
    ·exact hso
   ·rw[he4]
    dsimp only
    rw[List.append_assoc]
    rfl
   ·dsimp only
    rw[hnew]
    exact e5
  ·rw[elimGo_bad] at he3
   simp only[go_sem,reduceIte,yA,yB,yC,yD,yE,yH,reduceCtorEq,yF,yG,yI,h0,h1,h2,h12,h13,h14,h112,h113,h114,hm15',hm35',hkl]
   repeat' (first|refine qqA ?_ ?_|refine qqB ?_ ?_|refine qqC ?_ ?_|refine qqD ?_ ?_|refine qqE ?_ ?_|refine qqF ?_ ?_)<;>intro h<;>simp only[h,go_sem,reduceIte,yA,yB,yC,yD,yE,yH,reduceCtorEq,yF,yG,yI,h0,h1,h2,h12,h13,h14,h112,h113,h114,hm15',hm35',hkl]
   refine hK _ _ (pre++y.2.2.drop k3) true ?_ ?_ ?_ ?_ ?_ ?_ he3.symm hok3 hps3<;>simp only[upd_get,yA,if_false,h0,h1,h2,h112,h113,h114]
 ·have hkl:decide ((k3:Int)<((N+1:Nat):Int))=false:=decide_eq_false (by omega)
  have hnl:y.2.2.drop k3=[]:=List.drop_eq_nil_of_le (by omega)
  rw[hnl,elimGo_nil,←hnl] at he3
  simp only[go_sem,reduceIte,yA,yB,yC,yD,yE,yH,reduceCtorEq,yF,yG,yI,h0,h1,h2,h12,h13,h14,h112,h113,h114,hm15',hm35',hkl]
  repeat' (first|refine qqA ?_ ?_|refine qqB ?_ ?_|refine qqC ?_ ?_|refine qqD ?_ ?_|refine qqE ?_ ?_|refine qqF ?_ ?_)<;>intro h<;>simp only[h,go_sem,reduceIte,yA,yB,yC,yD,yE,yH,reduceCtorEq,yF,yG,yI,h0,h1,h2,h12,h13,h14,h112,h113,h114,hm15',hm35',hkl]
  refine hK _ _ (pre++y.2.2.drop k3) b ?_ ?_ ?_ ?_ ?_ ?_ he3.symm hok3 hps3<;>simp only[upd_get,yA,if_false,h0,h1,h2,h112,h113,h114]
end Go.Mini
namespace Go.Mini
open Go
set_option maxRecDepth 10000
set_option maxHeartbeats 4000000
theorem piv_L2 (T:Tab) (h_zero:T id_linear_zero=mkE F_zero) (h_note:T id_linear_matrix_note=mkU U_note) (h_fSub:T id_frac_Sub=mkE F_fSub) (h_fMul:T id_frac_Mul=mkE F_fMul) {K:MExit→St→Prop} {kk:List Todo}
  (go N r c:Nat) (mem:Mem) (hn4:mem 168004=none) (hn6:mem 168006=none) (hN:N≤40) (hrN:r<N) (hcN':c<N+1) (dv:List MR) (hcok:MatOK N dv) (x:MR) (prow:List FRaw) (hcr:dv[r]?=some (x.1,x.2.1,prow)) (bd0:Bool) (tm:Nat→MV) (m:Mem)
  (e0:tm 0 = .ptr 129015 0 0) (e1:tm 1 = .dat (.int .i64 r)) (e2:tm 2 = .dat (.int .i64 c)) (e112:tm 112 = .ref 129035 go 1 0 N) (e113:tm 113 = .dat (.int .i64 N)) (e114:tm 114 = .dat (.int .i64 0)) (hps:PS mem go N dv bd0 m)
  (hK:∀ tm' m',PS mem go N (elimRows prow r c 0 dv bd0).1 (elimRows prow r c 0 dv bd0).2 m'→kont T K kk (.exit 4) ⟨tm',m'⟩) :
  wp T (mf_linear_matrix_pivot.body.sub [1,1,1,1,1,1,1,0,1,0]) (kont T K kk) ⟨tm,m⟩:=by
 simp only[mf_linear_matrix_pivot,MCode.sub]
 refine wp_loop_keep [0,1,2,112,113] [] (fun ((i2,dn,bd):Nat × List MR × Bool) tm m=>i2≤N∧dn.length=i2∧elimRows prow r c 0 dv bd0=(dn++(elimRows prow r c i2 (dv.drop i2) bd).1,(elimRows prow r c i2 (dv.drop i2) bd).2)∧MatOK N (dn++dv.drop i2)∧(dn++dv.drop i2)[r]?=some (x.1,x.2.1,prow)∧tm 114 = .dat (.int .i64 i2)∧PS mem go N (dn++dv.drop i2) bd m) (fun (i2,_,_)=>N-i2) (0,[],bd0) (by
  exact⟨Nat.zero_le _,rfl,rfl,hcok,hcr,e114,hps⟩) ?_
 intro vs ms hvs hms
 simp only[go_sem,reduceIte,yA,yB,yC,yD,yE,yH,reduceCtorEq,yF,yG,yI,e0,e1,e2,e112,e113] at hvs hms
 subst hvs hms
 clear e0 e1 e2 e112 e113 e114 hps tm m
 rintro⟨i2,dn,bd⟩ tm m2 hk hm ⟨hi2,hdn,hel,hok2,hr2,h114,hps2⟩
 simp only[go_sem,reduceIte,yA,yB,yC,yD,yE,yH,reduceCtorEq,yF,yG,yI,yM] at hk hm
 obtain⟨h0,h1,h2,h112,h113⟩:=hk
 have hm15':=hps2.1.m
 have hm35':=hps2.1.o
 have hdvl:dv.length=N:=hcok.len
 rcases Decidable.em (i2<N) with hilt | hige
 ·obtain⟨y,hy⟩:∃ y,dv[i2]?=some y:=⟨_,yL (by omega)⟩
  have hdrop:dv.drop i2=y::dv.drop (i2+1):=by
   obtain⟨hl,rfl⟩:=List.getElem?_eq_some_iff.1 hy
   exact List.drop_eq_getElem_cons hl
  have hyr:(dn++dv.drop i2)[i2]?=some y:=by
   rw[List.getElem?_append_right (by omega),hdn,Nat.sub_self,List.getElem?_drop,Nat.add_zero,hy]
  obtain⟨hyl,hyo⟩:=hok2.row y (List.mem_of_getElem? hyr)
  have hym:=hps2.1.r y (List.mem_of_getElem? hyr)
  obtain⟨⟨⟨g1,g2⟩,⟨g3,g4⟩⟩,hg⟩:∃ f,y.2.2[c]?=some f:=⟨_,yL (by omega)⟩
  have hgc:=cell_get hg
  have t1:=getR (N:=N) hyr
  have t2:=lenR (N:=N) (rows:=dn++dv.drop i2) (i:=i2) (by rw[hok2.len];exact hilt)
  have t3:=getF hg
  have t4:=lenF (l:=y.2.2) (k:=c) (by omega)
  have hil:decide ((i2:Int)<(N:Int))=true:=decide_eq_true (by omega)
  have hw:IntKind.i64.wrap ((i2:Int)+1)=((i2+1:Nat):Int):=by rw[wrap64 _ (by omega) (by omega)];omega
  have happ:∀ z:MR,(dn++[z])++dv.drop (i2+1)=(dn++dv.drop i2).set i2 z:=fun z=>by
   rw[List.set_append_right _ _ (by omega),hdn,Nat.sub_self,hdrop,List.set_cons_zero,List.append_assoc];rfl
  have hself:(dn++[y])++dv.drop (i2+1)=dn++dv.drop i2:=by rw[happ];exact set_self hyr
  have hskip:∀ b:Bool,(b=true→i2=r∨(g1==0)=true)→b=true→elimRows prow r c 0 dv bd0=((dn++[y])++(elimRows prow r c (i2+1) (dv.drop (i2+1)) bd).1,(elimRows prow r c (i2+1) (dv.drop (i2+1)) bd).2):=by
   intro b hb hbt
   have hcond:(i2==r||zeroQ (cellOf y c))=true:=by
    rcases hb hbt with h | h
    ·rw[h,beq_self_eq_true];rfl
    ·rw[hgc]
     have:zeroQ ((g1,g2),(g3,g4))=true:=h
     rw[this,Bool.or_true]
   rw[hel,hdrop]
   simp only[elimRows]
   rw[if_pos hcond,List.append_assoc]
   rfl
  rcases hir:((i2:Int)==(r:Int))
  ·have hirn:i2≠r:=by intro h;rw[h] at hir;simp at hir
   rcases hgz:(g1==0)
   ·have hgl:okF ((g1,g2),(g3,g4)):=hyo _ (List.mem_of_getElem? hg)
    simp only[go_sem,reduceIte,yA,yB,yC,yD,yE,yH,reduceCtorEq,yF,yG,yI,h_zero,h0,h1,h2,h112,h113,h114,hm15',hm35',hym,t1,t2,t3,t4,hilt,hil,hcN',hir,hgz,Nat.mul_one]
    refine piv_L3 T h_note h_fSub h_fMul go N r c i2 mem hn4 hn6 hN (dn++dv.drop i2) hok2 x y prow hyr hr2 hirn hrN bd g1 g2 g3 g4 hgl _ _ (nextO (m2 148013)) ?_ ?_ ?_ ?_ ?_ ?_ ?_ ?_ ?_ ?_ ((hps2.own (.inr (.inr rfl))).own (.inr (.inr rfl))) ?_
    ·exact h0
    ·exact h1
    ·exact h2
    ·rfl
    ·rfl
    ·exact h112
    ·exact h113
    ·exact h114
    ·rfl
    ·simp [updM]
    ·intro tm' m' l b k0 k1 k2 k112 k113 k114 hlb hok3 hps3
     simp only[go_sem,reduceIte,yA,yB,yC,yD,yE,yH,reduceCtorEq,yF,yG,yI,h0,h1,h2,k0,k1,k2,k112,k113,k114,hw]
     repeat' (first|refine qqA ?_ ?_|refine qqB ?_ ?_|refine qqC ?_ ?_|refine qqD ?_ ?_|refine qqE ?_ ?_|refine qqF ?_ ?_)<;>intro h<;>simp only[h,go_sem,reduceIte,yA,yB,yC,yD,yE,yH,reduceCtorEq,yF,yG,yI,h0,h1,h2,k0,k1,k2,k112,k113,k114,hw]
     refine⟨(i2+1,dn++[(y.1,y.2.1,l)],b),by dsimp only;omega,by dsimp only;omega,by simp [hdn],?_,by dsimp only;rw[happ];exact hok3,by dsimp only;rw[happ,List.getElem?_set,if_neg hirn];exact hr2,rfl,?_⟩
     ·have hcond:¬ (i2==r||zeroQ (cellOf y c))=true:=by
       rw[hgc]
       have h1:zeroQ ((g1,g2),(g3,g4))=false:=hgz
       have h2:(i2==r)=false:=by simpa using hirn
       rw[h1,h2];simp
      rw[hel,hdrop]
      simp only[elimRows]
      rw[if_neg hcond,hgc,←hlb,List.append_assoc]
      rfl
     ·dsimp only
      rw[happ]
      exact hps3
   ·simp only[go_sem,reduceIte,yA,yB,yC,yD,yE,yH,reduceCtorEq,yF,yG,yI,h_zero,h0,h1,h2,h112,h113,h114,hm15',hm35',hym,t1,t2,t3,t4,hilt,hil,hcN',hw,hir,hgz,Nat.mul_one]
    repeat' (first|refine qqA ?_ ?_|refine qqB ?_ ?_|refine qqC ?_ ?_|refine qqD ?_ ?_|refine qqE ?_ ?_|refine qqF ?_ ?_)<;>intro h<;>simp only[h,go_sem,reduceIte,yA,yB,yC,yD,yE,yH,reduceCtorEq,yF,yG,yI,h_zero,h0,h1,h2,h112,h113,h114,hm15',hm35',hym,t1,t2,t3,t4,hilt,hil,hcN',hw,hir,hgz,Nat.mul_one]
    refine⟨(i2+1,dn++[y],bd),by dsimp only;omega,by dsimp only;omega,by simp [hdn],hskip true (fun _ => .inr hgz) rfl,by dsimp only;rw[hself];exact hok2,by dsimp only;rw[hself];exact hr2,rfl,?_⟩
    dsimp only
    rw[hself]
    exact (hps2.own (.inr (.inr rfl))).own (.inr (.inr rfl))
  ·have hirn:i2=r:=by have h:=beq_iff_eq.1 hir;omega
   simp only[go_sem,reduceIte,yA,yB,yC,yD,yE,yH,reduceCtorEq,yF,yG,yI,h_zero,h0,h1,h2,h112,h113,h114,hm15',hm35',hym,t1,t2,t3,t4,hilt,hil,hcN',hw,hir,Nat.mul_one]
   repeat' (first|refine qqA ?_ ?_|refine qqB ?_ ?_|refine qqC ?_ ?_|refine qqD ?_ ?_|refine qqE ?_ ?_|refine qqF ?_ ?_)<;>intro h<;>simp only[h,go_sem,reduceIte,yA,yB,yC,yD,yE,yH,reduceCtorEq,yF,yG,yI,h_zero,h0,h1,h2,h112,h113,h114,hm15',hm35',hym,t1,t2,t3,t4,hilt,hil,hcN',hw,hir,Nat.mul_one]
   refine⟨(i2+1,dn++[y],bd),by dsimp only;omega,by dsimp only;omega,by simp [hdn],hskip true (fun _ => .inl hirn) rfl,by dsimp only;rw[hself];exact hok2,by dsimp only;rw[hself];exact hr2,rfl,?_⟩
   dsimp only
   rw[hself]
   exact (hps2.own (.inr (.inr rfl))).own (.inr (.inr rfl))
 ·have hin:i2=N:=by omega
  have hil:decide ((i2:Int)<(N:Int))=false:=decide_eq_false (by omega)
  have hnil:dv.drop i2=[]:=List.drop_eq_nil_of_le (by omega)
  rw[hnil] at hel hps2
  simp only[elimRows,List.append_nil] at hel hps2
  rw[hel] at hK
  simp only[go_sem,reduceIte,yA,yB,yC,yD,yE,yH,reduceCtorEq,yF,yG,yI,h0,h1,h2,h112,h113,h114,hm15',hm35',hil]
  repeat' (first|refine qqA ?_ ?_|refine qqB ?_ ?_|refine qqC ?_ ?_|refine qqD ?_ ?_|refine qqE ?_ ?_|refine qqF ?_ ?_)<;>intro h<;>simp only[h,go_sem,reduceIte,yA,yB,yC,yD,yE,yH,reduceCtorEq,yF,yG,yI,h0,h1,h2,h112,h113,h114,hm15',hm35',hil]
  exact hK _ _ hps2
end Go.Mini
namespace Go.Mini
open Go
set_option maxRecDepth 10000
set_option maxHeartbeats 4000000
theorem piv_L1 (T:Tab) (h_note:T id_linear_matrix_note=mkU U_note) (h_fDiv:T id_frac_Div=mkE F_fDiv) {K:MExit→St→Prop} {kk:List Todo}
  (go N r c:Nat) (mem:Mem) (hn4:mem 168004=none) (hn6:mem 168006=none) (hN:N≤40) (hrN:r<N) (sw:List MR) (hoks:MatOK N sw) (x:MR) (hswr:sw[r]?=some x) (f1:Int) (f2:List Int) (f3:Int) (f4:List Int) (hfl:okF ((f1,f2),(f3,f4))) (tm:Nat→MV) (m:Mem) (G:Nat)
  (e0:tm 0 = .ptr 129015 0 0) (e1:tm 1 = .dat (.int .i64 r)) (e2:tm 2 = .dat (.int .i64 c)) (e8:tm 8 = .ptr 148008 G 0) (e85:tm 85 = .ref (x.1+900000) x.2.1 4 0 (N+1)) (e86:tm 86 = .dat (.int .i64 ((N+1:Nat):Int))) (e87:tm 87 = .dat (.int .i64 0))
  (em:m 148008=some (G,[.dat (.int .i64 f1),.dat (.sl (f2.map i64L)),.dat (.int .i64 f3),.dat (.sl (f4.map i64L))])) (hps:PS mem go N sw false m)
  (hK:∀ tm' m',tm' 0 = .ptr 129015 0 0→tm' 1 = .dat (.int .i64 r)→tm' 2 = .dat (.int .i64 c)→MatOK N (sw.set r (x.1,x.2.1,(divRow ((f1,f2),(f3,f4)) x.2.2).1))→PS mem go N (sw.set r (x.1,x.2.1,(divRow ((f1,f2),(f3,f4)) x.2.2).1)) (divRow ((f1,f2),(f3,f4)) x.2.2).2 m'→kont T K kk (.exit 2) ⟨tm',m'⟩) :
  wp T (mf_linear_matrix_pivot.body.sub [1,1,1,1,1,1,0,1,0]) (kont T K kk) ⟨tm,m⟩:=by
 simp only[mf_linear_matrix_pivot,MCode.sub]
 obtain⟨hxl,hxo⟩:=hoks.row x (List.mem_of_getElem? hswr)
 have hset0:∀ l:List FRaw,(sw.set r (x.1,x.2.1,l))[r]?=some (x.1,x.2.1,l):=fun l=>by
  rw[List.getElem?_set,if_pos rfl,if_pos (by rw[hoks.len];exact hrN)]
 refine wp_loop_keep [0,1,2,8,85,86] [148008] (fun (k:Nat) tm m=>k≤N+1∧tm 87 = .dat (.int .i64 k)∧PS mem go N (sw.set r (x.1,x.2.1,(x.2.2.take k).map (fun f=>(divF f ((f1,f2),(f3,f4))).1)++x.2.2.drop k)) ((x.2.2.take k).any fun f=>(divF f ((f1,f2),(f3,f4))).2 != 0) m) (fun k=>N+1-k) 0 (by
  refine⟨Nat.zero_le _,e87,?_⟩
  have e:sw.set r (x.1,x.2.1,(x.2.2.take 0).map (fun f=>(divF f ((f1,f2),(f3,f4))).1)++x.2.2.drop 0)=sw:=set_self hswr
  rw[e]
  exact hps) ?_
 intro vs ms hvs hms
 simp only[go_sem,reduceIte,yA,yB,yC,yD,yE,yH,reduceCtorEq,yF,yG,yI,e0,e1,e2,e8,e85,e86,em] at hvs hms
 subst hvs hms
 clear e0 e1 e2 e8 e85 e86 e87 em hps tm m
 rintro k tm m hk hm ⟨hkN,h87,hps⟩
 simp only[go_sem,reduceIte,yA,yB,yC,yD,yE,yH,reduceCtorEq,yF,yG,yI,yM] at hk hm
 obtain⟨h0,h1,h2,h8,h85,h86⟩:=hk
 have hcl:((x.2.2.take k).map (fun f=>(divF f ((f1,f2),(f3,f4))).1)++x.2.2.drop k).length=N+1:=by
  rw[List.length_append,yJ,List.length_take,List.length_drop];omega
 have hcok:MatOK N (sw.set r (x.1,x.2.1,(x.2.2.take k).map (fun f=>(divF f ((f1,f2),(f3,f4))).1)++x.2.2.drop k)):=by
  refine hoks.set hswr hcl fun f hf=>?_
  rw[List.mem_append] at hf
  rcases hf with hf | hf
  ·obtain⟨f',-,rfl⟩:=List.mem_map.1 hf
   exact okF_div _ _
  ·exact hxo f (List.mem_of_mem_drop hf)
 have hcr:=hset0 ((x.2.2.take k).map (fun f=>(divF f ((f1,f2),(f3,f4))).1)++x.2.2.drop k)
 rcases Decidable.em (k<N+1) with hklt | hkge
 ·obtain⟨⟨⟨a1,a2⟩,⟨a3,a4⟩⟩,hfk⟩:∃ f,x.2.2[k]?=some f:=⟨_,yL (by omega)⟩
  have hcg:=(take_drop_get (fun f=>(divF f ((f1,f2),(f3,f4))).1) (l:=x.2.2) (k:=k)).trans hfk
  have hnew:=take_map_set (fun f=>(divF f ((f1,f2),(f3,f4))).1) hfk
  have hany:(x.2.2.take (k+1)).any (fun f=>(divF f ((f1,f2),(f3,f4))).2 != 0)=((x.2.2.take k).any (fun f=>(divF f ((f1,f2),(f3,f4))).2 != 0)||(divF ((a1,a2),(a3,a4)) ((f1,f2),(f3,f4))).2 != 0):=by
   rw[List.take_add_one,hfk,List.any_append]
   simp
  obtain⟨hfo1,hfo2⟩:=hxo _ (List.mem_of_getElem? hfk)
  generalize (x.2.2.take k).map (fun f=>(divF f ((f1,f2),(f3,f4))).1)++x.2.2.drop k=cur at *
  generalize ((x.2.2.take k).any fun f=>(divF f ((f1,f2),(f3,f4))).2 != 0)=bd at *
  have hm15':=hps.1.m
  have hm35':=hps.1.o
  have hxm':=hps.1.r _ (List.mem_of_getElem? hcr)
  have q4:m 168004=none:=(hps.2 _ foreign_note4).trans hn4
  have q6:m 168006=none:=(hps.2 _ foreign_note6).trans hn6
  have t1:=getR (N:=N) hcr
  have t2:=lenR (N:=N) (rows:=sw.set r (x.1,x.2.1,cur)) (i:=r) (by rw[hcok.len];exact hrN)
  have t3:=getF hcg
  have t4:=lenF (l:=cur) (k:=k) (by omega)
  have hkl:decide ((k:Int)<((N+1:Nat):Int))=true:=decide_eq_true (by omega)
  have hw:IntKind.i64.wrap ((k:Int)+1)=((k+1:Nat):Int):=by rw[wrap64 _ (by omega) (by omega)];omega
  generalize hV:divF ((a1,a2),(a3,a4)) ((f1,f2),(f3,f4))=V at *
  obtain⟨⟨⟨v1,v2⟩,⟨v3,v4⟩⟩,er⟩:=V
  dsimp only at hnew hany
  have t5:=setF (l:=cur) (k:=k) (by omega) v1 v2 v3 v4
  simp only[go_sem,reduceIte,yA,yB,yC,yD,yE,yH,reduceCtorEq,yF,yG,yI,h_note,h_fDiv,h0,h1,h2,h8,h85,h86,h87,hm,hm15',hm35',hxm',q4,q6,t1,t2,t3,t4,t5,hkl,hklt,hrN,hw,hV,hfo1,hfo2,hfl.1,hfl.2,fracE,fracL,Nat.mul_one,U_note,List.set_cons_succ,List.set_cons_zero,decide_true,decide_false,yE,ne_eq,not_false_eq_true,and_self]
  repeat' (first|refine qqA ?_ ?_|refine qqB ?_ ?_|refine qqC ?_ ?_|refine qqD ?_ ?_|refine qqE ?_ ?_|refine qqF ?_ ?_)<;>intro h<;>simp only[h,go_sem,reduceIte,yA,yB,yC,yD,yE,yH,reduceCtorEq,yF,yG,yI,h_note,h_fDiv,h0,h1,h2,h8,h85,h86,h87,hm,hm15',hm35',hxm',q4,q6,t1,t2,t3,t4,t5,hkl,hklt,hrN,hw,hV,hfo1,hfo2,hfl.1,hfl.2,fracE,fracL,Nat.mul_one,U_note,List.set_cons_succ,List.set_cons_zero,decide_true,decide_false,yE,ne_eq,not_false_eq_true,and_self]
  have e1:=PS.set hcok hcr (cur.set k ((v1,v2),(v3,v4))) (((hps.own (k:=148010) (g:=nextO (m 148010)) (cs:=[MV.dat (Data.int IntKind.i64 0),MV.nil,MV.dat (Data.int IntKind.i64 0),MV.nil]) (.inr (.inl rfl))).own (k:=148010) (g:=nextO (m 148010)) (cs:=[MV.dat (Data.int IntKind.i64 a1),MV.dat (Data.sl (List.map i64L a2)),MV.dat (Data.int IntKind.i64 a3),MV.dat (Data.sl (List.map i64L a4))]) (.inr (.inl rfl))).flag (bd||er != 0))
  rw[List.set_set,hnew] at e1
  refine⟨k+1,by omega,by omega,rfl,?_⟩
  show PS mem go N _ ((x.2.2.take (k+1)).any fun f=>(divF f ((f1,f2),(f3,f4))).2 != 0) _
  rw[hany,hnew]
  exact e1
 ·have hk':k=N+1:=by omega
  have ecur:(x.2.2.take k).map (fun f=>(divF f ((f1,f2),(f3,f4))).1)++x.2.2.drop k=(divRow ((f1,f2),(f3,f4)) x.2.2).1:=by
   unfold divRow;rw[List.take_of_length_le (by omega),List.drop_eq_nil_of_le (by omega),List.append_nil]
  have ebad:((x.2.2.take k).any fun f=>(divF f ((f1,f2),(f3,f4))).2 != 0)=(divRow ((f1,f2),(f3,f4)) x.2.2).2:=by
   unfold divRow;rw[List.take_of_length_le (by omega)]
  rw[ecur] at hcok hps
  rw[ebad] at hps
  have hkl:decide ((k:Int)<((N+1:Nat):Int))=false:=decide_eq_false (by omega)
  simp only[go_sem,reduceIte,yA,yB,yC,yD,yE,yH,reduceCtorEq,yF,yG,yI,h0,h1,h2,h8,h85,h86,h87,hm,hkl]
  repeat' (first|refine qqA ?_ ?_|refine qqB ?_ ?_|refine qqC ?_ ?_|refine qqD ?_ ?_|refine qqE ?_ ?_|refine qqF ?_ ?_)<;>intro h<;>simp only[h,go_sem,reduceIte,yA,yB,yC,yD,yE,yH,reduceCtorEq,yF,yG,yI,h0,h1,h2,h8,h85,h86,h87,hm,hkl]
  refine hK _ _ ?_ ?_ ?_ hcok hps<;>simp only[upd_get,yA,if_false,h0,h1,h2]
end Go.Mini
namespace Go.Mini
open Go
set_option maxRecDepth 10000
set_option maxHeartbeats 4000000
theorem w_pivot (T:Tab) (h_zero:T id_linear_zero=mkE F_zero) (h_note:T id_linear_matrix_note=mkU U_note) (h_fDiv:T id_frac_Div=mkE F_fDiv) (h_fSub:T id_frac_Sub=mkE F_fSub) (h_fMul:T id_frac_Mul=mkE F_fMul)
  (go N:Nat) (rows:List MR) (r c:Nat) (mem0:Mem) (hok:MatOK N rows) (hat:MatAt go N rows false mem0) (hn4:mem0 168004=none) (hn6:mem0 168006=none) (hN:N≤40) (hrc:r≤c) (hcN:c<N) :
  wp T mf_linear_matrix_pivot.body (endQ mf_linear_matrix_pivot.res fun m mem'=>m = .dat (.bool (pivX rows r c).1)∧PS mem0 go N (pivX rows r c).2.1 (pivX rows r c).2.2 mem') ⟨initTm [.ptr 129015 0 0,.dat (.int .i64 r),.dat (.int .i64 c)],mem0⟩:=by
 refine wp_start ?_
 simp only[mf_linear_matrix_pivot]
 simp only[go_sem,reduceIte,yA,yB,yC,yD,yE,yH,reduceCtorEq,yF,yG,yI]
 refine wp_loop_keep [0,1,2] [] (fun (i:Nat) tm mem=>r≤i∧i≤N∧(∀ j y,r≤j→j<i→rows[j]?=some y→zeroQ (cellOf y c)=true)∧tm 7 = .dat (.int .i64 i)∧mem=mem0) (fun i=>N-i) r (by refine⟨Nat.le_refl _,by omega,fun j y h1 h2=>by omega,rfl,rfl⟩) ?_
 intro vs ms hvs hms
 simp only[go_sem,reduceIte,yA,yB,yC,yD,yE,yH,reduceCtorEq,yF,yG,yI] at hvs hms
 subst hvs hms
 rintro i tm mem hk hm ⟨hri,hiN,hz,h7,rfl⟩
 simp only[go_sem,reduceIte,yA,yB,yC,yD,yE,yH,reduceCtorEq,yF,yG,yI,yM] at hk hm
 obtain⟨h0,h1,h2⟩:=hk
 have hm15:=hat.m
 have hm35:=hat.o
 have hlen:=hok.len
 rcases Decidable.em (i<N) with hlt | hge
 ·have hx:∃ x,rows[i]?=some x:=⟨_,yL (by omega)⟩
  obtain⟨x,hx⟩:=hx
  obtain⟨hxl,hxo⟩:=hok.row x (List.mem_of_getElem? hx)
  have hxm:=hat.r x (List.mem_of_getElem? hx)
  have hf:∃ f,x.2.2[c]?=some f:=⟨_,yL (by omega)⟩
  obtain⟨⟨⟨f1,f2⟩,⟨f3,f4⟩⟩,hf⟩:=hf
  have hcR:=getR (N:=N) hx
  have hlR:=lenR (N:=N) (rows:=rows) (i:=i) (by omega)
  have hcF:=getF hf
  have hlF:=lenF (l:=x.2.2) (k:=c) (by omega)
  have hcell:=cell_get hf
  have hlt':decide ((i:Int)<(N:Int))=true:=decide_eq_true (by omega)
  have hcN':c<N+1:=by omega
  rcases hzf:(f1==0)
  ·have hfa:findAt rows r c=i:=findAt_step hx hri hz (by rw[hcell];exact hzf)
   obtain⟨xr,hxr⟩:∃ x,rows[r]?=some x:=⟨_,yL (by omega)⟩
   have hpv:pivX rows r c=(false,elimRows (divRow ((f1,f2),(f3,f4)) x.2.2).1 r c 0 (((rows.set r x).set i xr).set r (x.1,x.2.1,(divRow ((f1,f2),(f3,f4)) x.2.2).1)) (divRow ((f1,f2),(f3,f4)) x.2.2).2):=by
    unfold pivX divided
    rw[if_neg (by omega),hfa]
    have:rowAt (swapped rows r i) r=x:=row_at (by unfold swapped;rw[row_at hx,row_at hxr];exact swap_get hx hxr)
    rw[this,hcell]
    unfold swapped
    rw[row_at hx,row_at hxr]
   rw[hpv]
   clear hpv
   have hoks:MatOK N ((rows.set r x).set i xr):=hok.swap hxr hx
   have hpss:PS mem go N ((rows.set r x).set i xr) false _:=PS.swap hxr hx ⟨hat,fun _ _=>rfl⟩
   have hswr:((rows.set r x).set i xr)[r]?=some x:=swap_get hx hxr
   have hrN:r<N:=by omega
   have s1:=getR (N:=N) hxr
   have s2:=lenR (N:=N) (rows:=rows) (i:=r) (by omega)
   have s3:=setR (N:=N) (rows:=rows) (i:=r) (by omega) x
   have s4:=lenR (N:=N) (rows:=rows.set r x) (i:=i) (by rw[List.length_set];omega)
   have s5:=setR (N:=N) (rows:=rows.set r x) (i:=i) (by rw[List.length_set];omega) xr
   have s6:=getR (N:=N) hswr
   have s7:=lenR (N:=N) (rows:=(rows.set r x).set i xr) (i:=r) (by rw[List.length_set,List.length_set];omega)
   generalize hsw:(rows.set r x).set i xr=sw at *
   have hfl:=hxo _ (List.mem_of_getElem? hf)
   have hltr:decide ((i:Int)<(N:Int))=true:=hlt'
   have hineq:((i:Int)==(N:Int))=false:=by simp;omega
   simp only[go_sem,reduceIte,yA,yB,yC,yD,yE,yH,reduceCtorEq,yF,yG,yI,h_zero,h_note,h0,h1,h2,h7,hm15,hm35,hxm,hcR,hlR,hcF,hlF,hlt,hlt',hcN',hzf,Nat.mul_one,hrN,s1,s2,s3,s4,s5,s6,s7,hineq]
   refine piv_L1 T h_note h_fDiv go N r c mem hn4 hn6 hN hrN sw hoks x hswr f1 f2 f3 f4 hfl _ _ (nextO (mem 148008)) ?_ ?_ ?_ ?_ ?_ ?_ ?_ ?_ ((hpss.own (.inl rfl)).own (.inl rfl)) ?_
   ·exact h0
   ·exact h1
   ·exact h2
   ·rfl
   ·rfl
   ·rfl
   ·rfl
   ·simp [updM]
   intro tm' m' k0 k1 k2 hok2 hps2
   have hm15':=hps2.1.m
   have hr2:(sw.set r (x.1,x.2.1,(divRow ((f1,f2),(f3,f4)) x.2.2).1))[r]?=some (x.1,x.2.1,(divRow ((f1,f2),(f3,f4)) x.2.2).1):=by
    rw[List.getElem?_set,if_pos rfl,if_pos (by rw[hoks.len];exact hrN)]
   simp only[go_sem,reduceIte,yA,yB,yC,yD,yE,yH,reduceCtorEq,yF,yG,yI,k0,k1,k2,hm15']
   refine piv_L2 T h_zero h_note h_fSub h_fMul go N r c mem hn4 hn6 hN hrN hcN' _ hok2 x _ hr2 _ _ _ ?_ ?_ ?_ ?_ ?_ ?_ hps2 ?_
   ·exact k0
   ·exact k1
   ·exact k2
   ·rfl
   ·rfl
   ·rfl
   intro tm3 m3 hps3
   simp only[go_sem,reduceIte,yA,yB,yC,yD,yE,yH,reduceCtorEq,yF,yG,yI]
   repeat' (first|refine qqA ?_ ?_|refine qqB ?_ ?_|refine qqC ?_ ?_|refine qqD ?_ ?_|refine qqE ?_ ?_|refine qqF ?_ ?_)<;>intro h<;>simp only[h,go_sem,reduceIte,yA,yB,yC,yD,yE,yH,reduceCtorEq,yF,yG,yI]
   exact⟨_,rfl,rfl,hps3⟩
  ·have hw:IntKind.i64.wrap ((i:Int)+1)=((i+1:Nat):Int):=by rw[wrap64 _ (by omega) (by omega)];omega
   simp only[go_sem,reduceIte,yA,yB,yC,yD,yE,yH,reduceCtorEq,yF,yG,yI,h_zero,h_note,h0,h1,h2,h7,hm15,hm35,hxm,hcR,hlR,hcF,hlF,hlt,hlt',hcN',hzf,hw,Nat.mul_one]
   repeat' (first|refine qqA ?_ ?_|refine qqB ?_ ?_|refine qqC ?_ ?_|refine qqD ?_ ?_|refine qqE ?_ ?_|refine qqF ?_ ?_)<;>intro h<;>simp only[h,go_sem,reduceIte,yA,yB,yC,yD,yE,yH,reduceCtorEq,yF,yG,yI,h_zero,h_note,h0,h1,h2,h7,hm15,hm35,hxm,hcR,hlR,hcF,hlF,hlt,hlt',hcN',hzf,hw,Nat.mul_one]
   refine⟨i+1,by omega,by omega,by omega,?_,rfl⟩
   intro j y hj1 hj2 hy
   by_cases hji:j=i
   ·subst hji
    rw[hx] at hy
    cases hy
    rw[hcell]
    exact hzf
   ·exact hz j y hj1 (by omega) hy
 ·have hiN':i=N:=by omega
  subst hiN'
  have hlt':decide ((i:Int)<(i:Int))=false:=decide_eq_false (by omega)
  have hfe:=findAt_end (rows:=rows) (r:=r) (c:=c) (by omega) (fun j y hj hy=>hz j y hj (by have:=(List.getElem?_eq_some_iff.1 hy).1;omega) hy)
  have hp:pivX rows r c=(true,rows,false):=by unfold pivX;rw[if_pos hfe]
  rw[hp]
  simp only[go_sem,reduceIte,yA,yB,yC,yD,yE,yH,reduceCtorEq,yF,yG,yI,h_zero,h_note,h0,h1,h2,h7,hm15,hm35,hlt',beq_self_eq_true]
  repeat' (first|refine qqA ?_ ?_|refine qqB ?_ ?_|refine qqC ?_ ?_|refine qqD ?_ ?_|refine qqE ?_ ?_|refine qqF ?_ ?_)<;>intro h<;>simp only[h,go_sem,reduceIte,yA,yB,yC,yD,yE,yH,reduceCtorEq,yF,yG,yI,h_zero,h_note,h0,h1,h2,h7,hm15,hm35,hlt',beq_self_eq_true]
  exact⟨_,rfl,rfl,hat,fun _ _=>rfl⟩
end Go.Mini
namespace Go.Mini
open Go
set_option maxRecDepth 10000
set_option maxHeartbeats 4000000
structure PivA where
 go:Nat
 N:Nat
 rows:List MR
 r:Nat
 c:Nat
def PivOK (a:PivA) (mem:Mem):Prop:=MatOK a.N a.rows∧MatAt a.go a.N a.rows false mem∧mem 168004=none∧mem 168006=none∧a.N≤40∧a.r≤a.c∧a.c<a.N
def pivR (a:PivA) (mem:Mem):MV→Mem→Prop:=fun m mem'=>m = .dat (.bool (pivX a.rows a.r a.c).1)∧PS mem a.go a.N (pivX a.rows a.r a.c).2.1 (pivX a.rows a.r a.c).2.2 mem'
noncomputable def Q_pivot:List MV→Mem→Option (MV→Mem→Prop):=QQ (fun (a:PivA) args mem=>args=[.ptr 129015 0 0,.dat (.int .i64 a.r),.dat (.int .i64 a.c)]∧PivOK a mem) pivR
theorem refs_inj {N:Nat} {a b:List MR} (h:refsOf N a=refsOf N b):a.map (fun x=>(x.1,x.2.1))=b.map fun x=>(x.1,x.2.1):=by
 induction a generalizing b with
 | nil=>cases b with
  | nil=>rfl
  | cons y r=>simp [refsOf] at h
 | cons x a ih=>cases b with
  | nil=>simp [refsOf] at h
  | cons y b =>
   simp only[refsOf,List.map_cons,yM,MV.ref.injEq] at h
   have h1:x.1=y.1:=by have:=h.1.1;simp only[Key] at this;omega
   simp only[List.map_cons,yM,Prod.mk.injEq]
   exact⟨⟨h1,h.1.2.1⟩,ih h.2⟩
theorem Q_pivot_eq (a:PivA) (mem:Mem) (h:PivOK a mem):Q_pivot [.ptr 129015 0 0,.dat (.int .i64 a.r),.dat (.int .i64 a.c)] mem=some (pivR a mem):=by
 unfold Q_pivot
 refine QQ_eq (a:=a) ?_ ⟨rfl,h⟩
 rintro a b args mem ⟨h1,h2,h3,_⟩ ⟨h4,h5,h6,_⟩
 rw[h1] at h4
 simp only[yM,MV.dat.injEq,Data.int.injEq,true_and,and_true] at h4
 have hm:=h3.m
 rw[h6.m] at hm
 simp only[Option.some.injEq,Prod.mk.injEq,yM,MV.ref.injEq,true_and,and_true] at hm
 obtain⟨⟨hg,hn⟩,-⟩:=hm
 have ho:=h3.o
 rw[h6.o] at ho
 simp only[Option.some.injEq,Prod.mk.injEq] at ho
 obtain⟨ag,aN,ar,a1,a2⟩:=a
 obtain⟨bg,bN,br,b1,b2⟩:=b
 dsimp only at *
 subst hg hn
 have hr:br=ar:=by
  have h7:=refs_inj ho.2
  have hl:br.length=ar.length:=by have:=congrArg List.length h7;simpa using this
  apply List.ext_getElem hl
  intro i hi1 hi2
  have h8:(br.map fun x=>(x.1,x.2.1))[i]?=(ar.map fun x=>(x.1,x.2.1))[i]?:=by rw[h7]
  rw[yK,yK,yL hi1,yL hi2] at h8
  simp only[Option.map_some,Option.some.injEq,Prod.mk.injEq] at h8
  have r1:=h6.r _ (List.getElem_mem hi1)
  have r2:=h3.r _ (List.getElem_mem hi2)
  rw[h8.1,r2] at r1
  simp only[Option.some.injEq,Prod.mk.injEq] at r1
  have:=rowF_inj r1.2
  exact Prod.ext h8.1 (Prod.ext h8.2 this.symm)
 subst hr
 have e1:a1=b1:=by omega
 have e2:a2=b2:=by omega
 subst e1 e2
 rfl
theorem Q_pivot_inv {args:List MV} {mem:Mem} {R:MV→Mem→Prop} (h:Q_pivot args mem=some R):∃ a,args=[.ptr 129015 0 0,.dat (.int .i64 a.r),.dat (.int .i64 a.c)]∧PivOK a mem∧R=pivR a mem:=by
 obtain⟨a,⟨h1,h2⟩,h3⟩:=QQ_inv h
 exact⟨a,h1,h2,h3⟩
theorem even_frac (l:List FRaw):((l.map fracL).all fun e=>e.length==4)=true:=by simp [fracL]
noncomputable def F_cloneF:List Data→Option PRes:=FF (α:=List FRaw) (fun (l:List FRaw)=>([.sl (l.map fracL)]:List Data)) (fun (l:List FRaw)=>onlyIf (l.length≤1000000) (.own 4 (l.map fracL)))
theorem F_cloneF_inj:∀ a b:List FRaw,(fun (l:List FRaw)=>([.sl (l.map fracL)]:List Data)) a=(fun (l:List FRaw)=>([.sl (l.map fracL)]:List Data)) b→a=b:=by
  intro l1 l2 h
  exact map_inj fracL_inj _ _ (by simpa using h)
@[go_sem] theorem F_cloneF_eq (l:List FRaw) (hc:l.length≤1000000):F_cloneF [.sl (l.map fracL)]=some (.own 4 (l.map fracL)):=(FF_eq F_cloneF_inj l).trans (onlyIf_pos hc _)
theorem w_cloneF (T:Tab)  (l:List FRaw) (hc:l.length≤1000000) :
  wp T mf_slices_Clone_Frac.body (endS mf_slices_Clone_Frac.res (.own 4 (l.map fracL))) ⟨initTm [.dat (.sl (l.map fracL))],emp⟩:=by
 refine wp_start ?_
 simp only[mf_slices_Clone_Frac]
 have hap:appC 147005 0 4 0 64 l.length ((l.map fracL).flatten.map .dat) (some (0,[]))=some (.ref 147005 1 4 0 l.length,some (147005,1,rowE fracL l)):=by
  have:=app_rows fracL_len fracL_one 147005 0 64 [] l (by simp;omega) (by simp;omega)
  simpa [rowE] using this
 have hlen:(rowE fracL l).length=l.length*4:=rowE_len fracL_len l
 simp only[go_sem,reduceIte,yA,yB,yC,yD,yE,yH,reduceCtorEq,yF,yG,yI,even_frac,hap,yJ]
 repeat' (first|refine qqA ?_ ?_|refine qqB ?_ ?_|refine qqC ?_ ?_|refine qqD ?_ ?_|refine qqE ?_ ?_|refine qqF ?_ ?_)<;>intro h<;>simp only[h,go_sem,reduceIte,yA,yB,yC,yD,yE,yH,reduceCtorEq,yF,yG,yI,even_frac,hap,yJ]
 rintro b hb
 cases b
 ·simp only[go_sem,reduceIte,yA,yB,yC,yD,yE,yH,reduceCtorEq,yF,yG,yI,even_frac,hap,yJ,ownD,hlen]
  repeat' (first|refine qqA ?_ ?_|refine qqB ?_ ?_|refine qqC ?_ ?_|refine qqD ?_ ?_|refine qqE ?_ ?_|refine qqF ?_ ?_)<;>intro h<;>simp only[h,go_sem,reduceIte,yA,yB,yC,yD,yE,yH,reduceCtorEq,yF,yG,yI,even_frac,hap,yJ,ownD,hlen]
  rw[if_pos (by omega),List.take_of_length_le (by omega)]
  unfold rowE
  rw[mapM_dat _ fun d=>rfl]
  have:=chunk_all (sz:=4) (l.map fracL) (by intro e he;obtain⟨f,-,rfl⟩:=List.mem_map.1 he;rfl)
  rw[yJ] at this
  simp [this]
 ·cases l with
  | nil =>
       simp only[go_sem,reduceIte,yA,yB,yC,yD,yE,yH,reduceCtorEq,yF,yG,yI,ownD,List.map_nil]
       repeat' (first|refine qqA ?_ ?_|refine qqB ?_ ?_|refine qqC ?_ ?_|refine qqD ?_ ?_|refine qqE ?_ ?_|refine qqF ?_ ?_)<;>intro h<;>simp only[h,go_sem,reduceIte,yA,yB,yC,yD,yE,yH,reduceCtorEq,yF,yG,yI,ownD,List.map_nil]
  | cons x r=>simp at hb
end Go.Mini
namespace Go.Mini
open Go
set_option maxRecDepth 10000
set_option maxHeartbeats 4000000
def augOf (rs:List RowD):List MR:=rs.zipIdx.map fun p=>(p.2,0,p.1.1++[p.1.2])
theorem aug_len (rs:List RowD):(augOf rs).length=rs.length:=by simp [augOf]
theorem aug_get {rs:List RowD} {i:Nat} {r:RowD} (h:rs[i]?=some r):(augOf rs)[i]?=some (i,0,r.1++[r.2]):=by
 unfold augOf
 rw[yK,List.getElem?_zipIdx,h]
 simp
theorem aug_take {rs:List RowD} {i:Nat} {r:RowD} (h:rs[i]?=some r):(augOf rs).take (i+1)=(augOf rs).take i++[(i,0,r.1++[r.2])]:=by
 rw[List.take_add_one,aug_get h]
 rfl
theorem aug_mem {rs:List RowD} {i:Nat} {x:MR} (h:x∈(augOf rs).take i):x.1<i∧x.2.1=0:=by
 obtain⟨j,hj⟩:=List.mem_iff_getElem?.1 h
 rw[List.getElem?_take] at hj
 split at hj
 ·rename_i hji
  unfold augOf at hj
  rw[yK,List.getElem?_zipIdx] at hj
  cases hr:rs[j]? with
  | none=>rw[hr] at hj;cases hj
  | some r =>
   rw[hr] at hj
   simp only[Option.map_some,Option.some.injEq] at hj
   subst hj
   exact⟨by simpa using hji,rfl⟩
 ·cases hj
theorem refs_append (N:Nat) (a b:List MR):refsOf N (a++b)=refsOf N a++refsOf N b:=by simp [refsOf]
theorem refs_len (N:Nat) (a:List MR):(refsOf N a).length=a.length:=by simp [refsOf]
/-- While the matrix is built: i rows are there. -/
structure BS (N:Nat) (rs:List RowD) (i go:Nat) (mem:Mem):Prop where
 z:i=0→mem 129015=some (0,[.nil,.dat (.int .i64 N),.dat (.bool false)])
 p:0<i→mem 129015=some (0,[.ref 129035 go 1 0 i,.dat (.int .i64 N),.dat (.bool false)])∧mem 129035=some (go,refsOf N ((augOf rs).take i))
 r:∀ x∈(augOf rs).take i,mem (x.1+900000)=some (x.2.1,rowE fracL x.2.2)
 n:∀ j:Nat,i≤j→mem (j+900000)=none
 a:mem 168004=none
 b:mem 168006=none
theorem rowE_fold (l:List FRaw):(l.map fracL).flatten.map MV.dat=rowE fracL l:=rfl
theorem appF (G:Nat) (l:List FRaw) (v1:Int) (v2:List Int) (v3:Int) (v4:List Int) (h:l.length≤1000000):appC 129029 G 4 l.length 64 1 [.dat (.int .i64 v1),.dat (.sl (v2.map i64L)),.dat (.int .i64 v3),.dat (.sl (v4.map i64L))] (some (G,rowE fracL l))=some (.ref 129029 (G+1) 4 0 (l.length+1),some (129029,G+1,rowE fracL (l++[((v1,v2),(v3,v4))]))) :=
 app_row fracL_len fracL_one 129029 G 64 l ((v1,v2),(v3,v4)) rfl (by omega) (by omega)
theorem appR (N G i g:Nat) (a:List MR) (hi:a.length=i) (h:i≤1000) (m:MV) (hm:m = .ref 129029 g 4 0 (N+1)):appC 129035 G 1 i 24 1 [m] (some (G,refsOf N a))=some (.ref 129035 (G+1) 1 0 (i+1),some (129035,G+1,refsOf N a++[m])):=by
 subst hm
 unfold appC
 dsimp only
 rw[if_pos ⟨rfl,by rw[refs_len];omega,by omega,by unfold maxLen;omega,rfl⟩,List.take_of_length_le (by rw[refs_len];omega)]
theorem BS_next {N i go go' G:Nat} {rs:List RowD} {r:RowD} {m m':Mem} (hb:BS N rs i go m) (hr:rs[i]?=some r) (h15:m' 129015=some (0,[.ref 129035 go' 1 0 (i+1),.dat (.int .i64 N),.dat (.bool false)])) (hf:∀ k:Nat,900000≤k∨k=168004∨k=168006→m' k=m k) :
  BS N rs (i+1) go' (updM (updM (updM m' 129029 (nextG m' 129029) []) (i+900000) (nextG m' (i+900000)) (rowE fracL (r.1++[r.2]))) 129035 go' ((refsOf N ((augOf rs).take i)++[MV.ref 129029 G 4 0 (N+1)]).set i (MV.ref (i+900000) (nextG m' (i+900000)) 4 0 (N+1)))):=by
 have hlt:=(List.getElem?_eq_some_iff.1 hr).1
 have hg:nextG m' (i+900000)=0:=by
  unfold nextG
  rw[hf _ (.inl (by omega)),hb.n i (Nat.le_refl _)]
 have htl:(refsOf N ((augOf rs).take i)).length=i:=by rw[refs_len,List.length_take,aug_len];omega
 rw[hg]
 have hset:(refsOf N ((augOf rs).take i)++[MV.ref 129029 G 4 0 (N+1)]).set i (.ref (i+900000) 0 4 0 (N+1))=refsOf N ((augOf rs).take (i+1)):=by
  rw[List.set_append_right _ _ (by omega),htl,Nat.sub_self,List.set_cons_zero,aug_take hr,refs_append]
  rfl
 rw[hset]
 have at1:∀ (k:Nat),k≠129029→k≠129035→k≠i+900000→updM (updM (updM m' 129029 (nextG m' 129029) []) (i+900000) 0 (rowE fracL (r.1++[r.2]))) 129035 go' (refsOf N ((augOf rs).take (i+1))) k=m' k:=fun k h1 h2 h3=>by simp [updM,h1,h2,h3]
 refine⟨fun h=>by omega,fun _=>⟨by rw[at1 _ (by omega) (by omega) (by omega)];exact h15,by simp [updM]⟩,fun x hx=>?_,fun j hj=>?_,?_,?_⟩
 ·rw[aug_take hr,List.mem_append,List.mem_singleton] at hx
  rcases hx with hx | rfl
  ·obtain⟨hx1,hx2⟩:=aug_mem hx
   rw[at1 _ (by omega) (by omega) (by omega),hf _ (.inl (by omega))]
   exact hb.r x hx
  ·have h2:(i+900000:Nat)≠129035:=by omega
   simp [updM]
 ·rw[at1 _ (by omega) (by omega) (by omega),hf _ (.inl (by omega))]
  exact hb.n j (by omega)
 ·rw[at1 _ (by omega) (by omega) (by omega),hf _ (.inr (.inl rfl))]
  exact hb.a
 ·rw[at1 _ (by omega) (by omega) (by omega),hf _ (.inr (.inr rfl))]
  exact hb.b
theorem ghost_row {K:St→Prop} {tm:Nat→MV} {N i go:Nat} (go' G:Nat) {rs:List RowD} {r:RowD} {m m':Mem} (hb:BS N rs i go m) (hr:rs[i]?=some r) (h15:m' 129015=some (0,[.ref 129035 go' 1 0 (i+1),.dat (.int .i64 N),.dat (.bool false)]))
  (h35:m' 129035=some (go',refsOf N ((augOf rs).take i)++[.ref 129029 G 4 0 (N+1)])) (h29:m' 129029=some (G,rowE fracL (r.1++[r.2]))) (hf:∀ k:Nat,900000≤k∨k=168004∨k=168006→m' k=m k) (h:∀ M,BS N rs (i+1) go' M→K ⟨tm,M⟩):ghostK K ⟨tm,m'⟩ .move:=by
 have hlt:=(List.getElem?_eq_some_iff.1 hr).1
 have htl:(refsOf N ((augOf rs).take i)).length=i:=by rw[refs_len,List.length_take,aug_len];omega
 exact ghostK_move 129035 i 129029 (i+900000) h35 (by rw[List.getElem?_append_right (by omega),htl,Nat.sub_self];rfl) h29 (by omega) (show (i+900000:Nat)≠129029 by omega) (show (i+900000:Nat)≠129035 by omega) (h _ (BS_next hb hr h15 hf))
theorem updM_ne {m:Mem} {k g:Nat} {cs:List MV} {j:Nat} (h:j≠k):updM m k g cs j=m j:=if_neg h
theorem elim_L0 (T:Tab) (h_cloneF:T id_slices_Clone_Frac=mkE F_cloneF) {K:MExit→St→Prop} {kk:List Todo} (N:Nat) (rs:List RowD) (stop:Bool) (hN:N≤40) (hlen:rs.length=N) (hrs:∀ r∈rs,r.1.length=N∧okRow r) (tm:Nat→MV) (m:Mem)
  (e1:tm 1 = .dat (.int .i64 N)) (e2:tm 2 = .dat (.bool stop)) (e8:tm 8 = .ptr 129015 0 0) (e16:tm 16 = .dat (.sl (rs.map rowL))) (e17:tm 17 = .dat (.int .i64 N)) (e18:tm 18 = .dat (.int .i64 0)) (hb:BS N rs 0 0 m)
  (hK:∀ tm' m' go,tm' 1 = .dat (.int .i64 N)→tm' 2 = .dat (.bool stop)→tm' 8 = .ptr 129015 0 0→BS N rs N go m'→kont T K kk (.exit 0) ⟨tm',m'⟩) :
  wp T (mf_linear_eliminated.body.sub [1,1,0,1,0]) (kont T K kk) ⟨tm,m⟩:=by
 simp only[mf_linear_eliminated,MCode.sub]
 refine wp_loop_keep [1,2,8,16,17] [] (fun ((i,go):Nat × Nat) tm m=>i≤N∧tm 18 = .dat (.int .i64 i)∧BS N rs i go m) (fun (i,_)=>N-i) (0,0) (by exact⟨Nat.zero_le _,e18,hb⟩) ?_
 intro vs ms hvs hms
 simp only[go_sem,reduceIte,yA,yB,yC,yD,yE,yH,reduceCtorEq,yF,yG,yI,e1,e2,e8,e16,e17] at hvs hms
 subst hvs hms
 clear e1 e2 e8 e16 e17 e18 hb tm m
 rintro⟨i,go⟩ tm m hk hm ⟨hiN,h18,hb⟩
 simp only[go_sem,reduceIte,yA,yB,yC,yD,yE,yH,reduceCtorEq,yF,yG,yI,yM] at hk hm
 obtain⟨h1,h2,h8,h16,h17⟩:=hk
 rcases Decidable.em (i<N) with hlt | hge
 ·obtain⟨⟨A,⟨v1,v2⟩,⟨v3,v4⟩⟩,hr⟩:∃ r,rs[i]?=some r:=⟨_,yL (by omega)⟩
  obtain⟨hAl,⟨hAL,hAo⟩,hV1,hV2⟩:=hrs _ (List.mem_of_getElem? hr)
  dsimp only at hAl hAL hAo hV1 hV2
  have hil:decide ((i:Int)<(N:Int))=true:=decide_eq_true (by omega)
  have hw:IntKind.i64.wrap ((i:Int)+1)=((i+1:Nat):Int):=by rw[wrap64 _ (by omega) (by omega)];omega
  have hap:∀ G,appC 129029 G 4 N 64 1 _ _=_:=fun G=>hAl ▸ appF G A v1 v2 v3 v4 hAL
  have hNL:N≤1000000:=by omega
  have hmx:(1≤maxLen)=True:=eq_true (by unfold maxLen;omega)
  have hta:=aug_take hr
  have htl:((augOf rs).take i).length=i:=by rw[List.length_take,aug_len];omega
  rcases Nat.eq_zero_or_pos i with h0 | hpos
  ·have hm15:=hb.z h0
   simp only[go_sem,reduceIte,yA,yB,yC,yD,yE,yH,reduceCtorEq,yF,yG,yI,h_cloneF,h1,h2,h8,h16,h17,h18,hm15,hil,hr,hw,hNL,hAl,hap,hmx,rowE_fold,yJ,yK,rowL,fracL,decide_true,decide_false,ne_eq,not_false_eq_true,and_self]
   repeat' (first|refine qqA ?_ ?_|refine qqB ?_ ?_|refine qqC ?_ ?_|refine qqD ?_ ?_|refine qqE ?_ ?_|refine qqF ?_ ?_)<;>intro h<;>simp only[h,go_sem,reduceIte,yA,yB,yC,yD,yE,yH,reduceCtorEq,yF,yG,yI,h_cloneF,h1,h2,h8,h16,h17,h18,hm15,hil,hr,hw,hNL,hAl,hap,hmx,rowE_fold,yJ,yK,rowL,fracL,decide_true,decide_false,ne_eq,not_false_eq_true,and_self]
   refine ghost_row (nextO (m 129035)) (nextO (m 129029)+1) hb hr (by simp [updM,h0]) (by simp [updM,h0,refsOf]) (by simp [updM]) (fun k hk=>?_) fun M hB=>?_
   ·rw[updM_ne (by omega),updM_ne (by omega),updM_ne (by omega),updM_ne (by omega),updM_ne (by omega),updM_ne (by omega),updM_ne (by omega)]
   ·simp only[go_sem,reduceIte,yA,yB,yC,yD,yE,yH,reduceCtorEq,yF,yG,yI,h1,h2,h8,h16,h17,h18,hw]
    repeat' (first|refine qqA ?_ ?_|refine qqB ?_ ?_|refine qqC ?_ ?_|refine qqD ?_ ?_|refine qqE ?_ ?_|refine qqF ?_ ?_)<;>intro h<;>simp only[h,go_sem,reduceIte,yA,yB,yC,yD,yE,yH,reduceCtorEq,yF,yG,yI,h1,h2,h8,h16,h17,h18,hw]
    exact⟨(i+1,nextO (m 129035)),by dsimp only;omega,by dsimp only;omega,rfl,hB⟩
  ·obtain⟨hm15,hm35⟩:=hb.p hpos
   have hapR:=appR N go i (nextO (m 129029)+1) ((augOf rs).take i) htl (by omega) _ rfl
   simp only[go_sem,reduceIte,yA,yB,yC,yD,yE,yH,reduceCtorEq,yF,yG,yI,h_cloneF,h1,h2,h8,h16,h17,h18,hm15,hm35,hil,hr,hw,hNL,hAl,hap,hapR,rowE_fold,yJ,yK,rowL,fracL,decide_true,decide_false,ne_eq,not_false_eq_true,and_self]
   repeat' (first|refine qqA ?_ ?_|refine qqB ?_ ?_|refine qqC ?_ ?_|refine qqD ?_ ?_|refine qqE ?_ ?_|refine qqF ?_ ?_)<;>intro h<;>simp only[h,go_sem,reduceIte,yA,yB,yC,yD,yE,yH,reduceCtorEq,yF,yG,yI,h_cloneF,h1,h2,h8,h16,h17,h18,hm15,hm35,hil,hr,hw,hNL,hAl,hap,hapR,rowE_fold,yJ,yK,rowL,fracL,decide_true,decide_false,ne_eq,not_false_eq_true,and_self]
   refine ghost_row (go+1) (nextO (m 129029)+1) hb hr (by simp [updM]) (by simp [updM]) (by simp [updM]) (fun k hk=>?_) fun M hB=>?_
   ·rw[updM_ne (by omega),updM_ne (by omega),updM_ne (by omega),updM_ne (by omega),updM_ne (by omega),updM_ne (by omega),updM_ne (by omega)]
   ·simp only[go_sem,reduceIte,yA,yB,yC,yD,yE,yH,reduceCtorEq,yF,yG,yI,h1,h2,h8,h16,h17,h18,hw]
    repeat' (first|refine qqA ?_ ?_|refine qqB ?_ ?_|refine qqC ?_ ?_|refine qqD ?_ ?_|refine qqE ?_ ?_|refine qqF ?_ ?_)<;>intro h<;>simp only[h,go_sem,reduceIte,yA,yB,yC,yD,yE,yH,reduceCtorEq,yF,yG,yI,h1,h2,h8,h16,h17,h18,hw]
    exact⟨(i+1,go+1),by dsimp only;omega,by dsimp only;omega,rfl,hB⟩
 ·have hil:decide ((i:Int)<(N:Int))=false:=decide_eq_false (by omega)
  obtain rfl:i=N:=by omega
  simp only[go_sem,reduceIte,yA,yB,yC,yD,yE,yH,reduceCtorEq,yF,yG,yI,h1,h2,h8,h16,h17,h18,hil]
  repeat' (first|refine qqA ?_ ?_|refine qqB ?_ ?_|refine qqC ?_ ?_|refine qqD ?_ ?_|refine qqE ?_ ?_|refine qqF ?_ ?_)<;>intro h<;>simp only[h,go_sem,reduceIte,yA,yB,yC,yD,yE,yH,reduceCtorEq,yF,yG,yI,h1,h2,h8,h16,h17,h18,hil]
  refine hK _ _ go ?_ ?_ ?_ hb<;>simp only[upd_get,yA,if_false,h1,h2,h8]
end Go.Mini
namespace Go.Mini
open Go
set_option maxRecDepth 10000
set_option maxHeartbeats 4000000
/-- The elimination, column by column. -/
def elimX (stop:Bool):Nat→Nat→List MR→List Nat→Bool→List MR × List Nat × Bool
 | 0,_,rows,free,bad=>(rows,free,bad)
 | _+1,_,rows,free,true=>(rows,free,true)
 | k+1,c,rows,free,false =>
  if (pivX rows (c-free.length) c).1=true then
   (if stop=true then ((pivX rows (c-free.length) c).2.1,free++[c],(pivX rows (c-free.length) c).2.2) else elimX stop k (c+1) (pivX rows (c-free.length) c).2.1 (free++[c]) (pivX rows (c-free.length) c).2.2)
  else elimX stop k (c+1) (pivX rows (c-free.length) c).2.1 free (pivX rows (c-free.length) c).2.2
theorem elimX_bad (stop:Bool) (k c:Nat) (rows:List MR) (free:List Nat):elimX stop k c rows free true=(rows,free,true):=by
 cases k<;>rfl
def natL (n:Nat):List Data:=[.int .i64 n]
theorem natL_len (n:Nat):(natL n).length=1:=rfl
theorem natL_one (n:Nat):((natL n).map MV.dat).all MV.one=true:=rfl
def matD (N:Nat) (rows:List MR) (bad:Bool):Data:=.ptr [.sl (rows.map fun x=>[.sl (x.2.2.map fracL)]),.int .i64 N,.bool bad]
def elimD (N:Nat) (p:List MR × List Nat × Bool):Data:=.tup [matD N p.1 p.2.2,.sl (p.2.1.map natL)]
/-! ### The numbers of the rows stay -/
theorem elimRows_shape (prow:List FRaw) (r c:Nat):∀ (i:Nat) (l:List MR) (b:Bool),(elimRows prow r c i l b).1.map (fun x=>(x.1,x.2.1,x.2.2.length))=l.map fun x=>(x.1,x.2.1,x.2.2.length)
 | _,[],_=>rfl
 | i,x::xs,b=>by
  unfold elimRows
  split
  ·simp only[List.map_cons,elimRows_shape prow r c (i+1) xs b]
  ·simp only[List.map_cons,elimRows_shape prow r c (i+1) xs,elimGo_length]
theorem elimGo_ok (fac:FRaw):∀ (l p:List FRaw) (b:Bool),(∀ f∈l,okF f)→∀ f∈(elimGo fac l p b).1,okF f
 | [],p,b,h=>by rw[elimGo_nil];exact h
 | f::fs,[],b,h=>by cases b<;>(simp only[elimGo];exact h)
 | f::fs,p::ps,true,h=>by simp only[elimGo];exact h
 | f::fs,p::ps,false,h=>by
  simp only[elimGo]
  intro g hg
  rcases List.mem_cons.1 hg with rfl | hg
  ·exact okF_sub _ _
  ·exact elimGo_ok fac fs ps _ (fun x hx=>h x (List.mem_cons_of_mem _ hx)) g hg
theorem elimRows_ok (prow:List FRaw) (r c:Nat):∀ (i:Nat) (l:List MR) (b:Bool),(∀ x∈l,∀ f∈x.2.2,okF f)→∀ x∈(elimRows prow r c i l b).1,∀ f∈x.2.2,okF f
 | _,[],_,h=>h
 | i,x::xs,b,h=>by
  unfold elimRows
  split
  ·intro y hy
   rcases List.mem_cons.1 hy with rfl | hy
   ·exact h _ List.mem_cons_self
   ·exact elimRows_ok prow r c (i+1) xs b (fun z hz=>h z (List.mem_cons_of_mem _ hz)) y hy
  ·intro y hy
   rcases List.mem_cons.1 hy with rfl | hy
   ·exact elimGo_ok _ _ _ _ (h _ List.mem_cons_self)
   ·exact elimRows_ok prow r c (i+1) xs _ (fun z hz=>h z (List.mem_cons_of_mem _ hz)) y hy
theorem findAt_le (rows:List MR) (r c:Nat) (hr:r≤rows.length):r≤findAt rows r c∧findAt rows r c≤rows.length:=by
 unfold findAt
 have:=List.findIdx_le_length (p:=fun x => !zeroQ (cellOf x c)) (xs:=rows.drop r)
 rw[List.length_drop] at this
 omega
theorem MatOK.piv {N:Nat} {rows:List MR} (h:MatOK N rows) {r c:Nat} (hr:r<N):MatOK N (pivX rows r c).2.1:=by
 unfold pivX
 split
 ·exact h
 ·rename_i hne
  have hfl:=findAt_le rows r c (by rw[h.len];omega)
  have hl:=h.len
  obtain⟨x,hx⟩:∃ x,rows[findAt rows r c]?=some x:=⟨_,yL (by omega)⟩
  obtain⟨xr,hxr⟩:∃ x,rows[r]?=some x:=⟨_,yL (by omega)⟩
  have hsw:MatOK N (swapped rows r (findAt rows r c)):=by
   unfold swapped
   rw[row_at hx,row_at hxr]
   exact h.swap hxr hx
  have hswr:(swapped rows r (findAt rows r c))[r]?=some x:=by
   unfold swapped
   rw[row_at hx,row_at hxr]
   exact swap_get hx hxr
  generalize swapped rows r (findAt rows r c)=sw at *
  obtain⟨hxl,hxo⟩:=hsw.row x (List.mem_of_getElem? hswr)
  have hdv:MatOK N (divided sw r c):=by
   unfold divided
   rw[row_at hswr]
   refine hsw.set hswr (by simp [divRow,hxl]) fun f hf=>?_
   obtain⟨g,-,rfl⟩:=List.mem_map.1 hf
   exact okF_div _ _
  generalize divided sw r c=dv at *
  have hsh:=elimRows_shape (divRow (cellOf (rowAt sw r) c) (rowAt sw r).2.2).1 r c 0 dv (divRow (cellOf (rowAt sw r) c) (rowAt sw r).2.2).2
  have hok:=elimRows_ok (divRow (cellOf (rowAt sw r) c) (rowAt sw r).2.2).1 r c 0 dv (divRow (cellOf (rowAt sw r) c) (rowAt sw r).2.2).2 fun x hx=>(hdv.row x hx).2
  dsimp only
  generalize (elimRows (divRow (cellOf (rowAt sw r) c) (rowAt sw r).2.2).1 r c 0 dv (divRow (cellOf (rowAt sw r) c) (rowAt sw r).2.2).2).1=el at *
  refine⟨?_,?_,fun y hy=>⟨?_,hok y hy⟩⟩
  ·have:=congrArg List.length hsh
   rw[yJ,yJ] at this
   rw[this,hdv.len]
  ·have h1:el.map (·.1)=dv.map (·.1):=by
    have:=congrArg (List.map fun p:Nat × Nat × Nat=>p.1) hsh
    simpa [List.map_map,Function.comp_def] using this
   rw[h1]
   exact hdv.nd
  ·have h1:el.map (fun x=>x.2.2.length)=dv.map fun x=>x.2.2.length:=by
    have:=congrArg (List.map fun p:Nat × Nat × Nat=>p.2.2) hsh
    simpa [List.map_map,Function.comp_def] using this
   have h2:y.2.2.length∈dv.map fun x=>x.2.2.length:=by rw[←h1];exact List.mem_map.2 ⟨y,hy,rfl⟩
   obtain⟨z,hz,e⟩:=List.mem_map.1 h2
   rw[←e]
   exact (hdv.row z hz).1
/-! ### The matrix as data -/
theorem toD_rowF {n k g N:Nat} {mem:Mem} {l:List FRaw} (hl:l.length=N+1) (hm:mem k=some (g,rowE fracL l)):toD (n+1) mem (.ref k g 4 0 (N+1))=some (.sl (l.map fracL)):=by
 rw[←hl]
 exact toD_row fracL_len hm
theorem toD_refs {n N:Nat} {mem:Mem} {rows:List MR} (h:∀ x∈rows,mem (x.1+900000)=some (x.2.1,rowE fracL x.2.2)) (hl:∀ x∈rows,x.2.2.length=N+1):(refsOf N rows).mapM (toD (n+1) mem)=some (rows.map fun x => .sl (x.2.2.map fracL)):=by
 unfold refsOf
 induction rows with
 | nil=>rfl
 | cons x xs ih =>
  have h1:=toD_rowF (n:=n) (hl x List.mem_cons_self) (h x List.mem_cons_self)
  have h2:=ih (fun y hy=>h y (List.mem_cons_of_mem _ hy)) fun y hy=>hl y (List.mem_cons_of_mem _ hy)
  simp only[List.map_cons,List.mapM_cons,h1,h2]
  rfl
theorem toD_mat {n N go:Nat} {mem:Mem} {rows:List MR} {bad:Bool} (hok:MatOK N rows) (h:MatAt go N rows bad mem):toD (n+3) mem (.ptr 129015 0 0)=some (matD N rows bad):=by
 have h1:=toD_refs (n:=n) h.r fun x hx=>(hok.row x hx).1
 have h2:toD (n+2) mem (.ref 129035 go 1 0 N)=some (.sl (rows.map fun x=>[.sl (x.2.2.map fracL)])):=by
  unfold toD
  rw[h.o]
  simp only[if_true]
  unfold cut
  rw[if_pos (by rw[refs_len,hok.len];omega),List.drop_zero,List.take_of_length_le (by rw[refs_len,hok.len];omega)]
  dsimp only
  rw[h1]
  have:=chunk_all (sz:=1) (rows.map fun x=>[Data.sl (x.2.2.map fracL)]) (by intro e he;obtain⟨x,-,rfl⟩:=List.mem_map.1 he;rfl)
  rw[yJ,hok.len] at this
  simp only[Option.map_some,Option.some.injEq,Data.sl.injEq]
  have hfl:∀ l:List MR,(l.map fun x=>Data.sl (x.2.2.map fracL))=(l.map fun x=>[Data.sl (x.2.2.map fracL)]).flatten:=by
   intro l
   induction l with
   | nil=>rfl
   | cons x xs ih=>simp only[List.map_cons,List.flatten_cons,ih];rfl
  rw[hfl,this]
 unfold toD
 rw[h.m]
 simp only[if_true,List.drop_zero,List.mapM_cons,List.mapM_nil,h2,true_and,Nat.zero_le]
 simp only[toD_dat]
 rfl
end Go.Mini
namespace Go.Mini
open Go
set_option maxRecDepth 10000
set_option maxHeartbeats 4000000
theorem BS.mat {N go:Nat} {rs:List RowD} {m:Mem} (hl:rs.length=N) (hN:0<N) (h:BS N rs N go m):MatAt go N (augOf rs) false m:=by
 have ht:(augOf rs).take N=augOf rs:=List.take_of_length_le (by rw[aug_len];omega)
 have hp:=h.p hN
 rw[ht] at hp
 exact⟨hp.1,hp.2,by have:=h.r;rw[ht] at this;exact this⟩
theorem MatAt.other {go N:Nat} {rows:List MR} {bad:Bool} {mem:Mem} {k g:Nat} {cs:List MV} (h:MatAt go N rows bad mem) (h1:k≠129015) (h2:k≠129035) (h3:k<900000):MatAt go N rows bad (updM mem k g cs) :=
 ⟨(updM_ne (Ne.symm h1)).trans h.m,(updM_ne (Ne.symm h2)).trans h.o,fun x hx=>(updM_ne (show (x.1+900000:Nat)≠k by omega)).trans (h.r x hx)⟩
theorem aug_ok {N:Nat} {rs:List RowD} (hl:rs.length=N) (h:∀ r∈rs,r.1.length=N∧okRow r):MatOK N (augOf rs):=by
 refine⟨by rw[aug_len,hl],?_,fun x hx=>?_⟩
 ·have:(augOf rs).map (·.1)=List.range rs.length:=by
   unfold augOf
   rw[List.map_map]
   apply List.ext_getElem?
   intro i
   rw[yK,List.getElem?_zipIdx]
   rcases Nat.lt_or_ge i rs.length with h | h
   ·rw[yL h];simp [h]
   ·rw[List.getElem?_eq_none h];simp [h]
  rw[this]
  exact List.nodup_range
 ·unfold augOf at hx
  obtain⟨⟨r,i⟩,hp,rfl⟩:=List.mem_map.1 hx
  have hr:=List.fst_mem_of_mem_zipIdx hp
  obtain⟨h1,h2,h3⟩:=h r hr
  refine⟨by simp [h1],fun f hf=>?_⟩
  rw[List.mem_append,List.mem_singleton] at hf
  rcases hf with hf | rfl
  ·exact h2.2 f hf
  ·exact h3
noncomputable def F_elim:List Data→Option PRes:=FF (α:=(List RowD) × Int × Bool) (fun (rs,n,stop)=>([.sl (rs.map rowL),.int .i64 n,.bool stop]:List Data)) (fun (rs,n,stop)=>onlyIf ((rs.length:Int)=n∧rs.length≤40∧∀ r∈rs,r.1.length=rs.length∧okRow r) (.same (elimD rs.length (elimX stop rs.length 0 (augOf rs) [] false))))
theorem F_elim_inj:∀ a b:(List RowD) × Int × Bool,(fun (rs,n,stop)=>([.sl (rs.map rowL),.int .i64 n,.bool stop]:List Data)) a=(fun (rs,n,stop)=>([.sl (rs.map rowL),.int .i64 n,.bool stop]:List Data)) b→a=b:=by
  rintro⟨rs1,n1,stop1⟩ ⟨rs2,n2,stop2⟩ h
  simp only[yM,Data.sl.injEq,Data.int.injEq,Data.bool.injEq] at h;exact Prod.ext (map_inj rowL_inj _ _ h.1) (Prod.ext h.2.1.2 h.2.2.1)
@[go_sem] theorem F_elim_eq (rs:List RowD) (n:Int) (stop:Bool) (hc:(rs.length:Int)=n∧rs.length≤40∧∀ r∈rs,r.1.length=rs.length∧okRow r):F_elim [.sl (rs.map rowL),.int .i64 n,.bool stop]=some (.same (elimD rs.length (elimX stop rs.length 0 (augOf rs) [] false))):=(FF_eq F_elim_inj (rs,n,stop)).trans (onlyIf_pos hc _)
theorem w_elim (T:Tab) (h_cloneF:T id_slices_Clone_Frac=mkE F_cloneF) (h_pivot:T id_linear_matrix_pivot=mkQ Q_pivot) (rs:List RowD) (n:Int) (stop:Bool) (hc:(rs.length:Int)=n∧rs.length≤40∧∀ r∈rs,r.1.length=rs.length∧okRow r) :
  wp T mf_linear_eliminated.body (endS mf_linear_eliminated.res (.same (elimD rs.length (elimX stop rs.length 0 (augOf rs) [] false)))) ⟨initTm [.dat (.sl (rs.map rowL)),.dat (.int .i64 n),.dat (.bool stop)],emp⟩:=by
 refine wp_start ?_
 simp only[mf_linear_eliminated]
 obtain⟨hn,hN,hrs⟩:=hc
 subst hn
 simp only[go_sem,reduceIte,yA,yB,yC,yD,yE,yH,reduceCtorEq,yF,yG,yI,h_cloneF,h_pivot,yJ]
 generalize hNe:rs.length=N at *
 refine elim_L0 T h_cloneF N rs stop hN hNe hrs _ _ rfl rfl rfl rfl rfl rfl ⟨fun _=>by simp [updM],fun h=>by omega,fun x hx=>by simp at hx,fun j _=>updM_ne (show (j+900000:Nat)≠129015 by omega),updM_ne (by omega),updM_ne (by omega)⟩ ?_
 intro tm m go h1 h2 h8 hb
 rcases Nat.eq_zero_or_pos N with h0 | hpos
 ·have hr0:rs=[]:=List.eq_nil_of_length_eq_zero (by omega)
  have hz:=hb.z h0
  subst h0
  subst hr0
  simp only[go_sem,reduceIte,yA,yB,yC,yD,yE,yH,reduceCtorEq,yF,yG,yI,h_cloneF,h_pivot,h1,h2,h8]
  refine wp_loop_keep [1,2,8] [129015] (fun (_:Unit) tm' m'=>tm' 11 = .ref 129061 (nextO (m 129061)) 1 0 0∧m' 129061=some (nextO (m 129061),[])∧tm' 12 = .dat (.int .i64 0)) (fun _=>0) () (by refine⟨rfl,?_,rfl⟩;simp [updM]) ?_
  intro vs ms hvs hms
  simp only[go_sem,reduceIte,yA,yB,yC,yD,yE,yH,reduceCtorEq,yF,yG,yI,h_cloneF,h_pivot,h1,h2,h8,hz] at hvs hms
  subst hvs hms
  rintro _ tm' m' hk hm ⟨k11,k61,k12⟩
  simp only[go_sem,reduceIte,yA,yB,yC,yD,yE,yH,reduceCtorEq,yF,yG,yI,h_cloneF,h_pivot,yM] at hk hm
  obtain⟨k1,k2,k8⟩:=hk
  simp only[go_sem,reduceIte,yA,yB,yC,yD,yE,yH,reduceCtorEq,yF,yG,yI,h_cloneF,h_pivot,k1,k2,k8,hm,k11,k61,k12,show decide ((0:Int)<((0:Nat):Int))=false from rfl,toD,allDat,List.drop_zero]
  repeat' (first|refine qqA ?_ ?_|refine qqB ?_ ?_|refine qqC ?_ ?_|refine qqD ?_ ?_|refine qqE ?_ ?_|refine qqF ?_ ?_)<;>intro h<;>simp only[h,go_sem,reduceIte,yA,yB,yC,yD,yE,yH,reduceCtorEq,yF,yG,yI,h_cloneF,h_pivot,k1,k2,k8,hm,k11,k61,k12,show decide ((0:Int)<((0:Nat):Int))=false from rfl,toD,allDat,List.drop_zero]
  rfl
 ·have hmat:=hb.mat hNe hpos
  have hok:=aug_ok hNe hrs
  have hp4:=hb.a
  have hp6:=hb.b
  clear hb
  simp only[go_sem,reduceIte,yA,yB,yC,yD,yE,yH,reduceCtorEq,yF,yG,yI,h_cloneF,h_pivot,h1,h2,h8]
  refine wp_loop_keep [1,2,8] [] (fun ((c,rows,free,bad,g):Nat × List MR × List Nat × Bool × Nat) tm m=>c≤N∧free.length≤c∧elimX stop N 0 (augOf rs) [] false=elimX stop (N-c) c rows free bad∧MatOK N rows∧MatAt go N rows bad m∧m 168004=none∧m 168006=none∧tm 11 = .ref 129061 g 1 0 free.length∧m 129061=some (g,rowE natL free)∧tm 12 = .dat (.int .i64 c)) (fun (c,_,_,_,_)=>N-c) (0,augOf rs,[],false,nextO (m 129061)) (by
   refine⟨Nat.zero_le _,Nat.le_refl _,rfl,hok,⟨?_,?_,fun x hx=>?_⟩,?_,?_,rfl,?_,rfl⟩
   ·rw[updM_ne (by omega)];exact hmat.m
   ·rw[updM_ne (by omega)];exact hmat.o
   ·rw[updM_ne (show (x.1+900000:Nat)≠129061 by omega)];exact hmat.r x hx
   ·rw[updM_ne (by omega)];exact hp4
   ·rw[updM_ne (by omega)];exact hp6
   ·simp [updM,rowE]) ?_
  intro vs ms hvs hms
  simp only[go_sem,reduceIte,yA,yB,yC,yD,yE,yH,reduceCtorEq,yF,yG,yI,h_cloneF,h_pivot,h1,h2,h8] at hvs hms
  subst hvs hms
  clear h1 h2 h8 hmat hp4 hp6
  rintro⟨c,rows,free,bad,g⟩ tm m hk hm ⟨hcN,hfc,hel,hok,hmat,hp4,hp6,k11,k61,k12⟩
  simp only[go_sem,reduceIte,yA,yB,yC,yD,yE,yH,reduceCtorEq,yF,yG,yI,h_cloneF,h_pivot,yM] at hk hm
  obtain⟨h1,h2,h8⟩:=hk
  have hm15:=hmat.m
  have hexit:elimX stop N 0 (augOf rs) [] false=(rows,free,bad)→((toD 5 m (.ptr 129015 0 0)).bind fun d=>(toD 5 m (.ref 129061 g 1 0 free.length)).bind fun e=>some (Data.tup [d,e]))=some (elimD N (elimX stop N 0 (augOf rs) [] false)):=by
   intro h
   rw[h,toD_mat (n:=2) hok hmat,toD_row natL_len k61]
   rfl
  have hD1:=toD_mat (n:=2) hok hmat
  have hD2:=toD_row (n:=4) natL_len k61
  rcases Decidable.em (c<N) with hlt | hge
  ·have hcl:decide ((c:Int)<(N:Int))=true:=decide_eq_true (by omega)
   cases bad
   ·have hw1:IntKind.i64.wrap ((c:Int)-(free.length:Int))=((c-free.length:Nat):Int):=by rw[wrap64 _ (by omega) (by omega)];omega
    have hw2:IntKind.i64.wrap ((c:Int)+1)=((c+1:Nat):Int):=by rw[wrap64 _ (by omega) (by omega)];omega
    have hQ:=Q_pivot_eq ⟨go,N,rows,c-free.length,c⟩ m ⟨hok,hmat,hp4,hp6,hN,Nat.sub_le _ _,hlt⟩
    dsimp only at hQ
    have hNc:N-c=(N-(c+1))+1:=by omega
    rw[hNc] at hel
    simp only[elimX] at hel
    have hpo:=hok.piv (r:=c-free.length) (c:=c) (by omega)
    simp only[go_sem,reduceIte,yA,yB,yC,yD,yE,yH,reduceCtorEq,yF,yG,yI,h_cloneF,h_pivot,h_pivot,h1,h2,h8,k11,k12,hm15,hcl,hw1,hQ]
    intro rv m' hR
    obtain⟨hrv,hps⟩:=hR
    dsimp only at hrv hps
    subst hrv
    have q4:m' 168004=none:=(hps.2 _ foreign_note4).trans hp4
    have q6:m' 168006=none:=(hps.2 _ foreign_note6).trans hp6
    have q61:m' 129061=some (g,rowE natL free):=(hps.2 129061 (by unfold foreign;omega)).trans k61
    have hap:appC 129061 g 1 free.length 8 1 [.dat (.int .i64 c)] (some (g,rowE natL free))=_:=app_row natL_len natL_one 129061 g 8 free c rfl (by omega) (by omega)
    generalize hPV:pivX rows (c-free.length) c=pv at *
    obtain⟨pb,prows,pbad⟩:=pv
    dsimp only at *
    cases pb
    ·simp only[yH,if_false] at hel
     simp only[go_sem,reduceIte,yA,yB,yC,yD,yE,yH,reduceCtorEq,yF,yG,yI,h_cloneF,h_pivot,h1,h2,h8,k11,k12,hw2]
     repeat' (first|refine qqA ?_ ?_|refine qqB ?_ ?_|refine qqC ?_ ?_|refine qqD ?_ ?_|refine qqE ?_ ?_|refine qqF ?_ ?_)<;>intro h<;>simp only[h,go_sem,reduceIte,yA,yB,yC,yD,yE,yH,reduceCtorEq,yF,yG,yI,h_cloneF,h_pivot,h1,h2,h8,k11,k12,hw2]
     exact⟨(c+1,prows,free,pbad,g),by dsimp only;omega,by dsimp only;omega,by dsimp only;omega,hel,hpo,hps.1,q4,q6,rfl,q61,rfl⟩
    ·simp only[if_true] at hel
     have hma:=hps.1.other (k:=129061) (g:=g+1) (cs:=rowE natL (free++[c])) (by omega) (by omega) (by omega)
     cases stop
     ·simp only[yH,if_false] at hel
      simp only[go_sem,reduceIte,yA,yB,yC,yD,yE,yH,reduceCtorEq,yF,yG,yI,h_cloneF,h_pivot,h1,h2,h8,k11,k12,hw2,q61,hap]
      repeat' (first|refine qqA ?_ ?_|refine qqB ?_ ?_|refine qqC ?_ ?_|refine qqD ?_ ?_|refine qqE ?_ ?_|refine qqF ?_ ?_)<;>intro h<;>simp only[h,go_sem,reduceIte,yA,yB,yC,yD,yE,yH,reduceCtorEq,yF,yG,yI,h_cloneF,h_pivot,h1,h2,h8,k11,k12,hw2,q61,hap]
      exact⟨(c+1,prows,free++[c],pbad,g+1),by dsimp only;omega,by dsimp only;omega,by simp;omega,hel,hpo,hma,q4,q6,by simp,rfl,rfl⟩
     ·simp only[if_true] at hel
      simp only[go_sem,reduceIte,yA,yB,yC,yD,yE,yH,reduceCtorEq,yF,yG,yI,h_cloneF,h_pivot,h1,h2,h8,k11,k12,hw2,q61,hap]
      repeat' (first|refine qqA ?_ ?_|refine qqB ?_ ?_|refine qqC ?_ ?_|refine qqD ?_ ?_|refine qqE ?_ ?_|refine qqF ?_ ?_)<;>intro h<;>simp only[h,go_sem,reduceIte,yA,yB,yC,yD,yE,yH,reduceCtorEq,yF,yG,yI,h_cloneF,h_pivot,h1,h2,h8,k11,k12,hw2,q61,hap]
      have hf1:free.length+1=(free++[c]).length:=by simp
      rw[toD_mat (n:=2) hpo hma,hf1,toD_row (n:=4) natL_len (g:=g+1) (l:=free++[c]) (by simp [updM]),hel]
      rfl
   ·rw[elimX_bad] at hel
    simp only[go_sem,reduceIte,yA,yB,yC,yD,yE,yH,reduceCtorEq,yF,yG,yI,h_cloneF,h_pivot,h1,h2,h8,k11,k12,hm15,hcl,hD1,hD2]
    repeat' (first|refine qqA ?_ ?_|refine qqB ?_ ?_|refine qqC ?_ ?_|refine qqD ?_ ?_|refine qqE ?_ ?_|refine qqF ?_ ?_)<;>intro h<;>simp only[h,go_sem,reduceIte,yA,yB,yC,yD,yE,yH,reduceCtorEq,yF,yG,yI,h_cloneF,h_pivot,h1,h2,h8,k11,k12,hm15,hcl,hD1,hD2]
    rw[hel]
    rfl
  ·have hcl:decide ((c:Int)<(N:Int))=false:=decide_eq_false (by omega)
   have hNc:N-c=0:=by omega
   rw[hNc] at hel
   simp only[elimX] at hel
   simp only[go_sem,reduceIte,yA,yB,yC,yD,yE,yH,reduceCtorEq,yF,yG,yI,h_cloneF,h_pivot,h1,h2,h8,k11,k12,hm15,hcl,hD1,hD2]
   repeat' (first|refine qqA ?_ ?_|refine qqB ?_ ?_|refine qqC ?_ ?_|refine qqD ?_ ?_|refine qqE ?_ ?_|refine qqF ?_ ?_)<;>intro h<;>simp only[h,go_sem,reduceIte,yA,yB,yC,yD,yE,yH,reduceCtorEq,yF,yG,yI,h_cloneF,h_pivot,h1,h2,h8,k11,k12,hm15,hcl,hD1,hD2]
   rw[hel]
   rfl
end Go.Mini
namespace Go.Mini
open Go
set_option maxRecDepth 10000
set_option maxHeartbeats 4000000
theorem rightS_ok {rs:List RowD} {n:Int} (ho:okRows rs) (h:rightS rs n=true):(rs.length:Int)=n∧rs.length≤40∧∀ r∈rs,r.1.length=rs.length∧okRow r:=by
 unfold rightS at h
 simp only[Bool.and_eq_true,Bool.not_eq_true',decide_eq_false_iff_not,beq_iff_eq] at h
 obtain⟨h1,h2,h3,h4⟩:=h
 refine⟨h3,by omega,fun r hr=>⟨?_,ho.2 r hr⟩⟩
 rw[List.any_eq_false] at h4
 have:=h4 r hr
 unfold badRow at this
 simp at this
 omega
theorem elimX_ok {stop:Bool} {N:Nat}:∀ (k c:Nat) (rows:List MR) (free:List Nat) (bad:Bool),c+k=N→MatOK N rows→MatOK N (elimX stop k c rows free bad).1
 | 0,_,rows,_,_,_,h=>h
 | k+1,c,rows,free,true,hc,h=>h
 | k+1,c,rows,free,false,hc,h=>by
  have hp:=h.piv (r:=c-free.length) (c:=c) (by omega)
  unfold elimX
  split
  ·split
   ·exact hp
   ·exact elimX_ok k (c+1) _ _ _ (by omega) hp
  ·exact elimX_ok k (c+1) _ _ _ (by omega) hp
def elimS (stop:Bool) (rs:List RowD):List MR × List Nat × Bool:=elimX stop rs.length 0 (augOf rs) [] false
theorem elimX_free (stop:Bool):∀ (k c:Nat) (rows:List MR) (free:List Nat) (bad:Bool),(elimX stop k c rows free bad).2.1.length≤free.length+k
 | 0,_,_,_,_=>by simp [elimX]
 | k+1,c,rows,free,true=>by simp [elimX]
 | k+1,c,rows,free,false=>by
  unfold elimX
  split
  ·split
   ·simp
   ·have:=elimX_free stop k (c+1) (pivX rows (c-free.length) c).2.1 (free++[c]) (pivX rows (c-free.length) c).2.2
    simp at this;omega
  ·have:=elimX_free stop k (c+1) (pivX rows (c-free.length) c).2.1 free (pivX rows (c-free.length) c).2.2
   omega
theorem elimS_free (stop:Bool) (rs:List RowD):(elimS stop rs).2.1.length≤rs.length:=by
 have:=elimX_free stop rs.length 0 (augOf rs) [] false
 unfold elimS
 simpa using this
theorem elimS_ok {rs:List RowD} {stop:Bool} (h:∀ r∈rs,r.1.length=rs.length∧okRow r):MatOK rs.length (elimS stop rs).1:=elimX_ok _ _ _ _ _ (by omega) (aug_ok rfl h)
def rankX (rs:List RowD) (n:Int):Int × Int:=if rightS rs n=true then (if (elimS false rs).2.2=true then (0,6) else (n-(elimS false rs).2.1.length,0)) else (0,1)
noncomputable def F_linRank:List Data→Option PRes:=FF (α:=(List RowD) × Int) (fun (rs,n)=>([.sl (rs.map rowL),.int .i64 n]:List Data)) (fun (rs,n)=>onlyIf (okRows rs) (.same (.tup [.int .i64 (rankX rs n).1,.int .i64 (rankX rs n).2])))
theorem F_linRank_inj:∀ a b:(List RowD) × Int,(fun (rs,n)=>([.sl (rs.map rowL),.int .i64 n]:List Data)) a=(fun (rs,n)=>([.sl (rs.map rowL),.int .i64 n]:List Data)) b→a=b:=by
  rintro⟨rs1,n1⟩ ⟨rs2,n2⟩ h
  simp only[yM,Data.sl.injEq,Data.int.injEq] at h;exact Prod.ext (map_inj rowL_inj _ _ h.1) h.2.1.2
@[go_sem] theorem F_linRank_eq (rs:List RowD) (n:Int) (hc:okRows rs):F_linRank [.sl (rs.map rowL),.int .i64 n]=some (.same (.tup [.int .i64 (rankX rs n).1,.int .i64 (rankX rs n).2])):=(FF_eq F_linRank_inj (rs,n)).trans (onlyIf_pos hc _)
theorem w_linRank (T:Tab) (h_linRight:T id_linear_Right=mkE F_linRight) (h_elim:T id_linear_eliminated=mkE F_elim) (rs:List RowD) (n:Int) (hc:okRows rs) :
  wp T mf_linear_Rank.body (endS mf_linear_Rank.res (.same (.tup [.int .i64 (rankX rs n).1,.int .i64 (rankX rs n).2]))) ⟨initTm [.dat (.sl (rs.map rowL)),.dat (.int .i64 n)],emp⟩:=by
 refine wp_start ?_
 simp only[mf_linear_Rank]
 unfold rankX
 rcases hr:rightS rs n
 ·simp only[go_sem,reduceIte,yA,yB,yC,yD,yE,yH,reduceCtorEq,yF,yG,yI,h_linRight,h_elim,hc,hr]
  repeat' (first|refine qqA ?_ ?_|refine qqB ?_ ?_|refine qqC ?_ ?_|refine qqD ?_ ?_|refine qqE ?_ ?_|refine qqF ?_ ?_)<;>intro h<;>simp only[h,go_sem,reduceIte,yA,yB,yC,yD,yE,yH,reduceCtorEq,yF,yG,yI,h_linRight,h_elim,hc,hr]
 ·have hr':=rightS_ok hc hr
  obtain⟨hn,hN,-⟩:=hr'
  have hF:F_elim [.sl (rs.map rowL),.int .i64 n,.bool false]=some (.same (elimD rs.length (elimS false rs))):=F_elim_eq rs n false (rightS_ok hc hr)
  have hfl:=elimS_free false rs
  rcases hP:elimS false rs with ⟨rows,free,bad⟩
  rw[hP] at hfl hF
  dsimp only at hfl
  simp only[elimD,matD] at hF
  have hw:IntKind.i64.wrap (n-(free.length:Int))=n-(free.length:Int):=wrap64 _ (by omega) (by omega)
  cases bad
  ·simp only[go_sem,reduceIte,yA,yB,yC,yD,yE,yH,reduceCtorEq,yF,yG,yI,h_linRight,h_elim,hc,hr,hF,hw,yJ]
   repeat' (first|refine qqA ?_ ?_|refine qqB ?_ ?_|refine qqC ?_ ?_|refine qqD ?_ ?_|refine qqE ?_ ?_|refine qqF ?_ ?_)<;>intro h<;>simp only[h,go_sem,reduceIte,yA,yB,yC,yD,yE,yH,reduceCtorEq,yF,yG,yI,h_linRight,h_elim,hc,hr,hF,hw,yJ]
  ·simp only[go_sem,reduceIte,yA,yB,yC,yD,yE,yH,reduceCtorEq,yF,yG,yI,h_linRight,h_elim,hc,hr,hF,hw,yJ]
   repeat' (first|refine qqA ?_ ?_|refine qqB ?_ ?_|refine qqC ?_ ?_|refine qqD ?_ ?_|refine qqE ?_ ?_|refine qqF ?_ ?_)<;>intro h<;>simp only[h,go_sem,reduceIte,yA,yB,yC,yD,yE,yH,reduceCtorEq,yF,yG,yI,h_linRight,h_elim,hc,hr,hF,hw,yJ]
def lastOf (N:Nat) (x:MR):FRaw:=x.2.2.getD N zeroF
def solveX (rs:List RowD) (n:Int):List FRaw × Int :=
 if rightS rs n=true then (if (elimS true rs).2.2=true then ([],6) else if (elimS true rs).2.1.length>0 then ([],17) else ((elimS true rs).1.map (lastOf rs.length),0)) else ([],1)
theorem last_get {N:Nat} {x:MR} {f:FRaw} (h:x.2.2[N]?=some f):lastOf N x=f:=by
 unfold lastOf
 rw[List.getD_eq_getElem?_getD,h]
 rfl
noncomputable def F_linSolve:List Data→Option PRes:=FF (α:=(List RowD) × Int) (fun (rs,n)=>([.sl (rs.map rowL),.int .i64 n]:List Data)) (fun (rs,n)=>onlyIf (okRows rs) (.same (.tup [.sl ((solveX rs n).1.map fracL),.int .i64 (solveX rs n).2])))
theorem F_linSolve_inj:∀ a b:(List RowD) × Int,(fun (rs,n)=>([.sl (rs.map rowL),.int .i64 n]:List Data)) a=(fun (rs,n)=>([.sl (rs.map rowL),.int .i64 n]:List Data)) b→a=b:=by
  rintro⟨rs1,n1⟩ ⟨rs2,n2⟩ h
  simp only[yM,Data.sl.injEq,Data.int.injEq] at h;exact Prod.ext (map_inj rowL_inj _ _ h.1) h.2.1.2
@[go_sem] theorem F_linSolve_eq (rs:List RowD) (n:Int) (hc:okRows rs):F_linSolve [.sl (rs.map rowL),.int .i64 n]=some (.same (.tup [.sl ((solveX rs n).1.map fracL),.int .i64 (solveX rs n).2])):=(FF_eq F_linSolve_inj (rs,n)).trans (onlyIf_pos hc _)
theorem w_linSolve (T:Tab) (h_linRight:T id_linear_Right=mkE F_linRight) (h_elim:T id_linear_eliminated=mkE F_elim) (rs:List RowD) (n:Int) (hc:okRows rs) :
  wp T mf_linear_Solve.body (endS mf_linear_Solve.res (.same (.tup [.sl ((solveX rs n).1.map fracL),.int .i64 (solveX rs n).2]))) ⟨initTm [.dat (.sl (rs.map rowL)),.dat (.int .i64 n)],emp⟩:=by
 refine wp_start ?_
 simp only[mf_linear_Solve]
 unfold solveX
 rcases hr:rightS rs n
 ·simp only[go_sem,reduceIte,yA,yB,yC,yD,yE,yH,reduceCtorEq,yF,yG,yI,h_linRight,h_elim,hc,hr,List.map_nil]
  repeat' (first|refine qqA ?_ ?_|refine qqB ?_ ?_|refine qqC ?_ ?_|refine qqD ?_ ?_|refine qqE ?_ ?_|refine qqF ?_ ?_)<;>intro h<;>simp only[h,go_sem,reduceIte,yA,yB,yC,yD,yE,yH,reduceCtorEq,yF,yG,yI,h_linRight,h_elim,hc,hr,List.map_nil]
 ·have hok:=elimS_ok (stop:=true) (rightS_ok hc hr).2.2
  have hF:F_elim [.sl (rs.map rowL),.int .i64 n,.bool true]=some (.same (elimD rs.length (elimS true rs))):=F_elim_eq rs n true (rightS_ok hc hr)
  have hfl:=elimS_free true rs
  obtain⟨hn,hN,-⟩:=rightS_ok hc hr
  rcases hP:elimS true rs with ⟨rows,free,bad⟩
  rw[hP] at hfl hok hF
  dsimp only at hfl hok
  simp only[elimD,matD] at hF
  cases bad
  ·cases free with
   | nil =>
    simp only[go_sem,reduceIte,yA,yB,yC,yD,yE,yH,reduceCtorEq,yF,yG,yI,h_linRight,h_elim,hc,hr,hF,yJ,show decide (((0:Nat):Int)>0)=false from rfl,List.map_nil]
    rw[if_neg (by simp)]
    refine wp_loop_keep [1,33,34] [] (fun ((i,g):Nat × Nat) tm m=>i≤rs.length∧tm 35 = .dat (.int .i64 i)∧tm 8 = .ref 109045 g 4 0 i∧m 109045=some (g,rowE fracL ((rows.take i).map (lastOf rs.length)))) (fun (i,_)=>rs.length-i) (0,0) (by refine⟨Nat.zero_le _,rfl,rfl,?_⟩;simp [updM,rowE,nextG,emp]) ?_
    intro vs ms hvs hms
    simp only[go_sem,reduceIte,yA,yB,yC,yD,yE,yH,reduceCtorEq,yF,yG,yI,h_linRight,h_elim] at hvs hms
    subst hvs hms
    rintro⟨i,g⟩ tm m hk hm ⟨hiN,h35,h8,hm45⟩
    simp only[go_sem,reduceIte,yA,yB,yC,yD,yE,yH,reduceCtorEq,yF,yG,yI,h_linRight,h_elim,yM] at hk hm
    obtain⟨h1,h33,h34⟩:=hk
    have hrl:=hok.len
    rcases Decidable.em (i<rs.length) with hlt | hge
    ·obtain⟨x,hx⟩:∃ x,rows[i]?=some x:=⟨_,yL (by omega)⟩
     obtain⟨hxl,hxo⟩:=hok.row x (List.mem_of_getElem? hx)
     obtain⟨⟨⟨a1,a2⟩,⟨a3,a4⟩⟩,hfk⟩:∃ f,x.2.2[rs.length]?=some f:=⟨_,yL (by omega)⟩
     have hla:=last_get hfk
     have htl:((rows.take i).map (lastOf rs.length)).length=i:=by rw[yJ,List.length_take];omega
     have hap:=app_row fracL_len fracL_one 109045 g 64 ((rows.take i).map (lastOf rs.length)) ((a1,a2),(a3,a4)) (cs:=[.dat (.int .i64 a1),.dat (.sl (a2.map i64L)),.dat (.int .i64 a3),.dat (.sl (a4.map i64L))]) rfl (by omega) (by omega)
     rw[htl] at hap
     have hnt:(rows.take (i+1)).map (lastOf rs.length)=(rows.take i).map (lastOf rs.length)++[((a1,a2),(a3,a4))]:=by
      rw[List.take_add_one,hx,List.map_append]
      simp [hla]
     have hil:decide ((i:Int)<(rs.length:Int))=true:=decide_eq_true (by omega)
     have hil2:decide ((i:Int)<(rows.length:Int))=true:=decide_eq_true (by omega)
     have hw:IntKind.i64.wrap ((i:Int)+1)=((i+1:Nat):Int):=by rw[wrap64 _ (by omega) (by omega)];omega
     have hn0:decide (0≤n)=true:=decide_eq_true (by omega)
     have hix:n=((rs.length:Nat):Int):=hn.symm
     simp only[go_sem,reduceIte,yA,yB,yC,yD,yE,yH,reduceCtorEq,yF,yG,yI,h_linRight,h_elim,h1,h33,h34,h35,h8,hm45,hx,hfk,hap,hil,hil2,hw,hix,yJ,yK,fracL]
     repeat' (first|refine qqA ?_ ?_|refine qqB ?_ ?_|refine qqC ?_ ?_|refine qqD ?_ ?_|refine qqE ?_ ?_|refine qqF ?_ ?_)<;>intro h<;>simp only[h,go_sem,reduceIte,yA,yB,yC,yD,yE,yH,reduceCtorEq,yF,yG,yI,h_linRight,h_elim,h1,h33,h34,h35,h8,hm45,hx,hfk,hap,hil,hil2,hw,hix,yJ,yK,fracL]
     exact⟨(i+1,g+1),by dsimp only;omega,by dsimp only;omega,rfl,rfl,by dsimp only;rw[hnt]⟩
    ·have hin:i=rs.length:=by omega
     have hil2:decide ((i:Int)<(rows.length:Int))=false:=decide_eq_false (by omega)
     have hall:rows.take i=rows:=List.take_of_length_le (by omega)
     rw[hall] at hm45
     have hD:∀ n,toD (n+1) m (.ref 109045 g 4 0 i)=some (.sl ((rows.map (lastOf rs.length)).map fracL)):=fun n=>by
      have:=toD_row (n:=n) fracL_len hm45
      rw[show (rows.map (lastOf rs.length)).length=i by rw[yJ];omega] at this
      exact this
     have hD5:=hD 4
     simp only[go_sem,reduceIte,yA,yB,yC,yD,yE,yH,reduceCtorEq,yF,yG,yI,h_linRight,h_elim,h1,h33,h34,h35,h8,hil2,hD5]
     repeat' (first|refine qqA ?_ ?_|refine qqB ?_ ?_|refine qqC ?_ ?_|refine qqD ?_ ?_|refine qqE ?_ ?_|refine qqF ?_ ?_)<;>intro h<;>simp only[h,go_sem,reduceIte,yA,yB,yC,yD,yE,yH,reduceCtorEq,yF,yG,yI,h_linRight,h_elim,h1,h33,h34,h35,h8,hil2,hD5]
   | cons f fs =>
    have hgt:decide ((((f::fs).length:Nat):Int)>0)=true:=decide_eq_true (by simp only[List.length_cons];omega)
    simp only[List.length_cons] at hgt
    simp only[go_sem,reduceIte,yA,yB,yC,yD,yE,yH,reduceCtorEq,yF,yG,yI,h_linRight,h_elim,hc,hr,hF,yJ,hgt,List.map_nil]
    repeat' (first|refine qqA ?_ ?_|refine qqB ?_ ?_|refine qqC ?_ ?_|refine qqD ?_ ?_|refine qqE ?_ ?_|refine qqF ?_ ?_)<;>intro h<;>simp only[h,go_sem,reduceIte,yA,yB,yC,yD,yE,yH,reduceCtorEq,yF,yG,yI,h_linRight,h_elim,hc,hr,hF,yJ,hgt,List.map_nil]
    rw[if_pos (by omega)]
    rfl
  ·simp only[go_sem,reduceIte,yA,yB,yC,yD,yE,yH,reduceCtorEq,yF,yG,yI,h_linRight,h_elim,hc,hr,hF,yJ,List.map_nil]
   repeat' (first|refine qqA ?_ ?_|refine qqB ?_ ?_|refine qqC ?_ ?_|refine qqD ?_ ?_|refine qqE ?_ ?_|refine qqF ?_ ?_)<;>intro h<;>simp only[h,go_sem,reduceIte,yA,yB,yC,yD,yE,yH,reduceCtorEq,yF,yG,yI,h_linRight,h_elim,hc,hr,hF,yJ,List.map_nil]
end Go.Mini
namespace Go.Mini
open Go
def mf_math_bits_Mul:MFunc :=
 { n:=30,np:=2,res:=[.t 4,.t 5],body :=
 (.seq (.ops [
 ⟨some 4,none,.mv (.c (.dat (.int .u64 0)))⟩,⟨some 5,none,.mv (.c (.dat (.int .u64 0)))⟩])
 (.seq (.cond (.c (.dat (.bool false)))
 (.seq (.ops [
 ⟨some 11,none,.mv (.t 0)⟩,⟨some 12,none,.conv .u32 (.t 11)⟩,⟨some 13,none,.mv (.t 1)⟩,⟨some 14,none,.conv .u32 (.t 13)⟩,⟨some 15,none,.call id_math_bits_Mul32 [(.t 12),(.t 14)]⟩,⟨some 10,none,.mv (.t 15)⟩,⟨some 16,none,.ext 0 (.t 10)⟩,⟨some 17,none,.ext 1 (.t 10)⟩,⟨some 6,none,.mv (.t 16)⟩,⟨some 7,none,.mv (.t 17)⟩])
 (.seq (.ops [
 ⟨some 18,none,.mv (.t 6)⟩,⟨some 19,none,.conv .u64 (.t 18)⟩,⟨some 20,none,.mv (.t 7)⟩,⟨some 21,none,.conv .u64 (.t 20)⟩,⟨some 4,none,.mv (.t 19)⟩,⟨some 5,none,.mv (.t 21)⟩])
 .ret))
 .skip)
 (.seq (.ops [
 ⟨some 23,none,.mv (.t 0)⟩,⟨some 24,none,.mv (.t 1)⟩,⟨some 25,none,.call id_math_bits_Mul64 [(.t 23),(.t 24)]⟩,⟨some 22,none,.mv (.t 25)⟩,⟨some 26,none,.ext 0 (.t 22)⟩,⟨some 27,none,.ext 1 (.t 22)⟩,⟨some 8,none,.mv (.t 26)⟩,⟨some 9,none,.mv (.t 27)⟩])
 (.seq (.ops [
 ⟨some 28,none,.mv (.t 8)⟩,⟨some 29,none,.mv (.t 9)⟩,⟨some 4,none,.mv (.t 28)⟩,⟨some 5,none,.mv (.t 29)⟩])
 .ret)))) }
def mf_math_bits_Mul64:MFunc :=
 { n:=51,np:=2,res:=[.t 4,.t 5],body :=
 (.seq (.ops [
 ⟨some 4,none,.mv (.c (.dat (.int .u64 0)))⟩,⟨some 5,none,.mv (.c (.dat (.int .u64 0)))⟩])
 (.seq (.ops [
 ⟨some 14,none,.mv (.t 0)⟩,⟨some 15,none,.bin .and (.t 14) (.c (.dat (.int .u64 4294967295)))⟩,⟨some 6,none,.mv (.t 15)⟩])
 (.seq (.ops [
 ⟨some 16,none,.mv (.t 0)⟩,⟨some 17,none,.bin .shr (.t 16) (.c (.dat (.int .u64 32)))⟩,⟨some 7,none,.mv (.t 17)⟩])
 (.seq (.ops [
 ⟨some 18,none,.mv (.t 1)⟩,⟨some 19,none,.bin .and (.t 18) (.c (.dat (.int .u64 4294967295)))⟩,⟨some 8,none,.mv (.t 19)⟩])
 (.seq (.ops [
 ⟨some 20,none,.mv (.t 1)⟩,⟨some 21,none,.bin .shr (.t 20) (.c (.dat (.int .u64 32)))⟩,⟨some 9,none,.mv (.t 21)⟩])
 (.seq (.ops [
 ⟨some 22,none,.mv (.t 6)⟩,⟨some 23,none,.mv (.t 8)⟩,⟨some 24,none,.bin .mul (.t 22) (.t 23)⟩,⟨some 10,none,.mv (.t 24)⟩])
 (.seq (.ops [
 ⟨some 25,none,.mv (.t 7)⟩,⟨some 26,none,.mv (.t 8)⟩,⟨some 27,none,.bin .mul (.t 25) (.t 26)⟩,⟨some 28,none,.mv (.t 10)⟩,⟨some 29,none,.bin .shr (.t 28) (.c (.dat (.int .u64 32)))⟩,⟨some 30,none,.bin .add (.t 27) (.t 29)⟩,⟨some 11,none,.mv (.t 30)⟩])
 (.seq (.ops [
 ⟨some 31,none,.mv (.t 11)⟩,⟨some 32,none,.bin .and (.t 31) (.c (.dat (.int .u64 4294967295)))⟩,⟨some 12,none,.mv (.t 32)⟩])
 (.seq (.ops [
 ⟨some 33,none,.mv (.t 11)⟩,⟨some 34,none,.bin .shr (.t 33) (.c (.dat (.int .u64 32)))⟩,⟨some 13,none,.mv (.t 34)⟩])
 (.seq (.ops [
 ⟨some 35,none,.mv (.t 12)⟩,⟨some 36,none,.mv (.t 6)⟩,⟨some 37,none,.mv (.t 9)⟩,⟨some 38,none,.bin .mul (.t 36) (.t 37)⟩,⟨some 39,none,.bin .add (.t 35) (.t 38)⟩,⟨some 12,none,.mv (.t 39)⟩])
 (.seq (.ops [
 ⟨some 40,none,.mv (.t 7)⟩,⟨some 41,none,.mv (.t 9)⟩,⟨some 42,none,.bin .mul (.t 40) (.t 41)⟩,⟨some 43,none,.mv (.t 13)⟩,⟨some 44,none,.bin .add (.t 42) (.t 43)⟩,⟨some 45,none,.mv (.t 12)⟩,⟨some 46,none,.bin .shr (.t 45) (.c (.dat (.int .u64 32)))⟩,⟨some 47,none,.bin .add (.t 44) (.t 46)⟩,⟨some 4,none,.mv (.t 47)⟩])
 (.seq (.ops [
 ⟨some 48,none,.mv (.t 0)⟩,⟨some 49,none,.mv (.t 1)⟩,⟨some 50,none,.bin .mul (.t 48) (.t 49)⟩,⟨some 5,none,.mv (.t 50)⟩])
 .ret)))))))))))) }
end Go.Mini
namespace Go.Mini
open Go
set_option maxRecDepth 10000
set_option maxHeartbeats 4000000
theorem small_and:∀ y:Nat,y<41→bits .and .u64 (y:Int) 4294967295=y:=by decide
theorem small_shr (y:Nat) (h:y<41):(y:Int).fdiv 4294967296=0:=by
 rw[Int.fdiv_eq_ediv_of_nonneg _ (by omega)];omega
noncomputable def F_mul64:List Data→Option PRes:=FF (α:=Nat) (fun (y:Nat)=>([.int .u64 1,.int .u64 y]:List Data)) (fun (y:Nat)=>onlyIf (y<41) (.same (.tup [.int .u64 0,.int .u64 y])))
theorem F_mul64_inj:∀ a b:Nat,(fun (y:Nat)=>([.int .u64 1,.int .u64 y]:List Data)) a=(fun (y:Nat)=>([.int .u64 1,.int .u64 y]:List Data)) b→a=b:=by
  intro y1 y2 h
  simp only[yM,Data.int.injEq] at h;omega
@[go_sem] theorem F_mul64_eq (y:Nat) (hc:y<41):F_mul64 [.int .u64 1,.int .u64 y]=some (.same (.tup [.int .u64 0,.int .u64 y])):=(FF_eq F_mul64_inj y).trans (onlyIf_pos hc _)
theorem w_mul64 (T:Tab)  (y:Nat) (hc:y<41) :
  wp T mf_math_bits_Mul64.body (endS mf_math_bits_Mul64.res (.same (.tup [.int .u64 0,.int .u64 y]))) ⟨initTm [.dat (.int .u64 1),.dat (.int .u64 y)],emp⟩:=by
 refine wp_start ?_
 simp only[mf_math_bits_Mul64]
 have h1:=small_and y hc
 have h2:=small_shr y hc
 have h3:=small_and 1 (by omega)
 have h4:=small_and 0 (by omega)
 have h5:((1:Int)).fdiv 4294967296=0:=by decide
 have h6:((0:Int)).fdiv 4294967296=0:=by decide
 have hw:∀ x:Int,0≤x∧x<18446744073709551616→IntKind.u64.wrap x=x:=fun x h=>wrapu64 x h
 have w0:=hw 0 (by omega)
 have w1:=hw y (by omega)
 simp only[Int.natCast_zero,Int.cast_ofNat_Int,Int.natCast_one] at h3 h4
 simp only[go_sem,reduceIte,yA,yB,yC,yD,yE,yH,reduceCtorEq,yF,yG,yI,h1,h2,h3,h4,h5,h6,w0,w1,show ((32:Int)<0)=False from by simp,if_false,show (2:Int)^min (Int.toNat 32) 64=4294967296 from rfl,Int.one_mul,Int.zero_mul,Int.mul_zero,Int.add_zero,Int.zero_add]
 repeat' (first|refine qqA ?_ ?_|refine qqB ?_ ?_|refine qqC ?_ ?_|refine qqD ?_ ?_|refine qqE ?_ ?_|refine qqF ?_ ?_)<;>intro h<;>simp only[h,go_sem,reduceIte,yA,yB,yC,yD,yE,yH,reduceCtorEq,yF,yG,yI,h1,h2,h3,h4,h5,h6,w0,w1,show ((32:Int)<0)=False from by simp,if_false,show (2:Int)^min (Int.toNat 32) 64=4294967296 from rfl,Int.one_mul,Int.zero_mul,Int.mul_zero,Int.add_zero,Int.zero_add]
noncomputable def F_bmul:List Data→Option PRes:=FF (α:=Nat) (fun (y:Nat)=>([.int .u64 1,.int .u64 y]:List Data)) (fun (y:Nat)=>onlyIf (y<41) (.same (.tup [.int .u64 0,.int .u64 y])))
theorem F_bmul_inj:∀ a b:Nat,(fun (y:Nat)=>([.int .u64 1,.int .u64 y]:List Data)) a=(fun (y:Nat)=>([.int .u64 1,.int .u64 y]:List Data)) b→a=b:=by
  intro y1 y2 h
  simp only[yM,Data.int.injEq] at h;omega
@[go_sem] theorem F_bmul_eq (y:Nat) (hc:y<41):F_bmul [.int .u64 1,.int .u64 y]=some (.same (.tup [.int .u64 0,.int .u64 y])):=(FF_eq F_bmul_inj y).trans (onlyIf_pos hc _)
theorem w_bmul (T:Tab) (h_mul64:T id_math_bits_Mul64=mkE F_mul64) (y:Nat) (hc:y<41) :
  wp T mf_math_bits_Mul.body (endS mf_math_bits_Mul.res (.same (.tup [.int .u64 0,.int .u64 y]))) ⟨initTm [.dat (.int .u64 1),.dat (.int .u64 y)],emp⟩:=by
 refine wp_start ?_
 simp only[mf_math_bits_Mul]
 simp only[go_sem,reduceIte,yA,yB,yC,yD,yE,yH,reduceCtorEq,yF,yG,yI,h_mul64,hc]
 repeat' (first|refine qqA ?_ ?_|refine qqB ?_ ?_|refine qqC ?_ ?_|refine qqD ?_ ?_|refine qqE ?_ ?_|refine qqF ?_ ?_)<;>intro h<;>simp only[h,go_sem,reduceIte,yA,yB,yC,yD,yE,yH,reduceCtorEq,yF,yG,yI,h_mul64,hc]
theorem repl_len {α:Type} {A:List α} {k:Nat} (hA:A.length=k) (n:Nat):(List.replicate n A).flatten.length=n*k:=by
 rw[List.length_flatten,List.map_replicate,hA,List.sum_replicate_nat]
theorem repl_take {α:Type} {A:List α} {k:Nat} (hA:A.length=k) {q j:Nat} (h:q≤j):(List.replicate j A).flatten.take (q*k)=(List.replicate q A).flatten:=by
 obtain⟨d,rfl⟩:=Nat.exists_eq_add_of_le h
 rw[←List.replicate_append_replicate,List.flatten_append,List.take_append_of_le_length (by rw[repl_len hA];omega),List.take_of_length_le (by rw[repl_len hA];omega)]
theorem repl_drop {α:Type} {A:List α} {k:Nat} (hA:A.length=k) {q j:Nat} (h:q≤j):(List.replicate j A).flatten.drop (q*k)=(List.replicate (j-q) A).flatten:=by
 obtain⟨d,rfl⟩:=Nat.exists_eq_add_of_le h
 rw[←List.replicate_append_replicate,List.flatten_append,List.drop_append,List.drop_eq_nil_of_le (by rw[repl_len hA];omega),repl_len hA,Nat.sub_self,List.drop_zero,List.nil_append,Nat.add_sub_cancel_left]
def zeroC:List MV:=[.dat (.int .i64 0),.nil,.dat (.int .i64 0),.nil]
/-- N elements, of which j are filled. -/
def repC (A:List MV) (N j:Nat):List MV:=(List.replicate j A).flatten++(List.replicate (N-j) zeroC).flatten
theorem repC_len {A:List MV} (hA:A.length=4) {N j:Nat} (h:j≤N):(repC A N j).length=N*4:=by
 unfold repC
 rw[List.length_append,repl_len hA,repl_len (show zeroC.length=4 from rfl)]
 omega
theorem repC_step {A:List MV} (hA:A.length=4) {N j q:Nat} (h:j+q≤N):(repC A N j).take (j*4)++(List.replicate q A).flatten++(repC A N j).drop (j*4+q*4)=repC A N (j+q):=by
 unfold repC
 rw[List.take_append_of_le_length (by rw[repl_len hA];omega),List.take_of_length_le (by rw[repl_len hA];omega),List.drop_append,List.drop_eq_nil_of_le (by rw[repl_len hA];omega),repl_len hA,Nat.add_sub_cancel_left,repl_drop (show zeroC.length=4 from rfl) (by omega),List.nil_append,←List.replicate_append_replicate (n:=j),List.flatten_append,Nat.sub_sub]
theorem repC_take {A:List MV} (hA:A.length=4) {N j:Nat}:(repC A N j).take (j*4)=(List.replicate j A).flatten:=by
 unfold repC
 rw[List.take_append_of_le_length (by rw[repl_len hA];omega),List.take_of_length_le (by rw[repl_len hA];omega)]
theorem repl_one {A:List MV} (h:A.all MV.one=true) (q:Nat):(List.replicate q A).flatten.all MV.one=true:=by
 induction q with
 | zero=>rfl
 | succ n ih=>rw[List.replicate_succ,List.flatten_cons,List.all_append,h,ih];rfl
theorem repC_all (f:FRaw) (N:Nat):repC ((fracL f).map .dat) N N=rowE fracL (List.replicate N f):=by
 unfold repC rowE
 rw[Nat.sub_self,List.map_replicate]
 simp only[List.replicate_zero,List.flatten_nil,List.append_nil]
 induction N with
 | zero=>rfl
 | succ n ih=>rw[List.replicate_succ,List.flatten_cons,List.replicate_succ,List.flatten_cons,List.map_append,ih]
theorem cpy_first {A:List MV} (hA:A.length=4) (h1:A.all MV.one=true) (N:Nat):cpyC 131030 0 4 0 N 1 A (some (0,(List.replicate N zeroC).flatten))=some (.dat (.int .i64 ((min 1 N:Nat):Int)),some (131030,0,repC A N (min 1 N))):=by
 unfold cpyC
 dsimp only
 rw[if_pos ⟨rfl,by rw[repl_len (show zeroC.length=4 from rfl)];omega,h1⟩]
 have h0:(List.replicate N zeroC).flatten=repC A N 0:=by simp [repC]
 have ht:A.take (min 1 N*4)=(List.replicate (min 1 N) A).flatten:=by
  rcases Nat.eq_zero_or_pos N with h | h
  ·subst h;simp
  ·rw[show min 1 N=1 by omega];simp [List.take_of_length_le (Nat.le_of_eq hA)]
 have:=repC_step hA (N:=N) (j:=0) (q:=min 1 N) (by omega)
 rw[h0,ht]
 unfold splice
 rw[repl_len hA]
 simp only[Nat.zero_mul,Nat.zero_add] at this ⊢
 rw[this]
theorem cpy_next {A:List MV} (hA:A.length=4) (h1:A.all MV.one=true) {N j:Nat} (h:j<N):cpyC 131030 0 4 (j*4) (N-j) j (List.replicate j A).flatten (some (0,repC A N j))=some (.dat (.int .i64 ((min j (N-j):Nat):Int)),some (131030,0,repC A N (j+min j (N-j)))):=by
 unfold cpyC
 dsimp only
 rw[if_pos ⟨rfl,by rw[repC_len hA (by omega)];omega,repl_one h1 j⟩]
 rw[repl_take hA (show min j (N-j)≤j by omega)]
 have:=repC_step hA (N:=N) (j:=j) (q:=min j (N-j)) (by omega)
 unfold splice
 rw[repl_len hA,this]
noncomputable def F_repeatF:List Data→Option PRes:=FF (α:=Int × (List Int) × Int × (List Int) × Nat) (fun (s,l,s2,l2,N)=>([.sl [[.int .i64 s,.sl (l.map i64L),.int .i64 s2,.sl (l2.map i64L)]],.int .i64 N]:List Data)) (fun (s,l,s2,l2,N)=>onlyIf (N<41) (.own 4 (List.replicate N (fracL ((s,l),(s2,l2))))))
theorem F_repeatF_inj:∀ a b:Int × (List Int) × Int × (List Int) × Nat,(fun (s,l,s2,l2,N)=>([.sl [[.int .i64 s,.sl (l.map i64L),.int .i64 s2,.sl (l2.map i64L)]],.int .i64 N]:List Data)) a=(fun (s,l,s2,l2,N)=>([.sl [[.int .i64 s,.sl (l.map i64L),.int .i64 s2,.sl (l2.map i64L)]],.int .i64 N]:List Data)) b→a=b:=by
  rintro⟨s1,l1,s21,l21,N1⟩ ⟨s2,l2,s22,l22,N2⟩ h
  simp only[yM,Data.int.injEq,Data.sl.injEq] at h;exact Prod.ext h.1.1.1.2 (Prod.ext (map_inj i64L_inj _ _ h.1.1.2.1) (Prod.ext h.1.1.2.2.1.2 (Prod.ext (map_inj i64L_inj _ _ h.1.1.2.2.2.1) (by have:=h.2.1.2;dsimp only;omega))))
@[go_sem] theorem F_repeatF_eq (s:Int) (l:List Int) (s2:Int) (l2:List Int) (N:Nat) (hc:N<41):F_repeatF [.sl [[.int .i64 s,.sl (l.map i64L),.int .i64 s2,.sl (l2.map i64L)]],.int .i64 N]=some (.own 4 (List.replicate N (fracL ((s,l),(s2,l2))))):=(FF_eq F_repeatF_inj (s,l,s2,l2,N)).trans (onlyIf_pos hc _)
theorem w_repeatF (T:Tab) (h_bmul:T id_math_bits_Mul=mkE F_bmul) (s:Int) (l:List Int) (s2:Int) (l2:List Int) (N:Nat) (hc:N<41) :
  wp T mf_slices_Repeat_Frac.body (endS mf_slices_Repeat_Frac.res (.own 4 (List.replicate N (fracL ((s,l),(s2,l2)))))) ⟨initTm [.dat (.sl [[.int .i64 s,.sl (l.map i64L),.int .i64 s2,.sl (l2.map i64L)]]),.dat (.int .i64 N)],emp⟩:=by
 refine wp_start ?_
 simp only[mf_slices_Repeat_Frac]
 have h0:decide ((N:Int)<0)=false:=decide_eq_false (by omega)
 have hw:IntKind.u64.wrap (N:Int)=N:=wrapu64 _ ⟨by omega,by omega⟩
 have hw':IntKind.i64.wrap (N:Int)=N:=wrap64 _ (by omega) (by omega)
 have hw1:IntKind.u64.wrap ((1:Nat):Int)=1:=by decide
 have hg:decide ((N:Int)>9223372036854775807)=false:=decide_eq_false (by omega)
 have hmk1:(64*N≤140737488355328)=True:=eq_true (by omega)
 have hmk2:(N≤maxLen)=True:=eq_true (by unfold maxLen;omega)
 have hA:((fracL ((s,l),(s2,l2))).map MV.dat).length=4:=rfl
 have hA1:((fracL ((s,l),(s2,l2))).map MV.dat).all MV.one=true:=rfl
 have hfirst:=cpy_first hA hA1 N
 have hnext:=fun j (h:j<N)=>cpy_next hA hA1 h
 have hAdef:(fracL ((s,l),(s2,l2))).map MV.dat=[.dat (.int .i64 s),.dat (.sl (l.map i64L)),.dat (.int .i64 s2),.dat (.sl (l2.map i64L))]:=rfl
 simp only[zeroC] at hfirst
 rw[hAdef] at hfirst
 simp only[go_sem,reduceIte,yA,yB,yC,yD,yE,yH,reduceCtorEq,yF,yG,yI,h_bmul] at hfirst
 simp only[go_sem,reduceIte,yA,yB,yC,yD,yE,yH,reduceCtorEq,yF,yG,yI,h_bmul,h0,hw,hw',hw1,hc,hg,hmk1,hmk2,show decide ((0:Int)>0)=false from rfl,hfirst]
 rw[hAdef] at hA hA1
 have hfin:=repC_all ((s,l),(s2,l2)) N
 rw[hAdef] at hfin
 simp only[hAdef] at hnext
 clear hAdef hfirst
 generalize [MV.dat (.int .i64 s),.dat (.sl (l.map i64L)),.dat (.int .i64 s2),.dat (.sl (l2.map i64L))]=A at *
 refine wp_loop_keep [7] [] (fun (j:Nat) tm m=>j≤N∧(0<N→0<j)∧tm 8 = .dat (.int .i64 j)∧m 131030=some (0,repC A N j)) (fun j=>N-j) (min 1 N) (by refine⟨by omega,by omega,rfl,?_⟩;simp [updM]) ?_
 intro vs ms hvs hms
 simp only[go_sem,reduceIte,yA,yB,yC,yD,yE,yH,reduceCtorEq,yF,yG,yI,h_bmul] at hvs hms
 subst hvs hms
 rintro j tm m hk hm ⟨hjN,hj0,h8,hm30⟩
 simp only[go_sem,reduceIte,yA,yB,yC,yD,yE,yH,reduceCtorEq,yF,yG,yI,h_bmul,yM] at hk hm
 have h7:=hk
 rcases Decidable.em (j<N) with hlt | hge
 ·have hjl:decide ((j:Int)<(N:Int))=true:=decide_eq_true (by omega)
  have hn:=hnext j hlt
  have hrow:=repC_take hA (N:=N) (j:=j)
  have hlen:(j*4≤(repC A N j).length)=True:=eq_true (by rw[repC_len hA hjN];omega)
  have hjN':(j≤N)=True:=eq_true hjN
  have hall:=repl_one hA1 j
  simp only[go_sem,reduceIte,yA,yB,yC,yD,yE,yH,reduceCtorEq,yF,yG,yI,h_bmul,hall,hA1,hrow] at hn
  have hw2:IntKind.i64.wrap ((j:Int)+((min j (N-j):Nat):Int))=((j+min j (N-j):Nat):Int):=by rw[wrap64 _ (by omega) (by omega)];omega
  simp only[go_sem,reduceIte,yA,yB,yC,yD,yE,yH,reduceCtorEq,yF,yG,yI,h_bmul,h7,h8,hm30,hjl,hrow,hlen,hjN',hall,hn,hw2,Nat.le_refl,Nat.sub_zero,Nat.zero_le]
  repeat' (first|refine qqA ?_ ?_|refine qqB ?_ ?_|refine qqC ?_ ?_|refine qqD ?_ ?_|refine qqE ?_ ?_|refine qqF ?_ ?_)<;>intro h<;>simp only[h,go_sem,reduceIte,yA,yB,yC,yD,yE,yH,reduceCtorEq,yF,yG,yI,h_bmul,h7,h8,hm30,hjl,hrow,hlen,hjN',hall,hn,hw2,Nat.le_refl,Nat.sub_zero,Nat.zero_le]
  exact⟨j+min j (N-j),by have:=hj0 (by omega);omega,by omega,by omega,rfl,rfl⟩
 ·have hjl:decide ((j:Int)<(N:Int))=false:=decide_eq_false (by omega)
  obtain rfl:j=N:=by omega
  rw[hfin] at hm30
  have hlr:=rowE_len fracL_len (List.replicate j ((s,l),(s2,l2)))
  rw[List.length_replicate] at hlr
  simp only[go_sem,reduceIte,yA,yB,yC,yD,yE,yH,reduceCtorEq,yF,yG,yI,h_bmul,h7,h8,hm30,hjl,ownD,hlr]
  repeat' (first|refine qqA ?_ ?_|refine qqB ?_ ?_|refine qqC ?_ ?_|refine qqD ?_ ?_|refine qqE ?_ ?_|refine qqF ?_ ?_)<;>intro h<;>simp only[h,go_sem,reduceIte,yA,yB,yC,yD,yE,yH,reduceCtorEq,yF,yG,yI,h_bmul,h7,h8,hm30,hjl,ownD,hlr]
  rw[if_pos (Nat.le_refl _),List.take_of_length_le (by omega)]
  unfold rowE
  rw[mapM_dat _ fun d=>rfl]
  have:=chunk_all (sz:=4) ((List.replicate j ((s,l),(s2,l2))).map fracL) (by intro e he;obtain⟨f,-,rfl⟩:=List.mem_map.1 he;rfl)
  rw[yJ,List.length_replicate] at this
  rw[Option.map_some,this,List.map_replicate]
end Go.Mini
namespace Go.Mini
open Go
set_option maxRecDepth 10000
set_option maxHeartbeats 4000000
theorem elimX_lt (stop:Bool) (N:Nat):∀ (k c:Nat) (rows:List MR) (free:List Nat) (bad:Bool),c+k=N→(∀ x∈free,x<N)→∀ x∈(elimX stop k c rows free bad).2.1,x<N
 | 0,_,_,_,_,_,h=>h
 | k+1,c,rows,free,true,hc,h=>h
 | k+1,c,rows,free,false,hc,h=>by
  have h':∀ x∈free++[c],x<N:=by
   intro x hx
   rcases List.mem_append.1 hx with hx | hx
   ·exact h x hx
   ·have:=List.mem_singleton.1 hx;omega
  unfold elimX
  split
  ·split
   ·exact h'
   ·exact elimX_lt stop N k (c+1) _ _ _ (by omega) h'
  ·exact elimX_lt stop N k (c+1) _ _ _ (by omega) h
theorem elimS_lt (stop:Bool) (rs:List RowD):∀ x∈(elimS stop rs).2.1,x<rs.length:=elimX_lt stop rs.length rs.length 0 _ _ _ (by omega) (by simp)
def zF:FRaw:=((0,[]),(1,[1]))
def oneF:FRaw:=((1,[1]),(1,[1]))
theorem encR_zero:encR 0=zF:=by
 unfold encR encB zF
 simp [dg_one,dg_zero]
theorem encR_one:encR 1=oneF:=by
 unfold encR encB oneF
 simp [dg_one]
theorem new_zero:newR (encB 0) (encB 1)=(zF,0):=by
 rw[newR_enc (lim_i64 (by unfold i64R;omega)) (lim_i64 (by unfold i64R;omega)) (by omega),Rat.zero_divInt,encR_zero]
theorem new_one:newR (encB 1) (encB 1)=(oneF,0):=by
 rw[newR_enc (lim_i64 (by unfold i64R;omega)) (lim_i64 (by unfold i64R;omega)) (by omega),Rat.divInt_self' (by omega),encR_one]
/-- The kernel's list, its first i elements calculated. -/
def kerP (rows:List MR) (f N i:Nat):List FRaw:=(List.range N).map fun k=>if k<i then (subF zF (cellOf (rowAt rows k) f)).1 else if k=f then oneF else zF
theorem kerP_len (rows:List MR) (f N i:Nat):(kerP rows f N i).length=N:=by simp [kerP]
theorem kerP_set {rows:List MR} {f N i:Nat} (hi:i<N) (hf:i<f):(kerP rows f N i).set i (subF zF (cellOf (rowAt rows i) f)).1=kerP rows f N (i+1):=by
 apply List.ext_getElem?
 intro j
 unfold kerP
 rw[List.getElem?_set,yK,yK,yJ,List.length_range]
 by_cases hij:i=j
 ·subst hij
  rw[if_pos rfl,if_pos hi,List.getElem?_range hi]
  simp
 ·rw[if_neg hij]
  rcases Nat.lt_or_ge j N with hj | hj
  ·rw[List.getElem?_range hj]
   simp only[Option.map_some,Option.some.injEq]
   by_cases h1:j<i
   ·rw[if_pos h1,if_pos (by omega)]
   ·simp only[h1,if_false,show ¬ j<i+1 by omega]
  ·rw[List.getElem?_eq_none (by simpa using hj)]
   rfl
theorem kerP_zero {rows:List MR} {f N:Nat}:(List.replicate N zF).set f oneF=kerP rows f N 0:=by
 apply List.ext_getElem?
 intro j
 unfold kerP
 rw[List.getElem?_set,yK,List.length_replicate,List.getElem?_replicate]
 rcases Nat.lt_or_ge j N with hj | hj
 ·rw[List.getElem?_range hj]
  by_cases hij:f=j
  ·subst hij;simp [hj]
  ·rw[if_neg hij,if_pos hj]
   simp [Ne.symm hij]
 ·rw[List.getElem?_eq_none (by simpa using hj)]
  by_cases hij:f=j
  ·subst hij;rw[if_pos rfl,if_neg (by omega)];rfl
  ·rw[if_neg hij,if_neg (by omega)];rfl
def kernX (rs:List RowD) (n:Int):List FRaw × Bool :=
 if rightS rs n=true then (if ((elimS true rs).2.2||(elimS true rs).2.1.length==0)=true then ([],false) else (kerP (elimS true rs).1 ((elimS true rs).2.1.headD 0) rs.length ((elimS true rs).2.1.headD 0),true)) else ([],false)
noncomputable def F_linKern:List Data→Option PRes:=FF (α:=(List RowD) × Int) (fun (rs,n)=>([.sl (rs.map rowL),.int .i64 n]:List Data)) (fun (rs,n)=>onlyIf (okRows rs) (.same (.tup [.sl ((kernX rs n).1.map fracL),.bool (kernX rs n).2])))
theorem F_linKern_inj:∀ a b:(List RowD) × Int,(fun (rs,n)=>([.sl (rs.map rowL),.int .i64 n]:List Data)) a=(fun (rs,n)=>([.sl (rs.map rowL),.int .i64 n]:List Data)) b→a=b:=by
  rintro⟨rs1,n1⟩ ⟨rs2,n2⟩ h
  simp only[yM,Data.sl.injEq,Data.int.injEq] at h;exact Prod.ext (map_inj rowL_inj _ _ h.1) h.2.1.2
@[go_sem] theorem F_linKern_eq (rs:List RowD) (n:Int) (hc:okRows rs):F_linKern [.sl (rs.map rowL),.int .i64 n]=some (.same (.tup [.sl ((kernX rs n).1.map fracL),.bool (kernX rs n).2])):=(FF_eq F_linKern_inj (rs,n)).trans (onlyIf_pos hc _)
theorem w_linKern (T:Tab) (h_linRight:T id_linear_Right=mkE F_linRight) (h_elim:T id_linear_eliminated=mkE F_elim) (h_fOf:T id_frac_Of=mkE F_fOf) (h_repeatF:T id_slices_Repeat_Frac=mkE F_repeatF) (h_fSub:T id_frac_Sub=mkE F_fSub) (rs:List RowD) (n:Int) (hc:okRows rs) :
  wp T mf_linear_Kernel.body (endS mf_linear_Kernel.res (.same (.tup [.sl ((kernX rs n).1.map fracL),.bool (kernX rs n).2]))) ⟨initTm [.dat (.sl (rs.map rowL)),.dat (.int .i64 n)],emp⟩:=by
 refine wp_start ?_
 simp only[mf_linear_Kernel]
 unfold kernX
 rcases hr:rightS rs n
 ·simp only[go_sem,reduceIte,yA,yB,yC,yD,yE,yH,reduceCtorEq,yF,yG,yI,h_linRight,h_elim,h_fOf,h_repeatF,h_fSub,hc,hr,List.map_nil]
  repeat' (first|refine qqA ?_ ?_|refine qqB ?_ ?_|refine qqC ?_ ?_|refine qqD ?_ ?_|refine qqE ?_ ?_|refine qqF ?_ ?_)<;>intro h<;>simp only[h,go_sem,reduceIte,yA,yB,yC,yD,yE,yH,reduceCtorEq,yF,yG,yI,h_linRight,h_elim,h_fOf,h_repeatF,h_fSub,hc,hr,List.map_nil]
 ·have hok:=elimS_ok (stop:=true) (rightS_ok hc hr).2.2
  have hF:F_elim [.sl (rs.map rowL),.int .i64 n,.bool true]=some (.same (elimD rs.length (elimS true rs))):=F_elim_eq rs n true (rightS_ok hc hr)
  have hlt:=elimS_lt true rs
  obtain⟨hn,hN,-⟩:=rightS_ok hc hr
  rcases hP:elimS true rs with ⟨rows,free,bad⟩
  rw[hP] at hlt hok hF
  dsimp only at hlt hok
  simp only[elimD,matD] at hF
  cases bad
  ·cases free with
   | nil =>
        simp only[go_sem,reduceIte,yA,yB,yC,yD,yE,yH,reduceCtorEq,yF,yG,yI,h_linRight,h_elim,h_fOf,h_repeatF,h_fSub,hc,hr,hF,List.map_nil,yJ,List.length_nil,show (((0:Nat):Int)==0)=true from rfl,show ((0:Nat)==0)=true from rfl]
        repeat' (first|refine qqA ?_ ?_|refine qqB ?_ ?_|refine qqC ?_ ?_|refine qqD ?_ ?_|refine qqE ?_ ?_|refine qqF ?_ ?_)<;>intro h<;>simp only[h,go_sem,reduceIte,yA,yB,yC,yD,yE,yH,reduceCtorEq,yF,yG,yI,h_linRight,h_elim,h_fOf,h_repeatF,h_fSub,hc,hr,hF,List.map_nil,yJ,List.length_nil,show (((0:Nat):Int)==0)=true from rfl,show ((0:Nat)==0)=true from rfl]
   | cons f fs =>
    have hfN:f<rs.length:=hlt f List.mem_cons_self
    have hne:((((f::fs).length:Nat):Int)==0)=false:=by simp;omega
    simp only[List.length_cons] at hne
    have hne2:(fs.length+1==0)=false:=by simp
    have hz:=F_fOf_eq 0 1 ⟨by unfold i64R;omega,by unfold i64R;omega⟩
    have ho:=F_fOf_eq 1 1 ⟨by unfold i64R;omega,by unfold i64R;omega⟩
    rw[new_zero] at hz
    rw[new_one] at ho
    simp only[fracE,fracL,zF,oneF,List.map_nil,List.map_cons,i64L] at hz ho
    have hrep:=F_repeatF_eq 0 [] 1 [1] rs.length (by omega)
    simp only[List.map_nil,List.map_cons,i64L] at hrep
    rw[hn] at hrep
    have hfold:(List.replicate rs.length (fracL ((0,[]),(1,[1])))).flatten.map MV.dat=rowE fracL (List.replicate rs.length zF):=by
     unfold rowE
     rw[List.map_replicate]
     rfl
    have t1:=lenF (l:=List.replicate rs.length zF) (k:=f) (by rw[List.length_replicate];exact hfN)
    have t2:=setF (l:=List.replicate rs.length zF) (k:=f) (by rw[List.length_replicate];exact hfN) 1 [1] 1 [1]
    rw[show (((1:Int),[1]),((1:Int),[1]))=oneF from rfl,kerP_zero (rows:=rows)] at t2
    simp only[List.map_nil,List.map_cons,i64L] at t2
    simp only[go_sem,reduceIte,yA,yB,yC,yD,yE,yH,reduceCtorEq,yF,yG,yI,h_linRight,h_elim,h_fOf,h_repeatF,h_fSub,hc,hr,hF,hz,ho,hrep,hfold,hne,hne2,yJ,List.headD_cons,natL,hfN,t1,t2,List.length_replicate]
    refine wp_loop_keep [6,7,8,10,50] [110008] (fun (i:Nat) tm m=>i≤f∧tm 51 = .dat (.int .i64 i)∧m 110038=some (0,rowE fracL (kerP rows f rs.length i))) (fun i=>f-i) 0 (by refine⟨Nat.zero_le _,rfl,?_⟩;simp [updM]) ?_
    intro vs ms hvs hms
    simp only[go_sem,reduceIte,yA,yB,yC,yD,yE,yH,reduceCtorEq,yF,yG,yI,h_linRight,h_elim,h_fOf,h_repeatF,h_fSub] at hvs hms
    subst hvs hms
    rintro i tm m hk hm ⟨hif,h51,hm38⟩
    simp only[go_sem,reduceIte,yA,yB,yC,yD,yE,yH,reduceCtorEq,yF,yG,yI,h_linRight,h_elim,h_fOf,h_repeatF,h_fSub,yM] at hk hm
    obtain⟨h6,h7,h8,h10,h50⟩:=hk
    have hrl:=hok.len
    rcases Decidable.em (i<f) with hil | hge
    ·obtain⟨x,hx⟩:∃ x,rows[i]?=some x:=⟨_,yL (by omega)⟩
     obtain⟨hxl,hxo⟩:=hok.row x (List.mem_of_getElem? hx)
     obtain⟨⟨⟨a1,a2⟩,⟨a3,a4⟩⟩,hfk⟩:∃ y,x.2.2[f]?=some y:=⟨_,yL (by omega)⟩
     have hfo:=hxo _ (List.mem_of_getElem? hfk)
     have hks:=kerP_set (rows:=rows) (f:=f) (N:=rs.length) (i:=i) (by omega) hil
     rw[row_at hx,cell_get hfk] at hks
     have hsub:=F_fSub_eq 0 [] 1 [1] a1 a2 a3 a4 ⟨by simp,by simp,hfo.1,hfo.2⟩
     rw[show (((0:Int),([]:List Int)),((1:Int),[1]))=zF from rfl] at hsub
     generalize subF zF ((a1,a2),(a3,a4))=S at *
     obtain⟨⟨⟨v1,v2⟩,⟨v3,v4⟩⟩,e⟩:=S
     simp only[List.map_nil,List.map_cons,i64L,fracE,fracL] at hsub
     have t3:=lenF (l:=kerP rows f rs.length i) (k:=i) (by rw[kerP_len];omega)
     have t4:=setF (l:=kerP rows f rs.length i) (k:=i) (by rw[kerP_len];omega) v1 v2 v3 v4
     dsimp only at hks
     rw[hks] at t4
     have hilf:decide ((i:Int)<(f:Int))=true:=decide_eq_true (by omega)
     have hiN:i<rs.length:=by omega
     have hw:IntKind.i64.wrap ((i:Int)+1)=((i+1:Nat):Int):=by rw[wrap64 _ (by omega) (by omega)];omega
     simp only[go_sem,reduceIte,yA,yB,yC,yD,yE,yH,reduceCtorEq,yF,yG,yI,h_linRight,h_elim,h_fOf,h_repeatF,h_fSub,h6,h7,h8,h10,h50,h51,hm,hm38,hx,hfk,hsub,t3,t4,hilf,hiN,hw,natL,fracL,i64L,yJ,yK]
     repeat' (first|refine qqA ?_ ?_|refine qqB ?_ ?_|refine qqC ?_ ?_|refine qqD ?_ ?_|refine qqE ?_ ?_|refine qqF ?_ ?_)<;>intro h<;>simp only[h,go_sem,reduceIte,yA,yB,yC,yD,yE,yH,reduceCtorEq,yF,yG,yI,h_linRight,h_elim,h_fOf,h_repeatF,h_fSub,h6,h7,h8,h10,h50,h51,hm,hm38,hx,hfk,hsub,t3,t4,hilf,hiN,hw,natL,fracL,i64L,yJ,yK]
     exact⟨i+1,by omega,by omega,rfl,rfl⟩
    ·have hilf:decide ((i:Int)<(f:Int))=false:=decide_eq_false (by omega)
     obtain rfl:i=f:=by omega
     have hD:=toD_row (n:=4) fracL_len hm38
     rw[kerP_len] at hD
     simp only[go_sem,reduceIte,yA,yB,yC,yD,yE,yH,reduceCtorEq,yF,yG,yI,h_linRight,h_elim,h_fOf,h_repeatF,h_fSub,h6,h7,h8,h10,h50,h51,hm,hilf,hD]
     repeat' (first|refine qqA ?_ ?_|refine qqB ?_ ?_|refine qqC ?_ ?_|refine qqD ?_ ?_|refine qqE ?_ ?_|refine qqF ?_ ?_)<;>intro h<;>simp only[h,go_sem,reduceIte,yA,yB,yC,yD,yE,yH,reduceCtorEq,yF,yG,yI,h_linRight,h_elim,h_fOf,h_repeatF,h_fSub,h6,h7,h8,h10,h50,h51,hm,hilf,hD]
  ·simp only[go_sem,reduceIte,yA,yB,yC,yD,yE,yH,reduceCtorEq,yF,yG,yI,h_linRight,h_elim,h_fOf,h_repeatF,h_fSub,hc,hr,hF,yJ,List.map_nil]
   repeat' (first|refine qqA ?_ ?_|refine qqB ?_ ?_|refine qqC ?_ ?_|refine qqD ?_ ?_|refine qqE ?_ ?_|refine qqF ?_ ?_)<;>intro h<;>simp only[h,go_sem,reduceIte,yA,yB,yC,yD,yE,yH,reduceCtorEq,yF,yG,yI,h_linRight,h_elim,h_fOf,h_repeatF,h_fSub,hc,hr,hF,yJ,List.map_nil]
end Go.Mini
