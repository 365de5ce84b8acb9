/- A part of the proof: MiniBig4, MiniBig5, MiniBig6, MiniBig7, MiniBig8. -/
import Derived.Test.YtjcpopjafedmpaaGreatM04
set_option linter.unusedSimpArgs false
set_option linter.unusedVariables false
open Nat renaming reduceEqDiff → yA, reduceAdd → yB, reduceSub → yC, reduceMul → yD, reduceLeDiff → yE, reduceLT → yF, reduceBEq → yG
open Bool renaming false_eq_true → yH
open Int renaming reduceEq → yI
open List renaming length_map → yJ, getElem?_map → yK, getElem?_eq_getElem → yL
open List.cons renaming injEq → yM
namespace Go.Mini
open Go
set_option maxRecDepth 10000
set_option maxHeartbeats 1000000
theorem vl_take_succ (l:List Int) (i:Nat) (h:i<l.length):vl (l.take (i+1))=vl (l.take i)+1048576^i*l[i]:=by
 rw[List.take_add_one,yL h,vl_append,List.length_take,Nat.min_eq_left (by omega)]
 simp [vl]
theorem isD_take {l:List Int} (h:isD l) (i:Nat):isD (l.take i):=fun d hd=>h d (List.mem_of_mem_take hd)
theorem isD_take_succ {l:List Int} (i:Nat) (hi:i<l.length):isD (l.take (i+1))↔isD (l.take i)∧(0≤l[i]∧l[i]<1048576):=by
 rw[List.take_add_one,yL hi,isD_append]
 simp [isD_cons,isD]
theorem isD_at {l:List Int} (h:isD l) (i:Nat) (hi:i<l.length):0≤l[i]∧l[i]<1048576:=h _ (List.getElem_mem hi)
theorem set_take (o:List Int) (i:Nat) (d:Int):(o.set i d).take i=o.take i:=by
 rw[List.take_set,List.set_eq_of_length_le]
 rw[List.length_take];omega
theorem row_len (o:List Int):(rowE i64L o).length=o.length:=by rw[rowE_len i64L_len];omega
theorem row_get (o:List Int) (i:Nat) (h:i<o.length):List.take 1 (List.drop i (rowE i64L o))=[.dat (.int .i64 o[i])]:=by
 have hcut:=rowE_cut i64L_len (yL h) (f:=0) (n:=1) (by omega)
 unfold cut at hcut
 have:=row_len o
 rw[Nat.mul_one,Nat.add_zero,if_pos (by omega)] at hcut
 simpa [i64L] using hcut
theorem row_fold (o:List Int) (i:Nat) (d:Int) (h:i<o.length):List.take i (rowE i64L o)++[.dat (.int .i64 d)]++List.drop (i+1) (rowE i64L o)=rowE i64L (o.set i d):=by
 have:=rowE_set i64L_len h d
 unfold splice at this
 simpa [i64L] using this
theorem row_zero (n:Nat):(List.replicate n [MV.dat (.int .i64 0)]).flatten=rowE i64L (List.replicate n 0):=by
 induction n with
 | zero=>rfl
 | succ n ih=>rw[List.replicate_succ,List.replicate_succ,List.flatten_cons,rowE_cons,ih];rfl
theorem maxLen_big (n:Nat) (h:n≤1000000000):n≤maxLen:=Nat.le_trans h (by decide)
theorem trim_len (l:List Int):(trimL l).length≤l.length:=by
 induction l with
 | nil=>simp [trimL]
 | cons d r ih=>unfold trimL;split<;>(try split)<;>simp<;>omega
theorem take_trim (l:List Int):l.take (trimL l).length=trimL l:=by
 induction l with
 | nil=>simp [trimL]
 | cons d r ih =>
  unfold trimL
  split
  ·split<;>simp
  ·simp [ih]
theorem row_take (l:List Int):∀ n:Nat,(rowE i64L l).take n=rowE i64L (l.take n):=by
 induction l with
 | nil=>intro n;simp [rowE]
 | cons d r ih=>intro n;cases n with
  | zero=>simp [rowE]
  | succ n=>rw[rowE_cons,List.take_succ_cons,rowE_cons,←ih];rfl
theorem ownD_row {mem:Mem} {k g n:Nat} {o:List Int} (hm:mem k=some (g,rowE i64L o)) (hn:n≤o.length):ownD 1 mem (.ref k g 1 0 n)=some ((o.take n).map i64L):=by
 unfold ownD
 dsimp only
 rw[hm]
 simp only[and_self,if_true,Nat.mul_one]
 rw[row_len,if_pos ⟨trivial,hn⟩,row_take]
 unfold rowE
 rw[mapM_dat _ fun d=>rfl]
 have:=chunk_all (sz:=1) ((o.take n).map i64L) (by intro e he;rw[List.mem_map] at he;obtain⟨x,-,rfl⟩:=he;rfl)
 rw[yJ,List.length_take,Nat.min_eq_left hn] at this
 simp only[Option.map_some,this]
/-- What trim leaves of a row of the function's own: the number's digits. -/
theorem own_trim {mem:Mem} {k g:Nat} {o:List Int} {n:Nat} (hm:mem k=some (g,rowE i64L o)) (hd:isD o) (hv:vl o=n):ownD 1 mem (.ref k g 1 0 (trimL o).length)=some ((dg n).map i64L):=by
 rw[ownD_row hm (trim_len o),take_trim,trimL_dg hd,hv]
 rfl
/-! ### compare -/
def digs (n:Nat):Data:=.sl ((dg n).map i64L)
theorem dg_lt_of_len {x y:Nat} (h:(dg x).length<(dg y).length):x<y:=by
 have h1:=(dg_len (n:=x) (k:=(dg x).length)).1 (Nat.le_refl _)
 have h2:=mt (dg_len (n:=y) (k:=(dg x).length)).2 (by omega)
 omega
theorem vl_lt_of {a b:List Int} (ha:isD a) (hb:isD b) (hl:a.length=b.length) (i:Nat) (hi:i<a.length) (hd:a.drop (i+1)=b.drop (i+1)) (h:a[i]<b[i]):vl a<vl b:=by
 rw[vl_take_drop a (i+1),vl_take_drop b (i+1),hd,hl,vl_take_succ a i hi,vl_take_succ b i (by omega)]
 have h1:=vl_lt (isD_take ha i)
 have h2:=vl_nonneg (isD_take hb i)
 rw[List.length_take,Nat.min_eq_left (by omega)] at h1
 generalize (1048576:Int)^i=p at *
 have h3:p*a[i]+p≤p*b[i]:=by
  have:p*(a[i]+1)≤p*b[i]:=Int.mul_le_mul_of_nonneg_left (by omega) (by have:=vl_nonneg (isD_take ha i);omega)
  rw[Int.mul_add,Int.mul_one] at this
  exact this
 omega
noncomputable def F_compare:List Data→Option PRes:=FF (α:=Nat × Nat) (fun (x,y)=>([digs x,digs y]:List Data)) (fun (x,y)=>onlyIf ((dg x).length≤1000000∧(dg y).length≤1000000) (.same (.int .i64 (cmpI x y))))
theorem F_compare_inj:∀ a b:Nat × Nat,(fun (x,y)=>([digs x,digs y]:List Data)) a=(fun (x,y)=>([digs x,digs y]:List Data)) b→a=b:=by
  rintro⟨x1,y1⟩ ⟨x2,y2⟩ h
  simp only[yM,digs,Data.sl.injEq] at h;exact Prod.ext (dg_inj (map_inj i64L_inj _ _ h.1)) (dg_inj (map_inj i64L_inj _ _ h.2.1))
@[go_sem] theorem F_compare_eq (x:Nat) (y:Nat) (hc:(dg x).length≤1000000∧(dg y).length≤1000000):F_compare [digs x,digs y]=some (.same (.int .i64 (cmpI x y))):=(FF_eq F_compare_inj (x,y)).trans (onlyIf_pos hc _)
theorem w_compare (T:Tab) (h_cmpI:T id_cmp_Compare_int=mkE F_cmpI) (x:Nat) (y:Nat) (hc:(dg x).length≤1000000∧(dg y).length≤1000000) :
  wp T mf_big_compare.body (endS mf_big_compare.res (.same (.int .i64 (cmpI x y)))) ⟨initTm [.dat (digs x),.dat (digs y)],emp⟩:=by
 refine wp_start ?_
 simp only[mf_big_compare]
 obtain⟨hx,hy⟩:=hc
 have hdx:=isD_dg x
 have hdy:=isD_dg y
 have hvx:=vl_dg x
 have hvy:=vl_dg y
 have hlt1:=@dg_lt_of_len x y
 have hlt2:=@dg_lt_of_len y x
 by_cases hl:(dg x).length=(dg y).length
 ·generalize ha:dg x=a at *
  generalize hb:dg y=b at *
  have hbeq:((a.length:Int)==(b.length:Int))=true:=by simp [hl]
  simp only[go_sem,reduceIte,yA,yB,yC,yD,yE,yH,reduceCtorEq,yF,yG,yI,h_cmpI,digs,ha,hb,hbeq,yJ]
  refine wp_loop_keep [0,1] [] (fun (n:Nat) tm mem=>n≤a.length∧a.drop n=b.drop n∧tm 5 = .dat (.int .i64 ((n:Int)-1))) (fun n=>n) a.length (by refine⟨Nat.le_refl _,by rw[List.drop_length,hl,List.drop_length],?_⟩;simp only[upd_get,reduceIte];rw[wrap64 _ (by omega) (by omega)]) ?_
  intro vs ms hvs hms
  simp only[go_sem,reduceIte,yA,yB,yC,yD,yE,yH,reduceCtorEq,yF,yG,yI,h_cmpI,digs,ha,hb] at hvs hms
  subst hvs hms
  rintro n tm mem hk-⟨hn,hd,h5⟩
  simp only[go_sem,reduceIte,yA,yB,yC,yD,yE,yH,reduceCtorEq,yF,yG,yI,h_cmpI,yM] at hk
  obtain⟨h0,h1⟩:=hk
  rcases n with _ | n
  ·have e:a=b:=by simpa using hd
   have hxy:(x:Int)=y:=by rw[←hvx,←hvy,e]
   simp only[go_sem,reduceIte,yA,yB,yC,yD,yE,yH,reduceCtorEq,yF,yG,yI,h_cmpI,h0,h1,h5,Int.natCast_zero,Int.cast_ofNat_Int,show ¬ ((0:Int)-1≥0) by omega,decide_false]
   repeat' (first|refine qqA ?_ ?_|refine qqB ?_ ?_|refine qqC ?_ ?_|refine qqD ?_ ?_|refine qqE ?_ ?_|refine qqF ?_ ?_)<;>intro h<;>simp only[h,go_sem,reduceIte,yA,yB,yC,yD,yE,yH,reduceCtorEq,yF,yG,yI,h_cmpI,h0,h1,h5,Int.natCast_zero,Int.cast_ofNat_Int,show ¬ ((0:Int)-1≥0) by omega,decide_false]
   rw[hxy];simp [cmpI]
  ·have hw:((n+1:Nat):Int)-1=(n:Int):=by omega
   have hga:a[n]?=some a[n]:=yL (by omega)
   have hgb:b[n]?=some b[n]:=yL (by omega)
   have hr:cmpI a[n] b[n]=cmpI x y∨a[n]=b[n]:=by
    by_cases h1:a[n]<b[n]
    ·left
     have:=vl_lt_of hdx hdy hl n hn hd h1
     simp only[cmpI]
     rw[if_pos (by simpa using h1),if_pos (by simp;omega)]
    ·by_cases h2:b[n]<a[n]
     ·left
      have:=vl_lt_of hdy hdx hl.symm n (by omega) hd.symm h2
      simp only[cmpI]
      rw[if_neg (by simp;omega),if_pos (by simp;omega),if_neg (by simp;omega),if_pos (by simp;omega)]
     ·right;omega
   by_cases hz:a[n]=b[n]
   ·simp only[go_sem,reduceIte,yA,yB,yC,yD,yE,yH,reduceCtorEq,yF,yG,yI,h_cmpI,h0,h1,h5,hw,hga,hgb,hz,i64L,show (n:Int)≥0 by omega,decide_true,yK,beq_self_eq_true,yM]
    repeat' (first|refine qqA ?_ ?_|refine qqB ?_ ?_|refine qqC ?_ ?_|refine qqD ?_ ?_|refine qqE ?_ ?_|refine qqF ?_ ?_)<;>intro h<;>simp only[h,go_sem,reduceIte,yA,yB,yC,yD,yE,yH,reduceCtorEq,yF,yG,yI,h_cmpI,h0,h1,h5,hw,hga,hgb,hz,i64L,show (n:Int)≥0 by omega,decide_true,yK,beq_self_eq_true,yM]
    exact⟨n,by omega,by omega,by rw[List.drop_eq_getElem_cons (by omega:n<a.length),List.drop_eq_getElem_cons (by omega:n<b.length),hz,hd],by rw[wrap64 _ (by omega) (by omega)]⟩
   ·have hzf:(a[n]==b[n])=false:=by simpa using hz
    simp only[go_sem,reduceIte,yA,yB,yC,yD,yE,yH,reduceCtorEq,yF,yG,yI,h_cmpI,h0,h1,h5,hw,hga,hgb,hzf,i64L,show (n:Int)≥0 by omega,decide_true,yK,yM]
    repeat' (first|refine qqA ?_ ?_|refine qqB ?_ ?_|refine qqC ?_ ?_|refine qqD ?_ ?_|refine qqE ?_ ?_|refine qqF ?_ ?_)<;>intro h<;>simp only[h,go_sem,reduceIte,yA,yB,yC,yD,yE,yH,reduceCtorEq,yF,yG,yI,h_cmpI,h0,h1,h5,hw,hga,hgb,hzf,i64L,show (n:Int)≥0 by omega,decide_true,yK,yM]
    rw[hr.resolve_right hz]
 ·have hbeq:(((dg x).length:Int)==((dg y).length:Int))=false:=by simp;omega
  have hr:cmpI (dg x).length (dg y).length=cmpI x y:=by
   simp only[cmpI]
   rcases Nat.lt_or_ge (dg x).length (dg y).length with h | h
   ·have:=hlt1 h
    rw[if_pos (by simp;omega),if_pos (by simp;omega)]
   ·have:=hlt2 (by omega)
    rw[if_neg (by simp;omega),if_pos (by simp;omega),if_neg (by simp;omega),if_pos (by simp;omega)]
  simp only[go_sem,reduceIte,yA,yB,yC,yD,yE,yH,reduceCtorEq,yF,yG,yI,h_cmpI,digs,hbeq,hr,yJ]
  repeat' (first|refine qqA ?_ ?_|refine qqB ?_ ?_|refine qqC ?_ ?_|refine qqD ?_ ?_|refine qqE ?_ ?_|refine qqF ?_ ?_)<;>intro h<;>simp only[h,go_sem,reduceIte,yA,yB,yC,yD,yE,yH,reduceCtorEq,yF,yG,yI,h_cmpI,digs,hbeq,hr,yJ]
/-! ### add -/
theorem add_step (p vo va vb c a b:Int) (h:vo+p*c=va+vb):vo+p*((c+a+b) % 1048576)+p*1048576*((c+a+b) / 1048576)=va+p*a+(vb+p*b):=by
 have h1:=Int.emod_add_mul_ediv (c+a+b) 1048576
 have h2:p*((c+a+b) % 1048576)+p*1048576*((c+a+b) / 1048576)=p*(c+a+b):=by
  rw[Int.mul_assoc,←Int.mul_add,h1]
 have h3:p*(c+a+b)=p*c+p*a+p*b:=by rw[Int.mul_add,Int.mul_add]
 omega
noncomputable def F_add:List Data→Option PRes:=FF (α:=Nat × Nat) (fun (x,y)=>([digs x,digs y]:List Data)) (fun (x,y)=>onlyIf ((dg x).length≤100000∧(dg y).length≤100000) (.own 1 ((dg (x+y)).map i64L)))
theorem F_add_inj:∀ a b:Nat × Nat,(fun (x,y)=>([digs x,digs y]:List Data)) a=(fun (x,y)=>([digs x,digs y]:List Data)) b→a=b:=by
  rintro⟨x1,y1⟩ ⟨x2,y2⟩ h
  simp only[yM,digs,Data.sl.injEq] at h;exact Prod.ext (dg_inj (map_inj i64L_inj _ _ h.1)) (dg_inj (map_inj i64L_inj _ _ h.2.1))
@[go_sem] theorem F_add_eq (x:Nat) (y:Nat) (hc:(dg x).length≤100000∧(dg y).length≤100000):F_add [digs x,digs y]=some (.own 1 ((dg (x+y)).map i64L)):=(FF_eq F_add_inj (x,y)).trans (onlyIf_pos hc _)
theorem w_add (T:Tab) (h_trim:T id_big_trim=mkFG F_trim G_trim) (x:Nat) (y:Nat) (hc:(dg x).length≤100000∧(dg y).length≤100000) :
  wp T mf_big_add.body (endS mf_big_add.res (.own 1 ((dg (x+y)).map i64L))) ⟨initTm [.dat (digs x),.dat (digs y)],emp⟩:=by
 refine wp_start ?_
 simp only[mf_big_add]
 obtain⟨hx,hy⟩:=hc
 simp only[go_sem,reduceIte,yA,yB,yC,yD,yE,yH,reduceCtorEq,yF,yG,yI,h_trim,digs,yJ]
 refine wpB_join (fun st=>∃ a b:List Int,isD a∧isD b∧a.length≤100000∧b.length≤a.length∧vl a+vl b=x+y∧st.tm 0 = .dat (.sl (a.map i64L))∧st.tm 1 = .dat (.sl (b.map i64L))∧st.mem 172019=none) (fun h=>?_) (fun h=>?_) ?_
 ·simp only[go_sem,reduceIte,yA,yB,yC,yD,yE,yH,reduceCtorEq,yF,yG,yI,h_trim,digs]
  repeat' (first|refine qqA ?_ ?_|refine qqB ?_ ?_|refine qqC ?_ ?_|refine qqD ?_ ?_|refine qqE ?_ ?_|refine qqF ?_ ?_)<;>intro h<;>simp only[h,go_sem,reduceIte,yA,yB,yC,yD,yE,yH,reduceCtorEq,yF,yG,yI,h_trim,digs]
  refine⟨dg y,dg x,isD_dg y,isD_dg x,hy,?_,by rw[vl_dg,vl_dg];omega,rfl,rfl⟩
  simp at h;omega
 ·simp only[go_sem,reduceIte,yA,yB,yC,yD,yE,yH,reduceCtorEq,yF,yG,yI,h_trim,digs]
  repeat' (first|refine qqA ?_ ?_|refine qqB ?_ ?_|refine qqC ?_ ?_|refine qqD ?_ ?_|refine qqE ?_ ?_|refine qqF ?_ ?_)<;>intro h<;>simp only[h,go_sem,reduceIte,yA,yB,yC,yD,yE,yH,reduceCtorEq,yF,yG,yI,h_trim,digs]
  refine⟨dg x,dg y,isD_dg x,isD_dg y,hx,?_,by rw[vl_dg,vl_dg],rfl,rfl⟩
  simp at h;omega
 rintro⟨tm,mem⟩ ⟨a,b,hda,hdb,hla,hlb,hv,h0,h1,hm⟩
 dsimp only at h0 h1 hm
 have hw1:IntKind.i64.wrap ((a.length:Int)+1)=((a.length+1:Nat):Int):=by rw[wrap64 _ (by omega) (by omega)];rfl
 have hb1:8*(a.length+1)≤140737488355328:=by omega
 have hb2:a.length+1≤maxLen:=maxLen_big _ (by omega)
 simp only[go_sem,reduceIte,yA,yB,yC,yD,yE,yH,reduceCtorEq,yF,yG,yI,h_trim,h0,h1,hm,hw1,hb1,hb2,row_zero,yJ]
 refine wp_loop_keep [0,1,5,20,21] [] (fun (i,c,o) tm mem=>i≤a.length∧(o:List Int).length=a.length+1∧isD (o.take i)∧0≤c∧c≤1∧vl (o.take i)+1048576^i*c=vl (a.take i)+vl (b.take i)∧tm 22 = .dat (.int .i64 (i:Nat))∧tm 6 = .dat (.int .i64 c)∧mem 172019=some (0,rowE i64L o))
  (fun (i,_)=>a.length-i) (0,0,List.replicate (a.length+1) 0) (by refine⟨Nat.zero_le _,by simp,by simp [isD],by omega,by omega,by simp [vl],?_,?_,?_⟩<;>rfl) ?_
 intro vs ms hvs hms
 simp only[go_sem,reduceIte,yA,yB,yC,yD,yE,yH,reduceCtorEq,yF,yG,yI,h_trim,h0,h1,yJ] at hvs hms
 subst hvs hms
 rintro⟨i,c,o⟩ tm mem hk-⟨hi,ho,hdo,hc0,hc1,hvi,h22,h6,hm⟩
 simp only[go_sem,reduceIte,yA,yB,yC,yD,yE,yH,reduceCtorEq,yF,yG,yI,h_trim,yM] at hk
 obtain⟨h0,h1,h5,h20,h21⟩:=hk
 rcases Decidable.em (i<a.length) with hlt | hge
 ·have hga:a[i]?=some a[i]:=yL hlt
  have hai:=isD_at hda i hlt
  have hw2:IntKind.i64.wrap ((i:Int)+1)=((i+1:Nat):Int):=by rw[wrap64 _ (by omega) (by omega)];rfl
  have hio:i<o.length:=by omega
  have hio':i+1≤(rowE i64L o).length:=by rw[row_len];omega
  have hw3:IntKind.i64.wrap (c+a[i])=c+a[i]:=wrap64 _ (by omega) (by omega)
  have hfold:=fun d=>row_fold o i d hio
  have fin:∀ bi:Int,0≤bi→bi<1048576→vl (b.take (i+1))=vl (b.take i)+1048576^i*bi →
    ∃ i':Nat × Int × List Int,a.length-i'.1<a.length-i∧i'.1≤a.length∧i'.2.2.length=a.length+1∧isD (i'.2.2.take i'.1)∧0≤i'.2.1∧i'.2.1≤1∧vl (i'.2.2.take i'.1)+1048576^i'.1*i'.2.1=vl (a.take i'.1)+vl (b.take i'.1) ∧
     MV.dat (Data.int .i64 ((i+1:Nat):Int))=MV.dat (Data.int .i64 (i'.1:Int))∧MV.dat (Data.int .i64 ((c+a[i]+bi) / 1048576))=MV.dat (Data.int .i64 i'.2.1)∧some (0,rowE i64L (o.set i ((c+a[i]+bi) % 1048576)))=some (0,rowE i64L i'.2.2):=by
   intro bi hb0 hb1 hvb
   refine⟨(i+1,(c+a[i]+bi) / 1048576,o.set i ((c+a[i]+bi) % 1048576)),by dsimp only;omega,by dsimp only;omega,by simp [ho],?_,by dsimp only;omega,by dsimp only;omega,?_,rfl,rfl,rfl⟩
   ·dsimp only
    rw[isD_take_succ _ (by simpa using hio),set_take]
    refine⟨hdo,?_⟩
    simp only[List.getElem_set_self]
    omega
   ·dsimp only
    rw[vl_take_succ _ _ (by simpa using hio),set_take,vl_take_succ a i hlt,hvb,Int.pow_succ]
    simp only[List.getElem_set_self]
    exact add_step _ _ _ _ _ _ _ hvi
  rcases Decidable.em (i<b.length) with hlb' | hgb'
  ·have hgb:b[i]?=some b[i]:=yL hlb'
   have hbi:=isD_at hdb i hlb'
   have hw4:IntKind.i64.wrap (c+a[i]+b[i])=c+a[i]+b[i]:=wrap64 _ (by omega) (by omega)
   have hdec:decide ((i:Int)<(b.length:Int))=true:=decide_eq_true (by omega)
   have hdec2:decide ((i:Int)<(a.length:Int))=true:=decide_eq_true (by omega)
   simp only[go_sem,reduceIte,yA,yB,yC,yD,yE,yH,reduceCtorEq,yF,yG,yI,h_trim,h0,h1,h5,h20,h21,h22,h6,hm,hga,hgb,hw2,hw3,hw4,hdec,hdec2,hlt,hio',hfold,and_mask,fdivm,i64L,Nat.mul_one,yJ,yK,yM,show i<a.length+1 by omega,show ¬ ((20:Int)<0) by omega]
   repeat' (first|refine qqA ?_ ?_|refine qqB ?_ ?_|refine qqC ?_ ?_|refine qqD ?_ ?_|refine qqE ?_ ?_|refine qqF ?_ ?_)<;>intro h<;>simp only[h,go_sem,reduceIte,yA,yB,yC,yD,yE,yH,reduceCtorEq,yF,yG,yI,h_trim,h0,h1,h5,h20,h21,h22,h6,hm,hga,hgb,hw2,hw3,hw4,hdec,hdec2,hlt,hio',hfold,and_mask,fdivm,i64L,Nat.mul_one,yJ,yK,yM,show i<a.length+1 by omega,show ¬ ((20:Int)<0) by omega]
   exact fin b[i] hbi.1 hbi.2 (vl_take_succ b i hlb')
  ·have hdec:decide ((i:Int)<(b.length:Int))=false:=decide_eq_false (by omega)
   have hdec2:decide ((i:Int)<(a.length:Int))=true:=decide_eq_true (by omega)
   simp only[go_sem,reduceIte,yA,yB,yC,yD,yE,yH,reduceCtorEq,yF,yG,yI,h_trim,h0,h1,h5,h20,h21,h22,h6,hm,hga,hw2,hw3,hdec,hdec2,hlt,hio',hfold,and_mask,fdivm,i64L,Nat.mul_one,yJ,yK,yM,show i<a.length+1 by omega,show ¬ ((20:Int)<0) by omega]
   repeat' (first|refine qqA ?_ ?_|refine qqB ?_ ?_|refine qqC ?_ ?_|refine qqD ?_ ?_|refine qqE ?_ ?_|refine qqF ?_ ?_)<;>intro h<;>simp only[h,go_sem,reduceIte,yA,yB,yC,yD,yE,yH,reduceCtorEq,yF,yG,yI,h_trim,h0,h1,h5,h20,h21,h22,h6,hm,hga,hw2,hw3,hdec,hdec2,hlt,hio',hfold,and_mask,fdivm,i64L,Nat.mul_one,yJ,yK,yM,show i<a.length+1 by omega,show ¬ ((20:Int)<0) by omega]
   have:=fin 0 (by omega) (by omega) (by rw[List.take_of_length_le (by omega),List.take_of_length_le (by omega)];simp)
   simpa using this
 ·obtain rfl:i=a.length:=by omega
  have hdec2:decide ((a.length:Int)<(a.length:Int))=false:=decide_eq_false (by omega)
  have hio:a.length<o.length:=by omega
  have hio':a.length+1≤(rowE i64L o).length:=by rw[row_len];omega
  have hfold:=fun d=>row_fold o a.length d hio
  have hdo':isD (o.set a.length c):=by
   have:o.set a.length c=(o.set a.length c).take (a.length+1):=by rw[List.take_of_length_le (by simp [ho])]
   rw[this,isD_take_succ _ (by simpa using hio),set_take]
   refine⟨hdo,?_⟩
   simp only[List.getElem_set_self];omega
  have hvo:vl (o.set a.length c)=x+y:=by
   have:o.set a.length c=(o.set a.length c).take (a.length+1):=by rw[List.take_of_length_le (by simp [ho])]
   rw[this,vl_take_succ _ _ (by simpa using hio),set_take]
   simp only[List.getElem_set_self]
   rw[hvi,List.take_of_length_le (Nat.le_refl _),List.take_of_length_le hlb,hv]
  have hG:=G_trim_eq (o.set a.length c) 172019 0 (updM mem 172019 0 (rowE i64L (o.set a.length c))) (by simp [updM]) (by simp [ho];omega)
  rw[List.length_set,ho] at hG
  have hO:=own_trim (mem:=updM mem 172019 0 (rowE i64L (o.set a.length c))) (k:=172019) (g:=0) (n:=x+y) (by simp [updM]) hdo' (by rw[hvo];rfl)
  simp only[go_sem,reduceIte,yA,yB,yC,yD,yE,yH,reduceCtorEq,yF,yG,yI,h_trim,h0,h1,h5,h20,h21,h22,h6,hm,hdec2,hio',hfold,hG,hO,Nat.mul_one,yJ,show a.length<a.length+1 by omega]
  repeat' (first|refine qqA ?_ ?_|refine qqB ?_ ?_|refine qqC ?_ ?_|refine qqD ?_ ?_|refine qqE ?_ ?_|refine qqF ?_ ?_)<;>intro h<;>simp only[h,go_sem,reduceIte,yA,yB,yC,yD,yE,yH,reduceCtorEq,yF,yG,yI,h_trim,h0,h1,h5,h20,h21,h22,h6,hm,hdec2,hio',hfold,hG,hO,Nat.mul_one,yJ,show a.length<a.length+1 by omega]
end Go.Mini
namespace Go.Mini
open Go
set_option maxRecDepth 10000
set_option maxHeartbeats 1000000
theorem and_one (n:Int):bits .and .i64 (n / 1048576) 1=n / 1048576 % 2:=by
 generalize n / 1048576=m
 have h2:(1:Int)=((2^1-1:Nat):Int):=by decide
 have h1:m % 18446744073709551616 % 2=m % 2:=by omega
 obtain⟨a,ha⟩:∃ a:Nat,(a:Int)=m % 18446744073709551616:=⟨(m % 18446744073709551616).toNat,by omega⟩
 have e:BitVec.ofInt 64 m=BitVec.ofNat 64 a:=by
  apply BitVec.eq_of_toInt_eq
  rw[BitVec.toInt_ofInt,BitVec.toInt_ofNat',ha]
  simp [Int.bmod_def,Int.emod_emod_of_dvd]
 have e2:bits .and .i64 m 1=bits .and .i64 (a:Int) 1:=by
  simp only[bits]
  rw[show IntKind.i64.bits=64 from rfl,e,BitVec.ofInt_natCast]
 rw[e2,←h1,←ha]
 have ha64:a<2^64:=by omega
 conv=>lhs;rw[h2]
 simp only[bits,BitVec.ofInt_natCast,BitVec.toNat_and,BitVec.toNat_ofNat,show IntKind.i64.bits=64 from rfl,Nat.mod_eq_of_lt ha64]
 rw[show (2^1-1:Nat) % 2^64=2^1-1 by decide,Nat.and_two_pow_sub_one_eq_mod,wrap64 _ (by omega) (by omega)]
 omega
theorem vl_set (o:List Int) (j:Nat) (d:Int) (h:j<o.length):vl (o.set j d)=vl o+1048576^j*(d-o[j]):=by
 induction o generalizing j with
 | nil=>simp at h
 | cons x r ih =>
  cases j with
  | zero=>simp [vl];omega
  | succ j =>
   simp only[List.set_cons_succ,vl_cons,List.getElem_cons_succ,Int.pow_succ]
   rw[ih j (by simpa using h),Int.mul_add,←Int.mul_assoc,Int.mul_comm 1048576 (1048576^j)]
   omega
theorem isD_set {o:List Int} (h:isD o) (j:Nat) {d:Int} (hd:0≤d∧d<1048576):isD (o.set j d):=by
 intro x hx
 rcases List.mem_or_eq_of_mem_set hx with h1 | h1
 ·exact h x h1
 ·rw[h1];exact hd
theorem sub_step (p vo va vb c a b:Int) (h:vo=va-vb+p*c):vo+p*((a-c-b) % 1048576)=va+p*a-(vb+p*b)-p*1048576*((a-c-b) / 1048576):=by
 have h1:=Int.emod_add_mul_ediv (a-c-b) 1048576
 have h2:p*((a-c-b) % 1048576)+p*1048576*((a-c-b) / 1048576)=p*(a-c-b):=by
  rw[Int.mul_assoc,←Int.mul_add,h1]
 have h3:p*(a-c-b)=p*a-p*c-p*b:=by rw[Int.mul_sub,Int.mul_sub]
 omega
noncomputable def F_sub:List Data→Option PRes:=FF (α:=Nat × Nat) (fun (x,y)=>([digs x,digs y]:List Data)) (fun (x,y)=>onlyIf ((dg x).length≤100000∧y≤x) (.own 1 ((dg (x-y)).map i64L)))
theorem F_sub_inj:∀ a b:Nat × Nat,(fun (x,y)=>([digs x,digs y]:List Data)) a=(fun (x,y)=>([digs x,digs y]:List Data)) b→a=b:=by
  rintro⟨x1,y1⟩ ⟨x2,y2⟩ h
  simp only[yM,digs,Data.sl.injEq] at h;exact Prod.ext (dg_inj (map_inj i64L_inj _ _ h.1)) (dg_inj (map_inj i64L_inj _ _ h.2.1))
@[go_sem] theorem F_sub_eq (x:Nat) (y:Nat) (hc:(dg x).length≤100000∧y≤x):F_sub [digs x,digs y]=some (.own 1 ((dg (x-y)).map i64L)):=(FF_eq F_sub_inj (x,y)).trans (onlyIf_pos hc _)
theorem w_sub (T:Tab) (h_clone:T id_slices_Clone_int=mkE F_clone) (h_trim:T id_big_trim=mkFG F_trim G_trim) (x:Nat) (y:Nat) (hc:(dg x).length≤100000∧y≤x) :
  wp T mf_big_sub.body (endS mf_big_sub.res (.own 1 ((dg (x-y)).map i64L))) ⟨initTm [.dat (digs x),.dat (digs y)],emp⟩:=by
 refine wp_start ?_
 simp only[mf_big_sub]
 obtain⟨hx,hyx⟩:=hc
 have hdx:=isD_dg x
 have hdy:=isD_dg y
 have hvx:=vl_dg x
 have hvy:=vl_dg y
 have hly:(dg y).length≤(dg x).length:=by
  rw[dg_len];exact Nat.lt_of_le_of_lt hyx (dg_len.1 (Nat.le_refl _))
 generalize ha:dg x=a at *
 generalize hb:dg y=b at *
 have hla:a.length≤1000000:=by omega
 simp only[go_sem,reduceIte,yA,yB,yC,yD,yE,yH,reduceCtorEq,yF,yG,yI,h_clone,h_trim,digs,ha,hb,hla,yJ]
 refine wp_loop_keep [1,5,12] [] (fun (i,c,o) tm mem=>i≤a.length∧(o:List Int).length=a.length∧isD o∧o.drop i=a.drop i∧(c=0∨c=1)∧vl (o.take i)=vl (a.take i)-vl (b.take i)+1048576^i*c∧tm 13 = .dat (.int .i64 (i:Nat))∧tm 6 = .dat (.int .i64 c)∧mem 173010=some (0,rowE i64L o))
  (fun (i,_)=>a.length-i) (0,0,a) (by refine⟨Nat.zero_le _,rfl,hdx,rfl,.inl rfl,by simp [vl],?_,?_,?_⟩<;>rfl) ?_
 intro vs ms hvs hms
 simp only[go_sem,reduceIte,yA,yB,yC,yD,yE,yH,reduceCtorEq,yF,yG,yI,h_clone,h_trim,digs,ha,hb,yJ] at hvs hms
 subst hvs hms
 rintro⟨i,c,o⟩ tm mem hk-⟨hi,ho,hdo,hdr,hc01,hvi,h13,h6,hm⟩
 simp only[go_sem,reduceIte,yA,yB,yC,yD,yE,yH,reduceCtorEq,yF,yG,yI,h_clone,h_trim,yM] at hk
 obtain⟨h1,h5,h12⟩:=hk
 rcases Decidable.em (i<a.length) with hlt | hge
 ·have hio:i<o.length:=by omega
  have hoi:o[i]=a[i]:=by
   have h1:=List.drop_eq_getElem_cons hio
   have h2:=List.drop_eq_getElem_cons hlt
   rw[hdr,h2] at h1
   exact (List.cons.inj h1).1.symm
  have hai:=isD_at hdx i hlt
  have hw2:IntKind.i64.wrap ((i:Int)+1)=((i+1:Nat):Int):=by rw[wrap64 _ (by omega) (by omega)];rfl
  have hio':i+1≤(rowE i64L o).length:=by rw[row_len];omega
  have hget:=row_get o i hio
  rw[hoi] at hget
  have hw3:IntKind.i64.wrap (a[i]-c)=a[i]-c:=wrap64 _ (by omega) (by omega)
  have hfold:=fun d=>row_fold o i d hio
  have fin:∀ bi:Int,0≤bi→bi<1048576→vl (b.take (i+1))=vl (b.take i)+1048576^i*bi →
    ∃ i':Nat × Int × List Int,a.length-i'.1<a.length-i∧i'.1≤a.length∧i'.2.2.length=a.length∧isD i'.2.2∧i'.2.2.drop i'.1=a.drop i'.1∧(i'.2.1=0∨i'.2.1=1)∧vl (i'.2.2.take i'.1)=vl (a.take i'.1)-vl (b.take i'.1)+1048576^i'.1*i'.2.1 ∧
     MV.dat (Data.int .i64 ((i+1:Nat):Int))=MV.dat (Data.int .i64 (i'.1:Int))∧MV.dat (Data.int .i64 ((a[i]-c-bi) / 1048576 % 2))=MV.dat (Data.int .i64 i'.2.1)∧some (0,rowE i64L (o.set i ((a[i]-c-bi) % 1048576)))=some (0,rowE i64L i'.2.2):=by
   intro bi hb0 hb1 hvb
   have hq:(a[i]-c-bi) / 1048576=0∨(a[i]-c-bi) / 1048576 = -1:=by omega
   refine⟨(i+1,(a[i]-c-bi) / 1048576 % 2,o.set i ((a[i]-c-bi) % 1048576)),by dsimp only;omega,by dsimp only;omega,by simp [ho],isD_set hdo i (by omega),?_,by dsimp only;omega,?_,rfl,rfl,rfl⟩
   ·dsimp only
    rw[List.drop_set_of_lt (by omega)]
    have h1:=List.drop_eq_getElem_cons hio
    have h2:=List.drop_eq_getElem_cons hlt
    rw[hdr,h2] at h1
    exact (List.cons.inj h1).2.symm
   ·dsimp only
    rw[vl_take_succ _ _ (by simpa using hio),set_take,vl_take_succ a i hlt,hvb,Int.pow_succ]
    simp only[List.getElem_set_self]
    rw[sub_step _ _ _ _ _ _ _ hvi]
    rcases hq with e | e<;>rw[e]<;>simp
  have hdec2:decide ((i:Int)<(a.length:Int))=true:=decide_eq_true (by omega)
  rcases Decidable.em (i<b.length) with hlb' | hgb'
  ·have hgb:b[i]?=some b[i]:=yL hlb'
   have hbi:=isD_at hdy i hlb'
   have hw4:IntKind.i64.wrap (a[i]-c-b[i])=a[i]-c-b[i]:=wrap64 _ (by omega) (by omega)
   have hdec:decide ((i:Int)<(b.length:Int))=true:=decide_eq_true (by omega)
   simp only[go_sem,reduceIte,yA,yB,yC,yD,yE,yH,reduceCtorEq,yF,yG,yI,h_clone,h_trim,h1,h5,h12,h13,h6,hm,hgb,hw2,hw3,hw4,hdec,hdec2,hlt,hio',hget,hfold,and_mask,and_one,fdivm,i64L,Nat.mul_one,yJ,yK,yM,show ¬ ((20:Int)<0) by omega]
   repeat' (first|refine qqA ?_ ?_|refine qqB ?_ ?_|refine qqC ?_ ?_|refine qqD ?_ ?_|refine qqE ?_ ?_|refine qqF ?_ ?_)<;>intro h<;>simp only[h,go_sem,reduceIte,yA,yB,yC,yD,yE,yH,reduceCtorEq,yF,yG,yI,h_clone,h_trim,h1,h5,h12,h13,h6,hm,hgb,hw2,hw3,hw4,hdec,hdec2,hlt,hio',hget,hfold,and_mask,and_one,fdivm,i64L,Nat.mul_one,yJ,yK,yM,show ¬ ((20:Int)<0) by omega]
   exact fin b[i] hbi.1 hbi.2 (vl_take_succ b i hlb')
  ·have hdec:decide ((i:Int)<(b.length:Int))=false:=decide_eq_false (by omega)
   simp only[go_sem,reduceIte,yA,yB,yC,yD,yE,yH,reduceCtorEq,yF,yG,yI,h_clone,h_trim,h1,h5,h12,h13,h6,hm,hw2,hw3,hdec,hdec2,hlt,hio',hget,hfold,and_mask,and_one,fdivm,i64L,Nat.mul_one,yJ,yK,yM,show ¬ ((20:Int)<0) by omega]
   repeat' (first|refine qqA ?_ ?_|refine qqB ?_ ?_|refine qqC ?_ ?_|refine qqD ?_ ?_|refine qqE ?_ ?_|refine qqF ?_ ?_)<;>intro h<;>simp only[h,go_sem,reduceIte,yA,yB,yC,yD,yE,yH,reduceCtorEq,yF,yG,yI,h_clone,h_trim,h1,h5,h12,h13,h6,hm,hw2,hw3,hdec,hdec2,hlt,hio',hget,hfold,and_mask,and_one,fdivm,i64L,Nat.mul_one,yJ,yK,yM,show ¬ ((20:Int)<0) by omega]
   have:=fin 0 (by omega) (by omega) (by rw[List.take_of_length_le (by omega),List.take_of_length_le (by omega)];simp)
   simpa using this
 ·obtain rfl:i=a.length:=by omega
  have hdec2:decide ((a.length:Int)<(a.length:Int))=false:=decide_eq_false (by omega)
  rw[List.take_of_length_le (by omega),List.take_of_length_le (by omega),List.take_of_length_le (by omega),hvx,hvy] at hvi
  have hvo:vl o=((x-y:Nat):Int):=by
   have h1:=vl_lt hdo
   rw[ho] at h1
   rcases hc01 with rfl | rfl
   ·rw[hvi];omega
   ·omega
  have hG:=G_trim_eq o 173010 0 mem hm (by omega)
  rw[ho] at hG
  have hO:=own_trim hm hdo hvo
  simp only[go_sem,reduceIte,yA,yB,yC,yD,yE,yH,reduceCtorEq,yF,yG,yI,h_clone,h_trim,h1,h5,h12,h13,h6,hm,hdec2,hG,hO,yJ]
  repeat' (first|refine qqA ?_ ?_|refine qqB ?_ ?_|refine qqC ?_ ?_|refine qqD ?_ ?_|refine qqE ?_ ?_|refine qqF ?_ ?_)<;>intro h<;>simp only[h,go_sem,reduceIte,yA,yB,yC,yD,yE,yH,reduceCtorEq,yF,yG,yI,h_clone,h_trim,h1,h5,h12,h13,h6,hm,hdec2,hG,hO,yJ]
theorem mul_step (p vo V c x y oj:Int) (h:vo+p*c=V):vo+p*((oj+x*y+c) % 1048576-oj)+p*1048576*((oj+x*y+c) / 1048576)=V+p*(x*y):=by
 have h1:=Int.emod_add_mul_ediv (oj+x*y+c) 1048576
 have h2:p*((oj+x*y+c) % 1048576)+p*1048576*((oj+x*y+c) / 1048576)=p*(oj+x*y+c):=by
  rw[Int.mul_assoc,←Int.mul_add,h1]
 have h3:p*(oj+x*y+c)=p*oj+p*(x*y)+p*c:=by rw[Int.mul_add,Int.mul_add]
 rw[Int.mul_sub]
 omega
theorem digit_mul {o x y c:Int} (ho:0≤o∧o<1048576) (hx:0≤x∧x<1048576) (hy:0≤y∧y<1048576) (hc:0≤c∧c<1048576) :
  0≤x*y∧x*y≤1099509530625∧0≤(o+x*y+c) / 1048576∧(o+x*y+c) / 1048576<1048576:=by
 have h1:0≤x*y:=Int.mul_nonneg hx.1 hy.1
 have h2:x*y≤1048575*1048575:=Int.mul_le_mul (by omega) (by omega) hy.1 (by omega)
 omega
theorem zeros_at {o:List Int} {n j:Nat} (h:o.drop n=List.replicate (o.length-n) 0) (hj:n≤j) (hlt:j<o.length):o[j]=0:=by
 have h1:(o.drop n)[j-n]?=some o[j]:=by rw[List.getElem?_drop,show n+(j-n)=j by omega,yL hlt]
 rw[h,List.getElem?_replicate] at h1
 split at h1
 ·exact (Option.some.inj h1).symm
 ·cases h1
theorem zeros_next {o:List Int} {n:Nat} {d:Int} (h:o.drop n=List.replicate (o.length-n) 0) (hlt:n<o.length):(o.set n d).drop (n+1)=List.replicate ((o.set n d).length-(n+1)) 0:=by
 rw[List.drop_set_of_lt (by omega),List.length_set]
 have h1:=List.drop_eq_getElem_cons hlt
 rw[h,show o.length-n=(o.length-(n+1))+1 by omega,List.replicate_succ] at h1
 exact (List.cons.inj h1).2.symm
noncomputable def F_mul:List Data→Option PRes:=FF (α:=Nat × Nat) (fun (x,y)=>([digs x,digs y]:List Data)) (fun (x,y)=>onlyIf ((dg x).length≤10000∧(dg y).length≤10000) (.own 1 ((dg (x*y)).map i64L)))
theorem F_mul_inj:∀ a b:Nat × Nat,(fun (x,y)=>([digs x,digs y]:List Data)) a=(fun (x,y)=>([digs x,digs y]:List Data)) b→a=b:=by
  rintro⟨x1,y1⟩ ⟨x2,y2⟩ h
  simp only[yM,digs,Data.sl.injEq] at h;exact Prod.ext (dg_inj (map_inj i64L_inj _ _ h.1)) (dg_inj (map_inj i64L_inj _ _ h.2.1))
@[go_sem] theorem F_mul_eq (x:Nat) (y:Nat) (hc:(dg x).length≤10000∧(dg y).length≤10000):F_mul [digs x,digs y]=some (.own 1 ((dg (x*y)).map i64L)):=(FF_eq F_mul_inj (x,y)).trans (onlyIf_pos hc _)
theorem w_mul (T:Tab) (h_trim:T id_big_trim=mkFG F_trim G_trim) (x:Nat) (y:Nat) (hc:(dg x).length≤10000∧(dg y).length≤10000) :
  wp T mf_big_mul.body (endS mf_big_mul.res (.own 1 ((dg (x*y)).map i64L))) ⟨initTm [.dat (digs x),.dat (digs y)],emp⟩:=by
 refine wp_start ?_
 simp only[mf_big_mul]
 obtain⟨hx,hy⟩:=hc
 have hdx:=isD_dg x
 have hdy:=isD_dg y
 have hvx:=vl_dg x
 have hvy:=vl_dg y
 generalize ha:dg x=a at *
 generalize hb:dg y=b at *
 have hw1:IntKind.i64.wrap ((a.length:Int)+(b.length:Int))=((a.length+b.length:Nat):Int):=by rw[wrap64 _ (by omega) (by omega)];rfl
 have hb1:8*(a.length+b.length)≤140737488355328:=by omega
 have hb2:a.length+b.length≤maxLen:=maxLen_big _ (by omega)
 simp only[go_sem,reduceIte,yA,yB,yC,yD,yE,yH,reduceCtorEq,yF,yG,yI,h_trim,digs,ha,hb,hw1,hb1,hb2,row_zero,yJ]
 refine wp_loop_keep [1,5,18,19] [] (fun (i,o) tm mem=>i≤a.length∧(o:List Int).length=a.length+b.length∧isD o∧o.drop (i+b.length)=List.replicate (o.length-(i+b.length)) 0∧vl o=vl (a.take i)*y∧tm 20 = .dat (.int .i64 (i:Nat))∧mem 161017=some (0,rowE i64L o))
  (fun (i,_)=>a.length-i) (0,List.replicate (a.length+b.length) 0) (by
   have hz:∀ n,vl (List.replicate n 0)=0:=by
    intro n
    induction n with
    | zero=>rfl
    | succ n ih=>rw[List.replicate_succ,vl_cons,ih];rfl
   refine⟨Nat.zero_le _,by simp,fun d hd=>by rw[List.mem_replicate] at hd;omega,by simp,by rw[hz];simp [vl],?_,?_⟩<;>rfl) ?_
 intro vs ms hvs hms
 simp only[go_sem,reduceIte,yA,yB,yC,yD,yE,yH,reduceCtorEq,yF,yG,yI,h_trim,digs,ha,hb,hw1,yJ] at hvs hms
 subst hvs hms
 rintro⟨i,o⟩ tm mem hk-⟨hi,ho,hdo,hzr,hvi,h20,hm⟩
 simp only[go_sem,reduceIte,yA,yB,yC,yD,yE,yH,reduceCtorEq,yF,yG,yI,h_trim,yM] at hk
 obtain⟨h1,h5,h18,h19⟩:=hk
 rcases Decidable.em (i<a.length) with hlt | hge
 ·have hga:a[i]?=some a[i]:=yL hlt
  have hai:=isD_at hdx i hlt
  have hts:=vl_take_succ a i hlt
  generalize a[i]=xi at *
  have hdec:decide ((i:Int)<(a.length:Int))=true:=decide_eq_true (by omega)
  simp only[go_sem,reduceIte,yA,yB,yC,yD,yE,yH,reduceCtorEq,yF,yG,yI,h_trim,h1,h5,h18,h19,h20,hga,hdec,i64L,yJ,yK,yM]
  refine wp_loop_keep [1,5,6,7,18,19,20,25,26] [] (fun ((k,c,o):Nat × Int × List Int) tm mem=>k≤b.length∧o.length=a.length+b.length∧isD o∧o.drop (i+b.length)=List.replicate (o.length-(i+b.length)) 0∧0≤c∧c<1048576∧vl o+1048576^(i+k)*c=vl (a.take i)*y+1048576^i*(xi*vl (b.take k)) ∧
    tm 27 = .dat (.int .i64 (k:Nat))∧tm 8 = .dat (.int .i64 c)∧mem 161017=some (0,rowE i64L o))
   (fun (k,_)=>b.length-k) (0,0,o) (by refine⟨Nat.zero_le _,ho,hdo,hzr,by omega,by omega,by simp [vl,hvi],?_,?_,hm⟩<;>rfl) ?_
  intro vs ms hvs hms
  simp only[go_sem,reduceIte,yA,yB,yC,yD,yE,yH,reduceCtorEq,yF,yG,yI,h_trim,h1,h5,h18,h19,h20,i64L,yJ] at hvs hms
  subst hvs hms
  rintro⟨k,c,o⟩ tm mem hk-⟨hki,ho,hdo,hzr,hc0,hc1,hvi,h27,h8,hm⟩
  simp only[go_sem,reduceIte,yA,yB,yC,yD,yE,yH,reduceCtorEq,yF,yG,yI,h_trim,yM] at hk
  obtain⟨h1,h5,h6,h7,h18,h19,h20,h25,h26⟩:=hk
  rcases Decidable.em (k<b.length) with hkb | hkb
  ·have hgb:b[k]?=some b[k]:=yL hkb
   have hbk:=isD_at hdy k hkb
   have hjo:i+k<o.length:=by omega
   have hoj:=isD_at hdo (i+k) hjo
   obtain⟨m1,m2,m3,m4⟩:=digit_mul hoj hai hbk ⟨hc0,hc1⟩
   have hdec:decide ((k:Int)<(b.length:Int))=true:=decide_eq_true (by omega)
   have hw2:IntKind.i64.wrap ((k:Int)+1)=((k+1:Nat):Int):=by rw[wrap64 _ (by omega) (by omega)];rfl
   have hw3:IntKind.i64.wrap ((i:Int)+(k:Int))=((i+k:Nat):Int):=by rw[wrap64 _ (by omega) (by omega)];rfl
   have hw4:IntKind.i64.wrap (xi*b[k])=xi*b[k]:=wrap64 _ (by omega) (by omega)
   have hw5:IntKind.i64.wrap (o[i+k]+xi*b[k])=o[i+k]+xi*b[k]:=wrap64 _ (by omega) (by omega)
   have hw6:IntKind.i64.wrap (o[i+k]+xi*b[k]+c)=o[i+k]+xi*b[k]+c:=wrap64 _ (by omega) (by omega)
   have hio':i+k+1≤(rowE i64L o).length:=by rw[row_len];omega
   have hget:=row_get o (i+k) hjo
   have hfold:=fun d=>row_fold o (i+k) d hjo
   have hjl:i+k<a.length+b.length:=by omega
   simp only[go_sem,reduceIte,yA,yB,yC,yD,yE,yH,reduceCtorEq,yF,yG,yI,h_trim,h1,h5,h6,h7,h18,h19,h20,h25,h26,h27,h8,hm,hgb,hdec,hw2,hw3,hw4,hw5,hw6,hjl,hio',hget,hfold,and_mask,fdivm,i64L,Nat.mul_one,yJ,yK,yM,show ¬ ((20:Int)<0) by omega]
   repeat' (first|refine qqA ?_ ?_|refine qqB ?_ ?_|refine qqC ?_ ?_|refine qqD ?_ ?_|refine qqE ?_ ?_|refine qqF ?_ ?_)<;>intro h<;>simp only[h,go_sem,reduceIte,yA,yB,yC,yD,yE,yH,reduceCtorEq,yF,yG,yI,h_trim,h1,h5,h6,h7,h18,h19,h20,h25,h26,h27,h8,hm,hgb,hdec,hw2,hw3,hw4,hw5,hw6,hjl,hio',hget,hfold,and_mask,fdivm,i64L,Nat.mul_one,yJ,yK,yM,show ¬ ((20:Int)<0) by omega]
   refine⟨(k+1,(o[i+k]+xi*b[k]+c) / 1048576,o.set (i+k) ((o[i+k]+xi*b[k]+c) % 1048576)),by dsimp only;omega,by dsimp only;omega,by simp [ho],isD_set hdo _ (by omega),?_,m3,m4,?_,rfl,rfl,rfl⟩
   ·dsimp only
    rw[List.drop_set_of_lt (by omega),List.length_set,hzr]
   ·dsimp only
    rw[vl_set _ _ _ hjo,vl_take_succ b k hkb,←Nat.add_assoc,Int.pow_succ,mul_step _ _ _ _ _ _ _ hvi]
    rw[Int.mul_add (xi),Int.mul_add (1048576^i),Int.pow_add]
    have:(1048576:Int)^i*(xi*(1048576^k*b[k]))=1048576^i*1048576^k*(xi*b[k]):=by
     rw[←Int.mul_assoc (xi),Int.mul_comm (xi) (1048576^k),Int.mul_assoc (1048576^k),←Int.mul_assoc]
    omega
  ·obtain rfl:k=b.length:=by omega
   have hdec:decide ((b.length:Int)<(b.length:Int))=false:=decide_eq_false (by omega)
   have hjo:i+b.length<o.length:=by omega
   have hz:=zeros_at hzr (Nat.le_refl _) hjo
   have hw2:IntKind.i64.wrap ((i:Int)+1)=((i+1:Nat):Int):=by rw[wrap64 _ (by omega) (by omega)];rfl
   have hw3:IntKind.i64.wrap ((i:Int)+(b.length:Int))=((i+b.length:Nat):Int):=by rw[wrap64 _ (by omega) (by omega)];rfl
   have hw4:IntKind.i64.wrap (0+c)=c:=by rw[Int.zero_add];exact wrap64 _ (by omega) (by omega)
   have hio':i+b.length+1≤(rowE i64L o).length:=by rw[row_len];omega
   have hget:=row_get o (i+b.length) hjo
   rw[hz] at hget
   have hfold:=fun d=>row_fold o (i+b.length) d hjo
   have hjl:i+b.length<a.length+b.length:=by omega
   simp only[go_sem,reduceIte,yA,yB,yC,yD,yE,yH,reduceCtorEq,yF,yG,yI,h_trim,h1,h5,h6,h7,h18,h19,h20,h25,h26,h27,h8,hm,hdec,hw2,hw3,hw4,hjl,hio',hget,hfold,i64L,Nat.mul_one,yJ]
   repeat' (first|refine qqA ?_ ?_|refine qqB ?_ ?_|refine qqC ?_ ?_|refine qqD ?_ ?_|refine qqE ?_ ?_|refine qqF ?_ ?_)<;>intro h<;>simp only[h,go_sem,reduceIte,yA,yB,yC,yD,yE,yH,reduceCtorEq,yF,yG,yI,h_trim,h1,h5,h6,h7,h18,h19,h20,h25,h26,h27,h8,hm,hdec,hw2,hw3,hw4,hjl,hio',hget,hfold,i64L,Nat.mul_one,yJ]
   refine⟨(i+1,o.set (i+b.length) c),by dsimp only;omega,by dsimp only;omega,by simp [ho],isD_set hdo _ ⟨hc0,hc1⟩,?_,?_,rfl,rfl⟩
   ·dsimp only
    have:=zeros_next (d:=c) hzr hjo
    rwa [show i+b.length+1=i+1+b.length by omega] at this
   ·dsimp only
    rw[vl_set _ _ _ hjo,hz,hts]
    rw[List.take_of_length_le (Nat.le_refl _),hvy] at hvi
    rw[Int.sub_zero,hvi,Int.add_mul,Int.mul_assoc]
 ·obtain rfl:i=a.length:=by omega
  have hdec:decide ((a.length:Int)<(a.length:Int))=false:=decide_eq_false (by omega)
  rw[List.take_of_length_le (Nat.le_refl _),hvx] at hvi
  have hG:=G_trim_eq o 161017 0 mem hm (by omega)
  rw[ho] at hG
  have hO:=own_trim hm hdo (n:=x*y) (by rw[hvi];rfl)
  simp only[go_sem,reduceIte,yA,yB,yC,yD,yE,yH,reduceCtorEq,yF,yG,yI,h_trim,h1,h5,h18,h19,h20,hm,hdec,hG,hO,yJ]
  repeat' (first|refine qqA ?_ ?_|refine qqB ?_ ?_|refine qqC ?_ ?_|refine qqD ?_ ?_|refine qqE ?_ ?_|refine qqF ?_ ?_)<;>intro h<;>simp only[h,go_sem,reduceIte,yA,yB,yC,yD,yE,yH,reduceCtorEq,yF,yG,yI,h_trim,h1,h5,h18,h19,h20,hm,hdec,hG,hO,yJ]
noncomputable def F_short:List Data→Option PRes:=FF (α:=Nat × Int) (fun (x,d)=>([digs x,.int .i64 d]:List Data)) (fun (x,d)=>onlyIf ((dg x).length≤100000∧0<d∧d<1048576) (.same (.tup [digs (x / d.toNat),.int .i64 (x % d.toNat:Nat)])))
theorem F_short_inj:∀ a b:Nat × Int,(fun (x,d)=>([digs x,.int .i64 d]:List Data)) a=(fun (x,d)=>([digs x,.int .i64 d]:List Data)) b→a=b:=by
  rintro⟨x1,d1⟩ ⟨x2,d2⟩ h
  simp only[yM,digs,Data.sl.injEq,Data.int.injEq] at h;exact Prod.ext (dg_inj (map_inj i64L_inj _ _ h.1)) h.2.1.2
@[go_sem] theorem F_short_eq (x:Nat) (d:Int) (hc:(dg x).length≤100000∧0<d∧d<1048576):F_short [digs x,.int .i64 d]=some (.same (.tup [digs (x / d.toNat),.int .i64 (x % d.toNat:Nat)])):=(FF_eq F_short_inj (x,d)).trans (onlyIf_pos hc _)
theorem w_short (T:Tab) (h_trim:T id_big_trim=mkFG F_trim G_trim) (x:Nat) (d:Int) (hc:(dg x).length≤100000∧0<d∧d<1048576) :
  wp T mf_big_short.body (endS mf_big_short.res (.same (.tup [digs (x / d.toNat),.int .i64 (x % d.toNat:Nat)]))) ⟨initTm [.dat (digs x),.dat (.int .i64 d)],emp⟩:=by
 refine wp_start ?_
 simp only[mf_big_short]
 obtain⟨hx,hd0,hd1⟩:=hc
 have hdx:=isD_dg x
 have hvx:=vl_dg x
 generalize ha:dg x=a at *
 have hb1:8*a.length≤140737488355328:=by omega
 have hb2:a.length≤maxLen:=maxLen_big _ (by omega)
 have hdn:(d=0)=False:=by simp;omega
 simp only[go_sem,reduceIte,yA,yB,yC,yD,yE,yH,reduceCtorEq,yF,yG,yI,h_trim,digs,ha,hb1,hb2,row_zero,yJ]
 refine wp_loop_keep [0,1,6] [] (fun ((n,r,o):Nat × Int × List Int) tm mem=>n≤a.length∧o.length=a.length∧isD o∧0≤r∧r<d∧vl (a.drop n)=d*vl (o.drop n)+r∧tm 8 = .dat (.int .i64 ((n:Nat)-1))∧tm 7 = .dat (.int .i64 r)∧mem 176011=some (0,rowE i64L o))
  (fun (n,_)=>n) (a.length,0,List.replicate a.length 0) (by
   refine⟨Nat.le_refl _,by simp,fun d hd=>by rw[List.mem_replicate] at hd;omega,by omega,by omega,by simp [vl],?_,?_,?_⟩
   ·simp only[upd_get,reduceIte];rw[wrap64 _ (by omega) (by omega)]
   ·rfl
   ·rfl) ?_
 intro vs ms hvs hms
 simp only[go_sem,reduceIte,yA,yB,yC,yD,yE,yH,reduceCtorEq,yF,yG,yI,h_trim,digs,ha,yJ] at hvs hms
 subst hvs hms
 rintro⟨n,r,o⟩ tm mem hk-⟨hn,ho,hdo,hr0,hr1,hv,h8,h7,hm⟩
 simp only[go_sem,reduceIte,yA,yB,yC,yD,yE,yH,reduceCtorEq,yF,yG,yI,h_trim,yM] at hk
 obtain⟨h0,h1,h6⟩:=hk
 rcases n with _ | n
 ·have hq:vl o=(x / d.toNat:Nat)∧r=(x % d.toNat:Nat):=by
   rw[List.drop_zero,List.drop_zero,hvx] at hv
   have e:(d.toNat:Int)=d:=by omega
   constructor
   ·rw[Int.natCast_ediv,e,hv,Int.add_comm,Int.add_mul_ediv_left _ _ (by omega),Int.ediv_eq_zero_of_lt hr0 hr1];omega
   ·rw[Int.natCast_emod,e,hv,Int.add_comm,Int.add_mul_emod_self_left,Int.emod_eq_of_lt hr0 hr1]
  have hE:=F_trim_eq o (by omega)
  rw[trimL_dg hdo,hq.1] at hE
  have hlo:MV.ref 176011 0 1 0 a.length=MV.ref 176011 0 1 0 o.length:=by rw[ho]
  rw[hlo] at h6
  simp only[go_sem,reduceIte,yA,yB,yC,yD,yE,yH,reduceCtorEq,yF,yG,yI,h_trim,h0,h1,h6,h7,h8,hm,hE,wpFr2_row i64L_len,Int.natCast_zero,Int.cast_ofNat_Int,show ¬ ((0:Int)-1≥0) by omega,decide_false,Int.toNat_natCast]
  repeat' (first|refine qqA ?_ ?_|refine qqB ?_ ?_|refine qqC ?_ ?_|refine qqD ?_ ?_|refine qqE ?_ ?_|refine qqF ?_ ?_)<;>intro h<;>simp only[h,go_sem,reduceIte,yA,yB,yC,yD,yE,yH,reduceCtorEq,yF,yG,yI,h_trim,h0,h1,h6,h7,h8,hm,hE,wpFr2_row i64L_len,Int.natCast_zero,Int.cast_ofNat_Int,show ¬ ((0:Int)-1≥0) by omega,decide_false,Int.toNat_natCast]
  all_goals rw[hq.2]
 ·have hga:a[n]?=some a[n]:=yL (by omega)
  have han:=isD_at hdx n (by omega)
  have hw:((n+1:Nat):Int)-1=(n:Int):=by omega
  have hno:n<o.length:=by omega
  have hw2:IntKind.i64.wrap (r*2^min (Int.toNat 20) 64)=r*1048576:=by
   rw[show min (Int.toNat 20) 64=20 by decide]
   exact wrap64 _ (by omega) (by omega)
  have hor:bits .or .i64 (r*1048576) a[n]=r*1048576+a[n]:=or_join r a[n] hr0 (by omega) han
  have hq0:0≤(r*1048576+a[n]) / d:=Int.ediv_nonneg (by omega) (by omega)
  have hq1:(r*1048576+a[n]) / d<1048576:=Int.ediv_lt_of_lt_mul hd0 (by
   have:(r+1)*1048576≤d*1048576:=Int.mul_le_mul_of_nonneg_right (by omega) (by omega)
   rw[Int.mul_comm 1048576 d]
   omega)
  have htd:(r*1048576+a[n]).tdiv d=(r*1048576+a[n]) / d:=Int.tdiv_eq_ediv_of_nonneg (by omega)
  have htm:(r*1048576+a[n]).tmod d=(r*1048576+a[n]) % d:=Int.tmod_eq_emod_of_nonneg (by omega)
  have hw3:IntKind.i64.wrap ((r*1048576+a[n]) / d)=(r*1048576+a[n]) / d:=wrap64 _ (by omega) (by omega)
  have hio':n+1≤(rowE i64L o).length:=by rw[row_len];omega
  have hfold:=fun d=>row_fold o n d hno
  have hnl:n<a.length:=by omega
  have hw4:IntKind.i64.wrap ((n:Int)-1)=(n:Int)-1:=wrap64 _ (by omega) (by omega)
  simp only[go_sem,reduceIte,yA,yB,yC,yD,yE,yH,reduceCtorEq,yF,yG,yI,h_trim,h0,h1,h6,h7,h8,hm,hw,hga,hw2,hor,htd,htm,hw3,hw4,hdn,hnl,hio',hfold,show (n:Int)≥0 by omega,decide_true,i64L,Nat.mul_one,yJ,yK,yM,show ¬ ((20:Int)<0) by omega]
  repeat' (first|refine qqA ?_ ?_|refine qqB ?_ ?_|refine qqC ?_ ?_|refine qqD ?_ ?_|refine qqE ?_ ?_|refine qqF ?_ ?_)<;>intro h<;>simp only[h,go_sem,reduceIte,yA,yB,yC,yD,yE,yH,reduceCtorEq,yF,yG,yI,h_trim,h0,h1,h6,h7,h8,hm,hw,hga,hw2,hor,htd,htm,hw3,hw4,hdn,hnl,hio',hfold,show (n:Int)≥0 by omega,decide_true,i64L,Nat.mul_one,yJ,yK,yM,show ¬ ((20:Int)<0) by omega]
  refine⟨(n,(r*1048576+a[n]) % d,o.set n ((r*1048576+a[n]) / d)),by dsimp only;omega,by dsimp only;omega,by simp [ho],isD_set hdo n ⟨hq0,hq1⟩,Int.emod_nonneg _ (by omega),Int.emod_lt_of_pos _ hd0,?_,rfl,rfl,rfl⟩
  dsimp only
  rw[List.drop_eq_getElem_cons (by omega:n<a.length),List.drop_eq_getElem_cons (by simpa using hno:n<(o.set n ((r*1048576+a[n]) / d)).length),vl_cons,vl_cons]
  simp only[List.getElem_set_self]
  rw[List.drop_set_of_lt (by omega),hv]
  have:=Int.emod_add_mul_ediv (r*1048576+a[n]) d
  rw[Int.mul_add,Int.mul_add,Int.mul_left_comm d 1048576]
  omega
end Go.Mini
namespace Go.Mini
open Go
set_option maxRecDepth 10000
set_option maxHeartbeats 1000000
/-- So many digits. -/
def pad:Nat→Nat→List Int
 | 0,_=>[]
 | n+1,x=>((x % 1048576:Nat):Int)::pad n (x / 1048576)
theorem pad_len (n x:Nat):(pad n x).length=n:=by
 induction n generalizing x with
 | zero=>rfl
 | succ n ih=>simp [pad,ih]
theorem isD_pad (n x:Nat):isD (pad n x):=by
 induction n generalizing x with
 | zero=>intro d hd;cases hd
 | succ n ih =>
  unfold pad
  rw[isD_cons]
  exact⟨by omega,ih _⟩
theorem pad_of {l:List Int} (h:isD l):l=pad l.length (vl l).toNat:=by
 induction l with
 | nil=>rfl
 | cons d r ih =>
  rw[isD_cons] at h
  have h1:=vl_nonneg h.2
  have h2:=ih h.2
  simp only[List.length_cons,pad,vl_cons]
  congr 1
  ·omega
  ·rw[show (d+1048576*vl r).toNat / 1048576=(vl r).toNat by omega]
   exact h2
theorem vl_pad {n x:Nat} (h:x<1048576^n):vl (pad n x)=x:=by
 induction n generalizing x with
 | zero=>simp at h;subst h;rfl
 | succ n ih =>
  unfold pad
  rw[vl_cons,ih (by rw[Nat.div_lt_iff_lt_mul (by omega)];rwa [Nat.pow_succ] at h)]
  omega
theorem part_get {pre u post:List Int} {i:Nat} (h:i<u.length):List.take 1 (List.drop (pre.length+i) (rowE i64L (pre++u++post)))=[.dat (.int .i64 u[i])]:=by
 rw[row_get _ _ (by simp;omega)]
 congr 3
 simp [List.getElem_append,h]
theorem part_set {pre u post:List Int} {i:Nat} (h:i<u.length) (d:Int):List.take (pre.length+i) (rowE i64L (pre++u++post))++[.dat (.int .i64 d)]++List.drop (pre.length+i+1) (rowE i64L (pre++u++post))=rowE i64L (pre++u.set i d++post):=by
 rw[row_fold _ _ _ (by simp;omega)]
 congr 1
 rw[List.append_assoc,List.set_append_right _ _ (by omega),Nat.add_sub_cancel_left,List.set_append_left _ _ h,List.append_assoc]
theorem updM_twice (mem:Mem) (k g g':Nat) (a b:List MV):updM (updM mem k g a) k g' b=updM mem k g' b:=by
 funext j
 unfold updM
 split<;>rfl
theorem updM_same {mem:Mem} {k g:Nat} {a:List MV} (h:mem k=some (g,a)):updM mem k g a=mem:=by
 funext j
 unfold updM
 split
 ·rename_i e;rw[e,h]
 ·rfl
structure SettleM where
 pre:List Int
 u:List Int
 post:List Int
 V:Nat
 q:Int
 k:Key
 g:Nat
/-- What is left of a part: less so many times V, or one less. -/
def leftOf (u:List Int) (V:Nat) (q:Int):Int:=if vl u-q*V<0 then vl u-q*V+V else vl u-q*V
def settledQ (u:List Int) (V:Nat) (q:Int):Int:=if vl u-q*V<0 then q-1 else q
def settleRow (a:SettleM):List MV:=rowE i64L (a.pre++pad a.u.length (leftOf a.u a.V a.q).toNat++a.post)
def SettleOK (a:SettleM) (mem:Mem):Prop:=mem a.k=some (a.g,rowE i64L (a.pre++a.u++a.post))∧isD a.u∧(dg a.V).length≤a.u.length∧0≤a.q∧a.q<1048576∧0≤vl a.u-a.q*a.V+a.V∧a.pre.length+a.u.length≤100000
noncomputable def G_settle:List MV→Mem→Option (MV × Mem):=GG (fun (a:SettleM) args mem=>args=[.ref a.k a.g 1 a.pre.length a.u.length,.dat (digs a.V),.dat (.int .i64 a.q)]∧SettleOK a mem)
 (fun a mem=>(.dat (.int .i64 (settledQ a.u a.V a.q)),updM mem a.k a.g (settleRow a)))
theorem digs_inj {a b:Nat} (h:digs a=digs b):a=b:=dg_inj (map_inj i64L_inj _ _ (by simpa [digs] using h))
theorem G_settle_eq (a:SettleM) (mem:Mem) (h:SettleOK a mem):G_settle [.ref a.k a.g 1 a.pre.length a.u.length,.dat (digs a.V),.dat (.int .i64 a.q)] mem=some (.dat (.int .i64 (settledQ a.u a.V a.q)),updM mem a.k a.g (settleRow a)):=by
 unfold G_settle
 refine GG_eq (a:=a) ?_ ⟨rfl,h⟩
 rintro a b args mem ⟨h1,h2,_⟩ ⟨h3,h4,_⟩
 rw[h1] at h3
 simp only[yM,MV.ref.injEq,MV.dat.injEq,Data.int.injEq,true_and,and_true] at h3
 obtain⟨⟨ek,eg,ep,eu⟩,eV,eq⟩:=h3
 have eV':=digs_inj eV
 clear eV
 obtain⟨pre,u,post,V,q,k,g⟩:=a
 obtain⟨pre',u',post',V',q',k',g'⟩:=b
 simp only at ek eg ep eu eV' eq h2 h4
 subst ek eg eV' eq
 rw[h4] at h2
 simp only[Option.some.injEq,Prod.mk.injEq,true_and] at h2
 have e:=rowE_inj i64L_len i64L_inj _ _ h2 (by omega)
 rw[List.append_assoc,List.append_assoc] at e
 obtain⟨e1,e2⟩:=List.append_inj e ep.symm
 obtain⟨e3,e4⟩:=List.append_inj e2 eu.symm
 subst e1 e3 e4
 rfl
theorem settle_step (p vo va vb c a b q:Int) (h:vo=va-q*vb+p*c):vo+p*((a-c-q*b) % 1048576)=va+p*a-q*(vb+p*b)+p*1048576*(-((a-c-q*b) / 1048576)):=by
 have h1:=Int.emod_add_mul_ediv (a-c-q*b) 1048576
 have h2:p*((a-c-q*b) % 1048576)+p*1048576*((a-c-q*b) / 1048576)=p*(a-c-q*b):=by
  rw[Int.mul_assoc,←Int.mul_add,h1]
 have h3:p*(a-c-q*b)=p*a-p*c-p*(q*b):=by rw[Int.mul_sub,Int.mul_sub]
 have h4:q*(vb+p*b)=q*vb+p*(q*b):=by rw[Int.mul_add,Int.mul_left_comm]
 rw[Int.mul_neg]
 omega
theorem settle_digit {a c q b:Int} (ha:0≤a∧a<1048576) (hc:0≤c∧c≤1048576) (hq:0≤q∧q<1048576) (hb:0≤b∧b<1048576) :
  0≤q*b∧q*b≤1099509530625∧0 ≤ -((a-c-q*b) / 1048576) ∧ -((a-c-q*b) / 1048576)≤1048576:=by
 have h1:0≤q*b:=Int.mul_nonneg hq.1 hb.1
 have h2:q*b≤1048575*1048575:=Int.mul_le_mul (by omega) (by omega) hb.1 (by omega)
 omega
theorem w_settle (T:Tab) (a:SettleM) (mem0:Mem) (hc:SettleOK a mem0) :
  wp T mf_big_settle.body (endG mf_big_settle.res (.dat (.int .i64 (settledQ a.u a.V a.q))) (updM mem0 a.k a.g (settleRow a))) ⟨initTm [.ref a.k a.g 1 a.pre.length a.u.length,.dat (digs a.V),.dat (.int .i64 a.q)],mem0⟩:=by
 obtain⟨pre,u,post,V,q,k,g⟩:=a
 obtain⟨hm0,hdu,hlv,hq0,hq1,hX,hlen⟩:=hc
 simp only at hm0 hdu hlv hq0 hq1 hX hlen ⊢
 have hdv:=isD_dg V
 have hvv:=vl_dg V
 have hVlt:=dg_len.1 hlv
 refine wp_start ?_
 simp only[mf_big_settle]
 simp only[go_sem,reduceIte,yA,yB,yC,yD,yE,yH,reduceCtorEq,yF,yG,yI,digs]
 generalize hb:dg V=v at *
 refine wp_loop_keep [0,1,2,13] [] (fun ((i,c,w):Nat × Int × List Int) tm mem=>i≤u.length∧w.length=u.length∧isD w∧w.drop i=u.drop i∧(0≤c∧c≤1048576)∧vl (w.take i)=vl (u.take i)-q*vl (v.take i)+1048576^i*c∧tm 14 = .dat (.int .i64 (i:Nat))∧tm 7 = .dat (.int .i64 c)∧mem=updM mem0 k g (rowE i64L (pre++w++post)))
  (fun (i,_)=>u.length-i) (0,0,u) (by refine⟨Nat.zero_le _,rfl,hdu,rfl,by omega,by simp [vl],rfl,rfl,(updM_same hm0).symm⟩) ?_
 intro vs ms hvs hms
 simp only[go_sem,reduceIte,yA,yB,yC,yD,yE,yH,reduceCtorEq,yF,yG,yI] at hvs hms
 subst hvs hms
 rintro⟨i,c,w⟩ tm _ hk-⟨hi,hw,hdw,hdr,hc,hvi,h14,h7,rfl⟩
 simp only[go_sem,reduceIte,yA,yB,yC,yD,yE,yH,reduceCtorEq,yF,yG,yI,yM] at hk
 obtain⟨h0,h1,h2,h13⟩:=hk
 rcases Decidable.em (i<u.length) with hlt | hge
 ·have hiw:i<w.length:=by omega
  have hwu:w[i]=u[i]:=by
   have h1:=List.drop_eq_getElem_cons hiw
   rw[hdr,List.drop_eq_getElem_cons hlt] at h1
   exact (List.cons.inj h1).1.symm
  have hwd:w.drop (i+1)=u.drop (i+1):=by
   have h1:=List.drop_eq_getElem_cons hiw
   rw[hdr,List.drop_eq_getElem_cons hlt] at h1
   exact (List.cons.inj h1).2.symm
  have hget:=part_get (pre:=pre) (post:=post) hiw
  rw[hwu] at hget
  have hui:=isD_at hdu i hlt
  have hts:=vl_take_succ u i hlt
  generalize u[i]=ui at *
  have hw2:IntKind.i64.wrap ((i:Int)+1)=((i+1:Nat):Int):=by rw[wrap64 _ (by omega) (by omega)];rfl
  have hw3:IntKind.i64.wrap (ui-c)=ui-c:=wrap64 _ (by omega) (by omega)
  have hio':pre.length+i+1≤(rowE i64L (pre++w++post)).length:=by rw[row_len];simp;omega
  have hfold:=fun d=>part_set (pre:=pre) (post:=post) hiw d
  have hdec2:decide ((i:Int)<(u.length:Int))=true:=decide_eq_true (by omega)
  have fin:∀ bi:Int,0≤bi→bi<1048576→vl (v.take (i+1))=vl (v.take i)+1048576^i*bi →
    ∃ i':Nat × Int × List Int,u.length-i'.1<u.length-i∧i'.1≤u.length∧i'.2.2.length=u.length∧isD i'.2.2∧i'.2.2.drop i'.1=u.drop i'.1∧(0≤i'.2.1∧i'.2.1≤1048576)∧vl (i'.2.2.take i'.1)=vl (u.take i'.1)-q*vl (v.take i'.1)+1048576^i'.1*i'.2.1 ∧
     MV.dat (Data.int .i64 ((i+1:Nat):Int))=MV.dat (Data.int .i64 (i'.1:Int))∧MV.dat (Data.int .i64 (-((ui-c-q*bi) / 1048576)))=MV.dat (Data.int .i64 i'.2.1)∧updM mem0 k g (rowE i64L (pre++w.set i ((ui-c-q*bi) % 1048576)++post))=updM mem0 k g (rowE i64L (pre++i'.2.2++post)):=by
   intro bi hb0 hb1 hvb
   obtain⟨m1,m2,m3,m4⟩:=settle_digit hui hc ⟨hq0,hq1⟩ ⟨hb0,hb1⟩
   refine⟨(i+1,-((ui-c-q*bi) / 1048576),w.set i ((ui-c-q*bi) % 1048576)),by dsimp only;omega,by dsimp only;omega,by simp [hw],isD_set hdw i (by omega),?_,⟨m3,m4⟩,?_,rfl,rfl,rfl⟩
   ·dsimp only
    rw[List.drop_set_of_lt (by omega),hwd]
   ·dsimp only
    rw[vl_take_succ _ _ (by simpa using hiw),set_take,hts,hvb,Int.pow_succ]
    simp only[List.getElem_set_self]
    exact settle_step _ _ _ _ _ _ _ _ hvi
  rcases Decidable.em (i<v.length) with hlb' | hgb'
  ·have hgb:v[i]?=some v[i]:=yL hlb'
   have hbi:=isD_at hdv i hlb'
   have htb:=vl_take_succ v i hlb'
   generalize v[i]=bi at *
   obtain⟨m1,m2,m3,m4⟩:=settle_digit hui hc ⟨hq0,hq1⟩ hbi
   have hw4:IntKind.i64.wrap (q*bi)=q*bi:=wrap64 _ (by omega) (by omega)
   have hw5:IntKind.i64.wrap (ui-c-q*bi)=ui-c-q*bi:=wrap64 _ (by omega) (by omega)
   have hw6:IntKind.i64.wrap (0-(ui-c-q*bi) / 1048576) = -((ui-c-q*bi) / 1048576):=by rw[wrap64 _ (by omega) (by omega)];omega
   have hdec:decide ((i:Int)<(v.length:Int))=true:=decide_eq_true (by omega)
   simp only[go_sem,reduceIte,yA,yB,yC,yD,yE,yH,reduceCtorEq,yF,yG,yI,h0,h1,h2,h13,h14,h7,hgb,hw2,hw3,hw4,hw5,hw6,hdec,hdec2,hlt,hio',hget,hfold,updM_twice,and_mask,fdivm,i64L,Nat.mul_one,yJ,yK,yM,show ¬ ((20:Int)<0) by omega]
   repeat' (first|refine qqA ?_ ?_|refine qqB ?_ ?_|refine qqC ?_ ?_|refine qqD ?_ ?_|refine qqE ?_ ?_|refine qqF ?_ ?_)<;>intro h<;>simp only[h,go_sem,reduceIte,yA,yB,yC,yD,yE,yH,reduceCtorEq,yF,yG,yI,h0,h1,h2,h13,h14,h7,hgb,hw2,hw3,hw4,hw5,hw6,hdec,hdec2,hlt,hio',hget,hfold,updM_twice,and_mask,fdivm,i64L,Nat.mul_one,yJ,yK,yM,show ¬ ((20:Int)<0) by omega]
   exact fin bi hbi.1 hbi.2 htb
  ·have hdec:decide ((i:Int)<(v.length:Int))=false:=decide_eq_false (by omega)
   have hw6:IntKind.i64.wrap (0-(ui-c) / 1048576) = -((ui-c) / 1048576):=by rw[wrap64 _ (by omega) (by omega)];omega
   simp only[go_sem,reduceIte,yA,yB,yC,yD,yE,yH,reduceCtorEq,yF,yG,yI,h0,h1,h2,h13,h14,h7,hw2,hw3,hw6,hdec,hdec2,hlt,hio',hget,hfold,updM_twice,and_mask,fdivm,i64L,Nat.mul_one,yJ,yK,yM,show ¬ ((20:Int)<0) by omega]
   repeat' (first|refine qqA ?_ ?_|refine qqB ?_ ?_|refine qqC ?_ ?_|refine qqD ?_ ?_|refine qqE ?_ ?_|refine qqF ?_ ?_)<;>intro h<;>simp only[h,go_sem,reduceIte,yA,yB,yC,yD,yE,yH,reduceCtorEq,yF,yG,yI,h0,h1,h2,h13,h14,h7,hw2,hw3,hw6,hdec,hdec2,hlt,hio',hget,hfold,updM_twice,and_mask,fdivm,i64L,Nat.mul_one,yJ,yK,yM,show ¬ ((20:Int)<0) by omega]
   have:=fin 0 (by omega) (by omega) (by rw[List.take_of_length_le (by omega),List.take_of_length_le (by omega)];simp)
   simp only[Int.mul_zero,Int.sub_zero] at this
   exact this
 ·obtain rfl:i=u.length:=by omega
  have hdec2:decide ((u.length:Int)<(u.length:Int))=false:=decide_eq_false (by omega)
  rw[List.take_of_length_le (by omega),List.take_of_length_le (by omega),List.take_of_length_le (by omega),hvv] at hvi
  have hwlt:=vl_lt hdw
  have hwnn:=vl_nonneg hdw
  rw[hw] at hwlt
  have hpV:(V:Int)<1048576^u.length:=by
   have h:=Int.ofNat_lt.2 hVlt
   rw[Int.natCast_pow] at h
   exact h
  by_cases hc0:c=0
  ·subst hc0
   have hXX:vl u-q*V=vl w:=by omega
   have e1:settledQ u V q=q:=by unfold settledQ;rw[if_neg (by omega)]
   have e2:settleRow ⟨pre,u,post,V,q,k,g⟩=rowE i64L (pre++w++post):=by
    unfold settleRow leftOf
    simp only
    rw[if_neg (by omega),hXX,←hw,←pad_of hdw]
   simp only[go_sem,reduceIte,yA,yB,yC,yD,yE,yH,reduceCtorEq,yF,yG,yI,h0,h1,h2,h13,h14,h7,hdec2,e1,e2,beq_self_eq_true]
   repeat' (first|refine qqA ?_ ?_|refine qqB ?_ ?_|refine qqC ?_ ?_|refine qqD ?_ ?_|refine qqE ?_ ?_|refine qqF ?_ ?_)<;>intro h<;>simp only[h,go_sem,reduceIte,yA,yB,yC,yD,yE,yH,reduceCtorEq,yF,yG,yI,h0,h1,h2,h13,h14,h7,hdec2,e1,e2,beq_self_eq_true]
  ·have hcf:(c==0)=false:=by simpa using hc0
   have hcp:(1048576:Int)^u.length≤1048576^u.length*c:=by
    have:(1048576:Int)^u.length*1≤1048576^u.length*c:=Int.mul_le_mul_of_nonneg_left (by omega) (by omega)
    omega
   have hneg:vl u-q*V<0:=by omega
   have hwq:IntKind.i64.wrap (q-1)=q-1:=wrap64 _ (by omega) (by omega)
   simp only[go_sem,reduceIte,yA,yB,yC,yD,yE,yH,reduceCtorEq,yF,yG,yI,h0,h1,h2,h13,h14,h7,hdec2,hcf]
   refine wp_loop_keep [0,1,2,48] [] (fun ((i,d,z):Nat × Int × List Int) tm mem=>i≤u.length∧z.length=u.length∧isD z∧z.drop i=w.drop i∧(0≤d∧d≤1)∧vl (z.take i)+1048576^i*d=vl (w.take i)+vl (v.take i)∧tm 49 = .dat (.int .i64 (i:Nat))∧tm 10 = .dat (.int .i64 d)∧mem=updM mem0 k g (rowE i64L (pre++z++post)))
    (fun (i,_)=>u.length-i) (0,0,w) (by refine⟨Nat.zero_le _,hw,hdw,rfl,by omega,by simp [vl],rfl,rfl,rfl⟩) ?_
   intro vs ms hvs hms
   simp only[go_sem,reduceIte,yA,yB,yC,yD,yE,yH,reduceCtorEq,yF,yG,yI,h0,h1,h2] at hvs hms
   subst hvs hms
   rintro⟨i,d,z⟩ tm _ hk-⟨hi,hz,hdz,hdr,hd,hvz,h49,h10,rfl⟩
   simp only[go_sem,reduceIte,yA,yB,yC,yD,yE,yH,reduceCtorEq,yF,yG,yI,yM] at hk
   obtain⟨h0,h1,h2,h48⟩:=hk
   rcases Decidable.em (i<u.length) with hlt | hge
   ·have hiz:i<z.length:=by omega
    have hiw:i<w.length:=by omega
    have hzw:z[i]=w[i]:=by
     have h1:=List.drop_eq_getElem_cons hiz
     rw[hdr,List.drop_eq_getElem_cons hiw] at h1
     exact (List.cons.inj h1).1.symm
    have hzd:z.drop (i+1)=w.drop (i+1):=by
     have h1:=List.drop_eq_getElem_cons hiz
     rw[hdr,List.drop_eq_getElem_cons hiw] at h1
     exact (List.cons.inj h1).2.symm
    have hget:=part_get (pre:=pre) (post:=post) hiz
    rw[hzw] at hget
    have hwi:=isD_at hdw i hiw
    have hts:=vl_take_succ w i hiw
    generalize w[i]=wi at *
    have hw2:IntKind.i64.wrap ((i:Int)+1)=((i+1:Nat):Int):=by rw[wrap64 _ (by omega) (by omega)];rfl
    have hw3:IntKind.i64.wrap (d+wi)=d+wi:=wrap64 _ (by omega) (by omega)
    have hio':pre.length+i+1≤(rowE i64L (pre++z++post)).length:=by rw[row_len];simp;omega
    have hfold:=fun d=>part_set (pre:=pre) (post:=post) hiz d
    have hdec2:decide ((i:Int)<(u.length:Int))=true:=decide_eq_true (by omega)
    have fin:∀ bi:Int,0≤bi→bi<1048576→vl (v.take (i+1))=vl (v.take i)+1048576^i*bi →
      ∃ i':Nat × Int × List Int,u.length-i'.1<u.length-i∧i'.1≤u.length∧i'.2.2.length=u.length∧isD i'.2.2∧i'.2.2.drop i'.1=w.drop i'.1∧(0≤i'.2.1∧i'.2.1≤1)∧vl (i'.2.2.take i'.1)+1048576^i'.1*i'.2.1=vl (w.take i'.1)+vl (v.take i'.1) ∧
       MV.dat (Data.int .i64 ((i+1:Nat):Int))=MV.dat (Data.int .i64 (i'.1:Int))∧MV.dat (Data.int .i64 ((d+wi+bi) / 1048576))=MV.dat (Data.int .i64 i'.2.1)∧updM mem0 k g (rowE i64L (pre++z.set i ((d+wi+bi) % 1048576)++post))=updM mem0 k g (rowE i64L (pre++i'.2.2++post)):=by
     intro bi hb0 hb1 hvb
     refine⟨(i+1,(d+wi+bi) / 1048576,z.set i ((d+wi+bi) % 1048576)),by dsimp only;omega,by dsimp only;omega,by simp [hz],isD_set hdz i (by omega),?_,by dsimp only;omega,?_,rfl,rfl,rfl⟩
     ·dsimp only
      rw[List.drop_set_of_lt (by omega),hzd]
     ·dsimp only
      rw[vl_take_succ _ _ (by simpa using hiz),set_take,hts,hvb,Int.pow_succ]
      simp only[List.getElem_set_self]
      exact add_step _ _ _ _ _ _ _ hvz
    rcases Decidable.em (i<v.length) with hlb' | hgb'
    ·have hgb:v[i]?=some v[i]:=yL hlb'
     have hbi:=isD_at hdv i hlb'
     have htb:=vl_take_succ v i hlb'
     generalize v[i]=bi at *
     have hw4:IntKind.i64.wrap (d+wi+bi)=d+wi+bi:=wrap64 _ (by omega) (by omega)
     have hdec:decide ((i:Int)<(v.length:Int))=true:=decide_eq_true (by omega)
     simp only[go_sem,reduceIte,yA,yB,yC,yD,yE,yH,reduceCtorEq,yF,yG,yI,h0,h1,h2,h48,h49,h10,hgb,hw2,hw3,hw4,hdec,hdec2,hlt,hio',hget,hfold,updM_twice,and_mask,fdivm,i64L,Nat.mul_one,yJ,yK,yM,show ¬ ((20:Int)<0) by omega]
     repeat' (first|refine qqA ?_ ?_|refine qqB ?_ ?_|refine qqC ?_ ?_|refine qqD ?_ ?_|refine qqE ?_ ?_|refine qqF ?_ ?_)<;>intro h<;>simp only[h,go_sem,reduceIte,yA,yB,yC,yD,yE,yH,reduceCtorEq,yF,yG,yI,h0,h1,h2,h48,h49,h10,hgb,hw2,hw3,hw4,hdec,hdec2,hlt,hio',hget,hfold,updM_twice,and_mask,fdivm,i64L,Nat.mul_one,yJ,yK,yM,show ¬ ((20:Int)<0) by omega]
     exact fin bi hbi.1 hbi.2 htb
    ·have hdec:decide ((i:Int)<(v.length:Int))=false:=decide_eq_false (by omega)
     simp only[go_sem,reduceIte,yA,yB,yC,yD,yE,yH,reduceCtorEq,yF,yG,yI,h0,h1,h2,h48,h49,h10,hw2,hw3,hdec,hdec2,hlt,hio',hget,hfold,updM_twice,and_mask,fdivm,i64L,Nat.mul_one,yJ,yK,yM,show ¬ ((20:Int)<0) by omega]
     repeat' (first|refine qqA ?_ ?_|refine qqB ?_ ?_|refine qqC ?_ ?_|refine qqD ?_ ?_|refine qqE ?_ ?_|refine qqF ?_ ?_)<;>intro h<;>simp only[h,go_sem,reduceIte,yA,yB,yC,yD,yE,yH,reduceCtorEq,yF,yG,yI,h0,h1,h2,h48,h49,h10,hw2,hw3,hdec,hdec2,hlt,hio',hget,hfold,updM_twice,and_mask,fdivm,i64L,Nat.mul_one,yJ,yK,yM,show ¬ ((20:Int)<0) by omega]
     have:=fin 0 (by omega) (by omega) (by rw[List.take_of_length_le (by omega),List.take_of_length_le (by omega)];simp)
     simp only[Int.add_zero] at this
     exact this
   ·obtain rfl:i=u.length:=by omega
    have hdec2:decide ((u.length:Int)<(u.length:Int))=false:=decide_eq_false (by omega)
    rw[List.take_of_length_le (by omega),List.take_of_length_le (by omega),List.take_of_length_le (by omega),hvv] at hvz
    have hzlt:=vl_lt hdz
    have hznn:=vl_nonneg hdz
    rw[hz] at hzlt
    have hXX:vl u-q*V+V=vl z:=by
     have e:vl u-q*V+V-vl z=1048576^u.length*(d-c):=by rw[Int.mul_sub];omega
     generalize (1048576:Int)^u.length=p at *
     rcases Int.lt_trichotomy (d-c) 0 with h | h | h
     ·have:p*(d-c)≤p*(-1):=Int.mul_le_mul_of_nonneg_left (by omega) (by omega)
      omega
     ·rw[h,Int.mul_zero] at e;omega
     ·have:p*1≤p*(d-c):=Int.mul_le_mul_of_nonneg_left (by omega) (by omega)
      omega
    have e1:settledQ u V q=q-1:=by unfold settledQ;rw[if_pos hneg]
    have e2:settleRow ⟨pre,u,post,V,q,k,g⟩=rowE i64L (pre++z++post):=by
     unfold settleRow leftOf
     simp only
     rw[if_pos hneg,hXX,←hz,←pad_of hdz]
    simp only[go_sem,reduceIte,yA,yB,yC,yD,yE,yH,reduceCtorEq,yF,yG,yI,h0,h1,h2,h48,h49,h10,hdec2,e1,e2,hwq]
    repeat' (first|refine qqA ?_ ?_|refine qqB ?_ ?_|refine qqC ?_ ?_|refine qqD ?_ ?_|refine qqE ?_ ?_|refine qqF ?_ ?_)<;>intro h<;>simp only[h,go_sem,reduceIte,yA,yB,yC,yD,yE,yH,reduceCtorEq,yF,yG,yI,h0,h1,h2,h48,h49,h10,hdec2,e1,e2,hwq]
end Go.Mini
namespace Go.Mini
open Go
set_option maxRecDepth 10000
set_option maxHeartbeats 2000000
/-- A guess that is too great: one less still is no less than the digit. -/
theorem guess_down {T V P Vl Tl v1 v2 top u2 q r:Int} (hV:V=(v1*1048576+v2)*P+Vl) (hT:T=(top*1048576+u2)*P+Tl) (hP:0<P) (hVl:0≤Vl) (hTl:Tl<P) (hq0:0≤q) (hV0:0≤V)
  (hTV:T<1048576*V) (hqr:q*v1+r=top) (hc:q≥1048576∨q*v2>r*1048576+u2):T<q*V:=by
 rcases hc with h | h
 ·have:=Int.mul_le_mul_of_nonneg_right h hV0
  omega
 ·have h1:(top*1048576+u2+1)*P≤(q*(v1*1048576+v2))*P:=by
   refine Int.mul_le_mul_of_nonneg_right ?_ (by omega)
   rw[Int.mul_add,←Int.mul_assoc]
   have:q*v1*1048576=(top-r)*1048576:=by rw[←hqr];congr 1;omega
   omega
  have h2:q*V=(q*(v1*1048576+v2))*P+q*Vl:=by rw[hV,Int.mul_add,←Int.mul_assoc]
  have h3:0≤q*Vl:=Int.mul_nonneg hq0 hVl
  rw[Int.add_mul _ 1,Int.one_mul] at h1
  omega
/-- A guess that stands is one too great at most. -/
theorem guess_stop {T V P Vl Tl v1 v2 top u2 q r:Int} (hV:V=(v1*1048576+v2)*P+Vl) (hT:T=(top*1048576+u2)*P+Tl) (hP:0<P) (hVl:0≤Vl∧Vl<P) (hTl:0≤Tl) (hq0:0≤q) (hq1:q<1048576) (hv1:524288≤v1) (hv2:0≤v2∧v2<1048576) (hu2:0≤u2)
  (hqr:q*v1+r=top) (hc:r≥1048576∨q*v2≤r*1048576+u2):0≤T-q*V+V:=by
 have h2:q*V=(q*(v1*1048576+v2))*P+q*Vl:=by rw[hV,Int.mul_add,←Int.mul_assoc]
 have h3:q*Vl≤q*P:=Int.mul_le_mul_of_nonneg_left (by omega) hq0
 have h4:q*P≤1048576*P:=Int.mul_le_mul_of_nonneg_right (by omega) (by omega)
 have h5:1048576*P≤(v1*1048576+v2)*P:=Int.mul_le_mul_of_nonneg_right (by omega) (by omega)
 have e:q*v1*1048576=(top-r)*1048576:=by rw[←hqr];congr 1;omega
 rcases hc with h | h
 ·have h6:q*v2+q≤1048576*1048576:=by
   have h7:q*(v2+1)≤1048576*1048576:=Int.mul_le_mul (by omega) (by omega) (by omega) (by omega)
   rw[Int.mul_add,Int.mul_one] at h7;exact h7
  have h8:(q*(v1*1048576+v2)+q)*P≤(top*1048576+u2)*P:=by
   refine Int.mul_le_mul_of_nonneg_right ?_ (by omega)
   rw[Int.mul_add,←Int.mul_assoc]
   omega
  rw[Int.add_mul _ q] at h8
  omega
 ·have h8:(q*(v1*1048576+v2))*P≤(top*1048576+u2)*P:=by
   refine Int.mul_le_mul_of_nonneg_right ?_ (by omega)
   rw[Int.mul_add,←Int.mul_assoc]
   omega
  omega
/-- The digit. -/
theorem guess_digit {T V q:Int} (hV:0<V) (h1:T<(q+1)*V) (h2:0≤T-q*V+V):(if T-q*V<0 then q-1 else q)=T / V∧(if T-q*V<0 then T-q*V+V else T-q*V)=T % V:=by
 have h3:(q+1)*V=q*V+V:=by rw[Int.add_mul,Int.one_mul]
 have h4:(q-1)*V=q*V-V:=by rw[Int.sub_mul,Int.one_mul]
 have key:∀ d r:Int,T=d*V+r→0≤r→r<V→d=T / V∧r=T % V:=by
  intro d r h h0 h5
  constructor
  ·rw[h,Int.add_comm,Int.add_mul_ediv_right _ _ (by omega),Int.ediv_eq_zero_of_lt h0 h5];omega
  ·rw[h,Int.add_comm,Int.add_mul_emod_self_right,Int.emod_eq_of_lt h0 h5]
 split
 ·exact key (q-1) _ (by omega) (by omega) (by omega)
 ·exact key q _ (by omega) (by omega) (by omega)
theorem vl_top2 {v:List Int} {N:Nat} (h:v.length=N+2):vl v=(v[N+1]*1048576+v[N])*1048576^N+vl (v.take N):=by
 have e:v=v.take (N+1+1):=by rw[List.take_of_length_le (by omega)]
 conv=>lhs;rw[e]
 rw[vl_take_succ v (N+1) (by omega),vl_take_succ v N (by omega),Int.pow_succ,Int.add_mul,Int.mul_comm (v[N]),Int.mul_right_comm (v[N+1]),Int.mul_comm (v[N+1])]
 have:(1048576:Int)^N*1048576*v[N+1]=1048576^N*v[N+1]*1048576:=by rw[Int.mul_right_comm]
 omega
theorem vl_top3 {v:List Int} {N:Nat} (h:v.length=N+3):vl v=((v[N+2]*1048576+v[N+1])*1048576+v[N])*1048576^N+vl (v.take N):=by
 have e:v=v.take (N+1+1+1):=by rw[List.take_of_length_le (by omega)]
 conv=>lhs;rw[e]
 rw[vl_take_succ v (N+1+1) (by omega),vl_take_succ v (N+1) (by omega),vl_take_succ v N (by omega)]
 simp only[Int.pow_succ]
 generalize (1048576:Int)^N=p
 rw[Int.add_mul,Int.add_mul,Int.add_mul,Int.mul_right_comm (v[N+2]*1048576),Int.mul_right_comm (v[N+2]),Int.mul_comm (v[N+2]),Int.mul_right_comm (v[N+1]),Int.mul_comm (v[N+1]),Int.mul_comm (v[N])]
 have h1:p*1048576*v[N+1]=p*v[N+1]*1048576:=by rw[Int.mul_right_comm]
 have h2:p*1048576*1048576*v[N+1+1]=p*v[N+2]*1048576*1048576:=by rw[Int.mul_right_comm,Int.mul_right_comm p]
 omega
/-- The part of a row that is divided next. -/
theorem window {u:List Int} {i n:Nat} {V:Int} (hd:isD u) (hl:i+n+1≤u.length) (hR:vl (u.drop (i+1))<V) (hV:V<1048576^n) :
  ∃ pre win post,u=pre++win++post∧pre.length=i∧win.length=n+1∧isD pre∧isD win∧isD post∧vl post=0∧∃ w0,win[0]?=some w0∧u.take (i+1)=pre++[w0]∧vl win=w0+1048576*vl (u.drop (i+1))∧0≤vl (u.drop (i+1))∧0≤w0∧w0<1048576:=by
 have e:u=u.take i++(u.drop i).take (n+1)++u.drop (i+n+1):=by
  rw[List.append_assoc,Nat.add_assoc,←List.drop_drop,List.take_append_drop,List.take_append_drop]
 have hd3:=e ▸ hd
 rw[isD_append,isD_append] at hd3
 obtain⟨⟨d1,d2⟩,d3⟩:=hd3
 have hlt:i<u.length:=by omega
 have hdr:=List.drop_eq_getElem_cons hlt
 have hwl:((u.drop i).take (n+1)).length=n+1:=by simp;omega
 have hR':vl (u.drop (i+1))=vl ((u.drop (i+1)).take n)+1048576^n*vl (u.drop (i+n+1)):=by
  have:=vl_take_drop (u.drop (i+1)) n
  rw[List.length_drop,Nat.min_eq_left (by omega),List.drop_drop] at this
  rw[this]
  congr 3
  rw[show i+1+n=i+n+1 by omega]
 have hp:=vl_nonneg d3
 have ht:0≤vl ((u.drop (i+1)).take n):=vl_nonneg (fun x hx=>hd x (List.mem_of_mem_drop (List.mem_of_mem_take hx)))
 have hp0:vl (u.drop (i+n+1))=0:=by
  rcases Decidable.em (0<vl (u.drop (i+n+1))) with h | h
  ·have:(1048576:Int)^n*1≤1048576^n*vl (u.drop (i+n+1)):=Int.mul_le_mul_of_nonneg_left (by omega) (Int.pow_nonneg (by omega))
   omega
  ·omega
 refine⟨_,_,_,e,by simp;omega,hwl,d1,d2,d3,hp0,u[i],?_,?_,?_,?_,(isD_at hd i hlt).1,(isD_at hd i hlt).2⟩
 ·rw[List.getElem?_take_of_lt (by omega),List.getElem?_drop]
  simp [hlt]
 ·rw[List.take_add_one,yL hlt];rfl
 ·rw[hdr,List.take_succ_cons,vl_cons,hR',hp0]
  simp
 ·rw[hR',hp0];simpa using ht
theorem app0 (l:List Int) (h:l.length≤1000000):appC 157054 0 1 l.length 8 1 [.dat (.int .i64 0)] (some (0,((l.map i64L).flatten.map MV.dat)))=some (.ref 157054 1 1 0 (l.length+1),some (157054,1,rowE i64L (l++[0]))) :=
 app_row i64L_len i64L_one 157054 0 8 l 0 rfl (by omega) (by omega)
noncomputable def F_div:List Data→Option PRes:=FF (α:=Nat × Nat) (fun (x,y)=>([digs x,digs y]:List Data)) (fun (x,y)=>onlyIf ((dg x).length≤1000∧(dg y).length≤1000∧0<y) (.same (.tup [digs (x / y),digs (x % y)])))
theorem F_div_inj:∀ a b:Nat × Nat,(fun (x,y)=>([digs x,digs y]:List Data)) a=(fun (x,y)=>([digs x,digs y]:List Data)) b→a=b:=by
  rintro⟨x1,y1⟩ ⟨x2,y2⟩ h
  simp only[yM] at h;exact Prod.ext (digs_inj h.1) (digs_inj h.2.1)
@[go_sem] theorem F_div_eq (x:Nat) (y:Nat) (hc:(dg x).length≤1000∧(dg y).length≤1000∧0<y):F_div [digs x,digs y]=some (.same (.tup [digs (x / y),digs (x % y)])):=(FF_eq F_div_inj (x,y)).trans (onlyIf_pos hc _)
theorem w_div (T:Tab) (h_compare:T id_big_compare=mkE F_compare) (h_clone:T id_slices_Clone_int=mkE F_clone) (h_short:T id_big_short=mkE F_short) (h_trim:T id_big_trim=mkFG F_trim G_trim) (h_mul:T id_big_mul=mkE F_mul) (h_settle:T id_big_settle=mkG G_settle) (x:Nat) (y:Nat) (hc:(dg x).length≤1000∧(dg y).length≤1000∧0<y) :
  wp T mf_big_div.body (endS mf_big_div.res (.same (.tup [digs (x / y),digs (x % y)]))) ⟨initTm [.dat (digs x),.dat (digs y)],emp⟩:=by
 refine wp_start ?_
 simp only[mf_big_div]
 obtain⟨hx,hy,hy0⟩:=hc
 have hcc:(dg x).length≤1000000∧(dg y).length≤1000000:=by omega
 have hce:=F_compare_eq x y hcc
 have hxl:(dg x).length≤1000000:=by omega
 by_cases hxy:x<y
 ·have hcmp:cmpI x y = -1:=by unfold cmpI;rw[if_pos (by simpa using hxy)]
  have hcl:=F_clone_eq (dg x) hxl
  rw[hcmp] at hce
  change F_clone [digs x]=_ at hcl
  simp only[go_sem,reduceIte,yA,yB,yC,yD,yE,yH,reduceCtorEq,yF,yG,yI,h_compare,h_clone,h_short,h_trim,h_mul,h_settle,hce,hcl,show ((-1:Int)<0) by omega,decide_true]
  repeat' (first|refine qqA ?_ ?_|refine qqB ?_ ?_|refine qqC ?_ ?_|refine qqD ?_ ?_|refine qqE ?_ ?_|refine qqF ?_ ?_)<;>intro h<;>simp only[h,go_sem,reduceIte,yA,yB,yC,yD,yE,yH,reduceCtorEq,yF,yG,yI,h_compare,h_clone,h_short,h_trim,h_mul,h_settle,hce,hcl,show ((-1:Int)<0) by omega,decide_true]
  rw[Nat.div_eq_of_lt hxy,Nat.mod_eq_of_lt hxy]
  try rfl
 ·have hcmp:decide (cmpI x y<0)=false:=by
   unfold cmpI
   rw[if_neg (by simp;omega)]
   split<;>rfl
  have hny:dg y≠[]:=by rw[Ne,dg_nil];omega
  by_cases h1:y<1048576
  ·have hdy:=dg_one hy0 h1
   have hsh:=F_short_eq x y ⟨by omega,by omega,by omega⟩
   have htr:=F_trim_eq [((x % y:Nat):Int)] (by simp)
   have hlt:x % y<y:=Nat.mod_lt _ hy0
   rw[Int.toNat_natCast] at hsh
   have htd:trimL [((x % y:Nat):Int)]=dg (x % y):=by
    generalize x % y=r at hlt ⊢
    rw[trimL_dg (by intro d hd;rw[List.mem_singleton] at hd;omega)]
    simp only[vl]
    congr 1
   rw[htd] at htr
   have hdig:digs y = .sl [[.int .i64 y]]:=by unfold digs;rw[hdy];rfl
   change F_trim [.sl [[.int .i64 _]]]=_ at htr
   rw[hdig] at hce
   simp only[go_sem,reduceIte,yA,yB,yC,yD,yE,yH,reduceCtorEq,yF,yG,yI,h_compare,h_clone,h_short,h_trim,h_mul,h_settle,hdig,hce,hcmp,hsh,htr,show (((1:Nat):Int)==1)=true from rfl]
   repeat' (first|refine qqA ?_ ?_|refine qqB ?_ ?_|refine qqC ?_ ?_|refine qqD ?_ ?_|refine qqE ?_ ?_|refine qqF ?_ ?_)<;>intro h<;>simp only[h,go_sem,reduceIte,yA,yB,yC,yD,yE,yH,reduceCtorEq,yF,yG,yI,h_compare,h_clone,h_short,h_trim,h_mul,h_settle,hdig,hce,hcmp,hsh,htr,show (((1:Nat):Int)==1)=true from rfl]
   try rfl
  ·obtain⟨N,hN⟩:∃ N,(dg y).length=N+2:=by
    have:=mt (dg_len (n:=y) (k:=1)).1 (by simpa using h1)
    exact⟨(dg y).length-2,by omega⟩
   have hdy:=isD_dg y
   have hly:(((dg y).length:Int)==1)=false:=by simp;omega
   have hwl:IntKind.i64.wrap (((dg y).length:Int)-1)=((N+1:Nat):Int):=by rw[wrap64 _ (by omega) (by omega)];omega
   have hgt:(dg y)[N+1]?=some (dg y)[N+1]:=yL (by omega)
   have htop:=isD_at hdy (N+1) (by omega)
   have htop0:(dg y)[N+1]≠0:=by
    intro h
    have:=dg_last y
    rw[List.getLast?_eq_getElem?,hN] at this
    exact this (by rw[show N+2-1=N+1 by omega,hgt,h])
   have hyv:=vl_top2 hN
   rw[vl_dg] at hyv
   have hylow:=vl_lt (isD_take hdy N)
   have hylow0:=vl_nonneg (isD_take hdy N)
   have hylow1:=isD_at hdy N (by omega)
   rw[List.length_take,Nat.min_eq_left (by omega)] at hylow
   generalize (dg y)[N+1]=b1 at *
   generalize (dg y)[N]=b0 at *
   generalize vl ((dg y).take N)=bl at *
   have hgt':((dg y).map i64L)[N+1]?=some [.int .i64 b1]:=by rw[yK,hgt];rfl
   simp only[go_sem,reduceIte,yA,yB,yC,yD,yE,yH,reduceCtorEq,yF,yG,yI,h_compare,h_clone,h_short,h_trim,h_mul,h_settle,digs,hce,hcmp,hly,yJ]
   have hce':=hce
   unfold digs at hce'
   simp only[go_sem,reduceIte,yA,yB,yC,yD,yE,yH,reduceCtorEq,yF,yG,yI,h_compare,h_clone,h_short,h_trim,h_mul,h_settle,hce',hcmp,hly,yJ]
   refine wp_loop_keep [0,1] [157054,157075] (fun (κ:Nat) tm mem=>b1*2^κ<1048576∧tm 8 = .dat (.int .i64 (2^κ))) (fun κ=>20-κ) 0 (by refine⟨by omega,rfl⟩) ?_
   intro vs ms hvs hms
   simp only[go_sem,reduceIte,yA,yB,yC,yD,yE,yH,reduceCtorEq,yF,yG,yI,h_compare,h_clone,h_short,h_trim,h_mul,h_settle,yJ] at hvs hms
   subst hvs hms
   rintro κ tm mem hk hm ⟨hbs,h8⟩
   simp only[go_sem,reduceIte,yA,yB,yC,yD,yE,yH,reduceCtorEq,yF,yG,yI,h_compare,h_clone,h_short,h_trim,h_mul,h_settle,yM] at hk hm
   obtain⟨h0,h1'⟩:=hk
   obtain⟨hm1,hm2⟩:=hm
   have hspos:(0:Int)<2^κ:=Int.pow_pos (by omega)
   have hsB:(2:Int)^κ≤b1*2^κ:=by
    have:1*(2:Int)^κ≤b1*2^κ:=Int.mul_le_mul_of_nonneg_right (by omega) (by omega)
    omega
   have hκ:κ<20:=by
    rcases Nat.lt_or_ge κ 20 with h | h
    ·exact h
    ·have:(2:Int)^20≤2^κ:=by
      have:=Nat.pow_le_pow_right (n:=2) (by omega) h
      have h':=Int.ofNat_le.2 this
      rwa [Int.natCast_pow,Int.natCast_pow] at h'
     omega
   have hws:IntKind.i64.wrap (b1*2^κ)=b1*2^κ:=wrap64 _ (by omega) (by omega)
   have hws2:IntKind.i64.wrap (2^κ*2)=2^κ*2:=wrap64 _ (by omega) (by omega)
   rcases Decidable.em (b1*2^κ<524288) with hlt | hge
   ·simp only[go_sem,reduceIte,yA,yB,yC,yD,yE,yH,reduceCtorEq,yF,yG,yI,h_compare,h_clone,h_short,h_trim,h_mul,h_settle,h0,h1',h8,hwl,hgt',hws,hws2,hlt,hm1,hm2,decide_true,Nat.mul_one,yJ]
    repeat' (first|refine qqA ?_ ?_|refine qqB ?_ ?_|refine qqC ?_ ?_|refine qqD ?_ ?_|refine qqE ?_ ?_|refine qqF ?_ ?_)<;>intro h<;>simp only[h,go_sem,reduceIte,yA,yB,yC,yD,yE,yH,reduceCtorEq,yF,yG,yI,h_compare,h_clone,h_short,h_trim,h_mul,h_settle,h0,h1',h8,hwl,hgt',hws,hws2,hlt,hm1,hm2,decide_true,Nat.mul_one,yJ]
    exact⟨κ+1,by omega,by rw[Int.pow_succ,←Int.mul_assoc];omega,by rw[Int.pow_succ]⟩
   ·-- the numbers, shifted
    have hb1s:(b1+1)*2^κ≤1048576:=by
     have e:(1048576:Int)=2^(20-κ)*2^κ:=by rw[←Int.pow_add,show 20-κ+κ=20 by omega];rfl
     have h1:b1<2^(20-κ):=by
      rcases Decidable.em (b1<2^(20-κ)) with h | h
      ·exact h
      ·have:(2:Int)^(20-κ)*2^κ≤b1*2^κ:=Int.mul_le_mul_of_nonneg_right (by omega) (by omega)
       omega
     rw[e]
     exact Int.mul_le_mul_of_nonneg_right (by omega) (by omega)
    generalize (2:Int)^κ=s at *
    obtain⟨S,rfl⟩:∃ S:Nat,s=S:=⟨s.toNat,by omega⟩
    have hP:(0:Int)<1048576^N:=Int.pow_pos (by omega)
    have hSpos:0<S:=by omega
    have hVlt:y*S<1048576^(N+2):=by
     have h1:((y*S:Nat):Int)<1048576^(N+2):=by
      rw[Int.natCast_mul,hyv,Int.pow_succ,Int.pow_succ]
      generalize (1048576:Int)^N=p at *
      have e1:((b1*1048576+b0)*p+bl)*S≤((b1+1)*1048576*p)*S:=by
       refine Int.mul_le_mul_of_nonneg_right ?_ (by omega)
       have:(b1*1048576+b0+1)*p≤((b1+1)*1048576)*p:=Int.mul_le_mul_of_nonneg_right (by omega) (by omega)
       rw[Int.add_mul _ 1] at this
       omega
      have e1':((b1*1048576+b0)*p+bl)*S<((b1+1)*1048576*p)*S:=by
       refine Int.mul_lt_mul_of_pos_right ?_ (by omega)
       have:(b1*1048576+b0+1)*p≤((b1+1)*1048576)*p:=Int.mul_le_mul_of_nonneg_right (by omega) (by omega)
       rw[Int.add_mul _ 1] at this
       omega
      have e2:((b1+1)*1048576*p)*S=((b1+1)*S)*(p*1048576):=by
       rw[Int.mul_assoc (b1+1),Int.mul_assoc,Int.mul_comm (1048576*p),←Int.mul_assoc,Int.mul_comm 1048576 p]
      have e3:((b1+1)*S)*(p*1048576)≤1048576*(p*1048576):=Int.mul_le_mul_of_nonneg_right hb1s (by omega)
      omega
     have h2:((1048576^(N+2):Nat):Int)=1048576^(N+2):=by rw[Int.natCast_pow];rfl
     omega
    have hVge:524288*(1048576^N*1048576)≤((y*S:Nat):Int):=by
     rw[Int.natCast_mul,hyv]
     generalize (1048576:Int)^N=p at *
     have e1:(b1*1048576)*p*S≤((b1*1048576+b0)*p+bl)*S:=by
      refine Int.mul_le_mul_of_nonneg_right ?_ (by omega)
      have:(b1*1048576)*p≤(b1*1048576+b0)*p:=Int.mul_le_mul_of_nonneg_right (by omega) (by omega)
      omega
     have e2:(b1*1048576)*p*S=(b1*S)*(p*1048576):=by
      rw[Int.mul_assoc b1,Int.mul_assoc,Int.mul_comm (1048576*p),←Int.mul_assoc,Int.mul_comm 1048576 p]
     have e3:524288*(p*1048576)≤(b1*S)*(p*1048576):=Int.mul_le_mul_of_nonneg_right (by omega) (by omega)
     omega
    have hnV:(dg (y*S)).length=N+2:=by
     have h1:=dg_len.2 hVlt
     have h2:=mt (dg_len (n:=y*S) (k:=N+1)).1 (by
      have h2:((1048576^(N+1):Nat):Int)=1048576^N*1048576:=by rw[Int.natCast_pow,Int.pow_succ];rfl
      omega)
     omega
    have hxl2:1*x≤x*S:=by rw[Nat.mul_comm];exact Nat.mul_le_mul_left x hSpos
    have hXlen:(dg x).length≤(dg (x*S)).length:=by
     rw[dg_len]
     have:=dg_len.1 (Nat.le_refl (dg (x*S)).length)
     omega
    have hXV:y*S≤x*S:=Nat.mul_le_mul_right S (by omega)
    have hXlen2:N+2≤(dg (x*S)).length:=by
     rw[←hnV,dg_len]
     have:=dg_len.1 (Nat.le_refl (dg (x*S)).length)
     omega
    have hXlen3:(dg (x*S)).length≤1001:=by
     have:∀ k,(dg x).length≤k→(dg (x*S)).length≤k+1:=by
      intro k hk
      rw[dg_len]
      have h1:=dg_len.1 hk
      rw[Nat.pow_succ]
      exact Nat.lt_of_lt_of_le (Nat.mul_lt_mul_of_pos_right h1 hSpos) (Nat.mul_le_mul_left _ (by omega))
     exact this 1000 hx
    have hmx:=F_mul_eq x S ⟨by omega,by rw[dg_one hSpos (by omega)];simp⟩
    have hmy:=F_mul_eq y S ⟨by omega,by rw[dg_one hSpos (by omega)];simp⟩
    have hdS:digs S = .sl [[.int .i64 (S:Int)]]:=by unfold digs;rw[dg_one hSpos (by omega)];rfl
    rw[hdS] at hmx hmy
    simp only[digs] at hmx hmy
    have hap:=app0 (dg (x*S)) (by omega)
    have hlne:((((dg (x*S)).length+1:Nat):Int)==((dg x).length:Int))=false:=by simp;omega
    have hvV:=vl_dg (y*S)
    have hdV:=isD_dg (y*S)
    have hvX:=vl_dg (x*S)
    have hdX:=isD_dg (x*S)
    have hVdef:digs (y*S) = .sl ((dg (y*S)).map i64L):=rfl
    generalize hvd:dg (y*S)=v at *
    generalize hud:dg (x*S)=u0 at *
    have hwq:IntKind.i64.wrap (((u0.length+1:Nat):Int)-(v.length:Int))=((u0.length-N-1:Nat):Int):=by rw[wrap64 _ (by omega) (by omega)];omega
    have hq1:8*(u0.length-N-1)≤140737488355328:=by omega
    have hq2:u0.length-N-1≤maxLen:=maxLen_big _ (by omega)
    have hge':decide (b1*(S:Int)<524288)=false:=decide_eq_false hge
    simp only[go_sem,reduceIte,yA,yB,yC,yD,yE,yH,reduceCtorEq,yF,yG,yI,h_compare,h_clone,h_short,h_trim,h_mul,h_settle,h0,h1',h8,hm1,hm2,hwl,hgt',hws,hge',hmx,hmy,hap,hlne,hwq,hq1,hq2,row_zero,Nat.mul_one,yJ]
    have hM:u0.length-N-1+(N+2)=u0.length+1:=by omega
    generalize hMd:u0.length-N-1=M at *
    have hL:u0.length=M+N+1:=by omega
    have hV2:=vl_top2 hnV
    rw[hvV] at hV2
    have hvlow:=vl_lt (isD_take hdV N)
    have hvlow0:=vl_nonneg (isD_take hdV N)
    rw[List.length_take,Nat.min_eq_left (by omega)] at hvlow
    have hg1:v[N+1]?=some v[N+1]:=yL (by omega)
    have hg0:v[N]?=some v[N]:=yL (by omega)
    have hr1:=isD_at hdV (N+1) (by omega)
    have hr0:=isD_at hdV N (by omega)
    generalize v[N+1]=v1 at *
    generalize v[N]=v0 at *
    generalize vl (v.take N)=vlow at *
    have hv1:524288≤v1:=by
     generalize (1048576:Int)^N=p at *
     rcases Decidable.em (524288≤v1) with h | h
     ·exact h
     ·have h2:(v1*1048576+v0+1)*p≤(524288*1048576)*p:=Int.mul_le_mul_of_nonneg_right (by omega) (by omega)
      rw[Int.add_mul _ 1,Int.one_mul] at h2
      omega
    have hVn:((y*S:Nat):Int)<1048576^(N+2):=by
     have h2:((1048576^(N+2):Nat):Int)=1048576^(N+2):=by rw[Int.natCast_pow];rfl
     omega
    have hVpos:0<((y*S:Nat):Int):=by
     have:0<1048576^N*(1048576:Int):=Int.mul_pos hP (by omega)
     omega
    have hUtop:vl ((u0++[0]).drop M)<((y*S:Nat):Int):=by
     have e:(u0++[0]).drop M=u0.drop M++[0]:=by rw[List.drop_append_of_le_length (by omega)]
     rw[e,vl_append]
     have h1:=vl_lt (fun d hd=>hdX d (List.mem_of_mem_drop hd):isD (u0.drop M))
     rw[List.length_drop,show u0.length-M=N+1 by omega,Int.pow_succ] at h1
     simp only[vl]
     omega
    have hXsum:((x*S:Nat):Int)=vl ((u0++[0]).take M)+1048576^M*vl ((u0++[0]).drop M):=by
     have:=vl_take_drop (u0++[0]) M
     rw[vl_append,hvX,Nat.min_eq_left (by simp;omega)] at this
     simpa [vl] using this
    generalize hVd:y*S=Vn at *
    generalize hXd:x*S=Xn at *
    refine wp_loop_keep [8,9,10,11,12] [] (fun ((j,u,qs):Nat × List Int × List Int) tm mem=>j≤M∧u.length=u0.length+1∧isD u∧qs.length=M∧isD qs∧vl (u.drop j)<Vn∧(Xn:Int)=vl (u.take j)+1048576^j*(Vn*vl (qs.drop j)+vl (u.drop j)) ∧
      tm 13 = .dat (.int .i64 ((j:Nat)-1))∧mem 157054=some (1,rowE i64L u)∧mem 157075=some (0,rowE i64L qs)) (fun (j,_)=>j) (M,u0++[0],List.replicate M 0)
     (by
      refine⟨Nat.le_refl _,by simp,isD_append.2 ⟨hdX,by intro d hd;rw[List.mem_singleton] at hd;omega⟩,by simp,fun d hd=>by rw[List.mem_replicate] at hd;omega,hUtop,?_,?_,rfl,rfl⟩
      ·rw[List.drop_of_length_le (by simp)]
       simp only[vl,Int.mul_zero,Int.zero_add]
       exact hXsum
      ·simp only[upd_get,reduceIte];rw[wrap64 _ (by omega) (by omega)]) ?_
    intro vs ms hvs hms
    simp only[go_sem,reduceIte,yA,yB,yC,yD,yE,yH,reduceCtorEq,yF,yG,yI,h_compare,h_clone,h_short,h_trim,h_mul,h_settle,h0,h1',h8] at hvs hms
    subst hvs hms
    rintro⟨j,u,qs⟩ tm mem hk-⟨hj,hul,hdu,hql,hdq,hR,hsum,h13,hmu,hmq⟩
    simp only[go_sem,reduceIte,yA,yB,yC,yD,yE,yH,reduceCtorEq,yF,yG,yI,h_compare,h_clone,h_short,h_trim,h_mul,h_settle,yM] at hk
    obtain⟨h8,h9,h10,h11,h12⟩:=hk
    rcases j with _ | j
    ·rw[List.drop_zero,List.drop_zero] at hsum
     rw[List.drop_zero] at hR
     simp only[List.take_zero,vl,Int.pow_zero,Int.one_mul,Int.zero_add] at hsum
     have hqn:=vl_nonneg hdq
     have hun:=vl_nonneg hdu
     have hdivmod:vl qs=((x / y:Nat):Int)∧vl u=((x % y*S:Nat):Int):=by
      have h1:Xn / Vn=x / y:=by rw[←hXd,←hVd];exact Nat.mul_div_mul_right x y hSpos
      have h2:Xn % Vn=x % y*S:=by rw[←hXd,←hVd];exact Nat.mul_mod_mul_right S x y
      have h3:((Xn / Vn:Nat):Int)=vl qs:=by rw[Int.natCast_ediv,hsum,Int.add_comm,Int.add_mul_ediv_left _ _ (by omega),Int.ediv_eq_zero_of_lt hun hR];omega
      have h4:((Xn % Vn:Nat):Int)=vl u:=by rw[Int.natCast_emod,hsum,Int.add_comm,Int.add_mul_emod_self_left,Int.emod_eq_of_lt hun hR]
      rw[h1] at h3
      rw[h2] at h4
      exact⟨h3.symm,h4.symm⟩
     have htu:=F_trim_eq u (by omega)
     rw[trimL_dg hdu,hdivmod.2,Int.toNat_natCast] at htu
     have htq:=F_trim_eq qs (by omega)
     rw[trimL_dg hdq,hdivmod.1,Int.toNat_natCast] at htq
     have hlen:(dg (x % y*S)).length≤100000:=by
      have:(dg (x % y*S)).length≤u.length:=by
       have:=trim_len u
       rw[trimL_dg hdu,hdivmod.2,Int.toNat_natCast] at this
       exact this
      omega
     have hsh:=F_short_eq (x % y*S) S ⟨hlen,by omega,by omega⟩
     rw[Int.toNat_natCast,Nat.mul_div_cancel _ hSpos] at hsh
     simp only[digs] at hsh
     have e9:MV.ref 157054 1 1 0 (u0.length+1)=MV.ref 157054 1 1 0 u.length:=by rw[hul]
     have e12:MV.ref 157075 0 1 0 M=MV.ref 157075 0 1 0 qs.length:=by rw[hql]
     rw[e9] at h9
     rw[e12] at h12
     simp only[go_sem,reduceIte,yA,yB,yC,yD,yE,yH,reduceCtorEq,yF,yG,yI,h_compare,h_clone,h_short,h_trim,h_mul,h_settle,h8,h9,h10,h11,h12,h13,hmu,hmq,htu,htq,hsh,wpFr2_row i64L_len,digs,Int.natCast_zero,Int.cast_ofNat_Int,show ¬ ((0:Int)-1≥0) by omega,decide_false]
     repeat' (first|refine qqA ?_ ?_|refine qqB ?_ ?_|refine qqC ?_ ?_|refine qqD ?_ ?_|refine qqE ?_ ?_|refine qqF ?_ ?_)<;>intro h<;>simp only[h,go_sem,reduceIte,yA,yB,yC,yD,yE,yH,reduceCtorEq,yF,yG,yI,h_compare,h_clone,h_short,h_trim,h_mul,h_settle,h8,h9,h10,h11,h12,h13,hmu,hmq,htu,htq,hsh,wpFr2_row i64L_len,digs,Int.natCast_zero,Int.cast_ofNat_Int,show ¬ ((0:Int)-1≥0) by omega,decide_false]
    ·obtain⟨pre,win,post,e,hpre,hwl',hdp,hdw,hdpo,hpo0,w0,hw0,htk,hwv,hR0,hw00,hw01⟩:=window (i:=j) (n:=N+2) hdu (by omega) hR hVn
     have hM1:j<M:=by omega
     rw[htk,vl_append,hpre] at hsum
     subst e
     subst hpre
     rw[hnV] at h11
     have hw13:((pre.length+1:Nat):Int)-1=(pre.length:Int):=by omega
     have hx1:IntKind.i64.wrap ((pre.length:Int)+((N+2:Nat):Int))=((pre.length+(N+2):Nat):Int):=by rw[wrap64 _ (by omega) (by omega)];omega
     have hx3:IntKind.i64.wrap (((pre.length+(N+2):Nat):Int)-1)=((pre.length+(N+1):Nat):Int):=by rw[wrap64 _ (by omega) (by omega)];omega
     have hx4:IntKind.i64.wrap (((N+2:Nat):Int)-1)=((N+1:Nat):Int):=by rw[wrap64 _ (by omega) (by omega)];omega
     have hx5:IntKind.i64.wrap (((N+2:Nat):Int)-2)=(N:Int):=by rw[wrap64 _ (by omega) (by omega)];omega
     have hx6:IntKind.i64.wrap (((pre.length+(N+2):Nat):Int)-2)=((pre.length+N:Nat):Int):=by rw[wrap64 _ (by omega) (by omega)];omega
     have hl1:pre.length+(N+2)<u0.length+1:=by omega
     have hl2:pre.length+(N+1)<u0.length+1:=by omega
     have hl3:pre.length+N<u0.length+1:=by omega
     have hr1':pre.length+(N+2)+1≤(rowE i64L (pre++win++post)).length:=by rw[row_len,hul];omega
     have hr2':pre.length+(N+1)+1≤(rowE i64L (pre++win++post)).length:=by rw[row_len,hul];omega
     have hr3':pre.length+N+1≤(rowE i64L (pre++win++post)).length:=by rw[row_len,hul];omega
     have hp2:=part_get (pre:=pre) (post:=post) (show N+2<win.length by omega)
     have hp1:=part_get (pre:=pre) (post:=post) (show N+1<win.length by omega)
     have hp0:=part_get (pre:=pre) (post:=post) (show N<win.length by omega)
     have hT:=vl_top3 (N:=N) (by omega:win.length=N+3)
     have hTl:=vl_lt (isD_take hdw N)
     have hTl0:=vl_nonneg (isD_take hdw N)
     rw[List.length_take,Nat.min_eq_left (by omega)] at hTl
     have hd2:=isD_at hdw (N+2) (by omega)
     have hd1:=isD_at hdw (N+1) (by omega)
     have hd0:=isD_at hdw N (by omega)
     generalize win[N+2]=t2 at *
     generalize win[N+1]=t1 at *
     generalize win[N]=t0 at *
     generalize vl (win.take N)=Tl at *
     have hsh2:IntKind.i64.wrap (t2*2^min (Int.toNat 20) 64)=t2*1048576:=by rw[show min (Int.toNat 20) 64=20 by decide];exact wrap64 _ (by omega) (by omega)
     have hor2:bits .or .i64 (t2*1048576) t1=t2*1048576+t1:=or_join t2 t1 hd2.1 (by omega) hd1
     have hv1n:(v1=0)=False:=by simp;omega
     generalize hTop:t2*1048576+t1=top at *
     have htop0':0≤top∧top<1099511627776:=by omega
     have htd:top.tdiv v1=top / v1:=Int.tdiv_eq_ediv_of_nonneg (by omega)
     have htm:top.tmod v1=top % v1:=Int.tmod_eq_emod_of_nonneg (by omega)
     have hq0:0≤top / v1:=Int.ediv_nonneg (by omega) (by omega)
     have hq1:top / v1≤top:=Int.ediv_le_self _ (by omega)
     have hwq1:IntKind.i64.wrap (top / v1)=top / v1:=wrap64 _ (by omega) (by omega)
     have hgv1:(v.map i64L)[N+1]?=some [.int .i64 v1]:=by rw[yK,hg1];rfl
     have hgv0:(v.map i64L)[N]?=some [.int .i64 v0]:=by rw[yK,hg0];rfl
     have hTV:vl win<1048576*Vn:=by omega
     have hinit:vl win<(top / v1+1)*Vn:=by
      have e1:top+1≤(top / v1+1)*v1:=by
       have h1:=Int.emod_add_mul_ediv top v1
       have h2:=Int.emod_lt_of_pos top (show 0<v1 by omega)
       rw[Int.add_mul,Int.one_mul,Int.mul_comm (top / v1)]
       omega
      have e2:(top+1)*1048576*1048576^N≤(top / v1+1)*v1*1048576*1048576^N:=Int.mul_le_mul_of_nonneg_right (Int.mul_le_mul_of_nonneg_right e1 (by omega)) (by omega)
      have e3:(top / v1+1)*v1*1048576*1048576^N≤(top / v1+1)*Vn:=by
       rw[Int.mul_assoc,Int.mul_assoc]
       refine Int.mul_le_mul_of_nonneg_left ?_ (by omega)
       rw[hV2,←Int.mul_assoc]
       have:v1*1048576*1048576^N≤(v1*1048576+v0)*1048576^N:=Int.mul_le_mul_of_nonneg_right (by omega) (by omega)
       omega
      have e4:(top*1048576+t0+1)*1048576^N≤(top+1)*1048576*1048576^N:=Int.mul_le_mul_of_nonneg_right (by omega) (by omega)
      rw[Int.add_mul _ 1,Int.one_mul] at e4
      omega
     simp only[go_sem,reduceIte,yA,yB,yC,yD,yE,yH,reduceCtorEq,yF,yG,yI,h_compare,h_clone,h_short,h_trim,h_mul,h_settle,h8,h9,h10,h11,h12,h13,hmu,hmq,hw13,hx1,hx3,hx4,hl1,hl2,hr1',hr2',hp2,hp1,hsh2,hor2,hv1n,htd,htm,hwq1,hgv1,show (pre.length:Int)≥0 by omega,decide_true,Nat.mul_one,yJ,show ¬ ((20:Int)<0) by omega]
     have hexit:∀ (mem:Mem),mem 157054=some (1,rowE i64L (pre++win++post))→∀ q:Int,0≤q→q<1048576→vl win<(q+1)*Vn→0≤vl win-q*Vn+Vn →
       G_settle [.ref 157054 1 1 pre.length (N+3),.dat (.sl (v.map i64L)),.dat (.int .i64 q)] mem=some (.dat (.int .i64 (vl win / Vn)),updM mem 157054 1 (rowE i64L (pre++pad (N+3) (vl win % Vn).toNat++post))):=by
      intro mem hmu q hq0 hqB hup hdn
      have hdig:=guess_digit hVpos hup hdn
      have hG:=G_settle_eq ⟨pre,win,post,Vn,q,157054,1⟩ mem ⟨hmu,hdw,by show (dg Vn).length≤win.length;rw[hvd];omega,hq0,hqB,hdn,by show pre.length+win.length≤100000;omega⟩
      simp only[settledQ,settleRow,leftOf] at hG
      rw[hdig.1,hdig.2,hwl',hVdef] at hG
      exact hG
     have hQ0:0≤vl win / Vn:=Int.ediv_nonneg (vl_nonneg hdw) (by omega)
     have hQ1:vl win / Vn<1048576:=Int.ediv_lt_of_lt_mul hVpos hTV
     have hr0'':=Int.emod_nonneg (vl win) (show (Vn:Int)≠0 by omega)
     have hr1'':=Int.emod_lt_of_pos (vl win) hVpos
     have hpad:vl (pad (N+3) (vl win % Vn).toNat)=vl win % Vn:=by
      rw[vl_pad]
      ·omega
      ·have h2:((1048576^(N+2):Nat):Int)=1048576^(N+2):=by rw[Int.natCast_pow];rfl
       have h3:1048576^(N+2)≤1048576^(N+3):=Nat.pow_le_pow_right (by omega) (by omega)
       omega
     have hfin:∃ i':Nat × List Int × List Int,i'.1<pre.length+1∧i'.1≤M∧i'.2.1.length=u0.length+1∧isD i'.2.1∧i'.2.2.length=M∧isD i'.2.2∧vl (i'.2.1.drop i'.1)<Vn∧(Xn:Int)=vl (i'.2.1.take i'.1)+1048576^i'.1*(Vn*vl (i'.2.2.drop i'.1)+vl (i'.2.1.drop i'.1)) ∧
       MV.dat (Data.int .i64 ((pre.length:Int)-1))=MV.dat (Data.int .i64 ((i'.1:Int)-1))∧some (1,rowE i64L (pre++pad (N+3) (vl win % Vn).toNat++post))=some (1,rowE i64L i'.2.1)∧some (0,rowE i64L (qs.set pre.length (vl win / Vn)))=some (0,rowE i64L i'.2.2):=by
      have hql':qs.length=M:=hql
      have hql:pre.length<qs.length:=by omega
      have hdrop:(pre++pad (N+3) (vl win % Vn).toNat++post).drop pre.length=pad (N+3) (vl win % Vn).toNat++post:=by rw[List.append_assoc,List.drop_left]
      have htake:(pre++pad (N+3) (vl win % Vn).toNat++post).take pre.length=pre:=by rw[List.append_assoc,List.take_left]
      have hvd':vl (pad (N+3) (vl win % Vn).toNat++post)=vl win % Vn:=by rw[vl_append,hpo0,hpad];omega
      refine⟨(pre.length,pre++pad (N+3) (vl win % Vn).toNat++post,qs.set pre.length (vl win / Vn)),by dsimp only;omega,by dsimp only;omega,?_,isD_append.2 ⟨isD_append.2 ⟨hdp,isD_pad _ _⟩,hdpo⟩,by rw[List.length_set];exact hql',isD_set hdq _ ⟨hQ0,hQ1⟩,?_,?_,rfl,rfl,rfl⟩
      ·rw[←hul];simp [pad_len,hwl']
      ·dsimp only;rw[hdrop,hvd'];exact hr1''
      ·dsimp only
       rw[hdrop,hvd',htake,List.drop_eq_getElem_cons (by simpa using hql),vl_cons]
       simp only[List.getElem_set_self]
       rw[List.drop_set_of_lt (by omega)]
       have h1:=Int.emod_add_mul_ediv (vl win) Vn
       have h2:(Vn:Int)*(vl win / Vn+1048576*vl (qs.drop (pre.length+1)))=Vn*(vl win / Vn)+1048576*(Vn*vl (qs.drop (pre.length+1))):=by rw[Int.mul_add,Int.mul_left_comm]
       rw[h2,hsum,Int.pow_succ,Int.mul_assoc]
       simp only[vl,Int.mul_zero,Int.add_zero]
       rw[Int.add_assoc,←Int.mul_add]
       congr 2
       rw[Int.mul_add]
       omega
     have hsub:pre.length+(N+2)+1-pre.length=N+3:=by omega
     have hx2:IntKind.i64.wrap (((pre.length+(N+2):Nat):Int)+1)=((pre.length+(N+2)+1:Nat):Int):=by rw[wrap64 _ (by omega) (by omega)];rfl
     have hsl1:pre.length≤pre.length+(N+2)+1∧pre.length+(N+2)+1≤u0.length+1:=by omega
     have hqlt:pre.length<M:=hM1
     have hfoldq:=fun d=>row_fold qs pre.length d (by omega)
     have hql2:pre.length+1≤(rowE i64L qs).length:=by rw[row_len];omega
     have hwi:IntKind.i64.wrap ((pre.length:Int)-1)=(pre.length:Int)-1:=wrap64 _ (by omega) (by omega)
     refine wp_loop_keep [8,9,10,11,12,13] [157054,157075] (fun ((q,r):Int × Int) tm mem=>0≤q∧0≤r∧q*v1+r=top∧vl win<(q+1)*Vn∧tm 15 = .dat (.int .i64 q)∧tm 16 = .dat (.int .i64 r)) (fun (q,_)=>q.toNat) (top / v1,top % v1)
      (by
       refine⟨hq0,Int.emod_nonneg _ (by omega),?_,hinit,rfl,rfl⟩
       have:=Int.emod_add_mul_ediv top v1
       rw[Int.mul_comm (top / v1)];omega) ?_
     intro vs ms hvs hms
     simp only[go_sem,reduceIte,yA,yB,yC,yD,yE,yH,reduceCtorEq,yF,yG,yI,h_compare,h_clone,h_short,h_trim,h_mul,h_settle,h8,h9,h10,h11,h12,h13,hmu,hmq,hw13] at hvs hms
     subst hvs hms
     rintro⟨q,r⟩ tm mem' hk hm ⟨hq0',hr0',hqr,hup,h15,h16⟩
     simp only[go_sem,reduceIte,yA,yB,yC,yD,yE,yH,reduceCtorEq,yF,yG,yI,h_compare,h_clone,h_short,h_trim,h_mul,h_settle,yM] at hk hm
     obtain⟨k8,k9,k10,k11,k12,k13⟩:=hk
     obtain⟨mu,mq⟩:=hm
     have hqv:0≤q*v1:=Int.mul_nonneg hq0' (by omega)
     have hqb:q*524288≤q*v1:=Int.mul_le_mul_of_nonneg_left hv1 hq0'
     have hqv0:0≤q*v0:=Int.mul_nonneg hq0' hr0.1
     have hqv1:q*v0≤q*1048576:=Int.mul_le_mul_of_nonneg_left (by omega) hq0'
     have hw20:IntKind.i64.wrap (q*v0)=q*v0:=wrap64 _ (by omega) (by omega)
     have hw21:IntKind.i64.wrap (q-1)=q-1:=wrap64 _ (by omega) (by omega)
     have hw22:IntKind.i64.wrap (r+v1)=r+v1:=wrap64 _ (by omega) (by omega)
     have hw23:IntKind.i64.wrap (r*2^min (Int.toNat 20) 64)=r*1048576:=by rw[show min (Int.toNat 20) 64=20 by decide];exact wrap64 _ (by omega) (by omega)
     have hor3:bits .or .i64 (r*1048576) t0=r*1048576+t0:=or_join r t0 hr0' (by omega) hd0
     have hround:(q≥1048576∨q*v0>r*1048576+t0)→∃ i':Int × Int,i'.1.toNat<q.toNat∧0≤i'.1∧0≤i'.2∧i'.1*v1+i'.2=top∧vl win<(i'.1+1)*Vn∧MV.dat (Data.int .i64 (q-1))=MV.dat (Data.int .i64 i'.1)∧MV.dat (Data.int .i64 (r+v1))=MV.dat (Data.int .i64 i'.2):=by
      intro hc
      have h1:=guess_down hV2 hT hP hvlow0 hTl hq0' (by omega) hTV hqr hc
      have hqp:0<q:=by
       rcases Decidable.em (0<q) with h | h
       ·exact h
       ·obtain rfl:q=0:=by omega
        have:=vl_nonneg hdw
        omega
      exact⟨(q-1,r+v1),by dsimp only;omega,by dsimp only;omega,by dsimp only;omega,by dsimp only;rw[Int.sub_mul];omega,by dsimp only;rw[Int.sub_add_cancel];exact h1,rfl,rfl⟩
     by_cases hc1:q≥1048576
     ·simp only[go_sem,reduceIte,yA,yB,yC,yD,yE,yH,reduceCtorEq,yF,yG,yI,h_compare,h_clone,h_short,h_trim,h_mul,h_settle,k8,k9,k10,k11,k12,k13,mu,mq,h15,h16,hc1,hw21,hw22,hx4,hgv1,decide_true,Nat.mul_one,yJ]
      repeat' (first|refine qqA ?_ ?_|refine qqB ?_ ?_|refine qqC ?_ ?_|refine qqD ?_ ?_|refine qqE ?_ ?_|refine qqF ?_ ?_)<;>intro h<;>simp only[h,go_sem,reduceIte,yA,yB,yC,yD,yE,yH,reduceCtorEq,yF,yG,yI,h_compare,h_clone,h_short,h_trim,h_mul,h_settle,k8,k9,k10,k11,k12,k13,mu,mq,h15,h16,hc1,hw21,hw22,hx4,hgv1,decide_true,Nat.mul_one,yJ]
      exact hround (.inl hc1)
     ·by_cases hc2:r<1048576
      ·by_cases hc3:q*v0>r*1048576+t0
       ·simp only[go_sem,reduceIte,yA,yB,yC,yD,yE,yH,reduceCtorEq,yF,yG,yI,h_compare,h_clone,h_short,h_trim,h_mul,h_settle,k8,k9,k10,k11,k12,k13,mu,mq,h15,h16,hc1,hc2,hc3,hw20,hw21,hw22,hw23,hor3,hx1,hx4,hx5,hx6,hl3,hr3',hp0,hgv1,hgv0,decide_true,decide_false,Nat.mul_one,yJ,show ¬ ((20:Int)<0) by omega]
        repeat' (first|refine qqA ?_ ?_|refine qqB ?_ ?_|refine qqC ?_ ?_|refine qqD ?_ ?_|refine qqE ?_ ?_|refine qqF ?_ ?_)<;>intro h<;>simp only[h,go_sem,reduceIte,yA,yB,yC,yD,yE,yH,reduceCtorEq,yF,yG,yI,h_compare,h_clone,h_short,h_trim,h_mul,h_settle,k8,k9,k10,k11,k12,k13,mu,mq,h15,h16,hc1,hc2,hc3,hw20,hw21,hw22,hw23,hor3,hx1,hx4,hx5,hx6,hl3,hr3',hp0,hgv1,hgv0,decide_true,decide_false,Nat.mul_one,yJ,show ¬ ((20:Int)<0) by omega]
        exact hround (.inr hc3)
       ·have hG:=hexit mem' mu q hq0' (by omega) hup (guess_stop hV2 hT hP ⟨hvlow0,hvlow⟩ hTl0 hq0' (by omega) hv1 hr0 hd0.1 hqr (.inr (by omega)))
        simp only[go_sem,reduceIte,yA,yB,yC,yD,yE,yH,reduceCtorEq,yF,yG,yI,h_compare,h_clone,h_short,h_trim,h_mul,h_settle,k8,k9,k10,k11,k12,k13,mu,mq,h15,h16,hc1,hc2,hc3,hw20,hw23,hor3,hx1,hx2,hx4,hx5,hx6,hl3,hr3',hp0,hgv0,hsub,hsl1,hG,hqlt,hql2,hfoldq,hwi,hnV,decide_true,decide_false,Nat.mul_one,yJ,show ¬ ((20:Int)<0) by omega]
        repeat' (first|refine qqA ?_ ?_|refine qqB ?_ ?_|refine qqC ?_ ?_|refine qqD ?_ ?_|refine qqE ?_ ?_|refine qqF ?_ ?_)<;>intro h<;>simp only[h,go_sem,reduceIte,yA,yB,yC,yD,yE,yH,reduceCtorEq,yF,yG,yI,h_compare,h_clone,h_short,h_trim,h_mul,h_settle,k8,k9,k10,k11,k12,k13,mu,mq,h15,h16,hc1,hc2,hc3,hw20,hw23,hor3,hx1,hx2,hx4,hx5,hx6,hl3,hr3',hp0,hgv0,hsub,hsl1,hG,hqlt,hql2,hfoldq,hwi,hnV,decide_true,decide_false,Nat.mul_one,yJ,show ¬ ((20:Int)<0) by omega]
        exact hfin
      ·have hG:=hexit mem' mu q hq0' (by omega) hup (guess_stop hV2 hT hP ⟨hvlow0,hvlow⟩ hTl0 hq0' (by omega) hv1 hr0 hd0.1 hqr (.inl (by omega)))
       simp only[go_sem,reduceIte,yA,yB,yC,yD,yE,yH,reduceCtorEq,yF,yG,yI,h_compare,h_clone,h_short,h_trim,h_mul,h_settle,k8,k9,k10,k11,k12,k13,mu,mq,h15,h16,hc1,hc2,hx1,hx2,hsub,hsl1,hG,hqlt,hql2,hfoldq,hwi,hnV,decide_true,decide_false,Nat.mul_one,yJ]
       repeat' (first|refine qqA ?_ ?_|refine qqB ?_ ?_|refine qqC ?_ ?_|refine qqD ?_ ?_|refine qqE ?_ ?_|refine qqF ?_ ?_)<;>intro h<;>simp only[h,go_sem,reduceIte,yA,yB,yC,yD,yE,yH,reduceCtorEq,yF,yG,yI,h_compare,h_clone,h_short,h_trim,h_mul,h_settle,k8,k9,k10,k11,k12,k13,mu,mq,h15,h16,hc1,hc2,hx1,hx2,hsub,hsl1,hG,hqlt,hql2,hfoldq,hwi,hnV,decide_true,decide_false,Nat.mul_one,yJ]
       exact hfin
end Go.Mini
namespace Go.Mini
open Go
set_option maxRecDepth 10000
set_option maxHeartbeats 2000000
/-- The bound of a big integer. -/
def LIM:Nat:=1048576^60
def encB (z:Int):Raw:=(z.sign,dg z.natAbs)
def valB (a:Raw):Int:=a.1*vl a.2
theorem valB_enc (z:Int):valB (encB z)=z:=by
 unfold valB encB
 rw[vl_dg]
 exact Int.sign_mul_natAbs z
theorem digB_iff (d:Int):digB d=true↔0≤d∧d<1048576:=by
 unfold digB
 simp
 omega
theorem rightR_iff (a:Raw):rightR a=true↔∃ z:Int,z.natAbs<LIM∧a=encB z:=by
 obtain⟨s,l⟩:=a
 unfold rightR LIM
 rw[Bool.and_eq_true,List.all_eq_true]
 constructor
 ·rintro⟨h1,h2⟩
  have hd:isD l:=fun d hd=>(digB_iff d).1 (h1 d hd)
  split at h2
  ·rename_i h
   have hl:l=[]:=List.eq_nil_of_length_eq_zero (by simpa using h)
   subst hl
   have hs:s=0:=by simpa using h2
   subst hs
   exact⟨0,by simp,rfl⟩
  ·rename_i h
   simp at h2
   obtain⟨⟨hs,hlen⟩,hlast⟩:=h2
   have hc:=canon hd (by simpa using hlast)
   have hv:=vl_nonneg hd
   have hnz:vl l≠0:=by
    intro h0
    rw[h0] at hc
    rw[hc] at h
    simp [dg_zero] at h
   refine⟨s*vl l,?_,?_⟩
   ·have:(s*vl l).natAbs=(vl l).toNat:=by rw[Int.natAbs_mul];rcases hs with rfl | rfl<;>simp<;>omega
    rw[this,←dg_len,←hc]
    exact hlen
   ·unfold encB
    have:(s*vl l).natAbs=(vl l).toNat:=by rw[Int.natAbs_mul];rcases hs with rfl | rfl<;>simp<;>omega
    rw[this,←hc]
    congr 1
    rcases hs with rfl | rfl
    ·rw[Int.one_mul,Int.sign_eq_one_of_pos (by omega)]
    ·rw[Int.neg_mul,Int.one_mul,Int.sign_neg,Int.sign_eq_one_of_pos (by omega)]
 ·rintro⟨z,hz,h⟩
  cases h
  refine⟨fun d hd=>(digB_iff d).2 (isD_dg _ d hd),?_⟩
  by_cases h0:z=0
  ·subst h0;rfl
  ·have hn:dg z.natAbs≠[]:=by rw[Ne,dg_nil];omega
   rw[if_neg (by simp;exact hn)]
   have hl:=dg_len.2 hz
   have hla:=dg_last z.natAbs
   simp only[Bool.and_eq_true,Bool.or_eq_true,beq_iff_eq,decide_eq_true_eq,bne_iff_ne,ne_eq]
   refine⟨⟨?_,hl⟩,hla⟩
   rcases Int.lt_trichotomy z 0 with h | h | h
   ·exact .inr (Int.sign_eq_neg_one_of_neg h)
   ·exact absurd h h0
   ·exact .inl (Int.sign_eq_one_of_pos h)
theorem right_enc {z:Int} (h:z.natAbs<LIM):rightR (encB z)=true:=(rightR_iff _).2 ⟨z,h,rfl⟩
theorem right_len {s:Int} {l:List Int} (h:rightR (s,l)=true):l.length≤60:=by
 obtain⟨z,hz,e⟩:=(rightR_iff _).1 h
 cases e
 exact dg_len.2 hz
/-- A result: too great, or not. -/
def checkR (c:Raw):Raw × Int:=if decide ((c.2.length:Int)>60)=true then ((0,[]),6) else (c,0)
def keepB (z:Int):Raw × Int:=if z.natAbs<LIM then (encB z,0) else ((0,[]),6)
def bigE (x:Raw × Int):Data:=.tup [.agg (bigL x.1),.int .i64 x.2]
theorem signR_dg (s:Int) (n:Nat):signR s (dg n)=if n=0 then (0,[]) else (s,dg n):=by
 unfold signR
 rw[trimL_of_dg]
 by_cases h:n=0
 ·subst h;rfl
 ·have:dg n≠[]:=by rw[Ne,dg_nil];exact h
  rw[if_neg h,if_neg (by simp;exact this)]
theorem signR_enc {s:Int} {n:Nat} {z:Int} (h:z.natAbs=n) (hs:n≠0→s=z.sign):signR s (dg n)=encB z:=by
 rw[signR_dg]
 subst h
 by_cases h0:z.natAbs=0
 ·obtain rfl:z=0:=by omega
  rfl
 ·rw[if_neg h0,hs h0]
  rfl
theorem check_enc (z:Int):checkR (encB z)=keepB z:=by
 unfold checkR keepB encB LIM
 have:=dg_len (n:=z.natAbs) (k:=60)
 by_cases h:z.natAbs<1048576^60
 ·have:=this.2 h
  rw[if_neg (by simp;omega),if_pos h]
 ·have:=mt this.1 h
  rw[if_pos (by simp;omega),if_neg h]
noncomputable def F_checked:List Data→Option PRes:=FF (α:=Bool × Int × (List Int)) (fun (r,s,l)=>([.bool r,.agg [.int .i64 s,.sl (l.map i64L)]]:List Data)) (fun (r,s,l)=>some (.same (bigE (if r=true then checkR (s,l) else ((0,[]),1)))))
theorem F_checked_inj:∀ a b:Bool × Int × (List Int),(fun (r,s,l)=>([.bool r,.agg [.int .i64 s,.sl (l.map i64L)]]:List Data)) a=(fun (r,s,l)=>([.bool r,.agg [.int .i64 s,.sl (l.map i64L)]]:List Data)) b→a=b:=by
  rintro⟨r1,s1,l1⟩ ⟨r2,s2,l2⟩ h
  simp only[yM,Data.bool.injEq,Data.agg.injEq,Data.int.injEq,Data.sl.injEq] at h;exact Prod.ext h.1 (Prod.ext h.2.1.1.2 (map_inj i64L_inj _ _ h.2.1.2.1))
@[go_sem] theorem F_checked_eq (r:Bool) (s:Int) (l:List Int):F_checked [.bool r,.agg [.int .i64 s,.sl (l.map i64L)]]=some (.same (bigE (if r=true then checkR (s,l) else ((0,[]),1)))):=FF_eq F_checked_inj (r,s,l)
theorem w_checked (T:Tab)  (r:Bool) (s:Int) (l:List Int) :
  wp T mf_big_checked.body (endS mf_big_checked.res (.same (bigE (if r=true then checkR (s,l) else ((0,[]),1))))) ⟨initTm [.dat (.bool r),.dat (.agg [.int .i64 s,.sl (l.map i64L)])],emp⟩:=by
 refine wp_start ?_
 simp only[mf_big_checked]
 cases r
 ·simp only[go_sem,reduceIte,yA,yB,yC,yD,yE,yH,reduceCtorEq,yF,yG,yI,yJ]
  repeat' (first|refine qqA ?_ ?_|refine qqB ?_ ?_|refine qqC ?_ ?_|refine qqD ?_ ?_|refine qqE ?_ ?_|refine qqF ?_ ?_)<;>intro h<;>simp only[h,go_sem,reduceIte,yA,yB,yC,yD,yE,yH,reduceCtorEq,yF,yG,yI,yJ]
  rfl
 ·simp only[go_sem,reduceIte,yA,yB,yC,yD,yE,yH,reduceCtorEq,yF,yG,yI,yJ]
  repeat' (first|refine qqA ?_ ?_|refine qqB ?_ ?_|refine qqC ?_ ?_|refine qqD ?_ ?_|refine qqE ?_ ?_|refine qqF ?_ ?_)<;>intro h<;>simp only[h,go_sem,reduceIte,yA,yB,yC,yD,yE,yH,reduceCtorEq,yF,yG,yI,yJ]
  all_goals (simp only[bigE,bigL,checkR];simp only[List.map_nil, *,reduceIte,Bool.not_true,Bool.not_false,Bool.or_true,Bool.true_or,Bool.or_false,Bool.false_or,Bool.and_true,Bool.true_and,Bool.and_false,Bool.false_and,yH,beq_self_eq_true,bne])
/-- Negated. -/
def negR (a:Raw):Raw:=if rightR a=true then encB (-valB a) else (0,[])
theorem sign_neg_dg (z:Int):signR (-z.sign) (dg z.natAbs)=encB (-z):=signR_enc (by omega) fun _=>by rw[Int.sign_neg]
noncomputable def F_Neg:List Data→Option PRes:=FF (α:=Int × (List Int)) (fun (s,l)=>([.agg [.int .i64 s,.sl (l.map i64L)]]:List Data)) (fun (s,l)=>onlyIf (l.length≤1000000) (.same (.agg (bigL (negR (s,l))))))
theorem F_Neg_inj:∀ a b:Int × (List Int),(fun (s,l)=>([.agg [.int .i64 s,.sl (l.map i64L)]]:List Data)) a=(fun (s,l)=>([.agg [.int .i64 s,.sl (l.map i64L)]]:List Data)) b→a=b:=by
  rintro⟨s1,l1⟩ ⟨s2,l2⟩ h
  simp only[yM,Data.agg.injEq,Data.int.injEq,Data.sl.injEq] at h;exact Prod.ext h.1.1.2 (map_inj i64L_inj _ _ h.1.2.1)
@[go_sem] theorem F_Neg_eq (s:Int) (l:List Int) (hc:l.length≤1000000):F_Neg [.agg [.int .i64 s,.sl (l.map i64L)]]=some (.same (.agg (bigL (negR (s,l))))):=(FF_eq F_Neg_inj (s,l)).trans (onlyIf_pos hc _)
theorem w_Neg (T:Tab) (h_bigRight:T id_big_Right=mkE F_bigRight) (h_clone:T id_slices_Clone_int=mkE F_clone) (h_signed:T id_big_signed=mkE F_signed) (s:Int) (l:List Int) (hc:l.length≤1000000) :
  wp T mf_big_Neg.body (endS mf_big_Neg.res (.same (.agg (bigL (negR (s,l)))))) ⟨initTm [.dat (.agg [.int .i64 s,.sl (l.map i64L)])],emp⟩:=by
 refine wp_start ?_
 simp only[mf_big_Neg]
 by_cases hr:rightR (s,l)=true
 ·obtain⟨z,hz,e⟩:=(rightR_iff _).1 hr
  have e1:negR (s,l)=encB (-z):=by unfold negR;rw[if_pos hr,e,valB_enc]
  cases e
  have hw:IntKind.i64.wrap (0-z.sign) = -z.sign:=by
   have:=Int.sign_trichotomy z
   rw[wrap64 _ (by omega) (by omega)];omega
  rw[e1]
  simp only[go_sem,reduceIte,yA,yB,yC,yD,yE,yH,reduceCtorEq,yF,yG,yI,h_bigRight,h_clone,h_signed,hr,hc,hw,sign_neg_dg,bigL]
  repeat' (first|refine qqA ?_ ?_|refine qqB ?_ ?_|refine qqC ?_ ?_|refine qqD ?_ ?_|refine qqE ?_ ?_|refine qqF ?_ ?_)<;>intro h<;>simp only[h,go_sem,reduceIte,yA,yB,yC,yD,yE,yH,reduceCtorEq,yF,yG,yI,h_bigRight,h_clone,h_signed,hr,hc,hw,sign_neg_dg,bigL]
 ·have hr:rightR (s,l)=false:=by simpa using hr
  have e1:negR (s,l)=(0,[]):=by unfold negR;rw[hr];rfl
  rw[e1]
  simp only[go_sem,reduceIte,yA,yB,yC,yD,yE,yH,reduceCtorEq,yF,yG,yI,h_bigRight,h_clone,h_signed,hr,hc,bigL,List.map_nil]
  repeat' (first|refine qqA ?_ ?_|refine qqB ?_ ?_|refine qqC ?_ ?_|refine qqD ?_ ?_|refine qqE ?_ ?_|refine qqF ?_ ?_)<;>intro h<;>simp only[h,go_sem,reduceIte,yA,yB,yC,yD,yE,yH,reduceCtorEq,yF,yG,yI,h_bigRight,h_clone,h_signed,hr,hc,bigL,List.map_nil]
end Go.Mini
