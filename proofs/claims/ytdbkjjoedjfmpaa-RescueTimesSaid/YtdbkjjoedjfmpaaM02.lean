/- A part of the proof. -/
import Derived.Test.YtdbkjjoedjfmpaaM01
import Derived.Attr
set_option linter.unusedSimpArgs false
set_option linter.unusedVariables false
open Nat renaming add_mul → TP, one_mul → TQ, le_refl → TR, zero_add → TS, le_mul_of_pos_right → TV, eq_zero_or_pos → TY, mul_le_mul_right → T5, zero_le → T7, add_zero → T8, min_eq_left → Ub
open List renaming replicate → TT, getElem?_eq_getElem → TW, take_of_length_le → TX, eq_nil_of_length_eq_zero → TZ, getElem_mem → T1, getElem?_map → T2, getElem?_range → T3, length_append → T6, getElem?_take → T9, length_take → Ua, getElem?_toArray → Uc, mapM_cons → Ue, map_congr_left → Uj, mem_append → Uk, drop_set_of_lt → Um, mem_cons_self → Un, all_eq_true → Up
open Option renaming map_eq_some_iff → TU, map_some → T4, pure_def → Uf, bind_eq_bind → Ug, bind_eq_some_iff → Uh, map_none → Ul
open Bool renaming and_eq_true → Ud, false_eq_true → Ui, or_eq_true → Uo
namespace Go.Mini
open Go
section
variable {P:Program} {A:Nat→Prop} {w:World} {B:Lay} {mem:Mem}
theorem ku (sz:Nat):∀ (n:Nat) (l:List Data),(chunk sz n l).length=n
 | 0,_=>rfl
 | n+1,l=>by simp [chunk,ku sz n]
theorem mZ (sz:Nat):∀ (n:Nat) (l:List Data),l.length=n*sz→∀ e∈chunk sz n l,e.length=sz
 | 0,_,_,e,he=>by simp [chunk] at he
 | n+1,l,hl,e,he=>by
  have hmul:(n+1)*sz=n*sz+sz:=by rw[TP,TQ]
  simp only[chunk,List.mem_cons] at he;rcases he with rfl | he
  ·simp;omega
  ·exact mZ sz n _ (by simp;omega) e he
theorem mS (sz:Nat):∀ (n:Nat) (l:List Data),l.length=n*sz→(chunk sz n l).flatten=l
 | 0,l,hl=>by simp at hl;simp [chunk,hl]
 | n+1,l,hl=>by
  have hmul:(n+1)*sz=n*sz+sz:=by rw[TP,TQ]
  simp only[chunk,List.flatten_cons];rw[mS sz n _ (by simp;omega),List.take_append_drop]
theorem wy {O:Nat→Prop} {m:MV} {d:Data} {v:Value} (h:tO m=some d) (hv:VR w O B m v):Den w O d v:=by
 unfold tO at h
 split at h<;>cases h
 ·cases hv with
  | dat h=>exact h
 ·cases hv with
  | nil=>exact .sl0
theorem Lp {ds:List Data} {vs:Array Value} {T:TypeId} {n sz:Nat} (hmr:MemRel A w B mem) (w':World) (hw:w'=w.alloc (.cells vs T)) (hl:ds.length=n*sz) (hv:vs.size=n*sz) (hm:n≤maxLen)
  (hd:∀ (i:Nat) (d:Data) (v:Value),ds[i]?=some d→vs[i]?=some v→Den w (OA A B) d v):Den w' (OA A B) (.sl (chunk sz n ds)) (.slice (some ⟨w.heap.size,0,none⟩) n n):=by
 have ok:StepOK A w B w' B mem:=by rw[hw];exact .still hmr ((Fr.refl _ _).alloc _)
 have hcl:=ku sz n ds
 have h:=Den.sl (w:=w') (O:=OA A B) (es:=chunk sz n ds) (b:=w.heap.size) (off:=0) (c:=n) (sz:=sz) (fun i=>vs.getD i undef) (by rw[hcl];exact TR _) (by rw[hcl];exact hm)
  (by rw[hw];simp) (fun ho=>by
   rcases ho with ho | ho
   ·have:=hmr.own_lt ho;omega
   ·have:=hmr.lt _ ho;omega) (mZ sz n ds hl)
  (fun i hi=>by
   rw[hcl] at hi;rw[hw,TS];have:i<vs.size:=by omega
   simp [this])
  (fun i d hid=>by
   rw[mS sz n ds hl] at hid;have hlt:i<ds.length:=(List.getElem?_eq_some_iff.1 hid).1;have hlt2:i<vs.size:=by omega
   have:vs.getD i undef=vs[i]:=by simp [hlt2]
   simp only[this];exact (hd i d _ hid (Array.getElem?_eq_getElem hlt2)).trans ok.tr)
 rw[hcl] at h;exact h
theorem pL {t e:TypeId} {z r:List MV} {sz len:Nat} {ps:List (Nat × Operand)} {qs:List (Nat × Nat × Opd)} {ρ:Operand→Value} {tm:Nat→MV} {O:Nat→Prop} (ht:P.underlying t=some (.slice e)) (hz:g8 P e=some z)
  (hs:cN P e=some sz) (hzl:z.length=sz) (h0:0<sz) (hl:len*sz≤16777216) (hp:iQ (fun i=>some (i*sz,sz)) ps=some qs) (hρ:∀ x y,bq x=some y→VR w O B (ev tm y) (ρ x))
  (h:fg (ev tm) (TT len z).flatten qs=some r) :
  ∃ vs:Array Value,(Instr.buildSlice t len (ps.map fun p=>(p.1,ρ p.2)).toArray).run P w = .ok (.slice (some ⟨w.heap.size,0,none⟩) len len) (w.alloc (.cells vs e))∧RL w O B r vs.toList:=by
 obtain⟨i,zv,hi,hzv,hrl⟩:=jl (P:=P) (w:=w) (B:=B) (O:=O) hz;have hzs:zv.cells.size=sz:=by have:=hrl.1;simp at this;omega
 have hmade:=rm (z:=zv.cells) (by omega) len;rw[hzs] at hmade;have hrep:=hrl.replicate (n:=len);rw[←hmade] at hrep;obtain⟨vs',hf,hr⟩:=qT (place:=fun i=>some (i*sz,sz)) hρ ps qs _ r _ hp hrep h;refine⟨vs',?_,hr⟩;have hn:¬ (len*sz>2^24):=by omega
 by_cases hz0:len*sz=0
 ·have e0:((Array.range (len*sz)).map (zv.cells[· % sz]!))=#[]:=by rw[hz0];simp [Array.range_zero']
  have hf':Instr.fill (fun i=>some (i*sz,sz)) #[] (ps.map fun p=>(p.1,ρ p.2))=some vs':=by rw[←e0];exact hf
  simp only[Instr.buildSlice,Sem.run_bind,run_underlying ht,Result.andThen_ok,eE hs];rw[if_neg hn];simp only[hz0,if_true,Sem.run_bind,Sem.run_pure,Result.andThen_ok];simp [hf',newRow,Array.range_zero']
 ·simp only[Instr.buildSlice,Sem.run_bind,run_underlying ht,Result.andThen_ok,eE hs]
  rw[if_neg hn];simp only[hz0,if_false,Sem.run_bind,Sem.run_pure,Result.andThen_ok,jB hi hzv,hzs];simp [hf,newRow]
theorem K2 {t e:TypeId} {z:List MV} {sz len:Nat} {ps:List (Nat × Operand)} {qs:List (Nat × Nat × Opd)} {ρ:Operand→Value} {tm:Nat→MV} {r:MV} (hmr:MemRel A w B mem) (ht:P.underlying t=some (.slice e)) (hz:g8 P e=some z)
  (hs:cN P e=some sz) (hzl:z.length=sz) (h0:0<sz) (hl:len*sz≤16777216) (hp:iQ (fun i=>some (i*sz,sz)) ps=some qs) (hρ:∀ x y,bq x=some y→VR w (OA A B) B (ev tm y) (ρ x))
  (h:Ju (TT len z).flatten sz len (fg (ev tm) (TT len z).flatten qs)=some r) :
  ∃ v w',(Instr.buildSlice t len (ps.map fun p=>(p.1,ρ p.2)).toArray).run P w = .ok v w'∧StepOK A w B w' B mem∧VR w' (OA A B) B r v:=by
 unfold Ju at h
 split at h
 ·rename_i hlen
  cases hf:fg (ev tm) (TT len z).flatten qs with
  | none=>rw[hf] at h;cases h
  | some cs =>
   rw[hf] at h;simp only[TU] at h;obtain⟨ds,hds,rfl⟩:=h;obtain⟨vs,hrun,hrl⟩:=pL (P:=P) (B:=B) ht hz hs hzl h0 hl hp hρ hf;obtain⟨h1,h2⟩:=dh hds
   have hcl:cs.length=len*sz:=by
    have:∀ (qs:List (Nat × Nat × Opd)) (a r:List MV),fg (ev tm) a qs=some r→r.length=a.length:=by
     intro qs
     induction qs with
     | nil=>intro a r h;simp [fg] at h;rw[h]
     | cons q qs ih =>
      intro a r h;obtain⟨o,s,x⟩:=q;simp only[fg] at h
      split at h
      ·rename_i hc
       rw[ih _ _ h];unfold splice;simp;omega
      ·cases h
    rw[this _ _ _ hf,hlen]
   have hvs:vs.size=len*sz:=by have:=hrl.1;simp at this;omega
   refine⟨_,_,hrun,.still hmr ((Fr.refl _ _).alloc _),.dat (Lp hmr _ rfl (by omega) hvs ?_ fun i d v hd hv=>?_)⟩
   ·have:len≤len*sz:=TV _ h0
    unfold maxLen;omega
   ·have hlt:i<cs.length:=by have:=(List.getElem?_eq_some_iff.1 hd).1;omega
    have hci:=TW hlt;exact wy (h2 i _ d hci hd) (hrl.2 i _ v hci (by simpa using hv))
 ·cases h
theorem IG {t e:TypeId} {z:List MV} {sz len:Nat} {ps:List (Nat × Operand)} {qs:List (Nat × Nat × Opd)} {ρ:Operand→Value} {tm:Nat→MV} {r:MV} {ef:Option (Key × Nat × List MV)} (k:Key) (hmr:MemRel A w B mem) (ht:P.underlying t=some (.slice e)) (hz:g8 P e=some z)
  (hs:cN P e=some sz) (hzl:z.length=sz) (h0:0<sz) (hl:len*sz≤16777216) (hp:iQ (fun i=>some (i*sz,sz)) ps=some qs) (hρ:∀ x y,bq x=some y→VR w (OA A B) B (ev tm y) (ρ x))
  (h:vV k (aD mem k) (TT len z).flatten sz len (fg (ev tm) (TT len z).flatten qs)=some (r,ef)) :
  ∃ v w' B',(Instr.buildSlice t len (ps.map fun p=>(p.1,ρ p.2)).toArray).run P w = .ok v w'∧StepOK A w B w' B' (ig mem ef)∧VR w' (OA A B') B' r v:=by
 unfold vV at h
 split at h
 ·rename_i hlen
  cases hf:fg (ev tm) (TT len z).flatten qs with
  | none=>rw[hf] at h;cases h
  | some cs =>
   rw[hf] at h
   cases h;obtain⟨vs,hrun,hrl⟩:=pL (P:=P) (B:=B) ht hz hs hzl h0 hl hp hρ hf
   have hcl:cs.length=len*sz:=by
    have:∀ (qs:List (Nat × Nat × Opd)) (a r:List MV),fg (ev tm) a qs=some r→r.length=a.length:=by
     intro qs
     induction qs with
     | nil=>intro a r h;simp [fg] at h;rw[h]
     | cons q qs ih =>
      intro a r h;obtain⟨o,s,x⟩:=q;simp only[fg] at h
      split at h
      ·rename_i hc
       rw[ih _ _ h];unfold splice;simp;omega
      ·cases h
    rw[this _ _ _ hf,hlen]
   have hvs:vs.size=cs.length:=by have:=hrl.1;simp at this;omega
   refine⟨_,_,_,hrun,nG hmr w (Fr.refl _ _) rfl k vs e (by omega) (by rw[TX (by simp;omega)];exact hrl),?_⟩
   have hmx:len≤maxLen:=by
    have:len≤len*sz:=TV _ h0;unfold maxLen;omega
   exact .ref (aX _ _ _) (TR _) ⟨_,len,rfl,TR _,hmx,.inr ⟨_,rfl,fun _=>⟨rfl,by simp only[TS];omega⟩⟩⟩
 ·cases h
theorem Bw {m:MV} {sz n:Nat} {new:List MV} {v:Value} (hmr:MemRel A w B mem) (hv:VR w (OA A B) B m v) (h:oN mem sz m=some (n,new)) :
  ∃ a c vals,v = .slice a n c∧RL w (OA A B) B new vals∧vals.length=n*sz∧(0<n→∃ b off,a=some ⟨b,off,none⟩∧At w b off vals):=by
 unfold oN at h
 split at h
 ·split at h
  ·rename_i es hev
   cases h;have hev:=rg hev
   cases hv with
   | dat hd =>
    cases hd with
    | sl0=>exact⟨_,_,[],rfl,by simpa using RL.nil,by simp,fun h=>by simp at h⟩
    | @sl es b off c sz' val hl hm hb hO hsz hc hdd =>
     have hfl:=iN hev;rcases TY es.length with h0 | h0
     ·have:es=[]:=TZ h0
      subst this;exact⟨_,_,[],rfl,by simpa using RL.nil,by simp,fun h=>by simp at h⟩
     ·have hszz:sz'=sz:=by
       have hm0:=T1 (l:=es) (n:=0) h0;rw[←hsz _ hm0,hev _ hm0]
      subst hszz;refine⟨_,_,(List.range (es.length*sz')).map val,rfl,?_,by simp,fun _=>⟨b,off,rfl,fun j u hj=>?_⟩⟩
      ·refine RL.dat (by simp [hfl]) fun i d u h1 h2=>?_
       have hi:i<es.length*sz':=by have:=(List.getElem?_eq_some_iff.1 h1).1;omega
       rw[T2,T3 hi] at h2;simp only[T4,Option.some.injEq] at h2;subst h2;exact hdd i d h1
      ·have hi:j<es.length*sz':=by have:=(List.getElem?_eq_some_iff.1 hj).1;simpa using this
       rw[T2,T3 hi] at hj;simp only[T4,Option.some.injEq] at hj;subst hj;exact hc j hi
  ·cases h
 ·cases h
  cases hv with
  | nil=>exact⟨_,_,[],rfl,RL.nil,by simp,fun h=>by simp at h⟩
 ·rename_i k g sz' off len
  split at h
  ·rename_i hsz
   subst hsz
   split at h
   ·rename_i g' cs hk
    split at h
    ·rename_i hg
     subst hg;simp only[TU,Prod.mk.injEq] at h;obtain⟨part,hcut,rfl,rfl⟩:=h;obtain⟨hl,rfl,hn⟩:=md hcut
     cases hv with
     | ref he hg hr =>
      obtain⟨e,he',hge,hnn,hb⟩:=hmr.at_ hk;rw[he] at he'
      cases he'
      obtain⟨a,cap,rfl,h1,h2,h3⟩:=hr;rcases h3 with h3 | ⟨b,rfl,h4⟩
      ·have:len=0:=by omega
       subst this;exact⟨_,_,[],rfl,by simpa using RL.nil,by simp,fun h=>by omega⟩
      ·obtain⟨h5,h6⟩:=h4 hge.symm
       obtain⟨vs,T,hh,hz,hle,hrl⟩:=hb b h5;refine⟨_,_,((vs.toList.take cs.length).drop off).take (len*sz'),rfl,(hrl.drop off).take _,by have:=((hrl.drop off).take (len*sz')).1;omega,fun _=>⟨b,off,rfl,?_⟩⟩
       have:=(((At.row hh).take cs.length).add off).take (len*sz')
       simpa using this
    ·cases h
   ·cases h
  ·cases h
 ·cases h
theorem oJ {sz n c:Nat} {a:Option Addr} {vals:List Value} (hl:vals.length=n*sz) (hat:0<n→∃ b off,a=some ⟨b,off,none⟩∧At w b off vals) (w':World) (hw:w'.heap=w.heap) :
  (Builtin.firstCells sz n (.slice a n c)).run P w' = .ok vals.toArray w':=by
 have hc:∀ p,w'.cell? p=w.cell? p:=fun p=>by simp [World.cell?,hw]
 rcases TY n with h0 | h0
 ·subst h0
  have:vals=[]:=TZ (by simpa using hl);subst this
  cases a with
  | none=>simp [Builtin.firstCells]
  | some a=>simp [Builtin.firstCells,loadCells,loadCellsFrom]
 ·obtain⟨b,off,rfl,hat2⟩:=hat h0
  exact run_firstCells_some w' sz n _ n c vals hl fun j v hj=>by rw[i5,hc];exact hat2 j v hj
theorem RL.ones {O:Nat→Prop} {cs:List MV} {vs:List Value} (h:RL w O B cs vs) (h1:cs.all MV.one=true):∀ v∈vs,v.oneCell'=true:=by
 intro v hv;obtain⟨i,hi,hvi⟩:=List.getElem_of_mem hv;have hi':i<cs.length:=by rw[←h.1];exact hi
 have:=h.2 i _ _ (TW hi') (TW hi);rw[hvi] at this;exact Ev this (List.all_eq_true.1 h1 _ (T1 hi'))
theorem nI {t ty e:TypeId} {sz sLen sCap n c:Nat} {base a:Option Addr} {vals:List Value} (ht:P.underlying t=some (.slice e)) (hs:cN P e=some sz) (hroom:sLen+n≤sCap)
  (hf:(Builtin.firstCells sz n (.slice a n c)).run P w = .ok vals.toArray w) (w':World)
  (hst:∀ b,base=some b→(storeCells (b.add (sLen*sz)) vals).run P w = .ok () w') (hn:base=none→w'=w) :
  (Builtin.append_ #[t,t] ty #[.slice base sLen sCap,.slice a n c]).run P w = .ok (.slice base (sLen+n) sCap) w':=by
 simp only[cN,TU] at hs;obtain⟨i,hi,rfl⟩:=hs
 cases base with
 | none=>simp [Builtin.append_,run_underlying ht,sizeOf,typeInfo,hi,Builtin.lenOf,hroom,hf,hn rfl]
 | some b=>simp [Builtin.append_,run_underlying ht,sizeOf,typeInfo,hi,Builtin.lenOf,hroom,hf,hst b rfl]
theorem xT {t ty e:TypeId} {sz sLen sCap n c bytes:Nat} {base a:Option Addr} {olds vals:List Value} {i:TypeInfo} {z:Value} (ht:P.underlying t=some (.slice e)) (hi:P.info? e=some i) (hz:i.zero=some z) (hsz:i.size=sz) (hby:i.bytes=bytes)
  (hroom:sCap<sLen+n) (hfo:∀ w',w'.heap=w.heap→(Builtin.firstCells sz sLen (.slice base sLen sCap)).run P w' = .ok olds.toArray w') (hf:∀ w',w'.heap=w.heap→(Builtin.firstCells sz n (.slice a n c)).run P w' = .ok vals.toArray w')
  (h63:sLen+n≤maxLen) (hb:(sLen+n)*bytes≤140737488355328) :
  (Builtin.append_ #[t,t] ty #[.slice base sLen sCap,.slice a n c]).run P w =
   .ok (.slice (some ⟨w.heap.size,0,none⟩) (sLen+n) (grownCap w (sLen+n) sCap e))
    (w.drew.alloc (.cells (olds.toArray++vals.toArray++Builtin.zeroCells z.cells (grownCap w (sLen+n) sCap e-(sLen+n))) e)):=by
 subst hsz;subst hby
 have hn:¬ (sLen+n≤sCap):=by omega
 have h63':¬ (9223372036854775807<((sLen:Int)+(n:Int))):=by unfold maxLen at h63;omega
 have hfit:=growslice_fits hroom hb;have h48':¬ (281474976710656<Builtin.nextslicecap (sLen+n) sCap*i.bytes):=by omega
 have h1:=hfo w.drew rfl;have h2:=hf w.drew rfl;simp [Builtin.append_,run_underlying ht,sizeOf,typeInfo,zeroValue,hi,hz,Builtin.lenOf,hn,h63',h48',Question.forced,h1,h2,newRow,grownCap,←List.append_toArray,Array.append_assoc]
theorem MB {t ty e:TypeId} {z:List MV} {bytes n:Nat} {m1 m2:MV} {u1 u2:Value} {new:List MV} {r:MV} {ef:Option (Key × Nat × List MV)} (k:Key) (hmr:MemRel A w B mem) (ht:P.underlying t=some (.slice e)) (hz:g8 P e=some z) (hs:cN P e=some z.length)
  (hby:rt P e=some bytes) (h0:0<z.length) (r1:VR w (OA A B) B m1 u1) (r2:VR w (OA A B) B m2 u2) (hrow:oN mem z.length m2=some (n,new)) (h:pt mem k z bytes m1 (some (n,new))=some (r,ef)) :
  ∃ v w' B',(Builtin.append_ #[t,t] ty #[u1,u2]).run P w = .ok v w'∧StepOK A w B w' B' (ig mem ef)∧VR w' (OA A B') B' r v:=by
 obtain⟨a2,c2,vals,rfl,hrl,hvl,hat⟩:=Bw hmr r2 hrow;obtain⟨i,zv,hi,hzv,hzrl⟩:=jl (P:=P) (w:=w) (B:=B) (O:=OA A B) hz;have hsz:=wX hi hs;have hbb:=tI hi hby;have hzs:zv.cells.size=z.length:=by have:=hzrl.1;simp at this;omega
 have hnl:new.length=n*z.length:=by rw[←hrl.1,hvl]
 have hf:=fun w' hw=>oJ (P:=P) (w:=w) (c:=c2) hvl hat w' hw
 -- a new block
 have grow:∀ (base:Option Addr) (len cap:Nat) (g:Nat) (k':Key) (cs:List MV) (olds:List Value),cap<len+n→(∀ w',w'.heap=w.heap→(Builtin.firstCells z.length len (.slice base len cap)).run P w' = .ok olds.toArray w') →
   RL w (OA A B) B cs olds→cs.length=len*z.length→len+n≤maxLen→(len+n)*bytes≤140737488355328→g=aD mem k' →
   ∃ v w' B',(Builtin.append_ #[t,t] ty #[.slice base len cap,.slice a2 n c2]).run P w = .ok v w'∧StepOK A w B w' B' (aA mem k' g (cs++new))∧VR w' (OA A B') B' (.ref k' g z.length 0 (len+n)) v:=by
  intro base len cap g k' cs olds hroom hfo hcs hcl hmax hbytes hg;subst hg;have hrun:=xT (P:=P) (ty:=ty) ht hi hzv hsz hbb hroom hfo hf hmax hbytes;have hge:=grownCap_ge w (len+n) cap e;have hle:=grownCap_le_maxLen w (len+n) cap e hmax
  have hsize:(olds.toArray++vals.toArray++Builtin.zeroCells zv.cells (grownCap w (len+n) cap e-(len+n))).size=grownCap w (len+n) cap e*z.length:=by
   have hol:=hcs.1;simp only[Array.size_append,List.size_toArray,size_zeroCells,hzs,hol,hcl,hvl];rw[←TP,←TP]
   congr 1
   omega
  have hall:=hcs.append hrl;have hmul:(len+n)*z.length≤grownCap w (len+n) cap e*z.length:=T5 _ hge;have hcn:(cs++new).length=(len+n)*z.length:=by rw[T6,hcl,hnl,TP]
  refine⟨_,_,_,hrun,nG (cs:=cs++new) hmr w.drew ((Fr.refl _ _).drew _) rfl k' _ e (by rw[hsize,hcn];exact hmul) ?_,?_⟩
  ·have:(olds.toArray++vals.toArray++Builtin.zeroCells zv.cells (grownCap w (len+n) cap e-(len+n))).toList.take (cs++new).length=olds++vals:=by
    simp only[Array.toList_append,List.toList_toArray];rw[List.take_append_of_le_length (by rw[hall.1];exact TR _),TX (by rw[hall.1];exact TR _)]
   rw[this];exact hall
  ·refine .ref (aX _ _ _) (TR _) ⟨_,_,rfl,hge,hle,.inr ⟨_,rfl,fun _=>⟨rfl,?_⟩⟩⟩
   simp only[TS];rw[hsize];exact TR _
 cases m1 with
 | nil =>
  simp only[pt] at h
  split at h
  ·rename_i hc
   obtain⟨hbytes,hmax,hone⟩:=hc
   cases h
   cases r1 with
   | @nil a1 =>
    rcases TY n with hn0 | hn0
    ·subst hn0
     have hv0:vals=[]:=TZ (by simpa using hvl);have hnew0:new=[]:=TZ (by simpa using hnl);subst hv0;subst hnew0
     refine⟨_,_,_,nI (P:=P) (ty:=ty) ht hs (TR _) (hf w rfl) w (fun b _=>by simp [storeCells]) (fun _=>rfl),StepOK.virtual hmr k,?_⟩;exact .ref (aX _ _ _) (TR _) ⟨_,0,rfl,TR _,T7 _,.inl rfl⟩
    ·have:=grow a1 0 0 (aD mem k) k [] [] (by omega) (fun w' hw=>by
      have:=oJ (P:=P) (w:=w) (sz:=z.length) (n:=0) (c:=0) (a:=a1) (vals:=[]) (by simp) (fun h=>by omega) w' hw;exact this) RL.nil (by simp) (by omega) (by simpa using hbytes) rfl
     simpa [ig] using this
  ·cases h
 | ref k' g sz' off len =>
  simp only[pt] at h
  split at h
  ·rename_i hc
   obtain⟨rfl,rfl⟩:=hc;unfold lg at h
   split at h
   ·rename_i g' cs hk
    split at h
    ·rename_i hc
     obtain⟨rfl,hlen,hbytes,hmax,hone⟩:=hc
     cases h;obtain⟨ee,hee,hge,hnn,hb⟩:=hmr.at_ hk;have hnext:g'+1=aD mem k':=by simp [aD,hk]
     cases r1 with
     | ref he hg hr =>
      rw[hee] at he
      cases he;obtain⟨a1,cap,rfl,h1,h2,h3⟩:=hr
      have hold:∃ olds,RL w (OA A B) B (cs.take (len*z.length)) olds∧olds.length=len*z.length∧(0<len→∃ b off,a1=some ⟨b,off,none⟩∧At w b off olds):=by
       rcases h3 with h3 | ⟨b,rfl,h4⟩
       ·have:len=0:=by omega
        subst this;exact⟨[],by simpa using RL.nil,by simp,fun h=>by omega⟩
       ·obtain⟨h5,h6⟩:=h4 hge.symm
        obtain⟨vs,T,hh,hz',hle,hrl'⟩:=hb b h5;refine⟨(vs.toList.take cs.length).take (len*z.length),hrl'.take _,by have:=(hrl'.take (len*z.length)).1;rw[this];simp;omega,fun _=>⟨b,0,rfl,((At.row hh).take _).take _⟩⟩
      obtain⟨olds,ho1,ho2,ho3⟩:=hold
      by_cases hroom:len+n≤cap
      ·rcases h3 with h3 | ⟨b,rfl,h4⟩
       ·-- no room, and nothing comes
        have hl0:len=0:=by omega
        have hn0:n=0:=by omega
        subst hl0;subst hn0;subst h3
        have hv0:vals=[]:=TZ (by simpa using hvl);have hnew0:new=[]:=TZ (by simpa using hnl);subst hv0;subst hnew0
        refine⟨_,_,fx B k' ⟨aD mem k',none,0⟩,nI (P:=P) (ty:=ty) ht hs (TR _) (hf w rfl) w (fun b _=>by simp [storeCells]) (fun _=>rfl),?_,?_⟩
        ·have:=StepOK.virtual hmr k'
         simpa [ig,hnext] using this
        ·rw[hnext]
         exact .ref (aX _ _ _) (TR _) ⟨_,0,rfl,TR _,T7 _,.inl rfl⟩
       ·obtain⟨h5,h6⟩:=h4 hge.symm
        obtain⟨vs,T,hh,hz',hle,hrl'⟩:=hb b h5;have hmul:(len+n)*z.length≤cap*z.length:=T5 _ hroom;have hsplit:(len+n)*z.length=len*z.length+n*z.length:=TP _ _ _;have hst:=run_storeCells_at P b (len*z.length) T vals 0 vs w hh (by omega) (hrl.ones hone);simp only[T8] at hst
        have hol:olds=vs.toList.take (len*z.length):=by
         apply List.ext_getElem?;intro j;rcases Nat.lt_or_ge j (len*z.length) with hj | hj
         ·have hpos:0<len:=by
           rcases TY len with h | h
           ·subst h;simp at hj
           ·exact h
          obtain⟨b',off',hbe,hat'⟩:=ho3 hpos;simp only[Option.some.injEq,Addr.mk.injEq,and_true] at hbe;obtain⟨rfl,rfl⟩:=hbe;have hj2:j<olds.length:=by omega
          have hcell:=hat' j _ (TW hj2);rw[TS,cell_of_row w b j vs T (0,0) hh] at hcell;rw[TW hj2,T9,if_pos hj,←hcell,Array.getElem?_toList]
         ·rw[List.getElem?_eq_none (by omega),T9,if_neg (by omega)]
        have hcell':(vs.toList.take (len*z.length)++vals++vs.toList.drop (len*z.length+vals.length)).toArray.size=ee.size:=by
         simp;omega
        have f:Fr (fun b=>∃ e,B k'=some e∧e.blk=some b) w (w.setRow b (vs.toList.take (len*z.length)++vals++vs.toList.drop (len*z.length+vals.length)).toArray):=by
         refine⟨rfl,rfl,rfl,by simp,fun j hj ho=>?_⟩
         exact setRow_other w b j _ (fun hjb=>ho ⟨ee,hee,by rw[h5,hjb]⟩)
        have hcn:(cs.take (len*z.length)++new).length=len*z.length+vals.length:=by
         rw[T6,hnl,hvl,Ua,Ub hlen]
        have ok:=StepOK.change (k:=k') (e':=⟨g'+1,some b,ee.size⟩) (cs:=cs.take (len*z.length)++new) hmr f
         (fun e2 he2 => .inr (by rw[hee] at he2;cases he2;simp only;omega)) (fun b2 hb2 => .inr ⟨ee,hee,by rw[h5];exact hb2⟩) (fun hn=>by cases hn) (fun b2 hb2=>by
          cases hb2;refine⟨_,T,setRow_heap w b vs _ T (0,0) hh,hcell',by rw[hcell',hcn,hvl];omega,fun i m hm=>?_⟩
          have hall:=ho1.append hrl;obtain⟨v,hv,hr⟩:=hall.get hm;refine⟨v,?_,hr⟩;rw[hol] at hv;have hlt:i<(vs.toList.take (len*z.length)++vals).length:=(List.getElem?_eq_some_iff.1 hv).1;simp only[Uc];rw[List.getElem?_append_left hlt];exact hv)
        refine⟨_,_,_,nI (P:=P) (ty:=ty) (a:=a2) (c:=c2) (vals:=vals) ht hs hroom (hf w rfl) _ (fun b' hb'=>by
         cases hb'
         rw[i5,TS];exact hst) (fun h=>by cases h),ok,?_⟩
        exact .ref (aX _ _ _) (TR _) ⟨_,cap,rfl,hroom,h2,.inr ⟨b,rfl,fun _=>⟨rfl,h6⟩⟩⟩
      ·have:=grow a1 len cap (g'+1) k' (cs.take (len*z.length)) olds (by omega) (fun w' hw=>oJ (P:=P) (w:=w) ho2 ho3 w' hw) ho1 (by rw[Ua,Ub hlen]) hmax hbytes hnext
       exact this
    ·cases h
   ·cases h
  ·cases h
 | _=>simp [pt] at h
theorem Mr {t u ty e:TypeId} {sz n:Nat} {m1 m2:MV} {u1 u2:Value} {new:List MV} {r:MV} {ef:Option (Key × Nat × List MV)} (hmr:MemRel A w B mem) (ht:P.underlying t=some (.slice e)) (hs:cN P e=some sz)
  (r1:VR w (OA A B) B m1 u1) (r2:VR w (OA A B) B m2 u2) (hrow:oN mem sz m2=some (n,new)) (h:uQ mem sz m1 (some (n,new))=some (r,ef)) :
  ∃ v w',(Builtin.copy_ #[t,u] ty #[u1,u2]).run P w = .ok v w'∧StepOK A w B w' B (ig mem ef)∧VR w' (OA A B) B r v:=by
 obtain⟨a2,c2,vals,rfl,hrl,hvl,hat⟩:=Bw hmr r2 hrow;have hnl:new.length=n*sz:=by rw[←hrl.1,hvl]
 cases m1 with
 | ref k g sz' off len =>
  simp only[uQ] at h
  split at h
  ·rename_i hsz
   subst hsz;unfold AL at h
   split at h
   ·rename_i g' cs hk
    split at h
    ·rename_i hc
     obtain⟨rfl,hfit,hone⟩:=hc
     cases h;obtain⟨ee,hee,hge,hnn,hb⟩:=hmr.at_ hk;have hmin:Nat.min n len=min n len:=rfl;have hle:min n len≤n:=Nat.min_le_left _ _;have hle2:min n len≤len:=Nat.min_le_right _ _;have hml:min n len*sz'≤n*sz':=T5 _ hle;have hml2:min n len*sz'≤len*sz':=T5 _ hle2;have hv2:(vals.take (min n len*sz')).length=min n len*sz':=by rw[Ua,hvl,Ub hml]
     have hfirst:∀ (a:Option Addr) (c:Nat),(0<n→∃ b off,a=some ⟨b,off,none⟩∧At w b off vals)→(Builtin.firstCells sz' (min n len) (.slice a n c)).run P w = .ok (vals.take (min n len*sz')).toArray w:=by
      intro a c hat
      have:=oJ (P:=P) (w:=w) (sz:=sz') (n:=min n len) (c:=c) (a:=a) (vals:=vals.take (min n len*sz')) hv2 (fun h=>by
       obtain⟨b,off,h1,h2⟩:=hat (by omega);exact⟨b,off,h1,h2.take _⟩) w rfl
      cases a with
      | none=>simpa [Builtin.firstCells] using this
      | some a=>simpa [Builtin.firstCells] using this
     cases r1 with
     | ref he hg hr =>
      rw[hee] at he
      cases he;obtain⟨a1,cap,rfl,h1,h2,h3⟩:=hr;simp only[cN,TU] at hs;obtain⟨i,hi,hsi⟩:=hs;rcases h3 with h3 | ⟨b,rfl,h4⟩
      ·have hl0:len=0:=by omega
       subst hl0;have hm0:min n 0=0:=Nat.min_zero _;have hstep:splice cs off (new.take (min n 0*sz'))=cs:=by simp [splice]
       have hst:∀ a:Addr,(storeCells a ([]:List Value)).run P w = .ok () w:=fun a=>by simp [storeCells]
       have hff:=hfirst a2 c2 hat;simp only[hm0,Nat.zero_mul,List.take_zero] at hff
       have hB:fx B k ee=B:=by
        funext j;unfold fx;split
        ·rename_i hj;rw[hj,hee]
        ·rfl
       refine⟨.int .i64 0,w,?_,?_,by simpa using VR.ofInt⟩
       ·cases a1 with
        | none=>simp [Builtin.copy_,run_underlying ht,Builtin.lenOf,sizeOf,typeInfo,hi,hsi,hff,goInt]
        | some a=>simp [Builtin.copy_,run_underlying ht,Builtin.lenOf,sizeOf,typeInfo,hi,hsi,hff,hst,goInt]
       ·have hmem:aA mem k g' cs=mem:=by
         funext j;unfold aA;split
         ·rename_i hj;rw[hj,hk]
         ·rfl
        simp only[ig,hstep,hmem];exact .refl hmr
      ·obtain⟨h5,h6⟩:=h4 hge.symm
       obtain⟨vs,T,hh,hz',hle',hrl'⟩:=hb b h5;have hst:=run_storeCells_at P b off T (vals.take (min n len*sz')) 0 vs w hh (by omega) (fun v hv=>hrl.ones hone v (List.mem_of_mem_take hv));simp only[T8] at hst;refine⟨.int .i64 ((min n len:Nat):Int),_,?_,HP hmr hk hee h5 hh hz' hle' hrl' hge (by rw[Ua,hnl,Ub hml];omega) (hrl.take (min n len*sz')),.ofInt⟩;have hff:=hfirst a2 c2 hat;simp [Builtin.copy_,run_underlying ht,Builtin.lenOf,sizeOf,typeInfo,hi,hsi,hmin,hff,hst,goInt]
    ·cases h
   ·cases h
  ·cases h
 | _=>simp [uQ] at h
end
end Go.Mini
namespace Go.Mini
open Go
variable {P:Program} {A:Nat→Prop} {w:World} {B:Lay} {mem:Mem}
theorem Gj {t e:TypeId} {sz l h len:Nat} {m r:MV} {v:Value} {vlo vhi:Option Value} {lo hi:Option MV} (hmr:MemRel A w B mem) (ht:P.underlying t=some (.array len e)) (hs:cN P e=some sz) (h24:len≤16777216)
  (hlo:iV 0 lo=some l) (hhi:iV len hi=some h) (rlo:OR w (OA A B) B lo vlo) (rhi:OR w (OA A B) B hi vhi) (hm:VR w (OA A B) B m v) (hr:se mem len sz l h m=some r) :
  ∃ z,(Instr.sliceAt t v vlo vhi none).run P w = .ok z w∧VR w (OA A B) B r z:=by
 unfold se at hr
 split at hr
 ·rename_i k g off
  unfold Kq at hr
  split at hr
  ·rename_i g' cs hk
   split at hr
   ·rename_i hc
    obtain⟨rfl,h1,h2,h3⟩:=hc
    cases hr
    cases hm with
    | ptr he hg hv =>
     obtain⟨b,rfl,hb⟩:=hv;obtain⟨e',he',hge,hn,hblk⟩:=hmr.at_ hk;rw[he'] at he
     cases he;have hbb:=hb hge.symm;obtain⟨vs,T,hh,hz,hle,_⟩:=hblk b hbb;refine⟨.slice (some (if len=l then ⟨b,off,none⟩ else ⟨b,off+l*sz,none⟩)) (h-l) (len-l),?_,.ref he' hg ⟨_,len-l,rfl,by omega,by unfold maxLen;omega,?_⟩⟩
     ·simp [Instr.sliceAt,run_underlying ht,Instr.sureAddr,pd (P:=P) (w:=w) false hlo hhi rlo rhi h1 h2,eE hs]
      split<;>simp [i5]
     ·rcases Nat.eq_or_lt_of_le (Nat.le_trans h1 h2) with hl | hl
      ·exact .inl (by omega)
      ·refine .inr ⟨b,by rw[if_neg (by omega)],fun _=>⟨hbb,?_⟩⟩
       have:off+l*sz+(len-l)*sz=off+len*sz:=by
        rw[Nat.add_assoc,←TP]
        congr 2
        omega
       omega
   ·cases hr
  ·cases hr
 ·cases hr
theorem BU {fs:List Field} (h:(fs.all fun f=>(cN P f.type).isSome)=true):∃ ps:List (Nat × Nat),(fs.mapM fun f=>(do pure (f.offset,←sizeOf f.type):Sem (Nat × Nat))).run P w = .ok ps w ∧
  ∀ i:Nat,ps[i]?=dq P fs.toArray i:=by
 induction fs with
 | nil=>exact⟨[],by simp,fun i=>by simp [dq]⟩
 | cons f r ih =>
  simp only[List.all_cons,Ud] at h;obtain⟨ps,h1,h2⟩:=ih h.2;obtain⟨s,hs⟩:=Option.isSome_iff_exists.1 h.1;refine⟨(f.offset,s)::ps,?_,fun i=>?_⟩
  ·simp only[Ue,Sem.run_bind,eE hs,Result.andThen_ok,Sem.run_pure]
   rw[h1]
   rfl
  ·cases i with
   | zero=>simp [dq,hs]
   | succ i =>
    have:=h2 i;simp only[dq,Uc,List.getElem?_cons_succ] at this ⊢;exact this
theorem Ao {p q:Nat→Option (Nat × Nat)} (h:∀ i,p i=q i) (cs:Array Value) (l:List (Nat × Value)):Instr.fill p cs l=Instr.fill q cs l:=by
 rw[show p=q from funext h]
theorem B4 {t:TypeId} {fs:Array Field} {z r:List MV} {ps:List (Nat × Operand)} {qs:List (Nat × Nat × Opd)} {ρ:Operand→Value} {tm:Nat→MV} {O:Nat→Prop} (ht:P.underlying t=some (.struct fs)) (hz:g8 P t=some z)
  (ha:(fs.toList.all fun f=>(cN P f.type).isSome)=true) (hp:iQ (dq P fs) ps=some qs) (hρ:∀ x y,bq x=some y→VR w O B (ev tm y) (ρ x))
  (h:fg (ev tm) z qs=some r):∃ v,(Instr.build t (ps.map fun p=>(p.1,ρ p.2)).toArray).run P w = .ok v w∧VR w O B (.agg r) v:=by
 obtain⟨i,zv,hi,hzv,hrl⟩:=jl (P:=P) (w:=w) (B:=B) (O:=O) hz;obtain⟨pl,h1,h2⟩:=BU (w:=w) ha;obtain⟨vs',hf,hr⟩:=qT (place:=dq P fs) hρ ps qs _ r _ hp hrl h;refine⟨.agg vs',?_,by rw[show vs'=vs'.toList.toArray from by simp];exact .agg hr.1 hr.2⟩
 ·have h2':∀ i,pl.toArray[i]?=dq P fs i:=fun i=>by simpa using h2 i
  have hm:(fs.mapM fun f=>(do pure (f.offset,←sizeOf f.type):Sem (Nat × Nat))).run P w = .ok pl.toArray w:=by
   rw[Array.mapM_eq_mapM_toList];rw[map_eq_pure_bind];simp only[Sem.run_bind,h1,Result.andThen_ok,Sem.run_pure]
  simp only[Instr.build,Sem.run_bind,jB hi hzv,Result.andThen_ok,Sem.run_pure,run_underlying ht,hm,Ao h2',hf]
theorem Cv {t e:TypeId} {n sz:Nat} {z r:List MV} {ps:List (Nat × Operand)} {qs:List (Nat × Nat × Opd)} {ρ:Operand→Value} {tm:Nat→MV} {O:Nat→Prop} (ht:P.underlying t=some (.array n e)) (hz:g8 P t=some z)
  (hs:cN P e=some sz) (hp:iQ (fun i=>some (i*sz,sz)) ps=some qs) (hρ:∀ x y,bq x=some y→VR w O B (ev tm y) (ρ x))
  (h:fg (ev tm) z qs=some r):∃ v,(Instr.build t (ps.map fun p=>(p.1,ρ p.2)).toArray).run P w = .ok v w∧VR w O B (.agg r) v:=by
 obtain⟨i,zv,hi,hzv,hrl⟩:=jl (P:=P) (w:=w) (B:=B) (O:=O) hz;obtain⟨vs',hf,hr⟩:=qT (place:=fun i=>some (i*sz,sz)) hρ ps qs _ r _ hp hrl h;refine⟨.agg vs',?_,by rw[show vs'=vs'.toList.toArray from by simp];exact .agg hr.1 hr.2⟩
 simp only[Instr.build,Sem.run_bind,jB hi hzv,Result.andThen_ok,Sem.run_pure,run_underlying ht,eE hs,hf]
end Go.Mini
namespace Go.Mini
open Go
variable {P:Program} {A:Nat→Prop} {w:World} {B:Lay} {mem:Mem}
def OV (n:Next) (v:Value):Prop:=n = .value v∨(n = .skip∧v=undef)
def OpOK (A:Nat→Prop) (w:World) (B:Lay) (run:Result Next) (mem':Mem) (r:MV):Prop :=
 ∃ n v w' B',run = .ok n w'∧OV n v∧StepOK A w B w' B' mem'∧VR w' (OA A B') B' r v
theorem OpOK.still_ {s:Sem Value} {r:MV} (hmr:MemRel A w B mem) (h:∃ v,s.run P w = .ok v w∧VR w (OA A B) B r v):OpOK A w B ((do pure (.value (←s)):Sem Next).run P w) mem r:=by
 obtain⟨v,h1,h2⟩:=h;exact⟨.value v,v,w,B,by simp [h1],.inl rfl,.refl hmr,h2⟩
theorem OpOK.of {s:Sem Value} {mem':Mem} {r:MV} (h:∃ v w' B',s.run P w = .ok v w'∧StepOK A w B w' B' mem'∧VR w' (OA A B') B' r v):OpOK A w B ((do pure (.value (←s)):Sem Next).run P w) mem' r:=by
 obtain⟨v,w',B',h1,h2,h3⟩:=h;exact⟨.value v,v,w',B',by simp [h1],.inl rfl,h2,h3⟩
theorem zK {x:Option MV} {r:MV} {ef:Option (Key × Nat × List MV)} (h:iB x=some (r,ef)):x=some r∧ef=none:=by
 unfold iB at h
 split at h<;>cases h
 exact⟨rfl,rfl⟩
theorem dl {x:Option Nat} {f:Nat→Option MV} {r:MV} (h:dE x f=some r):∃ n,x=some n∧f n=some r:=by
 unfold dE at h
 split at h
 ·exact⟨_,rfl,h⟩
 ·cases h
theorem wE {x y:Option Nat} {f:Nat→Nat→Out} {r:MV × Option (Key × Nat × List MV)} (h:zo x y f=some r):∃ n m,x=some n∧y=some m∧f n m=some r:=by
 unfold zo at h
 split at h
 ·exact⟨_,_,rfl,rfl,h⟩
 ·cases h
theorem iv {O:Nat→Prop} {ρ:Operand→Value} {tm:Nat→MV} (hρ:∀ x y,bq x=some y→VR w O B (ev tm y) (ρ x)) {x:Option Operand} {y:Option Opd} (h:jg x=some y):OR w O B (y.map (ev tm)) (x.map ρ):=by
 cases x with
 | none=>simp [jg] at h;subst h;simp [OR]
 | some x =>
  simp only[jg,TU] at h;obtain⟨y',hy,rfl⟩:=h;simp only[T4,OR];exact hρ _ _ hy
theorem my {fs:Array Field} {f o s:Nat} (h:dq P fs f=some (o,s)):∃ fd,fs[f]?=some fd∧fd.offset=o∧cN P fd.type=some s:=by
 simp only[dq,Uf,Ug,Uh,Option.some.injEq,Prod.mk.injEq] at h;obtain⟨fd,h1,s',h2,h3,h4⟩:=h;exact⟨fd,h1,h3,h4 ▸ h2⟩
theorem gu {O:Nat→Prop} {ρ:Operand→Value} {tm:Nat→MV} (hρ:∀ x y,bq x=some y→VR w O B (ev tm y) (ρ x)):∀ {l:List Operand} {r:List Opd},l.mapM bq=some r→RL w O B (r.map (ev tm)) (l.map ρ)
 | [],r,h=>by simp at h;subst h;exact RL.nil
 | x::l,r,h=>by
  simp only[Ue,Uf,Ug,Uh,Option.some.injEq] at h;obtain⟨y,hy,r',hr,rfl⟩:=h;exact RL.cons (hρ _ _ hy) (gu hρ hr)
theorem c9 {α β:Type} (a:Array α) (f:α→β):a.map f=(a.toList.map f).toArray:=by
 apply Array.ext';simp
theorem cU {tm:Nat→MV} {m:MOp} {r:MV} {ef:Option (Key × Nat × List MV)} {x:Option MV} (h:sop mem tm m=some (r,ef)) (e:sop mem tm m=iB x):x=some r∧ef=none:=zK (e.symm.trans h)
theorem BR {ρ:Operand→Value} {tm:Nat→MV} {kb:Nat} {own:List Nat} {dst:Option Tmp} {type:TypeId} {c:Call} {m:MOp} {r:MV} {ef:Option (Key × Nat × List MV)} (hmr:MemRel A w B mem)
  (hρ:∀ x y,bq x=some y→VR w (OA A B) B (ev tm y) (ρ x)) (htr:nE P kb own dst type c=some m) (h:sop mem tm m=some (r,ef)) :
  OpOK A w B ((do let d ←resolve ρ c type;invoke d.target d.args:Sem Next).run P w) (ig mem ef) r:=by
 obtain⟨callee,args,argTypes⟩:=c;have two:∀ {α:Type} (a:Array α) (x y:α),a.toList=[x,y]→a=#[x,y]:=fun a x y h=>Array.ext' (by simpa using h)
 have one:∀ {α:Type} (a:Array α) (x:α),a.toList=[x]→a=#[x]:=fun a x h=>Array.ext' (by simpa using h)
 unfold nE at htr
 split at htr
 ·rename_i x t hc ha ht
  simp only at hc ha ht;subst hc;obtain rfl:=one _ _ ha;obtain rfl:=one _ _ ht
  split at htr
  ·rename_i e hu
   simp only[TU] at htr;obtain⟨y,hy,rfl⟩:=htr;obtain⟨hq,rfl⟩:=cU h rfl;obtain⟨n,hn,hq⟩:=dl hq
   cases hq;have:=HR (P:=P) (w:=w) t type e hu (hρ _ _ hy) hn;exact⟨.value _,_,w,B,by simp [resolve,invoke,builtin,this],.inl rfl,.refl hmr,.dat .int⟩
  ·rename_i hu
   simp only[TU] at htr;obtain⟨y,hy,rfl⟩:=htr;obtain⟨hq,rfl⟩:=cU h rfl;obtain⟨n,hn,hq⟩:=dl hq
   cases hq;have:=Hm (P:=P) (w:=w) t type hu (hρ _ _ hy) hn;exact⟨.value _,_,w,B,by simp [resolve,invoke,builtin,this],.inl rfl,.refl hmr,.dat .int⟩
  ·cases htr
 ·rename_i s x t u hc ha ht
  simp only at hc ha ht;subst hc;obtain rfl:=two _ _ _ ha;obtain rfl:=two _ _ _ ht
  split at htr
  ·rename_i e e2 hu hu2
   simp only[Uf,Ug,Uh] at htr;obtain⟨z,hz,b,hb,n,hn,d,hd,s',hs',x',hx',hh⟩:=htr
   split at hh
   ·rename_i hcc
    obtain⟨rfl,h0,rfl⟩:=hcc
    cases hh;simp only[sop] at h
    cases hrow:oN mem z.length (ev tm x') with
    | none =>
     rw[hrow] at h
     revert h
     cases ev tm s'<;>simp [pt]
    | some p =>
     obtain⟨k,new⟩:=p;rw[hrow] at h;obtain⟨v,w',B',h1,h2,h3⟩:=MB (ty:=type) _ hmr hu hz hn hb h0 (hρ _ _ hs') (hρ _ _ hx') hrow h;exact⟨.value v,v,w',B',by simp [resolve,invoke,builtin,h1],.inl rfl,h2,h3⟩
   ·cases hh
  ·cases htr
 ·rename_i dd x t u hc ha ht
  simp only at hc ha ht;subst hc;obtain rfl:=two _ _ _ ha;obtain rfl:=two _ _ _ ht
  split at htr
  ·rename_i e e2 hu hu2
   simp only[Uf,Ug,Uh] at htr;obtain⟨n,hn,hh⟩:=htr
   split at hh
   ·rename_i h0
    simp only[Uh,Option.some.injEq] at hh;obtain⟨d',hd',x',hx',rfl⟩:=hh;simp only[sop] at h
    cases hrow:oN mem n (ev tm x') with
    | none =>
     rw[hrow] at h
     revert h
     cases ev tm d'<;>simp [uQ]
    | some p =>
     obtain⟨k,new⟩:=p;rw[hrow] at h;obtain⟨v,w',h1,h2,h3⟩:=Mr (u:=u) (ty:=type) hmr hu hn (hρ _ _ hd') (hρ _ _ hx') hrow h;exact⟨.value v,v,w',B,by simp [resolve,invoke,builtin,h1],.inl rfl,h2,h3⟩
   ·cases hh
  ·cases htr
 ·rename_i x y hc ha
  simp only at hc ha;subst hc;obtain rfl:=two _ _ _ ha;simp only[Uf,Ug,Uh,Option.some.injEq] at htr;obtain⟨x',hx,y',hy,rfl⟩:=htr;obtain⟨hq,rfl⟩:=cU h rfl;obtain⟨z,h1,h2⟩:=Eu (P:=P) argTypes type (hρ _ _ hx) (hρ _ _ hy) hq;simp only[if_true] at h1;exact⟨.value z,z,w,B,by simp [resolve,invoke,builtin,h1],.inl rfl,.refl hmr,h2⟩
 ·rename_i x y hc ha
  simp only at hc ha;subst hc;obtain rfl:=two _ _ _ ha;simp only[Uf,Ug,Uh,Option.some.injEq] at htr;obtain⟨x',hx,y',hy,rfl⟩:=htr;obtain⟨hq,rfl⟩:=cU h rfl;obtain⟨z,h1,h2⟩:=Eu (P:=P) argTypes type (hρ _ _ hx) (hρ _ _ hy) hq;simp only[Ui,if_false] at h1;exact⟨.value z,z,w,B,by simp [resolve,invoke,builtin,h1],.inl rfl,.refl hmr,h2⟩
 ·split at htr
  ·split at htr
   ·simp only[Uf,Ug,Uh,Option.some.injEq] at htr
    obtain⟨_,_,_,_,_,_,rfl⟩:=htr
    cases h
   ·cases htr
  ·split at htr
   ·simp only[Uf,Ug,Uh,Option.some.injEq] at htr
    obtain⟨_,_,rfl⟩:=htr
    cases h
   ·simp only[Uf,Ug,Uh,Option.some.injEq] at htr
    obtain⟨_,_,rfl⟩:=htr
    cases h
 ·simp only[Uf,Ug,Uh,Option.some.injEq] at htr
  obtain⟨_,_,_,_,rfl⟩:=htr
  cases h
 ·cases htr
theorem zG {ρ:Operand→Value} {tm:Nat→MV} {kb:Nat} {own:List Nat} {o:Oper} {m:MOp} {r:MV} {ef:Option (Key × Nat × List MV)} (hmr:MemRel A w B mem)
  (hρ:∀ x y,bq x=some y→VR w (OA A B) B (ev tm y) (ρ x)) (htr:kL P kb own o.dst o.type o.op=some m) (h:sop mem tm m=some (r,ef)) :
  OpOK A w B ((execOp ρ o).run P w) (ig mem ef) r:=by
 obtain⟨dst,op,type,pos,after,guard⟩:=o;simp only at htr
 cases op<;>simp only[kL] at htr<;>simp only[execOp]
 case move x =>
  simp only[TU] at htr;obtain⟨y,hy,rfl⟩:=htr;obtain⟨hq,rfl⟩:=cU (x:=some (ev tm y)) h rfl
  cases hq;exact⟨_,_,w,B,rfl,.inl rfl,.refl hmr,hρ _ _ hy⟩
 case assign x =>
  simp only[TU] at htr;obtain⟨y,hy,rfl⟩:=htr;obtain⟨hq,rfl⟩:=cU (x:=some (ev tm y)) h rfl
  cases hq;exact⟨_,_,w,B,rfl,.inl rfl,.refl hmr,hρ _ _ hy⟩
 case pick c a b =>
  simp only[Uf,Ug,Uh,Option.some.injEq] at htr;obtain⟨c',hc,a',ha,b',hb,rfl⟩:=htr;obtain⟨hq,rfl⟩:=cU h rfl;have:=OpOK.still_ hmr (GU (P:=P) (hρ _ _ hc) (hρ _ _ ha) (hρ _ _ hb) hq)
  simpa [ig] using this
 case alloc e =>
  simp only[Uf,Ug,Uh,Option.some.injEq] at htr;obtain⟨d,hd,z,hz,rfl⟩:=htr;simp only[sop,Option.some.injEq,Prod.mk.injEq] at h;obtain⟨rfl,rfl⟩:=h;exact OpOK.of (GB _ hmr hz)
 case box e x =>
  simp only[Uf,Ug,Uh,Option.some.injEq] at htr;obtain⟨d,hd,y,hy,rfl⟩:=htr;simp only[sop] at h
  split at h
  ·rename_i hk
   simp only[Option.some.injEq,Prod.mk.injEq] at h;obtain⟨rfl,rfl⟩:=h;exact OpOK.of (MJ _ hmr (hρ _ _ hy) hk)
  ·cases h
 case build t ps =>
  split at htr
  ·rename_i fs hu
   split at htr
   ·rename_i ha
    simp only[Uf,Ug,Uh,Option.some.injEq] at htr;obtain⟨z,hz,qs,hqs,rfl⟩:=htr;obtain⟨hq,rfl⟩:=cU h rfl;simp only[qop,TU] at hq;obtain⟨cs,hcs,rfl⟩:=hq;rw[c9];exact OpOK.still_ hmr (B4 hu hz ha hqs hρ hcs)
   ·cases htr
  ·rename_i n e hu
   simp only[Uf,Ug,Uh,Option.some.injEq] at htr;obtain⟨s,hs,z,hz,qs,hqs,rfl⟩:=htr;obtain⟨hq,rfl⟩:=cU h rfl;simp only[qop,TU] at hq;obtain⟨cs,hcs,rfl⟩:=hq;rw[c9];exact OpOK.still_ hmr (Cv hu hz hs hqs hρ hcs)
  ·cases htr
 case buildSlice t len ps =>
  split at htr
  ·rename_i e hu
   simp only[Uf,Ug,Uh] at htr;obtain⟨z,hz,s,hs,qs,hqs,d,hd,hh⟩:=htr
   split at hh
   ·rename_i hc
    obtain⟨hzl,h0,hl⟩:=hc;simp only[Option.some.injEq] at hh;subst hh;rw[c9]
    cases hown:own.contains d with
    | true =>
     rw[hown] at h;exact OpOK.of (IG _ hmr hu hz hs hzl h0 hl hqs hρ h)
    | false =>
     rw[hown] at h;obtain⟨hq,rfl⟩:=cU h rfl;obtain⟨v,w',h1,h2,h3⟩:=K2 hmr hu hz hs hzl h0 hl hqs hρ hq;exact OpOK.of ⟨v,w',B,h1,h2,h3⟩
   ·cases hh
  ·cases htr
 case load t x =>
  simp only[Uf,Ug,Uh,Option.some.injEq] at htr;obtain⟨n,hn,g,hg,y,hy,rfl⟩:=htr;obtain⟨hq,rfl⟩:=cU h rfl;exact OpOK.still_ hmr (FY hn hg hmr (hρ _ _ hy) hq)
 case store t x v =>
  simp only[Uf,Ug,Uh,Option.some.injEq] at htr;obtain⟨n,hn,x',hx,v',hv,rfl⟩:=htr;obtain⟨w',h1,h2,rfl⟩:=Gg hmr hn (hρ _ _ hx) (hρ _ _ hv) h;exact⟨.skip,undef,w',B,by simp [h1],.inr ⟨rfl,rfl⟩,h2,.no⟩
 case nilCheck x =>
  simp only[TU] at htr;obtain⟨y,hy,rfl⟩:=htr;obtain⟨hq,rfl⟩:=cU h rfl;obtain⟨⟨b,off,hx⟩,hr⟩:=Hl (hρ _ _ hy) hq;rw[hx] at hr ⊢;exact⟨_,_,w,B,rfl,.inl rfl,.refl hmr,hr⟩
 case binOp bop t x y pos2 =>
  unfold vi at htr
  split at htr
  ·split at htr
   ·rename_i x' y' hx hy
    cases htr;obtain⟨hq,rfl⟩:=cU h rfl;exact OpOK.still_ hmr (Ap t x y (hρ _ _ hx) (hρ _ _ hy) hq)
   ·cases htr
  ·split at htr
   ·rename_i x' y' hx hy
    cases htr;obtain⟨hq,rfl⟩:=cU h rfl;exact OpOK.still_ hmr (Ap t x y (hρ _ _ hx) (hρ _ _ hy) hq)
   ·cases htr
  ·rename_i hu
   split at htr
   ·rename_i x' y' hx hy
    cases htr;obtain⟨hq,rfl⟩:=cU h rfl;exact OpOK.still_ hmr (BJ (neg:=false) t x y hu (hρ _ _ hx) (hρ _ _ hy) hq)
   ·rename_i x' y' hx hy
    cases htr;obtain⟨hq,rfl⟩:=cU h rfl;exact OpOK.still_ hmr (BJ (neg:=true) t x y hu (hρ _ _ hx) (hρ _ _ hy) hq)
   ·cases htr
  ·rename_i fs hu
   split at htr
   ·unfold qP at htr
    split at htr
    ·rename_i hc
     split at htr
     ·rename_i ks x' y' hk hx hy
      cases htr;obtain⟨hq,rfl⟩:=cU h rfl;exact OpOK.still_ hmr (BD (neg:=false) t x y fs hu hc.1 hc.2 hk (hρ _ _ hx) (hρ _ _ hy) hq)
     ·cases htr
    ·cases htr
   ·unfold qP at htr
    split at htr
    ·rename_i hc
     split at htr
     ·rename_i ks x' y' hk hx hy
      cases htr;obtain⟨hq,rfl⟩:=cU h rfl;exact OpOK.still_ hmr (BD (neg:=true) t x y fs hu hc.1 hc.2 hk (hρ _ _ hx) (hρ _ _ hy) hq)
     ·cases htr
    ·cases htr
   ·cases htr
  ·split at htr
   ·split at htr
    ·simp only[TU] at htr
     obtain⟨_,_,rfl⟩:=htr
     cases h
    ·simp only[TU] at htr
     obtain⟨_,_,rfl⟩:=htr
     cases h
    ·cases htr
   ·cases htr
  ·cases htr
 case unOp uop t x =>
  simp only[TU] at htr;obtain⟨y,hy,rfl⟩:=htr;obtain⟨hq,rfl⟩:=cU h rfl;exact OpOK.still_ hmr (LF (hρ _ _ hy) hq)
 case convert s t x =>
  split at htr
  ·rename_i ks k hs ht
   simp only[TU] at htr;obtain⟨y,hy,rfl⟩:=htr;obtain⟨hq,rfl⟩:=cU h rfl;exact OpOK.still_ hmr (GA s t ks hs ht (hρ _ _ hy) hq)
  ·cases htr
 case makeFunc fn first caps =>
  cases fn<;>simp only[reduceCtorEq] at htr
  split at htr
  ·rename_i hsz
   simp only[Uf,Ug,Uh,Option.some.injEq] at htr;obtain⟨cs,hcs,rfl⟩:=htr;obtain⟨hq,rfl⟩:=cU (x:=some (.clo _ (cs.map (ev tm)))) h rfl
   cases hq;have hf0:first=#[]:=Array.eq_empty_of_size_eq_zero hsz
   subst hf0;have hl:=gu hρ hcs;exact OpOK.still_ hmr ⟨_,by rw[c9 caps,Array.map_empty];rfl,.clo hl.1 hl.2⟩
  ·cases htr
 case makeSlice t l c =>
  split at htr
  ·rename_i e he
   simp only[Uf,Ug,Uh] at htr;obtain⟨z,hz,s,hs,b,hb,d,hd,hh⟩:=htr
   split at hh
   ·rename_i hc
    simp only[Uh,Option.some.injEq] at hh;obtain⟨l',hl,c',hc',rfl⟩:=hh;simp only[sop] at h;obtain⟨n1,n2,h1,h2,h3⟩:=wE h;obtain⟨rfl,h0⟩:=hc;exact OpOK.of (JV _ hmr he hz hs hb h1 h2 (hρ _ _ hl) (hρ _ _ hc') h0 h3)
   ·cases hh
  ·cases htr
 case slice t x lo hi mx =>
  split at htr
  ·rename_i e hu
   simp only[Uf,Ug,Uh] at htr;obtain⟨s,hs,hh⟩:=htr
   split at hh
   ·simp only[Uh,Option.some.injEq] at hh
    obtain⟨y,hy,lo',hlo,hi',hhi,mx',hmx,rfl⟩:=hh;have rlo:=iv hρ hlo;have rhi:=iv hρ hhi;have rmx:=iv hρ hmx
    cases mx' with
    | none =>
     cases mx with
     | some v=>simp [jg,TU] at hmx
     | none =>
      obtain⟨hq,rfl⟩:=cU h rfl;obtain⟨l,hl,hq⟩:=dl hq;obtain⟨len,hlen,hq⟩:=dl hq;obtain⟨hh,hhh,hq⟩:=dl hq;exact OpOK.still_ hmr (I2 hu hs hl hlen hhh rlo rhi (hρ _ _ hy) hq)
    | some mx' =>
     cases hi' with
     | none=>cases h
     | some hi' =>
      cases hi with
      | none=>simp [OR] at rhi
      | some hi =>
       cases mx with
       | none=>simp [OR] at rmx
       | some mx =>
        obtain⟨hq,rfl⟩:=cU h rfl;obtain⟨l,hl,hq⟩:=dl hq;obtain⟨hh,hhh,hq⟩:=dl hq;obtain⟨m,hm,hq⟩:=dl hq;exact OpOK.still_ hmr (F9 hu hs hl hhh hm rlo rhi rmx (hρ _ _ hy) hq)
   ·cases hh
  ·rename_i n e hu
   simp only[Uf,Ug,Uh] at htr;obtain⟨s,hs,hh⟩:=htr
   split at hh
   ·rename_i hc
    simp only[Uh,Option.some.injEq] at hh;obtain⟨y,hy,lo',hlo,hi',hhi,mx',hmx,rfl⟩:=hh;have rlo:=iv hρ hlo;have rhi:=iv hρ hhi
    cases mx' with
    | none =>
     cases mx with
     | some v=>simp [jg,TU] at hmx
     | none =>
      obtain⟨hq,rfl⟩:=cU h rfl;obtain⟨l,hl,hq⟩:=dl hq;obtain⟨hh,hhh,hq⟩:=dl hq;exact OpOK.still_ hmr (Gj hmr hu hs hc.2 hl hhh rlo rhi (hρ _ _ hy) hq)
    | some mx'=>cases h
   ·cases hh
  ·rename_i hu
   split at htr
   ·rename_i hmx
    simp only[Uf,Ug,Uh,Option.some.injEq] at htr;obtain⟨y,hy,lo',hlo,hi',hhi,rfl⟩:=htr;have rlo:=iv hρ hlo;have rhi:=iv hρ hhi
    cases mx with
    | some v=>cases hmx
    | none =>
     obtain⟨hq,rfl⟩:=cU h rfl;obtain⟨l,hl,hq⟩:=dl hq;obtain⟨len,hlen,hq⟩:=dl hq;obtain⟨hh,hhh,hq⟩:=dl hq;exact OpOK.still_ hmr (Gl hu hl hlen hhh rlo rhi (hρ _ _ hy) hq)
   ·cases htr
  ·cases htr
 case fieldAddr t x f =>
  split at htr
  ·rename_i fs hu
   simp only[Uf,Ug,Uh] at htr;obtain⟨⟨o,s⟩,hp,hh⟩:=htr
   split at hh
   ·rename_i h0
    simp only[Uh,Option.some.injEq] at hh;obtain⟨y,hy,rfl⟩:=hh;obtain⟨fd,h1,h2,h3⟩:=my hp;obtain⟨hq,rfl⟩:=cU h rfl;exact OpOK.still_ hmr (Ki t f fs fd s hu h1 h3 h0 h2 (hρ _ _ hy) hq)
   ·cases hh
  ·cases htr
 case field t x f =>
  split at htr
  ·rename_i fs hu
   simp only[Uf,Ug,Uh,Option.some.injEq] at htr;obtain⟨fd,hfd,⟨o,s⟩,hp,g,hg,y,hy,rfl⟩:=htr;obtain⟨fd',h1,h2,h3⟩:=my hp;rw[hfd] at h1
   cases h1;obtain⟨hq,rfl⟩:=cU h rfl;exact OpOK.still_ hmr (I1 t f fs fd hu hfd h3 hg h2 (hρ _ _ hy) hq)
  ·cases htr
 case indexAddr t x i =>
  split at htr
  ·rename_i e hu
   simp only[Uf,Ug,Uh] at htr;obtain⟨s,hs,hh⟩:=htr
   split at hh
   ·simp only[Uh,Option.some.injEq] at hh
    obtain⟨y,hy,j,hj,rfl⟩:=hh;obtain⟨hq,rfl⟩:=cU h rfl;obtain⟨n,hn,hq⟩:=dl hq;obtain⟨k,hk⟩:=oz hn (hρ _ _ hj);rw[hk];exact OpOK.still_ hmr (I7 t e hu hs (hρ _ _ hy) hq)
   ·cases hh
  ·rename_i len e hu
   simp only[Uf,Ug,Uh] at htr;obtain⟨s,hs,hh⟩:=htr
   split at hh
   ·simp only[Uh,Option.some.injEq] at hh
    obtain⟨y,hy,j,hj,rfl⟩:=hh;obtain⟨hq,rfl⟩:=cU h rfl;obtain⟨n,hn,hq⟩:=dl hq;obtain⟨k,hk⟩:=oz hn (hρ _ _ hj);rw[hk];exact OpOK.still_ hmr (Fg t e hu hs (hρ _ _ hy) hq)
   ·cases hh
  ·cases htr
 case index t x i =>
  split at htr
  ·rename_i hu
   simp only[Uf,Ug,Uh,Option.some.injEq] at htr;obtain⟨y,hy,j,hj,rfl⟩:=htr;obtain⟨hq,rfl⟩:=cU h rfl;obtain⟨n,hn,hq⟩:=dl hq;obtain⟨k,hk⟩:=oz hn (hρ _ _ hj);rw[hk];exact OpOK.still_ hmr (Ho t hu (hρ _ _ hy) hq)
  ·cases htr
 case extract x i =>
  simp only[TU] at htr;obtain⟨y,hy,rfl⟩:=htr;obtain⟨hq,rfl⟩:=cU h rfl;exact OpOK.still_ hmr (Im (hρ _ _ hy) hq)
 case call c =>
  exact BR hmr hρ htr h
 all_goals cases htr
end Go.Mini
namespace Go.Mini
open Go
inductive Todo where
 | code (c:MCode)
 | inBlock (id:Nat)
def kont (T:Tab) (K:bH→St→Prop):List Todo→bH→St→Prop
 | [],e,st=>K e st
 | .code c::k,.normal,st=>wp T c (kont T K k) st
 | .code _::k,.exit id,st=>kont T K k (.exit id) st
 | .code _::k,.ret,st=>kont T K k .ret st
 | .inBlock _::k,.normal,st=>kont T K k .normal st
 | .inBlock j::k,.exit id,st=>if id=j then kont T K k .normal st else kont T K k (.exit id) st
 | .inBlock _::k,.ret,st=>kont T K k .ret st
section
variable {T:Tab} {K:bH→St→Prop} {k:List Todo} {st:St}
theorem vt (c:MCode):(fun e st'=>match e with
  | .normal=>wp T c (kont T K k) st'
  | e=>kont T K k e st')=kont T K (.code c::k):=by
 funext e st'
 cases e<;>rfl
theorem sW (id:Nat):(fun e st'=>match e with
  | .exit j=>if j=id then kont T K k .normal st' else kont T K k (.exit j) st'
  | e=>kont T K k e st')=kont T K (.inBlock id::k):=by
 funext e st'
 cases e<;>rfl
@[go_sem] theorem Jh (e:bH):kont T K [] e st=K e st:=by cases e<;>rfl
@[go_sem] theorem Qe (c:MCode):kont T K (.code c::k) .normal st=wp T c (kont T K k) st:=_root_.id rfl
@[go_sem] theorem Iw (c:MCode) (id:Nat):kont T K (.code c::k) (.exit id) st=kont T K k (.exit id) st:=_root_.id rfl
@[go_sem] theorem KG (c:MCode):kont T K (.code c::k) .ret st=kont T K k .ret st:=_root_.id rfl
@[go_sem] theorem N6 (id:Nat):kont T K (.inBlock id::k) .normal st=kont T K k .normal st:=_root_.id rfl
@[go_sem] theorem Hq (id j:Nat):kont T K (.inBlock j::k) (.exit id) st=if id=j then kont T K k .normal st else kont T K k (.exit id) st:=_root_.id rfl
@[go_sem] theorem Ko (id:Nat):kont T K (.inBlock id::k) .ret st=kont T K k .ret st:=_root_.id rfl
theorem ap {c:MCode} (h:wp T c (kont T K []) st):wp T c K st:=by
 have:kont T K []=K:=by funext e st;cases e<;>rfl
 rwa [this] at h
@[go_sem] theorem wp_seq (a b:MCode):wp T (.seq a b) (kont T K k) st=wp T a (kont T K (.code b::k)) st:=by
 rw[←vt];rfl
@[go_sem] theorem wp_skip:wp T .skip (kont T K k) st=kont T K k .normal st:=_root_.id rfl
@[go_sem] theorem wp_ret:wp T .ret (kont T K k) st=kont T K k .ret st:=_root_.id rfl
@[go_sem] theorem wp_exit (id:Nat):wp T (.exit id) (kont T K k) st=kont T K k (.exit id) st:=_root_.id rfl
@[go_sem] theorem wp_block (id:Nat) (c:MCode):wp T (.block id c) (kont T K k) st=wp T c (kont T K (.inBlock id::k)) st:=by
 rw[←sW];rfl
def wpB (T:Tab) (K:bH→St→Prop) (k:List Todo) (m:MV) (a b:MCode) (st:St):Prop :=
 match m with
 | .dat (.bool t)=>if t=true then wp T a (kont T K k) st else wp T b (kont T K k) st
 | _=>False
@[go_sem] theorem wp_cond (c:Opd) (a b:MCode):wp T (.cond c a b) (kont T K k) st=wpB T K k (ev st.tm c) a b st:=_root_.id rfl
@[go_sem] theorem H9 (a b:MCode):wpB T K k (.dat (.bool true)) a b st=wp T a (kont T K k) st:=_root_.id rfl
@[go_sem] theorem GW (a b:MCode):wpB T K k (.dat (.bool false)) a b st=wp T b (kont T K k) st:=_root_.id rfl
def wpO (T:Tab) (K:bH→St→Prop) (k:List Todo) (l:List MI) (st:St):Prop:=wpr T (kont T K k .normal) l st
@[go_sem] theorem Tb (l:List MI):wp T (.ops l) (kont T K k) st=wpO T K k l st:=_root_.id rfl
@[go_sem] theorem SE:wpO T K k [] st=kont T K k .normal st:=_root_.id rfl
def wpG (T:Tab) (K:bH→St→Prop) (k:List Todo) (g:Option Bool) (i:MI) (r:List MI) (st:St):Prop :=
 match g with
 | none=>False
 | some g=>if g=true then cQ T (wpr T (kont T K k .normal) r) i st else wpO T K k r ⟨put st.tm i.dst .no,st.mem⟩
@[go_sem] theorem QZ (i:MI) (r:List MI):wpO T K k (i::r) st=wpG T K k (fT st.tm i.g) i r st:=_root_.id rfl
@[go_sem] theorem QT (i:MI) (r:List MI):wpG T K k (some true) i r st=cQ T (wpO T K k r) i st:=_root_.id rfl
@[go_sem] theorem Qj (i:MI) (r:List MI):wpG T K k (some false) i r st=wpO T K k r ⟨put st.tm i.dst .no,st.mem⟩:=_root_.id rfl
def AE (T:Tab) (K:bH→St→Prop) (k:List Todo) (n:Nat) (l:List MI) (c:List (List Nat)) (rec:Rec) (st:St):Prop:=tp T (kont T K k .normal) n l c rec st
@[go_sem] theorem SG (l:List MI) (c:List (List Nat)):wp T (.opsD l c) (kont T K k) st=AE T K k 0 l c (fun _=>none) st:=_root_.id rfl
@[go_sem] theorem Rr (n:Nat) (c:List (List Nat)) (rec:Rec):AE T K k n [] c rec st=kont T K k .normal st:=_root_.id rfl
def pq (T:Tab) (K:bH→St→Prop) (k:List Todo) (n:Nat) (g:Option Bool) (i:MI) (r:List MI) (c:List (List Nat)) (rec:Rec) (st:St):Prop :=
 match g with
 | none=>False
 | some g=>if g=true then (match iK T st.mem st.tm i.op with
    | some (m,e)=>Fy rec (wrs i.op,foot st.tm i.op) (c.headD [])=true∧AE T K k (n+1) r c.tail (su rec n (wrs i.op,foot st.tm i.op)) ⟨put st.tm i.dst m,ig st.mem e⟩
    | none=>False) else AE T K k (n+1) r c.tail rec ⟨put st.tm i.dst .no,st.mem⟩
@[go_sem] theorem Qm (n:Nat) (i:MI) (r:List MI) (c:List (List Nat)) (rec:Rec):AE T K k n (i::r) c rec st=pq T K k n (fT st.tm i.g) i r c rec st:=_root_.id rfl
def Rk (T:Tab) (K:bH→St→Prop) (k:List Todo) (n:Nat) (x:Option (MV × Option (Key × Nat × List MV))) (i:MI) (r:List MI) (c:List (List Nat)) (rec:Rec) (st:St):Prop :=
 match x with
 | some (m,e)=>Fy rec (wrs i.op,foot st.tm i.op) (c.headD [])=true∧AE T K k (n+1) r c.tail (su rec n (wrs i.op,foot st.tm i.op)) ⟨put st.tm i.dst m,ig st.mem e⟩
 | none=>False
@[go_sem] theorem PE (n:Nat) (i:MI) (r:List MI) (c:List (List Nat)) (rec:Rec):pq T K k n (some true) i r c rec st=Rk T K k n (iK T st.mem st.tm i.op) i r c rec st:=_root_.id rfl
@[go_sem] theorem ND (n:Nat) (i:MI) (r:List MI) (c:List (List Nat)) (rec:Rec):pq T K k n (some false) i r c rec st=AE T K k (n+1) r c.tail rec ⟨put st.tm i.dst .no,st.mem⟩:=_root_.id rfl
@[go_sem] theorem P5 (n:Nat) (m:MV) (e:Option (Key × Nat × List MV)) (i:MI) (r:List MI) (c:List (List Nat)) (rec:Rec):Rk T K k n (some (m,e)) i r c rec st =
 (Fy rec (wrs i.op,foot st.tm i.op) (c.headD [])=true∧AE T K k (n+1) r c.tail (su rec n (wrs i.op,foot st.tm i.op)) ⟨put st.tm i.dst m,ig st.mem e⟩):=_root_.id rfl
end
section
variable {T:Tab} {K:St→Prop} {st:St} {tm:Nat→MV} {mem:Mem}
def wpS (K:St→Prop) (x:Option (MV × Option (Key × Nat × List MV))) (d:Option Nat) (st:St):Prop :=
 match x with
 | some (m,e)=>K ⟨put st.tm d m,ig st.mem e⟩
 | none=>False
@[go_sem] theorem Sb (m:MV) (e:Option (Key × Nat × List MV)) (d:Option Nat):wpS K (some (m,e)) d st=K ⟨put st.tm d m,ig st.mem e⟩:=_root_.id rfl
variable (d:Option Nat) (g:Option (Nat × Bool))
@[go_sem] theorem SK (x:Opd):cQ T K ⟨d,g,.mv x⟩ st=K ⟨put st.tm d (ev st.tm x),st.mem⟩:=_root_.id rfl
@[go_sem] theorem PJ (c a b:Opd):cQ T K ⟨d,g,.pick c a b⟩ st=wpS K (sop st.mem st.tm (.pick c a b)) d st:=_root_.id rfl
@[go_sem] theorem O6 (k:Key) (z:List MV):cQ T K ⟨d,g,.alloc k z⟩ st=K ⟨put st.tm d (.ptr k (aD st.mem k) 0),aA st.mem k (aD st.mem k) z⟩:=_root_.id rfl
@[go_sem] theorem Qz (k:Key) (x:Opd):cQ T K ⟨d,g,.box k x⟩ st=wpS K (sop st.mem st.tm (.box k x)) d st:=_root_.id rfl
@[go_sem] theorem OP (z:List MV) (ps:List (Nat × Nat × Opd)):cQ T K ⟨d,g,.build z ps⟩ st=wpS K (sop st.mem st.tm (.build z ps)) d st:=_root_.id rfl
@[go_sem] theorem QO (k:Key) (o:Bool) (z:List MV) (sz len:Nat) (ps:List (Nat × Nat × Opd)):cQ T K ⟨d,g,.bsl k o z sz len ps⟩ st=wpS K (sop st.mem st.tm (.bsl k o z sz len ps)) d st:=_root_.id rfl
@[go_sem] theorem Qa (n:Nat) (ag:Bool) (x:Opd):cQ T K ⟨d,g,.load n ag x⟩ st=wpS K (sop st.mem st.tm (.load n ag x)) d st:=_root_.id rfl
@[go_sem] theorem NF (n:Nat) (x v:Opd):cQ T K ⟨d,g,.store n x v⟩ st=wpS K (sop st.mem st.tm (.store n x v)) d st:=_root_.id rfl
@[go_sem] theorem QN (op:BinOp) (x y:Opd):cQ T K ⟨d,g,.bin op x y⟩ st=wpS K (sop st.mem st.tm (.bin op x y)) d st:=_root_.id rfl
@[go_sem] theorem Rs (b:Bool) (n:List Nat) (x y:Opd):cQ T K ⟨d,g,.eqs b n x y⟩ st=wpS K (sop st.mem st.tm (.eqs b n x y)) d st:=_root_.id rfl
@[go_sem] theorem QP (b:Bool) (x y:Opd):cQ T K ⟨d,g,.beq b x y⟩ st=wpS K (sop st.mem st.tm (.beq b x y)) d st:=_root_.id rfl
@[go_sem] theorem Sd (op:UnOp) (x:Opd):cQ T K ⟨d,g,.un op x⟩ st=wpS K (sop st.mem st.tm (.un op x)) d st:=_root_.id rfl
@[go_sem] theorem P2 (k:IntKind) (x:Opd):cQ T K ⟨d,g,.conv k x⟩ st=wpS K (sop st.mem st.tm (.conv k x)) d st:=_root_.id rfl
@[go_sem] theorem Pv (x:Opd):cQ T K ⟨d,g,.nchk x⟩ st=wpS K (sop st.mem st.tm (.nchk x)) d st:=_root_.id rfl
@[go_sem] theorem P6 (k:Key) (z:List MV) (b:Nat) (x y:Opd):cQ T K ⟨d,g,.mksl k z b x y⟩ st=wpS K (sop st.mem st.tm (.mksl k z b x y)) d st:=_root_.id rfl
@[go_sem] theorem QS (o:Nat) (x:Opd):cQ T K ⟨d,g,.fad o x⟩ st=wpS K (sop st.mem st.tm (.fad o x)) d st:=_root_.id rfl
@[go_sem] theorem RK (o n:Nat) (ag:Bool) (x:Opd):cQ T K ⟨d,g,.fld o n ag x⟩ st=wpS K (sop st.mem st.tm (.fld o n ag x)) d st:=_root_.id rfl
@[go_sem] theorem QW (s:Nat) (x i:Opd):cQ T K ⟨d,g,.iad s x i⟩ st=wpS K (sop st.mem st.tm (.iad s x i)) d st:=_root_.id rfl
@[go_sem] theorem PI (n s:Nat) (x i:Opd):cQ T K ⟨d,g,.iada n s x i⟩ st=wpS K (sop st.mem st.tm (.iada n s x i)) d st:=_root_.id rfl
@[go_sem] theorem PW (x i:Opd):cQ T K ⟨d,g,.idxs x i⟩ st=wpS K (sop st.mem st.tm (.idxs x i)) d st:=_root_.id rfl
@[go_sem] theorem Rm (s:Nat) (x:Opd) (a b c:Option Opd):cQ T K ⟨d,g,.slc s x a b c⟩ st=wpS K (sop st.mem st.tm (.slc s x a b c)) d st:=_root_.id rfl
@[go_sem] theorem Py (n s:Nat) (x:Opd) (a b c:Option Opd):cQ T K ⟨d,g,.slca n s x a b c⟩ st=wpS K (sop st.mem st.tm (.slca n s x a b c)) d st:=_root_.id rfl
@[go_sem] theorem Ps (x:Opd) (a b:Option Opd):cQ T K ⟨d,g,.slcs x a b⟩ st=wpS K (sop st.mem st.tm (.slcs x a b)) d st:=_root_.id rfl
@[go_sem] theorem Q8 (i:Nat) (x:Opd):cQ T K ⟨d,g,.ext i x⟩ st=wpS K (sop st.mem st.tm (.ext i x)) d st:=_root_.id rfl
@[go_sem] theorem RU (x:Opd):cQ T K ⟨d,g,.len x⟩ st=wpS K (sop st.mem st.tm (.len x)) d st:=_root_.id rfl
@[go_sem] theorem PX (x:Opd):cQ T K ⟨d,g,.lens x⟩ st=wpS K (sop st.mem st.tm (.lens x)) d st:=_root_.id rfl
@[go_sem] theorem Q9 (k:Key) (z:List MV) (b:Nat) (s x:Opd):cQ T K ⟨d,g,.app k z b s x⟩ st=wpS K (sop st.mem st.tm (.app k z b s x)) d st:=_root_.id rfl
@[go_sem] theorem QG (s:Nat) (x y:Opd):cQ T K ⟨d,g,.cpy s x y⟩ st=wpS K (sop st.mem st.tm (.cpy s x y)) d st:=_root_.id rfl
@[go_sem] theorem Sm (b:Bool) (x y:Opd):cQ T K ⟨d,g,.mm b x y⟩ st=wpS K (sop st.mem st.tm (.mm b x y)) d st:=_root_.id rfl
@[go_sem] theorem P0 (f:FuncId) (l:List Opd):cQ T K ⟨d,g,.mkfn f l⟩ st=wpS K (sop st.mem st.tm (.mkfn f l)) d st:=_root_.id rfl
def wpE (K:St→Prop) (x:Option Eff) (d:Option Nat) (st:St):Prop :=
 match x with
 | some (.same r)=>K ⟨put st.tm d (.dat r),st.mem⟩
 | some (.own _ es)=>K ⟨put st.tm d (.dat (.sl es)),st.mem⟩
 | some (.rel R)=>∀ r mem',R r mem'→K ⟨put st.tm d r,mem'⟩
 | some (.upd r k g i c)=>K ⟨put st.tm d (.dat r),aA st.mem k g ((fG st.mem k).set i c)⟩
 | none=>False
@[go_sem] theorem PM (f:FuncId) (l:List Opd):cQ T K ⟨d,g,.call f l⟩ st=wpE K (T f (l.map (ev st.tm)) st.mem) d st:=_root_.id rfl
@[go_sem] theorem Sl (r:Data) (k:Key) (g i:Nat) (c:MV):wpE K (some (.upd r k g i c)) d st=K ⟨put st.tm d (.dat r),aA st.mem k g ((fG st.mem k).set i c)⟩:=_root_.id rfl
@[go_sem] theorem Ra (r:Data):wpE K (some (.same r)) d st=K ⟨put st.tm d (.dat r),st.mem⟩:=_root_.id rfl
@[go_sem] theorem Sq (s:Nat) (es:List (List Data)):wpE K (some (.own s es)) d st=K ⟨put st.tm d (.dat (.sl es)),st.mem⟩:=_root_.id rfl
@[go_sem] theorem L9 (R:MV→Mem→Prop):wpE K (some (.rel R)) d st=∀ r mem',R r mem'→K ⟨put st.tm d r,mem'⟩:=_root_.id rfl
def wpV (T:Tab) (K:St→Prop) (m:MV) (args:List MV) (d:Option Nat) (st:St):Prop :=
 match m with
 | .clo g caps=>wpE K (T g (args++caps) st.mem) d st
 | .dat (.fn g ds)=>wpE K (T g (args++ds.map .dat) st.mem) d st
 | _=>False
@[go_sem] theorem N5 (f:Opd) (l:List Opd):cQ T K ⟨d,g,.callv f l⟩ st=wpV T K (ev st.tm f) (l.map (ev st.tm)) d st:=_root_.id rfl
@[go_sem] theorem SB (f:FuncId) (caps args:List MV):wpV T K (.clo f caps) args d st=wpE K (T f (args++caps) st.mem) d st:=_root_.id rfl
@[go_sem] theorem SV (f:FuncId) (ds:List Data) (args:List MV):wpV T K (.dat (.fn f ds)) args d st=wpE K (T f (args++ds.map .dat) st.mem) d st:=_root_.id rfl
def wpC (K:St→Prop) (x:Option Eff) (k:Key) (sz:Nat) (d:Option Nat) (st:St):Prop :=
 match x with
 | some (.own sz' es)=>if sz'=sz then K ⟨put st.tm d (.ref k (aD st.mem k) sz 0 es.length),aA st.mem k (aD st.mem k) (es.flatten.map .dat)⟩ else False
 | _=>False
@[go_sem] theorem NW (k:Key) (sz:Nat) (f:FuncId) (l:List Opd):cQ T K ⟨d,g,.callo k sz f l⟩ st=wpC K (T f (l.map (ev st.tm)) st.mem) k sz d st:=_root_.id rfl
@[go_sem] theorem Sx (k:Key) (sz:Nat) (es:List (List Data)):wpC K (some (.own sz es)) k sz d st=K ⟨put st.tm d (.ref k (aD st.mem k) sz 0 es.length),aA st.mem k (aD st.mem k) (es.flatten.map .dat)⟩:=by simp [wpC]
def wpN (K:St→Prop) (neg:Bool) (x:Option Bool) (d:Option Nat) (st:St):Prop :=
 match x with
 | some full=>∀ b:Bool,(full=true→b=false)→K ⟨put st.tm d (.dat (.bool (neg != b))),st.mem⟩
 | none=>False
@[go_sem] theorem NT (neg:Bool) (x:Opd):cQ T K ⟨d,g,.isnil neg x⟩ st=wpN K neg (uT (ev st.tm x)) d st:=_root_.id rfl
@[go_sem] theorem Q3 (neg full:Bool):wpN K neg (some full) d st=∀ b:Bool,(full=true→b=false)→K ⟨put st.tm d (.dat (.bool (neg != b))),st.mem⟩:=_root_.id rfl
end
section
variable {tm:Nat→MV} {mem:Mem}
@[go_sem] theorem ev_t (s:Nat):ev tm (.t s)=tm s:=_root_.id rfl
@[go_sem] theorem ev_c (m:MV):ev tm (.c m)=m:=_root_.id rfl
@[go_sem] theorem Rc (s:Nat) (m:MV):put tm (some s) m=upd tm s m:=_root_.id rfl
@[go_sem] theorem RV (m:MV):put tm none m=tm:=_root_.id rfl
@[go_sem] theorem S6 (s:Nat) (m:MV) (t:Nat):upd tm s m t=if t=s then m else tm t:=_root_.id rfl
@[go_sem] theorem ll (k:Key) (g:Nat) (cs:List MV) (j:Key):aA mem k g cs j=if j=k then some (g,cs) else mem j:=_root_.id rfl
@[go_sem] theorem Qd:ig mem none=mem:=_root_.id rfl
@[go_sem] theorem PR (k:Key) (g:Nat) (cs:List MV):ig mem (some (k,g,cs))=aA mem k g cs:=_root_.id rfl
def cL:Option (Nat × List MV)→Nat
 | none=>0
 | some (g,_)=>g+1
@[go_sem] theorem Q6 (k:Key):aD mem k=cL (mem k):=by unfold aD cL;rfl
@[go_sem] theorem O8:cL none=0:=_root_.id rfl
@[go_sem] theorem OQ (g:Nat) (cs:List MV):cL (some (g,cs))=g+1:=_root_.id rfl
@[go_sem] theorem S3 (k:Key):emp k=none:=_root_.id rfl
@[go_sem] theorem Nz:fT tm none=some true:=_root_.id rfl
def xW (m:MV) (b:Bool):Option Bool :=
 match m with
 | .dat (.bool t)=>some (t==b)
 | .no=>some false
 | _=>none
@[go_sem] theorem M4 (s:Nat) (b:Bool):fT tm (some (s,b))=xW (tm s) b:=_root_.id rfl
@[go_sem] theorem PY (b:Bool):xW .no b=some false:=_root_.id rfl
variable (op:MOp)
@[go_sem] theorem P4 (m:MV):iB (some m)=some (m,none):=_root_.id rfl
@[go_sem] theorem SU (x:Opd):sop mem tm (.mv x)=some (ev tm x,none):=_root_.id rfl
@[go_sem] theorem Qt (c a b:Opd):sop mem tm (.pick c a b)=iB (wJ (ev tm c) (ev tm a) (ev tm b)):=_root_.id rfl
@[go_sem] theorem Pc (a b:MV):wJ (.dat (.bool true)) a b=some a:=_root_.id rfl
@[go_sem] theorem Nd (a b:MV):wJ (.dat (.bool false)) a b=some b:=_root_.id rfl
@[go_sem] theorem Qi (k:Key) (z:List MV):sop mem tm (.alloc k z)=some (.ptr k (aD mem k) 0,some (k,aD mem k,z)):=_root_.id rfl
@[go_sem] theorem Se (k:Key) (x:Opd):sop mem tm (.box k x)=if (ev tm x).known=true then some (.ptr k (aD mem k) 0,some (k,aD mem k,(ev tm x).cells)) else none:=_root_.id rfl
@[go_sem] theorem PN (z:List MV) (ps:List (Nat × Nat × Opd)):sop mem tm (.build z ps)=iB ((fg (ev tm) z ps).map .agg):=_root_.id rfl
@[go_sem] theorem Sk (k:Key) (z:List MV) (sz len:Nat) (ps:List (Nat × Nat × Opd)):sop mem tm (.bsl k false z sz len ps)=iB (Ju z sz len (fg (ev tm) z ps)):=_root_.id rfl
@[go_sem] theorem R1 (k:Key) (z:List MV) (sz len:Nat) (ps:List (Nat × Nat × Opd)):sop mem tm (.bsl k true z sz len ps)=vV k (aD mem k) z sz len (fg (ev tm) z ps):=_root_.id rfl
@[go_sem] theorem Rn (n:Nat) (ag:Bool) (x:Opd):sop mem tm (.load n ag x)=iB (ka mem n ag (ev tm x)):=_root_.id rfl
@[go_sem] theorem PZ (n:Nat) (x v:Opd):sop mem tm (.store n x v)=lH mem n (ev tm x) (ev tm v).cells:=_root_.id rfl
@[go_sem] theorem SA (b:BinOp) (x y:Opd):sop mem tm (.bin b x y)=iB (J7 b (ev tm x) (ev tm y)):=_root_.id rfl
@[go_sem] theorem Sp (neg:Bool) (x y:Opd):sop mem tm (.beq neg x y)=iB (If neg (ev tm x) (ev tm y)):=_root_.id rfl
@[go_sem] theorem Sy (neg:Bool) (n:List Nat) (x y:Opd):sop mem tm (.eqs neg n x y)=iB (Ih neg n (ev tm x) (ev tm y)):=_root_.id rfl
@[go_sem] theorem S2 (u:UnOp) (x:Opd):sop mem tm (.un u x)=iB (unM u (ev tm x)):=_root_.id rfl
@[go_sem] theorem QX (k:IntKind) (x:Opd):sop mem tm (.conv k x)=iB (BL k (ev tm x)):=_root_.id rfl
@[go_sem] theorem Rl (x:Opd):sop mem tm (.nchk x)=iB (Aj (ev tm x)):=_root_.id rfl
@[go_sem] theorem Rb (k:Key) (z:List MV) (b:Nat) (x y:Opd):sop mem tm (.mksl k z b x y)=zo (idx (ev tm x)) (idx (ev tm y)) (ws k (aD mem k) z b):=_root_.id rfl
@[go_sem] theorem Sc (o:Nat) (x:Opd):sop mem tm (.fad o x)=iB (Ic o (ev tm x)):=_root_.id rfl
@[go_sem] theorem Sg (o n:Nat) (ag:Bool) (x:Opd):sop mem tm (.fld o n ag x)=iB (Km o n ag (ev tm x)):=_root_.id rfl
@[go_sem] theorem Sj (s:Nat) (x i:Opd):sop mem tm (.iad s x i)=iB (dE (idx (ev tm i)) fun n=>xn s n (ev tm x)):=_root_.id rfl
@[go_sem] theorem R3 (n s:Nat) (x i:Opd):sop mem tm (.iada n s x i)=iB (dE (idx (ev tm i)) fun m=>Ae n s m (ev tm x)):=_root_.id rfl
@[go_sem] theorem Qo (x i:Opd):sop mem tm (.idxs x i)=iB (dE (idx (ev tm i)) fun n=>AB n (ev tm x)):=_root_.id rfl
@[go_sem] theorem SH (s:Nat) (x:Opd) (lo hi:Option Opd):sop mem tm (.slc s x lo hi none)=iB (dE (iV 0 (lo.map (ev tm))) fun l=>dE (oO (ev tm x)) fun len=>dE (iV len (hi.map (ev tm))) fun h=>IL s l h (ev tm x)):=_root_.id rfl
@[go_sem] theorem Rg (s:Nat) (x h m:Opd) (lo:Option Opd):sop mem tm (.slc s x lo (some h) (some m)) =
 iB (dE (iV 0 (lo.map (ev tm))) fun l=>dE (idx (ev tm h)) fun h=>dE (idx (ev tm m)) fun m=>Br s l h m (ev tm x)):=_root_.id rfl
@[go_sem] theorem Qw (n s:Nat) (x:Opd) (lo hi:Option Opd):sop mem tm (.slca n s x lo hi none)=iB (dE (iV 0 (lo.map (ev tm))) fun l=>dE (iV n (hi.map (ev tm))) fun h=>se mem n s l h (ev tm x)):=_root_.id rfl
@[go_sem] theorem QM (x:Opd) (lo hi:Option Opd):sop mem tm (.slcs x lo hi)=iB (dE (iV 0 (lo.map (ev tm))) fun l=>dE (qC (ev tm x)) fun len=>dE (iV len (hi.map (ev tm))) fun h=>BO l h (ev tm x)):=_root_.id rfl
@[go_sem] theorem SF (i:Nat) (x:Opd):sop mem tm (.ext i x)=iB (H7 i (ev tm x)):=_root_.id rfl
@[go_sem] theorem Si (x:Opd):sop mem tm (.len x)=iB (dE (oO (ev tm x)) fun n=>some (.dat (.int .i64 n))):=_root_.id rfl
@[go_sem] theorem RI (x:Opd):sop mem tm (.lens x)=iB (dE (qC (ev tm x)) fun n=>some (.dat (.int .i64 n))):=_root_.id rfl
@[go_sem] theorem Sn (k:Key) (z:List MV) (b:Nat) (s x:Opd):sop mem tm (.app k z b s x)=pt mem k z b (ev tm s) (oN mem z.length (ev tm x)):=_root_.id rfl
@[go_sem] theorem Ss (s:Nat) (x y:Opd):sop mem tm (.cpy s x y)=uQ mem s (ev tm x) (oN mem s (ev tm y)):=_root_.id rfl
@[go_sem] theorem SZ (b:Bool) (x y:Opd):sop mem tm (.mm b x y)=iB (mmM b (ev tm x) (ev tm y)):=_root_.id rfl
@[go_sem] theorem Rh (f:FuncId) (l:List Opd):sop mem tm (.mkfn f l)=some (.clo f (l.map (ev tm)),none):=_root_.id rfl
@[go_sem] theorem Om (n:Nat) (f:Nat→Option MV):dE (some n) f=f n:=_root_.id rfl
@[go_sem] theorem NE (n m:Nat) (f:Nat→Nat→Out):zo (some n) (some m) f=f n m:=_root_.id rfl
def EV (n:Nat) (ag:Bool) (g off:Nat):Option (Nat × List MV)→Option MV
 | some (g',cs)=>if g'=g then (cut cs off n).bind (kR ag) else none
 | none=>none
@[go_sem] theorem P1 (n:Nat) (ag:Bool) (k:Key) (g off:Nat):ka mem n ag (.ptr k g off)=EV n ag g off (mem k):=by unfold ka EV;rfl
@[go_sem] theorem OU (n:Nat) (ag:Bool) (g off:Nat) (cs:List MV):EV n ag g off (some (g,cs))=(cut cs off n).bind (kR ag):=by simp [EV]
@[go_sem] theorem PB (n:Nat) (ag:Bool) (ds:List Data):ka mem n ag (.dat (.ptr ds))=(cut (ds.map .dat) 0 n).bind (kR ag):=_root_.id rfl
@[go_sem] theorem O9 (n:Nat) (k:Key) (g off:Nat) (v:List MV):lH mem n (.ptr k g off) v=tS n k g off v (mem k):=_root_.id rfl
@[go_sem] theorem Pp (cs:List MV):kR true cs=some (.agg cs):=_root_.id rfl
@[go_sem] theorem P3 (m:MV):kR false [m]=some m:=_root_.id rfl
@[go_sem] theorem Qh (cs:List MV):(MV.agg cs).cells=cs:=_root_.id rfl
@[go_sem] theorem Od (cs:List Data):(MV.dat (.agg cs)).cells=cs.map .dat:=_root_.id rfl
@[go_sem] theorem PC (k:IntKind) (n:Int):(MV.dat (.int k n)).cells=[.dat (.int k n)]:=_root_.id rfl
@[go_sem] theorem NI (b:Bool):(MV.dat (.bool b)).cells=[.dat (.bool b)]:=_root_.id rfl
@[go_sem] theorem Qf (l:List UInt8):(MV.dat (.str l)).cells=[.dat (.str l)]:=_root_.id rfl
@[go_sem] theorem RD (l:List (List Data)):(MV.dat (.sl l)).cells=[.dat (.sl l)]:=_root_.id rfl
@[go_sem] theorem NM (l:List Data):(MV.dat (.ptr l)).cells=[.dat (.ptr l)]:=_root_.id rfl
@[go_sem] theorem QK (f:FuncId) (l:List Data):(MV.dat (.fn f l)).cells=[.dat (.fn f l)]:=_root_.id rfl
@[go_sem] theorem Pt:MV.nil.cells=[.nil]:=_root_.id rfl
@[go_sem] theorem Qn (k:Key) (g s o l:Nat):(MV.ref k g s o l).cells=[.ref k g s o l]:=_root_.id rfl
@[go_sem] theorem PK (k:Key) (g o:Nat):(MV.ptr k g o).cells=[.ptr k g o]:=_root_.id rfl
@[go_sem] theorem Qc (f:FuncId) (l:List MV):(MV.clo f l).cells=[.clo f l]:=_root_.id rfl
@[go_sem] theorem Sw (k:IntKind) (n:Nat):idx (.dat (.int k (n:Int)))=some n:=by simp [idx]
@[go_sem] theorem idx_0 (k:IntKind):idx (.dat (.int k 0))=some 0:=_root_.id rfl
@[go_sem low] theorem Su (k:IntKind) (n:Int):idx (.dat (.int k n))=if 0≤n then some n.toNat else none:=_root_.id rfl
end
attribute [go_sem] HL If J7 unM BL Aj Ic Km xn Ae AB IL Br se Kq BO H7 mmM iV oO qC tS uQ AL ws vV Ju Ih lh yw fg splice cut chunk
 oK LI shI KP uT shut tO MV.one MV.known oN oS foot vM Am iy fG F7 eT wrs Fy iw su iK ax Ha gy
end Go.Mini
namespace Go.Mini
open Go
variable {P:Program} {A:Nat→Prop} {w:World} {B:Lay} {mem:Mem}
def OwnRes (w w':World) (O:Nat→Prop) (sz:Nat) (es:List (List Data)) (v:Value):Prop :=
 (∀ e∈es,e.length=sz)∧∃ a cap,v = .slice a es.length cap∧es.length≤cap∧cap≤maxLen ∧
  (cap=0∨∃ b vs T,a=some ⟨b,0,none⟩∧w.heap.size≤b∧w'.heap[b]?=some (.cells vs T (0,0))∧cap*sz≤vs.size ∧
   ∀ (i:Nat) (d:Data),es.flatten[i]?=some d→∃ u,vs[i]?=some u∧Den w' (fun b'=>O b'∨b'=b) d u)
def Jl (P:Program) (f:FuncId) (vs:List Value) (A:Nat→Prop) (w:World) (B:Lay) (mem:Mem):Eff→Prop
 | .same r=>Calls P f vs.toArray w fun e w'=>∃ v,e = .returned v∧Fr (fun _=>False) w w'∧Den w' (OA A B) r v
 | .own sz es=>Calls P f vs.toArray w fun e w'=>∃ v,e = .returned v∧Fr (fun _=>False) w w'∧OwnRes w w' (OA A B) sz es v
 | .rel R=>Calls P f vs.toArray w fun e w'=>∃ v r mem' B',e = .returned v∧StepOK A w B w' B' mem'∧VR w' (OA A B') B' r v∧R r mem'
 | .upd r k g i c=>Calls P f vs.toArray w fun e w'=>∃ v B',e = .returned v∧StepOK A w B w' B' (aA mem k g ((fG mem k).set i c))∧VR w' (OA A B') B' (.dat r) v
def Real (P : Program) (f : FuncId) : Prop := ∃ fn c, P.funcs[f]? = some fn ∧ fn.body = some c ∧ (fn.name == "runtime.NumGoroutine") = false
def ke (P:Program) (T:Tab):Prop:=∀ f args mem eff,T f args mem=some eff→Real P f ∧
 ∀ A w B vs,MemRel A w B mem→RL w (OA A B) B args vs→Jl P f vs A w B mem eff
theorem nh {f:FuncId} (h:Real P f) (args:Array Value):(callFunc f args).run P w = .ok (.enter f args) w:=by
 obtain⟨fn,c,hf,hb,hn⟩:=h;have h1 : fn.name ≠ "runtime.NumGoroutine" := by simpa using hn
 simp [callFunc,hf,h1,hb]
theorem Den.less {w:World} {O O':Nat→Prop} (h:∀ b,O' b→O b) {d:Data} {v:Value} (hd:Den w O d v):Den w O' d v :=
 hd.keep (TR _) fun b _ hb=>⟨rfl,fun hx=>hb (h b hx)⟩
theorem OwnRes.den {w w':World} {O:Nat→Prop} {sz:Nat} {es:List (List Data)} {v:Value} (hlt:∀ b,O b→b<w.heap.size) (h:OwnRes w w' O sz es v):Den w' O (.sl es) v:=by
 obtain⟨he,a,cap,rfl,h1,h2,h3⟩:=h;rcases h3 with rfl | ⟨b,vs,T,rfl,h4,h5,h6,h7⟩
 ·have:es=[]:=TZ (by omega)
  subst this;exact .sl0
 ·have hbl:b<w'.heap.size:=(Array.getElem?_eq_some_iff.1 h5).1
  refine .sl (sz:=sz) (fun i=>vs.getD i undef) h1 (by omega) hbl (fun ho=>by have:=hlt b ho;omega) he (fun i hi=>?_) fun i d hd=>?_
  ·have hlt:i<es.flatten.length:=by rw[iN he];exact hi
   obtain⟨u,hu,_⟩:=h7 i _ (TW hlt);rw[cell_of_row w' b _ vs T (0,0) h5,TS,Array.getD_eq_getD_getElem?,hu]
   rfl
  ·obtain⟨u,hu,hd⟩:=h7 i d hd
   rw[Array.getD_eq_getD_getElem?,hu];exact hd.less fun b h => .inl h
theorem A4 {w':World} {sz:Nat} {es:List (List Data)} {v:Value} (k:Key) (hmr:MemRel A w B mem) (f:Fr (fun _=>False) w w') (h:OwnRes w w' (OA A B) sz es v) :
  ∃ B',StepOK A w B w' B' (aA mem k (aD mem k) (es.flatten.map .dat))∧VR w' (OA A B') B' (.ref k (aD mem k) sz 0 es.length) v:=by
 obtain⟨he,a,cap,rfl,h1,h2,h3⟩:=h;have still:=StepOK.still hmr f;rcases h3 with rfl | ⟨b,vs,T,rfl,h4,h5,h6,h7⟩
 ·have:es=[]:=TZ (by omega)
  subst this;exact⟨_,still.trans (StepOK.virtual still.mr k),.ref (aX _ _ _) (TR _) ⟨_,0,rfl,h1,h2,.inl rfl⟩⟩
 ·have hbl:b<w'.heap.size:=(Array.getElem?_eq_some_iff.1 h5).1
  have hblk:∀ b',(⟨aD mem k,some b,vs.size⟩:Bk).blk=some b'→w.heap.size≤b'∨∃ e,B k=some e∧e.blk=some b':=fun b' hb'=>by
   cases hb'
   exact .inl h4
  have hfl:=iN he;have hmul:es.length*sz≤cap*sz:=T5 _ h1;have hold:∀ b',b'<w.heap.size→(∀ e,B k=some e→e.blk≠some b')→w'.heap[b']?=w.heap[b']?:=fun b' hb' _=>f.block b' hb' id
  have hg:∀ e,B k=some e→(⟨aD mem k,some b,vs.size⟩:Bk)=e∨e.g<(⟨aD mem k,some b,vs.size⟩:Bk).g:=fun e he => .inr (mi hmr k e he)
  refine⟨fx B k ⟨aD mem k,some b,vs.size⟩,⟨?_,Trans.change f.size hold hg hblk,⟨f.os,f.tape,f.output,f.size,fun b' hb' _=>f.block b' hb' id⟩,nj hblk⟩,?_⟩
  ·refine hmr.change' (e':=⟨aD mem k,some b,vs.size⟩) f.size hold hg hblk (fun h=>by cases h) fun b' hb'=>?_
   cases hb'
   refine⟨vs,T,h5,rfl,by rw[List.length_map,hfl];omega,fun i m hm=>?_⟩
   rw[T2,TU] at hm;obtain⟨d,hd,rfl⟩:=hm;obtain⟨u,hu,hden⟩:=h7 i d hd;refine⟨u,hu,.dat (hden.less fun b' hb'=>?_)⟩;rcases hb' with ⟨j,e,hj,hx⟩ | ha
   ·by_cases hjk:j=k
    ·subst hjk
     rw[aX] at hj
     cases hj
     cases hx;exact .inr rfl
    ·rw[aL B _ hjk] at hj
     exact .inl (.inl ⟨j,e,hj,hx⟩)
   ·exact .inl (.inr ha)
  ·exact .ref (aX _ _ _) (TR _) ⟨_,cap,rfl,h1,h2,.inr ⟨b,rfl,fun _=>⟨rfl,by simpa using h6⟩⟩⟩
end Go.Mini
namespace Go.Mini
open Go
variable {P:Program} {T:Tab} {A:Nat→Prop} {w0 w:World} {B0 B:Lay} {mem:Mem} {n:Nat}
structure Sim (n:Nat) (A:Nat→Prop) (w0:World) (B0:Lay) (a:Act) (st:St) (w:World) (B:Lay):Prop where
 ok:StepOK A w0 B0 w B st.mem
 tm:∀ s,VR w (OA A B) B (st.tm s) (a.eval (.tmp s))
 sz:a.tmps.size=n
 df:a.defers=[]
theorem Sim.rho {a:Act} {st:St} (h:Sim n A w0 B0 a st w B) (x:Operand) (y:Opd) (hx:bq x=some y):VR w (OA A B) B (ev st.tm y) (a.eval x):=by
 cases x<;>simp only[bq,Option.some.injEq,TU,reduceCtorEq] at hx
 ·subst hx
  exact h.tm _
 ·obtain⟨m,hm,rfl⟩:=hx
  exact Ls hm
 ·subst hx
  exact .clo (vs:=[]) rfl fun i d v h1=>by simp at h1
theorem vI {a:Act} {s:Nat} {v:Value} (h:s<a.tmps.size):(a.put (some s) v).eval (.tmp s)=v:=by
 simp [Act.eval,Act.put,h]
theorem Sim.put {a:Act} {st:St} {w':World} {B':Lay} {mem':Mem} {dst:Option Nat} {r:MV} {v:Value} (h:Sim n A w0 B0 a st w B) (hs:StepOK A w B w' B' mem') (hr:VR w' (OA A B') B' r v)
  (hd:dst.all (fun d=>decide (d<n))=true):Sim n A w0 B0 (a.put dst v) ⟨Mini.put st.tm dst r,mem'⟩ w' B':=by
 refine⟨h.ok.trans hs,fun s=>?_,?_,?_⟩
 ·cases dst with
  | none=>exact (h.tm s).keep hs.tr
  | some d =>
   simp only[Option.all_some,decide_eq_true_eq] at hd
   by_cases hsd:s=d
   ·subst hsd
    rw[vI (by rw[h.sz];exact hd)];simp only[Mini.put,upd,if_true];exact hr
   ·rw[Act.eval_put (fun d' h1 h2=>by cases h1;cases h2;exact hsd rfl)]
    simp only[Mini.put,upd,if_neg hsd];exact (h.tm s).keep hs.tr
 ·cases dst<;>simp [Act.put,h.sz]
 ·cases dst<;>simp [Act.put,h.df]
theorem rT {a:Act} {st:St} {ops:Array Oper} {o:Oper} {g:Option (Nat × Bool)} {b:Bool} (h:Sim n A w0 B0 a st w B) (hg:p9 ops o.guard=some g) (hb:fT st.tm g=some b) :
  Region.wanted o (yielded ops a.tmps)=b:=by
 unfold Region.wanted
 cases hgd:o.guard with
 | none =>
  rw[hgd] at hg;simp only[p9,Option.some.injEq] at hg;subst hg;simp only[fT,Option.some.injEq] at hb;exact hb
 | some p =>
  obtain⟨j,c⟩:=p;rw[hgd] at hg;simp only[p9] at hg
  split at hg
  ·rename_i s hs
   simp only[Option.some.injEq] at hg;subst hg;have hv:=h.tm s
   have hy:yielded ops a.tmps j=match a.eval (.tmp s) with | .bool b=>some b | _=>none:=by
    unfold yielded;rw[hs];simp only[Option.bind_some,Act.eval,Array.getD_eq_getD_getElem?]
    cases a.tmps[s]? with
    | none=>rfl
    | some v=>cases v<;>rfl
   simp only[fT] at hb;simp only[hy]
   split at hb
   ·rename_i t ht
    rw[ht] at hv
    cases hv with
    | dat hv =>
     generalize a.eval (.tmp s)=u at *
     cases hv;simp only[Option.some.injEq] at hb;subst hb
     cases t<;>cases c<;>simp
   ·rename_i ht
    rw[ht] at hv;generalize a.eval (.tmp s)=u at *
    cases hv;simp only[Option.some.injEq] at hb;subst hb
    rfl
   ·cases hb
  ·cases hg
theorem wF {kb:Nat} {own:List Nat} {dst:Option Nat} {ty:TypeId} {op:Op} {f:FuncId} {args:List Opd} (h:kL P kb own dst ty op=some (.call f args)) :
  ∃ c:Call,op = .call c∧c.callee = .value (.func f)∧c.args.toList.mapM bq=some args:=by
 cases op<;>simp only[kL,vi,qP] at h
 case call c =>
  refine⟨c,rfl,?_⟩;unfold nE at h
  (repeat' split at h)<;>simp_all [Uh,TU]
 all_goals ((repeat' split at h)<;>simp_all [Uh,TU])
theorem CX {kb:Nat} {own:List Nat} {dst:Option Nat} {ty:TypeId} {op:Op} {f:FuncId} {lo:Nat} {args:List Opd} (h:kL P kb own dst ty op=some (.callm lo f args)) :
  ∃ c:Call,op = .call c∧c.callee = .value (.func f)∧c.args.toList.mapM bq=some args:=by
 cases op<;>simp only[kL,vi,qP] at h
 case call c =>
  refine⟨c,rfl,?_⟩;unfold nE at h
  (repeat' split at h)<;>simp_all [Uh,TU]
  obtain⟨_,h1,_,rfl,rfl⟩:=h;exact⟨rfl,h1⟩
 all_goals ((repeat' split at h)<;>simp_all [Uh,TU])
theorem tF {kb:Nat} {own:List Nat} {dst:Option Nat} {ty:TypeId} {op:Op} {f:FuncId} {k:Key} {sz:Nat} {args:List Opd} (h:kL P kb own dst ty op=some (.callo k sz f args)) :
  ∃ c:Call,op = .call c∧c.callee = .value (.func f)∧c.args.toList.mapM bq=some args:=by
 cases op<;>simp only[kL,vi,qP] at h
 case call c =>
  refine⟨c,rfl,?_⟩;unfold nE at h
  (repeat' split at h)<;>simp_all [Uh,TU]
  obtain⟨_,_,_,_,_,h1,_,_,rfl,rfl⟩:=h;exact⟨rfl,h1⟩
 all_goals ((repeat' split at h)<;>simp_all [Uh,TU])
theorem CQ {kb:Nat} {own:List Nat} {dst:Option Nat} {ty:TypeId} {op:Op} {f:Opd} {args:List Opd} (h:kL P kb own dst ty op=some (.callv f args)) :
  ∃ (c:Call) (x:Operand),op = .call c∧c.callee = .value x∧bq x=some f∧c.args.toList.mapM bq=some args:=by
 cases op<;>simp only[kL,vi,qP] at h
 case call c =>
  refine⟨c,?_⟩;unfold nE at h
  (repeat' split at h)<;>simp_all [Uh,TU]
 all_goals ((repeat' split at h)<;>simp_all [Uh,TU])
theorem CB {kb:Nat} {own:List Nat} {dst:Option Nat} {ty:TypeId} {op:Op} {neg:Bool} {x:Opd} (h:kL P kb own dst ty op=some (.isnil neg x)) :
  ∃ (t e:TypeId) (y y':Operand) (z:TypeId),op = .binOp (if neg then .neq else .eql) t y y' z∧C2 y'=true∧P.underlying t=some (.slice e)∧bq y=some x:=by
 cases op<;>simp only[kL,vi,qP] at h
 case call c =>
  unfold nE at h
  (repeat' split at h)<;>simp_all [Uh,TU]
 case binOp bop t y y' z =>
  (repeat' split at h)<;>simp_all [Uh,TU]
  all_goals
   obtain⟨h1,rfl⟩:=h;exact⟨_,_,_,_,⟨rfl,rfl,rfl⟩,by assumption,by assumption,h1⟩
 all_goals ((repeat' split at h)<;>simp_all [Uh,TU])
end Go.Mini
namespace Go.Mini
open Go
variable {P:Program} {T:Tab} {A:Nat→Prop} {w0 w:World} {B0 B:Lay} {mem:Mem} {n:Nat}
theorem KZ {t e:TypeId} {y y':Operand} {m:MV} {u v:Value} {O:Nat→Prop} {full:Bool} (neg:Bool) (ht:P.underlying t=some (.slice e)) (hm:VR w O B m u) (hf:uT m=some full) (hv:v = .slice none 0 0) :
  ∃ b:Bool,(full=true→b=false)∧((do eqGuard (if neg then .neq else .eql) t y y' u v;binOp (if neg then .neq else .eql) t u v:Sem Value)).run P w = .ok (.bool (neg != b)) w:=by
 subst hv
 have shape:∃ a len cap,u = .slice a len cap∧(full=true→a.isNone=false):=by
  cases m<;>simp only[uT,reduceCtorEq] at hf
  case dat d =>
   cases d<;>simp only[uT,Option.some.injEq,reduceCtorEq] at hf
   cases hm with
   | dat hd =>
    cases hd with
    | sl0=>exact⟨_,_,_,rfl,fun h=>by cases hf;cases h⟩
    | sl=>exact⟨_,_,_,rfl,fun _=>rfl⟩
  case nil =>
   cases hm with
   | nil=>exact⟨_,_,_,rfl,fun h=>by cases hf;cases h⟩
  case ref k g sz off len =>
   cases hm with
   | ref he hg hr =>
    obtain⟨a,cap,rfl,h1,h2,h3⟩:=hr;refine⟨_,_,_,rfl,fun h=>?_⟩
    simp only[Option.some.injEq] at hf;subst hf;simp only[decide_eq_true_eq] at h;rcases h3 with h3 | ⟨b,rfl,_⟩
    ·omega
    ·rfl
 obtain⟨a,len,cap,rfl,hb⟩:=shape;refine⟨a.isNone,hb,?_⟩
 have he:∀ d,(Op.equalIn (d+1) t (.slice a len cap) (.slice none 0 0)).run P w = .ok a.isNone w:=fun d=>by
  unfold Op.equalIn;simp only[Sem.run_bind,run_underlying ht,Result.andThen_ok]
  cases a<;>rfl
 have heq:(Op.equal t (.slice a len cap) (.slice none 0 0)).run P w = .ok a.isNone w:=he 9999;rw[jC (by simp) (by simp)]
 cases neg
 ·simp only[Ui,if_false,Sem.run_bind,Sem.run_pure,Result.andThen_ok]
  show (do pure (Value.bool (←Op.equal t (.slice a len cap) (.slice none 0 0))):Sem Value).run P w=_;simp [heq]
 ·simp only[if_true,Sem.run_bind,Sem.run_pure,Result.andThen_ok]
  show (do pure (Value.bool (!(←Op.equal t (.slice a len cap) (.slice none 0 0)))):Sem Value).run P w=_;simp [heq]
structure Is (P:Program) (n kb:Nat) (own:List Nat) (ops:Array Oper) (o:Oper) (i:MI):Prop where
 dst:i.dst=o.dst
 guard:p9 ops o.guard=some i.g
 op:i.op=(kL P kb own o.dst o.type o.op).getD .bad
 lt:o.dst.all (fun d=>decide (d<n))=true
theorem Nn {kb:Nat} {own:List Nat} {ops:Array Oper} {o:Oper} {i:MI} (h:nQ P n kb own ops o=some i):Is P n kb own ops o i:=by
 unfold nQ at h
 split at h
 ·rename_i g hg
  split at h
  ·rename_i hlt
   cases h;exact⟨rfl,hg,rfl,hlt⟩
  ·cases h
 ·cases h
theorem By {K:St→Prop} {i:MI} {st:St} (h:cQ T K i st) :
  (∃ m e,sop st.mem st.tm i.op=some (m,e)∧K ⟨put st.tm i.dst m,ig st.mem e⟩) ∨
  (∃ f args,i.op = .call f args∧nt T K st i.dst f (args.map (ev st.tm))) ∨
  (∃ k sz f args es,i.op = .callo k sz f args∧T f (args.map (ev st.tm)) st.mem=some (.own sz es)∧K ⟨put st.tm i.dst (.ref k (aD st.mem k) sz 0 es.length),aA st.mem k (aD st.mem k) (es.flatten.map .dat)⟩) ∨
  (∃ f args,i.op = .callv f args∧((∃ g caps,ev st.tm f = .clo g caps∧nt T K st i.dst g (args.map (ev st.tm)++caps))∨(∃ g ds,ev st.tm f = .dat (.fn g ds)∧nt T K st i.dst g (args.map (ev st.tm)++ds.map .dat)))) ∨
  (∃ neg x full,i.op = .isnil neg x∧uT (ev st.tm x)=some full∧∀ b:Bool,(full=true→b=false)→K ⟨put st.tm i.dst (.dat (.bool (neg != b))),st.mem⟩):=by
 obtain⟨dst,g,op⟩:=i;unfold cQ at h
 split at h
 ·rename_i f args hop
  exact .inr (.inl ⟨f,args,hop,h⟩)
 ·rename_i k sz f args hop
  split at h
  ·rename_i sz' es he
   split at h
   ·rename_i hs
    subst hs;exact .inr (.inr (.inl ⟨k,_,f,args,es,hop,he,h⟩))
   ·cases h
  ·cases h
 ·rename_i f args hop
  refine .inr (.inr (.inr (.inl ⟨f,args,hop,?_⟩)))
  split at h
  ·rename_i g caps hf
   exact .inl ⟨g,caps,hf,h⟩
  ·rename_i g ds hf
   exact .inr ⟨g,ds,hf,h⟩
  ·cases h
 ·rename_i neg x hop
  split at h
  ·rename_i full hf
   exact .inr (.inr (.inr (.inr ⟨neg,x,full,hop,hf,h⟩)))
  ·cases h
 ·split at h
  ·rename_i m e he
   exact .inl ⟨m,e,he,h⟩
  ·cases h
theorem getD_some {α:Type} {x:Option α} {b c:α} (h:c=x.getD b) (hb:c≠b):x=some c:=by
 cases x with
 | none=>exact absurd h hb
 | some y=>simp at h;rw[h]
theorem Bl (hT:ke P T) {K:St→Prop} {a:Act} {st:St} {o:Oper} {Q:Exit→Act→World→Prop} {f:FuncId} {args:List MV} {vs:List Value} (h:Sim n A w0 B0 a st w B) (hlt:o.dst.all (fun d=>decide (d<n))=true)
  (hv:RL w (OA A B) B args vs) (hk:nt T K st o.dst f args) (hrun:Real P f→(execOp a.eval o).run P w = .ok (.enter f vs.toArray) w) :
  o.wp P a w (fun a' w'=>∃ st' B',K st'∧Sim n A w0 B0 a' st' w' B') Q:=by
 unfold nt at hk;unfold Oper.wp
 cases hTf:T f args st.mem with
 | none=>rw[hTf] at hk;exact hk.elim
 | some eff =>
  obtain⟨hreal,hspec⟩:=hT f args st.mem eff hTf;have hc:=hspec A w B vs h.ok.mr hv;rw[hTf] at hk;rw[hrun hreal]
  cases eff with
  | same r =>
   refine Calls.mono hc fun e w' he=>?_
   obtain⟨v,rfl,hfr,hd⟩:=he;exact⟨_,B,hk,h.put (.still h.ok.mr hfr) (.dat hd) hlt⟩
  | own sz es =>
   refine Calls.mono hc fun e w' he=>?_
   obtain⟨v,rfl,hfr,hd⟩:=he;refine⟨_,B,hk,h.put (.still h.ok.mr hfr) (.dat (hd.den fun b hb=>?_)) hlt⟩;rcases hb with hb | hb
   ·exact h.ok.mr.own_lt hb
   ·exact h.ok.mr.lt b hb
  | rel R =>
   refine Calls.mono hc fun e w' he=>?_
   obtain⟨v,r,mem',B',rfl,hs,hd,hR⟩:=he;exact⟨_,B',hk r mem' hR,h.put hs hd hlt⟩
  | upd r k g i c =>
   refine Calls.mono hc fun e w' he=>?_
   obtain⟨v,B',rfl,hs,hd⟩:=he;exact⟨_,B',hk,h.put hs hd hlt⟩
theorem JT {O:Nat→Prop} {m:MV} {u:Value} {g:FuncId} {caps:List MV} (hm:VR w O B m u) (h:m = .clo g caps∨∃ ds,m = .dat (.fn g ds)∧caps=ds.map .dat) :
  ∃ cs:List Value,u = .func (.func g) #[] cs.toArray∧RL w O B caps cs:=by
 rcases h with rfl | ⟨ds,rfl,rfl⟩
 ·cases hm with
  | clo hl hd=>exact⟨_,rfl,hl,hd⟩
 ·cases hm with
  | dat hd =>
   cases hd with
   | fn hl hd=>exact⟨_,rfl,RL.dat hl hd⟩
theorem JB (hT:ke P T) {K:St→Prop} {kb:Nat} {own:List Nat} {ops:Array Oper} {a:Act} {st:St} {o:Oper} {i:MI} {Q:Exit→Act→World→Prop} (h:Sim n A w0 B0 a st w B) (hi:Is P n kb own ops o i)
  (hk:cQ T K i st):o.wp P a w (fun a' w'=>∃ st' B',K st'∧Sim n A w0 B0 a' st' w' B') Q:=by
 have hop:=hi.op;rcases By hk with ⟨m,e,hs,hK⟩ | ⟨f,args,he,hK⟩ | ⟨k,sz,f,args,es,he,hTf,hK⟩ | ⟨f,args,he,hK⟩ | ⟨neg,x,full,he,hf,hK⟩
 ·have htr:kL P kb own o.dst o.type o.op=some i.op:=getD_some hop (by
   intro hb;rw[hb] at hs
   cases hs)
  obtain⟨nx,v,w',B',hrun,hnx,hst,hv⟩:=zG h.ok.mr h.rho htr hs;unfold Oper.wp;rw[hrun];rw[hi.dst] at hK;have hsim:=h.put hst hv hi.lt;rcases hnx with rfl | ⟨rfl,rfl⟩
  ·exact⟨_,B',hK,hsim⟩
  ·exact⟨_,B',hK,hsim⟩
 ·have htr:kL P kb own o.dst o.type o.op=some i.op:=getD_some hop (by rw[he];simp)
  rw[he] at htr;obtain⟨c,hc,hcal,hargs⟩:=wF htr;rw[hi.dst] at hK;refine Bl hT h hi.lt (gu h.rho hargs) hK fun hreal=>?_
  obtain⟨dst,op,type,pos,after,guard⟩:=o;simp only at hc;subst hc;obtain⟨callee,cargs,ats⟩:=c;simp only at hcal;subst hcal;simp only[execOp,resolve,Deferred.ofValue,Act.eval,invoke,Sem.run_bind,Sem.run_pure,Result.andThen_ok,nh hreal];rw[c9 cargs];simp
 ·have htr:kL P kb own o.dst o.type o.op=some i.op:=getD_some hop (by rw[he];simp)
  rw[he] at htr;obtain⟨c,hc,hcal,hargs⟩:=tF htr;rw[hi.dst] at hK;obtain⟨hreal,hspec⟩:=hT f _ st.mem _ hTf;have hcc:=hspec A w B _ h.ok.mr (gu h.rho hargs);have hlt:=hi.lt;obtain⟨dst,op,type,pos,after,guard⟩:=o;simp only at hc;subst hc;obtain⟨callee,cargs,ats⟩:=c;simp only at hcal hargs;subst hcal
  have hrun:(execOp a.eval ⟨dst,.call ⟨.value (.func f),cargs,ats⟩,type,pos,after,guard⟩).run P w = .ok (.enter f (cargs.toList.map a.eval).toArray) w:=by
   simp only[execOp,resolve,Deferred.ofValue,Act.eval,invoke,Sem.run_bind,Sem.run_pure,Result.andThen_ok,nh hreal];rw[c9 cargs];simp
  unfold Oper.wp;rw[hrun];refine Calls.mono hcc fun e w' hee=>?_
  obtain⟨v,rfl,hfr,hd⟩:=hee;obtain⟨B',hst,hv⟩:=A4 k h.ok.mr hfr hd;exact⟨_,B',hK,h.put hst hv hlt⟩
 ·have htr:kL P kb own o.dst o.type o.op=some i.op:=getD_some hop (by rw[he];simp)
  rw[he] at htr;obtain⟨c,x,hc,hcal,hx,hargs⟩:=CQ htr;rw[hi.dst] at hK;have hfx:=h.rho _ _ hx
  have main:∀ g caps,(ev st.tm f = .clo g caps∨∃ ds,ev st.tm f = .dat (.fn g ds)∧caps=ds.map .dat)→nt T K st o.dst g (args.map (ev st.tm)++caps)→o.wp P a w (fun a' w'=>∃ st' B',K st'∧Sim n A w0 B0 a' st' w' B') Q:=by
   intro g caps hg hK;obtain⟨cs,hu,hrl⟩:=JT hfx hg;refine Bl hT h hi.lt ((gu h.rho hargs).append hrl) hK fun hreal=>?_
   obtain⟨dst,op,type,pos,after,guard⟩:=o;simp only at hc;subst hc;obtain⟨callee,cargs,ats⟩:=c;simp only at hcal;subst hcal;simp only[execOp,resolve,hu,Deferred.ofValue,invoke,Sem.run_bind,Sem.run_pure,Result.andThen_ok,nh hreal];rw[c9 cargs];simp
  rcases hK with ⟨g,caps,hg,hK⟩ | ⟨g,ds,hg,hK⟩
  ·exact main g caps (.inl hg) hK
  ·exact main g _ (.inr ⟨ds,hg,rfl⟩) hK
 ·have htr:kL P kb own o.dst o.type o.op=some i.op:=getD_some hop (by rw[he];simp)
  rw[he] at htr;obtain⟨t,e,y,y',z,hc,hn,ht,hy⟩:=CB htr;rw[hi.dst] at hK
  have hyn:a.eval y' = .slice none 0 0:=by
   unfold C2 at hn
   split at hn
   ·rfl
   ·cases hn
  obtain⟨b,hb,hrun⟩:=KZ (y:=y) (y':=y') neg ht (h.rho _ _ hy) hf hyn;obtain⟨dst,op,type,pos,after,guard⟩:=o;simp only at hc;subst hc;unfold Oper.wp
  have:(execOp a.eval ⟨dst,.binOp (if neg then .neq else .eql) t y y' z,type,pos,after,guard⟩).run P w = .ok (.value (.bool (neg != b))) w:=by
   simp only[execOp];rw[Sem.run_bind,hrun]
   rfl
  rw[this];exact⟨_,B,hK b hb,h.put (.refl h.ok.mr) (.dat .bool) hi.lt⟩
end Go.Mini
namespace Go.Mini
open Go
variable {T:Tab}
theorem aR {tm tm':Nat→MV} {x:Opd} (h:∀ s∈dG x,tm s=tm' s):ev tm x=ev tm' x:=by
 cases x with
 | t s=>exact h s (by simp [dG])
 | c m=>rfl
theorem ra {tm tm':Nat→MV} {l:List Opd} (h:∀ s∈l.flatMap dG,tm s=tm' s):l.map (ev tm)=l.map (ev tm') :=
 Uj fun x hx=>aR fun s hs=>h s (List.mem_flatMap.2 ⟨x,hx,hs⟩)
theorem uv {tm tm':Nat→MV} {l:List Opd} (h:∀ s∈l.flatMap dG,tm s=tm' s):(l.map fun x=>shut (ev tm x))=l.map fun x=>shut (ev tm' x) :=
 Uj fun x hx=>by rw[aR fun s hs=>h s (List.mem_flatMap.2 ⟨x,hx,hs⟩)]
theorem jm {tm tm':Nat→MV} {x:Option Opd} (h:∀ s∈vA x,tm s=tm' s):x.map (ev tm)=x.map (ev tm'):=by
 cases x with
 | none=>rfl
 | some x =>
  cases x with
  | t s=>simp [ev,h s (by simp [vA])]
  | c m=>rfl
theorem oe {tm tm':Nat→MV}:∀ {ps:List (Nat × Nat × Opd)} (cs:List MV),(∀ s∈ps.flatMap (fun p=>dG p.2.2),tm s=tm' s)→fg (ev tm) cs ps=fg (ev tm') cs ps
 | [],_,_=>rfl
 | (o,s,x)::ps,cs,h=>by
  have h1:ev tm x=ev tm' x:=aR fun t ht=>h t (List.mem_flatMap.2 ⟨(o,s,x),by simp,ht⟩)
  simp only[fg,h1]
  split
  ·exact oe _ fun t ht=>h t (by simp only[List.flatMap_cons,Uk];exact .inr ht)
  ·rfl
theorem Og {mem:Mem} {tm tm':Nat→MV} {op:MOp} (h:∀ s∈opds op,tm s=tm' s):sop mem tm op=sop mem tm' op:=by
 cases op<;>simp only[opds,Uk] at h
 case mv x=>simp only[sop,qop,aR h]
 case pick c a b=>simp only[sop,qop,aR (fun s hs=>h s (.inl (.inl hs))),aR (fun s hs=>h s (.inl (.inr hs))),aR (fun s hs=>h s (.inr hs))]
 case alloc=>rfl
 case box k x=>simp only[sop,aR h]
 case build z ps=>simp only[sop,qop,oe _ h]
 case bsl k o z sz len ps=>cases o<;>simp only[sop,qop,oe _ h]
 case load n ag x=>simp only[sop,aR h]
 case store n x v=>simp only[sop,aR (fun s hs=>h s (.inl hs)),aR (fun s hs=>h s (.inr hs))]
 case bin o x y=>simp only[sop,qop,aR (fun s hs=>h s (.inl hs)),aR (fun s hs=>h s (.inr hs))]
 case beq o x y=>simp only[sop,qop,aR (fun s hs=>h s (.inl hs)),aR (fun s hs=>h s (.inr hs))]
 case eqs o l x y=>simp only[sop,qop,aR (fun s hs=>h s (.inl hs)),aR (fun s hs=>h s (.inr hs))]
 case isnil=>rfl
 case un o x=>simp only[sop,qop,aR h]
 case conv k x=>simp only[sop,qop,aR h]
 case nchk x=>simp only[sop,qop,aR h]
 case mksl k z b x y=>simp only[sop,aR (fun s hs=>h s (.inl hs)),aR (fun s hs=>h s (.inr hs))]
 case fad o x=>simp only[sop,qop,aR h]
 case fld o n ag x=>simp only[sop,qop,aR h]
 case iad s x i=>simp only[sop,qop,aR (fun s hs=>h s (.inl hs)),aR (fun s hs=>h s (.inr hs))]
 case iada n s x i=>simp only[sop,qop,aR (fun s hs=>h s (.inl hs)),aR (fun s hs=>h s (.inr hs))]
 case idxs x i=>simp only[sop,qop,aR (fun s hs=>h s (.inl hs)),aR (fun s hs=>h s (.inr hs))]
 case slc s x a b c =>
  have h1:=aR (fun s hs=>h s (.inl (.inl (.inl hs))))
  have h2:=jm (fun s hs=>h s (.inl (.inl (.inr hs))))
  have h3:=jm (fun s hs=>h s (.inl (.inr hs)));have h4:=jm (fun s hs=>h s (.inr hs))
  cases b<;>cases c<;>simp only[T4,Ul,Option.some.injEq] at h3 h4<;>simp only[sop,qop,T4,Ul,h1,h2,h3,h4]
 case slca n s x a b c =>
  have h1:=aR (fun s hs=>h s (.inl (.inl (.inl hs))))
  have h2:=jm (fun s hs=>h s (.inl (.inl (.inr hs))))
  have h3:=jm (fun s hs=>h s (.inl (.inr hs)))
  cases c<;>simp only[sop,qop,h1,h2,h3]
 case slcs x a b=>simp only[sop,qop,aR (fun s hs=>h s (.inl (.inl hs))),jm (fun s hs=>h s (.inl (.inr hs))),jm (fun s hs=>h s (.inr hs))]
 case ext i x=>simp only[sop,qop,aR h]
 case len x=>simp only[sop,qop,aR h]
 case lens x=>simp only[sop,qop,aR h]
 case app k z b s x=>simp only[sop,aR (fun s hs=>h s (.inl hs)),aR (fun s hs=>h s (.inr hs))]
 case cpy s d x=>simp only[sop,aR (fun s hs=>h s (.inl hs)),aR (fun s hs=>h s (.inr hs))]
 case mm o x y=>simp only[sop,qop,aR (fun s hs=>h s (.inl hs)),aR (fun s hs=>h s (.inr hs))]
 case call=>rfl
 case callo=>rfl
 case callv=>rfl
 case callm=>rfl
 case mkfn f l=>simp only[sop,qop,ra h]
 case bad=>rfl
theorem EW {mem:Mem} {tm tm':Nat→MV} {op:MOp} (h:∀ s∈opds op,tm s=tm' s):iK T mem tm op=iK T mem tm' op:=by
 cases op
 case call f l =>
  have:=uv (l:=l) (tm:=tm) (tm':=tm') (by simpa [opds] using h);simp only[iK,this]
 case callo k sz f l =>
  have:=uv (l:=l) (tm:=tm) (tm':=tm') (by simpa [opds] using h);simp only[iK,this]
 case callv=>rfl
 case isnil=>rfl
 case callm lo f l =>
  have:=ra (l:=l) (tm:=tm) (tm':=tm') (by simpa [opds] using h);simp only[iK,this]
 all_goals exact Og (mem:=mem) h
theorem Ez {tm tm':Nat→MV} {op:MOp} (h:∀ s∈opds op,tm s=tm' s):foot tm op=foot tm' op:=by
 cases op<;>simp only[opds,Uk] at h<;>try rfl
 case bsl k o z sz len ps=>cases o<;>rfl
 case load n ag x=>simp only[foot,aR h]
 case slca n s x a b c=>simp only[foot,aR (fun s hs=>h s (.inl (.inl (.inl hs))))]
 case store n x v=>simp only[foot,aR (fun s hs=>h s (.inl hs))]
 case app k z b s x=>simp only[foot,aR (fun s hs=>h s (.inl hs)),aR (fun s hs=>h s (.inr hs))]
 case cpy s d x=>simp only[foot,aR (fun s hs=>h s (.inl hs)),aR (fun s hs=>h s (.inr hs))]
 case callm lo f l=>simp only[foot,ra h]
theorem E9 {n:Nat} {m:MV} {Q:Key→Prop} (h:∀ x∈vM n m,Q x.key):∀ j∈eT m,Q j:=by
 cases m<;>simp_all [vM,eT,FK.key]
theorem AN {mem mem':Mem} {sz:Nat} {m:MV} (h:∀ k∈eT m,mem k=mem' k):oN mem sz m=oN mem' sz m:=by
 cases m<;>try rfl
 case dat d=>cases d<;>rfl
 simp only[oN];rw[h _ (by simp [eT])]
theorem Jv {mem mem':Mem} {k:Key} {z:List MV} {b:Nat} {m:MV} {row:Option (Nat × List MV)} (hk:mem k=mem' k) (h:∀ j∈eT m,mem j=mem' j):pt mem k z b m row=pt mem' k z b m row:=by
 cases m<;>cases row<;>try rfl
 ·simp only[pt,aD,hk]
 ·simp only[pt]
  rw[h _ (by simp [eT])]
theorem IX {mem mem':Mem} {sz:Nat} {m:MV} {row:Option (Nat × List MV)} (h:∀ j∈eT m,mem j=mem' j):uQ mem sz m row=uQ mem' sz m row:=by
 cases m<;>cases row<;>try rfl
 simp only[uQ];rw[h _ (by simp [eT])]
theorem Fv {mem mem':Mem} {n:Nat} {ag:Bool} {m:MV} (h:∀ j∈eT m,mem j=mem' j):ka mem n ag m=ka mem' n ag m:=by
 cases m<;>try rfl
 case dat d=>cases d<;>rfl
 simp only[ka];rw[h _ (by simp [eT])]
theorem CA {mem mem':Mem} {n:Nat} {m:MV} {v:List MV} (h:∀ j∈eT m,mem j=mem' j):lH mem n m v=lH mem' n m v:=by
 cases m<;>try rfl
 simp only[lH];rw[h _ (by simp [eT])]
theorem E6 {mem mem':Mem} {n s a b:Nat} {m:MV} (h:∀ j∈eT m,mem j=mem' j):se mem n s a b m=se mem' n s a b m:=by
 cases m<;>try rfl
 simp only[se];rw[h _ (by simp [eT])]
theorem Mz {mem mem':Mem} {tm:Nat→MV} {op:MOp} (h:∀ x∈foot tm op,mem x.key=mem' x.key):sop mem tm op=sop mem' tm op:=by
 have nx:∀ k,mem k=mem' k→aD mem k=aD mem' k:=fun k hk=>by simp only[aD,hk]
 cases op<;>try rfl
 case alloc k z=>simp only[sop,nx k (h (.wh k) (by simp [foot]))]
 case box k x=>simp only[sop,nx k (h (.wh k) (by simp [foot]))]
 case bsl k o z sz len ps =>
  cases o
  ·rfl
  ·simp only[sop,nx k (h (.wh k) (by simp [foot]))]
 case mksl k z b x y=>simp only[sop,nx k (h (.wh k) (by simp [foot]))]
 case load n ag x =>
  simp only[sop];rw[Fv (E9 (Q:=fun j=>mem j=mem' j) h)]
 case slca n s x a b c =>
  cases c
  ·simp only[sop]
   congr 2
   funext l
   congr 1
   funext hh
   exact E6 fun j hj=>h (.wh j) (by simp [foot,hj])
  ·rfl
 case store n x v =>
  simp only[sop];exact CA fun j hj=>h (.wh j) (by simp [foot,hj])
 case app k z b s x =>
  have h':∀ j,j=k∨j∈eT (ev tm s)∨j∈eT (ev tm x)→mem j=mem' j:=fun j hj=>h (.wh j) (by simpa [foot] using hj)
  simp only[sop,AN (sz:=z.length) (fun j hj=>h' j (.inr (.inr hj)))];exact Jv (h' k (.inl rfl)) fun j hj=>h' j (.inr (.inl hj))
 case cpy s d x =>
  have h':∀ j,j∈eT (ev tm d)∨j∈eT (ev tm x)→mem j=mem' j:=fun j hj=>h (.wh j) (by simpa [foot] using hj)
  simp only[sop,AN (sz:=s) (fun j hj=>h' j (.inr hj))];exact IX fun j hj=>h' j (.inl hj)
theorem zf {mem mem':Mem} {tm:Nat→MV} {op:MOp} (hc:∀ lo f l,op ≠ .callm lo f l) (h:∀ x∈foot tm op,mem x.key=mem' x.key):iK T mem tm op=iK T mem' tm op:=by
 cases op
 case call=>rfl
 case callo k sz f l =>
  have:aD mem k=aD mem' k:=by
   have:=h (.wh k) (by simp [foot]);simp only[FK.key] at this;simp only[aD,this]
  simp only[iK,this]
 case callm lo f l=>exact absurd rfl (hc lo f l)
 case callv=>rfl
 case isnil=>rfl
 all_goals exact Mz (mem:=mem) (mem':=mem') (tm:=tm) h
theorem oo {x:Option MV} {m:MV} {e:Option (Key × Nat × List MV)} (h:iB x=some (m,e)):e=none:=(zK h).2
theorem KV {mem:Mem} {tm:Nat→MV} {op:MOp} {m:MV} {e:Option (Key × Nat × List MV)} (h:sop mem tm op=some (m,e)):e=none∨(wrs op=true∧∃ k g cs,e=some (k,g,cs) ∧ .wh k∈foot tm op):=by
 cases op<;>try (first | exact .inl (oo h) | exact .inl (oo (x:=some _) h))
 case alloc k z =>
  simp only[sop,Option.some.injEq,Prod.mk.injEq] at h;exact .inr ⟨rfl,_,_,_,h.2.symm,by simp [foot]⟩
 case box k x =>
  simp only[sop] at h
  split at h<;>simp only[Option.some.injEq,Prod.mk.injEq,reduceCtorEq] at h
  exact .inr ⟨rfl,_,_,_,h.2.symm,by simp [foot]⟩
 case bsl k o z sz len ps =>
  cases o
  ·exact .inl (oo h)
  ·simp only[sop,vV] at h
   (repeat' split at h)<;>simp only[Option.some.injEq,Prod.mk.injEq,reduceCtorEq] at h
   exact .inr ⟨rfl,_,_,_,h.2.symm,by simp [foot]⟩
 case mksl k z b x y =>
  obtain⟨_,_,_,_,h⟩:=wE h;simp only[ws] at h
  split at h<;>simp only[Option.some.injEq,Prod.mk.injEq,reduceCtorEq] at h
  exact .inr ⟨rfl,_,_,_,h.2.symm,by simp [foot]⟩
 case slca n s x a b c =>
  cases c
  ·exact .inl (oo h)
  ·cases h
 case store n x v =>
  simp only[sop] at h
  cases hx:ev tm x<;>rw[hx] at h<;>simp only[lH,reduceCtorEq] at h
  simp only[tS] at h
  (repeat' split at h)<;>simp only[Option.some.injEq,Prod.mk.injEq,reduceCtorEq] at h
  exact .inr ⟨rfl,_,_,_,h.2.symm,by simp [foot,hx,eT]⟩
 case app k z b s x =>
  simp only[sop] at h
  cases hr:oN mem z.length (ev tm x)<;>cases hs:ev tm s<;>rw[hr,hs] at h<;>simp only[pt,reduceCtorEq] at h
  ·split at h<;>simp only[Option.some.injEq,Prod.mk.injEq,reduceCtorEq] at h
   exact .inr ⟨rfl,_,_,_,h.2.symm,by simp [foot]⟩
  ·simp only[lg] at h
   (repeat' split at h)<;>simp only[Option.some.injEq,Prod.mk.injEq,reduceCtorEq] at h
   exact .inr ⟨rfl,_,_,_,h.2.symm,by simp [foot,hs,eT]⟩
 case cpy s d x =>
  simp only[sop] at h
  cases hr:oN mem s (ev tm x)<;>cases hs:ev tm d<;>rw[hr,hs] at h<;>simp only[uQ,reduceCtorEq] at h
  simp only[AL] at h
  (repeat' split at h)<;>simp only[Option.some.injEq,Prod.mk.injEq,reduceCtorEq] at h
  exact .inr ⟨rfl,_,_,_,h.2.symm,by simp [foot,hs,eT]⟩
 all_goals cases h
theorem Ba {lo:Nat} {mem:Mem} {ms:List MV} {x:Option Eff} {m:MV} {e:Option (Key × Nat × List MV)} (h:F7 lo mem ms x=some (m,e)) :
  ∃ r k g i c cs,x=some (.upd r k g i c)∧mem k=some (g,cs)∧m = .dat r∧e=some (k,g,cs.set i c)∧Am lo ms=[.wr k i]:=by
 unfold F7 at h
 split at h
 ·rename_i k g off rest r k' g' i c
  split at h
  ·rename_i g0 cs hm
   split at h
   ·rename_i hc
    obtain⟨rfl,rfl,rfl⟩:=hc;simp only[Option.some.injEq,Prod.mk.injEq] at h;exact⟨r,_,_,_,c,cs,rfl,hm,h.1.symm,h.2.symm,rfl⟩
   ·cases h
  ·cases h
 ·cases h
theorem uV {mem:Mem} {tm:Nat→MV} {op:MOp} {m:MV} {e:Option (Key × Nat × List MV)} (h:iK T mem tm op=some (m,e)):e=none∨(wrs op=true∧∃ k g cs,e=some (k,g,cs)∧(.wh k∈foot tm op∨∃ i c cs0,foot tm op=[.wr k i]∧mem k=some (g,cs0)∧cs=cs0.set i c)):=by
 have pl:sop mem tm op=some (m,e)→e=none∨(wrs op=true∧∃ k g cs,e=some (k,g,cs)∧(.wh k∈foot tm op∨∃ i c cs0,foot tm op=[.wr k i]∧mem k=some (g,cs0)∧cs=cs0.set i c)):=fun h=>by
  rcases KV h with h | ⟨h1,k,g,cs,h2,h3⟩
  ·exact .inl h
  ·exact .inr ⟨h1,k,g,cs,h2,.inl h3⟩
 cases op
 case call f l =>
  simp only[iK] at h
  split at h<;>simp only[Option.some.injEq,Prod.mk.injEq,reduceCtorEq] at h
  ·exact .inl h.2.symm
  ·exact .inl h.2.symm
 case callo k sz f l =>
  simp only[iK] at h
  (repeat' split at h)<;>simp only[Option.some.injEq,Prod.mk.injEq,reduceCtorEq] at h
  exact .inr ⟨rfl,_,_,_,h.2.symm,.inl (by simp [foot])⟩
 case callv=>cases h
 case isnil=>cases h
 case callm lo f l =>
  obtain⟨r,k,g,i,c,cs,-,hm,-,he,hf⟩:=Ba h;exact .inr ⟨rfl,k,g,_,he,.inr ⟨i,c,cs,hf,hm,rfl⟩⟩
 all_goals exact pl h
theorem Gv {tm:Nat→MV} {op:MOp} {b:FK} (hb:b∈foot tm op):(∃ k,b = .wh k)∨(∃ n ag x k g off,op = .load n ag x∧ev tm x = .ptr k g off∧b = .rd k off (off+n))∨∃ lo f l,op = .callm lo f l:=by
 cases op
 case load n ag x =>
  simp only[foot] at hb
  cases hx:ev tm x<;>rw[hx] at hb<;>simp [vM] at hb
  ·exact .inl ⟨_,hb⟩
  ·exact .inr (.inl ⟨_,_,_,_,_,_,rfl,hx,hb⟩)
 case callm lo f l=>exact .inr (.inr ⟨_,_,_,rfl⟩)
 case bsl k o z sz len ps =>
  cases o<;>simp [foot] at hb
  exact .inl ⟨_,hb⟩
 all_goals
  simp [foot] at hb
  try first
   | exact .inl ⟨_,hb⟩
   | (rcases hb with ⟨k,_,h⟩ | ⟨k,_,h⟩<;>exact .inl ⟨k,h.symm⟩)
   | (rcases hb with h | ⟨k,_,h⟩ | ⟨k,_,h⟩<;>first | exact .inl ⟨_,h⟩ | exact .inl ⟨_,h.symm⟩)
   | (obtain⟨k,_,h⟩:=hb;exact .inl ⟨k,h.symm⟩)
theorem Lm {cs:List MV} {i off n:Nat} {c:MV} (h:i<off∨off+n≤i):cut (cs.set i c) off n=cut cs off n:=by
 unfold cut;rw[List.length_set]
 split
 ·congr 1
  rcases h with h | h
  ·rw[Um h]
  ·by_cases hi:i<off
   ·rw[Um hi]
   ·rw[List.drop_set,if_neg hi,List.take_set_of_le (by omega)]
 ·rfl
theorem In {mem:Mem} {k g i:Nat} {c:MV} {cs:List MV} {n:Nat} {ag:Bool} {k' g' off:Nat} (hm:mem k=some (g,cs)) (h:k'≠k∨i<off∨off+n≤i) :
  ka (aA mem k g (cs.set i c)) n ag (.ptr k' g' off)=ka mem n ag (.ptr k' g' off):=by
 by_cases hk:k'=k
 ·subst hk
  have h:=h.resolve_left (fun h=>h rfl);simp only[ka,aA,if_true,hm,Lm h]
 ·simp only[ka,aA,hk,if_false]
theorem Nu {mem:Mem} {tm:Nat→MV} {x y:MOp} {m:MV} {e:Option (Key × Nat × List MV)} (sx:iK T mem tm x=some (m,e)) (ha:iw (wrs x,foot tm x) (wrs y,foot tm y)=true):iK T (ig mem e) tm y=iK T mem tm y:=by
 rcases uV sx with rfl | ⟨hw,k,g,cs,rfl,hk⟩
 ·rfl
 ·have hall:∀ a∈foot tm x,∀ b∈foot tm y,iy a b=true:=by
   unfold iw at ha
   simpa [hw] using ha
  have hnc:∀ lo f l,y = .callm lo f l→foot tm y=[]:=by
   rintro lo f l rfl
   cases hb:foot tm (.callm lo f l) with
   | nil=>rfl
   | cons b r =>
    exfalso
    have hb':∃ k' i',b = .wr k' i':=by
     simp only[foot] at hb;unfold Am at hb
     split at hb
     ·cases hb
      exact⟨_,_,rfl⟩
     ·cases hb
    obtain⟨k',i',rfl⟩:=hb';have hm:FK.wr k' i'∈foot tm (.callm lo f l):=by rw[hb];exact Un
    rcases hk with hk | ⟨i,c,cs0,hf,_,_⟩
    ·have:=hall _ hk _ hm
     simp [iy] at this
    ·have:=hall (.wr k i) (by rw[hf];exact Un) _ hm
     simp [iy] at this
  by_cases hy:∃ lo f l,y = .callm lo f l
  ·obtain⟨lo,f,l,rfl⟩:=hy
   have h0:=hnc _ _ _ rfl;simp only[foot] at h0
   have hz:∀ mem' x',F7 lo mem' (l.map (ev tm)) x'=none:=by
    intro mem' x';unfold F7
    split
    ·rename_i heq
     rw[heq] at h0;simp [Am] at h0
    ·rfl
   simp only[iK,hz]
  ·have hc:∀ lo f l,y ≠ .callm lo f l:=fun lo f l h=>hy ⟨lo,f,l,h⟩
   rcases hk with hk | ⟨i,c,cs0,hf,hm,rfl⟩
   ·refine (zf hc fun b hb=>?_).symm
    have h1:=hall _ hk b hb
    have:b.key≠k:=by
     rintro rfl
     cases b<;>simp [iy,FK.key] at h1
    simp [ig,aA,this]
   ·have h1:=hall (.wr k i) (by rw[hf];exact Un)
    by_cases hl:∃ n ag z k' g' off,y = .load n ag z∧ev tm z = .ptr k' g' off
    ·obtain⟨n,ag,z,k',g',off,rfl,hz⟩:=hl
     have h2:=h1 (.rd k' off (off+n)) (by simp [foot,hz,vM]);simp only[iK,sop,hz,ig];rw[In hm];simp [iy] at h2;exact h2
    ·refine (zf hc fun b hb=>?_).symm
     exfalso
     rcases Gv hb with ⟨k',rfl⟩ | ⟨n,ag,z,k',g',off,h3,h4,_⟩ | ⟨lo,f,l,h3⟩
     ·have:=h1 _ hb
      simp [iy] at this
     ·exact hl ⟨n,ag,z,k',g',off,h3,h4⟩
     ·exact hc _ _ _ h3
theorem H6 {tm:Nat→MV} {op:MOp} (h:fX op=0):foot tm op=[]∧wrs op=false:=by
 cases op<;>simp_all [fX,wrs,foot]
 all_goals (rename_i b _ _ _ _;cases b<;>simp_all [wrs,foot])
theorem JY {op:MOp} (h:fX op=1):wrs op=false:=by
 cases op<;>simp_all [fX,wrs]
 all_goals (rename_i b _ _ _ _;cases b<;>simp_all [wrs])
end Go.Mini
namespace Go.Mini
open Go
variable {T:Tab} {conf:Nat→Nat→Bool}
def Exec (T:Tab) (conf:Nat→Nat→Bool) (i:Nat) (x:MI) (rec:Rec) (st:St) (rec':Rec) (st':St):Prop :=
 (fT st.tm x.g=some false∧rec'=rec∧st'=⟨put st.tm x.dst .no,st.mem⟩) ∨
 (fT st.tm x.g=some true∧∃ m e,iK T st.mem st.tm x.op=some (m,e)∧(∀ p q,conf p i=true→rec p=some q→iw q (wrs x.op,foot st.tm x.op)=true) ∧
  rec'=su rec i (wrs x.op,foot st.tm x.op)∧st'=⟨put st.tm x.dst m,ig st.mem e⟩)
theorem lb {tm:Nat→MV} {dst:Option Nat} {m:MV} {s:Nat} (h:dst≠some s):put tm dst m s=tm s:=by
 cases dst with
 | none=>rfl
 | some d =>
  have:s≠d:=fun e=>h (by rw[e])
  simp [put,this]
theorem I9 {tm:Nat→MV} {d d':Option Nat} {m m':MV} (h:∀ s,d=some s→d'≠some s):put (put tm d m) d' m'=put (put tm d' m') d m:=by
 funext s
 by_cases h1:d=some s
 ·rw[lb (h s h1)]
  subst h1;simp [put]
 ·rw[lb (dst:=d) h1]
  by_cases h2:d'=some s
  ·subst h2
   simp [put]
  ·rw[lb h2,lb h2,lb h1]
theorem pT {tm tm':Nat→MV} {g:Option (Nat × Bool)} (h:∀ s b,g=some (s,b)→tm s=tm' s):fT tm g=fT tm' g:=by
 cases g with
 | none=>rfl
 | some p =>
  obtain⟨s,b⟩:=p;simp only[fT,h s b rfl]
theorem r3 {x y:MI} (h:lR x y=true):(∀ d,x.dst=some d→d ∉ looks y)∧(∀ d,x.dst=some d→y.dst≠some d)∧(∀ d,y.dst=some d→d ∉ looks x):=by
 refine⟨fun d hd=>?_,fun d hd=>?_,fun d hd=>?_⟩<;>simp [lR,hd] at h
 ·exact h.1.1
 ·exact h.1.2
 ·exact h.2
theorem qM {x:MI} {s:Nat} (h:s∈opds x.op):s∈looks x:=by simp [looks,h]
theorem Eg {x:MI} {s:Nat} {b:Bool} (h:x.g=some (s,b)):s∈looks x:=by simp [looks,h]
theorem AI (a b:FK):iy a b=iy b a:=by
 have hc:∀ k k':Nat,(k==k')=(k'==k):=fun k k'=>BEq.comm
 cases a<;>cases b<;>first | rfl | (unfold iy;dsimp only;rw[hc])
theorem sk {a b:Bool × List FK} (h:iw a b=true):iw b a=true:=by
 unfold iw at *;simp only[Uo,Bool.not_eq_true',Bool.or_eq_false_iff,Up] at *;rcases h with ⟨h1,h2⟩ | h
 ·exact .inl ⟨h2,h1⟩
 ·exact .inr fun x hx y hy=>by rw[AI];exact h y hy x hx
theorem GV {mem:Mem} {e e':Option (Key × Nat × List MV)} (h:∀ j g cs j' g' cs',e=some (j,g,cs)→e'=some (j',g',cs')→j≠j'):ig (ig mem e) e'=ig (ig mem e') e:=by
 cases e with
 | none=>rfl
 | some p =>
  cases e' with
  | none=>rfl
  | some p' =>
   obtain⟨j,g,cs⟩:=p;obtain⟨j',g',cs'⟩:=p';have hne:=h _ _ _ _ _ _ rfl rfl
   funext k
   simp only[ig,aA]
   by_cases h1:k=j'
   ·by_cases h2:k=j
    ·exact absurd (h2.symm.trans h1) hne
    ·simp [h1,h2]
     intro h3;exact absurd h3.symm hne
   ·simp [h1]
def Passes (conf:Nat→Nat→Bool) (i j:Nat) (x y:MI):Prop:=conf i j=true∨kq (fX x.op) (fX y.op)=true
theorem C5 {i j:Nat} {x y:MI} {tm:Nat→MV} (h:Passes conf i j x y) (hc:conf i j=true→iw (wrs x.op,foot tm x.op) (wrs y.op,foot tm y.op)=true) :
  iw (wrs x.op,foot tm x.op) (wrs y.op,foot tm y.op)=true:=by
 rcases h with h | h
 ·exact hc h
 ·unfold kq at h
  simp only[Uo,Ud,beq_iff_eq] at h;rcases h with (h | h) | ⟨h1,h2⟩
  ·obtain⟨h1,h2⟩:=H6 (tm:=tm) h
   simp [iw,h1]
  ·obtain⟨h1,h2⟩:=H6 (tm:=tm) h
   simp [iw,h1]
  ·have h1:=JY h1
   have h2:=JY h2;simp [iw,h1,h2]
theorem Exec.comm {i j:Nat} {x y:MI} {rec rec1 rec2:Rec} {st st1 st2:St} (hij:i≠j) (hap:lR x y=true) (hp:Passes conf i j x y) (hsym:∀ a b,conf a b=conf b a) (hri:rec i=none)
  (h1:Exec T conf i x rec st rec1 st1) (h2:Exec T conf j y rec1 st1 rec2 st2):∃ recj stj,Exec T conf j y rec st recj stj∧Exec T conf i x recj stj rec2 st2:=by
 obtain⟨ha,hb,hc⟩:=r3 hap
 -- what one sees of the other's temporary: nothing
 have yg:∀ m,fT (put st.tm x.dst m) y.g=fT st.tm y.g:=fun m=>pT fun s b hs=>lb fun hd=>ha s hd (Eg hs)
 have yo:∀ mem m,iK T mem (put st.tm x.dst m) y.op=iK T mem st.tm y.op:=fun mem m=>EW fun s hs=>lb fun hd=>ha s hd (qM hs)
 have yf:∀ m,foot (put st.tm x.dst m) y.op=foot st.tm y.op:=fun m=>Ez fun s hs=>lb fun hd=>ha s hd (qM hs)
 have xg:∀ m,fT (put st.tm y.dst m) x.g=fT st.tm x.g:=fun m=>pT fun s b hs=>lb fun hd=>hc s hd (Eg hs)
 have xo:∀ mem m,iK T mem (put st.tm y.dst m) x.op=iK T mem st.tm x.op:=fun mem m=>EW fun s hs=>lb fun hd=>hc s hd (qM hs)
 have xf:∀ m,foot (put st.tm y.dst m) x.op=foot st.tm x.op:=fun m=>Ez fun s hs=>lb fun hd=>hc s hd (qM hs)
 have pc:∀ m m',put (put st.tm x.dst m) y.dst m'=put (put st.tm y.dst m') x.dst m:=fun m m'=>I9 hb
 rcases h1 with ⟨g1,rfl,rfl⟩ | ⟨g1,m1,e1,s1,c1,rfl,rfl⟩<;>rcases h2 with ⟨g2,rfl,rfl⟩ | ⟨g2,m2,e2,s2,c2,rfl,rfl⟩<;>simp only[yg,yo,yf] at *
 ·exact⟨_,_,.inl ⟨g2,rfl,rfl⟩,.inl ⟨by simp only[xg];exact g1,rfl,by simp only[pc]⟩⟩
 ·exact⟨_,_,.inr ⟨g2,m2,e2,s2,c2,rfl,rfl⟩,.inl ⟨by simp only[xg];exact g1,rfl,by simp only[pc]⟩⟩
 ·exact⟨_,_,.inl ⟨g2,rfl,rfl⟩,.inr ⟨by simp only[xg];exact g1,m1,e1,by simp only[xo];exact s1,by simp only[xf];exact c1,by simp only[xf],by simp only[pc]⟩⟩
 ·have hck:conf i j=true→iw (wrs x.op,foot st.tm x.op) (wrs y.op,foot st.tm y.op)=true:=fun h=>c2 i _ h (by simp [su])
  have hak:=C5 (tm:=st.tm) hp hck;have sy:iK T st.mem st.tm y.op=some (m2,e2):=by rw[←s2];exact (Nu s1 hak).symm
  have hcm:∀ j g cs j' g' cs',e1=some (j,g,cs)→e2=some (j',g',cs')→j≠j':=by
   rintro k g cs k' g' cs' rfl rfl rfl;rcases uV s1 with h | ⟨hw,k2,g2,cs2,h,h1⟩
   ·cases h
   ·cases h
    rcases uV sy with h | ⟨hw',k3,g3,cs3,h,h2⟩
    ·cases h
    ·cases h
     unfold iw at hak;simp only[hw,Bool.true_or,Bool.not_true,Bool.false_or,Up] at hak;rcases h1 with h1 | ⟨i,c,cs0,h1,_,_⟩<;>rcases h2 with h2 | ⟨i',c',cs0',h2,_,_⟩
     ·have:=hak _ h1 _ h2;simp [iy] at this
     ·have:=hak _ h1 (.wr k i') (by rw[h2];exact Un);simp [iy] at this
     ·have:=hak (.wr k i) (by rw[h1];exact Un) _ h2;simp [iy] at this
     ·have:=hak (.wr k i) (by rw[h1];exact Un) (.wr k i') (by rw[h2];exact Un);simp [iy] at this
  refine⟨_,_,.inr ⟨g2,m2,e2,sy,fun p q hpj hq=>?_,rfl,rfl⟩,.inr ⟨by simp only[xg];exact g1,m1,e1,?_,?_,?_,?_⟩⟩
  ·have hne:p≠i:=fun h=>by rw[h,hri] at hq;cases hq
   exact c2 p q hpj (by simp [su,hne,hq])
  ·simp only[xo]
   rw[←s1];exact Nu sy (sk hak)
  ·simp only[xf]
   intro p q hpi hq
   by_cases hpj:p=j
   ·subst hpj
    simp only[su,if_true,Option.some.injEq] at hq;subst hq;exact sk (hck (by rw[hsym];exact hpi))
   ·simp only[su,hpj,if_false] at hq
    exact c1 p q hpi hq
  ·simp only[xf]
   funext p
   simp only[su]
   by_cases h1:p=i
   ·subst h1;simp [hij]
   ·simp [h1]
  ·simp only[pc]
   rw[GV hcm]
end Go.Mini
