/- A part of the proof. -/
import Derived.Test.YtdbkjjoedjfmpaaM01
import Derived.Attr
set_option linter.unusedSimpArgs false
set_option linter.unusedVariables false
open Nat renaming add_mul → TI, one_mul → TJ, le_refl → TK, zero_add → TL, le_mul_of_pos_right → TO, eq_zero_or_pos → TR, mul_le_mul_right → TX, zero_le → TZ, add_zero → T1, min_eq_left → T4
open List renaming replicate → TM, getElem?_eq_getElem → TP, take_of_length_le → TQ, eq_nil_of_length_eq_zero → TS, getElem_mem → TT, getElem?_map → TU, getElem?_range → TV, length_append → TY, getElem?_take → T2, length_take → T3, getElem?_toArray → T5, all_eq_true → T6, mapM_cons → T8, map_congr_left → Ud, mem_append → Ue, mem_cons_self → Ug, drop_set_of_lt → Uh
open Option renaming map_eq_some_iff → TN, map_some → TW, pure_def → T9, bind_eq_bind → Ua, bind_eq_some_iff → Ub, map_none → Uf
open Bool renaming and_eq_true → T7, false_eq_true → Uc, or_eq_true → Ui
namespace Go.Mini
open Go
section
variable {P:Program} {A:Nat→Prop} {w:World} {B:Lay} {mem:Mem}
theorem kl (sz:Nat):∀ (n:Nat) (l:List Data),(chunk sz n l).length=n
 | 0,_=>rfl
 | n+1,l=>by simp [chunk,kl sz n]
theorem mM (sz:Nat):∀ (n:Nat) (l:List Data),l.length=n*sz→∀ e∈chunk sz n l,e.length=sz
 | 0,_,_,e,he=>by simp [chunk] at he
 | n+1,l,hl,e,he=>by
  have hmul:(n+1)*sz=n*sz+sz:=by rw[TI,TJ]
  simp only[chunk,List.mem_cons] at he;rcases he with rfl | he
  ·simp;omega
  ·exact mM sz n _ (by simp;omega) e he
theorem mW (sz:Nat):∀ (n:Nat) (l:List Data),l.length=n*sz→(chunk sz n l).flatten=l
 | 0,l,hl=>by simp at hl;simp [chunk,hl]
 | n+1,l,hl=>by
  have hmul:(n+1)*sz=n*sz+sz:=by rw[TI,TJ]
  simp only[chunk,List.flatten_cons];rw[mW sz n _ (by simp;omega),List.take_append_drop]
theorem vH {O:Nat→Prop} {m:MV} {d:Data} {v:Value} (h:nq m=some d) (hv:VR w O B m v):Den w O d v:=by
 unfold nq at h
 split at h<;>cases h
 ·cases hv with
  | dat h=>exact h
 ·cases hv with
  | nil=>exact .sl0
theorem K4 {ds:List Data} {vs:Array Value} {T:TypeId} {n sz:Nat} (hmr:MemRel A w B mem) (w':World) (hw:w'=w.alloc (.cells vs T)) (hl:ds.length=n*sz) (hv:vs.size=n*sz) (hm:n≤maxLen)
  (hd:∀ (i:Nat) (d:Data) (v:Value),ds[i]?=some d→vs[i]?=some v→Den w (OA A B) d v):Den w' (OA A B) (.sl (chunk sz n ds)) (.slice (some ⟨w.heap.size,0,none⟩) n n):=by
 have ok:StepOK A w B w' B mem:=by rw[hw];exact .still hmr ((Fr.refl _ _).alloc _)
 have hcl:=kl sz n ds
 have h:=Den.sl (w:=w') (O:=OA A B) (es:=chunk sz n ds) (b:=w.heap.size) (off:=0) (c:=n) (sz:=sz) (fun i=>vs.getD i undef) (by rw[hcl];exact TK _) (by rw[hcl];exact hm)
  (by rw[hw];simp) (fun ho=>by
   rcases ho with ho | ho
   ·have:=hmr.own_lt ho;omega
   ·have:=hmr.lt _ ho;omega) (mM sz n ds hl)
  (fun i hi=>by
   rw[hcl] at hi;rw[hw,TL];have:i<vs.size:=by omega
   simp [this])
  (fun i d hid=>by
   rw[mW sz n ds hl] at hid;have hlt:i<ds.length:=(List.getElem?_eq_some_iff.1 hid).1;have hlt2:i<vs.size:=by omega
   have:vs.getD i undef=vs[i]:=by simp [hlt2]
   simp only[this];exact (hd i d _ hid (Array.getElem?_eq_getElem hlt2)).trans ok.tr)
 rw[hcl] at h;exact h
theorem pU {t e:TypeId} {z r:List MV} {sz len:Nat} {ps:List (Nat × Operand)} {qs:List (Nat × Nat × Opd)} {ρ:Operand→Value} {tm:Nat→MV} {O:Nat→Prop} (ht:P.underlying t=some (.slice e)) (hz:fZ P e=some z)
  (hs:cK P e=some sz) (hzl:z.length=sz) (h0:0<sz) (hl:len*sz≤16777216) (hp:iZ (fun i=>some (i*sz,sz)) ps=some qs) (hρ:∀ x y,bo x=some y→VR w O B (ev tm y) (ρ x))
  (h:fq (ev tm) (TM len z).flatten qs=some r) :
  ∃ vs:Array Value,(Instr.buildSlice t len (ps.map fun p=>(p.1,ρ p.2)).toArray).run P w = .ok (.slice (some ⟨w.heap.size,0,none⟩) len len) (w.alloc (.cells vs e))∧RL w O B r vs.toList:=by
 obtain⟨i,zv,hi,hzv,hrl⟩:=iu (P:=P) (w:=w) (B:=B) (O:=O) hz;have hzs:zv.cells.size=sz:=by have:=hrl.1;simp at this;omega
 have hmade:=om (z:=zv.cells) (by omega) len;rw[hzs] at hmade;have hrep:=hrl.replicate (n:=len);rw[←hmade] at hrep;obtain⟨vs',hf,hr⟩:=p9 (place:=fun i=>some (i*sz,sz)) hρ ps qs _ r _ hp hrep h;refine⟨vs',?_,hr⟩;have hn:¬ (len*sz>2^24):=by omega
 by_cases hz0:len*sz=0
 ·have e0:((Array.range (len*sz)).map (zv.cells[· % sz]!))=#[]:=by rw[hz0];simp [Array.range_zero']
  have hf':Instr.fill (fun i=>some (i*sz,sz)) #[] (ps.map fun p=>(p.1,ρ p.2))=some vs':=by rw[←e0];exact hf
  simp only[Instr.buildSlice,Sem.run_bind,run_underlying ht,Result.andThen_ok,eK hs];rw[if_neg hn];simp only[hz0,if_true,Sem.run_bind,Sem.run_pure,Result.andThen_ok];simp [hf',newRow,Array.range_zero']
 ·simp only[Instr.buildSlice,Sem.run_bind,run_underlying ht,Result.andThen_ok,eK hs]
  rw[if_neg hn];simp only[hz0,if_false,Sem.run_bind,Sem.run_pure,Result.andThen_ok,ie hi hzv,hzs];simp [hf,newRow]
theorem Mw {t e:TypeId} {z:List MV} {sz len:Nat} {ps:List (Nat × Operand)} {qs:List (Nat × Nat × Opd)} {ρ:Operand→Value} {tm:Nat→MV} {r:MV} (hmr:MemRel A w B mem) (ht:P.underlying t=some (.slice e)) (hz:fZ P e=some z)
  (hs:cK P e=some sz) (hzl:z.length=sz) (h0:0<sz) (hl:len*sz≤16777216) (hp:iZ (fun i=>some (i*sz,sz)) ps=some qs) (hρ:∀ x y,bo x=some y→VR w (OA A B) B (ev tm y) (ρ x))
  (h:H7 (TM len z).flatten sz len (fq (ev tm) (TM len z).flatten qs)=some r) :
  ∃ v w',(Instr.buildSlice t len (ps.map fun p=>(p.1,ρ p.2)).toArray).run P w = .ok v w'∧StepOK A w B w' B mem∧VR w' (OA A B) B r v:=by
 unfold H7 at h
 split at h
 ·rename_i hlen
  cases hf:fq (ev tm) (TM len z).flatten qs with
  | none=>rw[hf] at h;cases h
  | some cs =>
   rw[hf] at h;simp only[TN] at h;obtain⟨ds,hds,rfl⟩:=h;obtain⟨vs,hrun,hrl⟩:=pU (P:=P) (B:=B) ht hz hs hzl h0 hl hp hρ hf;obtain⟨h1,h2⟩:=dk hds
   have hcl:cs.length=len*sz:=by
    have:∀ (qs:List (Nat × Nat × Opd)) (a r:List MV),fq (ev tm) a qs=some r→r.length=a.length:=by
     intro qs
     induction qs with
     | nil=>intro a r h;simp [fq] at h;rw[h]
     | cons q qs ih =>
      intro a r h;obtain⟨o,s,x⟩:=q;simp only[fq] at h
      split at h
      ·rename_i hc
       rw[ih _ _ h];unfold splice;simp;omega
      ·cases h
    rw[this _ _ _ hf,hlen]
   have hvs:vs.size=len*sz:=by have:=hrl.1;simp at this;omega
   refine⟨_,_,hrun,.still hmr ((Fr.refl _ _).alloc _),.dat (K4 hmr _ rfl (by omega) hvs ?_ fun i d v hd hv=>?_)⟩
   ·have:len≤len*sz:=TO _ h0
    unfold maxLen;omega
   ·have hlt:i<cs.length:=by have:=(List.getElem?_eq_some_iff.1 hd).1;omega
    have hci:=TP hlt;exact vH (h2 i _ d hci hd) (hrl.2 i _ v hci (by simpa using hv))
 ·cases h
theorem IT {t e:TypeId} {z:List MV} {sz len:Nat} {ps:List (Nat × Operand)} {qs:List (Nat × Nat × Opd)} {ρ:Operand→Value} {tm:Nat→MV} {r:MV} {ef:Option (Key × Nat × List MV)} (k:Key) (hmr:MemRel A w B mem) (ht:P.underlying t=some (.slice e)) (hz:fZ P e=some z)
  (hs:cK P e=some sz) (hzl:z.length=sz) (h0:0<sz) (hl:len*sz≤16777216) (hp:iZ (fun i=>some (i*sz,sz)) ps=some qs) (hρ:∀ x y,bo x=some y→VR w (OA A B) B (ev tm y) (ρ x))
  (h:vN k (aC mem k) (TM len z).flatten sz len (fq (ev tm) (TM len z).flatten qs)=some (r,ef)) :
  ∃ v w' B',(Instr.buildSlice t len (ps.map fun p=>(p.1,ρ p.2)).toArray).run P w = .ok v w'∧StepOK A w B w' B' (gN mem ef)∧VR w' (OA A B') B' r v:=by
 unfold vN at h
 split at h
 ·rename_i hlen
  cases hf:fq (ev tm) (TM len z).flatten qs with
  | none=>rw[hf] at h;cases h
  | some cs =>
   rw[hf] at h
   cases h;obtain⟨vs,hrun,hrl⟩:=pU (P:=P) (B:=B) ht hz hs hzl h0 hl hp hρ hf
   have hcl:cs.length=len*sz:=by
    have:∀ (qs:List (Nat × Nat × Opd)) (a r:List MV),fq (ev tm) a qs=some r→r.length=a.length:=by
     intro qs
     induction qs with
     | nil=>intro a r h;simp [fq] at h;rw[h]
     | cons q qs ih =>
      intro a r h;obtain⟨o,s,x⟩:=q;simp only[fq] at h
      split at h
      ·rename_i hc
       rw[ih _ _ h];unfold splice;simp;omega
      ·cases h
    rw[this _ _ _ hf,hlen]
   have hvs:vs.size=cs.length:=by have:=hrl.1;simp at this;omega
   refine⟨_,_,_,hrun,nX hmr w (Fr.refl _ _) rfl k vs e (by omega) (by rw[TQ (by simp;omega)];exact hrl),?_⟩
   have hmx:len≤maxLen:=by
    have:len≤len*sz:=TO _ h0;unfold maxLen;omega
   exact .ref (ba _ _ _) (TK _) ⟨_,len,rfl,TK _,hmx,.inr ⟨_,rfl,fun _=>⟨rfl,by simp only[TL];omega⟩⟩⟩
 ·cases h
theorem zN {m:MV} {sz n:Nat} {new:List MV} {v:Value} (hmr:MemRel A w B mem) (hv:VR w (OA A B) B m v) (h:oM mem sz m=some (n,new)) :
  ∃ a c vals,v = .slice a n c∧RL w (OA A B) B new vals∧vals.length=n*sz∧(0<n→∃ b off,a=some ⟨b,off,none⟩∧At w b off vals):=by
 unfold oM at h
 split at h
 ·split at h
  ·rename_i es hev
   cases h;have hev:=rT hev
   cases hv with
   | dat hd =>
    cases hd with
    | sl0=>exact⟨_,_,[],rfl,by simpa using RL.nil,by simp,fun h=>by simp at h⟩
    | @sl es b off c sz' val hl hm hb hO hsz hc hdd =>
     have hfl:=ja hev;rcases TR es.length with h0 | h0
     ·have:es=[]:=TS h0
      subst this;exact⟨_,_,[],rfl,by simpa using RL.nil,by simp,fun h=>by simp at h⟩
     ·have hszz:sz'=sz:=by
       have hm0:=TT (l:=es) (n:=0) h0;rw[←hsz _ hm0,hev _ hm0]
      subst hszz;refine⟨_,_,(List.range (es.length*sz')).map val,rfl,?_,by simp,fun _=>⟨b,off,rfl,fun j u hj=>?_⟩⟩
      ·refine RL.dat (by simp [hfl]) fun i d u h1 h2=>?_
       have hi:i<es.length*sz':=by have:=(List.getElem?_eq_some_iff.1 h1).1;omega
       rw[TU,TV hi] at h2;simp only[TW,Option.some.injEq] at h2;subst h2;exact hdd i d h1
      ·have hi:j<es.length*sz':=by have:=(List.getElem?_eq_some_iff.1 hj).1;simpa using this
       rw[TU,TV hi] at hj;simp only[TW,Option.some.injEq] at hj;subst hj;exact hc j hi
  ·cases h
 ·cases h
  cases hv with
  | nil=>exact⟨_,_,[],rfl,RL.nil,by simp,fun h=>by simp at h⟩
 ·rename_i k g sz' off len
  split at h
  ·rename_i hsz
   subst hsz
   split at h
   ·rename_i g' cs hk
    split at h
    ·rename_i hg
     subst hg;simp only[TN,Prod.mk.injEq] at h;obtain⟨part,hcut,rfl,rfl⟩:=h;obtain⟨hl,rfl,hn⟩:=lZ hcut
     cases hv with
     | ref he hg hr =>
      obtain⟨e,he',hge,hnn,hb⟩:=hmr.at_ hk;rw[he] at he'
      cases he'
      obtain⟨a,cap,rfl,h1,h2,h3⟩:=hr;rcases h3 with h3 | ⟨b,rfl,h4⟩
      ·have:len=0:=by omega
       subst this;exact⟨_,_,[],rfl,by simpa using RL.nil,by simp,fun h=>by omega⟩
      ·obtain⟨h5,h6⟩:=h4 hge.symm
       obtain⟨vs,T,hh,hz,hle,hrl⟩:=hb b h5;refine⟨_,_,((vs.toList.take cs.length).drop off).take (len*sz'),rfl,(hrl.drop off).take _,by have:=((hrl.drop off).take (len*sz')).1;omega,fun _=>⟨b,off,rfl,?_⟩⟩
       have:=(((At.row hh).take cs.length).add off).take (len*sz')
       simpa using this
    ·cases h
   ·cases h
  ·cases h
 ·cases h
theorem oE {sz n c:Nat} {a:Option Addr} {vals:List Value} (hl:vals.length=n*sz) (hat:0<n→∃ b off,a=some ⟨b,off,none⟩∧At w b off vals) (w':World) (hw:w'.heap=w.heap) :
  (Builtin.firstCells sz n (.slice a n c)).run P w' = .ok vals.toArray w':=by
 have hc:∀ p,w'.cell? p=w.cell? p:=fun p=>by simp [World.cell?,hw]
 rcases TR n with h0 | h0
 ·subst h0
  have:vals=[]:=TS (by simpa using hl);subst this
  cases a with
  | none=>simp [Builtin.firstCells]
  | some a=>simp [Builtin.firstCells,loadCells,loadCellsFrom]
 ·obtain⟨b,off,rfl,hat2⟩:=hat h0
  exact run_firstCells_some w' sz n _ n c vals hl fun j v hj=>by rw[i9,hc];exact hat2 j v hj
theorem RL.ones {O:Nat→Prop} {cs:List MV} {vs:List Value} (h:RL w O B cs vs) (h1:cs.all MV.one=true):∀ v∈vs,v.oneCell'=true:=by
 intro v hv;obtain⟨i,hi,hvi⟩:=List.getElem_of_mem hv;have hi':i<cs.length:=by rw[←h.1];exact hi
 have:=h.2 i _ _ (TP hi') (TP hi);rw[hvi] at this;exact ER this (List.all_eq_true.1 h1 _ (TT hi'))
theorem nW {t ty e:TypeId} {sz sLen sCap n c:Nat} {base a:Option Addr} {vals:List Value} (ht:P.underlying t=some (.slice e)) (hs:cK P e=some sz) (hroom:sLen+n≤sCap)
  (hf:(Builtin.firstCells sz n (.slice a n c)).run P w = .ok vals.toArray w) (w':World)
  (hst:∀ b,base=some b→(storeCells (b.add (sLen*sz)) vals).run P w = .ok () w') (hn:base=none→w'=w) :
  (Builtin.append_ #[t,t] ty #[.slice base sLen sCap,.slice a n c]).run P w = .ok (.slice base (sLen+n) sCap) w':=by
 simp only[cK,TN] at hs;obtain⟨i,hi,rfl⟩:=hs
 cases base with
 | none=>simp [Builtin.append_,run_underlying ht,sizeOf,typeInfo,hi,Builtin.lenOf,hroom,hf,hn rfl]
 | some b=>simp [Builtin.append_,run_underlying ht,sizeOf,typeInfo,hi,Builtin.lenOf,hroom,hf,hst b rfl]
theorem ya {t ty e:TypeId} {sz sLen sCap n c bytes:Nat} {base a:Option Addr} {olds vals:List Value} {i:TypeInfo} {z:Value} (ht:P.underlying t=some (.slice e)) (hi:P.info? e=some i) (hz:i.zero=some z) (hsz:i.size=sz) (hby:i.bytes=bytes)
  (hroom:sCap<sLen+n) (hfo:∀ w',w'.heap=w.heap→(Builtin.firstCells sz sLen (.slice base sLen sCap)).run P w' = .ok olds.toArray w') (hf:∀ w',w'.heap=w.heap→(Builtin.firstCells sz n (.slice a n c)).run P w' = .ok vals.toArray w')
  (h63:sLen+n≤maxLen) (hb:(sLen+n)*bytes≤140737488355328) :
  (Builtin.append_ #[t,t] ty #[.slice base sLen sCap,.slice a n c]).run P w =
   .ok (.slice (some ⟨w.heap.size,0,none⟩) (sLen+n) (grownCap w (sLen+n) sCap e))
    (w.drew.alloc (.cells (olds.toArray++vals.toArray++Builtin.zeroCells z.cells (grownCap w (sLen+n) sCap e-(sLen+n))) e)):=by
 subst hsz;subst hby
 have hn:¬ (sLen+n≤sCap):=by omega
 have h63':¬ (9223372036854775807<((sLen:Int)+(n:Int))):=by unfold maxLen at h63;omega
 have hfit:=growslice_fits hroom hb;have h48':¬ (281474976710656<Builtin.nextslicecap (sLen+n) sCap*i.bytes):=by omega
 have h1:=hfo w.drew rfl;have h2:=hf w.drew rfl;simp [Builtin.append_,run_underlying ht,sizeOf,typeInfo,zeroValue,hi,hz,Builtin.lenOf,hn,h63',h48',Question.forced,h1,h2,newRow,grownCap,←List.append_toArray,Array.append_assoc]
theorem LO {t ty e:TypeId} {z:List MV} {bytes n:Nat} {m1 m2:MV} {u1 u2:Value} {new:List MV} {r:MV} {ef:Option (Key × Nat × List MV)} (k:Key) (hmr:MemRel A w B mem) (ht:P.underlying t=some (.slice e)) (hz:fZ P e=some z) (hs:cK P e=some z.length)
  (hby:ri P e=some bytes) (h0:0<z.length) (r1:VR w (OA A B) B m1 u1) (r2:VR w (OA A B) B m2 u2) (hrow:oM mem z.length m2=some (n,new)) (h:pB mem k z bytes m1 (some (n,new))=some (r,ef)) :
  ∃ v w' B',(Builtin.append_ #[t,t] ty #[u1,u2]).run P w = .ok v w'∧StepOK A w B w' B' (gN mem ef)∧VR w' (OA A B') B' r v:=by
 obtain⟨a2,c2,vals,rfl,hrl,hvl,hat⟩:=zN hmr r2 hrow;obtain⟨i,zv,hi,hzv,hzrl⟩:=iu (P:=P) (w:=w) (B:=B) (O:=OA A B) hz;have hsz:=vM hi hs;have hbb:=uZ hi hby;have hzs:zv.cells.size=z.length:=by have:=hzrl.1;simp at this;omega
 have hnl:new.length=n*z.length:=by rw[←hrl.1,hvl]
 have hf:=fun w' hw=>oE (P:=P) (w:=w) (c:=c2) hvl hat w' hw
 -- a new block
 have grow:∀ (base:Option Addr) (len cap:Nat) (g:Nat) (k':Key) (cs:List MV) (olds:List Value),cap<len+n→(∀ w',w'.heap=w.heap→(Builtin.firstCells z.length len (.slice base len cap)).run P w' = .ok olds.toArray w') →
   RL w (OA A B) B cs olds→cs.length=len*z.length→len+n≤maxLen→(len+n)*bytes≤140737488355328→g=aC mem k' →
   ∃ v w' B',(Builtin.append_ #[t,t] ty #[.slice base len cap,.slice a2 n c2]).run P w = .ok v w'∧StepOK A w B w' B' (aB mem k' g (cs++new))∧VR w' (OA A B') B' (.ref k' g z.length 0 (len+n)) v:=by
  intro base len cap g k' cs olds hroom hfo hcs hcl hmax hbytes hg;subst hg;have hrun:=ya (P:=P) (ty:=ty) ht hi hzv hsz hbb hroom hfo hf hmax hbytes;have hge:=grownCap_ge w (len+n) cap e;have hle:=grownCap_le_maxLen w (len+n) cap e hmax
  have hsize:(olds.toArray++vals.toArray++Builtin.zeroCells zv.cells (grownCap w (len+n) cap e-(len+n))).size=grownCap w (len+n) cap e*z.length:=by
   have hol:=hcs.1;simp only[Array.size_append,List.size_toArray,size_zeroCells,hzs,hol,hcl,hvl];rw[←TI,←TI]
   congr 1
   omega
  have hall:=hcs.append hrl;have hmul:(len+n)*z.length≤grownCap w (len+n) cap e*z.length:=TX _ hge;have hcn:(cs++new).length=(len+n)*z.length:=by rw[TY,hcl,hnl,TI]
  refine⟨_,_,_,hrun,nX (cs:=cs++new) hmr w.drew ((Fr.refl _ _).drew _) rfl k' _ e (by rw[hsize,hcn];exact hmul) ?_,?_⟩
  ·have:(olds.toArray++vals.toArray++Builtin.zeroCells zv.cells (grownCap w (len+n) cap e-(len+n))).toList.take (cs++new).length=olds++vals:=by
    simp only[Array.toList_append,List.toList_toArray];rw[List.take_append_of_le_length (by rw[hall.1];exact TK _),TQ (by rw[hall.1];exact TK _)]
   rw[this];exact hall
  ·refine .ref (ba _ _ _) (TK _) ⟨_,_,rfl,hge,hle,.inr ⟨_,rfl,fun _=>⟨rfl,?_⟩⟩⟩
   simp only[TL];rw[hsize];exact TK _
 cases m1 with
 | nil =>
  simp only[pB] at h
  split at h
  ·rename_i hc
   obtain⟨hbytes,hmax,hone⟩:=hc
   cases h
   cases r1 with
   | @nil a1 =>
    rcases TR n with hn0 | hn0
    ·subst hn0
     have hv0:vals=[]:=TS (by simpa using hvl);have hnew0:new=[]:=TS (by simpa using hnl);subst hv0;subst hnew0
     refine⟨_,_,_,nW (P:=P) (ty:=ty) ht hs (TK _) (hf w rfl) w (fun b _=>by simp [storeCells]) (fun _=>rfl),StepOK.virtual hmr k,?_⟩;exact .ref (ba _ _ _) (TK _) ⟨_,0,rfl,TK _,TZ _,.inl rfl⟩
    ·have:=grow a1 0 0 (aC mem k) k [] [] (by omega) (fun w' hw=>by
      have:=oE (P:=P) (w:=w) (sz:=z.length) (n:=0) (c:=0) (a:=a1) (vals:=[]) (by simp) (fun h=>by omega) w' hw;exact this) RL.nil (by simp) (by omega) (by simpa using hbytes) rfl
     simpa [gN] using this
  ·cases h
 | ref k' g sz' off len =>
  simp only[pB] at h
  split at h
  ·rename_i hc
   obtain⟨rfl,rfl⟩:=hc;unfold jR at h
   split at h
   ·rename_i g' cs hk
    split at h
    ·rename_i hc
     obtain⟨rfl,hlen,hbytes,hmax,hone⟩:=hc
     cases h;obtain⟨ee,hee,hge,hnn,hb⟩:=hmr.at_ hk;have hnext:g'+1=aC mem k':=by simp [aC,hk]
     cases r1 with
     | ref he hg hr =>
      rw[hee] at he
      cases he;obtain⟨a1,cap,rfl,h1,h2,h3⟩:=hr
      have hold:∃ olds,RL w (OA A B) B (cs.take (len*z.length)) olds∧olds.length=len*z.length∧(0<len→∃ b off,a1=some ⟨b,off,none⟩∧At w b off olds):=by
       rcases h3 with h3 | ⟨b,rfl,h4⟩
       ·have:len=0:=by omega
        subst this;exact⟨[],by simpa using RL.nil,by simp,fun h=>by omega⟩
       ·obtain⟨h5,h6⟩:=h4 hge.symm
        obtain⟨vs,T,hh,hz',hle,hrl'⟩:=hb b h5;refine⟨(vs.toList.take cs.length).take (len*z.length),hrl'.take _,by have:=(hrl'.take (len*z.length)).1;rw[this];simp;omega,fun _=>⟨b,0,rfl,((At.row hh).take _).take _⟩⟩
      obtain⟨olds,ho1,ho2,ho3⟩:=hold
      by_cases hroom:len+n≤cap
      ·rcases h3 with h3 | ⟨b,rfl,h4⟩
       ·-- no room, and nothing comes
        have hl0:len=0:=by omega
        have hn0:n=0:=by omega
        subst hl0;subst hn0;subst h3
        have hv0:vals=[]:=TS (by simpa using hvl);have hnew0:new=[]:=TS (by simpa using hnl);subst hv0;subst hnew0
        refine⟨_,_,eY B k' ⟨aC mem k',none,0⟩,nW (P:=P) (ty:=ty) ht hs (TK _) (hf w rfl) w (fun b _=>by simp [storeCells]) (fun _=>rfl),?_,?_⟩
        ·have:=StepOK.virtual hmr k'
         simpa [gN,hnext] using this
        ·rw[hnext]
         exact .ref (ba _ _ _) (TK _) ⟨_,0,rfl,TK _,TZ _,.inl rfl⟩
       ·obtain⟨h5,h6⟩:=h4 hge.symm
        obtain⟨vs,T,hh,hz',hle,hrl'⟩:=hb b h5;have hmul:(len+n)*z.length≤cap*z.length:=TX _ hroom;have hsplit:(len+n)*z.length=len*z.length+n*z.length:=TI _ _ _;have hst:=run_storeCells_at P b (len*z.length) T vals 0 vs w hh (by omega) (hrl.ones hone);simp only[T1] at hst
        have hol:olds=vs.toList.take (len*z.length):=by
         apply List.ext_getElem?;intro j;rcases Nat.lt_or_ge j (len*z.length) with hj | hj
         ·have hpos:0<len:=by
           rcases TR len with h | h
           ·subst h;simp at hj
           ·exact h
          obtain⟨b',off',hbe,hat'⟩:=ho3 hpos;simp only[Option.some.injEq,Addr.mk.injEq,and_true] at hbe;obtain⟨rfl,rfl⟩:=hbe;have hj2:j<olds.length:=by omega
          have hcell:=hat' j _ (TP hj2);rw[TL,cell_of_row w b j vs T (0,0) hh] at hcell;rw[TP hj2,T2,if_pos hj,←hcell,Array.getElem?_toList]
         ·rw[List.getElem?_eq_none (by omega),T2,if_neg (by omega)]
        have hcell':(vs.toList.take (len*z.length)++vals++vs.toList.drop (len*z.length+vals.length)).toArray.size=ee.size:=by
         simp;omega
        have f:Fr (fun b=>∃ e,B k'=some e∧e.blk=some b) w (w.setRow b (vs.toList.take (len*z.length)++vals++vs.toList.drop (len*z.length+vals.length)).toArray):=by
         refine⟨rfl,rfl,rfl,by simp,fun j hj ho=>?_⟩
         exact setRow_other w b j _ (fun hjb=>ho ⟨ee,hee,by rw[h5,hjb]⟩)
        have hcn:(cs.take (len*z.length)++new).length=len*z.length+vals.length:=by
         rw[TY,hnl,hvl,T3,T4 hlen]
        have ok:=StepOK.change (k:=k') (e':=⟨g'+1,some b,ee.size⟩) (cs:=cs.take (len*z.length)++new) hmr f
         (fun e2 he2 => .inr (by rw[hee] at he2;cases he2;simp only;omega)) (fun b2 hb2 => .inr ⟨ee,hee,by rw[h5];exact hb2⟩) (fun hn=>by cases hn) (fun b2 hb2=>by
          cases hb2;refine⟨_,T,setRow_heap w b vs _ T (0,0) hh,hcell',by rw[hcell',hcn,hvl];omega,fun i m hm=>?_⟩
          have hall:=ho1.append hrl;obtain⟨v,hv,hr⟩:=hall.get hm;refine⟨v,?_,hr⟩;rw[hol] at hv;have hlt:i<(vs.toList.take (len*z.length)++vals).length:=(List.getElem?_eq_some_iff.1 hv).1;simp only[T5];rw[List.getElem?_append_left hlt];exact hv)
        refine⟨_,_,_,nW (P:=P) (ty:=ty) (a:=a2) (c:=c2) (vals:=vals) ht hs hroom (hf w rfl) _ (fun b' hb'=>by
         cases hb'
         rw[i9,TL];exact hst) (fun h=>by cases h),ok,?_⟩
        exact .ref (ba _ _ _) (TK _) ⟨_,cap,rfl,hroom,h2,.inr ⟨b,rfl,fun _=>⟨rfl,h6⟩⟩⟩
      ·have:=grow a1 len cap (g'+1) k' (cs.take (len*z.length)) olds (by omega) (fun w' hw=>oE (P:=P) (w:=w) ho2 ho3 w' hw) ho1 (by rw[T3,T4 hlen]) hmax hbytes hnext
       exact this
    ·cases h
   ·cases h
  ·cases h
 | _=>simp [pB] at h
theorem Ld {t u ty e:TypeId} {sz n:Nat} {m1 m2:MV} {u1 u2:Value} {new:List MV} {r:MV} {ef:Option (Key × Nat × List MV)} (hmr:MemRel A w B mem) (ht:P.underlying t=some (.slice e)) (hs:cK P e=some sz)
  (r1:VR w (OA A B) B m1 u1) (r2:VR w (OA A B) B m2 u2) (hrow:oM mem sz m2=some (n,new)) (h:u5 mem sz m1 (some (n,new))=some (r,ef)) :
  ∃ v w',(Builtin.copy_ #[t,u] ty #[u1,u2]).run P w = .ok v w'∧StepOK A w B w' B (gN mem ef)∧VR w' (OA A B) B r v:=by
 obtain⟨a2,c2,vals,rfl,hrl,hvl,hat⟩:=zN hmr r2 hrow;have hnl:new.length=n*sz:=by rw[←hrl.1,hvl]
 cases m1 with
 | ref k g sz' off len =>
  simp only[u5] at h
  split at h
  ·rename_i hsz
   subst hsz;unfold AV at h
   split at h
   ·rename_i g' cs hk
    split at h
    ·rename_i hc
     obtain⟨rfl,hfit,hone⟩:=hc
     cases h;obtain⟨ee,hee,hge,hnn,hb⟩:=hmr.at_ hk;have hmin:Nat.min n len=min n len:=rfl;have hle:min n len≤n:=Nat.min_le_left _ _;have hle2:min n len≤len:=Nat.min_le_right _ _;have hml:min n len*sz'≤n*sz':=TX _ hle;have hml2:min n len*sz'≤len*sz':=TX _ hle2;have hv2:(vals.take (min n len*sz')).length=min n len*sz':=by rw[T3,hvl,T4 hml]
     have hfirst:∀ (a:Option Addr) (c:Nat),(0<n→∃ b off,a=some ⟨b,off,none⟩∧At w b off vals)→(Builtin.firstCells sz' (min n len) (.slice a n c)).run P w = .ok (vals.take (min n len*sz')).toArray w:=by
      intro a c hat
      have:=oE (P:=P) (w:=w) (sz:=sz') (n:=min n len) (c:=c) (a:=a) (vals:=vals.take (min n len*sz')) hv2 (fun h=>by
       obtain⟨b,off,h1,h2⟩:=hat (by omega);exact⟨b,off,h1,h2.take _⟩) w rfl
      cases a with
      | none=>simpa [Builtin.firstCells] using this
      | some a=>simpa [Builtin.firstCells] using this
     cases r1 with
     | ref he hg hr =>
      rw[hee] at he
      cases he;obtain⟨a1,cap,rfl,h1,h2,h3⟩:=hr;simp only[cK,TN] at hs;obtain⟨i,hi,hsi⟩:=hs;rcases h3 with h3 | ⟨b,rfl,h4⟩
      ·have hl0:len=0:=by omega
       subst hl0;have hm0:min n 0=0:=Nat.min_zero _;have hstep:splice cs off (new.take (min n 0*sz'))=cs:=by simp [splice]
       have hst:∀ a:Addr,(storeCells a ([]:List Value)).run P w = .ok () w:=fun a=>by simp [storeCells]
       have hff:=hfirst a2 c2 hat;simp only[hm0,Nat.zero_mul,List.take_zero] at hff
       have hB:eY B k ee=B:=by
        funext j;unfold eY;split
        ·rename_i hj;rw[hj,hee]
        ·rfl
       refine⟨.int .i64 0,w,?_,?_,by simpa using VR.ofInt⟩
       ·cases a1 with
        | none=>simp [Builtin.copy_,run_underlying ht,Builtin.lenOf,sizeOf,typeInfo,hi,hsi,hff,goInt]
        | some a=>simp [Builtin.copy_,run_underlying ht,Builtin.lenOf,sizeOf,typeInfo,hi,hsi,hff,hst,goInt]
       ·have hmem:aB mem k g' cs=mem:=by
         funext j;unfold aB;split
         ·rename_i hj;rw[hj,hk]
         ·rfl
        simp only[gN,hstep,hmem];exact .refl hmr
      ·obtain⟨h5,h6⟩:=h4 hge.symm
       obtain⟨vs,T,hh,hz',hle',hrl'⟩:=hb b h5;have hst:=run_storeCells_at P b off T (vals.take (min n len*sz')) 0 vs w hh (by omega) (fun v hv=>hrl.ones hone v (List.mem_of_mem_take hv));simp only[T1] at hst;refine⟨.int .i64 ((min n len:Nat):Int),_,?_,Dl hmr hk hee h5 hh hz' hle' hrl' hge (by rw[T3,hnl,T4 hml];omega) (hrl.take (min n len*sz')),.ofInt⟩;have hff:=hfirst a2 c2 hat;simp [Builtin.copy_,run_underlying ht,Builtin.lenOf,sizeOf,typeInfo,hi,hsi,hmin,hff,hst,goInt]
    ·cases h
   ·cases h
  ·cases h
 | _=>simp [u5] at h
theorem CO {z:Array Value} (h0:0<z.size) (n:Nat):(Builtin.zeroCells z n).toList=(TM n z.toList).flatten:=by
 unfold Builtin.zeroCells;exact om h0 n
theorem LA {t ty e:TypeId} {z:List MV} {m1:MV} {u1:Value} {r:MV} {ef:Option (Key × Nat × List MV)} (hmr:MemRel A w B mem) (ht:P.underlying t=some (.slice e)) (hz:fZ P e=some z) (h0:0<z.length)
  (r1:VR w (OA A B) B m1 u1) (h:vu mem z m1=some (r,ef)) :
  ∃ v w',(Builtin.clear_ #[t] ty #[u1]).run P w = .ok v w'∧StepOK A w B w' B (gN mem ef)∧VR w' (OA A B) B r v:=by
 have htup:∀ w':World,VR w' (OA A B) B (.tup []) (.tuple #[]):=fun w'=>VR.tup (cs:=[]) (vs:=[]) rfl fun i d v hd=>by simp at hd
 cases m1 with
 | ref k g sz off len =>
  simp only[vu] at h
  split at h
  ·rename_i hsz
   subst hsz;unfold LQ at h
   split at h
   ·rename_i g' cs hk
    split at h
    ·rename_i hc
     obtain⟨rfl,hfit,hone⟩:=hc
     cases h;obtain⟨i,zv,hi,hzv,hrl⟩:=iu (P:=P) (w:=w) (B:=B) (O:=OA A B) hz;have hzs:zv.cells.size=z.length:=by have:=hrl.1;simp at this;omega
     obtain⟨ee,hee,hge,hnn,hb⟩:=hmr.at_ hk
     cases r1 with
     | ref he hg hr =>
      rw[hee] at he
      cases he;obtain⟨a1,cap,rfl,h1,h2,h3⟩:=hr;rcases TR len with hl0 | hl0
      ·subst hl0
       have hstep:splice cs off (TM 0 z).flatten=cs:=by simp [splice]
       have hmem:aB mem k g' cs=mem:=by
        funext j;unfold aB;split
        ·rename_i hj;rw[hj,hk]
        ·rfl
       refine⟨.tuple #[],w,?_,?_,htup _⟩
       ·cases a1<;>simp [Builtin.clear_,run_underlying ht]
       ·simp only[gN,hstep,hmem]
        exact .refl hmr
      ·rcases h3 with h3 | ⟨b,rfl,h4⟩
       ·omega
       ·obtain⟨h5,h6⟩:=h4 hge.symm
        obtain⟨vs,T,hh,hz',hle',hrl'⟩:=hb b h5;have hrep:=hrl.replicate len;have hzl:=CO (z:=zv.cells) (by omega) len;have hnl:(TM len z).flatten.length=len*z.length:=by simp
        have hvl:(TM len zv.cells.toList).flatten.length=len*z.length:=by simp [hzs]
        have honeL:(TM len z).flatten.all MV.one=true:=by
         rw[T6] at hone ⊢;intro x hx;obtain⟨y,hy,hxy⟩:=List.mem_flatten.1 hx;exact hone x (by rw[←(List.mem_replicate.1 hy).2];exact hxy)
        have hst:=run_storeCells_at P b off T (TM len zv.cells.toList).flatten 0 vs w hh (by omega) (hrep.ones honeL);simp only[T1] at hst;refine⟨.tuple #[],_,?_,Dl hmr hk hee h5 hh hz' hle' hrl' hge (by omega) hrep,htup _⟩;obtain⟨len',rfl⟩:∃ l,len=l+1:=⟨len-1,by omega⟩
        simp [Builtin.clear_,run_underlying ht,ie hi hzv,hzl,hst]
    ·cases h
   ·cases h
  ·cases h
 | _=>simp [vu] at h
end
end Go.Mini
namespace Go.Mini
open Go
variable {P:Program} {A:Nat→Prop} {w:World} {B:Lay} {mem:Mem}
theorem Fk {t e:TypeId} {sz l h len:Nat} {m r:MV} {v:Value} {vlo vhi:Option Value} {lo hi:Option MV} (hmr:MemRel A w B mem) (ht:P.underlying t=some (.array len e)) (hs:cK P e=some sz) (h24:len≤16777216)
  (hlo:i8 0 lo=some l) (hhi:i8 len hi=some h) (rlo:OR w (OA A B) B lo vlo) (rhi:OR w (OA A B) B hi vhi) (hm:VR w (OA A B) B m v) (hr:r6 mem len sz l h m=some r) :
  ∃ z,(Instr.sliceAt t v vlo vhi none).run P w = .ok z w∧VR w (OA A B) B r z:=by
 unfold r6 at hr
 split at hr
 ·rename_i k g off
  unfold Kg at hr
  split at hr
  ·rename_i g' cs hk
   split at hr
   ·rename_i hc
    obtain⟨rfl,h1,h2,h3⟩:=hc
    cases hr
    cases hm with
    | ptr he hg hv =>
     obtain⟨b,rfl,hb⟩:=hv;obtain⟨e',he',hge,hn,hblk⟩:=hmr.at_ hk;rw[he'] at he
     cases he;have hbb:=hb hge.symm;obtain⟨vs,T,hh,hz,hle,_⟩:=hblk b hbb;refine⟨.slice (some (if len=l then ⟨b,off,none⟩ else ⟨b,off+l*sz,none⟩)) (h-l) (len-l),?_,.ref he' hg ⟨_,len-l,rfl,by omega,by unfold maxLen;omega,?_⟩⟩
     ·simp [Instr.sliceAt,run_underlying ht,Instr.sureAddr,pu (P:=P) (w:=w) false hlo hhi rlo rhi h1 h2,eK hs]
      split<;>simp [i9]
     ·rcases Nat.eq_or_lt_of_le (Nat.le_trans h1 h2) with hl | hl
      ·exact .inl (by omega)
      ·refine .inr ⟨b,by rw[if_neg (by omega)],fun _=>⟨hbb,?_⟩⟩
       have:off+l*sz+(len-l)*sz=off+len*sz:=by
        rw[Nat.add_assoc,←TI]
        congr 2
        omega
       omega
   ·cases hr
  ·cases hr
 ·cases hr
theorem B4 {fs:List Field} (h:(fs.all fun f=>(cK P f.type).isSome)=true):∃ ps:List (Nat × Nat),(fs.mapM fun f=>(do pure (f.offset,←sizeOf f.type):Sem (Nat × Nat))).run P w = .ok ps w ∧
  ∀ i:Nat,ps[i]?=dr P fs.toArray i:=by
 induction fs with
 | nil=>exact⟨[],by simp,fun i=>by simp [dr]⟩
 | cons f r ih =>
  simp only[List.all_cons,T7] at h;obtain⟨ps,h1,h2⟩:=ih h.2;obtain⟨s,hs⟩:=Option.isSome_iff_exists.1 h.1;refine⟨(f.offset,s)::ps,?_,fun i=>?_⟩
  ·simp only[T8,Sem.run_bind,eK hs,Result.andThen_ok,Sem.run_pure]
   rw[h1]
   rfl
  ·cases i with
   | zero=>simp [dr,hs]
   | succ i =>
    have:=h2 i;simp only[dr,T5,List.getElem?_cons_succ] at this ⊢;exact this
theorem BP {p q:Nat→Option (Nat × Nat)} (h:∀ i,p i=q i) (cs:Array Value) (l:List (Nat × Value)):Instr.fill p cs l=Instr.fill q cs l:=by
 rw[show p=q from funext h]
theorem DK {t:TypeId} {fs:Array Field} {z r:List MV} {ps:List (Nat × Operand)} {qs:List (Nat × Nat × Opd)} {ρ:Operand→Value} {tm:Nat→MV} {O:Nat→Prop} (ht:P.underlying t=some (.struct fs)) (hz:fZ P t=some z)
  (ha:(fs.toList.all fun f=>(cK P f.type).isSome)=true) (hp:iZ (dr P fs) ps=some qs) (hρ:∀ x y,bo x=some y→VR w O B (ev tm y) (ρ x))
  (h:fq (ev tm) z qs=some r):∃ v,(Instr.build t (ps.map fun p=>(p.1,ρ p.2)).toArray).run P w = .ok v w∧VR w O B (.agg r) v:=by
 obtain⟨i,zv,hi,hzv,hrl⟩:=iu (P:=P) (w:=w) (B:=B) (O:=O) hz;obtain⟨pl,h1,h2⟩:=B4 (w:=w) ha;obtain⟨vs',hf,hr⟩:=p9 (place:=dr P fs) hρ ps qs _ r _ hp hrl h;refine⟨.agg vs',?_,by rw[show vs'=vs'.toList.toArray from by simp];exact .agg hr.1 hr.2⟩
 ·have h2':∀ i,pl.toArray[i]?=dr P fs i:=fun i=>by simpa using h2 i
  have hm:(fs.mapM fun f=>(do pure (f.offset,←sizeOf f.type):Sem (Nat × Nat))).run P w = .ok pl.toArray w:=by
   rw[Array.mapM_eq_mapM_toList];rw[map_eq_pure_bind];simp only[Sem.run_bind,h1,Result.andThen_ok,Sem.run_pure]
  simp only[Instr.build,Sem.run_bind,ie hi hzv,Result.andThen_ok,Sem.run_pure,run_underlying ht,hm,BP h2',hf]
theorem Dr {t e:TypeId} {n sz:Nat} {z r:List MV} {ps:List (Nat × Operand)} {qs:List (Nat × Nat × Opd)} {ρ:Operand→Value} {tm:Nat→MV} {O:Nat→Prop} (ht:P.underlying t=some (.array n e)) (hz:fZ P t=some z)
  (hs:cK P e=some sz) (hp:iZ (fun i=>some (i*sz,sz)) ps=some qs) (hρ:∀ x y,bo x=some y→VR w O B (ev tm y) (ρ x))
  (h:fq (ev tm) z qs=some r):∃ v,(Instr.build t (ps.map fun p=>(p.1,ρ p.2)).toArray).run P w = .ok v w∧VR w O B (.agg r) v:=by
 obtain⟨i,zv,hi,hzv,hrl⟩:=iu (P:=P) (w:=w) (B:=B) (O:=O) hz;obtain⟨vs',hf,hr⟩:=p9 (place:=fun i=>some (i*sz,sz)) hρ ps qs _ r _ hp hrl h;refine⟨.agg vs',?_,by rw[show vs'=vs'.toList.toArray from by simp];exact .agg hr.1 hr.2⟩
 simp only[Instr.build,Sem.run_bind,ie hi hzv,Result.andThen_ok,Sem.run_pure,run_underlying ht,eK hs,hf]
end Go.Mini
namespace Go.Mini
open Go
variable {P:Program} {A:Nat→Prop} {w:World} {B:Lay} {mem:Mem}
def O8 (n:Next) (v:Value):Prop:=n = .value v∨(n = .skip∧v=undef)
def OpOK (A:Nat→Prop) (w:World) (B:Lay) (run:Result Next) (mem':Mem) (r:MV):Prop :=
 ∃ n v w' B',run = .ok n w'∧O8 n v∧StepOK A w B w' B' mem'∧VR w' (OA A B') B' r v
theorem OpOK.still_ {s:Sem Value} {r:MV} (hmr:MemRel A w B mem) (h:∃ v,s.run P w = .ok v w∧VR w (OA A B) B r v):OpOK A w B ((do pure (.value (←s)):Sem Next).run P w) mem r:=by
 obtain⟨v,h1,h2⟩:=h;exact⟨.value v,v,w,B,by simp [h1],.inl rfl,.refl hmr,h2⟩
theorem OpOK.of {s:Sem Value} {mem':Mem} {r:MV} (h:∃ v w' B',s.run P w = .ok v w'∧StepOK A w B w' B' mem'∧VR w' (OA A B') B' r v):OpOK A w B ((do pure (.value (←s)):Sem Next).run P w) mem' r:=by
 obtain⟨v,w',B',h1,h2,h3⟩:=h;exact⟨.value v,v,w',B',by simp [h1],.inl rfl,h2,h3⟩
theorem AM {x:Option MV} {r:MV} {ef:Option (Key × Nat × List MV)} (h:iD x=some (r,ef)):x=some r∧ef=none:=by
 unfold iD at h
 split at h<;>cases h
 exact⟨rfl,rfl⟩
theorem dl {x:Option Nat} {f:Nat→Option MV} {r:MV} (h:dG x f=some r):∃ n,x=some n∧f n=some r:=by
 unfold dG at h
 split at h
 ·exact⟨_,rfl,h⟩
 ·cases h
theorem wF {x y:Option Nat} {f:Nat→Nat→Out} {r:MV × Option (Key × Nat × List MV)} (h:Ag x y f=some r):∃ n m,x=some n∧y=some m∧f n m=some r:=by
 unfold Ag at h
 split at h
 ·exact⟨_,_,rfl,rfl,h⟩
 ·cases h
theorem iz {O:Nat→Prop} {ρ:Operand→Value} {tm:Nat→MV} (hρ:∀ x y,bo x=some y→VR w O B (ev tm y) (ρ x)) {x:Option Operand} {y:Option Opd} (h:ju x=some y):OR w O B (y.map (ev tm)) (x.map ρ):=by
 cases x with
 | none=>simp [ju] at h;subst h;simp [OR]
 | some x =>
  simp only[ju,TN] at h;obtain⟨y',hy,rfl⟩:=h;simp only[TW,OR];exact hρ _ _ hy
theorem me {fs:Array Field} {f o s:Nat} (h:dr P fs f=some (o,s)):∃ fd,fs[f]?=some fd∧fd.offset=o∧cK P fd.type=some s:=by
 simp only[dr,T9,Ua,Ub,Option.some.injEq,Prod.mk.injEq] at h;obtain⟨fd,h1,s',h2,h3,h4⟩:=h;exact⟨fd,h1,h3,h4 ▸ h2⟩
theorem fJ {O:Nat→Prop} {ρ:Operand→Value} {tm:Nat→MV} (hρ:∀ x y,bo x=some y→VR w O B (ev tm y) (ρ x)):∀ {l:List Operand} {r:List Opd},l.mapM bo=some r→RL w O B (r.map (ev tm)) (l.map ρ)
 | [],r,h=>by simp at h;subst h;exact RL.nil
 | x::l,r,h=>by
  simp only[T8,T9,Ua,Ub,Option.some.injEq] at h;obtain⟨y,hy,r',hr,rfl⟩:=h;exact RL.cons (hρ _ _ hy) (fJ hρ hr)
theorem cY {α β:Type} (a:Array α) (f:α→β):a.map f=(a.toList.map f).toArray:=by
 apply Array.ext';simp
theorem cW {tm:Nat→MV} {m:MOp} {r:MV} {ef:Option (Key × Nat × List MV)} {x:Option MV} (h:sop mem tm m=some (r,ef)) (e:sop mem tm m=iD x):x=some r∧ef=none:=AM (e.symm.trans h)
theorem CQ {ρ:Operand→Value} {tm:Nat→MV} {kb:Nat} {own:List Nat} {dst:Option Tmp} {type:TypeId} {c:Call} {m:MOp} {r:MV} {ef:Option (Key × Nat × List MV)} (hmr:MemRel A w B mem)
  (hρ:∀ x y,bo x=some y→VR w (OA A B) B (ev tm y) (ρ x)) (htr:ni P kb own dst type c=some m) (h:sop mem tm m=some (r,ef)) :
  OpOK A w B ((do let d ←resolve ρ c type;invoke d.target d.args:Sem Next).run P w) (gN mem ef) r:=by
 obtain⟨callee,args,argTypes⟩:=c;have two:∀ {α:Type} (a:Array α) (x y:α),a.toList=[x,y]→a=#[x,y]:=fun a x y h=>Array.ext' (by simpa using h)
 have one:∀ {α:Type} (a:Array α) (x:α),a.toList=[x]→a=#[x]:=fun a x h=>Array.ext' (by simpa using h)
 unfold ni at htr
 split at htr
 ·rename_i x t hc ha ht
  simp only at hc ha ht;subst hc;obtain rfl:=one _ _ ha;obtain rfl:=one _ _ ht
  split at htr
  ·rename_i e hu
   simp only[TN] at htr;obtain⟨y,hy,rfl⟩:=htr;obtain⟨hq,rfl⟩:=cW h rfl;obtain⟨n,hn,hq⟩:=dl hq
   cases hq;have:=H6 (P:=P) (w:=w) t type e hu (hρ _ _ hy) hn;exact⟨.value _,_,w,B,by simp [resolve,invoke,builtin,this],.inl rfl,.refl hmr,.dat .int⟩
  ·rename_i hu
   simp only[TN] at htr;obtain⟨y,hy,rfl⟩:=htr;obtain⟨hq,rfl⟩:=cW h rfl;obtain⟨n,hn,hq⟩:=dl hq
   cases hq;have:=Ff (P:=P) (w:=w) t type hu (hρ _ _ hy) hn;exact⟨.value _,_,w,B,by simp [resolve,invoke,builtin,this],.inl rfl,.refl hmr,.dat .int⟩
  ·cases htr
 ·rename_i s x t u hc ha ht
  simp only at hc ha ht;subst hc;obtain rfl:=two _ _ _ ha;obtain rfl:=two _ _ _ ht
  split at htr
  ·rename_i e e2 hu hu2
   simp only[T9,Ua,Ub] at htr;obtain⟨z,hz,b,hb,n,hn,d,hd,s',hs',x',hx',hh⟩:=htr
   split at hh
   ·rename_i hcc
    obtain⟨rfl,h0,rfl⟩:=hcc
    cases hh;simp only[sop] at h
    cases hrow:oM mem z.length (ev tm x') with
    | none =>
     rw[hrow] at h
     revert h
     cases ev tm s'<;>simp [pB]
    | some p =>
     obtain⟨k,new⟩:=p;rw[hrow] at h;obtain⟨v,w',B',h1,h2,h3⟩:=LO (ty:=type) _ hmr hu hz hn hb h0 (hρ _ _ hs') (hρ _ _ hx') hrow h;exact⟨.value v,v,w',B',by simp [resolve,invoke,builtin,h1],.inl rfl,h2,h3⟩
   ·cases hh
  ·cases htr
 ·rename_i dd x t u hc ha ht
  simp only at hc ha ht;subst hc;obtain rfl:=two _ _ _ ha;obtain rfl:=two _ _ _ ht
  split at htr
  ·rename_i e e2 hu hu2
   simp only[T9,Ua,Ub] at htr;obtain⟨n,hn,hh⟩:=htr
   split at hh
   ·rename_i h0
    simp only[Ub,Option.some.injEq] at hh;obtain⟨d',hd',x',hx',rfl⟩:=hh;simp only[sop] at h
    cases hrow:oM mem n (ev tm x') with
    | none =>
     rw[hrow] at h
     revert h
     cases ev tm d'<;>simp [u5]
    | some p =>
     obtain⟨k,new⟩:=p;rw[hrow] at h;obtain⟨v,w',h1,h2,h3⟩:=Ld (u:=u) (ty:=type) hmr hu hn (hρ _ _ hd') (hρ _ _ hx') hrow h;exact⟨.value v,v,w',B,by simp [resolve,invoke,builtin,h1],.inl rfl,h2,h3⟩
   ·cases hh
  ·cases htr
 ·rename_i x t hc ha ht
  simp only at hc ha ht;subst hc;obtain rfl:=one _ _ ha;obtain rfl:=one _ _ ht
  split at htr
  ·rename_i e hu
   simp only[T9,Ua,Ub] at htr;obtain⟨z,hz,n,hn,hh⟩:=htr
   split at hh
   ·rename_i h0
    simp only[Ub,Option.some.injEq] at hh;obtain⟨x',hx',rfl⟩:=hh;simp only[sop] at h;obtain⟨v,w',h1,h2,h3⟩:=LA (ty:=type) hmr hu hz (by omega) (hρ _ _ hx') h;exact⟨.value v,v,w',B,by simp [resolve,invoke,builtin,h1],.inl rfl,h2,h3⟩
   ·cases hh
  ·cases htr
 ·rename_i x y hc ha
  simp only at hc ha;subst hc;obtain rfl:=two _ _ _ ha;simp only[T9,Ua,Ub,Option.some.injEq] at htr;obtain⟨x',hx,y',hy,rfl⟩:=htr;obtain⟨hq,rfl⟩:=cW h rfl;obtain⟨z,h1,h2⟩:=E4 (P:=P) argTypes type (hρ _ _ hx) (hρ _ _ hy) hq;simp only[if_true] at h1;exact⟨.value z,z,w,B,by simp [resolve,invoke,builtin,h1],.inl rfl,.refl hmr,h2⟩
 ·rename_i x y hc ha
  simp only at hc ha;subst hc;obtain rfl:=two _ _ _ ha;simp only[T9,Ua,Ub,Option.some.injEq] at htr;obtain⟨x',hx,y',hy,rfl⟩:=htr;obtain⟨hq,rfl⟩:=cW h rfl;obtain⟨z,h1,h2⟩:=E4 (P:=P) argTypes type (hρ _ _ hx) (hρ _ _ hy) hq;simp only[Uc,if_false] at h1;exact⟨.value z,z,w,B,by simp [resolve,invoke,builtin,h1],.inl rfl,.refl hmr,h2⟩
 ·split at htr
  ·split at htr
   ·simp only[T9,Ua,Ub,Option.some.injEq] at htr
    obtain⟨_,_,_,_,_,_,rfl⟩:=htr
    cases h
   ·cases htr
  ·split at htr
   ·split at htr<;>simp only[T9,Ua,Ub,Option.some.injEq] at htr
    ·obtain⟨_,_,rfl⟩:=htr
     cases h
    ·obtain⟨_,_,rfl⟩:=htr
     cases h
   ·simp only[T9,Ua,Ub,Option.some.injEq] at htr
    obtain⟨_,_,rfl⟩:=htr
    cases h
 ·simp only[T9,Ua,Ub,Option.some.injEq] at htr
  obtain⟨_,_,_,_,rfl⟩:=htr
  cases h
 ·cases htr
theorem Ay {ρ:Operand→Value} {tm:Nat→MV} {kb:Nat} {own:List Nat} {o:Oper} {m:MOp} {r:MV} {ef:Option (Key × Nat × List MV)} (hmr:MemRel A w B mem)
  (hρ:∀ x y,bo x=some y→VR w (OA A B) B (ev tm y) (ρ x)) (htr:jM P kb own o.dst o.type o.op=some m) (h:sop mem tm m=some (r,ef)) :
  OpOK A w B ((execOp ρ o).run P w) (gN mem ef) r:=by
 obtain⟨dst,op,type,pos,after,guard⟩:=o;simp only at htr
 cases op<;>simp only[jM] at htr<;>simp only[execOp]
 case move x =>
  simp only[TN] at htr;obtain⟨y,hy,rfl⟩:=htr;obtain⟨hq,rfl⟩:=cW (x:=some (ev tm y)) h rfl
  cases hq;exact⟨_,_,w,B,rfl,.inl rfl,.refl hmr,hρ _ _ hy⟩
 case assign x =>
  simp only[TN] at htr;obtain⟨y,hy,rfl⟩:=htr;obtain⟨hq,rfl⟩:=cW (x:=some (ev tm y)) h rfl
  cases hq;exact⟨_,_,w,B,rfl,.inl rfl,.refl hmr,hρ _ _ hy⟩
 case pick c a b =>
  simp only[T9,Ua,Ub,Option.some.injEq] at htr;obtain⟨c',hc,a',ha,b',hb,rfl⟩:=htr;obtain⟨hq,rfl⟩:=cW h rfl;have:=OpOK.still_ hmr (GJ (P:=P) (hρ _ _ hc) (hρ _ _ ha) (hρ _ _ hb) hq)
  simpa [gN] using this
 case alloc e =>
  simp only[T9,Ua,Ub,Option.some.injEq] at htr;obtain⟨d,hd,z,hz,rfl⟩:=htr;simp only[sop,Option.some.injEq,Prod.mk.injEq] at h;obtain⟨rfl,rfl⟩:=h;exact OpOK.of (Fh _ hmr hz)
 case box e x =>
  simp only[T9,Ua,Ub,Option.some.injEq] at htr;obtain⟨d,hd,y,hy,rfl⟩:=htr;simp only[sop] at h
  split at h
  ·rename_i hk
   simp only[Option.some.injEq,Prod.mk.injEq] at h;obtain⟨rfl,rfl⟩:=h;exact OpOK.of (LE _ hmr (hρ _ _ hy) hk)
  ·cases h
 case build t ps =>
  split at htr
  ·rename_i fs hu
   split at htr
   ·rename_i ha
    simp only[T9,Ua,Ub,Option.some.injEq] at htr;obtain⟨z,hz,qs,hqs,rfl⟩:=htr;obtain⟨hq,rfl⟩:=cW h rfl;simp only[qop,TN] at hq;obtain⟨cs,hcs,rfl⟩:=hq;rw[cY];exact OpOK.still_ hmr (DK hu hz ha hqs hρ hcs)
   ·cases htr
  ·rename_i n e hu
   simp only[T9,Ua,Ub,Option.some.injEq] at htr;obtain⟨s,hs,z,hz,qs,hqs,rfl⟩:=htr;obtain⟨hq,rfl⟩:=cW h rfl;simp only[qop,TN] at hq;obtain⟨cs,hcs,rfl⟩:=hq;rw[cY];exact OpOK.still_ hmr (Dr hu hz hs hqs hρ hcs)
  ·cases htr
 case buildSlice t len ps =>
  split at htr
  ·rename_i e hu
   simp only[T9,Ua,Ub] at htr;obtain⟨z,hz,s,hs,qs,hqs,d,hd,hh⟩:=htr
   split at hh
   ·rename_i hc
    obtain⟨hzl,h0,hl⟩:=hc;simp only[Option.some.injEq] at hh;subst hh;rw[cY]
    cases hown:own.contains d with
    | true =>
     rw[hown] at h;exact OpOK.of (IT _ hmr hu hz hs hzl h0 hl hqs hρ h)
    | false =>
     rw[hown] at h;obtain⟨hq,rfl⟩:=cW h rfl;obtain⟨v,w',h1,h2,h3⟩:=Mw hmr hu hz hs hzl h0 hl hqs hρ hq;exact OpOK.of ⟨v,w',B,h1,h2,h3⟩
   ·cases hh
  ·cases htr
 case load t x =>
  simp only[T9,Ua,Ub,Option.some.injEq] at htr;obtain⟨n,hn,g,hg,y,hy,rfl⟩:=htr;obtain⟨hq,rfl⟩:=cW h rfl;exact OpOK.still_ hmr (FI hn hg hmr (hρ _ _ hy) hq)
 case store t x v =>
  simp only[T9,Ua,Ub,Option.some.injEq] at htr;obtain⟨n,hn,x',hx,v',hv,rfl⟩:=htr;obtain⟨w',h1,h2,rfl⟩:=FS hmr hn (hρ _ _ hx) (hρ _ _ hv) h;exact⟨.skip,undef,w',B,by simp [h1],.inr ⟨rfl,rfl⟩,h2,.no⟩
 case nilCheck x =>
  simp only[TN] at htr;obtain⟨y,hy,rfl⟩:=htr;obtain⟨hq,rfl⟩:=cW h rfl;obtain⟨⟨b,off,hx⟩,hr⟩:=Gg (hρ _ _ hy) hq;rw[hx] at hr ⊢;exact⟨_,_,w,B,rfl,.inl rfl,.refl hmr,hr⟩
 case binOp bop t x y pos2 =>
  unfold sb at htr
  split at htr
  ·split at htr
   ·rename_i x' y' hx hy
    cases htr;obtain⟨hq,rfl⟩:=cW h rfl;exact OpOK.still_ hmr (Be t x y (hρ _ _ hx) (hρ _ _ hy) hq)
   ·cases htr
  ·split at htr
   ·rename_i x' y' hx hy
    cases htr;obtain⟨hq,rfl⟩:=cW h rfl;exact OpOK.still_ hmr (Be t x y (hρ _ _ hx) (hρ _ _ hy) hq)
   ·cases htr
  ·rename_i hu
   split at htr
   ·rename_i x' y' hx hy
    cases htr;obtain⟨hq,rfl⟩:=cW h rfl;exact OpOK.still_ hmr (AF (neg:=false) t x y hu (hρ _ _ hx) (hρ _ _ hy) hq)
   ·rename_i x' y' hx hy
    cases htr;obtain⟨hq,rfl⟩:=cW h rfl;exact OpOK.still_ hmr (AF (neg:=true) t x y hu (hρ _ _ hx) (hρ _ _ hy) hq)
   ·cases htr
  ·rename_i fs hu
   split at htr
   ·unfold oR at htr
    split at htr
    ·rename_i hc
     split at htr
     ·rename_i ks x' y' hk hx hy
      cases htr;obtain⟨hq,rfl⟩:=cW h rfl;exact OpOK.still_ hmr (ze (neg:=false) t x y fs hu hc.1 hc.2 hk (hρ _ _ hx) (hρ _ _ hy) hq)
     ·cases htr
    ·cases htr
   ·unfold oR at htr
    split at htr
    ·rename_i hc
     split at htr
     ·rename_i ks x' y' hk hx hy
      cases htr;obtain⟨hq,rfl⟩:=cW h rfl;exact OpOK.still_ hmr (ze (neg:=true) t x y fs hu hc.1 hc.2 hk (hρ _ _ hx) (hρ _ _ hy) hq)
     ·cases htr
    ·cases htr
   ·cases htr
  ·split at htr
   ·split at htr
    ·simp only[TN] at htr
     obtain⟨_,_,rfl⟩:=htr
     cases h
    ·simp only[TN] at htr
     obtain⟨_,_,rfl⟩:=htr
     cases h
    ·cases htr
   ·cases htr
  ·cases htr
 case unOp uop t x =>
  simp only[TN] at htr;obtain⟨y,hy,rfl⟩:=htr;obtain⟨hq,rfl⟩:=cW h rfl;exact OpOK.still_ hmr (LW (hρ _ _ hy) hq)
 case convert s t x =>
  split at htr
  ·rename_i ks k hs ht
   simp only[TN] at htr;obtain⟨y,hy,rfl⟩:=htr;obtain⟨hq,rfl⟩:=cW h rfl;exact OpOK.still_ hmr (Gq s t ks hs ht (hρ _ _ hy) hq)
  ·cases htr
 case makeFunc fn first caps =>
  cases fn<;>simp only[reduceCtorEq] at htr
  split at htr
  ·rename_i hsz
   simp only[T9,Ua,Ub,Option.some.injEq] at htr;obtain⟨cs,hcs,rfl⟩:=htr;obtain⟨hq,rfl⟩:=cW (x:=some (.clo _ (cs.map (ev tm)))) h rfl
   cases hq;have hf0:first=#[]:=Array.eq_empty_of_size_eq_zero hsz
   subst hf0;have hl:=fJ hρ hcs;exact OpOK.still_ hmr ⟨_,by rw[cY caps,Array.map_empty];rfl,.clo hl.1 hl.2⟩
  ·cases htr
 case makeSlice t l c =>
  split at htr
  ·rename_i e he
   simp only[T9,Ua,Ub] at htr;obtain⟨z,hz,s,hs,b,hb,d,hd,hh⟩:=htr
   split at hh
   ·rename_i hc
    simp only[Ub,Option.some.injEq] at hh;obtain⟨l',hl,c',hc',rfl⟩:=hh;simp only[sop] at h;obtain⟨n1,n2,h1,h2,h3⟩:=wF h;obtain⟨rfl,h0⟩:=hc;exact OpOK.of (HR _ hmr he hz hs hb h1 h2 (hρ _ _ hl) (hρ _ _ hc') h0 h3)
   ·cases hh
  ·cases htr
 case slice t x lo hi mx =>
  split at htr
  ·rename_i e hu
   simp only[T9,Ua,Ub] at htr;obtain⟨s,hs,hh⟩:=htr
   split at hh
   ·simp only[Ub,Option.some.injEq] at hh
    obtain⟨y,hy,lo',hlo,hi',hhi,mx',hmx,rfl⟩:=hh;have rlo:=iz hρ hlo;have rhi:=iz hρ hhi;have rmx:=iz hρ hmx
    cases mx' with
    | none =>
     cases mx with
     | some v=>simp [ju,TN] at hmx
     | none =>
      obtain⟨hq,rfl⟩:=cW h rfl;obtain⟨l,hl,hq⟩:=dl hq;obtain⟨len,hlen,hq⟩:=dl hq;obtain⟨hh,hhh,hq⟩:=dl hq;exact OpOK.still_ hmr (Iv hu hs hl hlen hhh rlo rhi (hρ _ _ hy) hq)
    | some mx' =>
     cases hi' with
     | none=>cases h
     | some hi' =>
      cases hi with
      | none=>simp [OR] at rhi
      | some hi =>
       cases mx with
       | none=>simp [OR] at rmx
       | some mx =>
        obtain⟨hq,rfl⟩:=cW h rfl;obtain⟨l,hl,hq⟩:=dl hq;obtain⟨hh,hhh,hq⟩:=dl hq;obtain⟨m,hm,hq⟩:=dl hq;exact OpOK.still_ hmr (GW hu hs hl hhh hm rlo rhi rmx (hρ _ _ hy) hq)
   ·cases hh
  ·rename_i n e hu
   simp only[T9,Ua,Ub] at htr;obtain⟨s,hs,hh⟩:=htr
   split at hh
   ·rename_i hc
    simp only[Ub,Option.some.injEq] at hh;obtain⟨y,hy,lo',hlo,hi',hhi,mx',hmx,rfl⟩:=hh;have rlo:=iz hρ hlo;have rhi:=iz hρ hhi
    cases mx' with
    | none =>
     cases mx with
     | some v=>simp [ju,TN] at hmx
     | none =>
      obtain⟨hq,rfl⟩:=cW h rfl;obtain⟨l,hl,hq⟩:=dl hq;obtain⟨hh,hhh,hq⟩:=dl hq;exact OpOK.still_ hmr (Fk hmr hu hs hc.2 hl hhh rlo rhi (hρ _ _ hy) hq)
    | some mx'=>cases h
   ·cases hh
  ·rename_i hu
   split at htr
   ·rename_i hmx
    simp only[T9,Ua,Ub,Option.some.injEq] at htr;obtain⟨y,hy,lo',hlo,hi',hhi,rfl⟩:=htr;have rlo:=iz hρ hlo;have rhi:=iz hρ hhi
    cases mx with
    | some v=>cases hmx
    | none =>
     obtain⟨hq,rfl⟩:=cW h rfl;obtain⟨l,hl,hq⟩:=dl hq;obtain⟨len,hlen,hq⟩:=dl hq;obtain⟨hh,hhh,hq⟩:=dl hq;exact OpOK.still_ hmr (Ft hu hl hlen hhh rlo rhi (hρ _ _ hy) hq)
   ·cases htr
  ·cases htr
 case fieldAddr t x f =>
  split at htr
  ·rename_i fs hu
   simp only[T9,Ua,Ub] at htr;obtain⟨⟨o,s⟩,hp,hh⟩:=htr
   split at hh
   ·rename_i h0
    simp only[Ub,Option.some.injEq] at hh;obtain⟨y,hy,rfl⟩:=hh;obtain⟨fd,h1,h2,h3⟩:=me hp;obtain⟨hq,rfl⟩:=cW h rfl;exact OpOK.still_ hmr (HT t f fs fd s hu h1 h3 h0 h2 (hρ _ _ hy) hq)
   ·cases hh
  ·cases htr
 case field t x f =>
  split at htr
  ·rename_i fs hu
   simp only[T9,Ua,Ub,Option.some.injEq] at htr;obtain⟨fd,hfd,⟨o,s⟩,hp,g,hg,y,hy,rfl⟩:=htr;obtain⟨fd',h1,h2,h3⟩:=me hp;rw[hfd] at h1
   cases h1;obtain⟨hq,rfl⟩:=cW h rfl;exact OpOK.still_ hmr (KD t f fs fd hu hfd h3 hg h2 (hρ _ _ hy) hq)
  ·cases htr
 case indexAddr t x i =>
  split at htr
  ·rename_i e hu
   simp only[T9,Ua,Ub] at htr;obtain⟨s,hs,hh⟩:=htr
   split at hh
   ·simp only[Ub,Option.some.injEq] at hh
    obtain⟨y,hy,j,hj,rfl⟩:=hh;obtain⟨hq,rfl⟩:=cW h rfl;obtain⟨n,hn,hq⟩:=dl hq;obtain⟨k,hk⟩:=og hn (hρ _ _ hj);rw[hk];exact OpOK.still_ hmr (In t e hu hs (hρ _ _ hy) hq)
   ·cases hh
  ·rename_i len e hu
   simp only[T9,Ua,Ub] at htr;obtain⟨s,hs,hh⟩:=htr
   split at hh
   ·simp only[Ub,Option.some.injEq] at hh
    obtain⟨y,hy,j,hj,rfl⟩:=hh;obtain⟨hq,rfl⟩:=cW h rfl;obtain⟨n,hn,hq⟩:=dl hq;obtain⟨k,hk⟩:=og hn (hρ _ _ hj);rw[hk];exact OpOK.still_ hmr (GQ t e hu hs (hρ _ _ hy) hq)
   ·cases hh
  ·cases htr
 case index t x i =>
  split at htr
  ·rename_i hu
   simp only[T9,Ua,Ub,Option.some.injEq] at htr;obtain⟨y,hy,j,hj,rfl⟩:=htr;obtain⟨hq,rfl⟩:=cW h rfl;obtain⟨n,hn,hq⟩:=dl hq;obtain⟨k,hk⟩:=og hn (hρ _ _ hj);rw[hk];exact OpOK.still_ hmr (GR t hu (hρ _ _ hy) hq)
  ·cases htr
 case extract x i =>
  simp only[TN] at htr;obtain⟨y,hy,rfl⟩:=htr;obtain⟨hq,rfl⟩:=cW h rfl;exact OpOK.still_ hmr (Ku (hρ _ _ hy) hq)
 case call c =>
  exact CQ hmr hρ htr h
 all_goals cases htr
end Go.Mini
namespace Go.Mini
open Go
inductive Todo where
 | code (c:MCode)
 | inBlock (id:Nat)
def kont (T:Tab) (K:bP→St→Prop):List Todo→bP→St→Prop
 | [],e,st=>K e st
 | .code c::k,.normal,st=>wp T c (kont T K k) st
 | .code _::k,.exit id,st=>kont T K k (.exit id) st
 | .code _::k,.ret,st=>kont T K k .ret st
 | .inBlock _::k,.normal,st=>kont T K k .normal st
 | .inBlock j::k,.exit id,st=>if id=j then kont T K k .normal st else kont T K k (.exit id) st
 | .inBlock _::k,.ret,st=>kont T K k .ret st
section
variable {T:Tab} {K:bP→St→Prop} {k:List Todo} {st:St}
theorem vA (c:MCode):(fun e st'=>match e with
  | .normal=>wp T c (kont T K k) st'
  | e=>kont T K k e st')=kont T K (.code c::k):=by
 funext e st'
 cases e<;>rfl
theorem tv (id:Nat):(fun e st'=>match e with
  | .exit j=>if j=id then kont T K k .normal st' else kont T K k (.exit j) st'
  | e=>kont T K k e st')=kont T K (.inBlock id::k):=by
 funext e st'
 cases e<;>rfl
@[go_sem] theorem IU (e:bP):kont T K [] e st=K e st:=by cases e<;>rfl
@[go_sem] theorem Pf (c:MCode):kont T K (.code c::k) .normal st=wp T c (kont T K k) st:=_root_.id rfl
@[go_sem] theorem JX (c:MCode) (id:Nat):kont T K (.code c::k) (.exit id) st=kont T K k (.exit id) st:=_root_.id rfl
@[go_sem] theorem KJ (c:MCode):kont T K (.code c::k) .ret st=kont T K k .ret st:=_root_.id rfl
@[go_sem] theorem N8 (id:Nat):kont T K (.inBlock id::k) .normal st=kont T K k .normal st:=_root_.id rfl
@[go_sem] theorem Hp (id j:Nat):kont T K (.inBlock j::k) (.exit id) st=if id=j then kont T K k .normal st else kont T K k (.exit id) st:=_root_.id rfl
@[go_sem] theorem HZ (id:Nat):kont T K (.inBlock id::k) .ret st=kont T K k .ret st:=_root_.id rfl
theorem aq {c:MCode} (h:wp T c (kont T K []) st):wp T c K st:=by
 have:kont T K []=K:=by funext e st;cases e<;>rfl
 rwa [this] at h
@[go_sem] theorem wp_seq (a b:MCode):wp T (.seq a b) (kont T K k) st=wp T a (kont T K (.code b::k)) st:=by
 rw[←vA];rfl
@[go_sem] theorem wp_skip:wp T .skip (kont T K k) st=kont T K k .normal st:=_root_.id rfl
@[go_sem] theorem wp_ret:wp T .ret (kont T K k) st=kont T K k .ret st:=_root_.id rfl
@[go_sem] theorem wp_exit (id:Nat):wp T (.exit id) (kont T K k) st=kont T K k (.exit id) st:=_root_.id rfl
@[go_sem] theorem wp_block (id:Nat) (c:MCode):wp T (.block id c) (kont T K k) st=wp T c (kont T K (.inBlock id::k)) st:=by
 rw[←tv];rfl
def wpB (T:Tab) (K:bP→St→Prop) (k:List Todo) (m:MV) (a b:MCode) (st:St):Prop :=
 match m with
 | .dat (.bool t)=>if t=true then wp T a (kont T K k) st else wp T b (kont T K k) st
 | _=>False
@[go_sem] theorem wp_cond (c:Opd) (a b:MCode):wp T (.cond c a b) (kont T K k) st=wpB T K k (ev st.tm c) a b st:=_root_.id rfl
@[go_sem] theorem IB (a b:MCode):wpB T K k (.dat (.bool true)) a b st=wp T a (kont T K k) st:=_root_.id rfl
@[go_sem] theorem Fl (a b:MCode):wpB T K k (.dat (.bool false)) a b st=wp T b (kont T K k) st:=_root_.id rfl
def wpO (T:Tab) (K:bP→St→Prop) (k:List Todo) (l:List MI) (st:St):Prop:=wpr T (kont T K k .normal) l st
@[go_sem] theorem SJ (l:List MI):wp T (.ops l) (kont T K k) st=wpO T K k l st:=_root_.id rfl
@[go_sem] theorem Sh:wpO T K k [] st=kont T K k .normal st:=_root_.id rfl
def wpG (T:Tab) (K:bP→St→Prop) (k:List Todo) (g:Option Bool) (i:MI) (r:List MI) (st:St):Prop :=
 match g with
 | none=>False
 | some g=>if g=true then cN T (wpr T (kont T K k .normal) r) i st else wpO T K k r ⟨put st.tm i.dst .no,st.mem⟩
@[go_sem] theorem RK (i:MI) (r:List MI):wpO T K k (i::r) st=wpG T K k (f5 st.tm i.g) i r st:=_root_.id rfl
@[go_sem] theorem QY (i:MI) (r:List MI):wpG T K k (some true) i r st=cN T (wpO T K k r) i st:=_root_.id rfl
@[go_sem] theorem Pe (i:MI) (r:List MI):wpG T K k (some false) i r st=wpO T K k r ⟨put st.tm i.dst .no,st.mem⟩:=_root_.id rfl
def Ah (T:Tab) (K:bP→St→Prop) (k:List Todo) (n:Nat) (l:List MI) (c:List (List Nat)) (rec:Rec) (st:St):Prop:=uS T (kont T K k .normal) n l c rec st
@[go_sem] theorem Sl (l:List MI) (c:List (List Nat)):wp T (.opsD l c) (kont T K k) st=Ah T K k 0 l c (fun _=>none) st:=_root_.id rfl
@[go_sem] theorem QG (n:Nat) (c:List (List Nat)) (rec:Rec):Ah T K k n [] c rec st=kont T K k .normal st:=_root_.id rfl
def pn (T:Tab) (K:bP→St→Prop) (k:List Todo) (n:Nat) (g:Option Bool) (i:MI) (r:List MI) (c:List (List Nat)) (rec:Rec) (st:St):Prop :=
 match g with
 | none=>False
 | some g=>if g=true then (match gS T st.mem st.tm i.op with
    | some (m,e)=>Hj rec (wrs i.op,foot st.tm i.op) (c.headD [])=true∧Ah T K k (n+1) r c.tail (sF rec n (wrs i.op,foot st.tm i.op)) ⟨put st.tm i.dst m,gN st.mem e⟩
    | none=>False) else Ah T K k (n+1) r c.tail rec ⟨put st.tm i.dst .no,st.mem⟩
@[go_sem] theorem P5 (n:Nat) (i:MI) (r:List MI) (c:List (List Nat)) (rec:Rec):Ah T K k n (i::r) c rec st=pn T K k n (f5 st.tm i.g) i r c rec st:=_root_.id rfl
def Ri (T:Tab) (K:bP→St→Prop) (k:List Todo) (n:Nat) (x:Option (MV × Option (Key × Nat × List MV))) (i:MI) (r:List MI) (c:List (List Nat)) (rec:Rec) (st:St):Prop :=
 match x with
 | some (m,e)=>Hj rec (wrs i.op,foot st.tm i.op) (c.headD [])=true∧Ah T K k (n+1) r c.tail (sF rec n (wrs i.op,foot st.tm i.op)) ⟨put st.tm i.dst m,gN st.mem e⟩
 | none=>False
@[go_sem] theorem PV (n:Nat) (i:MI) (r:List MI) (c:List (List Nat)) (rec:Rec):pn T K k n (some true) i r c rec st=Ri T K k n (gS T st.mem st.tm i.op) i r c rec st:=_root_.id rfl
@[go_sem] theorem Nv (n:Nat) (i:MI) (r:List MI) (c:List (List Nat)) (rec:Rec):pn T K k n (some false) i r c rec st=Ah T K k (n+1) r c.tail rec ⟨put st.tm i.dst .no,st.mem⟩:=_root_.id rfl
@[go_sem] theorem P0 (n:Nat) (m:MV) (e:Option (Key × Nat × List MV)) (i:MI) (r:List MI) (c:List (List Nat)) (rec:Rec):Ri T K k n (some (m,e)) i r c rec st =
 (Hj rec (wrs i.op,foot st.tm i.op) (c.headD [])=true∧Ah T K k (n+1) r c.tail (sF rec n (wrs i.op,foot st.tm i.op)) ⟨put st.tm i.dst m,gN st.mem e⟩):=_root_.id rfl
end
section
variable {T:Tab} {K:St→Prop} {st:St} {tm:Nat→MV} {mem:Mem}
def wpS (K:St→Prop) (x:Option (MV × Option (Key × Nat × List MV))) (d:Option Nat) (st:St):Prop :=
 match x with
 | some (m,e)=>K ⟨put st.tm d m,gN st.mem e⟩
 | none=>False
@[go_sem] theorem Rc (m:MV) (e:Option (Key × Nat × List MV)) (d:Option Nat):wpS K (some (m,e)) d st=K ⟨put st.tm d m,gN st.mem e⟩:=_root_.id rfl
variable (d:Option Nat) (g:Option (Nat × Bool))
@[go_sem] theorem Sk (x:Opd):cN T K ⟨d,g,.mv x⟩ st=K ⟨put st.tm d (ev st.tm x),st.mem⟩:=_root_.id rfl
@[go_sem] theorem PY (c a b:Opd):cN T K ⟨d,g,.pick c a b⟩ st=wpS K (sop st.mem st.tm (.pick c a b)) d st:=_root_.id rfl
@[go_sem] theorem OZ (k:Key) (z:List MV):cN T K ⟨d,g,.alloc k z⟩ st=K ⟨put st.tm d (.ptr k (aC st.mem k) 0),aB st.mem k (aC st.mem k) z⟩:=_root_.id rfl
@[go_sem] theorem QV (k:Key) (x:Opd):cN T K ⟨d,g,.box k x⟩ st=wpS K (sop st.mem st.tm (.box k x)) d st:=_root_.id rfl
@[go_sem] theorem Ow (z:List MV) (ps:List (Nat × Nat × Opd)):cN T K ⟨d,g,.build z ps⟩ st=wpS K (sop st.mem st.tm (.build z ps)) d st:=_root_.id rfl
@[go_sem] theorem Ro (k:Key) (o:Bool) (z:List MV) (sz len:Nat) (ps:List (Nat × Nat × Opd)):cN T K ⟨d,g,.bsl k o z sz len ps⟩ st=wpS K (sop st.mem st.tm (.bsl k o z sz len ps)) d st:=_root_.id rfl
@[go_sem] theorem PF (n:Nat) (ag:Bool) (x:Opd):cN T K ⟨d,g,.load n ag x⟩ st=wpS K (sop st.mem st.tm (.load n ag x)) d st:=_root_.id rfl
@[go_sem] theorem NY (n:Nat) (x v:Opd):cN T K ⟨d,g,.store n x v⟩ st=wpS K (sop st.mem st.tm (.store n x v)) d st:=_root_.id rfl
@[go_sem] theorem RR (op:BinOp) (x y:Opd):cN T K ⟨d,g,.bin op x y⟩ st=wpS K (sop st.mem st.tm (.bin op x y)) d st:=_root_.id rfl
@[go_sem] theorem Rf (b:Bool) (n:List Nat) (x y:Opd):cN T K ⟨d,g,.eqs b n x y⟩ st=wpS K (sop st.mem st.tm (.eqs b n x y)) d st:=_root_.id rfl
@[go_sem] theorem QA (b:Bool) (x y:Opd):cN T K ⟨d,g,.beq b x y⟩ st=wpS K (sop st.mem st.tm (.beq b x y)) d st:=_root_.id rfl
@[go_sem] theorem R3 (op:UnOp) (x:Opd):cN T K ⟨d,g,.un op x⟩ st=wpS K (sop st.mem st.tm (.un op x)) d st:=_root_.id rfl
@[go_sem] theorem Pg (k:IntKind) (x:Opd):cN T K ⟨d,g,.conv k x⟩ st=wpS K (sop st.mem st.tm (.conv k x)) d st:=_root_.id rfl
@[go_sem] theorem Pn (x:Opd):cN T K ⟨d,g,.nchk x⟩ st=wpS K (sop st.mem st.tm (.nchk x)) d st:=_root_.id rfl
@[go_sem] theorem PA (k:Key) (z:List MV) (b:Nat) (x y:Opd):cN T K ⟨d,g,.mksl k z b x y⟩ st=wpS K (sop st.mem st.tm (.mksl k z b x y)) d st:=_root_.id rfl
@[go_sem] theorem Rm (o:Nat) (x:Opd):cN T K ⟨d,g,.fad o x⟩ st=wpS K (sop st.mem st.tm (.fad o x)) d st:=_root_.id rfl
@[go_sem] theorem Re (o n:Nat) (ag:Bool) (x:Opd):cN T K ⟨d,g,.fld o n ag x⟩ st=wpS K (sop st.mem st.tm (.fld o n ag x)) d st:=_root_.id rfl
@[go_sem] theorem QH (s:Nat) (x i:Opd):cN T K ⟨d,g,.iad s x i⟩ st=wpS K (sop st.mem st.tm (.iad s x i)) d st:=_root_.id rfl
@[go_sem] theorem Pd (n s:Nat) (x i:Opd):cN T K ⟨d,g,.iada n s x i⟩ st=wpS K (sop st.mem st.tm (.iada n s x i)) d st:=_root_.id rfl
@[go_sem] theorem PO (x i:Opd):cN T K ⟨d,g,.idxs x i⟩ st=wpS K (sop st.mem st.tm (.idxs x i)) d st:=_root_.id rfl
@[go_sem] theorem Rh (s:Nat) (x:Opd) (a b c:Option Opd):cN T K ⟨d,g,.slc s x a b c⟩ st=wpS K (sop st.mem st.tm (.slc s x a b c)) d st:=_root_.id rfl
@[go_sem] theorem Pv (n s:Nat) (x:Opd) (a b c:Option Opd):cN T K ⟨d,g,.slca n s x a b c⟩ st=wpS K (sop st.mem st.tm (.slca n s x a b c)) d st:=_root_.id rfl
@[go_sem] theorem PW (x:Opd) (a b:Option Opd):cN T K ⟨d,g,.slcs x a b⟩ st=wpS K (sop st.mem st.tm (.slcs x a b)) d st:=_root_.id rfl
@[go_sem] theorem Rr (i:Nat) (x:Opd):cN T K ⟨d,g,.ext i x⟩ st=wpS K (sop st.mem st.tm (.ext i x)) d st:=_root_.id rfl
@[go_sem] theorem RI (x:Opd):cN T K ⟨d,g,.len x⟩ st=wpS K (sop st.mem st.tm (.len x)) d st:=_root_.id rfl
@[go_sem] theorem Pl (x:Opd):cN T K ⟨d,g,.lens x⟩ st=wpS K (sop st.mem st.tm (.lens x)) d st:=_root_.id rfl
@[go_sem] theorem Rs (k:Key) (z:List MV) (b:Nat) (s x:Opd):cN T K ⟨d,g,.app k z b s x⟩ st=wpS K (sop st.mem st.tm (.app k z b s x)) d st:=_root_.id rfl
@[go_sem] theorem RF (z:List MV) (x:Opd):cN T K ⟨d,g,.clr z x⟩ st=wpS K (sop st.mem st.tm (.clr z x)) d st:=_root_.id rfl
@[go_sem] theorem Ry (s:Nat) (x y:Opd):cN T K ⟨d,g,.cpy s x y⟩ st=wpS K (sop st.mem st.tm (.cpy s x y)) d st:=_root_.id rfl
@[go_sem] theorem RY (b:Bool) (x y:Opd):cN T K ⟨d,g,.mm b x y⟩ st=wpS K (sop st.mem st.tm (.mm b x y)) d st:=_root_.id rfl
@[go_sem] theorem Pb (f:FuncId) (l:List Opd):cN T K ⟨d,g,.mkfn f l⟩ st=wpS K (sop st.mem st.tm (.mkfn f l)) d st:=_root_.id rfl
def wpE (K:St→Prop) (x:Option Eff) (d:Option Nat) (st:St):Prop :=
 match x with
 | some (.same r)=>K ⟨put st.tm d (.dat r),st.mem⟩
 | some (.own _ es)=>K ⟨put st.tm d (.dat (.sl es)),st.mem⟩
 | some (.rel R)=>∀ r mem',R r mem'→K ⟨put st.tm d r,mem'⟩
 | some (.upd r k g i c)=>K ⟨put st.tm d (.dat r),aB st.mem k g ((fH st.mem k).set i c)⟩
 | none=>False
@[go_sem] theorem Pi (f:FuncId) (l:List Opd):cN T K ⟨d,g,.call f l⟩ st=wpE K (T f (l.map (ev st.tm)) st.mem) d st:=_root_.id rfl
@[go_sem] theorem Se (r:Data) (k:Key) (g i:Nat) (c:MV):wpE K (some (.upd r k g i c)) d st=K ⟨put st.tm d (.dat r),aB st.mem k g ((fH st.mem k).set i c)⟩:=_root_.id rfl
@[go_sem] theorem Rt (r:Data):wpE K (some (.same r)) d st=K ⟨put st.tm d (.dat r),st.mem⟩:=_root_.id rfl
@[go_sem] theorem Sm (s:Nat) (es:List (List Data)):wpE K (some (.own s es)) d st=K ⟨put st.tm d (.dat (.sl es)),st.mem⟩:=_root_.id rfl
@[go_sem] theorem Mp (R:MV→Mem→Prop):wpE K (some (.rel R)) d st=∀ r mem',R r mem'→K ⟨put st.tm d r,mem'⟩:=_root_.id rfl
def wpV (T:Tab) (K:St→Prop) (m:MV) (args:List MV) (d:Option Nat) (st:St):Prop :=
 match m with
 | .clo g caps=>wpE K (T g (args++caps) st.mem) d st
 | .dat (.fn g ds)=>wpE K (T g (args++ds.map .dat) st.mem) d st
 | _=>False
@[go_sem] theorem N5 (f:Opd) (l:List Opd):cN T K ⟨d,g,.callv f l⟩ st=wpV T K (ev st.tm f) (l.map (ev st.tm)) d st:=_root_.id rfl
@[go_sem] theorem RZ (f:FuncId) (caps args:List MV):wpV T K (.clo f caps) args d st=wpE K (T f (args++caps) st.mem) d st:=_root_.id rfl
@[go_sem] theorem SB (f:FuncId) (ds:List Data) (args:List MV):wpV T K (.dat (.fn f ds)) args d st=wpE K (T f (args++ds.map .dat) st.mem) d st:=_root_.id rfl
def wpC (K:St→Prop) (x:Option Eff) (k:Key) (sz:Nat) (d:Option Nat) (st:St):Prop :=
 match x with
 | some (.own sz' es)=>if sz'=sz then K ⟨put st.tm d (.ref k (aC st.mem k) sz 0 es.length),aB st.mem k (aC st.mem k) (es.flatten.map .dat)⟩ else False
 | _=>False
@[go_sem] theorem O4 (k:Key) (sz:Nat) (f:FuncId) (l:List Opd):cN T K ⟨d,g,.callo k sz f l⟩ st=wpC K (T f (l.map (ev st.tm)) st.mem) k sz d st:=_root_.id rfl
@[go_sem] theorem R6 (k:Key) (sz:Nat) (es:List (List Data)):wpC K (some (.own sz es)) k sz d st=K ⟨put st.tm d (.ref k (aC st.mem k) sz 0 es.length),aB st.mem k (aC st.mem k) (es.flatten.map .dat)⟩:=by simp [wpC]
def wpN (K:St→Prop) (neg:Bool) (x:Option Bool) (d:Option Nat) (st:St):Prop :=
 match x with
 | some full=>∀ b:Bool,(full=true→b=false)→K ⟨put st.tm d (.dat (.bool (neg != b))),st.mem⟩
 | none=>False
@[go_sem] theorem N6 (neg:Bool) (x:Opd):cN T K ⟨d,g,.isnil neg x⟩ st=wpN K neg (uH (ev st.tm x)) d st:=_root_.id rfl
@[go_sem] theorem Rj (neg full:Bool):wpN K neg (some full) d st=∀ b:Bool,(full=true→b=false)→K ⟨put st.tm d (.dat (.bool (neg != b))),st.mem⟩:=_root_.id rfl
end
section
variable {tm:Nat→MV} {mem:Mem}
@[go_sem] theorem ev_t (s:Nat):ev tm (.t s)=tm s:=_root_.id rfl
@[go_sem] theorem ev_c (m:MV):ev tm (.c m)=m:=_root_.id rfl
@[go_sem] theorem QE (s:Nat) (m:MV):put tm (some s) m=upd tm s m:=_root_.id rfl
@[go_sem] theorem RN (m:MV):put tm none m=tm:=_root_.id rfl
@[go_sem] theorem SH (s:Nat) (m:MV) (t:Nat):upd tm s m t=if t=s then m else tm t:=_root_.id rfl
@[go_sem] theorem lj (k:Key) (g:Nat) (cs:List MV) (j:Key):aB mem k g cs j=if j=k then some (g,cs) else mem j:=_root_.id rfl
@[go_sem] theorem PZ:gN mem none=mem:=_root_.id rfl
@[go_sem] theorem PB (k:Key) (g:Nat) (cs:List MV):gN mem (some (k,g,cs))=aB mem k g cs:=_root_.id rfl
def cR:Option (Nat × List MV)→Nat
 | none=>0
 | some (g,_)=>g+1
@[go_sem] theorem Qv (k:Key):aC mem k=cR (mem k):=by unfold aC cR;rfl
@[go_sem] theorem OW:cR none=0:=_root_.id rfl
@[go_sem] theorem Oe (g:Nat) (cs:List MV):cR (some (g,cs))=g+1:=_root_.id rfl
@[go_sem] theorem SK (k:Key):emp k=none:=_root_.id rfl
@[go_sem] theorem MZ:f5 tm none=some true:=_root_.id rfl
def yE (m:MV) (b:Bool):Option Bool :=
 match m with
 | .dat (.bool t)=>some (t==b)
 | .no=>some false
 | _=>none
@[go_sem] theorem Nn (s:Nat) (b:Bool):f5 tm (some (s,b))=yE (tm s) b:=_root_.id rfl
@[go_sem] theorem PP (b:Bool):yE .no b=some false:=_root_.id rfl
variable (op:MOp)
@[go_sem] theorem Pj (m:MV):iD (some m)=some (m,none):=_root_.id rfl
@[go_sem] theorem SP (x:Opd):sop mem tm (.mv x)=some (ev tm x,none):=_root_.id rfl
@[go_sem] theorem Q5 (c a b:Opd):sop mem tm (.pick c a b)=iD (wE (ev tm c) (ev tm a) (ev tm b)):=_root_.id rfl
@[go_sem] theorem OU (a b:MV):wE (.dat (.bool true)) a b=some a:=_root_.id rfl
@[go_sem] theorem Nm (a b:MV):wE (.dat (.bool false)) a b=some b:=_root_.id rfl
@[go_sem] theorem Pr (k:Key) (z:List MV):sop mem tm (.alloc k z)=some (.ptr k (aC mem k) 0,some (k,aC mem k,z)):=_root_.id rfl
@[go_sem] theorem R0 (k:Key) (x:Opd):sop mem tm (.box k x)=if (ev tm x).known=true then some (.ptr k (aC mem k) 0,some (k,aC mem k,(ev tm x).cells)) else none:=_root_.id rfl
@[go_sem] theorem PK (z:List MV) (ps:List (Nat × Nat × Opd)):sop mem tm (.build z ps)=iD ((fq (ev tm) z ps).map .agg):=_root_.id rfl
@[go_sem] theorem Sf (k:Key) (z:List MV) (sz len:Nat) (ps:List (Nat × Nat × Opd)):sop mem tm (.bsl k false z sz len ps)=iD (H7 z sz len (fq (ev tm) z ps)):=_root_.id rfl
@[go_sem] theorem QB (k:Key) (z:List MV) (sz len:Nat) (ps:List (Nat × Nat × Opd)):sop mem tm (.bsl k true z sz len ps)=vN k (aC mem k) z sz len (fq (ev tm) z ps):=_root_.id rfl
@[go_sem] theorem Ru (n:Nat) (ag:Bool) (x:Opd):sop mem tm (.load n ag x)=iD (jZ mem n ag (ev tm x)):=_root_.id rfl
@[go_sem] theorem Pa (n:Nat) (x v:Opd):sop mem tm (.store n x v)=lJ mem n (ev tm x) (ev tm v).cells:=_root_.id rfl
@[go_sem] theorem Sn (b:BinOp) (x y:Opd):sop mem tm (.bin b x y)=iD (HS b (ev tm x) (ev tm y)):=_root_.id rfl
@[go_sem] theorem R4 (neg:Bool) (x y:Opd):sop mem tm (.beq neg x y)=iD (Hq neg (ev tm x) (ev tm y)):=_root_.id rfl
@[go_sem] theorem R7 (neg:Bool) (n:List Nat) (x y:Opd):sop mem tm (.eqs neg n x y)=iD (HQ neg n (ev tm x) (ev tm y)):=_root_.id rfl
@[go_sem] theorem SC (u:UnOp) (x:Opd):sop mem tm (.un u x)=iD (unM u (ev tm x)):=_root_.id rfl
@[go_sem] theorem Q7 (k:IntKind) (x:Opd):sop mem tm (.conv k x)=iD (AC k (ev tm x)):=_root_.id rfl
@[go_sem] theorem RP (x:Opd):sop mem tm (.nchk x)=iD (zM (ev tm x)):=_root_.id rfl
@[go_sem] theorem P6 (k:Key) (z:List MV) (b:Nat) (x y:Opd):sop mem tm (.mksl k z b x y)=Ag (idx (ev tm x)) (idx (ev tm y)) (vK k (aC mem k) z b):=_root_.id rfl
@[go_sem] theorem R9 (o:Nat) (x:Opd):sop mem tm (.fad o x)=iD (Ix o (ev tm x)):=_root_.id rfl
@[go_sem] theorem Sj (o n:Nat) (ag:Bool) (x:Opd):sop mem tm (.fld o n ag x)=iD (Jp o n ag (ev tm x)):=_root_.id rfl
@[go_sem] theorem Sg (s:Nat) (x i:Opd):sop mem tm (.iad s x i)=iD (dG (idx (ev tm i)) fun n=>xG s n (ev tm x)):=_root_.id rfl
@[go_sem] theorem Ql (n s:Nat) (x i:Opd):sop mem tm (.iada n s x i)=iD (dG (idx (ev tm i)) fun m=>Al n s m (ev tm x)):=_root_.id rfl
@[go_sem] theorem RQ (x i:Opd):sop mem tm (.idxs x i)=iD (dG (idx (ev tm i)) fun n=>Bp n (ev tm x)):=_root_.id rfl
@[go_sem] theorem Sb (s:Nat) (x:Opd) (lo hi:Option Opd):sop mem tm (.slc s x lo hi none)=iD (dG (i8 0 (lo.map (ev tm))) fun l=>dG (oL (ev tm x)) fun len=>dG (i8 len (hi.map (ev tm))) fun h=>JN s l h (ev tm x)):=_root_.id rfl
@[go_sem] theorem QD (s:Nat) (x h m:Opd) (lo:Option Opd):sop mem tm (.slc s x lo (some h) (some m)) =
 iD (dG (i8 0 (lo.map (ev tm))) fun l=>dG (idx (ev tm h)) fun h=>dG (idx (ev tm m)) fun m=>Av s l h m (ev tm x)):=_root_.id rfl
@[go_sem] theorem QO (n s:Nat) (x:Opd) (lo hi:Option Opd):sop mem tm (.slca n s x lo hi none)=iD (dG (i8 0 (lo.map (ev tm))) fun l=>dG (i8 n (hi.map (ev tm))) fun h=>r6 mem n s l h (ev tm x)):=_root_.id rfl
@[go_sem] theorem QT (x:Opd) (lo hi:Option Opd):sop mem tm (.slcs x lo hi)=iD (dG (i8 0 (lo.map (ev tm))) fun l=>dG (pM (ev tm x)) fun len=>dG (i8 len (hi.map (ev tm))) fun h=>AY l h (ev tm x)):=_root_.id rfl
@[go_sem] theorem So (i:Nat) (x:Opd):sop mem tm (.ext i x)=iD (IQ i (ev tm x)):=_root_.id rfl
@[go_sem] theorem Si (x:Opd):sop mem tm (.len x)=iD (dG (oL (ev tm x)) fun n=>some (.dat (.int .i64 n))):=_root_.id rfl
@[go_sem] theorem Rv (x:Opd):sop mem tm (.lens x)=iD (dG (pM (ev tm x)) fun n=>some (.dat (.int .i64 n))):=_root_.id rfl
@[go_sem] theorem R5 (k:Key) (z:List MV) (b:Nat) (s x:Opd):sop mem tm (.app k z b s x)=pB mem k z b (ev tm s) (oM mem z.length (ev tm x)):=_root_.id rfl
@[go_sem] theorem Sq (z:List MV) (x:Opd):sop mem tm (.clr z x)=vu mem z (ev tm x):=_root_.id rfl
@[go_sem] theorem RV (s:Nat) (x y:Opd):sop mem tm (.cpy s x y)=u5 mem s (ev tm x) (oM mem s (ev tm y)):=_root_.id rfl
@[go_sem] theorem Sx (b:Bool) (x y:Opd):sop mem tm (.mm b x y)=iD (mmM b (ev tm x) (ev tm y)):=_root_.id rfl
@[go_sem] theorem RE (f:FuncId) (l:List Opd):sop mem tm (.mkfn f l)=some (.clo f (l.map (ev tm)),none):=_root_.id rfl
@[go_sem] theorem N9 (n:Nat) (f:Nat→Option MV):dG (some n) f=f n:=_root_.id rfl
@[go_sem] theorem NL (n m:Nat) (f:Nat→Nat→Out):Ag (some n) (some m) f=f n m:=_root_.id rfl
def EA (n:Nat) (ag:Bool) (g off:Nat):Option (Nat × List MV)→Option MV
 | some (g',cs)=>if g'=g then (cut cs off n).bind (kR ag) else none
 | none=>none
@[go_sem] theorem PG (n:Nat) (ag:Bool) (k:Key) (g off:Nat):jZ mem n ag (.ptr k g off)=EA n ag g off (mem k):=by unfold jZ EA;rfl
@[go_sem] theorem NE (n:Nat) (ag:Bool) (g off:Nat) (cs:List MV):EA n ag g off (some (g,cs))=(cut cs off n).bind (kR ag):=by simp [EA]
@[go_sem] theorem Pt (n:Nat) (ag:Bool) (ds:List Data):jZ mem n ag (.dat (.ptr ds))=(cut (ds.map .dat) 0 n).bind (kR ag):=_root_.id rfl
@[go_sem] theorem Oi (n:Nat) (k:Key) (g off:Nat) (v:List MV):lJ mem n (.ptr k g off) v=u6 n k g off v (mem k):=_root_.id rfl
@[go_sem] theorem OG (cs:List MV):kR true cs=some (.agg cs):=_root_.id rfl
@[go_sem] theorem PC (m:MV):kR false [m]=some m:=_root_.id rfl
@[go_sem] theorem PI (cs:List MV):(MV.agg cs).cells=cs:=_root_.id rfl
@[go_sem] theorem N4 (cs:List Data):(MV.dat (.agg cs)).cells=cs.map .dat:=_root_.id rfl
@[go_sem] theorem P1 (k:IntKind) (n:Int):(MV.dat (.int k n)).cells=[.dat (.int k n)]:=_root_.id rfl
@[go_sem] theorem NM (b:Bool):(MV.dat (.bool b)).cells=[.dat (.bool b)]:=_root_.id rfl
@[go_sem] theorem P3 (l:List UInt8):(MV.dat (.str l)).cells=[.dat (.str l)]:=_root_.id rfl
@[go_sem] theorem Rw (l:List (List Data)):(MV.dat (.sl l)).cells=[.dat (.sl l)]:=_root_.id rfl
@[go_sem] theorem OE (l:List Data):(MV.dat (.ptr l)).cells=[.dat (.ptr l)]:=_root_.id rfl
@[go_sem] theorem RA (f:FuncId) (l:List Data):(MV.dat (.fn f l)).cells=[.dat (.fn f l)]:=_root_.id rfl
@[go_sem] theorem PN:MV.nil.cells=[.nil]:=_root_.id rfl
@[go_sem] theorem PE (k:Key) (g s o l:Nat):(MV.ref k g s o l).cells=[.ref k g s o l]:=_root_.id rfl
@[go_sem] theorem Pu (k:Key) (g o:Nat):(MV.ptr k g o).cells=[.ptr k g o]:=_root_.id rfl
@[go_sem] theorem Ps (f:FuncId) (l:List MV):(MV.clo f l).cells=[.clo f l]:=_root_.id rfl
@[go_sem] theorem RX (k:IntKind) (n:Nat):idx (.dat (.int k (n:Int)))=some n:=by simp [idx]
@[go_sem] theorem idx_0 (k:IntKind):idx (.dat (.int k 0))=some 0:=_root_.id rfl
@[go_sem low] theorem R8 (k:IntKind) (n:Int):idx (.dat (.int k n))=if 0≤n then some n.toNat else none:=_root_.id rfl
end
attribute [go_sem] HJ Hq HS unM AC zM Ix Jp xG Al Bp JN Av r6 Kg AY IQ mmM i8 oL pM u6 u5 AV vu LQ vK vN H7 HQ lk yF fq splice cut chunk
 oH Lh shI KP uH shut nq MV.one MV.known oM qF foot vX Ba ip fH Gk IP NT KC Dc LT wH dX wrs Hj ir sF gS az GF gk
end Go.Mini
namespace Go.Mini
open Go
variable {P:Program} {A:Nat→Prop} {w:World} {B:Lay} {mem:Mem}
def OwnRes (w w':World) (O:Nat→Prop) (sz:Nat) (es:List (List Data)) (v:Value):Prop :=
 (∀ e∈es,e.length=sz)∧∃ a cap,v = .slice a es.length cap∧es.length≤cap∧cap≤maxLen ∧
  (cap=0∨∃ b vs T,a=some ⟨b,0,none⟩∧w.heap.size≤b∧w'.heap[b]?=some (.cells vs T (0,0))∧cap*sz≤vs.size ∧
   ∀ (i:Nat) (d:Data),es.flatten[i]?=some d→∃ u,vs[i]?=some u∧Den w' (fun b'=>O b'∨b'=b) d u)
def HE (P:Program) (f:FuncId) (vs:List Value) (A:Nat→Prop) (w:World) (B:Lay) (mem:Mem):Eff→Prop
 | .same r=>Calls P f vs.toArray w fun e w'=>∃ v,e = .returned v∧Fr (fun _=>False) w w'∧Den w' (OA A B) r v
 | .own sz es=>Calls P f vs.toArray w fun e w'=>∃ v,e = .returned v∧Fr (fun _=>False) w w'∧OwnRes w w' (OA A B) sz es v
 | .rel R=>Calls P f vs.toArray w fun e w'=>∃ v r mem' B',e = .returned v∧StepOK A w B w' B' mem'∧VR w' (OA A B') B' r v∧R r mem'
 | .upd r k g i c=>Calls P f vs.toArray w fun e w'=>∃ v B',e = .returned v∧StepOK A w B w' B' (aB mem k g ((fH mem k).set i c))∧VR w' (OA A B') B' (.dat r) v
def Real (P : Program) (f : FuncId) : Prop := ∃ fn c, P.funcs[f]? = some fn ∧ fn.body = some c ∧ (fn.name == "runtime.NumGoroutine") = false
def j8 (P:Program) (T:Tab):Prop:=∀ f args mem eff,T f args mem=some eff→Real P f ∧
 ∀ A w B vs,MemRel A w B mem→RL w (OA A B) B args vs→HE P f vs A w B mem eff
theorem na {f:FuncId} (h:Real P f) (args:Array Value):(callFunc f args).run P w = .ok (.enter f args) w:=by
 obtain⟨fn,c,hf,hb,hn⟩:=h;have h1 : fn.name ≠ "runtime.NumGoroutine" := by simpa using hn
 simp [callFunc,hf,h1,hb]
theorem Den.less {w:World} {O O':Nat→Prop} (h:∀ b,O' b→O b) {d:Data} {v:Value} (hd:Den w O d v):Den w O' d v :=
 hd.keep (TK _) fun b _ hb=>⟨rfl,fun hx=>hb (h b hx)⟩
theorem OwnRes.den {w w':World} {O:Nat→Prop} {sz:Nat} {es:List (List Data)} {v:Value} (hlt:∀ b,O b→b<w.heap.size) (h:OwnRes w w' O sz es v):Den w' O (.sl es) v:=by
 obtain⟨he,a,cap,rfl,h1,h2,h3⟩:=h;rcases h3 with rfl | ⟨b,vs,T,rfl,h4,h5,h6,h7⟩
 ·have:es=[]:=TS (by omega)
  subst this;exact .sl0
 ·have hbl:b<w'.heap.size:=(Array.getElem?_eq_some_iff.1 h5).1
  refine .sl (sz:=sz) (fun i=>vs.getD i undef) h1 (by omega) hbl (fun ho=>by have:=hlt b ho;omega) he (fun i hi=>?_) fun i d hd=>?_
  ·have hlt:i<es.flatten.length:=by rw[ja he];exact hi
   obtain⟨u,hu,_⟩:=h7 i _ (TP hlt);rw[cell_of_row w' b _ vs T (0,0) h5,TL,Array.getD_eq_getD_getElem?,hu]
   rfl
  ·obtain⟨u,hu,hd⟩:=h7 i d hd
   rw[Array.getD_eq_getD_getElem?,hu];exact hd.less fun b h => .inl h
theorem zi {w':World} {sz:Nat} {es:List (List Data)} {v:Value} (k:Key) (hmr:MemRel A w B mem) (f:Fr (fun _=>False) w w') (h:OwnRes w w' (OA A B) sz es v) :
  ∃ B',StepOK A w B w' B' (aB mem k (aC mem k) (es.flatten.map .dat))∧VR w' (OA A B') B' (.ref k (aC mem k) sz 0 es.length) v:=by
 obtain⟨he,a,cap,rfl,h1,h2,h3⟩:=h;have still:=StepOK.still hmr f;rcases h3 with rfl | ⟨b,vs,T,rfl,h4,h5,h6,h7⟩
 ·have:es=[]:=TS (by omega)
  subst this;exact⟨_,still.trans (StepOK.virtual still.mr k),.ref (ba _ _ _) (TK _) ⟨_,0,rfl,h1,h2,.inl rfl⟩⟩
 ·have hbl:b<w'.heap.size:=(Array.getElem?_eq_some_iff.1 h5).1
  have hblk:∀ b',(⟨aC mem k,some b,vs.size⟩:Bk).blk=some b'→w.heap.size≤b'∨∃ e,B k=some e∧e.blk=some b':=fun b' hb'=>by
   cases hb'
   exact .inl h4
  have hfl:=ja he;have hmul:es.length*sz≤cap*sz:=TX _ h1;have hold:∀ b',b'<w.heap.size→(∀ e,B k=some e→e.blk≠some b')→w'.heap[b']?=w.heap[b']?:=fun b' hb' _=>f.block b' hb' id
  have hg:∀ e,B k=some e→(⟨aC mem k,some b,vs.size⟩:Bk)=e∨e.g<(⟨aC mem k,some b,vs.size⟩:Bk).g:=fun e he => .inr (ma hmr k e he)
  refine⟨eY B k ⟨aC mem k,some b,vs.size⟩,⟨?_,Trans.change f.size hold hg hblk,⟨f.os,f.tape,f.output,f.size,fun b' hb' _=>f.block b' hb' id⟩,nc hblk⟩,?_⟩
  ·refine hmr.change' (e':=⟨aC mem k,some b,vs.size⟩) f.size hold hg hblk (fun h=>by cases h) fun b' hb'=>?_
   cases hb'
   refine⟨vs,T,h5,rfl,by rw[List.length_map,hfl];omega,fun i m hm=>?_⟩
   rw[TU,TN] at hm;obtain⟨d,hd,rfl⟩:=hm;obtain⟨u,hu,hden⟩:=h7 i d hd;refine⟨u,hu,.dat (hden.less fun b' hb'=>?_)⟩;rcases hb' with ⟨j,e,hj,hx⟩ | ha
   ·by_cases hjk:j=k
    ·subst hjk
     rw[ba] at hj
     cases hj
     cases hx;exact .inr rfl
    ·rw[aQ B _ hjk] at hj
     exact .inl (.inl ⟨j,e,hj,hx⟩)
   ·exact .inl (.inr ha)
  ·exact .ref (ba _ _ _) (TK _) ⟨_,cap,rfl,h1,h2,.inr ⟨b,rfl,fun _=>⟨rfl,by simpa using h6⟩⟩⟩
end Go.Mini
namespace Go.Mini
open Go
variable {P:Program} {T:Tab} {A:Nat→Prop} {w0 w:World} {B0 B:Lay} {mem:Mem} {n:Nat}
structure Sim (n:Nat) (A:Nat→Prop) (w0:World) (B0:Lay) (a:Act) (st:St) (w:World) (B:Lay):Prop where
 ok:StepOK A w0 B0 w B st.mem
 tm:∀ s,VR w (OA A B) B (st.tm s) (a.eval (.tmp s))
 sz:a.tmps.size=n
 df:a.defers=[]
theorem Sim.rho {a:Act} {st:St} (h:Sim n A w0 B0 a st w B) (x:Operand) (y:Opd) (hx:bo x=some y):VR w (OA A B) B (ev st.tm y) (a.eval x):=by
 cases x<;>simp only[bo,Option.some.injEq,TN,reduceCtorEq] at hx
 ·subst hx
  exact h.tm _
 ·obtain⟨m,hm,rfl⟩:=hx
  exact La hm
 ·subst hx
  exact .clo (vs:=[]) rfl fun i d v h1=>by simp at h1
theorem vg {a:Act} {s:Nat} {v:Value} (h:s<a.tmps.size):(a.put (some s) v).eval (.tmp s)=v:=by
 simp [Act.eval,Act.put,h]
theorem Sim.put {a:Act} {st:St} {w':World} {B':Lay} {mem':Mem} {dst:Option Nat} {r:MV} {v:Value} (h:Sim n A w0 B0 a st w B) (hs:StepOK A w B w' B' mem') (hr:VR w' (OA A B') B' r v)
  (hd:dst.all (fun d=>decide (d<n))=true):Sim n A w0 B0 (a.put dst v) ⟨Mini.put st.tm dst r,mem'⟩ w' B':=by
 refine⟨h.ok.trans hs,fun s=>?_,?_,?_⟩
 ·cases dst with
  | none=>exact (h.tm s).keep hs.tr
  | some d =>
   simp only[Option.all_some,decide_eq_true_eq] at hd
   by_cases hsd:s=d
   ·subst hsd
    rw[vg (by rw[h.sz];exact hd)];simp only[Mini.put,upd,if_true];exact hr
   ·rw[Act.eval_put (fun d' h1 h2=>by cases h1;cases h2;exact hsd rfl)]
    simp only[Mini.put,upd,if_neg hsd];exact (h.tm s).keep hs.tr
 ·cases dst<;>simp [Act.put,h.sz]
 ·cases dst<;>simp [Act.put,h.df]
theorem rD {a:Act} {st:St} {ops:Array Oper} {o:Oper} {g:Option (Nat × Bool)} {b:Bool} (h:Sim n A w0 B0 a st w B) (hg:rc ops o.guard=some g) (hb:f5 st.tm g=some b) :
  Region.wanted o (yielded ops a.tmps)=b:=by
 unfold Region.wanted
 cases hgd:o.guard with
 | none =>
  rw[hgd] at hg;simp only[rc,Option.some.injEq] at hg;subst hg;simp only[f5,Option.some.injEq] at hb;exact hb
 | some p =>
  obtain⟨j,c⟩:=p;rw[hgd] at hg;simp only[rc] at hg
  split at hg
  ·rename_i s hs
   simp only[Option.some.injEq] at hg;subst hg;have hv:=h.tm s
   have hy:yielded ops a.tmps j=match a.eval (.tmp s) with | .bool b=>some b | _=>none:=by
    unfold yielded;rw[hs];simp only[Option.bind_some,Act.eval,Array.getD_eq_getD_getElem?]
    cases a.tmps[s]? with
    | none=>rfl
    | some v=>cases v<;>rfl
   simp only[f5] at hb;simp only[hy]
   split at hb
   ·rename_i t ht
    rw[ht] at hv
    cases hv with
    | dat hv =>
     generalize a.eval (.tmp s)=u at *
     cases hv;simp only[Option.some.injEq] at hb;subst hb
     cases t<;>cases c<;>simp
   ·rename_i ht
    rw[ht] at hv;generalize a.eval (.tmp s)=u at *
    cases hv;simp only[Option.some.injEq] at hb;subst hb
    rfl
   ·cases hb
  ·cases hg
theorem vE {kb:Nat} {own:List Nat} {dst:Option Nat} {ty:TypeId} {op:Op} {f:FuncId} {args:List Opd} (h:jM P kb own dst ty op=some (.call f args)) :
  ∃ c:Call,op = .call c∧c.callee = .value (.func f)∧c.args.toList.mapM bo=some args:=by
 cases op<;>simp only[jM,sb,oR] at h
 case call c =>
  refine⟨c,rfl,?_⟩;unfold ni at h
  (repeat' split at h)<;>simp_all [Ub,TN]
 all_goals ((repeat' split at h)<;>simp_all [Ub,TN])
theorem C3 {kb:Nat} {own:List Nat} {dst:Option Nat} {ty:TypeId} {op:Op} {f:FuncId} {lo:Nat} {args:List Opd} (h:jM P kb own dst ty op=some (.callm lo f args)) :
  ∃ c:Call,op = .call c∧c.callee = .value (.func f)∧c.args.toList.mapM bo=some args:=by
 cases op<;>simp only[jM,sb,oR] at h
 case call c =>
  refine⟨c,rfl,?_⟩;unfold ni at h
  (repeat' split at h)<;>simp_all [Ub,TN]
  all_goals
   obtain⟨_,h1,_,rfl,rfl⟩:=h;exact⟨rfl,h1⟩
 all_goals ((repeat' split at h)<;>simp_all [Ub,TN])
theorem Dh {kb:Nat} {own:List Nat} {dst:Option Nat} {ty:TypeId} {op:Op} {f:FuncId} {lo:Nat} {args:List Opd} (h:jM P kb own dst ty op=some (.callz lo f args)) :
  ∃ c:Call,op = .call c∧c.callee = .value (.func f)∧c.args.toList.mapM bo=some args:=by
 cases op<;>simp only[jM,sb,oR] at h
 case call c =>
  refine⟨c,rfl,?_⟩;unfold ni at h
  (repeat' split at h)<;>simp_all [Ub,TN]
  all_goals
   obtain⟨_,h1,_,rfl,rfl⟩:=h;exact⟨rfl,h1⟩
 all_goals ((repeat' split at h)<;>simp_all [Ub,TN])
theorem tg {kb:Nat} {own:List Nat} {dst:Option Nat} {ty:TypeId} {op:Op} {f:FuncId} {k:Key} {sz:Nat} {args:List Opd} (h:jM P kb own dst ty op=some (.callo k sz f args)) :
  ∃ c:Call,op = .call c∧c.callee = .value (.func f)∧c.args.toList.mapM bo=some args:=by
 cases op<;>simp only[jM,sb,oR] at h
 case call c =>
  refine⟨c,rfl,?_⟩;unfold ni at h
  (repeat' split at h)<;>simp_all [Ub,TN]
  obtain⟨_,_,_,_,_,h1,_,_,rfl,rfl⟩:=h;exact⟨rfl,h1⟩
 all_goals ((repeat' split at h)<;>simp_all [Ub,TN])
theorem C8 {kb:Nat} {own:List Nat} {dst:Option Nat} {ty:TypeId} {op:Op} {f:Opd} {args:List Opd} (h:jM P kb own dst ty op=some (.callv f args)) :
  ∃ (c:Call) (x:Operand),op = .call c∧c.callee = .value x∧bo x=some f∧c.args.toList.mapM bo=some args:=by
 cases op<;>simp only[jM,sb,oR] at h
 case call c =>
  refine⟨c,?_⟩;unfold ni at h
  (repeat' split at h)<;>simp_all [Ub,TN]
 all_goals ((repeat' split at h)<;>simp_all [Ub,TN])
theorem BX {kb:Nat} {own:List Nat} {dst:Option Nat} {ty:TypeId} {op:Op} {neg:Bool} {x:Opd} (h:jM P kb own dst ty op=some (.isnil neg x)) :
  ∃ (t e:TypeId) (y y':Operand) (z:TypeId),op = .binOp (if neg then .neq else .eql) t y y' z∧C9 y'=true∧P.underlying t=some (.slice e)∧bo y=some x:=by
 cases op<;>simp only[jM,sb,oR] at h
 case call c =>
  unfold ni at h
  (repeat' split at h)<;>simp_all [Ub,TN]
 case binOp bop t y y' z =>
  (repeat' split at h)<;>simp_all [Ub,TN]
  all_goals
   obtain⟨h1,rfl⟩:=h;exact⟨_,_,_,_,⟨rfl,rfl,rfl⟩,by assumption,by assumption,h1⟩
 all_goals ((repeat' split at h)<;>simp_all [Ub,TN])
end Go.Mini
namespace Go.Mini
open Go
variable {P:Program} {T:Tab} {A:Nat→Prop} {w0 w:World} {B0 B:Lay} {mem:Mem} {n:Nat}
theorem MN {t e:TypeId} {y y':Operand} {m:MV} {u v:Value} {O:Nat→Prop} {full:Bool} (neg:Bool) (ht:P.underlying t=some (.slice e)) (hm:VR w O B m u) (hf:uH m=some full) (hv:v = .slice none 0 0) :
  ∃ b:Bool,(full=true→b=false)∧((do eqGuard (if neg then .neq else .eql) t y y' u v;binOp (if neg then .neq else .eql) t u v:Sem Value)).run P w = .ok (.bool (neg != b)) w:=by
 subst hv
 have shape:∃ a len cap,u = .slice a len cap∧(full=true→a.isNone=false):=by
  cases m<;>simp only[uH,reduceCtorEq] at hf
  case dat d =>
   cases d<;>simp only[uH,Option.some.injEq,reduceCtorEq] at hf
   cases hm with
   | dat hd =>
    cases hd with
    | sl0=>exact⟨_,_,_,rfl,fun h=>by cases hf;cases h⟩
    | sl=>exact⟨_,_,_,rfl,fun _=>rfl⟩
  case nil =>
   cases hm with
   | nil=>exact⟨_,_,_,rfl,fun h=>by cases hf;cases h⟩
  case ref k g sz off len =>
   cases hm with
   | ref he hg hr =>
    obtain⟨a,cap,rfl,h1,h2,h3⟩:=hr;refine⟨_,_,_,rfl,fun h=>?_⟩
    simp only[Option.some.injEq] at hf;subst hf;simp only[decide_eq_true_eq] at h;rcases h3 with h3 | ⟨b,rfl,_⟩
    ·omega
    ·rfl
 obtain⟨a,len,cap,rfl,hb⟩:=shape;refine⟨a.isNone,hb,?_⟩
 have he:∀ d,(Op.equalIn (d+1) t (.slice a len cap) (.slice none 0 0)).run P w = .ok a.isNone w:=fun d=>by
  unfold Op.equalIn;simp only[Sem.run_bind,run_underlying ht,Result.andThen_ok]
  cases a<;>rfl
 have heq:(Op.equal t (.slice a len cap) (.slice none 0 0)).run P w = .ok a.isNone w:=he 9999;rw[jB (by simp) (by simp)]
 cases neg
 ·simp only[Uc,if_false,Sem.run_bind,Sem.run_pure,Result.andThen_ok]
  show (do pure (Value.bool (←Op.equal t (.slice a len cap) (.slice none 0 0))):Sem Value).run P w=_;simp [heq]
 ·simp only[if_true,Sem.run_bind,Sem.run_pure,Result.andThen_ok]
  show (do pure (Value.bool (!(←Op.equal t (.slice a len cap) (.slice none 0 0)))):Sem Value).run P w=_;simp [heq]
structure Is (P:Program) (n kb:Nat) (own:List Nat) (ops:Array Oper) (o:Oper) (i:MI):Prop where
 dst:i.dst=o.dst
 guard:rc ops o.guard=some i.g
 op:i.op=(jM P kb own o.dst o.type o.op).getD .bad
 lt:o.dst.all (fun d=>decide (d<n))=true
theorem Nu {kb:Nat} {own:List Nat} {ops:Array Oper} {o:Oper} {i:MI} (h:n0 P n kb own ops o=some i):Is P n kb own ops o i:=by
 unfold n0 at h
 split at h
 ·rename_i g hg
  split at h
  ·rename_i hlt
   cases h;exact⟨rfl,hg,rfl,hlt⟩
  ·cases h
 ·cases h
theorem y9 {K:St→Prop} {i:MI} {st:St} (h:cN T K i st) :
  (∃ m e,sop st.mem st.tm i.op=some (m,e)∧K ⟨put st.tm i.dst m,gN st.mem e⟩) ∨
  (∃ f args,i.op = .call f args∧nm T K st i.dst f (args.map (ev st.tm))) ∨
  (∃ k sz f args es,i.op = .callo k sz f args∧T f (args.map (ev st.tm)) st.mem=some (.own sz es)∧K ⟨put st.tm i.dst (.ref k (aC st.mem k) sz 0 es.length),aB st.mem k (aC st.mem k) (es.flatten.map .dat)⟩) ∨
  (∃ f args,i.op = .callv f args∧((∃ g caps,ev st.tm f = .clo g caps∧nm T K st i.dst g (args.map (ev st.tm)++caps))∨(∃ g ds,ev st.tm f = .dat (.fn g ds)∧nm T K st i.dst g (args.map (ev st.tm)++ds.map .dat)))) ∨
  (∃ neg x full,i.op = .isnil neg x∧uH (ev st.tm x)=some full∧∀ b:Bool,(full=true→b=false)→K ⟨put st.tm i.dst (.dat (.bool (neg != b))),st.mem⟩):=by
 obtain⟨dst,g,op⟩:=i;unfold cN at h
 split at h
 ·rename_i f args hop
  exact .inr (.inl ⟨f,args,hop,h⟩)
 ·rename_i k sz f args hop
  split at h
  ·rename_i sz' es he
   split at h
   ·rename_i hs
    subst hs;exact .inr (.inr (.inl ⟨k,_,f,args,es,hop,he,h⟩))
   ·cases h
  ·cases h
 ·rename_i f args hop
  refine .inr (.inr (.inr (.inl ⟨f,args,hop,?_⟩)))
  split at h
  ·rename_i g caps hf
   exact .inl ⟨g,caps,hf,h⟩
  ·rename_i g ds hf
   exact .inr ⟨g,ds,hf,h⟩
  ·cases h
 ·rename_i neg x hop
  split at h
  ·rename_i full hf
   exact .inr (.inr (.inr (.inr ⟨neg,x,full,hop,hf,h⟩)))
  ·cases h
 ·split at h
  ·rename_i m e he
   exact .inl ⟨m,e,he,h⟩
  ·cases h
theorem getD_some {α:Type} {x:Option α} {b c:α} (h:c=x.getD b) (hb:c≠b):x=some c:=by
 cases x with
 | none=>exact absurd h hb
 | some y=>simp at h;rw[h]
theorem Ao (hT:j8 P T) {K:St→Prop} {a:Act} {st:St} {o:Oper} {Q:Exit→Act→World→Prop} {f:FuncId} {args:List MV} {vs:List Value} (h:Sim n A w0 B0 a st w B) (hlt:o.dst.all (fun d=>decide (d<n))=true)
  (hv:RL w (OA A B) B args vs) (hk:nm T K st o.dst f args) (hrun:Real P f→(execOp a.eval o).run P w = .ok (.enter f vs.toArray) w) :
  o.wp P a w (fun a' w'=>∃ st' B',K st'∧Sim n A w0 B0 a' st' w' B') Q:=by
 unfold nm at hk;unfold Oper.wp
 cases hTf:T f args st.mem with
 | none=>rw[hTf] at hk;exact hk.elim
 | some eff =>
  obtain⟨hreal,hspec⟩:=hT f args st.mem eff hTf;have hc:=hspec A w B vs h.ok.mr hv;rw[hTf] at hk;rw[hrun hreal]
  cases eff with
  | same r =>
   refine Calls.mono hc fun e w' he=>?_
   obtain⟨v,rfl,hfr,hd⟩:=he;exact⟨_,B,hk,h.put (.still h.ok.mr hfr) (.dat hd) hlt⟩
  | own sz es =>
   refine Calls.mono hc fun e w' he=>?_
   obtain⟨v,rfl,hfr,hd⟩:=he;refine⟨_,B,hk,h.put (.still h.ok.mr hfr) (.dat (hd.den fun b hb=>?_)) hlt⟩;rcases hb with hb | hb
   ·exact h.ok.mr.own_lt hb
   ·exact h.ok.mr.lt b hb
  | rel R =>
   refine Calls.mono hc fun e w' he=>?_
   obtain⟨v,r,mem',B',rfl,hs,hd,hR⟩:=he;exact⟨_,B',hk r mem' hR,h.put hs hd hlt⟩
  | upd r k g i c =>
   refine Calls.mono hc fun e w' he=>?_
   obtain⟨v,B',rfl,hs,hd⟩:=he;exact⟨_,B',hk,h.put hs hd hlt⟩
theorem Hz {O:Nat→Prop} {m:MV} {u:Value} {g:FuncId} {caps:List MV} (hm:VR w O B m u) (h:m = .clo g caps∨∃ ds,m = .dat (.fn g ds)∧caps=ds.map .dat) :
  ∃ cs:List Value,u = .func (.func g) #[] cs.toArray∧RL w O B caps cs:=by
 rcases h with rfl | ⟨ds,rfl,rfl⟩
 ·cases hm with
  | clo hl hd=>exact⟨_,rfl,hl,hd⟩
 ·cases hm with
  | dat hd =>
   cases hd with
   | fn hl hd=>exact⟨_,rfl,RL.dat hl hd⟩
theorem H9 (hT:j8 P T) {K:St→Prop} {kb:Nat} {own:List Nat} {ops:Array Oper} {a:Act} {st:St} {o:Oper} {i:MI} {Q:Exit→Act→World→Prop} (h:Sim n A w0 B0 a st w B) (hi:Is P n kb own ops o i)
  (hk:cN T K i st):o.wp P a w (fun a' w'=>∃ st' B',K st'∧Sim n A w0 B0 a' st' w' B') Q:=by
 have hop:=hi.op;rcases y9 hk with ⟨m,e,hs,hK⟩ | ⟨f,args,he,hK⟩ | ⟨k,sz,f,args,es,he,hTf,hK⟩ | ⟨f,args,he,hK⟩ | ⟨neg,x,full,he,hf,hK⟩
 ·have htr:jM P kb own o.dst o.type o.op=some i.op:=getD_some hop (by
   intro hb;rw[hb] at hs
   cases hs)
  obtain⟨nx,v,w',B',hrun,hnx,hst,hv⟩:=Ay h.ok.mr h.rho htr hs;unfold Oper.wp;rw[hrun];rw[hi.dst] at hK;have hsim:=h.put hst hv hi.lt;rcases hnx with rfl | ⟨rfl,rfl⟩
  ·exact⟨_,B',hK,hsim⟩
  ·exact⟨_,B',hK,hsim⟩
 ·have htr:jM P kb own o.dst o.type o.op=some i.op:=getD_some hop (by rw[he];simp)
  rw[he] at htr;obtain⟨c,hc,hcal,hargs⟩:=vE htr;rw[hi.dst] at hK;refine Ao hT h hi.lt (fJ h.rho hargs) hK fun hreal=>?_
  obtain⟨dst,op,type,pos,after,guard⟩:=o;simp only at hc;subst hc;obtain⟨callee,cargs,ats⟩:=c;simp only at hcal;subst hcal;simp only[execOp,resolve,Deferred.ofValue,Act.eval,invoke,Sem.run_bind,Sem.run_pure,Result.andThen_ok,na hreal];rw[cY cargs];simp
 ·have htr:jM P kb own o.dst o.type o.op=some i.op:=getD_some hop (by rw[he];simp)
  rw[he] at htr;obtain⟨c,hc,hcal,hargs⟩:=tg htr;rw[hi.dst] at hK;obtain⟨hreal,hspec⟩:=hT f _ st.mem _ hTf;have hcc:=hspec A w B _ h.ok.mr (fJ h.rho hargs);have hlt:=hi.lt;obtain⟨dst,op,type,pos,after,guard⟩:=o;simp only at hc;subst hc;obtain⟨callee,cargs,ats⟩:=c;simp only at hcal hargs;subst hcal
  have hrun:(execOp a.eval ⟨dst,.call ⟨.value (.func f),cargs,ats⟩,type,pos,after,guard⟩).run P w = .ok (.enter f (cargs.toList.map a.eval).toArray) w:=by
   simp only[execOp,resolve,Deferred.ofValue,Act.eval,invoke,Sem.run_bind,Sem.run_pure,Result.andThen_ok,na hreal];rw[cY cargs];simp
  unfold Oper.wp;rw[hrun];refine Calls.mono hcc fun e w' hee=>?_
  obtain⟨v,rfl,hfr,hd⟩:=hee;obtain⟨B',hst,hv⟩:=zi k h.ok.mr hfr hd;exact⟨_,B',hK,h.put hst hv hlt⟩
 ·have htr:jM P kb own o.dst o.type o.op=some i.op:=getD_some hop (by rw[he];simp)
  rw[he] at htr;obtain⟨c,x,hc,hcal,hx,hargs⟩:=C8 htr;rw[hi.dst] at hK;have hfx:=h.rho _ _ hx
  have main:∀ g caps,(ev st.tm f = .clo g caps∨∃ ds,ev st.tm f = .dat (.fn g ds)∧caps=ds.map .dat)→nm T K st o.dst g (args.map (ev st.tm)++caps)→o.wp P a w (fun a' w'=>∃ st' B',K st'∧Sim n A w0 B0 a' st' w' B') Q:=by
   intro g caps hg hK;obtain⟨cs,hu,hrl⟩:=Hz hfx hg;refine Ao hT h hi.lt ((fJ h.rho hargs).append hrl) hK fun hreal=>?_
   obtain⟨dst,op,type,pos,after,guard⟩:=o;simp only at hc;subst hc;obtain⟨callee,cargs,ats⟩:=c;simp only at hcal;subst hcal;simp only[execOp,resolve,hu,Deferred.ofValue,invoke,Sem.run_bind,Sem.run_pure,Result.andThen_ok,na hreal];rw[cY cargs];simp
  rcases hK with ⟨g,caps,hg,hK⟩ | ⟨g,ds,hg,hK⟩
  ·exact main g caps (.inl hg) hK
  ·exact main g _ (.inr ⟨ds,hg,rfl⟩) hK
 ·have htr:jM P kb own o.dst o.type o.op=some i.op:=getD_some hop (by rw[he];simp)
  rw[he] at htr;obtain⟨t,e,y,y',z,hc,hn,ht,hy⟩:=BX htr;rw[hi.dst] at hK
  have hyn:a.eval y' = .slice none 0 0:=by
   unfold C9 at hn
   split at hn
   ·rfl
   ·cases hn
  obtain⟨b,hb,hrun⟩:=MN (y:=y) (y':=y') neg ht (h.rho _ _ hy) hf hyn;obtain⟨dst,op,type,pos,after,guard⟩:=o;simp only at hc;subst hc;unfold Oper.wp
  have:(execOp a.eval ⟨dst,.binOp (if neg then .neq else .eql) t y y' z,type,pos,after,guard⟩).run P w = .ok (.value (.bool (neg != b))) w:=by
   simp only[execOp];rw[Sem.run_bind,hrun]
   rfl
  rw[this];exact⟨_,B,hK b hb,h.put (.refl h.ok.mr) (.dat .bool) hi.lt⟩
end Go.Mini
namespace Go.Mini
open Go
variable {T:Tab}
theorem aS {tm tm':Nat→MV} {x:Opd} (h:∀ s∈dB x,tm s=tm' s):ev tm x=ev tm' x:=by
 cases x with
 | t s=>exact h s (by simp [dB])
 | c m=>rfl
theorem mz {tm tm':Nat→MV} {l:List Opd} (h:∀ s∈l.flatMap dB,tm s=tm' s):l.map (ev tm)=l.map (ev tm') :=
 Ud fun x hx=>aS fun s hs=>h s (List.mem_flatMap.2 ⟨x,hx,hs⟩)
theorem o6 {tm tm':Nat→MV} {l:List Opd} (h:∀ s∈l.flatMap dB,tm s=tm' s):(l.map fun x=>shut (ev tm x))=l.map fun x=>shut (ev tm' x) :=
 Ud fun x hx=>by rw[aS fun s hs=>h s (List.mem_flatMap.2 ⟨x,hx,hs⟩)]
theorem jf {tm tm':Nat→MV} {x:Option Opd} (h:∀ s∈vz x,tm s=tm' s):x.map (ev tm)=x.map (ev tm'):=by
 cases x with
 | none=>rfl
 | some x =>
  cases x with
  | t s=>simp [ev,h s (by simp [vz])]
  | c m=>rfl
theorem nQ {tm tm':Nat→MV}:∀ {ps:List (Nat × Nat × Opd)} (cs:List MV),(∀ s∈ps.flatMap (fun p=>dB p.2.2),tm s=tm' s)→fq (ev tm) cs ps=fq (ev tm') cs ps
 | [],_,_=>rfl
 | (o,s,x)::ps,cs,h=>by
  have h1:ev tm x=ev tm' x:=aS fun t ht=>h t (List.mem_flatMap.2 ⟨(o,s,x),by simp,ht⟩)
  simp only[fq,h1]
  split
  ·exact nQ _ fun t ht=>h t (by simp only[List.flatMap_cons,Ue];exact .inr ht)
  ·rfl
theorem N3 {mem:Mem} {tm tm':Nat→MV} {op:MOp} (h:∀ s∈opds op,tm s=tm' s):sop mem tm op=sop mem tm' op:=by
 cases op<;>simp only[opds,Ue] at h
 case mv x=>simp only[sop,qop,aS h]
 case pick c a b=>simp only[sop,qop,aS (fun s hs=>h s (.inl (.inl hs))),aS (fun s hs=>h s (.inl (.inr hs))),aS (fun s hs=>h s (.inr hs))]
 case alloc=>rfl
 case box k x=>simp only[sop,aS h]
 case build z ps=>simp only[sop,qop,nQ _ h]
 case bsl k o z sz len ps=>cases o<;>simp only[sop,qop,nQ _ h]
 case load n ag x=>simp only[sop,aS h]
 case store n x v=>simp only[sop,aS (fun s hs=>h s (.inl hs)),aS (fun s hs=>h s (.inr hs))]
 case bin o x y=>simp only[sop,qop,aS (fun s hs=>h s (.inl hs)),aS (fun s hs=>h s (.inr hs))]
 case beq o x y=>simp only[sop,qop,aS (fun s hs=>h s (.inl hs)),aS (fun s hs=>h s (.inr hs))]
 case eqs o l x y=>simp only[sop,qop,aS (fun s hs=>h s (.inl hs)),aS (fun s hs=>h s (.inr hs))]
 case isnil=>rfl
 case un o x=>simp only[sop,qop,aS h]
 case conv k x=>simp only[sop,qop,aS h]
 case nchk x=>simp only[sop,qop,aS h]
 case mksl k z b x y=>simp only[sop,aS (fun s hs=>h s (.inl hs)),aS (fun s hs=>h s (.inr hs))]
 case fad o x=>simp only[sop,qop,aS h]
 case fld o n ag x=>simp only[sop,qop,aS h]
 case iad s x i=>simp only[sop,qop,aS (fun s hs=>h s (.inl hs)),aS (fun s hs=>h s (.inr hs))]
 case iada n s x i=>simp only[sop,qop,aS (fun s hs=>h s (.inl hs)),aS (fun s hs=>h s (.inr hs))]
 case idxs x i=>simp only[sop,qop,aS (fun s hs=>h s (.inl hs)),aS (fun s hs=>h s (.inr hs))]
 case slc s x a b c =>
  have h1:=aS (fun s hs=>h s (.inl (.inl (.inl hs))))
  have h2:=jf (fun s hs=>h s (.inl (.inl (.inr hs))))
  have h3:=jf (fun s hs=>h s (.inl (.inr hs)));have h4:=jf (fun s hs=>h s (.inr hs))
  cases b<;>cases c<;>simp only[TW,Uf,Option.some.injEq] at h3 h4<;>simp only[sop,qop,TW,Uf,h1,h2,h3,h4]
 case slca n s x a b c =>
  have h1:=aS (fun s hs=>h s (.inl (.inl (.inl hs))))
  have h2:=jf (fun s hs=>h s (.inl (.inl (.inr hs))))
  have h3:=jf (fun s hs=>h s (.inl (.inr hs)))
  cases c<;>simp only[sop,qop,h1,h2,h3]
 case slcs x a b=>simp only[sop,qop,aS (fun s hs=>h s (.inl (.inl hs))),jf (fun s hs=>h s (.inl (.inr hs))),jf (fun s hs=>h s (.inr hs))]
 case ext i x=>simp only[sop,qop,aS h]
 case len x=>simp only[sop,qop,aS h]
 case lens x=>simp only[sop,qop,aS h]
 case app k z b s x=>simp only[sop,aS (fun s hs=>h s (.inl hs)),aS (fun s hs=>h s (.inr hs))]
 case cpy s d x=>simp only[sop,aS (fun s hs=>h s (.inl hs)),aS (fun s hs=>h s (.inr hs))]
 case clr z x=>simp only[sop,aS h]
 case mm o x y=>simp only[sop,qop,aS (fun s hs=>h s (.inl hs)),aS (fun s hs=>h s (.inr hs))]
 case call=>rfl
 case callo=>rfl
 case callv=>rfl
 case callm=>rfl
 case callz=>rfl
 case mkfn f l=>simp only[sop,qop,mz h]
 case bad=>rfl
theorem DY {mem:Mem} {tm tm':Nat→MV} {op:MOp} (h:∀ s∈opds op,tm s=tm' s):gS T mem tm op=gS T mem tm' op:=by
 cases op
 case call f l =>
  have:=o6 (l:=l) (tm:=tm) (tm':=tm') (by simpa [opds] using h);simp only[gS,this]
 case callo k sz f l =>
  have:=o6 (l:=l) (tm:=tm) (tm':=tm') (by simpa [opds] using h);simp only[gS,this]
 case callv=>rfl
 case isnil=>rfl
 case callm lo f l =>
  have:=mz (l:=l) (tm:=tm) (tm':=tm') (by simpa [opds] using h);simp only[gS,this]
 case callz j f l =>
  have h1:=mz (l:=l) (tm:=tm) (tm':=tm') (by simpa [opds] using h);have h2:=o6 (l:=l) (tm:=tm) (tm':=tm') (by simpa [opds] using h);simp only[gS,h1,h2]
 all_goals exact N3 (mem:=mem) h
theorem EG {tm tm':Nat→MV} {op:MOp} (h:∀ s∈opds op,tm s=tm' s):foot tm op=foot tm' op:=by
 cases op<;>simp only[opds,Ue] at h<;>try rfl
 case bsl k o z sz len ps=>cases o<;>rfl
 case load n ag x=>simp only[foot,aS h]
 case slca n s x a b c=>simp only[foot,aS (fun s hs=>h s (.inl (.inl (.inl hs))))]
 case store n x v=>simp only[foot,aS (fun s hs=>h s (.inl hs))]
 case app k z b s x=>simp only[foot,aS (fun s hs=>h s (.inl hs)),aS (fun s hs=>h s (.inr hs))]
 case cpy s d x=>simp only[foot,aS (fun s hs=>h s (.inl hs)),aS (fun s hs=>h s (.inr hs))]
 case callm lo f l=>simp only[foot,mz h]
 case callz j f l=>simp only[foot,mz h]
 case clr z x=>simp only[foot,aS h]
theorem Hf {n:Nat} {m:MV} {Q:Key→Prop} (h:∀ x∈vX n m,Q x.key):∀ j∈dX m,Q j:=by
 cases m<;>simp_all [vX,dX,FK.key]
theorem za {mem mem':Mem} {sz:Nat} {m:MV} (h:∀ k∈dX m,mem k=mem' k):oM mem sz m=oM mem' sz m:=by
 cases m<;>try rfl
 case dat d=>cases d<;>rfl
 simp only[oM];rw[h _ (by simp [dX])]
theorem JY {mem mem':Mem} {k:Key} {z:List MV} {b:Nat} {m:MV} {row:Option (Nat × List MV)} (hk:mem k=mem' k) (h:∀ j∈dX m,mem j=mem' j):pB mem k z b m row=pB mem' k z b m row:=by
 cases m<;>cases row<;>try rfl
 ·simp only[pB,aC,hk]
 ·simp only[pB]
  rw[h _ (by simp [dX])]
theorem Kq {mem mem':Mem} {sz:Nat} {m:MV} {row:Option (Nat × List MV)} (h:∀ j∈dX m,mem j=mem' j):u5 mem sz m row=u5 mem' sz m row:=by
 cases m<;>cases row<;>try rfl
 simp only[u5];rw[h _ (by simp [dX])]
theorem Kb {mem mem':Mem} {z:List MV} {m:MV} (h:∀ j∈dX m,mem j=mem' j):vu mem z m=vu mem' z m:=by
 cases m<;>try rfl
 simp only[vu];rw[h _ (by simp [dX])]
theorem FA {mem mem':Mem} {n:Nat} {ag:Bool} {m:MV} (h:∀ j∈dX m,mem j=mem' j):jZ mem n ag m=jZ mem' n ag m:=by
 cases m<;>try rfl
 case dat d=>cases d<;>rfl
 simp only[jZ];rw[h _ (by simp [dX])]
theorem Dj {mem mem':Mem} {n:Nat} {m:MV} {v:List MV} (h:∀ j∈dX m,mem j=mem' j):lJ mem n m v=lJ mem' n m v:=by
 cases m<;>try rfl
 simp only[lJ];rw[h _ (by simp [dX])]
theorem GV {mem mem':Mem} {n s a b:Nat} {m:MV} (h:∀ j∈dX m,mem j=mem' j):r6 mem n s a b m=r6 mem' n s a b m:=by
 cases m<;>try rfl
 simp only[r6];rw[h _ (by simp [dX])]
theorem Ls {mem mem':Mem} {tm:Nat→MV} {op:MOp} (h:∀ x∈foot tm op,mem x.key=mem' x.key):sop mem tm op=sop mem' tm op:=by
 have nx:∀ k,mem k=mem' k→aC mem k=aC mem' k:=fun k hk=>by simp only[aC,hk]
 cases op<;>try rfl
 case alloc k z=>simp only[sop,nx k (h (.wh k) (by simp [foot]))]
 case box k x=>simp only[sop,nx k (h (.wh k) (by simp [foot]))]
 case bsl k o z sz len ps =>
  cases o
  ·rfl
  ·simp only[sop,nx k (h (.wh k) (by simp [foot]))]
 case mksl k z b x y=>simp only[sop,nx k (h (.wh k) (by simp [foot]))]
 case load n ag x =>
  simp only[sop];rw[FA (Hf (Q:=fun j=>mem j=mem' j) h)]
 case slca n s x a b c =>
  cases c
  ·simp only[sop]
   congr 2
   funext l
   congr 1
   funext hh
   exact GV fun j hj=>h (.wh j) (by simp [foot,hj])
  ·rfl
 case store n x v =>
  simp only[sop];exact Dj fun j hj=>h (.wh j) (by simp [foot,hj])
 case app k z b s x =>
  have h':∀ j,j=k∨j∈dX (ev tm s)∨j∈dX (ev tm x)→mem j=mem' j:=fun j hj=>h (.wh j) (by simpa [foot] using hj)
  simp only[sop,za (sz:=z.length) (fun j hj=>h' j (.inr (.inr hj)))];exact JY (h' k (.inl rfl)) fun j hj=>h' j (.inr (.inl hj))
 case cpy s d x =>
  have h':∀ j,j∈dX (ev tm d)∨j∈dX (ev tm x)→mem j=mem' j:=fun j hj=>h (.wh j) (by simpa [foot] using hj)
  simp only[sop,za (sz:=s) (fun j hj=>h' j (.inr hj))];exact Kq fun j hj=>h' j (.inl hj)
 case clr z x =>
  simp only[sop];exact Kb fun j hj=>h (.wh j) (by simp [foot,hj])
theorem By {mem mem':Mem} {tm:Nat→MV} {op:MOp} (hc:∀ lo f l,op ≠ .callm lo f l) (h:∀ x∈foot tm op,mem x.key=mem' x.key):gS T mem tm op=gS T mem' tm op:=by
 cases op
 case call=>rfl
 case callo k sz f l =>
  have:aC mem k=aC mem' k:=by
   have:=h (.wh k) (by simp [foot]);simp only[FK.key] at this;simp only[aC,this]
  simp only[gS,this]
 case callm lo f l=>exact absurd rfl (hc lo f l)
 case callz j f l =>
  simp only[gS]
  cases hm:(l.map (ev tm))[j]? with
  | none=>rfl
  | some m =>
   cases m<;>try rfl
   have:=h (.wh _) (by simp only[foot,hm,wH];exact Ug);simp only[FK.key] at this;simp only[IP,this]
 case callv=>rfl
 case isnil=>rfl
 all_goals exact Ls (mem:=mem) (mem':=mem') (tm:=tm) h
theorem ot {x:Option MV} {m:MV} {e:Option (Key × Nat × List MV)} (h:iD x=some (m,e)):e=none:=(AM h).2
theorem LL {mem:Mem} {tm:Nat→MV} {op:MOp} {m:MV} {e:Option (Key × Nat × List MV)} (h:sop mem tm op=some (m,e)):e=none∨(wrs op=true∧∃ k g cs,e=some (k,g,cs) ∧ .wh k∈foot tm op):=by
 cases op<;>try (first | exact .inl (ot h) | exact .inl (ot (x:=some _) h))
 case alloc k z =>
  simp only[sop,Option.some.injEq,Prod.mk.injEq] at h;exact .inr ⟨rfl,_,_,_,h.2.symm,by simp [foot]⟩
 case box k x =>
  simp only[sop] at h
  split at h<;>simp only[Option.some.injEq,Prod.mk.injEq,reduceCtorEq] at h
  exact .inr ⟨rfl,_,_,_,h.2.symm,by simp [foot]⟩
 case bsl k o z sz len ps =>
  cases o
  ·exact .inl (ot h)
  ·simp only[sop,vN] at h
   (repeat' split at h)<;>simp only[Option.some.injEq,Prod.mk.injEq,reduceCtorEq] at h
   exact .inr ⟨rfl,_,_,_,h.2.symm,by simp [foot]⟩
 case mksl k z b x y =>
  obtain⟨_,_,_,_,h⟩:=wF h;simp only[vK] at h
  split at h<;>simp only[Option.some.injEq,Prod.mk.injEq,reduceCtorEq] at h
  exact .inr ⟨rfl,_,_,_,h.2.symm,by simp [foot]⟩
 case slca n s x a b c =>
  cases c
  ·exact .inl (ot h)
  ·cases h
 case store n x v =>
  simp only[sop] at h
  cases hx:ev tm x<;>rw[hx] at h<;>simp only[lJ,reduceCtorEq] at h
  simp only[u6] at h
  (repeat' split at h)<;>simp only[Option.some.injEq,Prod.mk.injEq,reduceCtorEq] at h
  exact .inr ⟨rfl,_,_,_,h.2.symm,by simp [foot,hx,dX]⟩
 case app k z b s x =>
  simp only[sop] at h
  cases hr:oM mem z.length (ev tm x)<;>cases hs:ev tm s<;>rw[hr,hs] at h<;>simp only[pB,reduceCtorEq] at h
  ·split at h<;>simp only[Option.some.injEq,Prod.mk.injEq,reduceCtorEq] at h
   exact .inr ⟨rfl,_,_,_,h.2.symm,by simp [foot]⟩
  ·simp only[jR] at h
   (repeat' split at h)<;>simp only[Option.some.injEq,Prod.mk.injEq,reduceCtorEq] at h
   exact .inr ⟨rfl,_,_,_,h.2.symm,by simp [foot,hs,dX]⟩
 case cpy s d x =>
  simp only[sop] at h
  cases hr:oM mem s (ev tm x)<;>cases hs:ev tm d<;>rw[hr,hs] at h<;>simp only[u5,reduceCtorEq] at h
  simp only[AV] at h
  (repeat' split at h)<;>simp only[Option.some.injEq,Prod.mk.injEq,reduceCtorEq] at h
  exact .inr ⟨rfl,_,_,_,h.2.symm,by simp [foot,hs,dX]⟩
 case clr z x =>
  simp only[sop] at h
  cases hs:ev tm x<;>rw[hs] at h<;>simp only[vu,reduceCtorEq] at h
  simp only[LQ] at h
  (repeat' split at h)<;>simp only[Option.some.injEq,Prod.mk.injEq,reduceCtorEq] at h
  exact .inr ⟨rfl,_,_,_,h.2.symm,by simp [foot,hs,dX]⟩
 all_goals cases h
theorem BI {mem:Mem} {j:Nat} {f:FuncId} {ms:List MV} {x:Option MV} {m:MV} {e:Option (Key × Nat × List MV)} (h:IP T mem j f ms x=some (m,e)) :
  ∃ k g sz off len cs d r,x=some (.ref k g sz off len)∧mem k=some (g,cs)∧KC sz off len cs=some d∧LT (T f (ms.set j (.dat d)) emp)=some r∧m = .dat r∧e=some (k,aC mem k,[]):=by
 unfold IP at h
 split at h
 ·rename_i k g sz off len
  unfold NT at h
  split at h
  ·rename_i g' cs hm
   split at h
   ·rename_i hg
    subst hg
    split at h
    ·rename_i d hd
     split at h
     ·rename_i r hr
      simp only[Option.some.injEq,Prod.mk.injEq] at h;exact⟨k,_,sz,off,len,cs,d,r,rfl,hm,hd,hr,h.1.symm,by rw[←h.2];simp [aC,hm]⟩
     ·cases h
    ·cases h
   ·cases h
  ·cases h
 ·cases h
theorem AO {lo:Nat} {mem:Mem} {ms:List MV} {x:Option Eff} {m:MV} {e:Option (Key × Nat × List MV)} (h:Gk lo mem ms x=some (m,e)) :
  ∃ r k g i c cs,x=some (.upd r k g i c)∧mem k=some (g,cs)∧m = .dat r∧e=some (k,g,cs.set i c)∧Ba lo ms=[.wr k i]:=by
 unfold Gk at h
 split at h
 ·rename_i k g off rest r k' g' i c
  split at h
  ·rename_i g0 cs hm
   split at h
   ·rename_i hc
    obtain⟨rfl,rfl,rfl⟩:=hc;simp only[Option.some.injEq,Prod.mk.injEq] at h;exact⟨r,_,_,_,c,cs,rfl,hm,h.1.symm,h.2.symm,rfl⟩
   ·cases h
  ·cases h
 ·cases h
theorem uc {mem:Mem} {tm:Nat→MV} {op:MOp} {m:MV} {e:Option (Key × Nat × List MV)} (h:gS T mem tm op=some (m,e)):e=none∨(wrs op=true∧∃ k g cs,e=some (k,g,cs)∧(.wh k∈foot tm op∨∃ i c cs0,foot tm op=[.wr k i]∧mem k=some (g,cs0)∧cs=cs0.set i c)):=by
 have pl:sop mem tm op=some (m,e)→e=none∨(wrs op=true∧∃ k g cs,e=some (k,g,cs)∧(.wh k∈foot tm op∨∃ i c cs0,foot tm op=[.wr k i]∧mem k=some (g,cs0)∧cs=cs0.set i c)):=fun h=>by
  rcases LL h with h | ⟨h1,k,g,cs,h2,h3⟩
  ·exact .inl h
  ·exact .inr ⟨h1,k,g,cs,h2,.inl h3⟩
 cases op
 case call f l =>
  simp only[gS] at h
  split at h<;>simp only[Option.some.injEq,Prod.mk.injEq,reduceCtorEq] at h
  ·exact .inl h.2.symm
  ·exact .inl h.2.symm
 case callo k sz f l =>
  simp only[gS] at h
  (repeat' split at h)<;>simp only[Option.some.injEq,Prod.mk.injEq,reduceCtorEq] at h
  exact .inr ⟨rfl,_,_,_,h.2.symm,.inl (by simp [foot])⟩
 case callv=>cases h
 case isnil=>cases h
 case callm lo f l =>
  obtain⟨r,k,g,i,c,cs,-,hm,-,he,hf⟩:=AO h;exact .inr ⟨rfl,k,g,_,he,.inr ⟨i,c,cs,hf,hm,rfl⟩⟩
 case callz j f l =>
  simp only[gS] at h;obtain⟨k,g,sz,off,len,cs,d,r,hx,hm,-,-,-,he⟩:=BI h;exact .inr ⟨rfl,k,_,_,he,.inl (by simp only[foot,hx,wH];exact Ug)⟩
 all_goals exact pl h
theorem G9 {tm:Nat→MV} {op:MOp} {b:FK} (hb:b∈foot tm op):(∃ k,b = .wh k)∨(∃ n ag x k g off,op = .load n ag x∧ev tm x = .ptr k g off∧b = .rd k off (off+n))∨∃ lo f l,op = .callm lo f l:=by
 cases op
 case load n ag x =>
  simp only[foot] at hb
  cases hx:ev tm x<;>rw[hx] at hb<;>simp [vX] at hb
  ·exact .inl ⟨_,hb⟩
  ·exact .inr (.inl ⟨_,_,_,_,_,_,rfl,hx,hb⟩)
 case callm lo f l=>exact .inr (.inr ⟨_,_,_,rfl⟩)
 case callz j f l =>
  simp only[foot] at hb
  cases hm:(l.map (ev tm))[j]? with
  | none=>rw[hm] at hb;simp [wH] at hb
  | some m =>
   rw[hm] at hb
   cases m<;>simp [wH] at hb
   exact .inl ⟨_,hb⟩
 case bsl k o z sz len ps =>
  cases o<;>simp [foot] at hb
  exact .inl ⟨_,hb⟩
 all_goals
  simp [foot] at hb
  try first
   | exact .inl ⟨_,hb⟩
   | (rcases hb with ⟨k,_,h⟩ | ⟨k,_,h⟩<;>exact .inl ⟨k,h.symm⟩)
   | (rcases hb with h | ⟨k,_,h⟩ | ⟨k,_,h⟩<;>first | exact .inl ⟨_,h⟩ | exact .inl ⟨_,h.symm⟩)
   | (obtain⟨k,_,h⟩:=hb;exact .inl ⟨k,h.symm⟩)
theorem Ln {cs:List MV} {i off n:Nat} {c:MV} (h:i<off∨off+n≤i):cut (cs.set i c) off n=cut cs off n:=by
 unfold cut;rw[List.length_set]
 split
 ·congr 1
  rcases h with h | h
  ·rw[Uh h]
  ·by_cases hi:i<off
   ·rw[Uh hi]
   ·rw[List.drop_set,if_neg hi,List.take_set_of_le (by omega)]
 ·rfl
theorem HW {mem:Mem} {k g i:Nat} {c:MV} {cs:List MV} {n:Nat} {ag:Bool} {k' g' off:Nat} (hm:mem k=some (g,cs)) (h:k'≠k∨i<off∨off+n≤i) :
  jZ (aB mem k g (cs.set i c)) n ag (.ptr k' g' off)=jZ mem n ag (.ptr k' g' off):=by
 by_cases hk:k'=k
 ·subst hk
  have h:=h.resolve_left (fun h=>h rfl);simp only[jZ,aB,if_true,hm,Ln h]
 ·simp only[jZ,aB,hk,if_false]
theorem M0 {mem:Mem} {tm:Nat→MV} {x y:MOp} {m:MV} {e:Option (Key × Nat × List MV)} (sx:gS T mem tm x=some (m,e)) (ha:ir (wrs x,foot tm x) (wrs y,foot tm y)=true):gS T (gN mem e) tm y=gS T mem tm y:=by
 rcases uc sx with rfl | ⟨hw,k,g,cs,rfl,hk⟩
 ·rfl
 ·have hall:∀ a∈foot tm x,∀ b∈foot tm y,ip a b=true:=by
   unfold ir at ha
   simpa [hw] using ha
  have hnc:∀ lo f l,y = .callm lo f l→foot tm y=[]:=by
   rintro lo f l rfl
   cases hb:foot tm (.callm lo f l) with
   | nil=>rfl
   | cons b r =>
    exfalso
    have hb':∃ k' i',b = .wr k' i':=by
     simp only[foot] at hb;unfold Ba at hb
     split at hb
     ·cases hb
      exact⟨_,_,rfl⟩
     ·cases hb
    obtain⟨k',i',rfl⟩:=hb';have hm:FK.wr k' i'∈foot tm (.callm lo f l):=by rw[hb];exact Ug
    rcases hk with hk | ⟨i,c,cs0,hf,_,_⟩
    ·have:=hall _ hk _ hm
     simp [ip] at this
    ·have:=hall (.wr k i) (by rw[hf];exact Ug) _ hm
     simp [ip] at this
  by_cases hy:∃ lo f l,y = .callm lo f l
  ·obtain⟨lo,f,l,rfl⟩:=hy
   have h0:=hnc _ _ _ rfl;simp only[foot] at h0
   have hz:∀ mem' x',Gk lo mem' (l.map (ev tm)) x'=none:=by
    intro mem' x';unfold Gk
    split
    ·rename_i heq
     rw[heq] at h0;simp [Ba] at h0
    ·rfl
   simp only[gS,hz]
  ·have hc:∀ lo f l,y ≠ .callm lo f l:=fun lo f l h=>hy ⟨lo,f,l,h⟩
   rcases hk with hk | ⟨i,c,cs0,hf,hm,rfl⟩
   ·refine (By hc fun b hb=>?_).symm
    have h1:=hall _ hk b hb
    have:b.key≠k:=by
     rintro rfl
     cases b<;>simp [ip,FK.key] at h1
    simp [gN,aB,this]
   ·have h1:=hall (.wr k i) (by rw[hf];exact Ug)
    by_cases hl:∃ n ag z k' g' off,y = .load n ag z∧ev tm z = .ptr k' g' off
    ·obtain⟨n,ag,z,k',g',off,rfl,hz⟩:=hl
     have h2:=h1 (.rd k' off (off+n)) (by simp [foot,hz,vX]);simp only[gS,sop,hz,gN];rw[HW hm];simp [ip] at h2;exact h2
    ·refine (By hc fun b hb=>?_).symm
     exfalso
     rcases G9 hb with ⟨k',rfl⟩ | ⟨n,ag,z,k',g',off,h3,h4,_⟩ | ⟨lo,f,l,h3⟩
     ·have:=h1 _ hb
      simp [ip] at this
     ·exact hl ⟨n,ag,z,k',g',off,h3,h4⟩
     ·exact hc _ _ _ h3
theorem Ja {tm:Nat→MV} {op:MOp} (h:gf op=0):foot tm op=[]∧wrs op=false:=by
 cases op<;>simp_all [gf,wrs,foot]
 all_goals (rename_i b _ _ _ _;cases b<;>simp_all [wrs,foot])
theorem IN {op:MOp} (h:gf op=1):wrs op=false:=by
 cases op<;>simp_all [gf,wrs]
 all_goals (rename_i b _ _ _ _;cases b<;>simp_all [wrs])
end Go.Mini
namespace Go.Mini
open Go
variable {T:Tab} {conf:Nat→Nat→Bool}
def Exec (T:Tab) (conf:Nat→Nat→Bool) (i:Nat) (x:MI) (rec:Rec) (st:St) (rec':Rec) (st':St):Prop :=
 (f5 st.tm x.g=some false∧rec'=rec∧st'=⟨put st.tm x.dst .no,st.mem⟩) ∨
 (f5 st.tm x.g=some true∧∃ m e,gS T st.mem st.tm x.op=some (m,e)∧(∀ p q,conf p i=true→rec p=some q→ir q (wrs x.op,foot st.tm x.op)=true) ∧
  rec'=sF rec i (wrs x.op,foot st.tm x.op)∧st'=⟨put st.tm x.dst m,gN st.mem e⟩)
theorem kT {tm:Nat→MV} {dst:Option Nat} {m:MV} {s:Nat} (h:dst≠some s):put tm dst m s=tm s:=by
 cases dst with
 | none=>rfl
 | some d =>
  have:s≠d:=fun e=>h (by rw[e])
  simp [put,this]
theorem Ki {tm:Nat→MV} {d d':Option Nat} {m m':MV} (h:∀ s,d=some s→d'≠some s):put (put tm d m) d' m'=put (put tm d' m') d m:=by
 funext s
 by_cases h1:d=some s
 ·rw[kT (h s h1)]
  subst h1;simp [put]
 ·rw[kT (dst:=d) h1]
  by_cases h2:d'=some s
  ·subst h2
   simp [put]
  ·rw[kT h2,kT h2,kT h1]
theorem qn {tm tm':Nat→MV} {g:Option (Nat × Bool)} (h:∀ s b,g=some (s,b)→tm s=tm' s):f5 tm g=f5 tm' g:=by
 cases g with
 | none=>rfl
 | some p =>
  obtain⟨s,b⟩:=p;simp only[f5,h s b rfl]
theorem su {x y:MI} (h:lO x y=true):(∀ d,x.dst=some d→d ∉ looks y)∧(∀ d,x.dst=some d→y.dst≠some d)∧(∀ d,y.dst=some d→d ∉ looks x):=by
 refine⟨fun d hd=>?_,fun d hd=>?_,fun d hd=>?_⟩<;>simp [lO,hd] at h
 ·exact h.1.1
 ·exact h.1.2
 ·exact h.2
theorem qB {x:MI} {s:Nat} (h:s∈opds x.op):s∈looks x:=by simp [looks,h]
theorem D0 {x:MI} {s:Nat} {b:Bool} (h:x.g=some (s,b)):s∈looks x:=by simp [looks,h]
theorem Aw (a b:FK):ip a b=ip b a:=by
 have hc:∀ k k':Nat,(k==k')=(k'==k):=fun k k'=>BEq.comm
 cases a<;>cases b<;>first | rfl | (unfold ip;dsimp only;rw[hc])
theorem sj {a b:Bool × List FK} (h:ir a b=true):ir b a=true:=by
 unfold ir at *;simp only[Ui,Bool.not_eq_true',Bool.or_eq_false_iff,T6] at *;rcases h with ⟨h1,h2⟩ | h
 ·exact .inl ⟨h2,h1⟩
 ·exact .inr fun x hx y hy=>by rw[Aw];exact h y hy x hx
theorem FE {mem:Mem} {e e':Option (Key × Nat × List MV)} (h:∀ j g cs j' g' cs',e=some (j,g,cs)→e'=some (j',g',cs')→j≠j'):gN (gN mem e) e'=gN (gN mem e') e:=by
 cases e with
 | none=>rfl
 | some p =>
  cases e' with
  | none=>rfl
  | some p' =>
   obtain⟨j,g,cs⟩:=p;obtain⟨j',g',cs'⟩:=p';have hne:=h _ _ _ _ _ _ rfl rfl
   funext k
   simp only[gN,aB]
   by_cases h1:k=j'
   ·by_cases h2:k=j
    ·exact absurd (h2.symm.trans h1) hne
    ·simp [h1,h2]
     intro h3;exact absurd h3.symm hne
   ·simp [h1]
def Passes (conf:Nat→Nat→Bool) (i j:Nat) (x y:MI):Prop:=conf i j=true∨ki (gf x.op) (gf y.op)=true
theorem DN {i j:Nat} {x y:MI} {tm:Nat→MV} (h:Passes conf i j x y) (hc:conf i j=true→ir (wrs x.op,foot tm x.op) (wrs y.op,foot tm y.op)=true) :
  ir (wrs x.op,foot tm x.op) (wrs y.op,foot tm y.op)=true:=by
 rcases h with h | h
 ·exact hc h
 ·unfold ki at h
  simp only[Ui,T7,beq_iff_eq] at h;rcases h with (h | h) | ⟨h1,h2⟩
  ·obtain⟨h1,h2⟩:=Ja (tm:=tm) h
   simp [ir,h1]
  ·obtain⟨h1,h2⟩:=Ja (tm:=tm) h
   simp [ir,h1]
  ·have h1:=IN h1
   have h2:=IN h2;simp [ir,h1,h2]
theorem Exec.comm {i j:Nat} {x y:MI} {rec rec1 rec2:Rec} {st st1 st2:St} (hij:i≠j) (hap:lO x y=true) (hp:Passes conf i j x y) (hsym:∀ a b,conf a b=conf b a) (hri:rec i=none)
  (h1:Exec T conf i x rec st rec1 st1) (h2:Exec T conf j y rec1 st1 rec2 st2):∃ recj stj,Exec T conf j y rec st recj stj∧Exec T conf i x recj stj rec2 st2:=by
 obtain⟨ha,hb,hc⟩:=su hap
 -- what one sees of the other's temporary: nothing
 have yg:∀ m,f5 (put st.tm x.dst m) y.g=f5 st.tm y.g:=fun m=>qn fun s b hs=>kT fun hd=>ha s hd (D0 hs)
 have yo:∀ mem m,gS T mem (put st.tm x.dst m) y.op=gS T mem st.tm y.op:=fun mem m=>DY fun s hs=>kT fun hd=>ha s hd (qB hs)
 have yf:∀ m,foot (put st.tm x.dst m) y.op=foot st.tm y.op:=fun m=>EG fun s hs=>kT fun hd=>ha s hd (qB hs)
 have xg:∀ m,f5 (put st.tm y.dst m) x.g=f5 st.tm x.g:=fun m=>qn fun s b hs=>kT fun hd=>hc s hd (D0 hs)
 have xo:∀ mem m,gS T mem (put st.tm y.dst m) x.op=gS T mem st.tm x.op:=fun mem m=>DY fun s hs=>kT fun hd=>hc s hd (qB hs)
 have xf:∀ m,foot (put st.tm y.dst m) x.op=foot st.tm x.op:=fun m=>EG fun s hs=>kT fun hd=>hc s hd (qB hs)
 have pc:∀ m m',put (put st.tm x.dst m) y.dst m'=put (put st.tm y.dst m') x.dst m:=fun m m'=>Ki hb
 rcases h1 with ⟨g1,rfl,rfl⟩ | ⟨g1,m1,e1,s1,c1,rfl,rfl⟩<;>rcases h2 with ⟨g2,rfl,rfl⟩ | ⟨g2,m2,e2,s2,c2,rfl,rfl⟩<;>simp only[yg,yo,yf] at *
 ·exact⟨_,_,.inl ⟨g2,rfl,rfl⟩,.inl ⟨by simp only[xg];exact g1,rfl,by simp only[pc]⟩⟩
 ·exact⟨_,_,.inr ⟨g2,m2,e2,s2,c2,rfl,rfl⟩,.inl ⟨by simp only[xg];exact g1,rfl,by simp only[pc]⟩⟩
 ·exact⟨_,_,.inl ⟨g2,rfl,rfl⟩,.inr ⟨by simp only[xg];exact g1,m1,e1,by simp only[xo];exact s1,by simp only[xf];exact c1,by simp only[xf],by simp only[pc]⟩⟩
 ·have hck:conf i j=true→ir (wrs x.op,foot st.tm x.op) (wrs y.op,foot st.tm y.op)=true:=fun h=>c2 i _ h (by simp [sF])
  have hak:=DN (tm:=st.tm) hp hck;have sy:gS T st.mem st.tm y.op=some (m2,e2):=by rw[←s2];exact (M0 s1 hak).symm
  have hcm:∀ j g cs j' g' cs',e1=some (j,g,cs)→e2=some (j',g',cs')→j≠j':=by
   rintro k g cs k' g' cs' rfl rfl rfl;rcases uc s1 with h | ⟨hw,k2,g2,cs2,h,h1⟩
   ·cases h
   ·cases h
    rcases uc sy with h | ⟨hw',k3,g3,cs3,h,h2⟩
    ·cases h
    ·cases h
     unfold ir at hak;simp only[hw,Bool.true_or,Bool.not_true,Bool.false_or,T6] at hak;rcases h1 with h1 | ⟨i,c,cs0,h1,_,_⟩<;>rcases h2 with h2 | ⟨i',c',cs0',h2,_,_⟩
     ·have:=hak _ h1 _ h2;simp [ip] at this
     ·have:=hak _ h1 (.wr k i') (by rw[h2];exact Ug);simp [ip] at this
     ·have:=hak (.wr k i) (by rw[h1];exact Ug) _ h2;simp [ip] at this
     ·have:=hak (.wr k i) (by rw[h1];exact Ug) (.wr k i') (by rw[h2];exact Ug);simp [ip] at this
  refine⟨_,_,.inr ⟨g2,m2,e2,sy,fun p q hpj hq=>?_,rfl,rfl⟩,.inr ⟨by simp only[xg];exact g1,m1,e1,?_,?_,?_,?_⟩⟩
  ·have hne:p≠i:=fun h=>by rw[h,hri] at hq;cases hq
   exact c2 p q hpj (by simp [sF,hne,hq])
  ·simp only[xo]
   rw[←s1];exact M0 sy (sj hak)
  ·simp only[xf]
   intro p q hpi hq
   by_cases hpj:p=j
   ·subst hpj
    simp only[sF,if_true,Option.some.injEq] at hq;subst hq;exact sj (hck (by rw[hsym];exact hpi))
   ·simp only[sF,hpj,if_false] at hq
    exact c1 p q hpi hq
  ·simp only[xf]
   funext p
   simp only[sF]
   by_cases h1:p=i
   ·subst h1;simp [hij]
   ·simp [h1]
  ·simp only[pc]
   rw[FE hcm]
end Go.Mini
