/- A part of the proof: MiniS, MiniW, MiniN, MiniIds, MiniKBig, MiniKCmp, MiniKSlices, MiniBig1, MiniBig2, MiniBig3. -/
import Derived.Test.YtjcpopjafedmpaaGreatM03
set_option linter.unusedSimpArgs false
set_option linter.unusedVariables false
open Nat renaming reduceEqDiff → yA, reduceAdd → yB, reduceSub → yC, reduceMul → yD, reduceLeDiff → yE, reduceLT → yF, reduceBEq → yG
open Bool renaming false_eq_true → yH
open Int renaming reduceEq → yI
open List renaming length_map → yJ, getElem?_map → yK, getElem?_eq_getElem → yL
open List.cons renaming injEq → yM
namespace Go.Mini
open Go Go.ChangeShapes Go.WideShapes Go.RowKit
/-- An argument. -/
def FitA:Sch→Data→Prop
 | .st l,d=>∃ cs,d = .agg cs∧Fits l cs
 | s,d=>Fit s [d]
def FitAs:List Sch→List Data→Prop
 | [],ds=>ds=[]
 | s::r,ds=>∃ d t,ds=d::t∧FitA s d∧FitAs r t
section
variable {H:Type} {enc:TypeId × Value→H} {P:Program} {w:World}
theorem denL_cons {O:Nat→Prop} {d:Data} {v:Value} {ds:List Data} {vs:List Value} (h:Den w O d v) (hs:DenL w O ds vs):DenL w O (d::ds) (v::vs):=by
 refine⟨by simp [hs.1],fun i d' v' h1 h2=>?_⟩
 cases i with
 | zero=>cases h1;cases h2;exact h
 | succ i=>exact hs.2 i d' v' (by simpa using h1) (by simpa using h2)
theorem arg_den {n:Nat} {t:TypeId} {S:Sch} {v:Value} {d:DataW H} {ps:List MemPlace} {b0:Nat} (hS:schOf P n t=some S) (hval:Value.okWide P w .any b0 t v) (h:DataW.Trod enc P w 0 (fun _=>true) true t v d ps) :
  (∃ D,FitA S D∧Den w (fun _=>False) D v)∧(∀ p∈ps,p.block<w.heap.size) ∧
  ∀ (w':World) (sp:Nat→Bool),(∀ p∈ps,sp p.block=true)→(∀ b,b<w.heap.size→w'.heap[b]?=w.heap[b]?)→DataW.Trod enc P w' 0 sp true t v d ps:=by
 obtain⟨fuel,hx⟩:=h
 obtain⟨⟨ds,hf,hd⟩,h2,h3⟩:=read_sch n t S hS fuel _ _ hx
 refine⟨?_,h2,fun w' sp hsp hk=>⟨fuel,h3 w' sp hsp hk⟩⟩
 have one:(∀ cs,v ≠ .agg cs)→∀ d,ds=[d]→Den w (fun _=>False) d v:=by
  intro hv d e
  subst e
  have:v.cells=#[v]:=by unfold Value.cells;split<;>simp_all
  rw[this] at hd
  exact hd.2 0 d v rfl rfl
 cases n with
 | zero=>simp [schOf] at hS
 | succ n =>
  unfold schOf at hS
  unfold Value.okWide at hval
  split at hS
  ·rename_i hu
   cases hS
   rw[hu] at hval
   obtain⟨b,rfl⟩:=hf
   refine⟨_,⟨b,rfl⟩,one ?_ _ rfl⟩
   rintro cs rfl
   simp [Cell.okWide,Cell.ok,hu] at hval
  ·rename_i k hu
   cases hS
   rw[hu] at hval
   obtain⟨b,rfl,hb⟩:=hf
   refine⟨_,⟨b,rfl,hb⟩,one ?_ _ rfl⟩
   rintro cs rfl
   simp [Cell.okWide,Cell.ok,hu] at hval
  ·rename_i hu
   cases hS
   rw[hu] at hval
   obtain⟨b,rfl,hb⟩:=hf
   refine⟨_,⟨b,rfl,hb⟩,one ?_ _ rfl⟩
   rintro cs rfl
   simp [Cell.okWide,Cell.ok,hu] at hval
  ·rename_i e hu
   split at hS
   ·rw[Option.map_eq_some_iff] at hS
    obtain⟨S,hS,rfl⟩:=hS
    rw[hu] at hval
    obtain⟨b,rfl,hb⟩:=hf
    refine⟨_,⟨b,rfl,hb⟩,one ?_ _ rfl⟩
    rintro cs rfl
    simp [Cell.okWide,Cell.ok,hu] at hval
   ·cases hS
  ·rename_i fs hu
   split at hS
   ·rw[Option.map_eq_some_iff] at hS
    obtain⟨l,hl,rfl⟩:=hS
    rw[hu] at hval
    obtain⟨cs,rfl,-,-⟩:=hval
    refine⟨.agg ds,⟨ds,rfl,hf⟩,?_⟩
    have:Den w (fun _=>False) (.agg ds) (.agg cs.toList.toArray):=.agg hd.1 hd.2
    simpa using this
   ·cases hS
  ·cases hS
theorem args_den {n b0:Nat}:∀ {ts:List TypeId} {schs:List Sch} {vs:List Value} {ds:List (DataW H)} {ps:List MemPlace},ts.mapM (schOf P n)=some schs→(∀ (j:Nat) t v,ts[j]?=some t→vs[j]?=some v→Value.okWide P w .any b0 t v) →
  DataW.TrodAll enc P w 0 (fun _=>true) true ts vs ds ps →
  (∃ Ds,FitAs schs Ds∧DenL w (fun _=>False) Ds vs)∧(∀ p∈ps,p.block<w.heap.size) ∧
  ∀ (w':World) (sp:Nat→Bool),(∀ p∈ps,sp p.block=true)→(∀ b,b<w.heap.size→w'.heap[b]?=w.heap[b]?)→DataW.TrodAll enc P w' 0 sp true ts vs ds ps
 | [],schs,vs,ds,ps,hS,hval,h=>by
  obtain⟨rfl,rfl,rfl⟩:=trodAll_nil h
  simp at hS
  subst hS
  exact⟨⟨[],rfl,rfl,fun i d v h=>by simp at h⟩,by simp,fun _ _ _ _=>rfl⟩
 | t::ts,schs,vs,ds,ps,hS,hval,h=>by
  obtain⟨v,vs1,d,ds1,a,b,rfl,rfl,rfl,h1,h2⟩:=trodAll_cons h
  rw[List.mapM_cons] at hS
  simp only[Option.pure_def,Option.bind_eq_bind,Option.bind_eq_some_iff,Option.some.injEq] at hS
  obtain⟨S,hS1,l,hl,rfl⟩:=hS
  obtain⟨⟨D,hD,hD'⟩,p1,k1⟩:=arg_den hS1 (hval 0 t v rfl rfl) h1
  obtain⟨⟨Ds,hDs,hDs'⟩,p2,k2⟩:=args_den hl (fun j t' v' ht hv=>hval (j+1) t' v' (by simpa using ht) (by simpa using hv)) h2
  refine⟨⟨D::Ds,⟨D,Ds,rfl,hD,hDs⟩,denL_cons hD' hDs'⟩,fun p hp=>?_,fun w' sp hsp hk=>?_⟩
  ·rw[List.mem_append] at hp
   exact hp.elim (p1 p) (p2 p)
  ·exact trodAll_cons_mk (k1 w' sp (fun p hp=>hsp p (List.mem_append.2 (.inl hp))) hk) (k2 w' sp (fun p hp=>hsp p (List.mem_append.2 (.inr hp))) hk)
theorem kept_of {W W':World} (h:Fr (fun _=>False) W W') (may:MemPlace→Prop):W.keptBut W' may:=by
 refine⟨h.os,h.output,fun i hi=>?_⟩
 rw[h.block i hi id]
 cases hb:W.heap[i]? with
 | none=>trivial
 | some o =>
  cases o with
  | cells c t fr=>exact⟨rfl,rfl,rfl,fun _ _=>rfl⟩
  | map es clock=>exact .inr ⟨rfl,rfl⟩
  | _=>rfl
/-- What a function that answers true leaves. -/
theorem post_law {f:Func} {s:ChangeSpec} {apart fresh handsOn again:Bool} {W W':World} {args:Array Value} {ds gs:List (DataW H)} {before:List MemPlace} {n b0:Nat} {schs:List Sch} {tb:TypeId}
  (hW:DataW.Whole enc P f.params.toList s.vars apart W args.toList ds gs before) (hv:s.vars=[]) (hS:f.params.toList.mapM (schOf P n)=some schs)
  (hval:∀ (j:Nat) t v,f.params[j]?=some t→args[j]?=some v→Value.okWide P W .any b0 t v)
  (hr:f.resultTypes=#[tb]) (hb:P.underlying tb=some .bool) (hspec:s.fn H ds={ results:=[.lit (.bool true)],args:=ds }) (hf:Fr (fun _=>False) W W') :
  s.post enc P f apart fresh handsOn again W args (.bool true) W':=by
 have hW':=hW
 obtain⟨p,q,hA,hV,rfl,hz,hn⟩:=hW
 rw[hv] at hV
 obtain⟨rfl,rfl⟩:=trodVars_none hV
 obtain⟨-,hlt,hk⟩:=args_den hS (fun j t v ht hv=>hval j t v (by simpa using ht) (by simpa using hv)) hA
 have hkeep:∀ b,b<W.heap.size→W'.heap[b]?=W.heap[b]?:=fun b hb=>hf.block b hb id
 have hres:∀ (b:Nat) (sp:Nat→Bool) (hd:Bool),DataW.TrodAll enc P W' b sp hd f.resultTypes.toList ((Value.bool true).resultList f.resultTypes.size) (s.fn H (ds++[])).results []:=by
  intro b sp hd
  rw[List.append_nil,hspec,hr]
  exact trodAll_cons_mk (shut_bool hb true) trodAll_mk0
 have hargs:∀ sp:Nat→Bool,(∀ x∈p,sp x.block=true)→DataW.TrodAll enc P W' 0 sp true f.params.toList args.toList (s.fn H (ds++[])).args p:=by
  intro sp hsp
  rw[List.append_nil,hspec]
  exact hk W' sp hsp hkeep
 have hvars:∀ sp:Nat→Bool,DataW.TrodVars enc P W' sp s.vars (s.fn H (ds++[])).vars []:=by
  intro sp
  rw[hv,List.append_nil,hspec]
  rfl
 refine⟨ds,[],p++[],[],p,[],hW',hres _ _ _,hargs _ (fun x hx=>by simpa using hlt x hx),hvars _,kept_of hf _,fun _=>⟨?_,_,_,([]++p)++[],⟨[]++p,[],trodAll_append (hargs _ (fun _ _=>rfl)) (hres _ _ _),hvars _,rfl,?_,?_⟩,?_⟩⟩
 ·intro j t r h1 h2
  rw[hr] at h1 h2
  cases j with
  | zero =>
   simp [Value.resultList] at h1 h2
   subst h1 h2
   exact okWide_bool_mk hb true
  | succ j=>simp at h1
 ·intro b off hp
  have hp':MemPlace.cell b off∈p:=by simpa using hp
  have hb:=hlt _ hp'
  have h0:=hz b off (by simpa using hp')
  unfold World.frozen? at h0 ⊢
  rw[hkeep b hb]
  exact h0
 ·intro ha
  have:=hn ha
  simpa using this
 ·intro x hx _
  simpa using hx
/-- A statement's function, whatever it is called with. -/
theorem law_contract {f:FuncId} {fn:Func} {s:ChangeSpec} {apart fresh handsOn again:Bool} {F:List Data→Option PRes} {n:Nat} {schs:List Sch} {tb:TypeId} (hp:PSpec P f F) (hv:s.vars=[]) (hS:fn.params.toList.mapM (schOf P n)=some schs)
  (hr:fn.resultTypes=#[tb]) (hb:P.underlying tb=some .bool) (hspec:∀ ds:List (DataW H),ds.length=fn.params.toList.length→s.fn H ds={ results:=[.lit (.bool true)],args:=ds })
  {W:World} {base:Nat} {args:Array Value} {ds gs:List (DataW H)} {before:List MemPlace}
  (hF:∀ Ds,FitAs schs Ds→F Ds=some (.same (.bool true)))
  (hval:∀ (j:Nat) t v,fn.params[j]?=some t→args[j]?=some v→Value.okWide P W .any base t v)
  (hW:DataW.Whole enc P fn.params.toList s.vars apart W args.toList ds gs before) :
  Calls P f args W fun e W'=>∃ v,e = .returned v∧s.post enc P fn apart fresh handsOn again W args v W':=by
 have hW':=hW
 obtain⟨p,q,hA,hV,rfl,hz,hn⟩:=hW
 obtain⟨⟨Ds,h1,h2⟩,-,-⟩:=args_den hS (fun j t v ht hv=>hval j t v (by simpa using ht) (by simpa using hv)) hA
 have hlen:ds.length=fn.params.toList.length:=by
  have:∀ (ts:List TypeId) (vs:List Value) (ds:List (DataW H)) (ps:List MemPlace),DataW.TrodAll enc P W 0 (fun _=>true) true ts vs ds ps→ds.length=ts.length:=by
   intro ts
   induction ts with
   | nil=>intro vs ds ps h;obtain⟨rfl,rfl,rfl⟩:=trodAll_nil h;rfl
   | cons t r ih=>intro vs ds ps h;obtain⟨v,vs1,d,ds1,a,b,rfl,rfl,rfl,-,h2⟩:=trodAll_cons h;simp [ih _ _ _ h2]
  exact this _ _ _ _ hA
 have hc:=hp.run Ds _ (hF Ds h1) (fun _=>False) W args.toList (fun b hb=>hb.elim) h2
 have ha:args.toList.toArray=args:=by simp
 rw[ha] at hc
 refine hc.mono fun e W' ⟨v,he,hfr,hd⟩=>⟨v,he,?_⟩
 have:v = .bool true:=by
  have hd':Den W' (fun _=>False) (.bool true) v:=hd
  cases hd'
  rfl
 subst this
 exact post_law hW' hv hS hval hr hb (hspec ds hlen) hfr
theorem len_cons {α:Type} {l:List α} {n:Nat} (h:l.length=n+1):∃ d t,l=d::t∧t.length=n:=by
 cases l with
 | nil=>simp at h
 | cons d t=>exact⟨d,t,rfl,by simpa using h⟩
/-- Elements, typed. -/
theorem fit_list {α:Type} {e:α→List Data} {good:α→Prop}:∀ {es:List (List Data)},(∀ x∈es,∃ a,x=e a∧good a)→∃ l:List α,es=l.map e∧∀ a∈l,good a
 | [],_=>⟨[],rfl,by simp⟩
 | x::r,h=>by
  obtain⟨a,rfl,ha⟩:=h x (by simp)
  obtain⟨l,rfl,hl⟩:=fit_list (es:=r) fun y hy=>h y (by simp [hy])
  exact⟨a::l,rfl,fun b hb=>(List.mem_cons.1 hb).elim (fun e=>e ▸ ha) (hl b)⟩
end
end Go.Mini
namespace Go.Mini
open Go
/-- A result and a memory. -/
def isR (x:MV) (m:Mem):MV→Mem→Prop:=fun r mem'=>r=x∧mem'=m
@[go_sem high] theorem wpE_isR {K:St→Prop} (x:MV) (m:Mem) (d:Option Nat) (st:St):wpE K (some (.rel (isR x m))) d st=K ⟨put st.tm d x,m⟩:=by
 rw[wpE_rel]
 apply propext
 exact⟨fun h=>h x m ⟨rfl,rfl⟩,fun h r mem' ⟨e1,e2⟩=>by rw[e1,e2];exact h⟩
def mkG (G:List MV→Mem→Option (MV × Mem)) (args:List MV) (mem:Mem):Option Eff:=(G args mem).map fun x => .rel (isR x.1 x.2)
@[go_sem] theorem mkG_at (G:List MV→Mem→Option (MV × Mem)) (args:List MV) (mem:Mem):mkG G args mem=(G args mem).map fun x => .rel (isR x.1 x.2):=_root_.id rfl
structure RSpec (P:Program) (f:FuncId) (G:List MV→Mem→Option (MV × Mem)):Prop where
 real:Real P f
 run:∀ args mem x,G args mem=some x→∀ A w B vs,MemRel A w B mem→RL w (OA A B) B args vs→EffOK P f vs A w B mem (.rel (isR x.1 x.2))
/-- The end of such a function. -/
def endG (res:List MRes) (x:MV) (m:Mem):MExit→St→Prop
 | .exit _,_=>False
 | .normal,st=>resAll st res=some x∧st.mem=m
 | .ret,st=>resAll st res=some x∧st.mem=m
@[go_sem] theorem endG_exit {res:List MRes} {st:St} (x:MV) (m:Mem) (id:Nat):endG res x m (.exit id) st=False:=_root_.id rfl
@[go_sem] theorem endG_normal {res:List MRes} {st:St} (x:MV) (m:Mem):endG res x m .normal st=(resAll st res=some x∧st.mem=m):=_root_.id rfl
@[go_sem] theorem endG_ret {res:List MRes} {st:St} (x:MV) (m:Mem):endG res x m .ret st=(resAll st res=some x∧st.mem=m):=_root_.id rfl
theorem rspec_of {P : Program} {T : Tab} {kb : Nat} {own : List Nat} (hT : TabOK P T) (hm : P.follows .mixedOrders = true) {f : FuncId} {fn : Func} {mf : MFunc} (hf : P.funcs[f]? = some fn) (hname : (fn.name == "runtime.NumGoroutine") = false) (htr : trFunc P kb own fn = some { mf with body := erase mf.body })
  {G:List MV→Mem→Option (MV × Mem)} (h:∀ args mem x,G args mem=some x→args.length≤mf.n∧wp T mf.body (endG mf.res x.1 x.2) ⟨initTm args,mem⟩):RSpec P f G:=by
 refine⟨?_,fun args mem x hG A w B vs hmr hv=>?_⟩
 ·cases hb:fn.body with
  | none=>simp [trFunc,hb] at htr
  | some c=>exact⟨fn,c,hf,hb,hname⟩
 ·obtain⟨hlen,hwp⟩:=h args mem x hG
  refine Calls.mono (func_sound (Post:=isR x.1 x.2) hT hm hf htr hlen (fun e st hk=>?_) hwp hmr hv) fun e w' he=>?_
  ·cases e with
   | exit id=>exact hk
   | normal=>exact⟨_,hk.1,rfl,hk.2⟩
   | ret=>exact⟨_,hk.1,rfl,hk.2⟩
  ·obtain⟨v,m,mem',B',rfl,hs,hv',hp⟩:=he
   exact⟨v,m,mem',B',rfl,hs,hv',hp⟩
def orG:Option (MV × Mem)→Option Eff→Option Eff
 | some x,_=>some (.rel (isR x.1 x.2))
 | none,e=>e
@[go_sem] theorem orG_some (x:MV × Mem) (e:Option Eff):orG (some x) e=some (.rel (isR x.1 x.2)):=_root_.id rfl
@[go_sem] theorem orG_none (e:Option Eff):orG none e=e:=_root_.id rfl
/-- A function that is handed a row, or data. -/
def mkFG (F:List Data→Option PRes) (G:List MV→Mem→Option (MV × Mem)) (args:List MV) (mem:Mem):Option Eff:=orG (G args mem) (mkE F args mem)
@[go_sem] theorem mkFG_at (F:List Data→Option PRes) (G:List MV→Mem→Option (MV × Mem)) (args:List MV) (mem:Mem):mkFG F G args mem=orG (G args mem) (mkE F args mem):=_root_.id rfl
/-- The table: functions of data, and functions that are handed rows. -/
def mkTR (PT:FuncId→Option (List Data→Option PRes)) (RT:FuncId→Option (List MV→Mem→Option (MV × Mem))):Tab:=fun f args mem=>match RT f with
 | some G=>orG (G args mem) (mkT PT f args mem)
 | none=>mkT PT f args mem
theorem mkTR_ok {P:Program} {PT:FuncId→Option (List Data→Option PRes)} {RT:FuncId→Option (List MV→Mem→Option (MV × Mem))} (h:∀ f F,PT f=some F→PSpec P f F) (hr:∀ f G,RT f=some G→RSpec P f G):TabOK P (mkTR PT RT):=by
 intro f args mem eff hT
 unfold mkTR at hT
 split at hT
 ·rename_i G hG
  have hs:=hr f G hG
  cases hx:G args mem with
  | none =>
   rw[hx] at hT
   exact mkT_ok h f args mem eff hT
  | some x =>
   rw[hx] at hT
   cases hT
   exact⟨hs.real,fun A w B vs hmr hv=>hs.run args mem x hx A w B vs hmr hv⟩
 ·exact mkT_ok h f args mem eff hT
theorem mkTR_F {PT:FuncId→Option (List Data→Option PRes)} {RT:FuncId→Option (List MV→Mem→Option (MV × Mem))} {f:FuncId} {F:List Data→Option PRes} (h:RT f=none) (h':PT f=some F):mkTR PT RT f=mkE F:=by
 funext args mem
 unfold mkTR
 rw[h]
 exact congrFun (congrFun (mkT_at h') args) mem
theorem mkTR_G {PT:FuncId→Option (List Data→Option PRes)} {RT:FuncId→Option (List MV→Mem→Option (MV × Mem))} {f:FuncId} {G:List MV→Mem→Option (MV × Mem)} (h:RT f=some G) (h':PT f=none):mkTR PT RT f=mkG G:=by
 funext args mem
 unfold mkTR mkT
 rw[h,h']
 unfold mkG
 dsimp only
 generalize G args mem=x
 cases x<;>rfl
theorem mkTR_FG {PT:FuncId→Option (List Data→Option PRes)} {RT:FuncId→Option (List MV→Mem→Option (MV × Mem))} {f:FuncId} {F:List Data→Option PRes} {G:List MV→Mem→Option (MV × Mem)} (h:RT f=some G) (h':PT f=some F):mkTR PT RT f=mkFG F G:=by
 funext args mem
 unfold mkTR
 rw[h]
 unfold mkFG
 rw[show mkT PT f args mem=mkE F args mem from congrFun (congrFun (mkT_at h') args) mem]
def RTl (l:List (FuncId × (List MV→Mem→Option (MV × Mem)))):FuncId→Option (List MV→Mem→Option (MV × Mem)):=fun f=>(l.find? fun p=>p.1==f).map (·.2)
theorem RTl_ok {P:Program} {l:List (FuncId × (List MV→Mem→Option (MV × Mem)))} (h:∀ p∈l,RSpec P p.1 p.2):∀ f G,RTl l f=some G→RSpec P f G:=by
 intro f F hf
 unfold RTl at hf
 rw[Option.map_eq_some_iff] at hf
 obtain⟨p,hp,rfl⟩:=hf
 have h1:=List.mem_of_find?_eq_some hp
 have h2:=List.find?_some hp
 have h3:p.1=f:=by simpa using h2
 exact h3 ▸ h p h1
theorem RTl_nil {P:Program}:∀ p∈([]:List (FuncId × (List MV→Mem→Option (MV × Mem)))),RSpec P p.1 p.2:=by simp
theorem RTl_cons {P:Program} {f:FuncId} {F:List MV→Mem→Option (MV × Mem)} {l:List (FuncId × (List MV→Mem→Option (MV × Mem)))} (h:RSpec P f F) (hl:∀ p∈l,RSpec P p.1 p.2):∀ p∈(f,F)::l,RSpec P p.1 p.2:=by
 intro p hp
 rcases List.mem_cons.1 hp with rfl | hp
 ·exact h
 ·exact hl p hp
open Classical in
/-- What such a function does, by a reading of its arguments and the memory. -/
noncomputable def GG {α:Type} (M:α→List MV→Mem→Prop) (res:α→Mem→MV × Mem):List MV→Mem→Option (MV × Mem):=fun args mem=>if h:∃ a,M a args mem then some (res (Classical.choose h) mem) else none
theorem GG_eq {α:Type} {M:α→List MV→Mem→Prop} {res:α→Mem→MV × Mem} (uniq:∀ a b args mem,M a args mem→M b args mem→res a mem=res b mem) {a:α} {args:List MV} {mem:Mem} (h:M a args mem):GG M res args mem=some (res a mem):=by
 have hx:∃ b,M b args mem:=⟨a,h⟩
 unfold GG
 rw[dif_pos hx,uniq _ _ _ _ (Classical.choose_spec hx) h]
theorem GG_inv {α:Type} {M:α→List MV→Mem→Prop} {res:α→Mem→MV × Mem} {args:List MV} {mem:Mem} {x:MV × Mem} (h:GG M res args mem=some x):∃ a,M a args mem∧x=res a mem:=by
 unfold GG at h
 split at h
 ·rename_i hx
  exact⟨_,Classical.choose_spec hx,(Option.some.inj h).symm⟩
 ·cases h
end Go.Mini
namespace Go.Mini
open Go
/-- The digits of a number, the least first. -/
def dgF:Nat→Nat→List Int
 | 0,_=>[]
 | f+1,n=>if n=0 then [] else ((n % 1048576:Nat):Int)::dgF f (n / 1048576)
def dg (n:Nat):List Int:=dgF n n
/-- The number of digits. -/
def vl:List Int→Int
 | []=>0
 | d::r=>d+1048576*vl r
theorem vl_cons (d:Int) (r:List Int):vl (d::r)=d+1048576*vl r:=rfl
def isD (l:List Int):Prop:=∀ d∈l,0≤d∧d<1048576
def trimL:List Int→List Int
 | []=>[]
 | d::r=>if trimL r=[] then (if d=0 then [] else [d]) else d::trimL r
def i64L (n:Int):List Data:=[.int .i64 n]
theorem i64L_len (b:Int):(i64L b).length=1:=rfl
theorem i64L_one (b:Int):((i64L b).map MV.dat).all MV.one=true:=rfl
theorem i64L_inj:∀ a b:Int,i64L a=i64L b→a=b:=by intro a b h;simpa [i64L] using h
theorem dgF_fuel:∀ (f g n:Nat),n≤f→n≤g→dgF f n=dgF g n:=by
 intro f
 induction f with
 | zero =>
      intro g n h _;obtain rfl:n=0:=by omega
      cases g<;>simp [dgF]
 | succ f ih =>
  intro g n h1 h2
  cases g with
  | zero =>
       obtain rfl:n=0:=by omega
       simp [dgF]
  | succ g =>
   unfold dgF
   by_cases hn:n=0
   ·rw[if_pos hn,if_pos hn]
   ·rw[if_neg hn,if_neg hn,ih g (n / 1048576) (by omega) (by omega)]
theorem dg_zero:dg 0=[]:=rfl
theorem dg_pos {n:Nat} (h:0<n):dg n=((n % 1048576:Nat):Int)::dg (n / 1048576):=by
 unfold dg
 obtain⟨k,rfl⟩:∃ k,n=k+1:=⟨n-1,by omega⟩
 conv=>lhs;unfold dgF
 rw[if_neg (by omega),dgF_fuel k ((k+1) / 1048576) _ (by omega) (by omega)]
theorem vl_dg (n:Nat):vl (dg n)=n:=by
 induction n using Nat.strongRecOn with
 | _ n ih =>
  rcases Nat.eq_zero_or_pos n with rfl | h
  ·rfl
  ·rw[dg_pos h]
   unfold vl
   rw[ih _ (by omega)]
   omega
theorem dg_inj {a b:Nat} (h:dg a=dg b):a=b:=by
 have:=congrArg vl h
 rw[vl_dg,vl_dg] at this
 omega
theorem isD_dg (n:Nat):isD (dg n):=by
 induction n using Nat.strongRecOn with
 | _ n ih =>
  rcases Nat.eq_zero_or_pos n with rfl | h
  ·intro d hd;cases hd
  ·rw[dg_pos h]
   intro d hd
   rcases List.mem_cons.1 hd with rfl | hd
   ·omega
   ·exact ih _ (by omega) d hd
theorem dg_nil {n:Nat}:dg n=[]↔n=0:=by
 constructor
 ·intro h;exact dg_inj (b:=0) h
 ·rintro rfl;rfl
theorem vl_nonneg {l:List Int} (h:isD l):0≤vl l:=by
 induction l with
 | nil=>exact Int.le_refl _
 | cons d r ih =>
  have h1:=h d (by simp)
  have h2:=ih fun x hx=>h x (by simp [hx])
  unfold vl;omega
theorem isD_cons {d:Int} {r:List Int}:isD (d::r)↔(0≤d∧d<1048576)∧isD r :=
 ⟨fun h=>⟨h d (by simp),fun x hx=>h x (by simp [hx])⟩,fun h x hx=>(List.mem_cons.1 hx).elim (fun e=>e ▸ h.1) (h.2 x)⟩
theorem isD_append {a b:List Int}:isD (a++b)↔isD a∧isD b :=
 ⟨fun h=>⟨fun x hx=>h x (by simp [hx]),fun x hx=>h x (by simp [hx])⟩,fun h x hx=>(List.mem_append.1 hx).elim (h.1 x) (h.2 x)⟩
theorem vl_append (a b:List Int):vl (a++b)=vl a+1048576^a.length*vl b:=by
 induction a with
 | nil=>simp [vl]
 | cons d r ih =>
  simp only[List.cons_append,vl,ih,List.length_cons,Int.pow_succ]
  rw[Int.mul_add]
  have:(1048576:Int)*(1048576^r.length*vl b)=1048576^r.length*1048576*vl b:=by
   rw[Int.mul_comm (1048576^r.length) 1048576,Int.mul_assoc]
  omega
theorem vl_lt {l:List Int} (h:isD l):vl l<1048576^l.length:=by
 induction l with
 | nil=>simp [vl]
 | cons d r ih =>
  rw[isD_cons] at h
  have h2:=ih h.2
  simp only[vl,List.length_cons,Int.pow_succ]
  omega
/-! ### Zeros at the end -/
theorem trimL_snoc0 (l:List Int):trimL (l++[0])=trimL l:=by
 induction l with
 | nil=>simp [trimL]
 | cons d r ih=>simp only[List.cons_append,trimL,ih]
theorem trimL_snoc (l:List Int) {d:Int} (h:d≠0):trimL (l++[d])=l++[d]:=by
 induction l with
 | nil=>simp [trimL,h]
 | cons x r ih=>simp only[List.cons_append,trimL,ih];simp
theorem trimL_dg {l:List Int} (h:isD l):trimL l=dg (vl l).toNat:=by
 induction l with
 | nil=>rfl
 | cons d r ih =>
  rw[isD_cons] at h
  have hr:=ih h.2
  have hv:=vl_nonneg h.2
  unfold trimL
  rw[hr,vl_cons]
  by_cases hz:vl r=0
  ·rw[hz]
   by_cases hd:d=0
   ·simp [hd,dg_zero]
   ·rw[if_pos (by rfl),if_neg hd]
    rw[dg_pos (by omega)]
    rw[show (d+1048576*0).toNat / 1048576=0 by omega,dg_zero]
    congr 1
    omega
  ·rw[if_neg (by rw[dg_nil];omega)]
   rw[dg_pos (n:=(d+1048576*vl r).toNat) (by omega)]
   congr 1
   ·omega
   ·congr 1;omega
theorem trimL_of_dg (n:Nat):trimL (dg n)=dg n:=by
 rw[trimL_dg (isD_dg n),vl_dg];simp
/-- Digits without a zero at the end are a number's. -/
theorem canon {l:List Int} (h:isD l) (hl:l.getLast?≠some 0):l=dg (vl l).toNat:=by
 rw[←trimL_dg h]
 rcases List.eq_nil_or_concat l with rfl | ⟨r,d,rfl⟩
 ·rfl
 ·rw[List.concat_eq_append] at hl ⊢
  rw[trimL_snoc]
  rintro rfl
  simp at hl
theorem dg_last (n:Nat):(dg n).getLast?≠some 0:=by
 intro h
 obtain⟨r,hr⟩:∃ r,dg n=r++[0]:=by
  rcases List.eq_nil_or_concat (dg n) with e | ⟨r,d,e⟩
  ·rw[e] at h;cases h
  ·rw[List.concat_eq_append] at e;rw[e] at h;simp at h;subst h;exact⟨r,e⟩
 have h1:=trimL_of_dg n
 rw[hr,trimL_snoc0] at h1
 have h2:(trimL r).length≤r.length:=by
  clear h1 hr h
  induction r with
  | nil=>simp [trimL]
  | cons d r ih=>unfold trimL;split<;>(try split)<;>simp<;>omega
 rw[h1] at h2
 simp at h2
 omega
theorem dg_len {n k:Nat}:(dg n).length≤k↔n<1048576^k:=by
 induction k generalizing n with
 | zero =>
      rw[Nat.pow_zero];constructor
      ·intro h;have:=List.eq_nil_of_length_eq_zero (Nat.le_zero.1 h);rw[dg_nil] at this;omega
      ·intro h;obtain rfl:n=0:=by omega
       simp [dg_zero]
 | succ k ih =>
  rcases Nat.eq_zero_or_pos n with rfl | h
  ·simp [dg_zero];exact Nat.pos_of_ne_zero (by simp)
  ·rw[dg_pos h,List.length_cons,Nat.pow_succ]
   have:=ih (n:=n / 1048576)
   rw[Nat.add_le_add_iff_right,this]
   rw[Nat.div_lt_iff_lt_mul (by omega)]
theorem dg_one {n:Nat} (h:0<n) (h1:n<1048576):dg n=[(n:Int)]:=by
 rw[dg_pos h,Nat.div_eq_of_lt h1,Nat.mod_eq_of_lt h1];rfl
theorem vl_take_drop (l:List Int) (i:Nat):vl l=vl (l.take i)+1048576^(min i l.length)*vl (l.drop i):=by
 conv=>lhs;rw[←List.take_append_drop i l]
 rw[vl_append,List.length_take]
/-! ### Bits -/
theorem wrapu64 (n:Int) (h:0≤n∧n<18446744073709551616):IntKind.u64.wrap n=n:=by
 simp [IntKind.wrap,IntKind.bits,IntKind.signed];omega
theorem and_mask (n:Int):bits .and .i64 n 1048575=n % 1048576:=by
 have h2:(1048575:Int)=((2^20-1:Nat):Int):=by decide
 have h1:n % 18446744073709551616 % 1048576=n % 1048576:=by omega
 obtain⟨a,ha⟩:∃ a:Nat,(a:Int)=n % 18446744073709551616:=⟨(n % 18446744073709551616).toNat,by omega⟩
 have e:BitVec.ofInt 64 n=BitVec.ofNat 64 a:=by
  apply BitVec.eq_of_toInt_eq
  rw[BitVec.toInt_ofInt,BitVec.toInt_ofNat',ha]
  simp [Int.bmod_def,Int.emod_emod_of_dvd]
 have e2:bits .and .i64 n 1048575=bits .and .i64 (a:Int) 1048575:=by
  simp only[bits]
  rw[show IntKind.i64.bits=64 from rfl,e,BitVec.ofInt_natCast]
 rw[e2,←h1,←ha,h2]
 have ha64:a<2^64:=by omega
 simp only[bits,BitVec.ofInt_natCast,BitVec.toNat_and,BitVec.toNat_ofNat,show IntKind.i64.bits=64 from rfl,Nat.mod_eq_of_lt ha64]
 rw[show (2^20-1:Nat) % 2^64=2^20-1 by decide,Nat.and_two_pow_sub_one_eq_mod,wrap64 _ (by omega) (by omega)]
 omega
theorem and_masku (n:Int) (h:0≤n∧n<18446744073709551616):bits .and .u64 n 1048575=n % 1048576:=by
 have:=bits_mask .u64 64 (by decide) (fun n h1 h2=>wrapu64 n ⟨h1,by omega⟩) 20 (by decide) n h.1 (by omega)
 simpa using this
theorem or_join (x y:Int) (hx:0≤x) (hx1:x<8796093022208) (hy:0≤y∧y<1048576):bits .or .i64 (x*1048576) y=x*1048576+y:=by
 refine bits_join .i64 63 (by decide) (fun n h1 h2=>wrap64 n (by omega) (by omega)) 20 _ _ (by omega) (by omega) (by omega) hy.1 (by omega) (by omega)
theorem fdiv20 (n:Int):n.fdiv (2^20)=n / 1048576:=by
 rw[Int.fdiv_eq_ediv_of_nonneg _ (by decide)];rfl
theorem fdivm (n:Int):n.fdiv (2^min (Int.toNat 20) 64)=n / 1048576:=fdiv20 n
end Go.Mini
namespace Go.Mini
open Go
def id_gosem_cut_init:FuncId:=2
def id_law06_LinearOnly:FuncId:=900101
def id_law06_LinearMoves:FuncId:=900102
def id_law06_LinearSums:FuncId:=900103
def id_law06_LinearRank:FuncId:=900104
def id_law06_small:FuncId:=4
def id_ref06_Few:FuncId:=5
def id_ref06_FewFracs:FuncId:=6
def id_linear_Right:FuncId:=13
def id_linear_Solve:FuncId:=7
def id_linear_Kernel:FuncId:=9
def id_linear_Check:FuncId:=16
def id_ref06_Same:FuncId:=15
def id_ref06_Zero:FuncId:=46
def id_law06_homogeneous:FuncId:=900114
def id_ref05_Few:FuncId:=21
def id_frac_Right:FuncId:=29
def id_law06_times:FuncId:=900117
def id_law06_plus:FuncId:=900118
def id_frac_Add:FuncId:=37
def id_ref05_Same:FuncId:=34
def id_linear_Rank:FuncId:=11
def id_law06_number:FuncId:=20
def id_law06_row:FuncId:=18
def id_ref05_Of:FuncId:=19
def id_linear_Right_1:FuncId:=28
def id_slices_ContainsFunc_Row:FuncId:=30
def id_linear_Right_2:FuncId:=31
def id_slices_ContainsFunc_Frac:FuncId:=32
def id_linear_eliminated:FuncId:=22
def id_frac_Of:FuncId:=24
def id_slices_Repeat_Frac:FuncId:=25
def id_frac_Sub:FuncId:=26
def id_linear_Check_1:FuncId:=35
def id_frac_Mul:FuncId:=36
def id_frac_Compare:FuncId:=38
def id_big_Right:FuncId:=56
def id_big_Gcd:FuncId:=57
def id_frac_one:FuncId:=58
def id_frac_sum:FuncId:=67
def id_big_Mul:FuncId:=65
def id_frac_quotient:FuncId:=66
def id_ref05_SameBig:FuncId:=64
def id_ref05_New:FuncId:=41
def id_ref04_Of:FuncId:=42
def id_slices_IndexFunc_Row:FuncId:=59
def id_slices_IndexFunc_Frac:FuncId:=60
def id_slices_Clone_Frac:FuncId:=43
def id_linear_matrix_pivot:FuncId:=44
def id_frac_New:FuncId:=49
def id_big_Of:FuncId:=50
def id_math_bits_Mul:FuncId:=51
def id_big_Neg:FuncId:=52
def id_big_Div:FuncId:=68
def id_big_Compare:FuncId:=69
def id_big_checked:FuncId:=85
def id_slices_Clone_int:FuncId:=82
def id_big_div:FuncId:=86
def id_big_signed:FuncId:=79
def id_big_Int:FuncId:=87
def id_big_Add:FuncId:=92
def id_big_mul:FuncId:=91
def id_ref04_Right:FuncId:=61
def id_ref04_Neg:FuncId:=71
def id_ref04_Gcd:FuncId:=62
def id_ref04_Div:FuncId:=72
def id_ref04_made:FuncId:=73
def id_linear_zero:FuncId:=74
def id_linear_matrix_note:FuncId:=75
def id_frac_Div:FuncId:=76
def id_math_bits_Mul32:FuncId:=80
def id_math_bits_Mul64:FuncId:=81
def id_big_add:FuncId:=93
def id_big_sub:FuncId:=94
def id_cmp_Compare_int:FuncId:=95
def id_big_compare:FuncId:=96
def id_big_short:FuncId:=102
def id_big_trim:FuncId:=100
def id_big_settle:FuncId:=103
def id_cmp_Or_int:FuncId:=104
def id_ref04_over:FuncId:=88
def id_ref04_plus:FuncId:=97
def id_ref04_minus:FuncId:=98
def id_ref04_trim:FuncId:=99
def id_cmp_isNaN_int:FuncId:=105
def id_ref04_less:FuncId:=90
def id_ref04_times:FuncId:=84
def id_ref04_digit:FuncId:=101
def id_law06_LinearTells:FuncId:=3
def id_ref06_Solve:FuncId:=8
def id_ref06_Kernel:FuncId:=10
def id_ref06_Rank:FuncId:=12
def id_ref06_Right:FuncId:=14
def id_ref06_Check:FuncId:=17
def id_ref06_Eliminated:FuncId:=23
def id_ref05_Sub:FuncId:=27
def id_ref05_Right:FuncId:=33
def id_ref05_Mul:FuncId:=39
def id_ref05_Add:FuncId:=40
def id_ref06_Copied:FuncId:=45
def id_ref06_divided:FuncId:=47
def id_ref06_reduced:FuncId:=48
def id_ref04_Mul:FuncId:=53
def id_ref04_Sub:FuncId:=54
def id_ref05_made:FuncId:=55
def id_ref04_Compare:FuncId:=63
def id_ref04_Add:FuncId:=70
def id_ref05_Div:FuncId:=77
def id_ref06_less:FuncId:=78
def id_ref04_kept:FuncId:=83
def id_ref04_Same:FuncId:=89
end Go.Mini
namespace Go.Mini
open Go
def mf_big_Right:MFunc :=
 { n:=49,np:=1,res:=[.t 2],body :=
 (.seq (.ops [
 ⟨some 1,none,.box 136001 (.t 0)⟩,⟨some 2,none,.mv (.c (.dat (.bool false)))⟩])
 (.seq (.ops [
 ⟨some 6,none,.fad 1 (.t 1)⟩,⟨some 7,none,.load 1 false (.t 6)⟩,⟨some 8,none,.len (.t 7)⟩,⟨some 3,none,.mv (.t 8)⟩])
 (.seq (.seq (.ops [
 ⟨some 9,none,.fad 1 (.t 1)⟩,⟨some 10,none,.load 1 false (.t 9)⟩,⟨some 11,none,.len (.t 10)⟩,⟨some 12,none,.mv (.c (.dat (.int .i64 0)))⟩])
 (.block 0
 (.loop
 (.seq (.ops [
 ⟨some 13,none,.bin .lss (.t 12) (.t 11)⟩])
 (.seq (.cond (.t 13)
 .skip
 (.exit 0))
 (.seq (.block 1
 (.seq (.ops [
 ⟨some 14,none,.iad 1 (.t 10) (.t 12)⟩,⟨some 15,none,.load 1 false (.t 14)⟩,⟨some 5,none,.mv (.t 15)⟩])
 (.seq (.ops [
 ⟨some 16,none,.mv (.t 5)⟩,⟨some 17,none,.bin .lss (.t 16) (.c (.dat (.int .i64 0)))⟩,⟨some 18,none,.mv (.t 17)⟩,⟨some 19,some (18,false),.mv (.t 5)⟩,⟨some 20,some (18,false),.bin .gtr (.t 19) (.c (.dat (.int .i64 1048575)))⟩,⟨some 21,none,.pick (.t 18) (.c (.dat (.bool true))) (.t 20)⟩])
 (.cond (.t 21)
 (.seq (.ops [
 ⟨some 2,none,.mv (.c (.dat (.bool false)))⟩])
 .ret)
 .skip))))
 (.ops [
 ⟨some 22,none,.bin .add (.t 12) (.c (.dat (.int .i64 1)))⟩,⟨some 12,none,.mv (.t 22)⟩])))))))
 (.seq (.seq (.ops [
 ⟨some 23,none,.mv (.t 3)⟩,⟨some 24,none,.bin .eql (.t 23) (.c (.dat (.int .i64 0)))⟩])
 (.cond (.t 24)
 (.seq (.ops [
 ⟨some 25,none,.fad 0 (.t 1)⟩,⟨some 26,none,.load 1 false (.t 25)⟩,⟨some 27,none,.bin .eql (.t 26) (.c (.dat (.int .i64 0)))⟩,⟨some 2,none,.mv (.t 27)⟩])
 .ret)
 .skip))
 (.seq (.ops [
 ⟨some 28,none,.fad 0 (.t 1)⟩,⟨some 29,none,.load 1 false (.t 28)⟩,⟨some 30,none,.bin .eql (.t 29) (.c (.dat (.int .i64 1)))⟩,⟨some 31,none,.mv (.t 30)⟩,⟨some 32,some (31,false),.fad 0 (.t 1)⟩,⟨some 33,some (31,false),.load 1 false (.t 32)⟩,⟨some 34,some (31,false),.bin .eql (.t 33) (.c (.dat (.int .i64 (-1))))⟩,⟨some 35,none,.pick (.t 31) (.c (.dat (.bool true))) (.t 34)⟩,⟨some 36,none,.mv (.t 35)⟩,⟨some 37,some (36,true),.mv (.t 3)⟩,⟨some 38,some (36,true),.bin .leq (.t 37) (.c (.dat (.int .i64 60)))⟩,⟨some 39,none,.pick (.t 36) (.t 38) (.c (.dat (.bool false)))⟩,⟨some 40,none,.mv (.t 39)⟩,⟨some 41,some (40,true),.fad 1 (.t 1)⟩,⟨some 42,some (40,true),.load 1 false (.t 41)⟩,⟨some 43,some (40,true),.mv (.t 3)⟩,⟨some 44,some (40,true),.bin .sub (.t 43) (.c (.dat (.int .i64 1)))⟩,⟨some 45,some (40,true),.iad 1 (.t 42) (.t 44)⟩,⟨some 46,some (40,true),.load 1 false (.t 45)⟩,⟨some 47,some (40,true),.bin .neq (.t 46) (.c (.dat (.int .i64 0)))⟩,⟨some 48,none,.pick (.t 40) (.t 47) (.c (.dat (.bool false)))⟩,⟨some 2,none,.mv (.t 48)⟩])
 .ret))))) }
def mf_big_Gcd:MFunc :=
 { n:=44,np:=2,res:=[.cell 4 2 true,.t 5],body :=
 (.seq (.ops [
 ⟨some 2,none,.box 137002 (.t 0)⟩,⟨some 3,none,.box 137003 (.t 1)⟩,⟨some 4,none,.alloc 137004 [(.dat (.int .i64 0)),.nil]⟩,⟨some 5,none,.mv (.c (.dat (.int .i64 0)))⟩])
 (.seq (.seq (.ops [
 ⟨some 10,none,.load 2 true (.t 2)⟩,⟨some 11,none,.call id_big_Right [(.t 10)]⟩,⟨some 12,none,.un .not (.t 11)⟩,⟨some 13,none,.mv (.t 12)⟩,⟨some 14,some (13,false),.load 2 true (.t 3)⟩,⟨some 15,some (13,false),.call id_big_Right [(.t 14)]⟩,⟨some 16,some (13,false),.un .not (.t 15)⟩,⟨some 17,none,.pick (.t 13) (.c (.dat (.bool true))) (.t 16)⟩])
 (.cond (.t 17)
 (.seq (.ops [
 ⟨some 18,none,.build [(.dat (.int .i64 0)),.nil] []⟩,⟨some 19,none,.call id_big_checked [(.c (.dat (.bool false))),(.t 18)]⟩,⟨some 20,none,.ext 0 (.t 19)⟩,⟨some 21,none,.ext 1 (.t 19)⟩,⟨none,none,.store 2 (.t 4) (.t 20)⟩,⟨some 5,none,.mv (.t 21)⟩])
 .ret)
 .skip))
 (.seq (.opsD [
 ⟨some 22,none,.fad 1 (.t 2)⟩,⟨some 23,none,.load 1 false (.t 22)⟩,⟨some 24,none,.call id_slices_Clone_int [(.t 23)]⟩,⟨some 25,none,.fad 1 (.t 3)⟩,⟨some 26,none,.load 1 false (.t 25)⟩,⟨some 6,none,.mv (.t 24)⟩,⟨some 7,none,.mv (.t 26)⟩] [[],[],[],[],[],[],[]])
 (.seq (.block 0
 (.loop
 (.seq (.seq (.ops [
 ⟨some 27,none,.mv (.t 7)⟩,⟨some 28,none,.len (.t 27)⟩,⟨some 29,none,.bin .gtr (.t 28) (.c (.dat (.int .i64 0)))⟩])
 (.cond (.t 29)
 .skip
 (.exit 0)))
 (.block 1
 (.seq (.ops [
 ⟨some 31,none,.mv (.t 6)⟩,⟨some 32,none,.mv (.t 7)⟩,⟨some 33,none,.call id_big_div [(.t 31),(.t 32)]⟩,⟨some 30,none,.mv (.t 33)⟩,⟨some 34,none,.ext 0 (.t 30)⟩,⟨some 35,none,.ext 1 (.t 30)⟩,⟨some 8,none,.mv (.t 34)⟩,⟨some 9,none,.mv (.t 35)⟩])
 (.ops [
 ⟨some 36,none,.mv (.t 7)⟩,⟨some 37,none,.mv (.t 9)⟩,⟨some 6,none,.mv (.t 36)⟩,⟨some 7,none,.mv (.t 37)⟩]))))))
 (.seq (.ops [
 ⟨some 38,none,.mv (.t 6)⟩,⟨some 39,none,.call id_slices_Clone_int [(.t 38)]⟩,⟨some 40,none,.call id_big_signed [(.c (.dat (.int .i64 1))),(.t 39)]⟩,⟨some 41,none,.call id_big_checked [(.c (.dat (.bool true))),(.t 40)]⟩,⟨some 42,none,.ext 0 (.t 41)⟩,⟨some 43,none,.ext 1 (.t 41)⟩,⟨none,none,.store 2 (.t 4) (.t 42)⟩,⟨some 5,none,.mv (.t 43)⟩])
 .ret))))) }
def mf_big_Mul:MFunc :=
 { n:=32,np:=2,res:=[.cell 4 2 true,.t 5],body :=
 (.seq (.ops [
 ⟨some 2,none,.box 140002 (.t 0)⟩,⟨some 3,none,.box 140003 (.t 1)⟩,⟨some 4,none,.alloc 140004 [(.dat (.int .i64 0)),.nil]⟩,⟨some 5,none,.mv (.c (.dat (.int .i64 0)))⟩])
 (.seq (.seq (.ops [
 ⟨some 6,none,.load 2 true (.t 2)⟩,⟨some 7,none,.call id_big_Right [(.t 6)]⟩,⟨some 8,none,.un .not (.t 7)⟩,⟨some 9,none,.mv (.t 8)⟩,⟨some 10,some (9,false),.load 2 true (.t 3)⟩,⟨some 11,some (9,false),.call id_big_Right [(.t 10)]⟩,⟨some 12,some (9,false),.un .not (.t 11)⟩,⟨some 13,none,.pick (.t 9) (.c (.dat (.bool true))) (.t 12)⟩])
 (.cond (.t 13)
 (.seq (.ops [
 ⟨some 14,none,.build [(.dat (.int .i64 0)),.nil] []⟩,⟨some 15,none,.call id_big_checked [(.c (.dat (.bool false))),(.t 14)]⟩,⟨some 16,none,.ext 0 (.t 15)⟩,⟨some 17,none,.ext 1 (.t 15)⟩,⟨none,none,.store 2 (.t 4) (.t 16)⟩,⟨some 5,none,.mv (.t 17)⟩])
 .ret)
 .skip))
 (.seq (.opsD [
 ⟨some 18,none,.fad 0 (.t 2)⟩,⟨some 19,none,.load 1 false (.t 18)⟩,⟨some 20,none,.fad 0 (.t 3)⟩,⟨some 21,none,.load 1 false (.t 20)⟩,⟨some 22,none,.bin .mul (.t 19) (.t 21)⟩,⟨some 23,none,.fad 1 (.t 2)⟩,⟨some 24,none,.load 1 false (.t 23)⟩,⟨some 25,none,.fad 1 (.t 3)⟩,⟨some 26,none,.load 1 false (.t 25)⟩,⟨some 27,none,.call id_big_mul [(.t 24),(.t 26)]⟩,⟨some 28,none,.call id_big_signed [(.t 22),(.t 27)]⟩,⟨some 29,none,.call id_big_checked [(.c (.dat (.bool true))),(.t 28)]⟩,⟨some 30,none,.ext 0 (.t 29)⟩,⟨some 31,none,.ext 1 (.t 29)⟩,⟨none,none,.store 2 (.t 4) (.t 30)⟩,⟨some 5,none,.mv (.t 31)⟩] [[],[],[],[],[],[],[],[],[],[],[],[],[],[],[],[]])
 .ret))) }
def mf_big_Of:MFunc :=
 { n:=25,np:=1,res:=[.cell 2 2 true],body :=
 (.seq (.ops [
 ⟨some 2,none,.alloc 150002 [(.dat (.int .i64 0)),.nil]⟩])
 (.seq (.ops [
 ⟨some 6,none,.mv (.t 0)⟩,⟨some 7,none,.conv .u64 (.t 6)⟩,⟨some 3,none,.mv (.c (.dat (.int .i64 1)))⟩,⟨some 4,none,.mv (.t 7)⟩])
 (.seq (.seq (.ops [
 ⟨some 8,none,.mv (.t 0)⟩,⟨some 9,none,.bin .lss (.t 8) (.c (.dat (.int .i64 0)))⟩])
 (.cond (.t 9)
 (.ops [
 ⟨some 10,none,.mv (.t 4)⟩,⟨some 11,none,.un .neg (.t 10)⟩,⟨some 3,none,.mv (.c (.dat (.int .i64 (-1))))⟩,⟨some 4,none,.mv (.t 11)⟩])
 .skip))
 (.seq (.ops [
 ⟨some 5,none,.mv (.c .nil)⟩])
 (.seq (.block 0
 (.ghost (.adopt 5 150021 1) (.loop
 (.seq (.seq (.ops [
 ⟨some 12,none,.mv (.t 4)⟩,⟨some 13,none,.bin .gtr (.t 12) (.c (.dat (.int .u64 0)))⟩])
 (.cond (.t 13)
 .skip
 (.exit 0)))
 (.seq (.block 1
 (.ops [
 ⟨some 16,none,.mv (.t 5)⟩,⟨some 17,none,.mv (.t 4)⟩,⟨some 18,none,.bin .and (.t 17) (.c (.dat (.int .u64 1048575)))⟩,⟨some 19,none,.conv .i64 (.t 18)⟩,⟨some 20,none,.bsl 150020 false [(.dat (.int .i64 0))] 1 1 [(0,1,(.t 19))]⟩,⟨some 21,none,.app 150021 [(.dat (.int .i64 0))] 8 (.t 16) (.t 20)⟩,⟨some 5,none,.mv (.t 21)⟩]))
 (.ops [
 ⟨some 14,none,.mv (.t 4)⟩,⟨some 15,none,.bin .shr (.t 14) (.c (.dat (.int .u64 20)))⟩,⟨some 4,none,.mv (.t 15)⟩]))))))
 (.seq (.ghost (.freeze 5) (.ops [
 ⟨some 22,none,.mv (.t 3)⟩,⟨some 23,none,.mv (.t 5)⟩,⟨some 24,none,.call id_big_signed [(.t 22),(.t 23)]⟩,⟨none,none,.store 2 (.t 2) (.t 24)⟩]))
 .ret)))))) }
def mf_big_Neg:MFunc :=
 { n:=14,np:=1,res:=[.cell 2 2 true],body :=
 (.seq (.ops [
 ⟨some 1,none,.box 152001 (.t 0)⟩,⟨some 2,none,.alloc 152002 [(.dat (.int .i64 0)),.nil]⟩])
 (.seq (.seq (.ops [
 ⟨some 3,none,.load 2 true (.t 1)⟩,⟨some 4,none,.call id_big_Right [(.t 3)]⟩,⟨some 5,none,.un .not (.t 4)⟩])
 (.cond (.t 5)
 (.seq (.ops [
 ⟨some 6,none,.build [(.dat (.int .i64 0)),.nil] []⟩,⟨none,none,.store 2 (.t 2) (.t 6)⟩])
 .ret)
 .skip))
 (.seq (.opsD [
 ⟨some 7,none,.fad 0 (.t 1)⟩,⟨some 8,none,.load 1 false (.t 7)⟩,⟨some 9,none,.un .neg (.t 8)⟩,⟨some 10,none,.fad 1 (.t 1)⟩,⟨some 11,none,.load 1 false (.t 10)⟩,⟨some 12,none,.call id_slices_Clone_int [(.t 11)]⟩,⟨some 13,none,.call id_big_signed [(.t 9),(.t 12)]⟩,⟨none,none,.store 2 (.t 2) (.t 13)⟩] [[],[],[],[],[],[],[],[]])
 .ret))) }
def mf_big_Div:MFunc :=
 { n:=67,np:=2,res:=[.cell 4 2 true,.cell 5 2 true,.t 6],body :=
 (.seq (.ops [
 ⟨some 2,none,.box 153002 (.t 0)⟩,⟨some 3,none,.box 153003 (.t 1)⟩,⟨some 4,none,.alloc 153004 [(.dat (.int .i64 0)),.nil]⟩,⟨some 5,none,.alloc 153005 [(.dat (.int .i64 0)),.nil]⟩,⟨some 6,none,.mv (.c (.dat (.int .i64 0)))⟩])
 (.seq (.block 0
 (.seq (.ops [
 ⟨some 10,none,.load 2 true (.t 2)⟩,⟨some 11,none,.call id_big_Right [(.t 10)]⟩,⟨some 12,none,.un .not (.t 11)⟩,⟨some 13,none,.mv (.t 12)⟩,⟨some 14,some (13,false),.load 2 true (.t 3)⟩,⟨some 15,some (13,false),.call id_big_Right [(.t 14)]⟩,⟨some 16,some (13,false),.un .not (.t 15)⟩,⟨some 17,none,.pick (.t 13) (.c (.dat (.bool true))) (.t 16)⟩,⟨some 9,none,.mv (.t 17)⟩])
 (.cond (.t 9)
 (.seq (.ops [
 ⟨some 18,none,.build [(.dat (.int .i64 0)),.nil] []⟩,⟨some 19,none,.build [(.dat (.int .i64 0)),.nil] []⟩,⟨none,none,.store 2 (.t 4) (.t 18)⟩,⟨none,none,.store 2 (.t 5) (.t 19)⟩,⟨some 6,none,.mv (.c (.dat (.int .i64 1)))⟩])
 .ret)
 (.seq (.ops [
 ⟨some 21,none,.fad 0 (.t 3)⟩,⟨some 22,none,.load 1 false (.t 21)⟩,⟨some 23,none,.bin .eql (.t 22) (.c (.dat (.int .i64 0)))⟩,⟨some 20,none,.mv (.t 23)⟩])
 (.cond (.t 20)
 (.seq (.ops [
 ⟨some 24,none,.build [(.dat (.int .i64 0)),.nil] []⟩,⟨some 25,none,.build [(.dat (.int .i64 0)),.nil] []⟩,⟨none,none,.store 2 (.t 4) (.t 24)⟩,⟨none,none,.store 2 (.t 5) (.t 25)⟩,⟨some 6,none,.mv (.c (.dat (.int .i64 15)))⟩])
 .ret)
 .skip)))))
 (.seq (.ops [
 ⟨some 27,none,.fad 1 (.t 2)⟩,⟨some 28,none,.load 1 false (.t 27)⟩,⟨some 29,none,.fad 1 (.t 3)⟩,⟨some 30,none,.load 1 false (.t 29)⟩,⟨some 31,none,.call id_big_div [(.t 28),(.t 30)]⟩,⟨some 26,none,.mv (.t 31)⟩,⟨some 32,none,.ext 0 (.t 26)⟩,⟨some 33,none,.ext 1 (.t 26)⟩,⟨some 7,none,.mv (.t 32)⟩,⟨some 8,none,.mv (.t 33)⟩])
 (.seq (.seq (.ops [
 ⟨some 34,none,.fad 0 (.t 2)⟩,⟨some 35,none,.load 1 false (.t 34)⟩,⟨some 36,none,.fad 0 (.t 3)⟩,⟨some 37,none,.load 1 false (.t 36)⟩,⟨some 38,none,.bin .mul (.t 35) (.t 37)⟩,⟨some 39,none,.bin .lss (.t 38) (.c (.dat (.int .i64 0)))⟩,⟨some 40,none,.mv (.t 39)⟩,⟨some 41,some (40,true),.mv (.t 8)⟩,⟨some 42,some (40,true),.len (.t 41)⟩,⟨some 43,some (40,true),.bin .gtr (.t 42) (.c (.dat (.int .i64 0)))⟩,⟨some 44,none,.pick (.t 40) (.t 43) (.c (.dat (.bool false)))⟩])
 (.cond (.t 44)
 (.seq (.opsD [
 ⟨some 45,none,.mv (.t 7)⟩,⟨some 46,none,.bsl 153046 false [(.dat (.int .i64 0))] 1 1 [(0,1,(.c (.dat (.int .i64 1))))]⟩,⟨some 47,none,.call id_big_add [(.t 45),(.t 46)]⟩,⟨some 48,none,.call id_big_signed [(.c (.dat (.int .i64 (-1)))),(.t 47)]⟩,⟨some 49,none,.fad 0 (.t 3)⟩,⟨some 50,none,.load 1 false (.t 49)⟩,⟨some 51,none,.fad 1 (.t 3)⟩,⟨some 52,none,.load 1 false (.t 51)⟩,⟨some 53,none,.mv (.t 8)⟩,⟨some 54,none,.call id_big_sub [(.t 52),(.t 53)]⟩,⟨some 55,none,.call id_big_signed [(.t 50),(.t 54)]⟩,⟨none,none,.store 2 (.t 4) (.t 48)⟩,⟨none,none,.store 2 (.t 5) (.t 55)⟩,⟨some 6,none,.mv (.c (.dat (.int .i64 0)))⟩] [[],[],[],[],[],[],[],[],[],[],[],[],[],[]])
 .ret)
 .skip))
 (.seq (.opsD [
 ⟨some 56,none,.fad 0 (.t 2)⟩,⟨some 57,none,.load 1 false (.t 56)⟩,⟨some 58,none,.fad 0 (.t 3)⟩,⟨some 59,none,.load 1 false (.t 58)⟩,⟨some 60,none,.bin .mul (.t 57) (.t 59)⟩,⟨some 61,none,.mv (.t 7)⟩,⟨some 62,none,.call id_big_signed [(.t 60),(.t 61)]⟩,⟨some 63,none,.fad 0 (.t 2)⟩,⟨some 64,none,.load 1 false (.t 63)⟩,⟨some 65,none,.mv (.t 8)⟩,⟨some 66,none,.call id_big_signed [(.t 64),(.t 65)]⟩,⟨none,none,.store 2 (.t 4) (.t 62)⟩,⟨none,none,.store 2 (.t 5) (.t 66)⟩,⟨some 6,none,.mv (.c (.dat (.int .i64 0)))⟩] [[],[],[],[],[],[],[],[],[],[],[],[],[],[]])
 .ret))))) }
def mf_big_Compare:MFunc :=
 { n:=31,np:=2,res:=[.t 4],body :=
 (.seq (.ops [
 ⟨some 2,none,.box 154002 (.t 0)⟩,⟨some 3,none,.box 154003 (.t 1)⟩,⟨some 4,none,.mv (.c (.dat (.int .i64 0)))⟩])
 (.seq (.seq (.ops [
 ⟨some 5,none,.load 2 true (.t 2)⟩,⟨some 6,none,.call id_big_Right [(.t 5)]⟩,⟨some 7,none,.un .not (.t 6)⟩,⟨some 8,none,.mv (.t 7)⟩,⟨some 9,some (8,false),.load 2 true (.t 3)⟩,⟨some 10,some (8,false),.call id_big_Right [(.t 9)]⟩,⟨some 11,some (8,false),.un .not (.t 10)⟩,⟨some 12,none,.pick (.t 8) (.c (.dat (.bool true))) (.t 11)⟩])
 (.cond (.t 12)
 (.seq (.ops [
 ⟨some 4,none,.mv (.c (.dat (.int .i64 0)))⟩])
 .ret)
 .skip))
 (.seq (.seq (.ops [
 ⟨some 13,none,.fad 0 (.t 2)⟩,⟨some 14,none,.load 1 false (.t 13)⟩,⟨some 15,none,.fad 0 (.t 3)⟩,⟨some 16,none,.load 1 false (.t 15)⟩,⟨some 17,none,.bin .neq (.t 14) (.t 16)⟩])
 (.cond (.t 17)
 (.seq (.ops [
 ⟨some 18,none,.fad 0 (.t 2)⟩,⟨some 19,none,.load 1 false (.t 18)⟩,⟨some 20,none,.fad 0 (.t 3)⟩,⟨some 21,none,.load 1 false (.t 20)⟩,⟨some 22,none,.call id_cmp_Compare_int [(.t 19),(.t 21)]⟩,⟨some 4,none,.mv (.t 22)⟩])
 .ret)
 .skip))
 (.seq (.opsD [
 ⟨some 23,none,.fad 0 (.t 2)⟩,⟨some 24,none,.load 1 false (.t 23)⟩,⟨some 25,none,.fad 1 (.t 2)⟩,⟨some 26,none,.load 1 false (.t 25)⟩,⟨some 27,none,.fad 1 (.t 3)⟩,⟨some 28,none,.load 1 false (.t 27)⟩,⟨some 29,none,.call id_big_compare [(.t 26),(.t 28)]⟩,⟨some 30,none,.bin .mul (.t 24) (.t 29)⟩,⟨some 4,none,.mv (.t 30)⟩] [[],[],[],[],[],[],[],[],[]])
 .ret)))) }
def mf_big_checked:MFunc :=
 { n:=17,np:=2,res:=[.cell 4 2 true,.t 5],body :=
 (.seq (.ops [
 ⟨some 3,none,.box 155003 (.t 1)⟩,⟨some 4,none,.alloc 155004 [(.dat (.int .i64 0)),.nil]⟩,⟨some 5,none,.mv (.c (.dat (.int .i64 0)))⟩])
 (.seq (.block 0
 (.seq (.ops [
 ⟨some 7,none,.mv (.t 0)⟩,⟨some 8,none,.un .not (.t 7)⟩,⟨some 6,none,.mv (.t 8)⟩])
 (.cond (.t 6)
 (.seq (.ops [
 ⟨some 9,none,.build [(.dat (.int .i64 0)),.nil] []⟩,⟨none,none,.store 2 (.t 4) (.t 9)⟩,⟨some 5,none,.mv (.c (.dat (.int .i64 1)))⟩])
 .ret)
 (.seq (.ops [
 ⟨some 11,none,.fad 1 (.t 3)⟩,⟨some 12,none,.load 1 false (.t 11)⟩,⟨some 13,none,.len (.t 12)⟩,⟨some 14,none,.bin .gtr (.t 13) (.c (.dat (.int .i64 60)))⟩,⟨some 10,none,.mv (.t 14)⟩])
 (.cond (.t 10)
 (.seq (.ops [
 ⟨some 15,none,.build [(.dat (.int .i64 0)),.nil] []⟩,⟨none,none,.store 2 (.t 4) (.t 15)⟩,⟨some 5,none,.mv (.c (.dat (.int .i64 6)))⟩])
 .ret)
 .skip)))))
 (.seq (.ops [
 ⟨some 16,none,.load 2 true (.t 3)⟩,⟨none,none,.store 2 (.t 4) (.t 16)⟩,⟨some 5,none,.mv (.c (.dat (.int .i64 0)))⟩])
 .ret))) }
def mf_big_div:MFunc :=
 { n:=170,np:=2,res:=[.t 4,.t 5],body :=
 (.seq (.ops [
 ⟨some 4,none,.mv (.c .nil)⟩,⟨some 5,none,.mv (.c .nil)⟩])
 (.seq (.seq (.ops [
 ⟨some 19,none,.mv (.t 0)⟩,⟨some 20,none,.mv (.t 1)⟩,⟨some 21,none,.call id_big_compare [(.t 19),(.t 20)]⟩,⟨some 22,none,.bin .lss (.t 21) (.c (.dat (.int .i64 0)))⟩])
 (.cond (.t 22)
 (.seq (.ops [
 ⟨some 23,none,.mv (.t 0)⟩,⟨some 24,none,.call id_slices_Clone_int [(.t 23)]⟩,⟨some 4,none,.mv (.c .nil)⟩,⟨some 5,none,.mv (.t 24)⟩])
 .ret)
 .skip))
 (.seq (.seq (.ops [
 ⟨some 25,none,.mv (.t 1)⟩,⟨some 26,none,.len (.t 25)⟩,⟨some 27,none,.bin .eql (.t 26) (.c (.dat (.int .i64 1)))⟩])
 (.cond (.t 27)
 (.seq (.ops [
 ⟨some 29,none,.mv (.t 0)⟩,⟨some 30,none,.mv (.t 1)⟩,⟨some 31,none,.iad 1 (.t 30) (.c (.dat (.int .i64 0)))⟩,⟨some 32,none,.load 1 false (.t 31)⟩,⟨some 33,none,.call id_big_short [(.t 29),(.t 32)]⟩,⟨some 28,none,.mv (.t 33)⟩,⟨some 34,none,.ext 0 (.t 28)⟩,⟨some 35,none,.ext 1 (.t 28)⟩,⟨some 6,none,.mv (.t 34)⟩,⟨some 7,none,.mv (.t 35)⟩])
 (.seq (.ops [
 ⟨some 36,none,.mv (.t 6)⟩,⟨some 37,none,.mv (.t 7)⟩,⟨some 38,none,.bsl 157038 false [(.dat (.int .i64 0))] 1 1 [(0,1,(.t 37))]⟩,⟨some 39,none,.call id_big_trim [(.t 38)]⟩,⟨some 4,none,.mv (.t 36)⟩,⟨some 5,none,.mv (.t 39)⟩])
 .ret))
 .skip))
 (.seq (.ops [
 ⟨some 8,none,.mv (.c (.dat (.int .i64 1)))⟩])
 (.seq (.block 0
 (.loop
 (.seq (.seq (.ops [
 ⟨some 40,none,.mv (.t 1)⟩,⟨some 41,none,.mv (.t 1)⟩,⟨some 42,none,.len (.t 41)⟩,⟨some 43,none,.bin .sub (.t 42) (.c (.dat (.int .i64 1)))⟩,⟨some 44,none,.iad 1 (.t 40) (.t 43)⟩,⟨some 45,none,.load 1 false (.t 44)⟩,⟨some 46,none,.mv (.t 8)⟩,⟨some 47,none,.bin .mul (.t 45) (.t 46)⟩,⟨some 48,none,.bin .lss (.t 47) (.c (.dat (.int .i64 524288)))⟩])
 (.cond (.t 48)
 .skip
 (.exit 0)))
 (.block 1
 (.ops [
 ⟨some 49,none,.mv (.t 8)⟩,⟨some 50,none,.bin .mul (.t 49) (.c (.dat (.int .i64 2)))⟩,⟨some 8,none,.mv (.t 50)⟩])))))
 (.seq (.ops [
 ⟨some 51,none,.mv (.t 0)⟩,⟨some 52,none,.mv (.t 8)⟩,⟨some 53,none,.bsl 157053 false [(.dat (.int .i64 0))] 1 1 [(0,1,(.t 52))]⟩,⟨some 54,none,.callo 157054 1 id_big_mul [(.t 51),(.t 53)]⟩,⟨some 55,none,.bsl 157055 false [(.dat (.int .i64 0))] 1 1 [(0,1,(.c (.dat (.int .i64 0))))]⟩,⟨some 56,none,.app 157056 [(.dat (.int .i64 0))] 8 (.t 54) (.t 55)⟩,⟨some 57,none,.mv (.t 1)⟩,⟨some 58,none,.mv (.t 8)⟩,⟨some 59,none,.bsl 157059 false [(.dat (.int .i64 0))] 1 1 [(0,1,(.t 58))]⟩,⟨some 60,none,.call id_big_mul [(.t 57),(.t 59)]⟩,⟨some 9,none,.mv (.t 56)⟩,⟨some 10,none,.mv (.t 60)⟩])
 (.seq (.seq (.ops [
 ⟨some 61,none,.mv (.t 9)⟩,⟨some 62,none,.len (.t 61)⟩,⟨some 63,none,.mv (.t 0)⟩,⟨some 64,none,.len (.t 63)⟩,⟨some 65,none,.bin .eql (.t 62) (.t 64)⟩])
 (.cond (.t 65)
 (.ops [
 ⟨some 66,none,.mv (.t 9)⟩,⟨some 67,none,.bsl 157067 false [(.dat (.int .i64 0))] 1 1 [(0,1,(.c (.dat (.int .i64 0))))]⟩,⟨some 68,none,.app 157068 [(.dat (.int .i64 0))] 8 (.t 66) (.t 67)⟩,⟨some 9,none,.mv (.t 68)⟩])
 .skip))
 (.seq (.ops [
 ⟨some 69,none,.mv (.t 10)⟩,⟨some 70,none,.len (.t 69)⟩,⟨some 11,none,.mv (.t 70)⟩])
 (.seq (.ops [
 ⟨some 71,none,.mv (.t 9)⟩,⟨some 72,none,.len (.t 71)⟩,⟨some 73,none,.mv (.t 11)⟩,⟨some 74,none,.bin .sub (.t 72) (.t 73)⟩,⟨some 75,none,.mksl 157075 [(.dat (.int .i64 0))] 8 (.t 74) (.t 74)⟩,⟨some 12,none,.mv (.t 75)⟩])
 (.seq (.seq (.ops [
 ⟨some 76,none,.mv (.t 12)⟩,⟨some 77,none,.len (.t 76)⟩,⟨some 78,none,.bin .sub (.t 77) (.c (.dat (.int .i64 1)))⟩,⟨some 13,none,.mv (.t 78)⟩])
 (.block 2
 (.loop
 (.seq (.seq (.ops [
 ⟨some 79,none,.mv (.t 13)⟩,⟨some 80,none,.bin .geq (.t 79) (.c (.dat (.int .i64 0)))⟩])
 (.cond (.t 80)
 .skip
 (.exit 2)))
 (.seq (.block 3
 (.seq (.opsD [
 ⟨some 83,none,.mv (.t 9)⟩,⟨some 84,none,.mv (.t 13)⟩,⟨some 85,none,.mv (.t 11)⟩,⟨some 86,none,.bin .add (.t 84) (.t 85)⟩,⟨some 87,none,.iad 1 (.t 83) (.t 86)⟩,⟨some 88,none,.load 1 false (.t 87)⟩,⟨some 89,none,.bin .shl (.t 88) (.c (.dat (.int .u64 20)))⟩,⟨some 90,none,.mv (.t 9)⟩,⟨some 91,none,.mv (.t 13)⟩,⟨some 92,none,.mv (.t 11)⟩,⟨some 93,none,.bin .add (.t 91) (.t 92)⟩,⟨some 94,none,.bin .sub (.t 93) (.c (.dat (.int .i64 1)))⟩,⟨some 95,none,.iad 1 (.t 90) (.t 94)⟩,⟨some 96,none,.load 1 false (.t 95)⟩,⟨some 97,none,.bin .or (.t 89) (.t 96)⟩,⟨some 14,none,.mv (.t 97)⟩] [[],[],[],[],[],[],[],[],[],[],[],[],[],[],[],[]])
 (.seq (.opsD [
 ⟨some 98,none,.mv (.t 14)⟩,⟨some 99,none,.mv (.t 10)⟩,⟨some 100,none,.mv (.t 11)⟩,⟨some 101,none,.bin .sub (.t 100) (.c (.dat (.int .i64 1)))⟩,⟨some 102,none,.iad 1 (.t 99) (.t 101)⟩,⟨some 103,none,.load 1 false (.t 102)⟩,⟨some 104,none,.bin .quo (.t 98) (.t 103)⟩,⟨some 105,none,.mv (.t 14)⟩,⟨some 106,none,.mv (.t 10)⟩,⟨some 107,none,.mv (.t 11)⟩,⟨some 108,none,.bin .sub (.t 107) (.c (.dat (.int .i64 1)))⟩,⟨some 109,none,.iad 1 (.t 106) (.t 108)⟩,⟨some 110,none,.load 1 false (.t 109)⟩,⟨some 111,none,.bin .rem (.t 105) (.t 110)⟩,⟨some 15,none,.mv (.t 104)⟩,⟨some 16,none,.mv (.t 111)⟩] [[],[],[],[],[],[],[],[],[],[],[],[],[],[],[],[]])
 (.seq (.block 4
 (.loop
 (.seq (.seq (.opsD [
 ⟨some 112,none,.mv (.t 15)⟩,⟨some 113,none,.bin .geq (.t 112) (.c (.dat (.int .i64 1048576)))⟩,⟨some 114,none,.mv (.t 113)⟩,⟨some 115,some (114,false),.mv (.t 16)⟩,⟨some 116,some (114,false),.bin .lss (.t 115) (.c (.dat (.int .i64 1048576)))⟩,⟨some 117,some (114,false),.mv (.t 116)⟩,⟨some 118,some (117,true),.mv (.t 15)⟩,⟨some 119,some (117,true),.mv (.t 10)⟩,⟨some 120,some (117,true),.mv (.t 11)⟩,⟨some 121,some (117,true),.bin .sub (.t 120) (.c (.dat (.int .i64 2)))⟩,⟨some 122,some (117,true),.iad 1 (.t 119) (.t 121)⟩,⟨some 123,some (117,true),.load 1 false (.t 122)⟩,⟨some 124,some (117,true),.bin .mul (.t 118) (.t 123)⟩,⟨some 125,some (117,true),.mv (.t 16)⟩,⟨some 126,some (117,true),.bin .shl (.t 125) (.c (.dat (.int .u64 20)))⟩,⟨some 127,some (117,true),.mv (.t 9)⟩,⟨some 128,some (117,true),.mv (.t 13)⟩,⟨some 129,some (117,true),.mv (.t 11)⟩,⟨some 130,some (117,true),.bin .add (.t 128) (.t 129)⟩,⟨some 131,some (117,true),.bin .sub (.t 130) (.c (.dat (.int .i64 2)))⟩,⟨some 132,some (117,true),.iad 1 (.t 127) (.t 131)⟩,⟨some 133,some (117,true),.load 1 false (.t 132)⟩,⟨some 134,some (117,true),.bin .or (.t 126) (.t 133)⟩,⟨some 135,some (117,true),.bin .gtr (.t 124) (.t 134)⟩,⟨some 136,some (114,false),.pick (.t 117) (.t 135) (.c (.dat (.bool false)))⟩,⟨some 137,none,.pick (.t 114) (.c (.dat (.bool true))) (.t 136)⟩] [[],[],[],[],[],[],[],[],[],[],[],[],[],[],[],[],[],[],[],[],[],[],[],[],[],[]])
 (.cond (.t 137)
 .skip
 (.exit 4)))
 (.block 5
 (.seq (.ops [
 ⟨some 138,none,.mv (.t 15)⟩,⟨some 139,none,.bin .sub (.t 138) (.c (.dat (.int .i64 1)))⟩,⟨some 15,none,.mv (.t 139)⟩])
 (.ops [
 ⟨some 140,none,.mv (.t 16)⟩,⟨some 141,none,.mv (.t 10)⟩,⟨some 142,none,.mv (.t 11)⟩,⟨some 143,none,.bin .sub (.t 142) (.c (.dat (.int .i64 1)))⟩,⟨some 144,none,.iad 1 (.t 141) (.t 143)⟩,⟨some 145,none,.load 1 false (.t 144)⟩,⟨some 146,none,.bin .add (.t 140) (.t 145)⟩,⟨some 16,none,.mv (.t 146)⟩]))))))
 (.ops [
 ⟨some 147,none,.mv (.t 12)⟩,⟨some 148,none,.mv (.t 13)⟩,⟨some 149,none,.mv (.t 9)⟩,⟨some 150,none,.mv (.t 13)⟩,⟨some 151,none,.mv (.t 13)⟩,⟨some 152,none,.mv (.t 11)⟩,⟨some 153,none,.bin .add (.t 151) (.t 152)⟩,⟨some 154,none,.bin .add (.t 153) (.c (.dat (.int .i64 1)))⟩,⟨some 155,none,.slc 1 (.t 149) (some (.t 150)) (some (.t 154)) none⟩,⟨some 156,none,.mv (.t 10)⟩,⟨some 157,none,.mv (.t 15)⟩,⟨some 158,none,.call id_big_settle [(.t 155),(.t 156),(.t 157)]⟩,⟨some 159,none,.iad 1 (.t 147) (.t 148)⟩,⟨none,none,.store 1 (.t 159) (.t 158)⟩])))))
 (.ops [
 ⟨some 81,none,.mv (.t 13)⟩,⟨some 82,none,.bin .sub (.t 81) (.c (.dat (.int .i64 1)))⟩,⟨some 13,none,.mv (.t 82)⟩]))))))
 (.seq (.ghost (.freeze 9) (.ops [
 ⟨some 161,none,.mv (.t 9)⟩,⟨some 162,none,.call id_big_trim [(.t 161)]⟩,⟨some 163,none,.mv (.t 8)⟩,⟨some 164,none,.call id_big_short [(.t 162),(.t 163)]⟩,⟨some 160,none,.mv (.t 164)⟩,⟨some 165,none,.ext 0 (.t 160)⟩,⟨some 166,none,.ext 1 (.t 160)⟩,⟨some 17,none,.mv (.t 165)⟩,⟨some 18,none,.mv (.t 166)⟩]))
 (.seq (.ghost (.freeze 12) (.ops [
 ⟨some 167,none,.mv (.t 12)⟩,⟨some 168,none,.call id_big_trim [(.t 167)]⟩,⟨some 169,none,.mv (.t 17)⟩,⟨some 4,none,.mv (.t 168)⟩,⟨some 5,none,.mv (.t 169)⟩]))
 .ret)))))))))))) }
def mf_big_signed:MFunc :=
 { n:=14,np:=2,res:=[.cell 4 2 true],body :=
 (.seq (.ops [
 ⟨some 4,none,.alloc 158004 [(.dat (.int .i64 0)),.nil]⟩])
 (.seq (.ops [
 ⟨some 5,none,.mv (.t 1)⟩,⟨some 6,none,.call id_big_trim [(.t 5)]⟩,⟨some 1,none,.mv (.t 6)⟩])
 (.seq (.seq (.ops [
 ⟨some 7,none,.mv (.t 1)⟩,⟨some 8,none,.len (.t 7)⟩,⟨some 9,none,.bin .eql (.t 8) (.c (.dat (.int .i64 0)))⟩])
 (.cond (.t 9)
 (.seq (.ops [
 ⟨some 10,none,.build [(.dat (.int .i64 0)),.nil] []⟩,⟨none,none,.store 2 (.t 4) (.t 10)⟩])
 .ret)
 .skip))
 (.seq (.ops [
 ⟨some 11,none,.mv (.t 0)⟩,⟨some 12,none,.mv (.t 1)⟩,⟨some 13,none,.build [(.dat (.int .i64 0)),.nil] [(0,1,(.t 11)),(1,1,(.t 12))]⟩,⟨none,none,.store 2 (.t 4) (.t 13)⟩])
 .ret)))) }
def mf_big_Int:MFunc :=
 { n:=59,np:=1,res:=[.t 2,.t 3],body :=
 (.seq (.ops [
 ⟨some 1,none,.box 159001 (.t 0)⟩,⟨some 2,none,.mv (.c (.dat (.int .i64 0)))⟩,⟨some 3,none,.mv (.c (.dat (.bool false)))⟩])
 (.seq (.seq (.ops [
 ⟨some 7,none,.load 2 true (.t 1)⟩,⟨some 8,none,.call id_big_Right [(.t 7)]⟩,⟨some 9,none,.un .not (.t 8)⟩,⟨some 10,none,.mv (.t 9)⟩,⟨some 11,some (10,false),.fad 1 (.t 1)⟩,⟨some 12,some (10,false),.load 1 false (.t 11)⟩,⟨some 13,some (10,false),.len (.t 12)⟩,⟨some 14,some (10,false),.bin .gtr (.t 13) (.c (.dat (.int .i64 4)))⟩,⟨some 15,none,.pick (.t 10) (.c (.dat (.bool true))) (.t 14)⟩])
 (.cond (.t 15)
 (.seq (.ops [
 ⟨some 2,none,.mv (.c (.dat (.int .i64 0)))⟩,⟨some 3,none,.mv (.c (.dat (.bool false)))⟩])
 .ret)
 .skip))
 (.seq (.ops [
 ⟨some 4,none,.mv (.c (.dat (.int .u64 0)))⟩])
 (.seq (.seq (.ops [
 ⟨some 16,none,.fad 1 (.t 1)⟩,⟨some 17,none,.load 1 false (.t 16)⟩,⟨some 18,none,.len (.t 17)⟩,⟨some 19,none,.mv (.c (.dat (.int .i64 0)))⟩])
 (.block 0
 (.loop
 (.seq (.ops [
 ⟨some 20,none,.bin .lss (.t 19) (.t 18)⟩])
 (.seq (.cond (.t 20)
 .skip
 (.exit 0))
 (.seq (.block 1
 (.seq (.ops [
 ⟨some 21,none,.mv (.t 19)⟩,⟨some 22,none,.iad 1 (.t 17) (.t 19)⟩,⟨some 23,none,.load 1 false (.t 22)⟩,⟨some 5,none,.mv (.t 21)⟩,⟨some 6,none,.mv (.t 23)⟩])
 (.seq (.seq (.ops [
 ⟨some 24,none,.mv (.t 5)⟩,⟨some 25,none,.bin .eql (.t 24) (.c (.dat (.int .i64 3)))⟩,⟨some 26,none,.mv (.t 25)⟩,⟨some 27,some (26,true),.mv (.t 6)⟩,⟨some 28,some (26,true),.bin .gtr (.t 27) (.c (.dat (.int .i64 8)))⟩,⟨some 29,none,.pick (.t 26) (.t 28) (.c (.dat (.bool false)))⟩])
 (.cond (.t 29)
 (.seq (.ops [
 ⟨some 2,none,.mv (.c (.dat (.int .i64 0)))⟩,⟨some 3,none,.mv (.c (.dat (.bool false)))⟩])
 .ret)
 .skip))
 (.ops [
 ⟨some 30,none,.mv (.t 4)⟩,⟨some 31,none,.mv (.t 6)⟩,⟨some 32,none,.conv .u64 (.t 31)⟩,⟨some 33,none,.mv (.t 5)⟩,⟨some 34,none,.bin .mul (.c (.dat (.int .i64 20))) (.t 33)⟩,⟨some 35,none,.bin .shl (.t 32) (.t 34)⟩,⟨some 36,none,.bin .or (.t 30) (.t 35)⟩,⟨some 4,none,.mv (.t 36)⟩]))))
 (.ops [
 ⟨some 37,none,.bin .add (.t 19) (.c (.dat (.int .i64 1)))⟩,⟨some 19,none,.mv (.t 37)⟩])))))))
 (.seq (.block 2
 (.seq (.ops [
 ⟨some 39,none,.fad 0 (.t 1)⟩,⟨some 40,none,.load 1 false (.t 39)⟩,⟨some 41,none,.bin .lss (.t 40) (.c (.dat (.int .i64 0)))⟩,⟨some 42,none,.mv (.t 41)⟩,⟨some 43,some (42,true),.mv (.t 4)⟩,⟨some 44,some (42,true),.bin .leq (.t 43) (.c (.dat (.int .u64 9223372036854775808)))⟩,⟨some 45,none,.pick (.t 42) (.t 44) (.c (.dat (.bool false)))⟩,⟨some 38,none,.mv (.t 45)⟩])
 (.cond (.t 38)
 (.seq (.ops [
 ⟨some 46,none,.mv (.t 4)⟩,⟨some 47,none,.un .neg (.t 46)⟩,⟨some 48,none,.conv .i64 (.t 47)⟩,⟨some 2,none,.mv (.t 48)⟩,⟨some 3,none,.mv (.c (.dat (.bool true)))⟩])
 .ret)
 (.seq (.ops [
 ⟨some 50,none,.fad 0 (.t 1)⟩,⟨some 51,none,.load 1 false (.t 50)⟩,⟨some 52,none,.bin .geq (.t 51) (.c (.dat (.int .i64 0)))⟩,⟨some 53,none,.mv (.t 52)⟩,⟨some 54,some (53,true),.mv (.t 4)⟩,⟨some 55,some (53,true),.bin .lss (.t 54) (.c (.dat (.int .u64 9223372036854775808)))⟩,⟨some 56,none,.pick (.t 53) (.t 55) (.c (.dat (.bool false)))⟩,⟨some 49,none,.mv (.t 56)⟩])
 (.cond (.t 49)
 (.seq (.ops [
 ⟨some 57,none,.mv (.t 4)⟩,⟨some 58,none,.conv .i64 (.t 57)⟩,⟨some 2,none,.mv (.t 58)⟩,⟨some 3,none,.mv (.c (.dat (.bool true)))⟩])
 .ret)
 .skip)))))
 (.seq (.ops [
 ⟨some 2,none,.mv (.c (.dat (.int .i64 0)))⟩,⟨some 3,none,.mv (.c (.dat (.bool false)))⟩])
 .ret)))))) }
def mf_big_Add:MFunc :=
 { n:=69,np:=2,res:=[.cell 4 2 true,.t 5],body :=
 (.seq (.ops [
 ⟨some 2,none,.box 160002 (.t 0)⟩,⟨some 3,none,.box 160003 (.t 1)⟩,⟨some 4,none,.alloc 160004 [(.dat (.int .i64 0)),.nil]⟩,⟨some 5,none,.mv (.c (.dat (.int .i64 0)))⟩])
 (.seq (.seq (.ops [
 ⟨some 6,none,.load 2 true (.t 2)⟩,⟨some 7,none,.call id_big_Right [(.t 6)]⟩,⟨some 8,none,.un .not (.t 7)⟩,⟨some 9,none,.mv (.t 8)⟩,⟨some 10,some (9,false),.load 2 true (.t 3)⟩,⟨some 11,some (9,false),.call id_big_Right [(.t 10)]⟩,⟨some 12,some (9,false),.un .not (.t 11)⟩,⟨some 13,none,.pick (.t 9) (.c (.dat (.bool true))) (.t 12)⟩])
 (.cond (.t 13)
 (.seq (.ops [
 ⟨some 14,none,.build [(.dat (.int .i64 0)),.nil] []⟩,⟨some 15,none,.call id_big_checked [(.c (.dat (.bool false))),(.t 14)]⟩,⟨some 16,none,.ext 0 (.t 15)⟩,⟨some 17,none,.ext 1 (.t 15)⟩,⟨none,none,.store 2 (.t 4) (.t 16)⟩,⟨some 5,none,.mv (.t 17)⟩])
 .ret)
 .skip))
 (.seq (.block 0
 (.seq (.ops [
 ⟨some 19,none,.fad 0 (.t 2)⟩,⟨some 20,none,.load 1 false (.t 19)⟩,⟨some 21,none,.fad 0 (.t 3)⟩,⟨some 22,none,.load 1 false (.t 21)⟩,⟨some 23,none,.bin .mul (.t 20) (.t 22)⟩,⟨some 24,none,.bin .geq (.t 23) (.c (.dat (.int .i64 0)))⟩,⟨some 18,none,.mv (.t 24)⟩])
 (.cond (.t 18)
 (.seq (.opsD [
 ⟨some 25,none,.fad 0 (.t 2)⟩,⟨some 26,none,.load 1 false (.t 25)⟩,⟨some 27,none,.fad 0 (.t 3)⟩,⟨some 28,none,.load 1 false (.t 27)⟩,⟨some 29,none,.bsl 160029 false [(.dat (.int .i64 0)),(.dat (.int .i64 0))] 1 2 [(0,1,(.t 26)),(1,1,(.t 28))]⟩,⟨some 30,none,.call id_cmp_Or_int [(.t 29)]⟩,⟨some 31,none,.fad 1 (.t 2)⟩,⟨some 32,none,.load 1 false (.t 31)⟩,⟨some 33,none,.fad 1 (.t 3)⟩,⟨some 34,none,.load 1 false (.t 33)⟩,⟨some 35,none,.call id_big_add [(.t 32),(.t 34)]⟩,⟨some 36,none,.call id_big_signed [(.t 30),(.t 35)]⟩,⟨some 37,none,.call id_big_checked [(.c (.dat (.bool true))),(.t 36)]⟩,⟨some 38,none,.ext 0 (.t 37)⟩,⟨some 39,none,.ext 1 (.t 37)⟩,⟨none,none,.store 2 (.t 4) (.t 38)⟩,⟨some 5,none,.mv (.t 39)⟩] [[],[],[],[],[],[],[],[],[],[],[],[],[],[],[],[],[]])
 .ret)
 (.seq (.ops [
 ⟨some 41,none,.fad 1 (.t 2)⟩,⟨some 42,none,.load 1 false (.t 41)⟩,⟨some 43,none,.fad 1 (.t 3)⟩,⟨some 44,none,.load 1 false (.t 43)⟩,⟨some 45,none,.call id_big_compare [(.t 42),(.t 44)]⟩,⟨some 46,none,.bin .lss (.t 45) (.c (.dat (.int .i64 0)))⟩,⟨some 40,none,.mv (.t 46)⟩])
 (.cond (.t 40)
 (.seq (.opsD [
 ⟨some 47,none,.fad 0 (.t 3)⟩,⟨some 48,none,.load 1 false (.t 47)⟩,⟨some 49,none,.fad 1 (.t 3)⟩,⟨some 50,none,.load 1 false (.t 49)⟩,⟨some 51,none,.fad 1 (.t 2)⟩,⟨some 52,none,.load 1 false (.t 51)⟩,⟨some 53,none,.call id_big_sub [(.t 50),(.t 52)]⟩,⟨some 54,none,.call id_big_signed [(.t 48),(.t 53)]⟩,⟨some 55,none,.call id_big_checked [(.c (.dat (.bool true))),(.t 54)]⟩,⟨some 56,none,.ext 0 (.t 55)⟩,⟨some 57,none,.ext 1 (.t 55)⟩,⟨none,none,.store 2 (.t 4) (.t 56)⟩,⟨some 5,none,.mv (.t 57)⟩] [[],[],[],[],[],[],[],[],[],[],[],[],[]])
 .ret)
 .skip)))))
 (.seq (.opsD [
 ⟨some 58,none,.fad 0 (.t 2)⟩,⟨some 59,none,.load 1 false (.t 58)⟩,⟨some 60,none,.fad 1 (.t 2)⟩,⟨some 61,none,.load 1 false (.t 60)⟩,⟨some 62,none,.fad 1 (.t 3)⟩,⟨some 63,none,.load 1 false (.t 62)⟩,⟨some 64,none,.call id_big_sub [(.t 61),(.t 63)]⟩,⟨some 65,none,.call id_big_signed [(.t 59),(.t 64)]⟩,⟨some 66,none,.call id_big_checked [(.c (.dat (.bool true))),(.t 65)]⟩,⟨some 67,none,.ext 0 (.t 66)⟩,⟨some 68,none,.ext 1 (.t 66)⟩,⟨none,none,.store 2 (.t 4) (.t 67)⟩,⟨some 5,none,.mv (.t 68)⟩] [[],[],[],[],[],[],[],[],[],[],[],[],[]])
 .ret)))) }
def mf_big_mul:MFunc :=
 { n:=67,np:=2,res:=[.t 4],body :=
 (.seq (.ops [
 ⟨some 4,none,.mv (.c .nil)⟩])
 (.seq (.ops [
 ⟨some 12,none,.mv (.t 0)⟩,⟨some 13,none,.len (.t 12)⟩,⟨some 14,none,.mv (.t 1)⟩,⟨some 15,none,.len (.t 14)⟩,⟨some 16,none,.bin .add (.t 13) (.t 15)⟩,⟨some 17,none,.mksl 161017 [(.dat (.int .i64 0))] 8 (.t 16) (.t 16)⟩,⟨some 5,none,.mv (.t 17)⟩])
 (.seq (.seq (.ops [
 ⟨some 18,none,.mv (.t 0)⟩,⟨some 19,none,.len (.t 18)⟩,⟨some 20,none,.mv (.c (.dat (.int .i64 0)))⟩])
 (.block 0
 (.loop
 (.seq (.ops [
 ⟨some 21,none,.bin .lss (.t 20) (.t 19)⟩])
 (.seq (.cond (.t 21)
 .skip
 (.exit 0))
 (.seq (.block 1
 (.seq (.ops [
 ⟨some 22,none,.mv (.t 20)⟩,⟨some 23,none,.iad 1 (.t 18) (.t 20)⟩,⟨some 24,none,.load 1 false (.t 23)⟩,⟨some 6,none,.mv (.t 22)⟩,⟨some 7,none,.mv (.t 24)⟩])
 (.seq (.ops [
 ⟨some 8,none,.mv (.c (.dat (.int .i64 0)))⟩])
 (.seq (.seq (.ops [
 ⟨some 25,none,.mv (.t 1)⟩,⟨some 26,none,.len (.t 25)⟩,⟨some 27,none,.mv (.c (.dat (.int .i64 0)))⟩])
 (.block 2
 (.loop
 (.seq (.ops [
 ⟨some 28,none,.bin .lss (.t 27) (.t 26)⟩])
 (.seq (.cond (.t 28)
 .skip
 (.exit 2))
 (.seq (.block 3
 (.seq (.ops [
 ⟨some 29,none,.mv (.t 27)⟩,⟨some 30,none,.iad 1 (.t 25) (.t 27)⟩,⟨some 31,none,.load 1 false (.t 30)⟩,⟨some 9,none,.mv (.t 29)⟩,⟨some 10,none,.mv (.t 31)⟩])
 (.seq (.ops [
 ⟨some 32,none,.mv (.t 5)⟩,⟨some 33,none,.mv (.t 6)⟩,⟨some 34,none,.mv (.t 9)⟩,⟨some 35,none,.bin .add (.t 33) (.t 34)⟩,⟨some 36,none,.iad 1 (.t 32) (.t 35)⟩,⟨some 37,none,.load 1 false (.t 36)⟩,⟨some 38,none,.mv (.t 7)⟩,⟨some 39,none,.mv (.t 10)⟩,⟨some 40,none,.bin .mul (.t 38) (.t 39)⟩,⟨some 41,none,.bin .add (.t 37) (.t 40)⟩,⟨some 42,none,.mv (.t 8)⟩,⟨some 43,none,.bin .add (.t 41) (.t 42)⟩,⟨some 11,none,.mv (.t 43)⟩])
 (.ops [
 ⟨some 44,none,.mv (.t 5)⟩,⟨some 45,none,.mv (.t 6)⟩,⟨some 46,none,.mv (.t 9)⟩,⟨some 47,none,.bin .add (.t 45) (.t 46)⟩,⟨some 48,none,.mv (.t 11)⟩,⟨some 49,none,.bin .and (.t 48) (.c (.dat (.int .i64 1048575)))⟩,⟨some 50,none,.mv (.t 11)⟩,⟨some 51,none,.bin .shr (.t 50) (.c (.dat (.int .u64 20)))⟩,⟨some 52,none,.iad 1 (.t 44) (.t 47)⟩,⟨none,none,.store 1 (.t 52) (.t 49)⟩,⟨some 8,none,.mv (.t 51)⟩]))))
 (.ops [
 ⟨some 53,none,.bin .add (.t 27) (.c (.dat (.int .i64 1)))⟩,⟨some 27,none,.mv (.t 53)⟩])))))))
 (.ops [
 ⟨some 54,none,.mv (.t 5)⟩,⟨some 55,none,.mv (.t 6)⟩,⟨some 56,none,.mv (.t 1)⟩,⟨some 57,none,.len (.t 56)⟩,⟨some 58,none,.bin .add (.t 55) (.t 57)⟩,⟨some 59,none,.iad 1 (.t 54) (.t 58)⟩,⟨some 60,none,.load 1 false (.t 59)⟩,⟨some 61,none,.mv (.t 8)⟩,⟨some 62,none,.bin .add (.t 60) (.t 61)⟩,⟨some 63,none,.iad 1 (.t 54) (.t 58)⟩,⟨none,none,.store 1 (.t 63) (.t 62)⟩])))))
 (.ops [
 ⟨some 64,none,.bin .add (.t 20) (.c (.dat (.int .i64 1)))⟩,⟨some 20,none,.mv (.t 64)⟩])))))))
 (.seq (.ops [
 ⟨some 65,none,.mv (.t 5)⟩,⟨some 66,none,.call id_big_trim [(.t 65)]⟩,⟨some 4,none,.mv (.t 66)⟩])
 .ret)))) }
def mf_big_add:MFunc :=
 { n:=55,np:=2,res:=[.t 4],body :=
 (.seq (.ops [
 ⟨some 4,none,.mv (.c .nil)⟩])
 (.seq (.seq (.ops [
 ⟨some 9,none,.mv (.t 0)⟩,⟨some 10,none,.len (.t 9)⟩,⟨some 11,none,.mv (.t 1)⟩,⟨some 12,none,.len (.t 11)⟩,⟨some 13,none,.bin .lss (.t 10) (.t 12)⟩])
 (.cond (.t 13)
 (.ops [
 ⟨some 14,none,.mv (.t 1)⟩,⟨some 15,none,.mv (.t 0)⟩,⟨some 0,none,.mv (.t 14)⟩,⟨some 1,none,.mv (.t 15)⟩])
 .skip))
 (.seq (.ops [
 ⟨some 16,none,.mv (.t 0)⟩,⟨some 17,none,.len (.t 16)⟩,⟨some 18,none,.bin .add (.t 17) (.c (.dat (.int .i64 1)))⟩,⟨some 19,none,.mksl 172019 [(.dat (.int .i64 0))] 8 (.t 18) (.t 18)⟩,⟨some 5,none,.mv (.t 19)⟩])
 (.seq (.ops [
 ⟨some 6,none,.mv (.c (.dat (.int .i64 0)))⟩])
 (.seq (.seq (.ops [
 ⟨some 20,none,.mv (.t 0)⟩,⟨some 21,none,.len (.t 20)⟩,⟨some 22,none,.mv (.c (.dat (.int .i64 0)))⟩])
 (.block 0
 (.loop
 (.seq (.ops [
 ⟨some 23,none,.bin .lss (.t 22) (.t 21)⟩])
 (.seq (.cond (.t 23)
 .skip
 (.exit 0))
 (.seq (.block 1
 (.seq (.ops [
 ⟨some 24,none,.mv (.t 22)⟩,⟨some 25,none,.iad 1 (.t 20) (.t 22)⟩,⟨some 26,none,.load 1 false (.t 25)⟩,⟨some 7,none,.mv (.t 24)⟩,⟨some 8,none,.mv (.t 26)⟩])
 (.seq (.ops [
 ⟨some 27,none,.mv (.t 6)⟩,⟨some 28,none,.mv (.t 8)⟩,⟨some 29,none,.bin .add (.t 27) (.t 28)⟩,⟨some 6,none,.mv (.t 29)⟩])
 (.seq (.seq (.ops [
 ⟨some 30,none,.mv (.t 7)⟩,⟨some 31,none,.mv (.t 1)⟩,⟨some 32,none,.len (.t 31)⟩,⟨some 33,none,.bin .lss (.t 30) (.t 32)⟩])
 (.cond (.t 33)
 (.ops [
 ⟨some 34,none,.mv (.t 6)⟩,⟨some 35,none,.mv (.t 1)⟩,⟨some 36,none,.mv (.t 7)⟩,⟨some 37,none,.iad 1 (.t 35) (.t 36)⟩,⟨some 38,none,.load 1 false (.t 37)⟩,⟨some 39,none,.bin .add (.t 34) (.t 38)⟩,⟨some 6,none,.mv (.t 39)⟩])
 .skip))
 (.seq (.ops [
 ⟨some 40,none,.mv (.t 5)⟩,⟨some 41,none,.mv (.t 7)⟩,⟨some 42,none,.mv (.t 6)⟩,⟨some 43,none,.bin .and (.t 42) (.c (.dat (.int .i64 1048575)))⟩,⟨some 44,none,.iad 1 (.t 40) (.t 41)⟩,⟨none,none,.store 1 (.t 44) (.t 43)⟩])
 (.ops [
 ⟨some 45,none,.mv (.t 6)⟩,⟨some 46,none,.bin .shr (.t 45) (.c (.dat (.int .u64 20)))⟩,⟨some 6,none,.mv (.t 46)⟩]))))))
 (.ops [
 ⟨some 47,none,.bin .add (.t 22) (.c (.dat (.int .i64 1)))⟩,⟨some 22,none,.mv (.t 47)⟩])))))))
 (.seq (.ops [
 ⟨some 48,none,.mv (.t 5)⟩,⟨some 49,none,.mv (.t 0)⟩,⟨some 50,none,.len (.t 49)⟩,⟨some 51,none,.mv (.t 6)⟩,⟨some 52,none,.iad 1 (.t 48) (.t 50)⟩,⟨none,none,.store 1 (.t 52) (.t 51)⟩])
 (.seq (.ops [
 ⟨some 53,none,.mv (.t 5)⟩,⟨some 54,none,.call id_big_trim [(.t 53)]⟩,⟨some 4,none,.mv (.t 54)⟩])
 .ret))))))) }
def mf_big_sub:MFunc :=
 { n:=43,np:=2,res:=[.t 4],body :=
 (.seq (.ops [
 ⟨some 4,none,.mv (.c .nil)⟩])
 (.seq (.ops [
 ⟨some 9,none,.mv (.t 0)⟩,⟨some 10,none,.callo 173010 1 id_slices_Clone_int [(.t 9)]⟩,⟨some 5,none,.mv (.t 10)⟩])
 (.seq (.ops [
 ⟨some 6,none,.mv (.c (.dat (.int .i64 0)))⟩])
 (.seq (.seq (.ops [
 ⟨some 11,none,.mv (.t 5)⟩,⟨some 12,none,.len (.t 11)⟩,⟨some 13,none,.mv (.c (.dat (.int .i64 0)))⟩])
 (.block 0
 (.loop
 (.seq (.ops [
 ⟨some 14,none,.bin .lss (.t 13) (.t 12)⟩])
 (.seq (.cond (.t 14)
 .skip
 (.exit 0))
 (.seq (.block 1
 (.seq (.ops [
 ⟨some 15,none,.mv (.t 13)⟩,⟨some 7,none,.mv (.t 15)⟩])
 (.seq (.ops [
 ⟨some 16,none,.mv (.t 5)⟩,⟨some 17,none,.mv (.t 7)⟩,⟨some 18,none,.iad 1 (.t 16) (.t 17)⟩,⟨some 19,none,.load 1 false (.t 18)⟩,⟨some 20,none,.mv (.t 6)⟩,⟨some 21,none,.bin .sub (.t 19) (.t 20)⟩,⟨some 8,none,.mv (.t 21)⟩])
 (.seq (.seq (.ops [
 ⟨some 22,none,.mv (.t 7)⟩,⟨some 23,none,.mv (.t 1)⟩,⟨some 24,none,.len (.t 23)⟩,⟨some 25,none,.bin .lss (.t 22) (.t 24)⟩])
 (.cond (.t 25)
 (.ops [
 ⟨some 26,none,.mv (.t 8)⟩,⟨some 27,none,.mv (.t 1)⟩,⟨some 28,none,.mv (.t 7)⟩,⟨some 29,none,.iad 1 (.t 27) (.t 28)⟩,⟨some 30,none,.load 1 false (.t 29)⟩,⟨some 31,none,.bin .sub (.t 26) (.t 30)⟩,⟨some 8,none,.mv (.t 31)⟩])
 .skip))
 (.seq (.ops [
 ⟨some 32,none,.mv (.t 8)⟩,⟨some 33,none,.bin .shr (.t 32) (.c (.dat (.int .u64 20)))⟩,⟨some 34,none,.bin .and (.t 33) (.c (.dat (.int .i64 1)))⟩,⟨some 6,none,.mv (.t 34)⟩])
 (.ops [
 ⟨some 35,none,.mv (.t 5)⟩,⟨some 36,none,.mv (.t 7)⟩,⟨some 37,none,.mv (.t 8)⟩,⟨some 38,none,.bin .and (.t 37) (.c (.dat (.int .i64 1048575)))⟩,⟨some 39,none,.iad 1 (.t 35) (.t 36)⟩,⟨none,none,.store 1 (.t 39) (.t 38)⟩]))))))
 (.ops [
 ⟨some 40,none,.bin .add (.t 13) (.c (.dat (.int .i64 1)))⟩,⟨some 13,none,.mv (.t 40)⟩])))))))
 (.seq (.ops [
 ⟨some 41,none,.mv (.t 5)⟩,⟨some 42,none,.call id_big_trim [(.t 41)]⟩,⟨some 4,none,.mv (.t 42)⟩])
 .ret))))) }
def mf_big_compare:MFunc :=
 { n:=41,np:=2,res:=[.t 4],body :=
 (.seq (.ops [
 ⟨some 4,none,.mv (.c (.dat (.int .i64 0)))⟩])
 (.seq (.seq (.ops [
 ⟨some 6,none,.mv (.t 0)⟩,⟨some 7,none,.len (.t 6)⟩,⟨some 8,none,.mv (.t 1)⟩,⟨some 9,none,.len (.t 8)⟩,⟨some 10,none,.bin .neq (.t 7) (.t 9)⟩])
 (.cond (.t 10)
 (.seq (.ops [
 ⟨some 11,none,.mv (.t 0)⟩,⟨some 12,none,.len (.t 11)⟩,⟨some 13,none,.mv (.t 1)⟩,⟨some 14,none,.len (.t 13)⟩,⟨some 15,none,.call id_cmp_Compare_int [(.t 12),(.t 14)]⟩,⟨some 4,none,.mv (.t 15)⟩])
 .ret)
 .skip))
 (.seq (.seq (.ops [
 ⟨some 16,none,.mv (.t 0)⟩,⟨some 17,none,.len (.t 16)⟩,⟨some 18,none,.bin .sub (.t 17) (.c (.dat (.int .i64 1)))⟩,⟨some 5,none,.mv (.t 18)⟩])
 (.block 0
 (.loop
 (.seq (.seq (.ops [
 ⟨some 19,none,.mv (.t 5)⟩,⟨some 20,none,.bin .geq (.t 19) (.c (.dat (.int .i64 0)))⟩])
 (.cond (.t 20)
 .skip
 (.exit 0)))
 (.seq (.block 1
 (.seq (.opsD [
 ⟨some 23,none,.mv (.t 0)⟩,⟨some 24,none,.mv (.t 5)⟩,⟨some 25,none,.iad 1 (.t 23) (.t 24)⟩,⟨some 26,none,.load 1 false (.t 25)⟩,⟨some 27,none,.mv (.t 1)⟩,⟨some 28,none,.mv (.t 5)⟩,⟨some 29,none,.iad 1 (.t 27) (.t 28)⟩,⟨some 30,none,.load 1 false (.t 29)⟩,⟨some 31,none,.bin .neq (.t 26) (.t 30)⟩] [[],[],[],[],[],[],[],[],[]])
 (.cond (.t 31)
 (.seq (.opsD [
 ⟨some 32,none,.mv (.t 0)⟩,⟨some 33,none,.mv (.t 5)⟩,⟨some 34,none,.iad 1 (.t 32) (.t 33)⟩,⟨some 35,none,.load 1 false (.t 34)⟩,⟨some 36,none,.mv (.t 1)⟩,⟨some 37,none,.mv (.t 5)⟩,⟨some 38,none,.iad 1 (.t 36) (.t 37)⟩,⟨some 39,none,.load 1 false (.t 38)⟩,⟨some 40,none,.call id_cmp_Compare_int [(.t 35),(.t 39)]⟩,⟨some 4,none,.mv (.t 40)⟩] [[],[],[],[],[],[],[],[],[],[]])
 .ret)
 .skip)))
 (.ops [
 ⟨some 21,none,.mv (.t 5)⟩,⟨some 22,none,.bin .sub (.t 21) (.c (.dat (.int .i64 1)))⟩,⟨some 5,none,.mv (.t 22)⟩]))))))
 (.seq (.ops [
 ⟨some 4,none,.mv (.c (.dat (.int .i64 0)))⟩])
 .ret)))) }
def mf_big_short:MFunc :=
 { n:=38,np:=2,res:=[.t 4,.t 5],body :=
 (.seq (.ops [
 ⟨some 4,none,.mv (.c .nil)⟩,⟨some 5,none,.mv (.c (.dat (.int .i64 0)))⟩])
 (.seq (.ops [
 ⟨some 9,none,.mv (.t 0)⟩,⟨some 10,none,.len (.t 9)⟩,⟨some 11,none,.mksl 176011 [(.dat (.int .i64 0))] 8 (.t 10) (.t 10)⟩,⟨some 6,none,.mv (.t 11)⟩])
 (.seq (.ops [
 ⟨some 7,none,.mv (.c (.dat (.int .i64 0)))⟩])
 (.seq (.seq (.ops [
 ⟨some 12,none,.mv (.t 0)⟩,⟨some 13,none,.len (.t 12)⟩,⟨some 14,none,.bin .sub (.t 13) (.c (.dat (.int .i64 1)))⟩,⟨some 8,none,.mv (.t 14)⟩])
 (.block 0
 (.loop
 (.seq (.seq (.ops [
 ⟨some 15,none,.mv (.t 8)⟩,⟨some 16,none,.bin .geq (.t 15) (.c (.dat (.int .i64 0)))⟩])
 (.cond (.t 16)
 .skip
 (.exit 0)))
 (.seq (.block 1
 (.seq (.ops [
 ⟨some 19,none,.mv (.t 7)⟩,⟨some 20,none,.bin .shl (.t 19) (.c (.dat (.int .u64 20)))⟩,⟨some 21,none,.mv (.t 0)⟩,⟨some 22,none,.mv (.t 8)⟩,⟨some 23,none,.iad 1 (.t 21) (.t 22)⟩,⟨some 24,none,.load 1 false (.t 23)⟩,⟨some 25,none,.bin .or (.t 20) (.t 24)⟩,⟨some 7,none,.mv (.t 25)⟩])
 (.seq (.ops [
 ⟨some 26,none,.mv (.t 6)⟩,⟨some 27,none,.mv (.t 8)⟩,⟨some 28,none,.mv (.t 7)⟩,⟨some 29,none,.mv (.t 1)⟩,⟨some 30,none,.bin .quo (.t 28) (.t 29)⟩,⟨some 31,none,.iad 1 (.t 26) (.t 27)⟩,⟨none,none,.store 1 (.t 31) (.t 30)⟩])
 (.ops [
 ⟨some 32,none,.mv (.t 7)⟩,⟨some 33,none,.mv (.t 1)⟩,⟨some 34,none,.bin .rem (.t 32) (.t 33)⟩,⟨some 7,none,.mv (.t 34)⟩]))))
 (.ops [
 ⟨some 17,none,.mv (.t 8)⟩,⟨some 18,none,.bin .sub (.t 17) (.c (.dat (.int .i64 1)))⟩,⟨some 8,none,.mv (.t 18)⟩]))))))
 (.seq (.ghost (.freeze 6) (.ops [
 ⟨some 35,none,.mv (.t 6)⟩,⟨some 36,none,.call id_big_trim [(.t 35)]⟩,⟨some 37,none,.mv (.t 7)⟩,⟨some 4,none,.mv (.t 36)⟩,⟨some 5,none,.mv (.t 37)⟩]))
 .ret))))) }
def mf_big_trim:MFunc :=
 { n:=21,np:=1,res:=[.t 2],body :=
 (.seq (.ops [
 ⟨some 2,none,.mv (.c .nil)⟩])
 (.seq (.ops [
 ⟨some 4,none,.mv (.t 0)⟩,⟨some 5,none,.len (.t 4)⟩,⟨some 3,none,.mv (.t 5)⟩])
 (.seq (.block 0
 (.loop
 (.seq (.seq (.ops [
 ⟨some 6,none,.mv (.t 3)⟩,⟨some 7,none,.bin .gtr (.t 6) (.c (.dat (.int .i64 0)))⟩,⟨some 8,none,.mv (.t 7)⟩,⟨some 9,some (8,true),.mv (.t 0)⟩,⟨some 10,some (8,true),.mv (.t 3)⟩,⟨some 11,some (8,true),.bin .sub (.t 10) (.c (.dat (.int .i64 1)))⟩,⟨some 12,some (8,true),.iad 1 (.t 9) (.t 11)⟩,⟨some 13,some (8,true),.load 1 false (.t 12)⟩,⟨some 14,some (8,true),.bin .eql (.t 13) (.c (.dat (.int .i64 0)))⟩,⟨some 15,none,.pick (.t 8) (.t 14) (.c (.dat (.bool false)))⟩])
 (.cond (.t 15)
 .skip
 (.exit 0)))
 (.block 1
 (.ops [
 ⟨some 16,none,.mv (.t 3)⟩,⟨some 17,none,.bin .sub (.t 16) (.c (.dat (.int .i64 1)))⟩,⟨some 3,none,.mv (.t 17)⟩])))))
 (.seq (.ops [
 ⟨some 18,none,.mv (.t 0)⟩,⟨some 19,none,.mv (.t 3)⟩,⟨some 20,none,.slc 1 (.t 18) none (some (.t 19)) none⟩,⟨some 2,none,.mv (.t 20)⟩])
 .ret)))) }
def mf_big_settle:MFunc :=
 { n:=78,np:=3,res:=[.t 6],body :=
 (.seq (.ops [
 ⟨some 6,none,.mv (.c (.dat (.int .i64 0)))⟩])
 (.seq (.ops [
 ⟨some 7,none,.mv (.c (.dat (.int .i64 0)))⟩])
 (.seq (.seq (.ops [
 ⟨some 12,none,.mv (.t 0)⟩,⟨some 13,none,.len (.t 12)⟩,⟨some 14,none,.mv (.c (.dat (.int .i64 0)))⟩])
 (.block 0
 (.loop
 (.seq (.ops [
 ⟨some 15,none,.bin .lss (.t 14) (.t 13)⟩])
 (.seq (.cond (.t 15)
 .skip
 (.exit 0))
 (.seq (.block 1
 (.seq (.ops [
 ⟨some 16,none,.mv (.t 14)⟩,⟨some 8,none,.mv (.t 16)⟩])
 (.seq (.ops [
 ⟨some 17,none,.mv (.t 0)⟩,⟨some 18,none,.mv (.t 8)⟩,⟨some 19,none,.iad 1 (.t 17) (.t 18)⟩,⟨some 20,none,.load 1 false (.t 19)⟩,⟨some 21,none,.mv (.t 7)⟩,⟨some 22,none,.bin .sub (.t 20) (.t 21)⟩,⟨some 9,none,.mv (.t 22)⟩])
 (.seq (.seq (.ops [
 ⟨some 23,none,.mv (.t 8)⟩,⟨some 24,none,.mv (.t 1)⟩,⟨some 25,none,.len (.t 24)⟩,⟨some 26,none,.bin .lss (.t 23) (.t 25)⟩])
 (.cond (.t 26)
 (.ops [
 ⟨some 27,none,.mv (.t 9)⟩,⟨some 28,none,.mv (.t 2)⟩,⟨some 29,none,.mv (.t 1)⟩,⟨some 30,none,.mv (.t 8)⟩,⟨some 31,none,.iad 1 (.t 29) (.t 30)⟩,⟨some 32,none,.load 1 false (.t 31)⟩,⟨some 33,none,.bin .mul (.t 28) (.t 32)⟩,⟨some 34,none,.bin .sub (.t 27) (.t 33)⟩,⟨some 9,none,.mv (.t 34)⟩])
 .skip))
 (.seq (.ops [
 ⟨some 35,none,.mv (.t 0)⟩,⟨some 36,none,.mv (.t 8)⟩,⟨some 37,none,.mv (.t 9)⟩,⟨some 38,none,.bin .and (.t 37) (.c (.dat (.int .i64 1048575)))⟩,⟨some 39,none,.iad 1 (.t 35) (.t 36)⟩,⟨none,none,.store 1 (.t 39) (.t 38)⟩])
 (.ops [
 ⟨some 40,none,.mv (.t 9)⟩,⟨some 41,none,.bin .shr (.t 40) (.c (.dat (.int .u64 20)))⟩,⟨some 42,none,.un .neg (.t 41)⟩,⟨some 7,none,.mv (.t 42)⟩]))))))
 (.ops [
 ⟨some 43,none,.bin .add (.t 14) (.c (.dat (.int .i64 1)))⟩,⟨some 14,none,.mv (.t 43)⟩])))))))
 (.seq (.seq (.ops [
 ⟨some 44,none,.mv (.t 7)⟩,⟨some 45,none,.bin .eql (.t 44) (.c (.dat (.int .i64 0)))⟩])
 (.cond (.t 45)
 (.seq (.ops [
 ⟨some 46,none,.mv (.t 2)⟩,⟨some 6,none,.mv (.t 46)⟩])
 .ret)
 .skip))
 (.seq (.ops [
 ⟨some 10,none,.mv (.c (.dat (.int .i64 0)))⟩])
 (.seq (.seq (.ops [
 ⟨some 47,none,.mv (.t 0)⟩,⟨some 48,none,.len (.t 47)⟩,⟨some 49,none,.mv (.c (.dat (.int .i64 0)))⟩])
 (.block 2
 (.loop
 (.seq (.ops [
 ⟨some 50,none,.bin .lss (.t 49) (.t 48)⟩])
 (.seq (.cond (.t 50)
 .skip
 (.exit 2))
 (.seq (.block 3
 (.seq (.ops [
 ⟨some 51,none,.mv (.t 49)⟩,⟨some 11,none,.mv (.t 51)⟩])
 (.seq (.ops [
 ⟨some 52,none,.mv (.t 10)⟩,⟨some 53,none,.mv (.t 0)⟩,⟨some 54,none,.mv (.t 11)⟩,⟨some 55,none,.iad 1 (.t 53) (.t 54)⟩,⟨some 56,none,.load 1 false (.t 55)⟩,⟨some 57,none,.bin .add (.t 52) (.t 56)⟩,⟨some 10,none,.mv (.t 57)⟩])
 (.seq (.seq (.ops [
 ⟨some 58,none,.mv (.t 11)⟩,⟨some 59,none,.mv (.t 1)⟩,⟨some 60,none,.len (.t 59)⟩,⟨some 61,none,.bin .lss (.t 58) (.t 60)⟩])
 (.cond (.t 61)
 (.ops [
 ⟨some 62,none,.mv (.t 10)⟩,⟨some 63,none,.mv (.t 1)⟩,⟨some 64,none,.mv (.t 11)⟩,⟨some 65,none,.iad 1 (.t 63) (.t 64)⟩,⟨some 66,none,.load 1 false (.t 65)⟩,⟨some 67,none,.bin .add (.t 62) (.t 66)⟩,⟨some 10,none,.mv (.t 67)⟩])
 .skip))
 (.seq (.ops [
 ⟨some 68,none,.mv (.t 0)⟩,⟨some 69,none,.mv (.t 11)⟩,⟨some 70,none,.mv (.t 10)⟩,⟨some 71,none,.bin .and (.t 70) (.c (.dat (.int .i64 1048575)))⟩,⟨some 72,none,.iad 1 (.t 68) (.t 69)⟩,⟨none,none,.store 1 (.t 72) (.t 71)⟩])
 (.ops [
 ⟨some 73,none,.mv (.t 10)⟩,⟨some 74,none,.bin .shr (.t 73) (.c (.dat (.int .u64 20)))⟩,⟨some 10,none,.mv (.t 74)⟩]))))))
 (.ops [
 ⟨some 75,none,.bin .add (.t 49) (.c (.dat (.int .i64 1)))⟩,⟨some 49,none,.mv (.t 75)⟩])))))))
 (.seq (.ops [
 ⟨some 76,none,.mv (.t 2)⟩,⟨some 77,none,.bin .sub (.t 76) (.c (.dat (.int .i64 1)))⟩,⟨some 6,none,.mv (.t 77)⟩])
 .ret))))))) }
end Go.Mini
namespace Go.Mini
open Go
def mf_cmp_Compare_int:MFunc :=
 { n:=20,np:=2,res:=[.t 4],body :=
 (.seq (.ops [
 ⟨some 4,none,.mv (.c (.dat (.int .i64 0)))⟩])
 (.seq (.ops [
 ⟨some 7,none,.mv (.t 0)⟩,⟨some 8,none,.call id_cmp_isNaN_int [(.t 7)]⟩,⟨some 5,none,.mv (.t 8)⟩])
 (.seq (.ops [
 ⟨some 9,none,.mv (.t 1)⟩,⟨some 10,none,.call id_cmp_isNaN_int [(.t 9)]⟩,⟨some 6,none,.mv (.t 10)⟩])
 (.seq (.seq (.ops [
 ⟨some 11,none,.mv (.t 5)⟩])
 (.cond (.t 11)
 (.seq (.seq (.ops [
 ⟨some 12,none,.mv (.t 6)⟩])
 (.cond (.t 12)
 (.seq (.ops [
 ⟨some 4,none,.mv (.c (.dat (.int .i64 0)))⟩])
 .ret)
 .skip))
 (.seq (.ops [
 ⟨some 4,none,.mv (.c (.dat (.int .i64 (-1))))⟩])
 .ret))
 .skip))
 (.seq (.seq (.ops [
 ⟨some 13,none,.mv (.t 6)⟩])
 (.cond (.t 13)
 (.seq (.ops [
 ⟨some 4,none,.mv (.c (.dat (.int .i64 1)))⟩])
 .ret)
 .skip))
 (.seq (.seq (.ops [
 ⟨some 14,none,.mv (.t 0)⟩,⟨some 15,none,.mv (.t 1)⟩,⟨some 16,none,.bin .lss (.t 14) (.t 15)⟩])
 (.cond (.t 16)
 (.seq (.ops [
 ⟨some 4,none,.mv (.c (.dat (.int .i64 (-1))))⟩])
 .ret)
 .skip))
 (.seq (.seq (.ops [
 ⟨some 17,none,.mv (.t 0)⟩,⟨some 18,none,.mv (.t 1)⟩,⟨some 19,none,.bin .gtr (.t 17) (.t 18)⟩])
 (.cond (.t 19)
 (.seq (.ops [
 ⟨some 4,none,.mv (.c (.dat (.int .i64 1)))⟩])
 .ret)
 .skip))
 (.seq (.ops [
 ⟨some 4,none,.mv (.c (.dat (.int .i64 0)))⟩])
 .ret)))))))) }
def mf_cmp_Or_int:MFunc :=
 { n:=18,np:=1,res:=[.t 2],body :=
 (.seq (.ops [
 ⟨some 2,none,.mv (.c (.dat (.int .i64 0)))⟩])
 (.seq (.ops [
 ⟨some 3,none,.mv (.c (.dat (.int .i64 0)))⟩])
 (.seq (.seq (.ops [
 ⟨some 6,none,.mv (.t 0)⟩,⟨some 7,none,.len (.t 6)⟩,⟨some 8,none,.mv (.c (.dat (.int .i64 0)))⟩])
 (.block 0
 (.loop
 (.seq (.ops [
 ⟨some 9,none,.bin .lss (.t 8) (.t 7)⟩])
 (.seq (.cond (.t 9)
 .skip
 (.exit 0))
 (.seq (.block 1
 (.seq (.ops [
 ⟨some 10,none,.iad 1 (.t 6) (.t 8)⟩,⟨some 11,none,.load 1 false (.t 10)⟩,⟨some 5,none,.mv (.t 11)⟩])
 (.seq (.ops [
 ⟨some 12,none,.mv (.t 5)⟩,⟨some 13,none,.mv (.t 3)⟩,⟨some 14,none,.bin .neq (.t 12) (.t 13)⟩])
 (.cond (.t 14)
 (.seq (.ops [
 ⟨some 15,none,.mv (.t 5)⟩,⟨some 2,none,.mv (.t 15)⟩])
 .ret)
 .skip))))
 (.ops [
 ⟨some 16,none,.bin .add (.t 8) (.c (.dat (.int .i64 1)))⟩,⟨some 8,none,.mv (.t 16)⟩])))))))
 (.seq (.ops [
 ⟨some 17,none,.mv (.t 3)⟩,⟨some 2,none,.mv (.t 17)⟩])
 .ret)))) }
def mf_cmp_isNaN_int:MFunc :=
 { n:=6,np:=1,res:=[.t 2],body :=
 (.seq (.ops [
 ⟨some 2,none,.mv (.c (.dat (.bool false)))⟩])
 (.seq (.ops [
 ⟨some 3,none,.mv (.t 0)⟩,⟨some 4,none,.mv (.t 0)⟩,⟨some 5,none,.bin .neq (.t 3) (.t 4)⟩,⟨some 2,none,.mv (.t 5)⟩])
 .ret)) }
end Go.Mini
namespace Go.Mini
open Go
def mf_slices_ContainsFunc_Row:MFunc :=
 { n:=9,np:=2,res:=[.t 4],body :=
 (.seq (.ops [
 ⟨some 4,none,.mv (.c (.dat (.bool false)))⟩])
 (.seq (.ops [
 ⟨some 5,none,.mv (.t 0)⟩,⟨some 6,none,.mv (.t 1)⟩,⟨some 7,none,.call id_slices_IndexFunc_Row [(.t 5),(.t 6)]⟩,⟨some 8,none,.bin .geq (.t 7) (.c (.dat (.int .i64 0)))⟩,⟨some 4,none,.mv (.t 8)⟩])
 .ret)) }
def mf_slices_ContainsFunc_Frac:MFunc :=
 { n:=9,np:=2,res:=[.t 4],body :=
 (.seq (.ops [
 ⟨some 4,none,.mv (.c (.dat (.bool false)))⟩])
 (.seq (.ops [
 ⟨some 5,none,.mv (.t 0)⟩,⟨some 6,none,.mv (.t 1)⟩,⟨some 7,none,.call id_slices_IndexFunc_Frac [(.t 5),(.t 6)]⟩,⟨some 8,none,.bin .geq (.t 7) (.c (.dat (.int .i64 0)))⟩,⟨some 4,none,.mv (.t 8)⟩])
 .ret)) }
def mf_slices_Repeat_Frac:MFunc :=
 { n:=48,np:=2,res:=[.t 4],body :=
 (.seq (.ops [
 ⟨some 4,none,.mv (.c .nil)⟩])
 (.seq (.seq (.ops [
 ⟨some 9,none,.mv (.t 1)⟩,⟨some 10,none,.bin .lss (.t 9) (.c (.dat (.int .i64 0)))⟩])
 (.cond (.t 10)
 (.ops [
 ⟨some 11,none,.bad⟩,⟨none,none,.bad⟩])
 .skip))
 (.seq (.ops [
 ⟨some 13,none,.mv (.t 0)⟩,⟨some 14,none,.len (.t 13)⟩,⟨some 15,none,.conv .u64 (.t 14)⟩,⟨some 16,none,.mv (.t 1)⟩,⟨some 17,none,.conv .u64 (.t 16)⟩,⟨some 18,none,.call id_math_bits_Mul [(.t 15),(.t 17)]⟩,⟨some 12,none,.mv (.t 18)⟩,⟨some 19,none,.ext 0 (.t 12)⟩,⟨some 20,none,.ext 1 (.t 12)⟩,⟨some 5,none,.mv (.t 19)⟩,⟨some 6,none,.mv (.t 20)⟩])
 (.seq (.seq (.ops [
 ⟨some 21,none,.mv (.t 5)⟩,⟨some 22,none,.bin .gtr (.t 21) (.c (.dat (.int .u64 0)))⟩,⟨some 23,none,.mv (.t 22)⟩,⟨some 24,some (23,false),.mv (.t 6)⟩,⟨some 25,some (23,false),.bin .gtr (.t 24) (.c (.dat (.int .u64 9223372036854775807)))⟩,⟨some 26,none,.pick (.t 23) (.c (.dat (.bool true))) (.t 25)⟩])
 (.cond (.t 26)
 (.ops [
 ⟨some 27,none,.bad⟩,⟨none,none,.bad⟩])
 .skip))
 (.seq (.ops [
 ⟨some 28,none,.mv (.t 6)⟩,⟨some 29,none,.conv .i64 (.t 28)⟩,⟨some 30,none,.mksl 131030 [(.dat (.int .i64 0)),.nil,(.dat (.int .i64 0)),.nil] 64 (.t 29) (.t 29)⟩,⟨some 7,none,.mv (.t 30)⟩])
 (.seq (.ops [
 ⟨some 31,none,.mv (.t 7)⟩,⟨some 32,none,.mv (.t 0)⟩,⟨some 33,none,.cpy 4 (.t 31) (.t 32)⟩,⟨some 8,none,.mv (.t 33)⟩])
 (.seq (.block 0
 (.loop
 (.seq (.seq (.ops [
 ⟨some 34,none,.mv (.t 8)⟩,⟨some 35,none,.mv (.t 7)⟩,⟨some 36,none,.len (.t 35)⟩,⟨some 37,none,.bin .lss (.t 34) (.t 36)⟩])
 (.cond (.t 37)
 .skip
 (.exit 0)))
 (.block 1
 (.opsD [
 ⟨some 38,none,.mv (.t 8)⟩,⟨some 39,none,.mv (.t 7)⟩,⟨some 40,none,.mv (.t 8)⟩,⟨some 41,none,.slc 4 (.t 39) (some (.t 40)) none none⟩,⟨some 42,none,.mv (.t 7)⟩,⟨some 43,none,.mv (.t 8)⟩,⟨some 44,none,.slc 4 (.t 42) none (some (.t 43)) none⟩,⟨some 45,none,.cpy 4 (.t 41) (.t 44)⟩,⟨some 46,none,.bin .add (.t 38) (.t 45)⟩,⟨some 8,none,.mv (.t 46)⟩] [[],[],[],[],[],[],[],[],[],[]])))))
 (.seq (.ops [
 ⟨some 47,none,.mv (.t 7)⟩,⟨some 4,none,.mv (.t 47)⟩])
 .ret)))))))) }
def mf_slices_IndexFunc_Row:MFunc :=
 { n:=19,np:=2,res:=[.t 4],body :=
 (.seq (.ops [
 ⟨some 4,none,.mv (.c (.dat (.int .i64 0)))⟩])
 (.seq (.seq (.ops [
 ⟨some 6,none,.mv (.t 0)⟩,⟨some 7,none,.len (.t 6)⟩,⟨some 8,none,.mv (.c (.dat (.int .i64 0)))⟩])
 (.block 0
 (.loop
 (.seq (.ops [
 ⟨some 9,none,.bin .lss (.t 8) (.t 7)⟩])
 (.seq (.cond (.t 9)
 .skip
 (.exit 0))
 (.seq (.block 1
 (.seq (.ops [
 ⟨some 10,none,.mv (.t 8)⟩,⟨some 5,none,.mv (.t 10)⟩])
 (.seq (.ops [
 ⟨some 11,none,.mv (.t 1)⟩,⟨some 12,none,.mv (.t 0)⟩,⟨some 13,none,.mv (.t 5)⟩,⟨some 14,none,.iad 5 (.t 12) (.t 13)⟩,⟨some 15,none,.load 5 true (.t 14)⟩,⟨some 16,none,.callv (.t 11) [(.t 15)]⟩])
 (.cond (.t 16)
 (.seq (.ops [
 ⟨some 17,none,.mv (.t 5)⟩,⟨some 4,none,.mv (.t 17)⟩])
 .ret)
 .skip))))
 (.ops [
 ⟨some 18,none,.bin .add (.t 8) (.c (.dat (.int .i64 1)))⟩,⟨some 8,none,.mv (.t 18)⟩])))))))
 (.seq (.ops [
 ⟨some 4,none,.mv (.c (.dat (.int .i64 (-1))))⟩])
 .ret))) }
def mf_slices_IndexFunc_Frac:MFunc :=
 { n:=19,np:=2,res:=[.t 4],body :=
 (.seq (.ops [
 ⟨some 4,none,.mv (.c (.dat (.int .i64 0)))⟩])
 (.seq (.seq (.ops [
 ⟨some 6,none,.mv (.t 0)⟩,⟨some 7,none,.len (.t 6)⟩,⟨some 8,none,.mv (.c (.dat (.int .i64 0)))⟩])
 (.block 0
 (.loop
 (.seq (.ops [
 ⟨some 9,none,.bin .lss (.t 8) (.t 7)⟩])
 (.seq (.cond (.t 9)
 .skip
 (.exit 0))
 (.seq (.block 1
 (.seq (.ops [
 ⟨some 10,none,.mv (.t 8)⟩,⟨some 5,none,.mv (.t 10)⟩])
 (.seq (.ops [
 ⟨some 11,none,.mv (.t 1)⟩,⟨some 12,none,.mv (.t 0)⟩,⟨some 13,none,.mv (.t 5)⟩,⟨some 14,none,.iad 4 (.t 12) (.t 13)⟩,⟨some 15,none,.load 4 true (.t 14)⟩,⟨some 16,none,.callv (.t 11) [(.t 15)]⟩])
 (.cond (.t 16)
 (.seq (.ops [
 ⟨some 17,none,.mv (.t 5)⟩,⟨some 4,none,.mv (.t 17)⟩])
 .ret)
 .skip))))
 (.ops [
 ⟨some 18,none,.bin .add (.t 8) (.c (.dat (.int .i64 1)))⟩,⟨some 8,none,.mv (.t 18)⟩])))))))
 (.seq (.ops [
 ⟨some 4,none,.mv (.c (.dat (.int .i64 (-1))))⟩])
 .ret))) }
def mf_slices_Clone_Frac:MFunc :=
 { n:=8,np:=1,res:=[.t 2],body :=
 (.seq (.ops [
 ⟨some 2,none,.mv (.c .nil)⟩])
 (.seq (.seq (.ops [
 ⟨some 3,none,.mv (.t 0)⟩,⟨some 4,none,.isnil false (.t 3)⟩])
 (.cond (.t 4)
 (.seq (.ops [
 ⟨some 2,none,.mv (.c .nil)⟩])
 .ret)
 .skip))
 (.seq (.ops [
 ⟨some 5,none,.bsl 147005 true [] 4 0 []⟩,⟨some 6,none,.mv (.t 0)⟩,⟨some 7,none,.app 147007 [(.dat (.int .i64 0)),.nil,(.dat (.int .i64 0)),.nil] 64 (.t 5) (.t 6)⟩,⟨some 2,none,.mv (.t 7)⟩])
 .ret))) }
def mf_slices_Clone_int:MFunc :=
 { n:=8,np:=1,res:=[.t 2],body :=
 (.seq (.ops [
 ⟨some 2,none,.mv (.c .nil)⟩])
 (.seq (.seq (.ops [
 ⟨some 3,none,.mv (.t 0)⟩,⟨some 4,none,.isnil false (.t 3)⟩])
 (.cond (.t 4)
 (.seq (.ops [
 ⟨some 2,none,.mv (.c .nil)⟩])
 .ret)
 .skip))
 (.seq (.ops [
 ⟨some 5,none,.bsl 156005 true [] 1 0 []⟩,⟨some 6,none,.mv (.t 0)⟩,⟨some 7,none,.app 156007 [(.dat (.int .i64 0))] 8 (.t 5) (.t 6)⟩,⟨some 2,none,.mv (.t 7)⟩])
 .ret))) }
end Go.Mini
namespace Go.Mini
open Go
set_option maxRecDepth 10000
set_option maxHeartbeats 1000000
/-- Zeros at the end, from behind. -/
theorem trim_take (l:List Int) (n:Nat) (hn:n<l.length) (h:l[n]=0):trimL (l.take (n+1))=trimL (l.take n):=by
 rw[List.take_add_one,yL hn,h]
 exact trimL_snoc0 _
theorem trim_stop (l:List Int) (n:Nat) (hn:n<l.length) (h:l[n]≠0):trimL (l.take (n+1))=l.take (n+1):=by
 rw[List.take_add_one,yL hn]
 exact trimL_snoc _ h
noncomputable def F_trim:List Data→Option PRes:=FF (α:=List Int) (fun (l:List Int)=>([.sl (l.map i64L)]:List Data)) (fun (l:List Int)=>onlyIf (l.length≤1000000) (.same (.sl ((trimL l).map i64L))))
theorem F_trim_inj:∀ a b:List Int,(fun (l:List Int)=>([.sl (l.map i64L)]:List Data)) a=(fun (l:List Int)=>([.sl (l.map i64L)]:List Data)) b→a=b:=by
  intro l1 l2 h
  exact map_inj i64L_inj _ _ (by simpa using h)
@[go_sem] theorem F_trim_eq (l:List Int) (hc:l.length≤1000000):F_trim [.sl (l.map i64L)]=some (.same (.sl ((trimL l).map i64L))):=(FF_eq F_trim_inj l).trans (onlyIf_pos hc _)
theorem w_trim (T:Tab)  (l:List Int) (hc:l.length≤1000000) :
  wp T mf_big_trim.body (endS mf_big_trim.res (.same (.sl ((trimL l).map i64L)))) ⟨initTm [.dat (.sl (l.map i64L))],emp⟩:=by
 refine wp_start ?_
 simp only[mf_big_trim]
 have hev:((l.map i64L).all fun e=>e.length==1)=true:=by simp [i64L]
 simp only[go_sem,reduceIte,yA,yB,yC,yD,yE,yH,reduceCtorEq,yF,yG,yI,yJ]
 repeat' (first|refine qqA ?_ ?_|refine qqB ?_ ?_|refine qqC ?_ ?_|refine qqD ?_ ?_|refine qqE ?_ ?_|refine qqF ?_ ?_)<;>intro h<;>simp only[h,go_sem,reduceIte,yA,yB,yC,yD,yE,yH,reduceCtorEq,yF,yG,yI,yJ]
 refine wp_loop_keep [0] [] (fun (n:Nat) tm mem=>n≤l.length∧trimL l=trimL (l.take n)∧tm 3 = .dat (.int .i64 n)) (fun n=>n) l.length (by refine⟨Nat.le_refl _,by simp,by simp [go_sem]⟩) ?_
 intro vs ms hvs hms
 simp only[go_sem,reduceIte,yA,yB,yC,yD,yE,yH,reduceCtorEq,yF,yG,yI,yJ] at hvs hms
 subst hvs hms
 rintro n tm mem hk-⟨hn,ht,h3⟩
 simp only[go_sem,reduceIte,yA,yB,yC,yD,yE,yH,reduceCtorEq,yF,yG,yI,yM] at hk
 have h0:=hk
 rcases n with _ | n
 ·simp only[go_sem,reduceIte,yA,yB,yC,yD,yE,yH,reduceCtorEq,yF,yG,yI,h0,h3,hev,Int.natCast_zero,Int.cast_ofNat_Int,show ¬ ((0:Int)>0) by omega,decide_false,yJ,show (0:Int).toNat=0 from rfl,show (0:Int)≤0 by omega,Nat.zero_le,List.take_zero,List.map_nil]
  repeat' (first|refine qqA ?_ ?_|refine qqB ?_ ?_|refine qqC ?_ ?_|refine qqD ?_ ?_|refine qqE ?_ ?_|refine qqF ?_ ?_)<;>intro h<;>simp only[h,go_sem,reduceIte,yA,yB,yC,yD,yE,yH,reduceCtorEq,yF,yG,yI,h0,h3,hev,Int.natCast_zero,Int.cast_ofNat_Int,show ¬ ((0:Int)>0) by omega,decide_false,yJ,show (0:Int).toNat=0 from rfl,show (0:Int)≤0 by omega,Nat.zero_le,List.take_zero,List.map_nil]
  rw[ht];simp [trimL]
 ·have hw:IntKind.i64.wrap (((n+1:Nat):Int)-1)=(n:Int):=by rw[wrap64 _ (by omega) (by omega)];omega
  have hx:l[n]?=some l[n]:=yL (by omega)
  have hpos:((n+1:Nat):Int)>0:=by omega
  have hle:n+1≤l.length:=hn
  by_cases hz:l[n]=0
  ·simp only[go_sem,reduceIte,yA,yB,yC,yD,yE,yH,reduceCtorEq,yF,yG,yI,h0,h3,hw,hx,hz,hpos,yJ,yK,decide_true,i64L,beq_self_eq_true,yM]
   repeat' (first|refine qqA ?_ ?_|refine qqB ?_ ?_|refine qqC ?_ ?_|refine qqD ?_ ?_|refine qqE ?_ ?_|refine qqF ?_ ?_)<;>intro h<;>simp only[h,go_sem,reduceIte,yA,yB,yC,yD,yE,yH,reduceCtorEq,yF,yG,yI,h0,h3,hw,hx,hz,hpos,yJ,yK,decide_true,i64L,beq_self_eq_true,yM]
   exact⟨n,by omega,by omega,by rw[ht,trim_take l n (by omega) hz],rfl⟩
  ·have hzf:(l[n]==0)=false:=by simpa using hz
   simp only[go_sem,reduceIte,yA,yB,yC,yD,yE,yH,reduceCtorEq,yF,yG,yI,h0,h3,hw,hx,hzf,hpos,hev,hle,i64L,yJ,yK,decide_true,yM,show (0:Int)≤((n+1:Nat):Int) by omega,Int.toNat_natCast,Nat.zero_le]
   repeat' (first|refine qqA ?_ ?_|refine qqB ?_ ?_|refine qqC ?_ ?_|refine qqD ?_ ?_|refine qqE ?_ ?_|refine qqF ?_ ?_)<;>intro h<;>simp only[h,go_sem,reduceIte,yA,yB,yC,yD,yE,yH,reduceCtorEq,yF,yG,yI,h0,h3,hw,hx,hzf,hpos,hev,hle,i64L,yJ,yK,decide_true,yM,show (0:Int)≤((n+1:Nat):Int) by omega,Int.toNat_natCast,Nat.zero_le]
   rw[ht,trim_stop l n (by omega) hz,List.map_take]
/-- trim, of a row of the caller's own. -/
structure TrimM where
 l:List Int
 k:Key
 g:Nat
noncomputable def G_trim:List MV→Mem→Option (MV × Mem):=GG (fun (a:TrimM) args mem=>args=[.ref a.k a.g 1 0 a.l.length]∧mem a.k=some (a.g,rowE i64L a.l)∧a.l.length≤1000000) (fun a mem=>(.ref a.k a.g 1 0 (trimL a.l).length,mem))
theorem rowE_inj {α:Type} {enc:α→List Data} {sz:Nat} (h:∀ a,(enc a).length=sz) (hi:∀ a b,enc a=enc b→a=b):∀ (l l':List α),rowE enc l=rowE enc l'→0<sz→l=l':=by
 intro l
 induction l with
 | nil =>
  intro l' e hz
  cases l' with
  | nil=>rfl
  | cons b r =>
   have:=congrArg List.length e
   rw[rowE_len h,rowE_len h] at this
   simp only[List.length_nil,List.length_cons,Nat.zero_mul,Nat.add_mul] at this
   omega
 | cons a r ih =>
  intro l' e hz
  cases l' with
  | nil =>
   have:=congrArg List.length e
   rw[rowE_len h,rowE_len h] at this
   simp only[List.length_nil,List.length_cons,Nat.zero_mul,Nat.add_mul] at this
   omega
  | cons b r' =>
   rw[rowE_cons,rowE_cons] at e
   have hl:((enc a).map MV.dat).length=((enc b).map MV.dat).length:=by simp [h]
   obtain⟨e1,e2⟩:=List.append_inj e hl
   have e3:=map_inj (fun x y (e:MV.dat x=MV.dat y)=>by cases e;rfl) _ _ e1
   rw[hi _ _ e3,ih r' e2 hz]
theorem G_trim_eq (l:List Int) (k g:Nat) (mem:Mem) (h:mem k=some (g,rowE i64L l)) (hl:l.length≤1000000):G_trim [.ref k g 1 0 l.length] mem=some (.ref k g 1 0 (trimL l).length,mem):=by
 unfold G_trim
 refine GG_eq (a:=(⟨l,k,g⟩:TrimM)) ?_ ⟨rfl,h,hl⟩
 rintro a b args mem ⟨h1,h2,_⟩ ⟨h3,h4,_⟩
 rw[h1] at h3
 simp only[yM,MV.ref.injEq,true_and,and_true] at h3
 obtain⟨ek,eg,_⟩:=h3
 rw[ek,h4] at h2
 simp only[Option.some.injEq,Prod.mk.injEq] at h2
 have:=rowE_inj i64L_len i64L_inj _ _ h2.2 (by omega)
 rw[ek,eg,this]
@[go_sem] theorem G_trim_dat (d:Data) (mem:Mem):G_trim [.dat d] mem=none:=by
 cases hx:G_trim [.dat d] mem with
 | none=>rfl
 | some x =>
  unfold G_trim at hx
  obtain⟨a,⟨h,_⟩,_⟩:=GG_inv hx
  cases h
theorem w_trimG (T:Tab) (l:List Int) (k g:Nat) (mem:Mem) (hm:mem k=some (g,rowE i64L l)) (hc:l.length≤1000000) :
  wp T mf_big_trim.body (endG mf_big_trim.res (.ref k g 1 0 (trimL l).length) mem) ⟨initTm [.ref k g 1 0 l.length],mem⟩:=by
 refine wp_start ?_
 simp only[mf_big_trim]
 simp only[go_sem,reduceIte,yA,yB,yC,yD,yE,yH,reduceCtorEq,yF,yG,yI,hm]
 repeat' (first|refine qqA ?_ ?_|refine qqB ?_ ?_|refine qqC ?_ ?_|refine qqD ?_ ?_|refine qqE ?_ ?_|refine qqF ?_ ?_)<;>intro h<;>simp only[h,go_sem,reduceIte,yA,yB,yC,yD,yE,yH,reduceCtorEq,yF,yG,yI,hm]
 refine wp_loop_keep [0] [] (fun (n:Nat) tm mem'=>n≤l.length∧trimL l=trimL (l.take n)∧tm 3 = .dat (.int .i64 n)∧mem'=mem) (fun n=>n) l.length (by refine⟨Nat.le_refl _,by simp,by simp [go_sem],rfl⟩) ?_
 intro vs ms hvs hms
 simp only[go_sem,reduceIte,yA,yB,yC,yD,yE,yH,reduceCtorEq,yF,yG,yI] at hvs hms
 subst hvs hms
 rintro n tm _ hk-⟨hn,ht,h3,rfl⟩
 simp only[go_sem,reduceIte,yA,yB,yC,yD,yE,yH,reduceCtorEq,yF,yG,yI,yM] at hk
 have h0:=hk
 rcases n with _ | n
 ·simp only[go_sem,reduceIte,yA,yB,yC,yD,yE,yH,reduceCtorEq,yF,yG,yI,h0,h3,hm,Int.natCast_zero,Int.cast_ofNat_Int,show ¬ ((0:Int)>0) by omega,decide_false,show (0:Int).toNat=0 from rfl,show (0:Int)≤0 by omega,Nat.zero_le]
  repeat' (first|refine qqA ?_ ?_|refine qqB ?_ ?_|refine qqC ?_ ?_|refine qqD ?_ ?_|refine qqE ?_ ?_|refine qqF ?_ ?_)<;>intro h<;>simp only[h,go_sem,reduceIte,yA,yB,yC,yD,yE,yH,reduceCtorEq,yF,yG,yI,h0,h3,hm,Int.natCast_zero,Int.cast_ofNat_Int,show ¬ ((0:Int)>0) by omega,decide_false,show (0:Int).toNat=0 from rfl,show (0:Int)≤0 by omega,Nat.zero_le]
  rw[ht];simp [trimL]
 ·have hw:IntKind.i64.wrap (((n+1:Nat):Int)-1)=(n:Int):=by rw[wrap64 _ (by omega) (by omega)];omega
  have hx:l[n]?=some l[n]:=yL (by omega)
  have hpos:((n+1:Nat):Int)>0:=by omega
  have hle:n+1≤l.length:=hn
  have hlt:n<l.length:=hn
  have hcut:=rowE_cut i64L_len hx (f:=0) (n:=1) (by omega)
  have hcl:=rowE_len i64L_len l
  rw[Nat.mul_one] at hcl
  have hcut':n+1≤(rowE i64L l).length:=by omega
  have hcut2:List.take 1 (List.drop n (rowE i64L l))=[.dat (.int .i64 l[n])]:=by
   unfold cut at hcut
   rw[Nat.mul_one,Nat.add_zero,if_pos (by omega)] at hcut
   simpa [i64L] using hcut
  by_cases hz:l[n]=0
  ·simp only[go_sem,reduceIte,yA,yB,yC,yD,yE,yH,reduceCtorEq,yF,yG,yI,h0,h3,hm,hw,hlt,hcut',hcut2,hz,hpos,decide_true,Nat.mul_one,beq_self_eq_true]
   repeat' (first|refine qqA ?_ ?_|refine qqB ?_ ?_|refine qqC ?_ ?_|refine qqD ?_ ?_|refine qqE ?_ ?_|refine qqF ?_ ?_)<;>intro h<;>simp only[h,go_sem,reduceIte,yA,yB,yC,yD,yE,yH,reduceCtorEq,yF,yG,yI,h0,h3,hm,hw,hlt,hcut',hcut2,hz,hpos,decide_true,Nat.mul_one,beq_self_eq_true]
   exact⟨n,by omega,by omega,by rw[ht,trim_take l n (by omega) hz],rfl⟩
  ·have hzf:(l[n]==0)=false:=by simpa using hz
   simp only[go_sem,reduceIte,yA,yB,yC,yD,yE,yH,reduceCtorEq,yF,yG,yI,h0,h3,hm,hw,hlt,hcut',hcut2,hzf,hpos,hle,decide_true,Nat.mul_one,show (0:Int)≤((n+1:Nat):Int) by omega,Int.toNat_natCast,Nat.zero_le,Nat.sub_zero]
   repeat' (first|refine qqA ?_ ?_|refine qqB ?_ ?_|refine qqC ?_ ?_|refine qqD ?_ ?_|refine qqE ?_ ?_|refine qqF ?_ ?_)<;>intro h<;>simp only[h,go_sem,reduceIte,yA,yB,yC,yD,yE,yH,reduceCtorEq,yF,yG,yI,h0,h3,hm,hw,hlt,hcut',hcut2,hzf,hpos,hle,decide_true,Nat.mul_one,show (0:Int)≤((n+1:Nat):Int) by omega,Int.toNat_natCast,Nat.zero_le,Nat.sub_zero]
   rw[ht,trim_stop l n (by omega) hz]
   simp;omega
end Go.Mini
namespace Go.Mini
open Go
set_option maxRecDepth 10000
set_option maxHeartbeats 1000000
noncomputable def F_isNaN:List Data→Option PRes:=FF (α:=Int) (fun (n:Int)=>([.int .i64 n]:List Data)) (fun (n:Int)=>some (.same (.bool false)))
theorem F_isNaN_inj:∀ a b:Int,(fun (n:Int)=>([.int .i64 n]:List Data)) a=(fun (n:Int)=>([.int .i64 n]:List Data)) b→a=b:=by
  intro n1 n2 h
  simp only[yM,Data.int.injEq,Data.agg.injEq,Data.sl.injEq,Data.bool.injEq,Data.str.injEq,Data.ptr.injEq,Data.tup.injEq,Prod.mk.injEq,true_and,and_true] at h ⊢
  first | exact h | simpa [Prod.ext_iff,and_assoc] using h | grind
@[go_sem] theorem F_isNaN_eq (n:Int):F_isNaN [.int .i64 n]=some (.same (.bool false)):=FF_eq F_isNaN_inj n
theorem w_isNaN (T:Tab)  (n:Int) :
  wp T mf_cmp_isNaN_int.body (endS mf_cmp_isNaN_int.res (.same (.bool false))) ⟨initTm [.dat (.int .i64 n)],emp⟩:=by
 refine wp_start ?_
 simp only[mf_cmp_isNaN_int]
 simp only[go_sem,reduceIte,yA,yB,yC,yD,yE,yH,reduceCtorEq,yF,yG,yI,beq_self_eq_true]
 repeat' (first|refine qqA ?_ ?_|refine qqB ?_ ?_|refine qqC ?_ ?_|refine qqD ?_ ?_|refine qqE ?_ ?_|refine qqF ?_ ?_)<;>intro h<;>simp only[h,go_sem,reduceIte,yA,yB,yC,yD,yE,yH,reduceCtorEq,yF,yG,yI,beq_self_eq_true]
def cmpI (a b:Int):Int:=if decide (a<b)=true then -1 else if decide (a>b)=true then 1 else 0
noncomputable def F_cmpI:List Data→Option PRes:=FF (α:=Int × Int) (fun (a,b)=>([.int .i64 a,.int .i64 b]:List Data)) (fun (a,b)=>some (.same (.int .i64 (cmpI a b))))
theorem F_cmpI_inj:∀ a b:Int × Int,(fun (a,b)=>([.int .i64 a,.int .i64 b]:List Data)) a=(fun (a,b)=>([.int .i64 a,.int .i64 b]:List Data)) b→a=b:=by
  rintro⟨a1,b1⟩ ⟨a2,b2⟩ h
  simp only[yM,Data.int.injEq,Data.agg.injEq,Data.sl.injEq,Data.bool.injEq,Data.str.injEq,Data.ptr.injEq,Data.tup.injEq,Prod.mk.injEq,true_and,and_true] at h ⊢
  first | exact h | simpa [Prod.ext_iff,and_assoc] using h | grind
@[go_sem] theorem F_cmpI_eq (a:Int) (b:Int):F_cmpI [.int .i64 a,.int .i64 b]=some (.same (.int .i64 (cmpI a b))):=FF_eq F_cmpI_inj (a,b)
theorem w_cmpI (T:Tab) (h_isNaN:T id_cmp_isNaN_int=mkE F_isNaN) (a:Int) (b:Int) :
  wp T mf_cmp_Compare_int.body (endS mf_cmp_Compare_int.res (.same (.int .i64 (cmpI a b)))) ⟨initTm [.dat (.int .i64 a),.dat (.int .i64 b)],emp⟩:=by
 refine wp_start ?_
 simp only[mf_cmp_Compare_int]
 simp only[go_sem,reduceIte,yA,yB,yC,yD,yE,yH,reduceCtorEq,yF,yG,yI,h_isNaN]
 repeat' (first|refine qqA ?_ ?_|refine qqB ?_ ?_|refine qqC ?_ ?_|refine qqD ?_ ?_|refine qqE ?_ ?_|refine qqF ?_ ?_)<;>intro h<;>simp only[h,go_sem,reduceIte,yA,yB,yC,yD,yE,yH,reduceCtorEq,yF,yG,yI,h_isNaN]
 all_goals simp only[cmpI, *,reduceIte,Bool.not_true,Bool.not_false,Bool.or_true,Bool.true_or,Bool.or_false,Bool.false_or,Bool.and_true,Bool.true_and,Bool.and_false,Bool.false_and,yH,beq_self_eq_true,bne]
/-- The first that is not 0. -/
def orI:List Int→Int
 | []=>0
 | d::r=>if (d==0)=true then orI r else d
noncomputable def F_orI:List Data→Option PRes:=FF (α:=List Int) (fun (l:List Int)=>([.sl (l.map i64L)]:List Data)) (fun (l:List Int)=>onlyIf (l.length≤1000000) (.same (.int .i64 (orI l))))
theorem F_orI_inj:∀ a b:List Int,(fun (l:List Int)=>([.sl (l.map i64L)]:List Data)) a=(fun (l:List Int)=>([.sl (l.map i64L)]:List Data)) b→a=b:=by
  intro l1 l2 h
  exact map_inj i64L_inj _ _ (by simpa using h)
@[go_sem] theorem F_orI_eq (l:List Int) (hc:l.length≤1000000):F_orI [.sl (l.map i64L)]=some (.same (.int .i64 (orI l))):=(FF_eq F_orI_inj l).trans (onlyIf_pos hc _)
theorem w_orI (T:Tab)  (l:List Int) (hc:l.length≤1000000) :
  wp T mf_cmp_Or_int.body (endS mf_cmp_Or_int.res (.same (.int .i64 (orI l)))) ⟨initTm [.dat (.sl (l.map i64L))],emp⟩:=by
 refine wp_start ?_
 simp only[mf_cmp_Or_int]
 simp only[go_sem,reduceIte,yA,yB,yC,yD,yE,yH,reduceCtorEq,yF,yG,yI,yJ]
 repeat' (first|refine qqA ?_ ?_|refine qqB ?_ ?_|refine qqC ?_ ?_|refine qqD ?_ ?_|refine qqE ?_ ?_|refine qqF ?_ ?_)<;>intro h<;>simp only[h,go_sem,reduceIte,yA,yB,yC,yD,yE,yH,reduceCtorEq,yF,yG,yI,yJ]
 refine wp_loop_keep [3,6,7] [] (fun i tm mem=>0≤i∧i≤(l.length:Int)∧orI l=orI (l.drop i.toNat)∧tm 8 = .dat (.int .i64 i)) (fun i=>(l.length-i).toNat) 0 (by refine⟨by omega,by omega,by simp,by simp [go_sem]⟩) ?_
 intro vs ms hvs hms
 simp only[go_sem,reduceIte,yA,yB,yC,yD,yE,yH,reduceCtorEq,yF,yG,yI] at hvs hms
 subst hvs hms
 rintro i tm mem hk-⟨hi0,hi,hf,h8⟩
 simp only[go_sem,reduceIte,yA,yB,yC,yD,yE,yH,reduceCtorEq,yF,yG,yI,yM] at hk
 obtain⟨h3,h6,h7⟩:=hk
 rcases Decidable.em (i<l.length) with hlt | hge
 ·obtain⟨x,hx,hd,-⟩:=at_list l i hi0 hlt
  simp only[go_sem,reduceIte,yA,yB,yC,yD,yE,yH,reduceCtorEq,yF,yG,yI,h3,h6,h7,h8,hx,hlt,hi0,i64L,yJ,yK,decide_true,yM]
  repeat' (first|refine qqA ?_ ?_|refine qqB ?_ ?_|refine qqC ?_ ?_|refine qqD ?_ ?_|refine qqE ?_ ?_|refine qqF ?_ ?_)<;>intro h<;>simp only[h,go_sem,reduceIte,yA,yB,yC,yD,yE,yH,reduceCtorEq,yF,yG,yI,h3,h6,h7,h8,hx,hlt,hi0,i64L,yJ,yK,decide_true,yM]
  ·rw[hf,hd];simp [orI,h]
  ·exact⟨i+1,by omega,by omega,by omega,by rw[hf,hd];simp only[orI, *,reduceIte,Bool.not_true,Bool.not_false,Bool.or_true,Bool.true_or,Bool.or_false,Bool.false_or,Bool.and_true,Bool.true_and,Bool.and_false,Bool.false_and,yH,beq_self_eq_true,bne],by rw[wrap64 _ (by omega) (by omega)]⟩
 ·have he:l.drop i.toNat=[]:=List.drop_eq_nil_of_le (by omega)
  simp only[go_sem,reduceIte,yA,yB,yC,yD,yE,yH,reduceCtorEq,yF,yG,yI,h3,h6,h7,h8,hge,decide_false]
  repeat' (first|refine qqA ?_ ?_|refine qqB ?_ ?_|refine qqC ?_ ?_|refine qqD ?_ ?_|refine qqE ?_ ?_|refine qqF ?_ ?_)<;>intro h<;>simp only[h,go_sem,reduceIte,yA,yB,yC,yD,yE,yH,reduceCtorEq,yF,yG,yI,h3,h6,h7,h8,hge,decide_false]
  rw[hf,he];rfl
theorem even_i64 (l:List Int):((l.map i64L).all fun e=>e.length==1)=true:=by simp [i64L]
noncomputable def F_clone:List Data→Option PRes:=FF (α:=List Int) (fun (l:List Int)=>([.sl (l.map i64L)]:List Data)) (fun (l:List Int)=>onlyIf (l.length≤1000000) (.own 1 (l.map i64L)))
theorem F_clone_inj:∀ a b:List Int,(fun (l:List Int)=>([.sl (l.map i64L)]:List Data)) a=(fun (l:List Int)=>([.sl (l.map i64L)]:List Data)) b→a=b:=by
  intro l1 l2 h
  exact map_inj i64L_inj _ _ (by simpa using h)
@[go_sem] theorem F_clone_eq (l:List Int) (hc:l.length≤1000000):F_clone [.sl (l.map i64L)]=some (.own 1 (l.map i64L)):=(FF_eq F_clone_inj l).trans (onlyIf_pos hc _)
theorem w_clone (T:Tab)  (l:List Int) (hc:l.length≤1000000) :
  wp T mf_slices_Clone_int.body (endS mf_slices_Clone_int.res (.own 1 (l.map i64L))) ⟨initTm [.dat (.sl (l.map i64L))],emp⟩:=by
 refine wp_start ?_
 simp only[mf_slices_Clone_int]
 have hap:appC 156005 0 1 0 8 l.length ((l.map i64L).flatten.map .dat) (some (0,[]))=some (.ref 156005 1 1 0 l.length,some (156005,1,rowE i64L l)):=by
  have:=app_rows i64L_len i64L_one 156005 0 8 [] l (by simp;omega) (by simp;omega)
  simpa [rowE] using this
 have hlen:(rowE i64L l).length=l.length:=by rw[rowE_len i64L_len];omega
 simp only[go_sem,reduceIte,yA,yB,yC,yD,yE,yH,reduceCtorEq,yF,yG,yI,even_i64,hap,yJ]
 repeat' (first|refine qqA ?_ ?_|refine qqB ?_ ?_|refine qqC ?_ ?_|refine qqD ?_ ?_|refine qqE ?_ ?_|refine qqF ?_ ?_)<;>intro h<;>simp only[h,go_sem,reduceIte,yA,yB,yC,yD,yE,yH,reduceCtorEq,yF,yG,yI,even_i64,hap,yJ]
 rintro b hb
 cases b
 ·simp only[go_sem,reduceIte,yA,yB,yC,yD,yE,yH,reduceCtorEq,yF,yG,yI,even_i64,hap,yJ,ownD,Nat.mul_one,hlen]
  repeat' (first|refine qqA ?_ ?_|refine qqB ?_ ?_|refine qqC ?_ ?_|refine qqD ?_ ?_|refine qqE ?_ ?_|refine qqF ?_ ?_)<;>intro h<;>simp only[h,go_sem,reduceIte,yA,yB,yC,yD,yE,yH,reduceCtorEq,yF,yG,yI,even_i64,hap,yJ,ownD,Nat.mul_one,hlen]
  rw[if_pos (by omega),List.take_of_length_le (by omega)]
  unfold rowE
  rw[mapM_dat _ fun d=>rfl]
  have:=chunk_all (sz:=1) (l.map i64L) (by simp [i64L])
  rw[yJ] at this
  simp [this]
 ·cases l with
  | nil =>
       simp only[go_sem,reduceIte,yA,yB,yC,yD,yE,yH,reduceCtorEq,yF,yG,yI,ownD,List.map_nil]
       repeat' (first|refine qqA ?_ ?_|refine qqB ?_ ?_|refine qqC ?_ ?_|refine qqD ?_ ?_|refine qqE ?_ ?_|refine qqF ?_ ?_)<;>intro h<;>simp only[h,go_sem,reduceIte,yA,yB,yC,yD,yE,yH,reduceCtorEq,yF,yG,yI,ownD,List.map_nil]
  | cons x r=>simp at hb
/-- An integer, as it comes: a sign and digits, right or not. -/
abbrev Raw:=Int × List Int
def bigL (a:Raw):List Data:=[.int .i64 a.1,.sl (a.2.map i64L)]
def digB (d:Int):Bool:=!decide (d<0) && !decide (d>1048575)
def rightR (a:Raw):Bool:=a.2.all digB&&(if (a.2.length==0)=true then a.1==0 else ((a.1==1||a.1 == -1)&&decide (a.2.length≤60)&&(a.2.getLast? != some 0)))
end Go.Mini
namespace Go.Mini
open Go
set_option maxRecDepth 10000
set_option maxHeartbeats 1000000
noncomputable def F_bigRight:List Data→Option PRes:=FF (α:=Int × (List Int)) (fun (s,l)=>([.agg [.int .i64 s,.sl (l.map i64L)]]:List Data)) (fun (s,l)=>onlyIf (l.length≤1000000) (.same (.bool (rightR (s,l)))))
theorem F_bigRight_inj:∀ a b:Int × (List Int),(fun (s,l)=>([.agg [.int .i64 s,.sl (l.map i64L)]]:List Data)) a=(fun (s,l)=>([.agg [.int .i64 s,.sl (l.map i64L)]]:List Data)) b→a=b:=by
  rintro⟨s1,l1⟩ ⟨s2,l2⟩ h
  simp only[yM,Data.agg.injEq,Data.int.injEq,Data.sl.injEq] at h;exact Prod.ext h.1.1.2 (map_inj i64L_inj _ _ h.1.2.1)
@[go_sem] theorem F_bigRight_eq (s:Int) (l:List Int) (hc:l.length≤1000000):F_bigRight [.agg [.int .i64 s,.sl (l.map i64L)]]=some (.same (.bool (rightR (s,l)))):=(FF_eq F_bigRight_inj (s,l)).trans (onlyIf_pos hc _)
theorem w_bigRight (T:Tab)  (s:Int) (l:List Int) (hc:l.length≤1000000) :
  wp T mf_big_Right.body (endS mf_big_Right.res (.same (.bool (rightR (s,l))))) ⟨initTm [.dat (.agg [.int .i64 s,.sl (l.map i64L)])],emp⟩:=by
 refine wp_start ?_
 simp only[mf_big_Right]
 simp only[go_sem,reduceIte,yA,yB,yC,yD,yE,yH,reduceCtorEq,yF,yG,yI,yJ]
 repeat' (first|refine qqA ?_ ?_|refine qqB ?_ ?_|refine qqC ?_ ?_|refine qqD ?_ ?_|refine qqE ?_ ?_|refine qqF ?_ ?_)<;>intro h<;>simp only[h,go_sem,reduceIte,yA,yB,yC,yD,yE,yH,reduceCtorEq,yF,yG,yI,yJ]
 refine wp_loop_keep [1,3,10,11] [136001] (fun i tm mem=>0≤i∧i≤(l.length:Int)∧l.all digB=(l.drop i.toNat).all digB∧tm 12 = .dat (.int .i64 i)) (fun i=>(l.length-i).toNat) 0 (by refine⟨by omega,by omega,by simp,by simp [go_sem]⟩) ?_
 intro vs ms hvs hms
 simp only[go_sem,reduceIte,yA,yB,yC,yD,yE,yH,reduceCtorEq,yF,yG,yI,yJ] at hvs hms
 subst hvs hms
 rintro i tm mem hk hm ⟨hi0,hi,hf,h12⟩
 simp only[go_sem,reduceIte,yA,yB,yC,yD,yE,yH,reduceCtorEq,yF,yG,yI,yM] at hk hm
 obtain⟨h1,h3,h10,h11⟩:=hk
 rcases Decidable.em (i<l.length) with hlt | hge
 ·obtain⟨x,hx,hd,-⟩:=at_list l i hi0 hlt
  have hfin:∀ b,digB x=true→b=(l.drop (i+1).toNat).all digB→l.all digB=b:=by
   intro b h1 h2
   rw[hf,hd,List.all_cons,h1,h2,Bool.true_and]
  have hbad:digB x=false→rightR (s,l)=false:=by
   intro h1
   unfold rightR
   rw[hf,hd,List.all_cons,h1]
   rfl
  simp only[go_sem,reduceIte,yA,yB,yC,yD,yE,yH,reduceCtorEq,yF,yG,yI,h1,h3,h10,h11,h12,hm,hx,hlt,hi0,i64L,yJ,yK,decide_true,yM]
  repeat' (first|refine qqA ?_ ?_|refine qqB ?_ ?_|refine qqC ?_ ?_|refine qqD ?_ ?_|refine qqE ?_ ?_|refine qqF ?_ ?_)<;>intro h<;>simp only[h,go_sem,reduceIte,yA,yB,yC,yD,yE,yH,reduceCtorEq,yF,yG,yI,h1,h3,h10,h11,h12,hm,hx,hlt,hi0,i64L,yJ,yK,decide_true,yM]
  ·rw[hbad (by simp only[digB, *,reduceIte,Bool.not_true,Bool.not_false,Bool.or_true,Bool.true_or,Bool.or_false,Bool.false_or,Bool.and_true,Bool.true_and,Bool.and_false,Bool.false_and,yH,beq_self_eq_true,bne])]
  ·exact⟨i+1,by omega,by omega,by omega,by refine hfin _ ?_ rfl;simp only[digB, *,reduceIte,Bool.not_true,Bool.not_false,Bool.or_true,Bool.true_or,Bool.or_false,Bool.false_or,Bool.and_true,Bool.true_and,Bool.and_false,Bool.false_and,yH,beq_self_eq_true,bne],by rw[wrap64 _ (by omega) (by omega)]⟩
  ·rw[hbad (by simp only[digB, *,reduceIte,Bool.not_true,Bool.not_false,Bool.or_true,Bool.true_or,Bool.or_false,Bool.false_or,Bool.and_true,Bool.true_and,Bool.and_false,Bool.false_and,yH,beq_self_eq_true,bne])]
 ·have he:l.drop i.toNat=[]:=List.drop_eq_nil_of_le (by omega)
  rw[he] at hf
  have hall:l.all digB=true:=by rw[hf];rfl
  rcases List.eq_nil_or_concat l with rfl | ⟨r,x,rfl⟩
  ·have hge0:¬ i<(0:Int):=by simpa using hge
   simp only[go_sem,reduceIte,yA,yB,yC,yD,yE,yH,reduceCtorEq,yF,yG,yI,h1,h3,h10,h11,h12,hm,hge0,decide_false,List.length_nil,Int.natCast_zero,Int.cast_ofNat_Int,beq_self_eq_true]
   repeat' (first|refine qqA ?_ ?_|refine qqB ?_ ?_|refine qqC ?_ ?_|refine qqD ?_ ?_|refine qqE ?_ ?_|refine qqF ?_ ?_)<;>intro h<;>simp only[h,go_sem,reduceIte,yA,yB,yC,yD,yE,yH,reduceCtorEq,yF,yG,yI,h1,h3,h10,h11,h12,hm,hge0,decide_false,List.length_nil,Int.natCast_zero,Int.cast_ofNat_Int,beq_self_eq_true]
   simp [rightR]
  ·rw[List.concat_eq_append] at *
   have hne:(((r++[x]).length:Int)==0)=false:=by simp;omega
   have hw:IntKind.i64.wrap (((r++[x]).length:Int)-1)=(r.length:Int):=by
    have hl2:(r++[x]).length=r.length+1:=by simp
    rw[wrap64 _ (by omega) (by omega)];omega
   have hg:((r++[x]).map i64L)[r.length]?=some [.int .i64 x]:=by simp [i64L]
   have hr:rightR (s,r++[x])=((s==1||s == -1)&&decide (((r++[x]).length:Int)≤60)&&(x != 0)):=by
    unfold rightR
    rw[hall]
    simp only[List.getLast?_append,List.getLast?_singleton]
    simp
    have e1:decide (r.length≤59)=decide ((r.length:Int)+1≤60):=decide_eq_decide.2 (by omega)
    have e2:(some x != some (0:Int))=(x != 0):=by simp [bne]
    rw[e1,e2]
   rw[hr]
   simp only[go_sem,reduceIte,yA,yB,yC,yD,yE,yH,reduceCtorEq,yF,yG,yI,h1,h3,h10,h11,h12,hm,hge,hne,hw,hg,decide_false,yJ]
   repeat' (first|refine qqA ?_ ?_|refine qqB ?_ ?_|refine qqC ?_ ?_|refine qqD ?_ ?_|refine qqE ?_ ?_|refine qqF ?_ ?_)<;>intro h<;>simp only[h,go_sem,reduceIte,yA,yB,yC,yD,yE,yH,reduceCtorEq,yF,yG,yI,h1,h3,h10,h11,h12,hm,hge,hne,hw,hg,decide_false,yJ]
   all_goals simp only[*,reduceIte,Bool.not_true,Bool.not_false,Bool.or_true,Bool.true_or,Bool.or_false,Bool.false_or,Bool.and_true,Bool.true_and,Bool.and_false,Bool.false_and,yH,beq_self_eq_true,bne]
/-- A sign and digits, of which zeros at the end are cut. -/
def signR (s:Int) (l:List Int):Raw:=if (((trimL l).length:Int)==0)=true then (0,[]) else (s,trimL l)
noncomputable def F_signed:List Data→Option PRes:=FF (α:=Int × (List Int)) (fun (s,l)=>([.int .i64 s,.sl (l.map i64L)]:List Data)) (fun (s,l)=>onlyIf (l.length≤1000000) (.same (.agg (bigL (signR s l)))))
theorem F_signed_inj:∀ a b:Int × (List Int),(fun (s,l)=>([.int .i64 s,.sl (l.map i64L)]:List Data)) a=(fun (s,l)=>([.int .i64 s,.sl (l.map i64L)]:List Data)) b→a=b:=by
  rintro⟨s1,l1⟩ ⟨s2,l2⟩ h
  simp only[yM,Data.int.injEq,Data.sl.injEq] at h;exact Prod.ext h.1.2 (map_inj i64L_inj _ _ h.2.1)
@[go_sem] theorem F_signed_eq (s:Int) (l:List Int) (hc:l.length≤1000000):F_signed [.int .i64 s,.sl (l.map i64L)]=some (.same (.agg (bigL (signR s l)))):=(FF_eq F_signed_inj (s,l)).trans (onlyIf_pos hc _)
theorem w_signed (T:Tab) (h_trim:T id_big_trim=mkFG F_trim G_trim) (s:Int) (l:List Int) (hc:l.length≤1000000) :
  wp T mf_big_signed.body (endS mf_big_signed.res (.same (.agg (bigL (signR s l))))) ⟨initTm [.dat (.int .i64 s),.dat (.sl (l.map i64L))],emp⟩:=by
 refine wp_start ?_
 simp only[mf_big_signed]
 simp only[go_sem,reduceIte,yA,yB,yC,yD,yE,yH,reduceCtorEq,yF,yG,yI,h_trim,hc,yJ]
 repeat' (first|refine qqA ?_ ?_|refine qqB ?_ ?_|refine qqC ?_ ?_|refine qqD ?_ ?_|refine qqE ?_ ?_|refine qqF ?_ ?_)<;>intro h<;>simp only[h,go_sem,reduceIte,yA,yB,yC,yD,yE,yH,reduceCtorEq,yF,yG,yI,h_trim,hc,yJ]
 all_goals simp only[signR,bigL,List.map_nil, *,reduceIte,Bool.not_true,Bool.not_false,Bool.or_true,Bool.true_or,Bool.or_false,Bool.false_or,Bool.and_true,Bool.true_and,Bool.and_false,Bool.false_and,yH,beq_self_eq_true,bne]
end Go.Mini
