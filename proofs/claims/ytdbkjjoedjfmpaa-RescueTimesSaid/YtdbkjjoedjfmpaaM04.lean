/- A part of the proof. -/
import Derived.Test.YtdbkjjoedjfmpaaM03
set_option linter.unusedSimpArgs false
set_option linter.unusedVariables false
open Option renaming map_eq_some_iff → Vw
open List renaming append_nil → Vx, cons_append → VB, length_cons → VC, eq_nil_or_concat → VG, concat_eq_append → VH, length_take → VJ, take_add_one → VK, getElem?_eq_getElem → VL, length_map → VN, map_nil → VT, getElem?_map → VU, length → VW, length_nil → VX, take → V1, drop → V3, drop_eq_nil_of_le → Wh, take_of_length_le → Wi, all_cons → Wk, replicate → Wm, replicate_succ → Wn, drop_length → Wo, drop_eq_getElem_cons → Wp, getElem_set_self → Wq
open Classical renaming choose_spec → Vy
open Nat renaming strongRecOn → Vz, eq_zero_or_pos → VA, mod_eq_of_lt → VI, le_refl → VO, zero_le → VS, zero_mul → VY, add_mul → VZ, mul_one → V0, add_zero → V4, min_eq_left → Wl
open Int renaming pow_succ → VD, mul_add → VE, mul_assoc → VF, natCast_zero → VP, cast_ofNat_Int → VQ, toNat_natCast → VV
open Bool renaming false_eq_true → VM, not_true → V6, not_false → V7, or_true → V8, true_or → V9, or_false → Wa, false_or → Wb, and_true → Wc, true_and → Wd, and_false → We, false_and → Wf
open Prod renaming ext_iff → V5, ext → Wj
open Decidable renaming em → Wg
namespace Go.Mini
open Go Go.ChangeShapes Go.WideShapes Go.RowKit
def QI:Sch→Data→Prop
 | .st l,d=>∃ cs,d = .agg cs∧Fits l cs
 | s,d=>Fit s [d]
def Ej:List Sch→List Data→Prop
 | [],ds=>ds=[]
 | s::r,ds=>∃ d t,ds=d::t∧QI s d∧Ej r t
section
variable {H:Type} {enc:TypeId × Value→H} {P:Program} {w:World}
theorem Fa {O:Nat→Prop} {d:Data} {v:Value} {ds:List Data} {vs:List Value} (h:Den w O d v) (hs:xP w O ds vs):xP w O (d::ds) (v::vs):=by
 refine⟨by simp [hs.1],fun i d' v' h1 h2=>?_⟩
 cases i with
 | zero=>cases h1;cases h2;exact h
 | succ i=>exact hs.2 i d' v' (by simpa using h1) (by simpa using h2)
theorem Mj {n:Nat} {t:TypeId} {S:Sch} {v:Value} {d:DataW H} {ps:List MemPlace} {b0:Nat} (hS:ln P n t=some S) (hval:Value.okWide P w .any b0 t v) (h:DataW.Trod enc P w 0 (fun _=>true) true t v d ps) :
  (∃ D,QI S D∧Den w (fun _=>False) D v)∧(∀ p∈ps,p.block<w.heap.size) ∧
  ∀ (w':World) (sp:Nat→Bool),(∀ p∈ps,sp p.block=true)→(∀ b,b<w.heap.size→w'.heap[b]?=w.heap[b]?)→DataW.Trod enc P w' 0 sp true t v d ps:=by
 obtain⟨fuel,hx⟩:=h;obtain⟨⟨ds,hf,hd⟩,h2,h3⟩:=I6 n t S hS fuel _ _ hx;refine⟨?_,h2,fun w' sp hsp hk=>⟨fuel,h3 w' sp hsp hk⟩⟩
 have one:(∀ cs,v ≠ .agg cs)→∀ d,ds=[d]→Den w (fun _=>False) d v:=by
  intro hv d e;subst e;have:v.cells=#[v]:=by unfold Value.cells;split<;>simp_all
  rw[this] at hd;exact hd.2 0 d v rfl rfl
 cases n with
 | zero=>simp [ln] at hS
 | succ n =>
  unfold ln at hS;unfold Value.okWide at hval
  split at hS
  ·rename_i hu
   cases hS;rw[hu] at hval;obtain⟨b,rfl⟩:=hf;refine⟨_,⟨b,rfl⟩,one ?_ _ rfl⟩;rintro cs rfl;simp [Cell.okWide,Cell.ok,hu] at hval
  ·rename_i k hu
   cases hS;rw[hu] at hval;obtain⟨b,rfl,hb⟩:=hf;refine⟨_,⟨b,rfl,hb⟩,one ?_ _ rfl⟩;rintro cs rfl;simp [Cell.okWide,Cell.ok,hu] at hval
  ·rename_i hu
   cases hS;rw[hu] at hval;obtain⟨b,rfl,hb⟩:=hf;refine⟨_,⟨b,rfl,hb⟩,one ?_ _ rfl⟩;rintro cs rfl;simp [Cell.okWide,Cell.ok,hu] at hval
  ·rename_i e hu
   split at hS
   ·rw[Vw] at hS
    obtain⟨S,hS,rfl⟩:=hS;rw[hu] at hval;obtain⟨b,rfl,hb⟩:=hf;refine⟨_,⟨b,rfl,hb⟩,one ?_ _ rfl⟩;rintro cs rfl;simp [Cell.okWide,Cell.ok,hu] at hval
   ·cases hS
  ·rename_i fs hu
   split at hS
   ·rw[Vw] at hS
    obtain⟨l,hl,rfl⟩:=hS;rw[hu] at hval;obtain⟨cs,rfl,-,-⟩:=hval;refine⟨.agg ds,⟨ds,rfl,hf⟩,?_⟩;have:Den w (fun _=>False) (.agg ds) (.agg cs.toList.toArray):=.agg hd.1 hd.2
    simpa using this
   ·cases hS
  ·cases hS
theorem vg {n b0:Nat}:∀ {ts:List TypeId} {schs:List Sch} {vs:List Value} {ds:List (DataW H)} {ps:List MemPlace},ts.mapM (ln P n)=some schs→(∀ (j:Nat) t v,ts[j]?=some t→vs[j]?=some v→Value.okWide P w .any b0 t v) →
  DataW.TrodAll enc P w 0 (fun _=>true) true ts vs ds ps →
  (∃ Ds,Ej schs Ds∧xP w (fun _=>False) Ds vs)∧(∀ p∈ps,p.block<w.heap.size) ∧
  ∀ (w':World) (sp:Nat→Bool),(∀ p∈ps,sp p.block=true)→(∀ b,b<w.heap.size→w'.heap[b]?=w.heap[b]?)→DataW.TrodAll enc P w' 0 sp true ts vs ds ps
 | [],schs,vs,ds,ps,hS,hval,h=>by
  obtain⟨rfl,rfl,rfl⟩:=trodAll_nil h;simp at hS;subst hS;exact⟨⟨[],rfl,rfl,fun i d v h=>by simp at h⟩,by simp,fun _ _ _ _=>rfl⟩
 | t::ts,schs,vs,ds,ps,hS,hval,h=>by
  obtain⟨v,vs1,d,ds1,a,b,rfl,rfl,rfl,h1,h2⟩:=trodAll_cons h;rw[List.mapM_cons] at hS;simp only[Option.pure_def,Option.bind_eq_bind,Option.bind_eq_some_iff,Option.some.injEq] at hS;obtain⟨S,hS1,l,hl,rfl⟩:=hS;obtain⟨⟨D,hD,hD'⟩,p1,k1⟩:=Mj hS1 (hval 0 t v rfl rfl) h1;obtain⟨⟨Ds,hDs,hDs'⟩,p2,k2⟩:=vg hl (fun j t' v' ht hv=>hval (j+1) t' v' (by simpa using ht) (by simpa using hv)) h2;refine⟨⟨D::Ds,⟨D,Ds,rfl,hD,hDs⟩,Fa hD' hDs'⟩,fun p hp=>?_,fun w' sp hsp hk=>?_⟩
  ·rw[List.mem_append] at hp
   exact hp.elim (p1 p) (p2 p)
  ·exact trodAll_cons_mk (k1 w' sp (fun p hp=>hsp p (List.mem_append.2 (.inl hp))) hk) (k2 w' sp (fun p hp=>hsp p (List.mem_append.2 (.inr hp))) hk)
theorem Mp {W W':World} (h:Fr (fun _=>False) W W') (may:MemPlace→Prop):W.keptBut W' may:=by
 refine⟨h.os,h.output,fun i hi=>?_⟩
 rw[h.block i hi id]
 cases hb:W.heap[i]? with
 | none=>trivial
 | some o =>
  cases o with
  | cells c t fr=>exact⟨rfl,rfl,rfl,fun _ _=>rfl⟩
  | map es clock=>exact .inr ⟨rfl,rfl⟩
  | _=>rfl
theorem JI {f:Func} {s:ChangeSpec} {apart fresh handsOn again:Bool} {W W':World} {args:Array Value} {ds gs:List (DataW H)} {before:List MemPlace} {n b0:Nat} {schs:List Sch} {tb:TypeId}
  (hW:DataW.Whole enc P f.params.toList s.vars apart W args.toList ds gs before) (hv:s.vars=[]) (hS:f.params.toList.mapM (ln P n)=some schs)
  (hval:∀ (j:Nat) t v,f.params[j]?=some t→args[j]?=some v→Value.okWide P W .any b0 t v)
  (hr:f.resultTypes=#[tb]) (hb:P.underlying tb=some .bool) (hspec:s.fn H ds={ results:=[.lit (.bool true)],args:=ds }) (hf:Fr (fun _=>False) W W') :
  s.post enc P f apart fresh handsOn again W args (.bool true) W':=by
 have hW':=hW;obtain⟨p,q,hA,hV,rfl,hz,hn⟩:=hW;rw[hv] at hV;obtain⟨rfl,rfl⟩:=trodVars_none hV;obtain⟨-,hlt,hk⟩:=vg hS (fun j t v ht hv=>hval j t v (by simpa using ht) (by simpa using hv)) hA;have hkeep:∀ b,b<W.heap.size→W'.heap[b]?=W.heap[b]?:=fun b hb=>hf.block b hb id
 have hres:∀ (b:Nat) (sp:Nat→Bool) (hd:Bool),DataW.TrodAll enc P W' b sp hd f.resultTypes.toList ((Value.bool true).resultList f.resultTypes.size) (s.fn H (ds++[])).results []:=by
  intro b sp hd;rw[Vx,hspec,hr];exact trodAll_cons_mk (shut_bool hb true) trodAll_mk0
 have hargs:∀ sp:Nat→Bool,(∀ x∈p,sp x.block=true)→DataW.TrodAll enc P W' 0 sp true f.params.toList args.toList (s.fn H (ds++[])).args p:=by
  intro sp hsp;rw[Vx,hspec];exact hk W' sp hsp hkeep
 have hvars:∀ sp:Nat→Bool,DataW.TrodVars enc P W' sp s.vars (s.fn H (ds++[])).vars []:=by
  intro sp;rw[hv,Vx,hspec]
  rfl
 refine⟨ds,[],p++[],[],p,[],hW',hres _ _ _,hargs _ (fun x hx=>by simpa using hlt x hx),hvars _,Mp hf _,fun _=>⟨?_,_,_,([]++p)++[],⟨[]++p,[],trodAll_append (hargs _ (fun _ _=>rfl)) (hres _ _ _),hvars _,rfl,?_,?_⟩,?_⟩⟩
 ·intro j t r h1 h2
  rw[hr] at h1 h2
  cases j with
  | zero =>
   simp [Value.resultList] at h1 h2;subst h1 h2;exact okWide_bool_mk hb true
  | succ j=>simp at h1
 ·intro b off hp
  have hp':MemPlace.cell b off∈p:=by simpa using hp
  have hb:=hlt _ hp';have h0:=hz b off (by simpa using hp');unfold World.frozen? at h0 ⊢;rw[hkeep b hb];exact h0
 ·intro ha
  have:=hn ha
  simpa using this
 ·intro x hx _
  simpa using hx
theorem xl {f:FuncId} {fn:Func} {s:ChangeSpec} {apart fresh handsOn again:Bool} {F:List Data→Option PRes} {n:Nat} {schs:List Sch} {tb:TypeId} (hp:aO P f F) (hv:s.vars=[]) (hS:fn.params.toList.mapM (ln P n)=some schs)
  (hr:fn.resultTypes=#[tb]) (hb:P.underlying tb=some .bool) (hspec:∀ ds:List (DataW H),ds.length=fn.params.toList.length→s.fn H ds={ results:=[.lit (.bool true)],args:=ds })
  {W:World} {base:Nat} {args:Array Value} {ds gs:List (DataW H)} {before:List MemPlace}
  (hF:∀ Ds,Ej schs Ds→F Ds=some (.same (.bool true)))
  (hval:∀ (j:Nat) t v,fn.params[j]?=some t→args[j]?=some v→Value.okWide P W .any base t v)
  (hW:DataW.Whole enc P fn.params.toList s.vars apart W args.toList ds gs before) :
  Calls P f args W fun e W'=>∃ v,e = .returned v∧s.post enc P fn apart fresh handsOn again W args v W':=by
 have hW':=hW;obtain⟨p,q,hA,hV,rfl,hz,hn⟩:=hW;obtain⟨⟨Ds,h1,h2⟩,-,-⟩:=vg hS (fun j t v ht hv=>hval j t v (by simpa using ht) (by simpa using hv)) hA
 have hlen:ds.length=fn.params.toList.length:=by
  have:∀ (ts:List TypeId) (vs:List Value) (ds:List (DataW H)) (ps:List MemPlace),DataW.TrodAll enc P W 0 (fun _=>true) true ts vs ds ps→ds.length=ts.length:=by
   intro ts
   induction ts with
   | nil=>intro vs ds ps h;obtain⟨rfl,rfl,rfl⟩:=trodAll_nil h;rfl
   | cons t r ih=>intro vs ds ps h;obtain⟨v,vs1,d,ds1,a,b,rfl,rfl,rfl,-,h2⟩:=trodAll_cons h;simp [ih _ _ _ h2]
  exact this _ _ _ _ hA
 have hc:=hp.run Ds _ (hF Ds h1) (fun _=>False) W args.toList (fun b hb=>hb.elim) h2;have ha:args.toList.toArray=args:=by simp
 rw[ha] at hc;refine hc.mono fun e W' ⟨v,he,hfr,hd⟩=>⟨v,he,?_⟩
 have:v = .bool true:=by
  have hd':Den W' (fun _=>False) (.bool true) v:=hd
  cases hd'
  rfl
 subst this;exact JI hW' hv hS hval hr hb (hspec ds hlen) hfr
theorem l8 {α:Type} {l:List α} {n:Nat} (h:l.length=n+1):∃ d t,l=d::t∧t.length=n:=by
 cases l with
 | nil=>simp at h
 | cons d t=>exact⟨d,t,rfl,by simpa using h⟩
theorem tN {α:Type} {e:α→List Data} {good:α→Prop}:∀ {es:List (List Data)},(∀ x∈es,∃ a,x=e a∧good a)→∃ l:List α,es=l.map e∧∀ a∈l,good a
 | [],_=>⟨[],rfl,by simp⟩
 | x::r,h=>by
  obtain⟨a,rfl,ha⟩:=h x (by simp);obtain⟨l,rfl,hl⟩:=tN (es:=r) fun y hy=>h y (by simp [hy])
  exact⟨a::l,rfl,fun b hb=>(List.mem_cons.1 hb).elim (fun e=>e ▸ ha) (hl b)⟩
end
end Go.Mini
namespace Go.Mini
open Go
def isR (x:MV) (m:Mem):MV→Mem→Prop:=fun r mem'=>r=x∧mem'=m
@[go_sem high] theorem So {K:St→Prop} (x:MV) (m:Mem) (d:Option Nat) (st:St):wpE K (some (.rel (isR x m))) d st=K ⟨put st.tm d x,m⟩:=by
 rw[L9];apply propext;exact⟨fun h=>h x m ⟨rfl,rfl⟩,fun h r mem' ⟨e1,e2⟩=>by rw[e1,e2];exact h⟩
def mkG (G:List MV→Mem→Option (MV × Mem)) (args:List MV) (mem:Mem):Option Eff:=(G args mem).map fun x => .rel (isR x.1 x.2)
@[go_sem] theorem SQ (G:List MV→Mem→Option (MV × Mem)) (args:List MV) (mem:Mem):mkG G args mem=(G args mem).map fun x => .rel (isR x.1 x.2):=_root_.id rfl
structure RSpec (P:Program) (f:FuncId) (G:List MV→Mem→Option (MV × Mem)):Prop where
 real:Real P f
 run:∀ args mem x,G args mem=some x→∀ A w B vs,MemRel A w B mem→RL w (OA A B) B args vs→Jl P f vs A w B mem (.rel (isR x.1 x.2))
def Gn (res:List nw) (x:MV) (m:Mem):bH→St→Prop
 | .exit _,_=>False
 | .normal,st=>gy st res=some x∧st.mem=m
 | .ret,st=>gy st res=some x∧st.mem=m
@[go_sem] theorem Qg {res:List nw} {st:St} (x:MV) (m:Mem) (id:Nat):Gn res x m (.exit id) st=False:=_root_.id rfl
@[go_sem] theorem Nh {res:List nw} {st:St} (x:MV) (m:Mem):Gn res x m .normal st=(gy st res=some x∧st.mem=m):=_root_.id rfl
@[go_sem] theorem Qp {res:List nw} {st:St} (x:MV) (m:Mem):Gn res x m .ret st=(gy st res=some x∧st.mem=m):=_root_.id rfl
theorem ze {P : Program} {T : Tab} {kb : Nat} {own : List Nat} (hT : ke P T) (hm : P.follows .mixedOrders = true) {f : FuncId} {fn : Func} {mf : MFunc} (hf : P.funcs[f]? = some fn) (hname : (fn.name == "runtime.NumGoroutine") = false) (htr : jW P kb own fn = some { mf with body := erase mf.body })
  {G:List MV→Mem→Option (MV × Mem)} (h:∀ args mem x,G args mem=some x→args.length≤mf.n∧wp T mf.body (Gn mf.res x.1 x.2) ⟨ax args,mem⟩):RSpec P f G:=by
 refine⟨?_,fun args mem x hG A w B vs hmr hv=>?_⟩
 ·cases hb:fn.body with
  | none=>simp [jW,hb] at htr
  | some c=>exact⟨fn,c,hf,hb,hname⟩
 ·obtain⟨hlen,hwp⟩:=h args mem x hG
  refine Calls.mono (la (Post:=isR x.1 x.2) hT hm hf htr hlen (fun e st hk=>?_) hwp hmr hv) fun e w' he=>?_
  ·cases e with
   | exit id=>exact hk
   | normal=>exact⟨_,hk.1,rfl,hk.2⟩
   | ret=>exact⟨_,hk.1,rfl,hk.2⟩
  ·obtain⟨v,m,mem',B',rfl,hs,hv',hp⟩:=he
   exact⟨v,m,mem',B',rfl,hs,hv',hp⟩
def orG:Option (MV × Mem)→Option Eff→Option Eff
 | some x,_=>some (.rel (isR x.1 x.2))
 | none,e=>e
@[go_sem] theorem RS (x:MV × Mem) (e:Option Eff):orG (some x) e=some (.rel (isR x.1 x.2)):=_root_.id rfl
@[go_sem] theorem RM (e:Option Eff):orG none e=e:=_root_.id rfl
def yA (F:List Data→Option PRes) (G:List MV→Mem→Option (MV × Mem)) (args:List MV) (mem:Mem):Option Eff:=orG (G args mem) (mkE F args mem)
@[go_sem] theorem SJ (F:List Data→Option PRes) (G:List MV→Mem→Option (MV × Mem)) (args:List MV) (mem:Mem):yA F G args mem=orG (G args mem) (mkE F args mem):=_root_.id rfl
open Classical in
noncomputable def GG {α:Type} (M:α→List MV→Mem→Prop) (res:α→Mem→MV × Mem):List MV→Mem→Option (MV × Mem):=fun args mem=>if h:∃ a,M a args mem then some (res (Classical.choose h) mem) else none
theorem M9 {α:Type} {M:α→List MV→Mem→Prop} {res:α→Mem→MV × Mem} (uniq:∀ a b args mem,M a args mem→M b args mem→res a mem=res b mem) {a:α} {args:List MV} {mem:Mem} (h:M a args mem):GG M res args mem=some (res a mem):=by
 have hx:∃ b,M b args mem:=⟨a,h⟩;unfold GG;rw[dif_pos hx,uniq _ _ _ _ (Vy hx) h]
theorem Cn {α:Type} {M:α→List MV→Mem→Prop} {res:α→Mem→MV × Mem} {args:List MV} {mem:Mem} {x:MV × Mem} (h:GG M res args mem=some x):∃ a,M a args mem∧x=res a mem:=by
 unfold GG at h
 split at h
 ·rename_i hx
  exact⟨_,Vy hx,(Option.some.inj h).symm⟩
 ·cases h
def dgF:Nat→Nat→List Int
 | 0,_=>[]
 | f+1,n=>if n=0 then [] else ((n % 1048576:Nat):Int)::dgF f (n / 1048576)
def dg (n:Nat):List Int:=dgF n n
def vl:List Int→Int
 | []=>0
 | d::r=>d+1048576*vl r
theorem gN (d:Int) (r:List Int):vl (d::r)=d+1048576*vl r:=rfl
def isD (l:List Int):Prop:=∀ d∈l,0≤d∧d<1048576
def cm:List Int→List Int
 | []=>[]
 | d::r=>if cm r=[] then (if d=0 then [] else [d]) else d::cm r
def aa (n:Int):List Data:=[.int .i64 n]
theorem bc (b:Int):(aa b).length=1:=rfl
theorem fO (b:Int):((aa b).map MV.dat).all MV.one=true:=rfl
theorem ai:∀ a b:Int,aa a=aa b→a=b:=by intro a b h;simpa [aa] using h
theorem Jx:∀ (f g n:Nat),n≤f→n≤g→dgF f n=dgF g n:=by
 intro f
 induction f with
 | zero =>
      intro g n h _;obtain rfl:n=0:=by omega
      cases g<;>simp [dgF]
 | succ f ih =>
  intro g n h1 h2
  cases g with
  | zero =>
       obtain rfl:n=0:=by omega
       simp [dgF]
  | succ g =>
   unfold dgF
   by_cases hn:n=0
   ·rw[if_pos hn,if_pos hn]
   ·rw[if_neg hn,if_neg hn,ih g (n / 1048576) (by omega) (by omega)]
theorem f8:dg 0=[]:=rfl
theorem jV {n:Nat} (h:0<n):dg n=((n % 1048576:Nat):Int)::dg (n / 1048576):=by
 unfold dg;obtain⟨k,rfl⟩:∃ k,n=k+1:=⟨n-1,by omega⟩
 conv=>lhs;unfold dgF
 rw[if_neg (by omega),Jx k ((k+1) / 1048576) _ (by omega) (by omega)]
theorem f7 (n:Nat):vl (dg n)=n:=by
 induction n using Vz with
 | _ n ih =>
  rcases VA n with rfl | h
  ·rfl
  ·rw[jV h]
   unfold vl;rw[ih _ (by omega)];omega
theorem eR {a b:Nat} (h:dg a=dg b):a=b:=by
 have:=congrArg vl h;rw[f7,f7] at this;omega
theorem eB (n:Nat):isD (dg n):=by
 induction n using Vz with
 | _ n ih =>
  rcases VA n with rfl | h
  ·intro d hd;cases hd
  ·rw[jV h]
   intro d hd;rcases List.mem_cons.1 hd with rfl | hd
   ·omega
   ·exact ih _ (by omega) d hd
theorem ni {n:Nat}:dg n=[]↔n=0:=by
 constructor
 ·intro h;exact eR (b:=0) h
 ·rintro rfl;rfl
theorem cP {l:List Int} (h:isD l):0≤vl l:=by
 induction l with
 | nil=>exact Int.le_refl _
 | cons d r ih =>
  have h1:=h d (by simp);have h2:=ih fun x hx=>h x (by simp [hx])
  unfold vl;omega
theorem isD_cons {d:Int} {r:List Int}:isD (d::r)↔(0≤d∧d<1048576)∧isD r :=
 ⟨fun h=>⟨h d (by simp),fun x hx=>h x (by simp [hx])⟩,fun h x hx=>(List.mem_cons.1 hx).elim (fun e=>e ▸ h.1) (h.2 x)⟩
theorem isD_append {a b:List Int}:isD (a++b)↔isD a∧isD b :=
 ⟨fun h=>⟨fun x hx=>h x (by simp [hx]),fun x hx=>h x (by simp [hx])⟩,fun h x hx=>(List.mem_append.1 hx).elim (h.1 x) (h.2 x)⟩
theorem jn (a b:List Int):vl (a++b)=vl a+1048576^a.length*vl b:=by
 induction a with
 | nil=>simp [vl]
 | cons d r ih =>
  simp only[VB,vl,ih,VC,VD];rw[VE]
  have:(1048576:Int)*(1048576^r.length*vl b)=1048576^r.length*1048576*vl b:=by
   rw[Int.mul_comm (1048576^r.length) 1048576,VF]
  omega
theorem qn {l:List Int} (h:isD l):vl l<1048576^l.length:=by
 induction l with
 | nil=>simp [vl]
 | cons d r ih =>
  rw[isD_cons] at h;have h2:=ih h.2;simp only[vl,VC,VD];omega
theorem r5 (l:List Int):cm (l++[0])=cm l:=by
 induction l with
 | nil=>simp [cm]
 | cons d r ih=>simp only[VB,cm,ih]
theorem uD (l:List Int) {d:Int} (h:d≠0):cm (l++[d])=l++[d]:=by
 induction l with
 | nil=>simp [cm,h]
 | cons x r ih=>simp only[VB,cm,ih];simp
theorem iP {l:List Int} (h:isD l):cm l=dg (vl l).toNat:=by
 induction l with
 | nil=>rfl
 | cons d r ih =>
  rw[isD_cons] at h;have hr:=ih h.2;have hv:=cP h.2;unfold cm;rw[hr,gN]
  by_cases hz:vl r=0
  ·rw[hz]
   by_cases hd:d=0
   ·simp [hd,f8]
   ·rw[if_pos (by rfl),if_neg hd]
    rw[jV (by omega)];rw[show (d+1048576*0).toNat / 1048576=0 by omega,f8]
    congr 1
    omega
  ·rw[if_neg (by rw[ni];omega)]
   rw[jV (n:=(d+1048576*vl r).toNat) (by omega)]
   congr 1
   ·omega
   ·congr 1;omega
theorem r0 (n:Nat):cm (dg n)=dg n:=by
 rw[iP (eB n),f7];simp
theorem canon {l:List Int} (h:isD l) (hl:l.getLast?≠some 0):l=dg (vl l).toNat:=by
 rw[←iP h];rcases VG l with rfl | ⟨r,d,rfl⟩
 ·rfl
 ·rw[VH] at hl ⊢
  rw[uD];rintro rfl;simp at hl
theorem D3 (n:Nat):(dg n).getLast?≠some 0:=by
 intro h
 obtain⟨r,hr⟩:∃ r,dg n=r++[0]:=by
  rcases VG (dg n) with e | ⟨r,d,e⟩
  ·rw[e] at h;cases h
  ·rw[VH] at e;rw[e] at h;simp at h;subst h;exact⟨r,e⟩
 have h1:=r0 n;rw[hr,r5] at h1
 have h2:(cm r).length≤r.length:=by
  clear h1 hr h
  induction r with
  | nil=>simp [cm]
  | cons d r ih=>unfold cm;split<;>(try split)<;>simp<;>omega
 rw[h1] at h2;simp at h2;omega
theorem dg_len {n k:Nat}:(dg n).length≤k↔n<1048576^k:=by
 induction k generalizing n with
 | zero =>
      rw[Nat.pow_zero];constructor
      ·intro h;have:=List.eq_nil_of_length_eq_zero (Nat.le_zero.1 h);rw[ni] at this;omega
      ·intro h;obtain rfl:n=0:=by omega
       simp [f8]
 | succ k ih =>
  rcases VA n with rfl | h
  ·simp [f8];exact Nat.pos_of_ne_zero (by simp)
  ·rw[jV h,VC,Nat.pow_succ]
   have:=ih (n:=n / 1048576);rw[Nat.add_le_add_iff_right,this];rw[Nat.div_lt_iff_lt_mul (by omega)]
theorem pA {n:Nat} (h:0<n) (h1:n<1048576):dg n=[(n:Int)]:=by
 rw[jV h,Nat.div_eq_of_lt h1,VI h1];rfl
theorem i6 (l:List Int) (i:Nat):vl l=vl (l.take i)+1048576^(min i l.length)*vl (l.drop i):=by
 conv=>lhs;rw[←List.take_append_drop i l]
 rw[jn,VJ]
theorem kt (n:Int) (h:0≤n∧n<18446744073709551616):IntKind.u64.wrap n=n:=by
 simp [IntKind.wrap,IntKind.bits,IntKind.signed];omega
theorem dX (n:Int):bits .and .i64 n 1048575=n % 1048576:=by
 have h2:(1048575:Int)=((2^20-1:Nat):Int):=by decide
 have h1:n % 18446744073709551616 % 1048576=n % 1048576:=by omega
 obtain⟨a,ha⟩:∃ a:Nat,(a:Int)=n % 18446744073709551616:=⟨(n % 18446744073709551616).toNat,by omega⟩
 have e:BitVec.ofInt 64 n=BitVec.ofNat 64 a:=by
  apply BitVec.eq_of_toInt_eq;rw[BitVec.toInt_ofInt,BitVec.toInt_ofNat',ha];simp [Int.bmod_def,Int.emod_emod_of_dvd]
 have e2:bits .and .i64 n 1048575=bits .and .i64 (a:Int) 1048575:=by
  simp only[bits];rw[show IntKind.i64.bits=64 from rfl,e,BitVec.ofInt_natCast]
 rw[e2,←h1,←ha,h2];have ha64:a<2^64:=by omega
 simp only[bits,BitVec.ofInt_natCast,BitVec.toNat_and,BitVec.toNat_ofNat,show IntKind.i64.bits=64 from rfl,VI ha64];rw[show (2^20-1:Nat) % 2^64=2^20-1 by decide,Nat.and_two_pow_sub_one_eq_mod,aj _ (by omega) (by omega)]
 omega
theorem w7 (n:Int) (h:0≤n∧n<18446744073709551616):bits .and .u64 n 1048575=n % 1048576:=by
 have:=bits_mask .u64 64 (by decide) (fun n h1 h2=>kt n ⟨h1,by omega⟩) 20 (by decide) n h.1 (by omega)
 simpa using this
theorem xS (x y:Int) (hx:0≤x) (hx1:x<8796093022208) (hy:0≤y∧y<1048576):bits .or .i64 (x*1048576) y=x*1048576+y:=by
 refine bits_join .i64 63 (by decide) (fun n h1 h2=>aj n (by omega) (by omega)) 20 _ _ (by omega) (by omega) (by omega) hy.1 (by omega) (by omega)
theorem Oh (n:Int):n.fdiv (2^20)=n / 1048576:=by
 rw[Int.fdiv_eq_ediv_of_nonneg _ (by decide)];rfl
theorem fdivm (n:Int):n.fdiv (2^min (Int.toNat 20) 64)=n / 1048576:=Oh n
def jY:FuncId:=104
def j0:FuncId:=98
def bb:FuncId:=33
def fy:FuncId:=13
def eM:FuncId:=20
def nS:FuncId:=42
def az:FuncId:=111
def ej:FuncId:=112
def bA:FuncId:=113
def dT:FuncId:=34
def gh:FuncId:=105
def eQ:FuncId:=47
def fU:FuncId:=97
def dm:FuncId:=48
def cY:FuncId:=18
def bD:FuncId:=12
def aY:FuncId:=60
def kE:FuncId:=61
def nB:FuncId:=62
def nD:FuncId:=39
def dN:FuncId:=40
def dB:FuncId:=41
def gR:FuncId:=49
def mW:FuncId:=74
def lA:FuncId:=75
def fp:FuncId:=116
def eS:FuncId:=63
def eK:FuncId:=114
def fC:FuncId:=115
def jU:FuncId:=73
def oD:FuncId:=79
def ju:FuncId:=103
def jr:FuncId:=80
def io:FuncId:=37
def lc:FuncId:=38
def co:FuncId:=71
def bt:FuncId:=45
def kK:FuncId:=64
def bB:FuncId:=65
def pj:FuncId:=86
def px:FuncId:=70
def jt:FuncId:=72
def cn:FuncId:=92
def kv:FuncId:=93
def mJ:FuncId:=94
def ki:FuncId:=95
def cC:FuncId:=96
def gf:FuncId:=117
def bW:FuncId:=118
def gB:FuncId:=85
def pf:FuncId:=109
def iu:FuncId:=110
def kS:FuncId:=66
def jw:FuncId:=67
def dz:FuncId:=68
def dZ:FuncId:=69
def kl:FuncId:=87
def cr:FuncId:=88
def lE:FuncId:=89
def lC:FuncId:=91
def ic:FuncId:=99
def lF:FuncId:=100
def gk:FuncId:=101
def cq:FuncId:=102
def gO:FuncId:=90
def jA:FuncId:=106
def gj:FuncId:=107
def bZ:FuncId:=108
def nT:FuncId:=5
def nq:FuncId:=8
def kX:FuncId:=10
def kT:FuncId:=15
def cB:FuncId:=16
def kJ:FuncId:=17
def dM:FuncId:=19
def kZ:FuncId:=25
def lO:FuncId:=26
def iT:FuncId:=27
def bp:FuncId:=28
def bX:FuncId:=29
def fb:FuncId:=30
def iX:FuncId:=31
def bP:FuncId:=32
def gJ:FuncId:=43
def lS:FuncId:=44
def iR:FuncId:=46
def lU:FuncId:=50
def de:FuncId:=51
def bn:FuncId:=53
def fa:FuncId:=54
def fe:FuncId:=55
def cA:FuncId:=56
def cp:FuncId:=57
def lD:FuncId:=58
def lM:FuncId:=59
def fM:FuncId:=76
def fo:FuncId:=77
def fN:FuncId:=78
def fj:FuncId:=81
def eD:FuncId:=82
def dV:FuncId:=83
def kC:FuncId:=84
abbrev Zv (a b:Nat):MI:=⟨some a,none,.mv (.t b)⟩
abbrev Zl (a n b:Nat):MI:=⟨some a,none,.load n false (.t b)⟩
abbrev Zu (a n b:Nat):MI:=⟨some a,none,.load n true (.t b)⟩
abbrev Zf (a n b:Nat):MI:=⟨some a,none,.fad n (.t b)⟩
abbrev Zs (n a b:Nat):MI:=⟨none,none,.store n (.t a) (.t b)⟩
abbrev Zi (a:Nat) (n:Int):MI:=⟨some a,none,.mv (.c (.dat (.int .i64 n)))⟩
abbrev Zx (a n b:Nat):MI:=⟨some a,none,.ext n (.t b)⟩
abbrev Za (a n b c:Nat):MI:=⟨some a,none,.iad n (.t b) (.t c)⟩
abbrev Zn (a b:Nat):MI:=⟨some a,none,.len (.t b)⟩
abbrev Zb (a:Nat) (b:Bool):MI:=⟨some a,none,.mv (.c (.dat (.bool b)))⟩
abbrev Ze (a:Nat):MI:=⟨some a,none,.mv (.c .nil)⟩
abbrev Zo (a:Nat) (o:BinOp) (b c:Nat):MI:=⟨some a,none,.bin o (.t b) (.t c)⟩
abbrev Zc (a:Nat) (o:BinOp) (b:Nat) (n:Int):MI:=⟨some a,none,.bin o (.t b) (.c (.dat (.int .i64 n)))⟩
abbrev Zp (a b c:Nat):MI:=⟨some a,none,.pick (.t b) (.c (.dat (.bool true))) (.t c)⟩
abbrev Zq (a b c:Nat):MI:=⟨some a,none,.pick (.t b) (.t c) (.c (.dat (.bool false)))⟩
abbrev Zk (a k b:Nat):MI:=⟨some a,none,.box k (.t b)⟩
abbrev Zh (a b:Nat):MI:=⟨some a,none,.nchk (.t b)⟩
abbrev Zt (a b:Nat):MI:=⟨some a,none,.un .not (.t b)⟩
abbrev ZI (n:Int):MV:=.dat (.int .i64 n)
def mf_big_Right:MFunc :=
 { n:=49,np:=1,res:=[.t 2],body :=
 (.seq (.ops [
 Zk 1 136001 0,Zb 2 false])
 (.seq (.ops [
 Zf 6 1 1,Zl 7 1 6,Zn 8 7,Zv 3 8])
 (.seq (.seq (.ops [
 Zf 9 1 1,Zl 10 1 9,Zn 11 10,Zi 12 0])
 (.block 0
 (.loop
 (.seq (.ops [
 Zo 13 .lss 12 11])
 (.seq (.cond (.t 13)
 .skip
 (.exit 0))
 (.seq (.block 1
 (.seq (.ops [
 Za 14 1 10 12,Zl 15 1 14,Zv 5 15])
 (.seq (.ops [
 Zv 16 5,Zc 17 .lss 16 0,Zv 18 17,⟨some 19,some (18,false),.mv (.t 5)⟩,⟨some 20,some (18,false),.bin .gtr (.t 19) (.c (ZI 1048575))⟩,Zp 21 18 20])
 (.cond (.t 21)
 (.seq (.ops [
 Zb 2 false])
 .ret)
 .skip))))
 (.ops [
 Zc 22 .add 12 1,Zv 12 22])))))))
 (.seq (.seq (.ops [
 Zv 23 3,Zc 24 .eql 23 0])
 (.cond (.t 24)
 (.seq (.ops [
 Zf 25 0 1,Zl 26 1 25,Zc 27 .eql 26 0,Zv 2 27])
 .ret)
 .skip))
 (.seq (.ops [
 Zf 28 0 1,Zl 29 1 28,Zc 30 .eql 29 1,Zv 31 30,⟨some 32,some (31,false),.fad 0 (.t 1)⟩,⟨some 33,some (31,false),.load 1 false (.t 32)⟩,⟨some 34,some (31,false),.bin .eql (.t 33) (.c (.dat (.int .i64 (-1))))⟩,Zp 35 31 34,Zv 36 35,⟨some 37,some (36,true),.mv (.t 3)⟩,⟨some 38,some (36,true),.bin .leq (.t 37) (.c (ZI 60))⟩,Zq 39 36 38,Zv 40 39,⟨some 41,some (40,true),.fad 1 (.t 1)⟩,⟨some 42,some (40,true),.load 1 false (.t 41)⟩,⟨some 43,some (40,true),.mv (.t 3)⟩,⟨some 44,some (40,true),.bin .sub (.t 43) (.c (ZI 1))⟩,⟨some 45,some (40,true),.iad 1 (.t 42) (.t 44)⟩,⟨some 46,some (40,true),.load 1 false (.t 45)⟩,⟨some 47,some (40,true),.bin .neq (.t 46) (.c (ZI 0))⟩,Zq 48 40 47,Zv 2 48])
 .ret))))) }
def mf_big_Gcd:MFunc :=
 { n:=44,np:=2,res:=[.cell 4 2 true,.t 5],body :=
 (.seq (.ops [
 Zk 2 137002 0,Zk 3 137003 1,⟨some 4,none,.alloc 137004 [(ZI 0),.nil]⟩,Zi 5 0])
 (.seq (.seq (.ops [
 Zu 10 2 2,⟨some 11,none,.call aY [(.t 10)]⟩,Zt 12 11,Zv 13 12,⟨some 14,some (13,false),.load 2 true (.t 3)⟩,⟨some 15,some (13,false),.call aY [(.t 14)]⟩,⟨some 16,some (13,false),.un .not (.t 15)⟩,Zp 17 13 16])
 (.cond (.t 17)
 (.seq (.ops [
 ⟨some 18,none,.build [(ZI 0),.nil] []⟩,⟨some 19,none,.call co [(.c (.dat (.bool false))),(.t 18)]⟩,Zx 20 0 19,Zx 21 1 19,Zs 2 4 20,Zv 5 21])
 .ret)
 .skip))
 (.seq (.opsD [
 Zf 22 1 2,Zl 23 1 22,⟨some 24,none,.call bt [(.t 23)]⟩,Zf 25 1 3,Zl 26 1 25,Zv 6 24,Zv 7 26] [[],[],[],[],[],[],[]])
 (.seq (.block 0
 (.loop
 (.seq (.seq (.ops [
 Zv 27 7,Zn 28 27,Zc 29 .gtr 28 0])
 (.cond (.t 29)
 .skip
 (.exit 0)))
 (.block 1
 (.seq (.ops [
 Zv 31 6,Zv 32 7,⟨some 33,none,.call kK [(.t 31),(.t 32)]⟩,Zv 30 33,Zx 34 0 30,Zx 35 1 30,Zv 8 34,Zv 9 35])
 (.ops [
 Zv 36 7,Zv 37 9,Zv 6 36,Zv 7 37]))))))
 (.seq (.ops [
 Zv 38 6,⟨some 39,none,.call bt [(.t 38)]⟩,⟨some 40,none,.call bB [(.c (ZI 1)),(.t 39)]⟩,⟨some 41,none,.call co [(.c (.dat (.bool true))),(.t 40)]⟩,Zx 42 0 41,Zx 43 1 41,Zs 2 4 42,Zv 5 43])
 .ret))))) }
def mf_big_Mul:MFunc :=
 { n:=32,np:=2,res:=[.cell 4 2 true,.t 5],body :=
 (.seq (.ops [
 Zk 2 140002 0,Zk 3 140003 1,⟨some 4,none,.alloc 140004 [(ZI 0),.nil]⟩,Zi 5 0])
 (.seq (.seq (.ops [
 Zu 6 2 2,⟨some 7,none,.call aY [(.t 6)]⟩,Zt 8 7,Zv 9 8,⟨some 10,some (9,false),.load 2 true (.t 3)⟩,⟨some 11,some (9,false),.call aY [(.t 10)]⟩,⟨some 12,some (9,false),.un .not (.t 11)⟩,Zp 13 9 12])
 (.cond (.t 13)
 (.seq (.ops [
 ⟨some 14,none,.build [(ZI 0),.nil] []⟩,⟨some 15,none,.call co [(.c (.dat (.bool false))),(.t 14)]⟩,Zx 16 0 15,Zx 17 1 15,Zs 2 4 16,Zv 5 17])
 .ret)
 .skip))
 (.seq (.opsD [
 Zf 18 0 2,Zl 19 1 18,Zf 20 0 3,Zl 21 1 20,Zo 22 .mul 19 21,Zf 23 1 2,Zl 24 1 23,Zf 25 1 3,Zl 26 1 25,⟨some 27,none,.call jt [(.t 24),(.t 26)]⟩,⟨some 28,none,.call bB [(.t 22),(.t 27)]⟩,⟨some 29,none,.call co [(.c (.dat (.bool true))),(.t 28)]⟩,Zx 30 0 29,Zx 31 1 29,Zs 2 4 30,Zv 5 31] [[],[],[],[],[],[],[],[],[],[],[],[],[],[],[],[]])
 .ret))) }
def mf_big_Of:MFunc :=
 { n:=25,np:=1,res:=[.cell 2 2 true],body :=
 (.seq (.ops [
 ⟨some 2,none,.alloc 150002 [(ZI 0),.nil]⟩])
 (.seq (.ops [
 Zv 6 0,⟨some 7,none,.conv .u64 (.t 6)⟩,Zi 3 1,Zv 4 7])
 (.seq (.seq (.ops [
 Zv 8 0,Zc 9 .lss 8 0])
 (.cond (.t 9)
 (.ops [
 Zv 10 4,⟨some 11,none,.un .neg (.t 10)⟩,⟨some 3,none,.mv (.c (.dat (.int .i64 (-1))))⟩,Zv 4 11])
 .skip))
 (.seq (.ops [
 Ze 5])
 (.seq (.block 0
 (.ghost (.adopt 5 150021 1) (.loop
 (.seq (.seq (.ops [
 Zv 12 4,⟨some 13,none,.bin .gtr (.t 12) (.c (.dat (.int .u64 0)))⟩])
 (.cond (.t 13)
 .skip
 (.exit 0)))
 (.seq (.block 1
 (.ops [
 Zv 16 5,Zv 17 4,⟨some 18,none,.bin .and (.t 17) (.c (.dat (.int .u64 1048575)))⟩,⟨some 19,none,.conv .i64 (.t 18)⟩,⟨some 20,none,.bsl 150020 false [(ZI 0)] 1 1 [(0,1,(.t 19))]⟩,⟨some 21,none,.app 150021 [(ZI 0)] 8 (.t 16) (.t 20)⟩,Zv 5 21]))
 (.ops [
 Zv 14 4,⟨some 15,none,.bin .shr (.t 14) (.c (.dat (.int .u64 20)))⟩,Zv 4 15]))))))
 (.seq (.ghost (.freeze 5) (.ops [
 Zv 22 3,Zv 23 5,⟨some 24,none,.call bB [(.t 22),(.t 23)]⟩,Zs 2 2 24]))
 .ret)))))) }
def mf_big_Neg:MFunc :=
 { n:=14,np:=1,res:=[.cell 2 2 true],body :=
 (.seq (.ops [
 Zk 1 152001 0,⟨some 2,none,.alloc 152002 [(ZI 0),.nil]⟩])
 (.seq (.seq (.ops [
 Zu 3 2 1,⟨some 4,none,.call aY [(.t 3)]⟩,Zt 5 4])
 (.cond (.t 5)
 (.seq (.ops [
 ⟨some 6,none,.build [(ZI 0),.nil] []⟩,Zs 2 2 6])
 .ret)
 .skip))
 (.seq (.opsD [
 Zf 7 0 1,Zl 8 1 7,⟨some 9,none,.un .neg (.t 8)⟩,Zf 10 1 1,Zl 11 1 10,⟨some 12,none,.call bt [(.t 11)]⟩,⟨some 13,none,.call bB [(.t 9),(.t 12)]⟩,Zs 2 2 13] [[],[],[],[],[],[],[],[]])
 .ret))) }
def mf_big_Div:MFunc :=
 { n:=67,np:=2,res:=[.cell 4 2 true,.cell 5 2 true,.t 6],body :=
 (.seq (.ops [
 Zk 2 153002 0,Zk 3 153003 1,⟨some 4,none,.alloc 153004 [(ZI 0),.nil]⟩,⟨some 5,none,.alloc 153005 [(ZI 0),.nil]⟩,Zi 6 0])
 (.seq (.block 0
 (.seq (.ops [
 Zu 10 2 2,⟨some 11,none,.call aY [(.t 10)]⟩,Zt 12 11,Zv 13 12,⟨some 14,some (13,false),.load 2 true (.t 3)⟩,⟨some 15,some (13,false),.call aY [(.t 14)]⟩,⟨some 16,some (13,false),.un .not (.t 15)⟩,Zp 17 13 16,Zv 9 17])
 (.cond (.t 9)
 (.seq (.ops [
 ⟨some 18,none,.build [(ZI 0),.nil] []⟩,⟨some 19,none,.build [(ZI 0),.nil] []⟩,Zs 2 4 18,Zs 2 5 19,Zi 6 1])
 .ret)
 (.seq (.ops [
 Zf 21 0 3,Zl 22 1 21,Zc 23 .eql 22 0,Zv 20 23])
 (.cond (.t 20)
 (.seq (.ops [
 ⟨some 24,none,.build [(ZI 0),.nil] []⟩,⟨some 25,none,.build [(ZI 0),.nil] []⟩,Zs 2 4 24,Zs 2 5 25,Zi 6 15])
 .ret)
 .skip)))))
 (.seq (.ops [
 Zf 27 1 2,Zl 28 1 27,Zf 29 1 3,Zl 30 1 29,⟨some 31,none,.call kK [(.t 28),(.t 30)]⟩,Zv 26 31,Zx 32 0 26,Zx 33 1 26,Zv 7 32,Zv 8 33])
 (.seq (.seq (.ops [
 Zf 34 0 2,Zl 35 1 34,Zf 36 0 3,Zl 37 1 36,Zo 38 .mul 35 37,Zc 39 .lss 38 0,Zv 40 39,⟨some 41,some (40,true),.mv (.t 8)⟩,⟨some 42,some (40,true),.len (.t 41)⟩,⟨some 43,some (40,true),.bin .gtr (.t 42) (.c (ZI 0))⟩,Zq 44 40 43])
 (.cond (.t 44)
 (.seq (.opsD [
 Zv 45 7,⟨some 46,none,.bsl 153046 false [(ZI 0)] 1 1 [(0,1,(.c (ZI 1)))]⟩,⟨some 47,none,.call kS [(.t 45),(.t 46)]⟩,⟨some 48,none,.call bB [(.c (.dat (.int .i64 (-1)))),(.t 47)]⟩,Zf 49 0 3,Zl 50 1 49,Zf 51 1 3,Zl 52 1 51,Zv 53 8,⟨some 54,none,.call jw [(.t 52),(.t 53)]⟩,⟨some 55,none,.call bB [(.t 50),(.t 54)]⟩,Zs 2 4 48,Zs 2 5 55,Zi 6 0] [[],[],[],[],[],[],[],[],[],[],[],[],[],[]])
 .ret)
 .skip))
 (.seq (.opsD [
 Zf 56 0 2,Zl 57 1 56,Zf 58 0 3,Zl 59 1 58,Zo 60 .mul 57 59,Zv 61 7,⟨some 62,none,.call bB [(.t 60),(.t 61)]⟩,Zf 63 0 2,Zl 64 1 63,Zv 65 8,⟨some 66,none,.call bB [(.t 64),(.t 65)]⟩,Zs 2 4 62,Zs 2 5 66,Zi 6 0] [[],[],[],[],[],[],[],[],[],[],[],[],[],[]])
 .ret))))) }
def mf_big_Compare:MFunc :=
 { n:=31,np:=2,res:=[.t 4],body :=
 (.seq (.ops [
 Zk 2 154002 0,Zk 3 154003 1,Zi 4 0])
 (.seq (.seq (.ops [
 Zu 5 2 2,⟨some 6,none,.call aY [(.t 5)]⟩,Zt 7 6,Zv 8 7,⟨some 9,some (8,false),.load 2 true (.t 3)⟩,⟨some 10,some (8,false),.call aY [(.t 9)]⟩,⟨some 11,some (8,false),.un .not (.t 10)⟩,Zp 12 8 11])
 (.cond (.t 12)
 (.seq (.ops [
 Zi 4 0])
 .ret)
 .skip))
 (.seq (.seq (.ops [
 Zf 13 0 2,Zl 14 1 13,Zf 15 0 3,Zl 16 1 15,Zo 17 .neq 14 16])
 (.cond (.t 17)
 (.seq (.ops [
 Zf 18 0 2,Zl 19 1 18,Zf 20 0 3,Zl 21 1 20,⟨some 22,none,.call dz [(.t 19),(.t 21)]⟩,Zv 4 22])
 .ret)
 .skip))
 (.seq (.opsD [
 Zf 23 0 2,Zl 24 1 23,Zf 25 1 2,Zl 26 1 25,Zf 27 1 3,Zl 28 1 27,⟨some 29,none,.call dZ [(.t 26),(.t 28)]⟩,Zo 30 .mul 24 29,Zv 4 30] [[],[],[],[],[],[],[],[],[]])
 .ret)))) }
def mf_big_checked:MFunc :=
 { n:=17,np:=2,res:=[.cell 4 2 true,.t 5],body :=
 (.seq (.ops [
 Zk 3 155003 1,⟨some 4,none,.alloc 155004 [(ZI 0),.nil]⟩,Zi 5 0])
 (.seq (.block 0
 (.seq (.ops [
 Zv 7 0,Zt 8 7,Zv 6 8])
 (.cond (.t 6)
 (.seq (.ops [
 ⟨some 9,none,.build [(ZI 0),.nil] []⟩,Zs 2 4 9,Zi 5 1])
 .ret)
 (.seq (.ops [
 Zf 11 1 3,Zl 12 1 11,Zn 13 12,Zc 14 .gtr 13 60,Zv 10 14])
 (.cond (.t 10)
 (.seq (.ops [
 ⟨some 15,none,.build [(ZI 0),.nil] []⟩,Zs 2 4 15,Zi 5 6])
 .ret)
 .skip)))))
 (.seq (.ops [
 Zu 16 2 3,Zs 2 4 16,Zi 5 0])
 .ret))) }
def mf_big_div:MFunc :=
 { n:=170,np:=2,res:=[.t 4,.t 5],body :=
 (.seq (.ops [
 Ze 4,Ze 5])
 (.seq (.seq (.ops [
 Zv 19 0,Zv 20 1,⟨some 21,none,.call dZ [(.t 19),(.t 20)]⟩,Zc 22 .lss 21 0])
 (.cond (.t 22)
 (.seq (.ops [
 Zv 23 0,⟨some 24,none,.call bt [(.t 23)]⟩,Ze 4,Zv 5 24])
 .ret)
 .skip))
 (.seq (.seq (.ops [
 Zv 25 1,Zn 26 25,Zc 27 .eql 26 1])
 (.cond (.t 27)
 (.seq (.ops [
 Zv 29 0,Zv 30 1,⟨some 31,none,.iad 1 (.t 30) (.c (ZI 0))⟩,Zl 32 1 31,⟨some 33,none,.call kl [(.t 29),(.t 32)]⟩,Zv 28 33,Zx 34 0 28,Zx 35 1 28,Zv 6 34,Zv 7 35])
 (.seq (.ops [
 Zv 36 6,Zv 37 7,⟨some 38,none,.bsl 157038 false [(ZI 0)] 1 1 [(0,1,(.t 37))]⟩,⟨some 39,none,.call cr [(.t 38)]⟩,Zv 4 36,Zv 5 39])
 .ret))
 .skip))
 (.seq (.ops [
 Zi 8 1])
 (.seq (.block 0
 (.loop
 (.seq (.seq (.ops [
 Zv 40 1,Zv 41 1,Zn 42 41,Zc 43 .sub 42 1,Za 44 1 40 43,Zl 45 1 44,Zv 46 8,Zo 47 .mul 45 46,Zc 48 .lss 47 524288])
 (.cond (.t 48)
 .skip
 (.exit 0)))
 (.block 1
 (.ops [
 Zv 49 8,Zc 50 .mul 49 2,Zv 8 50])))))
 (.seq (.ops [
 Zv 51 0,Zv 52 8,⟨some 53,none,.bsl 157053 false [(ZI 0)] 1 1 [(0,1,(.t 52))]⟩,⟨some 54,none,.callo 157054 1 jt [(.t 51),(.t 53)]⟩,⟨some 55,none,.bsl 157055 false [(ZI 0)] 1 1 [(0,1,(.c (ZI 0)))]⟩,⟨some 56,none,.app 157056 [(ZI 0)] 8 (.t 54) (.t 55)⟩,Zv 57 1,Zv 58 8,⟨some 59,none,.bsl 157059 false [(ZI 0)] 1 1 [(0,1,(.t 58))]⟩,⟨some 60,none,.call jt [(.t 57),(.t 59)]⟩,Zv 9 56,Zv 10 60])
 (.seq (.seq (.ops [
 Zv 61 9,Zn 62 61,Zv 63 0,Zn 64 63,Zo 65 .eql 62 64])
 (.cond (.t 65)
 (.ops [
 Zv 66 9,⟨some 67,none,.bsl 157067 false [(ZI 0)] 1 1 [(0,1,(.c (ZI 0)))]⟩,⟨some 68,none,.app 157068 [(ZI 0)] 8 (.t 66) (.t 67)⟩,Zv 9 68])
 .skip))
 (.seq (.ops [
 Zv 69 10,Zn 70 69,Zv 11 70])
 (.seq (.ops [
 Zv 71 9,Zn 72 71,Zv 73 11,Zo 74 .sub 72 73,⟨some 75,none,.mksl 157075 [(ZI 0)] 8 (.t 74) (.t 74)⟩,Zv 12 75])
 (.seq (.seq (.ops [
 Zv 76 12,Zn 77 76,Zc 78 .sub 77 1,Zv 13 78])
 (.block 2
 (.loop
 (.seq (.seq (.ops [
 Zv 79 13,Zc 80 .geq 79 0])
 (.cond (.t 80)
 .skip
 (.exit 2)))
 (.seq (.block 3
 (.seq (.opsD [
 Zv 83 9,Zv 84 13,Zv 85 11,Zo 86 .add 84 85,Za 87 1 83 86,Zl 88 1 87,⟨some 89,none,.bin .shl (.t 88) (.c (.dat (.int .u64 20)))⟩,Zv 90 9,Zv 91 13,Zv 92 11,Zo 93 .add 91 92,Zc 94 .sub 93 1,Za 95 1 90 94,Zl 96 1 95,Zo 97 .or 89 96,Zv 14 97] [[],[],[],[],[],[],[],[],[],[],[],[],[],[],[],[]])
 (.seq (.opsD [
 Zv 98 14,Zv 99 10,Zv 100 11,Zc 101 .sub 100 1,Za 102 1 99 101,Zl 103 1 102,Zo 104 .quo 98 103,Zv 105 14,Zv 106 10,Zv 107 11,Zc 108 .sub 107 1,Za 109 1 106 108,Zl 110 1 109,Zo 111 .rem 105 110,Zv 15 104,Zv 16 111] [[],[],[],[],[],[],[],[],[],[],[],[],[],[],[],[]])
 (.seq (.block 4
 (.loop
 (.seq (.seq (.opsD [
 Zv 112 15,Zc 113 .geq 112 1048576,Zv 114 113,⟨some 115,some (114,false),.mv (.t 16)⟩,⟨some 116,some (114,false),.bin .lss (.t 115) (.c (ZI 1048576))⟩,⟨some 117,some (114,false),.mv (.t 116)⟩,⟨some 118,some (117,true),.mv (.t 15)⟩,⟨some 119,some (117,true),.mv (.t 10)⟩,⟨some 120,some (117,true),.mv (.t 11)⟩,⟨some 121,some (117,true),.bin .sub (.t 120) (.c (ZI 2))⟩,⟨some 122,some (117,true),.iad 1 (.t 119) (.t 121)⟩,⟨some 123,some (117,true),.load 1 false (.t 122)⟩,⟨some 124,some (117,true),.bin .mul (.t 118) (.t 123)⟩,⟨some 125,some (117,true),.mv (.t 16)⟩,⟨some 126,some (117,true),.bin .shl (.t 125) (.c (.dat (.int .u64 20)))⟩,⟨some 127,some (117,true),.mv (.t 9)⟩,⟨some 128,some (117,true),.mv (.t 13)⟩,⟨some 129,some (117,true),.mv (.t 11)⟩,⟨some 130,some (117,true),.bin .add (.t 128) (.t 129)⟩,⟨some 131,some (117,true),.bin .sub (.t 130) (.c (ZI 2))⟩,⟨some 132,some (117,true),.iad 1 (.t 127) (.t 131)⟩,⟨some 133,some (117,true),.load 1 false (.t 132)⟩,⟨some 134,some (117,true),.bin .or (.t 126) (.t 133)⟩,⟨some 135,some (117,true),.bin .gtr (.t 124) (.t 134)⟩,⟨some 136,some (114,false),.pick (.t 117) (.t 135) (.c (.dat (.bool false)))⟩,Zp 137 114 136] [[],[],[],[],[],[],[],[],[],[],[],[],[],[],[],[],[],[],[],[],[],[],[],[],[],[]])
 (.cond (.t 137)
 .skip
 (.exit 4)))
 (.block 5
 (.seq (.ops [
 Zv 138 15,Zc 139 .sub 138 1,Zv 15 139])
 (.ops [
 Zv 140 16,Zv 141 10,Zv 142 11,Zc 143 .sub 142 1,Za 144 1 141 143,Zl 145 1 144,Zo 146 .add 140 145,Zv 16 146]))))))
 (.ops [
 Zv 147 12,Zv 148 13,Zv 149 9,Zv 150 13,Zv 151 13,Zv 152 11,Zo 153 .add 151 152,Zc 154 .add 153 1,⟨some 155,none,.slc 1 (.t 149) (some (.t 150)) (some (.t 154)) none⟩,Zv 156 10,Zv 157 15,⟨some 158,none,.call lE [(.t 155),(.t 156),(.t 157)]⟩,Za 159 1 147 148,Zs 1 159 158])))))
 (.ops [
 Zv 81 13,Zc 82 .sub 81 1,Zv 13 82]))))))
 (.seq (.ghost (.freeze 9) (.ops [
 Zv 161 9,⟨some 162,none,.call cr [(.t 161)]⟩,Zv 163 8,⟨some 164,none,.call kl [(.t 162),(.t 163)]⟩,Zv 160 164,Zx 165 0 160,Zx 166 1 160,Zv 17 165,Zv 18 166]))
 (.seq (.ghost (.freeze 12) (.ops [
 Zv 167 12,⟨some 168,none,.call cr [(.t 167)]⟩,Zv 169 17,Zv 4 168,Zv 5 169]))
 .ret)))))))))))) }
def mf_big_signed:MFunc :=
 { n:=14,np:=2,res:=[.cell 4 2 true],body :=
 (.seq (.ops [
 ⟨some 4,none,.alloc 158004 [(ZI 0),.nil]⟩])
 (.seq (.ops [
 Zv 5 1,⟨some 6,none,.call cr [(.t 5)]⟩,Zv 1 6])
 (.seq (.seq (.ops [
 Zv 7 1,Zn 8 7,Zc 9 .eql 8 0])
 (.cond (.t 9)
 (.seq (.ops [
 ⟨some 10,none,.build [(ZI 0),.nil] []⟩,Zs 2 4 10])
 .ret)
 .skip))
 (.seq (.ops [
 Zv 11 0,Zv 12 1,⟨some 13,none,.build [(ZI 0),.nil] [(0,1,(.t 11)),(1,1,(.t 12))]⟩,Zs 2 4 13])
 .ret)))) }
def mf_big_Int:MFunc :=
 { n:=59,np:=1,res:=[.t 2,.t 3],body :=
 (.seq (.ops [
 Zk 1 159001 0,Zi 2 0,Zb 3 false])
 (.seq (.seq (.ops [
 Zu 7 2 1,⟨some 8,none,.call aY [(.t 7)]⟩,Zt 9 8,Zv 10 9,⟨some 11,some (10,false),.fad 1 (.t 1)⟩,⟨some 12,some (10,false),.load 1 false (.t 11)⟩,⟨some 13,some (10,false),.len (.t 12)⟩,⟨some 14,some (10,false),.bin .gtr (.t 13) (.c (ZI 4))⟩,Zp 15 10 14])
 (.cond (.t 15)
 (.seq (.ops [
 Zi 2 0,Zb 3 false])
 .ret)
 .skip))
 (.seq (.ops [
 ⟨some 4,none,.mv (.c (.dat (.int .u64 0)))⟩])
 (.seq (.seq (.ops [
 Zf 16 1 1,Zl 17 1 16,Zn 18 17,Zi 19 0])
 (.block 0
 (.loop
 (.seq (.ops [
 Zo 20 .lss 19 18])
 (.seq (.cond (.t 20)
 .skip
 (.exit 0))
 (.seq (.block 1
 (.seq (.ops [
 Zv 21 19,Za 22 1 17 19,Zl 23 1 22,Zv 5 21,Zv 6 23])
 (.seq (.seq (.ops [
 Zv 24 5,Zc 25 .eql 24 3,Zv 26 25,⟨some 27,some (26,true),.mv (.t 6)⟩,⟨some 28,some (26,true),.bin .gtr (.t 27) (.c (ZI 8))⟩,Zq 29 26 28])
 (.cond (.t 29)
 (.seq (.ops [
 Zi 2 0,Zb 3 false])
 .ret)
 .skip))
 (.ops [
 Zv 30 4,Zv 31 6,⟨some 32,none,.conv .u64 (.t 31)⟩,Zv 33 5,⟨some 34,none,.bin .mul (.c (ZI 20)) (.t 33)⟩,Zo 35 .shl 32 34,Zo 36 .or 30 35,Zv 4 36]))))
 (.ops [
 Zc 37 .add 19 1,Zv 19 37])))))))
 (.seq (.block 2
 (.seq (.ops [
 Zf 39 0 1,Zl 40 1 39,Zc 41 .lss 40 0,Zv 42 41,⟨some 43,some (42,true),.mv (.t 4)⟩,⟨some 44,some (42,true),.bin .leq (.t 43) (.c (.dat (.int .u64 9223372036854775808)))⟩,Zq 45 42 44,Zv 38 45])
 (.cond (.t 38)
 (.seq (.ops [
 Zv 46 4,⟨some 47,none,.un .neg (.t 46)⟩,⟨some 48,none,.conv .i64 (.t 47)⟩,Zv 2 48,Zb 3 true])
 .ret)
 (.seq (.ops [
 Zf 50 0 1,Zl 51 1 50,Zc 52 .geq 51 0,Zv 53 52,⟨some 54,some (53,true),.mv (.t 4)⟩,⟨some 55,some (53,true),.bin .lss (.t 54) (.c (.dat (.int .u64 9223372036854775808)))⟩,Zq 56 53 55,Zv 49 56])
 (.cond (.t 49)
 (.seq (.ops [
 Zv 57 4,⟨some 58,none,.conv .i64 (.t 57)⟩,Zv 2 58,Zb 3 true])
 .ret)
 .skip)))))
 (.seq (.ops [
 Zi 2 0,Zb 3 false])
 .ret)))))) }
def mf_big_Add:MFunc :=
 { n:=69,np:=2,res:=[.cell 4 2 true,.t 5],body :=
 (.seq (.ops [
 Zk 2 160002 0,Zk 3 160003 1,⟨some 4,none,.alloc 160004 [(ZI 0),.nil]⟩,Zi 5 0])
 (.seq (.seq (.ops [
 Zu 6 2 2,⟨some 7,none,.call aY [(.t 6)]⟩,Zt 8 7,Zv 9 8,⟨some 10,some (9,false),.load 2 true (.t 3)⟩,⟨some 11,some (9,false),.call aY [(.t 10)]⟩,⟨some 12,some (9,false),.un .not (.t 11)⟩,Zp 13 9 12])
 (.cond (.t 13)
 (.seq (.ops [
 ⟨some 14,none,.build [(ZI 0),.nil] []⟩,⟨some 15,none,.call co [(.c (.dat (.bool false))),(.t 14)]⟩,Zx 16 0 15,Zx 17 1 15,Zs 2 4 16,Zv 5 17])
 .ret)
 .skip))
 (.seq (.block 0
 (.seq (.ops [
 Zf 19 0 2,Zl 20 1 19,Zf 21 0 3,Zl 22 1 21,Zo 23 .mul 20 22,Zc 24 .geq 23 0,Zv 18 24])
 (.cond (.t 18)
 (.seq (.opsD [
 Zf 25 0 2,Zl 26 1 25,Zf 27 0 3,Zl 28 1 27,⟨some 29,none,.bsl 160029 false [(ZI 0),(ZI 0)] 1 2 [(0,1,(.t 26)),(1,1,(.t 28))]⟩,⟨some 30,none,.call lC [(.t 29)]⟩,Zf 31 1 2,Zl 32 1 31,Zf 33 1 3,Zl 34 1 33,⟨some 35,none,.call kS [(.t 32),(.t 34)]⟩,⟨some 36,none,.call bB [(.t 30),(.t 35)]⟩,⟨some 37,none,.call co [(.c (.dat (.bool true))),(.t 36)]⟩,Zx 38 0 37,Zx 39 1 37,Zs 2 4 38,Zv 5 39] [[],[],[],[],[],[],[],[],[],[],[],[],[],[],[],[],[]])
 .ret)
 (.seq (.ops [
 Zf 41 1 2,Zl 42 1 41,Zf 43 1 3,Zl 44 1 43,⟨some 45,none,.call dZ [(.t 42),(.t 44)]⟩,Zc 46 .lss 45 0,Zv 40 46])
 (.cond (.t 40)
 (.seq (.opsD [
 Zf 47 0 3,Zl 48 1 47,Zf 49 1 3,Zl 50 1 49,Zf 51 1 2,Zl 52 1 51,⟨some 53,none,.call jw [(.t 50),(.t 52)]⟩,⟨some 54,none,.call bB [(.t 48),(.t 53)]⟩,⟨some 55,none,.call co [(.c (.dat (.bool true))),(.t 54)]⟩,Zx 56 0 55,Zx 57 1 55,Zs 2 4 56,Zv 5 57] [[],[],[],[],[],[],[],[],[],[],[],[],[]])
 .ret)
 .skip)))))
 (.seq (.opsD [
 Zf 58 0 2,Zl 59 1 58,Zf 60 1 2,Zl 61 1 60,Zf 62 1 3,Zl 63 1 62,⟨some 64,none,.call jw [(.t 61),(.t 63)]⟩,⟨some 65,none,.call bB [(.t 59),(.t 64)]⟩,⟨some 66,none,.call co [(.c (.dat (.bool true))),(.t 65)]⟩,Zx 67 0 66,Zx 68 1 66,Zs 2 4 67,Zv 5 68] [[],[],[],[],[],[],[],[],[],[],[],[],[]])
 .ret)))) }
def mf_big_mul:MFunc :=
 { n:=67,np:=2,res:=[.t 4],body :=
 (.seq (.ops [
 Ze 4])
 (.seq (.ops [
 Zv 12 0,Zn 13 12,Zv 14 1,Zn 15 14,Zo 16 .add 13 15,⟨some 17,none,.mksl 161017 [(ZI 0)] 8 (.t 16) (.t 16)⟩,Zv 5 17])
 (.seq (.seq (.ops [
 Zv 18 0,Zn 19 18,Zi 20 0])
 (.block 0
 (.loop
 (.seq (.ops [
 Zo 21 .lss 20 19])
 (.seq (.cond (.t 21)
 .skip
 (.exit 0))
 (.seq (.block 1
 (.seq (.ops [
 Zv 22 20,Za 23 1 18 20,Zl 24 1 23,Zv 6 22,Zv 7 24])
 (.seq (.ops [
 Zi 8 0])
 (.seq (.seq (.ops [
 Zv 25 1,Zn 26 25,Zi 27 0])
 (.block 2
 (.loop
 (.seq (.ops [
 Zo 28 .lss 27 26])
 (.seq (.cond (.t 28)
 .skip
 (.exit 2))
 (.seq (.block 3
 (.seq (.ops [
 Zv 29 27,Za 30 1 25 27,Zl 31 1 30,Zv 9 29,Zv 10 31])
 (.seq (.ops [
 Zv 32 5,Zv 33 6,Zv 34 9,Zo 35 .add 33 34,Za 36 1 32 35,Zl 37 1 36,Zv 38 7,Zv 39 10,Zo 40 .mul 38 39,Zo 41 .add 37 40,Zv 42 8,Zo 43 .add 41 42,Zv 11 43])
 (.ops [
 Zv 44 5,Zv 45 6,Zv 46 9,Zo 47 .add 45 46,Zv 48 11,Zc 49 .and 48 1048575,Zv 50 11,⟨some 51,none,.bin .shr (.t 50) (.c (.dat (.int .u64 20)))⟩,Za 52 1 44 47,Zs 1 52 49,Zv 8 51]))))
 (.ops [
 Zc 53 .add 27 1,Zv 27 53])))))))
 (.ops [
 Zv 54 5,Zv 55 6,Zv 56 1,Zn 57 56,Zo 58 .add 55 57,Za 59 1 54 58,Zl 60 1 59,Zv 61 8,Zo 62 .add 60 61,Za 63 1 54 58,Zs 1 63 62])))))
 (.ops [
 Zc 64 .add 20 1,Zv 20 64])))))))
 (.seq (.ops [
 Zv 65 5,⟨some 66,none,.call cr [(.t 65)]⟩,Zv 4 66])
 .ret)))) }
def mf_big_add:MFunc :=
 { n:=55,np:=2,res:=[.t 4],body :=
 (.seq (.ops [
 Ze 4])
 (.seq (.seq (.ops [
 Zv 9 0,Zn 10 9,Zv 11 1,Zn 12 11,Zo 13 .lss 10 12])
 (.cond (.t 13)
 (.ops [
 Zv 14 1,Zv 15 0,Zv 0 14,Zv 1 15])
 .skip))
 (.seq (.ops [
 Zv 16 0,Zn 17 16,Zc 18 .add 17 1,⟨some 19,none,.mksl 172019 [(ZI 0)] 8 (.t 18) (.t 18)⟩,Zv 5 19])
 (.seq (.ops [
 Zi 6 0])
 (.seq (.seq (.ops [
 Zv 20 0,Zn 21 20,Zi 22 0])
 (.block 0
 (.loop
 (.seq (.ops [
 Zo 23 .lss 22 21])
 (.seq (.cond (.t 23)
 .skip
 (.exit 0))
 (.seq (.block 1
 (.seq (.ops [
 Zv 24 22,Za 25 1 20 22,Zl 26 1 25,Zv 7 24,Zv 8 26])
 (.seq (.ops [
 Zv 27 6,Zv 28 8,Zo 29 .add 27 28,Zv 6 29])
 (.seq (.seq (.ops [
 Zv 30 7,Zv 31 1,Zn 32 31,Zo 33 .lss 30 32])
 (.cond (.t 33)
 (.ops [
 Zv 34 6,Zv 35 1,Zv 36 7,Za 37 1 35 36,Zl 38 1 37,Zo 39 .add 34 38,Zv 6 39])
 .skip))
 (.seq (.ops [
 Zv 40 5,Zv 41 7,Zv 42 6,Zc 43 .and 42 1048575,Za 44 1 40 41,Zs 1 44 43])
 (.ops [
 Zv 45 6,⟨some 46,none,.bin .shr (.t 45) (.c (.dat (.int .u64 20)))⟩,Zv 6 46]))))))
 (.ops [
 Zc 47 .add 22 1,Zv 22 47])))))))
 (.seq (.ops [
 Zv 48 5,Zv 49 0,Zn 50 49,Zv 51 6,Za 52 1 48 50,Zs 1 52 51])
 (.seq (.ops [
 Zv 53 5,⟨some 54,none,.call cr [(.t 53)]⟩,Zv 4 54])
 .ret))))))) }
def mf_big_sub:MFunc :=
 { n:=43,np:=2,res:=[.t 4],body :=
 (.seq (.ops [
 Ze 4])
 (.seq (.ops [
 Zv 9 0,⟨some 10,none,.callo 173010 1 bt [(.t 9)]⟩,Zv 5 10])
 (.seq (.ops [
 Zi 6 0])
 (.seq (.seq (.ops [
 Zv 11 5,Zn 12 11,Zi 13 0])
 (.block 0
 (.loop
 (.seq (.ops [
 Zo 14 .lss 13 12])
 (.seq (.cond (.t 14)
 .skip
 (.exit 0))
 (.seq (.block 1
 (.seq (.ops [
 Zv 15 13,Zv 7 15])
 (.seq (.ops [
 Zv 16 5,Zv 17 7,Za 18 1 16 17,Zl 19 1 18,Zv 20 6,Zo 21 .sub 19 20,Zv 8 21])
 (.seq (.seq (.ops [
 Zv 22 7,Zv 23 1,Zn 24 23,Zo 25 .lss 22 24])
 (.cond (.t 25)
 (.ops [
 Zv 26 8,Zv 27 1,Zv 28 7,Za 29 1 27 28,Zl 30 1 29,Zo 31 .sub 26 30,Zv 8 31])
 .skip))
 (.seq (.ops [
 Zv 32 8,⟨some 33,none,.bin .shr (.t 32) (.c (.dat (.int .u64 20)))⟩,Zc 34 .and 33 1,Zv 6 34])
 (.ops [
 Zv 35 5,Zv 36 7,Zv 37 8,Zc 38 .and 37 1048575,Za 39 1 35 36,Zs 1 39 38]))))))
 (.ops [
 Zc 40 .add 13 1,Zv 13 40])))))))
 (.seq (.ops [
 Zv 41 5,⟨some 42,none,.call cr [(.t 41)]⟩,Zv 4 42])
 .ret))))) }
def mf_big_compare:MFunc :=
 { n:=41,np:=2,res:=[.t 4],body :=
 (.seq (.ops [
 Zi 4 0])
 (.seq (.seq (.ops [
 Zv 6 0,Zn 7 6,Zv 8 1,Zn 9 8,Zo 10 .neq 7 9])
 (.cond (.t 10)
 (.seq (.ops [
 Zv 11 0,Zn 12 11,Zv 13 1,Zn 14 13,⟨some 15,none,.call dz [(.t 12),(.t 14)]⟩,Zv 4 15])
 .ret)
 .skip))
 (.seq (.seq (.ops [
 Zv 16 0,Zn 17 16,Zc 18 .sub 17 1,Zv 5 18])
 (.block 0
 (.loop
 (.seq (.seq (.ops [
 Zv 19 5,Zc 20 .geq 19 0])
 (.cond (.t 20)
 .skip
 (.exit 0)))
 (.seq (.block 1
 (.seq (.opsD [
 Zv 23 0,Zv 24 5,Za 25 1 23 24,Zl 26 1 25,Zv 27 1,Zv 28 5,Za 29 1 27 28,Zl 30 1 29,Zo 31 .neq 26 30] [[],[],[],[],[],[],[],[],[]])
 (.cond (.t 31)
 (.seq (.opsD [
 Zv 32 0,Zv 33 5,Za 34 1 32 33,Zl 35 1 34,Zv 36 1,Zv 37 5,Za 38 1 36 37,Zl 39 1 38,⟨some 40,none,.call dz [(.t 35),(.t 39)]⟩,Zv 4 40] [[],[],[],[],[],[],[],[],[],[]])
 .ret)
 .skip)))
 (.ops [
 Zv 21 5,Zc 22 .sub 21 1,Zv 5 22]))))))
 (.seq (.ops [
 Zi 4 0])
 .ret)))) }
def mf_big_short:MFunc :=
 { n:=38,np:=2,res:=[.t 4,.t 5],body :=
 (.seq (.ops [
 Ze 4,Zi 5 0])
 (.seq (.ops [
 Zv 9 0,Zn 10 9,⟨some 11,none,.mksl 176011 [(ZI 0)] 8 (.t 10) (.t 10)⟩,Zv 6 11])
 (.seq (.ops [
 Zi 7 0])
 (.seq (.seq (.ops [
 Zv 12 0,Zn 13 12,Zc 14 .sub 13 1,Zv 8 14])
 (.block 0
 (.loop
 (.seq (.seq (.ops [
 Zv 15 8,Zc 16 .geq 15 0])
 (.cond (.t 16)
 .skip
 (.exit 0)))
 (.seq (.block 1
 (.seq (.ops [
 Zv 19 7,⟨some 20,none,.bin .shl (.t 19) (.c (.dat (.int .u64 20)))⟩,Zv 21 0,Zv 22 8,Za 23 1 21 22,Zl 24 1 23,Zo 25 .or 20 24,Zv 7 25])
 (.seq (.ops [
 Zv 26 6,Zv 27 8,Zv 28 7,Zv 29 1,Zo 30 .quo 28 29,Za 31 1 26 27,Zs 1 31 30])
 (.ops [
 Zv 32 7,Zv 33 1,Zo 34 .rem 32 33,Zv 7 34]))))
 (.ops [
 Zv 17 8,Zc 18 .sub 17 1,Zv 8 18]))))))
 (.seq (.ghost (.freeze 6) (.ops [
 Zv 35 6,⟨some 36,none,.call cr [(.t 35)]⟩,Zv 37 7,Zv 4 36,Zv 5 37]))
 .ret))))) }
def mf_big_trim:MFunc :=
 { n:=21,np:=1,res:=[.t 2],body :=
 (.seq (.ops [
 Ze 2])
 (.seq (.ops [
 Zv 4 0,Zn 5 4,Zv 3 5])
 (.seq (.block 0
 (.loop
 (.seq (.seq (.ops [
 Zv 6 3,Zc 7 .gtr 6 0,Zv 8 7,⟨some 9,some (8,true),.mv (.t 0)⟩,⟨some 10,some (8,true),.mv (.t 3)⟩,⟨some 11,some (8,true),.bin .sub (.t 10) (.c (ZI 1))⟩,⟨some 12,some (8,true),.iad 1 (.t 9) (.t 11)⟩,⟨some 13,some (8,true),.load 1 false (.t 12)⟩,⟨some 14,some (8,true),.bin .eql (.t 13) (.c (ZI 0))⟩,Zq 15 8 14])
 (.cond (.t 15)
 .skip
 (.exit 0)))
 (.block 1
 (.ops [
 Zv 16 3,Zc 17 .sub 16 1,Zv 3 17])))))
 (.seq (.ops [
 Zv 18 0,Zv 19 3,⟨some 20,none,.slc 1 (.t 18) none (some (.t 19)) none⟩,Zv 2 20])
 .ret)))) }
def mf_big_settle:MFunc :=
 { n:=78,np:=3,res:=[.t 6],body :=
 (.seq (.ops [
 Zi 6 0])
 (.seq (.ops [
 Zi 7 0])
 (.seq (.seq (.ops [
 Zv 12 0,Zn 13 12,Zi 14 0])
 (.block 0
 (.loop
 (.seq (.ops [
 Zo 15 .lss 14 13])
 (.seq (.cond (.t 15)
 .skip
 (.exit 0))
 (.seq (.block 1
 (.seq (.ops [
 Zv 16 14,Zv 8 16])
 (.seq (.ops [
 Zv 17 0,Zv 18 8,Za 19 1 17 18,Zl 20 1 19,Zv 21 7,Zo 22 .sub 20 21,Zv 9 22])
 (.seq (.seq (.ops [
 Zv 23 8,Zv 24 1,Zn 25 24,Zo 26 .lss 23 25])
 (.cond (.t 26)
 (.ops [
 Zv 27 9,Zv 28 2,Zv 29 1,Zv 30 8,Za 31 1 29 30,Zl 32 1 31,Zo 33 .mul 28 32,Zo 34 .sub 27 33,Zv 9 34])
 .skip))
 (.seq (.ops [
 Zv 35 0,Zv 36 8,Zv 37 9,Zc 38 .and 37 1048575,Za 39 1 35 36,Zs 1 39 38])
 (.ops [
 Zv 40 9,⟨some 41,none,.bin .shr (.t 40) (.c (.dat (.int .u64 20)))⟩,⟨some 42,none,.un .neg (.t 41)⟩,Zv 7 42]))))))
 (.ops [
 Zc 43 .add 14 1,Zv 14 43])))))))
 (.seq (.seq (.ops [
 Zv 44 7,Zc 45 .eql 44 0])
 (.cond (.t 45)
 (.seq (.ops [
 Zv 46 2,Zv 6 46])
 .ret)
 .skip))
 (.seq (.ops [
 Zi 10 0])
 (.seq (.seq (.ops [
 Zv 47 0,Zn 48 47,Zi 49 0])
 (.block 2
 (.loop
 (.seq (.ops [
 Zo 50 .lss 49 48])
 (.seq (.cond (.t 50)
 .skip
 (.exit 2))
 (.seq (.block 3
 (.seq (.ops [
 Zv 51 49,Zv 11 51])
 (.seq (.ops [
 Zv 52 10,Zv 53 0,Zv 54 11,Za 55 1 53 54,Zl 56 1 55,Zo 57 .add 52 56,Zv 10 57])
 (.seq (.seq (.ops [
 Zv 58 11,Zv 59 1,Zn 60 59,Zo 61 .lss 58 60])
 (.cond (.t 61)
 (.ops [
 Zv 62 10,Zv 63 1,Zv 64 11,Za 65 1 63 64,Zl 66 1 65,Zo 67 .add 62 66,Zv 10 67])
 .skip))
 (.seq (.ops [
 Zv 68 0,Zv 69 11,Zv 70 10,Zc 71 .and 70 1048575,Za 72 1 68 69,Zs 1 72 71])
 (.ops [
 Zv 73 10,⟨some 74,none,.bin .shr (.t 73) (.c (.dat (.int .u64 20)))⟩,Zv 10 74]))))))
 (.ops [
 Zc 75 .add 49 1,Zv 49 75])))))))
 (.seq (.ops [
 Zv 76 2,Zc 77 .sub 76 1,Zv 6 77])
 .ret))))))) }
def mf_cmp_Compare_int:MFunc :=
 { n:=20,np:=2,res:=[.t 4],body :=
 (.seq (.ops [
 Zi 4 0])
 (.seq (.ops [
 Zv 7 0,⟨some 8,none,.call gO [(.t 7)]⟩,Zv 5 8])
 (.seq (.ops [
 Zv 9 1,⟨some 10,none,.call gO [(.t 9)]⟩,Zv 6 10])
 (.seq (.seq (.ops [
 Zv 11 5])
 (.cond (.t 11)
 (.seq (.seq (.ops [
 Zv 12 6])
 (.cond (.t 12)
 (.seq (.ops [
 Zi 4 0])
 .ret)
 .skip))
 (.seq (.ops [
 ⟨some 4,none,.mv (.c (.dat (.int .i64 (-1))))⟩])
 .ret))
 .skip))
 (.seq (.seq (.ops [
 Zv 13 6])
 (.cond (.t 13)
 (.seq (.ops [
 Zi 4 1])
 .ret)
 .skip))
 (.seq (.seq (.ops [
 Zv 14 0,Zv 15 1,Zo 16 .lss 14 15])
 (.cond (.t 16)
 (.seq (.ops [
 ⟨some 4,none,.mv (.c (.dat (.int .i64 (-1))))⟩])
 .ret)
 .skip))
 (.seq (.seq (.ops [
 Zv 17 0,Zv 18 1,Zo 19 .gtr 17 18])
 (.cond (.t 19)
 (.seq (.ops [
 Zi 4 1])
 .ret)
 .skip))
 (.seq (.ops [
 Zi 4 0])
 .ret)))))))) }
def mf_cmp_Or_int:MFunc :=
 { n:=18,np:=1,res:=[.t 2],body :=
 (.seq (.ops [
 Zi 2 0])
 (.seq (.ops [
 Zi 3 0])
 (.seq (.seq (.ops [
 Zv 6 0,Zn 7 6,Zi 8 0])
 (.block 0
 (.loop
 (.seq (.ops [
 Zo 9 .lss 8 7])
 (.seq (.cond (.t 9)
 .skip
 (.exit 0))
 (.seq (.block 1
 (.seq (.ops [
 Za 10 1 6 8,Zl 11 1 10,Zv 5 11])
 (.seq (.ops [
 Zv 12 5,Zv 13 3,Zo 14 .neq 12 13])
 (.cond (.t 14)
 (.seq (.ops [
 Zv 15 5,Zv 2 15])
 .ret)
 .skip))))
 (.ops [
 Zc 16 .add 8 1,Zv 8 16])))))))
 (.seq (.ops [
 Zv 17 3,Zv 2 17])
 .ret)))) }
def mf_cmp_isNaN_int:MFunc :=
 { n:=6,np:=1,res:=[.t 2],body :=
 (.seq (.ops [
 Zb 2 false])
 (.seq (.ops [
 Zv 3 0,Zv 4 0,Zo 5 .neq 3 4,Zv 2 5])
 .ret)) }
def mf_slices_ContainsFunc_Row:MFunc :=
 { n:=9,np:=2,res:=[.t 4],body :=
 (.seq (.ops [
 Zb 4 false])
 (.seq (.ops [
 Zv 5 0,Zv 6 1,⟨some 7,none,.call fp [(.t 5),(.t 6)]⟩,Zc 8 .geq 7 0,Zv 4 8])
 .ret)) }
def mf_slices_ContainsFunc_Frac:MFunc :=
 { n:=9,np:=2,res:=[.t 4],body :=
 (.seq (.ops [
 Zb 4 false])
 (.seq (.ops [
 Zv 5 0,Zv 6 1,⟨some 7,none,.call eS [(.t 5),(.t 6)]⟩,Zc 8 .geq 7 0,Zv 4 8])
 .ret)) }
def mf_slices_Repeat_Frac:MFunc :=
 { n:=48,np:=2,res:=[.t 4],body :=
 (.seq (.ops [
 Ze 4])
 (.seq (.seq (.ops [
 Zv 9 1,Zc 10 .lss 9 0])
 (.cond (.t 10)
 (.ops [
 ⟨some 11,none,.bad⟩,⟨none,none,.bad⟩])
 .skip))
 (.seq (.ops [
 Zv 13 0,Zn 14 13,⟨some 15,none,.conv .u64 (.t 14)⟩,Zv 16 1,⟨some 17,none,.conv .u64 (.t 16)⟩,⟨some 18,none,.call ju [(.t 15),(.t 17)]⟩,Zv 12 18,Zx 19 0 12,Zx 20 1 12,Zv 5 19,Zv 6 20])
 (.seq (.seq (.ops [
 Zv 21 5,⟨some 22,none,.bin .gtr (.t 21) (.c (.dat (.int .u64 0)))⟩,Zv 23 22,⟨some 24,some (23,false),.mv (.t 6)⟩,⟨some 25,some (23,false),.bin .gtr (.t 24) (.c (.dat (.int .u64 9223372036854775807)))⟩,Zp 26 23 25])
 (.cond (.t 26)
 (.ops [
 ⟨some 27,none,.bad⟩,⟨none,none,.bad⟩])
 .skip))
 (.seq (.ops [
 Zv 28 6,⟨some 29,none,.conv .i64 (.t 28)⟩,⟨some 30,none,.mksl 131030 [(ZI 0),.nil,(ZI 0),.nil] 64 (.t 29) (.t 29)⟩,Zv 7 30])
 (.seq (.ops [
 Zv 31 7,Zv 32 0,⟨some 33,none,.cpy 4 (.t 31) (.t 32)⟩,Zv 8 33])
 (.seq (.block 0
 (.loop
 (.seq (.seq (.ops [
 Zv 34 8,Zv 35 7,Zn 36 35,Zo 37 .lss 34 36])
 (.cond (.t 37)
 .skip
 (.exit 0)))
 (.block 1
 (.opsD [
 Zv 38 8,Zv 39 7,Zv 40 8,⟨some 41,none,.slc 4 (.t 39) (some (.t 40)) none none⟩,Zv 42 7,Zv 43 8,⟨some 44,none,.slc 4 (.t 42) none (some (.t 43)) none⟩,⟨some 45,none,.cpy 4 (.t 41) (.t 44)⟩,Zo 46 .add 38 45,Zv 8 46] [[],[],[],[],[],[],[],[],[],[]])))))
 (.seq (.ops [
 Zv 47 7,Zv 4 47])
 .ret)))))))) }
def mf_slices_IndexFunc_Row:MFunc :=
 { n:=19,np:=2,res:=[.t 4],body :=
 (.seq (.ops [
 Zi 4 0])
 (.seq (.seq (.ops [
 Zv 6 0,Zn 7 6,Zi 8 0])
 (.block 0
 (.loop
 (.seq (.ops [
 Zo 9 .lss 8 7])
 (.seq (.cond (.t 9)
 .skip
 (.exit 0))
 (.seq (.block 1
 (.seq (.ops [
 Zv 10 8,Zv 5 10])
 (.seq (.ops [
 Zv 11 1,Zv 12 0,Zv 13 5,Za 14 5 12 13,Zu 15 5 14,⟨some 16,none,.callv (.t 11) [(.t 15)]⟩])
 (.cond (.t 16)
 (.seq (.ops [
 Zv 17 5,Zv 4 17])
 .ret)
 .skip))))
 (.ops [
 Zc 18 .add 8 1,Zv 8 18])))))))
 (.seq (.ops [
 ⟨some 4,none,.mv (.c (.dat (.int .i64 (-1))))⟩])
 .ret))) }
def mf_slices_IndexFunc_Frac:MFunc :=
 { n:=19,np:=2,res:=[.t 4],body :=
 (.seq (.ops [
 Zi 4 0])
 (.seq (.seq (.ops [
 Zv 6 0,Zn 7 6,Zi 8 0])
 (.block 0
 (.loop
 (.seq (.ops [
 Zo 9 .lss 8 7])
 (.seq (.cond (.t 9)
 .skip
 (.exit 0))
 (.seq (.block 1
 (.seq (.ops [
 Zv 10 8,Zv 5 10])
 (.seq (.ops [
 Zv 11 1,Zv 12 0,Zv 13 5,Za 14 4 12 13,Zu 15 4 14,⟨some 16,none,.callv (.t 11) [(.t 15)]⟩])
 (.cond (.t 16)
 (.seq (.ops [
 Zv 17 5,Zv 4 17])
 .ret)
 .skip))))
 (.ops [
 Zc 18 .add 8 1,Zv 8 18])))))))
 (.seq (.ops [
 ⟨some 4,none,.mv (.c (.dat (.int .i64 (-1))))⟩])
 .ret))) }
def mf_slices_Clone_Frac:MFunc :=
 { n:=8,np:=1,res:=[.t 2],body :=
 (.seq (.ops [
 Ze 2])
 (.seq (.seq (.ops [
 Zv 3 0,⟨some 4,none,.isnil false (.t 3)⟩])
 (.cond (.t 4)
 (.seq (.ops [
 Ze 2])
 .ret)
 .skip))
 (.seq (.ops [
 ⟨some 5,none,.bsl 147005 true [] 4 0 []⟩,Zv 6 0,⟨some 7,none,.app 147007 [(ZI 0),.nil,(ZI 0),.nil] 64 (.t 5) (.t 6)⟩,Zv 2 7])
 .ret))) }
def mf_slices_Clone_int:MFunc :=
 { n:=8,np:=1,res:=[.t 2],body :=
 (.seq (.ops [
 Ze 2])
 (.seq (.seq (.ops [
 Zv 3 0,⟨some 4,none,.isnil false (.t 3)⟩])
 (.cond (.t 4)
 (.seq (.ops [
 Ze 2])
 .ret)
 .skip))
 (.seq (.ops [
 ⟨some 5,none,.bsl 156005 true [] 1 0 []⟩,Zv 6 0,⟨some 7,none,.app 156007 [(ZI 0)] 8 (.t 5) (.t 6)⟩,Zv 2 7])
 .ret))) }
def mf_slices_IndexFunc_int:MFunc :=
 { n:=19,np:=2,res:=[.t 4],body :=
 (.seq (.ops [
 Zi 4 0])
 (.seq (.seq (.ops [
 Zv 6 0,Zn 7 6,Zi 8 0])
 (.block 0
 (.loop
 (.seq (.ops [
 Zo 9 .lss 8 7])
 (.seq (.cond (.t 9)
 .skip
 (.exit 0))
 (.seq (.block 1
 (.seq (.ops [
 Zv 10 8,Zv 5 10])
 (.seq (.ops [
 Zv 11 1,Zv 12 0,Zv 13 5,Za 14 1 12 13,Zl 15 1 14,⟨some 16,none,.callv (.t 11) [(.t 15)]⟩])
 (.cond (.t 16)
 (.seq (.ops [
 Zv 17 5,Zv 4 17])
 .ret)
 .skip))))
 (.ops [
 Zc 18 .add 8 1,Zv 8 18])))))))
 (.seq (.ops [
 ⟨some 4,none,.mv (.c (.dat (.int .i64 (-1))))⟩])
 .ret))) }
def mf_slices_Max_int:MFunc :=
 { n:=25,np:=1,res:=[.t 2],body :=
 (.seq (.ops [
 Zi 2 0])
 (.seq (.seq (.ops [
 Zv 5 0,Zn 6 5,Zc 7 .lss 6 1])
 (.cond (.t 7)
 (.ops [
 ⟨some 8,none,.bad⟩,⟨none,none,.bad⟩])
 .skip))
 (.seq (.ops [
 Zv 9 0,⟨some 10,none,.iad 1 (.t 9) (.c (ZI 0))⟩,Zl 11 1 10,Zv 3 11])
 (.seq (.seq (.ops [
 Zi 4 1])
 (.block 0
 (.loop
 (.seq (.seq (.ops [
 Zv 12 4,Zv 13 0,Zn 14 13,Zo 15 .lss 12 14])
 (.cond (.t 15)
 .skip
 (.exit 0)))
 (.seq (.block 1
 (.ops [
 Zv 18 3,Zv 19 0,Zv 20 4,Za 21 1 19 20,Zl 22 1 21,⟨some 23,none,.mm true (.t 18) (.t 22)⟩,Zv 3 23]))
 (.ops [
 Zv 16 4,Zc 17 .add 16 1,Zv 4 17]))))))
 (.seq (.ops [
 Zv 24 3,Zv 2 24])
 .ret))))) }
def mf_slices_ContainsFunc_int:MFunc :=
 { n:=9,np:=2,res:=[.t 4],body :=
 (.seq (.ops [
 Zb 4 false])
 (.seq (.ops [
 Zv 5 0,Zv 6 1,⟨some 7,none,.call bX [(.t 5),(.t 6)]⟩,Zc 8 .geq 7 0,Zv 4 8])
 .ret)) }
def mf_slices_ContainsFunc_Claim:MFunc :=
 { n:=9,np:=2,res:=[.t 4],body :=
 (.seq (.ops [
 Zb 4 false])
 (.seq (.ops [
 Zv 5 0,Zv 6 1,⟨some 7,none,.call eD [(.t 5),(.t 6)]⟩,Zc 8 .geq 7 0,Zv 4 8])
 .ret)) }
def mf_slices_IndexFunc_Claim:MFunc :=
 { n:=19,np:=2,res:=[.t 4],body :=
 (.seq (.ops [
 Zi 4 0])
 (.seq (.seq (.ops [
 Zv 6 0,Zn 7 6,Zi 8 0])
 (.block 0
 (.loop
 (.seq (.ops [
 Zo 9 .lss 8 7])
 (.seq (.cond (.t 9)
 .skip
 (.exit 0))
 (.seq (.block 1
 (.seq (.ops [
 Zv 10 8,Zv 5 10])
 (.seq (.ops [
 Zv 11 1,Zv 12 0,Zv 13 5,Za 14 4 12 13,Zu 15 4 14,⟨some 16,none,.callv (.t 11) [(.t 15)]⟩])
 (.cond (.t 16)
 (.seq (.ops [
 Zv 17 5,Zv 4 17])
 .ret)
 .skip))))
 (.ops [
 Zc 18 .add 8 1,Zv 8 18])))))))
 (.seq (.ops [
 ⟨some 4,none,.mv (.c (.dat (.int .i64 (-1))))⟩])
 .ret))) }
set_option maxRecDepth 10000
set_option maxHeartbeats 1000000
theorem rc (l:List Int) (n:Nat) (hn:n<l.length) (h:l[n]=0):cm (l.take (n+1))=cm (l.take n):=by
 rw[VK,VL hn,h];exact r5 _
theorem rf (l:List Int) (n:Nat) (hn:n<l.length) (h:l[n]≠0):cm (l.take (n+1))=l.take (n+1):=by
 rw[VK,VL hn];exact uD _ h
noncomputable def nb:List Data→Option PRes:=FF (α:=List Int) (fun (l:List Int)=>([.sl (l.map aa)]:List Data)) (fun (l:List Int)=>aG (l.length≤1000000) (.same (.sl ((cm l).map aa))))
theorem Cb:∀ a b:List Int,(fun (l:List Int)=>([.sl (l.map aa)]:List Data)) a=(fun (l:List Int)=>([.sl (l.map aa)]:List Data)) b→a=b:=by
  intro l1 l2 h;exact af ai _ _ (by simpa using h)
@[go_sem] theorem oG (l:List Int) (hc:l.length≤1000000):nb [.sl (l.map aa)]=some (.same (.sl ((cm l).map aa))):=(aV Cb l).trans (an hc _)
theorem NQ (T:Tab)  (l:List Int) (hc:l.length≤1000000) :
  wp T mf_big_trim.body (bG mf_big_trim.res (.same (.sl ((cm l).map aa)))) ⟨ax [.dat (.sl (l.map aa))],emp⟩:=by
 refine ap ?_;simp only[mf_big_trim];have hev:((l.map aa).all fun e=>e.length==1)=true:=by simp [aa]
 refine qI ?_
 repeat' (intro h<;>simp only[h,go_sem,go_sem_proc,VM,VN]<;>try refine qS ?_ ?_)
 refine ae [0] [] (fun (n:Nat) tm mem=>n≤l.length∧cm l=cm (l.take n)∧tm 3 = .dat (.int .i64 n)) (fun n=>n) l.length (by refine⟨VO _,by simp,by simp [go_sem]⟩) ?_;intro vs ms hvs hms;simp only[go_sem,go_sem_proc,VM,VN] at hvs hms;subst hvs hms;rintro n tm mem hk-⟨hn,ht,h3⟩;simp only[go_sem,go_sem_proc,VM,List.cons.injEq] at hk;have h0:=hk;rcases n with _ | n
 ·refine qI ?_
  repeat' (intro h<;>simp only[h,go_sem,go_sem_proc,VM,h0,h3,hev,VP,VQ,show ¬ ((0:Int)>0) by omega,decide_false,VN,show (0:Int).toNat=0 from rfl,show (0:Int)≤0 by omega,VS,List.take_zero,VT]<;>try refine qS ?_ ?_)
  rw[ht];simp [cm]
 ·have hw:IntKind.i64.wrap (((n+1:Nat):Int)-1)=(n:Int):=by rw[aj _ (by omega) (by omega)];omega
  have hx:l[n]?=some l[n]:=VL (by omega);have hpos:((n+1:Nat):Int)>0:=by omega
  have hle:n+1≤l.length:=hn
  by_cases hz:l[n]=0
  ·refine qI ?_
   repeat' (intro h<;>simp only[h,go_sem,go_sem_proc,VM,h0,h3,hw,hx,hz,hpos,VN,VU,decide_true,aa,beq_self_eq_true,List.cons.injEq]<;>try refine qS ?_ ?_)
   exact⟨n,by omega,by omega,by rw[ht,rc l n (by omega) hz],rfl⟩
  ·have hzf:(l[n]==0)=false:=by simpa using hz
   refine qI ?_
   repeat' (intro h<;>simp only[h,go_sem,go_sem_proc,VM,h0,h3,hw,hx,hzf,hpos,hev,hle,aa,VN,VU,decide_true,List.cons.injEq,show (0:Int)≤((n+1:Nat):Int) by omega,VV,VS]<;>try refine qS ?_ ?_)
   rw[ht,rf l n (by omega) hz,List.map_take]
structure Np where
 l:List Int
 k:Key
 g:Nat
noncomputable def jZ:List MV→Mem→Option (MV × Mem):=GG (fun (a:Np) args mem=>args=[.ref a.k a.g 1 0 a.l.length]∧mem a.k=some (a.g,ay aa a.l)∧a.l.length≤1000000) (fun a mem=>(.ref a.k a.g 1 0 (cm a.l).length,mem))
theorem tB {α:Type} {enc:α→List Data} {sz:Nat} (h:∀ a,(enc a).length=sz) (hi:∀ a b,enc a=enc b→a=b):∀ (l l':List α),ay enc l=ay enc l'→0<sz→l=l':=by
 intro l
 induction l with
 | nil =>
  intro l' e hz
  cases l' with
  | nil=>rfl
  | cons b r =>
   have:=congrArg VW e;rw[dx h,dx h] at this;simp only[VX,VC,VY,VZ] at this;omega
 | cons a r ih =>
  intro l' e hz
  cases l' with
  | nil =>
   have:=congrArg VW e;rw[dx h,dx h] at this;simp only[VX,VC,VY,VZ] at this;omega
  | cons b r' =>
   rw[fR,fR] at e;have hl:((enc a).map MV.dat).length=((enc b).map MV.dat).length:=by simp [h]
   obtain⟨e1,e2⟩:=List.append_inj e hl;have e3:=af (fun x y (e:MV.dat x=MV.dat y)=>by cases e;rfl) _ _ e1;rw[hi _ _ e3,ih r' e2 hz]
theorem rb (l:List Int) (k g:Nat) (mem:Mem) (h:mem k=some (g,ay aa l)) (hl:l.length≤1000000):jZ [.ref k g 1 0 l.length] mem=some (.ref k g 1 0 (cm l).length,mem):=by
 unfold jZ;refine M9 (a:=(⟨l,k,g⟩:Np)) ?_ ⟨rfl,h,hl⟩;rintro a b args mem ⟨h1,h2,_⟩ ⟨h3,h4,_⟩;rw[h1] at h3;simp only[List.cons.injEq,MV.ref.injEq,true_and,and_true] at h3;obtain⟨ek,eg,_⟩:=h3;rw[ek,h4] at h2;simp only[Option.some.injEq,Prod.mk.injEq] at h2;have:=tB bc ai _ _ h2.2 (by omega);rw[ek,eg,this]
@[go_sem] theorem OH (d:Data) (mem:Mem):jZ [.dat d] mem=none:=by
 cases hx:jZ [.dat d] mem with
 | none=>rfl
 | some x =>
  unfold jZ at hx;obtain⟨a,⟨h,_⟩,_⟩:=Cn hx
  cases h
theorem KS (T:Tab) (l:List Int) (k g:Nat) (mem:Mem) (hm:mem k=some (g,ay aa l)) (hc:l.length≤1000000) :
  wp T mf_big_trim.body (Gn mf_big_trim.res (.ref k g 1 0 (cm l).length) mem) ⟨ax [.ref k g 1 0 l.length],mem⟩:=by
 refine ap ?_;simp only[mf_big_trim];refine qI ?_
 repeat' (intro h<;>simp only[h,go_sem,go_sem_proc,VM,hm]<;>try refine qS ?_ ?_)
 refine ae [0] [] (fun (n:Nat) tm mem'=>n≤l.length∧cm l=cm (l.take n)∧tm 3 = .dat (.int .i64 n)∧mem'=mem) (fun n=>n) l.length (by refine⟨VO _,by simp,by simp [go_sem],rfl⟩) ?_;intro vs ms hvs hms;simp only[go_sem,go_sem_proc,VM] at hvs hms;subst hvs hms;rintro n tm _ hk-⟨hn,ht,h3,rfl⟩;simp only[go_sem,go_sem_proc,VM,List.cons.injEq] at hk;have h0:=hk;rcases n with _ | n
 ·refine qI ?_
  repeat' (intro h<;>simp only[h,go_sem,go_sem_proc,VM,h0,h3,hm,VP,VQ,show ¬ ((0:Int)>0) by omega,decide_false,show (0:Int).toNat=0 from rfl,show (0:Int)≤0 by omega,VS]<;>try refine qS ?_ ?_)
  rw[ht];simp [cm]
 ·have hw:IntKind.i64.wrap (((n+1:Nat):Int)-1)=(n:Int):=by rw[aj _ (by omega) (by omega)];omega
  have hx:l[n]?=some l[n]:=VL (by omega);have hpos:((n+1:Nat):Int)>0:=by omega
  have hle:n+1≤l.length:=hn;have hlt:n<l.length:=hn;have hcut:=tl bc hx (f:=0) (n:=1) (by omega);have hcl:=dx bc l;rw[V0] at hcl;have hcut':n+1≤(ay aa l).length:=by omega
  have hcut2:V1 1 (V3 n (ay aa l))=[.dat (.int .i64 l[n])]:=by
   unfold cut at hcut;rw[V0,V4,if_pos (by omega)] at hcut
   simpa [aa] using hcut
  by_cases hz:l[n]=0
  ·refine qI ?_
   repeat' (intro h<;>simp only[h,go_sem,go_sem_proc,VM,h0,h3,hm,hw,hlt,hcut',hcut2,hz,hpos,decide_true,V0,beq_self_eq_true]<;>try refine qS ?_ ?_)
   exact⟨n,by omega,by omega,by rw[ht,rc l n (by omega) hz],rfl⟩
  ·have hzf:(l[n]==0)=false:=by simpa using hz
   refine qI ?_
   repeat' (intro h<;>simp only[h,go_sem,go_sem_proc,VM,h0,h3,hm,hw,hlt,hcut',hcut2,hzf,hpos,hle,decide_true,V0,show (0:Int)≤((n+1:Nat):Int) by omega,VV,VS,Nat.sub_zero]<;>try refine qS ?_ ?_)
   rw[ht,rf l n (by omega) hz];simp;omega
noncomputable def y6:List Data→Option PRes:=FF (α:=Int) (fun (n:Int)=>([.int .i64 n]:List Data)) (fun (n:Int)=>some (.same (.bool false)))
theorem A0:∀ a b:Int,(fun (n:Int)=>([.int .i64 n]:List Data)) a=(fun (n:Int)=>([.int .i64 n]:List Data)) b→a=b:=by
  intro n1 n2 h;simp only[List.cons.injEq,Data.int.injEq,Data.agg.injEq,Data.sl.injEq,Data.bool.injEq,Data.str.injEq,Data.ptr.injEq,Data.tup.injEq,Prod.mk.injEq,true_and,and_true] at h ⊢
  first | exact h | simpa [V5,and_assoc] using h | grind
@[go_sem] theorem NC (n:Int):y6 [.int .i64 n]=some (.same (.bool false)):=aV A0 n
theorem KQ (T:Tab)  (n:Int) :
  wp T mf_cmp_isNaN_int.body (bG mf_cmp_isNaN_int.res (.same (.bool false))) ⟨ax [.dat (.int .i64 n)],emp⟩:=by
 refine ap ?_;simp only[mf_cmp_isNaN_int];refine qI ?_
 repeat' (intro h<;>simp only[h,go_sem,go_sem_proc,VM,beq_self_eq_true]<;>try refine qS ?_ ?_)
def fW (a b:Int):Int:=if decide (a<b)=true then -1 else if decide (a>b)=true then 1 else 0
noncomputable def yu:List Data→Option PRes:=FF (α:=Int × Int) (fun (a,b)=>([.int .i64 a,.int .i64 b]:List Data)) (fun (a,b)=>some (.same (.int .i64 (fW a b))))
theorem CG:∀ a b:Int × Int,(fun (a,b)=>([.int .i64 a,.int .i64 b]:List Data)) a=(fun (a,b)=>([.int .i64 a,.int .i64 b]:List Data)) b→a=b:=by
  rintro⟨a1,b1⟩ ⟨a2,b2⟩ h;simp only[List.cons.injEq,Data.int.injEq,Data.agg.injEq,Data.sl.injEq,Data.bool.injEq,Data.str.injEq,Data.ptr.injEq,Data.tup.injEq,Prod.mk.injEq,true_and,and_true] at h ⊢
  first | exact h | simpa [V5,and_assoc] using h | grind
@[go_sem] theorem PP (a:Int) (b:Int):yu [.int .i64 a,.int .i64 b]=some (.same (.int .i64 (fW a b))):=aV CG (a,b)
theorem Ol (T:Tab) (LO:T gO=mkE y6) (a:Int) (b:Int) :
  wp T mf_cmp_Compare_int.body (bG mf_cmp_Compare_int.res (.same (.int .i64 (fW a b)))) ⟨ax [.dat (.int .i64 a),.dat (.int .i64 b)],emp⟩:=by
 refine ap ?_;simp only[mf_cmp_Compare_int];refine qI ?_
 repeat' (intro h<;>simp only[h,go_sem,go_sem_proc,VM,LO]<;>try refine qS ?_ ?_)
 all_goals simp only[fW, *,reduceIte,V6,V7,V8,V9,Wa,Wb,Wc,Wd,We,Wf,VM,beq_self_eq_true,bne]
def orI:List Int→Int
 | []=>0
 | d::r=>if (d==0)=true then orI r else d
noncomputable def Kh:List Data→Option PRes:=FF (α:=List Int) (fun (l:List Int)=>([.sl (l.map aa)]:List Data)) (fun (l:List Int)=>aG (l.length≤1000000) (.same (.int .i64 (orI l))))
theorem GO:∀ a b:List Int,(fun (l:List Int)=>([.sl (l.map aa)]:List Data)) a=(fun (l:List Int)=>([.sl (l.map aa)]:List Data)) b→a=b:=by
  intro l1 l2 h;exact af ai _ _ (by simpa using h)
@[go_sem] theorem JR (l:List Int) (hc:l.length≤1000000):Kh [.sl (l.map aa)]=some (.same (.int .i64 (orI l))):=(aV GO l).trans (an hc _)
theorem Rt (T:Tab)  (l:List Int) (hc:l.length≤1000000) :
  wp T mf_cmp_Or_int.body (bG mf_cmp_Or_int.res (.same (.int .i64 (orI l)))) ⟨ax [.dat (.sl (l.map aa))],emp⟩:=by
 refine ap ?_;simp only[mf_cmp_Or_int];simp only[go_sem,go_sem_proc,VM,VN]
 repeat' (first|refine qS ?_ ?_|fail)<;>intro h<;>simp only[h,go_sem,go_sem_proc,VM,VN]
 refine ae [3,6,7] [] (fun i tm mem=>0≤i∧i≤(l.length:Int)∧orI l=orI (l.drop i.toNat)∧tm 8 = .dat (.int .i64 i)) (fun i=>(l.length-i).toNat) 0 (by refine⟨by omega,by omega,by simp,by simp [go_sem]⟩) ?_;intro vs ms hvs hms;simp only[go_sem,go_sem_proc,VM] at hvs hms;subst hvs hms;rintro i tm mem hk-⟨hi0,hi,hf,h8⟩;simp only[go_sem,go_sem_proc,VM,List.cons.injEq] at hk;obtain⟨h3,h6,h7⟩:=hk;rcases Wg (i<l.length) with hlt | hge
 ·obtain⟨x,hx,hd,-⟩:=D0 l i hi0 hlt
  simp only[go_sem,go_sem_proc,VM,h3,h6,h7,h8,hx,hlt,hi0,aa,VN,VU,decide_true,List.cons.injEq]
  repeat' (first|refine qS ?_ ?_|fail)<;>intro h<;>simp only[h,go_sem,go_sem_proc,VM,h3,h6,h7,h8,hx,hlt,hi0,aa,VN,VU,decide_true,List.cons.injEq]
  ·rw[hf,hd];simp [orI,h]
  ·exact⟨i+1,by omega,by omega,by omega,by rw[hf,hd];simp only[orI, *,reduceIte,V6,V7,V8,V9,Wa,Wb,Wc,Wd,We,Wf,VM,beq_self_eq_true,bne],by rw[aj _ (by omega) (by omega)]⟩
 ·have he:l.drop i.toNat=[]:=Wh (by omega)
  simp only[go_sem,go_sem_proc,VM,h3,h6,h7,h8,hge,decide_false]
  repeat' (first|refine qS ?_ ?_|fail)<;>intro h<;>simp only[h,go_sem,go_sem_proc,VM,h3,h6,h7,h8,hge,decide_false]
  rw[hf,he];rfl
theorem qR (l:List Int):((l.map aa).all fun e=>e.length==1)=true:=by simp [aa]
noncomputable def lk:List Data→Option PRes:=FF (α:=List Int) (fun (l:List Int)=>([.sl (l.map aa)]:List Data)) (fun (l:List Int)=>aG (l.length≤1000000) (.own 1 (l.map aa)))
theorem Au:∀ a b:List Int,(fun (l:List Int)=>([.sl (l.map aa)]:List Data)) a=(fun (l:List Int)=>([.sl (l.map aa)]:List Data)) b→a=b:=by
  intro l1 l2 h;exact af ai _ _ (by simpa using h)
@[go_sem] theorem tj (l:List Int) (hc:l.length≤1000000):lk [.sl (l.map aa)]=some (.own 1 (l.map aa)):=(aV Au l).trans (an hc _)
theorem Ma (T:Tab)  (l:List Int) (hc:l.length≤1000000) :
  wp T mf_slices_Clone_int.body (bG mf_slices_Clone_int.res (.own 1 (l.map aa))) ⟨ax [.dat (.sl (l.map aa))],emp⟩:=by
 refine ap ?_;simp only[mf_slices_Clone_int]
 have hap:lg 156005 0 1 0 8 l.length ((l.map aa).flatten.map .dat) (some (0,[]))=some (.ref 156005 1 1 0 l.length,some (156005,1,ay aa l)):=by
  have:=me bc fO 156005 0 8 [] l (by simp;omega) (by simp;omega)
  simpa [ay] using this
 have hlen:(ay aa l).length=l.length:=by rw[dx bc];omega
 refine qI ?_
 repeat' (intro h<;>simp only[h,go_sem,go_sem_proc,VM,qR,hap,VN]<;>try refine qS ?_ ?_)
 rintro b hb
 cases b
 ·refine qI ?_
  repeat' (intro h<;>simp only[h,go_sem,go_sem_proc,VM,qR,hap,VN,rJ,V0,hlen]<;>try refine qS ?_ ?_)
  rw[if_pos (by omega),Wi (by omega)];unfold ay;rw[mj _ fun d=>rfl]
  have:=jd (sz:=1) (l.map aa) (by simp [aa]);rw[VN] at this;simp [this]
 ·cases l with
  | nil =>
       refine qI ?_
       repeat' (intro h<;>simp only[h,go_sem,go_sem_proc,VM,rJ,VT]<;>try refine qS ?_ ?_)
  | cons x r=>simp at hb
abbrev Raw:=Int × List Int
def bF (a:Raw):List Data:=[.int .i64 a.1,.sl (a.2.map aa)]
def mE (d:Int):Bool:=!decide (d<0) && !decide (d>1048575)
def aI (a:Raw):Bool:=a.2.all mE&&(if (a.2.length==0)=true then a.1==0 else ((a.1==1||a.1 == -1)&&decide (a.2.length≤60)&&(a.2.getLast? != some 0)))
noncomputable def d8:List Data→Option PRes:=FF (α:=Int × (List Int)) (fun (s,l)=>([.agg [.int .i64 s,.sl (l.map aa)]]:List Data)) (fun (s,l)=>aG (l.length≤1000000) (.same (.bool (aI (s,l)))))
theorem tf:∀ a b:Int × (List Int),(fun (s,l)=>([.agg [.int .i64 s,.sl (l.map aa)]]:List Data)) a=(fun (s,l)=>([.agg [.int .i64 s,.sl (l.map aa)]]:List Data)) b→a=b:=by
  rintro⟨s1,l1⟩ ⟨s2,l2⟩ h;simp only[List.cons.injEq,Data.agg.injEq,Data.int.injEq,Data.sl.injEq] at h;exact Wj h.1.1.2 (af ai _ _ h.1.2.1)
@[go_sem] theorem KJ (s:Int) (l:List Int) (hc:l.length≤1000000):d8 [.agg [.int .i64 s,.sl (l.map aa)]]=some (.same (.bool (aI (s,l)))):=(aV tf (s,l)).trans (an hc _)
theorem B3 (T:Tab)  (s:Int) (l:List Int) (hc:l.length≤1000000) :
  wp T mf_big_Right.body (bG mf_big_Right.res (.same (.bool (aI (s,l))))) ⟨ax [.dat (.agg [.int .i64 s,.sl (l.map aa)])],emp⟩:=by
 refine ap ?_;simp only[mf_big_Right];refine qI ?_
 repeat' (intro h<;>simp only[h,go_sem,go_sem_proc,VM,VN]<;>try refine qS ?_ ?_)
 refine ae [1,3,10,11] [136001] (fun i tm mem=>0≤i∧i≤(l.length:Int)∧l.all mE=(l.drop i.toNat).all mE∧tm 12 = .dat (.int .i64 i)) (fun i=>(l.length-i).toNat) 0 (by refine⟨by omega,by omega,by simp,by simp [go_sem]⟩) ?_;intro vs ms hvs hms;simp only[go_sem,go_sem_proc,VM,VN] at hvs hms;subst hvs hms;rintro i tm mem hk hm ⟨hi0,hi,hf,h12⟩;simp only[go_sem,go_sem_proc,VM,List.cons.injEq] at hk hm;obtain⟨h1,h3,h10,h11⟩:=hk;rcases Wg (i<l.length) with hlt | hge
 ·obtain⟨x,hx,hd,-⟩:=D0 l i hi0 hlt
  have hfin:∀ b,mE x=true→b=(l.drop (i+1).toNat).all mE→l.all mE=b:=by
   intro b h1 h2;rw[hf,hd,Wk,h1,h2,Wd]
  have hbad:mE x=false→aI (s,l)=false:=by
   intro h1;unfold aI;rw[hf,hd,Wk,h1]
   rfl
  refine qI ?_
  repeat' (intro h<;>simp only[h,go_sem,go_sem_proc,VM,h1,h3,h10,h11,h12,hm,hx,hlt,hi0,aa,VN,VU,decide_true,List.cons.injEq]<;>try refine qS ?_ ?_)
  ·rw[hbad (by simp only[mE, *,reduceIte,V6,V7,V8,V9,Wa,Wb,Wc,Wd,We,Wf,VM,beq_self_eq_true,bne])]
  ·exact⟨i+1,by omega,by omega,by omega,by refine hfin _ ?_ rfl;simp only[mE, *,reduceIte,V6,V7,V8,V9,Wa,Wb,Wc,Wd,We,Wf,VM,beq_self_eq_true,bne],by rw[aj _ (by omega) (by omega)]⟩
  ·rw[hbad (by simp only[mE, *,reduceIte,V6,V7,V8,V9,Wa,Wb,Wc,Wd,We,Wf,VM,beq_self_eq_true,bne])]
 ·have he:l.drop i.toNat=[]:=Wh (by omega)
  rw[he] at hf;have hall:l.all mE=true:=by rw[hf];rfl
  rcases VG l with rfl | ⟨r,x,rfl⟩
  ·have hge0:¬ i<(0:Int):=by simpa using hge
   refine qI ?_
   repeat' (intro h<;>simp only[h,go_sem,go_sem_proc,VM,h1,h3,h10,h11,h12,hm,hge0,decide_false,VX,VP,VQ,beq_self_eq_true]<;>try refine qS ?_ ?_)
   simp [aI]
  ·rw[VH] at *
   have hne:(((r++[x]).length:Int)==0)=false:=by simp;omega
   have hw:IntKind.i64.wrap (((r++[x]).length:Int)-1)=(r.length:Int):=by
    have hl2:(r++[x]).length=r.length+1:=by simp
    rw[aj _ (by omega) (by omega)];omega
   have hg:((r++[x]).map aa)[r.length]?=some [.int .i64 x]:=by simp [aa]
   have hr:aI (s,r++[x])=((s==1||s == -1)&&decide (((r++[x]).length:Int)≤60)&&(x != 0)):=by
    unfold aI;rw[hall];simp only[List.getLast?_append,List.getLast?_singleton];simp;have e1:decide (r.length≤59)=decide ((r.length:Int)+1≤60):=decide_eq_decide.2 (by omega);have e2:(some x != some (0:Int))=(x != 0):=by simp [bne]
    rw[e1,e2]
   rw[hr];refine qI ?_
   repeat' (intro h<;>simp only[h,go_sem,go_sem_proc,VM,h1,h3,h10,h11,h12,hm,hge,hne,hw,hg,decide_false,VN]<;>try refine qS ?_ ?_)
   all_goals simp only[*,reduceIte,V6,V7,V8,V9,Wa,Wb,Wc,Wd,We,Wf,VM,beq_self_eq_true,bne]
def eU (s:Int) (l:List Int):Raw:=if (((cm l).length:Int)==0)=true then (0,[]) else (s,cm l)
noncomputable def jK:List Data→Option PRes:=FF (α:=Int × (List Int)) (fun (s,l)=>([.int .i64 s,.sl (l.map aa)]:List Data)) (fun (s,l)=>aG (l.length≤1000000) (.same (.agg (bF (eU s l)))))
theorem yb:∀ a b:Int × (List Int),(fun (s,l)=>([.int .i64 s,.sl (l.map aa)]:List Data)) a=(fun (s,l)=>([.int .i64 s,.sl (l.map aa)]:List Data)) b→a=b:=by
  rintro⟨s1,l1⟩ ⟨s2,l2⟩ h;simp only[List.cons.injEq,Data.int.injEq,Data.sl.injEq] at h;exact Wj h.1.2 (af ai _ _ h.2.1)
@[go_sem] theorem Nc (s:Int) (l:List Int) (hc:l.length≤1000000):jK [.int .i64 s,.sl (l.map aa)]=some (.same (.agg (bF (eU s l)))):=(aV yb (s,l)).trans (an hc _)
theorem HM (T:Tab) (a0:T cr=yA nb jZ) (s:Int) (l:List Int) (hc:l.length≤1000000) :
  wp T mf_big_signed.body (bG mf_big_signed.res (.same (.agg (bF (eU s l))))) ⟨ax [.dat (.int .i64 s),.dat (.sl (l.map aa))],emp⟩:=by
 refine ap ?_;simp only[mf_big_signed];refine qI ?_
 repeat' (intro h<;>simp only[h,go_sem,go_sem_proc,VM,a0,hc,VN]<;>try refine qS ?_ ?_)
 all_goals simp only[eU,bF,VT, *,reduceIte,V6,V7,V8,V9,Wa,Wb,Wc,Wd,We,Wf,VM,beq_self_eq_true,bne]
theorem ba (l:List Int) (i:Nat) (h:i<l.length):vl (l.take (i+1))=vl (l.take i)+1048576^i*l[i]:=by
 rw[VK,VL h,jn,VJ,Wl (by omega)];simp [vl]
theorem iW {l:List Int} (h:isD l) (i:Nat):isD (l.take i):=fun d hd=>h d (List.mem_of_mem_take hd)
theorem oX {l:List Int} (i:Nat) (hi:i<l.length):isD (l.take (i+1))↔isD (l.take i)∧(0≤l[i]∧l[i]<1048576):=by
 rw[VK,VL hi,isD_append];simp [isD_cons,isD]
theorem dO {l:List Int} (h:isD l) (i:Nat) (hi:i<l.length):0≤l[i]∧l[i]<1048576:=h _ (List.getElem_mem hi)
theorem kO (o:List Int) (i:Nat) (d:Int):(o.set i d).take i=o.take i:=by
 rw[List.take_set,List.set_eq_of_length_le];rw[VJ];omega
theorem eW (o:List Int):(ay aa o).length=o.length:=by rw[dx bc];omega
theorem qJ (o:List Int) (i:Nat) (h:i<o.length):V1 1 (V3 i (ay aa o))=[.dat (.int .i64 o[i])]:=by
 have hcut:=tl bc (VL h) (f:=0) (n:=1) (by omega);unfold cut at hcut;have:=eW o;rw[V0,V4,if_pos (by omega)] at hcut
 simpa [aa] using hcut
theorem ia (o:List Int) (i:Nat) (d:Int) (h:i<o.length):V1 i (ay aa o)++[.dat (.int .i64 d)]++V3 (i+1) (ay aa o)=ay aa (o.set i d):=by
 have:=zi bc h d;unfold splice at this
 simpa [aa] using this
theorem mb (n:Nat):(Wm n [MV.dat (.int .i64 0)]).flatten=ay aa (Wm n 0):=by
 induction n with
 | zero=>rfl
 | succ n ih=>rw[Wn,Wn,List.flatten_cons,fR,ih];rfl
theorem jh (n:Nat) (h:n≤1000000000):n≤maxLen:=Nat.le_trans h (by decide)
theorem Aq (l:List Int):(cm l).length≤l.length:=by
 induction l with
 | nil=>simp [cm]
 | cons d r ih=>unfold cm;split<;>(try split)<;>simp<;>omega
theorem Hc (l:List Int):l.take (cm l).length=cm l:=by
 induction l with
 | nil=>simp [cm]
 | cons d r ih =>
  unfold cm
  split
  ·split<;>simp
  ·simp [ih]
theorem Hy (l:List Int):∀ n:Nat,(ay aa l).take n=ay aa (l.take n):=by
 induction l with
 | nil=>intro n;simp [ay]
 | cons d r ih=>intro n;cases n with
  | zero=>simp [ay]
  | succ n=>rw[fR,List.take_succ_cons,fR,←ih];rfl
theorem Bd {mem:Mem} {k g n:Nat} {o:List Int} (hm:mem k=some (g,ay aa o)) (hn:n≤o.length):rJ 1 mem (.ref k g 1 0 n)=some ((o.take n).map aa):=by
 unfold rJ;dsimp only;rw[hm];simp only[and_self,if_true,V0];rw[eW,if_pos ⟨trivial,hn⟩,Hy];unfold ay;rw[mj _ fun d=>rfl]
 have:=jd (sz:=1) ((o.take n).map aa) (by intro e he;rw[List.mem_map] at he;obtain⟨x,-,rfl⟩:=he;rfl);rw[VN,VJ,Wl hn] at this;simp only[Option.map_some,this]
theorem uo {mem:Mem} {k g:Nat} {o:List Int} {n:Nat} (hm:mem k=some (g,ay aa o)) (hd:isD o) (hv:vl o=n):rJ 1 mem (.ref k g 1 0 (cm o).length)=some ((dg n).map aa):=by
 rw[Bd hm (Aq o),Hc,iP hd,hv]
 rfl
def digs (n:Nat):Data:=.sl ((dg n).map aa)
theorem pR {x y:Nat} (h:(dg x).length<(dg y).length):x<y:=by
 have h1:=(dg_len (n:=x) (k:=(dg x).length)).1 (VO _);have h2:=mt (dg_len (n:=y) (k:=(dg x).length)).2 (by omega);omega
theorem AR {a b:List Int} (ha:isD a) (hb:isD b) (hl:a.length=b.length) (i:Nat) (hi:i<a.length) (hd:a.drop (i+1)=b.drop (i+1)) (h:a[i]<b[i]):vl a<vl b:=by
 rw[i6 a (i+1),i6 b (i+1),hd,hl,ba a i hi,ba b i (by omega)];have h1:=qn (iW ha i);have h2:=cP (iW hb i);rw[VJ,Wl (by omega)] at h1;generalize (1048576:Int)^i=p at *
 have h3:p*a[i]+p≤p*b[i]:=by
  have:p*(a[i]+1)≤p*b[i]:=Int.mul_le_mul_of_nonneg_left (by omega) (by have:=cP (iW ha i);omega);rw[VE,Int.mul_one] at this;exact this
 omega
noncomputable def mz:List Data→Option PRes:=FF (α:=Nat × Nat) (fun (x,y)=>([digs x,digs y]:List Data)) (fun (x,y)=>aG ((dg x).length≤1000000∧(dg y).length≤1000000) (.same (.int .i64 (fW x y))))
theorem vL:∀ a b:Nat × Nat,(fun (x,y)=>([digs x,digs y]:List Data)) a=(fun (x,y)=>([digs x,digs y]:List Data)) b→a=b:=by
  rintro⟨x1,y1⟩ ⟨x2,y2⟩ h;simp only[List.cons.injEq,digs,Data.sl.injEq] at h;exact Wj (eR (af ai _ _ h.1)) (eR (af ai _ _ h.2.1))
@[go_sem] theorem mN (x:Nat) (y:Nat) (hc:(dg x).length≤1000000∧(dg y).length≤1000000):mz [digs x,digs y]=some (.same (.int .i64 (fW x y))):=(aV vL (x,y)).trans (an hc _)
theorem GT (T:Tab) (fu:T dz=mkE yu) (x:Nat) (y:Nat) (hc:(dg x).length≤1000000∧(dg y).length≤1000000) :
  wp T mf_big_compare.body (bG mf_big_compare.res (.same (.int .i64 (fW x y)))) ⟨ax [.dat (digs x),.dat (digs y)],emp⟩:=by
 refine ap ?_;simp only[mf_big_compare];obtain⟨hx,hy⟩:=hc;have hdx:=eB x;have hdy:=eB y;have hvx:=f7 x;have hvy:=f7 y;have hlt1:=@pR x y;have hlt2:=@pR y x
 by_cases hl:(dg x).length=(dg y).length
 ·generalize ha:dg x=a at *
  generalize hb:dg y=b at *;have hbeq:((a.length:Int)==(b.length:Int))=true:=by simp [hl]
  simp only[go_sem,go_sem_proc,VM,fu,digs,ha,hb,hbeq,VN];refine ae [0,1] [] (fun (n:Nat) tm mem=>n≤a.length∧a.drop n=b.drop n∧tm 5 = .dat (.int .i64 ((n:Int)-1))) (fun n=>n) a.length (by refine⟨VO _,by rw[Wo,hl,Wo],?_⟩;simp only[aH,reduceIte];rw[aj _ (by omega) (by omega)]) ?_
  intro vs ms hvs hms;simp only[go_sem,go_sem_proc,VM,fu,digs,ha,hb] at hvs hms;subst hvs hms;rintro n tm mem hk-⟨hn,hd,h5⟩;simp only[go_sem,go_sem_proc,VM,fu,List.cons.injEq] at hk;obtain⟨h0,h1⟩:=hk;rcases n with _ | n
  ·have e:a=b:=by simpa using hd
   have hxy:(x:Int)=y:=by rw[←hvx,←hvy,e]
   simp only[go_sem,go_sem_proc,VM,fu,h0,h1,h5,VP,VQ,show ¬ ((0:Int)-1≥0) by omega,decide_false]
   repeat' (first|refine qS ?_ ?_|fail)<;>intro h<;>simp only[h,go_sem,go_sem_proc,VM,fu,h0,h1,h5,VP,VQ,show ¬ ((0:Int)-1≥0) by omega,decide_false]
   rw[hxy];simp [fW]
  ·have hw:((n+1:Nat):Int)-1=(n:Int):=by omega
   have hga:a[n]?=some a[n]:=VL (by omega);have hgb:b[n]?=some b[n]:=VL (by omega)
   have hr:fW a[n] b[n]=fW x y∨a[n]=b[n]:=by
    by_cases h1:a[n]<b[n]
    ·left
     have:=AR hdx hdy hl n hn hd h1;simp only[fW];rw[if_pos (by simpa using h1),if_pos (by simp;omega)]
    ·by_cases h2:b[n]<a[n]
     ·left
      have:=AR hdy hdx hl.symm n (by omega) hd.symm h2;simp only[fW];rw[if_neg (by simp;omega),if_pos (by simp;omega),if_neg (by simp;omega),if_pos (by simp;omega)]
     ·right;omega
   by_cases hz:a[n]=b[n]
   ·simp only[go_sem,go_sem_proc,VM,fu,h0,h1,h5,hw,hga,hgb,hz,aa,show (n:Int)≥0 by omega,decide_true,VU,beq_self_eq_true,List.cons.injEq]
    repeat' (first|refine qS ?_ ?_|fail)<;>intro h<;>simp only[h,go_sem,go_sem_proc,VM,fu,h0,h1,h5,hw,hga,hgb,hz,aa,show (n:Int)≥0 by omega,decide_true,VU,beq_self_eq_true,List.cons.injEq]
    exact⟨n,by omega,by omega,by rw[Wp (by omega:n<a.length),Wp (by omega:n<b.length),hz,hd],by rw[aj _ (by omega) (by omega)]⟩
   ·have hzf:(a[n]==b[n])=false:=by simpa using hz
    simp only[go_sem,go_sem_proc,VM,fu,h0,h1,h5,hw,hga,hgb,hzf,aa,show (n:Int)≥0 by omega,decide_true,VU,List.cons.injEq]
    repeat' (first|refine qS ?_ ?_|fail)<;>intro h<;>simp only[h,go_sem,go_sem_proc,VM,fu,h0,h1,h5,hw,hga,hgb,hzf,aa,show (n:Int)≥0 by omega,decide_true,VU,List.cons.injEq]
    rw[hr.resolve_right hz]
 ·have hbeq:(((dg x).length:Int)==((dg y).length:Int))=false:=by simp;omega
  have hr:fW (dg x).length (dg y).length=fW x y:=by
   simp only[fW];rcases Nat.lt_or_ge (dg x).length (dg y).length with h | h
   ·have:=hlt1 h
    rw[if_pos (by simp;omega),if_pos (by simp;omega)]
   ·have:=hlt2 (by omega)
    rw[if_neg (by simp;omega),if_pos (by simp;omega),if_neg (by simp;omega),if_pos (by simp;omega)]
  simp only[go_sem,go_sem_proc,VM,fu,digs,hbeq,hr,VN]
  repeat' (first|refine qS ?_ ?_|fail)<;>intro h<;>simp only[h,go_sem,go_sem_proc,VM,fu,digs,hbeq,hr,VN]
theorem zw (p vo va vb c a b:Int) (h:vo+p*c=va+vb):vo+p*((c+a+b) % 1048576)+p*1048576*((c+a+b) / 1048576)=va+p*a+(vb+p*b):=by
 have h1:=Int.emod_add_mul_ediv (c+a+b) 1048576
 have h2:p*((c+a+b) % 1048576)+p*1048576*((c+a+b) / 1048576)=p*(c+a+b):=by
  rw[VF,←VE,h1]
 have h3:p*(c+a+b)=p*c+p*a+p*b:=by rw[VE,VE]
 omega
noncomputable def ER:List Data→Option PRes:=FF (α:=Nat × Nat) (fun (x,y)=>([digs x,digs y]:List Data)) (fun (x,y)=>aG ((dg x).length≤100000∧(dg y).length≤100000) (.own 1 ((dg (x+y)).map aa)))
theorem FV:∀ a b:Nat × Nat,(fun (x,y)=>([digs x,digs y]:List Data)) a=(fun (x,y)=>([digs x,digs y]:List Data)) b→a=b:=by
  rintro⟨x1,y1⟩ ⟨x2,y2⟩ h;simp only[List.cons.injEq,digs,Data.sl.injEq] at h;exact Wj (eR (af ai _ _ h.1)) (eR (af ai _ _ h.2.1))
@[go_sem] theorem Bo (x:Nat) (y:Nat) (hc:(dg x).length≤100000∧(dg y).length≤100000):ER [digs x,digs y]=some (.own 1 ((dg (x+y)).map aa)):=(aV FV (x,y)).trans (an hc _)
theorem Qv (T:Tab) (a0:T cr=yA nb jZ) (x:Nat) (y:Nat) (hc:(dg x).length≤100000∧(dg y).length≤100000) :
  wp T mf_big_add.body (bG mf_big_add.res (.own 1 ((dg (x+y)).map aa))) ⟨ax [.dat (digs x),.dat (digs y)],emp⟩:=by
 refine ap ?_;simp only[mf_big_add];obtain⟨hx,hy⟩:=hc;simp only[go_sem,go_sem_proc,VM,a0,digs,VN];refine HH (fun st=>∃ a b:List Int,isD a∧isD b∧a.length≤100000∧b.length≤a.length∧vl a+vl b=x+y∧st.tm 0 = .dat (.sl (a.map aa))∧st.tm 1 = .dat (.sl (b.map aa))∧st.mem 172019=none) (fun h=>?_) (fun h=>?_) ?_
 ·simp only[go_sem,go_sem_proc,VM,a0,digs]
  repeat' (first|refine qS ?_ ?_|fail)<;>intro h<;>simp only[h,go_sem,go_sem_proc,VM,a0,digs]
  refine⟨dg y,dg x,eB y,eB x,hy,?_,by rw[f7,f7];omega,rfl,rfl⟩
  simp at h;omega
 ·simp only[go_sem,go_sem_proc,VM,a0,digs]
  repeat' (first|refine qS ?_ ?_|fail)<;>intro h<;>simp only[h,go_sem,go_sem_proc,VM,a0,digs]
  refine⟨dg x,dg y,eB x,eB y,hx,?_,by rw[f7,f7],rfl,rfl⟩
  simp at h;omega
 rintro⟨tm,mem⟩ ⟨a,b,hda,hdb,hla,hlb,hv,h0,h1,hm⟩;dsimp only at h0 h1 hm;have hw1:IntKind.i64.wrap ((a.length:Int)+1)=((a.length+1:Nat):Int):=by rw[aj _ (by omega) (by omega)];rfl
 have hb1:8*(a.length+1)≤140737488355328:=by omega
 have hb2:a.length+1≤maxLen:=jh _ (by omega);simp only[go_sem,go_sem_proc,VM,a0,h0,h1,hm,hw1,hb1,hb2,mb,VN]
 refine ae [0,1,5,20,21] [] (fun (i,c,o) tm mem=>i≤a.length∧(o:List Int).length=a.length+1∧isD (o.take i)∧0≤c∧c≤1∧vl (o.take i)+1048576^i*c=vl (a.take i)+vl (b.take i)∧tm 22 = .dat (.int .i64 (i:Nat))∧tm 6 = .dat (.int .i64 c)∧mem 172019=some (0,ay aa o))
  (fun (i,_)=>a.length-i) (0,0,Wm (a.length+1) 0) (by refine⟨VS _,by simp,by simp [isD],by omega,by omega,by simp [vl],?_,?_,?_⟩<;>rfl) ?_
 intro vs ms hvs hms;simp only[go_sem,go_sem_proc,VM,a0,h0,h1,VN] at hvs hms;subst hvs hms;rintro⟨i,c,o⟩ tm mem hk-⟨hi,ho,hdo,hc0,hc1,hvi,h22,h6,hm⟩;simp only[go_sem,go_sem_proc,VM,a0,List.cons.injEq] at hk;obtain⟨h0,h1,h5,h20,h21⟩:=hk;rcases Wg (i<a.length) with hlt | hge
 ·have hga:a[i]?=some a[i]:=VL hlt
  have hai:=dO hda i hlt;have hw2:IntKind.i64.wrap ((i:Int)+1)=((i+1:Nat):Int):=by rw[aj _ (by omega) (by omega)];rfl
  have hio:i<o.length:=by omega
  have hio':i+1≤(ay aa o).length:=by rw[eW];omega
  have hw3:IntKind.i64.wrap (c+a[i])=c+a[i]:=aj _ (by omega) (by omega);have hfold:=fun d=>ia o i d hio
  have fin:∀ bi:Int,0≤bi→bi<1048576→vl (b.take (i+1))=vl (b.take i)+1048576^i*bi →
    ∃ i':Nat × Int × List Int,a.length-i'.1<a.length-i∧i'.1≤a.length∧i'.2.2.length=a.length+1∧isD (i'.2.2.take i'.1)∧0≤i'.2.1∧i'.2.1≤1∧vl (i'.2.2.take i'.1)+1048576^i'.1*i'.2.1=vl (a.take i'.1)+vl (b.take i'.1) ∧
     MV.dat (Data.int .i64 ((i+1:Nat):Int))=MV.dat (Data.int .i64 (i'.1:Int))∧MV.dat (Data.int .i64 ((c+a[i]+bi) / 1048576))=MV.dat (Data.int .i64 i'.2.1)∧some (0,ay aa (o.set i ((c+a[i]+bi) % 1048576)))=some (0,ay aa i'.2.2):=by
   intro bi hb0 hb1 hvb;refine⟨(i+1,(c+a[i]+bi) / 1048576,o.set i ((c+a[i]+bi) % 1048576)),by dsimp only;omega,by dsimp only;omega,by simp [ho],?_,by dsimp only;omega,by dsimp only;omega,?_,rfl,rfl,rfl⟩
   ·dsimp only
    rw[oX _ (by simpa using hio),kO];refine⟨hdo,?_⟩;simp only[Wq];omega
   ·dsimp only
    rw[ba _ _ (by simpa using hio),kO,ba a i hlt,hvb,VD];simp only[Wq];exact zw _ _ _ _ _ _ _ hvi
  rcases Wg (i<b.length) with hlb' | hgb'
  ·have hgb:b[i]?=some b[i]:=VL hlb'
   have hbi:=dO hdb i hlb';have hw4:IntKind.i64.wrap (c+a[i]+b[i])=c+a[i]+b[i]:=aj _ (by omega) (by omega);have hdec:decide ((i:Int)<(b.length:Int))=true:=decide_eq_true (by omega);have hdec2:decide ((i:Int)<(a.length:Int))=true:=decide_eq_true (by omega);simp only[go_sem,go_sem_proc,VM,a0,h0,h1,h5,h20,h21,h22,h6,hm,hga,hgb,hw2,hw3,hw4,hdec,hdec2,hlt,hio',hfold,dX,fdivm,aa,V0,VN,VU,List.cons.injEq,show i<a.length+1 by omega,show ¬ ((20:Int)<0) by omega]
   repeat' (first|refine qS ?_ ?_|fail)<;>intro h<;>simp only[h,go_sem,go_sem_proc,VM,a0,h0,h1,h5,h20,h21,h22,h6,hm,hga,hgb,hw2,hw3,hw4,hdec,hdec2,hlt,hio',hfold,dX,fdivm,aa,V0,VN,VU,List.cons.injEq,show i<a.length+1 by omega,show ¬ ((20:Int)<0) by omega]
   exact fin b[i] hbi.1 hbi.2 (ba b i hlb')
  ·have hdec:decide ((i:Int)<(b.length:Int))=false:=decide_eq_false (by omega)
   have hdec2:decide ((i:Int)<(a.length:Int))=true:=decide_eq_true (by omega);simp only[go_sem,go_sem_proc,VM,a0,h0,h1,h5,h20,h21,h22,h6,hm,hga,hw2,hw3,hdec,hdec2,hlt,hio',hfold,dX,fdivm,aa,V0,VN,VU,List.cons.injEq,show i<a.length+1 by omega,show ¬ ((20:Int)<0) by omega]
   repeat' (first|refine qS ?_ ?_|fail)<;>intro h<;>simp only[h,go_sem,go_sem_proc,VM,a0,h0,h1,h5,h20,h21,h22,h6,hm,hga,hw2,hw3,hdec,hdec2,hlt,hio',hfold,dX,fdivm,aa,V0,VN,VU,List.cons.injEq,show i<a.length+1 by omega,show ¬ ((20:Int)<0) by omega]
   have:=fin 0 (by omega) (by omega) (by rw[Wi (by omega),Wi (by omega)];simp)
   simpa using this
 ·obtain rfl:i=a.length:=by omega
  have hdec2:decide ((a.length:Int)<(a.length:Int))=false:=decide_eq_false (by omega);have hio:a.length<o.length:=by omega
  have hio':a.length+1≤(ay aa o).length:=by rw[eW];omega
  have hfold:=fun d=>ia o a.length d hio
  have hdo':isD (o.set a.length c):=by
   have:o.set a.length c=(o.set a.length c).take (a.length+1):=by rw[Wi (by simp [ho])]
   rw[this,oX _ (by simpa using hio),kO];refine⟨hdo,?_⟩;simp only[Wq];omega
  have hvo:vl (o.set a.length c)=x+y:=by
   have:o.set a.length c=(o.set a.length c).take (a.length+1):=by rw[Wi (by simp [ho])]
   rw[this,ba _ _ (by simpa using hio),kO];simp only[Wq];rw[hvi,Wi (VO _),Wi hlb,hv]
  have hG:=rb (o.set a.length c) 172019 0 (aA mem 172019 0 (ay aa (o.set a.length c))) (by simp [aA]) (by simp [ho];omega);rw[List.length_set,ho] at hG;have hO:=uo (mem:=aA mem 172019 0 (ay aa (o.set a.length c))) (k:=172019) (g:=0) (n:=x+y) (by simp [aA]) hdo' (by rw[hvo];rfl);simp only[go_sem,go_sem_proc,VM,a0,h0,h1,h5,h20,h21,h22,h6,hm,hdec2,hio',hfold,hG,hO,V0,VN,show a.length<a.length+1 by omega]
  repeat' (first|refine qS ?_ ?_|fail)<;>intro h<;>simp only[h,go_sem,go_sem_proc,VM,a0,h0,h1,h5,h20,h21,h22,h6,hm,hdec2,hio',hfold,hG,hO,V0,VN,show a.length<a.length+1 by omega]
end Go.Mini
