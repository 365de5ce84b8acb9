/- Functions: from the small semantics to the model's calls. -/
import Derived.Test.YtehjaghpfnncoaaMiniF2
set_option linter.unusedSimpArgs false
set_option linter.unusedVariables false
namespace Go.Mini
open Go
variable {P : Program} {T : Tab} {A : Nat → Prop} {w0 w : World} {B0 B : Lay} {mem : Mem} {n kb : Nat} {own : List Nat}

theorem res_sim {a : Act} {st : St} {r : ResultVar} {mr : MRes} {m : MV} (hs : Sim n A w0 B0 a st w B) (htr : trRes P r = some mr) (h : resM st mr = some m) :
    ∃ v, ((match r with
      | .tmp t => pure (a.tmps.getD t undef)
      | .cell b t => do loadVar t (← asAddr (a.tmps.getD b undef)) : Sem Value)).run P w = .ok v w ∧ VR w (OA A B) B m v := by
  cases r with
  | tmp t =>
    simp only [trRes, Option.some.injEq] at htr
    subst htr
    simp only [resM, Option.some.injEq] at h
    subst h
    exact ⟨_, rfl, hs.tm t⟩
  | cell b t =>
    simp only [trRes] at htr
    split at htr
    · rename_i s g hsz hag
      simp only [Option.some.injEq] at htr
      subst htr
      obtain ⟨blk, off, ms, vs, hv, hl, hrl, hat, hr⟩ := loadM_at hs.ok.mr (hs.tm b) h
      obtain ⟨u, h1, h2⟩ := mkAgg_run (P := P) hsz hag hl hrl hat hr
      refine ⟨u, ?_, h2⟩
      have : a.tmps.getD b undef = .pointer (some ⟨blk, off, none⟩) := hv
      simp only [this, asAddr, Sem.run_bind, Sem.run_pure, Result.andThen_ok]
      exact h1
    · cases htr

theorem resList_sim {a : Act} {st : St} (hs : Sim n A w0 B0 a st w B) : ∀ {l : List ResultVar} {rs : List MRes} {ms : List MV}, l.mapM (trRes P) = some rs → rs.mapM (resM st) = some ms →
    ∃ vs : List Value, (l.mapM fun r => ((match r with
      | .tmp t => pure (a.tmps.getD t undef)
      | .cell b t => do loadVar t (← asAddr (a.tmps.getD b undef)) : Sem Value))).run P w = .ok vs w ∧ RL w (OA A B) B ms vs
  | [], rs, ms, h1, h2 => by
    simp at h1
    subst h1
    simp at h2
    subst h2
    exact ⟨[], rfl, RL.nil⟩
  | r :: l, rs, ms, h1, h2 => by
    simp only [List.mapM_cons, Option.pure_def, Option.bind_eq_bind, Option.bind_eq_some_iff, Option.some.injEq] at h1
    obtain ⟨x, hx, xs, hxs, rfl⟩ := h1
    simp only [List.mapM_cons, Option.pure_def, Option.bind_eq_bind, Option.bind_eq_some_iff, Option.some.injEq] at h2
    obtain ⟨m, hm, ms', hms, rfl⟩ := h2
    obtain ⟨v, hv, hr⟩ := res_sim hs hx hm
    obtain ⟨vs, hvs, hrl⟩ := resList_sim hs hxs hms
    refine ⟨v :: vs, ?_, RL.cons hr hrl⟩
    simp only [List.mapM_cons, Sem.run_bind, hv, Result.andThen_ok, hvs, Sem.run_pure]

theorem results_sim {a : Act} {st : St} {fn : Func} {rs : List MRes} {m : MV} (hs : Sim n A w0 B0 a st w B) (htr : fn.results.toList.mapM (trRes P) = some rs) (h : resAll st rs = some m) :
    ∃ v, (results fn a.tmps).run P w = .ok v w ∧ VR w (OA A B) B m v := by
  unfold resAll at h
  have main : ∀ ms, rs.mapM (resM st) = some ms → ∃ vs : List Value, (results fn a.tmps).run P w = .ok (if h : vs.toArray.size = 1 then vs.toArray[0] else .tuple vs.toArray) w ∧ RL w (OA A B) B ms vs := by
    intro ms hms
    obtain ⟨vs, h1, h2⟩ := resList_sim hs htr hms
    refine ⟨vs, ?_, h2⟩
    unfold results
    rw [Array.mapM_eq_mapM_toList, map_eq_pure_bind]
    simp only [Sem.run_bind, Sem.run_pure]
    have h1' := h1
    generalize hq : (List.mapM _ fn.results.toList : Sem (List Value)) = q
    have : q.run P w = .ok vs w := by rw [← hq]; exact h1'
    rw [this]
    rfl
  split at h
  · rename_i x hms
    simp only [Option.some.injEq] at h
    subst h
    obtain ⟨vs, h1, h2⟩ := main _ hms
    have hl := h2.1
    simp at hl
    obtain ⟨v, rfl⟩ := List.length_eq_one_iff.1 hl
    exact ⟨v, h1, h2.2 0 _ v rfl rfl⟩
  · rename_i ms hne hms
    simp only [Option.some.injEq] at h
    subst h
    obtain ⟨vs, h1, h2⟩ := main _ hms
    have hl := h2.1
    refine ⟨_, h1, ?_⟩
    have : ¬ (vs.toArray.size = 1) := fun h => by
      have h' : ms.length = 1 := by rw [← hl]; simpa using h
      obtain ⟨x, rfl⟩ := List.length_eq_one_iff.1 h'
      exact hne x rfl
    rw [dif_neg this]
    exact .tup hl h2.2
  · cases h

/-- At the end of a function's body. -/
def doneM (mf : MFunc) (Post : MV → Mem → Prop) : MExit → St → Prop
  | .exit _, _ => False
  | _, st => ∃ m, resAll st mf.res = some m ∧ Post m st.mem

theorem func_sound (hT : TabOK P T) (hm : P.follows .mixedOrders = true) {f : FuncId} {fn : Func} {mf : MFunc} (hf : P.funcs[f]? = some fn) (htr : trFunc P kb own fn = some { mf with body := erase mf.body }) {args : List MV} (hargs : args.length ≤ mf.n)
    {Post : MV → Mem → Prop} {K : MExit → St → Prop} (hK : ∀ e st, K e st → doneM mf Post e st) (h : wp T mf.body K ⟨initTm args, mem⟩) {A : Nat → Prop} {w : World} {B : Lay} {vs : List Value} (hmr : MemRel A w B mem) (hv : RL w (OA A B) B args vs) :
    Calls P f vs.toArray w fun e w' => ∃ v m mem' B', e = .returned v ∧ StepOK A w B w' B' mem' ∧ VR w' (OA A B') B' m v ∧ Post m mem' := by
  unfold trFunc at htr
  split at htr
  · cases htr
  · rename_i c hb
    split at htr
    · rename_i b rs hc hrs
      simp only [Option.some.injEq, MFunc.mk.injEq] at htr
      obtain ⟨hn, hnp, hres, hbody⟩ := htr
      have hsz : vs.length = args.length := hv.1
      refine calls_of_wp hf hb ?_
      rw [hbody] at hc
      refine code_sim hT hm mf.body c K _ ⟨initTm args, mem⟩ _ w B hc ⟨.refl hmr, fun s => ?_, ?_, rfl⟩ h fun e st a w' B' hk0 hs => ?_
      · simp only [initTm, Act.eval, Array.getD_eq_getD_getElem?]
        rcases Nat.lt_or_ge s vs.length with hlt | hge
        · have h1 : args[s]? = some args[s] := List.getElem?_eq_getElem (by omega)
          have h2 : (vs.toArray ++ Array.replicate (fn.ntmps - vs.toArray.size) undef)[s]? = some vs[s] := by
            rw [Array.getElem?_append_left (by simpa using hlt)]
            simp [hlt]
          rw [h1, h2]
          exact hv.2 s _ _ h1 (List.getElem?_eq_getElem hlt)
        · rw [List.getElem?_eq_none (by omega), Array.getElem?_append_right (by simpa using hge)]
          have : ((Array.replicate (fn.ntmps - vs.toArray.size) undef)[s - vs.toArray.size]?).getD undef = undef := by
            cases hq : (Array.replicate (fn.ntmps - vs.toArray.size) undef)[s - vs.toArray.size]? with
            | none => rfl
            | some u =>
              have := Array.mem_of_getElem? hq
              simp at this
              simp [this.2]
          rw [this]
          exact .no
      · simp
        omega
      · have hk := hK e st hk0
        cases e with
        | exit id => cases hk
        | normal =>
          obtain ⟨m, hm', hp⟩ := hk
          obtain ⟨v, hrun, hvr⟩ := results_sim hs hrs (by rw [hres]; exact hm')
          exact ⟨hs.df, v, hrun, v, m, _, B', rfl, hs.ok, hvr, hp⟩
        | ret =>
          obtain ⟨m, hm', hp⟩ := hk
          obtain ⟨v, hrun, hvr⟩ := results_sim hs hrs (by rw [hres]; exact hm')
          exact ⟨hs.df, v, hrun, v, m, _, B', rfl, hs.ok, hvr, hp⟩
    · cases htr

/-! ### Functions of data -/
inductive PRes where
  | same (r : Data)
  | own (sz : Nat) (es : List (List Data))

def DenL (w : World) (O : Nat → Prop) (ds : List Data) (vs : List Value) : Prop := vs.length = ds.length ∧ ∀ (i : Nat) (d : Data) (v : Value), ds[i]? = some d → vs[i]? = some v → Den w O d v

def PResOK (w w' : World) (O : Nat → Prop) : PRes → Value → Prop
  | .same r, v => Den w' O r v
  | .own sz es, v => OwnRes w w' O sz es v

structure PSpec (P : Program) (f : FuncId) (F : List Data → Option PRes) : Prop where
  real : Real P f
  run : ∀ ds r, F ds = some r → ∀ (A : Nat → Prop) (w : World) (vs : List Value), (∀ b, A b → b < w.heap.size) → DenL w A ds vs →
    Calls P f vs.toArray w fun e w' => ∃ v, e = .returned v ∧ Fr (fun _ => False) w w' ∧ PResOK w w' A r v

/-- What a function's result is, at its end. -/
def ResIs : PRes → MV → Mem → Prop
  | .same r, m, mem => ∃ d, toD d mem m = some r
  | .own sz es, m, mem => (m = .nil ∧ es = []) ∨ ∃ k g len cs ds d, m = .ref k g sz 0 len ∧ mem k = some (g, cs) ∧ len * sz ≤ cs.length ∧ (cs.take (len * sz)).mapM (toD d (kill mem k)) = some ds ∧ es = chunk sz len ds

/-- A slice of the function's own, its elements as data. -/
def ownD (sz : Nat) (mem : Mem) : MV → Option (List (List Data))
  | .nil => some []
  | .ref k g sz' off len => if sz' = sz ∧ off = 0 then (match mem k with
    | some (g', cs) => if g' = g ∧ len * sz ≤ cs.length then ((cs.take (len * sz)).mapM (toD 6 (kill mem k))).map (chunk sz len) else none
    | none => none) else none
  | _ => none

/-- What is asked at the end of a body. -/
def endR (res : List MRes) : PRes → St → Prop
  | .same r, st => (resAll st res).bind (toD 6 st.mem) = some r
  | .own sz es, st => (resAll st res).bind (ownD sz st.mem) = some es

def endS (res : List MRes) (r : PRes) : MExit → St → Prop
  | .exit _, _ => False
  | .normal, st => endR res r st
  | .ret, st => endR res r st

theorem endR_done {mf : MFunc} {r : PRes} {st : St} (h : endR mf.res r st) : ∃ m, resAll st mf.res = some m ∧ ResIs r m st.mem := by
  cases r with
  | same r =>
    simp only [endR, Option.bind_eq_some_iff] at h
    obtain ⟨m, h1, h2⟩ := h
    exact ⟨m, h1, 6, h2⟩
  | own sz es =>
    simp only [endR, Option.bind_eq_some_iff] at h
    obtain ⟨m, h1, h2⟩ := h
    refine ⟨m, h1, ?_⟩
    cases m <;> simp only [ownD, Option.some.injEq, reduceCtorEq] at h2
    · exact .inl ⟨rfl, h2.symm⟩
    · split at h2
      · rename_i hc
        obtain ⟨rfl, rfl⟩ := hc
        split at h2
        · rename_i g' cs hk
          split at h2
          · rename_i hg
            obtain ⟨rfl, hle⟩ := hg
            simp only [Option.map_eq_some_iff] at h2
            obtain ⟨ds, hds, rfl⟩ := h2
            exact .inr ⟨_, _, _, cs, ds, 6, rfl, hk, hle, hds, rfl⟩
          · cases h2
        · cases h2
      · cases h2

theorem endS_done {mf : MFunc} {r : PRes} {e : MExit} {st : St} (h : endS mf.res r e st) : doneM mf (ResIs r) e st := by
  cases e with
  | exit id => exact h
  | normal => exact endR_done h
  | ret => exact endR_done h

theorem own_none (b : Nat) : ¬ Own (fun _ => none) b := fun ⟨_, _, h, _⟩ => by cases h

theorem pspec_of (hT : TabOK P T) (hm : P.follows .mixedOrders = true) {f : FuncId} {fn : Func} {mf : MFunc} (hf : P.funcs[f]? = some fn) (hname : (fn.name == "runtime.NumGoroutine") = false) (htr : trFunc P kb own fn = some { mf with body := erase mf.body })
    {F : List Data → Option PRes} (h : ∀ ds r, F ds = some r → ds.length ≤ mf.n ∧ wp T mf.body (endS mf.res r) ⟨initTm (ds.map .dat), emp⟩) : PSpec P f F := by
  refine ⟨?_, fun ds r hF A w vs hlt hden => ?_⟩
  · cases hb : fn.body with
    | none => simp [trFunc, hb] at htr
    | some c => exact ⟨fn, c, hf, hb, hname⟩
  · obtain ⟨hlen, hwp⟩ := h ds r hF
    have hmr : MemRel A w (fun _ => none) emp := ⟨fun _ _ => rfl, fun _ _ _ _ _ h => (by cases h), fun b _ ho => own_none b ho, hlt, fun _ _ _ h => (by cases h)⟩
    have hO : ∀ b, OA A (fun _ => none) b → A b := fun b h => h.elim (fun h => (own_none b h).elim) id
    have hrl : RL w (OA A fun _ => none) (fun _ => none) (ds.map .dat) vs := RL.dat hden.1 fun i d v h1 h2 => (hden.2 i d v h1 h2).less hO
    refine Calls.mono (func_sound hT hm hf htr (by simpa using hlen) (fun e st => endS_done) hwp hmr hrl) fun e w' he => ?_
    obtain ⟨v, m, mem', B', rfl, hs, hv, hp⟩ := he
    refine ⟨v, rfl, ⟨hs.fr.os, hs.fr.tape, hs.fr.output, hs.fr.size, fun g hg _ => hs.fr.block g hg (own_none g)⟩, ?_⟩
    cases r with
    | same r =>
      obtain ⟨d, hd⟩ := hp
      exact snap hs.mr (fun b hb => hb) d m v r hd hv
    | own sz es =>
      rcases hp with ⟨rfl, rfl⟩ | ⟨k, g, len, cs, ds', d, rfl, hk, hle, hds, rfl⟩
      · cases hv
        exact ⟨by simp, _, 0, rfl, Nat.le_refl _, Nat.zero_le _, .inl rfl⟩
      · obtain ⟨h1, h2⟩ := mapM_get hds
        have hdl : ds'.length = len * sz := by rw [h1, List.length_take]; omega
        refine ⟨chunk_even sz len ds' hdl, ?_⟩
        rw [chunk_length, chunk_flat sz len ds' hdl]
        cases hv with
        | ref he hgle hr =>
          obtain ⟨e, he', hge, hn, hb⟩ := hs.mr.at_ hk
          rw [he'] at he
          obtain rfl := Option.some.inj he
          obtain ⟨a, cap, rfl, h3, h4, h5⟩ := hr
          refine ⟨a, cap, rfl, h3, h4, h5.imp id ?_⟩
          rintro ⟨b, rfl, h6⟩
          obtain ⟨h7, h8⟩ := h6 hge.symm
          obtain ⟨vs', T', hh, hz, hle', hrl'⟩ := hb b h7
          obtain ⟨hmr2, hsh⟩ := kill_shut hs.mr hk he' h7
          refine ⟨b, vs', T', rfl, ?_, hh, by simpa [hz] using h8, fun i x hx => ?_⟩
          · rcases hs.fresh b ⟨k, _, he', h7⟩ with h | h
            · exact (own_none b h).elim
            · exact h
          · have hlt1 : i < ds'.length := (List.getElem?_eq_some_iff.1 hx).1
            have hlt2 : i < cs.length := by omega
            have hci : (cs.take (len * sz))[i]? = some cs[i] := by
              rw [List.getElem?_take_of_lt (by omega)]
              exact List.getElem?_eq_getElem hlt2
            have hlt3 : i < vs'.size := by omega
            refine ⟨vs'[i], Array.getElem?_eq_getElem hlt3, snap hmr2 (fun b hb => hb) d _ _ x (h2 i _ x hci hx) (hsh _ _ (hrl'.2 i _ _ (List.getElem?_eq_getElem hlt2) ?_))⟩
            rw [List.getElem?_take_of_lt hlt2, Array.getElem?_toList]
            exact Array.getElem?_eq_getElem hlt3

/-! ### The table of functions of data -/
/-- Data that lies in no block. -/
def scalar : Data → Bool
  | .int _ _ => true
  | .bool _ => true
  | .str _ => true
  | .nilp => true
  | .nilf => true
  | .sl [] => true
  | .tup ds => ds.attach.all fun ⟨d, _⟩ => scalar d
  | .agg ds => ds.attach.all fun ⟨d, _⟩ => scalar d
  | _ => false

theorem scalar_den {O O' : Nat → Prop} {d : Data} {v : Value} (h : scalar d = true) (hd : Den w O d v) : Den w O' d v := by
  induction hd with
  | int => exact .int
  | bool => exact .bool
  | str => exact .str
  | nilp => exact .nilp
  | nilf => exact .nilf
  | sl0 => exact .sl0
  | @sl es b off c sz val hl hm hb hO hsz hc hd ih =>
    cases es with
    | nil => exact .sl0
    | cons => simp [scalar] at h
  | ptr => simp [scalar] at h
  | fn => simp [scalar] at h
  | @agg cs vs hl hd ih =>
    simp only [scalar, List.all_eq_true, List.mem_attach, true_imp_iff, Subtype.forall] at h
    exact .agg hl fun i d v h1 h2 => ih i d v h1 h2 (h d (List.mem_of_getElem? h1))
  | @tup cs vs hl hd ih =>
    simp only [scalar, List.all_eq_true, List.mem_attach, true_imp_iff, Subtype.forall] at h
    exact .tup hl fun i d v h1 h2 => ih i d v h1 h2 (h d (List.mem_of_getElem? h1))

theorem plain_den {O : Nat → Prop} : ∀ (d : Nat) (m : MV) (v : Value) (r : Data), toD d emp m = some r → VR w O B m v → Den w O r v := by
  intro d
  induction d with
  | zero =>
    intro m v r h hv
    cases m <;> simp only [toD, Option.some.injEq, reduceCtorEq] at h
    · subst h; cases hv with | dat h => exact h
    · subst h; cases hv; exact .sl0
  | succ d ih =>
    intro m v r h hv
    have lists : ∀ (cs : List MV) (vs : List Value) (ds : List Data), cs.mapM (toD d emp) = some ds → vs.length = cs.length → (∀ (i : Nat) (x : MV) (u : Value), cs[i]? = some x → vs[i]? = some u → VR w O B x u) →
        vs.length = ds.length ∧ ∀ (i : Nat) (x : Data) (u : Value), ds[i]? = some x → vs[i]? = some u → Den w O x u := by
      intro cs vs ds hds hl hr
      obtain ⟨h1, h2⟩ := mapM_get hds
      refine ⟨by omega, fun i x u hx hu => ?_⟩
      have hlt : i < cs.length := by have := (List.getElem?_eq_some_iff.1 hx).1; omega
      have hci := List.getElem?_eq_getElem hlt
      exact ih _ u x (h2 i _ x hci hx) (hr i _ u hci hu)
    cases m <;> simp only [toD, emp, Option.some.injEq, Option.map_eq_some_iff, reduceCtorEq] at h
    case dat => subst h; cases hv with | dat h => exact h
    case nil => subst h; cases hv; exact .sl0
    case clo f cs =>
      obtain ⟨ds, hds, rfl⟩ := h
      cases hv with
      | clo hl hd => obtain ⟨h1, h2⟩ := lists _ _ _ hds hl hd; exact .fn h1 h2
    case agg cs =>
      obtain ⟨ds, hds, rfl⟩ := h
      cases hv with
      | agg hl hd => obtain ⟨h1, h2⟩ := lists _ _ _ hds hl hd; exact .agg h1 h2
    case tup cs =>
      obtain ⟨ds, hds, rfl⟩ := h
      cases hv with
      | tup hl hd => obtain ⟨h1, h2⟩ := lists _ _ _ hds hl hd; exact .tup h1 h2

def effOf : PRes → Eff
  | .same r => .same r
  | .own sz es => .own sz es

def lent : PRes → Option Eff
  | .same r => if scalar r = true then some (.same r) else none
  | .own sz es => if (es.all fun e => e.all scalar) = true then some (.own sz es) else none

def mkE2 (F : List Data → Option PRes) : Option (List Data) → Option Eff
  | some ds => (F ds).bind lent
  | none => none

def mkE1 (F : List Data → Option PRes) : Option (List Data) → Option (List Data) → Option Eff
  | some ds, _ => (F ds).map effOf
  | none, x => mkE2 F x

def mkE (F : List Data → Option PRes) (args : List MV) (mem : Mem) : Option Eff := mkE1 F (args.mapM (toD 6 emp)) (args.mapM (toD 6 mem))

def mkT (PT : FuncId → Option (List Data → Option PRes)) : Tab := fun f args mem => match PT f with
  | some F => mkE F args mem
  | none => none

theorem denL_of {O : Nat → Prop} {g : MV → Option Data} {args : List MV} {ds : List Data} {vs : List Value} (h : args.mapM g = some ds) (hv : RL w O B args vs) {O' : Nat → Prop} (hd : ∀ m v r, g m = some r → VR w O B m v → Den w O' r v) : DenL w O' ds vs := by
  obtain ⟨h1, h2⟩ := mapM_get h
  refine ⟨by rw [hv.1, h1], fun i d v hd' hv' => ?_⟩
  have hlt : i < args.length := by have := (List.getElem?_eq_some_iff.1 hd').1; omega
  have hai := List.getElem?_eq_getElem hlt
  exact hd _ v d (h2 i _ d hai hd') (hv.2 i _ v hai hv')

theorem mkT_ok {PT : FuncId → Option (List Data → Option PRes)} (h : ∀ f F, PT f = some F → PSpec P f F) : TabOK P (mkT PT) := by
  intro f args mem eff hTf
  unfold mkT at hTf
  split at hTf
  · rename_i F hF
    have hspec := h f F hF
    refine ⟨hspec.real, fun A w B vs hmr hv => ?_⟩
    unfold mkE at hTf
    cases hds : args.mapM (toD 6 emp) with
    | some ds =>
      rw [hds] at hTf
      simp only [mkE1, Option.map_eq_some_iff] at hTf
      obtain ⟨r, hr, rfl⟩ := hTf
      have hc := hspec.run ds r hr (OA A B) w vs (fun b hb => hb.elim (fun h => hmr.own_lt h) (hmr.lt b)) (denL_of hds hv fun m v r => plain_den 6 m v r)
      cases r with
      | same r => exact hc
      | own sz es => exact hc
    | none =>
      rw [hds] at hTf
      simp only [mkE1] at hTf
      cases hds : args.mapM (toD 6 mem) with
      | none => rw [hds] at hTf; cases hTf
      | some ds =>
        rw [hds] at hTf
        simp only [mkE2, Option.bind_eq_some_iff] at hTf
        obtain ⟨r, hr, hl⟩ := hTf
        have hc := hspec.run ds r hr (fun _ => False) w vs (fun b hb => hb.elim) (denL_of hds hv fun m v r h hv => snap hmr (fun b hb => hb.elim) 6 m v r h hv)
        cases r with
        | same r =>
          simp only [lent] at hl
          split at hl
          · rename_i hs
            cases hl
            exact Calls.mono hc fun e w' ⟨v, he, hfr, hd⟩ => ⟨v, he, hfr, scalar_den hs hd⟩
          · cases hl
        | own sz es =>
          simp only [lent] at hl
          split at hl
          · rename_i hs
            cases hl
            refine Calls.mono hc fun e w' ⟨v, he, hfr, hd⟩ => ⟨v, he, hfr, ?_⟩
            obtain ⟨h1, a, cap, h2, h3, h4, h5⟩ := hd
            refine ⟨h1, a, cap, h2, h3, h4, h5.imp id ?_⟩
            rintro ⟨b, vs, T, h6, h7, h8, h9, h10⟩
            refine ⟨b, vs, T, h6, h7, h8, h9, fun i d hd => ?_⟩
            obtain ⟨u, hu, hden⟩ := h10 i d hd
            refine ⟨u, hu, scalar_den ?_ hden⟩
            have hm := List.mem_of_getElem? hd
            rw [List.mem_flatten] at hm
            obtain ⟨e, he, hde⟩ := hm
            rw [List.all_eq_true] at hs
            have := hs e he
            rw [List.all_eq_true] at this
            exact this d hde
          · cases hl
  · cases hTf

end Go.Mini
