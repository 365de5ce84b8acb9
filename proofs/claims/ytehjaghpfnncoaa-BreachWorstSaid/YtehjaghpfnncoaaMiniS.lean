/- A statement's function: its arguments as data; what it leaves. -/
import Derived.Test.YtehjaghpfnncoaaMiniR
set_option linter.unusedSimpArgs false
set_option linter.unusedVariables false
namespace Go.Mini
open Go Go.ChangeShapes Go.WideShapes Go.RowKit

/-- An argument. -/
def FitA : Sch → Data → Prop
  | .st l, d => ∃ cs, d = .agg cs ∧ Fits l cs
  | s, d => Fit s [d]
def FitAs : List Sch → List Data → Prop
  | [], ds => ds = []
  | s :: r, ds => ∃ d t, ds = d :: t ∧ FitA s d ∧ FitAs r t

section
variable {H : Type} {enc : TypeId × Value → H} {P : Program} {w : World}

theorem denL_cons {O : Nat → Prop} {d : Data} {v : Value} {ds : List Data} {vs : List Value} (h : Den w O d v) (hs : DenL w O ds vs) : DenL w O (d :: ds) (v :: vs) := by
  refine ⟨by simp [hs.1], fun i d' v' h1 h2 => ?_⟩
  cases i with
  | zero => cases h1; cases h2; exact h
  | succ i => exact hs.2 i d' v' (by simpa using h1) (by simpa using h2)

theorem arg_den {n : Nat} {t : TypeId} {S : Sch} {v : Value} {d : DataW H} {ps : List MemPlace} {b0 : Nat} (hS : schOf P n t = some S) (hval : Value.okWide P w .any b0 t v) (h : DataW.Trod enc P w 0 (fun _ => true) true t v d ps) :
    (∃ D, FitA S D ∧ Den w (fun _ => False) D v) ∧ (∀ p ∈ ps, p.block < w.heap.size) ∧
    ∀ (w' : World) (sp : Nat → Bool), (∀ p ∈ ps, sp p.block = true) → (∀ b, b < w.heap.size → w'.heap[b]? = w.heap[b]?) → DataW.Trod enc P w' 0 sp true t v d ps := by
  obtain ⟨fuel, hx⟩ := h
  obtain ⟨⟨ds, hf, hd⟩, h2, h3⟩ := read_sch n t S hS fuel _ _ hx
  refine ⟨?_, h2, fun w' sp hsp hk => ⟨fuel, h3 w' sp hsp hk⟩⟩
  have one : (∀ cs, v ≠ .agg cs) → ∀ d, ds = [d] → Den w (fun _ => False) d v := by
    intro hv d e
    subst e
    have : v.cells = #[v] := by unfold Value.cells; split <;> simp_all
    rw [this] at hd
    exact hd.2 0 d v rfl rfl
  cases n with
  | zero => simp [schOf] at hS
  | succ n =>
    unfold schOf at hS
    unfold Value.okWide at hval
    split at hS
    · rename_i hu
      cases hS
      rw [hu] at hval
      obtain ⟨b, rfl⟩ := hf
      refine ⟨_, ⟨b, rfl⟩, one ?_ _ rfl⟩
      rintro cs rfl
      simp [Cell.okWide, Cell.ok, hu] at hval
    · rename_i k hu
      cases hS
      rw [hu] at hval
      obtain ⟨b, rfl, hb⟩ := hf
      refine ⟨_, ⟨b, rfl, hb⟩, one ?_ _ rfl⟩
      rintro cs rfl
      simp [Cell.okWide, Cell.ok, hu] at hval
    · rename_i hu
      cases hS
      rw [hu] at hval
      obtain ⟨b, rfl, hb⟩ := hf
      refine ⟨_, ⟨b, rfl, hb⟩, one ?_ _ rfl⟩
      rintro cs rfl
      simp [Cell.okWide, Cell.ok, hu] at hval
    · rename_i e hu
      split at hS
      · rw [Option.map_eq_some_iff] at hS
        obtain ⟨S, hS, rfl⟩ := hS
        rw [hu] at hval
        obtain ⟨b, rfl, hb⟩ := hf
        refine ⟨_, ⟨b, rfl, hb⟩, one ?_ _ rfl⟩
        rintro cs rfl
        simp [Cell.okWide, Cell.ok, hu] at hval
      · cases hS
    · rename_i fs hu
      split at hS
      · rw [Option.map_eq_some_iff] at hS
        obtain ⟨l, hl, rfl⟩ := hS
        rw [hu] at hval
        obtain ⟨cs, rfl, -, -⟩ := hval
        refine ⟨.agg ds, ⟨ds, rfl, hf⟩, ?_⟩
        have : Den w (fun _ => False) (.agg ds) (.agg cs.toList.toArray) := .agg hd.1 hd.2
        simpa using this
      · cases hS
    · cases hS

theorem args_den {n b0 : Nat} : ∀ {ts : List TypeId} {schs : List Sch} {vs : List Value} {ds : List (DataW H)} {ps : List MemPlace}, ts.mapM (schOf P n) = some schs → (∀ (j : Nat) t v, ts[j]? = some t → vs[j]? = some v → Value.okWide P w .any b0 t v) →
    DataW.TrodAll enc P w 0 (fun _ => true) true ts vs ds ps →
    (∃ Ds, FitAs schs Ds ∧ DenL w (fun _ => False) Ds vs) ∧ (∀ p ∈ ps, p.block < w.heap.size) ∧
    ∀ (w' : World) (sp : Nat → Bool), (∀ p ∈ ps, sp p.block = true) → (∀ b, b < w.heap.size → w'.heap[b]? = w.heap[b]?) → DataW.TrodAll enc P w' 0 sp true ts vs ds ps
  | [], schs, vs, ds, ps, hS, hval, h => by
    obtain ⟨rfl, rfl, rfl⟩ := trodAll_nil h
    simp at hS
    subst hS
    exact ⟨⟨[], rfl, rfl, fun i d v h => by simp at h⟩, by simp, fun _ _ _ _ => rfl⟩
  | t :: ts, schs, vs, ds, ps, hS, hval, h => by
    obtain ⟨v, vs1, d, ds1, a, b, rfl, rfl, rfl, h1, h2⟩ := trodAll_cons h
    rw [List.mapM_cons] at hS
    simp only [Option.pure_def, Option.bind_eq_bind, Option.bind_eq_some_iff, Option.some.injEq] at hS
    obtain ⟨S, hS1, l, hl, rfl⟩ := hS
    obtain ⟨⟨D, hD, hD'⟩, p1, k1⟩ := arg_den hS1 (hval 0 t v rfl rfl) h1
    obtain ⟨⟨Ds, hDs, hDs'⟩, p2, k2⟩ := args_den hl (fun j t' v' ht hv => hval (j + 1) t' v' (by simpa using ht) (by simpa using hv)) h2
    refine ⟨⟨D :: Ds, ⟨D, Ds, rfl, hD, hDs⟩, denL_cons hD' hDs'⟩, fun p hp => ?_, fun w' sp hsp hk => ?_⟩
    · rw [List.mem_append] at hp
      exact hp.elim (p1 p) (p2 p)
    · exact trodAll_cons_mk (k1 w' sp (fun p hp => hsp p (List.mem_append.2 (.inl hp))) hk) (k2 w' sp (fun p hp => hsp p (List.mem_append.2 (.inr hp))) hk)

theorem kept_of {W W' : World} (h : Fr (fun _ => False) W W') (may : MemPlace → Prop) : W.keptBut W' may := by
  refine ⟨h.os, h.output, fun i hi => ?_⟩
  rw [h.block i hi id]
  cases hb : W.heap[i]? with
  | none => trivial
  | some o =>
    cases o with
    | cells c t fr => exact ⟨rfl, rfl, rfl, fun _ _ => rfl⟩
    | map es clock => exact .inr ⟨rfl, rfl⟩
    | _ => rfl

/-- What a function that answers true leaves. -/
theorem post_law {f : Func} {s : ChangeSpec} {apart fresh handsOn again : Bool} {W W' : World} {args : Array Value} {ds gs : List (DataW H)} {before : List MemPlace} {n b0 : Nat} {schs : List Sch} {tb : TypeId}
    (hW : DataW.Whole enc P f.params.toList s.vars apart W args.toList ds gs before) (hv : s.vars = []) (hS : f.params.toList.mapM (schOf P n) = some schs)
    (hval : ∀ (j : Nat) t v, f.params[j]? = some t → args[j]? = some v → Value.okWide P W .any b0 t v)
    (hr : f.resultTypes = #[tb]) (hb : P.underlying tb = some .bool) (hspec : s.fn H ds = { results := [.lit (.bool true)], args := ds }) (hf : Fr (fun _ => False) W W') :
    s.post enc P f apart fresh handsOn again W args (.bool true) W' := by
  have hW' := hW
  obtain ⟨p, q, hA, hV, rfl, hz, hn⟩ := hW
  rw [hv] at hV
  obtain ⟨rfl, rfl⟩ := trodVars_none hV
  obtain ⟨-, hlt, hk⟩ := args_den hS (fun j t v ht hv => hval j t v (by simpa using ht) (by simpa using hv)) hA
  have hkeep : ∀ b, b < W.heap.size → W'.heap[b]? = W.heap[b]? := fun b hb => hf.block b hb id
  have hres : ∀ (b : Nat) (sp : Nat → Bool) (hd : Bool), DataW.TrodAll enc P W' b sp hd f.resultTypes.toList ((Value.bool true).resultList f.resultTypes.size) (s.fn H (ds ++ [])).results [] := by
    intro b sp hd
    rw [List.append_nil, hspec, hr]
    exact trodAll_cons_mk (shut_bool hb true) trodAll_mk0
  have hargs : ∀ sp : Nat → Bool, (∀ x ∈ p, sp x.block = true) → DataW.TrodAll enc P W' 0 sp true f.params.toList args.toList (s.fn H (ds ++ [])).args p := by
    intro sp hsp
    rw [List.append_nil, hspec]
    exact hk W' sp hsp hkeep
  have hvars : ∀ sp : Nat → Bool, DataW.TrodVars enc P W' sp s.vars (s.fn H (ds ++ [])).vars [] := by
    intro sp
    rw [hv, List.append_nil, hspec]
    rfl
  refine ⟨ds, [], p ++ [], [], p, [], hW', hres _ _ _, hargs _ (fun x hx => by simpa using hlt x hx), hvars _, kept_of hf _, fun _ => ⟨?_, _, _, ([] ++ p) ++ [], ⟨[] ++ p, [], trodAll_append (hargs _ (fun _ _ => rfl)) (hres _ _ _), hvars _, rfl, ?_, ?_⟩, ?_⟩⟩
  · intro j t r h1 h2
    rw [hr] at h1 h2
    cases j with
    | zero =>
      simp [Value.resultList] at h1 h2
      subst h1 h2
      exact okWide_bool_mk hb true
    | succ j => simp at h1
  · intro b off hp
    have hp' : MemPlace.cell b off ∈ p := by simpa using hp
    have hb := hlt _ hp'
    have h0 := hz b off (by simpa using hp')
    unfold World.frozen? at h0 ⊢
    rw [hkeep b hb]
    exact h0
  · intro ha
    have := hn ha
    simpa using this
  · intro x hx _
    simpa using hx

/-- A statement's function, whatever it is called with. -/
theorem law_contract {f : FuncId} {fn : Func} {s : ChangeSpec} {apart fresh handsOn again : Bool} {F : List Data → Option PRes} {n : Nat} {schs : List Sch} {tb : TypeId} (hp : PSpec P f F) (hv : s.vars = []) (hS : fn.params.toList.mapM (schOf P n) = some schs)
    (hr : fn.resultTypes = #[tb]) (hb : P.underlying tb = some .bool) (hspec : ∀ ds : List (DataW H), ds.length = fn.params.toList.length → s.fn H ds = { results := [.lit (.bool true)], args := ds })
    {W : World} {base : Nat} {args : Array Value} {ds gs : List (DataW H)} {before : List MemPlace}
    (hF : ∀ Ds, FitAs schs Ds → F Ds = some (.same (.bool true)))
    (hval : ∀ (j : Nat) t v, fn.params[j]? = some t → args[j]? = some v → Value.okWide P W .any base t v)
    (hW : DataW.Whole enc P fn.params.toList s.vars apart W args.toList ds gs before) :
    Calls P f args W fun e W' => ∃ v, e = .returned v ∧ s.post enc P fn apart fresh handsOn again W args v W' := by
  have hW' := hW
  obtain ⟨p, q, hA, hV, rfl, hz, hn⟩ := hW
  obtain ⟨⟨Ds, h1, h2⟩, -, -⟩ := args_den hS (fun j t v ht hv => hval j t v (by simpa using ht) (by simpa using hv)) hA
  have hlen : ds.length = fn.params.toList.length := by
    have : ∀ (ts : List TypeId) (vs : List Value) (ds : List (DataW H)) (ps : List MemPlace), DataW.TrodAll enc P W 0 (fun _ => true) true ts vs ds ps → ds.length = ts.length := by
      intro ts
      induction ts with
      | nil => intro vs ds ps h; obtain ⟨rfl, rfl, rfl⟩ := trodAll_nil h; rfl
      | cons t r ih => intro vs ds ps h; obtain ⟨v, vs1, d, ds1, a, b, rfl, rfl, rfl, -, h2⟩ := trodAll_cons h; simp [ih _ _ _ h2]
    exact this _ _ _ _ hA
  have hc := hp.run Ds _ (hF Ds h1) (fun _ => False) W args.toList (fun b hb => hb.elim) h2
  have ha : args.toList.toArray = args := by simp
  rw [ha] at hc
  refine hc.mono fun e W' ⟨v, he, hfr, hd⟩ => ⟨v, he, ?_⟩
  have : v = .bool true := by
    have hd' : Den W' (fun _ => False) (.bool true) v := hd
    cases hd'
    rfl
  subst this
  exact post_law hW' hv hS hval hr hb (hspec ds hlen) hfr

theorem len_cons {α : Type} {l : List α} {n : Nat} (h : l.length = n + 1) : ∃ d t, l = d :: t ∧ t.length = n := by
  cases l with
  | nil => simp at h
  | cons d t => exact ⟨d, t, rfl, by simpa using h⟩

/-- Elements, typed. -/
theorem fit_list {α : Type} {e : α → List Data} {good : α → Prop} : ∀ {es : List (List Data)}, (∀ x ∈ es, ∃ a, x = e a ∧ good a) → ∃ l : List α, es = l.map e ∧ ∀ a ∈ l, good a
  | [], _ => ⟨[], rfl, by simp⟩
  | x :: r, h => by
    obtain ⟨a, rfl, ha⟩ := h x (by simp)
    obtain ⟨l, rfl, hl⟩ := fit_list (es := r) fun y hy => h y (by simp [hy])
    exact ⟨a :: l, rfl, fun b hb => (List.mem_cons.1 hb).elim (fun e => e ▸ ha) (hl b)⟩
end
end Go.Mini
