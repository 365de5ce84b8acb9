/- One operation of an activation, and the model's: all of them. -/
import Derived.Test.YtehjaghpfnncoaaMiniD2
set_option linter.unusedSimpArgs false
set_option linter.unusedVariables false
namespace Go.Mini
open Go
variable {P : Program} {T : Tab} {A : Nat → Prop} {w0 w : World} {B0 B : Lay} {mem : Mem} {n : Nat}

theorem nil_run {t e : TypeId} {y y' : Operand} {m : MV} {u v : Value} {O : Nat → Prop} {full : Bool} (neg : Bool) (ht : P.underlying t = some (.slice e)) (hm : VR w O B m u) (hf : fullM m = some full) (hv : v = .slice none 0 0) :
    ∃ b : Bool, (full = true → b = false) ∧ ((do eqGuard (if neg then .neq else .eql) t y y' u v; binOp (if neg then .neq else .eql) t u v : Sem Value)).run P w = .ok (.bool (neg != b)) w := by
  subst hv
  have shape : ∃ a len cap, u = .slice a len cap ∧ (full = true → a.isNone = false) := by
    cases m <;> simp only [fullM, reduceCtorEq] at hf
    case dat d =>
      cases d <;> simp only [fullM, Option.some.injEq, reduceCtorEq] at hf
      cases hm with
      | dat hd =>
        cases hd with
        | sl0 => exact ⟨_, _, _, rfl, fun h => by cases hf; cases h⟩
        | sl => exact ⟨_, _, _, rfl, fun _ => rfl⟩
    case nil =>
      cases hm with
      | nil => exact ⟨_, _, _, rfl, fun h => by cases hf; cases h⟩
    case ref k g sz off len =>
      cases hm with
      | ref he hg hr =>
        obtain ⟨a, cap, rfl, h1, h2, h3⟩ := hr
        refine ⟨_, _, _, rfl, fun h => ?_⟩
        simp only [Option.some.injEq] at hf
        subst hf
        simp only [decide_eq_true_eq] at h
        rcases h3 with h3 | ⟨b, rfl, _⟩
        · omega
        · rfl
  obtain ⟨a, len, cap, rfl, hb⟩ := shape
  refine ⟨a.isNone, hb, ?_⟩
  have he : ∀ d, (Op.equalIn (d + 1) t (.slice a len cap) (.slice none 0 0)).run P w = .ok a.isNone w := fun d => by
    unfold Op.equalIn
    simp only [Sem.run_bind, run_underlying ht, Result.andThen_ok]
    cases a <;> rfl
  have heq : (Op.equal t (.slice a len cap) (.slice none 0 0)).run P w = .ok a.isNone w := he 9999
  rw [eqGuard_plain (by simp) (by simp)]
  cases neg
  · simp only [Bool.false_eq_true, if_false, Sem.run_bind, Sem.run_pure, Result.andThen_ok]
    show (do pure (Value.bool (← Op.equal t (.slice a len cap) (.slice none 0 0))) : Sem Value).run P w = _
    simp [heq]
  · simp only [if_true, Sem.run_bind, Sem.run_pure, Result.andThen_ok]
    show (do pure (Value.bool (!(← Op.equal t (.slice a len cap) (.slice none 0 0)))) : Sem Value).run P w = _
    simp [heq]

/-- What an operation of the text is in the small semantics. -/
structure Is (P : Program) (n kb : Nat) (own : List Nat) (ops : Array Oper) (o : Oper) (i : MI) : Prop where
  dst : i.dst = o.dst
  guard : trGuard ops o.guard = some i.g
  op : i.op = (trOp P kb own o.dst o.type o.op).getD .bad
  lt : o.dst.all (fun d => decide (d < n)) = true

theorem is_of {kb : Nat} {own : List Nat} {ops : Array Oper} {o : Oper} {i : MI} (h : trOper P n kb own ops o = some i) : Is P n kb own ops o i := by
  unfold trOper at h
  split at h
  · rename_i g hg
    split at h
    · rename_i hlt
      cases h
      exact ⟨rfl, hg, rfl, hlt⟩
    · cases h
  · cases h

theorem stepK_split {K : St → Prop} {i : MI} {st : St} (h : stepK T K i st) :
    (∃ m e, sop st.mem st.tm i.op = some (m, e) ∧ K ⟨put st.tm i.dst m, updO st.mem e⟩) ∨
    (∃ f args, i.op = .call f args ∧ callK T K st i.dst f (args.map (ev st.tm))) ∨
    (∃ k sz f args es, i.op = .callo k sz f args ∧ T f (args.map (ev st.tm)) st.mem = some (.own sz es) ∧ K ⟨put st.tm i.dst (.ref k (nextG st.mem k) sz 0 es.length), updM st.mem k (nextG st.mem k) (es.flatten.map .dat)⟩) ∨
    (∃ f args, i.op = .callv f args ∧ ((∃ g caps, ev st.tm f = .clo g caps ∧ callK T K st i.dst g (args.map (ev st.tm) ++ caps)) ∨ (∃ g ds, ev st.tm f = .dat (.fn g ds) ∧ callK T K st i.dst g (args.map (ev st.tm) ++ ds.map .dat)))) ∨
    (∃ neg x full, i.op = .isnil neg x ∧ fullM (ev st.tm x) = some full ∧ ∀ b : Bool, (full = true → b = false) → K ⟨put st.tm i.dst (.dat (.bool (neg != b))), st.mem⟩) := by
  obtain ⟨dst, g, op⟩ := i
  unfold stepK at h
  split at h
  · rename_i f args hop
    exact .inr (.inl ⟨f, args, hop, h⟩)
  · rename_i k sz f args hop
    split at h
    · rename_i sz' es he
      split at h
      · rename_i hs
        subst hs
        exact .inr (.inr (.inl ⟨k, _, f, args, es, hop, he, h⟩))
      · cases h
    · cases h
  · rename_i f args hop
    refine .inr (.inr (.inr (.inl ⟨f, args, hop, ?_⟩)))
    split at h
    · rename_i g caps hf
      exact .inl ⟨g, caps, hf, h⟩
    · rename_i g ds hf
      exact .inr ⟨g, ds, hf, h⟩
    · cases h
  · rename_i neg x hop
    split at h
    · rename_i full hf
      exact .inr (.inr (.inr (.inr ⟨neg, x, full, hop, hf, h⟩)))
    · cases h
  · split at h
    · rename_i m e he
      exact .inl ⟨m, e, he, h⟩
    · cases h

theorem getD_some {α : Type} {x : Option α} {b c : α} (h : c = x.getD b) (hb : c ≠ b) : x = some c := by
  cases x with
  | none => exact absurd h hb
  | some y => simp at h; rw [h]

/-- A call, entered. -/
theorem call_sim (hT : TabOK P T) {K : St → Prop} {a : Act} {st : St} {o : Oper} {Q : Exit → Act → World → Prop} {f : FuncId} {args : List MV} {vs : List Value} (h : Sim n A w0 B0 a st w B) (hlt : o.dst.all (fun d => decide (d < n)) = true)
    (hv : RL w (OA A B) B args vs) (hk : callK T K st o.dst f args) (hrun : Real P f → (execOp a.eval o).run P w = .ok (.enter f vs.toArray) w) :
    o.wp P a w (fun a' w' => ∃ st' B', K st' ∧ Sim n A w0 B0 a' st' w' B') Q := by
  unfold callK at hk
  unfold Oper.wp
  cases hTf : T f args st.mem with
  | none => rw [hTf] at hk; exact hk.elim
  | some eff =>
    obtain ⟨hreal, hspec⟩ := hT f args st.mem eff hTf
    have hc := hspec A w B vs h.ok.mr hv
    rw [hTf] at hk
    rw [hrun hreal]
    cases eff with
    | same r =>
      refine Calls.mono hc fun e w' he => ?_
      obtain ⟨v, rfl, hfr, hd⟩ := he
      exact ⟨_, B, hk, h.put (.still h.ok.mr hfr) (.dat hd) hlt⟩
    | own sz es =>
      refine Calls.mono hc fun e w' he => ?_
      obtain ⟨v, rfl, hfr, hd⟩ := he
      refine ⟨_, B, hk, h.put (.still h.ok.mr hfr) (.dat (hd.den fun b hb => ?_)) hlt⟩
      rcases hb with hb | hb
      · exact h.ok.mr.own_lt hb
      · exact h.ok.mr.lt b hb
    | rel R =>
      refine Calls.mono hc fun e w' he => ?_
      obtain ⟨v, r, mem', B', rfl, hs, hd, hR⟩ := he
      exact ⟨_, B', hk r mem' hR, h.put hs hd hlt⟩

theorem fn_shape {O : Nat → Prop} {m : MV} {u : Value} {g : FuncId} {caps : List MV} (hm : VR w O B m u) (h : m = .clo g caps ∨ ∃ ds, m = .dat (.fn g ds) ∧ caps = ds.map .dat) :
    ∃ cs : List Value, u = .func (.func g) #[] cs.toArray ∧ RL w O B caps cs := by
  rcases h with rfl | ⟨ds, rfl, rfl⟩
  · cases hm with
    | clo hl hd => exact ⟨_, rfl, hl, hd⟩
  · cases hm with
    | dat hd =>
      cases hd with
      | fn hl hd => exact ⟨_, rfl, RL.dat hl hd⟩

theorem step_sim (hT : TabOK P T) {K : St → Prop} {kb : Nat} {own : List Nat} {ops : Array Oper} {a : Act} {st : St} {o : Oper} {i : MI} {Q : Exit → Act → World → Prop} (h : Sim n A w0 B0 a st w B) (hi : Is P n kb own ops o i)
    (hk : stepK T K i st) : o.wp P a w (fun a' w' => ∃ st' B', K st' ∧ Sim n A w0 B0 a' st' w' B') Q := by
  have hop := hi.op
  rcases stepK_split hk with ⟨m, e, hs, hK⟩ | ⟨f, args, he, hK⟩ | ⟨k, sz, f, args, es, he, hTf, hK⟩ | ⟨f, args, he, hK⟩ | ⟨neg, x, full, he, hf, hK⟩
  · have htr : trOp P kb own o.dst o.type o.op = some i.op := getD_some hop (by
      intro hb
      rw [hb] at hs
      cases hs)
    obtain ⟨nx, v, w', B', hrun, hnx, hst, hv⟩ := op_sound h.ok.mr h.rho htr hs
    unfold Oper.wp
    rw [hrun]
    rw [hi.dst] at hK
    have hsim := h.put hst hv hi.lt
    rcases hnx with rfl | ⟨rfl, rfl⟩
    · exact ⟨_, B', hK, hsim⟩
    · exact ⟨_, B', hK, hsim⟩
  · have htr : trOp P kb own o.dst o.type o.op = some i.op := getD_some hop (by rw [he]; simp)
    rw [he] at htr
    obtain ⟨c, hc, hcal, hargs⟩ := trOp_call htr
    rw [hi.dst] at hK
    refine call_sim hT h hi.lt (mapOpd_rel h.rho hargs) hK fun hreal => ?_
    obtain ⟨dst, op, type, pos, after, guard⟩ := o
    simp only at hc
    subst hc
    obtain ⟨callee, cargs, ats⟩ := c
    simp only at hcal
    subst hcal
    simp only [execOp, resolve, Deferred.ofValue, Act.eval, invoke, Sem.run_bind, Sem.run_pure, Result.andThen_ok, call_enter hreal]
    rw [list_toArray_map cargs]
    simp
  · have htr : trOp P kb own o.dst o.type o.op = some i.op := getD_some hop (by rw [he]; simp)
    rw [he] at htr
    obtain ⟨c, hc, hcal, hargs⟩ := trOp_callo htr
    rw [hi.dst] at hK
    obtain ⟨hreal, hspec⟩ := hT f _ st.mem _ hTf
    have hcc := hspec A w B _ h.ok.mr (mapOpd_rel h.rho hargs)
    have hlt := hi.lt
    obtain ⟨dst, op, type, pos, after, guard⟩ := o
    simp only at hc
    subst hc
    obtain ⟨callee, cargs, ats⟩ := c
    simp only at hcal hargs
    subst hcal
    have hrun : (execOp a.eval ⟨dst, .call ⟨.value (.func f), cargs, ats⟩, type, pos, after, guard⟩).run P w = .ok (.enter f (cargs.toList.map a.eval).toArray) w := by
      simp only [execOp, resolve, Deferred.ofValue, Act.eval, invoke, Sem.run_bind, Sem.run_pure, Result.andThen_ok, call_enter hreal]
      rw [list_toArray_map cargs]
      simp
    unfold Oper.wp
    rw [hrun]
    refine Calls.mono hcc fun e w' hee => ?_
    obtain ⟨v, rfl, hfr, hd⟩ := hee
    obtain ⟨B', hst, hv⟩ := adopt_ok k h.ok.mr hfr hd
    exact ⟨_, B', hK, h.put hst hv hlt⟩
  · have htr : trOp P kb own o.dst o.type o.op = some i.op := getD_some hop (by rw [he]; simp)
    rw [he] at htr
    obtain ⟨c, x, hc, hcal, hx, hargs⟩ := trOp_callv htr
    rw [hi.dst] at hK
    have hfx := h.rho _ _ hx
    have main : ∀ g caps, (ev st.tm f = .clo g caps ∨ ∃ ds, ev st.tm f = .dat (.fn g ds) ∧ caps = ds.map .dat) → callK T K st o.dst g (args.map (ev st.tm) ++ caps) → o.wp P a w (fun a' w' => ∃ st' B', K st' ∧ Sim n A w0 B0 a' st' w' B') Q := by
      intro g caps hg hK
      obtain ⟨cs, hu, hrl⟩ := fn_shape hfx hg
      refine call_sim hT h hi.lt ((mapOpd_rel h.rho hargs).append hrl) hK fun hreal => ?_
      obtain ⟨dst, op, type, pos, after, guard⟩ := o
      simp only at hc
      subst hc
      obtain ⟨callee, cargs, ats⟩ := c
      simp only at hcal
      subst hcal
      simp only [execOp, resolve, hu, Deferred.ofValue, invoke, Sem.run_bind, Sem.run_pure, Result.andThen_ok, call_enter hreal]
      rw [list_toArray_map cargs]
      simp
    rcases hK with ⟨g, caps, hg, hK⟩ | ⟨g, ds, hg, hK⟩
    · exact main g caps (.inl hg) hK
    · exact main g _ (.inr ⟨ds, hg, rfl⟩) hK
  · have htr : trOp P kb own o.dst o.type o.op = some i.op := getD_some hop (by rw [he]; simp)
    rw [he] at htr
    obtain ⟨t, e, y, y', z, hc, hn, ht, hy⟩ := trOp_isnil htr
    rw [hi.dst] at hK
    have hyn : a.eval y' = .slice none 0 0 := by
      unfold isNilC at hn
      split at hn
      · rfl
      · cases hn
    obtain ⟨b, hb, hrun⟩ := nil_run (y := y) (y' := y') neg ht (h.rho _ _ hy) hf hyn
    obtain ⟨dst, op, type, pos, after, guard⟩ := o
    simp only at hc
    subst hc
    unfold Oper.wp
    have : (execOp a.eval ⟨dst, .binOp (if neg then .neq else .eql) t y y' z, type, pos, after, guard⟩).run P w = .ok (.value (.bool (neg != b))) w := by
      simp only [execOp]
      rw [Sem.run_bind, hrun]
      rfl
    rw [this]
    exact ⟨_, B, hK b hb, h.put (.refl h.ok.mr) (.dat .bool) hi.lt⟩

end Go.Mini
