/- One operation that calls nothing, as the model carries it out. -/
import Derived.Test.YtehjaghpfnncoaaMiniC8
set_option linter.unusedSimpArgs false
set_option linter.unusedVariables false
namespace Go.Mini
open Go
variable {P : Program} {A : Nat → Prop} {w : World} {B : Lay} {mem : Mem}

def NextIs (n : Next) (v : Value) : Prop := n = .value v ∨ (n = .skip ∧ v = undef)

def OpOK (A : Nat → Prop) (w : World) (B : Lay) (run : Result Next) (mem' : Mem) (r : MV) : Prop :=
  ∃ n v w' B', run = .ok n w' ∧ NextIs n v ∧ StepOK A w B w' B' mem' ∧ VR w' (OA A B') B' r v

theorem OpOK.still_ {s : Sem Value} {r : MV} (hmr : MemRel A w B mem) (h : ∃ v, s.run P w = .ok v w ∧ VR w (OA A B) B r v) : OpOK A w B ((do pure (.value (← s)) : Sem Next).run P w) mem r := by
  obtain ⟨v, h1, h2⟩ := h
  exact ⟨.value v, v, w, B, by simp [h1], .inl rfl, .refl hmr, h2⟩

theorem OpOK.of {s : Sem Value} {mem' : Mem} {r : MV} (h : ∃ v w' B', s.run P w = .ok v w' ∧ StepOK A w B w' B' mem' ∧ VR w' (OA A B') B' r v) : OpOK A w B ((do pure (.value (← s)) : Sem Next).run P w) mem' r := by
  obtain ⟨v, w', B', h1, h2, h3⟩ := h
  exact ⟨.value v, v, w', B', by simp [h1], .inl rfl, h2, h3⟩

theorem mapN_inv {x : Option MV} {r : MV} {ef : Option (Key × Nat × List MV)} (h : mapN x = some (r, ef)) : x = some r ∧ ef = none := by
  unfold mapN at h
  split at h <;> cases h
  exact ⟨rfl, rfl⟩

theorem bind1_inv {x : Option Nat} {f : Nat → Option MV} {r : MV} (h : bind1 x f = some r) : ∃ n, x = some n ∧ f n = some r := by
  unfold bind1 at h
  split at h
  · exact ⟨_, rfl, h⟩
  · cases h

theorem bind2_inv {x y : Option Nat} {f : Nat → Nat → Out} {r : MV × Option (Key × Nat × List MV)} (h : bind2 x y f = some r) : ∃ n m, x = some n ∧ y = some m ∧ f n m = some r := by
  unfold bind2 at h
  split at h
  · exact ⟨_, _, rfl, rfl, h⟩
  · cases h

theorem optOpd_rel {O : Nat → Prop} {ρ : Operand → Value} {tm : Nat → MV} (hρ : ∀ x y, trOpd x = some y → VR w O B (ev tm y) (ρ x)) {x : Option Operand} {y : Option Opd} (h : optOpd x = some y) : OR w O B (y.map (ev tm)) (x.map ρ) := by
  cases x with
  | none => simp [optOpd] at h; subst h; simp [OR]
  | some x =>
    simp only [optOpd, Option.map_eq_some_iff] at h
    obtain ⟨y', hy, rfl⟩ := h
    simp only [Option.map_some, OR]
    exact hρ _ _ hy

theorem fieldPlaces_some {fs : Array Field} {f o s : Nat} (h : fieldPlaces P fs f = some (o, s)) : ∃ fd, fs[f]? = some fd ∧ fd.offset = o ∧ sizeT P fd.type = some s := by
  simp only [fieldPlaces, Option.pure_def, Option.bind_eq_bind, Option.bind_eq_some_iff, Option.some.injEq, Prod.mk.injEq] at h
  obtain ⟨fd, h1, s', h2, h3, h4⟩ := h
  exact ⟨fd, h1, h3, h4 ▸ h2⟩

theorem mapOpd_rel {O : Nat → Prop} {ρ : Operand → Value} {tm : Nat → MV} (hρ : ∀ x y, trOpd x = some y → VR w O B (ev tm y) (ρ x)) : ∀ {l : List Operand} {r : List Opd}, l.mapM trOpd = some r → RL w O B (r.map (ev tm)) (l.map ρ)
  | [], r, h => by simp at h; subst h; exact RL.nil
  | x :: l, r, h => by
    simp only [List.mapM_cons, Option.pure_def, Option.bind_eq_bind, Option.bind_eq_some_iff, Option.some.injEq] at h
    obtain ⟨y, hy, r', hr, rfl⟩ := h
    exact RL.cons (hρ _ _ hy) (mapOpd_rel hρ hr)

theorem list_toArray_map {α β : Type} (a : Array α) (f : α → β) : a.map f = (a.toList.map f).toArray := by
  apply Array.ext'
  simp

theorem q_some {tm : Nat → MV} {m : MOp} {r : MV} {ef : Option (Key × Nat × List MV)} {x : Option MV} (h : sop mem tm m = some (r, ef)) (e : sop mem tm m = mapN x) : x = some r ∧ ef = none := mapN_inv (e.symm.trans h)


theorem call_sound {ρ : Operand → Value} {tm : Nat → MV} {kb : Nat} {own : List Nat} {dst : Option Tmp} {type : TypeId} {c : Call} {m : MOp} {r : MV} {ef : Option (Key × Nat × List MV)} (hmr : MemRel A w B mem)
    (hρ : ∀ x y, trOpd x = some y → VR w (OA A B) B (ev tm y) (ρ x)) (htr : trCall P kb own dst type c = some m) (h : sop mem tm m = some (r, ef)) :
    OpOK A w B ((do let d ← resolve ρ c type; invoke d.target d.args : Sem Next).run P w) (updO mem ef) r := by
  obtain ⟨callee, args, argTypes⟩ := c
  have two : ∀ {α : Type} (a : Array α) (x y : α), a.toList = [x, y] → a = #[x, y] := fun a x y h => Array.ext' (by simpa using h)
  have one : ∀ {α : Type} (a : Array α) (x : α), a.toList = [x] → a = #[x] := fun a x h => Array.ext' (by simpa using h)
  unfold trCall at htr
  split at htr
  · rename_i x t hc ha ht
    simp only at hc ha ht
    subst hc
    obtain rfl := one _ _ ha
    obtain rfl := one _ _ ht
    split at htr
    · rename_i e hu
      simp only [Option.map_eq_some_iff] at htr
      obtain ⟨y, hy, rfl⟩ := htr
      obtain ⟨hq, rfl⟩ := q_some h rfl
      obtain ⟨n, hn, hq⟩ := bind1_inv hq
      cases hq
      have := lenM_run (P := P) (w := w) t type e hu (hρ _ _ hy) hn
      exact ⟨.value _, _, w, B, by simp [resolve, invoke, builtin, this], .inl rfl, .refl hmr, .dat .int⟩
    · rename_i hu
      simp only [Option.map_eq_some_iff] at htr
      obtain ⟨y, hy, rfl⟩ := htr
      obtain ⟨hq, rfl⟩ := q_some h rfl
      obtain ⟨n, hn, hq⟩ := bind1_inv hq
      cases hq
      have := lensM_run (P := P) (w := w) t type hu (hρ _ _ hy) hn
      exact ⟨.value _, _, w, B, by simp [resolve, invoke, builtin, this], .inl rfl, .refl hmr, .dat .int⟩
    · cases htr
  · rename_i s x t u hc ha ht
    simp only at hc ha ht
    subst hc
    obtain rfl := two _ _ _ ha
    obtain rfl := two _ _ _ ht
    split at htr
    · rename_i e e2 hu hu2
      simp only [Option.pure_def, Option.bind_eq_bind, Option.bind_eq_some_iff] at htr
      obtain ⟨z, hz, b, hb, n, hn, d, hd, s', hs', x', hx', hh⟩ := htr
      split at hh
      · rename_i hcc
        obtain ⟨rfl, h0, rfl⟩ := hcc
        cases hh
        simp only [sop] at h
        cases hrow : rowM mem z.length (ev tm x') with
        | none =>
          rw [hrow] at h
          revert h
          cases ev tm s' <;> simp [appM]
        | some p =>
          obtain ⟨k, new⟩ := p
          rw [hrow] at h
          obtain ⟨v, w', B', h1, h2, h3⟩ := app_run (ty := type) _ hmr hu hz hn hb h0 (hρ _ _ hs') (hρ _ _ hx') hrow h
          exact ⟨.value v, v, w', B', by simp [resolve, invoke, builtin, h1], .inl rfl, h2, h3⟩
      · cases hh
    · cases htr
  · rename_i dd x t u hc ha ht
    simp only at hc ha ht
    subst hc
    obtain rfl := two _ _ _ ha
    obtain rfl := two _ _ _ ht
    split at htr
    · rename_i e e2 hu hu2
      simp only [Option.pure_def, Option.bind_eq_bind, Option.bind_eq_some_iff] at htr
      obtain ⟨n, hn, hh⟩ := htr
      split at hh
      · rename_i h0
        simp only [Option.bind_eq_some_iff, Option.some.injEq] at hh
        obtain ⟨d', hd', x', hx', rfl⟩ := hh
        simp only [sop] at h
        cases hrow : rowM mem n (ev tm x') with
        | none =>
          rw [hrow] at h
          revert h
          cases ev tm d' <;> simp [cpyM]
        | some p =>
          obtain ⟨k, new⟩ := p
          rw [hrow] at h
          obtain ⟨v, w', h1, h2, h3⟩ := cpy_run (u := u) (ty := type) hmr hu hn (hρ _ _ hd') (hρ _ _ hx') hrow h
          exact ⟨.value v, v, w', B, by simp [resolve, invoke, builtin, h1], .inl rfl, h2, h3⟩
      · cases hh
    · cases htr
  · rename_i x y hc ha
    simp only at hc ha
    subst hc
    obtain rfl := two _ _ _ ha
    simp only [Option.pure_def, Option.bind_eq_bind, Option.bind_eq_some_iff, Option.some.injEq] at htr
    obtain ⟨x', hx, y', hy, rfl⟩ := htr
    obtain ⟨hq, rfl⟩ := q_some h rfl
    obtain ⟨z, h1, h2⟩ := mmM_run (P := P) argTypes type (hρ _ _ hx) (hρ _ _ hy) hq
    simp only [if_true] at h1
    exact ⟨.value z, z, w, B, by simp [resolve, invoke, builtin, h1], .inl rfl, .refl hmr, h2⟩
  · rename_i x y hc ha
    simp only at hc ha
    subst hc
    obtain rfl := two _ _ _ ha
    simp only [Option.pure_def, Option.bind_eq_bind, Option.bind_eq_some_iff, Option.some.injEq] at htr
    obtain ⟨x', hx, y', hy, rfl⟩ := htr
    obtain ⟨hq, rfl⟩ := q_some h rfl
    obtain ⟨z, h1, h2⟩ := mmM_run (P := P) argTypes type (hρ _ _ hx) (hρ _ _ hy) hq
    simp only [Bool.false_eq_true, if_false] at h1
    exact ⟨.value z, z, w, B, by simp [resolve, invoke, builtin, h1], .inl rfl, .refl hmr, h2⟩
  · split at htr
    · split at htr
      · simp only [Option.pure_def, Option.bind_eq_bind, Option.bind_eq_some_iff, Option.some.injEq] at htr
        obtain ⟨_, _, _, _, _, _, rfl⟩ := htr
        cases h
      · cases htr
    · simp only [Option.pure_def, Option.bind_eq_bind, Option.bind_eq_some_iff, Option.some.injEq] at htr
      obtain ⟨_, _, rfl⟩ := htr
      cases h
  · simp only [Option.pure_def, Option.bind_eq_bind, Option.bind_eq_some_iff, Option.some.injEq] at htr
    obtain ⟨_, _, _, _, rfl⟩ := htr
    cases h
  · cases htr

theorem op_sound {ρ : Operand → Value} {tm : Nat → MV} {kb : Nat} {own : List Nat} {o : Oper} {m : MOp} {r : MV} {ef : Option (Key × Nat × List MV)} (hmr : MemRel A w B mem)
    (hρ : ∀ x y, trOpd x = some y → VR w (OA A B) B (ev tm y) (ρ x)) (htr : trOp P kb own o.dst o.type o.op = some m) (h : sop mem tm m = some (r, ef)) :
    OpOK A w B ((execOp ρ o).run P w) (updO mem ef) r := by
  obtain ⟨dst, op, type, pos, after, guard⟩ := o
  simp only at htr
  cases op <;> simp only [trOp] at htr <;> simp only [execOp]
  case move x =>
    simp only [Option.map_eq_some_iff] at htr
    obtain ⟨y, hy, rfl⟩ := htr
    obtain ⟨hq, rfl⟩ := q_some (x := some (ev tm y)) h rfl
    cases hq
    exact ⟨_, _, w, B, rfl, .inl rfl, .refl hmr, hρ _ _ hy⟩
  case assign x =>
    simp only [Option.map_eq_some_iff] at htr
    obtain ⟨y, hy, rfl⟩ := htr
    obtain ⟨hq, rfl⟩ := q_some (x := some (ev tm y)) h rfl
    cases hq
    exact ⟨_, _, w, B, rfl, .inl rfl, .refl hmr, hρ _ _ hy⟩
  case pick c a b =>
    simp only [Option.pure_def, Option.bind_eq_bind, Option.bind_eq_some_iff, Option.some.injEq] at htr
    obtain ⟨c', hc, a', ha, b', hb, rfl⟩ := htr
    obtain ⟨hq, rfl⟩ := q_some h rfl
    have := OpOK.still_ hmr (pickM_run (P := P) (hρ _ _ hc) (hρ _ _ ha) (hρ _ _ hb) hq)
    simpa [updO] using this
  case alloc e =>
    simp only [Option.pure_def, Option.bind_eq_bind, Option.bind_eq_some_iff, Option.some.injEq] at htr
    obtain ⟨d, hd, z, hz, rfl⟩ := htr
    simp only [sop, Option.some.injEq, Prod.mk.injEq] at h
    obtain ⟨rfl, rfl⟩ := h
    exact OpOK.of (alloc_run _ hmr hz)
  case box e x =>
    simp only [Option.pure_def, Option.bind_eq_bind, Option.bind_eq_some_iff, Option.some.injEq] at htr
    obtain ⟨d, hd, y, hy, rfl⟩ := htr
    simp only [sop] at h
    split at h
    · rename_i hk
      simp only [Option.some.injEq, Prod.mk.injEq] at h
      obtain ⟨rfl, rfl⟩ := h
      exact OpOK.of (box_run _ hmr (hρ _ _ hy) hk)
    · cases h
  case build t ps =>
    split at htr
    · rename_i fs hu
      split at htr
      · rename_i ha
        simp only [Option.pure_def, Option.bind_eq_bind, Option.bind_eq_some_iff, Option.some.injEq] at htr
        obtain ⟨z, hz, qs, hqs, rfl⟩ := htr
        obtain ⟨hq, rfl⟩ := q_some h rfl
        simp only [qop, Option.map_eq_some_iff] at hq
        obtain ⟨cs, hcs, rfl⟩ := hq
        rw [list_toArray_map]
        exact OpOK.still_ hmr (buildS_run hu hz ha hqs hρ hcs)
      · cases htr
    · rename_i n e hu
      simp only [Option.pure_def, Option.bind_eq_bind, Option.bind_eq_some_iff, Option.some.injEq] at htr
      obtain ⟨s, hs, z, hz, qs, hqs, rfl⟩ := htr
      obtain ⟨hq, rfl⟩ := q_some h rfl
      simp only [qop, Option.map_eq_some_iff] at hq
      obtain ⟨cs, hcs, rfl⟩ := hq
      rw [list_toArray_map]
      exact OpOK.still_ hmr (buildA_run hu hz hs hqs hρ hcs)
    · cases htr
  case buildSlice t len ps =>
    split at htr
    · rename_i e hu
      simp only [Option.pure_def, Option.bind_eq_bind, Option.bind_eq_some_iff] at htr
      obtain ⟨z, hz, s, hs, qs, hqs, d, hd, hh⟩ := htr
      split at hh
      · rename_i hc
        obtain ⟨hzl, h0, hl⟩ := hc
        simp only [Option.some.injEq] at hh
        subst hh
        rw [list_toArray_map]
        cases hown : own.contains d with
        | true =>
          rw [hown] at h
          exact OpOK.of (bslo_run _ hmr hu hz hs hzl h0 hl hqs hρ h)
        | false =>
          rw [hown] at h
          obtain ⟨hq, rfl⟩ := q_some h rfl
          obtain ⟨v, w', h1, h2, h3⟩ := bsl_run hmr hu hz hs hzl h0 hl hqs hρ hq
          exact OpOK.of ⟨v, w', B, h1, h2, h3⟩
      · cases hh
    · cases htr
  case load t x =>
    simp only [Option.pure_def, Option.bind_eq_bind, Option.bind_eq_some_iff, Option.some.injEq] at htr
    obtain ⟨n, hn, g, hg, y, hy, rfl⟩ := htr
    obtain ⟨hq, rfl⟩ := q_some h rfl
    exact OpOK.still_ hmr (loadM_run hn hg hmr (hρ _ _ hy) hq)
  case store t x v =>
    simp only [Option.pure_def, Option.bind_eq_bind, Option.bind_eq_some_iff, Option.some.injEq] at htr
    obtain ⟨n, hn, x', hx, v', hv, rfl⟩ := htr
    obtain ⟨w', h1, h2, rfl⟩ := store_run hmr hn (hρ _ _ hx) (hρ _ _ hv) h
    exact ⟨.skip, undef, w', B, by simp [h1], .inr ⟨rfl, rfl⟩, h2, .no⟩
  case nilCheck x =>
    simp only [Option.map_eq_some_iff] at htr
    obtain ⟨y, hy, rfl⟩ := htr
    obtain ⟨hq, rfl⟩ := q_some h rfl
    obtain ⟨⟨b, off, hx⟩, hr⟩ := nchkM_run (hρ _ _ hy) hq
    rw [hx] at hr ⊢
    exact ⟨_, _, w, B, rfl, .inl rfl, .refl hmr, hr⟩
  case binOp bop t x y pos2 =>
    unfold trBin at htr
    split at htr
    · split at htr
      · rename_i x' y' hx hy
        cases htr
        obtain ⟨hq, rfl⟩ := q_some h rfl
        exact OpOK.still_ hmr (binM_run t x y (hρ _ _ hx) (hρ _ _ hy) hq)
      · cases htr
    · split at htr
      · rename_i x' y' hx hy
        cases htr
        obtain ⟨hq, rfl⟩ := q_some h rfl
        exact OpOK.still_ hmr (binM_run t x y (hρ _ _ hx) (hρ _ _ hy) hq)
      · cases htr
    · rename_i hu
      split at htr
      · rename_i x' y' hx hy
        cases htr
        obtain ⟨hq, rfl⟩ := q_some h rfl
        exact OpOK.still_ hmr (beqM_run (neg := false) t x y hu (hρ _ _ hx) (hρ _ _ hy) hq)
      · rename_i x' y' hx hy
        cases htr
        obtain ⟨hq, rfl⟩ := q_some h rfl
        exact OpOK.still_ hmr (beqM_run (neg := true) t x y hu (hρ _ _ hx) (hρ _ _ hy) hq)
      · cases htr
    · rename_i fs hu
      split at htr
      · unfold trEqs at htr
        split at htr
        · rename_i hc
          split at htr
          · rename_i ks x' y' hk hx hy
            cases htr
            obtain ⟨hq, rfl⟩ := q_some h rfl
            exact OpOK.still_ hmr (eqsM_run (neg := false) t x y fs hu hc.1 hc.2 hk (hρ _ _ hx) (hρ _ _ hy) hq)
          · cases htr
        · cases htr
      · unfold trEqs at htr
        split at htr
        · rename_i hc
          split at htr
          · rename_i ks x' y' hk hx hy
            cases htr
            obtain ⟨hq, rfl⟩ := q_some h rfl
            exact OpOK.still_ hmr (eqsM_run (neg := true) t x y fs hu hc.1 hc.2 hk (hρ _ _ hx) (hρ _ _ hy) hq)
          · cases htr
        · cases htr
      · cases htr
    · split at htr
      · split at htr
        · simp only [Option.map_eq_some_iff] at htr
          obtain ⟨_, _, rfl⟩ := htr
          cases h
        · simp only [Option.map_eq_some_iff] at htr
          obtain ⟨_, _, rfl⟩ := htr
          cases h
        · cases htr
      · cases htr
    · cases htr
  case unOp uop t x =>
    simp only [Option.map_eq_some_iff] at htr
    obtain ⟨y, hy, rfl⟩ := htr
    obtain ⟨hq, rfl⟩ := q_some h rfl
    exact OpOK.still_ hmr (unM_run (hρ _ _ hy) hq)
  case convert s t x =>
    split at htr
    · rename_i ks k hs ht
      simp only [Option.map_eq_some_iff] at htr
      obtain ⟨y, hy, rfl⟩ := htr
      obtain ⟨hq, rfl⟩ := q_some h rfl
      exact OpOK.still_ hmr (convM_run s t ks hs ht (hρ _ _ hy) hq)
    · cases htr
  case makeFunc fn first caps =>
    cases fn <;> simp only [reduceCtorEq] at htr
    split at htr
    · rename_i hsz
      simp only [Option.pure_def, Option.bind_eq_bind, Option.bind_eq_some_iff, Option.some.injEq] at htr
      obtain ⟨cs, hcs, rfl⟩ := htr
      obtain ⟨hq, rfl⟩ := q_some (x := some (.clo _ (cs.map (ev tm)))) h rfl
      cases hq
      have hf0 : first = #[] := Array.eq_empty_of_size_eq_zero hsz
      subst hf0
      have hl := mapOpd_rel hρ hcs
      exact OpOK.still_ hmr ⟨_, by rw [list_toArray_map caps, Array.map_empty]; rfl, .clo hl.1 hl.2⟩
    · cases htr
  case makeSlice t l c =>
    split at htr
    · rename_i e he
      simp only [Option.pure_def, Option.bind_eq_bind, Option.bind_eq_some_iff] at htr
      obtain ⟨z, hz, s, hs, b, hb, d, hd, hh⟩ := htr
      split at hh
      · rename_i hc
        simp only [Option.bind_eq_some_iff, Option.some.injEq] at hh
        obtain ⟨l', hl, c', hc', rfl⟩ := hh
        simp only [sop] at h
        obtain ⟨n1, n2, h1, h2, h3⟩ := bind2_inv h
        obtain ⟨rfl, h0⟩ := hc
        exact OpOK.of (mksl_run _ hmr he hz hs hb h1 h2 (hρ _ _ hl) (hρ _ _ hc') h0 h3)
      · cases hh
    · cases htr
  case slice t x lo hi mx =>
    split at htr
    · rename_i e hu
      simp only [Option.pure_def, Option.bind_eq_bind, Option.bind_eq_some_iff] at htr
      obtain ⟨s, hs, hh⟩ := htr
      split at hh
      · simp only [Option.bind_eq_some_iff, Option.some.injEq] at hh
        obtain ⟨y, hy, lo', hlo, hi', hhi, mx', hmx, rfl⟩ := hh
        have rlo := optOpd_rel hρ hlo
        have rhi := optOpd_rel hρ hhi
        have rmx := optOpd_rel hρ hmx
        cases mx' with
        | none =>
          cases mx with
          | some v => simp [optOpd, Option.map_eq_some_iff] at hmx
          | none =>
            obtain ⟨hq, rfl⟩ := q_some h rfl
            obtain ⟨l, hl, hq⟩ := bind1_inv hq
            obtain ⟨len, hlen, hq⟩ := bind1_inv hq
            obtain ⟨hh, hhh, hq⟩ := bind1_inv hq
            exact OpOK.still_ hmr (slcM_run hu hs hl hlen hhh rlo rhi (hρ _ _ hy) hq)
        | some mx' =>
          cases hi' with
          | none => cases h
          | some hi' =>
            cases hi with
            | none => simp [OR] at rhi
            | some hi =>
              cases mx with
              | none => simp [OR] at rmx
              | some mx =>
                obtain ⟨hq, rfl⟩ := q_some h rfl
                obtain ⟨l, hl, hq⟩ := bind1_inv hq
                obtain ⟨hh, hhh, hq⟩ := bind1_inv hq
                obtain ⟨m, hm, hq⟩ := bind1_inv hq
                exact OpOK.still_ hmr (slcM3_run hu hs hl hhh hm rlo rhi rmx (hρ _ _ hy) hq)
      · cases hh
    · rename_i n e hu
      simp only [Option.pure_def, Option.bind_eq_bind, Option.bind_eq_some_iff] at htr
      obtain ⟨s, hs, hh⟩ := htr
      split at hh
      · rename_i hc
        simp only [Option.bind_eq_some_iff, Option.some.injEq] at hh
        obtain ⟨y, hy, lo', hlo, hi', hhi, mx', hmx, rfl⟩ := hh
        have rlo := optOpd_rel hρ hlo
        have rhi := optOpd_rel hρ hhi
        cases mx' with
        | none =>
          cases mx with
          | some v => simp [optOpd, Option.map_eq_some_iff] at hmx
          | none =>
            obtain ⟨hq, rfl⟩ := q_some h rfl
            obtain ⟨l, hl, hq⟩ := bind1_inv hq
            obtain ⟨hh, hhh, hq⟩ := bind1_inv hq
            exact OpOK.still_ hmr (slcaM_run hmr hu hs hc.2 hl hhh rlo rhi (hρ _ _ hy) hq)
        | some mx' => cases h
      · cases hh
    · rename_i hu
      split at htr
      · rename_i hmx
        simp only [Option.pure_def, Option.bind_eq_bind, Option.bind_eq_some_iff, Option.some.injEq] at htr
        obtain ⟨y, hy, lo', hlo, hi', hhi, rfl⟩ := htr
        have rlo := optOpd_rel hρ hlo
        have rhi := optOpd_rel hρ hhi
        cases mx with
        | some v => cases hmx
        | none =>
          obtain ⟨hq, rfl⟩ := q_some h rfl
          obtain ⟨l, hl, hq⟩ := bind1_inv hq
          obtain ⟨len, hlen, hq⟩ := bind1_inv hq
          obtain ⟨hh, hhh, hq⟩ := bind1_inv hq
          exact OpOK.still_ hmr (slcsM_run hu hl hlen hhh rlo rhi (hρ _ _ hy) hq)
      · cases htr
    · cases htr
  case fieldAddr t x f =>
    split at htr
    · rename_i fs hu
      simp only [Option.pure_def, Option.bind_eq_bind, Option.bind_eq_some_iff] at htr
      obtain ⟨⟨o, s⟩, hp, hh⟩ := htr
      split at hh
      · rename_i h0
        simp only [Option.bind_eq_some_iff, Option.some.injEq] at hh
        obtain ⟨y, hy, rfl⟩ := hh
        obtain ⟨fd, h1, h2, h3⟩ := fieldPlaces_some hp
        obtain ⟨hq, rfl⟩ := q_some h rfl
        exact OpOK.still_ hmr (fadM_run t f fs fd s hu h1 h3 h0 h2 (hρ _ _ hy) hq)
      · cases hh
    · cases htr
  case field t x f =>
    split at htr
    · rename_i fs hu
      simp only [Option.pure_def, Option.bind_eq_bind, Option.bind_eq_some_iff, Option.some.injEq] at htr
      obtain ⟨fd, hfd, ⟨o, s⟩, hp, g, hg, y, hy, rfl⟩ := htr
      obtain ⟨fd', h1, h2, h3⟩ := fieldPlaces_some hp
      rw [hfd] at h1
      cases h1
      obtain ⟨hq, rfl⟩ := q_some h rfl
      exact OpOK.still_ hmr (fldM_run t f fs fd hu hfd h3 hg h2 (hρ _ _ hy) hq)
    · cases htr
  case indexAddr t x i =>
    split at htr
    · rename_i e hu
      simp only [Option.pure_def, Option.bind_eq_bind, Option.bind_eq_some_iff] at htr
      obtain ⟨s, hs, hh⟩ := htr
      split at hh
      · simp only [Option.bind_eq_some_iff, Option.some.injEq] at hh
        obtain ⟨y, hy, j, hj, rfl⟩ := hh
        obtain ⟨hq, rfl⟩ := q_some h rfl
        obtain ⟨n, hn, hq⟩ := bind1_inv hq
        obtain ⟨k, hk⟩ := idx_inv hn (hρ _ _ hj)
        rw [hk]
        exact OpOK.still_ hmr (iadM_run t e hu hs (hρ _ _ hy) hq)
      · cases hh
    · rename_i len e hu
      simp only [Option.pure_def, Option.bind_eq_bind, Option.bind_eq_some_iff] at htr
      obtain ⟨s, hs, hh⟩ := htr
      split at hh
      · simp only [Option.bind_eq_some_iff, Option.some.injEq] at hh
        obtain ⟨y, hy, j, hj, rfl⟩ := hh
        obtain ⟨hq, rfl⟩ := q_some h rfl
        obtain ⟨n, hn, hq⟩ := bind1_inv hq
        obtain ⟨k, hk⟩ := idx_inv hn (hρ _ _ hj)
        rw [hk]
        exact OpOK.still_ hmr (iadaM_run t e hu hs (hρ _ _ hy) hq)
      · cases hh
    · cases htr
  case index t x i =>
    split at htr
    · rename_i hu
      simp only [Option.pure_def, Option.bind_eq_bind, Option.bind_eq_some_iff, Option.some.injEq] at htr
      obtain ⟨y, hy, j, hj, rfl⟩ := htr
      obtain ⟨hq, rfl⟩ := q_some h rfl
      obtain ⟨n, hn, hq⟩ := bind1_inv hq
      obtain ⟨k, hk⟩ := idx_inv hn (hρ _ _ hj)
      rw [hk]
      exact OpOK.still_ hmr (idxsM_run t hu (hρ _ _ hy) hq)
    · cases htr
  case extract x i =>
    simp only [Option.map_eq_some_iff] at htr
    obtain ⟨y, hy, rfl⟩ := htr
    obtain ⟨hq, rfl⟩ := q_some h rfl
    exact OpOK.still_ hmr (extM_run (hρ _ _ hy) hq)
  case call c =>
    exact call_sound hmr hρ htr h
  all_goals cases htr

end Go.Mini
