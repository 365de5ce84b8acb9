/- What an operation looks at, and what it changes. -/
import Derived.Test.YtehjaghpfnncoaaMiniD3
set_option linter.unusedSimpArgs false
set_option linter.unusedVariables false
namespace Go.Mini
open Go
variable {T : Tab}

theorem ev_congr {tm tm' : Nat → MV} {x : Opd} (h : ∀ s ∈ opdT x, tm s = tm' s) : ev tm x = ev tm' x := by
  cases x with
  | t s => exact h s (by simp [opdT])
  | c m => rfl

theorem map_congr {tm tm' : Nat → MV} {l : List Opd} (h : ∀ s ∈ l.flatMap opdT, tm s = tm' s) : l.map (ev tm) = l.map (ev tm') :=
  List.map_congr_left fun x hx => ev_congr fun s hs => h s (List.mem_flatMap.2 ⟨x, hx, hs⟩)

theorem mapS_congr {tm tm' : Nat → MV} {l : List Opd} (h : ∀ s ∈ l.flatMap opdT, tm s = tm' s) : (l.map fun x => shut (ev tm x)) = l.map fun x => shut (ev tm' x) :=
  List.map_congr_left fun x hx => by rw [ev_congr fun s hs => h s (List.mem_flatMap.2 ⟨x, hx, hs⟩)]

theorem opt_congr {tm tm' : Nat → MV} {x : Option Opd} (h : ∀ s ∈ optT x, tm s = tm' s) : x.map (ev tm) = x.map (ev tm') := by
  cases x with
  | none => rfl
  | some x =>
    cases x with
    | t s => simp [ev, h s (by simp [optT])]
    | c m => rfl

theorem fillM_congr {tm tm' : Nat → MV} : ∀ {ps : List (Nat × Nat × Opd)} (cs : List MV), (∀ s ∈ ps.flatMap (fun p => opdT p.2.2), tm s = tm' s) → fillM (ev tm) cs ps = fillM (ev tm') cs ps
  | [], _, _ => rfl
  | (o, s, x) :: ps, cs, h => by
    have h1 : ev tm x = ev tm' x := ev_congr fun t ht => h t (List.mem_flatMap.2 ⟨(o, s, x), by simp, ht⟩)
    simp only [fillM, h1]
    split
    · exact fillM_congr _ fun t ht => h t (by simp only [List.flatMap_cons, List.mem_append]; exact .inr ht)
    · rfl

theorem sop_tm {mem : Mem} {tm tm' : Nat → MV} {op : MOp} (h : ∀ s ∈ opds op, tm s = tm' s) : sop mem tm op = sop mem tm' op := by
  cases op <;> simp only [opds, List.mem_append] at h
  case mv x => simp only [sop, qop, ev_congr h]
  case pick c a b => simp only [sop, qop, ev_congr (fun s hs => h s (.inl (.inl hs))), ev_congr (fun s hs => h s (.inl (.inr hs))), ev_congr (fun s hs => h s (.inr hs))]
  case alloc => rfl
  case box k x => simp only [sop, ev_congr h]
  case build z ps => simp only [sop, qop, fillM_congr _ h]
  case bsl k o z sz len ps => cases o <;> simp only [sop, qop, fillM_congr _ h]
  case load n ag x => simp only [sop, ev_congr h]
  case store n x v => simp only [sop, ev_congr (fun s hs => h s (.inl hs)), ev_congr (fun s hs => h s (.inr hs))]
  case bin o x y => simp only [sop, qop, ev_congr (fun s hs => h s (.inl hs)), ev_congr (fun s hs => h s (.inr hs))]
  case beq o x y => simp only [sop, qop, ev_congr (fun s hs => h s (.inl hs)), ev_congr (fun s hs => h s (.inr hs))]
  case eqs o l x y => simp only [sop, qop, ev_congr (fun s hs => h s (.inl hs)), ev_congr (fun s hs => h s (.inr hs))]
  case isnil => rfl
  case un o x => simp only [sop, qop, ev_congr h]
  case conv k x => simp only [sop, qop, ev_congr h]
  case nchk x => simp only [sop, qop, ev_congr h]
  case mksl k z b x y => simp only [sop, ev_congr (fun s hs => h s (.inl hs)), ev_congr (fun s hs => h s (.inr hs))]
  case fad o x => simp only [sop, qop, ev_congr h]
  case fld o n ag x => simp only [sop, qop, ev_congr h]
  case iad s x i => simp only [sop, qop, ev_congr (fun s hs => h s (.inl hs)), ev_congr (fun s hs => h s (.inr hs))]
  case iada n s x i => simp only [sop, qop, ev_congr (fun s hs => h s (.inl hs)), ev_congr (fun s hs => h s (.inr hs))]
  case idxs x i => simp only [sop, qop, ev_congr (fun s hs => h s (.inl hs)), ev_congr (fun s hs => h s (.inr hs))]
  case slc s x a b c =>
    have h1 := ev_congr (fun s hs => h s (.inl (.inl (.inl hs))))
    have h2 := opt_congr (fun s hs => h s (.inl (.inl (.inr hs))))
    have h3 := opt_congr (fun s hs => h s (.inl (.inr hs)))
    have h4 := opt_congr (fun s hs => h s (.inr hs))
    cases b <;> cases c <;> simp only [Option.map_some, Option.map_none, Option.some.injEq] at h3 h4 <;> simp only [sop, qop, Option.map_some, Option.map_none, h1, h2, h3, h4]
  case slca n s x a b c =>
    have h1 := ev_congr (fun s hs => h s (.inl (.inl (.inl hs))))
    have h2 := opt_congr (fun s hs => h s (.inl (.inl (.inr hs))))
    have h3 := opt_congr (fun s hs => h s (.inl (.inr hs)))
    cases c <;> simp only [sop, qop, h1, h2, h3]
  case slcs x a b => simp only [sop, qop, ev_congr (fun s hs => h s (.inl (.inl hs))), opt_congr (fun s hs => h s (.inl (.inr hs))), opt_congr (fun s hs => h s (.inr hs))]
  case ext i x => simp only [sop, qop, ev_congr h]
  case len x => simp only [sop, qop, ev_congr h]
  case lens x => simp only [sop, qop, ev_congr h]
  case app k z b s x => simp only [sop, ev_congr (fun s hs => h s (.inl hs)), ev_congr (fun s hs => h s (.inr hs))]
  case cpy s d x => simp only [sop, ev_congr (fun s hs => h s (.inl hs)), ev_congr (fun s hs => h s (.inr hs))]
  case mm o x y => simp only [sop, qop, ev_congr (fun s hs => h s (.inl hs)), ev_congr (fun s hs => h s (.inr hs))]
  case call => rfl
  case callo => rfl
  case callv => rfl
  case mkfn f l => simp only [sop, qop, map_congr h]
  case bad => rfl

theorem sopD_tm {mem : Mem} {tm tm' : Nat → MV} {op : MOp} (h : ∀ s ∈ opds op, tm s = tm' s) : sopD T mem tm op = sopD T mem tm' op := by
  cases op
  case call f l =>
    have := mapS_congr (l := l) (tm := tm) (tm' := tm') (by simpa [opds] using h)
    simp only [sopD, this]
  case callo k sz f l =>
    have := mapS_congr (l := l) (tm := tm) (tm' := tm') (by simpa [opds] using h)
    simp only [sopD, this]
  case callv => rfl
  case isnil => rfl
  all_goals exact sop_tm (mem := mem) h

theorem foot_tm {tm tm' : Nat → MV} {op : MOp} (h : ∀ s ∈ opds op, tm s = tm' s) : foot tm op = foot tm' op := by
  cases op <;> simp only [opds, List.mem_append] at h <;> try rfl
  case bsl k o z sz len ps => cases o <;> rfl
  case load n ag x => simp only [foot, ev_congr h]
  case slca n s x a b c => simp only [foot, ev_congr (fun s hs => h s (.inl (.inl (.inl hs))))]
  case store n x v => simp only [foot, ev_congr (fun s hs => h s (.inl hs))]
  case app k z b s x => simp only [foot, ev_congr (fun s hs => h s (.inl hs)), ev_congr (fun s hs => h s (.inr hs))]
  case cpy s d x => simp only [foot, ev_congr (fun s hs => h s (.inl hs)), ev_congr (fun s hs => h s (.inr hs))]

theorem rowM_mem {mem mem' : Mem} {sz : Nat} {m : MV} (h : ∀ k ∈ keyOf m, mem k = mem' k) : rowM mem sz m = rowM mem' sz m := by
  cases m <;> try rfl
  case dat d => cases d <;> rfl
  simp only [rowM]
  rw [h _ (by simp [keyOf])]

theorem appM_mem {mem mem' : Mem} {k : Key} {z : List MV} {b : Nat} {m : MV} {row : Option (Nat × List MV)} (hk : mem k = mem' k) (h : ∀ j ∈ keyOf m, mem j = mem' j) : appM mem k z b m row = appM mem' k z b m row := by
  cases m <;> cases row <;> try rfl
  · simp only [appM, nextG, hk]
  · simp only [appM]
    rw [h _ (by simp [keyOf])]

theorem cpyM_mem {mem mem' : Mem} {sz : Nat} {m : MV} {row : Option (Nat × List MV)} (h : ∀ j ∈ keyOf m, mem j = mem' j) : cpyM mem sz m row = cpyM mem' sz m row := by
  cases m <;> cases row <;> try rfl
  simp only [cpyM]
  rw [h _ (by simp [keyOf])]

theorem loadM_mem {mem mem' : Mem} {n : Nat} {ag : Bool} {m : MV} (h : ∀ j ∈ keyOf m, mem j = mem' j) : loadM mem n ag m = loadM mem' n ag m := by
  cases m <;> try rfl
  case dat d => cases d <;> rfl
  simp only [loadM]
  rw [h _ (by simp [keyOf])]

theorem storeM_mem {mem mem' : Mem} {n : Nat} {m : MV} {v : List MV} (h : ∀ j ∈ keyOf m, mem j = mem' j) : storeM mem n m v = storeM mem' n m v := by
  cases m <;> try rfl
  simp only [storeM]
  rw [h _ (by simp [keyOf])]

theorem slcaM_mem {mem mem' : Mem} {n s a b : Nat} {m : MV} (h : ∀ j ∈ keyOf m, mem j = mem' j) : slcaM mem n s a b m = slcaM mem' n s a b m := by
  cases m <;> try rfl
  simp only [slcaM]
  rw [h _ (by simp [keyOf])]

/-- It looks at its blocks alone. -/
theorem sop_mem {mem mem' : Mem} {tm : Nat → MV} {op : MOp} (h : ∀ k ∈ foot tm op, mem k = mem' k) : sop mem tm op = sop mem' tm op := by
  have nx : ∀ k, mem k = mem' k → nextG mem k = nextG mem' k := fun k hk => by simp only [nextG, hk]
  cases op <;> try rfl
  case alloc k z => simp only [sop, nx k (h k (by simp [foot]))]
  case box k x => simp only [sop, nx k (h k (by simp [foot]))]
  case bsl k o z sz len ps =>
    cases o
    · rfl
    · simp only [sop, nx k (h k (by simp [foot]))]
  case mksl k z b x y => simp only [sop, nx k (h k (by simp [foot]))]
  case load n ag x =>
    simp only [sop]
    rw [loadM_mem h]
  case slca n s x a b c =>
    cases c
    · simp only [sop]
      congr 2
      funext l
      congr 1
      funext hh
      exact slcaM_mem h
    · rfl
  case store n x v =>
    simp only [sop]
    rw [storeM_mem h]
  case app k z b s x =>
    simp only [foot, List.mem_cons, List.mem_append] at h
    simp only [sop, rowM_mem (sz := z.length) (fun j hj => h j (.inr (.inr hj)))]
    exact appM_mem (h k (.inl rfl)) fun j hj => h j (.inr (.inl hj))
  case cpy s d x =>
    simp only [foot, List.mem_append] at h
    simp only [sop, rowM_mem (sz := s) (fun j hj => h j (.inr hj))]
    exact cpyM_mem fun j hj => h j (.inl hj)

theorem sopD_mem {mem mem' : Mem} {tm : Nat → MV} {op : MOp} (h : ∀ k ∈ foot tm op, mem k = mem' k) : sopD T mem tm op = sopD T mem' tm op := by
  cases op
  case call => rfl
  case callo k sz f l =>
    have : nextG mem k = nextG mem' k := by simp only [nextG, h k (by simp [foot])]
    simp only [sopD, this]
  case callv => rfl
  case isnil => rfl
  all_goals exact sop_mem (mem := mem) (mem' := mem') (tm := tm) h

theorem mapN_none {x : Option MV} {m : MV} {e : Option (Key × Nat × List MV)} (h : mapN x = some (m, e)) : e = none := (mapN_inv h).2

/-- It changes one of its blocks, if it changes any. -/
theorem sop_wrs {mem : Mem} {tm : Nat → MV} {op : MOp} {m : MV} {e : Option (Key × Nat × List MV)} (h : sop mem tm op = some (m, e)) : e = none ∨ (wrs op = true ∧ ∃ k g cs, e = some (k, g, cs) ∧ k ∈ foot tm op) := by
  cases op <;> try (first | exact .inl (mapN_none h) | exact .inl (mapN_none (x := some _) h))
  case alloc k z =>
    simp only [sop, Option.some.injEq, Prod.mk.injEq] at h
    exact .inr ⟨rfl, _, _, _, h.2.symm, by simp [foot]⟩
  case box k x =>
    simp only [sop] at h
    split at h <;> simp only [Option.some.injEq, Prod.mk.injEq, reduceCtorEq] at h
    exact .inr ⟨rfl, _, _, _, h.2.symm, by simp [foot]⟩
  case bsl k o z sz len ps =>
    cases o
    · exact .inl (mapN_none h)
    · simp only [sop, bsloM] at h
      (repeat' split at h) <;> simp only [Option.some.injEq, Prod.mk.injEq, reduceCtorEq] at h
      exact .inr ⟨rfl, _, _, _, h.2.symm, by simp [foot]⟩
  case mksl k z b x y =>
    obtain ⟨_, _, _, _, h⟩ := bind2_inv h
    simp only [mkslM] at h
    split at h <;> simp only [Option.some.injEq, Prod.mk.injEq, reduceCtorEq] at h
    exact .inr ⟨rfl, _, _, _, h.2.symm, by simp [foot]⟩
  case slca n s x a b c =>
    cases c
    · exact .inl (mapN_none h)
    · cases h
  case store n x v =>
    simp only [sop] at h
    cases hx : ev tm x <;> rw [hx] at h <;> simp only [storeM, reduceCtorEq] at h
    simp only [storeC] at h
    (repeat' split at h) <;> simp only [Option.some.injEq, Prod.mk.injEq, reduceCtorEq] at h
    exact .inr ⟨rfl, _, _, _, h.2.symm, by simp [foot, hx, keyOf]⟩
  case app k z b s x =>
    simp only [sop] at h
    cases hr : rowM mem z.length (ev tm x) <;> cases hs : ev tm s <;> rw [hr, hs] at h <;> simp only [appM, reduceCtorEq] at h
    · split at h <;> simp only [Option.some.injEq, Prod.mk.injEq, reduceCtorEq] at h
      exact .inr ⟨rfl, _, _, _, h.2.symm, by simp [foot]⟩
    · simp only [appC] at h
      (repeat' split at h) <;> simp only [Option.some.injEq, Prod.mk.injEq, reduceCtorEq] at h
      exact .inr ⟨rfl, _, _, _, h.2.symm, by simp [foot, hs, keyOf]⟩
  case cpy s d x =>
    simp only [sop] at h
    cases hr : rowM mem s (ev tm x) <;> cases hs : ev tm d <;> rw [hr, hs] at h <;> simp only [cpyM, reduceCtorEq] at h
    simp only [cpyC] at h
    (repeat' split at h) <;> simp only [Option.some.injEq, Prod.mk.injEq, reduceCtorEq] at h
    exact .inr ⟨rfl, _, _, _, h.2.symm, by simp [foot, hs, keyOf]⟩
  all_goals cases h

theorem sopD_wrs {mem : Mem} {tm : Nat → MV} {op : MOp} {m : MV} {e : Option (Key × Nat × List MV)} (h : sopD T mem tm op = some (m, e)) : e = none ∨ (wrs op = true ∧ ∃ k g cs, e = some (k, g, cs) ∧ k ∈ foot tm op) := by
  cases op
  case call f l =>
    simp only [sopD] at h
    split at h <;> simp only [Option.some.injEq, Prod.mk.injEq, reduceCtorEq] at h
    · exact .inl h.2.symm
    · exact .inl h.2.symm
  case callo k sz f l =>
    simp only [sopD] at h
    (repeat' split at h) <;> simp only [Option.some.injEq, Prod.mk.injEq, reduceCtorEq] at h
    exact .inr ⟨rfl, _, _, _, h.2.symm, by simp [foot]⟩
  case callv => cases h
  case isnil => cases h
  all_goals exact sop_wrs (mem := mem) (tm := tm) h

/-- Of class 0: it looks at no block. -/
theorem class0 {tm : Nat → MV} {op : MOp} (h : classOf op = 0) : foot tm op = [] ∧ wrs op = false := by
  cases op <;> simp_all [classOf, wrs, foot]
  all_goals (rename_i b _ _ _ _; cases b <;> simp_all [wrs, foot])

theorem class1 {op : MOp} (h : classOf op = 1) : wrs op = false := by
  cases op <;> simp_all [classOf, wrs]
  all_goals (rename_i b _ _ _ _; cases b <;> simp_all [wrs])

end Go.Mini
