/- Code of an activation. -/
import Derived.Test.YtehjaghpfnncoaaMiniF1
import Derived.LoopN
set_option linter.unusedSimpArgs false
set_option linter.unusedVariables false
namespace Go.Mini
open Go
variable {P : Program} {T : Tab} {A : Nat → Prop} {w0 w : World} {B0 B : Lay} {mem : Mem} {n kb : Nat} {own : List Nat} {Q : Exit → Act → World → Prop}

/-- A row of data that an activation gives up. -/
theorem freeze_den {k : Key} {g sz off len : Nat} {cs : List MV} {d : Data} {v : Value} (hmr : MemRel A w B mem) (hk : mem k = some (g, cs)) (hd : toD 1 mem (.ref k g sz off len) = some d) (hv : VR w (OA A B) B (.ref k g sz off len) v) :
    Den w (OA A (updB B k ⟨nextG mem k, none, 0⟩)) d v := by
  have hO : ∀ b, OA A (updB B k ⟨nextG mem k, none, 0⟩) b → OA A B b := fun b h => h.imp (fun ⟨j, e, hj, hx⟩ => by
    by_cases hjk : j = k
    · subst hjk; rw [updB_same] at hj; cases hj; cases hx
    · rw [updB_other B _ hjk] at hj; exact ⟨j, e, hj, hx⟩) id
  simp only [toD, hk, if_true] at hd
  split at hd
  · rename_i part hpart
    simp only [Option.map_eq_some_iff] at hd
    obtain ⟨ds, hds, rfl⟩ := hd
    obtain ⟨hcl, rfl, hpl⟩ := cut_some hpart
    obtain ⟨h1, h2⟩ := mapM_get hds
    cases hv with
    | ref he hgle hr =>
      obtain ⟨e, he', hge, hn, hb⟩ := hmr.at_ hk
      rw [he'] at he
      obtain rfl := Option.some.inj he
      obtain ⟨a, cap, rfl, h3, h4, h5⟩ := hr
      rcases h5 with h5 | ⟨b, rfl, h6⟩
      · have : len = 0 := by omega
        subst this
        simp only [chunk]
        exact .sl0
      · obtain ⟨h7, h8⟩ := h6 hge.symm
        obtain ⟨vs, T, hh, hz, hle, hrl⟩ := hb b h7
        have hnot : ¬ OA A (updB B k ⟨nextG mem k, none, 0⟩) b := by
          rintro (⟨j, e2, hj, hx⟩ | ha)
          · by_cases hjk : j = k
            · subst hjk; rw [updB_same] at hj; cases hj; cases hx
            · rw [updB_other B _ hjk] at hj
              exact hjk (hmr.inj j k e2 _ b hj he' hx h7)
          · exact hmr.sep b ha ⟨k, _, he', h7⟩
        refine den_row hh hnot (by omega) h3 (by omega) (by omega) fun i x u hx hu => ?_
        have hlt : i < ds.length := (List.getElem?_eq_some_iff.1 hx).1
        have hlt2 : off + i < cs.length := by omega
        have hci : ((cs.drop off).take (len * sz))[i]? = some cs[off + i] := by
          rw [List.getElem?_take_of_lt (by omega), List.getElem?_drop, List.getElem?_eq_getElem hlt2]
        have hx' := h2 i _ x hci hx
        have hv' : VR w (OA A B) B cs[off + i] u := hrl.2 (off + i) _ u (List.getElem?_eq_getElem hlt2) (by
          rw [List.getElem?_take_of_lt hlt2, Array.getElem?_toList]
          exact hu)
        generalize cs[off + i] = m at *
        cases m <;> simp only [toD, Option.some.injEq, reduceCtorEq] at hx'
        · subst hx'
          cases hv' with
          | dat h => exact h.less hO
        · subst hx'
          cases hv'
          exact .sl0
  · cases hd

theorem adopt_rel {k : Key} {O O' : Nat → Prop} {B' : Lay} {v : Value} {sz : Nat} {e : Bk} (he : B k = some e) (hv : VR w O B' .nil v) : VR w O' B (.ref k e.g sz 0 0) v := by
  cases hv
  exact .ref he (Nat.le_refl _) ⟨_, 0, rfl, Nat.le_refl _, Nat.zero_le _, .inl rfl⟩

/-- A cell is spoken of otherwise. -/
theorem cell_swap {k : Key} {g i : Nat} {cs : List MV} {m m' : MV} {w1 : World} (hmr : MemRel A w B mem) (hk : mem k = some (g, cs)) (hi : cs[i]? = some m)
    (hv : ∀ e b v, B k = some e → e.blk = some b → w.cell? ⟨b, i, none⟩ = some v → VR w (OA A B) B m' v) : ∃ B', StepOK A w B w B' (updM mem k g (cs.set i m')) := by
  obtain ⟨e, he, hge, hn, hb⟩ := hmr.at_ hk
  have ok := StepOK.change (k := k) (e' := e) (cs := cs.set i m') hmr (Fr.refl _ w) (fun e2 he2 => .inl (by rw [he] at he2; cases he2; rfl)) (fun b hb2 => .inr ⟨e, he, hb2⟩) (fun h => by
    have := hn h
    subst this
    rfl) (fun b hb2 => by
    obtain ⟨vs, T, hh, hz, hle, hrl⟩ := hb b hb2
    refine ⟨vs, T, hh, hz, by simpa using hle, fun j x hx => ?_⟩
    by_cases hij : i = j
    · subst hij
      have hlt : i < cs.length := (List.getElem?_eq_some_iff.1 hi).1
      rw [List.getElem?_set_self hlt] at hx
      cases hx
      have hv2 : i < vs.size := by omega
      exact ⟨vs[i], Array.getElem?_eq_getElem hv2, hv e b _ he hb2 (by rw [cell_of_row w b i vs T (0, 0) hh]; exact Array.getElem?_eq_getElem hv2)⟩
    · rw [List.getElem?_set_ne hij] at hx
      obtain ⟨v, hvv, hr⟩ := hrl.get hx
      refine ⟨v, ?_, hr⟩
      have hlt : j < cs.length := (List.getElem?_eq_some_iff.1 hx).1
      rw [List.getElem?_take_of_lt hlt, Array.getElem?_toList] at hvv
      exact hvv)
  rw [hge] at ok
  exact ⟨_, ok⟩

/-- Only how things are spoken of changes. -/
theorem Sim.ghost {a : Act} {st : St} {B' : Lay} {mem' : Mem} {tm' : Nat → MV} (h : Sim n A w0 B0 a st w B) (hs : StepOK A w B w B' mem') (ht : ∀ s, tm' s = st.tm s ∨ VR w (OA A B') B' (tm' s) (a.eval (.tmp s))) :
    Sim n A w0 B0 a ⟨tm', mem'⟩ w B' := by
  refine ⟨h.ok.trans hs, fun s => ?_, h.sz, h.df⟩
  rcases ht s with h1 | h1
  · simp only [h1]
    exact (h.tm s).keep hs.tr
  · exact h1

theorem ghost_sim {K : St → Prop} {a : Act} {st : St} {g : Ghost} (h : Sim n A w0 B0 a st w B) (hk : ghostK K st g) : ∃ st' B', K st' ∧ Sim n A w0 B0 a st' w B' := by
  have hev : ∀ x : Opd, ∃ v, VR w (OA A B) B (ev st.tm x) v ∨ ∃ m, x = .c m := fun x => by
    cases x with
    | t s => exact ⟨_, .inl (h.tm s)⟩
    | c m => exact ⟨undef, .inr ⟨m, rfl⟩⟩
  cases g with
  | adopt s k sz =>
    simp only [ghostK] at hk
    split at hk
    · rename_i hs
      have ok := StepOK.virtual h.ok.mr k
      refine ⟨_, _, hk, h.ghost ok fun t => ?_⟩
      by_cases hts : t = s
      · subst hts
        have := h.tm t
        rw [hs] at this
        simp only [upd, if_true]
        exact .inr (adopt_rel (e := ⟨nextG st.mem k, none, 0⟩) (updB_same _ _ _) this)
      · exact .inl (by simp [upd, hts])
    · cases hk
  | freeze s =>
    simp only [ghostK] at hk
    split at hk
    · rename_i k g sz off len hs
      split at hk
      · rename_i g' cs hmem
        split at hk
        · rename_i hg
          obtain ⟨rfl, _⟩ := hg
          split at hk
          · rename_i d hd
            have ok := StepOK.virtual h.ok.mr k
            refine ⟨_, _, hk, h.ghost ok fun t => ?_⟩
            by_cases hts : t = s
            · subst hts
              have hv := h.tm t
              rw [hs] at hv hd
              simp only [upd, if_true]
              exact .inr (.dat (freeze_den h.ok.mr hmem hd hv))
            · exact .inl (by simp [upd, hts])
          · cases hk
        · cases hk
      · cases hk
    · cases hk
  | adoptC x i k sz =>
    simp only [ghostK] at hk
    split at hk
    · rename_i kc g off hx
      split at hk
      · rename_i g' cs hmem
        split at hk
        · rename_i hg
          subst hg
          split at hk
          · rename_i hc
            split at hk
            · rename_i hne
              have ok := StepOK.virtual h.ok.mr k
              have hmem1 : updM st.mem k (nextG st.mem k) [] kc = some (g', cs) := by simp [updM, Ne.symm hne, hmem]
              obtain ⟨e, he, hge, hn, hb⟩ := h.ok.mr.at_ hmem
              obtain ⟨B', ok2⟩ := cell_swap (w1 := w) (m' := .ref k (nextG st.mem k) sz 0 0) ok.mr hmem1 hc (fun e2 b v he2 hb2 hv => by
                rw [updB_other B _ (Ne.symm hne)] at he2
                rw [he] at he2
                cases he2
                obtain ⟨vs, T, hh, hz, hle, hrl⟩ := hb b hb2
                have hlt : off + i < cs.length := (List.getElem?_eq_some_iff.1 hc).1
                rw [cell_of_row w b (off + i) vs T (0, 0) hh] at hv
                have hr := hrl.2 (off + i) _ v hc (by rw [List.getElem?_take_of_lt hlt, Array.getElem?_toList]; exact hv)
                exact adopt_rel (e := ⟨nextG st.mem k, none, 0⟩) (updB_same _ _ _) hr)
              exact ⟨_, B', hk, h.ghost (ok.trans ok2) fun t => .inl rfl⟩
            · cases hk
          · cases hk
        · cases hk
      · cases hk
    · cases hk
  | freezeC x i =>
    simp only [ghostK] at hk
    split at hk
    · rename_i kc gc off hx
      split at hk
      · rename_i gc' cc hmemc
        split at hk
        · rename_i hg
          subst hg
          split at hk
          · rename_i k g sz o len hc
            split at hk
            · rename_i g' cs hmem
              split at hk
              · rename_i hg
                obtain ⟨rfl, _, hne⟩ := hg
                split at hk
                · rename_i d hd
                  have ok := StepOK.virtual h.ok.mr k
                  have hmem1 : updM st.mem k (nextG st.mem k) [] kc = some (gc', cc) := by simp [updM, Ne.symm hne, hmemc]
                  obtain ⟨e, he, hge, hn, hb⟩ := h.ok.mr.at_ hmemc
                  obtain ⟨B', ok2⟩ := cell_swap (w1 := w) (m' := .dat d) ok.mr hmem1 hc (fun e2 b v he2 hb2 hv => by
                    rw [updB_other B _ (Ne.symm hne)] at he2
                    rw [he] at he2
                    cases he2
                    obtain ⟨vs, T, hh, hz, hle, hrl⟩ := hb b hb2
                    have hlt : off + i < cc.length := (List.getElem?_eq_some_iff.1 hc).1
                    rw [cell_of_row w b (off + i) vs T (0, 0) hh] at hv
                    have hr := hrl.2 (off + i) _ v hc (by rw [List.getElem?_take_of_lt hlt, Array.getElem?_toList]; exact hv)
                    exact .dat (freeze_den h.ok.mr hmem hd hr))
                  exact ⟨_, B', hk, h.ghost (ok.trans ok2) fun t => .inl rfl⟩
                · cases hk
              · cases hk
            · cases hk
          · cases hk
        · cases hk
      · cases hk
    · cases hk

/-- The text alone. -/
def erase : MCode → MCode
  | .skip => .skip
  | .ops l => .ops l
  | .opsD l c => .opsD l c
  | .seq a b => .seq (erase a) (erase b)
  | .cond c a b => .cond c (erase a) (erase b)
  | .block id c => .block id (erase c)
  | .loop c => .loop (erase c)
  | .exit id => .exit id
  | .ret => .ret
  | .ghost _ c => erase c

def toExit : MExit → Exit
  | .normal => .normal
  | .exit id => .exit id
  | .ret => .ret

/-- What is behind a piece of the small semantics' code. -/
def From (P : Program) (n kb : Nat) (own : List Nat) (c : Code) : MCode → Prop
  | .skip => c = .skip
  | .ops l => ∃ id ops, c = .region id ops false ∧ ops.toList.mapM (trOper P n kb own ops) = some l
  | .opsD l ch => ∃ id ops, c = .region id ops true ∧ ops.toList.mapM (trOper P n kb own ops) = some l ∧ drawOK ops l = true ∧ ch = chkOf [] l (ancL ops.toList [])
  | .seq x y => ∃ a b, c = .seq a b ∧ trCode P n kb own a = some x ∧ trCode P n kb own b = some y
  | .cond x y z => ∃ x' a b, c = .cond x' a b ∧ trOpd x' = some x ∧ trCode P n kb own a = some y ∧ trCode P n kb own b = some z
  | .block id x => ∃ a, c = .block id a ∧ trCode P n kb own a = some x
  | .loop x => ∃ a, c = .loop a ∧ trCode P n kb own a = some x
  | .exit id => c = .exit id
  | .ret => c = .ret
  | .ghost .. => False

theorem trCode_from {c : Code} {m : MCode} (h : trCode P n kb own c = some m) : From P n kb own c m := by
  cases c <;> simp only [trCode, Option.some.injEq, reduceCtorEq, Option.map_eq_some_iff] at h
  case skip => subst h; rfl
  case region id ops draw =>
    split at h
    · rename_i l hl
      split at h
      · rename_i hd
        subst hd
        split at h
        · rename_i hok
          cases h
          exact ⟨id, ops, rfl, hl, hok, rfl⟩
        · cases h
      · rename_i hd
        cases h
        exact ⟨id, ops, by rw [Bool.not_eq_true] at hd; rw [hd], hl⟩
    · cases h
  case seq a b =>
    split at h
    · rename_i x y hx hy
      cases h
      exact ⟨a, b, rfl, hx, hy⟩
    · cases h
  case cond x a b =>
    split at h
    · rename_i x' y z hx hy hz
      cases h
      exact ⟨x, a, b, rfl, hx, hy, hz⟩
    · cases h
  case block id a =>
    obtain ⟨x, hx, rfl⟩ := h
    exact ⟨a, rfl, hx⟩
  case loop a =>
    obtain ⟨x, hx, rfl⟩ := h
    exact ⟨a, rfl, hx⟩
  case exit id => subst h; rfl
  case ret => subst h; rfl

theorem code_sim (hT : TabOK P T) (hm : P.follows .mixedOrders = true) : ∀ (mc : MCode) (c : Code) (K : MExit → St → Prop) (Q : Exit → Act → World → Prop) (st : St) (a : Act) (w : World) (B : Lay),
    trCode P n kb own c = some (erase mc) → Sim n A w0 B0 a st w B → wp T mc K st → (∀ e st a w B, K e st → Sim n A w0 B0 a st w B → Q (toExit e) a w) → c.wp P Q a w
  | .ghost g mc, c, K, Q, st, a, w, B, htr, hs, h, hQ => by
    obtain ⟨st', B', hk, hs'⟩ := ghost_sim hs h
    exact code_sim hT hm mc c K Q st' a w B' htr hs' hk hQ
  | .skip, c, K, Q, st, a, w, B, htr, hs, h, hQ => by
    obtain rfl := trCode_from htr
    exact Go.wp_skip (hQ .normal st a w B h hs)
  | .exit id, c, K, Q, st, a, w, B, htr, hs, h, hQ => by
    obtain rfl := trCode_from htr
    exact Go.wp_exit (hQ (.exit id) st a w B h hs)
  | .ret, c, K, Q, st, a, w, B, htr, hs, h, hQ => by
    obtain rfl := trCode_from htr
    exact Go.wp_ret (hQ .ret st a w B h hs)
  | .ops l, c, K, Q, st, a, w, B, htr, hs, h, hQ => by
    obtain ⟨id, ops, rfl, hl⟩ := trCode_from htr
    have := ops_sim (Q := Q) (K := K .normal) hT hl (fun st a w B hk hs => hQ .normal st a w B hk hs) l 0 st a w B rfl hs h
    refine Go.wp_region ?_
    rw [(mapM_get hl).1, Array.length_toList] at this
    rw [List.range_eq_range']
    exact this
  | .opsD l ch, c, K, Q, st, a, w, B, htr, hs, h, hQ => by
    obtain ⟨id, ops, rfl, hl, hd, rfl⟩ := trCode_from htr
    exact opsD_sim hT hm hl hd hs h fun st a w B hk hs => hQ .normal st a w B hk hs
  | .seq x y, c, K, Q, st, a, w, B, htr, hs, h, hQ => by
    obtain ⟨x', y', rfl, hx, hy⟩ := trCode_from htr
    refine Go.wp_seq (code_sim hT hm x x' _ _ st a w B hx hs h fun e st' a' w' B' hk hs' => ?_)
    cases e with
    | normal => exact code_sim hT hm y y' _ _ st' a' w' B' hy hs' hk hQ
    | exit id => exact hQ (.exit id) st' a' w' B' hk hs'
    | ret => exact hQ .ret st' a' w' B' hk hs'
  | .cond x y z, c, K, Q, st, a, w, B, htr, hs, h, hQ => by
    obtain ⟨x', y', z', rfl, hx, hy, hz⟩ := trCode_from htr
    have hv := hs.rho x' x hx
    simp only [wp] at h
    split at h
    · rename_i t ht
      rw [ht] at hv
      refine Go.wp_cond hv.bool_inv ?_
      cases t with
      | true => exact code_sim hT hm y y' _ _ st a w B hy hs h hQ
      | false => exact code_sim hT hm z z' _ _ st a w B hz hs h hQ
    · cases h
  | .block id x, c, K, Q, st, a, w, B, htr, hs, h, hQ => by
    obtain ⟨x', rfl, hx⟩ := trCode_from htr
    refine Go.wp_block (code_sim hT hm x x' _ _ st a w B hx hs h fun e st' a' w' B' hk hs' => ?_)
    cases e with
    | normal => exact hQ .normal st' a' w' B' hk hs'
    | exit j =>
      simp only [toExit, Exit.inBlock]
      simp only at hk
      split
      · rename_i hj
        rw [if_pos hj] at hk
        exact hQ .normal st' a' w' B' hk hs'
      · rename_i hj
        rw [if_neg hj] at hk
        exact hQ (.exit j) st' a' w' B' hk hs'
    | ret => exact hQ .ret st' a' w' B' hk hs'
  | .loop x, c, K, Q, st, a, w, B, htr, hs, h, hQ => by
    obtain ⟨x', rfl, hx⟩ := trCode_from htr
    obtain ⟨I, μ, hI, hround⟩ := h
    have key : ∀ m (st : St) (a : Act) (w : World) (B : Lay), μ st < m → I st → Sim n A w0 B0 a st w B → Code.rounds P x' Q m a w := by
      intro m
      induction m with
      | zero => intro st a w B hm'; omega
      | succ m ih =>
        intro st a w B hm' hI hs
        refine code_sim hT hm x x' _ _ st a w B hx hs (hround st hI) fun e st' a' w' B' hk hs' => ?_
        cases e with
        | normal => exact ih st' a' w' B' (by have := hk.2; omega) hk.1 hs'
        | exit id => exact hQ (.exit id) st' a' w' B' hk hs'
        | ret => exact hQ .ret st' a' w' B' hk hs'
    exact wp_loop_rounds (μ st + 1) (key _ st a w B (Nat.lt_succ_self _) hI hs)

end Go.Mini
