/- Regions, of either kind. -/
import Derived.Test.YtehjaghpfnncoaaMiniD6
set_option linter.unusedSimpArgs false
set_option linter.unusedVariables false
namespace Go.Mini
open Go
variable {P : Program} {T : Tab} {A : Nat → Prop} {w0 w : World} {B0 B : Lay} {mem : Mem} {n kb : Nat} {own : List Nat} {ops : Array Oper} {l : List MI} {K : St → Prop} {Q : Exit → Act → World → Prop}

theorem edgesOK_spec : ∀ (r : List Oper) (m : Nat), edgesOK m r = true → ∀ (t : Nat) (o : Oper), r[t]? = some o → ∀ e ∈ o.after, Region.binds .any e = true → e.on < m + t
  | [], _, _, _, _, h, _, _, _ => by simp at h
  | o' :: r, m, h, 0, o, ho, e, he, hb => by
    simp only [edgesOK, Bool.and_eq_true] at h
    simp at ho
    subst ho
    have := (Array.all_eq_true_iff_forall_mem.1 h.1) e he
    simpa [hb] using this
  | o' :: r, m, h, t + 1, o, ho, e, he, hb => by
    simp only [edgesOK, Bool.and_eq_true] at h
    have := edgesOK_spec r (m + 1) h.2 t o (by simpa using ho) e he hb
    omega

theorem lex_any {c : List (List Nat)} (hp : Pairs (confOf c) ops l) (hl : l.length = ops.size) (he : edgesOK 0 ops.toList = true) : ∀ (r : List MI) (m : Nat) (rec : Rec) (st : St) (listed : Array Bool), l.drop m = r → m + r.length = l.length →
    listed.size = ops.size → (∀ i, i < ops.size → listed.getD i true = decide (i < m)) → (∀ k, m ≤ k → rec k = none) → wprD T K m r (c.drop m) rec st → wpAnyM T (confOf c) ops l K r.length listed rec st
  | [], m, rec, st, listed, hr, hm, hs, hli, hrec, h => by
    refine ⟨List.eq_nil_iff_forall_not_mem.2 fun i hi => ?_, h⟩
    obtain ⟨h1, o, ho, _⟩ := mem_ready.1 hi
    have hlt : i < ops.size := (Array.getElem?_eq_some_iff.1 ho).1
    rw [hli i hlt] at h1
    simp at h1 hm
    omega
  | x :: r, m, rec, st, listed, hr, hm, hs, hli, hrec, h => by
    have hlt : m < ops.size := by simp at hm; omega
    have ho : ops[m]? = some ops[m] := Array.getElem?_eq_getElem hlt
    have hx : l[m]? = some x := by
      have : (l.drop m)[0]? = some x := by rw [hr]; rfl
      simpa using this
    have hspec := fun (j : Nat) (o : Oper) (hj : ops[j]? = some o) => edgesOK_spec ops.toList 0 he j o (by simpa using hj)
    have hin : ∀ i, i < m → listed.getD i false = true := fun i hi => by
      have h1 := hli i (by omega)
      rw [decide_eq_true hi] at h1
      have h2 : i < listed.size := by omega
      simpa [h2] using h1
    have hcl : Closed ops listed := ⟨hs, fun j o hj hjl e hee hb => by
      have h1 := hspec j o hj e hee hb
      have hj' : j < ops.size := (Array.getElem?_eq_some_iff.1 hj).1
      have h2 : j < m := by
        have := hli j hj'
        have h3 : j < listed.size := by omega
        simp [h3] at hjl this
        rw [hjl] at this
        simpa using this.symm
      exact hin _ (by omega)⟩
    have hready : m ∈ Region.ready .any ops listed := mem_ready.2 ⟨by rw [hli m hlt]; simp, _, ho, fun e hee hb => hin _ (by have := hspec m _ ho e hee hb; omega)⟩
    have hrec' : ∀ k, listed.getD k true = false → rec k = none := fun k hk => hrec k (by
      rcases Nat.lt_or_ge k ops.size with h' | h'
      · rw [hli k h'] at hk
        simpa using hk
      · omega)
    have next : ∀ rec1 st1, Exec T (confOf c) m x rec st rec1 st1 → wprD T K (m + 1) r (c.drop m).tail rec1 st1 → wpAnyM T (confOf c) ops l K (r.length + 1) listed rec st := by
      intro rec1 st1 hex hk
      refine wpAnyM_first hp (confOf_symm c) hx _ listed rec st rec1 st1 hcl hrec' hready hex (lex_any hp hl he r (m + 1) rec1 st1 _ ?_ (by simp at hm; omega) (by simpa using hs) (fun i hi => ?_) (fun k hk => ?_) ?_)
      · rw [← List.drop_drop, hr]
        rfl
      · by_cases him : m = i
        · subst him
          have : m < listed.size := by omega
          simp [this]
        · rw [getD_set_ne true him, hli i hi]
          congr 1
          simp
          omega
      · rw [exec_rec hex (by omega)]
        exact hrec k (by omega)
      · rw [List.tail_drop] at hk
        exact hk
    simp only [wprD] at h
    split at h
    · cases h
    · rename_i g hg
      split at h
      · rename_i hgt
        subst hgt
        split at h
        · rename_i mv e hs
          refine next _ _ (.inr ⟨hg, mv, e, hs, fun p q hpm hq => ?_, rfl, rfl⟩) h.2
          have hpl : p < m := by
            rcases Nat.lt_or_ge p m with h' | h'
            · exact h'
            · rw [hrec p h'] at hq; cases hq
          have hchk := h.1
          unfold chkR at hchk
          rw [List.all_eq_true] at hchk
          have hmem : p ∈ (c.drop m).headD [] := by
            unfold confOf at hpm
            rw [if_pos hpl] at hpm
            have : (c.drop m).headD [] = c.getD m [] := by
              rw [List.headD_eq_head?_getD, List.head?_drop, List.getD_eq_getElem?_getD]
            rw [this]
            exact List.contains_iff_mem.1 hpm
          have := hchk p hmem
          rw [hq] at this
          exact this
        · cases h
      · rename_i hgf
        have hgf' : g = false := by simpa using hgf
        subst hgf'
        exact next _ _ (.inl ⟨hg, rfl, rfl⟩) h

/-! ### A call from an open region -/
theorem mem_shut (h : MemRel A w B mem) : MemRel (OA A B) w (fun _ => none) emp :=
  ⟨fun _ _ => rfl, fun _ _ _ _ _ h => (by cases h), fun b _ ⟨_, _, h, _⟩ => (by cases h), fun b hb => hb.elim (fun h' => h.own_lt h') (h.lt b), fun _ _ _ h => (by cases h)⟩

theorem oa_shut (b : Nat) : OA (OA A B) (fun _ => none) b ↔ OA A B b :=
  ⟨fun h => h.elim (fun ⟨_, _, h, _⟩ => by cases h) id, .inr⟩

theorem shut_rel {m : MV} {v : Value} (h : VR w (OA A B) B m v) : VR w (OA (OA A B) fun _ => none) (fun _ => none) (shut m) v := by
  cases h with
  | dat h => exact .dat (h.less fun b hb => (oa_shut b).1 hb)
  | nil => exact .nil
  | clo hl hd =>
    rename_i f caps vs
    cases caps with
    | nil => exact .clo hl fun i d v h => by simp at h
    | cons c r => exact .undef
  | agg hl hd =>
    rename_i cs vs
    simp only [shut]
    cases hc : cs.mapM datOf with
    | none => exact .undef
    | some ds =>
      obtain ⟨h1, h2⟩ := mapM_get hc
      refine .dat (.agg (hl.trans h1.symm) fun i d v hi hv => ?_)
      have hlt : i < cs.length := by have := (List.getElem?_eq_some_iff.1 hi).1; omega
      have hci := List.getElem?_eq_getElem hlt
      exact (datOf_rel (h2 i _ d hci hi) (hd i _ v hci hv)).less fun b hb => (oa_shut b).1 hb
  | _ => exact .undef

theorem shut_list {ms : List MV} {vs : List Value} (h : RL w (OA A B) B ms vs) : RL w (OA (OA A B) fun _ => none) (fun _ => none) (ms.map shut) vs := by
  refine ⟨by simpa using h.1, fun i m v hm hv => ?_⟩
  rw [List.getElem?_map, Option.map_eq_some_iff] at hm
  obtain ⟨m', hm', rfl⟩ := hm
  exact shut_rel (h.2 i m' v hm' hv)

theorem OwnRes.less {w w' : World} {O O' : Nat → Prop} {sz : Nat} {es : List (List Data)} {v : Value} (hl : ∀ b, O' b → O b) (h : OwnRes w w' O sz es v) : OwnRes w w' O' sz es v := by
  obtain ⟨h1, a, cap, h2, h3, h4, h5⟩ := h
  refine ⟨h1, a, cap, h2, h3, h4, h5.imp id ?_⟩
  rintro ⟨b, vs, T, h6, h7, h8, h9, h10⟩
  exact ⟨b, vs, T, h6, h7, h8, h9, fun i d hd => let ⟨u, hu, hden⟩ := h10 i d hd; ⟨u, hu, hden.less fun b' hb' => hb'.imp (hl b') id⟩⟩

theorem execOp_call {o : Oper} {c : Call} {f : FuncId} {a : Act} (ho : o.op = .call c) (hcal : c.callee = .value (.func f)) (hreal : Real P f) : (execOp a.eval o).run P w = .ok (.enter f (c.args.toList.map a.eval).toArray) w := by
  obtain ⟨dst, op, type, pos, after, guard⟩ := o
  simp only at ho
  subst ho
  obtain ⟨callee, cargs, ats⟩ := c
  simp only at hcal
  subst hcal
  simp only [execOp, resolve, Deferred.ofValue, Act.eval, invoke, Sem.run_bind, Sem.run_pure, Result.andThen_ok, call_enter hreal]
  rw [list_toArray_map cargs]
  simp

theorem stepD_sim (hT : TabOK P T) {a : Act} {st : St} {o : Oper} {i : MI} {m : MV} {e : Option (Key × Nat × List MV)} (h : Sim n A w0 B0 a st w B) (hi : Is P n kb own ops o i)
    (hs : sopD T st.mem st.tm i.op = some (m, e)) : o.wp P a w (fun a' w' => ∃ B', Sim n A w0 B0 a' ⟨put st.tm i.dst m, updO st.mem e⟩ w' B') Q := by
  have hop := hi.op
  have plain : sop st.mem st.tm i.op = some (m, e) → o.wp P a w (fun a' w' => ∃ B', Sim n A w0 B0 a' ⟨put st.tm i.dst m, updO st.mem e⟩ w' B') Q := by
    intro hs
    have htr : trOp P kb own o.dst o.type o.op = some i.op := getD_some hop (by
      intro hb
      rw [hb] at hs
      cases hs)
    obtain ⟨nx, v, w', B', hrun, hnx, hst, hv⟩ := op_sound h.ok.mr h.rho htr hs
    unfold Oper.wp
    rw [hrun, hi.dst]
    have hsim := h.put hst hv hi.lt
    rcases hnx with rfl | ⟨rfl, rfl⟩
    · exact ⟨B', hsim⟩
    · exact ⟨B', hsim⟩
  cases hiop : i.op with
  | call f args =>
    have htr : trOp P kb own o.dst o.type o.op = some i.op := getD_some hop (by rw [hiop]; simp)
    rw [hiop] at htr hs
    obtain ⟨c, hc, hcal, hargs⟩ := trOp_call htr
    have hrl := shut_list (mapOpd_rel h.rho hargs)
    rw [List.map_map] at hrl
    simp only [sopD] at hs
    split at hs
    · rename_i r hTf
      cases hs
      obtain ⟨hreal, hspec⟩ := hT f _ _ _ hTf
      have hcc := hspec (OA A B) w (fun _ => none) _ (mem_shut h.ok.mr) hrl
      unfold Oper.wp
      rw [execOp_call hc hcal hreal, hi.dst]
      refine Calls.mono hcc fun e w' he => ?_
      obtain ⟨v, rfl, hfr, hd⟩ := he
      exact ⟨B, h.put (.still h.ok.mr hfr) (.dat (hd.less fun b hb => (oa_shut b).2 hb)) hi.lt⟩
    · rename_i sz es hTf
      cases hs
      obtain ⟨hreal, hspec⟩ := hT f _ _ _ hTf
      have hcc := hspec (OA A B) w (fun _ => none) _ (mem_shut h.ok.mr) hrl
      unfold Oper.wp
      rw [execOp_call hc hcal hreal, hi.dst]
      refine Calls.mono hcc fun e w' he => ?_
      obtain ⟨v, rfl, hfr, hd⟩ := he
      exact ⟨B, h.put (.still h.ok.mr hfr) (.dat ((hd.less fun b hb => (oa_shut b).2 hb).den fun b hb => hb.elim (fun h' => h.ok.mr.own_lt h') (h.ok.mr.lt b))) hi.lt⟩
    · cases hs
  | callo k sz f args =>
    have htr : trOp P kb own o.dst o.type o.op = some i.op := getD_some hop (by rw [hiop]; simp)
    rw [hiop] at htr hs
    obtain ⟨c, hc, hcal, hargs⟩ := trOp_callo htr
    have hrl := shut_list (mapOpd_rel h.rho hargs)
    rw [List.map_map] at hrl
    simp only [sopD] at hs
    split at hs
    · rename_i sz' es hTf
      split at hs
      · rename_i hsz
        subst hsz
        cases hs
        obtain ⟨hreal, hspec⟩ := hT f _ _ _ hTf
        have hcc := hspec (OA A B) w (fun _ => none) _ (mem_shut h.ok.mr) hrl
        unfold Oper.wp
        rw [execOp_call hc hcal hreal, hi.dst]
        refine Calls.mono hcc fun e w' he => ?_
        obtain ⟨v, rfl, hfr, hd⟩ := he
        obtain ⟨B', hst, hv⟩ := adopt_ok k h.ok.mr hfr (hd.less fun b hb => (oa_shut b).2 hb)
        exact ⟨B', h.put hst hv hi.lt⟩
      · cases hs
    · cases hs
  | callv f args => rw [hiop] at hs; cases hs
  | isnil neg x => rw [hiop] at hs; cases hs
  | _ => exact plain (by rw [hiop] at hs ⊢; exact hs)

theorem mapM_at {α β : Type} {f : α → Option β} {xs : List α} {ys : List β} (h : xs.mapM f = some ys) {i : Nat} {x : α} (hx : xs[i]? = some x) : ∃ y, ys[i]? = some y ∧ f x = some y := by
  obtain ⟨h1, h2⟩ := mapM_get h
  have hlt : i < ys.length := by rw [h1]; exact (List.getElem?_eq_some_iff.1 hx).1
  exact ⟨_, List.getElem?_eq_getElem hlt, h2 i x _ hx (List.getElem?_eq_getElem hlt)⟩

theorem any_sim (hT : TabOK P T) {conf : Nat → Nat → Bool} (htr : ops.toList.mapM (trOper P n kb own ops) = some l) (hQ : ∀ st a w B, K st → Sim n A w0 B0 a st w B → Q .normal a w) :
    ∀ (fuel : Nat) (listed : Array Bool) (rec : Rec) (st : St) (a : Act) (w : World) (B : Lay), Sim n A w0 B0 a st w B → wpAnyM T conf ops l K fuel listed rec st → wpAny P .any ops Q fuel listed a w
  | 0, _, _, _, _, _, _, hs, h => ⟨h.1, hQ _ _ _ _ h.2 hs⟩
  | fuel + 1, listed, rec, st, a, w, B, hs, h => by
    refine ⟨fun h0 => hQ _ _ _ _ (h.1 h0) hs, fun i hi => ?_⟩
    obtain ⟨x, rec', st', hx, hex, hk⟩ := h.2 i hi
    obtain ⟨_, o, ho, _⟩ := mem_ready.1 hi
    obtain ⟨y, hy, hoy⟩ := mapM_at htr (i := i) (x := o) (by simpa using ho)
    rw [hx] at hy
    cases hy
    have his := is_of hoy
    unfold wpOp
    simp only [ho]
    rcases hex with ⟨hg, rfl, rfl⟩ | ⟨hg, m, e, hsop, _, rfl, rfl⟩
    · rw [wanted_of hs his.guard hg, if_neg (by simp)]
      exact any_sim hT htr hQ fuel _ _ _ _ _ B (by rw [his.dst]; exact hs.put (.refl hs.ok.mr) .no his.lt) hk
    · rw [wanted_of hs his.guard hg, if_pos rfl]
      refine .inl (Oper.wp_mono (fun a' w' ⟨B', hs'⟩ => any_sim hT htr hQ fuel _ _ _ _ _ B' hs' hk) (stepD_sim hT hs his hsop))

theorem Sim.drew {a : Act} {st : St} (h : Sim n A w0 B0 a st w B) (d : Nat) : Sim n A w0 B0 a st { w with drawn := d } B := by
  have hs : StepOK A w B { w with drawn := d } B st.mem := .still h.ok.mr ((Fr.refl _ _).drew d)
  exact ⟨h.ok.trans hs, fun s => (h.tm s).keep hs.tr, h.sz, h.df⟩

theorem opsD_sim (hT : TabOK P T) (hm : P.follows .mixedOrders = true) {id : Nat} {a : Act} {st : St} (htr : ops.toList.mapM (trOper P n kb own ops) = some l) (hd : drawOK ops l = true) (hs : Sim n A w0 B0 a st w B)
    (h : wprD T K 0 l (chkOf [] l (ancL ops.toList [])) (fun _ => none) st) (hQ : ∀ st a w B, K st → Sim n A w0 B0 a st w B → Q .normal a w) : (Code.region id ops true).wp P Q a w := by
  refine wp_region_any hm ?_
  have hl : l.length = ops.size := by
    rw [(mapM_get htr).1, Array.length_toList]
  have hany := lex_any (pairs_of hd) hl (by unfold drawOK at hd; rw [Bool.and_eq_true] at hd; exact hd.1) l 0 (fun _ => none) st (Array.replicate ops.size false) rfl (by simp) (by simp) (fun i hi => by simp [hi]) (fun _ _ => rfl) h
  rw [hl] at hany
  exact any_sim hT htr hQ ops.size _ _ _ _ _ B (hs.drew _) hany

/-- Regions in the order of the text. -/
theorem ops_sim (hT : TabOK P T) (htr : ops.toList.mapM (trOper P n kb own ops) = some l) (hQ : ∀ st a w B, K st → Sim n A w0 B0 a st w B → Q .normal a w) :
    ∀ (r : List MI) (m : Nat) (st : St) (a : Act) (w : World) (B : Lay), l.drop m = r → Sim n A w0 B0 a st w B → wpr T K r st → wpOps P ops Q (List.range' m r.length) a w
  | [], _, _, _, _, _, _, hs, h => hQ _ _ _ _ h hs
  | x :: r, m, st, a, w, B, hr, hs, h => by
    have hx : l[m]? = some x := by
      have : (l.drop m)[0]? = some x := by rw [hr]; rfl
      simpa using this
    have hr' : l.drop (m + 1) = r := by rw [← List.drop_drop, hr]; rfl
    have hlt : m < ops.size := by
      have h1 := (mapM_get htr).1
      have h2 := (List.getElem?_eq_some_iff.1 hx).1
      simp at h1
      omega
    have ho : ops[m]? = some ops[m] := Array.getElem?_eq_getElem hlt
    obtain ⟨y, hy, hoy⟩ := mapM_at htr (i := m) (x := ops[m]) (by simp)
    rw [hx] at hy
    cases hy
    have his := is_of hoy
    simp only [List.length_cons, List.range'_succ]
    rw [wpOps_cons]
    unfold wpOp
    simp only [ho]
    simp only [wpr] at h
    split at h
    · cases h
    · rename_i g hg
      rw [wanted_of hs his.guard hg]
      cases g with
      | true =>
        simp only [if_true] at h ⊢
        exact .inl (Oper.wp_mono (fun a' w' ⟨st', B', hk, hs'⟩ => ops_sim hT htr hQ r (m + 1) st' a' w' B' hr' hs' hk) (step_sim hT hs his h))
      | false =>
        simp only [Bool.false_eq_true, if_false] at h ⊢
        exact ops_sim hT htr hQ r (m + 1) _ _ _ B hr' (hs.put (.refl hs.ok.mr) .no his.lt) (by rw [← his.dst]; exact h)

end Go.Mini
