/- Loops: what a round leaves as it is, is kept. -/
import Derived.Test.YtehjaghpfnncoaaMiniG
import Derived.Laws.BitsLemmas
set_option linter.unusedSimpArgs false
set_option linter.unusedVariables false
namespace Go.Mini
open Go

/-- Behind a round of a loop: some places hold what they held, and J at a smaller index. -/
def roundK {ι : Type} (T : Tab) (ks : List Nat) (km : List Key) (vs : List MV) (ms : List (Option (Nat × List MV))) (J : ι → (Nat → MV) → Mem → Prop) (m : ι → Nat) (i : ι) (K : MExit → St → Prop) (k : List Todo) : MExit → St → Prop
  | .normal, st => ∃ i', m i' < m i ∧ ks.map st.tm = vs ∧ km.map st.mem = ms ∧ J i' st.tm st.mem
  | .exit id, st => kont T K k (.exit id) st
  | .ret, st => kont T K k .ret st

section
variable {ι : Type} (T : Tab) (ks : List Nat) (km : List Key) (vs : List MV) (ms : List (Option (Nat × List MV))) (J : ι → (Nat → MV) → Mem → Prop) (m : ι → Nat) (i : ι) (K : MExit → St → Prop) (k : List Todo)
@[go_sem] theorem roundK_exit (id : Nat) (st : St) : roundK T ks km vs ms J m i K k (.exit id) st = kont T K k (.exit id) st := _root_.id rfl
@[go_sem] theorem roundK_ret (st : St) : roundK T ks km vs ms J m i K k .ret st = kont T K k .ret st := _root_.id rfl
@[go_sem] theorem roundK_normal (st : St) : roundK T ks km vs ms J m i K k .normal st = ∃ i', m i' < m i ∧ ks.map st.tm = vs ∧ km.map st.mem = ms ∧ J i' st.tm st.mem := _root_.id rfl
end

theorem wp_loop_keep {ι : Type} {T : Tab} {K : MExit → St → Prop} {k : List Todo} {tm0 : Nat → MV} {mem0 : Mem} {c : MCode} (ks : List Nat) (km : List Key) (J : ι → (Nat → MV) → Mem → Prop) (m : ι → Nat) (i0 : ι) (h0 : J i0 tm0 mem0)
    (h : ∀ vs ms, ks.map tm0 = vs → km.map mem0 = ms → ∀ i tm mem, ks.map tm = vs → km.map mem = ms → J i tm mem → wp T c (kont T (roundK T ks km vs ms J m i K k) []) ⟨tm, mem⟩) :
    wp T (.loop c) (kont T K k) ⟨tm0, mem0⟩ := by
  refine wp_loop_intro (fun i st => ks.map st.tm = ks.map tm0 ∧ km.map st.mem = km.map mem0 ∧ J i st.tm st.mem) m i0 ⟨rfl, rfl, h0⟩ ?_
  rintro i ⟨tm, mem⟩ ⟨h1, h2, h3⟩
  have := h _ _ rfl rfl i tm mem h1 h2 h3
  have hk : kont T (roundK T ks km (ks.map tm0) (km.map mem0) J m i K k) [] = kont T (loopK T (fun i (st : St) => ks.map st.tm = ks.map tm0 ∧ km.map st.mem = km.map mem0 ∧ J i st.tm st.mem) m i K k) [] := by
    funext e st'
    cases e <;> rfl
  rw [hk] at this
  exact this

/-- Two goals joined: a branch whose arms go on alike. -/
theorem wp_cut {T : Tab} {a b : MCode} {K : MExit → St → Prop} {k : List Todo} {st : St} (Q : St → Prop) (h1 : wp T a (kont T (fun e st' => match e with | .normal => Q st' | e => kont T K k e st') []) st) (h2 : ∀ st', Q st' → wp T b (kont T K k) st') :
    wp T (.seq a b) (kont T K k) st := by
  have mono : ∀ (c : MCode) (K K' : MExit → St → Prop), (∀ e st, K e st → K' e st) → ∀ st, wp T c K st → wp T c K' st := by
    intro c
    induction c with
    | skip => exact fun K K' h st => h _ _
    | ops l =>
      intro K K' h st hw
      have : ∀ (l : List MI) (K K' : St → Prop), (∀ st, K st → K' st) → ∀ st, wpr T K l st → wpr T K' l st := by
        intro l
        induction l with
        | nil => exact fun K K' h st => h st
        | cons i r ih =>
          intro K K' h st hw
          unfold wpr at hw ⊢
          split
          · rename_i hg
            rw [hg] at hw
            exact hw
          · rename_i g hg
            rw [hg] at hw
            simp only at hw ⊢
            split
            · rename_i hgt
              rw [if_pos hgt] at hw
              have hstep : ∀ (K K' : St → Prop), (∀ st, K st → K' st) → stepK T K i st → stepK T K' i st := by
                intro K K' h hw
                have hc : ∀ d f args, callK T K st d f args → callK T K' st d f args := by
                  intro d f args hw
                  unfold callK at hw ⊢
                  split
                  · rename_i hh; rw [hh] at hw; exact h _ hw
                  · rename_i hh; rw [hh] at hw; exact h _ hw
                  · rename_i hh; rw [hh] at hw; exact fun r mem' hr => h _ (hw r mem' hr)
                  · rename_i hh; rw [hh] at hw; exact hw
                unfold stepK at hw ⊢
                split
                · rename_i hh; rw [hh] at hw; exact hc _ _ _ hw
                · rename_i hh; rw [hh] at hw
                  simp only at hw
                  split
                  · rename_i hh2; rw [hh2] at hw
                    simp only at hw
                    split
                    · rename_i hs; rw [if_pos hs] at hw; exact h _ hw
                    · rename_i hs; rw [if_neg hs] at hw; exact hw
                  · rename_i hh2
                    split at hw
                    · rename_i sz' es hh3; exact (hh2 sz' es hh3).elim
                    · exact hw
                · rename_i hh; rw [hh] at hw
                  simp only at hw
                  split
                  · rename_i hh2; rw [hh2] at hw; exact hc _ _ _ hw
                  · rename_i hh2; rw [hh2] at hw; exact hc _ _ _ hw
                  · rename_i hh2 hh3
                    split at hw
                    · rename_i hh4; exact (hh2 _ _ hh4).elim
                    · rename_i hh4; exact (hh3 _ _ hh4).elim
                    · exact hw
                · rename_i hh; rw [hh] at hw
                  simp only at hw
                  split
                  · rename_i hh2; rw [hh2] at hw; exact fun b hb => h _ (hw b hb)
                  · rename_i hh2; rw [hh2] at hw; exact hw
                · rename_i h1 h2 h3 h4
                  split at hw
                  · rename_i hh; exact (h1 _ _ hh).elim
                  · rename_i hh; exact (h2 _ _ _ _ hh).elim
                  · rename_i hh; exact (h3 _ _ hh).elim
                  · rename_i hh; exact (h4 _ _ hh).elim
                  · split
                    · rename_i hh; rw [hh] at hw; exact h _ hw
                    · rename_i hh; rw [hh] at hw; exact hw
              exact hstep _ _ (ih _ _ h) hw
            · rename_i hgt
              rw [if_neg hgt] at hw
              exact ih _ _ h _ hw
      exact this l _ _ (fun st => h .normal st) st hw
    | opsD l c =>
      intro K K' h st hw
      have : ∀ (l : List MI) (n : Nat) (cs : List (List Nat)) (rec : Rec) (K K' : St → Prop), (∀ st, K st → K' st) → ∀ st, wprD T K n l cs rec st → wprD T K' n l cs rec st := by
        intro l
        induction l with
        | nil => exact fun n cs rec K K' h st => h st
        | cons i r ih =>
          intro n cs rec K K' h st hw
          unfold wprD at hw ⊢
          split
          · rename_i hg
            rw [hg] at hw
            exact hw
          · rename_i g hg
            rw [hg] at hw
            simp only at hw ⊢
            split
            · rename_i hgt
              rw [if_pos hgt] at hw
              split
              · rename_i m e hs
                rw [hs] at hw
                exact ⟨hw.1, ih _ _ _ _ _ h _ hw.2⟩
              · rename_i hs
                rw [hs] at hw
                exact hw
            · rename_i hgt
              rw [if_neg hgt] at hw
              exact ih _ _ _ _ _ h _ hw
      exact this l 0 c _ _ _ (fun st => h .normal st) st hw
    | seq a b iha ihb =>
      intro K K' h st hw
      refine iha _ _ (fun e st' hh => ?_) st hw
      cases e with
      | normal => exact ihb _ _ h _ hh
      | exit id => exact h _ _ hh
      | ret => exact h _ _ hh
    | cond c a b iha ihb =>
      intro K K' h st hw
      unfold wp at hw ⊢
      split
      · rename_i t hc
        rw [hc] at hw
        simp only at hw
        split
        · rename_i ht
          rw [if_pos ht] at hw
          exact iha _ _ h _ hw
        · rename_i ht
          rw [if_neg ht] at hw
          exact ihb _ _ h _ hw
      · rename_i hx
        split at hw
        · rename_i hc
          exact (hx _ hc).elim
        · exact hw
    | block id c ih =>
      intro K K' h st hw
      refine ih _ _ (fun e st' hh => ?_) st hw
      cases e with
      | normal => exact h _ _ hh
      | exit j =>
        simp only at hh ⊢
        split
        · rename_i hj
          rw [if_pos hj] at hh
          exact h _ _ hh
        · rename_i hj
          rw [if_neg hj] at hh
          exact h _ _ hh
      | ret => exact h _ _ hh
    | loop c ih =>
      intro K K' h st hw
      obtain ⟨I, μ, h0, hI⟩ := hw
      refine ⟨I, μ, h0, fun st hst => ih _ _ (fun e st' hh => ?_) _ (hI st hst)⟩
      cases e with
      | normal => exact hh
      | exit id => exact h _ _ hh
      | ret => exact h _ _ hh
    | exit id => exact fun K K' h st => h _ _
    | ret => exact fun K K' h st => h _ _
    | ghost g c ih =>
      intro K K' h st hw
      have : ∀ (K K' : St → Prop), (∀ st, K st → K' st) → ghostK K st g → ghostK K' st g := by
        intro K K' h hw
        unfold ghostK at hw
        repeat' split at hw
        all_goals first
          | exact hw.elim
          | (have h' := h _ hw
             clear hw h
             unfold ghostK
             simp_all)
      exact this _ _ (ih _ _ h) hw
  refine mono a _ _ (fun e st' hh => ?_) st (show wp T a _ st from h1)
  cases e with
  | normal => exact h2 _ hh
  | exit id => exact hh
  | ret => exact hh

attribute [go_sem] beq_true beq_false Bool.true_beq Bool.false_beq List.flatten_cons List.flatten_nil List.append_nil List.headD_cons List.headD_nil List.tail_cons List.tail_nil List.contains_nil List.contains_cons Bool.not_eq_true'

section
variable {T : Tab} {K : MExit → St → Prop} {k : List Todo} {st : St}
@[go_sem] theorem wp_ghost (g : Ghost) (c : MCode) : wp T (.ghost g c) (kont T K k) st = ghostK (wp T c (kont T K k)) st g := _root_.id rfl
def wpAd (K : St → Prop) (st : St) (s k sz : Nat) : MV → Prop
  | .nil => K ⟨upd st.tm s (.ref k (nextG st.mem k) sz 0 0), updM st.mem k (nextG st.mem k) []⟩
  | _ => False
@[go_sem] theorem ghostK_adopt (K : St → Prop) (s k sz : Nat) : ghostK K st (.adopt s k sz) = wpAd K st s k sz (st.tm s) := by
  unfold ghostK wpAd; rfl
@[go_sem] theorem wpAd_nil (K : St → Prop) (s k sz : Nat) : wpAd K st s k sz .nil = K ⟨upd st.tm s (.ref k (nextG st.mem k) sz 0 0), updM st.mem k (nextG st.mem k) []⟩ := _root_.id rfl
end

section
variable {K : St → Prop} {st : St}
/-- A row given up: it is data now. -/
def wpFr2 (K : St → Prop) (st : St) (s k g sz off len : Nat) : Option (Nat × List MV) → Prop
  | some (g', cs) => if g' = g ∧ allDat cs = true then (match cut cs off (len * sz) with
    | some part => (match part.mapM (toD 0 st.mem) with
      | some ds => K ⟨upd st.tm s (.dat (.sl (chunk sz len ds))), kill st.mem k⟩
      | none => False)
    | none => False) else False
  | none => False
def wpFr (K : St → Prop) (st : St) (s : Nat) : MV → Prop
  | .ref k g sz off len => wpFr2 K st s k g sz off len (st.mem k)
  | _ => False
@[go_sem] theorem ghostK_freeze (s : Nat) : ghostK K st (.freeze s) = wpFr K st s (st.tm s) := by
  unfold ghostK wpFr
  dsimp only
  cases hm : st.tm s with
  | ref k g sz off len => ?_
  | _ => rfl
  dsimp only
  unfold wpFr2
  cases hk : st.mem k with
  | none => rfl
  | some x =>
    obtain ⟨g', cs⟩ := x
    simp only
    by_cases hc : g' = g ∧ allDat cs = true
    · rw [if_pos hc, if_pos hc]
      unfold toD
      rw [hk]
      simp only [hc.1, if_true]
      cases hcut : cut cs off (len * sz) with
      | none => rfl
      | some part =>
        simp only
        cases hp : part.mapM (toD 0 st.mem) <;> rfl
    · rw [if_neg hc, if_neg hc]
@[go_sem] theorem wpFr_ref (s k g sz off len : Nat) : wpFr K st s (.ref k g sz off len) = wpFr2 K st s k g sz off len (st.mem k) := _root_.id rfl
@[go_sem] theorem kill_at (mem : Mem) (k : Key) : kill mem k = updM mem k (nextG mem k) [] := _root_.id rfl
end

/-! ### Functions of typed arguments -/
open Classical in
/-- What a function does, by its typed arguments. -/
noncomputable def FF {α : Type} (argE : α → List Data) (f : α → Option PRes) : List Data → Option PRes := fun ds => if h : ∃ a, argE a = ds then f (Classical.choose h) else none

theorem FF_eq {α : Type} {argE : α → List Data} {f : α → Option PRes} (inj : ∀ a b, argE a = argE b → a = b) (a : α) : FF argE f (argE a) = f a := by
  have h : ∃ b, argE b = argE a := ⟨a, rfl⟩
  unfold FF
  rw [dif_pos h, inj _ _ (Classical.choose_spec h)]

theorem FF_inv {α : Type} {argE : α → List Data} {f : α → Option PRes} {ds : List Data} {r : PRes} (h : FF argE f ds = some r) : ∃ a, ds = argE a ∧ f a = some r := by
  unfold FF at h
  split at h
  · rename_i hx
    exact ⟨_, (Classical.choose_spec hx).symm, h⟩
  · cases h

open Classical in
/-- a result, under a condition -/
noncomputable def onlyIf (c : Prop) (r : PRes) : Option PRes := if c then some r else none
theorem onlyIf_pos {c : Prop} (h : c) (r : PRes) : onlyIf c r = some r := by unfold onlyIf; rw [if_pos h]
theorem onlyIf_inv {c : Prop} {r r' : PRes} (h : onlyIf c r = some r') : c ∧ r' = r := by
  unfold onlyIf at h
  split at h
  · cases h; exact ⟨‹_›, rfl⟩
  · cases h

@[go_sem] theorem mkE_at (F : List Data → Option PRes) (args : List MV) (mem : Mem) : mkE F args mem = mkE1 F (args.mapM (toD 6 emp)) (args.mapM (toD 6 mem)) := _root_.id rfl

theorem map_inj {α β : Type} {f : α → β} (h : ∀ a b, f a = f b → a = b) : ∀ (l l' : List α), l.map f = l'.map f → l = l' := by
  intro l
  induction l with
  | nil => intro l' e; cases l' <;> simp_all
  | cons a r ih =>
    intro l' e
    cases l' with
    | nil => simp at e
    | cons b r' =>
      simp only [List.map_cons, List.cons.injEq] at e
      rw [h _ _ e.1, ih _ e.2]

/-! ### The table of functions -/
def PTl (l : List (FuncId × (List Data → Option PRes))) : FuncId → Option (List Data → Option PRes) := fun f => (l.find? fun p => p.1 == f).map (·.2)

theorem PTl_ok {P : Program} {l : List (FuncId × (List Data → Option PRes))} (h : ∀ p ∈ l, PSpec P p.1 p.2) : ∀ f F, PTl l f = some F → PSpec P f F := by
  intro f F hf
  unfold PTl at hf
  rw [Option.map_eq_some_iff] at hf
  obtain ⟨p, hp, rfl⟩ := hf
  have h1 := List.mem_of_find?_eq_some hp
  have h2 := List.find?_some hp
  have h3 : p.1 = f := by simpa using h2
  exact h3 ▸ h p h1

theorem PTl_nil {P : Program} : ∀ p ∈ ([] : List (FuncId × (List Data → Option PRes))), PSpec P p.1 p.2 := by simp
theorem PTl_cons {P : Program} {f : FuncId} {F : List Data → Option PRes} {l : List (FuncId × (List Data → Option PRes))} (h : PSpec P f F) (hl : ∀ p ∈ l, PSpec P p.1 p.2) : ∀ p ∈ (f, F) :: l, PSpec P p.1 p.2 := by
  intro p hp
  rcases List.mem_cons.1 hp with rfl | hp
  · exact h
  · exact hl p hp

theorem mkT_at {PT : FuncId → Option (List Data → Option PRes)} {f : FuncId} {F : List Data → Option PRes} (h : PT f = some F) : mkT PT f = mkE F := by
  funext args mem
  unfold mkT
  rw [h]

/-! ### Own rows of typed elements -/
@[go_sem] theorem appM_nil (mem : Mem) (k : Key) (z : List MV) (b m : Nat) (new : List MV) : appM mem k z b .nil (some (m, new)) =
    if m * b ≤ 140737488355328 ∧ m ≤ maxLen ∧ new.all MV.one = true then some (.ref k (nextG mem k) z.length 0 m, some (k, nextG mem k, new)) else none := _root_.id rfl
@[go_sem] theorem appM_ref (mem : Mem) (k k' : Key) (z : List MV) (g sz b len m : Nat) (new : List MV) : appM mem k z b (.ref k' g sz 0 len) (some (m, new)) =
    if sz = z.length then appC k' g sz len b m new (mem k') else none := by
  unfold appM
  simp

def rowE {α : Type} (enc : α → List Data) (l : List α) : List MV := (l.map enc).flatten.map .dat

section
variable {α : Type} {enc : α → List Data} {sz : Nat}
theorem rowE_nil : rowE enc [] = [] := rfl
theorem rowE_cons (a : α) (l : List α) : rowE enc (a :: l) = (enc a).map .dat ++ rowE enc l := by simp [rowE]
theorem rowE_append (a b : List α) : rowE enc (a ++ b) = rowE enc a ++ rowE enc b := by simp [rowE]
theorem rowE_len (h : ∀ a, (enc a).length = sz) (l : List α) : (rowE enc l).length = l.length * sz := by
  induction l with
  | nil => simp [rowE]
  | cons a r ih => rw [rowE_cons, List.length_append, ih, List.length_map, h, List.length_cons, Nat.add_mul, Nat.one_mul, Nat.add_comm]
theorem rowE_at (h : ∀ a, (enc a).length = sz) {l : List α} {i : Nat} {a : α} (hi : l[i]? = some a) : ∃ p q, rowE enc l = p ++ ((enc a).map .dat ++ q) ∧ p.length = i * sz ∧ ∀ b, rowE enc (l.set i b) = p ++ ((enc b).map .dat ++ q) := by
  have hlt := (List.getElem?_eq_some_iff.1 hi).1
  have hla : l[i] = a := (List.getElem?_eq_some_iff.1 hi).2
  have e : l = l.take i ++ a :: l.drop (i + 1) := by
    rw [← hla, ← List.drop_eq_getElem_cons hlt, List.take_append_drop]
  refine ⟨rowE enc (l.take i), rowE enc (l.drop (i + 1)), ?_, ?_, fun b => ?_⟩
  · conv => lhs; rw [e]
    rw [rowE_append, rowE_cons]
  · rw [rowE_len h, List.length_take]; congr 1; omega
  · rw [List.set_eq_take_append_cons_drop, if_pos hlt, rowE_append, rowE_cons]
theorem rowE_cut (h : ∀ a, (enc a).length = sz) {l : List α} {i : Nat} {a : α} (hi : l[i]? = some a) {f n : Nat} (hf : f + n ≤ sz) : cut (rowE enc l) (i * sz + f) n = some ((((enc a).map .dat).drop f).take n) := by
  obtain ⟨p, q, e, hp, -⟩ := rowE_at h hi
  have ha := h a
  unfold cut
  rw [e, if_pos (by simp only [List.length_append, List.length_map]; omega), ← hp]
  rw [List.drop_append, List.drop_eq_nil_of_le (by omega)]
  rw [show p.length + f - p.length = f by omega, List.nil_append, List.drop_append, List.take_append]
  have : n - (((enc a).map MV.dat).drop f).length = 0 := by simp only [List.length_drop, List.length_map]; omega
  rw [this, List.take_zero, List.append_nil]
theorem rowE_set (h : ∀ a, (enc a).length = sz) {l : List α} {i : Nat} (hi : i < l.length) (b : α) : splice (rowE enc l) (i * sz) ((enc b).map .dat) = rowE enc (l.set i b) := by
  obtain ⟨p, q, e, hp, hs⟩ := rowE_at h (List.getElem?_eq_getElem hi)
  rw [hs b, e]
  have ha := h l[i]
  have hb := h b
  unfold splice
  rw [← hp, List.take_left, List.append_assoc]
  congr 2
  rw [List.drop_append, List.drop_eq_nil_of_le (by omega), List.nil_append, List.length_map, show p.length + (enc b).length - p.length = (enc b).length by omega, hb, ← ha, ← List.length_map (f := MV.dat), List.drop_left]
theorem rowE_one (ho : ∀ a, ((enc a).map MV.dat).all MV.one = true) (l : List α) : (rowE enc l).all MV.one = true := by
  induction l with
  | nil => rfl
  | cons a r ih => rw [rowE_cons, List.all_append, ho, ih]; rfl
/-- append. -/
theorem app_rows (h : ∀ a, (enc a).length = sz) (ho : ∀ a, ((enc a).map MV.dat).all MV.one = true) (k g b : Nat) (l new : List α) (hb : (l.length + new.length) * b ≤ 140737488355328) (hm : l.length + new.length ≤ 1000000000) :
    appC k g sz l.length b new.length (rowE enc new) (some (g, rowE enc l)) = some (.ref k (g + 1) sz 0 (l.length + new.length), some (k, g + 1, rowE enc (l ++ new))) := by
  unfold appC
  have hm' : l.length + new.length ≤ maxLen := Nat.le_trans hm (by decide)
  dsimp only
  rw [if_pos ⟨rfl, by rw [rowE_len h]; exact Nat.le_refl _, hb, hm', rowE_one ho new⟩, rowE_append, List.take_of_length_le (by rw [rowE_len h]; exact Nat.le_refl _)]
theorem app_row (h : ∀ a, (enc a).length = sz) (ho : ∀ a, ((enc a).map MV.dat).all MV.one = true) (k g b : Nat) (l : List α) (a : α) {cs : List MV} (hc : cs = (enc a).map .dat) (hb : (l.length + 1) * b ≤ 140737488355328) (hm : l.length + 1 ≤ 1000000000) :
    appC k g sz l.length b 1 cs (some (g, rowE enc l)) = some (.ref k (g + 1) sz 0 (l.length + 1), some (k, g + 1, rowE enc (l ++ [a]))) := by
  have := app_rows h ho k g b l [a] hb hm
  rw [hc]
  rw [rowE_cons, rowE_nil, List.append_nil] at this
  exact this
theorem mapM_dat (f : MV → Option Data) (hf : ∀ d, f (.dat d) = some d) (l : List Data) : (l.map MV.dat).mapM f = some l := by
  induction l with
  | nil => rfl
  | cons a r ih => simp [hf, ih]
theorem chunk_all : ∀ (l : List (List Data)), (∀ e ∈ l, e.length = sz) → chunk sz l.length l.flatten = l := by
  intro l
  induction l with
  | nil => intro _; rfl
  | cons e r ih =>
    intro h
    have he := h e (by simp)
    rw [List.length_cons, List.flatten_cons, chunk]
    rw [← he, List.take_left, List.drop_left, he, ih fun x hx => h x (by simp [hx])]
theorem toD_row (h : ∀ a, (enc a).length = sz) {n k g : Nat} {mem : Mem} {l : List α} (hm : mem k = some (g, rowE enc l)) : toD (n + 1) mem (.ref k g sz 0 l.length) = some (.sl (l.map enc)) := by
  unfold toD
  rw [hm]
  simp only [if_true]
  unfold cut
  rw [Nat.zero_add, rowE_len h, if_pos (Nat.le_refl _)]
  simp only [List.drop_zero]
  rw [List.take_of_length_le (by rw [rowE_len h]; exact Nat.le_refl _)]
  unfold rowE
  rw [mapM_dat _ fun d => by cases n <;> rfl]
  have := chunk_all (sz := sz) (l.map enc) (by simpa using fun a _ => h a)
  rw [List.length_map] at this
  simp [this]
end

theorem allDat_row {α : Type} (enc : α → List Data) (l : List α) : allDat (rowE enc l) = true := by
  unfold allDat rowE
  rw [List.all_eq_true]
  intro m hm
  rw [List.mem_map] at hm
  obtain ⟨d, _, rfl⟩ := hm
  rfl
theorem wpFr2_row {α : Type} {enc : α → List Data} {sz : Nat} (h : ∀ a, (enc a).length = sz) {K : St → Prop} {st : St} (s k g : Nat) (l : List α) :
    wpFr2 K st s k g sz 0 l.length (some (g, rowE enc l)) = K ⟨upd st.tm s (.dat (.sl (l.map enc))), kill st.mem k⟩ := by
  have hr := toD_row (n := 0) h (mem := updM st.mem k g (rowE enc l)) (k := k) (g := g) (l := l) (by simp [updM])
  unfold wpFr2
  dsimp only
  rw [if_pos ⟨rfl, allDat_row enc l⟩]
  unfold cut
  rw [Nat.zero_add, rowE_len h, if_pos (Nat.le_refl _)]
  dsimp only
  rw [List.drop_zero, List.take_of_length_le (by rw [rowE_len h]; exact Nat.le_refl _)]
  unfold rowE
  rw [mapM_dat _ fun d => rfl]
  dsimp only
  have := chunk_all (sz := sz) (l.map enc) (by simpa using fun a _ => h a)
  rw [List.length_map] at this
  rw [this]

/-! ### Numbers -/
theorem wrap64 (x : Int) (h1 : -9223372036854775808 ≤ x) (h2 : x ≤ 9223372036854775807) : IntKind.i64.wrap x = x := by
  rw [IntKind.wrap_i64]
  omega
theorem idx_nn (k : IntKind) (n : Int) (h : 0 ≤ n) : idx (.dat (.int k n)) = some n.toNat := by simp [idx, h]

/-- The element at a place, and the rest. -/
theorem at_list {α : Type} (l : List α) (i : Int) (h0 : 0 ≤ i) (h : i < l.length) : ∃ x, l[i.toNat]? = some x ∧ l.drop i.toNat = x :: l.drop (i + 1).toNat ∧ l.take (i + 1).toNat = l.take i.toNat ++ [x] := by
  have hlt : i.toNat < l.length := by omega
  have e : (i + 1).toNat = i.toNat + 1 := by omega
  refine ⟨l[i.toNat], List.getElem?_eq_getElem hlt, ?_, ?_⟩
  · rw [e]; exact List.drop_eq_getElem_cons hlt
  · rw [e]; rw [List.take_add_one, List.getElem?_eq_getElem hlt]; rfl
end Go.Mini
