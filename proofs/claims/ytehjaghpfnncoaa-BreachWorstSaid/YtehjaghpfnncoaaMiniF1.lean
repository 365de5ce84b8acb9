/- Snapshots: what an activation holds, as data; and the steps that stand in no text. -/
import Derived.Test.YtehjaghpfnncoaaMiniD7
set_option linter.unusedSimpArgs false
set_option linter.unusedVariables false
namespace Go.Mini
open Go
variable {A : Nat → Prop} {w : World} {B : Lay} {mem : Mem}

theorem den_row {O : Nat → Prop} {b off c sz len : Nat} {vs : Array Value} {T : TypeId} {ds : List Data} (hh : w.heap[b]? = some (.cells vs T (0, 0))) (hO : ¬ O b) (hl : ds.length = len * sz) (hlc : len ≤ c) (hm : len ≤ maxLen) (hfit : off + len * sz ≤ vs.size)
    (hd : ∀ (i : Nat) (d : Data) (v : Value), ds[i]? = some d → vs[off + i]? = some v → Den w O d v) : Den w O (.sl (chunk sz len ds)) (.slice (some ⟨b, off, none⟩) len c) := by
  have hcl := chunk_length sz len ds
  have h := Den.sl (w := w) (O := O) (es := chunk sz len ds) (b := b) (off := off) (c := c) (sz := sz) (fun i => vs.getD (off + i) undef) (by rw [hcl]; exact hlc) (by rw [hcl]; exact hm)
    (Array.getElem?_eq_some_iff.1 hh).1 hO (chunk_even sz len ds hl)
    (fun i hi => by
      rw [hcl] at hi
      rw [cell_of_row w b (off + i) vs T (0, 0) hh]
      have : off + i < vs.size := by omega
      simp [this])
    (fun i d hid => by
      rw [chunk_flat sz len ds hl] at hid
      have hlt : i < ds.length := (List.getElem?_eq_some_iff.1 hid).1
      have hlt2 : off + i < vs.size := by omega
      have : vs.getD (off + i) undef = vs[off + i] := by simp [hlt2]
      simp only [this]
      exact hd i d _ hid (Array.getElem?_eq_getElem hlt2))
  rw [hcl] at h
  exact h

theorem own_not (hmr : MemRel A w B mem) {O : Nat → Prop} (hO : ∀ b, O b → A b) {k : Key} {e : Bk} {b : Nat} (he : B k = some e) (hb : e.blk = some b) : ¬ O b :=
  fun h => hmr.sep b (hO b h) ⟨k, e, he, hb⟩

theorem snap (hmr : MemRel A w B mem) {O : Nat → Prop} (hO : ∀ b, O b → A b) : ∀ (d : Nat) (m : MV) (v : Value) (r : Data), toD d mem m = some r → VR w (OA A B) B m v → Den w O r v := by
  have hdat : ∀ (d : Data) (v : Value), VR w (OA A B) B (.dat d) v → Den w O d v := fun d v h => by
    cases h with
    | dat h => exact h.less fun b hb => .inr (hO b hb)
  have hnil : ∀ v, VR w (OA A B) B .nil v → Den w O (.sl []) v := fun v h => by
    cases h
    exact .sl0
  intro d
  induction d with
  | zero =>
    intro m v r h hv
    cases m <;> simp only [toD, Option.some.injEq, reduceCtorEq] at h
    · subst h; exact hdat _ _ hv
    · subst h; exact hnil _ hv
  | succ d ih =>
    intro m v r h hv
    have lists : ∀ (cs : List MV) (vs : List Value) (ds : List Data), cs.mapM (toD d mem) = some ds → vs.length = cs.length → (∀ (i : Nat) (x : MV) (u : Value), cs[i]? = some x → vs[i]? = some u → VR w (OA A B) B x u) →
        vs.length = ds.length ∧ ∀ (i : Nat) (x : Data) (u : Value), ds[i]? = some x → vs[i]? = some u → Den w O x u := by
      intro cs vs ds hds hl hr
      obtain ⟨h1, h2⟩ := mapM_get hds
      refine ⟨by omega, fun i x u hx hu => ?_⟩
      have hlt : i < cs.length := by have := (List.getElem?_eq_some_iff.1 hx).1; omega
      have hci := List.getElem?_eq_getElem hlt
      exact ih _ u x (h2 i _ x hci hx) (hr i _ u hci hu)
    cases m <;> simp only [toD, Option.some.injEq, Option.map_eq_some_iff, reduceCtorEq] at h
    case dat => subst h; exact hdat _ _ hv
    case nil => subst h; exact hnil _ hv
    case ref k g sz off len =>
      split at h
      · rename_i g' cs hk
        split at h
        · rename_i hg
          subst hg
          split at h
          · rename_i part hpart
            simp only [Option.map_eq_some_iff] at h
            obtain ⟨ds, hds, rfl⟩ := h
            obtain ⟨hcl, rfl, hpl⟩ := cut_some hpart
            obtain ⟨h1, h2⟩ := mapM_get hds
            cases hv with
            | ref he hgle hr =>
              obtain ⟨e, he', hge, hn, hb⟩ := hmr.at_ hk
              rw [he'] at he
              cases he
              obtain ⟨a, cap, rfl, h3, h4, h5⟩ := hr
              rcases h5 with h5 | ⟨b, rfl, h6⟩
              · have : len = 0 := by omega
                subst this
                simp only [chunk]
                exact .sl0
              · obtain ⟨h7, h8⟩ := h6 hge.symm
                obtain ⟨vs, T, hh, hz, hle, hrl⟩ := hb b h7
                refine den_row hh (own_not hmr hO he' h7) (by omega) h3 (by omega) (by omega) fun i x u hx hu => ?_
                have hlt : i < ds.length := (List.getElem?_eq_some_iff.1 hx).1
                have hlt2 : off + i < cs.length := by omega
                have hci : ((cs.drop off).take (len * sz))[i]? = some cs[off + i] := by
                  rw [List.getElem?_take_of_lt (by omega), List.getElem?_drop, List.getElem?_eq_getElem hlt2]
                refine ih _ u x (h2 i _ x hci hx) (hrl.2 (off + i) _ u (List.getElem?_eq_getElem hlt2) ?_)
                rw [List.getElem?_take_of_lt hlt2, Array.getElem?_toList]
                exact hu
          · cases h
        · cases h
      · cases h
    case ptr k g off =>
      split at h
      · rename_i g' cs hk
        split at h
        · rename_i hg
          obtain ⟨rfl, hoff⟩ := hg
          simp only [Option.map_eq_some_iff] at h
          obtain ⟨ds, hds, rfl⟩ := h
          obtain ⟨h1, h2⟩ := mapM_get hds
          cases hv with
          | ptr he hgle hr =>
            obtain ⟨e, he', hge, hn, hb⟩ := hmr.at_ hk
            rw [he'] at he
            cases he
            obtain ⟨b, rfl, h6⟩ := hr
            have h7 := h6 hge.symm
            obtain ⟨vs, T, hh, hz, hle, hrl⟩ := hb b h7
            rw [List.length_drop] at h1
            refine .ptr (fun i => vs.getD (off + i) undef) (Array.getElem?_eq_some_iff.1 hh).1 (own_not hmr hO he' h7) (fun i hi => ?_) fun i x hx => ?_
            · rw [cell_of_row w b (off + i) vs T (0, 0) hh]
              have : off + i < vs.size := by omega
              simp [this]
            · have hlt : i < ds.length := (List.getElem?_eq_some_iff.1 hx).1
              have hlt2 : off + i < cs.length := by omega
              have hlt3 : off + i < vs.size := by omega
              have hci : (cs.drop off)[i]? = some cs[off + i] := by
                rw [List.getElem?_drop, List.getElem?_eq_getElem hlt2]
              have hu : vs.getD (off + i) undef = vs[off + i] := by simp [hlt3]
              rw [hu]
              refine ih _ _ x (h2 i _ x hci hx) (hrl.2 (off + i) _ _ (List.getElem?_eq_getElem hlt2) ?_)
              rw [List.getElem?_take_of_lt hlt2, Array.getElem?_toList]
              exact Array.getElem?_eq_getElem hlt3
        · cases h
      · cases h
    case clo f cs =>
      obtain ⟨ds, hds, rfl⟩ := h
      cases hv with
      | clo hl hd => obtain ⟨h1, h2⟩ := lists _ _ _ hds hl hd; exact .fn h1 h2
    case agg cs =>
      obtain ⟨ds, hds, rfl⟩ := h
      cases hv with
      | agg hl hd => obtain ⟨h1, h2⟩ := lists _ _ _ hds hl hd; exact .agg h1 h2
    case tup cs =>
      obtain ⟨ds, hds, rfl⟩ := h
      cases hv with
      | tup hl hd => obtain ⟨h1, h2⟩ := lists _ _ _ hds hl hd; exact .tup h1 h2

/-- Another view of what is shut off. -/
theorem VR.shift {O O' : Nat → Prop} {B' : Lay} (hO : ∀ b, O' b → O b) (hk : ∀ k e, B k = some e → ∃ e', B' k = some e' ∧ (e' = e ∨ e.g < e'.g)) {m : MV} {v : Value} (h : VR w O B m v) : VR w O' B' m v := by
  induction h with
  | dat h => exact .dat (h.less hO)
  | nil => exact .nil
  | @ref k g sz off len e v he hg hv =>
    obtain ⟨e', he', hh⟩ := hk k e he
    rcases hh with rfl | hh
    · exact .ref he' hg hv
    · exact .ref he' (by omega) (hv.later (by omega))
  | @ptr k g off e v he hg hv =>
    obtain ⟨e', he', hh⟩ := hk k e he
    rcases hh with rfl | hh
    · exact .ptr he' hg hv
    · exact .ptr he' (by omega) (hv.later (by omega))
  | clo hl hd ih => exact .clo hl ih
  | agg hl hd ih => exact .agg hl ih
  | tup hl hd ih => exact .tup hl ih
  | no => exact .no
  | undef => exact .undef

/-- A block given up, and shut off. -/
theorem kill_shut (hmr : MemRel A w B mem) {k : Key} {g : Nat} {cs : List MV} {e : Bk} {b : Nat} (hk : mem k = some (g, cs)) (he : B k = some e) (hb : e.blk = some b) :
    MemRel (fun b' => A b' ∨ b' = b) w (updB B k ⟨nextG mem k, none, 0⟩) (kill mem k) ∧ (∀ m v, VR w (OA A B) B m v → VR w (OA (fun b' => A b' ∨ b' = b) (updB B k ⟨nextG mem k, none, 0⟩)) (updB B k ⟨nextG mem k, none, 0⟩) m v) := by
  have hg := nextG_gt hmr k e he
  have hO : ∀ b', OA (fun b' => A b' ∨ b' = b) (updB B k ⟨nextG mem k, none, 0⟩) b' → OA A B b' := fun b' h => by
    rcases h with ⟨j, e2, hj, hx⟩ | h | rfl
    · by_cases hjk : j = k
      · subst hjk; rw [updB_same] at hj; cases hj; cases hx
      · rw [updB_other B _ hjk] at hj; exact .inl ⟨j, e2, hj, hx⟩
    · exact .inr h
    · exact .inl ⟨k, e, he, hb⟩
  have hkey : ∀ j e2, B j = some e2 → ∃ e', updB B k ⟨nextG mem k, none, 0⟩ j = some e' ∧ (e' = e2 ∨ e2.g < e'.g) := fun j e2 hj => by
    by_cases hjk : j = k
    · subst hjk
      rw [he] at hj
      cases hj
      exact ⟨_, updB_same _ _ _, .inr hg⟩
    · exact ⟨e2, by rw [updB_other B _ hjk]; exact hj, .inl rfl⟩
  have shift : ∀ m v, VR w (OA A B) B m v → VR w (OA (fun b' => A b' ∨ b' = b) (updB B k ⟨nextG mem k, none, 0⟩)) (updB B k ⟨nextG mem k, none, 0⟩) m v := fun m v h => h.shift hO hkey
  refine ⟨⟨fun j hj => ?_, fun j j' e1 e2 b' h1 h2 h3 h4 => ?_, fun b' ha ho => ?_, fun b' ha => ?_, fun j g' cs' hj => ?_⟩, shift⟩
  · by_cases hjk : j = k
    · subst hjk; simp [kill, updM] at hj
    · rw [updB_other B _ hjk]
      simp only [kill, updM, hjk, if_false] at hj
      exact hmr.dom j hj
  · by_cases hjk : j = k
    · subst hjk; rw [updB_same] at h1; cases h1; cases h3
    · by_cases hjk' : j' = k
      · subst hjk'; rw [updB_same] at h2; cases h2; cases h4
      · rw [updB_other B _ hjk] at h1
        rw [updB_other B _ hjk'] at h2
        exact hmr.inj j j' e1 e2 b' h1 h2 h3 h4
  · obtain ⟨j, e2, hj, hx⟩ := ho
    by_cases hjk : j = k
    · subst hjk; rw [updB_same] at hj; cases hj; cases hx
    · rw [updB_other B _ hjk] at hj
      rcases ha with ha | rfl
      · exact hmr.sep b' ha ⟨j, e2, hj, hx⟩
      · exact hjk (hmr.inj j k e2 e b' hj he hx hb)
  · rcases ha with ha | rfl
    · exact hmr.lt b' ha
    · exact hmr.own_lt ⟨k, e, he, hb⟩
  · by_cases hjk : j = k
    · subst hjk
      simp only [kill, updM, if_true, Option.some.injEq, Prod.mk.injEq] at hj
      obtain ⟨rfl, rfl⟩ := hj
      exact ⟨_, updB_same _ _ _, rfl, fun _ => rfl, fun b' hb' => by cases hb'⟩
    · simp only [kill, updM, hjk, if_false] at hj
      obtain ⟨e2, h1, h2, h3, h4⟩ := hmr.blk j g' cs' hj
      refine ⟨e2, by rw [updB_other B _ hjk]; exact h1, h2, h3, fun b' hb' => ?_⟩
      obtain ⟨vs, T, h5, h6, h7, h8⟩ := h4 b' hb'
      exact ⟨vs, T, h5, h6, h7, fun i m hm => let ⟨v, hv, hr⟩ := h8 i m hm; ⟨v, hv, shift m v hr⟩⟩

end Go.Mini
