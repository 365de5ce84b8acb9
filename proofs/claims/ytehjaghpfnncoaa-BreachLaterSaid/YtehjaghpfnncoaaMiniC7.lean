/- Slice literals, append, copy. -/
import Derived.Test.YtehjaghpfnncoaaMiniC6
namespace Go.Mini
open Go
set_option linter.unusedSimpArgs false

section
variable {P : Program} {A : Nat → Prop} {w : World} {B : Lay} {mem : Mem}

theorem chunk_length (sz : Nat) : ∀ (n : Nat) (l : List Data), (chunk sz n l).length = n
  | 0, _ => rfl
  | n + 1, l => by simp [chunk, chunk_length sz n]

theorem chunk_even (sz : Nat) : ∀ (n : Nat) (l : List Data), l.length = n * sz → ∀ e ∈ chunk sz n l, e.length = sz
  | 0, _, _, e, he => by simp [chunk] at he
  | n + 1, l, hl, e, he => by
    have hmul : (n + 1) * sz = n * sz + sz := by rw [Nat.add_mul, Nat.one_mul]
    simp only [chunk, List.mem_cons] at he
    rcases he with rfl | he
    · simp; omega
    · exact chunk_even sz n _ (by simp; omega) e he

theorem chunk_flat (sz : Nat) : ∀ (n : Nat) (l : List Data), l.length = n * sz → (chunk sz n l).flatten = l
  | 0, l, hl => by simp at hl; simp [chunk, hl]
  | n + 1, l, hl => by
    have hmul : (n + 1) * sz = n * sz + sz := by rw [Nat.add_mul, Nat.one_mul]
    simp only [chunk, List.flatten_cons]
    rw [chunk_flat sz n _ (by simp; omega), List.take_append_drop]

theorem datOf_rel {O : Nat → Prop} {m : MV} {d : Data} {v : Value} (h : datOf m = some d) (hv : VR w O B m v) : Den w O d v := by
  unfold datOf at h
  split at h <;> cases h
  · cases hv with
    | dat h => exact h
  · cases hv with
    | nil => exact .sl0

/-- Data in a new block. -/
theorem den_new {ds : List Data} {vs : Array Value} {T : TypeId} {n sz : Nat} (hmr : MemRel A w B mem) (w' : World) (hw : w' = w.alloc (.cells vs T)) (hl : ds.length = n * sz) (hv : vs.size = n * sz) (hm : n ≤ maxLen)
    (hd : ∀ (i : Nat) (d : Data) (v : Value), ds[i]? = some d → vs[i]? = some v → Den w (OA A B) d v) : Den w' (OA A B) (.sl (chunk sz n ds)) (.slice (some ⟨w.heap.size, 0, none⟩) n n) := by
  have ok : StepOK A w B w' B mem := by rw [hw]; exact .still hmr ((Fr.refl _ _).alloc _)
  have hcl := chunk_length sz n ds
  have h := Den.sl (w := w') (O := OA A B) (es := chunk sz n ds) (b := w.heap.size) (off := 0) (c := n) (sz := sz) (fun i => vs.getD i undef) (by rw [hcl]; exact Nat.le_refl _) (by rw [hcl]; exact hm)
    (by rw [hw]; simp) (fun ho => by
      rcases ho with ho | ho
      · have := hmr.own_lt ho; omega
      · have := hmr.lt _ ho; omega) (chunk_even sz n ds hl)
    (fun i hi => by
      rw [hcl] at hi
      rw [hw, Nat.zero_add]
      have : i < vs.size := by omega
      simp [this])
    (fun i d hid => by
      rw [chunk_flat sz n ds hl] at hid
      have hlt : i < ds.length := (List.getElem?_eq_some_iff.1 hid).1
      have hlt2 : i < vs.size := by omega
      have : vs.getD i undef = vs[i] := by simp [hlt2]
      simp only [this]
      exact (hd i d _ hid (Array.getElem?_eq_getElem hlt2)).trans ok.tr)
  rw [hcl] at h
  exact h

theorem bslCells_run {t e : TypeId} {z r : List MV} {sz len : Nat} {ps : List (Nat × Operand)} {qs : List (Nat × Nat × Opd)} {ρ : Operand → Value} {tm : Nat → MV} {O : Nat → Prop} (ht : P.underlying t = some (.slice e)) (hz : zeroOf P e = some z)
    (hs : sizeT P e = some sz) (hzl : z.length = sz) (h0 : 0 < sz) (hl : len * sz ≤ 16777216) (hp : partsOf (fun i => some (i * sz, sz)) ps = some qs) (hρ : ∀ x y, trOpd x = some y → VR w O B (ev tm y) (ρ x))
    (h : fillM (ev tm) (List.replicate len z).flatten qs = some r) :
    ∃ vs : Array Value, (Instr.buildSlice t len (ps.map fun p => (p.1, ρ p.2)).toArray).run P w = .ok (.slice (some ⟨w.heap.size, 0, none⟩) len len) (w.alloc (.cells vs e)) ∧ RL w O B r vs.toList := by
  obtain ⟨i, zv, hi, hzv, hrl⟩ := zeroOf_run (P := P) (w := w) (B := B) (O := O) hz
  have hzs : zv.cells.size = sz := by have := hrl.1; simp at this; omega
  have hmade := made_list (z := zv.cells) (by omega) len
  rw [hzs] at hmade
  have hrep := hrl.replicate (n := len)
  rw [← hmade] at hrep
  obtain ⟨vs', hf, hr⟩ := fill_run (place := fun i => some (i * sz, sz)) hρ ps qs _ r _ hp hrep h
  refine ⟨vs', ?_, hr⟩
  have hn : ¬ (len * sz > 2 ^ 24) := by omega
  by_cases hz0 : len * sz = 0
  · have e0 : ((Array.range (len * sz)).map (zv.cells[· % sz]!)) = #[] := by rw [hz0]; simp [Array.range_zero']
    have hf' : Instr.fill (fun i => some (i * sz, sz)) #[] (ps.map fun p => (p.1, ρ p.2)) = some vs' := by rw [← e0]; exact hf
    simp only [Instr.buildSlice, Sem.run_bind, run_underlying ht, Result.andThen_ok, sizeT_run hs]
    rw [if_neg hn]
    simp only [hz0, if_true, Sem.run_bind, Sem.run_pure, Result.andThen_ok]
    simp [hf', newRow, Array.range_zero']
  · simp only [Instr.buildSlice, Sem.run_bind, run_underlying ht, Result.andThen_ok, sizeT_run hs]
    rw [if_neg hn]
    simp only [hz0, if_false, Sem.run_bind, Sem.run_pure, Result.andThen_ok, zeroValue_run hi hzv, hzs]
    simp [hf, newRow]

theorem bsl_run {t e : TypeId} {z : List MV} {sz len : Nat} {ps : List (Nat × Operand)} {qs : List (Nat × Nat × Opd)} {ρ : Operand → Value} {tm : Nat → MV} {r : MV} (hmr : MemRel A w B mem) (ht : P.underlying t = some (.slice e)) (hz : zeroOf P e = some z)
    (hs : sizeT P e = some sz) (hzl : z.length = sz) (h0 : 0 < sz) (hl : len * sz ≤ 16777216) (hp : partsOf (fun i => some (i * sz, sz)) ps = some qs) (hρ : ∀ x y, trOpd x = some y → VR w (OA A B) B (ev tm y) (ρ x))
    (h : bslM (List.replicate len z).flatten sz len (fillM (ev tm) (List.replicate len z).flatten qs) = some r) :
    ∃ v w', (Instr.buildSlice t len (ps.map fun p => (p.1, ρ p.2)).toArray).run P w = .ok v w' ∧ StepOK A w B w' B mem ∧ VR w' (OA A B) B r v := by
  unfold bslM at h
  split at h
  · rename_i hlen
    cases hf : fillM (ev tm) (List.replicate len z).flatten qs with
    | none => rw [hf] at h; cases h
    | some cs =>
      rw [hf] at h
      simp only [Option.map_eq_some_iff] at h
      obtain ⟨ds, hds, rfl⟩ := h
      obtain ⟨vs, hrun, hrl⟩ := bslCells_run (P := P) (B := B) ht hz hs hzl h0 hl hp hρ hf
      obtain ⟨h1, h2⟩ := mapM_get hds
      have hcl : cs.length = len * sz := by
        have : ∀ (qs : List (Nat × Nat × Opd)) (a r : List MV), fillM (ev tm) a qs = some r → r.length = a.length := by
          intro qs
          induction qs with
          | nil => intro a r h; simp [fillM] at h; rw [h]
          | cons q qs ih =>
            intro a r h
            obtain ⟨o, s, x⟩ := q
            simp only [fillM] at h
            split at h
            · rename_i hc
              rw [ih _ _ h]
              unfold splice
              simp
              omega
            · cases h
        rw [this _ _ _ hf, hlen]
      have hvs : vs.size = len * sz := by have := hrl.1; simp at this; omega
      refine ⟨_, _, hrun, .still hmr ((Fr.refl _ _).alloc _), .dat (den_new hmr _ rfl (by omega) hvs ?_ fun i d v hd hv => ?_)⟩
      · have : len ≤ len * sz := Nat.le_mul_of_pos_right _ h0
        unfold maxLen
        omega
      · have hlt : i < cs.length := by have := (List.getElem?_eq_some_iff.1 hd).1; omega
        have hci := List.getElem?_eq_getElem hlt
        exact datOf_rel (h2 i _ d hci hd) (hrl.2 i _ v hci (by simpa using hv))
  · cases h

theorem bslo_run {t e : TypeId} {z : List MV} {sz len : Nat} {ps : List (Nat × Operand)} {qs : List (Nat × Nat × Opd)} {ρ : Operand → Value} {tm : Nat → MV} {r : MV} {ef : Option (Key × Nat × List MV)} (k : Key) (hmr : MemRel A w B mem) (ht : P.underlying t = some (.slice e)) (hz : zeroOf P e = some z)
    (hs : sizeT P e = some sz) (hzl : z.length = sz) (h0 : 0 < sz) (hl : len * sz ≤ 16777216) (hp : partsOf (fun i => some (i * sz, sz)) ps = some qs) (hρ : ∀ x y, trOpd x = some y → VR w (OA A B) B (ev tm y) (ρ x))
    (h : bsloM k (nextG mem k) (List.replicate len z).flatten sz len (fillM (ev tm) (List.replicate len z).flatten qs) = some (r, ef)) :
    ∃ v w' B', (Instr.buildSlice t len (ps.map fun p => (p.1, ρ p.2)).toArray).run P w = .ok v w' ∧ StepOK A w B w' B' (updO mem ef) ∧ VR w' (OA A B') B' r v := by
  unfold bsloM at h
  split at h
  · rename_i hlen
    cases hf : fillM (ev tm) (List.replicate len z).flatten qs with
    | none => rw [hf] at h; cases h
    | some cs =>
      rw [hf] at h
      cases h
      obtain ⟨vs, hrun, hrl⟩ := bslCells_run (P := P) (B := B) ht hz hs hzl h0 hl hp hρ hf
      have hcl : cs.length = len * sz := by
        have : ∀ (qs : List (Nat × Nat × Opd)) (a r : List MV), fillM (ev tm) a qs = some r → r.length = a.length := by
          intro qs
          induction qs with
          | nil => intro a r h; simp [fillM] at h; rw [h]
          | cons q qs ih =>
            intro a r h
            obtain ⟨o, s, x⟩ := q
            simp only [fillM] at h
            split at h
            · rename_i hc
              rw [ih _ _ h]
              unfold splice
              simp
              omega
            · cases h
        rw [this _ _ _ hf, hlen]
      have hvs : vs.size = cs.length := by have := hrl.1; simp at this; omega
      refine ⟨_, _, _, hrun, alloc_ok hmr w (Fr.refl _ _) rfl k vs e (by omega) (by rw [List.take_of_length_le (by simp; omega)]; exact hrl), ?_⟩
      have hmx : len ≤ maxLen := by
        have : len ≤ len * sz := Nat.le_mul_of_pos_right _ h0
        unfold maxLen
        omega
      exact .ref (updB_same _ _ _) (Nat.le_refl _) ⟨_, len, rfl, Nat.le_refl _, hmx, .inr ⟨_, rfl, fun _ => ⟨rfl, by simp only [Nat.zero_add]; omega⟩⟩⟩
  · cases h

/-- What a slice holds, as the model has it. -/
theorem rowM_rel {m : MV} {sz n : Nat} {new : List MV} {v : Value} (hmr : MemRel A w B mem) (hv : VR w (OA A B) B m v) (h : rowM mem sz m = some (n, new)) :
    ∃ a c vals, v = .slice a n c ∧ RL w (OA A B) B new vals ∧ vals.length = n * sz ∧ (0 < n → ∃ b off, a = some ⟨b, off, none⟩ ∧ At w b off vals) := by
  unfold rowM at h
  split at h
  · split at h
    · rename_i es hev
      cases h
      have hev := evenE_all hev
      cases hv with
      | dat hd =>
        cases hd with
        | sl0 => exact ⟨_, _, [], rfl, by simpa using RL.nil, by simp, fun h => by simp at h⟩
        | @sl es b off c sz' val hl hm hb hO hsz hc hdd =>
          have hfl := flatten_length hev
          rcases Nat.eq_zero_or_pos es.length with h0 | h0
          · have : es = [] := List.eq_nil_of_length_eq_zero h0
            subst this
            exact ⟨_, _, [], rfl, by simpa using RL.nil, by simp, fun h => by simp at h⟩
          · have hszz : sz' = sz := by
              have hm0 := List.getElem_mem (l := es) (n := 0) h0
              rw [← hsz _ hm0, hev _ hm0]
            subst hszz
            refine ⟨_, _, (List.range (es.length * sz')).map val, rfl, ?_, by simp, fun _ => ⟨b, off, rfl, fun j u hj => ?_⟩⟩
            · refine RL.dat (by simp [hfl]) fun i d u h1 h2 => ?_
              have hi : i < es.length * sz' := by have := (List.getElem?_eq_some_iff.1 h1).1; omega
              rw [List.getElem?_map, List.getElem?_range hi] at h2
              simp only [Option.map_some, Option.some.injEq] at h2
              subst h2
              exact hdd i d h1
            · have hi : j < es.length * sz' := by have := (List.getElem?_eq_some_iff.1 hj).1; simpa using this
              rw [List.getElem?_map, List.getElem?_range hi] at hj
              simp only [Option.map_some, Option.some.injEq] at hj
              subst hj
              exact hc j hi
    · cases h
  · cases h
    cases hv with
    | nil => exact ⟨_, _, [], rfl, RL.nil, by simp, fun h => by simp at h⟩
  · rename_i k g sz' off len
    split at h
    · rename_i hsz
      subst hsz
      split at h
      · rename_i g' cs hk
        split at h
        · rename_i hg
          subst hg
          simp only [Option.map_eq_some_iff, Prod.mk.injEq] at h
          obtain ⟨part, hcut, rfl, rfl⟩ := h
          obtain ⟨hl, rfl, hn⟩ := cut_some hcut
          cases hv with
          | ref he hg hr =>
            obtain ⟨e, he', hge, hnn, hb⟩ := hmr.at_ hk
            rw [he] at he'
            cases he'
            obtain ⟨a, cap, rfl, h1, h2, h3⟩ := hr
            rcases h3 with h3 | ⟨b, rfl, h4⟩
            · have : len = 0 := by omega
              subst this
              exact ⟨_, _, [], rfl, by simpa using RL.nil, by simp, fun h => by omega⟩
            · obtain ⟨h5, h6⟩ := h4 hge.symm
              obtain ⟨vs, T, hh, hz, hle, hrl⟩ := hb b h5
              refine ⟨_, _, ((vs.toList.take cs.length).drop off).take (len * sz'), rfl, (hrl.drop off).take _, by have := ((hrl.drop off).take (len * sz')).1; omega, fun _ => ⟨b, off, rfl, ?_⟩⟩
              have := (((At.row hh).take cs.length).add off).take (len * sz')
              simpa using this
        · cases h
      · cases h
    · cases h
  · cases h

theorem first_run {sz n c : Nat} {a : Option Addr} {vals : List Value} (hl : vals.length = n * sz) (hat : 0 < n → ∃ b off, a = some ⟨b, off, none⟩ ∧ At w b off vals) (w' : World) (hw : w'.heap = w.heap) :
    (Builtin.firstCells sz n (.slice a n c)).run P w' = .ok vals.toArray w' := by
  have hc : ∀ p, w'.cell? p = w.cell? p := fun p => by simp [World.cell?, hw]
  rcases Nat.eq_zero_or_pos n with h0 | h0
  · subst h0
    have : vals = [] := List.eq_nil_of_length_eq_zero (by simpa using hl)
    subst this
    cases a with
    | none => simp [Builtin.firstCells]
    | some a => simp [Builtin.firstCells, loadCells, loadCellsFrom]
  · obtain ⟨b, off, rfl, hat2⟩ := hat h0
    exact run_firstCells_some w' sz n _ n c vals hl fun j v hj => by rw [addr_add, hc]; exact hat2 j v hj

theorem RL.ones {O : Nat → Prop} {cs : List MV} {vs : List Value} (h : RL w O B cs vs) (h1 : cs.all MV.one = true) : ∀ v ∈ vs, v.oneCell' = true := by
  intro v hv
  obtain ⟨i, hi, hvi⟩ := List.getElem_of_mem hv
  have hi' : i < cs.length := by rw [← h.1]; exact hi
  have := h.2 i _ _ (List.getElem?_eq_getElem hi') (List.getElem?_eq_getElem hi)
  rw [hvi] at this
  exact one_rel this (List.all_eq_true.1 h1 _ (List.getElem_mem hi'))

/-- append, where there is room. -/
theorem append_room {t ty e : TypeId} {sz sLen sCap n c : Nat} {base a : Option Addr} {vals : List Value} (ht : P.underlying t = some (.slice e)) (hs : sizeT P e = some sz) (hroom : sLen + n ≤ sCap)
    (hf : (Builtin.firstCells sz n (.slice a n c)).run P w = .ok vals.toArray w) (w' : World)
    (hst : ∀ b, base = some b → (storeCells (b.add (sLen * sz)) vals).run P w = .ok () w') (hn : base = none → w' = w) :
    (Builtin.append_ #[t, t] ty #[.slice base sLen sCap, .slice a n c]).run P w = .ok (.slice base (sLen + n) sCap) w' := by
  simp only [sizeT, Option.map_eq_some_iff] at hs
  obtain ⟨i, hi, rfl⟩ := hs
  cases base with
  | none => simp [Builtin.append_, run_underlying ht, sizeOf, typeInfo, hi, Builtin.lenOf, hroom, hf, hn rfl]
  | some b => simp [Builtin.append_, run_underlying ht, sizeOf, typeInfo, hi, Builtin.lenOf, hroom, hf, hst b rfl]

/-- append, where there is no room. -/
theorem append_grows {t ty e : TypeId} {sz sLen sCap n c bytes : Nat} {base a : Option Addr} {olds vals : List Value} {i : TypeInfo} {z : Value} (ht : P.underlying t = some (.slice e)) (hi : P.info? e = some i) (hz : i.zero = some z) (hsz : i.size = sz) (hby : i.bytes = bytes)
    (hroom : sCap < sLen + n) (hfo : ∀ w', w'.heap = w.heap → (Builtin.firstCells sz sLen (.slice base sLen sCap)).run P w' = .ok olds.toArray w') (hf : ∀ w', w'.heap = w.heap → (Builtin.firstCells sz n (.slice a n c)).run P w' = .ok vals.toArray w')
    (h63 : sLen + n ≤ maxLen) (hb : (sLen + n) * bytes ≤ 140737488355328) :
    (Builtin.append_ #[t, t] ty #[.slice base sLen sCap, .slice a n c]).run P w =
      .ok (.slice (some ⟨w.heap.size, 0, none⟩) (sLen + n) (grownCap w (sLen + n) sCap e))
        (w.drew.alloc (.cells (olds.toArray ++ vals.toArray ++ Builtin.zeroCells z.cells (grownCap w (sLen + n) sCap e - (sLen + n))) e)) := by
  subst hsz; subst hby
  have hn : ¬ (sLen + n ≤ sCap) := by omega
  have h63' : ¬ (9223372036854775807 < ((sLen : Int) + (n : Int))) := by unfold maxLen at h63; omega
  have hfit := growslice_fits hroom hb
  have h48' : ¬ (281474976710656 < Builtin.nextslicecap (sLen + n) sCap * i.bytes) := by omega
  have h1 := hfo w.drew rfl
  have h2 := hf w.drew rfl
  simp [Builtin.append_, run_underlying ht, sizeOf, typeInfo, zeroValue, hi, hz, Builtin.lenOf, hn, h63', h48', Question.forced, h1, h2, newRow, grownCap, ← List.append_toArray, Array.append_assoc]

theorem app_run {t ty e : TypeId} {z : List MV} {bytes n : Nat} {m1 m2 : MV} {u1 u2 : Value} {new : List MV} {r : MV} {ef : Option (Key × Nat × List MV)} (k : Key) (hmr : MemRel A w B mem) (ht : P.underlying t = some (.slice e)) (hz : zeroOf P e = some z) (hs : sizeT P e = some z.length)
    (hby : bytesT P e = some bytes) (h0 : 0 < z.length) (r1 : VR w (OA A B) B m1 u1) (r2 : VR w (OA A B) B m2 u2) (hrow : rowM mem z.length m2 = some (n, new)) (h : appM mem k z bytes m1 (some (n, new)) = some (r, ef)) :
    ∃ v w' B', (Builtin.append_ #[t, t] ty #[u1, u2]).run P w = .ok v w' ∧ StepOK A w B w' B' (updO mem ef) ∧ VR w' (OA A B') B' r v := by
  obtain ⟨a2, c2, vals, rfl, hrl, hvl, hat⟩ := rowM_rel hmr r2 hrow
  obtain ⟨i, zv, hi, hzv, hzrl⟩ := zeroOf_run (P := P) (w := w) (B := B) (O := OA A B) hz
  have hsz := info_size hi hs
  have hbb := info_bytes hi hby
  have hzs : zv.cells.size = z.length := by have := hzrl.1; simp at this; omega
  have hnl : new.length = n * z.length := by rw [← hrl.1, hvl]
  have hf := fun w' hw => first_run (P := P) (w := w) (c := c2) hvl hat w' hw
  -- a new block
  have grow : ∀ (base : Option Addr) (len cap : Nat) (g : Nat) (k' : Key) (cs : List MV) (olds : List Value), cap < len + n → (∀ w', w'.heap = w.heap → (Builtin.firstCells z.length len (.slice base len cap)).run P w' = .ok olds.toArray w') →
      RL w (OA A B) B cs olds → cs.length = len * z.length → len + n ≤ maxLen → (len + n) * bytes ≤ 140737488355328 → g = nextG mem k' →
      ∃ v w' B', (Builtin.append_ #[t, t] ty #[.slice base len cap, .slice a2 n c2]).run P w = .ok v w' ∧ StepOK A w B w' B' (updM mem k' g (cs ++ new)) ∧ VR w' (OA A B') B' (.ref k' g z.length 0 (len + n)) v := by
    intro base len cap g k' cs olds hroom hfo hcs hcl hmax hbytes hg
    subst hg
    have hrun := append_grows (P := P) (ty := ty) ht hi hzv hsz hbb hroom hfo hf hmax hbytes
    have hge := grownCap_ge w (len + n) cap e
    have hle := grownCap_le_maxLen w (len + n) cap e hmax
    have hsize : (olds.toArray ++ vals.toArray ++ Builtin.zeroCells zv.cells (grownCap w (len + n) cap e - (len + n))).size = grownCap w (len + n) cap e * z.length := by
      have hol := hcs.1
      simp only [Array.size_append, List.size_toArray, size_zeroCells, hzs, hol, hcl, hvl]
      rw [← Nat.add_mul, ← Nat.add_mul]
      congr 1
      omega
    have hall := hcs.append hrl
    have hmul : (len + n) * z.length ≤ grownCap w (len + n) cap e * z.length := Nat.mul_le_mul_right _ hge
    have hcn : (cs ++ new).length = (len + n) * z.length := by rw [List.length_append, hcl, hnl, Nat.add_mul]
    refine ⟨_, _, _, hrun, alloc_ok (cs := cs ++ new) hmr w.drew ((Fr.refl _ _).drew _) rfl k' _ e (by rw [hsize, hcn]; exact hmul) ?_, ?_⟩
    · have : (olds.toArray ++ vals.toArray ++ Builtin.zeroCells zv.cells (grownCap w (len + n) cap e - (len + n))).toList.take (cs ++ new).length = olds ++ vals := by
        simp only [Array.toList_append, List.toList_toArray]
        rw [List.take_append_of_le_length (by rw [hall.1]; exact Nat.le_refl _), List.take_of_length_le (by rw [hall.1]; exact Nat.le_refl _)]
      rw [this]
      exact hall
    · refine .ref (updB_same _ _ _) (Nat.le_refl _) ⟨_, _, rfl, hge, hle, .inr ⟨_, rfl, fun _ => ⟨rfl, ?_⟩⟩⟩
      simp only [Nat.zero_add]
      rw [hsize]
      exact Nat.le_refl _
  cases m1 with
  | nil =>
    simp only [appM] at h
    split at h
    · rename_i hc
      obtain ⟨hbytes, hmax, hone⟩ := hc
      cases h
      cases r1 with
      | @nil a1 =>
        rcases Nat.eq_zero_or_pos n with hn0 | hn0
        · subst hn0
          have hv0 : vals = [] := List.eq_nil_of_length_eq_zero (by simpa using hvl)
          have hnew0 : new = [] := List.eq_nil_of_length_eq_zero (by simpa using hnl)
          subst hv0; subst hnew0
          refine ⟨_, _, _, append_room (P := P) (ty := ty) ht hs (Nat.le_refl _) (hf w rfl) w (fun b _ => by simp [storeCells]) (fun _ => rfl), StepOK.virtual hmr k, ?_⟩
          exact .ref (updB_same _ _ _) (Nat.le_refl _) ⟨_, 0, rfl, Nat.le_refl _, Nat.zero_le _, .inl rfl⟩
        · have := grow a1 0 0 (nextG mem k) k [] [] (by omega) (fun w' hw => by
            have := first_run (P := P) (w := w) (sz := z.length) (n := 0) (c := 0) (a := a1) (vals := []) (by simp) (fun h => by omega) w' hw
            exact this) RL.nil (by simp) (by omega) (by simpa using hbytes) rfl
          simpa [updO] using this
    · cases h
  | ref k' g sz' off len =>
    simp only [appM] at h
    split at h
    · rename_i hc
      obtain ⟨rfl, rfl⟩ := hc
      unfold appC at h
      split at h
      · rename_i g' cs hk
        split at h
        · rename_i hc
          obtain ⟨rfl, hlen, hbytes, hmax, hone⟩ := hc
          cases h
          obtain ⟨ee, hee, hge, hnn, hb⟩ := hmr.at_ hk
          have hnext : g' + 1 = nextG mem k' := by simp [nextG, hk]
          cases r1 with
          | ref he hg hr =>
            rw [hee] at he
            cases he
            obtain ⟨a1, cap, rfl, h1, h2, h3⟩ := hr
            have hold : ∃ olds, RL w (OA A B) B (cs.take (len * z.length)) olds ∧ olds.length = len * z.length ∧ (0 < len → ∃ b off, a1 = some ⟨b, off, none⟩ ∧ At w b off olds) := by
              rcases h3 with h3 | ⟨b, rfl, h4⟩
              · have : len = 0 := by omega
                subst this
                exact ⟨[], by simpa using RL.nil, by simp, fun h => by omega⟩
              · obtain ⟨h5, h6⟩ := h4 hge.symm
                obtain ⟨vs, T, hh, hz', hle, hrl'⟩ := hb b h5
                refine ⟨(vs.toList.take cs.length).take (len * z.length), hrl'.take _, by have := (hrl'.take (len * z.length)).1; rw [this]; simp; omega, fun _ => ⟨b, 0, rfl, ((At.row hh).take _).take _⟩⟩
            obtain ⟨olds, ho1, ho2, ho3⟩ := hold
            by_cases hroom : len + n ≤ cap
            · rcases h3 with h3 | ⟨b, rfl, h4⟩
              · -- no room, and nothing comes
                have hl0 : len = 0 := by omega
                have hn0 : n = 0 := by omega
                subst hl0; subst hn0; subst h3
                have hv0 : vals = [] := List.eq_nil_of_length_eq_zero (by simpa using hvl)
                have hnew0 : new = [] := List.eq_nil_of_length_eq_zero (by simpa using hnl)
                subst hv0; subst hnew0
                refine ⟨_, _, updB B k' ⟨nextG mem k', none, 0⟩, append_room (P := P) (ty := ty) ht hs (Nat.le_refl _) (hf w rfl) w (fun b _ => by simp [storeCells]) (fun _ => rfl), ?_, ?_⟩
                · have := StepOK.virtual hmr k'
                  simpa [updO, hnext] using this
                · rw [hnext]
                  exact .ref (updB_same _ _ _) (Nat.le_refl _) ⟨_, 0, rfl, Nat.le_refl _, Nat.zero_le _, .inl rfl⟩
              · obtain ⟨h5, h6⟩ := h4 hge.symm
                obtain ⟨vs, T, hh, hz', hle, hrl'⟩ := hb b h5
                have hmul : (len + n) * z.length ≤ cap * z.length := Nat.mul_le_mul_right _ hroom
                have hsplit : (len + n) * z.length = len * z.length + n * z.length := Nat.add_mul _ _ _
                have hst := run_storeCells_at P b (len * z.length) T vals 0 vs w hh (by omega) (hrl.ones hone)
                simp only [Nat.add_zero] at hst
                have hol : olds = vs.toList.take (len * z.length) := by
                  apply List.ext_getElem?
                  intro j
                  rcases Nat.lt_or_ge j (len * z.length) with hj | hj
                  · have hpos : 0 < len := by
                      rcases Nat.eq_zero_or_pos len with h | h
                      · subst h; simp at hj
                      · exact h
                    obtain ⟨b', off', hbe, hat'⟩ := ho3 hpos
                    simp only [Option.some.injEq, Addr.mk.injEq, and_true] at hbe
                    obtain ⟨rfl, rfl⟩ := hbe
                    have hj2 : j < olds.length := by omega
                    have hcell := hat' j _ (List.getElem?_eq_getElem hj2)
                    rw [Nat.zero_add, cell_of_row w b j vs T (0, 0) hh] at hcell
                    rw [List.getElem?_eq_getElem hj2, List.getElem?_take, if_pos hj, ← hcell, Array.getElem?_toList]
                  · rw [List.getElem?_eq_none (by omega), List.getElem?_take, if_neg (by omega)]
                have hcell' : (vs.toList.take (len * z.length) ++ vals ++ vs.toList.drop (len * z.length + vals.length)).toArray.size = ee.size := by
                  simp
                  omega
                have f : Fr (fun b => ∃ e, B k' = some e ∧ e.blk = some b) w (w.setRow b (vs.toList.take (len * z.length) ++ vals ++ vs.toList.drop (len * z.length + vals.length)).toArray) := by
                  refine ⟨rfl, rfl, rfl, by simp, fun j hj ho => ?_⟩
                  exact setRow_other w b j _ (fun hjb => ho ⟨ee, hee, by rw [h5, hjb]⟩)
                have hcn : (cs.take (len * z.length) ++ new).length = len * z.length + vals.length := by
                  rw [List.length_append, hnl, hvl, List.length_take, Nat.min_eq_left hlen]
                have ok := StepOK.change (k := k') (e' := ⟨g' + 1, some b, ee.size⟩) (cs := cs.take (len * z.length) ++ new) hmr f
                  (fun e2 he2 => .inr (by rw [hee] at he2; cases he2; simp only; omega)) (fun b2 hb2 => .inr ⟨ee, hee, by rw [h5]; exact hb2⟩) (fun hn => by cases hn) (fun b2 hb2 => by
                    cases hb2
                    refine ⟨_, T, setRow_heap w b vs _ T (0, 0) hh, hcell', by rw [hcell', hcn, hvl]; omega, fun i m hm => ?_⟩
                    have hall := ho1.append hrl
                    obtain ⟨v, hv, hr⟩ := hall.get hm
                    refine ⟨v, ?_, hr⟩
                    rw [hol] at hv
                    have hlt : i < (vs.toList.take (len * z.length) ++ vals).length := (List.getElem?_eq_some_iff.1 hv).1
                    simp only [List.getElem?_toArray]
                    rw [List.getElem?_append_left hlt]
                    exact hv)
                refine ⟨_, _, _, append_room (P := P) (ty := ty) (a := a2) (c := c2) (vals := vals) ht hs hroom (hf w rfl) _ (fun b' hb' => by
                  cases hb'
                  rw [addr_add, Nat.zero_add]
                  exact hst) (fun h => by cases h), ok, ?_⟩
                exact .ref (updB_same _ _ _) (Nat.le_refl _) ⟨_, cap, rfl, hroom, h2, .inr ⟨b, rfl, fun _ => ⟨rfl, h6⟩⟩⟩
            · have := grow a1 len cap (g' + 1) k' (cs.take (len * z.length)) olds (by omega) (fun w' hw => first_run (P := P) (w := w) ho2 ho3 w' hw) ho1 (by rw [List.length_take, Nat.min_eq_left hlen]) hmax hbytes hnext
              exact this
        · cases h
      · cases h
    · cases h
  | _ => simp [appM] at h

theorem cpy_run {t u ty e : TypeId} {sz n : Nat} {m1 m2 : MV} {u1 u2 : Value} {new : List MV} {r : MV} {ef : Option (Key × Nat × List MV)} (hmr : MemRel A w B mem) (ht : P.underlying t = some (.slice e)) (hs : sizeT P e = some sz)
    (r1 : VR w (OA A B) B m1 u1) (r2 : VR w (OA A B) B m2 u2) (hrow : rowM mem sz m2 = some (n, new)) (h : cpyM mem sz m1 (some (n, new)) = some (r, ef)) :
    ∃ v w', (Builtin.copy_ #[t, u] ty #[u1, u2]).run P w = .ok v w' ∧ StepOK A w B w' B (updO mem ef) ∧ VR w' (OA A B) B r v := by
  obtain ⟨a2, c2, vals, rfl, hrl, hvl, hat⟩ := rowM_rel hmr r2 hrow
  have hnl : new.length = n * sz := by rw [← hrl.1, hvl]
  cases m1 with
  | ref k g sz' off len =>
    simp only [cpyM] at h
    split at h
    · rename_i hsz
      subst hsz
      unfold cpyC at h
      split at h
      · rename_i g' cs hk
        split at h
        · rename_i hc
          obtain ⟨rfl, hfit, hone⟩ := hc
          cases h
          obtain ⟨ee, hee, hge, hnn, hb⟩ := hmr.at_ hk
          have hmin : Nat.min n len = min n len := rfl
          have hle : min n len ≤ n := Nat.min_le_left _ _
          have hle2 : min n len ≤ len := Nat.min_le_right _ _
          have hml : min n len * sz' ≤ n * sz' := Nat.mul_le_mul_right _ hle
          have hml2 : min n len * sz' ≤ len * sz' := Nat.mul_le_mul_right _ hle2
          have hv2 : (vals.take (min n len * sz')).length = min n len * sz' := by rw [List.length_take, hvl, Nat.min_eq_left hml]
          have hfirst : ∀ (a : Option Addr) (c : Nat), (0 < n → ∃ b off, a = some ⟨b, off, none⟩ ∧ At w b off vals) → (Builtin.firstCells sz' (min n len) (.slice a n c)).run P w = .ok (vals.take (min n len * sz')).toArray w := by
            intro a c hat
            have := first_run (P := P) (w := w) (sz := sz') (n := min n len) (c := c) (a := a) (vals := vals.take (min n len * sz')) hv2 (fun h => by
              obtain ⟨b, off, h1, h2⟩ := hat (by omega)
              exact ⟨b, off, h1, h2.take _⟩) w rfl
            cases a with
            | none => simpa [Builtin.firstCells] using this
            | some a => simpa [Builtin.firstCells] using this
          cases r1 with
          | ref he hg hr =>
            rw [hee] at he
            cases he
            obtain ⟨a1, cap, rfl, h1, h2, h3⟩ := hr
            simp only [sizeT, Option.map_eq_some_iff] at hs
            obtain ⟨i, hi, hsi⟩ := hs
            rcases h3 with h3 | ⟨b, rfl, h4⟩
            · have hl0 : len = 0 := by omega
              subst hl0
              have hm0 : min n 0 = 0 := Nat.min_zero _
              have hstep : splice cs off (new.take (min n 0 * sz')) = cs := by simp [splice]
              have hst : ∀ a : Addr, (storeCells a ([] : List Value)).run P w = .ok () w := fun a => by simp [storeCells]
              have hff := hfirst a2 c2 hat
              simp only [hm0, Nat.zero_mul, List.take_zero] at hff
              have hB : updB B k ee = B := by
                funext j; unfold updB; split
                · rename_i hj; rw [hj, hee]
                · rfl
              refine ⟨.int .i64 0, w, ?_, ?_, by simpa using VR.ofInt⟩
              · cases a1 with
                | none => simp [Builtin.copy_, run_underlying ht, Builtin.lenOf, sizeOf, typeInfo, hi, hsi, hff, goInt]
                | some a => simp [Builtin.copy_, run_underlying ht, Builtin.lenOf, sizeOf, typeInfo, hi, hsi, hff, hst, goInt]
              · have hmem : updM mem k g' cs = mem := by
                  funext j; unfold updM; split
                  · rename_i hj; rw [hj, hk]
                  · rfl
                simp only [updO, hstep, hmem]
                exact .refl hmr
            · obtain ⟨h5, h6⟩ := h4 hge.symm
              obtain ⟨vs, T, hh, hz', hle', hrl'⟩ := hb b h5
              have hst := run_storeCells_at P b off T (vals.take (min n len * sz')) 0 vs w hh (by omega) (fun v hv => hrl.ones hone v (List.mem_of_mem_take hv))
              simp only [Nat.add_zero] at hst
              refine ⟨.int .i64 ((min n len : Nat) : Int), _, ?_, put_ok hmr hk hee h5 hh hz' hle' hrl' hge (by rw [List.length_take, hnl, Nat.min_eq_left hml]; omega) (hrl.take (min n len * sz')), .ofInt⟩
              have hff := hfirst a2 c2 hat
              simp [Builtin.copy_, run_underlying ht, Builtin.lenOf, sizeOf, typeInfo, hi, hsi, hmin, hff, hst, goInt]
        · cases h
      · cases h
    · cases h
  | _ => simp [cpyM] at h
end
end Go.Mini
