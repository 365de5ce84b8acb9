/- One operation of the small semantics, and the model's. -/
import Derived.Test.YtehjaghpfnncoaaMiniC7
set_option linter.unusedSimpArgs false
set_option linter.unusedVariables false
namespace Go.Mini
open Go
variable {P : Program} {A : Nat → Prop} {w : World} {B : Lay} {mem : Mem}

theorem slcaM_run {t e : TypeId} {sz l h len : Nat} {m r : MV} {v : Value} {vlo vhi : Option Value} {lo hi : Option MV} (hmr : MemRel A w B mem) (ht : P.underlying t = some (.array len e)) (hs : sizeT P e = some sz) (h24 : len ≤ 16777216)
    (hlo : idxO 0 lo = some l) (hhi : idxO len hi = some h) (rlo : OR w (OA A B) B lo vlo) (rhi : OR w (OA A B) B hi vhi) (hm : VR w (OA A B) B m v) (hr : slcaM mem len sz l h m = some r) :
    ∃ z, (Instr.sliceAt t v vlo vhi none).run P w = .ok z w ∧ VR w (OA A B) B r z := by
  unfold slcaM at hr
  split at hr
  · rename_i k g off
    unfold slcaC at hr
    split at hr
    · rename_i g' cs hk
      split at hr
      · rename_i hc
        obtain ⟨rfl, h1, h2, h3⟩ := hc
        cases hr
        cases hm with
        | ptr he hg hv =>
          obtain ⟨b, rfl, hb⟩ := hv
          obtain ⟨e', he', hge, hn, hblk⟩ := hmr.at_ hk
          rw [he'] at he
          cases he
          have hbb := hb hge.symm
          obtain ⟨vs, T, hh, hz, hle, _⟩ := hblk b hbb
          refine ⟨.slice (some (if len = l then ⟨b, off, none⟩ else ⟨b, off + l * sz, none⟩)) (h - l) (len - l), ?_, .ref he' hg ⟨_, len - l, rfl, by omega, by unfold maxLen; omega, ?_⟩⟩
          · simp [Instr.sliceAt, run_underlying ht, Instr.sureAddr, bounds_run (P := P) (w := w) false hlo hhi rlo rhi h1 h2, sizeT_run hs]
            split <;> simp [addr_add]
          · rcases Nat.eq_or_lt_of_le (Nat.le_trans h1 h2) with hl | hl
            · exact .inl (by omega)
            · refine .inr ⟨b, by rw [if_neg (by omega)], fun _ => ⟨hbb, ?_⟩⟩
              have : off + l * sz + (len - l) * sz = off + len * sz := by
                rw [Nat.add_assoc, ← Nat.add_mul]
                congr 2
                omega
              omega
      · cases hr
    · cases hr
  · cases hr

theorem places_run {fs : List Field} (h : (fs.all fun f => (sizeT P f.type).isSome) = true) : ∃ ps : List (Nat × Nat), (fs.mapM fun f => (do pure (f.offset, ← sizeOf f.type) : Sem (Nat × Nat))).run P w = .ok ps w ∧
    ∀ i : Nat, ps[i]? = fieldPlaces P fs.toArray i := by
  induction fs with
  | nil => exact ⟨[], by simp, fun i => by simp [fieldPlaces]⟩
  | cons f r ih =>
    simp only [List.all_cons, Bool.and_eq_true] at h
    obtain ⟨ps, h1, h2⟩ := ih h.2
    obtain ⟨s, hs⟩ := Option.isSome_iff_exists.1 h.1
    refine ⟨(f.offset, s) :: ps, ?_, fun i => ?_⟩
    · simp only [List.mapM_cons, Sem.run_bind, sizeT_run hs, Result.andThen_ok, Sem.run_pure]
      rw [h1]
      rfl
    · cases i with
      | zero => simp [fieldPlaces, hs]
      | succ i =>
        have := h2 i
        simp only [fieldPlaces, List.getElem?_toArray, List.getElem?_cons_succ] at this ⊢
        exact this

theorem place_congr {p q : Nat → Option (Nat × Nat)} (h : ∀ i, p i = q i) (cs : Array Value) (l : List (Nat × Value)) : Instr.fill p cs l = Instr.fill q cs l := by
  rw [show p = q from funext h]

theorem buildS_run {t : TypeId} {fs : Array Field} {z r : List MV} {ps : List (Nat × Operand)} {qs : List (Nat × Nat × Opd)} {ρ : Operand → Value} {tm : Nat → MV} {O : Nat → Prop} (ht : P.underlying t = some (.struct fs)) (hz : zeroOf P t = some z)
    (ha : (fs.toList.all fun f => (sizeT P f.type).isSome) = true) (hp : partsOf (fieldPlaces P fs) ps = some qs) (hρ : ∀ x y, trOpd x = some y → VR w O B (ev tm y) (ρ x))
    (h : fillM (ev tm) z qs = some r) : ∃ v, (Instr.build t (ps.map fun p => (p.1, ρ p.2)).toArray).run P w = .ok v w ∧ VR w O B (.agg r) v := by
  obtain ⟨i, zv, hi, hzv, hrl⟩ := zeroOf_run (P := P) (w := w) (B := B) (O := O) hz
  obtain ⟨pl, h1, h2⟩ := places_run (w := w) ha
  obtain ⟨vs', hf, hr⟩ := fill_run (place := fieldPlaces P fs) hρ ps qs _ r _ hp hrl h
  refine ⟨.agg vs', ?_, by rw [show vs' = vs'.toList.toArray from by simp]; exact .agg hr.1 hr.2⟩
  · have h2' : ∀ i, pl.toArray[i]? = fieldPlaces P fs i := fun i => by simpa using h2 i
    have hm : (fs.mapM fun f => (do pure (f.offset, ← sizeOf f.type) : Sem (Nat × Nat))).run P w = .ok pl.toArray w := by
      rw [Array.mapM_eq_mapM_toList]
      rw [map_eq_pure_bind]
      simp only [Sem.run_bind, h1, Result.andThen_ok, Sem.run_pure]
    simp only [Instr.build, Sem.run_bind, zeroValue_run hi hzv, Result.andThen_ok, Sem.run_pure, run_underlying ht, hm, place_congr h2', hf]

theorem buildA_run {t e : TypeId} {n sz : Nat} {z r : List MV} {ps : List (Nat × Operand)} {qs : List (Nat × Nat × Opd)} {ρ : Operand → Value} {tm : Nat → MV} {O : Nat → Prop} (ht : P.underlying t = some (.array n e)) (hz : zeroOf P t = some z)
    (hs : sizeT P e = some sz) (hp : partsOf (fun i => some (i * sz, sz)) ps = some qs) (hρ : ∀ x y, trOpd x = some y → VR w O B (ev tm y) (ρ x))
    (h : fillM (ev tm) z qs = some r) : ∃ v, (Instr.build t (ps.map fun p => (p.1, ρ p.2)).toArray).run P w = .ok v w ∧ VR w O B (.agg r) v := by
  obtain ⟨i, zv, hi, hzv, hrl⟩ := zeroOf_run (P := P) (w := w) (B := B) (O := O) hz
  obtain ⟨vs', hf, hr⟩ := fill_run (place := fun i => some (i * sz, sz)) hρ ps qs _ r _ hp hrl h
  refine ⟨.agg vs', ?_, by rw [show vs' = vs'.toList.toArray from by simp]; exact .agg hr.1 hr.2⟩
  simp only [Instr.build, Sem.run_bind, zeroValue_run hi hzv, Result.andThen_ok, Sem.run_pure, run_underlying ht, sizeT_run hs, hf]

end Go.Mini
