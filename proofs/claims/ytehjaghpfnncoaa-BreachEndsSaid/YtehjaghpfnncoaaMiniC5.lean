/- Slices of slices, parts laid together, and the operations that change the memory. -/
import Derived.Test.YtehjaghpfnncoaaMiniC4
namespace Go.Mini
open Go
set_option linter.unusedSimpArgs false

section
variable {P : Program} {w : World} {O : Nat → Prop} {B : Lay}

theorem evenE_all {sz : Nat} {es : List (List Data)} (h : evenE sz es = true) : ∀ e ∈ es, e.length = sz := fun e he => by
  simpa using List.all_eq_true.1 h e he

theorem slcM_run {t e : TypeId} {sz l h len : Nat} {m r : MV} {v : Value} {vlo vhi : Option Value} {lo hi : Option MV} (ht : P.underlying t = some (.slice e)) (hs : sizeT P e = some sz)
    (hlo : idxO 0 lo = some l) (hlen : lenM m = some len) (hhi : idxO len hi = some h) (rlo : OR w O B lo vlo) (rhi : OR w O B hi vhi) (hm : VR w O B m v) (hr : slcM sz l h m = some r) :
    ∃ z, (Instr.sliceAt t v vlo vhi none).run P w = .ok z w ∧ VR w O B r z := by
  obtain ⟨a, cap, rfl, hcap⟩ := slice_form hm hlen
  have run : l ≤ h → h ≤ len → (Instr.sliceAt t (.slice a len cap) vlo vhi none).run P w = .ok (.slice (if cap = l then a else a.map (·.add (l * sz))) (h - l) (cap - l)) w := fun h1 h2 =>
    slice_run ht hs (bounds_run true hlo hhi rlo rhi h1 (by omega))
  unfold slcM at hr
  split at hr
  · rename_i es
    split at hr
    · rename_i hc
      obtain ⟨h1, h2, h3⟩ := hc
      cases hr
      simp only [lenM, Option.some.injEq] at hlen
      subst hlen
      refine ⟨_, run h1 h2, .dat ?_⟩
      cases hm with
      | dat hd =>
        rcases den_part (sz := sz) hd h1 h2 (fun _ => evenE_all h3) (cc := cap - l) (by omega) with rfl | hp
        · rw [show ((es.take l).drop l) = [] from by simp]
          rw [Nat.sub_self]
          exact .sl0
        · rcases Nat.eq_or_lt_of_le h1 with rfl | hlt
          · rw [show ((es.take l).drop l) = [] from by simp]
            rw [Nat.sub_self]
            exact .sl0
          · rw [if_neg (by omega)]
            exact hp
    · cases hr
  · split at hr
    · rename_i hc
      obtain ⟨rfl, rfl⟩ := hc
      cases hr
      cases hm with
      | nil => exact ⟨_, run (by omega) (by omega), by simpa using VR.nil⟩
    · cases hr
  · split at hr
    · rename_i k g sz' off len' hc
      obtain ⟨rfl, h1, h2⟩ := hc
      cases hr
      simp only [lenM, Option.some.injEq] at hlen
      subst hlen
      cases hm with
      | ref he hg hv =>
        refine ⟨_, run h1 h2, .ref he hg ?_⟩
        obtain ⟨a', cap', hv1, hv2, hv3, hv4⟩ := hv
        injection hv1 with e1 e2 e3
        subst e1; subst e3
        refine ⟨_, cap - l, rfl, by omega, by omega, ?_⟩
        rcases Nat.eq_zero_or_pos (cap - l) with h0 | h0
        · exact .inl h0
        · refine .inr ?_
          rcases hv4 with h4 | ⟨b, rfl, h5⟩
          · omega
          · refine ⟨b, by rw [if_neg (by omega)]; simp [addr_add], fun hge => ?_⟩
            obtain ⟨h6, h7⟩ := h5 hge
            refine ⟨h6, ?_⟩
            rw [Nat.add_assoc, ← Nat.add_mul]
            rwa [show l + (cap - l) = cap from by omega]
    · cases hr
  · cases hr

theorem slcM3_run {t e : TypeId} {sz l h mm : Nat} {m r : MV} {v : Value} {vlo : Option Value} {vhi vmx : Value} {lo : Option MV} {hi mx : MV} (ht : P.underlying t = some (.slice e)) (hs : sizeT P e = some sz)
    (hlo : idxO 0 lo = some l) (hhi : idx hi = some h) (hmx : idx mx = some mm) (rlo : OR w O B lo vlo) (rhi : VR w O B hi vhi) (rmx : VR w O B mx vmx) (hm : VR w O B m v) (hr : slc3M sz l h mm m = some r) :
    ∃ z, (Instr.sliceAt t v vlo (some vhi) (some vmx)).run P w = .ok z w ∧ VR w O B r z := by
  have run : ∀ a len cap, l ≤ h → h ≤ mm → mm ≤ len → len ≤ cap → (Instr.sliceAt t (.slice a len cap) vlo (some vhi) (some vmx)).run P w = .ok (.slice (if mm = l then a else a.map (·.add (l * sz))) (h - l) (mm - l)) w :=
    fun a len cap h1 h2 h3 h4 => slice_run ht hs (bounds3_run hlo hhi hmx rlo rhi rmx h1 h2 (by omega))
  unfold slc3M at hr
  split at hr
  · rename_i es
    split at hr
    · rename_i hc
      obtain ⟨h1, h2, h3, h4⟩ := hc
      obtain ⟨a, cap, rfl, hcap⟩ := slice_form hm (n := es.length) rfl
      refine ⟨_, run a _ cap h1 h2 h3 hcap, ?_⟩
      split at hr
      · rename_i hml
        cases hr
        subst hml
        have : h = mm := by omega
        subst this
        simpa using VR.nil
      · rename_i hml
        cases hr
        rw [if_neg hml]
        cases hm with
        | dat hd =>
          refine .dat ?_
          rcases Nat.eq_or_lt_of_le h1 with rfl | hlt
          · rw [show ((es.take l).drop l) = [] from by simp]
            rw [Nat.sub_self]
            exact .sl0
          · rcases den_part (sz := sz) hd h1 (by omega) (fun _ => evenE_all h4) (cc := mm - l) (by omega) with h0 | hp
            · omega
            · exact hp
    · cases hr
  · split at hr
    · rename_i hc
      obtain ⟨rfl, rfl, rfl⟩ := hc
      cases hr
      obtain ⟨a, cap, rfl, hcap⟩ := slice_form hm (n := 0) rfl
      exact ⟨_, run a _ cap (by omega) (by omega) (by omega) hcap, by simpa using VR.nil⟩
    · cases hr
  · rename_i k g sz' off len
    split at hr
    · rename_i hc
      obtain ⟨h1, h2, h3, rfl⟩ := hc
      cases hr
      obtain ⟨a, cap, rfl, hcap⟩ := slice_form hm (n := len) rfl
      have : h = mm := by omega
      subst this
      exact ⟨_, run a _ cap (by omega) (by omega) (by omega) hcap, by simpa using VR.nil⟩
    · cases hr
  · cases hr

theorem slcsM_run {t : TypeId} {l h len : Nat} {m r : MV} {v : Value} {vlo vhi : Option Value} {lo hi : Option MV} (ht : P.underlying t = some .string)
    (hlo : idxO 0 lo = some l) (hlen : lensM m = some len) (hhi : idxO len hi = some h) (rlo : OR w O B lo vlo) (rhi : OR w O B hi vhi) (hm : VR w O B m v) (hr : slcsM l h m = some r) :
    ∃ z, (Instr.sliceAt t v vlo vhi none).run P w = .ok z w ∧ VR w O B r z := by
  unfold slcsM at hr
  split at hr
  · rename_i s
    split at hr
    · rename_i hc
      obtain ⟨h1, h2⟩ := hc
      cases hr
      simp only [lensM, Option.some.injEq] at hlen
      subst hlen
      cases hm.str_inv
      have e : (ByteArray.mk s.toArray).size = s.length := by simp [ByteArray.size]
      have hb := bounds_run (P := P) (w := w) (O := O) (B := B) (cap := s.length) false hlo hhi rlo rhi h1 h2
      have hx : (ByteArray.mk s.toArray).extract l h = ⟨((s.take h).drop l).toArray⟩ := by
        rw [ByteArray.extract_mk, List.drop_take]
      exact ⟨.string ⟨((s.take h).drop l).toArray⟩, by simp [Instr.sliceAt, Instr.slice, run_underlying ht, e, hb, hx], .dat .str⟩
    · cases hr
  · cases hr

/-! ### parts laid together -/
theorem fold_set (off : Nat) : ∀ (l : List Value) (k : Nat) (cs : Array Value), off + k + l.length ≤ cs.size →
    (l.zipIdx k).foldl (fun (cs : Array Value) (p : Value × Nat) => cs.setIfInBounds (off + p.2) p.1) cs = (cs.toList.take (off + k) ++ l ++ cs.toList.drop (off + k + l.length)).toArray
  | [], k, cs, _ => by simp
  | a :: l, k, cs, h => by
    rw [List.zipIdx_cons, List.foldl_cons]
    have h' : off + k < cs.size := by simp at h; omega
    rw [fold_set off l (k + 1) (cs.setIfInBounds (off + k) a) (by simp at h ⊢; omega)]
    apply Array.ext'
    simp only [Array.toList_setIfInBounds]
    have := list_seg_step cs.toList (off + k) a l (by simp at h ⊢; omega)
    simpa [Nat.add_assoc] using this

theorem fill_run {place : Nat → Option (Nat × Nat)} {ρ : Operand → Value} {tm : Nat → MV} (hρ : ∀ x y, trOpd x = some y → VR w O B (ev tm y) (ρ x)) :
    ∀ (ps : List (Nat × Operand)) (qs : List (Nat × Nat × Opd)) (cs r : List MV) (vs : Array Value), partsOf place ps = some qs → RL w O B cs vs.toList → fillM (ev tm) cs qs = some r →
      ∃ vs' : Array Value, Instr.fill place vs (ps.map fun p => (p.1, ρ p.2)) = some vs' ∧ RL w O B r vs'.toList
  | [], qs, cs, r, vs, hp, hrl, h => by
    simp [partsOf] at hp
    subst hp
    simp [fillM] at h
    subst h
    exact ⟨vs, rfl, hrl⟩
  | (i, x) :: ps, qs, cs, r, vs, hp, hrl, h => by
    simp only [partsOf, List.mapM_cons, Option.pure_def, Option.bind_eq_bind, Option.bind_eq_some_iff, Option.some.injEq] at hp
    obtain ⟨q, hq, qs', hqs, rfl⟩ := hp
    obtain ⟨⟨o, s⟩, hpl, y, hy, rfl⟩ := hq
    simp only [fillM] at h
    split at h
    · rename_i hc
      obtain ⟨h0, h1, h2⟩ := hc
      have hvr := hρ x y hy
      have hund : ev tm y ≠ .undef := fun e => by rw [e] at h0; simp [MV.known] at h0
      · have hrc := RL.of_cells hvr hund
        have hsz : (ρ x).cells.size = s := by have := hrc.1; simp at this; omega
        have hfit : o + s ≤ vs.size := by have := hrl.1; simp at this; omega
        have hfold := fold_set o (ρ x).cells.toList 0 vs (by simp [hsz]; exact hfit)
        simp only [Nat.add_zero, Array.length_toList] at hfold
        have hspl := hrl.splice hrc o
        obtain ⟨vs', hf, hr'⟩ := fill_run hρ ps qs' _ r ((vs.toList.take o ++ (ρ x).cells.toList ++ vs.toList.drop (o + (ρ x).cells.size)).toArray) hqs (by simpa using hspl) h
        refine ⟨vs', ?_, hr'⟩
        simp only [List.map_cons, Instr.fill, hpl]
        rw [if_neg (by simp [hsz]; omega)]
        have hz : (ρ x).cells.zipIdx.foldl (fun cs (p : Value × Nat) => cs.setIfInBounds (o + p.2) p.1) vs = (vs.toList.take o ++ (ρ x).cells.toList ++ vs.toList.drop (o + (ρ x).cells.size)).toArray := by
          rw [← Array.foldl_toList, Array.toList_zipIdx]
          exact hfold
        rw [← hf]
        congr 1
    · cases h
end
end Go.Mini
