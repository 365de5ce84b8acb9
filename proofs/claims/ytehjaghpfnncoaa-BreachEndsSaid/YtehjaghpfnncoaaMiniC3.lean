/- Rows of cells, and the operations that read them. -/
import Derived.Test.YtehjaghpfnncoaaMiniC2
import Derived.Laws.Cells
namespace Go.Mini
open Go
set_option linter.unusedSimpArgs false

section
variable {P : Program} {w : World} {O : Nat → Prop} {B : Lay}

/-- Cells, one by one. -/
def RL (w : World) (O : Nat → Prop) (B : Lay) (cs : List MV) (vs : List Value) : Prop :=
  vs.length = cs.length ∧ ∀ (i : Nat) (m : MV) (v : Value), cs[i]? = some m → vs[i]? = some v → VR w O B m v

theorem RL.get {cs : List MV} {vs : List Value} (h : RL w O B cs vs) {i : Nat} {m : MV} (hi : cs[i]? = some m) : ∃ v, vs[i]? = some v ∧ VR w O B m v := by
  have hl : i < cs.length := (List.getElem?_eq_some_iff.1 hi).1
  have hv : vs[i]? = some (vs[i]'(by rw [h.1]; exact hl)) := List.getElem?_eq_getElem _
  exact ⟨_, hv, h.2 i m _ hi hv⟩

theorem RL.nil : RL w O B [] [] := ⟨rfl, fun i m v h => by simp at h⟩

theorem RL.cons {m : MV} {v : Value} {cs : List MV} {vs : List Value} (h : VR w O B m v) (hr : RL w O B cs vs) : RL w O B (m :: cs) (v :: vs) := by
  refine ⟨by simp [hr.1], fun i m' v' h1 h2 => ?_⟩
  cases i with
  | zero => simp at h1 h2; subst h1; subst h2; exact h
  | succ i => exact hr.2 i m' v' (by simpa using h1) (by simpa using h2)

theorem RL.append {a b : List MV} {x y : List Value} (h : RL w O B a x) (h' : RL w O B b y) : RL w O B (a ++ b) (x ++ y) := by
  refine ⟨by simp [h.1, h'.1], fun i m v h1 h2 => ?_⟩
  rw [List.getElem?_append] at h1 h2
  split at h1
  · rename_i hi
    rw [if_pos (by rw [h.1]; exact hi)] at h2
    exact h.2 i m v h1 h2
  · rename_i hi
    rw [if_neg (by rw [h.1]; exact hi), h.1] at h2
    exact h'.2 _ m v h1 h2

theorem RL.drop {a : List MV} {x : List Value} (h : RL w O B a x) (n : Nat) : RL w O B (a.drop n) (x.drop n) :=
  ⟨by simp [h.1], fun i m v h1 h2 => h.2 (n + i) m v (by simpa using h1) (by simpa using h2)⟩

theorem RL.take {a : List MV} {x : List Value} (h : RL w O B a x) (n : Nat) : RL w O B (a.take n) (x.take n) := by
  refine ⟨by simp [h.1], fun i m v h1 h2 => ?_⟩
  rw [List.getElem?_take] at h1 h2
  split at h1
  · rename_i hi
    rw [if_pos hi] at h2
    exact h.2 i m v h1 h2
  · cases h1

theorem RL.splice {a b : List MV} {x y : List Value} (h : RL w O B a x) (h' : RL w O B b y) (off : Nat) :
    RL w O B (splice a off b) (x.take off ++ y ++ x.drop (off + y.length)) := by
  unfold Mini.splice
  rw [h'.1]
  exact ((h.take off).append h').append (h.drop _)

theorem RL.of_cells {m : MV} {v : Value} (h : VR w O B m v) (hu : m ≠ .undef) : RL w O B m.cells v.cells.toList := by
  obtain ⟨h1, h2⟩ := cells_rel h hu
  exact ⟨by simpa using h1, fun i c u hc hv => h2 i c u hc (by simpa using hv)⟩

theorem RL.dat {ds : List Data} {vs : List Value} (hl : vs.length = ds.length) (h : ∀ (i : Nat) (d : Data) (v : Value), ds[i]? = some d → vs[i]? = some v → Den w O d v) : RL w O B (ds.map .dat) vs := by
  refine ⟨by simp [hl], fun i m v h1 h2 => ?_⟩
  simp only [List.getElem?_map, Option.map_eq_some_iff] at h1
  obtain ⟨d, hd, rfl⟩ := h1
  exact .dat (h i d v hd h2)

theorem cut_some {cs : List MV} {off n : Nat} {r : List MV} (h : cut cs off n = some r) : off + n ≤ cs.length ∧ r = (cs.drop off).take n ∧ r.length = n := by
  unfold cut at h
  split at h
  · rename_i hl
    cases h
    exact ⟨hl, rfl, by simp; omega⟩
  · cases h

/-- n cells from an address on. -/
def At (w : World) (b off : Nat) (vs : List Value) : Prop := ∀ (j : Nat) (u : Value), vs[j]? = some u → w.cell? ⟨b, off + j, none⟩ = some u

theorem At.add {w : World} {b off : Nat} {vs : List Value} (h : At w b off vs) (n : Nat) : At w b (off + n) (vs.drop n) := fun j u hj => by
  have := h (n + j) u (by simpa using hj)
  rwa [← Nat.add_assoc] at this

theorem At.take {w : World} {b off : Nat} {vs : List Value} (h : At w b off vs) (n : Nat) : At w b off (vs.take n) := fun j u hj => by
  rw [List.getElem?_take] at hj
  split at hj
  · exact h j u hj
  · cases hj

theorem At.row {w : World} {b : Nat} {vs : Array Value} {T : TypeId} {fr : Nat × Nat} (h : w.heap[b]? = some (.cells vs T fr)) : At w b 0 vs.toList := fun j u hj => by
  rw [Nat.zero_add, cell_of_row w b j vs T fr h]
  simpa using hj

theorem addr_add (b off n : Nat) : (⟨b, off, none⟩ : Addr).add n = ⟨b, off + n, none⟩ := by
  unfold Addr.add
  split <;> simp_all

theorem At.load {b off : Nat} {vs : List Value} (h : At w b off vs) : (loadCells ⟨b, off, none⟩ vs.length).run P w = .ok vs.toArray w :=
  run_loadCells_list w _ vs fun j v hj => by rw [addr_add]; exact h j v hj

theorem sizeT_run {t : TypeId} {n : Nat} (h : sizeT P t = some n) : (sizeOf t).run P w = .ok n w := by
  simp only [sizeT, Option.map_eq_some_iff] at h
  obtain ⟨i, hi, rfl⟩ := h
  simp [sizeOf, typeInfo, hi]

theorem aggT_run {t : TypeId} {g : Bool} (h : aggT P t = some g) : (isAgg t).run P w = .ok g w := by
  simp only [aggT, Option.map_eq_some_iff] at h
  obtain ⟨d, hd, rfl⟩ := h
  simp only [isAgg, Sem.run_bind, run_underlying hd, Result.andThen_ok]
  cases d <;> rfl

theorem mkAgg_run {t : TypeId} {n : Nat} {ag : Bool} {b off : Nat} {ms : List MV} {vs : List Value} {r : MV} (hs : sizeT P t = some n) (ha : aggT P t = some ag) (hl : ms.length = n)
    (hrl : RL w O B ms vs) (hat : At w b off vs) (h : mkAgg ag ms = some r) : ∃ u, (loadVar t ⟨b, off, none⟩).run P w = .ok u w ∧ VR w O B r u := by
  unfold mkAgg at h
  split at h
  · rename_i hag
    cases h
    subst hag
    refine ⟨.agg vs.toArray, ?_, .agg hrl.1 hrl.2⟩
    have := hat.load (P := P)
    rw [hrl.1, hl] at this
    simp [loadVar, aggT_run ha, sizeT_run hs, this]
  · rename_i hag
    split at h
    · cases h
      obtain ⟨u, hu, hr⟩ := hrl.get (i := 0) (m := r) rfl
      have := hat 0 u hu
      have hag' : ag = false := by simpa using hag
      subst hag'
      exact ⟨u, by simp [loadVar, aggT_run ha, this]; simpa using by rw [show off = off + 0 from rfl, this], hr⟩
    · cases h
end

section
variable {P : Program} {A : Nat → Prop} {w : World} {B : Lay} {mem : Mem}

/-- An own block: where it lies, and what it holds. -/
theorem MemRel.at_ (h : MemRel A w B mem) {k : Key} {g : Nat} {cs : List MV} (hk : mem k = some (g, cs)) :
    ∃ e, B k = some e ∧ e.g = g ∧ (e.blk = none → cs = []) ∧ ∀ b, e.blk = some b → ∃ (vs : Array Value) (T : TypeId), w.heap[b]? = some (.cells vs T (0, 0)) ∧ vs.size = e.size ∧ cs.length ≤ vs.size ∧
      RL w (OA A B) B cs (vs.toList.take cs.length) := by
  obtain ⟨e, he, hg, hn, hb⟩ := h.blk k g cs hk
  refine ⟨e, he, hg, hn, fun b hbb => ?_⟩
  obtain ⟨vs, T, h1, h2, h3, h4⟩ := hb b hbb
  refine ⟨vs, T, h1, h2, h3, by simp; omega, fun i m v hm hv => ?_⟩
  obtain ⟨u, hu, hr⟩ := h4 i m hm
  rw [List.getElem?_take] at hv
  split at hv
  · rw [Array.getElem?_toList, hu] at hv
    cases hv
    exact hr
  · cases hv

/-- What lies behind a pointer. -/
theorem loadM_at {n : Nat} {ag : Bool} {m r : MV} {v : Value} (hmr : MemRel A w B mem) (hv : VR w (OA A B) B m v) (h : loadM mem n ag m = some r) :
    ∃ b off ms vs, v = .pointer (some ⟨b, off, none⟩) ∧ ms.length = n ∧ RL w (OA A B) B ms vs ∧ At w b off vs ∧ mkAgg ag ms = some r := by
  unfold loadM at h
  split at h
  · rename_i k g off
    split at h
    · rename_i g' cs hk
      split at h
      · rename_i hg
        subst hg
        simp only [Option.bind_eq_some_iff] at h
        obtain ⟨ms, hms, hr⟩ := h
        obtain ⟨hl, rfl, hn⟩ := cut_some hms
        obtain ⟨e, he, hge, hnn, hb⟩ := hmr.at_ hk
        cases hv with
        | ptr he' hg' hv' =>
          rw [he] at he'
          cases he'
          obtain ⟨b, rfl, hbb⟩ := hv'
          have hbb := hbb hge.symm
          obtain ⟨vs, T, hh, hz, hle, hrl⟩ := hb b hbb
          refine ⟨b, off, _, ((vs.toList.take cs.length).drop off).take n, rfl, hn, (hrl.drop off).take n, ?_, hr⟩
          have := (((At.row hh).take cs.length).add off).take n
          simpa using this
      · cases h
    · cases h
  · rename_i ds
    simp only [Option.bind_eq_some_iff] at h
    obtain ⟨ms, hms, hr⟩ := h
    obtain ⟨hl, rfl, hn⟩ := cut_some hms
    cases hv with
    | dat hd =>
      cases hd with
      | @ptr cs b off val hb hO hc hd =>
        refine ⟨b, off, _, ((List.range ds.length).map val).take n, rfl, hn, ?_, ?_, hr⟩
        · have : RL w (OA A B) B (ds.map .dat) ((List.range ds.length).map val) := RL.dat (by simp) fun i d v h1 h2 => by
            have hi : i < ds.length := (List.getElem?_eq_some_iff.1 h1).1
            simp [hi] at h2
            subst h2
            exact hd i d h1
          simpa using this.take n
        · refine At.take (fun j u hj => ?_) n
          simp only [List.getElem?_map, Option.map_eq_some_iff] at hj
          obtain ⟨j', hj', rfl⟩ := hj
          have h1 : j' = j ∧ j < ds.length := by
            rcases Nat.lt_or_ge j ds.length with h | h
            · rw [List.getElem?_range h] at hj'
              exact ⟨by simpa using hj'.symm, h⟩
            · rw [List.getElem?_eq_none (by simpa using h)] at hj'
              cases hj'
          obtain ⟨rfl, hjl⟩ := h1
          exact hc j' hjl
  · cases h

theorem loadM_run {t : TypeId} {n : Nat} {ag : Bool} {m r : MV} {v : Value} (hs : sizeT P t = some n) (ha : aggT P t = some ag) (hmr : MemRel A w B mem) (hv : VR w (OA A B) B m v) (h : loadM mem n ag m = some r) :
    ∃ u, (Instr.loadAt t v).run P w = .ok u w ∧ VR w (OA A B) B r u := by
  obtain ⟨b, off, ms, vs, rfl, hl, hrl, hat, hr⟩ := loadM_at hmr hv h
  obtain ⟨u, h1, h2⟩ := mkAgg_run (P := P) hs ha hl hrl hat hr
  exact ⟨u, by simpa [Instr.loadAt, Instr.sureAddr] using h1, h2⟩
end
end Go.Mini
