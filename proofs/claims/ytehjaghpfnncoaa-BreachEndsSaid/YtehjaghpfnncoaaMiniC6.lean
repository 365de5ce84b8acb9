/- The operations that make blocks, or change them. -/
import Derived.Test.YtehjaghpfnncoaaMiniC5
namespace Go.Mini
open Go
set_option linter.unusedSimpArgs false

section
variable {P : Program} {A : Nat → Prop} {w : World} {B : Lay} {mem : Mem}

theorem zeroOf_run {O : Nat → Prop} {t : TypeId} {z : List MV} (h : zeroOf P t = some z) : ∃ i zv, P.info? t = some i ∧ i.zero = some zv ∧ RL w O B z zv.cells.toList := by
  simp only [zeroOf, Option.bind_eq_some_iff] at h
  obtain ⟨zv, ⟨i, hi, hz⟩, hm⟩ := h
  obtain ⟨h1, h2⟩ := mapM_get hm
  exact ⟨i, zv, hi, hz, by simp [h1], fun j m v hmj hvj => cst1_rel (h2 j v m hvj hmj)⟩

theorem zeroValue_run {t : TypeId} {i : TypeInfo} {zv : Value} (hi : P.info? t = some i) (hz : i.zero = some zv) : (zeroValue t).run P w = .ok zv w := by
  simp [zeroValue, typeInfo, hi, hz]

theorem info_size {t : TypeId} {i : TypeInfo} {n : Nat} (hi : P.info? t = some i) (hs : sizeT P t = some n) : i.size = n := by
  simpa [sizeT, hi] using hs
theorem info_bytes {t : TypeId} {i : TypeInfo} {n : Nat} (hi : P.info? t = some i) (hs : bytesT P t = some n) : i.bytes = n := by
  simpa [bytesT, hi] using hs

/-- A row of zeros. -/
theorem made_list {z : Array Value} (h0 : 0 < z.size) : ∀ n, ((Array.range (n * z.size)).map (z[· % z.size]!)).toList = (List.replicate n z.toList).flatten
  | 0 => by simp
  | n + 1 => by
    have ih := made_list h0 n
    apply List.ext_getElem?
    intro i
    have e1 : ∀ m i, ((Array.range (m * z.size)).map (z[· % z.size]!)).toList[i]? = if i < m * z.size then some (z[i % z.size]!) else none := by
      intro m i
      rw [Array.getElem?_toList, Array.getElem?_map]
      by_cases hi : i < m * z.size
      · rw [if_pos hi, Array.getElem?_range]
        simp [hi]
      · rw [if_neg hi, Array.getElem?_range]
        simp [hi]
    rw [e1, List.replicate_succ', List.flatten_append, List.getElem?_append, ← ih]
    have el : ((Array.range (n * z.size)).map (z[· % z.size]!)).toList.length = n * z.size := by simp
    rw [el]
    have hmul : (n + 1) * z.size = n * z.size + z.size := by rw [Nat.add_mul, Nat.one_mul]
    by_cases hi : i < n * z.size
    · rw [if_pos hi, if_pos (by omega), e1, if_pos hi]
    · rw [if_neg hi]
      by_cases hi2 : i < (n + 1) * z.size
      · rw [if_pos hi2]
        have hlt : i - n * z.size < z.size := by omega
        have hmod : i % z.size = i - n * z.size := by
          have e : i = (i - n * z.size) + z.size * n := by have := Nat.mul_comm n z.size; omega
          have e2 : ((i - n * z.size) + z.size * n) % z.size = i - n * z.size := by rw [Nat.add_mul_mod_self_left, Nat.mod_eq_of_lt hlt]
          rwa [← e] at e2
        rw [hmod]
        simp [hlt]
      · rw [if_neg hi2]
        symm
        rw [List.getElem?_eq_none]
        simp
        omega

theorem RL.replicate {O : Nat → Prop} {z : List MV} {zs : List Value} (h : RL w O B z zs) : ∀ n, RL w O B (List.replicate n z).flatten (List.replicate n zs).flatten
  | 0 => by simpa using RL.nil
  | n + 1 => by
    rw [List.replicate_succ, List.flatten_cons, List.replicate_succ, List.flatten_cons]
    exact h.append (RL.replicate h n)

theorem RL.keep {cs : List MV} {vs : List Value} {w' : World} {B' : Lay} (t : Trans A w B w' B') (h : RL w (OA A B) B cs vs) : RL w' (OA A B') B' cs vs :=
  ⟨h.1, fun i m v h1 h2 => (h.2 i m v h1 h2).keep t⟩

/-- A new own block, as StepOK.alloc has it. -/
theorem alloc_ok {cs : List MV} (hmr : MemRel A w B mem) (w1 : World) (f : Fr (fun _ => False) w w1) (hz : w1.heap.size = w.heap.size) (k : Key) (vs : Array Value) (T : TypeId) (hl : cs.length ≤ vs.size)
    (hrl : RL w (OA A B) B cs (vs.toList.take cs.length)) : StepOK A w B (w1.alloc (.cells vs T)) (updB B k ⟨nextG mem k, some w.heap.size, vs.size⟩) (updM mem k (nextG mem k) cs) :=
  StepOK.alloc hmr w1 f hz k vs T hl fun i m hm => by
    obtain ⟨v, hv, hr⟩ := hrl.get hm
    rw [List.getElem?_take] at hv
    split at hv
    · exact ⟨v, by simpa using hv, hr⟩
    · cases hv

theorem alloc_run {t : TypeId} {z : List MV} (k : Key) (hmr : MemRel A w B mem) (hz : zeroOf P t = some z) :
    ∃ v w' B', (Instr.alloc t true (.tuple #[])).run P w = .ok v w' ∧ StepOK A w B w' B' (updM mem k (nextG mem k) z) ∧ VR w' (OA A B') B' (.ptr k (nextG mem k) 0) v := by
  obtain ⟨i, zv, hi, hzv, hrl⟩ := zeroOf_run (P := P) (w := w) (B := B) (O := OA A B) hz
  have hl : z.length = zv.cells.size := by have := hrl.1; simp at this; omega
  refine ⟨.pointer (some ⟨w.heap.size, 0, none⟩), w.alloc (.cells zv.cells t), _, ?_, alloc_ok hmr w (Fr.refl _ _) rfl k zv.cells t (by omega) (by rw [List.take_of_length_le (by simp; omega)]; exact hrl), ?_⟩
  · simp [Instr.alloc, zeroValue_run hi hzv, newVar, newRow]
  · exact .ptr (updB_same _ _ _) (Nat.le_refl _) ⟨_, rfl, fun _ => rfl⟩

theorem box_run {t : TypeId} {m : MV} {u : Value} (k : Key) (hmr : MemRel A w B mem) (hu : VR w (OA A B) B m u) (hk : m.known = true) :
    ∃ v w' B', (Instr.box t u).run P w = .ok v w' ∧ StepOK A w B w' B' (updM mem k (nextG mem k) m.cells) ∧ VR w' (OA A B') B' (.ptr k (nextG mem k) 0) v := by
  have hrl := RL.of_cells hu (fun e => by rw [e] at hk; simp [MV.known] at hk)
  have hl : m.cells.length = u.cells.size := by have := hrl.1; simp at this; omega
  refine ⟨.pointer (some ⟨w.heap.size, 0, none⟩), w.alloc (.cells u.cells t), _, ?_, alloc_ok hmr w (Fr.refl _ _) rfl k u.cells t (by omega) (by rw [List.take_of_length_le (by simp; omega)]; exact hrl), ?_⟩
  · simp [Instr.box, newVar, newRow]
  · exact .ptr (updB_same _ _ _) (Nat.le_refl _) ⟨_, rfl, fun _ => rfl⟩

theorem mksl_run {t e : TypeId} {z : List MV} {bytes n c : Nat} {m1 m2 : MV} {u1 u2 : Value} {r : MV} {ef : Option (Key × Nat × List MV)} (k : Key) (hmr : MemRel A w B mem) (ht : P.underlying t = some (.slice e)) (hz : zeroOf P e = some z) (hs : sizeT P e = some z.length)
    (hb : bytesT P e = some bytes) (h1 : idx m1 = some n) (h2 : idx m2 = some c) (r1 : VR w (OA A B) B m1 u1) (r2 : VR w (OA A B) B m2 u2) (h0 : 0 < z.length) (h : mkslM k (nextG mem k) z bytes n c = some (r, ef)) :
    ∃ v w' B', (Instr.makeSlice t u1 u2).run P w = .ok v w' ∧ StepOK A w B w' B' (updO mem ef) ∧ VR w' (OA A B') B' r v := by
  unfold mkslM at h
  split at h
  · rename_i hc
    obtain ⟨rfl, hbytes, hmax⟩ := hc
    cases h
    obtain ⟨k1, rfl⟩ := idx_inv h1 r1
    obtain ⟨k2, rfl⟩ := idx_inv h2 r2
    obtain ⟨i, zv, hi, hzv, hrl⟩ := zeroOf_run (P := P) (w := w) (B := B) (O := OA A B) hz
    have hl : z.length = zv.cells.size := by have := hrl.1; simp at this; omega
    have hsz := info_size hi hs
    have hby := info_bytes hi hb
    have hrun := run_make (P := P) w t e i zv ht hi hzv k1 k2 (n : Int) (n : Int) (by omega) (by omega) (by
      have : ((i.bytes * n : Nat) : Int) ≤ 281474976710656 := by rw [hby]; omega
      rwa [Int.natCast_mul] at this) (by unfold maxLen at hmax; omega)
    simp only [Int.toNat_natCast] at hrun
    have hcells : (madeCells zv.cells (n * i.size)).toList = (List.replicate n zv.cells.toList).flatten := by
      rw [hsz, hl]; exact made_list (by omega) n
    have hsize : (madeCells zv.cells (n * i.size)).size = n * z.length := by rw [size_madeCells, hsz]
    have hrep := hrl.replicate (n := n)
    have hlen : (List.replicate n z).flatten.length = n * z.length := by
      have := hrep.1
      rw [← this, ← hcells, Array.length_toList, hsize]
    refine ⟨_, _, _, hrun, alloc_ok hmr w (Fr.refl _ _) rfl k _ e (by rw [hsize, hlen]; exact Nat.le_refl _) ?_, ?_⟩
    · rw [List.take_of_length_le (by rw [Array.length_toList, hsize, hlen]; exact Nat.le_refl _), hcells]
      exact hrep
    · refine .ref (updB_same _ _ _) (Nat.le_refl _) ⟨_, n, rfl, Nat.le_refl _, hmax, .inr ⟨_, rfl, fun _ => ⟨rfl, ?_⟩⟩⟩
      simp only [Nat.zero_add]
      rw [hsize]
      exact Nat.le_refl _
  · cases h

/-- A store into an own block. -/
theorem put_ok (hmr : MemRel A w B mem) {k : Key} {g : Nat} {cs new : List MV} {e : Bk} {b : Nat} {vs : Array Value} {T : TypeId} {vals : List Value} {off : Nat} (hk : mem k = some (g, cs)) (he : B k = some e) (hb : e.blk = some b)
    (hh : w.heap[b]? = some (.cells vs T (0, 0))) (hsz : vs.size = e.size) (hl : cs.length ≤ vs.size) (hrl : RL w (OA A B) B cs (vs.toList.take cs.length)) (hge : e.g = g) (hoff : off + new.length ≤ cs.length) (hnew : RL w (OA A B) B new vals) :
    StepOK A w B (w.setRow b (vs.toList.take off ++ vals ++ vs.toList.drop (off + vals.length)).toArray) B (updM mem k g (splice cs off new)) := by
  have hlv : vals.length = new.length := hnew.1
  have hspl : RL w (OA A B) B (splice cs off new) ((vs.toList.take off ++ vals ++ vs.toList.drop (off + vals.length)).take cs.length) := by
    have h1 := hrl.splice hnew off
    have e1 : (vs.toList.take cs.length).take off ++ vals ++ (vs.toList.take cs.length).drop (off + vals.length) = (vs.toList.take off ++ vals ++ vs.toList.drop (off + vals.length)).take cs.length := by
      have hvl : vs.toList.length = vs.size := Array.length_toList
      rw [List.take_take, Nat.min_eq_left (by omega), List.drop_take, List.take_append, List.length_append, List.length_take, hvl, Nat.min_eq_left (a := off) (b := vs.size) (by omega)]
      rw [List.take_of_length_le (l := vs.toList.take off ++ vals) (by rw [List.length_append, List.length_take, hvl]; omega)]
    rwa [e1] at h1
  have hsl : (splice cs off new).length = cs.length := by unfold splice; simp; omega
  have heq : updB B k e = B := by
    funext j
    unfold updB
    split
    · rename_i hj; rw [hj, he]
    · rfl
  have f : Fr (fun b => ∃ e, B k = some e ∧ e.blk = some b) w (w.setRow b (vs.toList.take off ++ vals ++ vs.toList.drop (off + vals.length)).toArray) := by
    refine ⟨rfl, rfl, rfl, by simp, fun j hj ho => ?_⟩
    exact setRow_other w b j _ (fun hjb => ho ⟨e, he, by rw [hb, hjb]⟩)
  have := StepOK.change (k := k) (e' := e) (cs := splice cs off new) hmr f (fun e2 he2 => .inl (by rw [he] at he2; exact Option.some.inj he2)) (fun b2 hb2 => .inr ⟨e, he, hb2⟩) (fun hn => by rw [hb] at hn; cases hn) (fun b2 hb2 => by
    rw [hb] at hb2
    cases hb2
    refine ⟨_, T, setRow_heap w b vs _ T (0, 0) hh, by simp; omega, by rw [hsl]; simp; omega, fun i m hm => ?_⟩
    obtain ⟨v, hv, hr⟩ := hspl.get hm
    rw [List.getElem?_take] at hv
    split at hv
    · exact ⟨v, by simpa using hv, hr⟩
    · cases hv)
  rw [heq, hge] at this
  exact this

theorem store_run {t : TypeId} {n : Nat} {m1 m2 : MV} {u1 u2 : Value} {r : MV} {ef : Option (Key × Nat × List MV)} (hmr : MemRel A w B mem) (hs : sizeT P t = some n) (r1 : VR w (OA A B) B m1 u1) (r2 : VR w (OA A B) B m2 u2)
    (h : storeM mem n m1 m2.cells = some (r, ef)) : ∃ w', (Instr.storeAt t u1 u2).run P w = .ok () w' ∧ StepOK A w B w' B (updO mem ef) ∧ r = .no := by
  cases m1 with
  | ptr k g off =>
    simp only [storeM] at h
    unfold storeC at h
    split at h
    · rename_i g' cs hk
      split at h
      · rename_i hc
        obtain ⟨rfl, h1, h2, h3⟩ := hc
        cases h
        obtain ⟨e, he, hge, hn, hb⟩ := hmr.at_ hk
        cases r1 with
        | ptr he' hg' hp =>
          rw [he] at he'
          cases he'
          obtain ⟨b, rfl, hbb⟩ := hp
          have hbb := hbb hge.symm
          obtain ⟨vs, T, hh, hsz, hl, hrl⟩ := hb b hbb
          have hk2 : m2 ≠ .undef := fun e => by rw [e] at h3; simp [MV.cells, MV.one] at h3
          have hrc := RL.of_cells r2 hk2
          have h1c : ∀ v ∈ u2.cells.toList, v.oneCell' = true := by
            intro v hv
            obtain ⟨i, hi, hvi⟩ := List.getElem_of_mem hv
            have hi' : i < m2.cells.length := by rw [← hrc.1]; exact hi
            have := hrc.2 i _ _ (List.getElem?_eq_getElem hi') (List.getElem?_eq_getElem hi)
            rw [hvi] at this
            exact one_rel this (List.all_eq_true.1 h3 _ (List.getElem_mem hi'))
          have hsz2 : u2.cells.size = n := by have := hrc.1; simp at this; omega
          have hst := run_storeCells_at P b off T u2.cells.toList 0 vs w hh (by simp; omega) h1c
          simp only [Nat.add_zero] at hst
          refine ⟨_, ?_, put_ok hmr hk he hbb hh hsz hl hrl hge (by omega) hrc, rfl⟩
          have hne : ¬ (u2.cells.size ≠ n) := by omega
          simp only [Instr.storeAt, Instr.sureAddr, storeVar, Sem.run_bind, Sem.run_pure, Result.andThen_ok, sizeT_run hs]
          rw [if_neg hne]
          exact hst
      · cases h
    · cases h
  | _ => simp [storeM] at h
end
end Go.Mini
