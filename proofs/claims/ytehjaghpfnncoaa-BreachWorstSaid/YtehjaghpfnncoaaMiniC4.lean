/- More operations on values alone. -/
import Derived.Test.YtehjaghpfnncoaaMiniC3
namespace Go.Mini
open Go
set_option linter.unusedSimpArgs false

section
variable {P : Program} {w : World} {O : Nat → Prop} {B : Lay}

theorem aggC_rel {m : MV} {cs : List MV} {v : Value} (h : aggC m = some cs) (hv : VR w O B m v) : ∃ vs : List Value, v = .agg vs.toArray ∧ RL w O B cs vs := by
  unfold aggC at h
  split at h
  · cases h
    cases hv with
    | agg hl hd => exact ⟨_, rfl, hl, hd⟩
  · cases h
    cases hv with
    | dat hd =>
      cases hd with
      | agg hl hd => exact ⟨_, rfl, RL.dat hl hd⟩
  · cases h

theorem eqsM_run {neg : Bool} {ks : List Nat} {m n r : MV} {u v : Value} (t : TypeId) (x y : Operand) (fs : Array Field) (hu : P.underlying t = some (.struct fs)) (hs : P.stoodInHeld t = false)
    (hg : P.eqGuardType P.depth t = false) (hk : kindFields P 0 fs.toList = some ks) (hm : VR w O B m u) (hn : VR w O B n v) (h : eqsM neg ks m n = some r) :
    ∃ z, ((do eqGuard (if neg then .neq else .eql) t x y u v; binOp (if neg then .neq else .eql) t u v : Sem Value)).run P w = .ok z w ∧ VR w O B r z := by
  unfold eqsM at h
  split at h
  · rename_i cs ds hcs hds
    split at h
    · rename_i c hc
      cases h
      obtain ⟨xs, rfl, hx⟩ := aggC_rel hcs hm
      obtain ⟨ys, rfl, hy⟩ := aggC_rel hds hn
      have hfo : P.fieldsOf t = fs := by simp [Program.fieldsOf, hu]
      have he := run_equalIn_struct (P := P) w 9999 t xs.toArray ys.toArray (by rw [hfo]; exact hu) hs
      rw [hfo] at he
      have hf := eqFields_run (P := P) (w := w) (O := O) (B := B) (d := 9998) (xs := xs.toArray) (ys := ys.toArray) (cs := cs) (ds := ds)
        (fun i m v h1 h2 => hx.2 i m v h1 (by simpa using h2)) (by simpa using hx.1) (fun i m v h1 h2 => hy.2 i m v h1 (by simpa using h2)) (by simpa using hy.1) fs.toList 0 ks c hk (by simpa using hc)
      have heq : (Op.equal t (.agg xs.toArray) (.agg ys.toArray)).run P w = .ok c w := by
        show (Op.equalIn (9999 + 1) t _ _).run P w = _
        rw [he]
        exact hf
      have hgd : ∀ op, (op = BinOp.eql ∨ op = .neq) → (eqGuard op t x y (.agg xs.toArray) (.agg ys.toArray)).run P w = .ok () w := by
        intro op hop
        rcases hop with rfl | rfl <;> simp [eqGuard, hg]
      refine ⟨.bool (neg != c), ?_, .dat .bool⟩
      cases neg
      · simp only [Bool.false_eq_true, if_false, Sem.run_bind, hgd _ (.inl rfl), Result.andThen_ok]
        show (do pure (Value.bool (← Op.equal t (.agg xs.toArray) (.agg ys.toArray))) : Sem Value).run P w = _
        simp [heq]
      · simp only [if_true, Sem.run_bind, hgd _ (.inr rfl), Result.andThen_ok]
        show (do pure (Value.bool (!(← Op.equal t (.agg xs.toArray) (.agg ys.toArray)))) : Sem Value).run P w = _
        simp [heq]
    · cases h
  · cases h

theorem pickM_run {c a b r : MV} {vc va vb : Value} (hc : VR w O B c vc) (ha : VR w O B a va) (hb : VR w O B b vb) (h : pickM c a b = some r) :
    ∃ z, (do pure (if ← asBool vc then va else vb) : Sem Value).run P w = .ok z w ∧ VR w O B r z := by
  unfold pickM at h
  split at h
  · rename_i t
    cases hc.bool_inv
    cases t
    · cases h; exact ⟨vb, by simp [asBool], hb⟩
    · cases h; exact ⟨va, by simp [asBool], ha⟩
  · cases h

theorem unM_run {op : UnOp} {m r : MV} {v : Value} (hm : VR w O B m v) (h : unM op m = some r) : ∃ z, (Op.unary op v).run P w = .ok z w ∧ VR w O B r z := by
  unfold unM at h
  split at h
  · cases h; cases hm.int_inv; exact ⟨_, by simp [Op.unary, Op.intArith], .dat .int⟩
  · cases h; cases hm.int_inv; exact ⟨_, by simp [Op.unary, go_sem], .dat .int⟩
  · cases h; cases hm.bool_inv; exact ⟨_, by simp [Op.unary], .dat .bool⟩
  · cases h

theorem convM_run {k : IntKind} {m r : MV} {v : Value} (s t : TypeId) (ks : IntKind) (hs : P.underlying s = some (.int ks)) (ht : P.underlying t = some (.int k)) (hm : VR w O B m v) (h : convM k m = some r) :
    ∃ z, (convert s t v).run P w = .ok z w ∧ VR w O B r z := by
  unfold convM at h
  split at h
  · cases h
    cases hm.int_inv
    have hi : P.intKind t = k := by simp [Program.intKind, ht]
    have := run_convert_int (P := P) w s t
    exact ⟨.int k _, by simp [convert, run_underlying hs, run_underlying ht, Conv.intToInt], .dat .int⟩
  · cases h

theorem fadM_run {off : Nat} {m r : MV} {v : Value} (t : TypeId) (f : Nat) (fs : Array Field) (fd : Field) (s : Nat) (hu : P.underlying t = some (.struct fs)) (hf : fs[f]? = some fd) (hs : sizeT P fd.type = some s) (h0 : 0 < s)
    (ho : fd.offset = off) (hm : VR w O B m v) (h : fadM off m = some r) : ∃ z, (Instr.fieldAt t v f).run P w = .ok z w ∧ VR w O B r z := by
  have hne : ¬ s = 0 := by omega
  have run : ∀ b o, (Instr.fieldAt t (.pointer (some ⟨b, o, none⟩)) f).run P w = .ok (.pointer (some ⟨b, o + off, none⟩)) w := by
    intro b o
    simp [Instr.fieldAt, run_underlying hu, hf, Instr.sureAddr, fieldPlace, sizeT_run hs, hne, addr_add, ho]
  unfold fadM at h
  split at h
  · cases h
    rename_i k g o
    cases hm with
    | ptr he hg hv =>
      obtain ⟨b, rfl, hb⟩ := hv
      exact ⟨_, run b o, .ptr he hg ⟨b, rfl, hb⟩⟩
  · rename_i ds
    split at h
    · rename_i hl
      cases h
      cases hm with
      | dat hd =>
        cases hd with
        | @ptr cs b o val hb hO hc hd =>
          refine ⟨_, run b o, .dat (.ptr (fun i => val (off + i)) hb hO (fun i hi => ?_) fun i d hid => hd _ d (by simpa using hid))⟩
          have := hc (off + i) (by simp at hi; omega)
          rwa [← Nat.add_assoc] at this
    · cases h
  · cases h

theorem part_run {t : TypeId} {n off : Nat} {ag : Bool} {cs ms : List MV} {vs : List Value} {r : MV} (hs : sizeT P t = some n) (ha : aggT P t = some ag) (hrl : RL w O B cs vs) (hc : cut cs off n = some ms) (h : mkAgg ag ms = some r) :
    ∃ u, (part t vs.toArray off).run P w = .ok u w ∧ VR w O B r u := by
  obtain ⟨hl, rfl, hn⟩ := cut_some hc
  have hr2 := (hrl.drop off).take n
  unfold mkAgg at h
  split at h
  · rename_i hag
    cases h
    subst hag
    refine ⟨.agg ((vs.drop off).take n).toArray, ?_, .agg hr2.1 hr2.2⟩
    have e : vs.toArray.extract off (off + n) = ((vs.drop off).take n).toArray := by
      simp [List.extract_eq_take_drop]
    simp [part, aggT_run ha, sizeT_run hs, e]
  · rename_i hag
    have hag' : ag = false := by simpa using hag
    subst hag'
    split at h
    · rename_i m hms
      cases h
      have hi : cs[off]? = some r := by
        have := congrArg (fun l => l[0]?) hms
        simp [List.getElem?_take] at this
        exact this.2
      obtain ⟨u, hu, hru⟩ := hrl.get hi
      exact ⟨u, by simp [part, aggT_run ha, hu], hru⟩
    · cases h

theorem fldM_run {off n : Nat} {ag : Bool} {m r : MV} {v : Value} (t : TypeId) (f : Nat) (fs : Array Field) (fd : Field) (hu : P.underlying t = some (.struct fs)) (hf : fs[f]? = some fd) (hs : sizeT P fd.type = some n)
    (ha : aggT P fd.type = some ag) (ho : fd.offset = off) (hm : VR w O B m v) (h : fldM off n ag m = some r) : ∃ z, (Instr.field t v f).run P w = .ok z w ∧ VR w O B r z := by
  subst ho
  have go : ∀ (cs : List MV) (vs : List Value), RL w O B cs vs → (cut cs fd.offset n).bind (mkAgg ag) = some r → ∃ z, (Instr.field t (.agg vs.toArray) f).run P w = .ok z w ∧ VR w O B r z := by
    intro cs vs hrl hh
    simp only [Option.bind_eq_some_iff] at hh
    obtain ⟨ms, h1, h2⟩ := hh
    obtain ⟨u, h3, h4⟩ := part_run (P := P) hs ha hrl h1 h2
    exact ⟨u, by simp [Instr.field, run_underlying hu, hf, asAgg, h3], h4⟩
  unfold fldM at h
  split at h
  · cases hm with
    | agg hl hd => exact go _ _ ⟨hl, hd⟩ h
  · cases hm with
    | dat hd =>
      cases hd with
      | agg hl hd => exact go _ _ (RL.dat hl hd) h
  · cases h

theorem idx_inv {m : MV} {n : Nat} {v : Value} (h : idx m = some n) (hv : VR w O B m v) : ∃ k, v = .int k (n : Int) := by
  unfold idx at h
  split at h
  · rename_i k i
    split at h
    · rename_i h0
      cases h
      cases hv.int_inv
      exact ⟨k, by rw [Int.toNat_of_nonneg h0]⟩
    · cases h
  · cases h

theorem RefOK.at_ {e : Bk} {g sz off len : Nat} {v : Value} (h : RefOK e g sz off len v) (h0 : 0 < len) : ∃ b cap, v = .slice (some ⟨b, off, none⟩) len cap ∧ len ≤ cap ∧ cap ≤ maxLen ∧ (g = e.g → e.blk = some b ∧ off + cap * sz ≤ e.size) := by
  obtain ⟨a, cap, rfl, h2, h3, h4⟩ := h
  rcases h4 with h4 | ⟨b, rfl, h5⟩
  · omega
  · exact ⟨b, cap, rfl, h2, h3, h5⟩

theorem flatten_get {es : List (List Data)} {sz : Nat} (hsz : ∀ e ∈ es, e.length = sz) : ∀ (n i : Nat) (e : List Data), es[n]? = some e → i < sz → es.flatten[n * sz + i]? = e[i]? := by
  induction es with
  | nil => intro n i e h; simp at h
  | cons a r ih =>
    intro n i e h hi
    have ha := hsz a (by simp)
    cases n with
    | zero =>
      simp at h
      subst h
      rw [List.flatten_cons, List.getElem?_append_left (by omega)]
      simp
    | succ n =>
      rw [List.flatten_cons, List.getElem?_append_right (by rw [ha, Nat.succ_mul]; omega)]
      have := ih (fun x hx => hsz x (by simp [hx])) n i e (by simpa using h) hi
      rw [← this, ha]
      congr 1
      rw [Nat.succ_mul]
      omega

theorem iadM_run {sz n : Nat} {m r : MV} {v : Value} {k : IntKind} (t e : TypeId) (hu : P.underlying t = some (.slice e)) (hs : sizeT P e = some sz) (hm : VR w O B m v) (h : iadM sz n m = some r) :
    ∃ z, (Instr.indexAt t v (.int k (n : Int))).run P w = .ok z w ∧ VR w O B r z := by
  have run : ∀ b off len cap, n < len → (Instr.indexAt t (.slice (some ⟨b, off, none⟩) len cap) (.int k (n : Int))).run P w = .ok (.pointer (some ⟨b, off + n * sz, none⟩)) w := by
    intro b off len cap hlt
    simp [Instr.indexAt, run_underlying hu, asIntOf, hlt, sizeT_run hs, addr_add]
  unfold iadM at h
  split at h
  · split at h
    · rename_i hl
      obtain ⟨hlt, rfl⟩ := hl
      cases h
      cases hm with
      | ref he hg hv =>
        obtain ⟨b, cap, rfl, h1, h2, h3⟩ := hv.at_ (by omega)
        exact ⟨_, run _ _ _ _ hlt, .ptr he hg ⟨b, rfl, fun h => (h3 h).1⟩⟩
    · cases h
  · rename_i es
    split at h
    · rename_i el hel
      split at h
      · rename_i hle
        cases h
        cases hm with
        | dat hd =>
          have hlt : n < es.length := (List.getElem?_eq_some_iff.1 hel).1
          cases hd with
          | sl0 => simp at hlt
          | @sl es b off c sz' val hl hmm hb hO hsz hc hd =>
            have hszz : sz' = sz := by rw [← hle]; exact (hsz _ (List.mem_of_getElem? hel)).symm
            subst hszz
            have hmul : n * sz' + sz' ≤ es.length * sz' := by
              have : (n + 1) * sz' ≤ es.length * sz' := Nat.mul_le_mul_right _ hlt
              rwa [Nat.add_mul, Nat.one_mul] at this
            refine ⟨_, run _ _ _ _ hlt, .dat (.ptr (fun i => val (n * sz' + i)) hb hO (fun i hi => ?_) fun i d hid => ?_)⟩
            · have := hc (n * sz' + i) (by omega)
              rwa [← Nat.add_assoc] at this
            · refine hd _ d ?_
              rw [flatten_get hsz n i el hel (by have := (List.getElem?_eq_some_iff.1 hid).1; omega)]
              exact hid
      · cases h
    · cases h
  · cases h

theorem iadaM_run {len sz n : Nat} {m r : MV} {v : Value} {k : IntKind} (t e : TypeId) (hu : P.underlying t = some (.array len e)) (hs : sizeT P e = some sz) (hm : VR w O B m v) (h : iadaM len sz n m = some r) :
    ∃ z, (Instr.indexAt t v (.int k (n : Int))).run P w = .ok z w ∧ VR w O B r z := by
  have run : ∀ b off, n < len → (Instr.indexAt t (.pointer (some ⟨b, off, none⟩)) (.int k (n : Int))).run P w = .ok (.pointer (some ⟨b, off + n * sz, none⟩)) w := by
    intro b off hlt
    simp [Instr.indexAt, run_underlying hu, asIntOf, Instr.sureAddr, hlt, sizeT_run hs, addr_add]
  unfold iadaM at h
  split at h
  · split at h
    · rename_i hlt
      cases h
      cases hm with
      | ptr he hg hv =>
        obtain ⟨b, rfl, hb⟩ := hv
        exact ⟨_, run _ _ hlt, .ptr he hg ⟨b, rfl, hb⟩⟩
    · cases h
  · rename_i ds
    split at h
    · rename_i hl
      obtain ⟨hlt, hle⟩ := hl
      cases h
      cases hm with
      | dat hd =>
        cases hd with
        | @ptr cs b o val hb hO hc hd =>
          refine ⟨_, run _ _ hlt, .dat (.ptr (fun i => val (n * sz + i)) hb hO (fun i hi => ?_) fun i d hid => hd _ d (by simpa using hid))⟩
          have := hc (n * sz + i) (by simp at hi; omega)
          rwa [← Nat.add_assoc] at this
    · cases h
  · cases h

theorem idxsM_run {n : Nat} {m r : MV} {v : Value} {k : IntKind} (t : TypeId) (hu : P.underlying t = some .string) (hm : VR w O B m v) (h : idxsM n m = some r) :
    ∃ z, (Instr.index t v (.int k (n : Int))).run P w = .ok z w ∧ VR w O B r z := by
  unfold idxsM at h
  split at h
  · rename_i s
    simp only [Option.map_eq_some_iff] at h
    obtain ⟨b, hb, rfl⟩ := h
    cases hm.str_inv
    have hlt : n < s.length := (List.getElem?_eq_some_iff.1 hb).1
    have e : (ByteArray.mk s.toArray)[n]? = some b := by
      rw [ByteArray.getElem?_lt' _ _ (by simpa [ByteArray.size] using hlt)]
      have := (List.getElem?_eq_some_iff.1 hb).2
      simp only [Option.some.injEq]
      rw [← this]
      rfl
    exact ⟨.int .u8 b.toNat, by simp [Instr.index, run_underlying hu, asIntOf, e], .dat .int⟩
  · cases h

theorem extM_run {i : Nat} {m r : MV} {v : Value} (hm : VR w O B m v) (h : extM i m = some r) : ∃ z, (Instr.extract v i).run P w = .ok z w ∧ VR w O B r z := by
  unfold extM at h
  split at h
  · cases hm with
    | tup hl hd =>
      obtain ⟨u, hu, hr⟩ := RL.get ⟨hl, hd⟩ h
      exact ⟨u, by simp [Instr.extract, hu], hr⟩
  · simp only [Option.map_eq_some_iff] at h
    obtain ⟨d, hd', rfl⟩ := h
    cases hm with
    | dat hd =>
      cases hd with
      | tup hl hd =>
        obtain ⟨u, hu, hr⟩ := RL.get (RL.dat hl hd) (i := i) (m := .dat d) (by simp [hd'])
        exact ⟨u, by simp [Instr.extract, hu], hr⟩
  · cases h

theorem lenM_run {m : MV} {n : Nat} {v : Value} (t ty e : TypeId) (ht : P.underlying t = some (.slice e)) (hm : VR w O B m v) (h : lenM m = some n) :
    (Builtin.len_ #[t] ty #[v]).run P w = .ok (.int .i64 n) w := by
  have run : ∀ a c, (Builtin.len_ #[t] ty #[.slice a n c]).run P w = .ok (.int .i64 n) w := fun a c => by
    simp [Builtin.len_, run_underlying ht, goInt]
  unfold lenM at h
  split at h <;> cases h
  · cases hm with
    | dat hd =>
      cases hd with
      | sl0 => exact run _ _
      | sl => exact run _ _
  · cases hm with
    | nil => exact run _ _
  · cases hm with
    | ref he hg hv => obtain ⟨a, cap, rfl, _⟩ := hv; exact run _ _

theorem lensM_run {m : MV} {n : Nat} {v : Value} (t ty : TypeId) (ht : P.underlying t = some .string) (hm : VR w O B m v) (h : lensM m = some n) :
    (Builtin.len_ #[t] ty #[v]).run P w = .ok (.int .i64 n) w := by
  unfold lensM at h
  split at h <;> cases h
  rename_i s
  cases hm.str_inv
  have e : (ByteArray.mk s.toArray).size = s.length := by simp [ByteArray.size]
  simp [Builtin.len_, run_underlying ht, goInt, e]

theorem mmM_run {mx : Bool} {m n r : MV} {u v : Value} (ts : Array TypeId) (t : TypeId) (hm : VR w O B m u) (hn : VR w O B n v) (h : mmM mx m n = some r) :
    ∃ z, (if mx = true then Builtin.max_ ts t #[u, v] else Builtin.min_ ts t #[u, v]).run P w = .ok z w ∧ VR w O B r z := by
  unfold mmM at h
  split at h
  · split at h
    · rename_i hk
      subst hk
      cases h
      cases hm.int_inv
      cases hn.int_inv
      cases mx
      · exact ⟨_, by simp [run_min_int2], .dat .int⟩
      · exact ⟨_, by simp [run_max_int2], .dat .int⟩
    · cases h
  · cases h

theorem nchkM_run {m r : MV} {v : Value} (hm : VR w O B m v) (h : nchkM m = some r) : (∃ b off, v = .pointer (some ⟨b, off, none⟩)) ∧ VR w O B r v := by
  unfold nchkM at h
  split at h
  · cases h
    refine ⟨?_, hm⟩
    cases hm with
    | ptr he hg hv => obtain ⟨b, rfl, _⟩ := hv; exact ⟨_, _, rfl⟩
  · cases h
    refine ⟨?_, hm⟩
    cases hm with
    | dat hd => cases hd; exact ⟨_, _, rfl⟩
  · cases h

/-! ### slices of slices -/
theorem bound_run {x : MV} {n y : Nat} {v : Value} (code : BoundsCode) (hx : idx x = some n) (hv : VR w O B x v) (hn : n ≤ y) : (Instr.sliceBound v y code).run P w = .ok n w := by
  obtain ⟨k, rfl⟩ := idx_inv hx hv
  simpa using run_sliceBound (P := P) w k (n : Int) y code (by omega) (by omega)

/-- A value that may lack. -/
def OR (w : World) (O : Nat → Prop) (B : Lay) : Option MV → Option Value → Prop
  | none, none => True
  | some m, some v => VR w O B m v
  | _, _ => False

/-- The bounds of a slice expression, as the model reckons them. -/
theorem bounds_run {len cap l h : Nat} {lo hi : Option MV} {vlo vhi : Option Value} (isS : Bool) (hlo : idxO 0 lo = some l) (hhi : idxO len hi = some h)
    (rlo : OR w O B lo vlo) (rhi : OR w O B hi vhi) (hl : l ≤ h) (hh : h ≤ cap) : (Instr.sliceBounds isS len cap vlo vhi none).run P w = .ok (l, h, cap) w := by
  unfold Instr.sliceBounds
  cases lo with
  | none =>
    cases vlo with
    | some v => exact rlo.elim
    | none =>
      simp [idxO] at hlo
      subst hlo
      cases hi with
      | none =>
        cases vhi with
        | some v => exact rhi.elim
        | none => simp [idxO] at hhi; subst hhi; simp
      | some m =>
        cases vhi with
        | none => exact rhi.elim
        | some v =>
          have e2 := fun code => bound_run (P := P) (y := cap) code hhi rhi hh
          cases isS <;> simp [e2]
  | some ml =>
    cases vlo with
    | none => exact rlo.elim
    | some vl =>
      have e1 := fun code => bound_run (P := P) (y := h) code hlo rlo hl
      cases hi with
      | none =>
        cases vhi with
        | some v => exact rhi.elim
        | none => simp [idxO] at hhi; subst hhi; simp [e1]
      | some m =>
        cases vhi with
        | none => exact rhi.elim
        | some v =>
          have e2 := fun code => bound_run (P := P) (y := cap) code hhi rhi hh
          cases isS <;> simp [e1, e2]

theorem bounds3_run {len cap l h m : Nat} {lo : Option MV} {hi mx : MV} {vlo : Option Value} {vhi vmx : Value} (hlo : idxO 0 lo = some l) (hhi : idx hi = some h) (hmx : idx mx = some m)
    (rlo : OR w O B lo vlo) (rhi : VR w O B hi vhi) (rmx : VR w O B mx vmx) (hl : l ≤ h) (hh : h ≤ m) (hm : m ≤ cap) : (Instr.sliceBounds true len cap vlo (some vhi) (some vmx)).run P w = .ok (l, h, m) w := by
  have e0 := bound_run (P := P) (y := cap) .slice3Acap hmx rmx hm
  have e2 := bound_run (P := P) (y := m) .slice3B hhi rhi hh
  unfold Instr.sliceBounds
  cases lo with
  | none =>
    cases vlo with
    | some v => exact rlo.elim
    | none =>
      simp [idxO] at hlo
      subst hlo
      simp [e0, e2]
  | some ml =>
    cases vlo with
    | none => exact rlo.elim
    | some vl =>
      have e1 := bound_run (P := P) (y := h) .slice3C hlo rlo hl
      simp [e0, e2, e1]

/-- A slice's own form. -/
theorem slice_form {m : MV} {n : Nat} {v : Value} (hm : VR w O B m v) (h : lenM m = some n) : ∃ a c, v = .slice a n c ∧ n ≤ c := by
  unfold lenM at h
  split at h <;> cases h
  · cases hm with
    | dat hd =>
      cases hd with
      | sl0 => exact ⟨_, _, rfl, by simp⟩
      | sl val hl => exact ⟨_, _, rfl, hl⟩
  · cases hm with
    | nil => exact ⟨_, _, rfl, by simp⟩
  · cases hm with
    | ref he hg hv => obtain ⟨a, cap, rfl, h1, _⟩ := hv; exact ⟨_, _, rfl, h1⟩

theorem slice_run {t e : TypeId} {sz l h mm : Nat} {a : Option Addr} {len cap : Nat} {vlo vhi vmx : Option Value} (ht : P.underlying t = some (.slice e)) (hs : sizeT P e = some sz)
    (hb : (Instr.sliceBounds true len cap vlo vhi vmx).run P w = .ok (l, h, mm) w) :
    (Instr.sliceAt t (.slice a len cap) vlo vhi vmx).run P w = .ok (.slice (if mm = l then a else a.map (·.add (l * sz))) (h - l) (mm - l)) w := by
  simp [Instr.sliceAt, Instr.slice, run_underlying ht, hb, sizeT_run hs]

theorem flatten_drop {es : List (List Data)} {sz : Nat} (hsz : ∀ e ∈ es, e.length = sz) (l : Nat) : (es.drop l).flatten = es.flatten.drop (l * sz) := by
  induction es generalizing l with
  | nil => simp
  | cons a r ih =>
    cases l with
    | zero => simp
    | succ l =>
      have ha := hsz a (by simp)
      rw [List.drop_succ_cons, ih (fun x hx => hsz x (by simp [hx])) l, List.flatten_cons, List.drop_append, ha]
      have h1 : a.drop ((l + 1) * sz) = [] := List.drop_eq_nil_of_le (by rw [ha, Nat.succ_mul]; omega)
      rw [h1, List.nil_append]
      congr 1
      rw [Nat.succ_mul]
      omega

theorem flatten_take {es : List (List Data)} {sz : Nat} (hsz : ∀ e ∈ es, e.length = sz) (l : Nat) : (es.take l).flatten = es.flatten.take (l * sz) := by
  induction es generalizing l with
  | nil => simp
  | cons a r ih =>
    cases l with
    | zero => simp
    | succ l =>
      have ha := hsz a (by simp)
      rw [List.take_succ_cons, List.flatten_cons, ih (fun x hx => hsz x (by simp [hx])) l, List.flatten_cons, List.take_append, ha]
      have h1 : a.take ((l + 1) * sz) = a := List.take_of_length_le (by rw [ha, Nat.succ_mul]; omega)
      rw [h1]
      congr 2
      rw [Nat.succ_mul]
      omega

/-- A part of a slice that is data. -/
theorem den_part {es : List (List Data)} {a : Option Addr} {len c sz l h cc : Nat} (hd : Den w O (.sl es) (.slice a len c)) (hl : l ≤ h) (hh : h ≤ es.length) (hsz : 0 < es.length → ∀ e ∈ es, e.length = sz) (hc : h - l ≤ cc) :
    l = h ∨ Den w O (.sl ((es.take h).drop l)) (.slice (a.map (·.add (l * sz))) (h - l) cc) := by
  rcases Nat.eq_or_lt_of_le hl with rfl | hlt
  · exact .inl rfl
  · refine .inr ?_
    cases hd with
    | sl0 => simp at hh; omega
    | @sl es b off c sz' val hl' hm hb hO hsz' hcell hdd =>
      have hpos : 0 < es.length := by omega
      have hszz : sz' = sz := by
        have h0 := List.getElem_mem (l := es) (n := 0) hpos
        rw [← hsz' _ h0, hsz hpos _ h0]
      subst hszz
      have hlen : ((es.take h).drop l).length = h - l := by simp; omega
      have hmul : l * sz' + (h - l) * sz' ≤ es.length * sz' := by
        rw [← Nat.add_mul]
        exact Nat.mul_le_mul_right _ (by omega)
      have := Den.sl (w := w) (O := O) (es := (es.take h).drop l) (b := b) (off := off + l * sz') (c := cc) (sz := sz') (fun i => val (l * sz' + i)) (by rw [hlen]; exact hc) (by rw [hlen]; omega) hb hO
        (fun e he => hsz' e (List.mem_of_mem_take (List.mem_of_mem_drop he)))
        (fun i hi => by
          rw [hlen] at hi
          have := hcell (l * sz' + i) (by omega)
          rwa [← Nat.add_assoc] at this)
        (fun i d hid => by
          refine hdd _ d ?_
          rw [flatten_drop (fun e he => hsz' e (List.mem_of_mem_take he)) l, flatten_take hsz' h] at hid
          rw [List.getElem?_drop, List.getElem?_take] at hid
          split at hid
          · exact hid
          · cases hid)
      rw [hlen] at this
      simpa [addr_add] using this
end
end Go.Mini
