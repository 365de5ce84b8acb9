/- Two operations that may change places. -/
import Derived.Test.YtehjaghpfnncoaaMiniD4
set_option linter.unusedSimpArgs false
set_option linter.unusedVariables false
namespace Go.Mini
open Go
variable {T : Tab} {conf : Nat → Nat → Bool}

/-- One operation of an open region, carried out. -/
def Exec (T : Tab) (conf : Nat → Nat → Bool) (i : Nat) (x : MI) (rec : Rec) (st : St) (rec' : Rec) (st' : St) : Prop :=
  (guardB st.tm x.g = some false ∧ rec' = rec ∧ st' = ⟨put st.tm x.dst .no, st.mem⟩) ∨
  (guardB st.tm x.g = some true ∧ ∃ m e, sopD T st.mem st.tm x.op = some (m, e) ∧ (∀ p q, conf p i = true → rec p = some q → apartK q (wrs x.op, foot st.tm x.op) = true) ∧
    rec' = updR rec i (wrs x.op, foot st.tm x.op) ∧ st' = ⟨put st.tm x.dst m, updO st.mem e⟩)

theorem put_ne {tm : Nat → MV} {dst : Option Nat} {m : MV} {s : Nat} (h : dst ≠ some s) : put tm dst m s = tm s := by
  cases dst with
  | none => rfl
  | some d =>
    have : s ≠ d := fun e => h (by rw [e])
    simp [put, this]

theorem put_comm {tm : Nat → MV} {d d' : Option Nat} {m m' : MV} (h : ∀ s, d = some s → d' ≠ some s) : put (put tm d m) d' m' = put (put tm d' m') d m := by
  funext s
  by_cases h1 : d = some s
  · rw [put_ne (h s h1)]
    subst h1
    simp [put]
  · rw [put_ne (dst := d) h1]
    by_cases h2 : d' = some s
    · subst h2
      simp [put]
    · rw [put_ne h2, put_ne h2, put_ne h1]

theorem guardB_congr {tm tm' : Nat → MV} {g : Option (Nat × Bool)} (h : ∀ s b, g = some (s, b) → tm s = tm' s) : guardB tm g = guardB tm' g := by
  cases g with
  | none => rfl
  | some p =>
    obtain ⟨s, b⟩ := p
    simp only [guardB, h s b rfl]

theorem apartM_spec {x y : MI} (h : apartM x y = true) : (∀ d, x.dst = some d → d ∉ looks y) ∧ (∀ d, x.dst = some d → y.dst ≠ some d) ∧ (∀ d, y.dst = some d → d ∉ looks x) := by
  refine ⟨fun d hd => ?_, fun d hd => ?_, fun d hd => ?_⟩ <;> simp [apartM, hd] at h
  · exact h.1.1
  · exact h.1.2
  · exact h.2

theorem looks_op {x : MI} {s : Nat} (h : s ∈ opds x.op) : s ∈ looks x := by simp [looks, h]
theorem looks_g {x : MI} {s : Nat} {b : Bool} (h : x.g = some (s, b)) : s ∈ looks x := by simp [looks, h]

theorem apartK_disj {a b : Bool × List Key} (h : apartK a b = true) (hw : a.1 = true ∨ b.1 = true) {k : Key} (hk : k ∈ a.2) : k ∉ b.2 := by
  unfold apartK at h
  simp only [Bool.or_eq_true, Bool.not_eq_true', List.all_eq_true] at h
  rcases h with h | h
  · rcases hw with hw | hw <;> simp [hw] at h
  · intro hb
    have := h k hk
    simp [hb] at this

theorem apartK_symm {a b : Bool × List Key} (h : apartK a b = true) : apartK b a = true := by
  by_cases hw : a.1 = true ∨ b.1 = true
  · unfold apartK
    simp only [Bool.or_eq_true, List.all_eq_true]
    refine .inr fun k hk => ?_
    have : k ∉ a.2 := fun ha => apartK_disj h hw ha hk
    simp [this]
  · have h1 : a.1 = false := by cases h : a.1 <;> simp_all
    have h2 : b.1 = false := by cases h : b.1 <;> simp_all
    simp [apartK, h1, h2]

theorem updO_at {mem : Mem} {e : Option (Key × Nat × List MV)} {k : Key} (h : ∀ j g cs, e = some (j, g, cs) → k ≠ j) : updO mem e k = mem k := by
  cases e with
  | none => rfl
  | some p =>
    obtain ⟨j, g, cs⟩ := p
    simp [updO, updM, h j g cs rfl]

theorem updO_comm {mem : Mem} {e e' : Option (Key × Nat × List MV)} (h : ∀ j g cs j' g' cs', e = some (j, g, cs) → e' = some (j', g', cs') → j ≠ j') : updO (updO mem e) e' = updO (updO mem e') e := by
  cases e with
  | none => rfl
  | some p =>
    cases e' with
    | none => rfl
    | some p' =>
      obtain ⟨j, g, cs⟩ := p
      obtain ⟨j', g', cs'⟩ := p'
      have hne := h _ _ _ _ _ _ rfl rfl
      funext k
      simp only [updO, updM]
      by_cases h1 : k = j'
      · by_cases h2 : k = j
        · exact absurd (h2.symm.trans h1) hne
        · simp [h1, h2]
          intro h3
          exact absurd h3.symm hne
      · simp [h1]

/-- What two operations, of which neither waits for the other, may do to each other. -/
def Passes (conf : Nat → Nat → Bool) (i j : Nat) (x y : MI) : Prop := conf i j = true ∨ mayPass (classOf x.op) (classOf y.op) = true

theorem pass_apart {i j : Nat} {x y : MI} {tm : Nat → MV} (h : Passes conf i j x y) (hc : conf i j = true → apartK (wrs x.op, foot tm x.op) (wrs y.op, foot tm y.op) = true) :
    (wrs x.op = true → ∀ k ∈ foot tm x.op, k ∉ foot tm y.op) ∧ (wrs y.op = true → ∀ k ∈ foot tm y.op, k ∉ foot tm x.op) := by
  rcases h with h | h
  · have := hc h
    exact ⟨fun hw k hk => apartK_disj this (.inl hw) hk, fun hw k hk => apartK_disj (apartK_symm this) (.inl hw) hk⟩
  · unfold mayPass at h
    simp only [Bool.or_eq_true, Bool.and_eq_true, beq_iff_eq] at h
    rcases h with (h | h) | ⟨h1, h2⟩
    · obtain ⟨h1, h2⟩ := class0 (tm := tm) h
      exact ⟨fun hw => (by rw [h2] at hw; cases hw), fun _ k _ => by rw [h1]; simp⟩
    · obtain ⟨h1, h2⟩ := class0 (tm := tm) h
      exact ⟨fun _ k _ => (by rw [h1]; simp), fun hw => by rw [h2] at hw; cases hw⟩
    · have h1 := class1 h1
      have h2 := class1 h2
      exact ⟨fun hw => (by rw [h1] at hw; cases hw), fun hw => by rw [h2] at hw; cases hw⟩

theorem Exec.comm {i j : Nat} {x y : MI} {rec rec1 rec2 : Rec} {st st1 st2 : St} (hij : i ≠ j) (hap : apartM x y = true) (hp : Passes conf i j x y) (hsym : ∀ a b, conf a b = conf b a) (hri : rec i = none)
    (h1 : Exec T conf i x rec st rec1 st1) (h2 : Exec T conf j y rec1 st1 rec2 st2) : ∃ recj stj, Exec T conf j y rec st recj stj ∧ Exec T conf i x recj stj rec2 st2 := by
  obtain ⟨ha, hb, hc⟩ := apartM_spec hap
  -- what one sees of the other's temporary: nothing
  have yg : ∀ m, guardB (put st.tm x.dst m) y.g = guardB st.tm y.g := fun m => guardB_congr fun s b hs => put_ne fun hd => ha s hd (looks_g hs)
  have yo : ∀ mem m, sopD T mem (put st.tm x.dst m) y.op = sopD T mem st.tm y.op := fun mem m => sopD_tm fun s hs => put_ne fun hd => ha s hd (looks_op hs)
  have yf : ∀ m, foot (put st.tm x.dst m) y.op = foot st.tm y.op := fun m => foot_tm fun s hs => put_ne fun hd => ha s hd (looks_op hs)
  have xg : ∀ m, guardB (put st.tm y.dst m) x.g = guardB st.tm x.g := fun m => guardB_congr fun s b hs => put_ne fun hd => hc s hd (looks_g hs)
  have xo : ∀ mem m, sopD T mem (put st.tm y.dst m) x.op = sopD T mem st.tm x.op := fun mem m => sopD_tm fun s hs => put_ne fun hd => hc s hd (looks_op hs)
  have xf : ∀ m, foot (put st.tm y.dst m) x.op = foot st.tm x.op := fun m => foot_tm fun s hs => put_ne fun hd => hc s hd (looks_op hs)
  have pc : ∀ m m', put (put st.tm x.dst m) y.dst m' = put (put st.tm y.dst m') x.dst m := fun m m' => put_comm hb
  rcases h1 with ⟨g1, rfl, rfl⟩ | ⟨g1, m1, e1, s1, c1, rfl, rfl⟩ <;> rcases h2 with ⟨g2, rfl, rfl⟩ | ⟨g2, m2, e2, s2, c2, rfl, rfl⟩ <;> simp only [yg, yo, yf] at *
  · exact ⟨_, _, .inl ⟨g2, rfl, rfl⟩, .inl ⟨by simp only [xg]; exact g1, rfl, by simp only [pc]⟩⟩
  · exact ⟨_, _, .inr ⟨g2, m2, e2, s2, c2, rfl, rfl⟩, .inl ⟨by simp only [xg]; exact g1, rfl, by simp only [pc]⟩⟩
  · exact ⟨_, _, .inl ⟨g2, rfl, rfl⟩, .inr ⟨by simp only [xg]; exact g1, m1, e1, by simp only [xo]; exact s1, by simp only [xf]; exact c1, by simp only [xf], by simp only [pc]⟩⟩
  · have hck : conf i j = true → apartK (wrs x.op, foot st.tm x.op) (wrs y.op, foot st.tm y.op) = true := fun h => c2 i _ h (by simp [updR])
    obtain ⟨d1, d2⟩ := pass_apart (tm := st.tm) hp hck
    have t1 : ∀ k g cs, e1 = some (k, g, cs) → k ∈ foot st.tm x.op ∧ k ∉ foot st.tm y.op := fun k g cs he => by
      rcases sopD_wrs s1 with h | ⟨hw, k', g', cs', h, hk⟩
      · rw [h] at he; cases he
      · rw [h] at he; cases he; exact ⟨hk, d1 hw k hk⟩
    have sy : sopD T st.mem st.tm y.op = some (m2, e2) := by
      rw [← s2]
      exact sopD_mem fun k hk => (updO_at fun j g cs he hkj => (t1 j g cs he).2 (hkj ▸ hk)).symm
    have t2 : ∀ k g cs, e2 = some (k, g, cs) → k ∈ foot st.tm y.op ∧ k ∉ foot st.tm x.op := fun k g cs he => by
      rcases sopD_wrs sy with h | ⟨hw, k', g', cs', h, hk⟩
      · rw [h] at he; cases he
      · rw [h] at he; cases he; exact ⟨hk, d2 hw k hk⟩
    refine ⟨_, _, .inr ⟨g2, m2, e2, sy, fun p q hpj hq => ?_, rfl, rfl⟩, .inr ⟨by simp only [xg]; exact g1, m1, e1, ?_, ?_, ?_, ?_⟩⟩
    · have hne : p ≠ i := fun h => by rw [h, hri] at hq; cases hq
      exact c2 p q hpj (by simp [updR, hne, hq])
    · simp only [xo]
      rw [← s1]
      exact sopD_mem fun k hk => updO_at fun j g cs he hkj => (t2 j g cs he).2 (hkj ▸ hk)
    · simp only [xf]
      intro p q hpi hq
      by_cases hpj : p = j
      · subst hpj
        simp only [updR, if_true, Option.some.injEq] at hq
        subst hq
        exact apartK_symm (hck (by rw [hsym]; exact hpi))
      · simp only [updR, hpj, if_false] at hq
        exact c1 p q hpi hq
    · simp only [xf]
      funext p
      simp only [updR]
      by_cases h1 : p = i
      · subst h1; simp [hij]
      · simp [h1]
    · simp only [pc]
      rw [updO_comm fun j g cs j' g' cs' h h' hjj => (t1 j g cs h).2 (hjj ▸ (t2 j' g' cs' h').1)]

end Go.Mini
