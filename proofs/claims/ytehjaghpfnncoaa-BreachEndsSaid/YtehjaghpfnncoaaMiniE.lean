/- Evaluation rules of the small semantics, for simp: each by unfolding. -/
import Derived.Test.YtehjaghpfnncoaaMiniT
import Derived.Attr
set_option linter.unusedSimpArgs false
set_option linter.unusedVariables false
namespace Go.Mini
open Go

/-- What is left to do behind a piece of code. -/
inductive Todo where
  | code (c : MCode)
  | inBlock (id : Nat)

def kont (T : Tab) (K : MExit → St → Prop) : List Todo → MExit → St → Prop
  | [], e, st => K e st
  | .code c :: k, .normal, st => wp T c (kont T K k) st
  | .code _ :: k, .exit id, st => kont T K k (.exit id) st
  | .code _ :: k, .ret, st => kont T K k .ret st
  | .inBlock _ :: k, .normal, st => kont T K k .normal st
  | .inBlock j :: k, .exit id, st => if id = j then kont T K k .normal st else kont T K k (.exit id) st
  | .inBlock _ :: k, .ret, st => kont T K k .ret st

section
variable {T : Tab} {K : MExit → St → Prop} {k : List Todo} {st : St}

theorem kont_fun_code (c : MCode) : (fun e st' => match e with
    | .normal => wp T c (kont T K k) st'
    | e => kont T K k e st') = kont T K (.code c :: k) := by
  funext e st'
  cases e <;> rfl
theorem kont_fun_block (id : Nat) : (fun e st' => match e with
    | .exit j => if j = id then kont T K k .normal st' else kont T K k (.exit j) st'
    | e => kont T K k e st') = kont T K (.inBlock id :: k) := by
  funext e st'
  cases e <;> rfl

@[go_sem] theorem kont_nil (e : MExit) : kont T K [] e st = K e st := by cases e <;> rfl
@[go_sem] theorem kont_code (c : MCode) : kont T K (.code c :: k) .normal st = wp T c (kont T K k) st := _root_.id rfl
@[go_sem] theorem kont_code_exit (c : MCode) (id : Nat) : kont T K (.code c :: k) (.exit id) st = kont T K k (.exit id) st := _root_.id rfl
@[go_sem] theorem kont_code_ret (c : MCode) : kont T K (.code c :: k) .ret st = kont T K k .ret st := _root_.id rfl
@[go_sem] theorem kont_block (id : Nat) : kont T K (.inBlock id :: k) .normal st = kont T K k .normal st := _root_.id rfl
@[go_sem] theorem kont_block_exit (id j : Nat) : kont T K (.inBlock j :: k) (.exit id) st = if id = j then kont T K k .normal st else kont T K k (.exit id) st := _root_.id rfl
@[go_sem] theorem kont_block_ret (id : Nat) : kont T K (.inBlock id :: k) .ret st = kont T K k .ret st := _root_.id rfl

theorem wp_start {c : MCode} (h : wp T c (kont T K []) st) : wp T c K st := by
  have : kont T K [] = K := by funext e st; cases e <;> rfl
  rwa [this] at h

@[go_sem] theorem wp_seq (a b : MCode) : wp T (.seq a b) (kont T K k) st = wp T a (kont T K (.code b :: k)) st := by
  rw [← kont_fun_code]; rfl
@[go_sem] theorem wp_skip : wp T .skip (kont T K k) st = kont T K k .normal st := _root_.id rfl
@[go_sem] theorem wp_ret : wp T .ret (kont T K k) st = kont T K k .ret st := _root_.id rfl
@[go_sem] theorem wp_exit (id : Nat) : wp T (.exit id) (kont T K k) st = kont T K k (.exit id) st := _root_.id rfl
@[go_sem] theorem wp_block (id : Nat) (c : MCode) : wp T (.block id c) (kont T K k) st = wp T c (kont T K (.inBlock id :: k)) st := by
  rw [← kont_fun_block]; rfl

/-- A branch. -/
def wpB (T : Tab) (K : MExit → St → Prop) (k : List Todo) (m : MV) (a b : MCode) (st : St) : Prop :=
  match m with
  | .dat (.bool t) => if t = true then wp T a (kont T K k) st else wp T b (kont T K k) st
  | _ => False
@[go_sem] theorem wp_cond (c : Opd) (a b : MCode) : wp T (.cond c a b) (kont T K k) st = wpB T K k (ev st.tm c) a b st := _root_.id rfl
@[go_sem] theorem wpB_true (a b : MCode) : wpB T K k (.dat (.bool true)) a b st = wp T a (kont T K k) st := _root_.id rfl
@[go_sem] theorem wpB_false (a b : MCode) : wpB T K k (.dat (.bool false)) a b st = wp T b (kont T K k) st := _root_.id rfl
theorem wpB_intro {t : Bool} {a b : MCode} (h1 : t = true → wp T a (kont T K k) st) (h2 : t = false → wp T b (kont T K k) st) : wpB T K k (.dat (.bool t)) a b st := by
  cases t
  · exact h2 rfl
  · exact h1 rfl

/-- A region. -/
def wpO (T : Tab) (K : MExit → St → Prop) (k : List Todo) (l : List MI) (st : St) : Prop := wpr T (kont T K k .normal) l st
@[go_sem] theorem wp_ops (l : List MI) : wp T (.ops l) (kont T K k) st = wpO T K k l st := _root_.id rfl
@[go_sem] theorem wpO_nil : wpO T K k [] st = kont T K k .normal st := _root_.id rfl
def wpG (T : Tab) (K : MExit → St → Prop) (k : List Todo) (g : Option Bool) (i : MI) (r : List MI) (st : St) : Prop :=
  match g with
  | none => False
  | some g => if g = true then stepK T (wpr T (kont T K k .normal) r) i st else wpO T K k r ⟨put st.tm i.dst .no, st.mem⟩
@[go_sem] theorem wpO_cons (i : MI) (r : List MI) : wpO T K k (i :: r) st = wpG T K k (guardB st.tm i.g) i r st := _root_.id rfl
@[go_sem] theorem wpG_true (i : MI) (r : List MI) : wpG T K k (some true) i r st = stepK T (wpO T K k r) i st := _root_.id rfl
@[go_sem] theorem wpG_false (i : MI) (r : List MI) : wpG T K k (some false) i r st = wpO T K k r ⟨put st.tm i.dst .no, st.mem⟩ := _root_.id rfl
theorem wpG_intro {t : Bool} {i : MI} {r : List MI} (h1 : t = true → stepK T (wpO T K k r) i st) (h2 : t = false → wpO T K k r ⟨put st.tm i.dst .no, st.mem⟩) : wpG T K k (some t) i r st := by
  cases t
  · exact h2 rfl
  · exact h1 rfl

/-- A region that leaves its order open. -/
def wpOD (T : Tab) (K : MExit → St → Prop) (k : List Todo) (n : Nat) (l : List MI) (c : List (List Nat)) (rec : Rec) (st : St) : Prop := wprD T (kont T K k .normal) n l c rec st
@[go_sem] theorem wp_opsD (l : List MI) (c : List (List Nat)) : wp T (.opsD l c) (kont T K k) st = wpOD T K k 0 l c (fun _ => none) st := _root_.id rfl
@[go_sem] theorem wpOD_nil (n : Nat) (c : List (List Nat)) (rec : Rec) : wpOD T K k n [] c rec st = kont T K k .normal st := _root_.id rfl
def wpGD (T : Tab) (K : MExit → St → Prop) (k : List Todo) (n : Nat) (g : Option Bool) (i : MI) (r : List MI) (c : List (List Nat)) (rec : Rec) (st : St) : Prop :=
  match g with
  | none => False
  | some g => if g = true then (match sopD T st.mem st.tm i.op with
        | some (m, e) => chkR rec (wrs i.op, foot st.tm i.op) (c.headD []) = true ∧ wpOD T K k (n + 1) r c.tail (updR rec n (wrs i.op, foot st.tm i.op)) ⟨put st.tm i.dst m, updO st.mem e⟩
        | none => False) else wpOD T K k (n + 1) r c.tail rec ⟨put st.tm i.dst .no, st.mem⟩
@[go_sem] theorem wpOD_cons (n : Nat) (i : MI) (r : List MI) (c : List (List Nat)) (rec : Rec) : wpOD T K k n (i :: r) c rec st = wpGD T K k n (guardB st.tm i.g) i r c rec st := _root_.id rfl
def wpSD (T : Tab) (K : MExit → St → Prop) (k : List Todo) (n : Nat) (x : Option (MV × Option (Key × Nat × List MV))) (i : MI) (r : List MI) (c : List (List Nat)) (rec : Rec) (st : St) : Prop :=
  match x with
  | some (m, e) => chkR rec (wrs i.op, foot st.tm i.op) (c.headD []) = true ∧ wpOD T K k (n + 1) r c.tail (updR rec n (wrs i.op, foot st.tm i.op)) ⟨put st.tm i.dst m, updO st.mem e⟩
  | none => False
@[go_sem] theorem wpGD_true (n : Nat) (i : MI) (r : List MI) (c : List (List Nat)) (rec : Rec) : wpGD T K k n (some true) i r c rec st = wpSD T K k n (sopD T st.mem st.tm i.op) i r c rec st := _root_.id rfl
@[go_sem] theorem wpGD_false (n : Nat) (i : MI) (r : List MI) (c : List (List Nat)) (rec : Rec) : wpGD T K k n (some false) i r c rec st = wpOD T K k (n + 1) r c.tail rec ⟨put st.tm i.dst .no, st.mem⟩ := _root_.id rfl
@[go_sem] theorem wpSD_some (n : Nat) (m : MV) (e : Option (Key × Nat × List MV)) (i : MI) (r : List MI) (c : List (List Nat)) (rec : Rec) : wpSD T K k n (some (m, e)) i r c rec st =
  (chkR rec (wrs i.op, foot st.tm i.op) (c.headD []) = true ∧ wpOD T K k (n + 1) r c.tail (updR rec n (wrs i.op, foot st.tm i.op)) ⟨put st.tm i.dst m, updO st.mem e⟩) := _root_.id rfl
theorem wpGD_intro {t : Bool} {n : Nat} {i : MI} {r : List MI} {c : List (List Nat)} {rec : Rec} (h1 : t = true → wpSD T K k n (sopD T st.mem st.tm i.op) i r c rec st)
    (h2 : t = false → wpOD T K k (n + 1) r c.tail rec ⟨put st.tm i.dst .no, st.mem⟩) : wpGD T K k n (some t) i r c rec st := by
  cases t
  · exact h2 rfl
  · exact h1 rfl
end

section
variable {T : Tab} {K : St → Prop} {st : St} {tm : Nat → MV} {mem : Mem}
/-- One operation's outcome. -/
def wpS (K : St → Prop) (x : Option (MV × Option (Key × Nat × List MV))) (d : Option Nat) (st : St) : Prop :=
  match x with
  | some (m, e) => K ⟨put st.tm d m, updO st.mem e⟩
  | none => False
@[go_sem] theorem wpS_some (m : MV) (e : Option (Key × Nat × List MV)) (d : Option Nat) : wpS K (some (m, e)) d st = K ⟨put st.tm d m, updO st.mem e⟩ := _root_.id rfl

variable (d : Option Nat) (g : Option (Nat × Bool))
@[go_sem] theorem step_mv (x : Opd) : stepK T K ⟨d, g, .mv x⟩ st = K ⟨put st.tm d (ev st.tm x), st.mem⟩ := _root_.id rfl
@[go_sem] theorem step_pick (c a b : Opd) : stepK T K ⟨d, g, .pick c a b⟩ st = wpS K (sop st.mem st.tm (.pick c a b)) d st := _root_.id rfl
@[go_sem] theorem step_alloc (k : Key) (z : List MV) : stepK T K ⟨d, g, .alloc k z⟩ st = K ⟨put st.tm d (.ptr k (nextG st.mem k) 0), updM st.mem k (nextG st.mem k) z⟩ := _root_.id rfl
@[go_sem] theorem step_box (k : Key) (x : Opd) : stepK T K ⟨d, g, .box k x⟩ st = wpS K (sop st.mem st.tm (.box k x)) d st := _root_.id rfl
@[go_sem] theorem step_build (z : List MV) (ps : List (Nat × Nat × Opd)) : stepK T K ⟨d, g, .build z ps⟩ st = wpS K (sop st.mem st.tm (.build z ps)) d st := _root_.id rfl
@[go_sem] theorem step_bsl (k : Key) (o : Bool) (z : List MV) (sz len : Nat) (ps : List (Nat × Nat × Opd)) : stepK T K ⟨d, g, .bsl k o z sz len ps⟩ st = wpS K (sop st.mem st.tm (.bsl k o z sz len ps)) d st := _root_.id rfl
@[go_sem] theorem step_load (n : Nat) (ag : Bool) (x : Opd) : stepK T K ⟨d, g, .load n ag x⟩ st = wpS K (sop st.mem st.tm (.load n ag x)) d st := _root_.id rfl
@[go_sem] theorem step_store (n : Nat) (x v : Opd) : stepK T K ⟨d, g, .store n x v⟩ st = wpS K (sop st.mem st.tm (.store n x v)) d st := _root_.id rfl
@[go_sem] theorem step_bin (op : BinOp) (x y : Opd) : stepK T K ⟨d, g, .bin op x y⟩ st = wpS K (sop st.mem st.tm (.bin op x y)) d st := _root_.id rfl
@[go_sem] theorem step_eqs (b : Bool) (n : List Nat) (x y : Opd) : stepK T K ⟨d, g, .eqs b n x y⟩ st = wpS K (sop st.mem st.tm (.eqs b n x y)) d st := _root_.id rfl
@[go_sem] theorem step_beq (b : Bool) (x y : Opd) : stepK T K ⟨d, g, .beq b x y⟩ st = wpS K (sop st.mem st.tm (.beq b x y)) d st := _root_.id rfl
@[go_sem] theorem step_un (op : UnOp) (x : Opd) : stepK T K ⟨d, g, .un op x⟩ st = wpS K (sop st.mem st.tm (.un op x)) d st := _root_.id rfl
@[go_sem] theorem step_conv (k : IntKind) (x : Opd) : stepK T K ⟨d, g, .conv k x⟩ st = wpS K (sop st.mem st.tm (.conv k x)) d st := _root_.id rfl
@[go_sem] theorem step_nchk (x : Opd) : stepK T K ⟨d, g, .nchk x⟩ st = wpS K (sop st.mem st.tm (.nchk x)) d st := _root_.id rfl
@[go_sem] theorem step_mksl (k : Key) (z : List MV) (b : Nat) (x y : Opd) : stepK T K ⟨d, g, .mksl k z b x y⟩ st = wpS K (sop st.mem st.tm (.mksl k z b x y)) d st := _root_.id rfl
@[go_sem] theorem step_fad (o : Nat) (x : Opd) : stepK T K ⟨d, g, .fad o x⟩ st = wpS K (sop st.mem st.tm (.fad o x)) d st := _root_.id rfl
@[go_sem] theorem step_fld (o n : Nat) (ag : Bool) (x : Opd) : stepK T K ⟨d, g, .fld o n ag x⟩ st = wpS K (sop st.mem st.tm (.fld o n ag x)) d st := _root_.id rfl
@[go_sem] theorem step_iad (s : Nat) (x i : Opd) : stepK T K ⟨d, g, .iad s x i⟩ st = wpS K (sop st.mem st.tm (.iad s x i)) d st := _root_.id rfl
@[go_sem] theorem step_iada (n s : Nat) (x i : Opd) : stepK T K ⟨d, g, .iada n s x i⟩ st = wpS K (sop st.mem st.tm (.iada n s x i)) d st := _root_.id rfl
@[go_sem] theorem step_idxs (x i : Opd) : stepK T K ⟨d, g, .idxs x i⟩ st = wpS K (sop st.mem st.tm (.idxs x i)) d st := _root_.id rfl
@[go_sem] theorem step_slc (s : Nat) (x : Opd) (a b c : Option Opd) : stepK T K ⟨d, g, .slc s x a b c⟩ st = wpS K (sop st.mem st.tm (.slc s x a b c)) d st := _root_.id rfl
@[go_sem] theorem step_slca (n s : Nat) (x : Opd) (a b c : Option Opd) : stepK T K ⟨d, g, .slca n s x a b c⟩ st = wpS K (sop st.mem st.tm (.slca n s x a b c)) d st := _root_.id rfl
@[go_sem] theorem step_slcs (x : Opd) (a b : Option Opd) : stepK T K ⟨d, g, .slcs x a b⟩ st = wpS K (sop st.mem st.tm (.slcs x a b)) d st := _root_.id rfl
@[go_sem] theorem step_ext (i : Nat) (x : Opd) : stepK T K ⟨d, g, .ext i x⟩ st = wpS K (sop st.mem st.tm (.ext i x)) d st := _root_.id rfl
@[go_sem] theorem step_len (x : Opd) : stepK T K ⟨d, g, .len x⟩ st = wpS K (sop st.mem st.tm (.len x)) d st := _root_.id rfl
@[go_sem] theorem step_lens (x : Opd) : stepK T K ⟨d, g, .lens x⟩ st = wpS K (sop st.mem st.tm (.lens x)) d st := _root_.id rfl
@[go_sem] theorem step_app (k : Key) (z : List MV) (b : Nat) (s x : Opd) : stepK T K ⟨d, g, .app k z b s x⟩ st = wpS K (sop st.mem st.tm (.app k z b s x)) d st := _root_.id rfl
@[go_sem] theorem step_cpy (s : Nat) (x y : Opd) : stepK T K ⟨d, g, .cpy s x y⟩ st = wpS K (sop st.mem st.tm (.cpy s x y)) d st := _root_.id rfl
@[go_sem] theorem step_mm (b : Bool) (x y : Opd) : stepK T K ⟨d, g, .mm b x y⟩ st = wpS K (sop st.mem st.tm (.mm b x y)) d st := _root_.id rfl
@[go_sem] theorem step_mkfn (f : FuncId) (l : List Opd) : stepK T K ⟨d, g, .mkfn f l⟩ st = wpS K (sop st.mem st.tm (.mkfn f l)) d st := _root_.id rfl
def wpE (K : St → Prop) (x : Option Eff) (d : Option Nat) (st : St) : Prop :=
  match x with
  | some (.same r) => K ⟨put st.tm d (.dat r), st.mem⟩
  | some (.own _ es) => K ⟨put st.tm d (.dat (.sl es)), st.mem⟩
  | some (.rel R) => ∀ r mem', R r mem' → K ⟨put st.tm d r, mem'⟩
  | none => False
@[go_sem] theorem step_call (f : FuncId) (l : List Opd) : stepK T K ⟨d, g, .call f l⟩ st = wpE K (T f (l.map (ev st.tm)) st.mem) d st := _root_.id rfl
@[go_sem] theorem wpE_same (r : Data) : wpE K (some (.same r)) d st = K ⟨put st.tm d (.dat r), st.mem⟩ := _root_.id rfl
@[go_sem] theorem wpE_own (s : Nat) (es : List (List Data)) : wpE K (some (.own s es)) d st = K ⟨put st.tm d (.dat (.sl es)), st.mem⟩ := _root_.id rfl
@[go_sem] theorem wpE_rel (R : MV → Mem → Prop) : wpE K (some (.rel R)) d st = ∀ r mem', R r mem' → K ⟨put st.tm d r, mem'⟩ := _root_.id rfl
def wpV (T : Tab) (K : St → Prop) (m : MV) (args : List MV) (d : Option Nat) (st : St) : Prop :=
  match m with
  | .clo g caps => wpE K (T g (args ++ caps) st.mem) d st
  | .dat (.fn g ds) => wpE K (T g (args ++ ds.map .dat) st.mem) d st
  | _ => False
@[go_sem] theorem step_callv (f : Opd) (l : List Opd) : stepK T K ⟨d, g, .callv f l⟩ st = wpV T K (ev st.tm f) (l.map (ev st.tm)) d st := _root_.id rfl
@[go_sem] theorem wpV_clo (f : FuncId) (caps args : List MV) : wpV T K (.clo f caps) args d st = wpE K (T f (args ++ caps) st.mem) d st := _root_.id rfl
@[go_sem] theorem wpV_fn (f : FuncId) (ds : List Data) (args : List MV) : wpV T K (.dat (.fn f ds)) args d st = wpE K (T f (args ++ ds.map .dat) st.mem) d st := _root_.id rfl
def wpC (K : St → Prop) (x : Option Eff) (k : Key) (sz : Nat) (d : Option Nat) (st : St) : Prop :=
  match x with
  | some (.own sz' es) => if sz' = sz then K ⟨put st.tm d (.ref k (nextG st.mem k) sz 0 es.length), updM st.mem k (nextG st.mem k) (es.flatten.map .dat)⟩ else False
  | _ => False
@[go_sem] theorem step_callo (k : Key) (sz : Nat) (f : FuncId) (l : List Opd) : stepK T K ⟨d, g, .callo k sz f l⟩ st = wpC K (T f (l.map (ev st.tm)) st.mem) k sz d st := _root_.id rfl
@[go_sem] theorem wpC_own (k : Key) (sz : Nat) (es : List (List Data)) : wpC K (some (.own sz es)) k sz d st = K ⟨put st.tm d (.ref k (nextG st.mem k) sz 0 es.length), updM st.mem k (nextG st.mem k) (es.flatten.map .dat)⟩ := by simp [wpC]
def wpN (K : St → Prop) (neg : Bool) (x : Option Bool) (d : Option Nat) (st : St) : Prop :=
  match x with
  | some full => ∀ b : Bool, (full = true → b = false) → K ⟨put st.tm d (.dat (.bool (neg != b))), st.mem⟩
  | none => False
@[go_sem] theorem step_isnil (neg : Bool) (x : Opd) : stepK T K ⟨d, g, .isnil neg x⟩ st = wpN K neg (fullM (ev st.tm x)) d st := _root_.id rfl
@[go_sem] theorem wpN_some (neg full : Bool) : wpN K neg (some full) d st = ∀ b : Bool, (full = true → b = false) → K ⟨put st.tm d (.dat (.bool (neg != b))), st.mem⟩ := _root_.id rfl
end

section
variable {tm : Nat → MV} {mem : Mem}
@[go_sem] theorem ev_t (s : Nat) : ev tm (.t s) = tm s := _root_.id rfl
@[go_sem] theorem ev_c (m : MV) : ev tm (.c m) = m := _root_.id rfl
@[go_sem] theorem put_some (s : Nat) (m : MV) : put tm (some s) m = upd tm s m := _root_.id rfl
@[go_sem] theorem put_none (m : MV) : put tm none m = tm := _root_.id rfl
@[go_sem] theorem upd_at (s : Nat) (m : MV) (t : Nat) : upd tm s m t = if t = s then m else tm t := _root_.id rfl
@[go_sem] theorem updM_at (k : Key) (g : Nat) (cs : List MV) (j : Key) : updM mem k g cs j = if j = k then some (g, cs) else mem j := _root_.id rfl
@[go_sem] theorem updO_none : updO mem none = mem := _root_.id rfl
@[go_sem] theorem updO_some (k : Key) (g : Nat) (cs : List MV) : updO mem (some (k, g, cs)) = updM mem k g cs := _root_.id rfl
def nextO : Option (Nat × List MV) → Nat
  | none => 0
  | some (g, _) => g + 1
@[go_sem] theorem nextG_at (k : Key) : nextG mem k = nextO (mem k) := by unfold nextG nextO; rfl
@[go_sem] theorem nextO_none : nextO none = 0 := _root_.id rfl
@[go_sem] theorem nextO_some (g : Nat) (cs : List MV) : nextO (some (g, cs)) = g + 1 := _root_.id rfl
@[go_sem] theorem emp_at (k : Key) : emp k = none := _root_.id rfl
@[go_sem] theorem guardB_none : guardB tm none = some true := _root_.id rfl
def guardM (m : MV) (b : Bool) : Option Bool :=
  match m with
  | .dat (.bool t) => some (t == b)
  | .no => some false
  | _ => none
@[go_sem] theorem guardB_some (s : Nat) (b : Bool) : guardB tm (some (s, b)) = guardM (tm s) b := _root_.id rfl
theorem guardM_bool (t b : Bool) : guardM (.dat (.bool t)) b = some (t == b) := _root_.id rfl
@[go_sem] theorem guardM_no (b : Bool) : guardM .no b = some false := _root_.id rfl

variable (op : MOp)
@[go_sem] theorem mapN_some (m : MV) : mapN (some m) = some (m, none) := _root_.id rfl
@[go_sem] theorem sop_mv (x : Opd) : sop mem tm (.mv x) = some (ev tm x, none) := _root_.id rfl
@[go_sem] theorem sop_pick (c a b : Opd) : sop mem tm (.pick c a b) = mapN (pickM (ev tm c) (ev tm a) (ev tm b)) := _root_.id rfl
@[go_sem] theorem pickM_true (a b : MV) : pickM (.dat (.bool true)) a b = some a := _root_.id rfl
@[go_sem] theorem pickM_false (a b : MV) : pickM (.dat (.bool false)) a b = some b := _root_.id rfl
theorem pickM_bool (t : Bool) (a b : MV) : pickM (.dat (.bool t)) a b = some (if t = true then a else b) := _root_.id rfl
@[go_sem] theorem sop_alloc (k : Key) (z : List MV) : sop mem tm (.alloc k z) = some (.ptr k (nextG mem k) 0, some (k, nextG mem k, z)) := _root_.id rfl
@[go_sem] theorem sop_box (k : Key) (x : Opd) : sop mem tm (.box k x) = if (ev tm x).known = true then some (.ptr k (nextG mem k) 0, some (k, nextG mem k, (ev tm x).cells)) else none := _root_.id rfl
@[go_sem] theorem sop_build (z : List MV) (ps : List (Nat × Nat × Opd)) : sop mem tm (.build z ps) = mapN ((fillM (ev tm) z ps).map .agg) := _root_.id rfl
@[go_sem] theorem sop_bsl (k : Key) (z : List MV) (sz len : Nat) (ps : List (Nat × Nat × Opd)) : sop mem tm (.bsl k false z sz len ps) = mapN (bslM z sz len (fillM (ev tm) z ps)) := _root_.id rfl
@[go_sem] theorem sop_bslo (k : Key) (z : List MV) (sz len : Nat) (ps : List (Nat × Nat × Opd)) : sop mem tm (.bsl k true z sz len ps) = bsloM k (nextG mem k) z sz len (fillM (ev tm) z ps) := _root_.id rfl
@[go_sem] theorem sop_load (n : Nat) (ag : Bool) (x : Opd) : sop mem tm (.load n ag x) = mapN (loadM mem n ag (ev tm x)) := _root_.id rfl
@[go_sem] theorem sop_store (n : Nat) (x v : Opd) : sop mem tm (.store n x v) = storeM mem n (ev tm x) (ev tm v).cells := _root_.id rfl
@[go_sem] theorem sop_bin (b : BinOp) (x y : Opd) : sop mem tm (.bin b x y) = mapN (binM b (ev tm x) (ev tm y)) := _root_.id rfl
@[go_sem] theorem sop_beq (neg : Bool) (x y : Opd) : sop mem tm (.beq neg x y) = mapN (beqM neg (ev tm x) (ev tm y)) := _root_.id rfl
@[go_sem] theorem sop_eqs (neg : Bool) (n : List Nat) (x y : Opd) : sop mem tm (.eqs neg n x y) = mapN (eqsM neg n (ev tm x) (ev tm y)) := _root_.id rfl
@[go_sem] theorem sop_un (u : UnOp) (x : Opd) : sop mem tm (.un u x) = mapN (unM u (ev tm x)) := _root_.id rfl
@[go_sem] theorem sop_conv (k : IntKind) (x : Opd) : sop mem tm (.conv k x) = mapN (convM k (ev tm x)) := _root_.id rfl
@[go_sem] theorem sop_nchk (x : Opd) : sop mem tm (.nchk x) = mapN (nchkM (ev tm x)) := _root_.id rfl
@[go_sem] theorem sop_mksl (k : Key) (z : List MV) (b : Nat) (x y : Opd) : sop mem tm (.mksl k z b x y) = bind2 (idx (ev tm x)) (idx (ev tm y)) (mkslM k (nextG mem k) z b) := _root_.id rfl
@[go_sem] theorem sop_fad (o : Nat) (x : Opd) : sop mem tm (.fad o x) = mapN (fadM o (ev tm x)) := _root_.id rfl
@[go_sem] theorem sop_fld (o n : Nat) (ag : Bool) (x : Opd) : sop mem tm (.fld o n ag x) = mapN (fldM o n ag (ev tm x)) := _root_.id rfl
@[go_sem] theorem sop_iad (s : Nat) (x i : Opd) : sop mem tm (.iad s x i) = mapN (bind1 (idx (ev tm i)) fun n => iadM s n (ev tm x)) := _root_.id rfl
@[go_sem] theorem sop_iada (n s : Nat) (x i : Opd) : sop mem tm (.iada n s x i) = mapN (bind1 (idx (ev tm i)) fun m => iadaM n s m (ev tm x)) := _root_.id rfl
@[go_sem] theorem sop_idxs (x i : Opd) : sop mem tm (.idxs x i) = mapN (bind1 (idx (ev tm i)) fun n => idxsM n (ev tm x)) := _root_.id rfl
@[go_sem] theorem sop_slc (s : Nat) (x : Opd) (lo hi : Option Opd) : sop mem tm (.slc s x lo hi none) = mapN (bind1 (idxO 0 (lo.map (ev tm))) fun l => bind1 (lenM (ev tm x)) fun len => bind1 (idxO len (hi.map (ev tm))) fun h => slcM s l h (ev tm x)) := _root_.id rfl
@[go_sem] theorem sop_slc3 (s : Nat) (x h m : Opd) (lo : Option Opd) : sop mem tm (.slc s x lo (some h) (some m)) =
  mapN (bind1 (idxO 0 (lo.map (ev tm))) fun l => bind1 (idx (ev tm h)) fun h => bind1 (idx (ev tm m)) fun m => slc3M s l h m (ev tm x)) := _root_.id rfl
@[go_sem] theorem sop_slca (n s : Nat) (x : Opd) (lo hi : Option Opd) : sop mem tm (.slca n s x lo hi none) = mapN (bind1 (idxO 0 (lo.map (ev tm))) fun l => bind1 (idxO n (hi.map (ev tm))) fun h => slcaM mem n s l h (ev tm x)) := _root_.id rfl
@[go_sem] theorem sop_slcs (x : Opd) (lo hi : Option Opd) : sop mem tm (.slcs x lo hi) = mapN (bind1 (idxO 0 (lo.map (ev tm))) fun l => bind1 (lensM (ev tm x)) fun len => bind1 (idxO len (hi.map (ev tm))) fun h => slcsM l h (ev tm x)) := _root_.id rfl
@[go_sem] theorem sop_ext (i : Nat) (x : Opd) : sop mem tm (.ext i x) = mapN (extM i (ev tm x)) := _root_.id rfl
@[go_sem] theorem sop_len (x : Opd) : sop mem tm (.len x) = mapN (bind1 (lenM (ev tm x)) fun n => some (.dat (.int .i64 n))) := _root_.id rfl
@[go_sem] theorem sop_lens (x : Opd) : sop mem tm (.lens x) = mapN (bind1 (lensM (ev tm x)) fun n => some (.dat (.int .i64 n))) := _root_.id rfl
@[go_sem] theorem sop_app (k : Key) (z : List MV) (b : Nat) (s x : Opd) : sop mem tm (.app k z b s x) = appM mem k z b (ev tm s) (rowM mem z.length (ev tm x)) := _root_.id rfl
@[go_sem] theorem sop_cpy (s : Nat) (x y : Opd) : sop mem tm (.cpy s x y) = cpyM mem s (ev tm x) (rowM mem s (ev tm y)) := _root_.id rfl
@[go_sem] theorem sop_mm (b : Bool) (x y : Opd) : sop mem tm (.mm b x y) = mapN (mmM b (ev tm x) (ev tm y)) := _root_.id rfl
@[go_sem] theorem sop_mkfn (f : FuncId) (l : List Opd) : sop mem tm (.mkfn f l) = some (.clo f (l.map (ev tm)), none) := _root_.id rfl

@[go_sem] theorem bind1_some (n : Nat) (f : Nat → Option MV) : bind1 (some n) f = f n := _root_.id rfl
@[go_sem] theorem bind2_some (n m : Nat) (f : Nat → Nat → Out) : bind2 (some n) (some m) f = f n m := _root_.id rfl
def loadC (n : Nat) (ag : Bool) (g off : Nat) : Option (Nat × List MV) → Option MV
  | some (g', cs) => if g' = g then (cut cs off n).bind (mkAgg ag) else none
  | none => none
@[go_sem] theorem loadM_ptr (n : Nat) (ag : Bool) (k : Key) (g off : Nat) : loadM mem n ag (.ptr k g off) = loadC n ag g off (mem k) := by unfold loadM loadC; rfl
@[go_sem] theorem loadC_some (n : Nat) (ag : Bool) (g off : Nat) (cs : List MV) : loadC n ag g off (some (g, cs)) = (cut cs off n).bind (mkAgg ag) := by simp [loadC]
@[go_sem] theorem loadM_dat (n : Nat) (ag : Bool) (ds : List Data) : loadM mem n ag (.dat (.ptr ds)) = (cut (ds.map .dat) 0 n).bind (mkAgg ag) := _root_.id rfl
@[go_sem] theorem storeM_ptr (n : Nat) (k : Key) (g off : Nat) (v : List MV) : storeM mem n (.ptr k g off) v = storeC n k g off v (mem k) := _root_.id rfl
@[go_sem] theorem mkAgg_true (cs : List MV) : mkAgg true cs = some (.agg cs) := _root_.id rfl
@[go_sem] theorem mkAgg_one (m : MV) : mkAgg false [m] = some m := _root_.id rfl
@[go_sem] theorem cells_agg (cs : List MV) : (MV.agg cs).cells = cs := _root_.id rfl
@[go_sem] theorem cells_dagg (cs : List Data) : (MV.dat (.agg cs)).cells = cs.map .dat := _root_.id rfl
@[go_sem] theorem cells_int (k : IntKind) (n : Int) : (MV.dat (.int k n)).cells = [.dat (.int k n)] := _root_.id rfl
@[go_sem] theorem cells_bool (b : Bool) : (MV.dat (.bool b)).cells = [.dat (.bool b)] := _root_.id rfl
@[go_sem] theorem cells_str (l : List UInt8) : (MV.dat (.str l)).cells = [.dat (.str l)] := _root_.id rfl
@[go_sem] theorem cells_sl (l : List (List Data)) : (MV.dat (.sl l)).cells = [.dat (.sl l)] := _root_.id rfl
@[go_sem] theorem cells_ptr' (l : List Data) : (MV.dat (.ptr l)).cells = [.dat (.ptr l)] := _root_.id rfl
@[go_sem] theorem cells_fn (f : FuncId) (l : List Data) : (MV.dat (.fn f l)).cells = [.dat (.fn f l)] := _root_.id rfl
@[go_sem] theorem cells_nil : MV.nil.cells = [.nil] := _root_.id rfl
@[go_sem] theorem cells_ref (k : Key) (g s o l : Nat) : (MV.ref k g s o l).cells = [.ref k g s o l] := _root_.id rfl
@[go_sem] theorem cells_ptr (k : Key) (g o : Nat) : (MV.ptr k g o).cells = [.ptr k g o] := _root_.id rfl
@[go_sem] theorem cells_clo (f : FuncId) (l : List MV) : (MV.clo f l).cells = [.clo f l] := _root_.id rfl
@[go_sem] theorem idx_int (k : IntKind) (n : Nat) : idx (.dat (.int k (n : Int))) = some n := by simp [idx]
@[go_sem] theorem idx_0 (k : IntKind) : idx (.dat (.int k 0)) = some 0 := _root_.id rfl
@[go_sem low] theorem idx_any (k : IntKind) (n : Int) : idx (.dat (.int k n)) = if 0 ≤ n then some n.toNat else none := _root_.id rfl
theorem idx_of (k : IntKind) (n : Int) (h : 0 ≤ n) : idx (.dat (.int k n)) = some n.toNat := by simp [idx, h]
end

/-! the small functions, by their equations -/
attribute [go_sem] aggC beqM binM unM convM nchkM fadM fldM iadM iadaM idxsM slcM slc3M slcaM slcaC slcsM extM mmM idxO lenM lensM storeC cpyM cpyC mkslM bsloM bslM eqsM eqCells eqCell fillM splice cut chunk
  isShift binI shI binS fullM shut datOf MV.one MV.known rowM evenE foot keyOf wrs chkR apartK updR sopD initTm resM resAll
end Go.Mini
