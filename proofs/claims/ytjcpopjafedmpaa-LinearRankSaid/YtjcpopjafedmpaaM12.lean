/- A part of the proof: MiniLm2, MiniLm3, MiniLm4, MiniLm5, MiniLm6, MiniLm7, MiniLm8, MiniLm9, MiniLm11. -/
import Derived.Test.YtjcpopjafedmpaaM11
import Derived.Test.YtjcpopjafedmpaaM10
set_option linter.unusedSimpArgs false
set_option linter.unusedVariables false
open Nat renaming reduceEqDiff → yA, reduceAdd → yB, reduceSub → yC, reduceMul → yD, reduceLeDiff → yE, reduceLT → yF, reduceBEq → yG
open Bool renaming false_eq_true → yH
open Int renaming reduceEq → yI
open List renaming length_map → yJ, getElem?_map → yK, getElem?_eq_getElem → yL
open List.cons renaming injEq → yM
namespace Go.Mini
/-- A vector of N elements, and one more. -/
def ext (N:Nat) (y:Nat → Rat) (z:Rat):Nat → Rat:=fun k => if k < N then y k else z
theorem dot_ext (N:Nat) (a y:Nat → Rat) (z:Rat):dotQ N a (ext N y z) = sumQ N (fun k => a k * y k) + a N * z:=by
  unfold dotQ ext
  rw [sumQ]
  congr 1
  · exact sumQ_congr fun k hk => by rw [if_pos hk]
  · rw [if_neg (by omega)]
theorem red_dot {N:Nat} {Q:Mat} {pv:Nat → Nat} (h:Red N Q N N pv) (hpv:∀ j,j < N → pv j = j) {i:Nat} (hi:i < N) (y:Nat → Rat) (z:Rat):dotQ N (Q i) (ext N y z) = y i + Q i N * z:=by
  rw [dot_ext]
  congr 1
  have:∀ k,k < N → Q i k = if i = k then 1 else 0:=fun k hk => by
    have:=h.unit k hk i hi
    rwa [hpv k hk] at this
  rw [sumQ_one hi fun k hk hki => by rw [this k hk,if_neg (Ne.symm hki),Rat.zero_mul],this i hi,if_pos rfl,Rat.one_mul]
theorem red_solution {N:Nat} {Q:Mat} {pv:Nat → Nat} (h:Red N Q N N pv) (hpv:∀ j,j < N → pv j = j) (y:Nat → Rat):Ann N Q (ext N y (-1)) ↔ ∀ i,i < N → y i = Q i N:=by
  unfold Ann
  constructor
  · intro hA i hi
    have:=hA i hi
    rw [red_dot h hpv hi] at this
    grind
  · intro hA i hi
    rw [red_dot h hpv hi,hA i hi]
    grind
theorem red_trivial {N:Nat} {Q:Mat} {pv:Nat → Nat} (h:Red N Q N N pv) (hpv:∀ j,j < N → pv j = j) (y:Nat → Rat) (hA:Ann N Q (ext N y 0)):∀ i,i < N → y i = 0:=by
  intro i hi
  have:=hA i hi
  rw [red_dot h hpv hi] at this
  grind
def kerQ (Q:Mat) (c:Nat):Nat → Rat:=fun k => if k < c then 0 - Q k c else if k = c then 1 else 0
theorem red_kernel {N c:Nat} {Q:Mat} {pv:Nat → Nat} (h:Red N Q c c pv) (hpv:∀ j,j < c → pv j = j) (hc:c < N) (hz:∀ i,c ≤ i → i < N → Q i c = 0):Ann N Q (ext N (kerQ Q c) 0):=by
  intro i hi
  rw [dot_ext]
  have main:∀ n,c < n → n ≤ N → sumQ n (fun k => Q i k * kerQ Q c k) = sumQ (c + 1) (fun k => Q i k * kerQ Q c k):=by
    intro n
    induction n with
    | zero => intro h; omega
    | succ n ih =>
      intro h1 h2
      by_cases hcn:c = n
      · rw [hcn]
      · rw [sumQ,ih (by omega) (by omega)]
        unfold kerQ
        rw [if_neg (show ¬ n < c by omega),if_neg (show ¬ n = c by omega)]
        grind
  rw [main N hc (Nat.le_refl _),sumQ]
  have hk:kerQ Q c c = 1:=by unfold kerQ; rw [if_neg (by omega),if_pos rfl]
  rw [hk]
  have hu:∀ k,k < c → Q i k = if i = k then 1 else 0:=fun k hk => by
    have:=h.unit k hk i hi
    rwa [hpv k hk] at this
  rcases Nat.lt_or_ge i c with hlt | hge
  · rw [sumQ_one hlt fun k hk hki => by rw [hu k hk,if_neg (Ne.symm hki),Rat.zero_mul],hu i hlt,if_pos rfl]
    unfold kerQ
    rw [if_pos hlt]
    grind
  · rw [sumQ_zero fun k hk => by rw [hu k hk,if_neg (by omega),Rat.zero_mul],hz i hge hi]
    grind
/-- The rank is at most the number of conditions from which the rows' follow. -/
theorem rank_le {N p m:Nat} {Q:Mat} {pv:Nat → Nat} (h:Red N Q p N pv) (C:Mat) (hC:∀ y:Nat → Rat,(∀ i,i < m → sumQ N (fun k => C i k * y k) = 0) → Ann N Q (ext N y 0)):p ≤ m:=by
  rcases Nat.lt_or_ge m p with hlt | hge
  · exfalso
    obtain ⟨z,⟨j,hj,hzj⟩,hz⟩:=under m p hlt fun i j => C i (pv j)
    have comb:∀ a:Nat → Rat,sumQ N (fun k => a k * sumQ p fun j => z j * if k = pv j then 1 else 0) = sumQ p fun j => z j * a (pv j):=by
      intro a
      have e1:(fun k => a k * sumQ p fun j => z j * if k = pv j then 1 else 0) = fun k => sumQ p fun j => a k * (z j * if k = pv j then 1 else 0):=by
        funext k; rw [sumQ_mul]
      rw [e1,sumQ_comm]
      refine sumQ_congr fun j hj => ?_
      rw [sumQ_one (h.lt j hj) fun k _ hk => by rw [if_neg hk]; grind,if_pos rfl]
      grind
    have hA:=hC (fun k => sumQ p fun j => z j * if k = pv j then 1 else 0) fun i hi => by rw [comb]; exact hz i hi
    have:=hA j (by have:=h.pc; omega)
    rw [dot_ext,comb,sumQ_one hj fun k hk hkj => by rw [h.unit k hk j (by have:=h.pc; omega),if_neg (Ne.symm hkj)]; grind,h.unit j hj j (by have:=h.pc; omega),if_pos rfl] at this
    grind
  · exact hge
end Go.Mini
namespace Go.Mini
open Go
set_option maxRecDepth 10000
set_option maxHeartbeats 1000000
def EncV (N:Nat) (l:List FRaw) (q:Nat → Rat):Prop:=l = ((List.range (N + 1)).map q).map encR ∧ ∀ k,k ≤ N → limR (q k)
def EncM (N:Nat) (rows:List MR) (Q:Mat):Prop:=rows.length = N ∧ ∀ (i:Nat) x,rows[i]? = some x → EncV N x.2.2 (Q i)
theorem EncV.get {N:Nat} {l:List FRaw} {q:Nat → Rat} (h:EncV N l q) {k:Nat} (hk:k ≤ N):l[k]? = some (encR (q k)):=by
  rw [h.1,yK,yK,List.getElem?_range (by omega)]
  rfl
theorem EncV.len {N:Nat} {l:List FRaw} {q:Nat → Rat} (h:EncV N l q):l.length = N + 1:=by rw [h.1]; simp
theorem EncV.of_get {N:Nat} {l:List FRaw} {q:Nat → Rat} (hl:l.length = N + 1) (h:∀ k,k ≤ N → l[k]? = some (encR (q k)) ∧ limR (q k)):EncV N l q:=by
  refine ⟨?_,fun k hk => (h k hk).2⟩
  apply List.ext_getElem?
  intro k
  rcases Nat.lt_or_ge k (N + 1) with hk | hk
  · rw [(h k (by omega)).1,yK,yK,List.getElem?_range hk]; rfl
  · rw [List.getElem?_eq_none (by omega),List.getElem?_eq_none (by simp; omega)]
theorem EncV.congr {N:Nat} {l:List FRaw} {q q':Nat → Rat} (h:EncV N l q) (hq:∀ k,k ≤ N → q k = q' k):EncV N l q' :=
  EncV.of_get h.len fun k hk => by rw [← hq k hk]; exact ⟨h.get hk,h.2 k hk⟩
theorem EncV.cell {N:Nat} {x:MR} {q:Nat → Rat} (h:EncV N x.2.2 q) {k:Nat} (hk:k ≤ N):cellOf x k = encR (q k):=cell_get (h.get hk)
theorem zeroQ_enc (q:Rat):zeroQ (encR q) = decide (q = 0):=by
  unfold zeroQ encR encB
  rw [Bool.eq_iff_iff,beq_iff_eq,decide_eq_true_eq,Int.sign_eq_zero_iff_zero,Rat.num_eq_zero]
theorem encR_lim {x y:Rat} (h:encR x = encR y):x = y:=encR_inj h
def okStep (fac a b:Rat):Bool:=mulOK fac b && addOK a (-(fac * b))
theorem step_ok {fac a b:Rat} (hf:limR fac) (ha:limR a) (hb:limR b) (h:okStep fac a b = true) :
    mulF (encR fac) (encR b) = (encR (fac * b),0) ∧ subF (encR a) (encR (fac * b)) = (encR (a - fac * b),0) ∧ limR (a - fac * b):=by
  unfold okStep at h
  rw [Bool.and_eq_true] at h
  refine ⟨?_,?_,sub_lim h.2⟩
  · rw [mulF_enc hf hb,h.1]; rfl
  · rw [subF_enc ha (mul_lim h.1),h.2]; rfl
theorem step_bad {fac a b:Rat} (hf:limR fac) (ha:limR a) (hb:limR b) (h:okStep fac a b = false) :
    ((mulF (encR fac) (encR b)).2 != 0 || (subF (encR a) (mulF (encR fac) (encR b)).1).2 != 0) = true:=by
  unfold okStep at h
  rw [mulF_enc hf hb]
  rcases h1:mulOK fac b
  · rfl
  · rw [h1,Bool.true_and] at h
    show ((subF (encR a) (encR (fac * b))).2 != 0) = true
    rw [subF_enc ha (mul_lim h1),h]
    rfl
theorem elimGo_enc {fac:Rat} (hf:limR fac):∀ (ql pl:List Rat),ql.length = pl.length → (∀ x ∈ ql,limR x) → (∀ x ∈ pl,limR x) →
    ((∀ q ∈ ql.zip pl,okStep fac q.1 q.2 = true) → elimGo (encR fac) (ql.map encR) (pl.map encR) false = ((List.zipWith (fun a b => a - fac * b) ql pl).map encR,false) ∧ ∀ x ∈ List.zipWith (fun a b => a - fac * b) ql pl,limR x) ∧
    ((elimGo (encR fac) (ql.map encR) (pl.map encR) false).2 = false → ∀ q ∈ ql.zip pl,okStep fac q.1 q.2 = true):=by
  intro ql
  induction ql with
  | nil => intro pl hl _ _; cases pl with
    | nil => exact ⟨fun _ => ⟨rfl,by simp⟩,fun _ => by simp⟩
    | cons => cases hl
  | cons a ql ih =>
    intro pl hl h1 h2
    cases pl with
    | nil => cases hl
    | cons b pl =>
      have ha:=h1 a List.mem_cons_self
      have hb:=h2 b List.mem_cons_self
      obtain ⟨i1,i2⟩:=ih pl (by simpa using hl) (fun x hx => h1 x (List.mem_cons_of_mem _ hx)) (fun x hx => h2 x (List.mem_cons_of_mem _ hx))
      constructor
      · intro hall
        obtain ⟨e1,e2,e3⟩:=step_ok hf ha hb (hall (a,b) (by simp))
        obtain ⟨i3,i4⟩:=i1 fun q hq => hall q (by simp only [List.zip_cons_cons,List.mem_cons]; exact .inr hq)
        refine ⟨?_,fun x hx => ?_⟩
        · simp only [List.map_cons,elimGo,e1,e2,List.zipWith_cons_cons,bne_self_eq_false,Bool.or_false,i3]
        · rw [List.zipWith_cons_cons,List.mem_cons] at hx
          rcases hx with rfl | hx
          · exact e3
          · exact i4 x hx
      · intro hb2
        simp only [List.map_cons,elimGo] at hb2
        rcases hs:okStep fac a b
        · rw [step_bad hf ha hb hs,elimGo_bad] at hb2
          cases hb2
        · obtain ⟨e1,e2,e3⟩:=step_ok hf ha hb hs
          simp only [e1,e2,bne_self_eq_false,Bool.or_false] at hb2
          intro q hq
          rw [List.zip_cons_cons,List.mem_cons] at hq
          rcases hq with rfl | hq
          · exact hs
          · exact i2 hb2 q hq
theorem zip_map_range (n:Nat) (q p:Nat → Rat):((List.range n).map q).zip ((List.range n).map p) = (List.range n).map fun k => (q k,p k):=by
  rw [List.zip_map',]
theorem zipWith_range (n:Nat) (f:Rat → Rat → Rat) (q p:Nat → Rat):List.zipWith f ((List.range n).map q) ((List.range n).map p) = (List.range n).map fun k => f (q k) (p k):=by
  rw [List.zipWith_map,List.zipWith_self]
theorem elimGo_V {N:Nat} {fac:Rat} {l l2:List FRaw} {q p:Nat → Rat} (hf:limR fac) (h1:EncV N l q) (h2:EncV N l2 p) :
    ((∀ k,k ≤ N → okStep fac (q k) (p k) = true) → (elimGo (encR fac) l l2 false).2 = false) ∧ ((elimGo (encR fac) l l2 false).2 = false → EncV N (elimGo (encR fac) l l2 false).1 (fun k => q k - fac * p k)):=by
  obtain ⟨e1,e2⟩:=elimGo_enc hf ((List.range (N + 1)).map q) ((List.range (N + 1)).map p) (by simp) (by
    intro x hx
    obtain ⟨k,hk,rfl⟩:=List.mem_map.1 hx
    exact h1.2 k (by have:=List.mem_range.1 hk; omega)) (by
    intro x hx
    obtain ⟨k,hk,rfl⟩:=List.mem_map.1 hx
    exact h2.2 k (by have:=List.mem_range.1 hk; omega))
  rw [← h1.1,← h2.1] at e1 e2
  have hz:(∀ k,k ≤ N → okStep fac (q k) (p k) = true) ↔ ∀ x ∈ ((List.range (N + 1)).map q).zip ((List.range (N + 1)).map p),okStep fac x.1 x.2 = true:=by
    rw [zip_map_range]
    simp only [List.mem_map,List.mem_range]
    constructor
    · rintro h x ⟨k,hk,rfl⟩; exact h k (by omega)
    · intro h k hk; exact h (q k,p k) ⟨k,by omega,rfl⟩
  refine ⟨fun h => by rw [(e1 (hz.1 h)).1],fun h => ?_⟩
  obtain ⟨e3,e4⟩:=e1 (e2 h)
  rw [e3,zipWith_range] at *
  exact ⟨rfl,fun k hk => e4 _ (List.mem_map.2 ⟨k,List.mem_range.2 (by omega),rfl⟩)⟩
theorem elimRows_bad (prow:List FRaw) (r c:Nat):∀ (i:Nat) (l:List MR),(elimRows prow r c i l true).2 = true
  | _,[] => rfl
  | i,x :: xs => by
    unfold elimRows
    split
    · exact elimRows_bad prow r c (i + 1) xs
    · rw [elimGo_bad]; exact elimRows_bad prow r c (i + 1) xs
theorem elimRows_enc {N r c:Nat} {prow:List FRaw} {p:Nat → Rat} (hp:EncV N prow p) (hc:c ≤ N):∀ (i:Nat) (l:List MR) (D:Mat),(∀ (j:Nat) x,l[j]? = some x → EncV N x.2.2 (D (i + j))) →
    ((∀ j,j < l.length → i + j ≠ r → D (i + j) c ≠ 0 → ∀ k,k ≤ N → okStep (D (i + j) c) (D (i + j) k) (p k) = true) → (elimRows prow r c i l false).2 = false) ∧
    ((elimRows prow r c i l false).2 = false → ∀ (j:Nat) x,(elimRows prow r c i l false).1[j]? = some x → EncV N x.2.2 (fun k => if i + j = r then D (i + j) k else D (i + j) k - D (i + j) c * p k))
  | i,[],D,h => ⟨fun _ => rfl,fun _ j x hx => by simp [elimRows] at hx⟩
  | i,x :: xs,D,h => by
    have h0:=h 0 x rfl
    rw [Nat.add_zero] at h0
    obtain ⟨ih1,ih2⟩:=elimRows_enc hp hc (i + 1) xs D fun j y hy => by
      have:=h (j + 1) y hy
      rwa [show i + (j + 1) = i + 1 + j by omega] at this
    have hcell:=h0.cell hc
    have ihs:(∀ j,j < (x :: xs).length → i + j ≠ r → D (i + j) c ≠ 0 → ∀ k,k ≤ N → okStep (D (i + j) c) (D (i + j) k) (p k) = true) → ∀ j,j < xs.length → i + 1 + j ≠ r → D (i + 1 + j) c ≠ 0 → ∀ k,k ≤ N → okStep (D (i + 1 + j) c) (D (i + 1 + j) k) (p k) = true:=by
      intro hh j hj
      have:=hh (j + 1) (by simpa using hj)
      rwa [show i + (j + 1) = i + 1 + j by omega] at this
    unfold elimRows
    rw [hcell,zeroQ_enc]
    by_cases hz:(i == r || decide (D i c = 0)) = true
    · rw [if_pos hz]
      refine ⟨fun hh => ih1 (ihs hh),fun hb j y hy => ?_⟩
      cases j with
      | zero =>
        simp only [List.getElem?_cons_zero,Option.some.injEq] at hy
        subst hy
        rw [Nat.add_zero]
        refine h0.congr fun k hk => ?_
        simp only [Bool.or_eq_true,beq_iff_eq,decide_eq_true_eq] at hz
        split
        · rfl
        · rcases hz with hz | hz
          · contradiction
          · rw [hz]; grind
      | succ j =>
        have:=ih2 hb j y (by simpa using hy)
        rwa [show i + (j + 1) = i + 1 + j by omega]
    · rw [if_neg hz]
      simp only [Bool.or_eq_true,beq_iff_eq,decide_eq_true_eq,not_or] at hz
      obtain ⟨g1,g2⟩:=elimGo_V (h0.2 c hc) h0 hp
      constructor
      · intro hh
        have h3:=g1 (hh 0 (by simp) (by simpa using hz.1) (by simpa using hz.2))
        dsimp only
        rw [h3]
        exact ih1 (ihs hh)
      · intro hb j y hy
        dsimp only at hb hy
        rcases hgb:(elimGo (encR (D i c)) x.2.2 prow false).2
        · rw [hgb] at hb hy
          cases j with
          | zero =>
            simp only [List.getElem?_cons_zero,Option.some.injEq] at hy
            subst hy
            rw [Nat.add_zero]
            exact (g2 hgb).congr fun k hk => by rw [if_neg hz.1]
          | succ j =>
            have:=ih2 hb j y (by simpa using hy)
            rwa [show i + (j + 1) = i + 1 + j by omega]
        · rw [hgb,elimRows_bad] at hb
          cases hb
theorem divRow_enc {N:Nat} {l:List FRaw} {q:Nat → Rat} {b:Rat} (h:EncV N l q) (hb:limR b) (h0:b ≠ 0) :
    ((divRow (encR b) l).2 = false ↔ ∀ k,k ≤ N → divOK (q k) b = true) ∧ ((divRow (encR b) l).2 = false → EncV N (divRow (encR b) l).1 (fun k => q k / b)):=by
  have e1:(divRow (encR b) l).2 = false ↔ ∀ k,k ≤ N → divOK (q k) b = true:=by
    unfold divRow
    rw [h.1]
    simp only [List.any_eq_false,List.mem_map,List.mem_range]
    constructor
    · intro hh k hk
      have:=hh (encR (q k)) ⟨q k,⟨k,by omega,rfl⟩,rfl⟩
      rw [divF_enc (h.2 k hk) hb h0] at this
      rcases hd:divOK (q k) b
      · rw [hd] at this; exact absurd rfl this
      · rfl
    · rintro hh _ ⟨_,⟨k,hk,rfl⟩,rfl⟩
      rw [divF_enc (h.2 k (by omega)) hb h0,hh k (by omega)]
      simp [keepF]
  refine ⟨e1,fun hh => ?_⟩
  have hok:=e1.1 hh
  refine EncV.of_get (by unfold divRow; rw [yJ,h.len]) fun k hk => ⟨?_,div_lim (hok k hk)⟩
  unfold divRow
  rw [yK,h.get hk,Option.map_some,divF_enc (h.2 k hk) hb h0,hok k hk]
  rfl
theorem EncM.row {N:Nat} {rows:List MR} {Q:Mat} (h:EncM N rows Q) {i:Nat} (hi:i < N):∃ x,rows[i]? = some x ∧ rowAt rows i = x ∧ EncV N x.2.2 (Q i):=by
  obtain ⟨x,hx⟩:∃ x,rows[i]? = some x:=⟨_,yL (by have:=h.1; omega)⟩
  exact ⟨x,hx,row_at hx,h.2 i x hx⟩
theorem EncM.swap {N:Nat} {rows:List MR} {Q:Mat} (h:EncM N rows Q) {r s:Nat} (hr:r < N) (hs:s < N):EncM N (swapped rows r s) (swapQ Q r s):=by
  obtain ⟨x,hx,ex,vx⟩:=h.row hr
  obtain ⟨y,hy,ey,vy⟩:=h.row hs
  unfold swapped
  rw [ex,ey]
  refine ⟨by rw [List.length_set,List.length_set]; exact h.1,fun i z hz => ?_⟩
  rw [List.getElem?_set,List.getElem?_set,List.length_set] at hz
  unfold swapQ
  by_cases h1:s = i
  · rw [if_pos h1,if_pos (by have:=h.1; omega)] at hz
    cases hz
    rw [if_pos h1.symm]
    exact vx
  · rw [if_neg h1] at hz
    rw [if_neg (Ne.symm h1)]
    by_cases h2:r = i
    · rw [if_pos h2,if_pos (by have:=h.1; omega)] at hz
      cases hz
      rw [if_pos h2.symm]
      exact vy
    · rw [if_neg h2] at hz
      rw [if_neg (Ne.symm h2)]
      exact h.2 i z hz
/-- All operations of a step succeed. -/
def okPiv (N:Nat) (S:Mat) (r c:Nat):Prop:=(∀ k,k ≤ N → divOK (S r k) (S r c) = true) ∧ ∀ i,i < N → i ≠ r → S i c ≠ 0 → ∀ k,k ≤ N → okStep (S i c) (S i k) (S r k / S r c) = true
theorem pivX_enc {N:Nat} {rows:List MR} {Q:Mat} (h:EncM N rows Q) {r c:Nat} (hr:r < N) (hc:c < N) :
    ((pivX rows r c).1 = true ∧ (pivX rows r c).2.1 = rows ∧ (pivX rows r c).2.2 = false ∧ ∀ i,r ≤ i → i < N → Q i c = 0) ∨
    ((pivX rows r c).1 = false ∧ ∃ s,r ≤ s ∧ s < N ∧ Q s c ≠ 0 ∧ ((pivX rows r c).2.2 = false → EncM N (pivX rows r c).2.1 (pivQ Q r c s)) ∧ (okPiv N (swapQ Q r s) r c → (pivX rows r c).2.2 = false)):=by
  have hl:=h.1
  have hfl:=findAt_le rows r c (by omega)
  have hfz:∀ i x,r ≤ i → i < findAt rows r c → rows[i]? = some x → zeroQ (cellOf x c) = true:=by
    intro i x hi1 hi2 hx
    unfold findAt at hi2
    have hlt:i - r < (rows.drop r).findIdx fun x => !zeroQ (cellOf x c):=by omega
    have:=List.not_of_lt_findIdx hlt
    have hg:(rows.drop r)[i - r]'(Nat.lt_of_lt_of_le hlt List.findIdx_le_length) = x:=by
      rw [List.getElem_drop]
      have:=(List.getElem?_eq_some_iff.1 hx)
      obtain ⟨h1,h2⟩:=this
      simp only [show r + (i - r) = i by omega]
      exact h2
    rw [hg] at this
    simpa using this
  unfold pivX
  by_cases hf:findAt rows r c = rows.length
  · left
    rw [if_pos hf]
    refine ⟨rfl,rfl,rfl,fun i hi1 hi2 => ?_⟩
    obtain ⟨x,hx,-,vx⟩:=h.row hi2
    have:=hfz i x hi1 (by omega) hx
    rw [vx.cell (by omega),zeroQ_enc] at this
    simpa using this
  · right
    rw [if_neg hf]
    refine ⟨rfl,findAt rows r c,hfl.1,by omega,?_,?_⟩
    · obtain ⟨x,hx,-,vx⟩:=h.row (i:=findAt rows r c) (by omega)
      have hlt:findAt rows r c - r < (rows.drop r).length:=by rw [List.length_drop]; omega
      have h2:(rows.drop r).findIdx (fun x => !zeroQ (cellOf x c)) < (rows.drop r).length:=by
        unfold findAt at hlt; omega
      have h3:=List.findIdx_getElem (w:=h2)
      have hg:(rows.drop r)[(rows.drop r).findIdx fun x => !zeroQ (cellOf x c)] = x:=by
        rw [List.getElem_drop]
        exact (List.getElem?_eq_some_iff.1 hx).2
      rw [hg,vx.cell (by omega),zeroQ_enc] at h3
      simpa using h3
    · have hs:findAt rows r c < N:=by omega
      have hsw:=h.swap hr hs
      have hne:swapQ Q r (findAt rows r c) r c ≠ 0:=by
        rw [swapQ_r]
        obtain ⟨x,hx,-,vx⟩:=h.row hs
        have h2:(rows.drop r).findIdx (fun x => !zeroQ (cellOf x c)) < (rows.drop r).length:=by
          rw [List.length_drop]; unfold findAt at hs; omega
        have h3:=List.findIdx_getElem (w:=h2)
        have hg:(rows.drop r)[(rows.drop r).findIdx fun x => !zeroQ (cellOf x c)] = x:=by
          rw [List.getElem_drop]
          exact (List.getElem?_eq_some_iff.1 hx).2
        rw [hg,vx.cell (by omega),zeroQ_enc] at h3
        simpa using h3
      have hpq:pivQ Q r c (findAt rows r c) = fun i k => if i = r then swapQ Q r (findAt rows r c) r k / swapQ Q r (findAt rows r c) r c else swapQ Q r (findAt rows r c) i k - swapQ Q r (findAt rows r c) i c * (swapQ Q r (findAt rows r c) r k / swapQ Q r (findAt rows r c) r c):=rfl
      rw [hpq]
      generalize swapped rows r (findAt rows r c) = sw at *
      generalize swapQ Q r (findAt rows r c) = S at *
      obtain ⟨x,hx,ex,vx⟩:=hsw.row hr
      rw [ex,vx.cell (by omega)]
      obtain ⟨d1,d2⟩:=divRow_enc vx (vx.2 c (by omega)) hne
      have hdv:divided sw r c = sw.set r (x.1,x.2.1,(divRow (encR (S r c)) x.2.2).1):=by
        unfold divided
        rw [ex,vx.cell (by omega)]
      rw [hdv]
      have hrows:EncV N (divRow (encR (S r c)) x.2.2).1 (fun k => S r k / S r c) → ∀ (j:Nat) y,(sw.set r (x.1,x.2.1,(divRow (encR (S r c)) x.2.2).1))[j]? = some y → EncV N y.2.2 ((fun i => if i = r then fun k => S r k / S r c else S i) (0 + j)):=by
        intro hd j y hy
        rw [Nat.zero_add]
        rw [List.getElem?_set] at hy
        by_cases hj:r = j
        · rw [if_pos hj,if_pos (by have:=hsw.1; omega)] at hy
          cases hy
          dsimp only
          rw [if_pos hj.symm]
          exact hd
        · rw [if_neg hj] at hy
          dsimp only
          rw [if_neg (Ne.symm hj)]
          exact hsw.2 j y hy
      dsimp only
      rcases hdb:(divRow (encR (S r c)) x.2.2).2
      · have hd:=d2 hdb
        obtain ⟨r1,r2⟩:=elimRows_enc (r:=r) (c:=c) hd (by omega) 0 (sw.set r (x.1,x.2.1,(divRow (encR (S r c)) x.2.2).1)) (fun i => if i = r then fun k => S r k / S r c else S i) (hrows hd)
        constructor
        · intro hb
          refine ⟨?_,fun i z hz => ?_⟩
          · have:=congrArg List.length (elimRows_shape (divRow (encR (S r c)) x.2.2).1 r c 0 (sw.set r (x.1,x.2.1,(divRow (encR (S r c)) x.2.2).1)) false)
            rw [yJ,yJ,List.length_set] at this
            rw [this]; exact hsw.1
          · have:=r2 hb i z hz
            rw [Nat.zero_add] at this
            refine this.congr fun k hk => ?_
            by_cases hir:i = r
            · simp only [if_pos hir]
            · simp only [if_neg hir]
        · intro hok
          refine r1 fun j hj hjr hne k hk => ?_
          rw [Nat.zero_add] at *
          simp only [if_neg hjr] at hne ⊢
          rw [List.length_set,hsw.1] at hj
          exact hok.2 j hj hjr hne k hk
      · constructor
        · intro hb
          rw [elimRows_bad] at hb
          cases hb
        · intro hok
          rw [d1.2 hok.1] at hdb
          cases hdb
end Go.Mini
namespace Go.Mini
open Go
set_option maxRecDepth 10000
set_option maxHeartbeats 1000000
structure Elim (N:Nat) (Q Q':Mat) (rows:List MR) (p c:Nat) (pv:Nat → Nat):Prop where
  enc:EncM N rows Q'
  red:Red N Q' p c pv
  ann:∀ y,Ann N Q' y ↔ Ann N Q y
theorem elimX_spec (stop:Bool) (N:Nat) (Q0:Mat):∀ k c rows free Q p pv,c + k = N → Elim N Q0 Q rows p c pv → p + free.length = c → (stop = true → free = [] ∧ ∀ j,j < p → pv j = j) →
    ∀ rows' free',elimX stop k c rows free false = (rows',free',false) →
    ∃ Q' p' c' pv',Elim N Q0 Q' rows' p' c' pv' ∧ (stop = false → c' = N ∧ p' + free'.length = N) ∧
      (stop = true → (free' = [] ∧ c' = N ∧ p' = N ∧ ∀ j,j < N → pv' j = j) ∨ (∃ f,free' = [f] ∧ f < N ∧ p' = f ∧ c' = f ∧ (∀ j,j < f → pv' j = j) ∧ ∀ i,f ≤ i → i < N → Q' i f = 0)):=by
  intro k
  induction k with
  | zero =>
    intro c rows free Q p pv hc he hp hs rows' free' hx
    simp only [elimX,Prod.mk.injEq,and_true] at hx
    obtain ⟨rfl,rfl⟩:=hx
    refine ⟨Q,p,c,pv,he,fun _ => ⟨by omega,by omega⟩,fun h => ?_⟩
    obtain ⟨h1,h2⟩:=hs h
    subst h1
    simp only [List.length_nil,Nat.add_zero] at hp
    exact .inl ⟨rfl,by omega,by omega,fun j hj => h2 j (by omega)⟩
  | succ k ih =>
    intro c rows free Q p pv hc he hp hs rows' free' hx
    have hcp:c - free.length = p:=by omega
    unfold elimX at hx
    rw [hcp] at hx
    rcases pivX_enc he.enc (r:=p) (c:=c) (by omega) (by omega) with ⟨h1,h2,h3,h4⟩ | ⟨h1,s,hs1,hs2,hs3,h4,h5⟩
    · rw [h1,h2,h3,if_pos rfl] at hx
      cases stop with
      | true =>
        rw [if_pos rfl] at hx
        simp only [Prod.mk.injEq,and_true] at hx
        obtain ⟨rfl,rfl⟩:=hx
        obtain ⟨g1,g2⟩:=hs rfl
        subst g1
        simp only [List.length_nil,Nat.add_zero] at hp
        subst hp
        exact ⟨Q,p,p,pv,he,by simp,fun _ => .inr ⟨p,rfl,by omega,rfl,rfl,g2,h4⟩⟩
      | false =>
        rw [if_neg (by simp)] at hx
        exact ih (c + 1) rows (free ++ [c]) Q p pv (by omega) ⟨he.enc,he.red.free h4,he.ann⟩ (by simp; omega) (by simp) rows' free' hx
    · rw [h1,if_neg (by simp)] at hx
      rcases hb:(pivX rows p c).2.2
      · rw [hb] at hx
        have hen:=h4 hb
        refine ih (c + 1) _ free (pivQ Q p c s) (p + 1) (fun j => if j = p then c else pv j) (by omega) ⟨hen,he.red.piv (by omega) hs1 hs2 hs3,fun y => (ann_piv (by omega) hs2 hs3).trans (he.ann y)⟩ (by omega) (fun h => ?_) rows' free' hx
        obtain ⟨g1,g2⟩:=hs h
        refine ⟨g1,fun j hj => ?_⟩
        subst g1
        simp only [List.length_nil,Nat.add_zero] at hp
        show (if j = p then c else pv j) = j
        split
        · omega
        · exact g2 j (by omega)
      · rw [hb,elimX_bad] at hx
        cases hx
/-- A system's rows as a matrix: the value stands last. -/
def matOf (rs:List RowD):Mat:=fun i k => if k < rs.length then valF ((rs.getD i ([],zeroF)).1.getD k zeroF) else valF (rs.getD i ([],zeroF)).2
theorem right_enc' {f:FRaw} (h:rightF f = true):f = encR (valF f) ∧ limR (valF f):=by
  obtain ⟨x,hx,rfl⟩:=(rightF_iff _).1 h
  rw [valF_enc]
  exact ⟨rfl,hx⟩
theorem rightS_rows {rs:List RowD} {n:Int} (h:rightS rs n = true):(rs.length:Int) = n ∧ rs.length ≤ 40 ∧ ∀ r ∈ rs,r.1.length = rs.length ∧ rightF r.2 = true ∧ ∀ f ∈ r.1,rightF f = true:=by
  unfold rightS at h
  simp only [Bool.and_eq_true,Bool.not_eq_true',decide_eq_false_iff_not,beq_iff_eq] at h
  obtain ⟨h1,h2,h3,h4⟩:=h
  refine ⟨h3,by omega,fun r hr => ?_⟩
  rw [List.any_eq_false] at h4
  have:=h4 r hr
  unfold badRow badF at this
  simp only [Bool.not_eq_true',Bool.not_eq_true,Bool.not_eq_false',Bool.and_eq_true,beq_iff_eq,List.any_eq_false,Bool.not_eq_false] at this
  obtain ⟨q1,q2,q3⟩:=this
  exact ⟨by omega,q2,fun f hf => by simpa using q3 f hf⟩
theorem row_get' {rs:List RowD} {i:Nat} {r:RowD} (h:rs[i]? = some r):rs.getD i ([],zeroF) = r:=by
  rw [List.getD_eq_getElem?_getD,h]; rfl
theorem aug_enc {rs:List RowD} {n:Int} (h:rightS rs n = true):EncM rs.length (augOf rs) (matOf rs):=by
  obtain ⟨hn,h40,hrows⟩:=rightS_rows h
  refine ⟨aug_len rs,fun i x hx => ?_⟩
  have hi:i < rs.length:=by
    have:=(List.getElem?_eq_some_iff.1 hx).1
    rwa [aug_len] at this
  obtain ⟨r,hr⟩:∃ r,rs[i]? = some r:=⟨_,yL hi⟩
  rw [aug_get hr] at hx
  cases hx
  obtain ⟨e1,e2,e3⟩:=hrows r (List.mem_of_getElem? hr)
  refine EncV.of_get (by simp [e1]) fun k hk => ?_
  unfold matOf
  rw [row_get' hr]
  by_cases hk2:k < rs.length
  · rw [if_pos hk2]
    obtain ⟨f,hf⟩:∃ f,r.1[k]? = some f:=⟨_,yL (by omega)⟩
    obtain ⟨q1,q2⟩:=right_enc' (e3 f (List.mem_of_getElem? hf))
    rw [List.getElem?_append_left (by omega),hf,List.getD_eq_getElem?_getD,hf]
    exact ⟨congrArg some q1,q2⟩
  · rw [if_neg hk2]
    obtain ⟨q1,q2⟩:=right_enc' e2
    rw [List.getElem?_append_right (by omega),e1,show k - rs.length = 0 by omega]
    exact ⟨congrArg some q1,q2⟩
theorem elimS_spec (stop:Bool) {rs:List RowD} {n:Int} (h:rightS rs n = true) {rows':List MR} {free':List Nat} (hx:elimS stop rs = (rows',free',false)) :
    ∃ Q' p' c' pv',Elim rs.length (matOf rs) Q' rows' p' c' pv' ∧ (stop = false → c' = rs.length ∧ p' + free'.length = rs.length) ∧
      (stop = true → (free' = [] ∧ c' = rs.length ∧ p' = rs.length ∧ ∀ j,j < rs.length → pv' j = j) ∨ (∃ f,free' = [f] ∧ f < rs.length ∧ p' = f ∧ c' = f ∧ (∀ j,j < f → pv' j = j) ∧ ∀ i,f ≤ i → i < rs.length → Q' i f = 0)) :=
  elimX_spec stop rs.length (matOf rs) rs.length 0 (augOf rs) [] (matOf rs) 0 (fun j => j) (by omega) ⟨aug_enc h,red_start _ _ _,fun _ => Iff.rfl⟩ rfl (fun _ => ⟨rfl,fun j hj => by omega⟩) rows' free' hx
/-! ### Bounds -/
/-- The elements of a row have a common denominator. -/
def CD (N:Nat) (q:Nat → Rat) (b:Nat):Prop:=∃ (v:Nat → Int) (d:Int),d ≠ 0 ∧ d.natAbs ≤ 2 ^ b ∧ ∀ k,k ≤ N → q k * (d:Rat) = (v k:Rat) ∧ (v k).natAbs ≤ 2 ^ b
theorem CD.mono {N a b:Nat} {q:Nat → Rat} (h:CD N q a) (hab:a ≤ b):CD N q b:=by
  obtain ⟨v,d,h1,h2,h3⟩:=h
  have hp:2 ^ a ≤ 2 ^ b:=Nat.pow_le_pow_right (by omega) hab
  exact ⟨v,d,h1,Nat.le_trans h2 hp,fun k hk => ⟨(h3 k hk).1,Nat.le_trans (h3 k hk).2 hp⟩⟩
theorem cross {q:Rat} {v d:Int} (hd:d ≠ 0) (h:q * (d:Rat) = (v:Rat)):q.num * d = v * q.den:=by
  have hd':(d:Rat) ≠ 0:=by rw [Ne,Rat.intCast_eq_zero_iff]; exact hd
  have e:q = Rat.divInt v d:=by rw [Rat.divInt_eq_div]; grind
  have e2:Rat.divInt q.num q.den = Rat.divInt v d:=by rw [Rat.num_divInt_den]; exact e
  exact (Rat.divInt_eq_divInt_iff (den_ne q) hd).1 e2
theorem frac_bound {q:Rat} {v d:Int} (hd:d ≠ 0) (h:q * (d:Rat) = (v:Rat)):q.num.natAbs ≤ v.natAbs ∧ q.den ≤ d.natAbs:=by
  have hc:=cross hd h
  have hc':q.num.natAbs * d.natAbs = v.natAbs * q.den:=by
    have:=congrArg Int.natAbs hc
    rwa [Int.natAbs_mul,Int.natAbs_mul,Int.natAbs_natCast] at this
  have hdd:q.den ∣ d.natAbs:=(Nat.Coprime.symm q.reduced).dvd_of_dvd_mul_left ⟨v.natAbs,by rw [hc',Nat.mul_comm]⟩
  have hdp:0 < d.natAbs:=by omega
  have h2:=Nat.le_of_dvd hdp hdd
  refine ⟨?_,h2⟩
  obtain ⟨m,hm⟩:=hdd
  rw [hm] at hc'
  have hqp:=q.den_pos
  have h3:q.num.natAbs * m = v.natAbs:=by
    have:q.den * (q.num.natAbs * m) = q.den * v.natAbs:=by rw [Nat.mul_comm q.den v.natAbs,← hc']; rw [Nat.mul_left_comm]
    exact Nat.eq_of_mul_eq_mul_left hqp this
  have hm0:0 < m:=by
    rcases Nat.eq_zero_or_pos m with h0 | h0
    · rw [h0,Nat.mul_zero] at hm; omega
    · exact h0
  rw [← h3]
  exact Nat.le_mul_of_pos_right _ hm0
/-- A number's size. -/
def szR (b:Nat) (q:Rat):Prop:=q.num.natAbs ≤ 2 ^ b ∧ q.den ≤ 2 ^ b
theorem CD.sz {N b:Nat} {q:Nat → Rat} (h:CD N q b) {k:Nat} (hk:k ≤ N):szR b (q k):=by
  obtain ⟨v,d,h1,h2,h3⟩:=h
  obtain ⟨e1,e2⟩:=h3 k hk
  obtain ⟨f1,f2⟩:=frac_bound h1 e1
  exact ⟨Nat.le_trans f1 e2,Nat.le_trans f2 h2⟩
theorem pow_pow' (a b c:Nat) (h:a = 2 ^ b):a ^ c = 2 ^ (b * c):=by rw [h,← Nat.pow_mul]
theorem LIM_pow:∃ B:Nat,B = 1200 ∧ LIM = 2 ^ B:=⟨20 * 60,rfl,pow_pow' 1048576 20 60 (by decide)⟩
theorem okZ_sz {z:Int} {b:Nat} (h:z.natAbs ≤ 2 ^ b) (hb:b < 1200):okZ z = true:=by
  obtain ⟨B,hB,hL⟩:=LIM_pow
  unfold okZ
  rw [hL,decide_eq_true_eq]
  exact Nat.lt_of_le_of_lt h (Nat.pow_lt_pow_right (by omega) (by omega))
theorem mul_sz {x y:Int} {a b:Nat} (hx:x.natAbs ≤ 2 ^ a) (hy:y.natAbs ≤ 2 ^ b):(x * y).natAbs ≤ 2 ^ (a + b):=by
  rw [Int.natAbs_mul,Nat.pow_add]
  exact Nat.mul_le_mul hx hy
theorem add_sz {x y:Int} {a:Nat} (hx:x.natAbs ≤ 2 ^ a) (hy:y.natAbs ≤ 2 ^ a):(x + y).natAbs ≤ 2 ^ (a + 1):=by
  have:=Int.natAbs_add_le x y
  rw [Nat.pow_succ]; omega
theorem szR.mono {a b:Nat} {q:Rat} (h:szR a q) (hab:a ≤ b):szR b q:=by
  have hp:2 ^ a ≤ 2 ^ b:=Nat.pow_le_pow_right (by omega) hab
  exact ⟨Nat.le_trans h.1 hp,Nat.le_trans h.2 hp⟩
theorem sz_mulOK {x y:Rat} {a b:Nat} (hx:szR a x) (hy:szR b y) (h:a + b < 1200):mulOK x y = true:=by
  unfold mulOK
  rw [Bool.and_eq_true]
  exact ⟨okZ_sz (mul_sz hx.1 hy.1) h,okZ_sz (mul_sz (x:=(x.den:Int)) (y:=(y.den:Int)) (by simpa using hx.2) (by simpa using hy.2)) h⟩
theorem sz_divOK {x y:Rat} {a b:Nat} (hx:szR a x) (hy:szR b y) (h:a + b < 1200):divOK x y = true:=by
  unfold divOK
  rw [Bool.and_eq_true]
  exact ⟨okZ_sz (mul_sz (y:=(y.den:Int)) hx.1 (by simpa using hy.2)) h,okZ_sz (mul_sz (x:=(x.den:Int)) (by simpa using hx.2) hy.1) h⟩
theorem sz_addOK {x y:Rat} {a b:Nat} (hx:szR a x) (hy:szR b y) (h:a + b + 1 < 1200):addOK x y = true:=by
  unfold addOK
  have h1:=mul_sz (y:=(y.den:Int)) hx.1 (by simpa using hy.2)
  have h2:=mul_sz (y:=(x.den:Int)) hy.1 (by simpa using hx.2)
  rw [Nat.add_comm b a] at h2
  simp only [Bool.and_eq_true]
  exact ⟨okZ_sz h1 (by omega),okZ_sz h2 (by omega),okZ_sz (add_sz h1 h2) h,okZ_sz (mul_sz (x:=(x.den:Int)) (y:=(y.den:Int)) (by simpa using hx.2) (by simpa using hy.2)) (by omega)⟩
theorem szR_neg {b:Nat} {q:Rat} (h:szR b q):szR b (-q):=⟨by rw [Rat.neg_num,Int.natAbs_neg]; exact h.1,h.2⟩
theorem szR_div {p q:Int} {b:Nat} (h1:p.natAbs ≤ 2 ^ b) (h2:q.natAbs ≤ 2 ^ b) (hq:q ≠ 0):szR b (Rat.divInt p q):=by
  have hq':(q:Rat) ≠ 0:=by rw [Ne,Rat.intCast_eq_zero_iff]; exact hq
  have:=frac_bound (q:=Rat.divInt p q) (v:=p) hq (by rw [Rat.divInt_eq_div]; grind)
  exact ⟨Nat.le_trans this.1 h1,Nat.le_trans this.2 h2⟩
theorem sz_mul {x y:Rat} {a b:Nat} (hx:szR a x) (hy:szR b y):szR (a + b) (x * y):=by
  rw [← mul_divInt]
  exact szR_div (mul_sz hx.1 hy.1) (mul_sz (x:=(x.den:Int)) (y:=(y.den:Int)) (by simpa using hx.2) (by simpa using hy.2)) (Int.mul_ne_zero (den_ne x) (den_ne y))
theorem sz_add {x y:Rat} {a b:Nat} (hx:szR a x) (hy:szR b y):szR (a + b + 1) (x + y):=by
  rw [← add_divInt]
  have h1:=mul_sz (y:=(y.den:Int)) hx.1 (by simpa using hy.2)
  have h2:=mul_sz (y:=(x.den:Int)) hy.1 (by simpa using hx.2)
  rw [Nat.add_comm b a] at h2
  have h3:=mul_sz (x:=(x.den:Int)) (y:=(y.den:Int)) (a:=a) (b:=b) (by simpa using hx.2) (by simpa using hy.2)
  exact szR_div (add_sz h1 h2) (Nat.le_trans h3 (Nat.pow_le_pow_right (by omega) (by omega))) (Int.mul_ne_zero (den_ne x) (den_ne y))
theorem sz_div {x y:Rat} {a b:Nat} (hx:szR a x) (hy:szR b y) (h0:y ≠ 0):szR (a + b) (x / y):=by
  rw [← div_divInt]
  have hn:y.num ≠ 0:=fun h => h0 (Rat.num_eq_zero.1 h)
  exact szR_div (mul_sz (y:=(y.den:Int)) hx.1 (by simpa using hy.2)) (mul_sz (x:=(x.den:Int)) (by simpa using hx.2) hy.1) (Int.mul_ne_zero (den_ne x) hn)
end Go.Mini
namespace Go.Mini
open Go
set_option maxRecDepth 10000
set_option maxHeartbeats 1000000
def alphaB:Nat → Nat
  | 0 => 80
  | p + 1 => 2 * alphaB p + 1
def betaB:Nat → Nat
  | 0 => 0
  | p + 1 => betaB p + alphaB p + 1
def Bd (N:Nat) (Q:Mat) (p:Nat):Prop:=∀ i,i < N → CD N (Q i) (if i < p then betaB p else alphaB p)
theorem CD.div {N b r c:Nat} {S:Mat} (h:CD N (S r) b) (hc:c ≤ N) (hne:S r c ≠ 0):CD N (fun k => S r k / S r c) b:=by
  obtain ⟨v,d,h1,h2,h3⟩:=h
  obtain ⟨e1,e2⟩:=h3 c hc
  have hd':(d:Rat) ≠ 0:=by rw [Ne,Rat.intCast_eq_zero_iff]; exact h1
  have hv:v c ≠ 0:=by
    intro h0
    rw [h0,Rat.intCast_zero] at e1
    rcases Rat.mul_eq_zero.1 e1 with h | h
    · exact hne h
    · exact hd' h
  refine ⟨v,v c,hv,e2,fun k hk => ⟨?_,(h3 k hk).2⟩⟩
  rw [← (h3 k hk).1,← e1]
  grind
theorem CD.elim {N a b c:Nat} {q p:Nat → Rat} (h:CD N q a) (hp:CD N p b) (hc:c ≤ N):CD N (fun k => q k - q c * p k) (a + b + 1):=by
  obtain ⟨v,d,h1,h2,h3⟩:=h
  obtain ⟨w,e,g1,g2,g3⟩:=hp
  have hle:2 ^ (a + b) ≤ 2 ^ (a + b + 1):=Nat.pow_le_pow_right (by omega) (by omega)
  refine ⟨fun k => v k * e - v c * w k,d * e,Int.mul_ne_zero h1 g1,Nat.le_trans (mul_sz h2 g2) hle,fun k hk => ⟨?_,?_⟩⟩
  · rw [Rat.intCast_sub,Rat.intCast_mul,Rat.intCast_mul,Rat.intCast_mul,← (h3 k hk).1,← (h3 c hc).1,← (g3 k hk).1]
    grind
  · have m1:=mul_sz (h3 k hk).2 g2
    have m2:=mul_sz (h3 c hc).2 (g3 k hk).2
    have m3:(-(v c * w k)).natAbs ≤ 2 ^ (a + b):=by rw [Int.natAbs_neg]; exact m2
    have:=add_sz m1 m3
    rwa [← Int.sub_eq_add_neg] at this
theorem Bd.swap {N p s:Nat} {Q:Mat} (h:Bd N Q p) (hp:p < N) (hs:p ≤ s) (hsN:s < N):Bd N (swapQ Q p s) p:=by
  intro i hi
  unfold swapQ
  by_cases h1:i = s
  · rw [if_pos h1]
    have:=h p hp
    rw [if_neg (by omega)] at this ⊢
    exact this
  · rw [if_neg h1]
    by_cases h2:i = p
    · rw [if_pos h2]
      have:=h s hsN
      rw [if_neg (by omega)] at this ⊢
      exact this
    · rw [if_neg h2]; exact h i hi
theorem Bd.piv {N p c s:Nat} {Q:Mat} (h:Bd N Q p) (hp:p < N) (hs:p ≤ s) (hsN:s < N) (hc:c ≤ N) (hne:Q s c ≠ 0):Bd N (pivQ Q p c s) (p + 1):=by
  have hS:=h.swap hp hs hsN
  have hSr:swapQ Q p s p c ≠ 0:=by rw [swapQ_r]; exact hne
  have hpr:=hS p hp
  rw [if_neg (by omega)] at hpr
  have hP:=hpr.div hc hSr
  intro i hi
  by_cases hip:i = p
  · rw [if_pos (by omega)]
    have:pivQ Q p c s i = fun k => swapQ Q p s p k / swapQ Q p s p c:=by funext k; unfold pivQ; rw [if_pos hip]
    rw [this]
    exact hP.mono (by show alphaB p ≤ betaB p + alphaB p + 1; omega)
  · have:pivQ Q p c s i = fun k => swapQ Q p s i k - swapQ Q p s i c * (swapQ Q p s p k / swapQ Q p s p c):=by funext k; unfold pivQ; rw [if_neg hip]
    rw [this]
    have:=(hS i hi).elim hP hc
    by_cases hlt:i < p
    · rw [if_pos hlt] at this
      rw [if_pos (by omega)]
      exact this
    · rw [if_neg hlt] at this
      rw [if_neg (by omega)]
      exact this.mono (by show alphaB p + alphaB p + 1 ≤ 2 * alphaB p + 1; omega)
theorem Bd.ok {N p c:Nat} {S:Mat} (h:Bd N S p) (hp:p < N) (hp2:p < 3) (hc:c ≤ N) (hne:S p c ≠ 0):okPiv N S p c:=by
  have hb:∀ i,i < N → ∀ k,k ≤ N → szR 323 (S i k):=by
    intro i hi k hk
    refine ((h i hi).sz hk).mono ?_
    have:alphaB p ≤ 323 ∧ betaB p ≤ 243:=by
      rcases p with _ | _ | _ | p
      · decide
      · decide
      · decide
      · omega
    split <;> omega
  have hP:∀ k,k ≤ N → szR 323 (S p k / S p c):=by
    intro k hk
    have hpr:=h p hp
    rw [if_neg (by omega)] at hpr
    refine ((hpr.div hc hne).sz hk).mono ?_
    rcases p with _ | _ | _ | p
    · decide
    · decide
    · decide
    · omega
  refine ⟨fun k hk => sz_divOK (hb p hp k hk) (hb p hp c hc) (by omega),fun i hi _ _ k hk => ?_⟩
  unfold okStep
  rw [Bool.and_eq_true]
  exact ⟨sz_mulOK (hb i hi c hc) (hP k hk) (by omega),sz_addOK (hb i hi k hk) (szR_neg (sz_mul (hb i hi c hc) (hP k hk))) (by omega)⟩
theorem elimX_ok3 (stop:Bool) (N:Nat) (hN:N ≤ 3) (Q0:Mat):∀ k c rows free Q p pv,c + k = N → Elim N Q0 Q rows p c pv → Bd N Q p → p + free.length = c → (stop = true → free = []) →
    ∃ rows' free' Q' p' c' pv',elimX stop k c rows free false = (rows',free',false) ∧ Elim N Q0 Q' rows' p' c' pv' ∧ Bd N Q' p' ∧ p' ≤ N ∧ (stop = true → free' = [] ∨ (free' = [p'] ∧ p' < N)):=by
  intro k
  induction k with
  | zero =>
    intro c rows free Q p pv hc he hb hp hs
    exact ⟨rows,free,Q,p,c,pv,rfl,he,hb,by omega,fun h => .inl (hs h)⟩
  | succ k ih =>
    intro c rows free Q p pv hc he hbd hp hs
    have hcp:c - free.length = p:=by omega
    unfold elimX
    rw [hcp]
    rcases pivX_enc he.enc (r:=p) (c:=c) (by omega) (by omega) with ⟨h1,h2,h3,h4⟩ | ⟨h1,s,hs1,hs2,hs3,h4,h5⟩
    · rw [h1,h2,h3,if_pos rfl]
      cases stop with
      | true =>
        rw [if_pos rfl]
        obtain rfl:=hs rfl
        simp only [List.length_nil,Nat.add_zero] at hp
        exact ⟨rows,[] ++ [c],Q,p,c,pv,rfl,he,hbd,by omega,fun _ => .inr ⟨by rw [hp]; rfl,by omega⟩⟩
      | false =>
        rw [if_neg (by simp)]
        exact ih (c + 1) rows (free ++ [c]) Q p pv (by omega) ⟨he.enc,he.red.free h4,he.ann⟩ hbd (by simp; omega) (by simp)
    · have hok:=(hbd.swap (by omega) hs1 hs2).ok (p:=p) (c:=c) (by omega) (by omega) (by omega) (by rw [swapQ_r]; exact hs3)
      have hb:=h5 hok
      rw [h1,if_neg (by simp),hb]
      exact ih (c + 1) _ free (pivQ Q p c s) (p + 1) (fun j => if j = p then c else pv j) (by omega) ⟨h4 hb,he.red.piv (by omega) hs1 hs2 hs3,fun y => (ann_piv (by omega) hs2 hs3).trans (he.ann y)⟩ (hbd.piv (by omega) hs1 hs2 (by omega) hs3) (by omega) hs
/-- One digit. -/
theorem few_sz {f:FRaw} (hr:rightF f = true) (hf:fewF f 1 = true):szR 20 (valF f):=by
  obtain ⟨e,h1,h2⟩:=right_enc' hr
  obtain ⟨g1,g2⟩:=few_okF hf
  rw [e] at g1 g2
  have k1:=dg_len.1 (show (dg (valF f).num.natAbs).length ≤ 1 from g1)
  have k2:=dg_len.1 (show (dg ((valF f).den:Int).natAbs).length ≤ 1 from g2)
  rw [Int.natAbs_natCast] at k2
  have h20:(1048576:Nat) ^ 1 = 2 ^ 20:=by decide
  rw [h20] at k1 k2
  exact ⟨Nat.le_of_lt k1,Nat.le_of_lt k2⟩
theorem prod_cd (q:Nat → Rat) (b:Nat) (h:∀ k,szR b (q k)):∀ n:Nat,∃ d:Int,0 < d ∧ d.natAbs ≤ 2 ^ (n * b) ∧ ∃ v:Nat → Int,∀ k,k < n → q k * (d:Rat) = (v k:Rat) ∧ (v k).natAbs ≤ 2 ^ (n * b):=by
  intro n
  induction n with
  | zero => exact ⟨1,by decide,by simp,fun _ => 0,fun k hk => by omega⟩
  | succ n ih =>
    obtain ⟨d,hd,hdb,v,hv⟩:=ih
    have hdn:=den_pos (q n)
    have hx:(q n) * (((q n).den:Int):Rat) = ((q n).num:Rat):=by
      have h1:q n = Rat.divInt (q n).num (q n).den:=(Rat.num_divInt_den _).symm
      have h2:(((q n).den:Int):Rat) ≠ 0:=by rw [Ne,Rat.intCast_eq_zero_iff]; omega
      rw [Rat.divInt_eq_div] at h1
      generalize (((q n).den:Int):Rat) = D at *
      generalize ((q n).num:Rat) = M at *
      rw [h1]; grind
    rw [Nat.succ_mul]
    refine ⟨d * (q n).den,Int.mul_pos hd hdn,mul_sz hdb (by simpa using (h n).2),fun k => if k = n then (q n).num * d else v k * (q n).den,fun k hk => ?_⟩
    by_cases hkn:k = n
    · subst hkn
      simp only [if_true]
      refine ⟨?_,?_⟩
      · rw [Rat.intCast_mul,Rat.intCast_mul,← hx]; grind
      · have:=mul_sz (h k).1 hdb
        rwa [Nat.add_comm] at this
    · simp only [if_neg hkn]
      obtain ⟨e1,e2⟩:=hv k (by omega)
      refine ⟨?_,mul_sz e2 (by simpa using (h n).2)⟩
      rw [Rat.intCast_mul,Rat.intCast_mul,← e1]; grind
theorem mat_sz {rs:List RowD} (hf:fewRows rs 3 1 = true) (hr:rightS rs rs.length = true) {i:Nat} (hi:i < rs.length) (k:Nat):szR 20 (matOf rs i k):=by
  obtain ⟨-,-,hrows⟩:=rightS_rows hr
  obtain ⟨-,hfew⟩:=few_rows hf
  obtain ⟨r,hri⟩:∃ r,rs[i]? = some r:=⟨_,yL hi⟩
  have hm:=List.mem_of_getElem? hri
  obtain ⟨e1,e2,e3⟩:=hrows r hm
  obtain ⟨f1,f2⟩:=hfew r hm
  unfold matOf
  rw [row_get' hri]
  split
  · rename_i hk
    obtain ⟨f,hf'⟩:∃ f,r.1[k]? = some f:=⟨_,yL (by omega)⟩
    rw [List.getD_eq_getElem?_getD,hf']
    have hmf:=List.mem_of_getElem? hf'
    exact few_sz (e3 f hmf) ((few_list f1).2 f hmf)
  · exact few_sz e2 f2
theorem mat_bd {rs:List RowD} (hf:fewRows rs 3 1 = true) (hr:rightS rs rs.length = true):Bd rs.length (matOf rs) 0:=by
  intro i hi
  have hn:=(few_rows hf).1
  obtain ⟨d,hd,hdb,v,hv⟩:=prod_cd (fun k => matOf rs i k) 20 (fun k => mat_sz hf hr hi k) 4
  rw [if_neg (by omega)]
  exact ⟨v,d,by omega,hdb,fun k hk => hv k (by omega)⟩
theorem elimS_ok3 (stop:Bool) {rs:List RowD} (hf:fewRows rs 3 1 = true) (hr:rightS rs rs.length = true) :
    ∃ rows' free' Q' p' c' pv',elimS stop rs = (rows',free',false) ∧ Elim rs.length (matOf rs) Q' rows' p' c' pv' ∧ Bd rs.length Q' p' ∧ p' ≤ rs.length ∧ (stop = true → free' = [] ∨ (free' = [p'] ∧ p' < rs.length)) :=
  elimX_ok3 stop rs.length (few_rows hf).1 (matOf rs) rs.length 0 (augOf rs) [] (matOf rs) 0 (fun j => j) (by omega) ⟨aug_enc hr,red_start _ _ _,fun _ => Iff.rfl⟩ (mat_bd hf hr) rfl fun _ => rfl
end Go.Mini
namespace Go.Mini
open Go
set_option maxRecDepth 10000
set_option maxHeartbeats 1000000
def vecF (N:Nat) (x:Nat → Rat):List FRaw:=((List.range N).map x).map encR
theorem vecF_len (N:Nat) (x:Nat → Rat):(vecF N x).length = N:=by simp [vecF]
theorem vecF_get {N k:Nat} (x:Nat → Rat) (h:k < N):(vecF N x)[k]? = some (encR (x k)):=by
  unfold vecF
  rw [yK,yK,List.getElem?_range h]; rfl
theorem vecF_of {N:Nat} {l:List FRaw} {x:Nat → Rat} (hl:l.length = N) (h:∀ k,k < N → l[k]? = some (encR (x k))):l = vecF N x:=by
  apply List.ext_getElem?
  intro k
  rcases Nat.lt_or_ge k N with hk | hk
  · rw [h k hk,vecF_get x hk]
  · rw [List.getElem?_eq_none (by omega),List.getElem?_eq_none (by rw [vecF_len]; omega)]
theorem vecF_congr {N:Nat} {x y:Nat → Rat} (h:∀ k,k < N → x k = y k):vecF N x = vecF N y :=
  vecF_of (vecF_len N x) fun k hk => by rw [vecF_get x hk,h k hk]
theorem vecF_ok {N:Nat} {x:Nat → Rat} (hN:N ≤ 40) (h:∀ k,k < N → limR (x k)):okL (vecF N x):=by
  refine ⟨by rw [vecF_len]; omega,fun f hf => ?_⟩
  obtain ⟨k,hk⟩:=List.mem_iff_getElem?.1 hf
  have hkN:k < N:=by have:=(List.getElem?_eq_some_iff.1 hk).1; rwa [vecF_len] at this
  rw [vecF_get x hkN] at hk
  cases hk
  exact okF_enc (h k hkN)
def SolOK (N:Nat) (M:Mat) (x:Nat → Rat):Prop:=(∀ y,Ann N M (ext N y (-1)) ↔ ∀ k,k < N → y k = x k) ∧ ∀ y,Ann N M (ext N y 0) → ∀ k,k < N → y k = 0
def Sing (N:Nat) (M:Mat):Prop:=∃ y,Ann N M (ext N y 0) ∧ ∃ k,k < N ∧ y k ≠ 0
theorem rows_last {N:Nat} {rows:List MR} {Q:Mat} (h:EncM N rows Q):rows.map (lastOf N) = vecF N (fun i => Q i N) :=
  vecF_of (by rw [yJ]; exact h.1) fun k hk => by
    obtain ⟨x,hx,-,vx⟩:=h.row hk
    rw [yK,hx,Option.map_some]
    unfold lastOf
    rw [List.getD_eq_getElem?_getD,vx.get (Nat.le_refl _)]
    rfl
theorem Elim.lim {N:Nat} {Q Q':Mat} {rows:List MR} {p c:Nat} {pv:Nat → Nat} (h:Elim N Q Q' rows p c pv) {i k:Nat} (hi:i < N) (hk:k ≤ N):limR (Q' i k):=by
  obtain ⟨x,-,-,vx⟩:=h.enc.row hi
  exact vx.2 k hk
theorem zero_add_ok {q:Rat} (h:limR q):addOK 0 (-q) = true:=by
  unfold addOK
  simp only [Bool.and_eq_true]
  have h1:okZ ((-q).num * ((0:Rat).den:Int)) = true:=by
    rw [Rat.neg_num,Rat.zero_den]
    unfold okZ
    rw [decide_eq_true_eq]
    have:=h.1
    omega
  refine ⟨?_,h1,?_,?_⟩
  · rw [Rat.zero_num,Int.zero_mul]; decide +kernel
  · rw [Rat.zero_num,Int.zero_mul,Int.zero_add]; exact h1
  · rw [Rat.zero_den,Rat.neg_den]
    unfold okZ
    rw [decide_eq_true_eq]
    have:=h.2
    omega
theorem limR_zero:limR 0:=⟨by decide +kernel,by decide +kernel⟩
theorem ker_enc {N f:Nat} {rows:List MR} {Q:Mat} (h:EncM N rows Q) (hf:f < N):kerP rows f N f = vecF N (kerQ Q f) :=
  vecF_of (kerP_len _ _ _ _) fun k hk => by
    unfold kerP
    rw [yK,List.getElem?_range hk,Option.map_some]
    unfold kerQ
    by_cases h1:k < f
    · rw [if_pos h1,if_pos h1]
      obtain ⟨x,-,ex,vx⟩:=h.row (i:=k) (by omega)
      rw [ex,vx.cell (by omega),← encR_zero,subF_enc limR_zero (vx.2 f (by omega)),zero_add_ok (vx.2 f (by omega))]
      rfl
    · rw [if_neg h1,if_neg h1]
      by_cases h2:k = f
      · rw [if_pos h2,if_pos h2,encR_one]
      · rw [if_neg h2,if_neg h2,encR_zero]
theorem ext_ann {N:Nat} {M Q:Mat} (h:∀ y,Ann N Q y ↔ Ann N M y):∀ y z,Ann N Q (ext N y z) ↔ Ann N M (ext N y z):=fun _ _ => h _
theorem solve_cases {rs:List RowD} {n:Int} (h:rightS rs n = true) :
    (solveX rs n = ([],6)) ∨
    (∃ x,solveX rs n = (vecF rs.length x,0) ∧ kernX rs n = ([],false) ∧ (∀ k,k < rs.length → limR (x k)) ∧ SolOK rs.length (matOf rs) x) ∨
    (∃ y,solveX rs n = ([],17) ∧ kernX rs n = (vecF rs.length y,true) ∧ (∀ k,k < rs.length → limR (y k)) ∧ Ann rs.length (matOf rs) (ext rs.length y 0) ∧ ∃ k,k < rs.length ∧ y k = 1):=by
  unfold solveX kernX
  rw [if_pos h]
  rcases hx:elimS true rs with ⟨rows',free',bad⟩
  cases bad
  · right
    obtain ⟨Q,p,c,pv,he,-,hs⟩:=elimS_spec true h hx
    rw [if_pos h]
    rcases hs rfl with ⟨rfl,rfl,rfl,hpv⟩ | ⟨f,rfl,hf,rfl,rfl,hpv,hz⟩
    · left
      refine ⟨fun i => Q i rs.length,?_,rfl,fun k hk => he.lim hk (Nat.le_refl _),fun y => ?_,fun y hy => ?_⟩
      · rw [if_neg (by simp),if_neg (by simp),rows_last he.enc]
      · rw [← ext_ann he.ann]
        exact red_solution he.red hpv y
      · exact red_trivial he.red hpv y ((ext_ann he.ann y 0).2 hy)
    · right
      refine ⟨kerQ Q c,?_,?_,fun k hk => ?_,?_,⟨c,hf,by unfold kerQ; simp⟩⟩
      · rw [if_neg (by simp),if_pos (by simp)]
      · rw [if_neg (by simp)]
        exact congrArg (fun l => (l,true)) (ker_enc he.enc hf)
      · unfold kerQ
        split
        · exact sub_lim (zero_add_ok (he.lim hk (by omega)))
        · split
          · exact ⟨by decide +kernel,by decide +kernel⟩
          · exact limR_zero
      · exact (ext_ann he.ann _ _).1 (red_kernel he.red hpv hf hz)
  · left
    rw [if_pos rfl]
theorem solve_not_both {N:Nat} {M:Mat} {x:Nat → Rat} (h:SolOK N M x):¬ Sing N M:=by
  rintro ⟨y,hy,k,hk,hne⟩
  exact hne (h.2 y hy k hk)
/-- Systems with the same solutions have the same answer, unless something is too great. -/
theorem solve_same {rs rs':List RowD} (hl:rs'.length = rs.length) (h:rightS rs rs.length = true) (h':rightS rs' rs.length = true) (hann:∀ y,Ann rs.length (matOf rs') y ↔ Ann rs.length (matOf rs) y) (hok:solveX rs rs.length ≠ ([],6)) :
    solveX rs' rs.length = solveX rs rs.length ∨ solveX rs' rs.length = ([],6):=by
  rcases solve_cases h' with e | ⟨x',e',-,l',s'⟩ | ⟨y',e',-,l',a',k',hk',hy'⟩
  · exact .inr e
  · left
    rw [hl] at s' e'
    rcases solve_cases h with e | ⟨x,e,-,-,s⟩ | ⟨y,e,-,-,a,k,hk,hy⟩
    · exact absurd e hok
    · rw [e,e']
      have:∀ k,k < rs.length → x' k = x k:=by
        intro k hk
        have h1:Ann rs.length (matOf rs) (ext rs.length x' (-1)):=(hann _).1 ((s'.1 x').2 fun _ _ => rfl)
        exact (s.1 x').1 h1 k hk
      rw [vecF_congr this]
    · exfalso
      have:=s'.2 y ((hann _).2 a) k hk
      rw [hy] at this
      exact absurd this (by decide)
  · left
    rw [hl] at a' hk'
    rcases solve_cases h with e | ⟨x,e,-,-,s⟩ | ⟨y,e,-,-,a,k,hk,hy⟩
    · exact absurd e hok
    · exfalso
      have:=s.2 y' ((hann _).1 a') k' hk'
      rw [hy'] at this
      exact absurd this (by decide)
    · rw [e,e']
theorem solve_ok3 {rs:List RowD} (hf:fewRows rs 3 1 = true) (hr:rightS rs rs.length = true):solveX rs rs.length ≠ ([],6):=by
  obtain ⟨rows',free',Q',p',c',pv',hx,-⟩:=elimS_ok3 true hf hr
  unfold solveX
  rw [if_pos hr,hx]
  simp only [yH,if_false]
  split
  · simp
  · simp
end Go.Mini
namespace Go.Mini
open Go
set_option maxRecDepth 10000
set_option maxHeartbeats 1000000
def sumL:Rat → List Rat → List Rat → Rat
  | s,a :: al,x :: xs => sumL (s + a * x) al xs
  | s,_,_ => s
def okSum:Rat → List Rat → List Rat → Prop
  | s,a :: al,x :: xs => mulOK a x = true ∧ addOK s (a * x) = true ∧ okSum (s + a * x) al xs
  | _,_,_ => True
theorem sumGo_enc:∀ (al xs:List Rat) (s:Rat),limR s → (∀ a ∈ al,limR a) → (∀ x ∈ xs,limR x) →
    (okSum s al xs → sumGo (encR s) (al.map encR) (xs.map encR) = some (encR (sumL s al xs)) ∧ limR (sumL s al xs)) ∧
    (∀ f,sumGo (encR s) (al.map encR) (xs.map encR) = some f → f = encR (sumL s al xs) ∧ limR (sumL s al xs))
  | [],xs,s,hs,_,_ => ⟨fun _ => ⟨by simp [sumGo,sumL],by simpa [sumL] using hs⟩,fun f hf => ⟨by simp [sumGo] at hf; simp [sumL,hf],by simpa [sumL] using hs⟩⟩
  | a :: al,[],s,hs,_,_ => ⟨fun _ => ⟨by simp [sumGo,sumL],by simpa [sumL] using hs⟩,fun f hf => ⟨by simp [sumGo] at hf; simp [sumL,hf],by simpa [sumL] using hs⟩⟩
  | a :: al,x :: xs,s,hs,ha,hx => by
    have la:=ha a List.mem_cons_self
    have lx:=hx x List.mem_cons_self
    simp only [List.map_cons,sumGo,sumL,okSum]
    rw [mulF_enc la lx]
    rcases hm:mulOK a x
    · refine ⟨fun h => ?_,fun f hf => ?_⟩
      · exact absurd h.1 (by simp)
      · simp [keepF] at hf
    · simp only [keepF,if_true]
      rw [addF_enc hs (mul_lim hm)]
      rcases hd:addOK s (a * x)
      · refine ⟨fun h => ?_,fun f hf => ?_⟩
        · exact absurd h.2.1 (by simp)
        · simp [keepF] at hf
      · obtain ⟨i1,i2⟩:=sumGo_enc al xs (s + a * x) (add_lim hd) (fun b hb => ha b (List.mem_cons_of_mem _ hb)) (fun b hb => hx b (List.mem_cons_of_mem _ hb))
        simp only [keepF,if_true,beq_self_eq_true,Bool.and_self]
        exact ⟨fun h => i1 h.2.2,i2⟩
theorem sumL_append:∀ (al xs:List Rat) (s a x:Rat),al.length = xs.length → sumL s (al ++ [a]) (xs ++ [x]) = sumL s al xs + a * x
  | [],[],s,a,x,_ => by simp [sumL]
  | b :: al,y :: xs,s,a,x,h => by
    simp only [List.cons_append,sumL]
    exact sumL_append al xs _ a x (by simpa using h)
theorem sumL_range (q x:Nat → Rat):∀ n,sumL 0 ((List.range n).map q) ((List.range n).map x) = sumQ n fun k => q k * x k
  | 0 => rfl
  | n + 1 => by
    rw [List.range_succ,List.map_append,List.map_append]
    show sumL 0 (_ ++ [q n]) (_ ++ [x n]) = _
    rw [sumL_append _ _ _ _ _ (by simp),sumL_range q x n]
    rfl
theorem cmp_zero {s v:Rat} (hs:limR s) (hv:limR v):(cmpF (encR s) (encR v) == 0) = decide (s = v):=by
  rw [cmpF_enc hs hv,Bool.eq_iff_iff,beq_iff_eq,decide_eq_true_eq]
  exact cmpQ_zero
/-- A row of a right system. -/
theorem row_enc {rs:List RowD} {n:Int} (h:rightS rs n = true) {i:Nat} {r:RowD} (hr:rs[i]? = some r):r.1 = vecF rs.length (matOf rs i) ∧ r.2 = encR (matOf rs i rs.length) ∧ (∀ k,k ≤ rs.length → limR (matOf rs i k)):=by
  obtain ⟨-,-,hrows⟩:=rightS_rows h
  obtain ⟨e1,e2,e3⟩:=hrows r (List.mem_of_getElem? hr)
  have hM:matOf rs i = fun k => if k < rs.length then valF (r.1.getD k zeroF) else valF r.2:=by
    funext k; unfold matOf; rw [row_get' hr]
  have hlt:∀ k,k < rs.length → r.1[k]? = some (encR (matOf rs i k)) ∧ limR (matOf rs i k):=by
    intro k hk
    obtain ⟨f,hf⟩:∃ f,r.1[k]? = some f:=⟨_,yL (by omega)⟩
    obtain ⟨q1,q2⟩:=right_enc' (e3 f (List.mem_of_getElem? hf))
    have:matOf rs i k = valF f:=by
      rw [hM]
      simp only [if_pos hk]
      rw [List.getD_eq_getElem?_getD,hf]; rfl
    rw [this,hf]
    exact ⟨congrArg some q1,q2⟩
  have hv:matOf rs i rs.length = valF r.2:=by rw [hM]; simp
  obtain ⟨v1,v2⟩:=right_enc' e2
  refine ⟨vecF_of e1 fun k hk => (hlt k hk).1,by rw [hv]; exact v1,fun k hk => ?_⟩
  rcases Nat.lt_or_ge k rs.length with h1 | h1
  · exact (hlt k h1).2
  · rw [show k = rs.length by omega,hv]; exact v2
theorem dot_row (N:Nat) (a y:Nat → Rat):dotQ N a (ext N y (-1)) = 0 ↔ sumQ N (fun k => a k * y k) = a N:=by
  rw [dot_ext]; grind
theorem mem_vec {N:Nat} {x:Nat → Rat} (h:∀ k,k < N → limR (x k)):∀ q ∈ (List.range N).map x,limR q:=by
  intro q hq
  obtain ⟨k,hk,rfl⟩:=List.mem_map.1 hq
  exact h k (List.mem_range.1 hk)
theorem holds_iff {rs:List RowD} {n:Int} (h:rightS rs n = true) {i:Nat} {r:RowD} (hr:rs[i]? = some r) {x:Nat → Rat} (hx:∀ k,k < rs.length → limR (x k)) :
    (rowHolds (vecF rs.length x) r = true → dotQ rs.length (matOf rs i) (ext rs.length x (-1)) = 0) ∧
    (okSum 0 ((List.range rs.length).map (matOf rs i)) ((List.range rs.length).map x) → dotQ rs.length (matOf rs i) (ext rs.length x (-1)) = 0 → rowHolds (vecF rs.length x) r = true):=by
  obtain ⟨e1,e2,e3⟩:=row_enc h hr
  unfold rowHolds
  rw [e1,e2,← encR_zero]
  obtain ⟨s1,s2⟩:=sumGo_enc ((List.range rs.length).map (matOf rs i)) ((List.range rs.length).map x) 0 limR_zero (mem_vec fun k hk => e3 k (by omega)) (mem_vec hx)
  rw [sumL_range] at s1 s2
  constructor
  · intro hh
    rcases hg:sumGo (encR 0) (vecF rs.length (matOf rs i)) (vecF rs.length x) with _ | f
    · rw [hg] at hh; cases hh
    · rw [hg] at hh
      obtain ⟨rfl,hl⟩:=s2 f hg
      dsimp only at hh
      rw [cmp_zero hl (e3 _ (Nat.le_refl _)),decide_eq_true_eq] at hh
      rw [dot_row]; exact hh
  · intro hok hd
    obtain ⟨g1,g2⟩:=s1 hok
    rw [dot_row] at hd
    have:sumGo (encR 0) (vecF rs.length (matOf rs i)) (vecF rs.length x) = _:=g1
    rw [this]
    dsimp only
    rw [cmp_zero g2 (e3 _ (Nat.le_refl _)),decide_eq_true_eq]
    exact hd
theorem check_true {rs:List RowD} (h:rightS rs rs.length = true) {x:List FRaw} (hx:checkX rs rs.length x = true) :
    ∃ q:Nat → Rat,x = vecF rs.length q ∧ Ann rs.length (matOf rs) (ext rs.length q (-1)):=by
  unfold checkX at hx
  simp only [Bool.and_eq_true,Bool.not_eq_true',beq_iff_eq,List.any_eq_false,List.all_eq_true] at hx
  obtain ⟨-,h2,h3,h4⟩:=hx
  have hlx:x.length = rs.length:=by omega
  have hr:∀ k,k < rs.length → x[k]? = some (encR (valF (x.getD k zeroF))) ∧ limR (valF (x.getD k zeroF)):=by
    intro k hk
    obtain ⟨f,hf⟩:∃ f,x[k]? = some f:=⟨_,yL (by omega)⟩
    have hb:=h3 f (List.mem_of_getElem? hf)
    unfold badF at hb
    obtain ⟨q1,q2⟩:=right_enc' (by simpa using hb)
    rw [List.getD_eq_getElem?_getD,hf]
    exact ⟨congrArg some q1,q2⟩
  have hxv:x = vecF rs.length fun k => valF (x.getD k zeroF):=vecF_of hlx fun k hk => (hr k hk).1
  refine ⟨_,hxv,fun i hi => ?_⟩
  obtain ⟨r,hri⟩:∃ r,rs[i]? = some r:=⟨_,yL hi⟩
  have h5:=h4 r (List.mem_of_getElem? hri)
  rw [hxv] at h5
  exact (holds_iff h hri fun k hk => (hr k hk).2).1 h5
theorem check_of {rs:List RowD} (h:rightS rs rs.length = true) {q:Nat → Rat} (hq:∀ k,k < rs.length → limR (q k)) (hA:Ann rs.length (matOf rs) (ext rs.length q (-1)))
    (hok:∀ i,i < rs.length → okSum 0 ((List.range rs.length).map (matOf rs i)) ((List.range rs.length).map q)):checkX rs rs.length (vecF rs.length q) = true:=by
  unfold checkX
  simp only [Bool.and_eq_true,Bool.not_eq_true',beq_iff_eq,List.any_eq_false,List.all_eq_true]
  refine ⟨h,by rw [vecF_len],fun f hf => ?_,fun r hr => ?_⟩
  · obtain ⟨k,hk⟩:=List.mem_iff_getElem?.1 hf
    have hkN:k < rs.length:=by have:=(List.getElem?_eq_some_iff.1 hk).1; rwa [vecF_len] at this
    rw [vecF_get q hkN] at hk
    cases hk
    unfold badF
    rw [rightF_enc (hq k hkN)]
    simp
  · obtain ⟨i,hi⟩:=List.mem_iff_getElem?.1 hr
    have hiN:=(List.getElem?_eq_some_iff.1 hi).1
    exact (holds_iff h hi hq).2 (hok i hiN) (hA i hiN)
/-! ### homogeneous -/
theorem homog_len (rs:List RowD):(homog rs).length = rs.length:=by simp [homog]
theorem right_numF:rightF (numF 0) = true:=rightF_enc limR_zero
theorem right_of {rs:List RowD} (h40:rs.length ≤ 40) (h:∀ r ∈ rs,r.1.length = rs.length ∧ rightF r.2 = true ∧ ∀ f ∈ r.1,rightF f = true):rightS rs rs.length = true:=by
  unfold rightS
  simp only [Bool.and_eq_true,Bool.not_eq_true',decide_eq_false_iff_not,beq_iff_eq,List.any_eq_false]
  refine ⟨by omega,by omega,trivial,fun r hr => ?_⟩
  obtain ⟨e1,e2,e3⟩:=h r hr
  have h1:((r.1.length:Int) == (rs.length:Int)) = true:=by rw [beq_iff_eq]; omega
  have h3:r.1.any badF = false:=by
    rw [List.any_eq_false]
    intro f hf
    unfold badF
    simp [e3 f hf]
  unfold badRow
  rw [h1,e2,h3]
  decide
theorem homog_right {rs:List RowD} (h:rightS rs rs.length = true):rightS (homog rs) (homog rs).length = true:=by
  obtain ⟨-,h40,hrows⟩:=rightS_rows h
  refine right_of (by rw [homog_len]; exact h40) fun r hr => ?_
  unfold homog at hr
  obtain ⟨s,hs,rfl⟩:=List.mem_map.1 hr
  obtain ⟨e1,e2,e3⟩:=hrows s hs
  exact ⟨by rw [homog_len]; exact e1,right_numF,e3⟩
theorem few_numF:fewF (numF 0) 1 = true:=by rw [numF_zero]; rfl
theorem homog_few {rs:List RowD} (h:fewRows rs 3 1 = true):fewRows (homog rs) 3 1 = true:=by
  unfold fewRows at h ⊢
  unfold fewRow at h ⊢
  simp only [Bool.and_eq_true,decide_eq_true_eq,List.all_eq_true] at h ⊢
  refine ⟨by rw [homog_len]; exact h.1,fun r hr => ?_⟩
  unfold homog at hr
  obtain ⟨s,hs,rfl⟩:=List.mem_map.1 hr
  exact ⟨(h.2 s hs).1,few_numF⟩
theorem valF_num0:valF (numF 0) = 0:=valF_enc 0
theorem homog_mat {rs:List RowD} {i:Nat} (hi:i < rs.length) (k:Nat):matOf (homog rs) i k = if k < rs.length then matOf rs i k else 0:=by
  obtain ⟨r,hr⟩:∃ r,rs[i]? = some r:=⟨_,yL hi⟩
  have hh:(homog rs)[i]? = some (r.1,numF 0):=by unfold homog; rw [yK,hr]; rfl
  unfold matOf
  rw [row_get' hr,row_get' hh,homog_len]
  split
  · rfl
  · exact valF_num0
theorem homog_ann {rs:List RowD} (y:Nat → Rat) (z:Rat):Ann rs.length (matOf (homog rs)) (ext rs.length y z) ↔ Ann rs.length (matOf rs) (ext rs.length y 0):=by
  have:∀ i,i < rs.length → dotQ rs.length (matOf (homog rs) i) (ext rs.length y z) = dotQ rs.length (matOf rs i) (ext rs.length y 0):=by
    intro i hi
    rw [dot_ext,dot_ext,homog_mat hi rs.length,if_neg (by omega),sumQ_congr (g:=fun k => matOf rs i k * y k) fun k hk => by rw [homog_mat hi k,if_pos hk]]
    grind
  constructor
  · intro h i hi; rw [← this i hi]; exact h i hi
  · intro h i hi; rw [this i hi]; exact h i hi
/-! ### Sums that are not too great -/
theorem szR_zero:szR 0 0:=⟨by decide,by decide⟩
theorem addOK_zero {x:Rat} {b:Nat} (h:szR b x) (hb:b + 1 < 1200):addOK 0 x = true:=sz_addOK szR_zero h (by omega)
/-- Elements of at most 243 binary digits. -/
theorem sum_small {N:Nat} (hN:N ≤ 3) {q x:Nat → Rat} (hq:∀ k,k < N → szR 20 (q k)) (hx:∀ k,k < N → szR 243 (x k)):okSum 0 ((List.range N).map q) ((List.range N).map x):=by
  have hp:∀ k,k < N → szR 263 (q k * x k):=fun k hk => sz_mul (hq k hk) (hx k hk)
  have hm:∀ k,k < N → mulOK (q k) (x k) = true:=fun k hk => sz_mulOK (hq k hk) (hx k hk) (by omega)
  rcases N with _ | _ | _ | _ | N
  · trivial
  · exact ⟨hm 0 (by omega),addOK_zero (hp 0 (by omega)) (by omega),trivial⟩
  · refine ⟨hm 0 (by omega),addOK_zero (hp 0 (by omega)) (by omega),hm 1 (by omega),?_,trivial⟩
    rw [Rat.zero_add]
    exact sz_addOK (hp 0 (by omega)) (hp 1 (by omega)) (by omega)
  · refine ⟨hm 0 (by omega),addOK_zero (hp 0 (by omega)) (by omega),hm 1 (by omega),?_,hm 2 (by omega),?_,trivial⟩
    · rw [Rat.zero_add]
      exact sz_addOK (hp 0 (by omega)) (hp 1 (by omega)) (by omega)
    · rw [Rat.zero_add]
      exact sz_addOK (sz_add (hp 0 (by omega)) (hp 1 (by omega))) (hp 2 (by omega)) (by omega)
  · omega
/-- Elements of at most 567 binary digits, whose whole sum has 20. -/
theorem sum_solved {N:Nat} (hN:N ≤ 3) {q x:Nat → Rat} {v:Rat} (hq:∀ k,k < N → szR 20 (q k)) (hx:∀ k,k < N → szR 567 (x k)) (hv:szR 20 v) (hs:sumQ N (fun k => q k * x k) = v):okSum 0 ((List.range N).map q) ((List.range N).map x):=by
  have hp:∀ k,k < N → szR 587 (q k * x k):=fun k hk => sz_mul (hq k hk) (hx k hk)
  have hm:∀ k,k < N → mulOK (q k) (x k) = true:=fun k hk => sz_mulOK (hq k hk) (hx k hk) (by omega)
  rcases N with _ | _ | _ | _ | N
  · trivial
  · exact ⟨hm 0 (by omega),addOK_zero (hp 0 (by omega)) (by omega),trivial⟩
  · refine ⟨hm 0 (by omega),addOK_zero (hp 0 (by omega)) (by omega),hm 1 (by omega),?_,trivial⟩
    rw [Rat.zero_add]
    exact sz_addOK (hp 0 (by omega)) (hp 1 (by omega)) (by omega)
  · refine ⟨hm 0 (by omega),addOK_zero (hp 0 (by omega)) (by omega),hm 1 (by omega),?_,hm 2 (by omega),?_,trivial⟩
    · rw [Rat.zero_add]
      exact sz_addOK (hp 0 (by omega)) (hp 1 (by omega)) (by omega)
    · have e:(0:Rat) + q 0 * x 0 + q 1 * x 1 = v + -(q 2 * x 2):=by
        simp only [sumQ] at hs
        rw [← hs]; grind
      show addOK (0 + q 0 * x 0 + q 1 * x 1) (q 2 * x 2) = true
      rw [e]
      exact sz_addOK (sz_add hv (szR_neg (hp 2 (by omega)))) (hp 2 (by omega)) (by omega)
  · omega
end Go.Mini
namespace Go.Mini
open Go
set_option maxRecDepth 10000
set_option maxHeartbeats 1000000
theorem bd_567 {N p:Nat} {Q:Mat} (h:Bd N Q p) (hN:N ≤ 3) (hp:p ≤ N) {i k:Nat} (hi:i < N) (hk:k ≤ N):szR 567 (Q i k):=by
  refine ((h i hi).sz hk).mono ?_
  split
  · have:p ≤ 3:=by omega
    rcases p with _ | _ | _ | _ | p
    · decide
    · decide
    · decide
    · decide
    · omega
  · rcases p with _ | _ | _ | p
    · decide
    · decide
    · decide
    · omega
theorem solved_sz {rs:List RowD} (hf:fewRows rs 3 1 = true) (hr:rightS rs rs.length = true) {x:Nat → Rat} (he:solveX rs rs.length = (vecF rs.length x,0)):∀ k,k < rs.length → szR 567 (x k):=by
  obtain ⟨rows',free',Q',p',c',pv',hx,hE,hB,hp,-⟩:=elimS_ok3 true hf hr
  unfold solveX at he
  rw [if_pos hr,hx] at he
  simp only [yH,if_false] at he
  split at he
  · have:=congrArg Prod.snd he
    exact absurd this (show ¬ ((17:Int) = 0) by decide)
  · have h1:rows'.map (lastOf rs.length) = vecF rs.length x:=congrArg Prod.fst he
    rw [rows_last hE.enc] at h1
    intro k hk
    have h2:(vecF rs.length _)[k]? = (vecF rs.length _)[k]?:=congrArg (fun l:List FRaw => l[k]?) h1
    rw [vecF_get _ hk,vecF_get _ hk] at h2
    have h3:=encR_inj (Option.some.inj h2)
    rw [← h3]
    exact bd_567 hB (few_rows hf).1 hp hk (Nat.le_refl _)
theorem kernel_sz {rs:List RowD} (hf:fewRows rs 3 1 = true) (hr:rightS rs rs.length = true) {y:Nat → Rat} (he:kernX rs rs.length = (vecF rs.length y,true)):∀ k,k < rs.length → szR 243 (y k):=by
  obtain ⟨rows',free',Q',p',c',pv',hx,hE,hB,hp,hfree⟩:=elimS_ok3 true hf hr
  unfold kernX at he
  rw [if_pos hr,hx] at he
  rcases hfree rfl with rfl | ⟨rfl,hpN⟩
  · simp at he
  · simp only [Bool.false_or,List.length_singleton,List.headD_cons] at he
    rw [if_neg (by simp)] at he
    have h1:kerP rows' p' rs.length p' = vecF rs.length y:=congrArg Prod.fst he
    rw [ker_enc hE.enc hpN] at h1
    intro k hk
    have h2:(vecF rs.length _)[k]? = (vecF rs.length _)[k]?:=congrArg (fun l:List FRaw => l[k]?) h1
    rw [vecF_get _ hk,vecF_get _ hk] at h2
    have h3:=encR_inj (Option.some.inj h2)
    rw [← h3]
    unfold kerQ
    split
    · rename_i hkp
      have:=((hB k hk).sz (k:=p') (by omega))
      rw [if_pos hkp] at this
      have e:(0:Rat) - Q' k p' = -(Q' k p'):=by grind
      rw [e]
      refine (szR_neg this).mono ?_
      have:=(few_rows hf).1
      rcases p' with _ | _ | _ | p'
      · decide
      · decide
      · decide
      · omega
    · split
      · exact ⟨Nat.one_le_two_pow,Nat.one_le_two_pow⟩
      · exact szR_zero.mono (by omega)
theorem lim_few {rs:List RowD} (hf:fewRows rs 3 1 = true):rs.length ≤ 40:=by have:=(few_rows hf).1; omega
theorem only_law (rs:List RowD) (x:List FRaw):OnlyP rs x:=by
  intro hf hx hr
  have hN:=(few_rows hf).1
  rcases solve_cases hr with e | ⟨q,e,k0,lim,sol⟩ | ⟨y,e,ke,lim,ann,j,hj,hyj⟩
  · exact absurd e (solve_ok3 hf hr)
  · left
    refine ⟨vecF rs.length q,e,k0,vecF_ok (by omega) lim,?_,?_⟩
    · have hA:Ann rs.length (matOf rs) (ext rs.length q (-1)):=(sol.1 q).2 fun _ _ => rfl
      exact check_of hr lim hA fun i hi => sum_solved hN (fun k hk => mat_sz hf hr hi k) (solved_sz hf hr e) (mat_sz hf hr hi rs.length) ((dot_row _ _ _).1 (hA i hi))
    · intro hc
      obtain ⟨q',rfl,hA'⟩:=check_true hr hc
      exact decide_eq_true (vecF_congr ((sol.1 q').1 hA'))
  · right
    refine ⟨vecF rs.length y,e,ke,vecF_ok (by omega) lim,vecF_len _ _,?_,okRows_few (homog_few hf),?_⟩
    · rw [List.all_eq_false]
      refine ⟨encR (y j),List.mem_of_getElem? (vecF_get y hj),?_⟩
      have:=zeroQ_enc (y j)
      unfold zeroQ at this
      rw [this,hyj]
      decide
    · have hh:=homog_right hr
      have:=check_of (rs:=homog rs) hh (q:=y) (by rw [homog_len]; exact lim) (by rw [homog_len]; exact (homog_ann y (-1)).2 ann) (fun i hi => by
        have hi':i < rs.length:=by rwa [homog_len] at hi
        have hs:=kernel_sz hf hr ke
        rw [homog_len]
        exact sum_small hN (fun k hk => by rw [homog_mat hi' k,if_pos hk]; exact mat_sz hf hr hi' k) hs)
      rw [homog_len] at this
      exact this
end Go.Mini
namespace Go.Mini
open Go
set_option maxRecDepth 10000
set_option maxHeartbeats 1000000
theorem rows_right {rs:List RowD} (h:rightS rs rs.length = true) {i:Nat} {r:RowD} (hr:rs[i]? = some r):r.1.length = rs.length ∧ rightF r.2 = true ∧ ∀ f ∈ r.1,rightF f = true:=by
  obtain ⟨-,-,hrows⟩:=rightS_rows h
  exact hrows r (List.mem_of_getElem? hr)
theorem rows_few' {rs:List RowD} (h:fewRows rs 3 1 = true) {i:Nat} {r:RowD} (hr:rs[i]? = some r):fewF r.2 1 = true ∧ ∀ f ∈ r.1,fewF f 1 = true:=by
  obtain ⟨h1,h2⟩:=(few_rows h).2 r (List.mem_of_getElem? hr)
  exact ⟨h2,(few_list h1).2⟩
theorem few_enc {f:FRaw} (hr:rightF f = true) (hf:fewF f 1 = true):∃ q,f = encR q ∧ limR q ∧ szR 20 q:=by
  obtain ⟨e,l⟩:=right_enc' hr
  exact ⟨valF f,e,l,few_sz hr hf⟩
theorem mul_few {a f:FRaw} (ha:rightF a = true) (fa:fewF a 1 = true) (hf:rightF f = true) (ff:fewF f 1 = true):mulF a f = (encR (valF a * valF f),0) ∧ limR (valF a * valF f):=by
  obtain ⟨x,rfl,lx,sx⟩:=few_enc ha fa
  obtain ⟨y,rfl,ly,sy⟩:=few_enc hf ff
  rw [valF_enc,valF_enc]
  have hm:mulOK x y = true:=sz_mulOK sx sy (by omega)
  exact ⟨by rw [mulF_enc lx ly,hm]; rfl,mul_lim hm⟩
theorem add_few {a f:FRaw} (ha:rightF a = true) (fa:fewF a 1 = true) (hf:rightF f = true) (ff:fewF f 1 = true):addF a f = (encR (valF a + valF f),0) ∧ limR (valF a + valF f):=by
  obtain ⟨x,rfl,lx,sx⟩:=few_enc ha fa
  obtain ⟨y,rfl,ly,sy⟩:=few_enc hf ff
  rw [valF_enc,valF_enc]
  have hm:addOK x y = true:=sz_addOK sx sy (by omega)
  exact ⟨by rw [addF_enc lx ly,hm]; rfl,add_lim hm⟩
/-- A system with one row replaced. -/
theorem right_set {rs:List RowD} (h:rightS rs rs.length = true) {a:Nat} {r:RowD} (h1:r.1.length = rs.length) (h2:rightF r.2 = true) (h3:∀ f ∈ r.1,rightF f = true):rightS (rs.set a r) rs.length = true:=by
  obtain ⟨-,h40,hrows⟩:=rightS_rows h
  have:=right_of (rs:=rs.set a r) (by rw [List.length_set]; exact h40) fun s hs => by
    rw [List.length_set]
    rcases List.mem_or_eq_of_mem_set hs with hs | rfl
    · exact hrows s hs
    · exact ⟨h1,h2,h3⟩
  rwa [List.length_set] at this
theorem mat_set {rs:List RowD} {a i:Nat} {r:RowD} (hi:i < rs.length) (k:Nat):matOf (rs.set a r) i k = if i = a then (if k < rs.length then valF (r.1.getD k zeroF) else valF r.2) else matOf rs i k:=by
  unfold matOf
  rw [List.length_set]
  by_cases h:i = a
  · have hg:(rs.set a r)[i]? = some r:=by rw [List.getElem?_set,h,if_pos rfl,if_pos (by omega)]
    rw [if_pos h,row_get' hg]
  · have hg:(rs.set a r).getD i ([],zeroF) = rs.getD i ([],zeroF):=by
      rw [List.getD_eq_getElem?_getD,List.getD_eq_getElem?_getD,List.getElem?_set,if_neg (Ne.symm h)]
    rw [if_neg h,hg]
theorem mat_row {rs:List RowD} {i:Nat} {r:RowD} (hr:rs[i]? = some r) (k:Nat):matOf rs i k = if k < rs.length then valF (r.1.getD k zeroF) else valF r.2:=by
  unfold matOf
  rw [row_get' hr]
theorem dot_congr {N:Nat} {a b y:Nat → Rat} (h:∀ k,k ≤ N → a k = b k):dotQ N a y = dotQ N b y:=sumQ_congr fun k hk => by rw [h k (by omega)]
theorem mem_getD {l:List FRaw} {k:Nat} (h:k < l.length):l.getD k zeroF ∈ l:=by
  rw [List.getD_eq_getElem?_getD,yL h]
  exact List.getElem_mem h
theorem times_row {rs:List RowD} (hf:fewRows rs 3 1 = true) (hr:rightS rs rs.length = true) {i:Nat} {r:RowD} (hri:rs[i]? = some r) {f:FRaw} (rf:rightF f = true) (ff:fewF f 1 = true) :
    timesOK r f ∧ (timesX r f).1.length = rs.length ∧ rightF (timesX r f).2 = true ∧ (∀ g ∈ (timesX r f).1,rightF g = true) ∧ okRow (timesX r f) ∧
    ∀ k,k ≤ rs.length → (if k < rs.length then valF ((timesX r f).1.getD k zeroF) else valF (timesX r f).2) = matOf rs i k * valF f:=by
  obtain ⟨e1,e2,e3⟩:=rows_right hr hri
  obtain ⟨f1,f2⟩:=rows_few' hf hri
  have h40:=lim_few hf
  have hm:=fun a (ha:a ∈ r.1) => mul_few (e3 a ha) (f2 a ha) rf ff
  have hv:=mul_few e2 f1 rf ff
  unfold timesX timesOK
  dsimp only
  refine ⟨⟨fun a ha => by rw [(hm a ha).1],by rw [hv.1]⟩,by rw [yJ,e1],by rw [hv.1]; exact rightF_enc hv.2,fun g hg => ?_,⟨⟨by rw [yJ]; omega,fun g hg => ?_⟩,?_⟩,fun k hk => ?_⟩
  · obtain ⟨a,ha,rfl⟩:=List.mem_map.1 hg
    rw [(hm a ha).1]; exact rightF_enc (hm a ha).2
  · obtain ⟨a,ha,rfl⟩:=List.mem_map.1 hg
    exact okF_mul _ _
  · exact okF_mul _ _
  · rw [mat_row hri]
    by_cases hk2:k < rs.length
    · rw [if_pos hk2,if_pos hk2]
      have hmem:=mem_getD (l:=r.1) (k:=k) (by omega)
      have:(r.1.map fun a => (mulF a f).1).getD k zeroF = (mulF (r.1.getD k zeroF) f).1:=by
        rw [List.getD_eq_getElem?_getD,yK,List.getD_eq_getElem?_getD,yL (by omega)]
        rfl
      rw [this,(hm _ hmem).1,valF_enc]
    · rw [if_neg hk2,if_neg hk2,hv.1,valF_enc]
theorem plus_row {rs:List RowD} (hf:fewRows rs 3 1 = true) (hr:rightS rs rs.length = true) {i j:Nat} {r s:RowD} (hri:rs[i]? = some r) (hsj:rs[j]? = some s) :
    plusOK r s ∧ (plusX r s).1.length = rs.length ∧ rightF (plusX r s).2 = true ∧ (∀ g ∈ (plusX r s).1,rightF g = true) ∧ okRow (plusX r s) ∧
    ∀ k,k ≤ rs.length → (if k < rs.length then valF ((plusX r s).1.getD k zeroF) else valF (plusX r s).2) = matOf rs i k + matOf rs j k:=by
  obtain ⟨e1,e2,e3⟩:=rows_right hr hri
  obtain ⟨f1,f2⟩:=rows_few' hf hri
  obtain ⟨e1',e2',e3'⟩:=rows_right hr hsj
  obtain ⟨f1',f2'⟩:=rows_few' hf hsj
  have h40:=lim_few hf
  have hm:=fun a b (ha:a ∈ r.1) (hb:b ∈ s.1) => add_few (e3 a ha) (f2 a ha) (e3' b hb) (f2' b hb)
  have hv:=add_few e2 f1 e2' f1'
  have hz:∀ g ∈ List.zipWith (fun a b => (addF a b).1) r.1 s.1,rightF g = true:=by
    intro g hg
    obtain ⟨k,hk⟩:=List.mem_iff_getElem?.1 hg
    rw [List.getElem?_zipWith] at hk
    cases ha:r.1[k]? with
    | none => rw [ha] at hk; cases hk
    | some a => cases hb:s.1[k]? with
      | none => rw [ha,hb] at hk; cases hk
      | some b =>
        rw [ha,hb] at hk
        cases hk
        have:=hm a b (List.mem_of_getElem? ha) (List.mem_of_getElem? hb)
        rw [this.1]; exact rightF_enc this.2
  unfold plusX plusOK
  dsimp only
  refine ⟨⟨by omega,fun k a b ha hb => by rw [(hm a b (List.mem_of_getElem? ha) (List.mem_of_getElem? hb)).1],by rw [hv.1]⟩,by rw [List.length_zipWith]; omega,by rw [hv.1]; exact rightF_enc hv.2,hz,⟨⟨by rw [List.length_zipWith]; omega,fun g hg => ?_⟩,okF_add _ _⟩,fun k hk => ?_⟩
  · obtain ⟨q,hq,rfl⟩:=(rightF_iff _).1 (hz g hg)
    exact okF_enc hq
  · rw [mat_row hri,mat_row hsj]
    by_cases hk2:k < rs.length
    · rw [if_pos hk2,if_pos hk2,if_pos hk2]
      have m1:=mem_getD (l:=r.1) (k:=k) (by omega)
      have m2:=mem_getD (l:=s.1) (k:=k) (by omega)
      have:(List.zipWith (fun a b => (addF a b).1) r.1 s.1).getD k zeroF = (addF (r.1.getD k zeroF) (s.1.getD k zeroF)).1:=by
        rw [List.getD_eq_getElem?_getD,List.getElem?_zipWith,List.getD_eq_getElem?_getD,List.getD_eq_getElem?_getD,yL (show k < r.1.length by omega),yL (show k < s.1.length by omega)]
        rfl
      rw [this,(hm _ _ m1 m2).1,valF_enc]
    · rw [if_neg hk2,if_neg hk2,if_neg hk2,hv.1,valF_enc]
theorem okRows_set {rs:List RowD} (h:okRows rs) {a:Nat} {r:RowD} (hr:okRow r):okRows (rs.set a r):=by
  refine ⟨by rw [List.length_set]; exact h.1,fun s hs => ?_⟩
  rcases List.mem_or_eq_of_mem_set hs with hs | rfl
  · exact h.2 s hs
  · exact hr
/-- The solutions stay when a row becomes a combination of it and another one, of which there is some. -/
theorem ann_set {rs:List RowD} {a:Nat} {r:RowD} (ha:a < rs.length) (y:Nat → Rat) (h:dotQ rs.length (matOf (rs.set a r) a) y = 0 ↔ dotQ rs.length (matOf rs a) y = 0):Ann rs.length (matOf (rs.set a r)) y ↔ Ann rs.length (matOf rs) y:=by
  have hs:∀ i,i < rs.length → i ≠ a → dotQ rs.length (matOf (rs.set a r) i) y = dotQ rs.length (matOf rs i) y:=fun i hi hia => dot_congr fun k _ => by rw [mat_set hi,if_neg hia]
  constructor
  · intro hh i hi
    by_cases hia:i = a
    · rw [hia]; exact h.1 (by have:=hh a ha; exact this)
    · rw [← hs i hi hia]; exact hh i hi
  · intro hh i hi
    by_cases hia:i = a
    · rw [hia]; exact h.2 (hh a ha)
    · rw [hs i hi hia]; exact hh i hi
theorem nonzero {f:FRaw} (hr:rightF f = true) (h:(f.1.1 == 0) = false):valF f ≠ 0:=by
  obtain ⟨e,-⟩:=right_enc' hr
  rw [e] at h
  have:=zeroQ_enc (valF f)
  unfold zeroQ at this
  rw [this] at h
  simpa using h
theorem moves_law (rs:List RowD) (i k:Nat) (f:FRaw):MovesP rs i k f:=by
  intro hf ff hr hpos rf hnz ra rb hra hrb
  have ha:=Nat.mod_lt i hpos
  have hb:=Nat.mod_lt k hpos
  have okr:=okRows_few hf
  have hok:=solve_ok3 hf hr
  obtain ⟨t1,t2,t3,t4,t5,t6⟩:=times_row hf hr hra rf ff
  obtain ⟨p1,p2,p3,p4,p5,p6⟩:=plus_row hf hr hra hrb
  have okl:okL (solveX rs rs.length).1:=by
    rcases solve_cases hr with e | ⟨q,e,-,lim,-⟩ | ⟨y,e,-⟩
    · exact absurd e hok
    · rw [e]; exact vecF_ok (lim_few hf) lim
    · rw [e]; exact ⟨by simp,by simp⟩
  generalize i % rs.length = a at *
  generalize k % rs.length = b at *
  refine ⟨t1,p1,okRows_set okr t5,?_,okl,?_,?_,?_⟩
  · unfold addedX
    split
    · exact okr
    · exact okRows_set okr p5
  · refine solve_same (rs':=scaledX rs a ra f) (List.length_set ..) hr (right_set hr t2 t3 t4) (fun y => ann_set ha y ?_) hok
    have:dotQ rs.length (matOf (rs.set a (timesX ra f)) a) y = dotQ rs.length (matOf rs a) y * valF f:=by
      rw [← dot_smul]
      exact dot_congr fun k hk => by rw [mat_set ha,if_pos rfl]; exact t6 k hk
    have hne:=nonzero rf hnz
    rw [this]
    generalize dotQ rs.length (matOf rs a) y = d
    constructor
    · intro h; grind
    · intro h; grind
  · unfold addedX
    by_cases hab:a = b
    · rw [if_pos hab]; exact .inl rfl
    · rw [if_neg hab]
      refine solve_same (rs':=rs.set a (plusX ra rb)) (List.length_set ..) hr (right_set hr p2 p3 p4) (fun y => ?_) hok
      have e:dotQ rs.length (matOf (rs.set a (plusX ra rb)) a) y = dotQ rs.length (matOf rs a) y + dotQ rs.length (matOf rs b) y:=by
        rw [← dot_add]
        exact dot_congr fun k hk => by rw [mat_set ha,if_pos rfl]; exact p6 k hk
      have hs:∀ i,i < rs.length → i ≠ a → dotQ rs.length (matOf (rs.set a (plusX ra rb)) i) y = dotQ rs.length (matOf rs i) y:=fun i hi hia => dot_congr fun k _ => by rw [mat_set hi,if_neg hia]
      constructor
      · intro hh
        have hb0:dotQ rs.length (matOf rs b) y = 0:=by rw [← hs b hb (Ne.symm hab)]; exact hh b hb
        exact (ann_set ha y (by rw [e,hb0]; constructor <;> intro h <;> grind)).1 hh
      · intro hh
        exact (ann_set ha y (by rw [e,hh b hb]; constructor <;> intro h <;> grind)).2 hh
  · have hta:matOf (turnedX rs a b ra rb) = fun i => matOf (turnedX rs a b ra rb) i:=rfl
    have hl:(turnedX rs a b ra rb).length = rs.length:=by unfold turnedX; rw [List.length_set,List.length_set]
    have hmem:∀ r ∈ turnedX rs a b ra rb,r ∈ rs:=by
      intro r hrm
      unfold turnedX at hrm
      rcases List.mem_or_eq_of_mem_set hrm with hrm | rfl
      · rcases List.mem_or_eq_of_mem_set hrm with hrm | rfl
        · exact hrm
        · exact List.mem_of_getElem? hrb
      · exact List.mem_of_getElem? hra
    have hf':fewRows (turnedX rs a b ra rb) 3 1 = true:=by
      unfold fewRows at hf ⊢
      simp only [Bool.and_eq_true,decide_eq_true_eq,List.all_eq_true] at hf ⊢
      exact ⟨by rw [hl]; exact hf.1,fun r hrm => hf.2 r (hmem r hrm)⟩
    have hr':rightS (turnedX rs a b ra rb) (turnedX rs a b ra rb).length = true:=by
      obtain ⟨-,h40,hrows⟩:=rightS_rows hr
      exact right_of (by rw [hl]; exact h40) fun r hrm => by rw [hl]; exact hrows r (hmem r hrm)
    have hok':=solve_ok3 hf' hr'
    rw [hl] at hr' hok'
    refine (solve_same hl hr hr' (fun y => ?_) hok).resolve_right hok'
    have hsw:∀ i,i < rs.length → ∀ k,matOf (turnedX rs a b ra rb) i k = swapQ (matOf rs) a b i k:=by
      intro i hi k
      unfold turnedX swapQ
      rw [mat_set (by rw [List.length_set]; exact hi),List.length_set]
      by_cases h1:i = b
      · rw [if_pos h1,if_pos h1,mat_row hra]
      · rw [if_neg h1,if_neg h1,mat_set hi]
        by_cases h2:i = a
        · rw [if_pos h2,if_pos h2,mat_row hrb]
        · rw [if_neg h2,if_neg h2]
    rw [← ann_swap (A:=matOf rs) ha hb]
    unfold Ann
    constructor
    · intro h i hi; rw [← dot_congr fun k _ => hsw i hi k]; exact h i hi
    · intro h i hi; rw [dot_congr fun k _ => hsw i hi k]; exact h i hi
end Go.Mini
namespace Go.Mini
open Go
set_option maxRecDepth 10000
set_option maxHeartbeats 1000000
theorem elimX_grow (stop:Bool):∀ (k c:Nat) (rows:List MR) (free:List Nat) (bad:Bool),free.length ≤ (elimX stop k c rows free bad).2.1.length
  | 0,_,rows,free,bad => by simp [elimX]
  | k + 1,c,rows,free,true => by simp [elimX]
  | k + 1,c,rows,free,false => by
    unfold elimX
    split
    · split
      · simp
      · have:=elimX_grow stop k (c + 1) (pivX rows (c - free.length) c).2.1 (free ++ [c]) (pivX rows (c - free.length) c).2.2
        simp at this; omega
    · exact elimX_grow stop k (c + 1) _ free _
theorem elimX_stop:∀ (k c:Nat) (rows:List MR) (bad:Bool),((elimX true k c rows [] bad).2.1 = [] → elimX false k c rows [] bad = elimX true k c rows [] bad) ∧ ((elimX true k c rows [] bad).2.1 ≠ [] → 0 < (elimX false k c rows [] bad).2.1.length)
  | 0,_,rows,bad => by simp [elimX]
  | k + 1,c,rows,true => by simp [elimX]
  | k + 1,c,rows,false => by
    unfold elimX
    by_cases h:(pivX rows (c - ([]:List Nat).length) c).1 = true
    · rw [if_pos h,if_pos h]
      simp only [if_true,yH,if_false]
      refine ⟨fun hh => absurd hh (by simp),fun _ => ?_⟩
      have:=elimX_grow false k (c + 1) (pivX rows (c - ([]:List Nat).length) c).2.1 ([] ++ [c]) (pivX rows (c - ([]:List Nat).length) c).2.2
      simp only [List.nil_append,List.length_singleton] at this
      exact this
    · rw [if_neg h,if_neg h]
      exact elimX_stop k (c + 1) _ _
theorem red_ann {N p:Nat} {Q:Mat} {pv:Nat → Nat} (h:Red N Q p N pv) {y:Nat → Rat} (hy:∀ i,i < p → sumQ N (fun k => Q i k * y k) = 0):Ann N Q (ext N y 0):=by
  intro i hi
  rw [dot_ext]
  rcases Nat.lt_or_ge i p with hlt | hge
  · rw [hy i hlt]; grind
  · rw [sumQ_zero fun k hk => by rw [h.zero i hge hi k hk,Rat.zero_mul]]; grind
structure RankOf (rs:List RowD) (p:Nat):Prop where
  val:rankX rs rs.length = ((p:Int),0)
  le:p ≤ rs.length
  red:∃ Q pv,Red rs.length Q p rs.length pv ∧ ∀ y,Ann rs.length Q y ↔ Ann rs.length (matOf rs) y
theorem rank_ok3 {rs:List RowD} (hf:fewRows rs 3 1 = true) (hr:rightS rs rs.length = true):∃ p,RankOf rs p ∧ ∃ free rows,elimS false rs = (rows,free,false) ∧ p + free.length = rs.length:=by
  obtain ⟨rows',free',-,-,-,-,hx,-⟩:=elimS_ok3 false hf hr
  obtain ⟨Q,p,c,pv,he,h1,-⟩:=elimS_spec false hr hx
  obtain ⟨rfl,h2⟩:=h1 rfl
  refine ⟨p,⟨?_,by omega,Q,pv,he.red,he.ann⟩,free',rows',hx,h2⟩
  unfold rankX
  rw [if_pos hr,hx]
  simp only [yH,if_false]
  rw [Prod.mk.injEq]
  exact ⟨by omega,rfl⟩
theorem rank_mono {rs rs':List RowD} {p p':Nat} (hl:rs'.length = rs.length) (h:RankOf rs p) (h':RankOf rs' p') (ha:∀ y,Ann rs.length (matOf rs) (ext rs.length y 0) → Ann rs.length (matOf rs') (ext rs.length y 0)):p' ≤ p:=by
  obtain ⟨Q,pv,hr,hq⟩:=h.red
  obtain ⟨Q',pv',hr',hq'⟩:=h'.red
  rw [hl] at hr' hq'
  exact rank_le hr' Q fun y hy => (hq' _).2 (ha y ((hq _).1 (red_ann hr hy)))
theorem rank_plus {rs rs':List RowD} {p p':Nat} (hl:rs'.length = rs.length) (h:RankOf rs p) (h':RankOf rs' p') (a:Nat → Rat) (ha:∀ y,Ann rs.length (matOf rs) (ext rs.length y 0) → sumQ rs.length (fun k => a k * y k) = 0 → Ann rs.length (matOf rs') (ext rs.length y 0)):p' ≤ p + 1:=by
  obtain ⟨Q,pv,hr,hq⟩:=h.red
  obtain ⟨Q',pv',hr',hq'⟩:=h'.red
  rw [hl] at hr' hq'
  refine rank_le (m:=p + 1) hr' (fun i => if i < p then Q i else a) fun y hy => (hq' _).2 (ha y ((hq _).1 (red_ann hr fun i hi => ?_)) ?_)
  · have:=hy i (by omega)
    simp only [if_pos hi] at this
    exact this
  · have:=hy p (by omega)
    simp only [if_neg (Nat.lt_irrefl p)] at this
    exact this
/-- A row that follows from the others. -/
theorem rank_less {rs:List RowD} {p a:Nat} (h:RankOf rs p) (ha:a < rs.length) (hf:∀ y:Nat → Rat,(∀ i,i < rs.length → i ≠ a → sumQ rs.length (fun k => matOf rs i k * y k) = 0) → sumQ rs.length (fun k => matOf rs a k * y k) = 0):p < rs.length:=by
  obtain ⟨Q,pv,hr,hq⟩:=h.red
  have:=rank_le (m:=rs.length - 1) hr (fun i => matOf rs (if i < a then i else i + 1)) fun y hy => (hq _).2 fun i hi => ?_
  · omega
  · have hall:∀ i,i < rs.length → i ≠ a → sumQ rs.length (fun k => matOf rs i k * y k) = 0:=by
      intro i hi hia
      rcases Nat.lt_or_ge i a with hlt | hge
      · have:=hy i (by omega)
        rwa [if_pos hlt] at this
      · have:=hy (i - 1) (by omega)
        rwa [if_neg (by omega),show i - 1 + 1 = i by omega] at this
    rw [dot_ext]
    by_cases hia:i = a
    · rw [hia,hf y hall]; grind
    · rw [hall i hi hia]; grind
theorem ann_rows {N:Nat} {M:Mat} {y:Nat → Rat}:Ann N M (ext N y 0) ↔ ∀ i,i < N → sumQ N (fun k => M i k * y k) = 0:=by
  unfold Ann
  constructor
  · intro h i hi
    have:=h i hi
    rw [dot_ext] at this
    grind
  · intro h i hi
    rw [dot_ext,h i hi]; grind
theorem rank_law (rs:List RowD) (i k:Nat):RankP rs i k:=by
  intro hf hr
  have okr:=okRows_few hf
  have h40:=lim_few hf
  obtain ⟨p,hp,free,rows,hx,hfl⟩:=rank_ok3 hf hr
  have hh:=homog_right hr
  obtain ⟨p',hp',-⟩:=rank_ok3 (homog_few hf) hh
  have hpp:p' = p:=by
    refine Nat.le_antisymm (rank_mono (homog_len rs) hp hp' fun y hy => (homog_ann y 0).2 hy) ?_
    have:=rank_mono (rs:=homog rs) (rs':=rs) (homog_len rs).symm hp' hp fun y hy => by
      rw [homog_len] at hy ⊢
      exact (homog_ann y 0).1 hy
    exact this
  subst hpp
  have hv':=hp'.val
  rw [homog_len] at hv'
  -- one solution exactly if there is no free column
  obtain ⟨rows2,free2,-,-,-,-,hx2,-⟩:=elimS_ok3 true hf hr
  have hiff:(p' == rs.length) = (free2.length == 0):=by
    obtain ⟨s1,s2⟩:=elimX_stop rs.length 0 (augOf rs) false
    have hx':elimX true rs.length 0 (augOf rs) [] false = (rows2,free2,false):=hx2
    have hx'':elimX false rs.length 0 (augOf rs) [] false = (rows,free,false):=hx
    rw [hx',hx''] at s1 s2
    rw [Bool.eq_iff_iff,beq_iff_eq,beq_iff_eq]
    constructor
    · intro h
      rcases free2 with _ | ⟨f,fs⟩
      · rfl
      · have:=s2 (by simp)
        dsimp only at this
        omega
    · intro h
      have h2:=s1 (List.eq_nil_of_length_eq_zero h)
      have h3:free = free2:=congrArg (fun x => x.2.1) h2
      rw [h3] at hfl
      omega
  have hsol:((solveX rs rs.length).2 == 0) = (free2.length == 0):=by
    unfold solveX
    rw [if_pos hr,hx2]
    simp only [yH,if_false]
    rcases free2 with _ | ⟨f,fs⟩
    · rfl
    · rw [if_pos (by simp)]; rfl
  have hker:(kernX rs rs.length).2 = !(free2.length == 0):=by
    unfold kernX
    rw [if_pos hr,hx2]
    simp only [Bool.false_or]
    rcases free2 with _ | ⟨f,fs⟩
    · rfl
    · rw [if_neg (by simp)]; rfl
  have hpn:(((p':Nat):Int) == (rs.length:Int)) = (p' == rs.length):=by
    rw [Bool.eq_iff_iff,beq_iff_eq,beq_iff_eq]; omega
  refine ⟨p',hp.val,hv',okRows_few (homog_few hf),by omega,by have:=hp.le; omega,by rw [hpn,hiff,hsol],by rw [hpn,hiff,hker,Bool.not_not],fun hpos ra rb hra hrb => ?_⟩
  have ha:=Nat.mod_lt i hpos
  have hb:=Nat.mod_lt k hpos
  generalize i % rs.length = a at *
  generalize k % rs.length = b at *
  obtain ⟨t1,t2,t3,t4,t5,t6⟩:=times_row hf hr hra right_numF few_numF
  -- the row replaced by another one
  have hmem:∀ r ∈ rs.set a rb,r ∈ rs:=by
    intro r hrm
    rcases List.mem_or_eq_of_mem_set hrm with hrm | rfl
    · exact hrm
    · exact List.mem_of_getElem? hrb
  have hl1:(rs.set a rb).length = rs.length:=List.length_set ..
  have hf1:fewRows (rs.set a rb) 3 1 = true:=by
    have h2:=hf
    unfold fewRows at h2 ⊢
    simp only [Bool.and_eq_true,decide_eq_true_eq,List.all_eq_true] at h2 ⊢
    exact ⟨by rw [hl1]; exact h2.1,fun r hrm => h2.2 r (hmem r hrm)⟩
  have hr1:rightS (rs.set a rb) (rs.set a rb).length = true:=by
    obtain ⟨-,h40,hrows⟩:=rightS_rows hr
    exact right_of (by rw [hl1]; exact h40) fun r hrm => by rw [hl1]; exact hrows r (hmem r hrm)
  obtain ⟨t,ht,-⟩:=rank_ok3 hf1 hr1
  have hvt:=ht.val
  rw [hl1] at hvt
  -- the row 0
  have hl2:(noneX rs a ra).length = rs.length:=List.length_set ..
  have hz:∀ k,k ≤ rs.length → (if k < rs.length then valF ((timesX ra (numF 0)).1.getD k zeroF) else valF (timesX ra (numF 0)).2) = 0:=fun k hk => by rw [t6 k hk,valF_num0,Rat.mul_zero]
  have hfz:∀ f,rightF f = true → valF f = 0 → fewF f 1 = true:=by
    intro f h1 h2
    obtain ⟨e,-⟩:=right_enc' h1
    rw [e,h2,encR_zero]
    rfl
  have hf2:fewRows (noneX rs a ra) 3 1 = true:=by
    have h2:=hf
    unfold fewRows at h2 ⊢
    simp only [Bool.and_eq_true,decide_eq_true_eq,List.all_eq_true] at h2 ⊢
    refine ⟨by rw [hl2]; exact h2.1,fun r hrm => ?_⟩
    rcases List.mem_or_eq_of_mem_set hrm with hrm | rfl
    · exact h2.2 r hrm
    · unfold fewRow fewFs
      simp only [Bool.and_eq_true,decide_eq_true_eq,List.all_eq_true]
      refine ⟨⟨by omega,fun f hf3 => ?_⟩,?_⟩
      · obtain ⟨k,hk⟩:=List.mem_iff_getElem?.1 hf3
        have hkl:=(List.getElem?_eq_some_iff.1 hk).1
        have:=hz k (by omega)
        rw [if_pos (by omega),List.getD_eq_getElem?_getD,hk] at this
        exact hfz f (t4 f hf3) this
      · have:=hz rs.length (Nat.le_refl _)
        rw [if_neg (by omega)] at this
        exact hfz _ t3 this
  have hr2:rightS (noneX rs a ra) (noneX rs a ra).length = true:=by rw [hl2]; exact right_set hr t2 t3 t4
  obtain ⟨u,hu,-⟩:=rank_ok3 hf2 hr2
  have hvu:=hu.val
  rw [hl2] at hvu
  have m1:∀ i,i < rs.length → ∀ k,matOf (rs.set a rb) i k = if i = a then matOf rs b k else matOf rs i k:=fun i hi k => by
    rw [mat_set hi,mat_row hrb]
  have m2:∀ i,i < rs.length → ∀ k,k < rs.length → matOf (noneX rs a ra) i k = if i = a then 0 else matOf rs i k:=fun i hi k hk => by
    unfold noneX
    rw [mat_set hi]
    by_cases h:i = a
    · rw [if_pos h,if_pos h]; exact hz k (by omega)
    · rw [if_neg h,if_neg h]
  have s1:∀ (y:Nat → Rat) i,i < rs.length → sumQ rs.length (fun k => matOf (rs.set a rb) i k * y k) = if i = a then sumQ rs.length (fun k => matOf rs b k * y k) else sumQ rs.length (fun k => matOf rs i k * y k):=by
    intro y i hi
    by_cases h:i = a
    · rw [if_pos h]; exact sumQ_congr fun k _ => by rw [m1 i hi,if_pos h]
    · rw [if_neg h]; exact sumQ_congr fun k _ => by rw [m1 i hi,if_neg h]
  have s2:∀ (y:Nat → Rat) i,i < rs.length → sumQ rs.length (fun k => matOf (noneX rs a ra) i k * y k) = if i = a then 0 else sumQ rs.length (fun k => matOf rs i k * y k):=by
    intro y i hi
    by_cases h:i = a
    · rw [if_pos h]; exact sumQ_zero fun k hk => by rw [m2 i hi k hk,if_pos h,Rat.zero_mul]
    · rw [if_neg h]; exact sumQ_congr fun k hk => by rw [m2 i hi k hk,if_neg h]
  have c1:t ≤ p':=rank_mono hl1 hp ht fun y hy => by
    rw [ann_rows] at hy ⊢
    intro i hi
    rw [s1 y i hi]
    split
    · exact hy b hb
    · exact hy i hi
  have c2:u ≤ p':=rank_mono hl2 hp hu fun y hy => by
    rw [ann_rows] at hy ⊢
    intro i hi
    rw [s2 y i hi]
    split
    · rfl
    · exact hy i hi
  have c3:p' ≤ u + 1:=by
    have:=rank_plus (rs:=noneX rs a ra) (rs':=rs) hl2.symm hu hp (matOf rs a) fun y hy hay => by
      rw [hl2] at hy hay ⊢
      rw [ann_rows] at hy ⊢
      intro i hi
      by_cases h:i = a
      · rw [h]; exact hay
      · have:=hy i hi
        rwa [s2 y i hi,if_neg h] at this
    exact this
  have c4:u < rs.length:=by
    have:=rank_less (rs:=noneX rs a ra) hu (by rw [hl2]; exact ha) fun y _ => by
      rw [hl2,s2 y a ha,if_pos rfl]
    rwa [hl2] at this
  refine ⟨t1,okRows_few hf2,t,u,hvt,hvu,by omega,by omega,by omega,by omega,?_⟩
  by_cases hab:a = b
  · exact .inl hab
  · right
    have:=rank_less (rs:=rs.set a rb) (a:=a) ht (by rw [hl1]; exact ha) fun y hy => by
      rw [hl1] at hy ⊢
      rw [s1 y a ha,if_pos rfl]
      have:=hy b hb (Ne.symm hab)
      rwa [s1 y b hb,if_neg (Ne.symm hab)] at this
    rw [hl1] at this
    omega
end Go.Mini
