/- A part of the proof: MiniLm5, MiniLm6, MiniLm7, MiniLm8. -/
import Derived.Test.YtjcpopjafedmpaaM11
set_option linter.unusedSimpArgs false
set_option linter.unusedVariables false
namespace Go.Mini
open Go
set_option maxRecDepth 10000
set_option maxHeartbeats 1000000
def alphaB:Nat → Nat
  | 0 => 80
  | p + 1 => 2 * alphaB p + 1
def betaB:Nat → Nat
  | 0 => 0
  | p + 1 => betaB p + alphaB p + 1
def Bd (N:Nat) (Q:Mat) (p:Nat):Prop:=∀ i,i < N → CD N (Q i) (if i < p then betaB p else alphaB p)
theorem CD.div {N b r c:Nat} {S:Mat} (h:CD N (S r) b) (hc:c ≤ N) (hne:S r c ≠ 0):CD N (fun k => S r k / S r c) b:=by
  obtain ⟨v,d,h1,h2,h3⟩:=h
  obtain ⟨e1,e2⟩:=h3 c hc
  have hd':(d:Rat) ≠ 0:=by rw [Ne,Rat.intCast_eq_zero_iff]; exact h1
  have hv:v c ≠ 0:=by
    intro h0
    rw [h0,Rat.intCast_zero] at e1
    rcases Rat.mul_eq_zero.1 e1 with h | h
    · exact hne h
    · exact hd' h
  refine ⟨v,v c,hv,e2,fun k hk => ⟨?_,(h3 k hk).2⟩⟩
  rw [← (h3 k hk).1,← e1]
  grind
theorem CD.elim {N a b c:Nat} {q p:Nat → Rat} (h:CD N q a) (hp:CD N p b) (hc:c ≤ N):CD N (fun k => q k - q c * p k) (a + b + 1):=by
  obtain ⟨v,d,h1,h2,h3⟩:=h
  obtain ⟨w,e,g1,g2,g3⟩:=hp
  have hle:2 ^ (a + b) ≤ 2 ^ (a + b + 1):=Nat.pow_le_pow_right (by omega) (by omega)
  refine ⟨fun k => v k * e - v c * w k,d * e,Int.mul_ne_zero h1 g1,Nat.le_trans (mul_sz h2 g2) hle,fun k hk => ⟨?_,?_⟩⟩
  · rw [Rat.intCast_sub,Rat.intCast_mul,Rat.intCast_mul,Rat.intCast_mul,← (h3 k hk).1,← (h3 c hc).1,← (g3 k hk).1]
    grind
  · have m1:=mul_sz (h3 k hk).2 g2
    have m2:=mul_sz (h3 c hc).2 (g3 k hk).2
    have m3:(-(v c * w k)).natAbs ≤ 2 ^ (a + b):=by rw [Int.natAbs_neg]; exact m2
    have:=add_sz m1 m3
    rwa [← Int.sub_eq_add_neg] at this
theorem Bd.swap {N p s:Nat} {Q:Mat} (h:Bd N Q p) (hp:p < N) (hs:p ≤ s) (hsN:s < N):Bd N (swapQ Q p s) p:=by
  intro i hi
  unfold swapQ
  by_cases h1:i = s
  · rw [if_pos h1]
    have:=h p hp
    rw [if_neg (by omega)] at this ⊢
    exact this
  · rw [if_neg h1]
    by_cases h2:i = p
    · rw [if_pos h2]
      have:=h s hsN
      rw [if_neg (by omega)] at this ⊢
      exact this
    · rw [if_neg h2]; exact h i hi
theorem Bd.piv {N p c s:Nat} {Q:Mat} (h:Bd N Q p) (hp:p < N) (hs:p ≤ s) (hsN:s < N) (hc:c ≤ N) (hne:Q s c ≠ 0):Bd N (pivQ Q p c s) (p + 1):=by
  have hS:=h.swap hp hs hsN
  have hSr:swapQ Q p s p c ≠ 0:=by rw [swapQ_r]; exact hne
  have hpr:=hS p hp
  rw [if_neg (by omega)] at hpr
  have hP:=hpr.div hc hSr
  intro i hi
  by_cases hip:i = p
  · rw [if_pos (by omega)]
    have:pivQ Q p c s i = fun k => swapQ Q p s p k / swapQ Q p s p c:=by funext k; unfold pivQ; rw [if_pos hip]
    rw [this]
    exact hP.mono (by show alphaB p ≤ betaB p + alphaB p + 1; omega)
  · have:pivQ Q p c s i = fun k => swapQ Q p s i k - swapQ Q p s i c * (swapQ Q p s p k / swapQ Q p s p c):=by funext k; unfold pivQ; rw [if_neg hip]
    rw [this]
    have:=(hS i hi).elim hP hc
    by_cases hlt:i < p
    · rw [if_pos hlt] at this
      rw [if_pos (by omega)]
      exact this
    · rw [if_neg hlt] at this
      rw [if_neg (by omega)]
      exact this.mono (by show alphaB p + alphaB p + 1 ≤ 2 * alphaB p + 1; omega)
theorem Bd.ok {N p c:Nat} {S:Mat} (h:Bd N S p) (hp:p < N) (hp2:p < 3) (hc:c ≤ N) (hne:S p c ≠ 0):okPiv N S p c:=by
  have hb:∀ i,i < N → ∀ k,k ≤ N → szR 323 (S i k):=by
    intro i hi k hk
    refine ((h i hi).sz hk).mono ?_
    have:alphaB p ≤ 323 ∧ betaB p ≤ 243:=by
      rcases p with _ | _ | _ | p
      · decide
      · decide
      · decide
      · omega
    split <;> omega
  have hP:∀ k,k ≤ N → szR 323 (S p k / S p c):=by
    intro k hk
    have hpr:=h p hp
    rw [if_neg (by omega)] at hpr
    refine ((hpr.div hc hne).sz hk).mono ?_
    rcases p with _ | _ | _ | p
    · decide
    · decide
    · decide
    · omega
  refine ⟨fun k hk => sz_divOK (hb p hp k hk) (hb p hp c hc) (by omega),fun i hi _ _ k hk => ?_⟩
  unfold okStep
  rw [Bool.and_eq_true]
  exact ⟨sz_mulOK (hb i hi c hc) (hP k hk) (by omega),sz_addOK (hb i hi k hk) (szR_neg (sz_mul (hb i hi c hc) (hP k hk))) (by omega)⟩
theorem elimX_ok3 (stop:Bool) (N:Nat) (hN:N ≤ 3) (Q0:Mat):∀ k c rows free Q p pv,c + k = N → Elim N Q0 Q rows p c pv → Bd N Q p → p + free.length = c → (stop = true → free = []) →
    ∃ rows' free' Q' p' c' pv',elimX stop k c rows free false = (rows',free',false) ∧ Elim N Q0 Q' rows' p' c' pv' ∧ Bd N Q' p' ∧ p' ≤ N ∧ (stop = true → free' = [] ∨ (free' = [p'] ∧ p' < N)):=by
  intro k
  induction k with
  | zero =>
    intro c rows free Q p pv hc he hb hp hs
    exact ⟨rows,free,Q,p,c,pv,rfl,he,hb,by omega,fun h => .inl (hs h)⟩
  | succ k ih =>
    intro c rows free Q p pv hc he hbd hp hs
    have hcp:c - free.length = p:=by omega
    unfold elimX
    rw [hcp]
    rcases pivX_enc he.enc (r:=p) (c:=c) (by omega) (by omega) with ⟨h1,h2,h3,h4⟩ | ⟨h1,s,hs1,hs2,hs3,h4,h5⟩
    · rw [h1,h2,h3,if_pos rfl]
      cases stop with
      | true =>
        rw [if_pos rfl]
        obtain rfl:=hs rfl
        simp only [List.length_nil,Nat.add_zero] at hp
        exact ⟨rows,[] ++ [c],Q,p,c,pv,rfl,he,hbd,by omega,fun _ => .inr ⟨by rw [hp]; rfl,by omega⟩⟩
      | false =>
        rw [if_neg (by simp)]
        exact ih (c + 1) rows (free ++ [c]) Q p pv (by omega) ⟨he.enc,he.red.free h4,he.ann⟩ hbd (by simp; omega) (by simp)
    · have hok:=(hbd.swap (by omega) hs1 hs2).ok (p:=p) (c:=c) (by omega) (by omega) (by omega) (by rw [swapQ_r]; exact hs3)
      have hb:=h5 hok
      rw [h1,if_neg (by simp),hb]
      exact ih (c + 1) _ free (pivQ Q p c s) (p + 1) (fun j => if j = p then c else pv j) (by omega) ⟨h4 hb,he.red.piv (by omega) hs1 hs2 hs3,fun y => (ann_piv (by omega) hs2 hs3).trans (he.ann y)⟩ (hbd.piv (by omega) hs1 hs2 (by omega) hs3) (by omega) hs
/-- One digit. -/
theorem few_sz {f:FRaw} (hr:rightF f = true) (hf:fewF f 1 = true):szR 20 (valF f):=by
  obtain ⟨e,h1,h2⟩:=right_enc' hr
  obtain ⟨g1,g2⟩:=few_okF hf
  rw [e] at g1 g2
  have k1:=dg_len.1 (show (dg (valF f).num.natAbs).length ≤ 1 from g1)
  have k2:=dg_len.1 (show (dg ((valF f).den:Int).natAbs).length ≤ 1 from g2)
  rw [Int.natAbs_natCast] at k2
  have h20:(1048576:Nat) ^ 1 = 2 ^ 20:=by decide
  rw [h20] at k1 k2
  exact ⟨Nat.le_of_lt k1,Nat.le_of_lt k2⟩
theorem prod_cd (q:Nat → Rat) (b:Nat) (h:∀ k,szR b (q k)):∀ n:Nat,∃ d:Int,0 < d ∧ d.natAbs ≤ 2 ^ (n * b) ∧ ∃ v:Nat → Int,∀ k,k < n → q k * (d:Rat) = (v k:Rat) ∧ (v k).natAbs ≤ 2 ^ (n * b):=by
  intro n
  induction n with
  | zero => exact ⟨1,by decide,by simp,fun _ => 0,fun k hk => by omega⟩
  | succ n ih =>
    obtain ⟨d,hd,hdb,v,hv⟩:=ih
    have hdn:=den_pos (q n)
    have hx:(q n) * (((q n).den:Int):Rat) = ((q n).num:Rat):=by
      have h1:q n = Rat.divInt (q n).num (q n).den:=(Rat.num_divInt_den _).symm
      have h2:(((q n).den:Int):Rat) ≠ 0:=by rw [Ne,Rat.intCast_eq_zero_iff]; omega
      rw [Rat.divInt_eq_div] at h1
      generalize (((q n).den:Int):Rat) = D at *
      generalize ((q n).num:Rat) = M at *
      rw [h1]; grind
    rw [Nat.succ_mul]
    refine ⟨d * (q n).den,Int.mul_pos hd hdn,mul_sz hdb (by simpa using (h n).2),fun k => if k = n then (q n).num * d else v k * (q n).den,fun k hk => ?_⟩
    by_cases hkn:k = n
    · subst hkn
      simp only [if_true]
      refine ⟨?_,?_⟩
      · rw [Rat.intCast_mul,Rat.intCast_mul,← hx]; grind
      · have:=mul_sz (h k).1 hdb
        rwa [Nat.add_comm] at this
    · simp only [if_neg hkn]
      obtain ⟨e1,e2⟩:=hv k (by omega)
      refine ⟨?_,mul_sz e2 (by simpa using (h n).2)⟩
      rw [Rat.intCast_mul,Rat.intCast_mul,← e1]; grind
theorem mat_sz {rs:List RowD} (hf:fewRows rs 3 1 = true) (hr:rightS rs rs.length = true) {i:Nat} (hi:i < rs.length) (k:Nat):szR 20 (matOf rs i k):=by
  obtain ⟨-,-,hrows⟩:=rightS_rows hr
  obtain ⟨-,hfew⟩:=few_rows hf
  obtain ⟨r,hri⟩:∃ r,rs[i]? = some r:=⟨_,List.getElem?_eq_getElem hi⟩
  have hm:=List.mem_of_getElem? hri
  obtain ⟨e1,e2,e3⟩:=hrows r hm
  obtain ⟨f1,f2⟩:=hfew r hm
  unfold matOf
  rw [row_get' hri]
  split
  · rename_i hk
    obtain ⟨f,hf'⟩:∃ f,r.1[k]? = some f:=⟨_,List.getElem?_eq_getElem (by omega)⟩
    rw [List.getD_eq_getElem?_getD,hf']
    have hmf:=List.mem_of_getElem? hf'
    exact few_sz (e3 f hmf) ((few_list f1).2 f hmf)
  · exact few_sz e2 f2
theorem mat_bd {rs:List RowD} (hf:fewRows rs 3 1 = true) (hr:rightS rs rs.length = true):Bd rs.length (matOf rs) 0:=by
  intro i hi
  have hn:=(few_rows hf).1
  obtain ⟨d,hd,hdb,v,hv⟩:=prod_cd (fun k => matOf rs i k) 20 (fun k => mat_sz hf hr hi k) 4
  rw [if_neg (by omega)]
  exact ⟨v,d,by omega,hdb,fun k hk => hv k (by omega)⟩
theorem elimS_ok3 (stop:Bool) {rs:List RowD} (hf:fewRows rs 3 1 = true) (hr:rightS rs rs.length = true) :
    ∃ rows' free' Q' p' c' pv',elimS stop rs = (rows',free',false) ∧ Elim rs.length (matOf rs) Q' rows' p' c' pv' ∧ Bd rs.length Q' p' ∧ p' ≤ rs.length ∧ (stop = true → free' = [] ∨ (free' = [p'] ∧ p' < rs.length)) :=
  elimX_ok3 stop rs.length (few_rows hf).1 (matOf rs) rs.length 0 (augOf rs) [] (matOf rs) 0 (fun j => j) (by omega) ⟨aug_enc hr,red_start _ _ _,fun _ => Iff.rfl⟩ (mat_bd hf hr) rfl fun _ => rfl
end Go.Mini
namespace Go.Mini
open Go
set_option maxRecDepth 10000
set_option maxHeartbeats 1000000
def vecF (N:Nat) (x:Nat → Rat):List FRaw:=((List.range N).map x).map encR
theorem vecF_len (N:Nat) (x:Nat → Rat):(vecF N x).length = N:=by simp [vecF]
theorem vecF_get {N k:Nat} (x:Nat → Rat) (h:k < N):(vecF N x)[k]? = some (encR (x k)):=by
  unfold vecF
  rw [List.getElem?_map,List.getElem?_map,List.getElem?_range h]; rfl
theorem vecF_of {N:Nat} {l:List FRaw} {x:Nat → Rat} (hl:l.length = N) (h:∀ k,k < N → l[k]? = some (encR (x k))):l = vecF N x:=by
  apply List.ext_getElem?
  intro k
  rcases Nat.lt_or_ge k N with hk | hk
  · rw [h k hk,vecF_get x hk]
  · rw [List.getElem?_eq_none (by omega),List.getElem?_eq_none (by rw [vecF_len]; omega)]
theorem vecF_congr {N:Nat} {x y:Nat → Rat} (h:∀ k,k < N → x k = y k):vecF N x = vecF N y :=
  vecF_of (vecF_len N x) fun k hk => by rw [vecF_get x hk,h k hk]
theorem vecF_ok {N:Nat} {x:Nat → Rat} (hN:N ≤ 40) (h:∀ k,k < N → limR (x k)):okL (vecF N x):=by
  refine ⟨by rw [vecF_len]; omega,fun f hf => ?_⟩
  obtain ⟨k,hk⟩:=List.mem_iff_getElem?.1 hf
  have hkN:k < N:=by have:=(List.getElem?_eq_some_iff.1 hk).1; rwa [vecF_len] at this
  rw [vecF_get x hkN] at hk
  cases hk
  exact okF_enc (h k hkN)
def SolOK (N:Nat) (M:Mat) (x:Nat → Rat):Prop:=(∀ y,Ann N M (ext N y (-1)) ↔ ∀ k,k < N → y k = x k) ∧ ∀ y,Ann N M (ext N y 0) → ∀ k,k < N → y k = 0
def Sing (N:Nat) (M:Mat):Prop:=∃ y,Ann N M (ext N y 0) ∧ ∃ k,k < N ∧ y k ≠ 0
theorem rows_last {N:Nat} {rows:List MR} {Q:Mat} (h:EncM N rows Q):rows.map (lastOf N) = vecF N (fun i => Q i N) :=
  vecF_of (by rw [List.length_map]; exact h.1) fun k hk => by
    obtain ⟨x,hx,-,vx⟩:=h.row hk
    rw [List.getElem?_map,hx,Option.map_some]
    unfold lastOf
    rw [List.getD_eq_getElem?_getD,vx.get (Nat.le_refl _)]
    rfl
theorem Elim.lim {N:Nat} {Q Q':Mat} {rows:List MR} {p c:Nat} {pv:Nat → Nat} (h:Elim N Q Q' rows p c pv) {i k:Nat} (hi:i < N) (hk:k ≤ N):limR (Q' i k):=by
  obtain ⟨x,-,-,vx⟩:=h.enc.row hi
  exact vx.2 k hk
theorem zero_add_ok {q:Rat} (h:limR q):addOK 0 (-q) = true:=by
  unfold addOK
  simp only [Bool.and_eq_true]
  have h1:okZ ((-q).num * ((0:Rat).den:Int)) = true:=by
    rw [Rat.neg_num,Rat.zero_den]
    unfold okZ
    rw [decide_eq_true_eq]
    have:=h.1
    omega
  refine ⟨?_,h1,?_,?_⟩
  · rw [Rat.zero_num,Int.zero_mul]; decide +kernel
  · rw [Rat.zero_num,Int.zero_mul,Int.zero_add]; exact h1
  · rw [Rat.zero_den,Rat.neg_den]
    unfold okZ
    rw [decide_eq_true_eq]
    have:=h.2
    omega
theorem limR_zero:limR 0:=⟨by decide +kernel,by decide +kernel⟩
theorem ker_enc {N f:Nat} {rows:List MR} {Q:Mat} (h:EncM N rows Q) (hf:f < N):kerP rows f N f = vecF N (kerQ Q f) :=
  vecF_of (kerP_len _ _ _ _) fun k hk => by
    unfold kerP
    rw [List.getElem?_map,List.getElem?_range hk,Option.map_some]
    unfold kerQ
    by_cases h1:k < f
    · rw [if_pos h1,if_pos h1]
      obtain ⟨x,-,ex,vx⟩:=h.row (i:=k) (by omega)
      rw [ex,vx.cell (by omega),← encR_zero,subF_enc limR_zero (vx.2 f (by omega)),zero_add_ok (vx.2 f (by omega))]
      rfl
    · rw [if_neg h1,if_neg h1]
      by_cases h2:k = f
      · rw [if_pos h2,if_pos h2,encR_one]
      · rw [if_neg h2,if_neg h2,encR_zero]
theorem ext_ann {N:Nat} {M Q:Mat} (h:∀ y,Ann N Q y ↔ Ann N M y):∀ y z,Ann N Q (ext N y z) ↔ Ann N M (ext N y z):=fun _ _ => h _
theorem solve_cases {rs:List RowD} {n:Int} (h:rightS rs n = true) :
    (solveX rs n = ([],6)) ∨
    (∃ x,solveX rs n = (vecF rs.length x,0) ∧ kernX rs n = ([],false) ∧ (∀ k,k < rs.length → limR (x k)) ∧ SolOK rs.length (matOf rs) x) ∨
    (∃ y,solveX rs n = ([],17) ∧ kernX rs n = (vecF rs.length y,true) ∧ (∀ k,k < rs.length → limR (y k)) ∧ Ann rs.length (matOf rs) (ext rs.length y 0) ∧ ∃ k,k < rs.length ∧ y k = 1):=by
  unfold solveX kernX
  rw [if_pos h]
  rcases hx:elimS true rs with ⟨rows',free',bad⟩
  cases bad
  · right
    obtain ⟨Q,p,c,pv,he,-,hs⟩:=elimS_spec true h hx
    rw [if_pos h]
    rcases hs rfl with ⟨rfl,rfl,rfl,hpv⟩ | ⟨f,rfl,hf,rfl,rfl,hpv,hz⟩
    · left
      refine ⟨fun i => Q i rs.length,?_,rfl,fun k hk => he.lim hk (Nat.le_refl _),fun y => ?_,fun y hy => ?_⟩
      · rw [if_neg (by simp),if_neg (by simp),rows_last he.enc]
      · rw [← ext_ann he.ann]
        exact red_solution he.red hpv y
      · exact red_trivial he.red hpv y ((ext_ann he.ann y 0).2 hy)
    · right
      refine ⟨kerQ Q c,?_,?_,fun k hk => ?_,?_,⟨c,hf,by unfold kerQ; simp⟩⟩
      · rw [if_neg (by simp),if_pos (by simp)]
      · rw [if_neg (by simp)]
        exact congrArg (fun l => (l,true)) (ker_enc he.enc hf)
      · unfold kerQ
        split
        · exact sub_lim (zero_add_ok (he.lim hk (by omega)))
        · split
          · exact ⟨by decide +kernel,by decide +kernel⟩
          · exact limR_zero
      · exact (ext_ann he.ann _ _).1 (red_kernel he.red hpv hf hz)
  · left
    rw [if_pos rfl]
theorem solve_not_both {N:Nat} {M:Mat} {x:Nat → Rat} (h:SolOK N M x):¬ Sing N M:=by
  rintro ⟨y,hy,k,hk,hne⟩
  exact hne (h.2 y hy k hk)
/-- Systems with the same solutions have the same answer, unless something is too great. -/
theorem solve_same {rs rs':List RowD} (hl:rs'.length = rs.length) (h:rightS rs rs.length = true) (h':rightS rs' rs.length = true) (hann:∀ y,Ann rs.length (matOf rs') y ↔ Ann rs.length (matOf rs) y) (hok:solveX rs rs.length ≠ ([],6)) :
    solveX rs' rs.length = solveX rs rs.length ∨ solveX rs' rs.length = ([],6):=by
  rcases solve_cases h' with e | ⟨x',e',-,l',s'⟩ | ⟨y',e',-,l',a',k',hk',hy'⟩
  · exact .inr e
  · left
    rw [hl] at s' e'
    rcases solve_cases h with e | ⟨x,e,-,-,s⟩ | ⟨y,e,-,-,a,k,hk,hy⟩
    · exact absurd e hok
    · rw [e,e']
      have:∀ k,k < rs.length → x' k = x k:=by
        intro k hk
        have h1:Ann rs.length (matOf rs) (ext rs.length x' (-1)):=(hann _).1 ((s'.1 x').2 fun _ _ => rfl)
        exact (s.1 x').1 h1 k hk
      rw [vecF_congr this]
    · exfalso
      have:=s'.2 y ((hann _).2 a) k hk
      rw [hy] at this
      exact absurd this (by decide)
  · left
    rw [hl] at a' hk'
    rcases solve_cases h with e | ⟨x,e,-,-,s⟩ | ⟨y,e,-,-,a,k,hk,hy⟩
    · exact absurd e hok
    · exfalso
      have:=s.2 y' ((hann _).1 a') k' hk'
      rw [hy'] at this
      exact absurd this (by decide)
    · rw [e,e']
theorem solve_ok3 {rs:List RowD} (hf:fewRows rs 3 1 = true) (hr:rightS rs rs.length = true):solveX rs rs.length ≠ ([],6):=by
  obtain ⟨rows',free',Q',p',c',pv',hx,-⟩:=elimS_ok3 true hf hr
  unfold solveX
  rw [if_pos hr,hx]
  simp only [Bool.false_eq_true,if_false]
  split
  · simp
  · simp
end Go.Mini
namespace Go.Mini
open Go
set_option maxRecDepth 10000
set_option maxHeartbeats 1000000
def sumL:Rat → List Rat → List Rat → Rat
  | s,a :: al,x :: xs => sumL (s + a * x) al xs
  | s,_,_ => s
def okSum:Rat → List Rat → List Rat → Prop
  | s,a :: al,x :: xs => mulOK a x = true ∧ addOK s (a * x) = true ∧ okSum (s + a * x) al xs
  | _,_,_ => True
theorem sumGo_enc:∀ (al xs:List Rat) (s:Rat),limR s → (∀ a ∈ al,limR a) → (∀ x ∈ xs,limR x) →
    (okSum s al xs → sumGo (encR s) (al.map encR) (xs.map encR) = some (encR (sumL s al xs)) ∧ limR (sumL s al xs)) ∧
    (∀ f,sumGo (encR s) (al.map encR) (xs.map encR) = some f → f = encR (sumL s al xs) ∧ limR (sumL s al xs))
  | [],xs,s,hs,_,_ => ⟨fun _ => ⟨by simp [sumGo,sumL],by simpa [sumL] using hs⟩,fun f hf => ⟨by simp [sumGo] at hf; simp [sumL,hf],by simpa [sumL] using hs⟩⟩
  | a :: al,[],s,hs,_,_ => ⟨fun _ => ⟨by simp [sumGo,sumL],by simpa [sumL] using hs⟩,fun f hf => ⟨by simp [sumGo] at hf; simp [sumL,hf],by simpa [sumL] using hs⟩⟩
  | a :: al,x :: xs,s,hs,ha,hx => by
    have la:=ha a List.mem_cons_self
    have lx:=hx x List.mem_cons_self
    simp only [List.map_cons,sumGo,sumL,okSum]
    rw [mulF_enc la lx]
    rcases hm:mulOK a x
    · refine ⟨fun h => ?_,fun f hf => ?_⟩
      · exact absurd h.1 (by simp)
      · simp [keepF] at hf
    · simp only [keepF,if_true]
      rw [addF_enc hs (mul_lim hm)]
      rcases hd:addOK s (a * x)
      · refine ⟨fun h => ?_,fun f hf => ?_⟩
        · exact absurd h.2.1 (by simp)
        · simp [keepF] at hf
      · obtain ⟨i1,i2⟩:=sumGo_enc al xs (s + a * x) (add_lim hd) (fun b hb => ha b (List.mem_cons_of_mem _ hb)) (fun b hb => hx b (List.mem_cons_of_mem _ hb))
        simp only [keepF,if_true,beq_self_eq_true,Bool.and_self]
        exact ⟨fun h => i1 h.2.2,i2⟩
theorem sumL_append:∀ (al xs:List Rat) (s a x:Rat),al.length = xs.length → sumL s (al ++ [a]) (xs ++ [x]) = sumL s al xs + a * x
  | [],[],s,a,x,_ => by simp [sumL]
  | b :: al,y :: xs,s,a,x,h => by
    simp only [List.cons_append,sumL]
    exact sumL_append al xs _ a x (by simpa using h)
theorem sumL_range (q x:Nat → Rat):∀ n,sumL 0 ((List.range n).map q) ((List.range n).map x) = sumQ n fun k => q k * x k
  | 0 => rfl
  | n + 1 => by
    rw [List.range_succ,List.map_append,List.map_append]
    show sumL 0 (_ ++ [q n]) (_ ++ [x n]) = _
    rw [sumL_append _ _ _ _ _ (by simp),sumL_range q x n]
    rfl
theorem cmp_zero {s v:Rat} (hs:limR s) (hv:limR v):(cmpF (encR s) (encR v) == 0) = decide (s = v):=by
  rw [cmpF_enc hs hv,Bool.eq_iff_iff,beq_iff_eq,decide_eq_true_eq]
  exact cmpQ_zero
/-- A row of a right system. -/
theorem row_enc {rs:List RowD} {n:Int} (h:rightS rs n = true) {i:Nat} {r:RowD} (hr:rs[i]? = some r):r.1 = vecF rs.length (matOf rs i) ∧ r.2 = encR (matOf rs i rs.length) ∧ (∀ k,k ≤ rs.length → limR (matOf rs i k)):=by
  obtain ⟨-,-,hrows⟩:=rightS_rows h
  obtain ⟨e1,e2,e3⟩:=hrows r (List.mem_of_getElem? hr)
  have hM:matOf rs i = fun k => if k < rs.length then valF (r.1.getD k zeroF) else valF r.2:=by
    funext k; unfold matOf; rw [row_get' hr]
  have hlt:∀ k,k < rs.length → r.1[k]? = some (encR (matOf rs i k)) ∧ limR (matOf rs i k):=by
    intro k hk
    obtain ⟨f,hf⟩:∃ f,r.1[k]? = some f:=⟨_,List.getElem?_eq_getElem (by omega)⟩
    obtain ⟨q1,q2⟩:=right_enc' (e3 f (List.mem_of_getElem? hf))
    have:matOf rs i k = valF f:=by
      rw [hM]
      simp only [if_pos hk]
      rw [List.getD_eq_getElem?_getD,hf]; rfl
    rw [this,hf]
    exact ⟨congrArg some q1,q2⟩
  have hv:matOf rs i rs.length = valF r.2:=by rw [hM]; simp
  obtain ⟨v1,v2⟩:=right_enc' e2
  refine ⟨vecF_of e1 fun k hk => (hlt k hk).1,by rw [hv]; exact v1,fun k hk => ?_⟩
  rcases Nat.lt_or_ge k rs.length with h1 | h1
  · exact (hlt k h1).2
  · rw [show k = rs.length by omega,hv]; exact v2
theorem dot_row (N:Nat) (a y:Nat → Rat):dotQ N a (ext N y (-1)) = 0 ↔ sumQ N (fun k => a k * y k) = a N:=by
  rw [dot_ext]; grind
theorem mem_vec {N:Nat} {x:Nat → Rat} (h:∀ k,k < N → limR (x k)):∀ q ∈ (List.range N).map x,limR q:=by
  intro q hq
  obtain ⟨k,hk,rfl⟩:=List.mem_map.1 hq
  exact h k (List.mem_range.1 hk)
theorem holds_iff {rs:List RowD} {n:Int} (h:rightS rs n = true) {i:Nat} {r:RowD} (hr:rs[i]? = some r) {x:Nat → Rat} (hx:∀ k,k < rs.length → limR (x k)) :
    (rowHolds (vecF rs.length x) r = true → dotQ rs.length (matOf rs i) (ext rs.length x (-1)) = 0) ∧
    (okSum 0 ((List.range rs.length).map (matOf rs i)) ((List.range rs.length).map x) → dotQ rs.length (matOf rs i) (ext rs.length x (-1)) = 0 → rowHolds (vecF rs.length x) r = true):=by
  obtain ⟨e1,e2,e3⟩:=row_enc h hr
  unfold rowHolds
  rw [e1,e2,← encR_zero]
  obtain ⟨s1,s2⟩:=sumGo_enc ((List.range rs.length).map (matOf rs i)) ((List.range rs.length).map x) 0 limR_zero (mem_vec fun k hk => e3 k (by omega)) (mem_vec hx)
  rw [sumL_range] at s1 s2
  constructor
  · intro hh
    rcases hg:sumGo (encR 0) (vecF rs.length (matOf rs i)) (vecF rs.length x) with _ | f
    · rw [hg] at hh; cases hh
    · rw [hg] at hh
      obtain ⟨rfl,hl⟩:=s2 f hg
      dsimp only at hh
      rw [cmp_zero hl (e3 _ (Nat.le_refl _)),decide_eq_true_eq] at hh
      rw [dot_row]; exact hh
  · intro hok hd
    obtain ⟨g1,g2⟩:=s1 hok
    rw [dot_row] at hd
    have:sumGo (encR 0) (vecF rs.length (matOf rs i)) (vecF rs.length x) = _:=g1
    rw [this]
    dsimp only
    rw [cmp_zero g2 (e3 _ (Nat.le_refl _)),decide_eq_true_eq]
    exact hd
theorem check_true {rs:List RowD} (h:rightS rs rs.length = true) {x:List FRaw} (hx:checkX rs rs.length x = true) :
    ∃ q:Nat → Rat,x = vecF rs.length q ∧ Ann rs.length (matOf rs) (ext rs.length q (-1)):=by
  unfold checkX at hx
  simp only [Bool.and_eq_true,Bool.not_eq_true',beq_iff_eq,List.any_eq_false,List.all_eq_true] at hx
  obtain ⟨-,h2,h3,h4⟩:=hx
  have hlx:x.length = rs.length:=by omega
  have hr:∀ k,k < rs.length → x[k]? = some (encR (valF (x.getD k zeroF))) ∧ limR (valF (x.getD k zeroF)):=by
    intro k hk
    obtain ⟨f,hf⟩:∃ f,x[k]? = some f:=⟨_,List.getElem?_eq_getElem (by omega)⟩
    have hb:=h3 f (List.mem_of_getElem? hf)
    unfold badF at hb
    obtain ⟨q1,q2⟩:=right_enc' (by simpa using hb)
    rw [List.getD_eq_getElem?_getD,hf]
    exact ⟨congrArg some q1,q2⟩
  have hxv:x = vecF rs.length fun k => valF (x.getD k zeroF):=vecF_of hlx fun k hk => (hr k hk).1
  refine ⟨_,hxv,fun i hi => ?_⟩
  obtain ⟨r,hri⟩:∃ r,rs[i]? = some r:=⟨_,List.getElem?_eq_getElem hi⟩
  have h5:=h4 r (List.mem_of_getElem? hri)
  rw [hxv] at h5
  exact (holds_iff h hri fun k hk => (hr k hk).2).1 h5
theorem check_of {rs:List RowD} (h:rightS rs rs.length = true) {q:Nat → Rat} (hq:∀ k,k < rs.length → limR (q k)) (hA:Ann rs.length (matOf rs) (ext rs.length q (-1)))
    (hok:∀ i,i < rs.length → okSum 0 ((List.range rs.length).map (matOf rs i)) ((List.range rs.length).map q)):checkX rs rs.length (vecF rs.length q) = true:=by
  unfold checkX
  simp only [Bool.and_eq_true,Bool.not_eq_true',beq_iff_eq,List.any_eq_false,List.all_eq_true]
  refine ⟨h,by rw [vecF_len],fun f hf => ?_,fun r hr => ?_⟩
  · obtain ⟨k,hk⟩:=List.mem_iff_getElem?.1 hf
    have hkN:k < rs.length:=by have:=(List.getElem?_eq_some_iff.1 hk).1; rwa [vecF_len] at this
    rw [vecF_get q hkN] at hk
    cases hk
    unfold badF
    rw [rightF_enc (hq k hkN)]
    simp
  · obtain ⟨i,hi⟩:=List.mem_iff_getElem?.1 hr
    have hiN:=(List.getElem?_eq_some_iff.1 hi).1
    exact (holds_iff h hi hq).2 (hok i hiN) (hA i hiN)
/-! ### homogeneous -/
theorem homog_len (rs:List RowD):(homog rs).length = rs.length:=by simp [homog]
theorem right_numF:rightF (numF 0) = true:=rightF_enc limR_zero
theorem right_of {rs:List RowD} (h40:rs.length ≤ 40) (h:∀ r ∈ rs,r.1.length = rs.length ∧ rightF r.2 = true ∧ ∀ f ∈ r.1,rightF f = true):rightS rs rs.length = true:=by
  unfold rightS
  simp only [Bool.and_eq_true,Bool.not_eq_true',decide_eq_false_iff_not,beq_iff_eq,List.any_eq_false]
  refine ⟨by omega,by omega,trivial,fun r hr => ?_⟩
  obtain ⟨e1,e2,e3⟩:=h r hr
  have h1:((r.1.length:Int) == (rs.length:Int)) = true:=by rw [beq_iff_eq]; omega
  have h3:r.1.any badF = false:=by
    rw [List.any_eq_false]
    intro f hf
    unfold badF
    simp [e3 f hf]
  unfold badRow
  rw [h1,e2,h3]
  decide
theorem homog_right {rs:List RowD} (h:rightS rs rs.length = true):rightS (homog rs) (homog rs).length = true:=by
  obtain ⟨-,h40,hrows⟩:=rightS_rows h
  refine right_of (by rw [homog_len]; exact h40) fun r hr => ?_
  unfold homog at hr
  obtain ⟨s,hs,rfl⟩:=List.mem_map.1 hr
  obtain ⟨e1,e2,e3⟩:=hrows s hs
  exact ⟨by rw [homog_len]; exact e1,right_numF,e3⟩
theorem few_numF:fewF (numF 0) 1 = true:=by rw [numF_zero]; rfl
theorem homog_few {rs:List RowD} (h:fewRows rs 3 1 = true):fewRows (homog rs) 3 1 = true:=by
  unfold fewRows at h ⊢
  unfold fewRow at h ⊢
  simp only [Bool.and_eq_true,decide_eq_true_eq,List.all_eq_true] at h ⊢
  refine ⟨by rw [homog_len]; exact h.1,fun r hr => ?_⟩
  unfold homog at hr
  obtain ⟨s,hs,rfl⟩:=List.mem_map.1 hr
  exact ⟨(h.2 s hs).1,few_numF⟩
theorem valF_num0:valF (numF 0) = 0:=valF_enc 0
theorem homog_mat {rs:List RowD} {i:Nat} (hi:i < rs.length) (k:Nat):matOf (homog rs) i k = if k < rs.length then matOf rs i k else 0:=by
  obtain ⟨r,hr⟩:∃ r,rs[i]? = some r:=⟨_,List.getElem?_eq_getElem hi⟩
  have hh:(homog rs)[i]? = some (r.1,numF 0):=by unfold homog; rw [List.getElem?_map,hr]; rfl
  unfold matOf
  rw [row_get' hr,row_get' hh,homog_len]
  split
  · rfl
  · exact valF_num0
theorem homog_ann {rs:List RowD} (y:Nat → Rat) (z:Rat):Ann rs.length (matOf (homog rs)) (ext rs.length y z) ↔ Ann rs.length (matOf rs) (ext rs.length y 0):=by
  have:∀ i,i < rs.length → dotQ rs.length (matOf (homog rs) i) (ext rs.length y z) = dotQ rs.length (matOf rs i) (ext rs.length y 0):=by
    intro i hi
    rw [dot_ext,dot_ext,homog_mat hi rs.length,if_neg (by omega),sumQ_congr (g:=fun k => matOf rs i k * y k) fun k hk => by rw [homog_mat hi k,if_pos hk]]
    grind
  constructor
  · intro h i hi; rw [← this i hi]; exact h i hi
  · intro h i hi; rw [this i hi]; exact h i hi
/-! ### Sums that are not too great -/
theorem szR_zero:szR 0 0:=⟨by decide,by decide⟩
theorem addOK_zero {x:Rat} {b:Nat} (h:szR b x) (hb:b + 1 < 1200):addOK 0 x = true:=sz_addOK szR_zero h (by omega)
/-- Elements of at most 243 binary digits. -/
theorem sum_small {N:Nat} (hN:N ≤ 3) {q x:Nat → Rat} (hq:∀ k,k < N → szR 20 (q k)) (hx:∀ k,k < N → szR 243 (x k)):okSum 0 ((List.range N).map q) ((List.range N).map x):=by
  have hp:∀ k,k < N → szR 263 (q k * x k):=fun k hk => sz_mul (hq k hk) (hx k hk)
  have hm:∀ k,k < N → mulOK (q k) (x k) = true:=fun k hk => sz_mulOK (hq k hk) (hx k hk) (by omega)
  rcases N with _ | _ | _ | _ | N
  · trivial
  · exact ⟨hm 0 (by omega),addOK_zero (hp 0 (by omega)) (by omega),trivial⟩
  · refine ⟨hm 0 (by omega),addOK_zero (hp 0 (by omega)) (by omega),hm 1 (by omega),?_,trivial⟩
    rw [Rat.zero_add]
    exact sz_addOK (hp 0 (by omega)) (hp 1 (by omega)) (by omega)
  · refine ⟨hm 0 (by omega),addOK_zero (hp 0 (by omega)) (by omega),hm 1 (by omega),?_,hm 2 (by omega),?_,trivial⟩
    · rw [Rat.zero_add]
      exact sz_addOK (hp 0 (by omega)) (hp 1 (by omega)) (by omega)
    · rw [Rat.zero_add]
      exact sz_addOK (sz_add (hp 0 (by omega)) (hp 1 (by omega))) (hp 2 (by omega)) (by omega)
  · omega
/-- Elements of at most 567 binary digits, whose whole sum has 20. -/
theorem sum_solved {N:Nat} (hN:N ≤ 3) {q x:Nat → Rat} {v:Rat} (hq:∀ k,k < N → szR 20 (q k)) (hx:∀ k,k < N → szR 567 (x k)) (hv:szR 20 v) (hs:sumQ N (fun k => q k * x k) = v):okSum 0 ((List.range N).map q) ((List.range N).map x):=by
  have hp:∀ k,k < N → szR 587 (q k * x k):=fun k hk => sz_mul (hq k hk) (hx k hk)
  have hm:∀ k,k < N → mulOK (q k) (x k) = true:=fun k hk => sz_mulOK (hq k hk) (hx k hk) (by omega)
  rcases N with _ | _ | _ | _ | N
  · trivial
  · exact ⟨hm 0 (by omega),addOK_zero (hp 0 (by omega)) (by omega),trivial⟩
  · refine ⟨hm 0 (by omega),addOK_zero (hp 0 (by omega)) (by omega),hm 1 (by omega),?_,trivial⟩
    rw [Rat.zero_add]
    exact sz_addOK (hp 0 (by omega)) (hp 1 (by omega)) (by omega)
  · refine ⟨hm 0 (by omega),addOK_zero (hp 0 (by omega)) (by omega),hm 1 (by omega),?_,hm 2 (by omega),?_,trivial⟩
    · rw [Rat.zero_add]
      exact sz_addOK (hp 0 (by omega)) (hp 1 (by omega)) (by omega)
    · have e:(0:Rat) + q 0 * x 0 + q 1 * x 1 = v + -(q 2 * x 2):=by
        simp only [sumQ] at hs
        rw [← hs]; grind
      show addOK (0 + q 0 * x 0 + q 1 * x 1) (q 2 * x 2) = true
      rw [e]
      exact sz_addOK (sz_add hv (szR_neg (hp 2 (by omega)))) (hp 2 (by omega)) (by omega)
  · omega
end Go.Mini
namespace Go.Mini
open Go
set_option maxRecDepth 10000
set_option maxHeartbeats 1000000
theorem bd_567 {N p:Nat} {Q:Mat} (h:Bd N Q p) (hN:N ≤ 3) (hp:p ≤ N) {i k:Nat} (hi:i < N) (hk:k ≤ N):szR 567 (Q i k):=by
  refine ((h i hi).sz hk).mono ?_
  split
  · have:p ≤ 3:=by omega
    rcases p with _ | _ | _ | _ | p
    · decide
    · decide
    · decide
    · decide
    · omega
  · rcases p with _ | _ | _ | p
    · decide
    · decide
    · decide
    · omega
theorem solved_sz {rs:List RowD} (hf:fewRows rs 3 1 = true) (hr:rightS rs rs.length = true) {x:Nat → Rat} (he:solveX rs rs.length = (vecF rs.length x,0)):∀ k,k < rs.length → szR 567 (x k):=by
  obtain ⟨rows',free',Q',p',c',pv',hx,hE,hB,hp,-⟩:=elimS_ok3 true hf hr
  unfold solveX at he
  rw [if_pos hr,hx] at he
  simp only [Bool.false_eq_true,if_false] at he
  split at he
  · have:=congrArg Prod.snd he
    exact absurd this (show ¬ ((17:Int) = 0) by decide)
  · have h1:rows'.map (lastOf rs.length) = vecF rs.length x:=congrArg Prod.fst he
    rw [rows_last hE.enc] at h1
    intro k hk
    have h2:(vecF rs.length _)[k]? = (vecF rs.length _)[k]?:=congrArg (fun l:List FRaw => l[k]?) h1
    rw [vecF_get _ hk,vecF_get _ hk] at h2
    have h3:=encR_inj (Option.some.inj h2)
    rw [← h3]
    exact bd_567 hB (few_rows hf).1 hp hk (Nat.le_refl _)
theorem kernel_sz {rs:List RowD} (hf:fewRows rs 3 1 = true) (hr:rightS rs rs.length = true) {y:Nat → Rat} (he:kernX rs rs.length = (vecF rs.length y,true)):∀ k,k < rs.length → szR 243 (y k):=by
  obtain ⟨rows',free',Q',p',c',pv',hx,hE,hB,hp,hfree⟩:=elimS_ok3 true hf hr
  unfold kernX at he
  rw [if_pos hr,hx] at he
  rcases hfree rfl with rfl | ⟨rfl,hpN⟩
  · simp at he
  · simp only [Bool.false_or,List.length_singleton,List.headD_cons] at he
    rw [if_neg (by simp)] at he
    have h1:kerP rows' p' rs.length p' = vecF rs.length y:=congrArg Prod.fst he
    rw [ker_enc hE.enc hpN] at h1
    intro k hk
    have h2:(vecF rs.length _)[k]? = (vecF rs.length _)[k]?:=congrArg (fun l:List FRaw => l[k]?) h1
    rw [vecF_get _ hk,vecF_get _ hk] at h2
    have h3:=encR_inj (Option.some.inj h2)
    rw [← h3]
    unfold kerQ
    split
    · rename_i hkp
      have:=((hB k hk).sz (k:=p') (by omega))
      rw [if_pos hkp] at this
      have e:(0:Rat) - Q' k p' = -(Q' k p'):=by grind
      rw [e]
      refine (szR_neg this).mono ?_
      have:=(few_rows hf).1
      rcases p' with _ | _ | _ | p'
      · decide
      · decide
      · decide
      · omega
    · split
      · exact ⟨Nat.one_le_two_pow,Nat.one_le_two_pow⟩
      · exact szR_zero.mono (by omega)
theorem lim_few {rs:List RowD} (hf:fewRows rs 3 1 = true):rs.length ≤ 40:=by have:=(few_rows hf).1; omega
theorem only_law (rs:List RowD) (x:List FRaw):OnlyP rs x:=by
  intro hf hx hr
  have hN:=(few_rows hf).1
  rcases solve_cases hr with e | ⟨q,e,k0,lim,sol⟩ | ⟨y,e,ke,lim,ann,j,hj,hyj⟩
  · exact absurd e (solve_ok3 hf hr)
  · left
    refine ⟨vecF rs.length q,e,k0,vecF_ok (by omega) lim,?_,?_⟩
    · have hA:Ann rs.length (matOf rs) (ext rs.length q (-1)):=(sol.1 q).2 fun _ _ => rfl
      exact check_of hr lim hA fun i hi => sum_solved hN (fun k hk => mat_sz hf hr hi k) (solved_sz hf hr e) (mat_sz hf hr hi rs.length) ((dot_row _ _ _).1 (hA i hi))
    · intro hc
      obtain ⟨q',rfl,hA'⟩:=check_true hr hc
      exact decide_eq_true (vecF_congr ((sol.1 q').1 hA'))
  · right
    refine ⟨vecF rs.length y,e,ke,vecF_ok (by omega) lim,vecF_len _ _,?_,okRows_few (homog_few hf),?_⟩
    · rw [List.all_eq_false]
      refine ⟨encR (y j),List.mem_of_getElem? (vecF_get y hj),?_⟩
      have:=zeroQ_enc (y j)
      unfold zeroQ at this
      rw [this,hyj]
      decide
    · have hh:=homog_right hr
      have:=check_of (rs:=homog rs) hh (q:=y) (by rw [homog_len]; exact lim) (by rw [homog_len]; exact (homog_ann y (-1)).2 ann) (fun i hi => by
        have hi':i < rs.length:=by rwa [homog_len] at hi
        have hs:=kernel_sz hf hr ke
        rw [homog_len]
        exact sum_small hN (fun k hk => by rw [homog_mat hi' k,if_pos hk]; exact mat_sz hf hr hi' k) hs)
      rw [homog_len] at this
      exact this
end Go.Mini
