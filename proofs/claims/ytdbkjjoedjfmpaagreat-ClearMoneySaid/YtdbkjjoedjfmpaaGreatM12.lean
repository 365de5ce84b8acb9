/- A part of the proof. -/
import Derived.Test.YtdbkjjoedjfmpaaGreatM11
import Derived.Test.YtdbkjjoedjfmpaaGreatM04
set_option linter.unusedSimpArgs false
set_option linter.unusedVariables false
open List renaming mem_cons_self → afz, mem_cons_of_mem → afB, getElem?_map → afE, getElem?_eq_getElem → afF, filter_cons_of_pos → afG, filter_cons_of_neg → afH, map_congr_left → afI, length_filter_le → afJ, range → afK, range_succ → afL, filter_append → afM, filter_nil → afN, append_nil → afO, length_range → afP, map_append → afQ, append_inj → afT, length_map → afU, take → afV, drop → afW, drop_succ_cons → afX, drop_append_of_le_length → afY, take_append_of_le_length → afZ, length_drop → af0, drop_append → af1, drop_eq_nil_of_le → af2, nil_append → af3, take_of_length_le → af4, getD_eq_getElem?_getD → af5, getElem?_eq_none → af6, mem_of_getElem? → agd, take_length → agj, getElem_mem → agk, replicate → agl, map_replicate → agm, length_replicate → agn, take_zero → agp, take_add_one → agq, take_append_drop → agr, map_cons → ags, map_nil → agt, set_cons_zero → agu, flatMap_append → agw, flatMap_cons → agx, flatMap_nil → agy, flatMap_def → agz, append_assoc → agB, map → agC
open Int renaming le_refl → afA, toNat_natCast → agA
open Rat renaming zero_num → afC, zero_den → afD, add_zero → afR, le_refl → afS
open Prod renaming ext_iff → af7, ext → agc
open Bool renaming false_eq_true → af8, false_and → af9, true_and → aga, eq_iff_iff → agb, not_true → agh, not_false → agi
open Nat renaming zero_le → age, mul_one → ago, reduceEqDiff → agv
open Decidable renaming em → agf
namespace Go.Mini
open Go
set_option maxRecDepth 10000
set_option maxHeartbeats 4000000
structure p6 (l:List ClR) (x:Rat):Prop where
 own:OwnOK l
 pos:0≤x
 sz:szR 460 x
theorem OwnOK.less {l:List ClR} (h:OwnOK l) {c:ClR} (hc:c∈l) (r:Int):(bt l fun c'=>if c'.2.2.1<r then c'.2.2.2 else 0)=aP l c.1 r:=by
 unfold aP;refine jp fun c' hc'=>?_
 have:=h.one c' hc' c hc
 by_cases h1:c'.2.2.1<r
 ·rw[if_pos h1,if_pos ⟨this,h1⟩]
 ·rw[if_neg h1,if_neg fun h=>h1 h.2]
theorem uh (l:List ClR) (F G:ClR→Int):bt l (fun c=>F c+G c)=bt l F+bt l G:=by
 induction l with
 | nil=>simp [bt]
 | cons c l ih=>simp only[bt,ih];omega
theorem OwnOK.same {l:List ClR} (h:OwnOK l) {c:ClR} (hc:c∈l) (r:Int):(bt l fun c'=>if c'.2.2.1=r then c'.2.2.2 else 0)=SI l c.1 r:=by
 have h1:=h.less hc r;have h2:=h.less hc (r+1)
 have h3:(bt l fun c'=>if c'.2.2.1<r+1 then c'.2.2.2 else 0)=(bt l fun c'=>if c'.2.2.1<r then c'.2.2.2 else 0)+bt l fun c'=>if c'.2.2.1=r then c'.2.2.2 else 0:=by
  rw[←uh];refine jp fun c _=>?_
  by_cases k1:c.2.2.1<r
  ·rw[if_pos (by omega),if_pos k1,if_neg (by omega)];omega
  ·rw[if_neg k1]
   by_cases k2:c.2.2.1=r
   ·rw[if_pos (by omega),if_pos k2];omega
   ·rw[if_neg (by omega),if_neg k2];omega
 unfold SI;omega
theorem OwnOK.bound {l:List ClR} (h:OwnOK l) (p:ClR→Prop) [DecidablePred p]:0≤bt l (fun c=>if p c then c.2.2.2 else 0)∧bt l (fun c=>if p c then c.2.2.2 else 0)≤536870912:=by
 have:=tj (cs:=l) (F:=fun c=>if p c then c.2.2.2 else 0) (B:=33554432) (by omega) fun c hc=>by
  have:=h.c c hc
  try dsimp only
  split<;>omega
 have:=h.len;omega
theorem KC (cs:List ClR) (i r:Int):SI cs i r=bt cs fun c=>if c.1=i∧c.2.2.1=r then c.2.2.2 else 0:=by
 have h3:aP cs i (r+1)=aP cs i r+bt cs fun c=>if c.1=i∧c.2.2.1=r then c.2.2.2 else 0:=by
  unfold aP;rw[←uh];refine jp fun c _=>?_
  split<;>split<;>split<;>omega
 unfold SI;omega
theorem LV {cs:List ClR} {F:ClR→Int} (h:∀ c∈cs,0≤F c) {c:ClR} (hc:c∈cs):F c≤bt cs F:=by
 induction cs with
 | nil=>cases hc
 | cons a l ih =>
  simp only[bt];have h0:=h a afz
  have h1:0≤bt l F:=by
   have:∀ l:List ClR,(∀ c∈l,0≤F c)→0≤bt l F:=by
    intro l
    induction l with
    | nil=>intro _;exact afA _
    | cons b l ih2=>intro hh;simp only[bt];have:=hh b afz;have:=ih2 fun c hc=>hh c (afB _ hc);omega
   exact this l fun c hc=>h c (afB _ hc)
  rcases List.mem_cons.1 hc with rfl | hc
  ·omega
  ·have:=ih (fun c hc=>h c (afB _ hc)) hc
   omega
theorem As {cs:List ClR} (h:∀ c∈cs,0≤c.2.2.2) {c:ClR} (hc:c∈cs):c.2.2.2≤SI cs c.1 c.2.2.1:=by
 rw[KC];have:=LV (F:=fun c'=>if c'.1=c.1∧c'.2.2.1=c.2.2.1 then c'.2.2.2 else 0) (fun c' hc'=>by have:=h c' hc';split<;>omega) hc
 rwa [if_pos ⟨rfl,rfl⟩] at this
section
variable {cs:List ClR} {x:Rat} {c:ClR}
theorem pn (cs:List ClR) (i r:Int):((aP cs i (r+1):Int):Rat)=((aP cs i r:Int):Rat)+((SI cs i r:Int):Rat):=by
 rw[←Rat.intCast_add]
 congr 1
 unfold SI;omega
theorem ws (hn:∀ c∈cs,0≤c.2.2.2) (hc:c∈cs) (h:x-((aP cs c.1 c.2.2.1:Int):Rat)≤0):cg cs x c=0:=by
 unfold cg;have h1:=As hn hc;have h2:=hn c hc;rw[pn]
 split
 ·rename_i h3
  have h4:((SI cs c.1 c.2.2.1:Int):Rat)≤((0:Int):Rat):=by
   have:((0:Int):Rat)=0:=rfl;rw[this];generalize ((aP cs c.1 c.2.2.1:Int):Rat)=u at *;grind
  have h5:SI cs c.1 c.2.2.1≤0:=by exact_mod_cast h4
  rw[show c.2.2.2=0 by omega];rfl
 ·rw[gk h,Rat.mul_zero]
theorem Im (h:((SI cs c.1 c.2.2.1:Int):Rat)≤x-((aP cs c.1 c.2.2.1:Int):Rat)):cg cs x c=(c.2.2.2:Rat):=by
 unfold cg;rw[pn,if_pos];generalize ((aP cs c.1 c.2.2.1:Int):Rat)=u at *;generalize ((SI cs c.1 c.2.2.1:Int):Rat)=s at *;grind
theorem HD (h0:0≤x-((aP cs c.1 c.2.2.1:Int):Rat)) (h:x-((aP cs c.1 c.2.2.1:Int):Rat)<((SI cs c.1 c.2.2.1:Int):Rat)):cg cs x c=(c.2.2.2:Rat)*(x-((aP cs c.1 c.2.2.1:Int):Rat)) / ((SI cs c.1 c.2.2.1:Int):Rat):=by
 unfold cg;rw[pn,if_neg,ka h0]
 ·generalize ((aP cs c.1 c.2.2.1:Int):Rat)=u at *
  generalize ((SI cs c.1 c.2.2.1:Int):Rat)=s at *;grind
 ·generalize ((aP cs c.1 c.2.2.1:Int):Rat)=u at *
  generalize ((SI cs c.1 c.2.2.1:Int):Rat)=s at *;grind
end
theorem eT {n:Int} (h:ct n):cr (n:Rat):=⟨by rw[Rat.num_intCast];exact jI h,by rw[Rat.den_intCast];decide +kernel⟩
theorem K1 {x:Rat}:decide (x.num.sign≤0)=decide (x≤0):=by
 have:x.num.sign≤0↔x≤0:=by
  rw[Int.sign_nonpos_iff,Rat.le_iff,afC,afD];omega
 rw[decide_eq_decide];exact this
theorem pP {x:Rat}:decide (x.num.sign<0)=decide (x<0):=by
 have:x.num.sign<0↔x<0:=by
  rw[Int.sign_neg_iff,Rat.lt_iff,afC,afD];omega
 rw[decide_eq_decide];exact this
def zC:ClR:=(0,0,0,0)
noncomputable def pQ (l:List ClR) (x:Rat) (j:Nat):aG:=ah (cg l x (l.getD j zC))
theorem HA (l:List ClR) (x:Rat):(fL l.length fun j=>some (pQ l x j))=(l.map fun c=>ah (cg l x c)).map some:=by
 symm
 refine Fb (by simp) fun i hi=>?_
 rw[afE,afE,afF hi];unfold pQ;rw[EQ (afF hi)];rfl
def bh (cs:List ClR) (who:Int):List ClR:=cs.filter fun c=>c.1==who
theorem Kw (cs:List ClR) (who:Int) (p:ClR→Prop) [DecidablePred p]:bt (bh cs who) (fun c=>if c.1=who∧p c then c.2.2.2 else 0)=bt cs fun c=>if c.1=who∧p c then c.2.2.2 else 0:=by
 unfold bh
 induction cs with
 | nil=>rfl
 | cons c l ih =>
  by_cases h:c.1=who
  ·rw[afG (by simpa using h)]
   simp only[bt,ih]
  ·rw[afH (by simpa using h),ih]
   simp only[bt];rw[if_neg fun hh=>h hh.1];omega
theorem AJ (cs:List ClR) (who r:Int):aP (bh cs who) who r=aP cs who r:=Kw cs who fun c=>c.2.2.1<r
theorem own_mem {cs:List ClR} {who:Int} {c:ClR}:c∈bh cs who↔c∈cs∧c.1=who:=by
 unfold bh;rw[List.mem_filter,beq_iff_eq]
theorem LW {cs:List ClR} {who:Int} {x:Rat} {c:ClR} (h:c.1=who):cg (bh cs who) x c=cg cs x c:=by
 unfold cg SI;rw[h,AJ,AJ]
theorem wl (cs:List ClR) (who:Int) (x:Rat):((bh cs who).map fun c=>ah (cg (bh cs who) x c))=(bh cs who).map fun c=>ah (cg cs x c) :=
 afI fun c hc=>by rw[LW (own_mem.1 hc).2]
theorem SmallD.own {cash:List Int} {cs:List ClR} (h:SmallD cash cs) (who:Int):OwnOK (bh cs who):=by
 have hr:=rightD_iff.1 h.right;have hn:=h.n5;refine⟨?_,fun c hc=>?_,fun c hc c' hc'=>?_⟩
 ·have:=afJ (fun c:ClR=>c.1==who) cs
  have:=h.c12;unfold bh;omega
 ·have h1:=hr.2.2.2 c (own_mem.1 hc).1
  have h2:=h.am c (own_mem.1 hc).1;omega
 ·rw[(own_mem.1 hc).2,(own_mem.1 hc').2]
theorem xp (n:Nat):((gU n).map MV.dat).all MV.one=true:=rfl
noncomputable def gM (d:Day) (f:Nat→Nat) (h:Nat→Rat) (i:Nat):List Nat:=(afK i).filter fun j=>decide (h j<d.U j (f j))
theorem yL (d:Day) (f:Nat→Nat) (h:Nat→Rat) (i:Nat):gM d f h (i+1)=if h i<d.U i (f i) then gM d f h i++[i] else gM d f h i:=by
 unfold gM;rw[afL,afM]
 by_cases hh:h i<d.U i (f i)
 ·rw[if_pos hh,afG (by simpa using hh),afN]
 ·rw[if_neg hh,afH (by simpa using hh),afN,afO]
theorem Cj (d:Day) (f:Nat→Nat) (h:Nat→Rat) (i:Nat):(gM d f h i).length≤i:=by
 have:=afJ (fun j=>decide (h j<d.U j (f j))) (afK i);rw[afP] at this;exact this
end Go.Mini
namespace Go.Mini
open Classical
noncomputable def shP (d:Day) (l:List ClR) (i:Nat):Rat:=sumC (l.map bm) fun c=>if c.to=(i:Int) then d.w c else 0
theorem L9 (d:Day) (i:Nat):shP d [] i=0:=rfl
theorem Eu (d:Day) (l:List ClR) (c:ClR) (i:Nat):shP d (l++[c]) i=shP d l i+if c.2.1=(i:Int) then d.w (bm c) else 0:=by
 unfold shP;rw[afQ,jc]
 congr 1
 show (if (bm c).to=(i:Int) then d.w (bm c) else 0)+0=_;rw[afR]
 rfl
theorem OJ {cash:List Int} {cs:List ClR} (h:dq cash cs=true) (f:Nat→Nat) (k i:Nat):shP (ab cash cs) (aX cs k (f k)) i=(ab cash cs).W f k i:=by
 have hr:=(rightD_iff.1 h).2.2.2;unfold shP Day.W;rw[uL fun c hc=>⟨(hr c hc).1,(hr c hc).2.2.2.2.1⟩]
 refine cI fun c _=>?_
 by_cases h1:c.fr=k∧c.rk=f k
 ·rw[if_pos h1]
  by_cases h2:c.to=(i:Int)
  ·rw[if_pos h2,if_pos ⟨h2,h1⟩]
  ·rw[if_neg h2,if_neg fun h=>h2 h.1]
 ·rw[if_neg h1,if_neg fun h=>h1 h.2]
section
variable {cash:List Int} {cs:List ClR} (hs:SmallD cash cs) {k r:Nat} (hS:0<(ab cash cs).S k r)
include hs hS
theorem yH {c:ClR} (hc:c∈aX cs k r):DenBy (SN cs k r) ((ab cash cs).w (bm c))∧0≤(ab cash cs).w (bm c)∧(ab cash cs).w (bm c)=(c.2.2.2:Rat) / ((SI cs k r:Int):Rat):=by
 obtain⟨h1,h2,h3⟩:=cell_mem.1 hc;have e1:(bm c).fr=k:=by show c.1.toNat=k;omega
 have e2:(bm c).rk=r:=by show c.2.2.1.toNat=r;omega
 have hm:bm c∈(ab cash cs).cl:=List.mem_map_of_mem h1;refine⟨⟨c.2.2.2,?_⟩,hs.ok.w_nonneg hm,?_⟩
 ·rw[nt hs.right,←e1,←e2]
  exact Day.w_S (by rw[e1,e2];exact hS)
 ·unfold Day.w SI
  rw[e1,e2];have:=xJ hs.right k r;rw[←this]
  rfl
theorem Pn {l:List ClR} (hl:∃ l',aX cs k r=l++l') (i:Nat):szR 29 (shP (ab cash cs) l i):=by
 obtain⟨l',hl⟩:=hl;have hmem:∀ c∈l,c∈aX cs k r:=fun c hc=>by rw[hl];simp [hc]
 have hmem':∀ c∈l',c∈aX cs k r:=fun c hc=>by rw[hl];simp [hc]
 have hd:DenBy (SN cs k r) (shP (ab cash cs) l i):=by
  unfold shP;refine DenBy.sumC fun x hx=>?_
  obtain⟨c,hc,rfl⟩:=List.mem_map.1 hx
  split
  ·exact (yH hs hS (hmem c hc)).1
  ·exact DenBy.zero _
 have h0:∀ m:List ClR,(∀ c∈m,c∈aX cs k r)→0≤shP (ab cash cs) m i:=fun m hm=>dA fun x hx=>by
  obtain⟨c,hc,rfl⟩:=List.mem_map.1 hx
  try dsimp only
  split
  ·exact (yH hs hS (hm c hc)).2.1
  ·exact afS
 have h1:shP (ab cash cs) l i≤1:=by
  have e:shP (ab cash cs) (aX cs k r) i=shP (ab cash cs) l i+shP (ab cash cs) l' i:=by
   rw[hl];unfold shP;rw[afQ,jc]
  have e2:shP (ab cash cs) (aX cs k r) i≤sumC ((aX cs k r).map bm) (ab cash cs).w:=ng fun x hx=>by
   obtain⟨c,hc,rfl⟩:=List.mem_map.1 hx;have:=(yH hs hS hc).2.1
   split
   ·exact afS
   ·exact this
  have hr:=(rightD_iff.1 hs.right).2.2.2;rw[uL fun c hc=>⟨(hr c hc).1,(hr c hc).2.2.2.2.1⟩] at e2
  have e3:sumC (cs.map bm) (fun c=>if c.fr=k∧c.rk=r then (ab cash cs).w c else 0)=1:=by
   have hk:k<(ab cash cs).n:=by
    obtain⟨c,hc,hp⟩:=rA hS
    by_cases hcc:c.fr=k∧c.rk=r
    ·rw[←hcc.1];exact hs.ok.fr c hc
    ·rw[if_neg hcc] at hp;grind
   have:=hs.ok.sum_fr (fun j=>j=k) (fun _=>r) (fun j hj=>by subst hj;exact hS) fun _=>1
   rw[im hk (fun j _ hj=>by rw[if_neg hj]),if_pos rfl] at this;refine (cI fun c _=>?_).trans this
   by_cases hc:c.fr=k∧c.rk=r
   ·rw[if_pos hc,if_pos hc,Rat.mul_one]
   ·rw[if_neg hc,if_neg hc]
  have:=h0 l' hmem';grind
 have hN:0<SN cs k r:=by
  rw[←nt hs.right] at hS
  exact_mod_cast hS
 exact (hd.sz hN (hs.SN_le k r) (h0 l hmem) (e:=0) (by rw[show ((2^0:Nat):Rat)=1 from rfl];exact h1)).mono (by omega)
end
end Go.Mini
namespace Go.Mini
open Go
set_option maxRecDepth 10000
def clM (l:List ClR):MV:=if l=[] then .nil else .dat (.sl (l.map clL))
theorem Ms {a b:List ClR} (h:clM a=clM b):a=b:=by
 unfold clM at h
 by_cases ha:a=[]<;>by_cases hb:b=[]
 ·rw[ha,hb]
 ·rw[if_pos ha,if_neg hb] at h;cases h
 ·rw[if_neg ha,if_pos hb] at h;cases h
 ·rw[if_neg ha,if_neg hb] at h
  exact af fj _ _ (Data.sl.inj (MV.dat.inj h))
theorem Fq (l:List ClR):oY (clM l)=some l.length:=by
 unfold clM
 split
 ·rename_i h;rw[h];rfl
 ·simp [oY]
theorem E5 {l:List ClR} {n:Nat} {c:ClR} (h:l[n]?=some c):xN 4 n (clM l)=some (.dat (.ptr (clL c))):=by
 unfold clM
 split
 ·rename_i hl;rw[hl] at h;cases h
 ·simp only[xN,afE,h,Option.map_some]
  rw[if_pos (lH c)]
structure DebR where
 cash:Int
 cl:List (List ClR)
 us:List Int
 f:Int
 p:Bool
def dJ (x:DebR):List MV:=iC x.cash::(x.cl.map clM++(x.us.map iC++[iC x.f,bC x.p]))
def DebR.sf (x:DebR) (f:Int):DebR:=⟨x.cash,x.cl,x.us,f,x.p⟩
def DebR.sp (x:DebR) (p:Bool):DebR:=⟨x.cash,x.cl,x.us,x.f,p⟩
structure DebR.OK (x:DebR):Prop where
 cl:x.cl.length=10
 us:x.us.length=11
theorem jS {x:DebR} (h:x.OK):(dJ x).length=24:=by
 simp [dJ,h.cl,h.us]
theorem Jx {x y:DebR} (hx:x.OK) (hy:y.OK) (h:dJ x=dJ y):x=y:=by
 unfold dJ at h;obtain⟨h1,h2⟩:=List.cons.inj h;obtain⟨h3,h4⟩:=afT h2 (by rw[afU,afU,hx.cl,hy.cl]);obtain⟨h5,h6⟩:=afT h4 (by rw[afU,afU,hx.us,hy.us]);obtain⟨h7,h8⟩:=List.cons.inj h6;obtain⟨h9,-⟩:=List.cons.inj h8;obtain⟨x1,x2,x3,x4,x5⟩:=x;obtain⟨y1,y2,y3,y4,y5⟩:=y;have e2:=af (fun a b h=>Ms h) _ _ h3;have e3:=Ju h5;simp only[iC,bC,MV.dat.injEq,Data.int.injEq,Data.bool.injEq,true_and] at h1 h7 h9;dsimp only at *;rw[h1,e2,e3,h7,h9]
section
variable {x:DebR} (h:x.OK)
include h
omit h in
theorem Lc:afV 1 (dJ x)=[iC x.cash]:=rfl
omit h in
theorem I4 {k:Nat} {l:List ClR} (hk:x.cl[k]?=some l):afV 1 (afW (1+k) (dJ x))=[clM l]:=by
 have hlt:=(List.getElem?_eq_some_iff.1 hk).1;unfold dJ;rw[Nat.add_comm,afX,afY (by rw[afU];omega),afZ (by rw[af0,afU];omega)];exact EL (f:=clM) hk
theorem uz {k:Nat} {z:Int} (hk:x.us[k]?=some z):afV 1 (afW (11+k) (dJ x))=[iC z]:=by
 have hlt:=(List.getElem?_eq_some_iff.1 hk).1;unfold dJ;rw[show 11+k=(10+k)+1 by omega,afX,af1,af2 (by rw[afU,h.cl];omega),afU,h.cl,af3,show 10+k-10=k by omega,afY (by rw[afU];omega),afZ (by rw[af0,afU];omega)]
 exact EL (f:=iC) hk
theorem z7:afV 1 (afW 22 (dJ x))=[iC x.f]:=by
 unfold dJ;rw[afX,af1,af2 (by rw[afU,h.cl];omega),afU,h.cl,af3,af1,af2 (by rw[afU,h.us];omega),afU,h.us]
 rfl
theorem NZ:afV 1 (afW 23 (dJ x))=[bC x.p]:=by
 unfold dJ;rw[afX,af1,af2 (by rw[afU,h.cl];omega),afU,h.cl,af3,af1,af2 (by rw[afU,h.us];omega),afU,h.us]
 rfl
theorem Ih (f:Int):afV 22 (dJ x)++[MV.dat (.int .i64 f)]++afW 23 (dJ x)=dJ (x.sf f):=by
 have e:dJ x=(iC x.cash::(x.cl.map clM++x.us.map iC))++[iC x.f,bC x.p]:=by simp [dJ]
 have l:(iC x.cash::(x.cl.map clM++x.us.map iC)).length=22:=by simp [h.cl,h.us]
 rw[e,afZ (by omega),af4 (by omega),af1,af2 (by omega),l];simp [dJ,DebR.sf,iC]
theorem AP (p:Bool):afV 23 (dJ x)++[MV.dat (.bool p)]++afW 24 (dJ x)=dJ (x.sp p):=by
 have e:dJ x=(iC x.cash::(x.cl.map clM++(x.us.map iC++[iC x.f])))++[bC x.p]:=by simp [dJ]
 have l:(iC x.cash::(x.cl.map clM++(x.us.map iC++[iC x.f]))).length=23:=by simp [h.cl,h.us]
 rw[e,afZ (by omega),af4 (by omega),af1,af2 (by omega),l];simp [dJ,DebR.sp,bC]
end
structure DebA where
 cash:List Int
 cs:List ClR
 fl:List Int
 P:List Bool
 g:Nat
 gs:List Nat
def DebA.deb (a:DebA) (i:Nat):DebR:=⟨a.cash.getD i 0,fL 10 fun k=>aX a.cs i k,fL 11 fun k=>aP a.cs i (k:Nat),a.fl.getD i 10,a.P.getD i false⟩
theorem DebA.deb_ok (a:DebA) (i:Nat):(a.deb i).OK:=⟨bU _ _,bU _ _⟩
structure DebA.At (a:DebA) (m:Mem):Prop where
 can:a.cs=aI a.cash.length a.cs
 fl:a.fl.length=a.cash.length
 pl:a.P.length=a.cash.length
 gl:a.gs.length=a.cash.length
 row:m 228023=some (a.g,fL a.cash.length fun i => .ptr (228500+i) (a.gs.getD i 0) 0)
 blk:∀ i,i<a.cash.length→m (228500+i)=some (a.gs.getD i 0,dJ (a.deb i))
theorem iV {α:Type} {d:α} {n:Nat} {a b:List α} (ha:a.length=n) (hb:b.length=n) (h:∀ i,i<n→a.getD i d=b.getD i d):a=b:=by
 apply List.ext_getElem?;intro i;rcases Nat.lt_or_ge i n with hi | hi
 ·have:=h i hi
  rw[af5,af5,afF (by omega),afF (by omega)] at this;rw[afF (by omega),afF (by omega)];exact congrArg some this
 ·rw[af6 (by omega),af6 (by omega)]
theorem Ib {α:Type} {n:Nat} {p q:Nat→α} (h:fL n p=fL n q):∀ i,i<n→p i=q i:=fun i hi=>by
 have h1:=cX p hi;rw[h,cX q hi] at h1;exact (Option.some.inj h1).symm
theorem DebA.uniq {a b:DebA} {m:Mem} (h:a.At m) (h':b.At m):a=b:=by
 obtain⟨a1,a2,a3,a4,a5,a6⟩:=a;obtain⟨b1,b2,b3,b4,b5,b6⟩:=b;obtain⟨c1,c2,c3,c4,c5,c6⟩:=h;obtain⟨d1,d2,d3,d4,d5,d6⟩:=h';dsimp only at *;rw[c5,Option.some.injEq,Prod.mk.injEq] at d5;obtain⟨rfl,hrow⟩:=d5
 have hn:a1.length=b1.length:=by
  have:=congrArg List.length hrow
  rwa [bU,bU] at this
 rw[←hn] at hrow d1 d2 d3 d4 d6
 have hg:a6=b6:=iV (d:=0) c4 d4 fun i hi=>by
  have:=Ib hrow i hi;rw[MV.ptr.injEq] at this;exact this.2.1
 subst hg
 have hb:∀ i,i<a1.length→DebA.deb ⟨a1,a2,a3,a4,a5,a6⟩ i=DebA.deb ⟨b1,b2,b3,b4,a5,a6⟩ i:=fun i hi=>by
  have h1:=c6 i hi;rw[d6 i hi,Option.some.injEq,Prod.mk.injEq] at h1;exact (Jx (DebA.deb_ok _ _) (DebA.deb_ok _ _) h1.2).symm
 simp only[DebA.deb,DebR.mk.injEq] at hb;have e1:a1=b1:=iV (d:=0) rfl hn.symm fun i hi=>(hb i hi).1
 subst e1
 have e2:a2=b2:=by
  rw[c1,d1];exact qx fun i hi k hk=>Ib (hb i hi).2.1 k hk
 have e3:a3=b3:=iV (d:=10) c2 d2 fun i hi=>(hb i hi).2.2.2.1
 have e4:a4=b4:=iV (d:=false) c3 d3 fun i hi=>(hb i hi).2.2.2.2
 rw[e2,e3,e4]
theorem DebA.At.fr {a:DebA} {mem m:Mem} {n:Nat} (h:a.At mem) (hf:FrK n mem m) (hn:n≠228) (h5:a.cash.length≤5):a.At m :=
 ⟨h.can,h.fl,h.pl,h.gl,by rw[hf 228023 (by omega)];exact h.row,fun i hi=>by rw[hf (228500+i) (by omega)];exact h.blk i hi⟩
def mf_rescue_day_1:MFunc :=
 { n:=6,np:=1,res:=[.t 2],body :=
 (.seq (.ops [
 Zb 2 false])
 (.seq (.ops [
 Zv 3 0,⟨some 4,none,.call fG [(.t 3)]⟩,Zt 5 4,Zv 2 5])
 .ret)) }
def mf_rescue_amount:MFunc :=
 { n:=9,np:=1,res:=[.t 2],body :=
 (.seq (.ops [
 Zb 2 false])
 (.seq (.ops [
 Zv 3 0,Zc 4 .geq 3 0,Zv 5 4,⟨some 6,some (5,true),.mv (.t 0)⟩,⟨some 7,some (5,true),.bin .leq (.t 6) (.c (ZI 1000000000000000))⟩,Zq 8 5 7,Zv 2 8])
 .ret)) }
def mf_rescue_day_2:MFunc :=
 { n:=42,np:=2,res:=[.t 3],body :=
 (.seq (.ops [
 Zk 2 252002 0,Zb 3 false])
 (.seq (.ops [
 Zf 4 0 2,Zl 5 1 4,Zc 6 .lss 5 0,Zv 7 6,⟨some 8,some (7,false),.fad 0 (.t 2)⟩,⟨some 9,some (7,false),.load 1 false (.t 8)⟩,⟨some 10,some (7,false),.load 1 false (.t 1)⟩,⟨some 11,some (7,false),.len (.t 10)⟩,⟨some 12,some (7,false),.bin .geq (.t 9) (.t 11)⟩,Zp 13 7 12,Zv 14 13,⟨some 15,some (14,false),.fad 1 (.t 2)⟩,⟨some 16,some (14,false),.load 1 false (.t 15)⟩,⟨some 17,some (14,false),.bin .lss (.t 16) (.c (.dat (.int .i64 (-1))))⟩,Zp 18 14 17,Zv 19 18,⟨some 20,some (19,false),.fad 1 (.t 2)⟩,⟨some 21,some (19,false),.load 1 false (.t 20)⟩,⟨some 22,some (19,false),.load 1 false (.t 1)⟩,⟨some 23,some (19,false),.len (.t 22)⟩,⟨some 24,some (19,false),.bin .geq (.t 21) (.t 23)⟩,Zp 25 19 24,Zv 26 25,⟨some 27,some (26,false),.fad 2 (.t 2)⟩,⟨some 28,some (26,false),.load 1 false (.t 27)⟩,⟨some 29,some (26,false),.bin .lss (.t 28) (.c (ZI 0))⟩,Zp 30 26 29,Zv 31 30,⟨some 32,some (31,false),.fad 2 (.t 2)⟩,⟨some 33,some (31,false),.load 1 false (.t 32)⟩,⟨some 34,some (31,false),.bin .geq (.t 33) (.c (ZI 10))⟩,Zp 35 31 34,Zv 36 35,⟨some 37,some (36,false),.fad 3 (.t 2)⟩,⟨some 38,some (36,false),.load 1 false (.t 37)⟩,⟨some 39,some (36,false),.call fG [(.t 38)]⟩,⟨some 40,some (36,false),.un .not (.t 39)⟩,Zp 41 36 40,Zv 3 41])
 .ret)) }
set_option maxHeartbeats 2000000
noncomputable def Fg:List Data→Option PRes:=FF (α:=Int × Int × Int) (fun (x,a,b)=>([.int .i64 x,.int .i64 a,.int .i64 b]:List Data)) (fun (x,a,b)=>some (.same (.bool (decide (a≤x)&&decide (x≤b)))))
theorem FS:∀ a b:Int × Int × Int,(fun (x,a,b)=>([.int .i64 x,.int .i64 a,.int .i64 b]:List Data)) a=(fun (x,a,b)=>([.int .i64 x,.int .i64 a,.int .i64 b]:List Data)) b→a=b:=by
  rintro⟨x1,a1,b1⟩ ⟨x2,a2,b2⟩ h;simp only[List.cons.injEq,Data.int.injEq,Data.agg.injEq,Data.sl.injEq,Data.bool.injEq,Data.str.injEq,Data.ptr.injEq,Data.tup.injEq,Prod.mk.injEq,true_and,and_true] at h ⊢
  first | exact h | simpa [af7,and_assoc] using h | grind
@[go_sem] theorem R9 (x:Int) (a:Int) (b:Int):Fg [.int .i64 x,.int .i64 a,.int .i64 b]=some (.same (.bool (decide (a≤x)&&decide (x≤b)))):=aY FS (x,a,b)
theorem R3 (T:Tab)  (x:Int) (a:Int) (b:Int) :
  wp T mf_clear_right_1.body (bF mf_clear_right_1.res (.same (.bool (decide (a≤x)&&decide (x≤b))))) ⟨ax [.dat (.int .i64 x),.dat (.int .i64 a),.dat (.int .i64 b)],emp⟩:=by
 refine ap ?_;simp only[mf_clear_right_1];rcases c1:decide (a≤x)
 ·have c2:decide (x≥a)=false:=c1
  refine qI ?_
  repeat' (intro h<;>simp only[h,go_sem,go_sem_proc,af8,c1,c2,af9]<;>try refine qS ?_ ?_)
 ·have c2:decide (x≥a)=true:=c1
  refine qI ?_
  repeat' (intro h<;>simp only[h,go_sem,go_sem_proc,af8,c1,c2,aga]<;>try refine qS ?_ ?_)
noncomputable def H2:List Data→Option PRes:=FF (α:=Int) (fun (x:Int)=>([.int .i64 x,.ptr [.fn bo []]]:List Data)) (fun (x:Int)=>some (.same (.bool (!dU x))))
theorem G0:∀ a b:Int,(fun (x:Int)=>([.int .i64 x,.ptr [.fn bo []]]:List Data)) a=(fun (x:Int)=>([.int .i64 x,.ptr [.fn bo []]]:List Data)) b→a=b:=by
  intro x1 x2 h;simp only[List.cons.injEq,Data.int.injEq,Data.agg.injEq,Data.sl.injEq,Data.bool.injEq,Data.str.injEq,Data.ptr.injEq,Data.tup.injEq,Prod.mk.injEq,true_and,and_true] at h ⊢
  first | exact h | simpa [af7,and_assoc] using h | grind
@[go_sem] theorem Sm (x:Int):H2 [.int .i64 x,.ptr [.fn bo []]]=some (.same (.bool (!dU x))):=aY G0 x
theorem RP (T:Tab) (KR:T bo=mkE Fg) (x:Int) :
  wp T mf_clear_right_2.body (bF mf_clear_right_2.res (.same (.bool (!dU x)))) ⟨ax [.dat (.int .i64 x),.dat (.ptr [.fn bo []])],emp⟩:=by
 refine ap ?_;simp only[mf_clear_right_2];unfold dU;refine qI ?_
 repeat' (intro h<;>simp only[h,go_sem,go_sem_proc,af8,KR]<;>try refine qS ?_ ?_)
noncomputable def I1:List Data→Option PRes:=FF (α:=Int × Int × Int × Int × Int) (fun (a,b,k,x,n)=>([.agg [.int .i64 a,.int .i64 b,.int .i64 k,.int .i64 x],.ptr [.fn bo []],.ptr [.int .i64 n]]:List Data)) (fun (a,b,k,x,n)=>aH (0≤n∧n≤1000000) (.same (.bool (!ff n (a,b,k,x)))))
theorem Hy:∀ a b:Int × Int × Int × Int × Int,(fun (a,b,k,x,n)=>([.agg [.int .i64 a,.int .i64 b,.int .i64 k,.int .i64 x],.ptr [.fn bo []],.ptr [.int .i64 n]]:List Data)) a=(fun (a,b,k,x,n)=>([.agg [.int .i64 a,.int .i64 b,.int .i64 k,.int .i64 x],.ptr [.fn bo []],.ptr [.int .i64 n]]:List Data)) b→a=b:=by
  rintro⟨a1,b1,k1,x1,n1⟩ ⟨a2,b2,k2,x2,n2⟩ h;simp only[List.cons.injEq,Data.int.injEq,Data.agg.injEq,Data.sl.injEq,Data.bool.injEq,Data.str.injEq,Data.ptr.injEq,Data.tup.injEq,Prod.mk.injEq,true_and,and_true] at h ⊢
  first | exact h | simpa [af7,and_assoc] using h | grind
@[go_sem] theorem RB (a:Int) (b:Int) (k:Int) (x:Int) (n:Int) (hc:0≤n∧n≤1000000):I1 [.agg [.int .i64 a,.int .i64 b,.int .i64 k,.int .i64 x],.ptr [.fn bo []],.ptr [.int .i64 n]]=some (.same (.bool (!ff n (a,b,k,x)))):=(aY Hy (a,b,k,x,n)).trans (al hc _)
theorem Sn (T:Tab) (KR:T bo=mkE Fg) (a:Int) (b:Int) (k:Int) (x:Int) (n:Int) (hc:0≤n∧n≤1000000) :
  wp T mf_clear_right_3.body (bF mf_clear_right_3.res (.same (.bool (!ff n (a,b,k,x))))) ⟨ax [.dat (.agg [.int .i64 a,.int .i64 b,.int .i64 k,.int .i64 x]),.dat (.ptr [.fn bo []]),.dat (.ptr [.int .i64 n])],emp⟩:=by
 refine ap ?_;simp only[mf_clear_right_3];have w:IntKind.i64.wrap (n-1)=n-1:=by rw[an _ (by omega) (by omega)]
 have e:ff n (a,b,k,x)=((decide (0≤a)&&decide (a≤n-1))&&((decide (-1≤b)&&decide (b≤n-1))&&((decide (0≤k)&&decide (k≤9))&&(decide (0≤x)&&decide (x≤1000000000000000))))):=by
  rw[agb,rightC_iff];simp only[Bool.and_eq_true,decide_eq_true_eq];omega
 rw[e];rcases c1:(decide (0≤a)&&decide (a≤n-1))<;>rcases c2:(decide (-1≤b)&&decide (b≤n-1))<;>rcases c3:(decide (0≤k)&&decide (k≤9))<;>rcases c4:(decide (0≤x)&&decide (x≤1000000000000000))
 all_goals
      refine qI ?_
      repeat' (intro h<;>simp only[h,go_sem,go_sem_proc,af8,KR,w,c1,c2,c3,c4]<;>try refine qS ?_ ?_)
noncomputable def sa:List Data→Option PRes:=FF (α:=Int × (List aG) × Nat) (fun (z,h,i)=>([.int .i64 z,.ptr [.sl (h.map ad)],.ptr [.int .i64 i]]:List Data)) (fun (z,h,i)=>aH (ct z∧i<h.length∧okL h) (.same (.bool (decide (lm (h.getD i cj) (ah (z:Rat))<0)))))
theorem wa:∀ a b:Int × (List aG) × Nat,(fun (z,h,i)=>([.int .i64 z,.ptr [.sl (h.map ad)],.ptr [.int .i64 i]]:List Data)) a=(fun (z,h,i)=>([.int .i64 z,.ptr [.sl (h.map ad)],.ptr [.int .i64 i]]:List Data)) b→a=b:=by
  rintro⟨z1,h1,i1⟩ ⟨z2,h2,i2⟩ h;simp only[List.cons.injEq,Data.int.injEq,Data.ptr.injEq,Data.sl.injEq,and_true,true_and] at h;exact agc h.1 (agc (af cV _ _ h.2.1) (by have:=h.2.2;dsimp only;omega))
@[go_sem] theorem yM (z:Int) (h:List aG) (i:Nat) (hc:ct z∧i<h.length∧okL h):sa [.int .i64 z,.ptr [.sl (h.map ad)],.ptr [.int .i64 i]]=some (.same (.bool (decide (lm (h.getD i cj) (ah (z:Rat))<0)))):=(aY wa (z,h,i)).trans (al hc _)
theorem Hz (T:Tab) (aF:T be=mkE fx) (aq:T aW=mkE dt) (z:Int) (h:List aG) (i:Nat) (hc:ct z∧i<h.length∧okL h) :
  wp T mf_clear_Solve_1.body (bF mf_clear_Solve_1.res (.same (.bool (decide (lm (h.getD i cj) (ah (z:Rat))<0))))) ⟨ax [.dat (.int .i64 z),.dat (.ptr [.sl (h.map ad)]),.dat (.ptr [.int .i64 i])],emp⟩:=by
 refine ap ?_;simp only[mf_clear_Solve_1];obtain⟨hz,hi,hok⟩:=hc;have hw:=eP z hz;obtain⟨x,hx⟩:∃ x,h[i]?=some x:=⟨_,afF hi⟩;have hxd:h.getD i cj=x:=by rw[af5,hx];rfl
 obtain⟨o1,o2⟩:=hok.2 x (agd hx);obtain⟨o3,o4⟩:=d8 (eT hz);rw[hxd];generalize ah (z:Rat)=Z at *;obtain⟨⟨a1,a2⟩,⟨a3,a4⟩⟩:=Z;obtain⟨⟨b1,b2⟩,⟨b3,b4⟩⟩:=x;have hcp:=pm b1 b2 b3 b4 a1 a2 a3 a4 ⟨o1,o2,o3,o4⟩;simp only[ad] at hw;simp only[go_sem,go_sem_proc,af8,aF,aq,hw,hx,hcp,ad,afU,afE]
 repeat' (first|refine qS ?_ ?_|fail)<;>intro h<;>simp only[h,go_sem,go_sem_proc,af8,aF,aq,hw,hx,hcp,ad,afU,afE]
noncomputable def oD:List Data→Option PRes:=FF (α:=Int) (fun (x:Int)=>([.int .i64 x]:List Data)) (fun (x:Int)=>some (.same (.bool (dU x))))
theorem vO:∀ a b:Int,(fun (x:Int)=>([.int .i64 x]:List Data)) a=(fun (x:Int)=>([.int .i64 x]:List Data)) b→a=b:=by
  intro x1 x2 h;simp only[List.cons.injEq,Data.int.injEq,Data.agg.injEq,Data.sl.injEq,Data.bool.injEq,Data.str.injEq,Data.ptr.injEq,Data.tup.injEq,Prod.mk.injEq,true_and,and_true] at h ⊢
  first | exact h | simpa [af7,and_assoc] using h | grind
@[go_sem] theorem MU (x:Int):oD [.int .i64 x]=some (.same (.bool (dU x))):=aY vO x
theorem HQ (T:Tab)  (x:Int) :
  wp T mf_rescue_amount.body (bF mf_rescue_amount.res (.same (.bool (dU x)))) ⟨ax [.dat (.int .i64 x)],emp⟩:=by
 refine ap ?_;simp only[mf_rescue_amount];unfold dU;rcases c1:decide (0≤x)
 ·have c2:decide (x≥0)=false:=c1
  refine qI ?_
  repeat' (intro h<;>simp only[h,go_sem,go_sem_proc,af8,c1,c2,af9]<;>try refine qS ?_ ?_)
 ·have c2:decide (x≥0)=true:=c1
  refine qI ?_
  repeat' (intro h<;>simp only[h,go_sem,go_sem_proc,af8,c1,c2,aga]<;>try refine qS ?_ ?_)
noncomputable def zk:List Data→Option PRes:=FF (α:=Int) (fun (x:Int)=>([.int .i64 x]:List Data)) (fun (x:Int)=>some (.same (.bool (!dU x))))
theorem zK:∀ a b:Int,(fun (x:Int)=>([.int .i64 x]:List Data)) a=(fun (x:Int)=>([.int .i64 x]:List Data)) b→a=b:=by
  intro x1 x2 h;simp only[List.cons.injEq,Data.int.injEq,Data.agg.injEq,Data.sl.injEq,Data.bool.injEq,Data.str.injEq,Data.ptr.injEq,Data.tup.injEq,Prod.mk.injEq,true_and,and_true] at h ⊢
  first | exact h | simpa [af7,and_assoc] using h | grind
@[go_sem] theorem Pv (x:Int):zk [.int .i64 x]=some (.same (.bool (!dU x))):=aY zK x
theorem MT (T:Tab) (me:T fG=mkE oD) (x:Int) :
  wp T mf_rescue_day_1.body (bF mf_rescue_day_1.res (.same (.bool (!dU x)))) ⟨ax [.dat (.int .i64 x)],emp⟩:=by
 refine ap ?_;simp only[mf_rescue_day_1];refine qI ?_
 repeat' (intro h<;>simp only[h,go_sem,go_sem_proc,af8,me]<;>try refine qS ?_ ?_)
inductive sW where
 | right
 | day
 | solve (h:List aG) (i:Nat)
def ny:sW→Data
 | .right => .fn fw [.ptr [.fn bo []]]
 | .day => .fn iu []
 | .solve h i => .fn fy [.ptr [.sl (h.map ad)],.ptr [.int .i64 i]]
theorem Ar:∀ a b:sW,ny a=ny b→a=b:=by
 rintro (_ | _ | ⟨h,i⟩) (_ | _ | ⟨h',i'⟩) e
 all_goals first | rfl | (simp [ny,fw,iu,fy] at e;done) | skip
 simp only[ny,Data.fn.injEq,List.cons.injEq,Data.ptr.injEq,Data.sl.injEq,Data.int.injEq,and_true,true_and] at e;rw[af cV _ _ e.1,show i=i' by omega]
def pdI:sW→Int→Bool
 | .right,x => !dU x
 | .day,x => !dU x
 | .solve h i,x=>decide (lm (h.getD i cj) (ah (x:Rat))<0)
def okI (l:List Int):sW→Prop
 | .right=>True
 | .day=>True
 | .solve h i=>i<h.length∧okL h∧∀ x∈l,ct x
noncomputable def oE:List Data→Option PRes:=FF (α:=(List Int) × sW) (fun (l,c)=>([.sl (l.map aa),ny c]:List Data)) (fun (l,c)=>aH (l.length≤1000000∧okI l c) (.same (.int .i64 (mE (pdI c) l))))
theorem Az:∀ a b:(List Int) × sW,(fun (l,c)=>([.sl (l.map aa),ny c]:List Data)) a=(fun (l,c)=>([.sl (l.map aa),ny c]:List Data)) b→a=b:=by
  rintro⟨l1,c1⟩ ⟨l2,c2⟩ h;simp only[List.cons.injEq,Data.sl.injEq,and_true] at h;exact agc (af aj _ _ h.1) (Ar _ _ h.2)
@[go_sem] theorem Eg (l:List Int) (c:sW) (hc:l.length≤1000000∧okI l c):oE [.sl (l.map aa),ny c]=some (.same (.int .i64 (mE (pdI c) l))):=(aY Az (l,c)).trans (al hc _)
theorem Nx (T:Tab) (fH:T fw=mkE H2) (cN:T iu=mkE zk) (bJ:T fy=mkE sa) (l:List Int) (c:sW) (hc:l.length≤1000000∧okI l c) :
  wp T mf_slices_IndexFunc_int.body (bF mf_slices_IndexFunc_int.res (.same (.int .i64 (mE (pdI c) l)))) ⟨ax [.dat (.sl (l.map aa)),.dat (ny c)],emp⟩:=by
 refine ap ?_;simp only[mf_slices_IndexFunc_int];obtain⟨hl,hok⟩:=hc
 cases c with
 | right =>
  simp only[go_sem,go_sem_proc,af8,fH,cN,bJ,ny,afU];refine ae [0,1,7] [] (fun (i:Nat) tm mem=>i≤l.length∧(∀ x∈l.take i,pdI .right x=false)∧tm 8 = .dat (.int .i64 i)) (fun i=>l.length-i) 0 (by refine⟨age _,by simp,rfl⟩) ?_;intro vs ms hvs hms;simp only[go_sem,go_sem_proc,af8,fH,cN,bJ,afU] at hvs hms;subst hvs hms;rintro i tm mem hk hm ⟨hi,hall,h8⟩;simp only[go_sem,go_sem_proc,af8,fH,cN,bJ,List.cons.injEq] at hk hm;obtain⟨h0,h1,h7⟩:=hk;rcases agf (i<l.length) with hlt | hge
  ·have hx:=afF hlt
   have hat:=fun h=>lv (p:=pdI .right) hall hx h
   have hnx:=fun h=>eX (p:=pdI .right) hall hx h
   generalize l[i]=x at *;have hlt':decide ((i:Int)<(l.length:Int))=true:=decide_eq_true (by omega);have hw:IntKind.i64.wrap ((i:Int)+1)=((i+1:Nat):Int):=by rw[an _ (by omega) (by omega)];omega
   rcases hb:pdI .right x
   ·have hr:dU x=true:=by simpa [pdI] using hb
    simp only[go_sem,go_sem_proc,af8,fH,cN,bJ,h0,h1,h7,h8,hx,hlt',hw,hr,aa,afU,afE,agh]
    repeat' (first|refine qS ?_ ?_|fail)<;>intro h<;>simp only[h,go_sem,go_sem_proc,af8,fH,cN,bJ,h0,h1,h7,h8,hx,hlt',hw,hr,aa,afU,afE,agh]
    exact⟨i+1,by omega,by omega,hnx hb,rfl⟩
   ·have hr:dU x=false:=by simpa [pdI] using hb
    rw[hat hb];simp only[go_sem,go_sem_proc,af8,fH,cN,bJ,h0,h1,h7,h8,hx,hlt',hw,hr,aa,afU,afE,agi]
    repeat' (first|refine qS ?_ ?_|fail)<;>intro h<;>simp only[h,go_sem,go_sem_proc,af8,fH,cN,bJ,h0,h1,h7,h8,hx,hlt',hw,hr,aa,afU,afE,agi]
  ·have hlt':decide ((i:Int)<(l.length:Int))=false:=decide_eq_false (by omega)
   obtain rfl:i=l.length:=by omega
   rw[agj] at hall;rw[jq hall];simp only[go_sem,go_sem_proc,af8,fH,cN,bJ,h0,h1,h7,h8,hlt',afU]
   repeat' (first|refine qS ?_ ?_|fail)<;>intro h<;>simp only[h,go_sem,go_sem_proc,af8,fH,cN,bJ,h0,h1,h7,h8,hlt',afU]
 | day =>
  simp only[go_sem,go_sem_proc,af8,fH,cN,bJ,ny,afU];refine ae [0,1,7] [] (fun (i:Nat) tm mem=>i≤l.length∧(∀ x∈l.take i,pdI .day x=false)∧tm 8 = .dat (.int .i64 i)) (fun i=>l.length-i) 0 (by refine⟨age _,by simp,rfl⟩) ?_;intro vs ms hvs hms;simp only[go_sem,go_sem_proc,af8,fH,cN,bJ,afU] at hvs hms;subst hvs hms;rintro i tm mem hk hm ⟨hi,hall,h8⟩;simp only[go_sem,go_sem_proc,af8,fH,cN,bJ,List.cons.injEq] at hk hm;obtain⟨h0,h1,h7⟩:=hk;rcases agf (i<l.length) with hlt | hge
  ·have hx:=afF hlt
   have hat:=fun h=>lv (p:=pdI .day) hall hx h
   have hnx:=fun h=>eX (p:=pdI .day) hall hx h
   generalize l[i]=x at *;have hlt':decide ((i:Int)<(l.length:Int))=true:=decide_eq_true (by omega);have hw:IntKind.i64.wrap ((i:Int)+1)=((i+1:Nat):Int):=by rw[an _ (by omega) (by omega)];omega
   rcases hb:pdI .day x
   ·have hr:dU x=true:=by simpa [pdI] using hb
    simp only[go_sem,go_sem_proc,af8,fH,cN,bJ,h0,h1,h7,h8,hx,hlt',hw,hr,aa,afU,afE,agh]
    repeat' (first|refine qS ?_ ?_|fail)<;>intro h<;>simp only[h,go_sem,go_sem_proc,af8,fH,cN,bJ,h0,h1,h7,h8,hx,hlt',hw,hr,aa,afU,afE,agh]
    exact⟨i+1,by omega,by omega,hnx hb,rfl⟩
   ·have hr:dU x=false:=by simpa [pdI] using hb
    rw[hat hb];simp only[go_sem,go_sem_proc,af8,fH,cN,bJ,h0,h1,h7,h8,hx,hlt',hw,hr,aa,afU,afE,agi]
    repeat' (first|refine qS ?_ ?_|fail)<;>intro h<;>simp only[h,go_sem,go_sem_proc,af8,fH,cN,bJ,h0,h1,h7,h8,hx,hlt',hw,hr,aa,afU,afE,agi]
  ·have hlt':decide ((i:Int)<(l.length:Int))=false:=decide_eq_false (by omega)
   obtain rfl:i=l.length:=by omega
   rw[agj] at hall;rw[jq hall];simp only[go_sem,go_sem_proc,af8,fH,cN,bJ,h0,h1,h7,h8,hlt',afU]
   repeat' (first|refine qS ?_ ?_|fail)<;>intro h<;>simp only[h,go_sem,go_sem_proc,af8,fH,cN,bJ,h0,h1,h7,h8,hlt',afU]
 | solve h k =>
  obtain⟨hk0,hkl,hkz⟩:=hok;simp only[go_sem,go_sem_proc,af8,fH,cN,bJ,ny,afU];refine ae [0,1,7] [] (fun (i:Nat) tm mem=>i≤l.length∧(∀ x∈l.take i,pdI (.solve h k) x=false)∧tm 8 = .dat (.int .i64 i)) (fun i=>l.length-i) 0 (by refine⟨age _,by simp,rfl⟩) ?_;intro vs ms hvs hms;simp only[go_sem,go_sem_proc,af8,fH,cN,bJ,afU] at hvs hms;subst hvs hms;rintro i tm mem hk hm ⟨hi,hall,h8⟩;simp only[go_sem,go_sem_proc,af8,fH,cN,bJ,List.cons.injEq] at hk hm;obtain⟨h0,h1,h7⟩:=hk;rcases agf (i<l.length) with hlt | hge
  ·have hx:=afF hlt
   have hxz:=hkz _ (agk hlt);have hat:=fun hh=>lv (p:=pdI (.solve h k)) hall hx hh
   have hnx:=fun hh=>eX (p:=pdI (.solve h k)) hall hx hh
   generalize l[i]=x at *;have hF:=yM x h k ⟨hxz,hk0,hkl⟩;have hlt':decide ((i:Int)<(l.length:Int))=true:=decide_eq_true (by omega);have hw:IntKind.i64.wrap ((i:Int)+1)=((i+1:Nat):Int):=by rw[an _ (by omega) (by omega)];omega
   rcases hb:pdI (.solve h k) x
   ·have hr:=hb
    simp only[pdI] at hr;rw[hr] at hF;simp only[go_sem,go_sem_proc,af8,fH,cN,bJ,h0,h1,h7,h8,hx,hlt',hw,hF,aa,afU,afE]
    repeat' (first|refine qS ?_ ?_|fail)<;>intro h<;>simp only[h,go_sem,go_sem_proc,af8,fH,cN,bJ,h0,h1,h7,h8,hx,hlt',hw,hF,aa,afU,afE]
    exact⟨i+1,by omega,by omega,hnx hb,rfl⟩
   ·have hr:=hb
    simp only[pdI] at hr;rw[hr] at hF;rw[hat hb];simp only[go_sem,go_sem_proc,af8,fH,cN,bJ,h0,h1,h7,h8,hx,hlt',hw,hF,aa,afU,afE]
    repeat' (first|refine qS ?_ ?_|fail)<;>intro h<;>simp only[h,go_sem,go_sem_proc,af8,fH,cN,bJ,h0,h1,h7,h8,hx,hlt',hw,hF,aa,afU,afE]
  ·have hlt':decide ((i:Int)<(l.length:Int))=false:=decide_eq_false (by omega)
   obtain rfl:i=l.length:=by omega
   rw[agj] at hall;rw[jq hall];simp only[go_sem,go_sem_proc,af8,fH,cN,bJ,h0,h1,h7,h8,hlt',afU]
   repeat' (first|refine qS ?_ ?_|fail)<;>intro h<;>simp only[h,go_sem,go_sem_proc,af8,fH,cN,bJ,h0,h1,h7,h8,hlt',afU]
noncomputable def tN:List Data→Option PRes:=FF (α:=(List Int) × sW) (fun (l,c)=>([.sl (l.map aa),ny c]:List Data)) (fun (l,c)=>aH (l.length≤1000000∧okI l c) (.same (.bool (l.any (pdI c)))))
theorem zf:∀ a b:(List Int) × sW,(fun (l,c)=>([.sl (l.map aa),ny c]:List Data)) a=(fun (l,c)=>([.sl (l.map aa),ny c]:List Data)) b→a=b:=by
  rintro⟨l1,c1⟩ ⟨l2,c2⟩ h;simp only[List.cons.injEq,Data.sl.injEq,and_true] at h;exact agc (af aj _ _ h.1) (Ar _ _ h.2)
@[go_sem] theorem Cc (l:List Int) (c:sW) (hc:l.length≤1000000∧okI l c):tN [.sl (l.map aa),ny c]=some (.same (.bool (l.any (pdI c)))):=(aY zf (l,c)).trans (al hc _)
theorem KA (T:Tab) (eG:T cb=mkE oE) (l:List Int) (c:sW) (hc:l.length≤1000000∧okI l c) :
  wp T mf_slices_ContainsFunc_int.body (bF mf_slices_ContainsFunc_int.res (.same (.bool (l.any (pdI c))))) ⟨ax [.dat (.sl (l.map aa)),.dat (ny c)],emp⟩:=by
 refine ap ?_;simp only[mf_slices_ContainsFunc_int];rw[←ru];refine qI ?_
 repeat' (intro h<;>simp only[h,go_sem,go_sem_proc,af8,eG,hc]<;>try refine qS ?_ ?_)
noncomputable def xG:List Data→Option PRes:=FF (α:=Int × Int × Int × Int × (List Int)) (fun (a,b,k,x,cash)=>([.agg [.int .i64 a,.int .i64 b,.int .i64 k,.int .i64 x],.ptr [.sl (cash.map aa)]]:List Data)) (fun (a,b,k,x,cash)=>aH (cash.length≤1000000) (.same (.bool (!ff cash.length (a,b,k,x)))))
theorem BV:∀ a b:Int × Int × Int × Int × (List Int),(fun (a,b,k,x,cash)=>([.agg [.int .i64 a,.int .i64 b,.int .i64 k,.int .i64 x],.ptr [.sl (cash.map aa)]]:List Data)) a=(fun (a,b,k,x,cash)=>([.agg [.int .i64 a,.int .i64 b,.int .i64 k,.int .i64 x],.ptr [.sl (cash.map aa)]]:List Data)) b→a=b:=by
  rintro⟨a1,b1,k1,x1,cash1⟩ ⟨a2,b2,k2,x2,cash2⟩ h;simp only[List.cons.injEq,Data.agg.injEq,Data.int.injEq,Data.ptr.injEq,Data.sl.injEq,and_true,true_and] at h;obtain⟨⟨h1,h2,h3,h4⟩,h5⟩:=h;rw[h1,h2,h3,h4,af aj _ _ h5]
@[go_sem] theorem PI (a:Int) (b:Int) (k:Int) (x:Int) (cash:List Int) (hc:cash.length≤1000000):xG [.agg [.int .i64 a,.int .i64 b,.int .i64 k,.int .i64 x],.ptr [.sl (cash.map aa)]]=some (.same (.bool (!ff cash.length (a,b,k,x)))):=(aY BV (a,b,k,x,cash)).trans (al hc _)
theorem Nn (T:Tab) (me:T fG=mkE oD) (a:Int) (b:Int) (k:Int) (x:Int) (cash:List Int) (hc:cash.length≤1000000) :
  wp T mf_rescue_day_2.body (bF mf_rescue_day_2.res (.same (.bool (!ff cash.length (a,b,k,x))))) ⟨ax [.dat (.agg [.int .i64 a,.int .i64 b,.int .i64 k,.int .i64 x]),.dat (.ptr [.sl (cash.map aa)])],emp⟩:=by
 refine ap ?_;simp only[mf_rescue_day_2]
 by_cases hr:ff cash.length (a,b,k,x)=true
 ·have hr':=rightC_iff.1 hr
  dsimp only at hr';have c1:decide (a<0)=false:=decide_eq_false (by omega);have c2:decide (a≥(cash.length:Int))=false:=decide_eq_false (by omega);have c3:decide (b < -1)=false:=decide_eq_false (by omega);have c4:decide (b≥(cash.length:Int))=false:=decide_eq_false (by omega);have c5:decide (k<0)=false:=decide_eq_false (by omega);have c6:decide (k≥10)=false:=decide_eq_false (by omega);have c7:dU x=true:=rightM_iff.2 (by omega);refine qI ?_
  repeat' (intro h<;>simp only[h,go_sem,go_sem_proc,af8,me,hr,c1,c2,c3,c4,c5,c6,c7,afU,agh]<;>try refine qS ?_ ?_)
 ·have hf:ff cash.length (a,b,k,x)=false:=by simpa using hr
  rw[rightC_iff] at hr;dsimp only at hr;rcases c7:dU x
  ·refine qI ?_
   repeat' (intro h<;>simp only[h,go_sem,go_sem_proc,af8,me,hf,c7,afU,agh,agi]<;>try refine qS ?_ ?_)
  ·have c7':=rightM_iff.1 c7
   refine qI ?_
   repeat' (intro h<;>simp only[h,go_sem,go_sem_proc,af8,me,hf,c7,afU,agh,agi]<;>try refine qS ?_ ?_)
   all_goals (exfalso;simp only[decide_eq_false_iff_not] at *;omega)
inductive su where
 | right (n:Int)
 | day (cash:List Int)
def nG:su→Data
 | .right n => .fn fE [.ptr [.fn bo []],.ptr [.int .i64 n]]
 | .day cash => .fn it [.ptr [.sl (cash.map aa)]]
theorem Bd:∀ a b:su,nG a=nG b→a=b:=by
 rintro (n | c) (n' | c') e
 all_goals first | (simp [nG,fE,it] at e;done) | skip
 ·simp only[nG,Data.fn.injEq,List.cons.injEq,Data.ptr.injEq,Data.int.injEq,and_true,true_and] at e
  rw[e]
 ·simp only[nG,Data.fn.injEq,List.cons.injEq,Data.ptr.injEq,Data.sl.injEq,and_true,true_and] at e
  rw[af aj _ _ e]
def Dy:su→Int
 | .right n=>n
 | .day cash=>cash.length
def pdC (c:su) (x:ClR):Bool:=!ff (Dy c) x
def okC (c:su):Prop:=0≤Dy c∧Dy c≤1000000
noncomputable def rH:List Data→Option PRes:=FF (α:=(List ClR) × su) (fun (l,c)=>([.sl (l.map clL),nG c]:List Data)) (fun (l,c)=>aH (l.length≤1000000∧okC c) (.same (.int .i64 (mE (pdC c) l))))
theorem wd:∀ a b:(List ClR) × su,(fun (l,c)=>([.sl (l.map clL),nG c]:List Data)) a=(fun (l,c)=>([.sl (l.map clL),nG c]:List Data)) b→a=b:=by
  rintro⟨l1,c1⟩ ⟨l2,c2⟩ h;simp only[List.cons.injEq,Data.sl.injEq,and_true] at h;exact agc (af fj _ _ h.1) (Bd _ _ h.2)
@[go_sem] theorem Nz (l:List ClR) (c:su) (hc:l.length≤1000000∧okC c):rH [.sl (l.map clL),nG c]=some (.same (.int .i64 (mE (pdC c) l))):=(aY wd (l,c)).trans (al hc _)
theorem Hx (T:Tab) (jj:T fE=mkE I1) (eE:T it=mkE xG) (l:List ClR) (c:su) (hc:l.length≤1000000∧okC c) :
  wp T mf_slices_IndexFunc_Claim.body (bF mf_slices_IndexFunc_Claim.res (.same (.int .i64 (mE (pdC c) l)))) ⟨ax [.dat (.sl (l.map clL)),.dat (nG c)],emp⟩:=by
 refine ap ?_;simp only[mf_slices_IndexFunc_Claim];obtain⟨hl,hok⟩:=hc
 cases c with
 | right n =>
  have hn:0≤n∧n≤1000000:=hok;simp only[go_sem,go_sem_proc,af8,jj,eE,nG,afU];refine ae [0,1,7] [] (fun (i:Nat) tm mem=>i≤l.length∧(∀ x∈l.take i,pdC (.right n) x=false)∧tm 8 = .dat (.int .i64 i)) (fun i=>l.length-i) 0 (by refine⟨age _,by simp,rfl⟩) ?_;intro vs ms hvs hms;simp only[go_sem,go_sem_proc,af8,jj,eE,afU] at hvs hms;subst hvs hms;rintro i tm mem hk hm ⟨hi,hall,h8⟩;simp only[go_sem,go_sem_proc,af8,jj,eE,List.cons.injEq] at hk hm;obtain⟨h0,h1,h7⟩:=hk;rcases agf (i<l.length) with hlt | hge
  ·have hx:=afF hlt
   have hat:=fun h=>lv (p:=pdC (.right n)) hall hx h
   have hnx:=fun h=>eX (p:=pdC (.right n)) hall hx h
   generalize l[i]=x at *;obtain⟨a,b,k,z⟩:=x;have hlt':decide ((i:Int)<(l.length:Int))=true:=decide_eq_true (by omega);have hw:IntKind.i64.wrap ((i:Int)+1)=((i+1:Nat):Int):=by rw[an _ (by omega) (by omega)];omega
   rcases hb:pdC (.right n) (a,b,k,z)
   ·have hr:ff n (a,b,k,z)=true:=by simpa [pdC,Dy] using hb
    simp only[go_sem,go_sem_proc,af8,jj,eE,h0,h1,h7,h8,hx,hlt',hw,hr,hn,clL,afU,afE,agh]
    repeat' (first|refine qS ?_ ?_|fail)<;>intro h<;>simp only[h,go_sem,go_sem_proc,af8,jj,eE,h0,h1,h7,h8,hx,hlt',hw,hr,hn,clL,afU,afE,agh]
    exact⟨i+1,by omega,by omega,hnx hb,rfl⟩
   ·have hr:ff n (a,b,k,z)=false:=by simpa [pdC,Dy] using hb
    rw[hat hb];simp only[go_sem,go_sem_proc,af8,jj,eE,h0,h1,h7,h8,hx,hlt',hw,hr,hn,clL,afU,afE,agi]
    repeat' (first|refine qS ?_ ?_|fail)<;>intro h<;>simp only[h,go_sem,go_sem_proc,af8,jj,eE,h0,h1,h7,h8,hx,hlt',hw,hr,hn,clL,afU,afE,agi]
  ·have hlt':decide ((i:Int)<(l.length:Int))=false:=decide_eq_false (by omega)
   obtain rfl:i=l.length:=by omega
   rw[agj] at hall;rw[jq hall];simp only[go_sem,go_sem_proc,af8,jj,eE,h0,h1,h7,h8,hlt',afU]
   repeat' (first|refine qS ?_ ?_|fail)<;>intro h<;>simp only[h,go_sem,go_sem_proc,af8,jj,eE,h0,h1,h7,h8,hlt',afU]
 | day cash =>
  have hn:cash.length≤1000000:=by have h:(cash.length:Int)≤1000000:=hok.2;omega
  simp only[go_sem,go_sem_proc,af8,jj,eE,nG,afU];refine ae [0,1,7] [] (fun (i:Nat) tm mem=>i≤l.length∧(∀ x∈l.take i,pdC (.day cash) x=false)∧tm 8 = .dat (.int .i64 i)) (fun i=>l.length-i) 0 (by refine⟨age _,by simp,rfl⟩) ?_;intro vs ms hvs hms;simp only[go_sem,go_sem_proc,af8,jj,eE,afU] at hvs hms;subst hvs hms;rintro i tm mem hk hm ⟨hi,hall,h8⟩;simp only[go_sem,go_sem_proc,af8,jj,eE,List.cons.injEq] at hk hm;obtain⟨h0,h1,h7⟩:=hk;rcases agf (i<l.length) with hlt | hge
  ·have hx:=afF hlt
   have hat:=fun h=>lv (p:=pdC (.day cash)) hall hx h
   have hnx:=fun h=>eX (p:=pdC (.day cash)) hall hx h
   generalize l[i]=x at *;obtain⟨a,b,k,z⟩:=x;have hlt':decide ((i:Int)<(l.length:Int))=true:=decide_eq_true (by omega);have hw:IntKind.i64.wrap ((i:Int)+1)=((i+1:Nat):Int):=by rw[an _ (by omega) (by omega)];omega
   rcases hb:pdC (.day cash) (a,b,k,z)
   ·have hr:ff cash.length (a,b,k,z)=true:=by simpa [pdC,Dy] using hb
    simp only[go_sem,go_sem_proc,af8,jj,eE,h0,h1,h7,h8,hx,hlt',hw,hr,hn,clL,afU,afE,agh]
    repeat' (first|refine qS ?_ ?_|fail)<;>intro h<;>simp only[h,go_sem,go_sem_proc,af8,jj,eE,h0,h1,h7,h8,hx,hlt',hw,hr,hn,clL,afU,afE,agh]
    exact⟨i+1,by omega,by omega,hnx hb,rfl⟩
   ·have hr:ff cash.length (a,b,k,z)=false:=by simpa [pdC,Dy] using hb
    rw[hat hb];simp only[go_sem,go_sem_proc,af8,jj,eE,h0,h1,h7,h8,hx,hlt',hw,hr,hn,clL,afU,afE,agi]
    repeat' (first|refine qS ?_ ?_|fail)<;>intro h<;>simp only[h,go_sem,go_sem_proc,af8,jj,eE,h0,h1,h7,h8,hx,hlt',hw,hr,hn,clL,afU,afE,agi]
  ·have hlt':decide ((i:Int)<(l.length:Int))=false:=decide_eq_false (by omega)
   obtain rfl:i=l.length:=by omega
   rw[agj] at hall;rw[jq hall];simp only[go_sem,go_sem_proc,af8,jj,eE,h0,h1,h7,h8,hlt',afU]
   repeat' (first|refine qS ?_ ?_|fail)<;>intro h<;>simp only[h,go_sem,go_sem_proc,af8,jj,eE,h0,h1,h7,h8,hlt',afU]
noncomputable def pt:List Data→Option PRes:=FF (α:=(List ClR) × su) (fun (l,c)=>([.sl (l.map clL),nG c]:List Data)) (fun (l,c)=>aH (l.length≤1000000∧okC c) (.same (.bool (l.any (pdC c)))))
theorem uH:∀ a b:(List ClR) × su,(fun (l,c)=>([.sl (l.map clL),nG c]:List Data)) a=(fun (l,c)=>([.sl (l.map clL),nG c]:List Data)) b→a=b:=by
  rintro⟨l1,c1⟩ ⟨l2,c2⟩ h;simp only[List.cons.injEq,Data.sl.injEq,and_true] at h;exact agc (af fj _ _ h.1) (Bd _ _ h.2)
@[go_sem] theorem vV (l:List ClR) (c:su) (hc:l.length≤1000000∧okC c):pt [.sl (l.map clL),nG c]=some (.same (.bool (l.any (pdC c)))):=(aY uH (l,c)).trans (al hc _)
theorem D4 (T:Tab) (F7:T eK=mkE rH) (l:List ClR) (c:su) (hc:l.length≤1000000∧okC c) :
  wp T mf_slices_ContainsFunc_Claim.body (bF mf_slices_ContainsFunc_Claim.res (.same (.bool (l.any (pdC c))))) ⟨ax [.dat (.sl (l.map clL)),.dat (nG c)],emp⟩:=by
 refine ap ?_;simp only[mf_slices_ContainsFunc_Claim];rw[←ru];refine qI ?_
 repeat' (intro h<;>simp only[h,go_sem,go_sem_proc,af8,F7,hc]<;>try refine qS ?_ ?_)
theorem Fs {α:Type} (l:List α) (p:α→Bool):l.any (fun x => !p x) = !l.all p:=by
 induction l with
 | nil=>rfl
 | cons a l ih=>rw[List.any_cons,List.all_cons,ih];cases p a<;>rfl
noncomputable def qn:List Data→Option PRes:=FF (α:=(List Int) × (List ClR)) (fun (cash,cs)=>([.sl (cash.map aa),.sl (cs.map clL)]:List Data)) (fun (cash,cs)=>aH (cash.length≤1000000∧cs.length≤1000000) (.same (.bool (dq cash cs))))
theorem xI:∀ a b:(List Int) × (List ClR),(fun (cash,cs)=>([.sl (cash.map aa),.sl (cs.map clL)]:List Data)) a=(fun (cash,cs)=>([.sl (cash.map aa),.sl (cs.map clL)]:List Data)) b→a=b:=by
  rintro⟨cash1,cs1⟩ ⟨cash2,cs2⟩ h;simp only[List.cons.injEq,Data.sl.injEq,and_true] at h;exact agc (af aj _ _ h.1) (af fj _ _ h.2)
@[go_sem] theorem N7 (cash:List Int) (cs:List ClR) (hc:cash.length≤1000000∧cs.length≤1000000):qn [.sl (cash.map aa),.sl (cs.map clL)]=some (.same (.bool (dq cash cs))):=(aY xI (cash,cs)).trans (al hc _)
theorem JS (T:Tab) (JP:T eC=mkE tN) (CU:T dT=mkE pt) (cash:List Int) (cs:List ClR) (hc:cash.length≤1000000∧cs.length≤1000000) :
  wp T mf_clear_right.body (bF mf_clear_right.res (.same (.bool (dq cash cs)))) ⟨ax [.dat (.sl (cash.map aa)),.dat (.sl (cs.map clL))],emp⟩:=by
 refine ap ?_;simp only[mf_clear_right];obtain⟨h1,h2⟩:=hc;rw[CO];have hA:=Cc cash .right ⟨h1,trivial⟩;have hB:=vV cs (.right cash.length) ⟨h2,by show (0:Int)≤(cash.length:Int);omega,by show (cash.length:Int)≤1000000;omega⟩
 have e1:cash.any (pdI .right) = !cash.all dU:=Fs cash dU;have e2:cs.any (pdC (.right cash.length)) = !cs.all (ff cash.length):=Fs cs _;rw[e1] at hA;rw[e2] at hB;simp only[ny] at hA;simp only[nG] at hB;have d1:decide (cash.length≤60)=decide ((cash.length:Int)≤60):=by rw[agb,decide_eq_true_iff,decide_eq_true_iff];omega
 have d2:decide (cs.length≤2000)=decide ((cs.length:Int)≤2000):=by rw[agb,decide_eq_true_iff,decide_eq_true_iff];omega
 rw[d1,d2];rcases q1:decide ((cash.length:Int)≤60)<;>rcases q2:decide ((cs.length:Int)≤2000)<;>rcases q3:cash.all dU<;>rcases q4:cs.all (ff cash.length)
 all_goals rw[q3] at hA
 all_goals rw[q4] at hB
 all_goals
      refine qI ?_
      repeat' (intro h<;>simp only[h,go_sem,go_sem_proc,af8,JP,CU,hA,hB,q1,q2,afU,agh,agi,Bool.and_true,Bool.and_false,toD,ro,Option.bind_none,scalar]<;>try refine qS ?_ ?_)
set_option maxHeartbeats 4000000
structure DebA.Fine (a:DebA):Prop where
 sm:SmallD a.cash a.cs
 h10:∀ x∈a.fl,0≤x∧x≤10
theorem DebA.f_eq {a:DebA} {m:Mem} (h:a.At m) (hf:a.Fine) {i:Nat} (hi:i<a.cash.length):a.fl.getD i 10=(fOf a.fl i:Int)∧fOf a.fl i≤10:=by
 have hl:=h.fl
 have:a.fl.getD i 10∈a.fl:=by
  rw[af5,afF (by omega)];exact agk _
 have:=hf.h10 _ this;unfold fOf;omega
structure ShQ (x:DebA × Nat) (mem:Mem):Prop where
 at_:x.1.At mem
 no:NoK 255 mem
 fine:x.1.Fine
 lt:x.2<x.1.cash.length
 f10:fOf x.1.fl x.2<10
 S:0<(ab x.1.cash x.1.cs).S x.2 (fOf x.1.fl x.2)
noncomputable def shD (x:DebA × Nat):Data:=.tup [.sl ((bM x.1.cash.length fun i=>(ab x.1.cash x.1.cs).W (fOf x.1.fl) x.2 i).map ad),.bool true]
noncomputable def oU:List MV→Mem→Option Data:=NN (fun (x:DebA × Nat) args mem=>args=[.ptr (228500+x.2) (x.1.gs.getD x.2 0) 0,.dat (.int .i64 x.1.cash.length)]∧ShQ x mem) shD
theorem yI (a:DebA) (k:Nat) (mem:Mem) (h:ShQ (a,k) mem):oU [.ptr (228500+k) (a.gs.getD k 0) 0,.dat (.int .i64 a.cash.length)] mem=some (shD (a,k)):=by
 refine KJ (a:=(a,k)) ?_ ⟨rfl,h⟩;rintro⟨a,i⟩ ⟨b,j⟩ args mem ⟨e1,e2⟩ ⟨e3,e4⟩;obtain rfl:=DebA.uniq e2.at_ e4.at_;rw[e1] at e3;simp only[List.cons.injEq,MV.ptr.injEq,MV.dat.injEq,Data.int.injEq,true_and,and_true] at e3;have h1:228500+i=228500+j:=e3.1;have:i=j:=by omega
 rw[this]
theorem IW (N:Nat) (F:aG):(agl N (ad F)).flatten.map MV.dat=aC ad (agl N F):=by
 unfold aC;rw[agm,List.map_flatten,agm]
theorem Hv (T:Tab) (aF:T be=mkE fx) (FI:T f7=mkE r5) (sQ:T iJ=mkE BW) (bA:T cS=mkE lj) (a:DebA) (k:Nat) (mem:Mem) (h:ShQ (a,k) mem) :
  wp T mf_clear_debtor_shares.body (rh mf_clear_debtor_shares.res fun m mem'=>toD 6 emp m=some (shD (a,k))∧FrK 255 mem mem') ⟨ax [.ptr (228500+k) (a.gs.getD k 0) 0,.dat (.int .i64 a.cash.length)],mem⟩:=by
 obtain⟨hat,hno,hfi,hk,hf10,hS⟩:=h;dsimp only at *;obtain⟨hs,h10⟩:=hfi;have hn:=hs.n5;have hb0:=hat.blk k hk;have hfe:=(DebA.f_eq hat ⟨hs,h10⟩ hk).1;have hok:=a.deb_ok k;have hlen:=jS hok;have qf:=z7 hok;rw[show (a.deb k).f=(fOf a.fl k:Int) from hfe] at qf;have qc:=I4 (x:=a.deb k) (k:=fOf a.fl k) (l:=aX a.cs k (fOf a.fl k)) (cX _ hf10);have qu:=uz hok (k:=fOf a.fl k) (z:=aP a.cs k (fOf a.fl k:Nat)) (cX _ (by omega));have qu1:=uz hok (k:=fOf a.fl k+1) (z:=aP a.cs k (fOf a.fl k+1:Nat)) (cX _ (by omega));have hbig:∀ j,228500+k≠255000+j:=fun j=>by omega
 generalize dJ (a.deb k)=DC at *;have hcw:=eP 0 xq;have hz:bM a.cash.length (shP (ab a.cash a.cs) [])=agl a.cash.length (ah ((0:Int):Rat)):=(qO agn fun j hj=>by rw[List.getElem?_replicate,if_pos hj,L9];rfl).symm;generalize hL:aX a.cs k (fOf a.fl k)=L at *;refine ap ?_;simp only[mf_clear_debtor_shares];have hKd:(228500+k) / 1000≠255:=by omega
 have h17:mem 255017=none:=hno 255017 (by decide);have hmem:=fun c (hc:c∈L)=>cell_mem.1 (hL ▸ hc:c∈aX a.cs k (fOf a.fl k))
 have hcw':=fun c (hc:c∈L)=>(yH hs hS (hL ▸ hc:c∈aX a.cs k (fOf a.fl k))).2.2
 have hszs:=fun l i (hl:∃ l',L=l++l')=>Pn hs hS (l:=l) (by rw[hL];exact hl) i
 have hWe:=fun i=>OJ hs.right (fOf a.fl) k i
 rw[hL] at hWe
 have hL12:L.length≤12:=by
  have h1:=afJ (fun c:ClR=>c.1==(k:Int)&&c.2.2.1==(fOf a.fl k:Int)) a.cs;have h2:=hs.c12;rw[←hL];unfold aX;omega
 have hSI:(0:Int)<SI a.cs k (fOf a.fl k):=by
  have h1:=xJ hs.right k (fOf a.fl k);rw[←h1] at hS;have:(0:Int)<aP a.cs k (fOf a.fl k+1:Nat)-aP a.cs k (fOf a.fl k):=by exact_mod_cast hS
  exact this
 have hSI2:SI a.cs k (fOf a.fl k)=aP a.cs k (fOf a.fl k+1:Nat)-aP a.cs k (fOf a.fl k:Nat):=rfl;have hu1:=hs.upto k (fOf a.fl k+1:Nat);have hu0:=hs.upto k (fOf a.fl k:Nat);have hright:=(rightD_iff.1 hs.right).2.2.2;generalize hK:228500+k=KK at *;have hKK:∀ j,KK≠255000+j:=fun j=>by omega
 have n9:(KK=255009)=False:=eq_false (hKK 9);have n10:(KK=255010)=False:=eq_false (hKK 10);have n12:(KK=255012)=False:=eq_false (hKK 12);have n17:(KK=255017)=False:=eq_false (hKK 17);have b9:(KK==255009)=false:=beq_eq_false_iff_ne.2 (hKK 9);have b10:(KK==255010)=false:=beq_eq_false_iff_ne.2 (hKK 10);have b12:(KK==255012)=false:=beq_eq_false_iff_ne.2 (hKK 12);have b17:(KK==255017)=false:=beq_eq_false_iff_ne.2 (hKK 17);have d9:(255009==KK)=false:=beq_eq_false_iff_ne.2 (hKK 9).symm;have d10:(255010==KK)=false:=beq_eq_false_iff_ne.2 (hKK 10).symm;have d12:(255012==KK)=false:=beq_eq_false_iff_ne.2 (hKK 12).symm;have d17:(255017==KK)=false:=beq_eq_false_iff_ne.2 (hKK 17).symm;have l1:fOf a.fl k+1<11:=by omega
 have l2:fOf a.fl k<11:=by omega
 have l3:(1+fOf a.fl k+1≤24)=True:=eq_true (by omega);have l4:(11+fOf a.fl k+1≤24)=True:=eq_true (by omega);have l5:(11+(fOf a.fl k+1)+1≤24)=True:=eq_true (by omega);have wf:IntKind.i64.wrap ((fOf a.fl k:Int)+1)=((fOf a.fl k+1:Nat):Int):=by rw[an _ (by omega) (by omega)];omega
 have hb1:=hb0;generalize hU1:aP a.cs k (fOf a.fl k+1:Nat)=U1 at *;generalize hU0:aP a.cs k (fOf a.fl k:Nat)=U0 at *;generalize hF0:fOf a.fl k=F0 at *;generalize hZ:ah ((0:Int):Rat)=Z at *;obtain⟨⟨z1,z2⟩,⟨z3,z4⟩⟩:=Z;have hrp:=yz z1 z2 z3 z4 a.cash.length (by omega);have hfold:=IW a.cash.length ((z1,z2),(z3,z4));simp only[ad] at hcw hrp hfold;have hcl:=Fq L;simp only[go_sem,go_sem_proc,af8] at hcl;simp only[go_sem,go_sem_proc,af8,aF,hcw,FI,hrp,hfold,hb0,hlen,hf10,qf,qc,n17,l3,h17,iC,ago,hcl,agn]
 refine ae [0,6,26,27] [] (fun (j:Nat) tm m=>j≤L.length∧tm 28 = .dat (.int .i64 j)∧tm 7 = .dat (.bool true)∧m 255017=some (0,aC ad (bM a.cash.length (shP (ab a.cash a.cs) (L.take j))))∧FrK 255 mem m) (fun j=>L.length-j) 0 (by
  refine⟨by omega,rfl,rfl,?_,(FrK.refl _ _).upd (by decide)⟩
  rw[agp,hz];simp [ay,h17,cT]) ?_
 intro vs ms hvs hms;simp only[go_sem,go_sem_proc,af8] at hvs hms;subst hvs hms;clear hcw hrp hfold hb0;rintro j tm m hk-⟨hj,e28,e7,m17,hfr⟩;simp only[go_sem,go_sem_proc,af8,List.cons.injEq] at hk;obtain⟨e0,e6,e26,e27⟩:=hk;have hb:=(hfr KK hKd).trans hb1;rcases agf (j<L.length) with hlt | hge
 ·have d1:decide ((j:Int)<(L.length:Int))=true:=decide_eq_true (by omega)
  have w3:IntKind.i64.wrap ((j:Int)+1)=((j+1:Nat):Int):=by rw[an _ (by omega) (by omega)];omega
  obtain⟨⟨c1,c2,c3,c4⟩,hx⟩:∃ c,L[j]?=some c:=⟨_,afF hlt⟩;have hxm:=agd hx;have hrc:=hright _ (hmem _ hxm).1;dsimp only at hrc;have hia:=E5 hx;simp only[go_sem,go_sem_proc,af8] at hia;have htk:L.take (j+1)=L.take j++[(c1,c2,c3,c4)]:=by rw[agq,hx];rfl
  rcases q:decide (c2<0)
  ·have hc2:0≤c2:=by have:=of_decide_eq_false q;omega
   obtain⟨t,rfl⟩:∃ t:Nat,c2=(t:Int):=⟨c2.toNat,by omega⟩
   have hw:=hcw' _ hxm;dsimp only at hw;have hnew:=J8 (p:=c4) (q:=SI a.cs k F0) (dX (by omega) (by omega)) (dX (by omega) (by omega)) (by omega);rw[←hw] at hnew;have hof:=Kr c4 (SI a.cs k F0) ⟨dX (by omega) (by omega),dX (by omega) (by omega)⟩;rw[hnew] at hof;have z1:=hszs (L.take j) t ⟨L.drop j,(agr j L).symm⟩;have z2:=TF hs (hmem _ hxm).1;have hadd:=tf (du z1 (by omega)) (du z2 (by omega)) (ig z1 z2 (by omega))
   have hvf:bM a.cash.length (shP (ab a.cash a.cs) (L.take (j+1)))=(bM a.cash.length (shP (ab a.cash a.cs) (L.take j))).set t (ah (shP (ab a.cash a.cs) (L.take j) t+(ab a.cash a.cs).w (bm (c1,(t:Int),c3,c4)))):=by
    rw[AQ];refine js fun i _=>?_
    rw[htk,Eu]
    by_cases hi:i=t
    ·rw[if_pos hi,if_pos (by dsimp only;omega),hi]
    ·rw[if_neg hi,if_neg (by dsimp only;omega),afR]
   have wSI:IntKind.i64.wrap (U1-U0)=SI a.cs k F0:=by rw[an _ (by omega) (by omega),hSI2]
   have hRl:(bM a.cash.length (shP (ab a.cash a.cs) (L.take j))).length=a.cash.length:=de _ _;have hRg:=eM (N:=a.cash.length) (shP (ab a.cash a.cs) (L.take j)) (k:=t) (by omega);clear z1 z2 hszs hcw' hnew hw;generalize ah (shP (ab a.cash a.cs) (L.take j) t+(ab a.cash a.cs).w (bm (c1,(t:Int),c3,c4)))=F1 at *;generalize ah (shP (ab a.cash a.cs) (L.take j) t)=F2 at *;generalize ah ((ab a.cash a.cs).w (bm (c1,(t:Int),c3,c4)))=F3 at *;generalize bM a.cash.length (shP (ab a.cash a.cs) (L.take j))=R at *;obtain⟨⟨a1,a2⟩,⟨a3,a4⟩⟩:=F1;obtain⟨⟨f1,f2⟩,⟨f3,f4⟩⟩:=F2;obtain⟨⟨g1,g2⟩,⟨g3,g4⟩⟩:=F3;have t1:=AC hRg;have t2:=zR (l:=R) (k:=t) (by omega);have t3:=Ml (l:=R) (k:=t) (by omega) a1 a2 a3 a4;have hlc:t<a.cash.length:=by omega
   simp only[ad,bD] at hof hadd;simp only[go_sem,go_sem_proc,af8,sQ,bA,e0,e6,e7,e26,e27,e28,hb,m17,hia,hlen,qf,qu,qu1,wf,wSI,d1,w3,q,hof,hadd,t1,t2,t3,hlc,hf10,l1,l2,l3,l4,l5,n9,n10,n12,n17,b9,b10,b12,b17,d9,d10,d12,d17,clL,iC,ago,beq_self_eq_true]
   repeat' (first|refine qS ?_ ?_|fail)<;>intro h<;>simp only[h,go_sem,go_sem_proc,af8,sQ,bA,e0,e6,e7,e26,e27,e28,hb,m17,hia,hlen,qf,qu,qu1,wf,wSI,d1,w3,q,hof,hadd,t1,t2,t3,hlc,hf10,l1,l2,l3,l4,l5,n9,n10,n12,n17,b9,b10,b12,b17,d9,d10,d12,d17,clL,iC,ago,beq_self_eq_true]
   refine⟨j+1,by omega,by omega,rfl,by rw[hvf],by repeat first | exact hfr | refine FrK.upd ?_ (by decide)⟩
  ·have hc2:c2<0:=of_decide_eq_true q
   have hvf:bM a.cash.length (shP (ab a.cash a.cs) (L.take (j+1)))=bM a.cash.length (shP (ab a.cash a.cs) (L.take j)):=js fun i _=>by
    rw[htk,Eu,if_neg (by dsimp only;omega),afR]
   simp only[go_sem,go_sem_proc,af8,e0,e6,e7,e26,e27,e28,hb,m17,hia,d1,w3,q,clL,ago]
   repeat' (first|refine qS ?_ ?_|fail)<;>intro h<;>simp only[h,go_sem,go_sem_proc,af8,e0,e6,e7,e26,e27,e28,hb,m17,hia,d1,w3,q,clL,ago]
   refine⟨j+1,by omega,by omega,rfl,by rw[hvf],by repeat first | exact hfr | refine FrK.upd ?_ (by decide)⟩
 ·have d1:decide ((j:Int)<(L.length:Int))=false:=decide_eq_false (by omega)
  rw[af4 (by omega)] at m17;have hvf:bM a.cash.length (shP (ab a.cash a.cs) L)=bM a.cash.length fun i=>(ab a.cash a.cs).W (fOf a.fl) k i:=js fun i _=>hWe i
  rw[hvf] at m17;have hvl:(bM a.cash.length fun i=>(ab a.cash a.cs).W (fOf a.fl) k i).length=a.cash.length:=de _ _;have hfz:=fun (K:St→Prop) (st:St)=>cp (K:=K) (st:=st) ce 6 255017 0 (bM a.cash.length fun i=>(ab a.cash a.cs).W (fOf a.fl) k i)
  rw[hvl] at hfz;simp only[go_sem,go_sem_proc,af8,e0,e6,e7,e26,e27,e28,hb,m17,d1,hfz]
  repeat' (first|refine qS ?_ ?_|fail)<;>intro h<;>simp only[h,go_sem,go_sem_proc,af8,e0,e6,e7,e26,e27,e28,hb,m17,d1,hfz]
  exact⟨_,rfl,rfl,by repeat first | exact hfr | refine FrK.upd ?_ (by decide) | refine FrK.kill ?_ (by decide)⟩
theorem si (N:Nat) (x:Nat→Rat):bM (N+1) x=bM N x++[ah (x N)]:=by
 unfold bM;rw[afL,afQ,afQ];rfl
theorem nE {l:List MV} {k:Nat} {y:MV} (h:l[k]?=some y):afV 1 (afW k l)=[y]:=by
 have:=EL (f:=id) h
 rwa [List.map_id] at this
def shL (n:Nat) (W:Nat→Nat→Rat) (k:Nat):List Data:=[.sl ((bM n (W k)).map ad)]
theorem SA (T:Tab) (aF:T be=mkE fx) (cf:T dh=mkE kQ) {K:bK→St→Prop} {kk:List Todo} (mem0:Mem) (n:Nat) (hn:n≤60) (p:List Nat) (hp:p.length≤60) (W:Nat→Nat→Rat) (r i:Nat) (hi:i<n) (hW:∀ k,k<p.length→szR 30 (W (p.getD k 0) i)) (v0 v1 v10 v20 v21 v22:MV) (G gA:Nat) (c1 c2 c3 c4:MV) (x82:Option (Nat × List MV)) (tm:Nat→MV) (m:Mem)
  (e0:tm 0=v0) (e1:tm 1=v1) (e2:tm 2 = .dat (.sl (p.map gU))) (e3:tm 3 = .dat (.sl (p.map (shL n W)))) (e10:tm 10=v10) (e11:tm 11 = .dat (.int .i64 r)) (e12:tm 12 = .dat (.int .i64 i)) (e13:tm 13 = .ptr 256013 G 0) (e20:tm 20=v20) (e21:tm 21=v21) (e22:tm 22=v22) (e50:tm 50 = .dat (.int .i64 p.length)) (e51:tm 51 = .dat (.int .i64 0)) (m13:m 256013=some (G,[.ref 256076 gA 4 0 0,c1,c2,c3,c4])) (mA:m 256076=some (gA,[])) (m82:m 256082=x82) (hfr:FrK 256 mem0 m)
  (hK:∀ tm' m' gA',tm' 0=v0→tm' 1=v1→tm' 2 = .dat (.sl (p.map gU))→tm' 3 = .dat (.sl (p.map (shL n W)))→tm' 10=v10→tm' 13 = .ptr 256013 G 0→tm' 20=v20→tm' 21=v21→tm' 22=v22→m' 256013=some (G,[.ref 256076 gA' 4 0 p.length,c1,c2,c3,c4])→m' 256076=some (gA',aC ad (bM p.length fun k=>(if r=k then 1 else 0)-W (p.getD k 0) i))→m' 256082=x82→FrK 256 mem0 m'→kont T K kk (.exit 2) ⟨tm',m'⟩) :
  wp T (mf_clear_solve.body.sub [1,1,0,1,0,0,0,1,1,0,0,1,1,0,1,0]) (kont T K kk) ⟨tm,m⟩:=by
 simp only[mf_clear_solve,MCode.sub];refine ae [0,1,2,3,10,11,12,13,20,21,22,50] [256082] (fun ((k,g):Nat × Nat) tm m=>k≤p.length∧tm 51 = .dat (.int .i64 k)∧m 256013=some (G,[.ref 256076 g 4 0 k,c1,c2,c3,c4])∧m 256076=some (g,aC ad (bM k fun k=>(if r=k then 1 else 0)-W (p.getD k 0) i))∧FrK 256 mem0 m) (fun (k,_)=>p.length-k) (0,gA) (by refine⟨by omega,e51,m13,mA,hfr⟩) ?_
 intro vs ms hvs hms;simp only[go_sem,go_sem_proc,af8,e0,e1,e2,e3,e10,e11,e12,e13,e20,e21,e22,e50,m82] at hvs hms;subst hvs hms;clear e0 e1 e2 e3 e10 e11 e12 e13 e20 e21 e22 e50 e51 m13 mA m82 hfr tm m;rintro⟨k,g⟩ tm m hk hm ⟨hkn,e51,m13,mA,hfr⟩;simp only[go_sem,go_sem_proc,af8,List.cons.injEq] at hk hm;obtain⟨e0,e1,e2,e3,e10,e11,e12,e13,e20,e21,e22,e50⟩:=hk;rcases agf (k<p.length) with hlt | hge
 ·have d1:decide ((k:Int)<(p.length:Int))=true:=decide_eq_true (by omega)
  have w3:IntKind.i64.wrap ((k:Int)+1)=((k+1:Nat):Int):=by rw[an _ (by omega) (by omega)];omega
  obtain⟨pk,hx⟩:∃ c,p[k]?=some c:=⟨_,afF hlt⟩;have hpk:p.getD k 0=pk:=by rw[af5,hx];rfl
  have hWk:=hW k hlt;have hvs:=si k fun k=>(if r=k then 1 else 0)-W (p.getD k 0) i
  have hrl:(bM k fun k=>(if r=k then 1 else 0)-W (p.getD k 0) i).length=k:=de _ _;have hap:=fun (F:aG) cs hcs=>dl ce jz 256076 g 64 (bM k fun k=>(if r=k then 1 else 0)-W (p.getD k 0) i) F (cs:=cs) hcs (by omega) (by omega)
  simp only[hrl] at hap;rw[hpk] at hWk hvs;have hg:=eM (W pk) hi;generalize bM k (fun k=>(if r=k then 1 else 0)-W (p.getD k 0) i)=V at *;generalize hV2:bM (k+1) (fun k=>(if r=k then 1 else 0)-W (p.getD k 0) i)=V2 at *;clear hK hW;have key:∀ o:Int,(o=0∨o=1)→(if r=k then (1:Rat) else 0)=(o:Rat)→True:=fun _ _ _=>trivial
  rcases q:((k:Int)==(r:Int))
  ·have hrk:¬ r=k:=by have:=ne_of_beq_false q;omega
   have hw:=eP 0 xq;have hs:=tq (eT xq) (du hWk (by omega)) (ig (nz (z:=0) (b:=1) (by decide)) (nu hWk) (by omega));rw[if_neg hrk,show (0:Rat)=((0:Int):Rat) from rfl] at hvs;generalize ah ((0:Int):Rat)=Z at *;generalize ah (W pk i)=E at *;generalize ah (((0:Int):Rat)-W pk i)=X at *;obtain⟨⟨z1,z2⟩,⟨z3,z4⟩⟩:=Z;obtain⟨⟨y1,y2⟩,⟨y3,y4⟩⟩:=E;obtain⟨⟨x1,x2⟩,⟨x3,x4⟩⟩:=X;have hap':=hap ((x1,x2),(x3,x4)) _ rfl;rw[←hvs] at hap';simp only[ad,ags,agt] at hap' hw hs;refine qI ?_
   repeat' (intro h<;>simp only[h,go_sem,go_sem_proc,af8,aF,cf,e0,e1,e2,e3,e10,e11,e12,e13,e20,e21,e22,e50,e51,m13,mA,hm,d1,w3,q,hx,shL,hg,hw,hs,hap',ad,afU,afE,bne,beq_self_eq_true,agh,agu]<;>try refine qS ?_ ?_)
   exact⟨(k+1,g+1),by dsimp only;omega,by dsimp only;omega,rfl,rfl,by rw[←hV2],by repeat first | exact hfr | refine FrK.upd ?_ (by decide)⟩
  ·have hrk:r=k:=by have:=eq_of_beq q;omega
   have hw:=eP 1 Oh;have hs:=tq (eT Oh) (du hWk (by omega)) (ig (nz (z:=1) (b:=1) (by decide)) (nu hWk) (by omega));rw[if_pos hrk,show (1:Rat)=((1:Int):Rat) from rfl] at hvs;generalize ah ((1:Int):Rat)=Z at *;generalize ah (W pk i)=E at *;generalize ah (((1:Int):Rat)-W pk i)=X at *;obtain⟨⟨z1,z2⟩,⟨z3,z4⟩⟩:=Z;obtain⟨⟨y1,y2⟩,⟨y3,y4⟩⟩:=E;obtain⟨⟨x1,x2⟩,⟨x3,x4⟩⟩:=X;have hap':=hap ((x1,x2),(x3,x4)) _ rfl;rw[←hvs] at hap';simp only[ad,ags,agt] at hap' hw hs;refine qI ?_
   repeat' (intro h<;>simp only[h,go_sem,go_sem_proc,af8,aF,cf,e0,e1,e2,e3,e10,e11,e12,e13,e20,e21,e22,e50,e51,m13,mA,hm,d1,w3,q,hx,shL,hg,hw,hs,hap',ad,afU,afE,bne,beq_self_eq_true,agh,agu]<;>try refine qS ?_ ?_)
   exact⟨(k+1,g+1),by dsimp only;omega,by dsimp only;omega,rfl,rfl,by rw[←hV2],by repeat first | exact hfr | refine FrK.upd ?_ (by decide)⟩
 ·have d1:decide ((k:Int)<(p.length:Int))=false:=decide_eq_false (by omega)
  obtain rfl:k=p.length:=by omega
  refine qI ?_
  repeat' (intro h<;>simp only[h,go_sem,go_sem_proc,af8,e0,e1,e2,e3,e10,e11,e12,e13,e20,e21,e22,e50,e51,d1]<;>try refine qS ?_ ?_)
  refine hK _ _ g ?_ ?_ ?_ ?_ ?_ ?_ ?_ ?_ ?_ m13 mA hm hfr<;>simp only[aR,agv,if_false,e0,e1,e2,e3,e10,e13,e20,e21,e22]
structure SvQ (a:DebA) (mem:Mem):Prop where
 at_:a.At mem
 no:NoK 256 mem
 fine:a.Fine
 pay:PayG (ab a.cash a.cs) (fOf a.fl) (pOf a.P)
noncomputable def DebA.p (a:DebA):List Nat:=payers (pOf a.P) a.cash.length
noncomputable def svA (a:DebA):List MV:=[.ref 228023 a.g 1 0 a.cash.length,.dat (.sl ((fL a.cash.length fun i=>dk a.cash a.cs (fOf a.fl) i).map aa)),.dat (.sl (a.p.map gU)),.dat (.sl (a.p.map (shL a.cash.length fun k i=>(ab a.cash a.cs).W (fOf a.fl) k i)))]
noncomputable def DebA.xs (a:DebA):List aG:=bM a.p.length fun k=>(ab a.cash a.cs).lst (fOf a.fl) (pOf a.P) (a.p.getD k 0)-(ab a.cash a.cs).U (a.p.getD k 0) (fOf a.fl (a.p.getD k 0))
noncomputable def svD (a:DebA):Data:=.tup [.sl (a.xs.map ad),.bool true]
noncomputable def rf:List MV→Mem→Option Data:=NN (fun (a:DebA) args mem=>args=svA a∧SvQ a mem) svD
theorem B9 (a:DebA) (mem:Mem) (h:SvQ a mem):rf (svA a) mem=some (svD a):=by
 refine KJ (a:=a) ?_ ⟨rfl,h⟩;rintro a b args mem ⟨e1,e2⟩ ⟨e3,e4⟩;rw[DebA.uniq e2.at_ e4.at_]
theorem Ll (T:Tab) (aF:T be=mkE fx) (cf:T dh=mkE kQ) (C5:T j5=mkE pL) (a:DebA) (mem:Mem) (ha:SvQ a mem) :
  wp T mf_clear_solve.body (rh mf_clear_solve.res fun m mem'=>toD 6 emp m=some (svD a)∧FrK 256 mem mem') ⟨ax (svA a),mem⟩:=by
 obtain⟨hat,hno,hfi,hpay⟩:=ha;have hfe:=fun i=>DebA.f_eq hat hfi (i:=i)
 obtain⟨hs,h10⟩:=hfi;have hn:=hs.n5;have hpm:=fun k=>gB (P:=pOf a.P) (n:=a.cash.length) (k:=k)
 have hsol:=Ad hs hpay;have hsc:=nk hs hpay.S_pos (payers (pOf a.P) a.cash.length) fun k hk=>(gB hk).2
 have hWz:=fun k (hk:pOf a.P k) i=>(Pg hs hpay hk i).1
 have hp5:(payers (pOf a.P) a.cash.length).length≤5:=by
  unfold payers;exact Nat.le_trans (afJ _ _) (by rw[afP];exact hn)
 have h82:mem 256082=none:=hno 256082 (by decide);unfold svA svD DebA.xs DebA.p;generalize hp:payers (pOf a.P) a.cash.length=p at *;generalize hA:(ab a.cash a.cs).smallM (fOf a.fl) p=A at *;generalize hSD:(fL a.cash.length fun i=>dk a.cash a.cs (fOf a.fl) i).map aa=SD at *;have hSD':∀ i,i<a.cash.length→SD[i]?=some [.int .i64 (dk a.cash a.cs (fOf a.fl) i)]:=fun i hi=>by rw[←hSD,afE,cX _ hi];rfl
 refine ap ?_;simp only[mf_clear_solve];simp only[go_sem,go_sem_proc,af8,h82,afU];refine ae [0,1,2,3,20,21] [] (fun ((r,g):Nat × Nat) tm m=>r≤p.length∧tm 22 = .dat (.int .i64 r)∧tm 10 = .ref 256082 g 5 0 r∧m 256082=some (g,aC fk ((eh p.length A).take r))∧FrK 256 mem m) (fun (r,_)=>p.length-r) (0,0) (by refine⟨by omega,rfl,rfl,rfl,(FrK.refl _ _).upd (by decide)⟩) ?_
 intro vs ms hvs hms;simp only[go_sem,go_sem_proc,af8,afU] at hvs hms;subst hvs hms;rintro⟨r,g⟩ tm m hk hm ⟨hrn,e22,e10,m82,hfr⟩;simp only[go_sem,go_sem_proc,af8,List.cons.injEq] at hk;obtain⟨e0,e1,e2,e3,e20,e21⟩:=hk;rcases agf (r<p.length) with hlt | hge
 ·have d1:decide ((r:Int)<(p.length:Int))=true:=decide_eq_true (by omega)
  have w3:IntKind.i64.wrap ((r:Int)+1)=((r+1:Nat):Int):=by rw[an _ (by omega) (by omega)];omega
  obtain⟨i,hx⟩:∃ c,p[r]?=some c:=⟨_,afF hlt⟩;have hpr:p.getD r 0=i:=by rw[af5,hx];rfl
  obtain⟨hi,hPi⟩:=hpm r hlt;rw[hpr] at hi hPi;obtain⟨hfi,hf10⟩:=hfe i hi;have hrow:=(hfr.at 228023 (by omega)).trans hat.row;have hblk:=(hfr.at (228500+i) (by omega)).trans (hat.blk i hi);have hri:=nE (cX (fun i=>MV.ptr (228500+i) (a.gs.getD i 0) 0) hi);have hrl:(fL a.cash.length fun i=>MV.ptr (228500+i) (a.gs.getD i 0) 0).length=a.cash.length:=bU _ _;have hok:=a.deb_ok i;have hlen:=jS hok;have qf:=z7 hok;rw[show (a.deb i).f=(fOf a.fl i:Int) from hfi] at qf;have qu:=uz hok (k:=fOf a.fl i) (z:=aP a.cs i (fOf a.fl i:Nat)) (cX _ (by omega));have hst:=hSD' i hi;have b1:=hs.steady (fOf a.fl) i;have b2:=hs.upto i (fOf a.fl i);have wS:IntKind.i64.wrap (dk a.cash a.cs (fOf a.fl) i-aP a.cs i (fOf a.fl i:Nat))=dk a.cash a.cs (fOf a.fl) i-aP a.cs i (fOf a.fl i:Nat):=by rw[an _ (by omega) (by omega)]
  have hw:=eP (dk a.cash a.cs (fOf a.fl) i-aP a.cs i (fOf a.fl i:Nat)) (dX (by omega) (by omega))
  have hAr:A r p.length=((dk a.cash a.cs (fOf a.fl) i-aP a.cs i (fOf a.fl i:Nat):Int):Rat):=by
   rw[←hA];unfold Day.smallM;rw[if_neg (by omega),hpr,←qB hs.right,←dQ hs.right,Rat.intCast_sub]
  have hAk:∀ k,k<p.length→A r k=(if r=k then 1 else 0)-(ab a.cash a.cs).W (fOf a.fl) (p.getD k 0) i:=fun k hk=>by
   rw[←hA];unfold Day.smallM;rw[if_pos hk,hpr]
  have l1:i+1≤a.cash.length:=by omega
  have l2:fOf a.fl i<11:=by omega
  have l3:(11+fOf a.fl i+1≤24)=True:=eq_true (by omega);rw[←hAr] at hw;generalize hKd:228500+i=KK at *;generalize dJ (a.deb i)=DC at *;generalize (fL a.cash.length fun i=>MV.ptr (228500+i) (a.gs.getD i 0) 0)=RW at *;generalize dk a.cash a.cs (fOf a.fl) i=S1 at *;generalize aP a.cs i (fOf a.fl i:Nat)=U1 at *;generalize fOf a.fl i=F0 at *;generalize hE:ah (A r p.length)=E at *;obtain⟨⟨y1,y2⟩,⟨y3,y4⟩⟩:=E;simp only[ad] at hw;have n13:(KK==256013)=false:=beq_eq_false_iff_ne.2 (by omega);have n13':(256013==KK)=false:=beq_eq_false_iff_ne.2 (by omega);have n13e:(KK=256013)=False:=eq_false (by omega);simp only[go_sem,go_sem_proc,af8,aF,e0,e1,e2,e3,e10,e20,e21,e22,hrow,hblk,hri,hrl,hlen,qf,qu,hst,wS,hw,hx,d1,w3,hi,l1,l2,l3,n13,n13',n13e,iC,gU,ago,afU,afE];refine vM (kc:=256013) (g:=cT (m 256013)) (off:=0) (cs:=[.nil,.dat (.int .i64 y1),.dat (.sl (y2.map aa)),.dat (.int .i64 y3),.dat (.sl (y4.map aa))]) ?_ ?_ rfl (by decide) ?_
  ·simp only[go_sem,go_sem_proc,af8]
  ·simp [ay]
  simp only[go_sem,go_sem_proc,af8,e2,afU,agu];refine SA T aF cf mem a.cash.length (by omega) p (by omega) (fun k i=>(ab a.cash a.cs).W (fOf a.fl) k i) r i hi (fun k hk=>hWz _ (hpm k hk).2 i) (.ref 228023 a.g 1 0 a.cash.length) (.dat (.sl SD)) (.ref 256082 g 5 0 r) (.dat (.sl (p.map gU))) (.dat (.int .i64 p.length)) (.dat (.int .i64 r)) (cT (m 256013)) (cT (m 256076)) (.dat (.int .i64 y1)) (.dat (.sl (y2.map aa))) (.dat (.int .i64 y3)) (.dat (.sl (y4.map aa))) (some (g,aC fk ((eh p.length A).take r))) _ _ ?_ ?_ ?_ ?_ ?_ ?_ ?_ ?_ ?_ ?_ ?_ ?_ ?_ ?_ ?_ ?_ ?_ ?_
  ·simp only[aR,agv,if_false];exact e0
  ·simp only[aR,agv,if_false];exact e1
  ·simp only[aR,agv,if_false];exact e2
  ·simp only[aR,agv,if_false];exact e3
  ·simp only[aR,agv,if_false];exact e10
  ·simp only[aR,agv,if_false,if_true]
  ·simp only[aR,agv,if_false,if_true]
  ·simp only[aR,agv,if_false,if_true]
  ·simp only[aR,agv,if_false];exact e20
  ·simp only[aR,agv,if_false];exact e21
  ·simp only[aR,agv,if_false];exact e22
  ·simp only[aR,agv,if_false,if_true]
  ·simp only[aR,agv,if_false,if_true]
  ·simp [ay]
  ·simp [ay]
  ·simp only[ay,agv,if_false];exact m82
  ·repeat first | exact hfr | refine FrK.upd ?_ (by decide)
  intro tm m2 gA k0 k1 k2 k3 k10 k13 k20 k21 k22 q13 qA q82 hfr2;have hvA:(bM p.length fun k=>(if r=k then 1 else 0)-(ab a.cash a.cs).W (fOf a.fl) (p.getD k 0) i)=bM p.length (A r):=js fun k hk=>(hAk k hk).symm
  rw[hvA] at qA;clear e0 e1 e2 e3 e10 e20 e21 e22 m82 hrow hblk hri hfr;have hap:=fun cs hcs=>dl Bc GN 256082 g 88 ((eh p.length A).take r) (bM p.length (A r),ah (A r p.length)) (cs:=cs) hcs
  have htl:((eh p.length A).take r).length=r:=by rw[List.length_take,eY];omega
  have htk:(eh p.length A).take r++[(bM p.length (A r),ah (A r p.length))]=(eh p.length A).take (r+1):=by
   rw[agq,ud A hlt];rfl
  rw[htl,htk,hE] at hap;have hvl:(bM p.length (A r)).length=p.length:=de _ _;generalize bM p.length (A r)=V at *;have hap':=hap _ rfl (by omega) (by omega);simp only[ad,fk,ags,agt] at hap';simp only[go_sem,go_sem_proc,af8];refine tS (kc:=256013) (gc:=cT (m 256013)) (off:=0) (cc:=[.ref 256076 gA 4 0 p.length,.dat (.int .i64 y1),.dat (.sl (y2.map aa)),.dat (.int .i64 y3),.dat (.sl (y4.map aa))]) (k:=256076) (g:=gA) (sz:=4) (o:=0) (len:=p.length) (cs:=aC ad V) (d:=.sl (V.map ad)) ?_ q13 rfl qA (uS _ _) (by decide) ?_ ?_
  ·exact k13
  ·have:=eO (n:=0) ce qA
   rw[hvl] at this;exact this
  refine qI ?_
  repeat' (intro h<;>simp only[h,go_sem,go_sem_proc,af8,k0,k1,k2,k3,k10,k13,k20,k21,k22,q82,hap',w3,agu]<;>try refine qS ?_ ?_)
  exact⟨(r+1,g+1),by dsimp only;omega,by dsimp only;omega,rfl,rfl,rfl,by repeat first | exact hfr2 | refine FrK.upd ?_ (by decide)⟩
 ·have d1:decide ((r:Int)<(p.length:Int))=false:=decide_eq_false (by omega)
  have hrn:r=p.length:=by omega
  have hlen:=eY p.length A;rw[af4 (by rw[hlen];omega)] at m82;obtain⟨b1,b2⟩:=hsol;have hlim:iz (eh p.length A):=G9 (by omega) fun i hi k hk=>du (hsc.sz (by omega) hi hk) (by omega)
  have hF:=vY (eh p.length A) p.length hlim;rw[b1] at hF;dsimp only at hF;have hfz:=fun (K:St→Prop) (st:St)=>cp (K:=K) (st:=st) Bc 10 256082 g (eh p.length A)
  rw[hlen] at hfz;subst hrn;refine qI ?_
  repeat' (intro h<;>simp only[h,go_sem,go_sem_proc,af8,C5,e0,e1,e2,e3,e10,e20,e21,e22,m82,d1,hfz,hF,afU,bne,beq_self_eq_true,agh]<;>try refine qS ?_ ?_)
  exact⟨_,rfl,rfl,by repeat first | exact hfr | refine FrK.upd ?_ (by decide) | refine FrK.kill ?_ (by decide)⟩
end Go.Mini
namespace Go.Mini
open Classical
def q0 (cs:List ClR) (f:Nat→Nat) (n:Nat):List ClR:=(afK n).flatMap fun i=>(afK (f i)).flatMap fun k=>aX cs i k
theorem KT (F:Nat→List ClR) (r n:Nat) (h:r≤n):((afK n).flatMap fun k=>if k<r then F k else [])=(afK r).flatMap F:=by
 induction n with
 | zero=>rw[show r=0 by omega];rfl
 | succ n ih =>
  rw[afL,agw,agx,agy,afO]
  by_cases hr:r=n+1
  ·subst hr
   rw[if_pos (by omega),afL,agw,agx,agy,afO]
   congr 1
   rw[agz,agz]
   congr 1
   exact afI fun k hk=>if_pos (by have:=List.mem_range.1 hk;omega)
  ·rw[if_neg (by omega),afO]
   exact ih (by omega)
theorem sL {α:Type} (l:List α) (F:α→List ClR) (p:ClR→Bool):(l.flatMap F).filter p=l.flatMap fun x=>(F x).filter p:=by
 induction l with
 | nil=>rfl
 | cons a l ih=>rw[agx,agx,afM,ih]
theorem D6 {cs:List ClR} {f:Nat→Nat} {n:Nat} (hf:∀ i,i<n→f i≤10):q0 cs f n=(aI n cs).filter fun c=>decide (c.2.2.1<(f c.1.toNat:Int)):=by
 unfold q0 aI;rw[sL,agz,agz]
 congr 1
 refine afI fun i hi=>?_
 rw[sL,←KT (fun k=>aX cs i k) (f i) 10 (hf i (List.mem_range.1 hi)),agz,agz]
 congr 1
 refine afI fun k _=>?_
 by_cases h:k<f i
 ·rw[if_pos h]
  refine (List.filter_eq_self.2 fun c hc=>?_).symm;obtain⟨-,h1,h2⟩:=cell_mem.1 hc;rw[h1,h2,agA];exact decide_eq_true (by omega)
 ·rw[if_neg h]
  refine (List.filter_eq_nil_iff.2 fun c hc=>?_).symm;obtain⟨-,h1,h2⟩:=cell_mem.1 hc;rw[h1,h2,agA,decide_eq_true_eq];omega
theorem zL (cs:List ClR) (p:ClR→Prop) [DecidablePred p] (F:ClR→Int):bt (cs.filter fun c=>decide (p c)) F=bt cs fun c=>if p c then F c else 0:=by
 induction cs with
 | nil=>rfl
 | cons c l ih =>
  by_cases h:p c
  ·rw[afG (by simpa using h)]
   simp only[bt,ih,if_pos h]
  ·rw[afH (by simpa using h),ih]
   simp only[bt,if_neg h];omega
def toI (j:Nat) (c:ClR):Int:=if c.2.1=(j:Int) then c.2.2.2 else 0
theorem vD {cash:List Int} {cs:List ClR} {f:Nat→Nat} (hcan:cs=aI cash.length cs) (hf:∀ i,i<cash.length→f i≤10) (j:Nat):dk cash cs f j=cash.getD j 0+bt (q0 cs f cash.length) (toI j):=by
 rw[D6 hf,←hcan,zL cs (fun c=>c.2.2.1<(f c.1.toNat:Int))];unfold dk
 congr 1
 refine jp fun c _=>?_
 unfold toI
 by_cases h1:c.2.1=(j:Int)
 ·by_cases h2:c.2.2.1<(f c.1.toNat:Int)
  ·rw[if_pos ⟨h1,h2⟩,if_pos h2,if_pos h1]
  ·rw[if_neg fun h=>h2 h.2,if_neg h2]
 ·rw[if_neg fun h=>h1 h.1,if_neg h1]
  split<;>rfl
theorem LP {cs:List ClR} {f:Nat→Nat} {n:Nat} {c:ClR} (h:c∈q0 cs f n):c∈cs:=by
 unfold q0 at h;simp only[List.mem_flatMap] at h;obtain⟨i,-,k,-,hc⟩:=h;exact (cell_mem.1 hc).1
def ji (cs:List ClR) (f:Nat→Nat) (i k t:Nat):List ClR:=q0 cs f i++(((afK k).flatMap fun k=>aX cs i k)++(aX cs i k).take t)
theorem GI (cs:List ClR) (f:Nat→Nat):ji cs f 0 0 0=[]:=rfl
theorem IL (cs:List ClR) (f:Nat→Nat) (i k:Nat):ji cs f i k (aX cs i k).length=ji cs f i (k+1) 0:=by
 unfold ji;rw[agj,agp,afO,afL,agw,agx,agy,afO]
theorem KN (cs:List ClR) (f:Nat→Nat) (i:Nat):ji cs f i (f i) 0=ji cs f (i+1) 0 0:=by
 unfold ji q0;rw[agp,agp,afO,afL,agw,agx,agy,afO];simp
theorem EC (cs:List ClR) (f:Nat→Nat) (n:Nat):ji cs f n 0 0=q0 cs f n:=by
 unfold ji;simp
theorem xk (cs:List ClR) (f:Nat→Nat) {n i k t:Nat} (hi:i<n) (hk:k<f i):∃ l,q0 cs f n=ji cs f i k t++l:=by
 have hn:∃ m,n=i+1+m:=⟨n-(i+1),by omega⟩
 obtain⟨m,rfl⟩:=hn;have hf:∃ r,f i=k+1+r:=⟨f i-(k+1),by omega⟩
 obtain⟨r,hr⟩:=hf;have hra:∀ (a b:Nat) (F:Nat→List ClR),(afK (a+b)).flatMap F=(afK a).flatMap F++((afK b).map (a+·)).flatMap F:=fun a b F=>by rw[List.range_add,agw]
 unfold q0 ji;rw[hra,afL,agw,agx,agy,afO,hr,hra,afL,agw,agx,agy,afO];refine⟨(aX cs i k).drop t++(((afK r).map (k+1+·)).flatMap (fun k=>aX cs i k)++((afK m).map (i+1+·)).flatMap fun i=>(afK (f i)).flatMap fun k=>aX cs i k),?_⟩;unfold q0;simp only[agB]
 congr 1
 congr 1
 rw[←agB ((aX cs i k).take t),agr]
theorem xl {cash:List Int} {cs:List ClR} (h:SmallD cash cs) {f:Nat→Nat} (hcan:cs=aI cash.length cs) (hf:∀ i,i<cash.length→f i≤10) (j:Nat) {l l':List ClR} (hl:q0 cs f cash.length=l++l'):0≤bt l (toI j)∧bt l (toI j)≤1000000536870912:=by
 have hnn:∀ m:List ClR,(∀ c∈m,c∈cs)→0≤bt m (toI j):=by
  intro m
  induction m with
  | nil=>intro _;exact afA _
  | cons c m ih =>
   intro hm;have h1:=ih fun y hy=>hm y (afB _ hy)
   have h2:=((rightD_iff.1 h.right).2.2.2 c (hm c afz)).2.2.2.2.2.2.1;simp only[bt,toI] at *
   split<;>omega
 have hm:∀ c∈l++l',c∈cs:=fun c hc=>LP (by rw[hl];exact hc)
 have h1:=hnn l fun c hc=>hm c (by simp [hc])
 have h2:=hnn l' fun c hc=>hm c (by simp [hc])
 have h3:=vD hcan hf j;rw[hl,jW] at h3;have h4:=h.steady f j;have h5:=h.cash j;omega
end Go.Mini
namespace Go.Mini
open Go
set_option maxRecDepth 10000
set_option maxHeartbeats 4000000
theorem iset {n c:Nat} (hc:c<n) (q:Nat→Int) (v:Int):afV c (agC iC (fL n q))++[MV.dat (.int .i64 v)]++afW (c+1) (agC iC (fL n q))=agC iC (fL n fun j=>if j=c then v else q j):=by
 rw[←nc,List.map_set,List.set_eq_take_append_cons_drop,if_pos (by rw[afU,bU];exact hc)];simp [iC]
theorem iget {n c:Nat} (hc:c<n) (q:Nat→Int):afV 1 (afW c (agC iC (fL n q)))=[.dat (.int .i64 (q c))]:=EL (f:=iC) (cX q hc)
theorem ilen (n:Nat) (q:Nat→Int):(agC iC (fL n q)).length=n:=by rw[afU,bU]
theorem rn (l:List ClR) (c:ClR) (F:ClR→Int):bt (l++[c]) F=bt l F+F c:=by
 rw[jW];simp [bt]
theorem RO (T:Tab) {K:bK→St→Prop} {kk:List Todo} (mem0:Mem) (n:Nat) (hn:n≤60) (L:List ClR) (B:Nat→Int) (hB:∀ t j,0≤B j+bt (L.take t) (toI j)∧B j+bt (L.take t) (toI j)≤4000000000000000000) (hL:∀ c∈L,c.2.1<n ∧ -1≤c.2.1) (hLl:L.length≤2000) (v0 v4 v6 v7 v8 v9 v30 v31 v32 v50 v51:MV) (G:Nat) (x94 x98:Option (Nat × List MV)) (tm:Nat→MV) (m:Mem)
  (e0:tm 0=v0) (e4:tm 4=v4) (e5:tm 5 = .ref 248029 G 1 0 n) (e6:tm 6=v6) (e7:tm 7=v7) (e8:tm 8=v8) (e9:tm 9=v9) (e30:tm 30=v30) (e31:tm 31=v31) (e32:tm 32=v32) (e50:tm 50=v50) (e51:tm 51=v51) (e59:tm 59=clM L) (e60:tm 60 = .dat (.int .i64 L.length)) (e61:tm 61 = .dat (.int .i64 0))
  (m29:m 248029=some (G,(fL n B).map iC)) (m94:m 248094=x94) (m98:m 248098=x98) (hfr:FrK 248 mem0 m)
  (hK:∀ tm' m',tm' 0=v0→tm' 4=v4→tm' 5 = .ref 248029 G 1 0 n→tm' 6=v6→tm' 7=v7→tm' 8=v8→tm' 9=v9→tm' 30=v30→tm' 31=v31→tm' 32=v32→tm' 50=v50→tm' 51=v51→m' 248029=some (G,(fL n fun j=>B j+bt L (toI j)).map iC)→m' 248094=x94→m' 248098=x98→FrK 248 mem0 m'→kont T K kk (.exit 4) ⟨tm',m'⟩) :
  wp T (mf_clear_list.body.sub [1,1,1,1,1,0,1,0,0,0,0,1,1,0,0,1,1,0,1,0,0,1,1,0,0,1,1,0]) (kont T K kk) ⟨tm,m⟩:=by
 simp only[mf_clear_list,MCode.sub]
 refine ae [0,4,5,6,7,8,9,30,31,32,50,51,59,60] [248094,248098] (fun (t:Nat) tm m=>t≤L.length∧tm 61 = .dat (.int .i64 t)∧m 248029=some (G,(fL n fun j=>B j+bt (L.take t) (toI j)).map iC)∧FrK 248 mem0 m) (fun t=>L.length-t) 0 (by
  refine⟨by omega,e61,?_,hfr⟩
  rw[m29]
  congr 3
  exact ca fun j _=>by rw[agp];simp [bt]) ?_
 intro vs ms hvs hms;simp only[go_sem,go_sem_proc,af8,e0,e4,e5,e6,e7,e8,e9,e30,e31,e32,e50,e51,e59,e60,m94,m98] at hvs hms;subst hvs hms;clear e0 e4 e5 e6 e7 e8 e9 e30 e31 e32 e50 e51 e59 e60 e61 m29 m94 m98 hfr tm m;rintro t tm m hk hm ⟨htn,e61,m29,hfr⟩;simp only[go_sem,go_sem_proc,af8,List.cons.injEq] at hk hm;obtain⟨e0,e4,e5,e6,e7,e8,e9,e30,e31,e32,e50,e51,e59,e60⟩:=hk;obtain⟨m94,m98⟩:=hm;rcases agf (t<L.length) with hlt | hge
 ·have d1:decide ((t:Int)<(L.length:Int))=true:=decide_eq_true (by omega)
  have w3:IntKind.i64.wrap ((t:Int)+1)=((t+1:Nat):Int):=by rw[an _ (by omega) (by omega)];omega
  obtain⟨⟨c1,c2,c3,c4⟩,hx⟩:∃ c,L[t]?=some c:=⟨_,afF hlt⟩;have hrc:=hL _ (agd hx);dsimp only at hrc;have hia:=E5 hx;simp only[go_sem,go_sem_proc,af8] at hia;have htk:L.take (t+1)=L.take t++[(c1,c2,c3,c4)]:=by rw[agq,hx];rfl
  rcases q:decide (c2≥0)
  ·have hc2:c2<0:=by have:=of_decide_eq_false q;omega
   have hvf:(fL n fun j=>B j+bt (L.take (t+1)) (toI j))=fL n fun j=>B j+bt (L.take t) (toI j):=ca fun j _=>by
    rw[htk,rn];unfold toI;rw[if_neg (by dsimp only;omega)];omega
   refine qI ?_
   repeat' (intro h<;>simp only[h,go_sem,go_sem_proc,af8,e0,e4,e5,e6,e7,e8,e9,e30,e31,e32,e50,e51,e59,e60,e61,m29,m94,m98,hia,d1,w3,q,clL,ago]<;>try refine qS ?_ ?_)
   refine⟨t+1,by omega,by omega,rfl,by rw[hvf],by repeat first | exact hfr | refine FrK.upd ?_ (by decide)⟩
  ·have hc2:0≤c2:=of_decide_eq_true q
   obtain⟨i,rfl⟩:∃ t:Nat,c2=(t:Int):=⟨c2.toNat,by omega⟩
   have hin:i<n:=by omega
   have hb1:=hB t i;have hb2:=hB (t+1) i;rw[htk,rn] at hb2;have hto:toI i (c1,(i:Int),c3,c4)=c4:=by unfold toI;rw[if_pos rfl]
   rw[hto] at hb2;have wA:IntKind.i64.wrap (B i+bt (L.take t) (toI i)+c4)=B i+bt (L.take t) (toI i)+c4:=by rw[an _ (by omega) (by omega)]
   have hvf:(fL n fun j=>B j+bt (L.take (t+1)) (toI j))=fL n fun j=>if j=i then B i+bt (L.take t) (toI i)+c4 else B j+bt (L.take t) (toI j):=ca fun j _=>by
    rw[htk,rn]
    by_cases hj:j=i
    ·rw[if_pos hj,hj,hto];omega
    ·rw[if_neg hj]
     have:toI j (c1,(i:Int),c3,c4)=0:=by unfold toI;rw[if_neg (by dsimp only;omega)]
     rw[this];omega
   have t1:=iget hin fun j=>B j+bt (L.take t) (toI j)
   have t2:=ilen n fun j=>B j+bt (L.take t) (toI j)
   have t3:=iset hin (fun j=>B j+bt (L.take t) (toI j)) (B i+bt (L.take t) (toI i)+c4);rw[←hvf] at t3;have l1:i+1≤n:=by omega
   generalize hv:(fL n fun j=>B j+bt (L.take t) (toI j)).map iC=R at *;generalize hv2:(fL n fun j=>B j+bt (L.take (t+1)) (toI j)).map iC=R2 at *;generalize B i+bt (L.take t) (toI i)=S1 at *;refine qI ?_
   repeat' (intro h<;>simp only[h,go_sem,go_sem_proc,af8,e0,e4,e5,e6,e7,e8,e9,e30,e31,e32,e50,e51,e59,e60,e61,m29,m94,m98,hia,d1,w3,q,wA,t1,t2,t3,hin,l1,clL,ago]<;>try refine qS ?_ ?_)
   refine⟨t+1,by omega,by omega,rfl,by rw[hv2],by repeat first | exact hfr | refine FrK.upd ?_ (by decide)⟩
 ·have d1:decide ((t:Int)<(L.length:Int))=false:=decide_eq_false (by omega)
  rw[af4 (by omega)] at m29;refine qI ?_
  repeat' (intro h<;>simp only[h,go_sem,go_sem_proc,af8,e0,e4,e5,e6,e7,e8,e9,e30,e31,e32,e50,e51,e59,e60,e61,d1]<;>try refine qS ?_ ?_)
  refine hK _ _ ?_ ?_ ?_ ?_ ?_ ?_ ?_ ?_ ?_ ?_ ?_ ?_ m29 m94 m98 hfr<;>simp only[aR,agv,if_false,e0,e4,e5,e6,e7,e8,e9,e30,e31,e32,e50,e51]
theorem z8 (cs:List ClR) (f:Nat→Nat) (i k t:Nat):ji cs f i k t=ji cs f i k 0++(aX cs i k).take t:=by
 unfold ji;simp
theorem Se (T:Tab) {K:bK→St→Prop} {kk:List Todo} (mem0:Mem) (cash:List Int) (cs:List ClR) (f:Nat→Nat) (hs:SmallD cash cs) (hcan:cs=aI cash.length cs) (hf:∀ i,i<cash.length→f i≤10) (i:Nat) (hi:i<cash.length) (x:DebR) (hx:x.OK) (hcl:∀ k,k<10→x.cl[k]?=some (aX cs i k)) (B:Nat→Int) (hB:∀ j,0≤B j∧B j≤1000000000000000) (KK g:Nat) (hKd:KK / 1000≠248) (hm0:mem0 KK=some (g,dJ x)) (v0 v4 v6 v7 v8 v30 v31 v32:MV) (G:Nat) (x94 x98:Option (Nat × List MV)) (tm:Nat→MV) (m:Mem)
  (e0:tm 0=v0) (e4:tm 4=v4) (e5:tm 5 = .ref 248029 G 1 0 cash.length) (e6:tm 6=v6) (e7:tm 7=v7) (e8:tm 8=v8) (e9:tm 9 = .ptr KK g 0) (e30:tm 30=v30) (e31:tm 31=v31) (e32:tm 32=v32) (e50:tm 50 = .dat (.int .i64 (f i))) (e51:tm 51 = .dat (.int .i64 0))
  (m29:m 248029=some (G,(fL cash.length fun j=>B j+bt (ji cs f i 0 0) (toI j)).map iC)) (m94:m 248094=x94) (m98:m 248098=x98) (hfr:FrK 248 mem0 m)
  (hK:∀ tm' m',tm' 0=v0→tm' 4=v4→tm' 5 = .ref 248029 G 1 0 cash.length→tm' 6=v6→tm' 7=v7→tm' 8=v8→tm' 9 = .ptr KK g 0→tm' 30=v30→tm' 31=v31→tm' 32=v32→m' 248029=some (G,(fL cash.length fun j=>B j+bt (ji cs f (i+1) 0 0) (toI j)).map iC)→m' 248094=x94→m' 248098=x98→FrK 248 mem0 m'→kont T K kk (.exit 2) ⟨tm',m'⟩) :
  wp T (mf_clear_list.body.sub [1,1,1,1,1,0,1,0,0,0,0,1,1,0,0,1,1,0,1,0]) (kont T K kk) ⟨tm,m⟩:=by
 simp only[mf_clear_list,MCode.sub];have hfi:=hf i hi;have hn:=hs.n5;refine ae [0,4,5,6,7,8,9,30,31,32,50] [248094,248098] (fun (k:Nat) tm m=>k≤f i∧tm 51 = .dat (.int .i64 k)∧m 248029=some (G,(fL cash.length fun j=>B j+bt (ji cs f i k 0) (toI j)).map iC)∧FrK 248 mem0 m) (fun k=>f i-k) 0 (by refine⟨by omega,e51,m29,hfr⟩) ?_
 intro vs ms hvs hms;simp only[go_sem,go_sem_proc,af8,e0,e4,e5,e6,e7,e8,e9,e30,e31,e32,e50,m94,m98] at hvs hms;subst hvs hms;clear e0 e4 e5 e6 e7 e8 e9 e30 e31 e32 e50 e51 m29 m94 m98 hfr tm m;rintro k tm m hk hm ⟨hkn,e51,m29,hfr⟩;simp only[go_sem,go_sem_proc,af8,List.cons.injEq] at hk hm;obtain⟨e0,e4,e5,e6,e7,e8,e9,e30,e31,e32,e50⟩:=hk;obtain⟨m94,m98⟩:=hm;rcases agf (k<f i) with hlt | hge
 ·have d1:decide ((k:Int)<(f i:Int))=true:=decide_eq_true (by omega)
  have w3:IntKind.i64.wrap ((k:Int)+1)=((k+1:Nat):Int):=by rw[an _ (by omega) (by omega)];omega
  have hb:=(hfr KK hKd).trans hm0;have hlen:=jS hx;have qc:=I4 (x:=x) (k:=k) (l:=aX cs i k) (hcl k (by omega));have l1:k<10:=by omega
  have l3:(1+k+1≤24)=True:=eq_true (by omega);have hcln:=Fq (aX cs i k);simp only[go_sem,go_sem_proc,af8] at hcln;generalize dJ x=DC at *;simp only[go_sem,go_sem_proc,af8,e0,e4,e5,e6,e7,e8,e9,e30,e31,e32,e50,e51,hb,hlen,qc,d1,l1,l3,hcln,ago];refine RO T mem0 cash.length (by omega) (aX cs i k) (fun j=>B j+bt (ji cs f i k 0) (toI j)) (fun t j=>?_) (fun c hc=>?_) ?_ v0 v4 v6 v7 v8 (.ptr KK g 0) v30 v31 v32 (.dat (.int .i64 (f i))) (.dat (.int .i64 k)) G x94 x98 _ _ ?_ ?_ ?_ ?_ ?_ ?_ ?_ ?_ ?_ ?_ ?_ ?_ ?_ ?_ ?_ m29 m94 m98 hfr ?_
  ·obtain⟨l,hl⟩:=xk cs f (n:=cash.length) (t:=t) hi hlt
   have h1:=xl hs hcan hf j hl;rw[z8,jW] at h1;have h2:=hB j;omega
  ·have:=(rightD_iff.1 hs.right).2.2.2 c (cell_mem.1 hc).1
   omega
  ·have h1:=afJ (fun c:ClR=>c.1==(i:Int)&&c.2.2.1==(k:Int)) cs
   have h2:=hs.c12;unfold aX;omega
  all_goals first | (intro tm' m' k0 k4 k5 k6 k7 k8 k9 k30 k31 k32 k50 k51 q29 q94 q98 hfr') | (simp only[aR,agv,if_false,if_true,e0,e4,e5,e6,e7,e8,e9,e30,e31,e32,e50,e51])
  have hnx:(fL cash.length fun j=>B j+bt (ji cs f i k 0) (toI j)+bt (aX cs i k) (toI j))=fL cash.length fun j=>B j+bt (ji cs f i (k+1) 0) (toI j):=ca fun j _=>by
   rw[←IL,z8 cs f i k (aX cs i k).length,agj,jW];omega
  rw[hnx] at q29;refine qI ?_
  repeat' (intro h<;>simp only[h,go_sem,go_sem_proc,af8,k0,k4,k5,k6,k7,k8,k9,k30,k31,k32,k50,k51,q94,q98,w3]<;>try refine qS ?_ ?_)
  refine⟨k+1,by omega,by omega,rfl,q29,hfr'⟩
 ·have d1:decide ((k:Int)<(f i:Int))=false:=decide_eq_false (by omega)
  obtain rfl:k=f i:=by omega
  rw[KN] at m29;refine qI ?_
  repeat' (intro h<;>simp only[h,go_sem,go_sem_proc,af8,e0,e4,e5,e6,e7,e8,e9,e30,e31,e32,e50,e51,d1]<;>try refine qS ?_ ?_)
  refine hK _ _ ?_ ?_ ?_ ?_ ?_ ?_ ?_ ?_ ?_ ?_ m29 m94 m98 hfr<;>simp only[aR,agv,if_false,e0,e4,e5,e6,e7,e8,e9,e30,e31,e32]
end Go.Mini
