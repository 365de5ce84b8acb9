/- A part of the proof: MiniRf6, MiniKRef05, MiniRf7, MiniRf8, MiniKRef06, MiniRf9, MiniY, MiniLin2, MiniLin3, MiniLin4, MiniLin5, MiniLin6. -/
import Derived.Test.YtjcpopjafedmpaaM08
import Derived.Test.YtjcpopjafedmpaaM04
import Derived.Test.YtjcpopjafedmpaaM07
set_option linter.unusedSimpArgs false
set_option linter.unusedVariables false
open Nat renaming reduceEqDiff → yA, reduceAdd → yB, reduceSub → yC, reduceMul → yD, reduceLeDiff → yE, reduceLT → yF, reduceBEq → yG
open Bool renaming false_eq_true → yH
open Int renaming reduceEq → yI
open List renaming length_map → yJ, getElem?_map → yK, getElem?_eq_getElem → yL
open List.cons renaming injEq → yM
namespace Go.Mini
open Go
set_option maxRecDepth 10000
set_option maxHeartbeats 4000000
noncomputable def F_rDiv:List Data → Option PRes:=FF (α:=Int × (List Int) × Int × (List Int)) (fun (s,l,s2,l2) => ([.agg [.int .i64 s,.sl (l.map i64L)],.agg [.int .i64 s2,.sl (l2.map i64L)]]:List Data)) (fun (s,l,s2,l2) => onlyIf (l.length ≤ 1000000 ∧ l2.length ≤ 1000000) (.same (bigE2 (divR (s,l) (s2,l2)))))
theorem F_rDiv_inj:∀ a b:Int × (List Int) × Int × (List Int),(fun (s,l,s2,l2) => ([.agg [.int .i64 s,.sl (l.map i64L)],.agg [.int .i64 s2,.sl (l2.map i64L)]]:List Data)) a = (fun (s,l,s2,l2) => ([.agg [.int .i64 s,.sl (l.map i64L)],.agg [.int .i64 s2,.sl (l2.map i64L)]]:List Data)) b → a = b:=by
    rintro ⟨s1,l1,s21,l21⟩ ⟨s2,l2,s22,l22⟩ h
    simp only [yM,Data.agg.injEq,Data.int.injEq,Data.sl.injEq] at h; exact Prod.ext h.1.1.2 (Prod.ext (map_inj i64L_inj _ _ h.1.2.1) (Prod.ext h.2.1.1.2 (map_inj i64L_inj _ _ h.2.1.2.1)))
@[go_sem] theorem F_rDiv_eq (s:Int) (l:List Int) (s2:Int) (l2:List Int) (hc:l.length ≤ 1000000 ∧ l2.length ≤ 1000000):F_rDiv [.agg [.int .i64 s,.sl (l.map i64L)],.agg [.int .i64 s2,.sl (l2.map i64L)]] = some (.same (bigE2 (divR (s,l) (s2,l2)))):=(FF_eq F_rDiv_inj (s,l,s2,l2)).trans (onlyIf_pos hc _)
theorem w_rDiv (T:Tab) (h_rRight:T id_ref04_Right = mkE F_rRight) (h_rover:T id_ref04_over = mkE F_rover) (h_rplus:T id_ref04_plus = mkE F_rplus) (h_rminus:T id_ref04_minus = mkE F_rminus) (h_rmade:T id_ref04_made = mkE F_rmade) (s:Int) (l:List Int) (s2:Int) (l2:List Int) (hc:l.length ≤ 1000000 ∧ l2.length ≤ 1000000) :
    wp T mf_ref04_Div.body (endS mf_ref04_Div.res (.same (bigE2 (divR (s,l) (s2,l2))))) ⟨initTm [.dat (.agg [.int .i64 s,.sl (l.map i64L)]),.dat (.agg [.int .i64 s2,.sl (l2.map i64L)])],emp⟩:=by
  refine wp_start ?_
  simp only [mf_ref04_Div]
  obtain ⟨hl1,hl2⟩:=hc
  by_cases hr:rightR (s,l) = true
  · by_cases hr2:rightR (s2,l2) = true
    · obtain ⟨x,hx,e⟩:=(rightR_iff _).1 hr
      obtain ⟨y,hy,e2⟩:=(rightR_iff _).1 hr2
      by_cases hy0:y = 0
      · have hm:divR (s,l) (s2,l2) = ((0,[]),(0,[]),15):=by
          rw [e,e2]; unfold divR
          rw [right_enc hx,right_enc hy,valB_enc,valB_enc,if_pos (by rfl),if_pos hy0]
        rw [hm]
        cases e
        cases e2
        have h0:((y.sign:Int) == 0) = true:=by rw [hy0]; rfl
        simp only [go_sem,reduceIte,yA,yB,yC,yD,yE,yH,reduceCtorEq,yF,yG,yI,h_rRight,h_rover,h_rplus,h_rminus,h_rmade,hr,hr2,hl1,hl2,h0,bigL,bigE2,List.map_nil]
        repeat' (first | refine wpG_not ?_ ?_ | refine wpG_yes ?_ ?_ | refine wpB_not ?_ ?_ | refine wpB_yes ?_ ?_ | refine wpGD_not ?_ ?_ | refine wpGD_yes ?_ ?_) <;> intro h <;> simp only [h,go_sem,reduceIte,yA,yB,yC,yD,yE,yH,reduceCtorEq,yF,yG,yI,h_rRight,h_rover,h_rplus,h_rminus,h_rmade,hr,hr2,hl1,hl2,h0,bigL,bigE2,List.map_nil]
      · have hm:divR (s,l) (s2,l2) = (encB (x.fdiv y),encB (x.fmod y),0):=by
          rw [e,e2]; exact divR_enc hx hy hy0
        rw [hm]
        clear hm
        cases e
        cases e2
        have hlx:=lim_len hx
        have hly:=lim_len hy
        have hy0':(y.sign == 0) = false:=by rw [beq_eq_false_iff_ne,Ne,Int.sign_eq_zero_iff_zero]; exact hy0
        have hypos:0 < y.natAbs:=by omega
        have h1:=sign_abs x
        have h2:=sign_abs y
        have hp:x.sign * y.sign = (x * y).sign:=(Int.sign_mul x y).symm
        have h3:=sign_abs (x * y)
        have hw:IntKind.i64.wrap (x.sign * y.sign) = x.sign * y.sign:=by rw [hp]; exact wrap64 _ (by omega) (by omega)
        have hdiv:=F_rover_eq x.natAbs y.natAbs ⟨by omega,by omega,hypos⟩
        simp only [digs] at hdiv
        have hq:=fdiv_lim (y:=y) hx hy0
        have hr3:=fmod_lim (x:=x) hy hy0
        have hlq:x.natAbs / y.natAbs < LIM:=Nat.lt_of_le_of_lt (Nat.div_le_self _ _) hx
        have hlq':(dg (x.natAbs / y.natAbs)).length ≤ 60:=dg_len.2 hlq
        have hlr:x.natAbs % y.natAbs < LIM:=Nat.lt_trans (Nat.mod_lt _ hypos) hy
        have hlr':(dg (x.natAbs % y.natAbs)).length ≤ 60:=dg_len.2 hlr
        by_cases hlow:x.sign * y.sign < 0 ∧ x.natAbs % y.natAbs ≠ 0
        · obtain ⟨eq,er⟩:=floor_low hlow.1 hlow.2
          have hne:(((dg (x.natAbs % y.natAbs)).length:Int) == 0) = false:=by
            have:dg (x.natAbs % y.natAbs) ≠ []:=by rw [Ne,dg_nil]; exact hlow.2
            have:=List.length_pos_iff.2 this
            rw [beq_eq_false_iff_ne]; omega
          have hneg:decide (x.sign * y.sign ≥ 0) = false:=decide_eq_false (by have:=hlow.1; omega)
          have hd1:dg 1 = [1]:=by simp [dg,dgF]
          have hl1d:(dg 1).length = 1:=by rw [hd1]; rfl
          have hadd:=F_rplus_eq (x.natAbs / y.natAbs) 1 ⟨by omega,by omega⟩
          simp only [digs,hd1,List.map_cons,List.map_nil,i64L] at hadd
          have hsub:=F_rminus_eq y.natAbs (x.natAbs % y.natAbs) ⟨by omega,by omega,Nat.le_of_lt (Nat.mod_lt _ hypos)⟩
          simp only [digs] at hsub
          have hla:(dg (x.natAbs / y.natAbs + 1)).length ≤ 1000000:=by
            have:(x.natAbs / y.natAbs + 1) < LIM:=by rw [eq] at hq; rw [Int.natAbs_neg,Int.natAbs_natCast] at hq; exact hq
            have:=(dg_len (k:=60)).2 this
            omega
          have hlb:(dg (y.natAbs - x.natAbs % y.natAbs)).length ≤ 1000000:=by have:=sub_len y.natAbs (x.natAbs % y.natAbs); omega
          have hs1:signR (-1) (dg (x.natAbs / y.natAbs + 1)) = encB (x.fdiv y):=signR_enc (by rw [eq,Int.natAbs_neg,Int.natAbs_natCast]) fun _ => by rw [eq,Int.sign_neg,Int.sign_eq_one_of_pos (show (0:Int) < ((x.natAbs / y.natAbs + 1:Nat):Int) by exact Int.natCast_pos.2 (Nat.succ_pos _))]
          have hs2:signR y.sign (dg (y.natAbs - x.natAbs % y.natAbs)) = encB (x.fmod y):=by
            refine signR_enc ?_ fun hn => ?_
            · rw [er]; rcases sign_tri y with ⟨e',h3⟩ | ⟨e',h3⟩ | ⟨e',h3⟩ <;> rw [e'] <;> omega
            · rw [er,Int.sign_mul,Int.sign_sign,Int.sign_eq_one_of_pos (show (0:Int) < ((y.natAbs - x.natAbs % y.natAbs:Nat):Int) by omega),Int.mul_one]
          simp only [go_sem,reduceIte,yA,yB,yC,yD,yE,yH,reduceCtorEq,yF,yG,yI,h_rRight,h_rover,h_rplus,h_rminus,h_rmade,hr,hr2,hl1,hl2,hy0',hw,hdiv,hne,hneg,hadd,hsub,hla,hlb,hs1,hs2,i64L,yJ,bigL,bigE2,pair_eta]
          repeat' (first | refine wpG_not ?_ ?_ | refine wpG_yes ?_ ?_ | refine wpB_not ?_ ?_ | refine wpB_yes ?_ ?_ | refine wpGD_not ?_ ?_ | refine wpGD_yes ?_ ?_) <;> intro h <;> simp only [h,go_sem,reduceIte,yA,yB,yC,yD,yE,yH,reduceCtorEq,yF,yG,yI,h_rRight,h_rover,h_rplus,h_rminus,h_rmade,hr,hr2,hl1,hl2,hy0',hw,hdiv,hne,hneg,hadd,hsub,hla,hlb,hs1,hs2,i64L,yJ,bigL,bigE2,pair_eta]
        · obtain ⟨eq,er⟩:=floor_plain hy0 hlow
          have hlow':(decide (x.sign * y.sign ≥ 0) = false ∧ (((dg (x.natAbs % y.natAbs)).length:Int) == 0) = true) ∨ decide (x.sign * y.sign ≥ 0) = true:=by
            by_cases hn:x.sign * y.sign < 0
            · left
              have:x.natAbs % y.natAbs = 0:=Decidable.not_not.1 fun h => hlow ⟨hn,h⟩
              rw [this]; exact ⟨decide_eq_false (by omega),rfl⟩
            · right; exact decide_eq_true (by omega)
          have hla:(dg (x.natAbs / y.natAbs)).length ≤ 1000000:=by omega
          have hlb:(dg (x.natAbs % y.natAbs)).length ≤ 1000000:=by omega
          have hs1:signR (x.sign * y.sign) (dg (x.natAbs / y.natAbs)) = encB (x.fdiv y):=by
            refine signR_enc ?_ fun hn => ?_
            · rw [eq]
              have hgen:∀ Q:Nat,(x = 0 → Q = 0) → (x.sign * y.sign * (Q:Int)).natAbs = Q:=by
                intro Q h0
                rcases sign_tri x with ⟨e,h1⟩ | ⟨e,h1⟩ | ⟨e,h1⟩ <;> rcases sign_tri y with ⟨e',h3⟩ | ⟨e',h3⟩ | ⟨e',h3⟩ <;> rw [e,e'] <;> first | omega | (rw [h0 h1]; rfl)
              exact hgen _ fun h0 => by rw [h0]; exact Nat.zero_div _
            · rw [eq,hp,Int.sign_mul,Int.sign_mul,Int.sign_mul,Int.sign_sign,Int.sign_sign,Int.sign_eq_one_of_pos (show (0:Int) < ((x.natAbs / y.natAbs:Nat):Int) from Int.natCast_pos.2 (Nat.pos_of_ne_zero hn)),Int.mul_one]
          have hs2:signR x.sign (dg (x.natAbs % y.natAbs)) = encB (x.fmod y):=by
            refine signR_enc ?_ fun hn => ?_
            · rw [er]
              have hgen:∀ Q:Nat,(x = 0 → Q = 0) → (x.sign * (Q:Int)).natAbs = Q:=by
                intro Q h0
                rcases sign_tri x with ⟨e,h1⟩ | ⟨e,h1⟩ | ⟨e,h1⟩ <;> rw [e] <;> first | omega | (rw [h0 h1]; rfl)
              exact hgen _ fun h0 => by rw [h0]; exact Nat.zero_mod _
            · rw [er,Int.sign_mul,Int.sign_sign,Int.sign_eq_one_of_pos (show (0:Int) < ((x.natAbs % y.natAbs:Nat):Int) from Int.natCast_pos.2 (Nat.pos_of_ne_zero hn)),Int.mul_one]
          rcases hlow' with ⟨hlow1,hlow2⟩ | hlow1
          · simp only [go_sem,reduceIte,yA,yB,yC,yD,yE,yH,reduceCtorEq,yF,yG,yI,h_rRight,h_rover,h_rplus,h_rminus,h_rmade,hr,hr2,hl1,hl2,hy0',hw,hdiv,hlow1,hlow2,hla,hlb,hs1,hs2,i64L,yJ,bigL,bigE2,pair_eta]
            repeat' (first | refine wpG_not ?_ ?_ | refine wpG_yes ?_ ?_ | refine wpB_not ?_ ?_ | refine wpB_yes ?_ ?_ | refine wpGD_not ?_ ?_ | refine wpGD_yes ?_ ?_) <;> intro h <;> simp only [h,go_sem,reduceIte,yA,yB,yC,yD,yE,yH,reduceCtorEq,yF,yG,yI,h_rRight,h_rover,h_rplus,h_rminus,h_rmade,hr,hr2,hl1,hl2,hy0',hw,hdiv,hlow1,hlow2,hla,hlb,hs1,hs2,i64L,yJ,bigL,bigE2,pair_eta]
          · simp only [go_sem,reduceIte,yA,yB,yC,yD,yE,yH,reduceCtorEq,yF,yG,yI,h_rRight,h_rover,h_rplus,h_rminus,h_rmade,hr,hr2,hl1,hl2,hy0',hw,hdiv,hlow1,hla,hlb,hs1,hs2,i64L,yJ,bigL,bigE2,pair_eta]
            repeat' (first | refine wpG_not ?_ ?_ | refine wpG_yes ?_ ?_ | refine wpB_not ?_ ?_ | refine wpB_yes ?_ ?_ | refine wpGD_not ?_ ?_ | refine wpGD_yes ?_ ?_) <;> intro h <;> simp only [h,go_sem,reduceIte,yA,yB,yC,yD,yE,yH,reduceCtorEq,yF,yG,yI,h_rRight,h_rover,h_rplus,h_rminus,h_rmade,hr,hr2,hl1,hl2,hy0',hw,hdiv,hlow1,hla,hlb,hs1,hs2,i64L,yJ,bigL,bigE2,pair_eta]
    · have hr2:rightR (s2,l2) = false:=by simpa using hr2
      have hm:divR (s,l) (s2,l2) = ((0,[]),(0,[]),1):=by unfold divR; rw [hr2,Bool.and_false]; rfl
      rw [hm]
      simp only [go_sem,reduceIte,yA,yB,yC,yD,yE,yH,reduceCtorEq,yF,yG,yI,h_rRight,h_rover,h_rplus,h_rminus,h_rmade,hr,hr2,hl1,hl2,bigL,bigE2,List.map_nil]
      repeat' (first | refine wpG_not ?_ ?_ | refine wpG_yes ?_ ?_ | refine wpB_not ?_ ?_ | refine wpB_yes ?_ ?_ | refine wpGD_not ?_ ?_ | refine wpGD_yes ?_ ?_) <;> intro h <;> simp only [h,go_sem,reduceIte,yA,yB,yC,yD,yE,yH,reduceCtorEq,yF,yG,yI,h_rRight,h_rover,h_rplus,h_rminus,h_rmade,hr,hr2,hl1,hl2,bigL,bigE2,List.map_nil]
  · have hr:rightR (s,l) = false:=by simpa using hr
    have hm:divR (s,l) (s2,l2) = ((0,[]),(0,[]),1):=by unfold divR; rw [hr,Bool.false_and]; rfl
    rw [hm]
    simp only [go_sem,reduceIte,yA,yB,yC,yD,yE,yH,reduceCtorEq,yF,yG,yI,h_rRight,h_rover,h_rplus,h_rminus,h_rmade,hr,hl1,hl2,bigL,bigE2,List.map_nil]
    repeat' (first | refine wpG_not ?_ ?_ | refine wpG_yes ?_ ?_ | refine wpB_not ?_ ?_ | refine wpB_yes ?_ ?_ | refine wpGD_not ?_ ?_ | refine wpGD_yes ?_ ?_) <;> intro h <;> simp only [h,go_sem,reduceIte,yA,yB,yC,yD,yE,yH,reduceCtorEq,yF,yG,yI,h_rRight,h_rover,h_rplus,h_rminus,h_rmade,hr,hl1,hl2,bigL,bigE2,List.map_nil]
end Go.Mini
namespace Go.Mini
open Go
def mf_ref05_Few:MFunc :=
 { n:=19,np:=2,res:=[.t 4],body :=
 (.seq (.ops [
 ⟨(some 2),none,.box 115002 (.t 0)⟩,⟨(some 4),none,.mv (.c (.dat (.bool false)))⟩])
 (.seq (.ops [
 ⟨(some 5),none,.fad 0 (.t 2)⟩,⟨(some 6),none,.fad 1 (.t 5)⟩,⟨(some 7),none,.load 1 false (.t 6)⟩,⟨(some 8),none,.len (.t 7)⟩,⟨(some 9),none,.mv (.t 1)⟩,⟨(some 10),none,.bin .leq (.t 8) (.t 9)⟩,⟨(some 11),none,.mv (.t 10)⟩,⟨(some 12),(some (11,true)),.fad 2 (.t 2)⟩,⟨(some 13),(some (11,true)),.fad 1 (.t 12)⟩,⟨(some 14),(some (11,true)),.load 1 false (.t 13)⟩,⟨(some 15),(some (11,true)),.len (.t 14)⟩,⟨(some 16),(some (11,true)),.mv (.t 1)⟩,⟨(some 17),(some (11,true)),.bin .leq (.t 15) (.t 16)⟩,⟨(some 18),none,.pick (.t 11) (.t 17) (.c (.dat (.bool false)))⟩,⟨(some 4),none,.mv (.t 18)⟩])
 .ret)) }
def mf_ref05_Same:MFunc :=
 { n:=17,np:=2,res:=[.t 4],body :=
 (.seq (.ops [
 ⟨(some 2),none,.box 120002 (.t 0)⟩,⟨(some 3),none,.box 120003 (.t 1)⟩,⟨(some 4),none,.mv (.c (.dat (.bool false)))⟩])
 (.seq (.ops [
 ⟨(some 5),none,.fad 0 (.t 2)⟩,⟨(some 6),none,.load 2 true (.t 5)⟩,⟨(some 7),none,.fad 0 (.t 3)⟩,⟨(some 8),none,.load 2 true (.t 7)⟩,⟨(some 9),none,.call id_ref05_SameBig [(.t 6),(.t 8)]⟩,⟨(some 10),none,.mv (.t 9)⟩,⟨(some 11),(some (10,true)),.fad 2 (.t 2)⟩,⟨(some 12),(some (10,true)),.load 2 true (.t 11)⟩,⟨(some 13),(some (10,true)),.fad 2 (.t 3)⟩,⟨(some 14),(some (10,true)),.load 2 true (.t 13)⟩,⟨(some 15),(some (10,true)),.call id_ref05_SameBig [(.t 12),(.t 14)]⟩,⟨(some 16),none,.pick (.t 10) (.t 15) (.c (.dat (.bool false)))⟩,⟨(some 4),none,.mv (.t 16)⟩])
 .ret)) }
def mf_ref05_Of:MFunc :=
 { n:=13,np:=2,res:=[.cell 4 4 true,.t 5],body :=
 (.seq (.ops [
 ⟨(some 4),none,.alloc 124004 [(.dat (.int .i64 0)),.nil,(.dat (.int .i64 0)),.nil]⟩,⟨(some 5),none,.mv (.c (.dat (.int .i64 0)))⟩])
 (.seq (.ops [
 ⟨(some 6),none,.mv (.t 0)⟩,⟨(some 7),none,.call id_ref04_Of [(.t 6)]⟩,⟨(some 8),none,.mv (.t 1)⟩,⟨(some 9),none,.call id_ref04_Of [(.t 8)]⟩,⟨(some 10),none,.call id_ref05_New [(.t 7),(.t 9)]⟩,⟨(some 11),none,.ext 0 (.t 10)⟩,⟨(some 12),none,.ext 1 (.t 10)⟩,⟨none,none,.store 4 (.t 4) (.t 11)⟩,⟨(some 5),none,.mv (.t 12)⟩])
 .ret)) }
def mf_ref05_SameBig:MFunc :=
 { n:=38,np:=2,res:=[.t 4],body :=
 (.seq (.ops [
 ⟨(some 2),none,.box 142002 (.t 0)⟩,⟨(some 3),none,.box 142003 (.t 1)⟩,⟨(some 4),none,.mv (.c (.dat (.bool false)))⟩])
 (.seq (.seq (.ops [
 ⟨(some 6),none,.fad 0 (.t 2)⟩,⟨(some 7),none,.load 1 false (.t 6)⟩,⟨(some 8),none,.fad 0 (.t 3)⟩,⟨(some 9),none,.load 1 false (.t 8)⟩,⟨(some 10),none,.bin .neq (.t 7) (.t 9)⟩,⟨(some 11),none,.mv (.t 10)⟩,⟨(some 12),(some (11,false)),.fad 1 (.t 2)⟩,⟨(some 13),(some (11,false)),.load 1 false (.t 12)⟩,⟨(some 14),(some (11,false)),.len (.t 13)⟩,⟨(some 15),(some (11,false)),.fad 1 (.t 3)⟩,⟨(some 16),(some (11,false)),.load 1 false (.t 15)⟩,⟨(some 17),(some (11,false)),.len (.t 16)⟩,⟨(some 18),(some (11,false)),.bin .neq (.t 14) (.t 17)⟩,⟨(some 19),none,.pick (.t 11) (.c (.dat (.bool true))) (.t 18)⟩])
 (.cond (.t 19)
 (.seq (.ops [
 ⟨(some 4),none,.mv (.c (.dat (.bool false)))⟩])
 .ret)
 .skip))
 (.seq (.seq (.ops [
 ⟨(some 5),none,.mv (.c (.dat (.int .i64 0)))⟩])
 (.block 0
 (.loop
 (.seq (.seq (.ops [
 ⟨(some 20),none,.mv (.t 5)⟩,⟨(some 21),none,.fad 1 (.t 2)⟩,⟨(some 22),none,.load 1 false (.t 21)⟩,⟨(some 23),none,.len (.t 22)⟩,⟨(some 24),none,.bin .lss (.t 20) (.t 23)⟩])
 (.cond (.t 24)
 .skip
 (.exit 0)))
 (.seq (.block 1
 (.seq (.opsD [
 ⟨(some 27),none,.fad 1 (.t 2)⟩,⟨(some 28),none,.load 1 false (.t 27)⟩,⟨(some 29),none,.mv (.t 5)⟩,⟨(some 30),none,.iad 1 (.t 28) (.t 29)⟩,⟨(some 31),none,.load 1 false (.t 30)⟩,⟨(some 32),none,.fad 1 (.t 3)⟩,⟨(some 33),none,.load 1 false (.t 32)⟩,⟨(some 34),none,.mv (.t 5)⟩,⟨(some 35),none,.iad 1 (.t 33) (.t 34)⟩,⟨(some 36),none,.load 1 false (.t 35)⟩,⟨(some 37),none,.bin .neq (.t 31) (.t 36)⟩] [[],[],[],[],[],[],[],[],[],[],[]])
 (.cond (.t 37)
 (.seq (.ops [
 ⟨(some 4),none,.mv (.c (.dat (.bool false)))⟩])
 .ret)
 .skip)))
 (.ops [
 ⟨(some 25),none,.mv (.t 5)⟩,⟨(some 26),none,.bin .add (.t 25) (.c (.dat (.int .i64 1)))⟩,⟨(some 5),none,.mv (.t 26)⟩]))))))
 (.seq (.ops [
 ⟨(some 4),none,.mv (.c (.dat (.bool true)))⟩])
 .ret)))) }
def mf_ref05_New:MFunc :=
 { n:=57,np:=2,res:=[.cell 4 4 true,.t 5],body :=
 (.seq (.ops [
 ⟨(some 2),none,.box 143002 (.t 0)⟩,⟨(some 3),none,.box 143003 (.t 1)⟩,⟨(some 4),none,.alloc 143004 [(.dat (.int .i64 0)),.nil,(.dat (.int .i64 0)),.nil]⟩,⟨(some 5),none,.mv (.c (.dat (.int .i64 0)))⟩])
 (.seq (.seq (.ops [
 ⟨(some 14),none,.load 2 true (.t 2)⟩,⟨(some 15),none,.call id_ref04_Right [(.t 14)]⟩,⟨(some 16),none,.un .not (.t 15)⟩,⟨(some 17),none,.mv (.t 16)⟩,⟨(some 18),(some (17,false)),.load 2 true (.t 3)⟩,⟨(some 19),(some (17,false)),.call id_ref04_Right [(.t 18)]⟩,⟨(some 20),(some (17,false)),.un .not (.t 19)⟩,⟨(some 21),none,.pick (.t 17) (.c (.dat (.bool true))) (.t 20)⟩])
 (.cond (.t 21)
 (.seq (.ops [
 ⟨(some 22),none,.build [(.dat (.int .i64 0)),.nil,(.dat (.int .i64 0)),.nil] []⟩,⟨none,none,.store 4 (.t 4) (.t 22)⟩,⟨(some 5),none,.mv (.c (.dat (.int .i64 1)))⟩])
 .ret)
 .skip))
 (.seq (.seq (.ops [
 ⟨(some 23),none,.fad 0 (.t 3)⟩,⟨(some 24),none,.load 1 false (.t 23)⟩,⟨(some 25),none,.bin .eql (.t 24) (.c (.dat (.int .i64 0)))⟩])
 (.cond (.t 25)
 (.seq (.ops [
 ⟨(some 26),none,.build [(.dat (.int .i64 0)),.nil,(.dat (.int .i64 0)),.nil] []⟩,⟨none,none,.store 4 (.t 4) (.t 26)⟩,⟨(some 5),none,.mv (.c (.dat (.int .i64 15)))⟩])
 .ret)
 .skip))
 (.seq (.seq (.ops [
 ⟨(some 27),none,.fad 0 (.t 3)⟩,⟨(some 28),none,.load 1 false (.t 27)⟩,⟨(some 29),none,.bin .lss (.t 28) (.c (.dat (.int .i64 0)))⟩])
 (.cond (.t 29)
 (.seq (.ops [
 ⟨(some 30),none,.load 2 true (.t 2)⟩,⟨(some 31),none,.call id_ref04_Neg [(.t 30)]⟩,⟨none,none,.store 2 (.t 2) (.t 31)⟩])
 (.ops [
 ⟨(some 32),none,.load 2 true (.t 3)⟩,⟨(some 33),none,.call id_ref04_Neg [(.t 32)]⟩,⟨none,none,.store 2 (.t 3) (.t 33)⟩]))
 .skip))
 (.seq (.ops [
 ⟨(some 35),none,.load 2 true (.t 2)⟩,⟨(some 36),none,.load 2 true (.t 3)⟩,⟨(some 37),none,.call id_ref04_Gcd [(.t 35),(.t 36)]⟩,⟨(some 34),none,.mv (.t 37)⟩,⟨(some 38),none,.ext 0 (.t 34)⟩,⟨(some 39),none,.ext 1 (.t 34)⟩,⟨(some 6),none,.alloc 143006 [(.dat (.int .i64 0)),.nil]⟩,⟨none,none,.store 2 (.t 6) (.t 38)⟩,⟨(some 7),none,.mv (.t 39)⟩])
 (.seq (.ops [
 ⟨(some 41),none,.load 2 true (.t 2)⟩,⟨(some 42),none,.load 2 true (.t 6)⟩,⟨(some 43),none,.call id_ref04_Div [(.t 41),(.t 42)]⟩,⟨(some 40),none,.mv (.t 43)⟩,⟨(some 44),none,.ext 0 (.t 40)⟩,⟨(some 45),none,.ext 1 (.t 40)⟩,⟨(some 46),none,.ext 2 (.t 40)⟩,⟨(some 8),none,.alloc 143008 [(.dat (.int .i64 0)),.nil]⟩,⟨(some 9),none,.alloc 143009 [(.dat (.int .i64 0)),.nil]⟩,⟨none,none,.store 2 (.t 8) (.t 44)⟩,⟨none,none,.store 2 (.t 9) (.t 45)⟩,⟨(some 10),none,.mv (.t 46)⟩])
 (.seq (.ops [
 ⟨(some 48),none,.load 2 true (.t 3)⟩,⟨(some 49),none,.load 2 true (.t 6)⟩,⟨(some 50),none,.call id_ref04_Div [(.t 48),(.t 49)]⟩,⟨(some 47),none,.mv (.t 50)⟩,⟨(some 51),none,.ext 0 (.t 47)⟩,⟨(some 52),none,.ext 1 (.t 47)⟩,⟨(some 53),none,.ext 2 (.t 47)⟩,⟨(some 11),none,.alloc 143011 [(.dat (.int .i64 0)),.nil]⟩,⟨(some 12),none,.alloc 143012 [(.dat (.int .i64 0)),.nil]⟩,⟨none,none,.store 2 (.t 11) (.t 51)⟩,⟨none,none,.store 2 (.t 12) (.t 52)⟩,⟨(some 13),none,.mv (.t 53)⟩])
 (.seq (.ops [
 ⟨(some 54),none,.load 2 true (.t 8)⟩,⟨(some 55),none,.load 2 true (.t 11)⟩,⟨(some 56),none,.build [(.dat (.int .i64 0)),.nil,(.dat (.int .i64 0)),.nil] [(0,2,(.t 54)),(2,2,(.t 55))]⟩,⟨none,none,.store 4 (.t 4) (.t 56)⟩,⟨(some 5),none,.mv (.c (.dat (.int .i64 0)))⟩])
 .ret)))))))) }
end Go.Mini
namespace Go.Mini
open Go
set_option maxRecDepth 10000
set_option maxHeartbeats 4000000
noncomputable def F_gNew:List Data → Option PRes:=FF (α:=Int × (List Int) × Int × (List Int)) (fun (s,l,s2,l2) => ([.agg [.int .i64 s,.sl (l.map i64L)],.agg [.int .i64 s2,.sl (l2.map i64L)]]:List Data)) (fun (s,l,s2,l2) => onlyIf (l.length ≤ 1000000 ∧ l2.length ≤ 1000000) (.same (fracE (newR (s,l) (s2,l2)))))
theorem F_gNew_inj:∀ a b:Int × (List Int) × Int × (List Int),(fun (s,l,s2,l2) => ([.agg [.int .i64 s,.sl (l.map i64L)],.agg [.int .i64 s2,.sl (l2.map i64L)]]:List Data)) a = (fun (s,l,s2,l2) => ([.agg [.int .i64 s,.sl (l.map i64L)],.agg [.int .i64 s2,.sl (l2.map i64L)]]:List Data)) b → a = b:=by
    rintro ⟨s1,l1,s21,l21⟩ ⟨s2,l2,s22,l22⟩ h
    simp only [yM,Data.agg.injEq,Data.int.injEq,Data.sl.injEq] at h; exact Prod.ext h.1.1.2 (Prod.ext (map_inj i64L_inj _ _ h.1.2.1) (Prod.ext h.2.1.1.2 (map_inj i64L_inj _ _ h.2.1.2.1)))
@[go_sem] theorem F_gNew_eq (s:Int) (l:List Int) (s2:Int) (l2:List Int) (hc:l.length ≤ 1000000 ∧ l2.length ≤ 1000000):F_gNew [.agg [.int .i64 s,.sl (l.map i64L)],.agg [.int .i64 s2,.sl (l2.map i64L)]] = some (.same (fracE (newR (s,l) (s2,l2)))):=(FF_eq F_gNew_inj (s,l,s2,l2)).trans (onlyIf_pos hc _)
theorem w_gNew (T:Tab) (h_rRight:T id_ref04_Right = mkE F_rRight) (h_rNeg:T id_ref04_Neg = mkE F_rNeg) (h_rGcd:T id_ref04_Gcd = mkE F_rGcd) (h_rDiv:T id_ref04_Div = mkE F_rDiv) (s:Int) (l:List Int) (s2:Int) (l2:List Int) (hc:l.length ≤ 1000000 ∧ l2.length ≤ 1000000) :
    wp T mf_ref05_New.body (endS mf_ref05_New.res (.same (fracE (newR (s,l) (s2,l2))))) ⟨initTm [.dat (.agg [.int .i64 s,.sl (l.map i64L)]),.dat (.agg [.int .i64 s2,.sl (l2.map i64L)])],emp⟩:=by
  refine wp_start ?_
  simp only [mf_ref05_New]
  obtain ⟨hl1,hl2⟩:=hc
  by_cases hr:rightR (s,l) = true
  · by_cases hr2:rightR (s2,l2) = true
    · obtain ⟨x,hx,e⟩:=(rightR_iff _).1 hr
      obtain ⟨y,hy,e2⟩:=(rightR_iff _).1 hr2
      by_cases h0:y = 0
      · have hm:newR (s,l) (s2,l2) = (zeroF,15):=by
          unfold newR; rw [hr,hr2,e2,valB_enc,if_pos (by rfl),if_pos h0]
        rw [hm]
        cases e
        cases e2
        have hs:(y.sign == 0) = true:=by rw [h0]; rfl
        simp only [go_sem,reduceIte,yA,yB,yC,yD,yE,yH,reduceCtorEq,yF,yG,yI,h_rRight,h_rNeg,h_rGcd,h_rDiv,hr,hr2,hl1,hl2,hs,fracE,fracL,zeroF,List.map_nil]
        repeat' (first | refine wpG_not ?_ ?_ | refine wpG_yes ?_ ?_ | refine wpB_not ?_ ?_ | refine wpB_yes ?_ ?_ | refine wpGD_not ?_ ?_ | refine wpGD_yes ?_ ?_) <;> intro h <;> simp only [h,go_sem,reduceIte,yA,yB,yC,yD,yE,yH,reduceCtorEq,yF,yG,yI,h_rRight,h_rNeg,h_rGcd,h_rDiv,hr,hr2,hl1,hl2,hs,fracE,fracL,zeroF,List.map_nil]
      · have main:∀ p q:Int,p.natAbs < LIM → q.natAbs < LIM → 0 < q → ∃ g:Raw,gcdR (encB p) (encB q) = (g,0) ∧ g.2.length ≤ 1000000 ∧ divR (encB p) g = (encB (Rat.divInt p q).num,encB (p.fmod ((Nat.gcd p.natAbs q.natAbs:Nat):Int)),0) ∧ divR (encB q) g = (encB (Rat.divInt p q).den,encB (q.fmod ((Nat.gcd p.natAbs q.natAbs:Nat):Int)),0):=by
          intro p q hp hq hq0
          have hgl:=gcd_lim hp hq
          have hgl':((Nat.gcd p.natAbs q.natAbs:Nat):Int).natAbs < LIM:=by rw [Int.natAbs_natCast]; exact hgl
          have hg0:=gcd_pos' (p:=p) (q:=q) (by omega)
          obtain ⟨h1,h2⟩:=divInt_parts (p:=p) hq0
          refine ⟨encB ((Nat.gcd p.natAbs q.natAbs:Nat):Int),?_,len_ok hgl',?_,?_⟩
          · unfold gcdR; rw [right_enc hp,right_enc hq,valB_enc,valB_enc]; rfl
          · rw [divR_enc hp hgl' (by omega),h1]
          · rw [divR_enc hq hgl' (by omega),h2]
        have hs0:(y.sign == 0) = false:=by simpa using h0
        rcases Int.lt_or_gt_of_ne h0 with hneg | hpos
        · have hs1:decide (y.sign < 0) = true:=by rw [Int.sign_eq_neg_one_of_neg hneg]; rfl
          obtain ⟨⟨g1,g2⟩,hg,hgl,hd1,hd2⟩:=main (-x) (-y) (by omega) (by omega) (by omega)
          have hm:newR (s,l) (s2,l2) = (encR (Rat.divInt (-x) (-y)),0):=by
            rw [e,e2,newR_enc hx hy h0,Rat.neg_divInt_neg]
          rw [hm]
          have hn1:negR (s,l) = encB (-x):=by unfold negR; rw [if_pos hr,e,valB_enc]
          have hn2:negR (s2,l2) = encB (-y):=by unfold negR; rw [if_pos hr2,e2,valB_enc]
          have hy1:s2 = y.sign:=congrArg Prod.fst e2
          have hl3:(encB (-x)).2.length ≤ 1000000:=len_ok (by omega)
          have hl4:(encB (-y)).2.length ≤ 1000000:=len_ok (by omega)
          clear e e2
          unfold encR
          generalize encB (-x) = X at *
          generalize encB (-y) = Y at *
          obtain ⟨x1,x2⟩:=X
          obtain ⟨y1,y2⟩:=Y
          rw [← hy1] at hs0 hs1
          simp only [go_sem,reduceIte,yA,yB,yC,yD,yE,yH,reduceCtorEq,yF,yG,yI,h_rRight,h_rNeg,h_rGcd,h_rDiv,hr,hr2,hl1,hl2,hs0,hs1,hn1,hn2,hl3,hl4,hg,hgl,hd1,hd2,fracE,fracL,bigE,bigE2,bigL]
          repeat' (first | refine wpG_not ?_ ?_ | refine wpG_yes ?_ ?_ | refine wpB_not ?_ ?_ | refine wpB_yes ?_ ?_ | refine wpGD_not ?_ ?_ | refine wpGD_yes ?_ ?_) <;> intro h <;> simp only [h,go_sem,reduceIte,yA,yB,yC,yD,yE,yH,reduceCtorEq,yF,yG,yI,h_rRight,h_rNeg,h_rGcd,h_rDiv,hr,hr2,hl1,hl2,hs0,hs1,hn1,hn2,hl3,hl4,hg,hgl,hd1,hd2,fracE,fracL,bigE,bigE2,bigL]
        · have hs1:decide (y.sign < 0) = false:=by rw [Int.sign_eq_one_of_pos hpos]; rfl
          obtain ⟨⟨g1,g2⟩,hg,hgl,hd1,hd2⟩:=main x y hx hy hpos
          have hm:newR (s,l) (s2,l2) = (encR (Rat.divInt x y),0):=by
            rw [e,e2,newR_enc hx hy h0]
          rw [hm]
          have hy1:s2 = y.sign:=congrArg Prod.fst e2
          rw [← e] at hg hd1
          rw [← e2] at hg hd2
          rw [← hy1] at hs0 hs1
          unfold encR
          simp only [go_sem,reduceIte,yA,yB,yC,yD,yE,yH,reduceCtorEq,yF,yG,yI,h_rRight,h_rNeg,h_rGcd,h_rDiv,hr,hr2,hl1,hl2,hs0,hs1,hg,hgl,hd1,hd2,fracE,fracL,bigE,bigE2,bigL]
          repeat' (first | refine wpG_not ?_ ?_ | refine wpG_yes ?_ ?_ | refine wpB_not ?_ ?_ | refine wpB_yes ?_ ?_ | refine wpGD_not ?_ ?_ | refine wpGD_yes ?_ ?_) <;> intro h <;> simp only [h,go_sem,reduceIte,yA,yB,yC,yD,yE,yH,reduceCtorEq,yF,yG,yI,h_rRight,h_rNeg,h_rGcd,h_rDiv,hr,hr2,hl1,hl2,hs0,hs1,hg,hgl,hd1,hd2,fracE,fracL,bigE,bigE2,bigL]
    · have hr2:rightR (s2,l2) = false:=by simpa using hr2
      have hm:newR (s,l) (s2,l2) = (zeroF,1):=by unfold newR; rw [hr2,Bool.and_false]; rfl
      rw [hm]
      simp only [go_sem,reduceIte,yA,yB,yC,yD,yE,yH,reduceCtorEq,yF,yG,yI,h_rRight,h_rNeg,h_rGcd,h_rDiv,hr,hr2,hl1,hl2,fracE,fracL,zeroF,List.map_nil]
      repeat' (first | refine wpG_not ?_ ?_ | refine wpG_yes ?_ ?_ | refine wpB_not ?_ ?_ | refine wpB_yes ?_ ?_ | refine wpGD_not ?_ ?_ | refine wpGD_yes ?_ ?_) <;> intro h <;> simp only [h,go_sem,reduceIte,yA,yB,yC,yD,yE,yH,reduceCtorEq,yF,yG,yI,h_rRight,h_rNeg,h_rGcd,h_rDiv,hr,hr2,hl1,hl2,fracE,fracL,zeroF,List.map_nil]
  · have hr:rightR (s,l) = false:=by simpa using hr
    have hm:newR (s,l) (s2,l2) = (zeroF,1):=by unfold newR; rw [hr,Bool.false_and]; rfl
    rw [hm]
    simp only [go_sem,reduceIte,yA,yB,yC,yD,yE,yH,reduceCtorEq,yF,yG,yI,h_rRight,h_rNeg,h_rGcd,h_rDiv,hr,hl1,hl2,fracE,fracL,zeroF,List.map_nil]
    repeat' (first | refine wpG_not ?_ ?_ | refine wpG_yes ?_ ?_ | refine wpB_not ?_ ?_ | refine wpB_yes ?_ ?_ | refine wpGD_not ?_ ?_ | refine wpGD_yes ?_ ?_) <;> intro h <;> simp only [h,go_sem,reduceIte,yA,yB,yC,yD,yE,yH,reduceCtorEq,yF,yG,yI,h_rRight,h_rNeg,h_rGcd,h_rDiv,hr,hl1,hl2,fracE,fracL,zeroF,List.map_nil]
noncomputable def F_gOf:List Data → Option PRes:=FF (α:=Int × Int) (fun (p,q) => ([.int .i64 p,.int .i64 q]:List Data)) (fun (p,q) => onlyIf (i64R p ∧ i64R q) (.same (fracE (newR (encB p) (encB q)))))
theorem F_gOf_inj:∀ a b:Int × Int,(fun (p,q) => ([.int .i64 p,.int .i64 q]:List Data)) a = (fun (p,q) => ([.int .i64 p,.int .i64 q]:List Data)) b → a = b:=by
    rintro ⟨p1,q1⟩ ⟨p2,q2⟩ h
    simp only [yM,Data.int.injEq,Data.agg.injEq,Data.sl.injEq,Data.bool.injEq,Data.str.injEq,Data.ptr.injEq,Data.tup.injEq,Prod.mk.injEq,true_and,and_true] at h ⊢
    first | exact h | simpa [Prod.ext_iff,and_assoc] using h | grind
@[go_sem] theorem F_gOf_eq (p:Int) (q:Int) (hc:i64R p ∧ i64R q):F_gOf [.int .i64 p,.int .i64 q] = some (.same (fracE (newR (encB p) (encB q)))):=(FF_eq F_gOf_inj (p,q)).trans (onlyIf_pos hc _)
theorem w_gOf (T:Tab) (h_rOf:T id_ref04_Of = mkE F_rOf) (h_gNew:T id_ref05_New = mkE F_gNew) (p:Int) (q:Int) (hc:i64R p ∧ i64R q) :
    wp T mf_ref05_Of.body (endS mf_ref05_Of.res (.same (fracE (newR (encB p) (encB q))))) ⟨initTm [.dat (.int .i64 p),.dat (.int .i64 q)],emp⟩:=by
  refine wp_start ?_
  simp only [mf_ref05_Of]
  obtain ⟨h1,h2⟩:=hc
  have l1:(encB p).2.length ≤ 1000000:=len_ok (lim_i64 h1)
  have l2:(encB q).2.length ≤ 1000000:=len_ok (lim_i64 h2)
  generalize hP:encB p = P at *
  generalize hQ:encB q = Q at *
  obtain ⟨x1,x2⟩:=P
  obtain ⟨y1,y2⟩:=Q
  simp only [go_sem,reduceIte,yA,yB,yC,yD,yE,yH,reduceCtorEq,yF,yG,yI,h_rOf,h_gNew,h1,h2,hP,hQ,l1,l2,bigL,fracE,fracL]
  repeat' (first | refine wpG_not ?_ ?_ | refine wpG_yes ?_ ?_ | refine wpB_not ?_ ?_ | refine wpB_yes ?_ ?_ | refine wpGD_not ?_ ?_ | refine wpGD_yes ?_ ?_) <;> intro h <;> simp only [h,go_sem,reduceIte,yA,yB,yC,yD,yE,yH,reduceCtorEq,yF,yG,yI,h_rOf,h_gNew,h1,h2,hP,hQ,l1,l2,bigL,fracE,fracL]
noncomputable def F_gSameBig:List Data → Option PRes:=FF (α:=Int × (List Int) × Int × (List Int)) (fun (s,l,s2,l2) => ([.agg [.int .i64 s,.sl (l.map i64L)],.agg [.int .i64 s2,.sl (l2.map i64L)]]:List Data)) (fun (s,l,s2,l2) => onlyIf (l.length ≤ 1000000 ∧ l2.length ≤ 1000000) (.same (.bool (sameR (s,l) (s2,l2)))))
theorem F_gSameBig_inj:∀ a b:Int × (List Int) × Int × (List Int),(fun (s,l,s2,l2) => ([.agg [.int .i64 s,.sl (l.map i64L)],.agg [.int .i64 s2,.sl (l2.map i64L)]]:List Data)) a = (fun (s,l,s2,l2) => ([.agg [.int .i64 s,.sl (l.map i64L)],.agg [.int .i64 s2,.sl (l2.map i64L)]]:List Data)) b → a = b:=by
    rintro ⟨s1,l1,s21,l21⟩ ⟨s2,l2,s22,l22⟩ h
    simp only [yM,Data.agg.injEq,Data.int.injEq,Data.sl.injEq] at h; exact Prod.ext h.1.1.2 (Prod.ext (map_inj i64L_inj _ _ h.1.2.1) (Prod.ext h.2.1.1.2 (map_inj i64L_inj _ _ h.2.1.2.1)))
@[go_sem] theorem F_gSameBig_eq (s:Int) (l:List Int) (s2:Int) (l2:List Int) (hc:l.length ≤ 1000000 ∧ l2.length ≤ 1000000):F_gSameBig [.agg [.int .i64 s,.sl (l.map i64L)],.agg [.int .i64 s2,.sl (l2.map i64L)]] = some (.same (.bool (sameR (s,l) (s2,l2)))):=(FF_eq F_gSameBig_inj (s,l,s2,l2)).trans (onlyIf_pos hc _)
theorem w_gSameBig (T:Tab)  (s:Int) (l:List Int) (s2:Int) (l2:List Int) (hc:l.length ≤ 1000000 ∧ l2.length ≤ 1000000) :
    wp T mf_ref05_SameBig.body (endS mf_ref05_SameBig.res (.same (.bool (sameR (s,l) (s2,l2))))) ⟨initTm [.dat (.agg [.int .i64 s,.sl (l.map i64L)]),.dat (.agg [.int .i64 s2,.sl (l2.map i64L)])],emp⟩:=by
  refine wp_start ?_
  simp only [mf_ref05_SameBig]
  obtain ⟨hl1,hl2⟩:=hc
  by_cases hs:s = s2
  · subst hs
    by_cases hl:l.length = l2.length
    · have e1:(((l.length:Nat):Int) == ((l2.length:Nat):Int)) = true:=by simp; omega
      simp only [go_sem,reduceIte,yA,yB,yC,yD,yE,yH,reduceCtorEq,yF,yG,yI,beq_self_eq_true,yJ,e1,Bool.not_true,bne]
      refine wp_loop_keep [2,3] [142002,142003] (fun (i:Nat) tm mem => i ≤ l.length ∧ l.take i = l2.take i ∧ tm 5 = .dat (.int .i64 i)) (fun i => l.length - i) 0 (by refine ⟨by omega,by simp,rfl⟩) ?_
      intro vs ms hvs hms
      simp only [go_sem,reduceIte,yA,yB,yC,yD,yE,yH,reduceCtorEq,yF,yG,yI,yJ] at hvs hms
      subst hvs hms
      rintro i tm mem hk hm ⟨hi,hf,h5⟩
      simp only [go_sem,reduceIte,yA,yB,yC,yD,yE,yH,reduceCtorEq,yF,yG,yI,yM] at hk hm
      obtain ⟨h2,h3⟩:=hk
      obtain ⟨m2,m3⟩:=hm
      rcases Decidable.em (i < l.length) with hlt | hge
      · have hx:l[i]? = some l[i]:=yL hlt
        have hy:l2[i]? = some l2[i]:=yL (by omega)
        have hn1:l.take (i + 1) = l.take i ++ [l[i]]:=by rw [List.take_add_one,hx]; rfl
        have hn2:l2.take (i + 1) = l2.take i ++ [l2[i]]:=by rw [List.take_add_one,hy]; rfl
        generalize l[i] = x at *
        generalize l2[i] = y at *
        have d1:decide ((i:Int) < (l.length:Int)) = true:=decide_eq_true (by omega)
        have w3:IntKind.i64.wrap ((i:Int) + 1) = ((i + 1:Nat):Int):=by rw [wrap64 _ (by omega) (by omega)]; omega
        by_cases hxy:x = y
        · subst hxy
          simp only [go_sem,reduceIte,yA,yB,yC,yD,yE,yH,reduceCtorEq,yF,yG,yI,h2,h3,h5,m2,m3,hx,hy,d1,w3,i64L,yJ,yK,yM,beq_self_eq_true,Bool.not_true]
          repeat' (first | refine wpG_not ?_ ?_ | refine wpG_yes ?_ ?_ | refine wpB_not ?_ ?_ | refine wpB_yes ?_ ?_ | refine wpGD_not ?_ ?_ | refine wpGD_yes ?_ ?_) <;> intro h <;> simp only [h,go_sem,reduceIte,yA,yB,yC,yD,yE,yH,reduceCtorEq,yF,yG,yI,h2,h3,h5,m2,m3,hx,hy,d1,w3,i64L,yJ,yK,yM,beq_self_eq_true,Bool.not_true]
          exact ⟨i + 1,by omega,by omega,by rw [hn1,hn2,hf],rfl⟩
        · have hne:(x == y) = false:=by simpa using hxy
          have hr:sameR (s,l) (s,l2) = false:=by
            refine decide_eq_false fun h => hxy ?_
            rw [Prod.mk.injEq] at h
            rw [h.2,hy] at hx
            exact (Option.some.inj hx).symm
          rw [hr]
          simp only [go_sem,reduceIte,yA,yB,yC,yD,yE,yH,reduceCtorEq,yF,yG,yI,h2,h3,h5,m2,m3,hx,hy,d1,w3,hne,i64L,yJ,yK,yM,Bool.not_false]
          repeat' (first | refine wpG_not ?_ ?_ | refine wpG_yes ?_ ?_ | refine wpB_not ?_ ?_ | refine wpB_yes ?_ ?_ | refine wpGD_not ?_ ?_ | refine wpGD_yes ?_ ?_) <;> intro h <;> simp only [h,go_sem,reduceIte,yA,yB,yC,yD,yE,yH,reduceCtorEq,yF,yG,yI,h2,h3,h5,m2,m3,hx,hy,d1,w3,hne,i64L,yJ,yK,yM,Bool.not_false]
      · have d1:decide ((i:Int) < (l.length:Int)) = false:=decide_eq_false (by omega)
        have hr:sameR (s,l) (s,l2) = true:=by
          refine decide_eq_true ?_
          rw [List.take_of_length_le (by omega),List.take_of_length_le (by omega)] at hf
          rw [hf]
        rw [hr]
        simp only [go_sem,reduceIte,yA,yB,yC,yD,yE,yH,reduceCtorEq,yF,yG,yI,h2,h3,h5,m2,m3,d1,yJ]
        repeat' (first | refine wpG_not ?_ ?_ | refine wpG_yes ?_ ?_ | refine wpB_not ?_ ?_ | refine wpB_yes ?_ ?_ | refine wpGD_not ?_ ?_ | refine wpGD_yes ?_ ?_) <;> intro h <;> simp only [h,go_sem,reduceIte,yA,yB,yC,yD,yE,yH,reduceCtorEq,yF,yG,yI,h2,h3,h5,m2,m3,d1,yJ]
    · have e1:(((l.length:Nat):Int) == ((l2.length:Nat):Int)) = false:=by simp; omega
      have hr:sameR (s,l) (s,l2) = false:=by
        refine decide_eq_false fun h => hl ?_
        rw [Prod.mk.injEq] at h
        rw [h.2]
      rw [hr]
      simp only [go_sem,reduceIte,yA,yB,yC,yD,yE,yH,reduceCtorEq,yF,yG,yI,beq_self_eq_true,yJ,e1,Bool.not_true,Bool.not_false,bne]
      repeat' (first | refine wpG_not ?_ ?_ | refine wpG_yes ?_ ?_ | refine wpB_not ?_ ?_ | refine wpB_yes ?_ ?_ | refine wpGD_not ?_ ?_ | refine wpGD_yes ?_ ?_) <;> intro h <;> simp only [h,go_sem,reduceIte,yA,yB,yC,yD,yE,yH,reduceCtorEq,yF,yG,yI,beq_self_eq_true,yJ,e1,Bool.not_true,Bool.not_false,bne]
  · have hne:(s == s2) = false:=by simpa using hs
    have hr:sameR (s,l) (s2,l2) = false:=by
      refine decide_eq_false fun h => hs ?_
      rw [Prod.mk.injEq] at h
      exact h.1
    rw [hr]
    simp only [go_sem,reduceIte,yA,yB,yC,yD,yE,yH,reduceCtorEq,yF,yG,yI,hne,yJ,Bool.not_true,Bool.not_false,bne]
    repeat' (first | refine wpG_not ?_ ?_ | refine wpG_yes ?_ ?_ | refine wpB_not ?_ ?_ | refine wpB_yes ?_ ?_ | refine wpGD_not ?_ ?_ | refine wpGD_yes ?_ ?_) <;> intro h <;> simp only [h,go_sem,reduceIte,yA,yB,yC,yD,yE,yH,reduceCtorEq,yF,yG,yI,hne,yJ,Bool.not_true,Bool.not_false,bne]
def sameF (a b:FRaw):Bool:=decide (a = b)
noncomputable def F_gSame:List Data → Option PRes:=FF (α:=Int × (List Int) × Int × (List Int) × Int × (List Int) × Int × (List Int)) (fun (s,l,s2,l2,s3,l3,s4,l4) => ([.agg [.int .i64 s,.sl (l.map i64L),.int .i64 s2,.sl (l2.map i64L)],.agg [.int .i64 s3,.sl (l3.map i64L),.int .i64 s4,.sl (l4.map i64L)]]:List Data)) (fun (s,l,s2,l2,s3,l3,s4,l4) => onlyIf (l.length ≤ 1000000 ∧ l2.length ≤ 1000000 ∧ l3.length ≤ 1000000 ∧ l4.length ≤ 1000000) (.same (.bool (sameF ((s,l),(s2,l2)) ((s3,l3),(s4,l4))))))
theorem F_gSame_inj:∀ a b:Int × (List Int) × Int × (List Int) × Int × (List Int) × Int × (List Int),(fun (s,l,s2,l2,s3,l3,s4,l4) => ([.agg [.int .i64 s,.sl (l.map i64L),.int .i64 s2,.sl (l2.map i64L)],.agg [.int .i64 s3,.sl (l3.map i64L),.int .i64 s4,.sl (l4.map i64L)]]:List Data)) a = (fun (s,l,s2,l2,s3,l3,s4,l4) => ([.agg [.int .i64 s,.sl (l.map i64L),.int .i64 s2,.sl (l2.map i64L)],.agg [.int .i64 s3,.sl (l3.map i64L),.int .i64 s4,.sl (l4.map i64L)]]:List Data)) b → a = b:=by
    rintro ⟨s1,l1,s21,l21,s31,l31,s41,l41⟩ ⟨s2,l2,s22,l22,s32,l32,s42,l42⟩ h
    simp only [yM,Data.agg.injEq,Data.int.injEq,Data.sl.injEq] at h; exact Prod.ext h.1.1.2 (Prod.ext (map_inj i64L_inj _ _ h.1.2.1) (Prod.ext h.1.2.2.1.2 (Prod.ext (map_inj i64L_inj _ _ h.1.2.2.2.1) (Prod.ext h.2.1.1.2 (Prod.ext (map_inj i64L_inj _ _ h.2.1.2.1) (Prod.ext h.2.1.2.2.1.2 (map_inj i64L_inj _ _ h.2.1.2.2.2.1)))))))
@[go_sem] theorem F_gSame_eq (s:Int) (l:List Int) (s2:Int) (l2:List Int) (s3:Int) (l3:List Int) (s4:Int) (l4:List Int) (hc:l.length ≤ 1000000 ∧ l2.length ≤ 1000000 ∧ l3.length ≤ 1000000 ∧ l4.length ≤ 1000000):F_gSame [.agg [.int .i64 s,.sl (l.map i64L),.int .i64 s2,.sl (l2.map i64L)],.agg [.int .i64 s3,.sl (l3.map i64L),.int .i64 s4,.sl (l4.map i64L)]] = some (.same (.bool (sameF ((s,l),(s2,l2)) ((s3,l3),(s4,l4))))):=(FF_eq F_gSame_inj (s,l,s2,l2,s3,l3,s4,l4)).trans (onlyIf_pos hc _)
theorem w_gSame (T:Tab) (h_gSameBig:T id_ref05_SameBig = mkE F_gSameBig) (s:Int) (l:List Int) (s2:Int) (l2:List Int) (s3:Int) (l3:List Int) (s4:Int) (l4:List Int) (hc:l.length ≤ 1000000 ∧ l2.length ≤ 1000000 ∧ l3.length ≤ 1000000 ∧ l4.length ≤ 1000000) :
    wp T mf_ref05_Same.body (endS mf_ref05_Same.res (.same (.bool (sameF ((s,l),(s2,l2)) ((s3,l3),(s4,l4)))))) ⟨initTm [.dat (.agg [.int .i64 s,.sl (l.map i64L),.int .i64 s2,.sl (l2.map i64L)]),.dat (.agg [.int .i64 s3,.sl (l3.map i64L),.int .i64 s4,.sl (l4.map i64L)])],emp⟩:=by
  refine wp_start ?_
  simp only [mf_ref05_Same]
  obtain ⟨hl1,hl2,hl3,hl4⟩:=hc
  have e:sameF ((s,l),(s2,l2)) ((s3,l3),(s4,l4)) = (sameR (s,l) (s3,l3) && sameR (s2,l2) (s4,l4)):=by
    unfold sameF sameR
    rw [Bool.eq_iff_iff,Bool.and_eq_true,decide_eq_true_eq,decide_eq_true_eq,decide_eq_true_eq,Prod.mk.injEq]
  rw [e]
  rcases h1:sameR (s,l) (s3,l3)
  · simp only [go_sem,reduceIte,yA,yB,yC,yD,yE,yH,reduceCtorEq,yF,yG,yI,h_gSameBig,hl1,hl2,hl3,hl4,h1,Bool.false_and]
    repeat' (first | refine wpG_not ?_ ?_ | refine wpG_yes ?_ ?_ | refine wpB_not ?_ ?_ | refine wpB_yes ?_ ?_ | refine wpGD_not ?_ ?_ | refine wpGD_yes ?_ ?_) <;> intro h <;> simp only [h,go_sem,reduceIte,yA,yB,yC,yD,yE,yH,reduceCtorEq,yF,yG,yI,h_gSameBig,hl1,hl2,hl3,hl4,h1,Bool.false_and]
  · simp only [go_sem,reduceIte,yA,yB,yC,yD,yE,yH,reduceCtorEq,yF,yG,yI,h_gSameBig,hl1,hl2,hl3,hl4,h1,Bool.true_and]
    repeat' (first | refine wpG_not ?_ ?_ | refine wpG_yes ?_ ?_ | refine wpB_not ?_ ?_ | refine wpB_yes ?_ ?_ | refine wpGD_not ?_ ?_ | refine wpGD_yes ?_ ?_) <;> intro h <;> simp only [h,go_sem,reduceIte,yA,yB,yC,yD,yE,yH,reduceCtorEq,yF,yG,yI,h_gSameBig,hl1,hl2,hl3,hl4,h1,Bool.true_and]
def fewF (f:FRaw) (n:Int):Bool:=decide ((f.1.2.length:Int) ≤ n) && decide ((f.2.2.length:Int) ≤ n)
noncomputable def F_gFew:List Data → Option PRes:=FF (α:=Int × (List Int) × Int × (List Int) × Int) (fun (s,l,s2,l2,n) => ([.agg [.int .i64 s,.sl (l.map i64L),.int .i64 s2,.sl (l2.map i64L)],.int .i64 n]:List Data)) (fun (s,l,s2,l2,n) => some (.same (.bool (fewF ((s,l),(s2,l2)) n))))
theorem F_gFew_inj:∀ a b:Int × (List Int) × Int × (List Int) × Int,(fun (s,l,s2,l2,n) => ([.agg [.int .i64 s,.sl (l.map i64L),.int .i64 s2,.sl (l2.map i64L)],.int .i64 n]:List Data)) a = (fun (s,l,s2,l2,n) => ([.agg [.int .i64 s,.sl (l.map i64L),.int .i64 s2,.sl (l2.map i64L)],.int .i64 n]:List Data)) b → a = b:=by
    rintro ⟨s1,l1,s21,l21,n1⟩ ⟨s2,l2,s22,l22,n2⟩ h
    simp only [yM,Data.agg.injEq,Data.int.injEq,Data.sl.injEq] at h; exact Prod.ext h.1.1.2 (Prod.ext (map_inj i64L_inj _ _ h.1.2.1) (Prod.ext h.1.2.2.1.2 (Prod.ext (map_inj i64L_inj _ _ h.1.2.2.2.1) h.2.1.2)))
@[go_sem] theorem F_gFew_eq (s:Int) (l:List Int) (s2:Int) (l2:List Int) (n:Int):F_gFew [.agg [.int .i64 s,.sl (l.map i64L),.int .i64 s2,.sl (l2.map i64L)],.int .i64 n] = some (.same (.bool (fewF ((s,l),(s2,l2)) n))):=FF_eq F_gFew_inj (s,l,s2,l2,n)
theorem w_gFew (T:Tab)  (s:Int) (l:List Int) (s2:Int) (l2:List Int) (n:Int) :
    wp T mf_ref05_Few.body (endS mf_ref05_Few.res (.same (.bool (fewF ((s,l),(s2,l2)) n)))) ⟨initTm [.dat (.agg [.int .i64 s,.sl (l.map i64L),.int .i64 s2,.sl (l2.map i64L)]),.dat (.int .i64 n)],emp⟩:=by
  refine wp_start ?_
  simp only [mf_ref05_Few]
  unfold fewF
  rcases h1:decide ((l.length:Int) ≤ n)
  · simp only [go_sem,reduceIte,yA,yB,yC,yD,yE,yH,reduceCtorEq,yF,yG,yI,h1,yJ,Bool.false_and]
    repeat' (first | refine wpG_not ?_ ?_ | refine wpG_yes ?_ ?_ | refine wpB_not ?_ ?_ | refine wpB_yes ?_ ?_ | refine wpGD_not ?_ ?_ | refine wpGD_yes ?_ ?_) <;> intro h <;> simp only [h,go_sem,reduceIte,yA,yB,yC,yD,yE,yH,reduceCtorEq,yF,yG,yI,h1,yJ,Bool.false_and]
  · simp only [go_sem,reduceIte,yA,yB,yC,yD,yE,yH,reduceCtorEq,yF,yG,yI,h1,yJ,Bool.true_and]
    repeat' (first | refine wpG_not ?_ ?_ | refine wpG_yes ?_ ?_ | refine wpB_not ?_ ?_ | refine wpB_yes ?_ ?_ | refine wpGD_not ?_ ?_ | refine wpGD_yes ?_ ?_) <;> intro h <;> simp only [h,go_sem,reduceIte,yA,yB,yC,yD,yE,yH,reduceCtorEq,yF,yG,yI,h1,yJ,Bool.true_and]
end Go.Mini
namespace Go.Mini
open Go
set_option maxRecDepth 10000
set_option maxHeartbeats 4000000
def badP (b:Bool) (p q:Raw):FRaw × Int:=if b = true then (zeroF,6) else newR p q
def comb4 (X Y Q H:Raw × Int):FRaw × Int:=badP (!((X.2 == 0) && ((Y.2 == 0) && ((Q.2 == 0) && (H.2 == 0))))) H.1 Q.1
def comb2 (P Q:Raw × Int):FRaw × Int:=badP (!((P.2 == 0) && (Q.2 == 0))) P.1 Q.1
theorem mul_ref {a b:FRaw} (ha:rightF a = true) (hb:rightF b = true):mulF a b = comb2 (mulR a.1 b.1) (mulR a.2 b.2):=by
  unfold mulF quotR comb2 badP
  rw [if_pos ha,if_pos hb]
  cases h1:((mulR a.1 b.1).2 == 0) <;> cases h2:((mulR a.2 b.2).2 == 0) <;> rfl
theorem div_ref {a b:FRaw} (ha:rightF a = true) (hb:rightF b = true):divF a b = if (b.1.1 == 0) = true then (zeroF,15) else comb2 (mulR a.1 b.2) (mulR a.2 b.1):=by
  unfold divF quotR comb2 badP
  rw [if_pos ha,if_pos hb]
  cases h1:((mulR a.1 b.2).2 == 0) <;> cases h2:((mulR a.2 b.1).2 == 0) <;> rfl
theorem add_ref {a b:FRaw} (ha:rightF a = true) (hb:rightF b = true):addF a b = comb4 (mulR a.1 b.2) (mulR b.1 a.2) (mulR a.2 b.2) (addR (mulR a.1 b.2).1 (mulR b.1 a.2).1):=by
  unfold addF quotR sumR comb4 badP
  rw [if_pos ha,if_pos hb]
  rcases h1:((mulR a.1 b.2).2 == 0) <;> rcases h2:((mulR b.1 a.2).2 == 0) <;> rcases h3:((mulR a.2 b.2).2 == 0) <;> rcases h4:((addR (mulR a.1 b.2).1 (mulR b.1 a.2).1).2 == 0) <;> simp_all
theorem keepB_0 {z:Int}:((keepB z).2 == 0) = okZ z:=by
  rcases h:okZ z
  · rw [keepB_no h]; rfl
  · rw [keepB_yes h]; rfl
theorem mulR_negl {a b:Int} (ha:a.natAbs < LIM) (hb:b.natAbs < LIM):(mulR (negR (encB a)) (encB b)) = keepB (-(a * b)):=by
  rw [negR_enc ha,mulR_enc (by rw [Int.natAbs_neg]; exact ha) hb,Int.neg_mul]
theorem okZ_neg (z:Int):okZ (-z) = okZ z:=by unfold okZ; rw [Int.natAbs_neg]
theorem sub_ref {a b:FRaw} (ha:rightF a = true) (hb:rightF b = true):subF a b = comb4 (mulR a.1 b.2) (mulR b.1 a.2) (mulR a.2 b.2) (subR (mulR a.1 b.2).1 (mulR b.1 a.2).1):=by
  obtain ⟨x,hx,rfl⟩:=(rightF_iff _).1 ha
  obtain ⟨y,hy,rfl⟩:=(rightF_iff _).1 hb
  have hnr:rightF (negR (encR y).1,(encR y).2) = true:=by
    have:(negR (encR y).1,(encR y).2) = encR (-y):=by
      unfold encR
      dsimp only
      rw [negR_enc hy.1]
      rfl
    rw [this]; exact rightF_enc (limR_neg hy)
  unfold subF
  rw [if_pos ha,if_pos hb,add_ref ha hnr]
  unfold comb4 badP
  show (if (!(((mulR (encB x.num) (encB y.den)).2 == 0) && (((mulR (negR (encB y.num)) (encB x.den)).2 == 0) && (((mulR (encB x.den) (encB y.den)).2 == 0) && ((addR (mulR (encB x.num) (encB y.den)).1 (mulR (negR (encB y.num)) (encB x.den)).1).2 == 0))))) = true then (zeroF,6) else newR (addR (mulR (encB x.num) (encB y.den)).1 (mulR (negR (encB y.num)) (encB x.den)).1).1 (mulR (encB x.den) (encB y.den)).1) = (if (!(((mulR (encB x.num) (encB y.den)).2 == 0) && (((mulR (encB y.num) (encB x.den)).2 == 0) && (((mulR (encB x.den) (encB y.den)).2 == 0) && ((subR (mulR (encB x.num) (encB y.den)).1 (mulR (encB y.num) (encB x.den)).1).2 == 0))))) = true then (zeroF,6) else newR (subR (mulR (encB x.num) (encB y.den)).1 (mulR (encB y.num) (encB x.den)).1).1 (mulR (encB x.den) (encB y.den)).1)
  rw [mulR_enc hx.1 (limD hy),mulR_negl hy.1 (limD hx),mulR_enc hy.1 (limD hx),mulR_enc (limD hx) (limD hy),keepB_0,keepB_0,keepB_0,keepB_0,okZ_neg]
  rcases h1:okZ (x.num * y.den)
  · rfl
  · rcases h2:okZ (y.num * x.den)
    · rfl
    · rw [keepB_yes h1,keepB_yes h2,keepB_yes (by rw [okZ_neg]; exact h2)]
      dsimp only
      rw [addR_enc (okZ_lt h1) (by rw [Int.natAbs_neg]; exact okZ_lt h2),subR_enc (okZ_lt h1) (okZ_lt h2)]
      rfl
theorem subR_len (a b:Raw):(subR a b).1.2.length ≤ 1000000:=by
  unfold subR
  split
  · exact addR_len _ _
  · simp
end Go.Mini
namespace Go.Mini
open Go
def mf_ref06_Few:MFunc :=
 { n:=42,np:=3,res:=[.t 6],body :=
 (.seq (.ops [
 ⟨(some 6),none,.mv (.c (.dat (.bool false)))⟩])
 (.seq (.seq (.ops [
 ⟨(some 7),none,.mv (.c (.dat (.int .i64 0)))⟩])
 (.block 0
 (.loop
 (.seq (.seq (.ops [
 ⟨(some 8),none,.mv (.t 7)⟩,⟨(some 9),none,.mv (.t 0)⟩,⟨(some 10),none,.len (.t 9)⟩,⟨(some 11),none,.bin .lss (.t 8) (.t 10)⟩,⟨(some 12),none,.mv (.t 11)⟩,⟨(some 13),(some (12,true)),.mv (.t 7)⟩,⟨(some 14),(some (12,true)),.mv (.t 1)⟩,⟨(some 15),(some (12,true)),.bin .leq (.t 13) (.t 14)⟩,⟨(some 16),none,.pick (.t 12) (.t 15) (.c (.dat (.bool false)))⟩])
 (.cond (.t 16)
 .skip
 (.exit 0)))
 (.seq (.block 1
 (.seq (.ops [
 ⟨(some 19),none,.mv (.t 0)⟩,⟨(some 20),none,.mv (.t 7)⟩,⟨(some 21),none,.iad 5 (.t 19) (.t 20)⟩,⟨(some 22),none,.fad 0 (.t 21)⟩,⟨(some 23),none,.load 1 false (.t 22)⟩,⟨(some 24),none,.mv (.t 1)⟩,⟨(some 25),none,.mv (.t 2)⟩,⟨(some 26),none,.call id_ref06_FewFracs [(.t 23),(.t 24),(.t 25)]⟩,⟨(some 27),none,.un .not (.t 26)⟩,⟨(some 28),none,.mv (.t 27)⟩,⟨(some 29),(some (28,false)),.mv (.t 0)⟩,⟨(some 30),(some (28,false)),.mv (.t 7)⟩,⟨(some 31),(some (28,false)),.iad 5 (.t 29) (.t 30)⟩,⟨(some 32),(some (28,false)),.fad 1 (.t 31)⟩,⟨(some 33),(some (28,false)),.load 4 true (.t 32)⟩,⟨(some 34),(some (28,false)),.mv (.t 2)⟩,⟨(some 35),(some (28,false)),.call id_ref05_Few [(.t 33),(.t 34)]⟩,⟨(some 36),(some (28,false)),.un .not (.t 35)⟩,⟨(some 37),none,.pick (.t 28) (.c (.dat (.bool true))) (.t 36)⟩])
 (.cond (.t 37)
 (.seq (.ops [
 ⟨(some 6),none,.mv (.c (.dat (.bool false)))⟩])
 .ret)
 .skip)))
 (.ops [
 ⟨(some 17),none,.mv (.t 7)⟩,⟨(some 18),none,.bin .add (.t 17) (.c (.dat (.int .i64 1)))⟩,⟨(some 7),none,.mv (.t 18)⟩]))))))
 (.seq (.ops [
 ⟨(some 38),none,.mv (.t 0)⟩,⟨(some 39),none,.len (.t 38)⟩,⟨(some 40),none,.mv (.t 1)⟩,⟨(some 41),none,.bin .leq (.t 39) (.t 40)⟩,⟨(some 6),none,.mv (.t 41)⟩])
 .ret))) }
def mf_ref06_FewFracs:MFunc :=
 { n:=30,np:=3,res:=[.t 6],body :=
 (.seq (.ops [
 ⟨(some 6),none,.mv (.c (.dat (.bool false)))⟩])
 (.seq (.seq (.ops [
 ⟨(some 7),none,.mv (.c (.dat (.int .i64 0)))⟩])
 (.block 0
 (.loop
 (.seq (.seq (.ops [
 ⟨(some 8),none,.mv (.t 7)⟩,⟨(some 9),none,.mv (.t 0)⟩,⟨(some 10),none,.len (.t 9)⟩,⟨(some 11),none,.bin .lss (.t 8) (.t 10)⟩,⟨(some 12),none,.mv (.t 11)⟩,⟨(some 13),(some (12,true)),.mv (.t 7)⟩,⟨(some 14),(some (12,true)),.mv (.t 1)⟩,⟨(some 15),(some (12,true)),.bin .leq (.t 13) (.t 14)⟩,⟨(some 16),none,.pick (.t 12) (.t 15) (.c (.dat (.bool false)))⟩])
 (.cond (.t 16)
 .skip
 (.exit 0)))
 (.seq (.block 1
 (.seq (.ops [
 ⟨(some 19),none,.mv (.t 0)⟩,⟨(some 20),none,.mv (.t 7)⟩,⟨(some 21),none,.iad 4 (.t 19) (.t 20)⟩,⟨(some 22),none,.load 4 true (.t 21)⟩,⟨(some 23),none,.mv (.t 2)⟩,⟨(some 24),none,.call id_ref05_Few [(.t 22),(.t 23)]⟩,⟨(some 25),none,.un .not (.t 24)⟩])
 (.cond (.t 25)
 (.seq (.ops [
 ⟨(some 6),none,.mv (.c (.dat (.bool false)))⟩])
 .ret)
 .skip)))
 (.ops [
 ⟨(some 17),none,.mv (.t 7)⟩,⟨(some 18),none,.bin .add (.t 17) (.c (.dat (.int .i64 1)))⟩,⟨(some 7),none,.mv (.t 18)⟩]))))))
 (.seq (.ops [
 ⟨(some 26),none,.mv (.t 0)⟩,⟨(some 27),none,.len (.t 26)⟩,⟨(some 28),none,.mv (.t 1)⟩,⟨(some 29),none,.bin .leq (.t 27) (.t 28)⟩,⟨(some 6),none,.mv (.t 29)⟩])
 .ret))) }
def mf_ref06_Same:MFunc :=
 { n:=27,np:=2,res:=[.t 4],body :=
 (.seq (.ops [
 ⟨(some 4),none,.mv (.c (.dat (.bool false)))⟩])
 (.seq (.seq (.ops [
 ⟨(some 6),none,.mv (.t 0)⟩,⟨(some 7),none,.len (.t 6)⟩,⟨(some 8),none,.mv (.t 1)⟩,⟨(some 9),none,.len (.t 8)⟩,⟨(some 10),none,.bin .neq (.t 7) (.t 9)⟩])
 (.cond (.t 10)
 (.seq (.ops [
 ⟨(some 4),none,.mv (.c (.dat (.bool false)))⟩])
 .ret)
 .skip))
 (.seq (.seq (.ops [
 ⟨(some 5),none,.mv (.c (.dat (.int .i64 0)))⟩])
 (.block 0
 (.loop
 (.seq (.seq (.ops [
 ⟨(some 11),none,.mv (.t 5)⟩,⟨(some 12),none,.mv (.t 0)⟩,⟨(some 13),none,.len (.t 12)⟩,⟨(some 14),none,.bin .lss (.t 11) (.t 13)⟩])
 (.cond (.t 14)
 .skip
 (.exit 0)))
 (.seq (.block 1
 (.seq (.opsD [
 ⟨(some 17),none,.mv (.t 0)⟩,⟨(some 18),none,.mv (.t 5)⟩,⟨(some 19),none,.iad 4 (.t 17) (.t 18)⟩,⟨(some 20),none,.load 4 true (.t 19)⟩,⟨(some 21),none,.mv (.t 1)⟩,⟨(some 22),none,.mv (.t 5)⟩,⟨(some 23),none,.iad 4 (.t 21) (.t 22)⟩,⟨(some 24),none,.load 4 true (.t 23)⟩,⟨(some 25),none,.call id_ref05_Same [(.t 20),(.t 24)]⟩,⟨(some 26),none,.un .not (.t 25)⟩] [[],[],[],[],[],[],[],[],[],[]])
 (.cond (.t 26)
 (.seq (.ops [
 ⟨(some 4),none,.mv (.c (.dat (.bool false)))⟩])
 .ret)
 .skip)))
 (.ops [
 ⟨(some 15),none,.mv (.t 5)⟩,⟨(some 16),none,.bin .add (.t 15) (.c (.dat (.int .i64 1)))⟩,⟨(some 5),none,.mv (.t 16)⟩]))))))
 (.seq (.ops [
 ⟨(some 4),none,.mv (.c (.dat (.bool true)))⟩])
 .ret)))) }
end Go.Mini
namespace Go.Mini
open Go
set_option maxRecDepth 10000
set_option maxHeartbeats 4000000
def fewFs (l:List FRaw) (n d:Int):Bool:=decide ((l.length:Int) ≤ n) && l.all fun f => fewF f d
theorem all_take {α:Type} {p:α → Bool} {l:List α} {i:Nat} {x:α} (hx:l[i]? = some x):(l.take (i + 1)).all p = ((l.take i).all p && p x):=by
  rw [List.take_add_one,hx,List.all_append]
  simp
theorem all_bad {α:Type} {p:α → Bool} {l:List α} {i:Nat} {x:α} (hx:l[i]? = some x) (h:p x = false):l.all p = false:=by
  rw [List.all_eq_false]
  exact ⟨x,List.mem_of_getElem? hx,by simp [h]⟩
noncomputable def F_hFewFracs:List Data → Option PRes:=FF (α:=(List FRaw) × Int × Int) (fun (l,n,d) => ([.sl (l.map fracL),.int .i64 n,.int .i64 d]:List Data)) (fun (l,n,d) => onlyIf (n ≤ 1000000) (.same (.bool (fewFs l n d))))
theorem F_hFewFracs_inj:∀ a b:(List FRaw) × Int × Int,(fun (l,n,d) => ([.sl (l.map fracL),.int .i64 n,.int .i64 d]:List Data)) a = (fun (l,n,d) => ([.sl (l.map fracL),.int .i64 n,.int .i64 d]:List Data)) b → a = b:=by
    rintro ⟨l1,n1,d1⟩ ⟨l2,n2,d2⟩ h
    simp only [yM,Data.int.injEq,Data.sl.injEq] at h; exact Prod.ext (map_inj fracL_inj _ _ h.1) (Prod.ext h.2.1.2 h.2.2.1.2)
@[go_sem] theorem F_hFewFracs_eq (l:List FRaw) (n:Int) (d:Int) (hc:n ≤ 1000000):F_hFewFracs [.sl (l.map fracL),.int .i64 n,.int .i64 d] = some (.same (.bool (fewFs l n d))):=(FF_eq F_hFewFracs_inj (l,n,d)).trans (onlyIf_pos hc _)
theorem w_hFewFracs (T:Tab) (h_gFew:T id_ref05_Few = mkE F_gFew) (l:List FRaw) (n:Int) (d:Int) (hc:n ≤ 1000000) :
    wp T mf_ref06_FewFracs.body (endS mf_ref06_FewFracs.res (.same (.bool (fewFs l n d)))) ⟨initTm [.dat (.sl (l.map fracL)),.dat (.int .i64 n),.dat (.int .i64 d)],emp⟩:=by
  refine wp_start ?_
  simp only [mf_ref06_FewFracs]
  simp only [go_sem,reduceIte,yA,yB,yC,yD,yE,yH,reduceCtorEq,yF,yG,yI,h_gFew,yJ]
  refine wp_loop_keep [0,1,2] [] (fun (i:Nat) tm mem => i ≤ l.length ∧ (l.take i).all (fun f => fewF f d) = true ∧ tm 7 = .dat (.int .i64 i)) (fun i => l.length - i) 0 (by refine ⟨by omega,by simp,rfl⟩) ?_
  intro vs ms hvs hms
  simp only [go_sem,reduceIte,yA,yB,yC,yD,yE,yH,reduceCtorEq,yF,yG,yI,h_gFew,yJ] at hvs hms
  subst hvs hms
  rintro i tm mem hk hm ⟨hi,hf,h7⟩
  simp only [go_sem,reduceIte,yA,yB,yC,yD,yE,yH,reduceCtorEq,yF,yG,yI,h_gFew,yM] at hk
  obtain ⟨h0,h1,h2⟩:=hk
  by_cases hgo:i < l.length ∧ (i:Int) ≤ n
  · obtain ⟨hlt,hin⟩:=hgo
    obtain ⟨⟨⟨a,b⟩,⟨c,e⟩⟩,hx⟩:∃ f,l[i]? = some f:=⟨_,yL hlt⟩
    have d1:decide ((i:Int) < (l.length:Int)) = true:=decide_eq_true (by omega)
    have d2:decide ((i:Int) ≤ n) = true:=decide_eq_true hin
    have w3:IntKind.i64.wrap ((i:Int) + 1) = ((i + 1:Nat):Int):=by rw [wrap64 _ (by omega) (by omega)]; omega
    rcases hfew:fewF ((a,b),(c,e)) d
    · have hr:fewFs l n d = false:=by unfold fewFs; rw [all_bad hx hfew,Bool.and_false]
      rw [hr]
      simp only [go_sem,reduceIte,yA,yB,yC,yD,yE,yH,reduceCtorEq,yF,yG,yI,h_gFew,h0,h1,h2,h7,hx,d1,d2,w3,hfew,fracL,yJ,yK]
      repeat' (first | refine wpG_not ?_ ?_ | refine wpG_yes ?_ ?_ | refine wpB_not ?_ ?_ | refine wpB_yes ?_ ?_ | refine wpGD_not ?_ ?_ | refine wpGD_yes ?_ ?_) <;> intro h <;> simp only [h,go_sem,reduceIte,yA,yB,yC,yD,yE,yH,reduceCtorEq,yF,yG,yI,h_gFew,h0,h1,h2,h7,hx,d1,d2,w3,hfew,fracL,yJ,yK]
    · simp only [go_sem,reduceIte,yA,yB,yC,yD,yE,yH,reduceCtorEq,yF,yG,yI,h_gFew,h0,h1,h2,h7,hx,d1,d2,w3,hfew,fracL,yJ,yK]
      repeat' (first | refine wpG_not ?_ ?_ | refine wpG_yes ?_ ?_ | refine wpB_not ?_ ?_ | refine wpB_yes ?_ ?_ | refine wpGD_not ?_ ?_ | refine wpGD_yes ?_ ?_) <;> intro h <;> simp only [h,go_sem,reduceIte,yA,yB,yC,yD,yE,yH,reduceCtorEq,yF,yG,yI,h_gFew,h0,h1,h2,h7,hx,d1,d2,w3,hfew,fracL,yJ,yK]
      exact ⟨i + 1,by omega,by omega,by rw [all_take hx,hf,hfew]; rfl,rfl⟩
  · have hr:fewFs l n d = decide ((l.length:Int) ≤ n):=by
      unfold fewFs
      by_cases hln:(l.length:Int) ≤ n
      · have:i = l.length:=by omega
        rw [this,List.take_length] at hf
        rw [hf,Bool.and_true]
      · rw [decide_eq_false hln,Bool.false_and]
    rw [hr]
    rcases d1:decide ((i:Int) < (l.length:Int))
    · simp only [go_sem,reduceIte,yA,yB,yC,yD,yE,yH,reduceCtorEq,yF,yG,yI,h_gFew,h0,h1,h2,h7,d1,yJ]
      repeat' (first | refine wpG_not ?_ ?_ | refine wpG_yes ?_ ?_ | refine wpB_not ?_ ?_ | refine wpB_yes ?_ ?_ | refine wpGD_not ?_ ?_ | refine wpGD_yes ?_ ?_) <;> intro h <;> simp only [h,go_sem,reduceIte,yA,yB,yC,yD,yE,yH,reduceCtorEq,yF,yG,yI,h_gFew,h0,h1,h2,h7,d1,yJ]
    · have d2:decide ((i:Int) ≤ n) = false:=decide_eq_false (by have:=of_decide_eq_true d1; omega)
      simp only [go_sem,reduceIte,yA,yB,yC,yD,yE,yH,reduceCtorEq,yF,yG,yI,h_gFew,h0,h1,h2,h7,d1,d2,yJ]
      repeat' (first | refine wpG_not ?_ ?_ | refine wpG_yes ?_ ?_ | refine wpB_not ?_ ?_ | refine wpB_yes ?_ ?_ | refine wpGD_not ?_ ?_ | refine wpGD_yes ?_ ?_) <;> intro h <;> simp only [h,go_sem,reduceIte,yA,yB,yC,yD,yE,yH,reduceCtorEq,yF,yG,yI,h_gFew,h0,h1,h2,h7,d1,d2,yJ]
def fewRow (r:RowD) (n d:Int):Bool:=fewFs r.1 n d && fewF r.2 d
def fewRows (l:List RowD) (n d:Int):Bool:=decide ((l.length:Int) ≤ n) && l.all fun r => fewRow r n d
noncomputable def F_hFew:List Data → Option PRes:=FF (α:=(List RowD) × Int × Int) (fun (l,n,d) => ([.sl (l.map rowL),.int .i64 n,.int .i64 d]:List Data)) (fun (l,n,d) => onlyIf (n ≤ 1000000) (.same (.bool (fewRows l n d))))
theorem F_hFew_inj:∀ a b:(List RowD) × Int × Int,(fun (l,n,d) => ([.sl (l.map rowL),.int .i64 n,.int .i64 d]:List Data)) a = (fun (l,n,d) => ([.sl (l.map rowL),.int .i64 n,.int .i64 d]:List Data)) b → a = b:=by
    rintro ⟨l1,n1,d1⟩ ⟨l2,n2,d2⟩ h
    simp only [yM,Data.int.injEq,Data.sl.injEq] at h; exact Prod.ext (map_inj rowL_inj _ _ h.1) (Prod.ext h.2.1.2 h.2.2.1.2)
@[go_sem] theorem F_hFew_eq (l:List RowD) (n:Int) (d:Int) (hc:n ≤ 1000000):F_hFew [.sl (l.map rowL),.int .i64 n,.int .i64 d] = some (.same (.bool (fewRows l n d))):=(FF_eq F_hFew_inj (l,n,d)).trans (onlyIf_pos hc _)
theorem w_hFew (T:Tab) (h_hFewFracs:T id_ref06_FewFracs = mkE F_hFewFracs) (h_gFew:T id_ref05_Few = mkE F_gFew) (l:List RowD) (n:Int) (d:Int) (hc:n ≤ 1000000) :
    wp T mf_ref06_Few.body (endS mf_ref06_Few.res (.same (.bool (fewRows l n d)))) ⟨initTm [.dat (.sl (l.map rowL)),.dat (.int .i64 n),.dat (.int .i64 d)],emp⟩:=by
  refine wp_start ?_
  simp only [mf_ref06_Few]
  simp only [go_sem,reduceIte,yA,yB,yC,yD,yE,yH,reduceCtorEq,yF,yG,yI,h_hFewFracs,h_gFew,yJ]
  refine wp_loop_keep [0,1,2] [] (fun (i:Nat) tm mem => i ≤ l.length ∧ (l.take i).all (fun r => fewRow r n d) = true ∧ tm 7 = .dat (.int .i64 i)) (fun i => l.length - i) 0 (by refine ⟨by omega,by simp,rfl⟩) ?_
  intro vs ms hvs hms
  simp only [go_sem,reduceIte,yA,yB,yC,yD,yE,yH,reduceCtorEq,yF,yG,yI,h_hFewFracs,h_gFew,yJ] at hvs hms
  subst hvs hms
  rintro i tm mem hk hm ⟨hi,hf,h7⟩
  simp only [go_sem,reduceIte,yA,yB,yC,yD,yE,yH,reduceCtorEq,yF,yG,yI,h_hFewFracs,h_gFew,yM] at hk
  obtain ⟨h0,h1,h2⟩:=hk
  by_cases hgo:i < l.length ∧ (i:Int) ≤ n
  · obtain ⟨hlt,hin⟩:=hgo
    obtain ⟨⟨A,⟨a,b⟩,⟨c,e⟩⟩,hx⟩:∃ f,l[i]? = some f:=⟨_,yL hlt⟩
    have d1:decide ((i:Int) < (l.length:Int)) = true:=decide_eq_true (by omega)
    have d2:decide ((i:Int) ≤ n) = true:=decide_eq_true hin
    have w3:IntKind.i64.wrap ((i:Int) + 1) = ((i + 1:Nat):Int):=by rw [wrap64 _ (by omega) (by omega)]; omega
    have hbad:fewRow (A,((a,b),(c,e))) n d = false → fewRows l n d = false:=fun h => by unfold fewRows; rw [all_bad hx h,Bool.and_false]
    have hok:fewRow (A,((a,b),(c,e))) n d = true → (l.take (i + 1)).all (fun r => fewRow r n d) = true:=fun h => by rw [all_take hx,hf,h]; rfl
    unfold fewRow at hbad hok
    dsimp only at hbad hok
    rcases hfs:fewFs A n d
    · rw [hbad (by rw [hfs]; rfl)]
      simp only [go_sem,reduceIte,yA,yB,yC,yD,yE,yH,reduceCtorEq,yF,yG,yI,h_hFewFracs,h_gFew,h0,h1,h2,h7,hx,hc,d1,d2,w3,hfs,rowL,fracL,yJ,yK]
      repeat' (first | refine wpG_not ?_ ?_ | refine wpG_yes ?_ ?_ | refine wpB_not ?_ ?_ | refine wpB_yes ?_ ?_ | refine wpGD_not ?_ ?_ | refine wpGD_yes ?_ ?_) <;> intro h <;> simp only [h,go_sem,reduceIte,yA,yB,yC,yD,yE,yH,reduceCtorEq,yF,yG,yI,h_hFewFracs,h_gFew,h0,h1,h2,h7,hx,hc,d1,d2,w3,hfs,rowL,fracL,yJ,yK]
    · rcases hfew:fewF ((a,b),(c,e)) d
      · rw [hbad (by rw [hfew,Bool.and_false])]
        simp only [go_sem,reduceIte,yA,yB,yC,yD,yE,yH,reduceCtorEq,yF,yG,yI,h_hFewFracs,h_gFew,h0,h1,h2,h7,hx,hc,d1,d2,w3,hfs,hfew,rowL,fracL,yJ,yK]
        repeat' (first | refine wpG_not ?_ ?_ | refine wpG_yes ?_ ?_ | refine wpB_not ?_ ?_ | refine wpB_yes ?_ ?_ | refine wpGD_not ?_ ?_ | refine wpGD_yes ?_ ?_) <;> intro h <;> simp only [h,go_sem,reduceIte,yA,yB,yC,yD,yE,yH,reduceCtorEq,yF,yG,yI,h_hFewFracs,h_gFew,h0,h1,h2,h7,hx,hc,d1,d2,w3,hfs,hfew,rowL,fracL,yJ,yK]
      · simp only [go_sem,reduceIte,yA,yB,yC,yD,yE,yH,reduceCtorEq,yF,yG,yI,h_hFewFracs,h_gFew,h0,h1,h2,h7,hx,hc,d1,d2,w3,hfs,hfew,rowL,fracL,yJ,yK]
        repeat' (first | refine wpG_not ?_ ?_ | refine wpG_yes ?_ ?_ | refine wpB_not ?_ ?_ | refine wpB_yes ?_ ?_ | refine wpGD_not ?_ ?_ | refine wpGD_yes ?_ ?_) <;> intro h <;> simp only [h,go_sem,reduceIte,yA,yB,yC,yD,yE,yH,reduceCtorEq,yF,yG,yI,h_hFewFracs,h_gFew,h0,h1,h2,h7,hx,hc,d1,d2,w3,hfs,hfew,rowL,fracL,yJ,yK]
        exact ⟨i + 1,by omega,by omega,hok (by rw [hfs,hfew]; rfl),rfl⟩
  · have hr:fewRows l n d = decide ((l.length:Int) ≤ n):=by
      unfold fewRows
      by_cases hln:(l.length:Int) ≤ n
      · have:i = l.length:=by omega
        rw [this,List.take_length] at hf
        rw [hf,Bool.and_true]
      · rw [decide_eq_false hln,Bool.false_and]
    rw [hr]
    rcases d1:decide ((i:Int) < (l.length:Int))
    · simp only [go_sem,reduceIte,yA,yB,yC,yD,yE,yH,reduceCtorEq,yF,yG,yI,h_hFewFracs,h_gFew,h0,h1,h2,h7,d1,yJ]
      repeat' (first | refine wpG_not ?_ ?_ | refine wpG_yes ?_ ?_ | refine wpB_not ?_ ?_ | refine wpB_yes ?_ ?_ | refine wpGD_not ?_ ?_ | refine wpGD_yes ?_ ?_) <;> intro h <;> simp only [h,go_sem,reduceIte,yA,yB,yC,yD,yE,yH,reduceCtorEq,yF,yG,yI,h_hFewFracs,h_gFew,h0,h1,h2,h7,d1,yJ]
    · have d2:decide ((i:Int) ≤ n) = false:=decide_eq_false (by have:=of_decide_eq_true d1; omega)
      simp only [go_sem,reduceIte,yA,yB,yC,yD,yE,yH,reduceCtorEq,yF,yG,yI,h_hFewFracs,h_gFew,h0,h1,h2,h7,d1,d2,yJ]
      repeat' (first | refine wpG_not ?_ ?_ | refine wpG_yes ?_ ?_ | refine wpB_not ?_ ?_ | refine wpB_yes ?_ ?_ | refine wpGD_not ?_ ?_ | refine wpGD_yes ?_ ?_) <;> intro h <;> simp only [h,go_sem,reduceIte,yA,yB,yC,yD,yE,yH,reduceCtorEq,yF,yG,yI,h_hFewFracs,h_gFew,h0,h1,h2,h7,d1,d2,yJ]
def sameFs (a b:List FRaw):Bool:=decide (a = b)
noncomputable def F_hSame:List Data → Option PRes:=FF (α:=(List FRaw) × (List FRaw)) (fun (l,l2) => ([.sl (l.map fracL),.sl (l2.map fracL)]:List Data)) (fun (l,l2) => onlyIf (okL l ∧ okL l2) (.same (.bool (sameFs l l2))))
theorem F_hSame_inj:∀ a b:(List FRaw) × (List FRaw),(fun (l,l2) => ([.sl (l.map fracL),.sl (l2.map fracL)]:List Data)) a = (fun (l,l2) => ([.sl (l.map fracL),.sl (l2.map fracL)]:List Data)) b → a = b:=by
    rintro ⟨l1,l21⟩ ⟨l2,l22⟩ h
    simp only [yM,Data.int.injEq,Data.sl.injEq] at h; exact Prod.ext (map_inj fracL_inj _ _ h.1) (map_inj fracL_inj _ _ h.2.1)
@[go_sem] theorem F_hSame_eq (l:List FRaw) (l2:List FRaw) (hc:okL l ∧ okL l2):F_hSame [.sl (l.map fracL),.sl (l2.map fracL)] = some (.same (.bool (sameFs l l2))):=(FF_eq F_hSame_inj (l,l2)).trans (onlyIf_pos hc _)
theorem w_hSame (T:Tab) (h_gSame:T id_ref05_Same = mkE F_gSame) (l:List FRaw) (l2:List FRaw) (hc:okL l ∧ okL l2) :
    wp T mf_ref06_Same.body (endS mf_ref06_Same.res (.same (.bool (sameFs l l2)))) ⟨initTm [.dat (.sl (l.map fracL)),.dat (.sl (l2.map fracL))],emp⟩:=by
  refine wp_start ?_
  simp only [mf_ref06_Same]
  obtain ⟨⟨hl1,ho1⟩,hl2,ho2⟩:=hc
  by_cases hl:l.length = l2.length
  · have e1:(((l.length:Nat):Int) == ((l2.length:Nat):Int)) = true:=by simp; omega
    simp only [go_sem,reduceIte,yA,yB,yC,yD,yE,yH,reduceCtorEq,yF,yG,yI,h_gSame,yJ,e1,Bool.not_true,bne]
    refine wp_loop_keep [0,1] [] (fun (i:Nat) tm mem => i ≤ l.length ∧ l.take i = l2.take i ∧ tm 5 = .dat (.int .i64 i)) (fun i => l.length - i) 0 (by refine ⟨by omega,by simp,rfl⟩) ?_
    intro vs ms hvs hms
    simp only [go_sem,reduceIte,yA,yB,yC,yD,yE,yH,reduceCtorEq,yF,yG,yI,h_gSame,yJ] at hvs hms
    subst hvs hms
    rintro i tm mem hk hm ⟨hi,hf,h5⟩
    simp only [go_sem,reduceIte,yA,yB,yC,yD,yE,yH,reduceCtorEq,yF,yG,yI,h_gSame,yM] at hk
    obtain ⟨h0,h1⟩:=hk
    rcases Decidable.em (i < l.length) with hlt | hge
    · obtain ⟨⟨⟨a,b⟩,⟨c,e⟩⟩,hx⟩:∃ f,l[i]? = some f:=⟨_,yL hlt⟩
      obtain ⟨⟨⟨a',b'⟩,⟨c',e'⟩⟩,hy⟩:∃ f,l2[i]? = some f:=⟨_,yL (by omega)⟩
      obtain ⟨o1,o2⟩:=ho1 _ (List.mem_of_getElem? hx)
      obtain ⟨o3,o4⟩:=ho2 _ (List.mem_of_getElem? hy)
      dsimp only at o1 o2 o3 o4
      have d1:decide ((i:Int) < (l.length:Int)) = true:=decide_eq_true (by omega)
      have w3:IntKind.i64.wrap ((i:Int) + 1) = ((i + 1:Nat):Int):=by rw [wrap64 _ (by omega) (by omega)]; omega
      rcases hs:sameF ((a,b),(c,e)) ((a',b'),(c',e'))
      · have hr:sameFs l l2 = false:=by
          refine decide_eq_false fun h => of_decide_eq_false hs ?_
          rw [h,hy] at hx
          exact (Option.some.inj hx).symm
        rw [hr]
        simp only [go_sem,reduceIte,yA,yB,yC,yD,yE,yH,reduceCtorEq,yF,yG,yI,h_gSame,h0,h1,h5,hx,hy,d1,w3,o1,o2,o3,o4,hs,fracL,yJ,yK]
        repeat' (first | refine wpG_not ?_ ?_ | refine wpG_yes ?_ ?_ | refine wpB_not ?_ ?_ | refine wpB_yes ?_ ?_ | refine wpGD_not ?_ ?_ | refine wpGD_yes ?_ ?_) <;> intro h <;> simp only [h,go_sem,reduceIte,yA,yB,yC,yD,yE,yH,reduceCtorEq,yF,yG,yI,h_gSame,h0,h1,h5,hx,hy,d1,w3,o1,o2,o3,o4,hs,fracL,yJ,yK]
      · simp only [go_sem,reduceIte,yA,yB,yC,yD,yE,yH,reduceCtorEq,yF,yG,yI,h_gSame,h0,h1,h5,hx,hy,d1,w3,o1,o2,o3,o4,hs,fracL,yJ,yK]
        repeat' (first | refine wpG_not ?_ ?_ | refine wpG_yes ?_ ?_ | refine wpB_not ?_ ?_ | refine wpB_yes ?_ ?_ | refine wpGD_not ?_ ?_ | refine wpGD_yes ?_ ?_) <;> intro h <;> simp only [h,go_sem,reduceIte,yA,yB,yC,yD,yE,yH,reduceCtorEq,yF,yG,yI,h_gSame,h0,h1,h5,hx,hy,d1,w3,o1,o2,o3,o4,hs,fracL,yJ,yK]
        exact ⟨i + 1,by omega,by omega,by rw [List.take_add_one,List.take_add_one,hx,hy,hf,of_decide_eq_true hs],rfl⟩
    · have d1:decide ((i:Int) < (l.length:Int)) = false:=decide_eq_false (by omega)
      have hr:sameFs l l2 = true:=by
        refine decide_eq_true ?_
        rw [List.take_of_length_le (by omega),List.take_of_length_le (by omega)] at hf
        exact hf
      rw [hr]
      simp only [go_sem,reduceIte,yA,yB,yC,yD,yE,yH,reduceCtorEq,yF,yG,yI,h_gSame,h0,h1,h5,d1,yJ]
      repeat' (first | refine wpG_not ?_ ?_ | refine wpG_yes ?_ ?_ | refine wpB_not ?_ ?_ | refine wpB_yes ?_ ?_ | refine wpGD_not ?_ ?_ | refine wpGD_yes ?_ ?_) <;> intro h <;> simp only [h,go_sem,reduceIte,yA,yB,yC,yD,yE,yH,reduceCtorEq,yF,yG,yI,h_gSame,h0,h1,h5,d1,yJ]
  · have e1:(((l.length:Nat):Int) == ((l2.length:Nat):Int)) = false:=by simp; omega
    have hr:sameFs l l2 = false:=decide_eq_false fun h => hl (by rw [h])
    rw [hr]
    simp only [go_sem,reduceIte,yA,yB,yC,yD,yE,yH,reduceCtorEq,yF,yG,yI,h_gSame,yJ,e1,Bool.not_false,bne]
    repeat' (first | refine wpG_not ?_ ?_ | refine wpG_yes ?_ ?_ | refine wpB_not ?_ ?_ | refine wpB_yes ?_ ?_ | refine wpGD_not ?_ ?_ | refine wpGD_yes ?_ ?_) <;> intro h <;> simp only [h,go_sem,reduceIte,yA,yB,yC,yD,yE,yH,reduceCtorEq,yF,yG,yI,h_gSame,yJ,e1,Bool.not_false,bne]
end Go.Mini
namespace Go.Mini
open Go
variable {P:Program} {A:Nat → Prop} {w w':World} {B B':Lay} {mem mem':Mem}
structure ESpec (P:Program) (f:FuncId) (E:List MV → Mem → Option Eff):Prop where
  real:Real P f
  run:∀ args mem eff,E args mem = some eff → ∀ A w B vs,MemRel A w B mem → RL w (OA A B) B args vs → EffOK P f vs A w B mem eff
/-- The end of a function that is spoken of by a relation. -/
def endQ (res:List MRes) (R:MV → Mem → Prop):MExit → St → Prop
  | .exit _,_ => False
  | .normal,st => ∃ m,resAll st res = some m ∧ R m st.mem
  | .ret,st => ∃ m,resAll st res = some m ∧ R m st.mem
@[go_sem] theorem endQ_exit {res:List MRes} {st:St} (R:MV → Mem → Prop) (id:Nat):endQ res R (.exit id) st = False:=_root_.id rfl
@[go_sem] theorem endQ_normal {res:List MRes} {st:St} (R:MV → Mem → Prop):endQ res R .normal st = ∃ m,resAll st res = some m ∧ R m st.mem:=_root_.id rfl
@[go_sem] theorem endQ_ret {res:List MRes} {st:St} (R:MV → Mem → Prop):endQ res R .ret st = ∃ m,resAll st res = some m ∧ R m st.mem:=_root_.id rfl
theorem endQ_done {mf:MFunc} {R:MV → Mem → Prop} {e:MExit} {st:St} (h:endQ mf.res R e st):doneM mf R e st:=by
  cases e with
  | exit id => exact h
  | normal => exact h
  | ret => exact h
theorem real_of {kb : Nat} {own : List Nat} {f : FuncId} {fn : Func} {mf : MFunc} (hf : P.funcs[f]? = some fn) (hname : (fn.name == "runtime.NumGoroutine") = false) (htr : trFunc P kb own fn = some mf) : Real P f := by
  cases hb:fn.body with
  | none => simp [trFunc,hb] at htr
  | some c => exact ⟨fn,c,hf,hb,hname⟩
/-- Functions of which a relation is known. -/
def mkQ (Q:List MV → Mem → Option (MV → Mem → Prop)) (args:List MV) (mem:Mem):Option Eff:=(Q args mem).map .rel
@[go_sem] theorem mkQ_at (Q:List MV → Mem → Option (MV → Mem → Prop)) (args:List MV) (mem:Mem):mkQ Q args mem = (Q args mem).map .rel:=_root_.id rfl
theorem espec_rel {T : Tab} {kb : Nat} {own : List Nat} (hT : TabOK P T) (hm : P.follows .mixedOrders = true) {f : FuncId} {fn : Func} {mf : MFunc} (hf : P.funcs[f]? = some fn) (hname : (fn.name == "runtime.NumGoroutine") = false) (htr : trFunc P kb own fn = some { mf with body := erase mf.body })
    {Q:List MV → Mem → Option (MV → Mem → Prop)} (h:∀ args mem R,Q args mem = some R → args.length ≤ mf.n ∧ wp T mf.body (endQ mf.res R) ⟨initTm args,mem⟩):ESpec P f (mkQ Q):=by
  refine ⟨real_of hf hname htr,fun args mem eff hE A w B vs hmr hv => ?_⟩
  unfold mkQ at hE
  rw [Option.map_eq_some_iff] at hE
  obtain ⟨R,hR,rfl⟩:=hE
  obtain ⟨hlen,hwp⟩:=h args mem R hR
  refine Calls.mono (func_sound (Post:=R) hT hm hf htr hlen (fun e st hk => endQ_done hk) hwp hmr hv) fun e w' he => ?_
  obtain ⟨v,m,mem',B',rfl,hs,hv',hp⟩:=he
  exact ⟨v,m,mem',B',rfl,hs,hv',hp⟩
/-! ### Keys forgotten -/
/-- Nothing in it refers to a key of J. -/
inductive CleanV (J:Key → Prop):MV → Prop
  | dat {d:Data}:CleanV J (.dat d)
  | nil:CleanV J .nil
  | ref {k g sz off len:Nat} (h:¬ J k):CleanV J (.ref k g sz off len)
  | ptr {k g off:Nat} (h:¬ J k):CleanV J (.ptr k g off)
  | clo {f:FuncId} {caps:List MV} (h:∀ (i:Nat) (m:MV),caps[i]? = some m → CleanV J m):CleanV J (.clo f caps)
  | agg {cs:List MV} (h:∀ (i:Nat) (m:MV),cs[i]? = some m → CleanV J m):CleanV J (.agg cs)
  | tup {cs:List MV} (h:∀ (i:Nat) (m:MV),cs[i]? = some m → CleanV J m):CleanV J (.tup cs)
  | no:CleanV J .no
  | undef:CleanV J .undef
theorem clean_of {J:Key → Prop} {O:Nat → Prop} (hJ:∀ k,J k → B k = none) {m:MV} {v:Value} (h:VR w O B m v):CleanV J m:=by
  induction h with
  | dat h => exact .dat
  | nil => exact .nil
  | ref he hg hv => exact .ref fun hj => by rw [hJ _ hj] at he; cases he
  | ptr he hg hv => exact .ptr fun hj => by rw [hJ _ hj] at he; cases he
  | clo hl hd ih => exact .clo fun i m hi => ih i m _ hi (yL (by have hlt:=(List.getElem?_eq_some_iff.1 hi).1; omega))
  | agg hl hd ih => exact .agg fun i m hi => ih i m _ hi (yL (by have hlt:=(List.getElem?_eq_some_iff.1 hi).1; omega))
  | tup hl hd ih => exact .tup fun i m hi => ih i m _ hi (yL (by have hlt:=(List.getElem?_eq_some_iff.1 hi).1; omega))
  | no => exact .no
  | undef => exact .undef
open Classical in
noncomputable def dropB (J:Key → Prop) (B:Lay):Lay:=fun k => if J k then none else B k
theorem dropB_own {J:Key → Prop} {b:Nat} (h:Own (dropB J B) b):Own B b:=by
  obtain ⟨k,e,he,hb⟩:=h
  unfold dropB at he
  split at he
  · cases he
  · exact ⟨k,e,he,hb⟩
theorem drop_vr {J:Key → Prop} {m:MV} {v:Value} (h:VR w (OA A B) B m v) (hc:CleanV J m):VR w (OA A (dropB J B)) (dropB J B) m v:=by
  have at_:∀ {k:Key} {e:Bk},¬ J k → B k = some e → dropB J B k = some e:=fun hk he => by unfold dropB; rw [if_neg hk]; exact he
  induction h with
  | dat h => exact .dat (h.less fun b hb => hb.imp dropB_own id)
  | nil => exact .nil
  | ref he hg hv => cases hc with | ref hk => exact .ref (at_ hk he) hg hv
  | ptr he hg hv => cases hc with | ptr hk => exact .ptr (at_ hk he) hg hv
  | clo hl hd ih => cases hc with | clo hc => exact .clo hl fun i d v hi hv => ih i d v hi hv (hc i d hi)
  | agg hl hd ih => cases hc with | agg hc => exact .agg hl fun i d v hi hv => ih i d v hi hv (hc i d hi)
  | tup hl hd ih => cases hc with | tup hc => exact .tup hl fun i d v hi hv => ih i d v hi hv (hc i d hi)
  | no => exact .no
  | undef => exact .undef
/-- A callee's own blocks are forgotten. -/
theorem StepOK.drop {J:Key → Prop} {mem'':Mem} (h0:MemRel A w B mem) (hJ:∀ k,J k → mem k = none) (h:StepOK A w B w' B' mem') (h1:∀ k,J k → mem'' k = none) (h2:∀ k,¬ J k → mem'' k = mem' k)
    (hc:∀ k g cs,mem'' k = some (g,cs) → ∀ m ∈ cs,(∃ d,m = .dat d) ∨ ∃ k0 g0 cs0,mem k0 = some (g0,cs0) ∧ m ∈ cs0):StepOK A w B w' (dropB J B') mem'':=by
  have hB:∀ k,J k → B k = none:=fun k hk => h0.dom k (hJ k hk)
  have at_:∀ {k:Key},¬ J k → dropB J B' k = B' k:=fun hk => by unfold dropB; rw [if_neg hk]
  have no_:∀ {k:Key},J k → dropB J B' k = none:=fun hk => by unfold dropB; rw [if_pos hk]
  refine ⟨⟨fun k hk => ?_,fun k k' e e' b he he' hb hb' => ?_,fun b ha ho => h.mr.sep b ha (dropB_own ho),h.mr.lt,fun k g cs hk => ?_⟩,⟨h.tr.size,fun b hb ho => ?_,fun k e he => ?_⟩,h.fr,fun b hb => h.fresh b (dropB_own hb)⟩
  · by_cases hj:J k
    · exact no_ hj
    · rw [at_ hj]; exact h.mr.dom k (by rw [← h2 k hj]; exact hk)
  · by_cases hj:J k
    · rw [no_ hj] at he; cases he
    · by_cases hj':J k'
      · rw [no_ hj'] at he'; cases he'
      · rw [at_ hj] at he
        rw [at_ hj'] at he'
        exact h.mr.inj k k' e e' b he he' hb hb'
  · by_cases hj:J k
    · rw [h1 k hj] at hk; cases hk
    · obtain ⟨e,he,hg,hn,hb⟩:=h.mr.blk k g cs (by rw [← h2 k hj]; exact hk)
      refine ⟨e,by rw [at_ hj]; exact he,hg,hn,fun b hbb => ?_⟩
      obtain ⟨vs,T,hh,hz,hle,hr⟩:=hb b hbb
      refine ⟨vs,T,hh,hz,hle,fun i m hi => ?_⟩
      obtain ⟨v,hv,hvr⟩:=hr i m hi
      refine ⟨v,hv,drop_vr hvr ?_⟩
      rcases hc k g cs hk m (List.mem_of_getElem? hi) with ⟨d,rfl⟩ | ⟨k0,g0,cs0,hm0,hmem⟩
      · exact .dat
      · obtain ⟨e0,he0,hg0,hn0,hb0⟩:=h0.blk k0 g0 cs0 hm0
        cases hbk:e0.blk with
        | none => rw [hn0 hbk] at hmem; cases hmem
        | some b0 =>
          obtain ⟨vs0,T0,_,_,_,hr0⟩:=hb0 b0 hbk
          obtain ⟨i0,hi0⟩:=List.mem_iff_getElem?.1 hmem
          obtain ⟨v0,_,hvr0⟩:=hr0 i0 m hi0
          exact clean_of hB hvr0
  · obtain ⟨h3,h4⟩:=h.tr.old b hb ho
    exact ⟨h3,fun hx => h4 (dropB_own hx)⟩
  · have hj:¬ J k:=fun hj => by rw [hB k hj] at he; cases he
    rw [at_ hj]
    exact h.tr.key k e he
/-- Functions that change one cell: result, key, generation, cell, what it becomes. -/
def mkU (U:List MV → Mem → Option (Data × Key × Nat × Nat × Data)) (args:List MV) (mem:Mem):Option Eff:=(U args mem).map fun x => .upd x.1 x.2.1 x.2.2.1 x.2.2.2.1 (.dat x.2.2.2.2)
@[go_sem] theorem mkU_at (U:List MV → Mem → Option (Data × Key × Nat × Nat × Data)) (args:List MV) (mem:Mem):mkU U args mem = (U args mem).map fun x => .upd x.1 x.2.1 x.2.2.1 x.2.2.2.1 (.dat x.2.2.2.2):=_root_.id rfl
theorem espec_upd {T : Tab} {kb : Nat} {own : List Nat} (hT : TabOK P T) (hm : P.follows .mixedOrders = true) {f : FuncId} {fn : Func} {mf : MFunc} (hf : P.funcs[f]? = some fn) (hname : (fn.name == "runtime.NumGoroutine") = false) (htr : trFunc P kb own fn = some { mf with body := erase mf.body })
    (J:Key → Prop) {U:List MV → Mem → Option (Data × Key × Nat × Nat × Data)}
    (h:∀ args mem r k g i d,U args mem = some (r,k,g,i,d) → args.length ≤ mf.n ∧ (∀ j,J j → mem j = none) ∧ ¬ J k ∧ (∃ cs,mem k = some (g,cs)) ∧
      wp T mf.body (endQ mf.res fun m mem' => toD 6 emp m = some r ∧ ∀ j,¬ J j → mem' j = updM mem k g ((cellsAt mem k).set i (.dat d)) j) ⟨initTm args,mem⟩):ESpec P f (mkU U):=by
  refine ⟨real_of hf hname htr,fun args mem eff hE A w B vs hmr hv => ?_⟩
  unfold mkU at hE
  rw [Option.map_eq_some_iff] at hE
  obtain ⟨⟨r,k,g,i,d⟩,hU,rfl⟩:=hE
  obtain ⟨hlen,hJ,hk,⟨cs,hcs⟩,hwp⟩:=h args mem r k g i d hU
  refine Calls.mono (func_sound (Post:=fun m mem' => toD 6 emp m = some r ∧ ∀ j,¬ J j → mem' j = updM mem k g ((cellsAt mem k).set i (.dat d)) j) hT hm hf htr hlen (fun e st hk => endQ_done hk) hwp hmr hv) fun e w' he => ?_
  obtain ⟨v,m,mem',B',rfl,hs,hv',hd,hmem⟩:=he
  refine ⟨v,dropB J B',rfl,hs.drop hmr hJ (fun j hj => ?_) (fun j hj => (hmem j hj).symm) ?_,.dat ((plain_den 6 m v r hd hv').less fun b hb => hb.imp dropB_own id)⟩
  · have:j ≠ k:=fun e => hk (e ▸ hj)
    simp only [updM,this,if_false]
    exact hJ j hj
  · intro k2 g2 cs2 h2 m hm2
    by_cases hk2:k2 = k
    · subst hk2
      simp only [updM,if_true,Option.some.injEq,Prod.mk.injEq] at h2
      obtain ⟨-,rfl⟩:=h2
      rcases List.mem_or_eq_of_mem_set hm2 with hx | rfl
      · refine .inr ⟨k2,g,cs,hcs,?_⟩
        simpa [cellsAt,hcs] using hx
      · exact .inl ⟨d,rfl⟩
    · simp only [updM,hk2,if_false] at h2
      exact .inr ⟨k2,g2,cs2,h2,hm2⟩
/-! ### The table -/
def orE:Option Eff → Option Eff → Option Eff
  | some x,_ => some x
  | none,e => e
@[go_sem] theorem orE_some (x:Eff) (e:Option Eff):orE (some x) e = some x:=_root_.id rfl
@[go_sem] theorem orE_none (e:Option Eff):orE none e = e:=_root_.id rfl
def mkTE (PT:FuncId → Option (List Data → Option PRes)) (ET:FuncId → Option (List MV → Mem → Option Eff)):Tab:=fun f args mem => match ET f with
  | some E => orE (E args mem) (mkT PT f args mem)
  | none => mkT PT f args mem
theorem mkTE_ok {PT:FuncId → Option (List Data → Option PRes)} {ET:FuncId → Option (List MV → Mem → Option Eff)} (h:∀ f F,PT f = some F → PSpec P f F) (hr:∀ f E,ET f = some E → ESpec P f E):TabOK P (mkTE PT ET):=by
  intro f args mem eff hT
  unfold mkTE at hT
  split at hT
  · rename_i E hE
    have hs:=hr f E hE
    cases hx:E args mem with
    | none =>
      rw [hx] at hT
      exact mkT_ok h f args mem eff hT
    | some y =>
      rw [hx] at hT
      cases hT
      exact ⟨hs.real,fun A w B vs hmr hv => hs.run args mem eff hx A w B vs hmr hv⟩
  · exact mkT_ok h f args mem eff hT
theorem RSpec.toE {f:FuncId} {G:List MV → Mem → Option (MV × Mem)} (h:RSpec P f G):ESpec P f (mkG G):=by
  refine ⟨h.real,fun args mem eff hE A w B vs hmr hv => ?_⟩
  unfold mkG at hE
  rw [Option.map_eq_some_iff] at hE
  obtain ⟨x,hx,rfl⟩:=hE
  exact h.run args mem x hx A w B vs hmr hv
section
variable {PT:FuncId → Option (List Data → Option PRes)} {ET:FuncId → Option (List MV → Mem → Option Eff)} {f:FuncId}
theorem mkTE_F {F:List Data → Option PRes} (h:ET f = none) (h':PT f = some F):mkTE PT ET f = mkE F:=by
  funext args mem
  unfold mkTE
  rw [h]
  exact congrFun (congrFun (mkT_at h') args) mem
theorem mkTE_E {E:List MV → Mem → Option Eff} (h:ET f = some E) (h':PT f = none):mkTE PT ET f = E:=by
  funext args mem
  unfold mkTE mkT
  rw [h,h']
  dsimp only
  cases E args mem <;> rfl
theorem mkTE_FG {F:List Data → Option PRes} {G:List MV → Mem → Option (MV × Mem)} (h:ET f = some (mkG G)) (h':PT f = some F):mkTE PT ET f = mkFG F G:=by
  funext args mem
  unfold mkTE
  rw [h]
  unfold mkFG mkG
  rw [show mkT PT f args mem = mkE F args mem from congrFun (congrFun (mkT_at h') args) mem]
  dsimp only
  cases G args mem <;> rfl
end
def ETl (l:List (FuncId × (List MV → Mem → Option Eff))):FuncId → Option (List MV → Mem → Option Eff):=fun f => (l.find? fun p => p.1 == f).map (·.2)
theorem ETl_ok {l:List (FuncId × (List MV → Mem → Option Eff))} (h:∀ p ∈ l,ESpec P p.1 p.2):∀ f G,ETl l f = some G → ESpec P f G:=by
  intro f F hf
  unfold ETl at hf
  rw [Option.map_eq_some_iff] at hf
  obtain ⟨p,hp,rfl⟩:=hf
  have h1:=List.mem_of_find?_eq_some hp
  have h2:=List.find?_some hp
  have h3:p.1 = f:=by simpa using h2
  exact h3 ▸ h p h1
theorem ETl_nil:∀ p ∈ ([]:List (FuncId × (List MV → Mem → Option Eff))),ESpec P p.1 p.2:=by simp
theorem ETl_cons {f:FuncId} {F:List MV → Mem → Option Eff} {l:List (FuncId × (List MV → Mem → Option Eff))} (h:ESpec P f F) (hl:∀ p ∈ l,ESpec P p.1 p.2):∀ p ∈ (f,F) :: l,ESpec P p.1 p.2:=by
  intro p hp
  rcases List.mem_cons.1 hp with rfl | hp
  · exact h
  · exact hl p hp
open Classical in
/-- A relation, by a reading of the arguments and the memory. -/
noncomputable def QQ {α:Type} (M:α → List MV → Mem → Prop) (R:α → Mem → MV → Mem → Prop):List MV → Mem → Option (MV → Mem → Prop):=fun args mem => if h:∃ a,M a args mem then some (R (Classical.choose h) mem) else none
theorem QQ_eq {α:Type} {M:α → List MV → Mem → Prop} {R:α → Mem → MV → Mem → Prop} (uniq:∀ a b args mem,M a args mem → M b args mem → a = b) {a:α} {args:List MV} {mem:Mem} (h:M a args mem):QQ M R args mem = some (R a mem):=by
  have hx:∃ b,M b args mem:=⟨a,h⟩
  unfold QQ
  rw [dif_pos hx,uniq _ _ _ _ (Classical.choose_spec hx) h]
theorem QQ_inv {α:Type} {M:α → List MV → Mem → Prop} {R:α → Mem → MV → Mem → Prop} {args:List MV} {mem:Mem} {x:MV → Mem → Prop} (h:QQ M R args mem = some x):∃ a,M a args mem ∧ x = R a mem:=by
  unfold QQ at h
  split at h
  · rename_i hx
    exact ⟨_,Classical.choose_spec hx,(Option.some.inj h).symm⟩
  · cases h
end Go.Mini
namespace Go.Mini
open Go
set_option maxRecDepth 10000
set_option maxHeartbeats 2000000
noncomputable def F_zero:List Data → Option PRes:=FF (α:=Int × (List Int) × Int × (List Int)) (fun (s,l,s2,l2) => ([.agg [.int .i64 s,.sl (l.map i64L),.int .i64 s2,.sl (l2.map i64L)]]:List Data)) (fun (s,l,s2,l2) => some (.same (.bool (s == 0))))
theorem F_zero_inj:∀ a b:Int × (List Int) × Int × (List Int),(fun (s,l,s2,l2) => ([.agg [.int .i64 s,.sl (l.map i64L),.int .i64 s2,.sl (l2.map i64L)]]:List Data)) a = (fun (s,l,s2,l2) => ([.agg [.int .i64 s,.sl (l.map i64L),.int .i64 s2,.sl (l2.map i64L)]]:List Data)) b → a = b:=by
    rintro ⟨s1,l1,s21,l21⟩ ⟨s2,l2,s22,l22⟩ h
    simp only [yM,Data.agg.injEq,Data.int.injEq,Data.sl.injEq] at h; exact Prod.ext h.1.1.2 (Prod.ext (map_inj i64L_inj _ _ h.1.2.1) (Prod.ext h.1.2.2.1.2 (map_inj i64L_inj _ _ h.1.2.2.2.1)))
@[go_sem] theorem F_zero_eq (s:Int) (l:List Int) (s2:Int) (l2:List Int):F_zero [.agg [.int .i64 s,.sl (l.map i64L),.int .i64 s2,.sl (l2.map i64L)]] = some (.same (.bool (s == 0))):=FF_eq F_zero_inj (s,l,s2,l2)
theorem w_zero (T:Tab)  (s:Int) (l:List Int) (s2:Int) (l2:List Int) :
    wp T mf_linear_zero.body (endS mf_linear_zero.res (.same (.bool (s == 0)))) ⟨initTm [.dat (.agg [.int .i64 s,.sl (l.map i64L),.int .i64 s2,.sl (l2.map i64L)])],emp⟩:=by
  refine wp_start ?_
  simp only [mf_linear_zero]
  simp only [go_sem,reduceIte,yA,yB,yC,yD,yE,yH,reduceCtorEq,yF,yG,yI]
  repeat' (first | refine wpG_not ?_ ?_ | refine wpG_yes ?_ ?_ | refine wpB_not ?_ ?_ | refine wpB_yes ?_ ?_ | refine wpGD_not ?_ ?_ | refine wpGD_yes ?_ ?_) <;> intro h <;> simp only [h,go_sem,reduceIte,yA,yB,yC,yD,yE,yH,reduceCtorEq,yF,yG,yI]
/-- note: it notes whether something has failed. -/
def U_note (args:List MV) (mem:Mem):Option (Data × Key × Nat × Nat × Data) :=
  match args with
  | [.ptr k g 0,.dat (.agg [.int .i64 s,.sl l,.int .i64 s2,.sl l2]),.dat (.int .i64 e)] => match mem k,mem 168004,mem 168006 with
    | some (g',[_,_,.dat (.bool c)]),none,none => if g' = g ∧ k ≠ 168004 ∧ k ≠ 168006 then some (.agg [.int .i64 s,.sl l,.int .i64 s2,.sl l2],k,g,2,.bool (c || e != 0)) else none
    | _,_,_ => none
  | _ => none
theorem U_note_eq {k g:Nat} {s s2 e:Int} {l l2:List (List Data)} {mem:Mem} {a b:MV} {c:Bool} (h:mem k = some (g,[a,b,.dat (.bool c)])) (h1:mem 168004 = none) (h2:mem 168006 = none) (h3:k ≠ 168004) (h4:k ≠ 168006) :
    U_note [.ptr k g 0,.dat (.agg [.int .i64 s,.sl l,.int .i64 s2,.sl l2]),.dat (.int .i64 e)] mem = some (.agg [.int .i64 s,.sl l,.int .i64 s2,.sl l2],k,g,2,.bool (c || e != 0)):=by
  unfold U_note
  simp only [h,h1,h2]
  rw [if_pos ⟨trivial,h3,h4⟩]
def noteJ (j:Key):Prop:=j = 168004 ∨ j = 168006
theorem w_note (T:Tab) (args:List MV) (mem:Mem) (r:Data) (k g i:Nat) (d:Data) (h:U_note args mem = some (r,k,g,i,d)) :
    args.length ≤ 19 ∧ (∀ j,noteJ j → mem j = none) ∧ ¬ noteJ k ∧ (∃ cs,mem k = some (g,cs)) ∧
      wp T mf_linear_matrix_note.body (endQ mf_linear_matrix_note.res fun m mem' => toD 6 emp m = some r ∧ ∀ j,¬ noteJ j → mem' j = updM mem k g ((cellsAt mem k).set i (.dat d)) j) ⟨initTm args,mem⟩:=by
  unfold U_note at h
  split at h
  · rename_i k0 g0 s l s2 l2 e
    split at h
    · rename_i g1 a b c hm h4 h6
      split at h
      · rename_i hg
        obtain ⟨rfl,n4,n6⟩:=hg
        simp only [Option.some.injEq,Prod.mk.injEq] at h
        obtain ⟨rfl,rfl,rfl,rfl,rfl⟩:=h
        refine ⟨by simp,?_,?_,⟨_,hm⟩,?_⟩
        · rintro j (rfl | rfl)
          · exact h4
          · exact h6
        · rintro (h | h)
          · exact n4 h
          · exact n6 h
        · have hfin:∀ x:Bool,cellsAt mem k0 = [a,b,.dat (.bool c)]:=fun _ => by simp only [cellsAt,hm]
          have n4':(k0 = 168004) = False:=eq_false n4
          have n6':(k0 = 168006) = False:=eq_false n6
          have n4s:(168004 = k0) = False:=eq_false (Ne.symm n4)
          have n6s:(168006 = k0) = False:=eq_false (Ne.symm n6)
          refine wp_start ?_
          simp only [mf_linear_matrix_note]
          cases c
          · simp only [go_sem,reduceIte,yA,yB,yC,yD,yE,yH,reduceCtorEq,yF,yG,yI,hm,h4,h6,n4',n6',n4s,n6s]
            repeat' (first | refine wpG_not ?_ ?_ | refine wpG_yes ?_ ?_ | refine wpB_not ?_ ?_ | refine wpB_yes ?_ ?_ | refine wpGD_not ?_ ?_ | refine wpGD_yes ?_ ?_) <;> intro h <;> simp only [h,go_sem,reduceIte,yA,yB,yC,yD,yE,yH,reduceCtorEq,yF,yG,yI,hm,h4,h6,n4',n6',n4s,n6s]
            refine ⟨_,rfl,by first | rfl | simp [go_sem,toD],fun j hj => ?_⟩
            have j4:j ≠ 168004:=fun h => hj (.inl h)
            have j6:j ≠ 168006:=fun h => hj (.inr h)
            by_cases hjk:j = k0 <;> simp [updM,cellsAt,hm,j4,j6,hjk,n4,n6,bne]
          · simp only [go_sem,reduceIte,yA,yB,yC,yD,yE,yH,reduceCtorEq,yF,yG,yI,hm,h4,h6,n4',n6',n4s,n6s]
            repeat' (first | refine wpG_not ?_ ?_ | refine wpG_yes ?_ ?_ | refine wpB_not ?_ ?_ | refine wpB_yes ?_ ?_ | refine wpGD_not ?_ ?_ | refine wpGD_yes ?_ ?_) <;> intro h <;> simp only [h,go_sem,reduceIte,yA,yB,yC,yD,yE,yH,reduceCtorEq,yF,yG,yI,hm,h4,h6,n4',n6',n4s,n6s]
            refine ⟨_,rfl,by first | rfl | simp [go_sem,toD],fun j hj => ?_⟩
            have j4:j ≠ 168004:=fun h => hj (.inl h)
            have j6:j ≠ 168006:=fun h => hj (.inr h)
            by_cases hjk:j = k0 <;> simp [updM,cellsAt,hm,j4,j6,hjk,n4,n6,bne]
      · cases h
    · cases h
  · cases h
end Go.Mini
namespace Go.Mini
open Go
set_option maxRecDepth 10000
set_option maxHeartbeats 2000000
/-- A row: its number, its block's generation, what it holds. -/
abbrev MR:=Nat × Nat × List FRaw
def refsOf (N:Nat) (rows:List MR):List MV:=rows.map fun x => .ref (x.1 + 900000) x.2.1 4 0 (N + 1)
structure MatAt (go N:Nat) (rows:List MR) (bad:Bool) (mem:Mem):Prop where
  m:mem 129015 = some (0,[.ref 129035 go 1 0 N,.dat (.int .i64 N),.dat (.bool bad)])
  o:mem 129035 = some (go,refsOf N rows)
  r:∀ x ∈ rows,mem (x.1 + 900000) = some (x.2.1,rowE fracL x.2.2)
structure MatOK (N:Nat) (rows:List MR):Prop where
  len:rows.length = N
  nd:(rows.map (·.1)).Nodup
  row:∀ x ∈ rows,x.2.2.length = N + 1 ∧ ∀ f ∈ x.2.2,okF f
def foreign (k:Nat):Prop:=k < 900000 ∧ k ≠ 129015 ∧ k ≠ 129035 ∧ k ≠ 148008 ∧ k ≠ 148010 ∧ k ≠ 148013
def PS (mem0:Mem) (go N:Nat) (rows:List MR) (bad:Bool) (mem:Mem):Prop:=MatAt go N rows bad mem ∧ ∀ k,foreign k → mem k = mem0 k
section
variable {mem0 mem:Mem} {go N:Nat} {rows:List MR} {bd:Bool}
theorem PS.flag (b:Bool) (h:PS mem0 go N rows bd mem):PS mem0 go N rows b (updM mem 129015 0 [.ref 129035 go 1 0 N,.dat (.int .i64 N),.dat (.bool b)]):=by
  refine ⟨⟨by simp [updM],by simp [updM,h.1.o],fun x hx => ?_⟩,fun k hk => ?_⟩
  · rw [← h.1.r x hx]
    exact if_neg (show ¬ ((x.1 + 900000:Nat) = 129015) by omega)
  · rw [← h.2 k hk]
    exact if_neg hk.2.1
theorem PS.own {k g:Nat} {cs:List MV} (hk:k = 148008 ∨ k = 148010 ∨ k = 148013) (h:PS mem0 go N rows bd mem):PS mem0 go N rows bd (updM mem k g cs):=by
  have hne:∀ j:Nat,j ≠ k → updM mem k g cs j = mem j:=fun j hj => if_neg hj
  refine ⟨⟨by rw [hne _ (by omega)]; exact h.1.m,by rw [hne _ (by omega)]; exact h.1.o,fun x hx => by rw [hne _ (by omega)]; exact h.1.r x hx⟩,fun j hj => ?_⟩
  have:=hj.2
  rw [hne _ (by omega)]
  exact h.2 j hj
theorem PS.set {i:Nat} {x:MR} (hok:MatOK N rows) (hi:rows[i]? = some x) (l:List FRaw) (h:PS mem0 go N rows bd mem):PS mem0 go N (rows.set i (x.1,x.2.1,l)) bd (updM mem (x.1 + 900000) x.2.1 (rowE fracL l)):=by
  have hne:∀ j:Nat,j ≠ x.1 + 900000 → updM mem (x.1 + 900000) x.2.1 (rowE fracL l) j = mem j:=fun j hj => if_neg hj
  obtain ⟨hlt,hxi⟩:=List.getElem?_eq_some_iff.1 hi
  refine ⟨⟨by rw [hne _ (by omega)]; exact h.1.m,?_,fun y hy => ?_⟩,fun j hj => ?_⟩
  · rw [hne _ (by omega),h.1.o]
    congr 2
    unfold refsOf
    apply List.ext_getElem?
    intro j
    rw [yK,yK,List.getElem?_set]
    by_cases hij:i = j
    · subst hij
      rw [if_pos rfl,if_pos hlt,hi]
      rfl
    · rw [if_neg hij]
  · obtain ⟨j,hj⟩:=List.mem_iff_getElem?.1 hy
    rw [List.getElem?_set] at hj
    by_cases hij:i = j
    · subst hij
      rw [if_pos rfl,if_pos hlt] at hj
      cases hj
      simp [updM]
    · rw [if_neg hij] at hj
      have hne2:y.1 ≠ x.1:=by
        intro he
        have h1:(rows.map (·.1))[j]? = some y.1:=by rw [yK,hj]; rfl
        have h2:(rows.map (·.1))[i]? = some y.1:=by rw [yK,hi,he]; rfl
        have hl:i < (rows.map (·.1)).length:=by rw [yJ]; exact hlt
        exact hij ((List.getElem?_inj hl hok.nd).1 (h2.trans h1.symm))
      rw [hne (y.1 + 900000) (by omega)]
      exact h.1.r y (List.mem_of_getElem? hj)
  · have:=hj.1
    rw [hne j (by omega)]
    exact h.2 j hj
theorem PS.swap {i j:Nat} {a b:MR} (hi:rows[i]? = some a) (hj:rows[j]? = some b) (h:PS mem0 go N rows bd mem):PS mem0 go N ((rows.set i b).set j a) bd (updM (updM mem 129035 go (refsOf N (rows.set i b))) 129035 go (refsOf N ((rows.set i b).set j a))):=by
  have hne:∀ k:Nat,k ≠ 129035 → updM (updM mem 129035 go (refsOf N (rows.set i b))) 129035 go (refsOf N ((rows.set i b).set j a)) k = mem k:=fun k hk => by simp [updM,hk]
  refine ⟨⟨by rw [hne _ (by omega)]; exact h.1.m,by simp [updM],fun x hx => ?_⟩,fun k hk => ?_⟩
  · rw [hne _ (by omega)]
    apply h.1.r
    rcases List.mem_or_eq_of_mem_set hx with hx | rfl
    · rcases List.mem_or_eq_of_mem_set hx with hx | rfl
      · exact hx
      · exact List.mem_of_getElem? hj
    · exact List.mem_of_getElem? hi
  · rw [hne _ hk.2.2.1]
    exact h.2 k hk
theorem MatOK.set {i:Nat} {x:MR} (hok:MatOK N rows) (hi:rows[i]? = some x) {l:List FRaw} (hl:l.length = N + 1) (hf:∀ f ∈ l,okF f):MatOK N (rows.set i (x.1,x.2.1,l)):=by
  obtain ⟨hlt,hxi⟩:=List.getElem?_eq_some_iff.1 hi
  refine ⟨by rw [List.length_set]; exact hok.len,?_,fun y hy => ?_⟩
  · have:(rows.set i (x.1,x.2.1,l)).map (·.1) = rows.map (·.1):=by
      rw [List.map_set]
      apply List.ext_getElem?
      intro j
      rw [List.getElem?_set]
      by_cases hij:i = j
      · subst hij
        rw [if_pos rfl,yJ,if_pos hlt,yK,hi]; rfl
      · rw [if_neg hij]
    rw [this]
    exact hok.nd
  · rcases List.mem_or_eq_of_mem_set hy with hy | rfl
    · exact hok.row y hy
    · exact ⟨hl,hf⟩
theorem nodup_swap {α:Type} {l:List α} {i j:Nat} {a b:α} (hi:l[i]? = some a) (hj:l[j]? = some b) (h:l.Nodup):((l.set i b).set j a).Nodup:=by
  obtain ⟨hil,hia⟩:=List.getElem?_eq_some_iff.1 hi
  obtain ⟨hjl,hjb⟩:=List.getElem?_eq_some_iff.1 hj
  have main:∀ p q,p < q → q < l.length → ((l.set i b).set j a)[p]? ≠ ((l.set i b).set j a)[q]?:=by
   intro p q hpq hq
   rw [List.getElem?_set,List.getElem?_set,List.getElem?_set,List.getElem?_set]
   have inj:∀ p q,p < l.length → l[p]? = l[q]? → p = q:=fun p q hp he => (List.getElem?_inj hp h).1 he
   simp only [List.length_set]
   by_cases h1:j = p
   · subst h1
     have h2:¬ j = q:=by omega
     rw [if_pos rfl,if_pos hjl,if_neg h2]
     by_cases h3:i = q
     · subst h3
       rw [if_pos rfl,if_pos hil]
       intro he
       rw [← hi,← hj] at he
       have:=inj _ _ hil he
       omega
     · rw [if_neg h3,← hi]
       intro he
       exact h3 (inj _ _ hil he)
   · rw [if_neg h1]
     by_cases h3:i = p
     · subst h3
       rw [if_pos rfl,if_pos hil]
       by_cases h2:j = q
       · subst h2
         rw [if_pos rfl,if_pos hjl,← hi,← hj]
         intro he
         have:=inj _ _ hjl he
         omega
       · rw [if_neg h2,if_neg (by omega),← hj]
         intro he
         exact h2 (inj _ _ hjl he)
     · rw [if_neg h3]
       by_cases h2:j = q
       · subst h2
         rw [if_pos rfl,if_pos hjl,← hi]
         intro he
         exact h3 (inj _ _ hil he.symm)
       · rw [if_neg h2]
         by_cases h4:i = q
         · subst h4
           rw [if_pos rfl,if_pos hil,← hj]
           intro he
           exact h1 (inj _ _ hjl he.symm)
         · rw [if_neg h4]
           intro he
           have:=inj _ _ (by omega) he
           omega
  refine List.pairwise_iff_getElem.2 fun p q hp hq hpq he => ?_
  simp only [List.length_set] at hp hq
  refine main p q hpq hq ?_
  rw [yL (by simpa using hp),yL (by simpa using hq),he]
theorem MatOK.swap {i j:Nat} {a b:MR} (hok:MatOK N rows) (hi:rows[i]? = some a) (hj:rows[j]? = some b):MatOK N ((rows.set i b).set j a):=by
  refine ⟨by rw [List.length_set,List.length_set]; exact hok.len,?_,fun x hx => ?_⟩
  · rw [List.map_set,List.map_set]
    exact nodup_swap (by rw [yK,hi]; rfl) (by rw [yK,hj]; rfl) hok.nd
  · rcases List.mem_or_eq_of_mem_set hx with hx | rfl
    · rcases List.mem_or_eq_of_mem_set hx with hx | rfl
      · exact hok.row x hx
      · exact hok.row _ (List.mem_of_getElem? hj)
    · exact hok.row _ (List.mem_of_getElem? hi)
end
/-! ### Reading and writing cells -/
theorem cutF {l:List FRaw} {i:Nat} {a b c d} (h:l[i]? = some ((a,b),(c,d))):cut (rowE fracL l) (i * 4) 4 = some [.dat (.int .i64 a),.dat (.sl (b.map i64L)),.dat (.int .i64 c),.dat (.sl (d.map i64L))]:=by
  have:=rowE_cut fracL_len h (f:=0) (n:=4) (by omega)
  rw [Nat.add_zero] at this
  rw [this]
  rfl
theorem storeF {l:List FRaw} {i k g:Nat} (h:i < l.length) (a:Int) (b:List Int) (c:Int) (d:List Int):storeC 4 k g (i * 4) [.dat (.int .i64 a),.dat (.sl (b.map i64L)),.dat (.int .i64 c),.dat (.sl (d.map i64L))] (some (g,rowE fracL l)) = some (.no,some (k,g,rowE fracL (l.set i ((a,b),(c,d))))):=by
  unfold storeC
  dsimp only
  rw [if_pos ⟨rfl,rfl,by rw [rowE_len fracL_len]; omega,rfl⟩,← rowE_set fracL_len h]
  rfl
theorem cutR {N:Nat} {rows:List MR} {i:Nat} {x:MR} (h:rows[i]? = some x):cut (refsOf N rows) i 1 = some [.ref (x.1 + 900000) x.2.1 4 0 (N + 1)]:=by
  obtain ⟨hlt,rfl⟩:=List.getElem?_eq_some_iff.1 h
  unfold cut refsOf
  rw [if_pos (by rw [yJ]; omega),← List.map_drop,List.drop_eq_getElem_cons hlt]
  rfl
theorem storeR {N:Nat} {rows:List MR} {i g:Nat} (h:i < rows.length) (b:MR):storeC 1 129035 g i [.ref (b.1 + 900000) b.2.1 4 0 (N + 1)] (some (g,refsOf N rows)) = some (.no,some (129035,g,refsOf N (rows.set i b))):=by
  unfold storeC
  dsimp only
  rw [if_pos ⟨rfl,rfl,by unfold refsOf; rw [yJ]; omega,rfl⟩]
  have:splice (refsOf N rows) i [.ref (b.1 + 900000) b.2.1 4 0 (N + 1)] = refsOf N (rows.set i b):=by
    unfold splice refsOf
    rw [List.map_set,List.set_eq_take_append_cons_drop,if_pos (by rw [yJ]; exact h),List.append_assoc]
    rfl
  rw [this]
theorem rowF_inj {l m:List FRaw} (h:rowE fracL l = rowE fracL m):l = m:=rowE_inj fracL_len fracL_inj _ _ h (by omega)
/-! ### What pivot computes -/
def zeroQ (f:FRaw):Bool:=f.1.1 == 0
def cellOf (x:MR) (c:Nat):FRaw:=x.2.2.getD c zeroF
def findAt (rows:List MR) (r c:Nat):Nat:=r + (rows.drop r).findIdx fun x => !zeroQ (cellOf x c)
def elimGo (fac:FRaw):List FRaw → List FRaw → Bool → List FRaw × Bool
  | f :: fs,p :: ps,false => ((subF f (mulF fac p).1).1 :: (elimGo fac fs ps ((mulF fac p).2 != 0 || (subF f (mulF fac p).1).2 != 0)).1,(elimGo fac fs ps ((mulF fac p).2 != 0 || (subF f (mulF fac p).1).2 != 0)).2)
  | fs,_,b => (fs,b)
def elimRows (prow:List FRaw) (r c:Nat):Nat → List MR → Bool → List MR × Bool
  | _,[],bad => ([],bad)
  | i,x :: xs,bad => if (i == r || zeroQ (cellOf x c)) = true then (x :: (elimRows prow r c (i + 1) xs bad).1,(elimRows prow r c (i + 1) xs bad).2) else
    ((x.1,x.2.1,(elimGo (cellOf x c) x.2.2 prow bad).1) :: (elimRows prow r c (i + 1) xs (elimGo (cellOf x c) x.2.2 prow bad).2).1,(elimRows prow r c (i + 1) xs (elimGo (cellOf x c) x.2.2 prow bad).2).2)
def divRow (by':FRaw) (l:List FRaw):List FRaw × Bool:=(l.map fun f => (divF f by').1,l.any fun f => (divF f by').2 != 0)
def rowAt (rows:List MR) (i:Nat):MR:=rows.getD i (0,0,[])
def swapped (rows:List MR) (i j:Nat):List MR:=(rows.set i (rowAt rows j)).set j (rowAt rows i)
def divided (rows:List MR) (r c:Nat):List MR:=rows.set r ((rowAt rows r).1,(rowAt rows r).2.1,(divRow (cellOf (rowAt rows r) c) (rowAt rows r).2.2).1)
def pivX (rows:List MR) (r c:Nat):Bool × List MR × Bool :=
  if findAt rows r c = rows.length then (true,rows,false) else
    (false,elimRows (divRow (cellOf (rowAt (swapped rows r (findAt rows r c)) r) c) (rowAt (swapped rows r (findAt rows r c)) r).2.2).1 r c 0 (divided (swapped rows r (findAt rows r c)) r c)
      (divRow (cellOf (rowAt (swapped rows r (findAt rows r c)) r) c) (rowAt (swapped rows r (findAt rows r c)) r).2.2).2)
theorem findAt_step {rows:List MR} {r c i:Nat} {x:MR} (hx:rows[i]? = some x) (hr:r ≤ i) (hz:∀ j y,r ≤ j → j < i → rows[j]? = some y → zeroQ (cellOf y c) = true) (h:zeroQ (cellOf x c) = false):findAt rows r c = i:=by
  unfold findAt
  obtain ⟨hlt,hxi⟩:=List.getElem?_eq_some_iff.1 hx
  have:(rows.drop r).findIdx (fun x => !zeroQ (cellOf x c)) = i - r:=by
    rw [List.findIdx_eq (by rw [List.length_drop]; omega)]
    refine ⟨?_,fun j hj => ?_⟩
    · rw [List.getElem_drop]
      have:rows[r + (i - r)]? = some x:=by rw [show r + (i - r) = i by omega]; exact hx
      rw [(List.getElem?_eq_some_iff.1 this).2,h]; rfl
    · rw [List.getElem_drop]
      have:=hz (r + j) _ (by omega) (by omega) (yL (by omega))
      rw [this]; rfl
  omega
theorem findAt_end {rows:List MR} {r c:Nat} (hr:r ≤ rows.length) (hz:∀ j y,r ≤ j → rows[j]? = some y → zeroQ (cellOf y c) = true):findAt rows r c = rows.length:=by
  unfold findAt
  have:(rows.drop r).findIdx (fun x => !zeroQ (cellOf x c)) = (rows.drop r).length:=by
    rw [List.findIdx_eq_length]
    intro y hy
    obtain ⟨j,hj⟩:=List.mem_iff_getElem?.1 hy
    rw [List.getElem?_drop] at hj
    rw [hz (r + j) y (by omega) hj]; rfl
  rw [this,List.length_drop]
  omega
end Go.Mini
namespace Go.Mini
open Go
set_option maxRecDepth 10000
set_option maxHeartbeats 4000000
theorem okF_enc {x:Rat} (h:limR x):okF (encR x):=⟨len_ok h.1,len_ok (limD h)⟩
theorem okF_zero:okF zeroF:=⟨by simp [zeroF],by simp [zeroF]⟩
theorem okF_new (p q:Raw):okF (newR p q).1:=by
  unfold newR
  split
  · rename_i h
    rw [Bool.and_eq_true] at h
    obtain ⟨x,hx,e1⟩:=(rightR_iff _).1 h.1
    obtain ⟨y,hy,e2⟩:=(rightR_iff _).1 h.2
    split
    · exact okF_zero
    · rw [e1,e2,valB_enc,valB_enc]
      exact okF_enc (divInt_lim hx hy)
  · exact okF_zero
theorem okF_quot (p q:Raw × Int):okF (quotR p q).1:=by
  unfold quotR
  split
  · split
    · exact okF_new _ _
    · exact okF_zero
  · exact okF_zero
theorem okF_add (a b:FRaw):okF (addF a b).1:=by
  unfold addF
  split
  · split
    · exact okF_quot _ _
    · exact okF_zero
  · exact okF_zero
theorem okF_sub (a b:FRaw):okF (subF a b).1:=by
  unfold subF
  split
  · split
    · exact okF_add _ _
    · exact okF_zero
  · exact okF_zero
theorem okF_mul (a b:FRaw):okF (mulF a b).1:=by
  unfold mulF
  split
  · split
    · exact okF_quot _ _
    · exact okF_zero
  · exact okF_zero
theorem okF_div (a b:FRaw):okF (divF a b).1:=by
  unfold divF
  split
  · split
    · split
      · exact okF_zero
      · exact okF_quot _ _
    · exact okF_zero
  · exact okF_zero
theorem cell_get {x:MR} {c:Nat} {f:FRaw} (h:x.2.2[c]? = some f):cellOf x c = f:=by
  unfold cellOf
  rw [List.getD_eq_getElem?_getD,h]
  rfl
theorem row_at {rows:List MR} {i:Nat} {x:MR} (h:rows[i]? = some x):rowAt rows i = x:=by
  unfold rowAt
  rw [List.getD_eq_getElem?_getD,h]
  rfl
theorem lenF {l:List FRaw} {k:Nat} (h:k < l.length):(k * 4 + 4 ≤ (rowE fracL l).length) = True:=eq_true (by rw [rowE_len fracL_len]; omega)
theorem getF {l:List FRaw} {k:Nat} {a b c d} (h:l[k]? = some ((a,b),(c,d))):List.take 4 (List.drop (k * 4) (rowE fracL l)) = [.dat (.int .i64 a),.dat (.sl (b.map i64L)),.dat (.int .i64 c),.dat (.sl (d.map i64L))]:=by
  have:=cutF h
  unfold cut at this
  rw [if_pos (by rw [rowE_len fracL_len]; have:=(List.getElem?_eq_some_iff.1 h).1; omega)] at this
  exact Option.some.inj this
theorem setF {l:List FRaw} {k:Nat} (h:k < l.length) (a:Int) (b:List Int) (c:Int) (d:List Int) :
    List.take (k * 4) (rowE fracL l) ++ [MV.dat (.int .i64 a),.dat (.sl (b.map i64L)),.dat (.int .i64 c),.dat (.sl (d.map i64L))] ++ List.drop (k * 4 + 4) (rowE fracL l) = rowE fracL (l.set k ((a,b),(c,d))):=by
  rw [← rowE_set fracL_len h]
  rfl
theorem lenR {N:Nat} {rows:List MR} {i:Nat} (h:i < rows.length):(i + 1 ≤ (refsOf N rows).length) = True:=eq_true (by unfold refsOf; rw [yJ]; omega)
theorem getR {N:Nat} {rows:List MR} {i:Nat} {x:MR} (h:rows[i]? = some x):List.take 1 (List.drop i (refsOf N rows)) = [.ref (x.1 + 900000) x.2.1 4 0 (N + 1)]:=by
  have:=cutR (N:=N) h
  unfold cut at this
  rw [if_pos (by unfold refsOf; rw [yJ]; have:=(List.getElem?_eq_some_iff.1 h).1; omega)] at this
  exact Option.some.inj this
theorem setR {N:Nat} {rows:List MR} {i:Nat} (h:i < rows.length) (b:MR):List.take i (refsOf N rows) ++ [MV.ref (b.1 + 900000) b.2.1 4 0 (N + 1)] ++ List.drop (i + 1) (refsOf N rows) = refsOf N (rows.set i b):=by
  unfold refsOf
  rw [List.map_set,List.set_eq_take_append_cons_drop,if_pos (by rw [yJ]; exact h),List.append_assoc]
  rfl
theorem elimGo_length (fac:FRaw):∀ (l p:List FRaw) (b:Bool),(elimGo fac l p b).1.length = l.length
  | [],_,_ => by simp [elimGo]
  | f :: fs,[],b => by cases b <;> simp [elimGo]
  | f :: fs,p :: ps,true => by simp [elimGo]
  | f :: fs,p :: ps,false => by simp [elimGo,elimGo_length fac fs ps]
theorem elimGo_bad (fac:FRaw) (l p:List FRaw):elimGo fac l p true = (l,true):=by
  cases l <;> cases p <;> simp [elimGo]
theorem elimGo_nil (fac:FRaw) (p:List FRaw) (b:Bool):elimGo fac [] p b = ([],b):=by
  cases b <;> simp [elimGo]
theorem note_list (a b:MV) (c d:Data):[a,b,MV.dat c].set 2 (MV.dat d) = [a,b,MV.dat d]:=rfl
theorem take_map_set {α:Type} (f:α → α) {l:List α} {k:Nat} {x:α} (h:l[k]? = some x):((l.take k).map f ++ l.drop k).set k (f x) = (l.take (k + 1)).map f ++ l.drop (k + 1):=by
  obtain ⟨hlt,hx⟩:=List.getElem?_eq_some_iff.1 h
  have hl:((l.take k).map f).length = k:=by rw [yJ,List.length_take]; omega
  rw [List.set_append_right _ _ (by omega),hl,Nat.sub_self,List.drop_eq_getElem_cons hlt,List.set_cons_zero,List.take_add_one,h,List.map_append,List.append_assoc]
  rfl
theorem take_drop_get {α:Type} (f:α → α) {l:List α} {k:Nat}:((l.take k).map f ++ l.drop k)[k]? = l[k]?:=by
  rcases Nat.lt_or_ge k l.length with h | h
  · have hl:((l.take k).map f).length = k:=by rw [yJ,List.length_take]; omega
    rw [List.getElem?_append_right (by omega),hl,Nat.sub_self,List.getElem?_drop,Nat.add_zero]
  · rw [List.getElem?_eq_none h,List.getElem?_eq_none (by rw [List.length_append,yJ,List.length_take,List.length_drop]; omega)]
theorem swap_get {α:Type} {rows:List α} {r i:Nat} {x xr:α} (hx:rows[i]? = some x) (hxr:rows[r]? = some xr):((rows.set r x).set i xr)[r]? = some x:=by
  have h1:=(List.getElem?_eq_some_iff.1 hx).1
  have h2:=(List.getElem?_eq_some_iff.1 hxr).1
  rw [List.getElem?_set,List.getElem?_set,List.length_set]
  by_cases h:i = r
  · subst h
    rw [hx] at hxr
    cases hxr
    rw [if_pos rfl,if_pos h1]
  · rw [if_neg h,if_pos rfl,if_pos h2]
theorem set_self {α:Type} {l:List α} {i:Nat} {x:α} (h:l[i]? = some x):l.set i x = l:=by
  obtain ⟨hlt,hx⟩:=List.getElem?_eq_some_iff.1 h
  apply List.ext_getElem?
  intro j
  rw [List.getElem?_set]
  by_cases hij:i = j
  · subst hij
    rw [if_pos rfl,if_pos hlt,h]
  · rw [if_neg hij]
theorem chkA (a b:Nat):(!(a + 900000 == 129015) || decide (2 < b * 4)) = true:=by
  have:(a + 900000 == 129015) = false:=by simp
  rw [this]; rfl
theorem foreign_note4:foreign 168004:=by unfold foreign; omega
theorem foreign_note6:foreign 168006:=by unfold foreign; omega
/-- A part of a piece of code. -/
def MCode.sub:MCode → List Nat → MCode
  | .seq a _,0 :: p => a.sub p
  | .seq _ b,_ :: p => b.sub p
  | .cond _ a _,0 :: p => a.sub p
  | .cond _ _ b,_ :: p => b.sub p
  | .block _ c,_ :: p => c.sub p
  | .ghost _ c,_ :: p => c.sub p
  | .loop c,_ :: p => c.sub p
  | c,_ => c
def fracM (f:FRaw):List MV:=[.dat (.int .i64 f.1.1),.dat (.sl (f.1.2.map i64L)),.dat (.int .i64 f.2.1),.dat (.sl (f.2.2.map i64L))]
end Go.Mini
namespace Go.Mini
open Go
set_option maxRecDepth 10000
set_option maxHeartbeats 4000000
theorem piv_L3 (T:Tab) (h_note:T id_linear_matrix_note = mkU U_note) (h_fSub:T id_frac_Sub = mkE F_fSub) (h_fMul:T id_frac_Mul = mkE F_fMul) {K:MExit → St → Prop} {kk:List Todo}
    (go N r c i2:Nat) (mem:Mem) (hn4:mem 168004 = none) (hn6:mem 168006 = none) (hN:N ≤ 40) (R2:List MR) (hok2:MatOK N R2) (x y:MR) (prow:List FRaw) (hyr:R2[i2]? = some y) (hr2:R2[r]? = some (x.1,x.2.1,prow)) (hirn:i2 ≠ r) (hrN:r < N) (bd:Bool)
    (g1:Int) (g2:List Int) (g3:Int) (g4:List Int) (hgl:okF ((g1,g2),(g3,g4))) (tm:Nat → MV) (m:Mem) (G:Nat)
    (e0:tm 0 = .ptr 129015 0 0) (e1:tm 1 = .dat (.int .i64 r)) (e2:tm 2 = .dat (.int .i64 c)) (e12:tm 12 = .ref (y.1 + 900000) y.2.1 4 0 (N + 1)) (e13:tm 13 = .ptr 148013 G 0) (e112:tm 112 = .ref 129035 go 1 0 N) (e113:tm 113 = .dat (.int .i64 N)) (e114:tm 114 = .dat (.int .i64 i2)) (e14:tm 14 = .dat (.int .i64 0))
    (em:m 148013 = some (G,[.dat (.int .i64 g1),.dat (.sl (g2.map i64L)),.dat (.int .i64 g3),.dat (.sl (g4.map i64L))])) (hps:PS mem go N R2 bd m)
    (hK:∀ tm' m' l b,tm' 0 = .ptr 129015 0 0 → tm' 1 = .dat (.int .i64 r) → tm' 2 = .dat (.int .i64 c) → tm' 112 = .ref 129035 go 1 0 N → tm' 113 = .dat (.int .i64 N) → tm' 114 = .dat (.int .i64 i2) → (l,b) = elimGo ((g1,g2),(g3,g4)) y.2.2 prow bd → MatOK N (R2.set i2 (y.1,y.2.1,l)) → PS mem go N (R2.set i2 (y.1,y.2.1,l)) b m' → kont T K kk (.exit 6) ⟨tm',m'⟩) :
    wp T (mf_linear_matrix_pivot.body.sub [1,1,1,1,1,1,1,0,1,0,0,1,1,0,0,1,1,1,1,0]) (kont T K kk) ⟨tm,m⟩:=by
  simp only [mf_linear_matrix_pivot,MCode.sub]
  have hi2N:i2 < N:=by rw [← hok2.len]; exact (List.getElem?_eq_some_iff.1 hyr).1
  obtain ⟨hyl,hyo⟩:=hok2.row y (List.mem_of_getElem? hyr)
  have hsety:R2.set i2 (y.1,y.2.1,[] ++ y.2.2.drop 0) = R2:=set_self hyr
  refine wp_loop_keep [0,1,2,12,13,112,113,114] [148013] (fun ((k,pre,b):Nat × List FRaw × Bool) tm m => k ≤ N + 1 ∧ pre.length = k ∧ (∀ f ∈ pre,okF f) ∧ elimGo ((g1,g2),(g3,g4)) y.2.2 prow bd = (pre ++ (elimGo ((g1,g2),(g3,g4)) (y.2.2.drop k) (prow.drop k) b).1,(elimGo ((g1,g2),(g3,g4)) (y.2.2.drop k) (prow.drop k) b).2) ∧ tm 14 = .dat (.int .i64 k) ∧ PS mem go N (R2.set i2 (y.1,y.2.1,pre ++ y.2.2.drop k)) b m) (fun (k,_,_) => N + 1 - k) (0,[],bd) (by
    refine ⟨Nat.zero_le _,rfl,(by simp),rfl,e14,?_⟩
    rw [hsety]
    exact hps) ?_
  intro vs ms hvs hms
  simp only [go_sem,reduceIte,yA,yB,yC,yD,yE,yH,reduceCtorEq,yF,yG,yI,e0,e1,e2,e12,e13,e112,e113,e114,em] at hvs hms
  subst hvs hms
  clear e0 e1 e2 e12 e13 e112 e113 e114 em e14 hps tm m
  rintro ⟨k3,pre,b⟩ tm m3 hk hm ⟨hk3,hpre,hpo,he3,h14,hps3⟩
  simp only [go_sem,reduceIte,yA,yB,yC,yD,yE,yH,reduceCtorEq,yF,yG,yI,yM] at hk hm
  obtain ⟨h0,h1,h2,h12,h13,h112,h113,h114⟩:=hk
  have hcl3:(pre ++ y.2.2.drop k3).length = N + 1:=by rw [List.length_append,List.length_drop]; omega
  have hok3:MatOK N (R2.set i2 (y.1,y.2.1,pre ++ y.2.2.drop k3)):=hok2.set hyr hcl3 fun f hf => by
    rw [List.mem_append] at hf
    rcases hf with hf | hf
    · exact hpo f hf
    · exact hyo f (List.mem_of_mem_drop hf)
  have hy3:(R2.set i2 (y.1,y.2.1,pre ++ y.2.2.drop k3))[i2]? = some (y.1,y.2.1,pre ++ y.2.2.drop k3):=by
    rw [List.getElem?_set,if_pos rfl,if_pos (by rw [hok2.len]; exact hi2N)]
  have hr3:(R2.set i2 (y.1,y.2.1,pre ++ y.2.2.drop k3))[r]? = some (x.1,x.2.1,prow):=by
    rw [List.getElem?_set,if_neg hirn]; exact hr2
  have hm15':=hps3.1.m
  have hm35':=hps3.1.o
  rcases Decidable.em (k3 < N + 1) with hk3lt | hk3ge
  · have hkl:decide ((k3:Int) < ((N + 1:Nat):Int)) = true:=decide_eq_true (by omega)
    cases b
    · obtain ⟨⟨⟨a1,a2⟩,⟨a3,a4⟩⟩,hfk⟩:∃ f,y.2.2[k3]? = some f:=⟨_,yL (by omega)⟩
      have hprl:prow.length = N + 1:=(hok2.row _ (List.mem_of_getElem? hr2)).1
      obtain ⟨⟨⟨p1,p2⟩,⟨p3,p4⟩⟩,hpk⟩:∃ f,prow[k3]? = some f:=⟨_,yL (by omega)⟩
      have hfo:=hyo _ (List.mem_of_getElem? hfk)
      have hpo':=(hok2.row _ (List.mem_of_getElem? hr2)).2 _ (List.mem_of_getElem? hpk)
      have hcg:(pre ++ y.2.2.drop k3)[k3]? = some ((a1,a2),(a3,a4)):=by
        rw [List.getElem?_append_right (by omega),hpre,Nat.sub_self,List.getElem?_drop,Nat.add_zero,hfk]
      have hd1:y.2.2.drop k3 = ((a1,a2),(a3,a4)) :: y.2.2.drop (k3 + 1):=by
        obtain ⟨hl,e⟩:=List.getElem?_eq_some_iff.1 hfk
        rw [List.drop_eq_getElem_cons hl,e]
      have hd2:prow.drop k3 = ((p1,p2),(p3,p4)) :: prow.drop (k3 + 1):=by
        obtain ⟨hl,e⟩:=List.getElem?_eq_some_iff.1 hpk
        rw [List.drop_eq_getElem_cons hl,e]
      have hnew:∀ s:FRaw,(pre ++ y.2.2.drop k3).set k3 s = (pre ++ [s]) ++ y.2.2.drop (k3 + 1):=fun s => by
        rw [List.set_append_right _ _ (by omega),hpre,Nat.sub_self,hd1,List.set_cons_zero,List.append_assoc]; rfl
      have hym3:=hps3.1.r _ (List.mem_of_getElem? hy3)
      have hxm3:=hps3.1.r _ (List.mem_of_getElem? hr3)
      have q4:m3 168004 = none:=(hps3.2 _ foreign_note4).trans hn4
      have q6:m3 168006 = none:=(hps3.2 _ foreign_note6).trans hn6
      have t1:=getR (N:=N) hr3
      have t2:=lenR (N:=N) (rows:=R2.set i2 (y.1,y.2.1,pre ++ y.2.2.drop k3)) (i:=r) (by rw [hok3.len]; exact hrN)
      have t3:=getF hcg
      have t4:=lenF (l:=pre ++ y.2.2.drop k3) (k:=k3) (by omega)
      have t5:=getF hpk
      have t6:=lenF (l:=prow) (k:=k3) (by omega)
      have hw3:IntKind.i64.wrap ((k3:Int) + 1) = ((k3 + 1:Nat):Int):=by rw [wrap64 _ (by omega) (by omega)]; omega
      have hmo:=okF_mul ((g1,g2),(g3,g4)) ((p1,p2),(p3,p4))
      have hso:=okF_sub ((a1,a2),(a3,a4)) (mulF ((g1,g2),(g3,g4)) ((p1,p2),(p3,p4))).1
      have he4:=he3
      rw [hd1,hd2] at he4
      simp only [elimGo] at he4
      generalize hM:mulF ((g1,g2),(g3,g4)) ((p1,p2),(p3,p4)) = M at *
      obtain ⟨⟨⟨u1,u2⟩,⟨u3,u4⟩⟩,e1⟩:=M
      dsimp only at hso he4 hmo
      generalize hS:subF ((a1,a2),(a3,a4)) ((u1,u2),(u3,u4)) = S at *
      obtain ⟨⟨⟨v1,v2⟩,⟨v3,v4⟩⟩,e2⟩:=S
      dsimp only at hso he4
      have t7:=setF (l:=pre ++ y.2.2.drop k3) (k:=k3) (by omega) v1 v2 v3 v4
      simp only [go_sem,reduceIte,yA,yB,yC,yD,yE,yH,reduceCtorEq,yF,yG,yI,h_note,h_fMul,h_fSub,h0,h1,h2,h12,h13,h14,h112,h113,h114,hm,hm15',hm35',hym3,hxm3,q4,q6,t1,t2,t3,t4,t5,t6,t7,hkl,hk3lt,hrN,hw3,hM,hS,hfo.1,hfo.2,hpo'.1,hpo'.2,hgl.1,hgl.2,hmo.1,hmo.2,fracM,fracE,fracL,Nat.mul_one,U_note,List.set_cons_succ,List.set_cons_zero,decide_true,decide_false,yE,ne_eq,not_false_eq_true,and_self]
      repeat' (first | refine wpG_not ?_ ?_ | refine wpG_yes ?_ ?_ | refine wpB_not ?_ ?_ | refine wpB_yes ?_ ?_ | refine wpGD_not ?_ ?_ | refine wpGD_yes ?_ ?_) <;> intro h <;> simp only [h,go_sem,reduceIte,yA,yB,yC,yD,yE,yH,reduceCtorEq,yF,yG,yI,h_note,h_fMul,h_fSub,h0,h1,h2,h12,h13,h14,h112,h113,h114,hm,hm15',hm35',hym3,hxm3,q4,q6,t1,t2,t3,t4,t5,t6,t7,hkl,hk3lt,hrN,hw3,hM,hS,hfo.1,hfo.2,hpo'.1,hpo'.2,hgl.1,hgl.2,hmo.1,hmo.2,fracM,fracE,fracL,Nat.mul_one,U_note,List.set_cons_succ,List.set_cons_zero,decide_true,decide_false,yE,ne_eq,not_false_eq_true,and_self]
      have e5:=PS.set hok3 hy3 ((pre ++ y.2.2.drop k3).set k3 ((v1,v2),(v3,v4))) ((hps3.flag (e1 != 0)).flag (e1 != 0 || e2 != 0))
      rw [List.set_set,hnew] at e5
      refine ⟨chkA _ _,(k3 + 1,pre ++ [((v1,v2),(v3,v4))],(e1 != 0 || e2 != 0)),by dsimp only; omega,by dsimp only; omega,by simp [hpre],?_,?_,rfl,?_⟩
      · intro f hf
        rw [List.mem_append,List.mem_singleton] at hf
        rcases hf with hf | rfl
        · exact hpo f hf
        · exact hso
      · rw [he4]
        dsimp only
        rw [List.append_assoc]
        rfl
      · dsimp only
        rw [hnew]
        exact e5
    · rw [elimGo_bad] at he3
      simp only [go_sem,reduceIte,yA,yB,yC,yD,yE,yH,reduceCtorEq,yF,yG,yI,h0,h1,h2,h12,h13,h14,h112,h113,h114,hm15',hm35',hkl]
      repeat' (first | refine wpG_not ?_ ?_ | refine wpG_yes ?_ ?_ | refine wpB_not ?_ ?_ | refine wpB_yes ?_ ?_ | refine wpGD_not ?_ ?_ | refine wpGD_yes ?_ ?_) <;> intro h <;> simp only [h,go_sem,reduceIte,yA,yB,yC,yD,yE,yH,reduceCtorEq,yF,yG,yI,h0,h1,h2,h12,h13,h14,h112,h113,h114,hm15',hm35',hkl]
      refine hK _ _ (pre ++ y.2.2.drop k3) true ?_ ?_ ?_ ?_ ?_ ?_ he3.symm hok3 hps3 <;> simp only [upd_get,yA,if_false,h0,h1,h2,h112,h113,h114]
  · have hkl:decide ((k3:Int) < ((N + 1:Nat):Int)) = false:=decide_eq_false (by omega)
    have hnl:y.2.2.drop k3 = []:=List.drop_eq_nil_of_le (by omega)
    rw [hnl,elimGo_nil,← hnl] at he3
    simp only [go_sem,reduceIte,yA,yB,yC,yD,yE,yH,reduceCtorEq,yF,yG,yI,h0,h1,h2,h12,h13,h14,h112,h113,h114,hm15',hm35',hkl]
    repeat' (first | refine wpG_not ?_ ?_ | refine wpG_yes ?_ ?_ | refine wpB_not ?_ ?_ | refine wpB_yes ?_ ?_ | refine wpGD_not ?_ ?_ | refine wpGD_yes ?_ ?_) <;> intro h <;> simp only [h,go_sem,reduceIte,yA,yB,yC,yD,yE,yH,reduceCtorEq,yF,yG,yI,h0,h1,h2,h12,h13,h14,h112,h113,h114,hm15',hm35',hkl]
    refine hK _ _ (pre ++ y.2.2.drop k3) b ?_ ?_ ?_ ?_ ?_ ?_ he3.symm hok3 hps3 <;> simp only [upd_get,yA,if_false,h0,h1,h2,h112,h113,h114]
end Go.Mini
namespace Go.Mini
open Go
set_option maxRecDepth 10000
set_option maxHeartbeats 4000000
theorem piv_L2 (T:Tab) (h_zero:T id_linear_zero = mkE F_zero) (h_note:T id_linear_matrix_note = mkU U_note) (h_fSub:T id_frac_Sub = mkE F_fSub) (h_fMul:T id_frac_Mul = mkE F_fMul) {K:MExit → St → Prop} {kk:List Todo}
    (go N r c:Nat) (mem:Mem) (hn4:mem 168004 = none) (hn6:mem 168006 = none) (hN:N ≤ 40) (hrN:r < N) (hcN':c < N + 1) (dv:List MR) (hcok:MatOK N dv) (x:MR) (prow:List FRaw) (hcr:dv[r]? = some (x.1,x.2.1,prow)) (bd0:Bool) (tm:Nat → MV) (m:Mem)
    (e0:tm 0 = .ptr 129015 0 0) (e1:tm 1 = .dat (.int .i64 r)) (e2:tm 2 = .dat (.int .i64 c)) (e112:tm 112 = .ref 129035 go 1 0 N) (e113:tm 113 = .dat (.int .i64 N)) (e114:tm 114 = .dat (.int .i64 0)) (hps:PS mem go N dv bd0 m)
    (hK:∀ tm' m',PS mem go N (elimRows prow r c 0 dv bd0).1 (elimRows prow r c 0 dv bd0).2 m' → kont T K kk (.exit 4) ⟨tm',m'⟩) :
    wp T (mf_linear_matrix_pivot.body.sub [1,1,1,1,1,1,1,0,1,0]) (kont T K kk) ⟨tm,m⟩:=by
  simp only [mf_linear_matrix_pivot,MCode.sub]
  refine wp_loop_keep [0,1,2,112,113] [] (fun ((i2,dn,bd):Nat × List MR × Bool) tm m => i2 ≤ N ∧ dn.length = i2 ∧ elimRows prow r c 0 dv bd0 = (dn ++ (elimRows prow r c i2 (dv.drop i2) bd).1,(elimRows prow r c i2 (dv.drop i2) bd).2) ∧ MatOK N (dn ++ dv.drop i2) ∧ (dn ++ dv.drop i2)[r]? = some (x.1,x.2.1,prow) ∧ tm 114 = .dat (.int .i64 i2) ∧ PS mem go N (dn ++ dv.drop i2) bd m) (fun (i2,_,_) => N - i2) (0,[],bd0) (by
    exact ⟨Nat.zero_le _,rfl,rfl,hcok,hcr,e114,hps⟩) ?_
  intro vs ms hvs hms
  simp only [go_sem,reduceIte,yA,yB,yC,yD,yE,yH,reduceCtorEq,yF,yG,yI,e0,e1,e2,e112,e113] at hvs hms
  subst hvs hms
  clear e0 e1 e2 e112 e113 e114 hps tm m
  rintro ⟨i2,dn,bd⟩ tm m2 hk hm ⟨hi2,hdn,hel,hok2,hr2,h114,hps2⟩
  simp only [go_sem,reduceIte,yA,yB,yC,yD,yE,yH,reduceCtorEq,yF,yG,yI,yM] at hk hm
  obtain ⟨h0,h1,h2,h112,h113⟩:=hk
  have hm15':=hps2.1.m
  have hm35':=hps2.1.o
  have hdvl:dv.length = N:=hcok.len
  rcases Decidable.em (i2 < N) with hilt | hige
  · obtain ⟨y,hy⟩:∃ y,dv[i2]? = some y:=⟨_,yL (by omega)⟩
    have hdrop:dv.drop i2 = y :: dv.drop (i2 + 1):=by
      obtain ⟨hl,rfl⟩:=List.getElem?_eq_some_iff.1 hy
      exact List.drop_eq_getElem_cons hl
    have hyr:(dn ++ dv.drop i2)[i2]? = some y:=by
      rw [List.getElem?_append_right (by omega),hdn,Nat.sub_self,List.getElem?_drop,Nat.add_zero,hy]
    obtain ⟨hyl,hyo⟩:=hok2.row y (List.mem_of_getElem? hyr)
    have hym:=hps2.1.r y (List.mem_of_getElem? hyr)
    obtain ⟨⟨⟨g1,g2⟩,⟨g3,g4⟩⟩,hg⟩:∃ f,y.2.2[c]? = some f:=⟨_,yL (by omega)⟩
    have hgc:=cell_get hg
    have t1:=getR (N:=N) hyr
    have t2:=lenR (N:=N) (rows:=dn ++ dv.drop i2) (i:=i2) (by rw [hok2.len]; exact hilt)
    have t3:=getF hg
    have t4:=lenF (l:=y.2.2) (k:=c) (by omega)
    have hil:decide ((i2:Int) < (N:Int)) = true:=decide_eq_true (by omega)
    have hw:IntKind.i64.wrap ((i2:Int) + 1) = ((i2 + 1:Nat):Int):=by rw [wrap64 _ (by omega) (by omega)]; omega
    have happ:∀ z:MR,(dn ++ [z]) ++ dv.drop (i2 + 1) = (dn ++ dv.drop i2).set i2 z:=fun z => by
      rw [List.set_append_right _ _ (by omega),hdn,Nat.sub_self,hdrop,List.set_cons_zero,List.append_assoc]; rfl
    have hself:(dn ++ [y]) ++ dv.drop (i2 + 1) = dn ++ dv.drop i2:=by rw [happ]; exact set_self hyr
    have hskip:∀ b:Bool,(b = true → i2 = r ∨ (g1 == 0) = true) → b = true → elimRows prow r c 0 dv bd0 = ((dn ++ [y]) ++ (elimRows prow r c (i2 + 1) (dv.drop (i2 + 1)) bd).1,(elimRows prow r c (i2 + 1) (dv.drop (i2 + 1)) bd).2):=by
      intro b hb hbt
      have hcond:(i2 == r || zeroQ (cellOf y c)) = true:=by
        rcases hb hbt with h | h
        · rw [h,beq_self_eq_true]; rfl
        · rw [hgc]
          have:zeroQ ((g1,g2),(g3,g4)) = true:=h
          rw [this,Bool.or_true]
      rw [hel,hdrop]
      simp only [elimRows]
      rw [if_pos hcond,List.append_assoc]
      rfl
    rcases hir:((i2:Int) == (r:Int))
    · have hirn:i2 ≠ r:=by intro h; rw [h] at hir; simp at hir
      rcases hgz:(g1 == 0)
      · have hgl:okF ((g1,g2),(g3,g4)):=hyo _ (List.mem_of_getElem? hg)
        simp only [go_sem,reduceIte,yA,yB,yC,yD,yE,yH,reduceCtorEq,yF,yG,yI,h_zero,h0,h1,h2,h112,h113,h114,hm15',hm35',hym,t1,t2,t3,t4,hilt,hil,hcN',hir,hgz,Nat.mul_one]
        refine piv_L3 T h_note h_fSub h_fMul go N r c i2 mem hn4 hn6 hN (dn ++ dv.drop i2) hok2 x y prow hyr hr2 hirn hrN bd g1 g2 g3 g4 hgl _ _ (nextO (m2 148013)) ?_ ?_ ?_ ?_ ?_ ?_ ?_ ?_ ?_ ?_ ((hps2.own (.inr (.inr rfl))).own (.inr (.inr rfl))) ?_
        · exact h0
        · exact h1
        · exact h2
        · rfl
        · rfl
        · exact h112
        · exact h113
        · exact h114
        · rfl
        · simp [updM]
        · intro tm' m' l b k0 k1 k2 k112 k113 k114 hlb hok3 hps3
          simp only [go_sem,reduceIte,yA,yB,yC,yD,yE,yH,reduceCtorEq,yF,yG,yI,h0,h1,h2,k0,k1,k2,k112,k113,k114,hw]
          repeat' (first | refine wpG_not ?_ ?_ | refine wpG_yes ?_ ?_ | refine wpB_not ?_ ?_ | refine wpB_yes ?_ ?_ | refine wpGD_not ?_ ?_ | refine wpGD_yes ?_ ?_) <;> intro h <;> simp only [h,go_sem,reduceIte,yA,yB,yC,yD,yE,yH,reduceCtorEq,yF,yG,yI,h0,h1,h2,k0,k1,k2,k112,k113,k114,hw]
          refine ⟨(i2 + 1,dn ++ [(y.1,y.2.1,l)],b),by dsimp only; omega,by dsimp only; omega,by simp [hdn],?_,by dsimp only; rw [happ]; exact hok3,by dsimp only; rw [happ,List.getElem?_set,if_neg hirn]; exact hr2,rfl,?_⟩
          · have hcond:¬ (i2 == r || zeroQ (cellOf y c)) = true:=by
              rw [hgc]
              have h1:zeroQ ((g1,g2),(g3,g4)) = false:=hgz
              have h2:(i2 == r) = false:=by simpa using hirn
              rw [h1,h2]; simp
            rw [hel,hdrop]
            simp only [elimRows]
            rw [if_neg hcond,hgc,← hlb,List.append_assoc]
            rfl
          · dsimp only
            rw [happ]
            exact hps3
      · simp only [go_sem,reduceIte,yA,yB,yC,yD,yE,yH,reduceCtorEq,yF,yG,yI,h_zero,h0,h1,h2,h112,h113,h114,hm15',hm35',hym,t1,t2,t3,t4,hilt,hil,hcN',hw,hir,hgz,Nat.mul_one]
        repeat' (first | refine wpG_not ?_ ?_ | refine wpG_yes ?_ ?_ | refine wpB_not ?_ ?_ | refine wpB_yes ?_ ?_ | refine wpGD_not ?_ ?_ | refine wpGD_yes ?_ ?_) <;> intro h <;> simp only [h,go_sem,reduceIte,yA,yB,yC,yD,yE,yH,reduceCtorEq,yF,yG,yI,h_zero,h0,h1,h2,h112,h113,h114,hm15',hm35',hym,t1,t2,t3,t4,hilt,hil,hcN',hw,hir,hgz,Nat.mul_one]
        refine ⟨(i2 + 1,dn ++ [y],bd),by dsimp only; omega,by dsimp only; omega,by simp [hdn],hskip true (fun _ => .inr hgz) rfl,by dsimp only; rw [hself]; exact hok2,by dsimp only; rw [hself]; exact hr2,rfl,?_⟩
        dsimp only
        rw [hself]
        exact (hps2.own (.inr (.inr rfl))).own (.inr (.inr rfl))
    · have hirn:i2 = r:=by have h:=beq_iff_eq.1 hir; omega
      simp only [go_sem,reduceIte,yA,yB,yC,yD,yE,yH,reduceCtorEq,yF,yG,yI,h_zero,h0,h1,h2,h112,h113,h114,hm15',hm35',hym,t1,t2,t3,t4,hilt,hil,hcN',hw,hir,Nat.mul_one]
      repeat' (first | refine wpG_not ?_ ?_ | refine wpG_yes ?_ ?_ | refine wpB_not ?_ ?_ | refine wpB_yes ?_ ?_ | refine wpGD_not ?_ ?_ | refine wpGD_yes ?_ ?_) <;> intro h <;> simp only [h,go_sem,reduceIte,yA,yB,yC,yD,yE,yH,reduceCtorEq,yF,yG,yI,h_zero,h0,h1,h2,h112,h113,h114,hm15',hm35',hym,t1,t2,t3,t4,hilt,hil,hcN',hw,hir,Nat.mul_one]
      refine ⟨(i2 + 1,dn ++ [y],bd),by dsimp only; omega,by dsimp only; omega,by simp [hdn],hskip true (fun _ => .inl hirn) rfl,by dsimp only; rw [hself]; exact hok2,by dsimp only; rw [hself]; exact hr2,rfl,?_⟩
      dsimp only
      rw [hself]
      exact (hps2.own (.inr (.inr rfl))).own (.inr (.inr rfl))
  · have hin:i2 = N:=by omega
    have hil:decide ((i2:Int) < (N:Int)) = false:=decide_eq_false (by omega)
    have hnil:dv.drop i2 = []:=List.drop_eq_nil_of_le (by omega)
    rw [hnil] at hel hps2
    simp only [elimRows,List.append_nil] at hel hps2
    rw [hel] at hK
    simp only [go_sem,reduceIte,yA,yB,yC,yD,yE,yH,reduceCtorEq,yF,yG,yI,h0,h1,h2,h112,h113,h114,hm15',hm35',hil]
    repeat' (first | refine wpG_not ?_ ?_ | refine wpG_yes ?_ ?_ | refine wpB_not ?_ ?_ | refine wpB_yes ?_ ?_ | refine wpGD_not ?_ ?_ | refine wpGD_yes ?_ ?_) <;> intro h <;> simp only [h,go_sem,reduceIte,yA,yB,yC,yD,yE,yH,reduceCtorEq,yF,yG,yI,h0,h1,h2,h112,h113,h114,hm15',hm35',hil]
    exact hK _ _ hps2
end Go.Mini
