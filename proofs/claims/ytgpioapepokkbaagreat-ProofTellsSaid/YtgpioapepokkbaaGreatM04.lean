/- A part of the proof. -/
import Derived.Test.YtgpioapepokkbaaGreatM03
set_option linter.unusedSimpArgs false
set_option linter.unusedVariables false
set_option maxRecDepth 100000
set_option maxHeartbeats 4000000
noncomputable section
open Bool renaming and_eq_true->eX,eq_iff_iff->q8,false_and->dm,not_false->cv,not_true->bX,true_and->eF
open Classical renaming byContradiction->lI,choose->tg,choose_spec->pW
open Int renaming fmod_add_mul_fdiv->HN,fmod_lt_of_pos->HP,fmod_nonneg_of_pos->HO,le_refl->ach,lt_or_gt_of_ne->Sm,mul_le_mul_of_nonneg_left->se,mul_le_mul_of_nonneg_right->jz,mul_ne_zero->wR,mul_nonneg->q1,mul_one->o8,natAbs_mul->nz,natAbs_natCast->k3,natAbs_neg->tB,sign_eq_neg_one_of_neg->jY,sign_eq_one_of_pos->fS,sign_mul->mX,sign_trichotomy->GL,sub_zero->wB,zero_mul->AF
open List renaming append_assoc->gZ,append_nil->gk,append_of_mem->abG,cons_append->jc,ext_getElem?->pU,flatMap_append->acv,flatMap_cons->xP,flatMap_def->LM,flatMap_eq_nil_iff->acx,flatMap_nil->acw,getD_eq_getElem?_getD->fP,getElem?_eq_getElem->bL,getElem?_eq_none->nh,getElem?_eq_some_iff->ef,getElem?_inj->aa6,getElem?_map->bb,getElem?_range->s5,getElem?_set->tQ,length->o,length_cons->jN,length_map->af,length_set->kA,map_append->mA,map_congr_left->oV,map_cons->e8,map_map->lX,map_nil->cM,map_set->Hk,mem_append->iK,mem_cons->hF,mem_cons_of_mem->ha,mem_cons_self->gP,mem_filter->Ht,mem_iff_getElem?->xR,mem_map->fZ,mem_map_of_mem->tW,mem_of_getElem?->eN,mem_or_eq_of_mem_set->Dx,mem_range->od,nil_append->ju,range->hR,range_succ->HI,take_add_one->fQ,take_of_length_le->du
open List.cons renaming injEq->bn
open Nat renaming add_comm->xq,eq_zero_or_pos->jo,gcd->gb,le_mul_of_pos_right->Fo,le_of_eq->w6,le_refl->cA,le_trans->eG,lt_of_le_of_lt->q0,lt_or_ge->h1,mul_assoc->A7,mul_comm->pY,mul_le_mul->nL,mul_left_comm->abN,mul_one->dU,mul_pos->S3,one_le_two_pow->Tg,one_pos->S2,pow_add->vk,pow_le_pow_right->u1,pow_lt_pow_right->abT,pow_succ->r6,succ_mul->qD,zero_le->fY
open Option renaming map_eq_some_iff->dI
open Option.some renaming inj->ln,injEq->cz
open Prod renaming ext->dV,fst->wP
open Prod.mk renaming injEq->eU
open Rat renaming add_zero->sD,divInt->kl,divInt_eq_div->S4,div_def->DC,intCast_add->tV,intCast_eq_zero_iff->abR,intCast_mul->oz,intCast_natCast->oA,intCast_sub->Hv,inv_pos->abh,le_refl->gX,le_trans->tT,mul_comm->vl,mul_eq_zero->S8,mul_nonneg->SH,mul_pos->Hq,mul_zero->m2,natCast_mul->LI,one_mul->LF,zero_add->A8,zero_mul->w0
namespace Go.Mini
open Go
def Sa:bP:=b5 19 2 [.t 4] (M [cN 2 115002 0,cj 4 false] (M [bg 5 0 2,bg 6 1 5,a2 7 1 6,cx 8 7,F 9 1,bJ 10 .leq 8 9,F 11 10,⟨some 12,some (11,true),.c3 2 (.t 2)⟩,⟨some 13,some (11,true),.c3 1 (.t 12)⟩,⟨some 14,some (11,true),.load 1 false (.t 13)⟩,⟨some 15,some (11,true),.len (.t 14)⟩,⟨some 16,some (11,true),.ck (.t 1)⟩,⟨some 17,some (11,true),.bin .leq (.t 15) (.t 16)⟩,gI 18 11 17,F 4 18] .ret))
def Sb:bP:=b5 17 2 [.t 4] (M [cN 2 120002 0,cN 3 120003 1,cj 4 false] (M [bg 5 0 2,ba 6 2 5,bg 7 0 3,ba 8 2 7,(b0 9 JP 6 8),F 10 9,⟨some 11,some (10,true),.c3 2 (.t 2)⟩,⟨some 12,some (10,true),.load 2 true (.t 11)⟩,⟨some 13,some (10,true),.c3 2 (.t 3)⟩,⟨some 14,some (10,true),.load 2 true (.t 13)⟩,⟨some 15,some (10,true),.call JP [(.t 12),(.t 14)]⟩,gI 16 10 15,F 4 16] .ret))
def Sc:bP:=b5 13 2 [.cell 4 4 true,.t 5] (M [(aE 4 (.alloc 124004 [(ao 0),.nil,(ao 0),.nil])),bq 5 0] (M [F 6 0,(dg 7 Ck 6),F 8 1,(dg 9 Ck 8),(b0 10 FY 7 9),bx 11 0 10,bx 12 1 10,bu 4 4 11,F 5 12] .ret))
def Sd:bP:=b5 38 2 [.t 4] (M [cN 2 142002 0,cN 3 142003 1,cj 4 false] (.seq (M [bg 6 0 2,a2 7 1 6,bg 8 0 3,a2 9 1 8,bJ 10 .neq 7 9,F 11 10,⟨some 12,some (11,false),.c3 1 (.t 2)⟩,⟨some 13,some (11,false),.load 1 false (.t 12)⟩,⟨some 14,some (11,false),.len (.t 13)⟩,⟨some 15,some (11,false),.c3 1 (.t 3)⟩,⟨some 16,some (11,false),.load 1 false (.t 15)⟩,⟨some 17,some (11,false),.len (.t 16)⟩,⟨some 18,some (11,false),.bin .neq (.t 14) (.t 17)⟩,cX 19 11 18] (aX 19 (M [cj 4 false] .ret) .skip)) (.seq (M [bq 5 0] (.block 0 (.loop  (.seq (M [F 20 5,bg 21 1 2,a2 22 1 21,cx 23 22,bJ 24 .lss 20 23] (aX 24 .skip (.exit 0))) (.seq (.block 1 (eS [bg 27 1 2,a2 28 1 27,F 29 5,cC 30 1 28 29,a2 31 1 30,bg 32 1 3,a2 33 1 32,F 34 5,cC 35 1 33 34,a2 36 1 35,bJ 37 .neq 31 36] O3 (aX 37 (M [cj 4 false] .ret) .skip))) (.ops [F 25 5,bo 26 .add 25 1,F 5 26])))))) (M [cj 4 true] .ret))))
def Se:bP:=b5 57 2 [.cell 4 4 true,.t 5] (M [cN 2 143002 0,cN 3 143003 1,(aE 4 (.alloc 143004 [(ao 0),.nil,(ao 0),.nil])),bq 5 0] (.seq (M [ba 14 2 2,(dg 15 jw 14),dY 16 15,F 17 16,⟨some 18,some (17,false),.load 2 true (.t 3)⟩,⟨some 19,some (17,false),.call jw [(.t 18)]⟩,⟨some 20,some (17,false),.un .not (.t 19)⟩,cX 21 17 20] (aX 21 (M [(aE 22 (.build [(ao 0),.nil,(ao 0),.nil] [])),bu 4 4 22,bq 5 1] .ret) .skip)) (.seq (M [bg 23 0 3,a2 24 1 23,bo 25 .eql 24 0] (aX 25 (M [(aE 26 (.build [(ao 0),.nil,(ao 0),.nil] [])),bu 4 4 26,bq 5 15] .ret) .skip)) (.seq (M [bg 27 0 3,a2 28 1 27,bo 29 .lss 28 0] (aX 29 (M [ba 30 2 2,(dg 31 Cn 30),bu 2 2 31] (.ops [ba 32 2 3,(dg 33 Cn 32),bu 2 3 33])) .skip)) (M [ba 35 2 2,ba 36 2 3,(b0 37 F1 35 36),F 34 37,bx 38 0 34,bx 39 1 34,(aE 6 (.alloc 143006 [(ao 0),.nil])),bu 2 6 38,F 7 39] (M [ba 41 2 2,ba 42 2 6,(b0 43 zZ 41 42),F 40 43,bx 44 0 40,bx 45 1 40,bx 46 2 40,(aE 8 (.alloc 143008 [(ao 0),.nil])),(aE 9 (.alloc 143009 [(ao 0),.nil])),bu 2 8 44,bu 2 9 45,F 10 46] (M [ba 48 2 3,ba 49 2 6,(b0 50 zZ 48 49),F 47 50,bx 51 0 47,bx 52 1 47,bx 53 2 47,(aE 11 (.alloc 143011 [(ao 0),.nil])),(aE 12 (.alloc 143012 [(ao 0),.nil])),bu 2 11 51,bu 2 12 52,F 13 53] (M [ba 54 2 8,ba 55 2 11,(aE 56 (.build [(ao 0),.nil,(ao 0),.nil] [(0,2,(.t 54)),(2,2,(.t 55))])),bu 4 4 56,bq 5 0] .ret))))))))
def Sf:bP:=b5 72 2 [.cell 4 4 true,.t 5] (M [cN 2 195002 0,cN 3 195003 1,(aE 4 (.alloc 195004 [(ao 0),.nil,(ao 0),.nil])),bq 5 0] (.seq (M [ba 14 4 2,(dg 15 kZ 14),dY 16 15,F 17 16,⟨some 18,some (17,false),.load 4 true (.t 3)⟩,⟨some 19,some (17,false),.call kZ [(.t 18)]⟩,⟨some 20,some (17,false),.un .not (.t 19)⟩,cX 21 17 20] (aX 21 (M [(aE 22 (.build [(ao 0),.nil,(ao 0),.nil] [])),bu 4 4 22,bq 5 1] .ret) .skip)) (M [bg 24 0 2,ba 25 2 24,bg 26 2 3,ba 27 2 26,(b0 28 o7 25 27),F 23 28,bx 29 0 23,bx 30 1 23,(aE 6 (.alloc 195006 [(ao 0),.nil])),bu 2 6 29,F 7 30] (M [bg 32 0 3,ba 33 2 32,bg 34 2 2,ba 35 2 34,(b0 36 o7 33 35),F 31 36,bx 37 0 31,bx 38 1 31,(aE 8 (.alloc 195008 [(ao 0),.nil])),bu 2 8 37,F 9 38] (M [bg 40 2 2,ba 41 2 40,bg 42 2 3,ba 43 2 42,(b0 44 o7 41 43),F 39 44,bx 45 0 39,bx 46 1 39,(aE 10 (.alloc 195010 [(ao 0),.nil])),bu 2 10 45,F 11 46] (M [ba 48 2 6,ba 49 2 8,(b0 50 Ow 48 49),F 47 50,bx 51 0 47,bx 52 1 47,(aE 12 (.alloc 195012 [(ao 0),.nil])),bu 2 12 51,F 13 52] (M [ba 53 2 12,ba 54 2 10,F 55 7,bo 56 .neq 55 0,F 57 56,⟨some 58,some (57,false),.ck (.t 9)⟩,⟨some 59,some (57,false),.bin .neq (.t 58) (.c (ao 0))⟩,cX 60 57 59,F 61 60,⟨some 62,some (61,false),.ck (.t 11)⟩,⟨some 63,some (61,false),.bin .neq (.t 62) (.c (ao 0))⟩,cX 64 61 63,F 65 64,⟨some 66,some (65,false),.ck (.t 13)⟩,⟨some 67,some (65,false),.bin .neq (.t 66) (.c (ao 0))⟩,cX 68 65 67,(ns 69 wi 53 54 68),bx 70 0 69,bx 71 1 69,bu 4 4 70,F 5 71] .ret)))))))
def Sg:bP:=b5 33 1 [.t 2] (M [cN 1 196001 0,cj 2 false] (.seq (M [bg 5 0 1,ba 6 2 5,(dg 7 jw 6),dY 8 7,F 9 8,⟨some 10,some (9,false),.c3 2 (.t 1)⟩,⟨some 11,some (9,false),.load 2 true (.t 10)⟩,⟨some 12,some (9,false),.call jw [(.t 11)]⟩,⟨some 13,some (9,false),.un .not (.t 12)⟩,cX 14 9 13,F 15 14,⟨some 16,some (15,false),.c3 2 (.t 1)⟩,⟨some 17,some (15,false),.c3 0 (.t 16)⟩,⟨some 18,some (15,false),.load 1 false (.t 17)⟩,⟨some 19,some (15,false),.bin .lss (.t 18) (.c (ao 1))⟩,cX 20 15 19] (aX 20 (M [cj 2 false] .ret) .skip)) (M [bg 22 0 1,ba 23 2 22,bg 24 2 1,ba 25 2 24,(b0 26 F1 23 25),F 21 26,bx 27 0 21,bx 28 1 21,(aE 3 (.alloc 196003 [(ao 0),.nil])),bu 2 3 27,F 4 28] (eS [ba 29 2 3,(aE 30 (.call Ck [(.c (ao 1))])),(b0 31 F5 29 30),bo 32 .eql 31 0,F 2 32] YQ .ret))))
def Sh:bP:=b5 46 2 [.cell 4 4 true,.t 5] (M [cN 2 197002 0,cN 3 197003 1,(aE 4 (.alloc 197004 [(ao 0),.nil,(ao 0),.nil])),bq 5 0] (.seq (M [ba 10 4 2,(dg 11 kZ 10),dY 12 11,F 13 12,⟨some 14,some (13,false),.load 4 true (.t 3)⟩,⟨some 15,some (13,false),.call kZ [(.t 14)]⟩,⟨some 16,some (13,false),.un .not (.t 15)⟩,cX 17 13 16] (aX 17 (M [(aE 18 (.build [(ao 0),.nil,(ao 0),.nil] [])),bu 4 4 18,bq 5 1] .ret) .skip)) (M [bg 20 0 2,ba 21 2 20,bg 22 0 3,ba 23 2 22,(b0 24 o7 21 23),F 19 24,bx 25 0 19,bx 26 1 19,(aE 6 (.alloc 197006 [(ao 0),.nil])),bu 2 6 25,F 7 26] (M [bg 28 2 2,ba 29 2 28,bg 30 2 3,ba 31 2 30,(b0 32 o7 29 31),F 27 32,bx 33 0 27,bx 34 1 27,(aE 8 (.alloc 197008 [(ao 0),.nil])),bu 2 8 33,F 9 34] (M [ba 35 2 6,ba 36 2 8,F 37 7,bo 38 .neq 37 0,F 39 38,⟨some 40,some (39,false),.ck (.t 9)⟩,⟨some 41,some (39,false),.bin .neq (.t 40) (.c (ao 0))⟩,cX 42 39 41,(ns 43 wi 35 36 42),bx 44 0 43,bx 45 1 43,bu 4 4 44,F 5 45] .ret)))))
def Si:bP:=b5 72 2 [.cell 4 4 true,.t 5] (M [cN 2 198002 0,cN 3 198003 1,(aE 4 (.alloc 198004 [(ao 0),.nil,(ao 0),.nil])),bq 5 0] (.seq (M [ba 14 4 2,(dg 15 kZ 14),dY 16 15,F 17 16,⟨some 18,some (17,false),.load 4 true (.t 3)⟩,⟨some 19,some (17,false),.call kZ [(.t 18)]⟩,⟨some 20,some (17,false),.un .not (.t 19)⟩,cX 21 17 20] (aX 21 (M [(aE 22 (.build [(ao 0),.nil,(ao 0),.nil] [])),bu 4 4 22,bq 5 1] .ret) .skip)) (M [bg 24 0 2,ba 25 2 24,bg 26 2 3,ba 27 2 26,(b0 28 o7 25 27),F 23 28,bx 29 0 23,bx 30 1 23,(aE 6 (.alloc 198006 [(ao 0),.nil])),bu 2 6 29,F 7 30] (M [bg 32 0 3,ba 33 2 32,bg 34 2 2,ba 35 2 34,(b0 36 o7 33 35),F 31 36,bx 37 0 31,bx 38 1 31,(aE 8 (.alloc 198008 [(ao 0),.nil])),bu 2 8 37,F 9 38] (M [bg 40 2 2,ba 41 2 40,bg 42 2 3,ba 43 2 42,(b0 44 o7 41 43),F 39 44,bx 45 0 39,bx 46 1 39,(aE 10 (.alloc 198010 [(ao 0),.nil])),bu 2 10 45,F 11 46] (M [ba 48 2 6,ba 49 2 8,(b0 50 F6 48 49),F 47 50,bx 51 0 47,bx 52 1 47,(aE 12 (.alloc 198012 [(ao 0),.nil])),bu 2 12 51,F 13 52] (M [ba 53 2 12,ba 54 2 10,F 55 7,bo 56 .neq 55 0,F 57 56,⟨some 58,some (57,false),.ck (.t 9)⟩,⟨some 59,some (57,false),.bin .neq (.t 58) (.c (ao 0))⟩,cX 60 57 59,F 61 60,⟨some 62,some (61,false),.ck (.t 11)⟩,⟨some 63,some (61,false),.bin .neq (.t 62) (.c (ao 0))⟩,cX 64 61 63,F 65 64,⟨some 66,some (65,false),.ck (.t 13)⟩,⟨some 67,some (65,false),.bin .neq (.t 66) (.c (ao 0))⟩,cX 68 65 67,(ns 69 wi 53 54 68),bx 70 0 69,bx 71 1 69,bu 4 4 70,F 5 71] .ret)))))))
def Sj:bP:=b5 15 3 [.cell 6 4 true,.t 7] (M [cN 3 204003 0,cN 4 204004 1,(aE 6 (.alloc 204006 [(ao 0),.nil,(ao 0),.nil])),bq 7 0] (.seq (M [F 8 2] (aX 8 (M [(aE 9 (.build [(ao 0),.nil,(ao 0),.nil] [])),bu 4 6 9,bq 7 6] .ret) .skip)) (M [ba 10 2 3,ba 11 2 4,(b0 12 FY 10 11),bx 13 0 12,bx 14 1 12,bu 4 6 13,F 7 14] .ret)))
def Sk:bP:=b5 51 2 [.cell 4 4 true,.t 5] (M [cN 2 207002 0,cN 3 207003 1,(aE 4 (.alloc 207004 [(ao 0),.nil,(ao 0),.nil])),bq 5 0] (.seq (M [ba 10 4 2,(dg 11 kZ 10),dY 12 11,F 13 12,⟨some 14,some (13,false),.load 4 true (.t 3)⟩,⟨some 15,some (13,false),.call kZ [(.t 14)]⟩,⟨some 16,some (13,false),.un .not (.t 15)⟩,cX 17 13 16] (aX 17 (M [(aE 18 (.build [(ao 0),.nil,(ao 0),.nil] [])),bu 4 4 18,bq 5 1] .ret) .skip)) (.seq (M [bg 19 0 3,bg 20 0 19,a2 21 1 20,bo 22 .eql 21 0] (aX 22 (M [(aE 23 (.build [(ao 0),.nil,(ao 0),.nil] [])),bu 4 4 23,bq 5 15] .ret) .skip)) (M [bg 25 0 2,ba 26 2 25,bg 27 2 3,ba 28 2 27,(b0 29 o7 26 28),F 24 29,bx 30 0 24,bx 31 1 24,(aE 6 (.alloc 207006 [(ao 0),.nil])),bu 2 6 30,F 7 31] (M [bg 33 2 2,ba 34 2 33,bg 35 0 3,ba 36 2 35,(b0 37 o7 34 36),F 32 37,bx 38 0 32,bx 39 1 32,(aE 8 (.alloc 207008 [(ao 0),.nil])),bu 2 8 38,F 9 39] (M [ba 40 2 6,ba 41 2 8,F 42 7,bo 43 .neq 42 0,F 44 43,⟨some 45,some (44,false),.ck (.t 9)⟩,⟨some 46,some (44,false),.bin .neq (.t 45) (.c (ao 0))⟩,cX 47 44 46,(ns 48 wi 40 41 47),bx 49 0 48,bx 50 1 48,bu 4 4 49,F 5 50] .ret))))))
def Sl:bP:=b5 22 2 [.t 4] (M [cN 2 270002 0,cN 3 270003 1,bq 4 0] (.seq (M [ba 5 4 2,(dg 6 kZ 5),dY 7 6,F 8 7,⟨some 9,some (8,false),.load 4 true (.t 3)⟩,⟨some 10,some (8,false),.call kZ [(.t 9)]⟩,⟨some 11,some (8,false),.un .not (.t 10)⟩,cX 12 8 11] (aX 12 (M [bq 4 0] .ret) .skip)) (M [bg 13 0 2,ba 14 2 13,bg 15 2 2,ba 16 2 15,bg 17 0 3,ba 18 2 17,bg 19 2 3,ba 20 2 19,(Cx 21 Cu 14 16 18 20),F 4 21] .ret)))
def Ld:bP:=b5 54 4 [.t 8] (M [cN 4 278004 0,cN 5 278005 1,cN 6 278006 2,cN 7 278007 3,bq 8 0] (M [ba 17 2 4,ba 18 2 5,(b0 19 zZ 17 18),F 16 19,bx 20 0 16,bx 21 1 16,bx 22 2 16,(aE 9 (.alloc 278009 [(ao 0),.nil])),(aE 10 (.alloc 278010 [(ao 0),.nil])),bu 2 9 20,bu 2 10 21,F 11 22] (M [ba 24 2 6,ba 25 2 7,(b0 26 zZ 24 25),F 23 26,bx 27 0 23,bx 28 1 23,bx 29 2 23,(aE 12 (.alloc 278012 [(ao 0),.nil])),(aE 13 (.alloc 278013 [(ao 0),.nil])),bu 2 12 27,bu 2 13 28,F 14 29] (M [ba 30 2 9,ba 31 2 12,(b0 32 F5 30 31),F 15 32] (.seq (M [F 33 15,bo 34 .neq 33 0] (aX 34 (M [F 35 15,F 8 35] .ret) .skip)) (.seq (M [bg 36 0 10,a2 37 1 36,bo 38 .eql 37 0,F 39 38,⟨some 40,some (39,false),.c3 0 (.t 13)⟩,⟨some 41,some (39,false),.load 1 false (.t 40)⟩,⟨some 42,some (39,false),.bin .eql (.t 41) (.c (ao 0))⟩,cX 43 39 42] (aX 43 (M [bg 44 0 10,a2 45 1 44,bg 46 0 13,a2 47 1 46,bJ 48 .sub 45 47,F 8 48] .ret) .skip)) (M [ba 49 2 7,ba 50 2 13,ba 51 2 5,ba 52 2 10,(Cx 53 Cu 49 50 51 52),F 8 53] .ret)))))))
def Le:=bU nA λ(s,l,s2,ab)=>cq (o l<=1000000/\o ab<=1000000) (.same (cO (fM (s,l) (s2,ab))))
@[go_sem] theorem azA (s:Int)(l:List Int)(s2:Int)(ab:List Int)(E:(o l)<=1000000/\o ab<=1000000):Le [.agg [.int .i64 s,.X (l.map Y)],.agg [.int .i64 s2,.X (ab.map Y)]]=some (.same (cO (fM (s,l) (s2,ab)))):=(b3 ph (s,l,s2,ab)).trans (cw E _)
theorem amh (T:br)(dH:T jw=aK tJ)(yA:T Cn=aK K5)(qc:T F1=aK La)(qd:T zZ=aK Lc)(s:Int)(l:List Int)(s2:Int)(ab:List Int)(E:(o l)<=1000000/\o ab<=1000000):WP T Se (.same (cO (fM (s,l) (s2,ab)))) [.J (.agg [.int .i64 s,.X (l.map Y)]),.J (.agg [.int .i64 s2,.X (ab.map Y)])]:=by
 refine b4 ?_;simp only[Se];obtain⟨bk,bp⟩:=E
 by_cases U:cV (s,l)=true
 ·by_cases aZ:cV (s2,ab)=true
  ·obtain⟨x,I,e⟩:=(gR _).1 U;obtain⟨y,ak,aB⟩:=(gR _).1 aZ
   by_cases au:y=0
   ·have hm:fM (s,l) (s2,ab)=(ei,15):=by
     unfold fM;rw[U,aZ,aB,eo,aj (by rfl),aj au]
    rw[hm]
    cases e
    cases aB;have aa:(y.sign==0)=true:=by rw[au];rfl
    refine aQ ?_;repeat' (intro h<;>simp only[h,go_sem,go_sem_proc,dH,yA,qc,qd,U,aZ,bk,bp,aa,cO,aH,ei,cM]<;>try refine al ?_ ?_)
   ·have main:∀p q:Int,p.natAbs<c9->q.natAbs<c9->0<q->∃g:Raw,jC (bc p) (bc q)=(g,0)/\g.2.length<=1000000/\ji (bc p) g=(bc (kl p q).num,bc (p.fmod ((gb p.natAbs q.natAbs:Nat):Int)),0)/\ji (bc q) g=(bc (kl p q).den,bc (q.fmod ((gb p.natAbs q.natAbs:Nat):Int)),0):=by
     intro p q aG aF kD;have nC:=CZ aG aF;have AQ:((gb p.natAbs q.natAbs:Nat):Int).natAbs<c9:=by rw[k3];exact nC
     have Kj:=QN (p:=p) (q:=q) (by omega);obtain⟨D,G⟩:=QM (p:=p) kD;refine⟨bc ((gb p.natAbs q.natAbs:Nat):Int),?_,hX AQ,?_,?_⟩
     ·unfold jC;rw[iO aG,iO aF,eo,eo];rfl
     ·rw[wK aG AQ (by omega),D]
     ·rw[wK aF AQ (by omega),G]
    have p7:(y.sign==0)=false:=by simpa using au
    rcases Sm au with jf|hT
    ·have g3:decide (y.sign<0)=true:=by rw[jY jf];rfl
     obtain⟨⟨dh,cR⟩,bw,nC,jy,lB⟩:=main (-x) (-y) (by omega) (by omega) (by omega)
     have hm:fM (s,l) (s2,ab)=(ai (kl (-x) (-y)),0):=by
      rw[e,aB,yo I ak au,Rat.neg_divInt_neg]
     rw[hm];have oO:gn (s,l)=bc (-x):=by unfold gn;rw[aj U,e,eo]
     have pS:gn (s2,ab)=bc (-y):=by unfold gn;rw[aj aZ,aB,eo]
     have yp:s2=y.sign:=congrArg wP aB;have dW:(bc (-x)).2.length<=1000000:=hX (by omega);have ez:(bc (-y)).2.length<=1000000:=hX (by omega);clear e aB;unfold ai;generalize bc (-x)=dR at *;generalize bc (-y)=fs at *;obtain⟨aV,bG⟩:=dR;obtain⟨x2,Gw⟩:=fs;rw[<-yp] at p7 g3;refine aQ ?_;repeat' (intro h<;>simp only[h,go_sem,go_sem_proc,dH,yA,qc,qd,U,aZ,bk,bp,p7,g3,oO,pS,dW,ez,bw,nC,jy,lB,cO,aH,c0,fw,bF]<;>try refine al ?_ ?_)
    ·have g3:decide (y.sign<0)=false:=by rw[fS hT];rfl
     obtain⟨⟨dh,cR⟩,bw,nC,jy,lB⟩:=main x y I ak hT
     have hm:fM (s,l) (s2,ab)=(ai (kl x y),0):=by
      rw[e,aB,yo I ak au]
     rw[hm];have yp:s2=y.sign:=congrArg wP aB;rw[<-e] at bw jy;rw[<-aB] at bw lB;rw[<-yp] at p7 g3;unfold ai;refine aQ ?_;repeat' (intro h<;>simp only[h,go_sem,go_sem_proc,dH,yA,qc,qd,U,aZ,bk,bp,p7,g3,bw,nC,jy,lB,cO,aH,c0,fw,bF]<;>try refine al ?_ ?_)
  ·have aZ:cV (s2,ab)=false:=by simpa using aZ
   have hm:fM (s,l) (s2,ab)=(ei,1):=by unfold fM;rw[aZ,Bool.and_false];rfl
   rw[hm];refine aQ ?_;repeat' (intro h<;>simp only[h,go_sem,go_sem_proc,dH,yA,qc,qd,U,aZ,bk,bp,cO,aH,ei,cM]<;>try refine al ?_ ?_)
 ·have U:cV (s,l)=false:=by simpa using U
  have hm:fM (s,l) (s2,ab)=(ei,1):=by unfold fM;rw[U,dm];rfl
  rw[hm];refine aQ ?_;repeat' (intro h<;>simp only[h,go_sem,go_sem_proc,dH,yA,qc,qd,U,bk,bp,cO,aH,ei,cM]<;>try refine al ?_ ?_)
def Dp:=bU Ah λ(p,q)=>cq (c8 p/\c8 q) (.same (cO (fM (bc p) (bc q))))
@[go_sem] theorem ami (p:Int)(q:Int)(E:c8 p/\c8 q):Dp [.int .i64 p,.int .i64 q]=some (.same (cO (fM (bc p) (bc q)))):=(b3 Gr (p,q)).trans (cw E _)
theorem amj (T:br)(ve:T Ck=aK K6)(Lf:T FY=aK Le)(p:Int)(q:Int)(E:c8 p/\c8 q):WP T Sc (.same (cO (fM (bc p) (bc q)))) [.J (.int .i64 p),.J (.int .i64 q)]:=by
 refine b4 ?_;simp only[Sc];obtain⟨D,G⟩:=E;have fK:(bc p).2.length<=1000000:=hX (u9 D);have ab:(bc q).2.length<=1000000:=hX (u9 G);generalize hk:bc p=P at *;generalize fr:bc q=aT at *;obtain⟨aV,bG⟩:=P;obtain⟨x2,Gw⟩:=aT;refine aQ ?_;repeat' (intro h<;>simp only[h,go_sem,go_sem_proc,ve,Lf,D,G,hk,fr,fK,ab,bF,cO,aH]<;>try refine al ?_ ?_)
def Sn:=bU nA λ(s,l,s2,ab)=>cq (o l<=1000000/\o ab<=1000000) (.same (.bool (mz (s,l) (s2,ab))))
@[go_sem] theorem azB (s:Int)(l:List Int)(s2:Int)(ab:List Int)(E:(o l)<=1000000/\o ab<=1000000):Sn [.agg [.int .i64 s,.X (l.map Y)],.agg [.int .i64 s2,.X (ab.map Y)]]=some (.same (.bool (mz (s,l) (s2,ab)))):=(b3 ph (s,l,s2,ab)).trans (cw E _)
theorem amk (T:br)  (s:Int) (l:List Int) (s2:Int) (ab:List Int) (E:(o l)<=1000000/\o ab<=1000000):WP T Sd (.same (.bool (mz (s,l) (s2,ab)))) [.J (.agg [.int .i64 s,.X (l.map Y)]),.J (.agg [.int .i64 s2,.X (ab.map Y)])]:=by
 refine b4 ?_;simp only[Sd];obtain⟨bk,bp⟩:=E
 by_cases aa:s=s2
 ·subst aa
  by_cases ax:(o l)=o ab
  ·have aw:(((o l:Nat):Int)==((o ab:Nat):Int))=true:=by simp;omega
   simp only[go_sem,go_sem_proc,beq_self_eq_true,af,aw,bX,bne];refine dw [2,3] [142002,142003] (λ(i:Nat) tm mem=>i<=o l/\l.take i=ab.take i/\tm 5=.J (.int .i64 i)) (λi=>o l-i) 0 (by refine⟨by omega,by simp,rfl⟩) ?_;intro vs ms a7 aY;simp only[go_sem,go_sem_proc,af] at a7 aY;subst a7 aY;rintro i tm mem R hm ⟨Q,aN,bs⟩;simp only[go_sem,go_sem_proc,bn] at R hm;obtain⟨G,ag⟩:=R;obtain⟨cE,hv⟩:=hm;rcases Decidable.em (i<o l) with az|cb
   ·have I:l[i]?=some l[i]:=bL az;have ak:ab[i]?=some ab[i]:=bL (by omega);have oO:l.take (i+1)=l.take i++[l[i]]:=by rw[fQ,I];rfl
    have pS:ab.take (i+1)=ab.take i++[ab[i]]:=by rw[fQ,ak];rfl
    generalize l[i]=x at *;generalize ab[i]=y at *;have d1:decide ((i:Int)<(o l:Int))=true:=dn;have cn:=eY (i:=i) (by omega)
    by_cases gw:x=y
    ·subst gw;simp only[go_sem,go_sem_proc,G,ag,bs,cE,hv,I,ak,d1,cn,Y,af,bb,bn,beq_self_eq_true,bX];repeat' (first|refine al ?_ ?_|fail)<;>intro h<;>simp only[h,go_sem,go_sem_proc,G,ag,bs,cE,hv,I,ak,d1,cn,Y,af,bb,bn,beq_self_eq_true,bX]
     exact⟨i+1,by omega,by omega,by rw[oO,pS,aN],rfl⟩
    ·have bZ:(x==y)=false:=by simpa using gw
     have U:mz (s,l) (s,ab)=false:=by
      refine gr λh=>gw ?_;rw[eU] at h;rw[h.2,ak] at I;exact (ln I).symm
     rw[U];simp only[go_sem,go_sem_proc,G,ag,bs,cE,hv,I,ak,d1,cn,bZ,Y,af,bb,bn,cv];repeat' (first|refine al ?_ ?_|fail)<;>intro h<;>simp only[h,go_sem,go_sem_proc,G,ag,bs,cE,hv,I,ak,d1,cn,bZ,Y,af,bb,bn,cv]
   ·have d1:decide ((i:Int)<(o l:Int))=false:=cY
    have U:mz (s,l) (s,ab)=true:=by
     refine hc ?_;rw[du (by omega),du (by omega)] at aN;rw[aN]
    rw[U];simp only[go_sem,go_sem_proc,G,ag,bs,cE,hv,d1,af];repeat' (first|refine al ?_ ?_|fail)<;>intro h<;>simp only[h,go_sem,go_sem_proc,G,ag,bs,cE,hv,d1,af]
  ·have aw:(((o l:Nat):Int)==((o ab:Nat):Int))=false:=by simp;omega
   have U:mz (s,l) (s,ab)=false:=by
    refine gr λh=>ax ?_;rw[eU] at h;rw[h.2]
   rw[U];simp only[go_sem,go_sem_proc,beq_self_eq_true,af,aw,bX,cv,bne];repeat' (first|refine al ?_ ?_|fail)<;>intro h<;>simp only[h,go_sem,go_sem_proc,beq_self_eq_true,af,aw,bX,cv,bne]
 ·have bZ:(s==s2)=false:=by simpa using aa
  have U:mz (s,l) (s2,ab)=false:=by
   refine gr λh=>aa ?_;rw[eU] at h;exact h.1
  rw[U];simp only[go_sem,go_sem_proc,bZ,af,bX,cv,bne];repeat' (first|refine al ?_ ?_|fail)<;>intro h<;>simp only[h,go_sem,go_sem_proc,bZ,af,bX,cv,bne]
def AW (a b:bd):Bool:=decide (a=b)
def Hi:=bU pn λ(s,l,s2,ab,bD,bj,bE,bh)=>cq (o l<=1000000/\o ab<=1000000/\o bj<=1000000/\o bh<=1000000) (.same (.bool (AW ((s,l),(s2,ab)) ((bD,bj),(bE,bh)))))
@[go_sem] theorem aml (s:Int)(l:List Int)(s2:Int)(ab:List Int)(bD:Int)(bj:List Int)(bE:Int)(bh:List Int)(E:(o l)<=1000000/\o ab<=1000000/\o bj<=1000000/\o bh<=1000000):Hi [.agg [.int .i64 s,.X (l.map Y),.int .i64 s2,.X (ab.map Y)],.agg [.int .i64 bD,.X (bj.map Y),.int .i64 bE,.X (bh.map Y)]]=some (.same (.bool (AW ((s,l),(s2,ab)) ((bD,bj),(bE,bh))))):=(b3 q9 (s,l,s2,ab,bD,bj,bE,bh)).trans (cw E _)
theorem amm (T:br)(aaY:T JP=aK Sn)(s:Int)(l:List Int)(s2:Int)(ab:List Int)(bD:Int)(bj:List Int)(bE:Int)(bh:List Int)(E:(o l)<=1000000/\o ab<=1000000/\o bj<=1000000/\o bh<=1000000):WP T Sb (.same (.bool (AW ((s,l),(s2,ab)) ((bD,bj),(bE,bh))))) [.J (.agg [.int .i64 s,.X (l.map Y),.int .i64 s2,.X (ab.map Y)]),.J (.agg [.int .i64 bD,.X (bj.map Y),.int .i64 bE,.X (bh.map Y)])]:=by
 refine b4 ?_;simp only[Sb];obtain⟨bk,bp,dW,ez⟩:=E
 have e:AW ((s,l),(s2,ab)) ((bD,bj),(bE,bh))=(mz (s,l) (bD,bj)&&mz (s2,ab) (bE,bh)):=by
  unfold AW mz;rw[q8,eX,decide_eq_true_eq,decide_eq_true_eq,decide_eq_true_eq,eU]
 rw[e];rcases D:mz (s,l) (bD,bj)
 ·refine aQ ?_;repeat' (intro h<;>simp only[h,go_sem,go_sem_proc,aaY,bk,bp,dW,ez,D,dm]<;>try refine al ?_ ?_)
 ·refine aQ ?_;repeat' (intro h<;>simp only[h,go_sem,go_sem_proc,aaY,bk,bp,dW,ez,D,eF]<;>try refine al ?_ ?_)
def nG (f:bd)(n:Int):Bool:=decide ((f.1.2.length:Int)<=n)&&decide ((f.2.2.length:Int)<=n)
abbrev Sp:Int×(List Int)×Int×(List Int)×Int->List Data:=λ(s,l,s2,ab,n)=>[.agg [.int .i64 s,.X (l.map Y),.int .i64 s2,.X (ab.map Y)],.int .i64 n]
def Sq:=bU Sp λ(s,l,s2,ab,n)=>some (.same (.bool (nG ((s,l),(s2,ab)) n)))
theorem amn:∀a b,Sp a=Sp b->a=b:=by
  rintro⟨s1,fK,Ay,Az,mO⟩ ⟨s2,ab,AA,AB,mP⟩ h;simp only[bn,Data.agg.injEq,Data.int.injEq,Data.X.injEq] at h;exact dV h.1.1.2 (dV (map_inj eR _ _ h.1.2.1) (dV h.1.2.2.1.2 (dV (map_inj eR _ _ h.1.2.2.2.1) h.2.1.2)))
@[go_sem] theorem azC (s:Int)(l:List Int)(s2:Int)(ab:List Int)(n:Int):Sq [.agg [.int .i64 s,.X (l.map Y),.int .i64 s2,.X (ab.map Y)],.int .i64 n]=some (.same (.bool (nG ((s,l),(s2,ab)) n))):=b3 amn (s,l,s2,ab,n)
theorem amo (T:br)  (s:Int) (l:List Int) (s2:Int) (ab:List Int) (n:Int):WP T Sa (.same (.bool (nG ((s,l),(s2,ab)) n))) [.J (.agg [.int .i64 s,.X (l.map Y),.int .i64 s2,.X (ab.map Y)]),.J (.int .i64 n)]:=by
 refine b4 ?_;simp only[Sa];unfold nG;rcases D:decide ((o l:Int)<=n)
 ·refine aQ ?_;repeat' (intro h<;>simp only[h,go_sem,go_sem_proc,D,af,dm]<;>try refine al ?_ ?_)
 ·refine aQ ?_;repeat' (intro h<;>simp only[h,go_sem,go_sem_proc,D,af,eF]<;>try refine al ?_ ?_)
def tL:=bU AP λ(s,l,s2,ab)=>cq (o l<=1000000/\o ab<=1000000) (.same (.bool (cU ((s,l),(s2,ab)))))
@[go_sem] theorem amp (s:Int)(l:List Int)(s2:Int)(ab:List Int)(E:(o l)<=1000000/\o ab<=1000000):tL [.agg [.int .i64 s,.X (l.map Y),.int .i64 s2,.X (ab.map Y)]]=some (.same (.bool (cU ((s,l),(s2,ab))))):=(b3 GS (s,l,s2,ab)).trans (cw E _)
theorem amq (T:br)(dH:T jw=aK tJ)(qc:T F1=aK La)(ve:T Ck=aK K6)(nH:T F5=aK K8)(s:Int)(l:List Int)(s2:Int)(ab:List Int)(E:(o l)<=1000000/\o ab<=1000000):WP T Sg (.same (.bool (cU ((s,l),(s2,ab))))) [.J (.agg [.int .i64 s,.X (l.map Y),.int .i64 s2,.X (ab.map Y)])]:=by
 refine b4 ?_;simp only[Sg];obtain⟨bk,bp⟩:=E
 by_cases U:cV (s,l)=true
 ·by_cases aZ:cV (s2,ab)=true
  ·obtain⟨x,I,e⟩:=(gR _).1 U;obtain⟨y,ak,aB⟩:=(gR _).1 aZ
   have bw:jC (s,l) (s2,ab)=(bc ((gb x.natAbs y.natAbs:Nat):Int),0):=by
    unfold jC;rw[U,aZ,e,aB,eo,eo];rfl
   have nC:=CZ I ak;have kS:ga (s,l)=x:=by rw[e,eo]
   have lV:ga (s2,ab)=y:=by rw[aB,eo]
   have dk:cU ((s,l),(s2,ab))=((s2==1)&&(gb x.natAbs y.natAbs==1)):=by
    show (cV (s,l)&&(cV (s2,ab)&&((s2==1)&&(gb (ga (s,l)).natAbs (ga (s2,ab)).natAbs==1))))=_;rw[U,aZ,kS,lV];simp only[eF]
   have yp:s2=y.sign:=congrArg wP aB;have ZZ:=lE y;rw[dk];have kt:l1 (bc ((gb x.natAbs y.natAbs:Nat):Int)) (bc 1)=fh ((gb x.natAbs y.natAbs:Nat):Int) 1:=GN (by rw[k3];exact nC) (u9 (by unfold c8;omega))
   have bM:(fh ((gb x.natAbs y.natAbs:Nat):Int) 1==0)=(gb x.natAbs y.natAbs==1):=by
    generalize gb x.natAbs y.natAbs=cW;rw[q8,beq_iff_eq,beq_iff_eq];rcases Int.lt_trichotomy (cW:Int) 1 with h|h|h
    ·rw[wI h];omega
    ·rw[h,CY];omega
    ·rw[AD h];omega
   have KO:((bc ((gb x.natAbs y.natAbs:Nat):Int)).2).length<=1000000:=hX (by rw[k3];exact nC);have vK:c8 1:=by unfold c8;omega
   have C0:(bc 1).2.length<=1000000:=hX (u9 vK);rcases aa:decide (s2<1)
   ·have g3:(s2==1)=true:=by have:=of_decide_eq_false aa;rw[beq_iff_eq];omega
    rw[g3,eF,<-bM];generalize fh ((gb x.natAbs y.natAbs:Nat):Int) 1=C at *;generalize bc ((gb x.natAbs y.natAbs:Nat):Int)=cW at *;generalize fo:bc 1=aS at *;obtain⟨dh,cR⟩:=cW;obtain⟨lH,kn⟩:=aS;simp only[go_sem,go_sem_proc,dH,qc,ve,nH,U,aZ,bk,bp,aa,bw,KO,vK,C0,kt,fo,c0,bF];repeat' (first|refine al ?_ ?_|fail)<;>intro h<;>simp only[h,go_sem,go_sem_proc,dH,qc,ve,nH,U,aZ,bk,bp,aa,bw,KO,vK,C0,kt,fo,c0,bF]
   ·have g3:(s2==1)=false:=by have:=of_decide_eq_true aa;rw[beq_eq_false_iff_ne];omega
    rw[g3,dm];simp only[go_sem,go_sem_proc,dH,qc,ve,nH,U,aZ,bk,bp,aa];repeat' (first|refine al ?_ ?_|fail)<;>intro h<;>simp only[h,go_sem,go_sem_proc,dH,qc,ve,nH,U,aZ,bk,bp,aa]
  ·have aZ:cV (s2,ab)=false:=by simpa using aZ
   have dk:cU ((s,l),(s2,ab))=false:=by unfold cU;simp[aZ]
   rw[dk];simp only[go_sem,go_sem_proc,dH,qc,ve,nH,U,aZ,bk,bp];repeat' (first|refine al ?_ ?_|fail)<;>intro h<;>simp only[h,go_sem,go_sem_proc,dH,qc,ve,nH,U,aZ,bk,bp]
 ·have U:cV (s,l)=false:=by simpa using U
  have dk:cU ((s,l),(s2,ab))=false:=by unfold cU;simp[U]
  rw[dk];simp only[go_sem,go_sem_proc,dH,qc,ve,nH,U,bk,bp];repeat' (first|refine al ?_ ?_|fail)<;>intro h<;>simp only[h,go_sem,go_sem_proc,dH,qc,ve,nH,U,bk,bp]
def tM (b:Bool)(p q:Raw):bd×Int:=if b=true then (ei,6) else fM p q
abbrev Sr:Int×(List Int)×Int×(List Int)×Bool->List Data:=λ(s,l,s2,ab,b)=>[.agg [.int .i64 s,.X (l.map Y)],.agg [.int .i64 s2,.X (ab.map Y)],.bool b]
def Dq:=bU Sr λ(s,l,s2,ab,b)=>cq (o l<=1000000/\o ab<=1000000) (.same (cO (tM b (s,l) (s2,ab))))
theorem amr:∀a b,Sr a=Sr b->a=b:=by
  rintro⟨s1,fK,Ay,Az,c5⟩ ⟨s2,ab,AA,AB,eg⟩ h;simp only[bn,Data.agg.injEq,Data.int.injEq,Data.X.injEq,Data.bool.injEq] at h;exact dV h.1.1.2 (dV (map_inj eR _ _ h.1.2.1) (dV h.2.1.1.2 (dV (map_inj eR _ _ h.2.1.2.1) h.2.2.1)))
@[go_sem] theorem azD (s:Int)(l:List Int)(s2:Int)(ab:List Int)(b:Bool)(E:(o l)<=1000000/\o ab<=1000000):Dq [.agg [.int .i64 s,.X (l.map Y)],.agg [.int .i64 s2,.X (ab.map Y)],.bool b]=some (.same (cO (tM b (s,l) (s2,ab)))):=(b3 amr (s,l,s2,ab,b)).trans (cw E _)
theorem ams (T:br)(Lf:T FY=aK Le)(s:Int)(l:List Int)(s2:Int)(ab:List Int)(b:Bool)(E:(o l)<=1000000/\o ab<=1000000):WP T Sj (.same (cO (tM b (s,l) (s2,ab)))) [.J (.agg [.int .i64 s,.X (l.map Y)]),.J (.agg [.int .i64 s2,.X (ab.map Y)]),.J (.bool b)]:=by
 refine b4 ?_;simp only[Sj];obtain⟨bk,bp⟩:=E
 cases b
 ·refine aQ ?_;repeat' (intro h<;>simp only[h,go_sem,go_sem_proc,Lf,bk,bp,tM,cO,aH]<;>try refine al ?_ ?_)
 ·refine aQ ?_;repeat' (intro h<;>simp only[h,go_sem,go_sem_proc,Lf,bk,bp,tM,cO,aH,ei,cM]<;>try refine al ?_ ?_)
def Dr (dR fs aT g9:Raw×Int):bd×Int:=tM (!((dR.2==0)&&((fs.2==0)&&((aT.2==0)&&(g9.2==0))))) g9.1 aT.1
def Ds (P aT:Raw×Int):bd×Int:=tM (!((P.2==0)&&(aT.2==0))) P.1 aT.1
theorem amt {a b:bd}(aM:cU a=true)(ah:cU b=true):k6 a b=Ds (mulR a.1 b.1) (mulR a.2 b.2):=by
 unfold k6 pk Ds tM;rw[aj aM,aj ah]
 cases D:((mulR a.1 b.1).2==0)<;>cases G:((mulR a.2 b.2).2==0)<;>rfl
theorem amu {a b:bd}(aM:cU a=true)(ah:cU b=true):lG a b=if (b.1.1==0)=true then (ei,15) else Ds (mulR a.1 b.2) (mulR a.2 b.1):=by
 unfold lG pk Ds tM;rw[aj aM,aj ah]
 cases D:((mulR a.1 b.2).2==0)<;>cases G:((mulR a.2 b.1).2==0)<;>rfl
theorem aaZ {a b:bd}(aM:cU a=true)(ah:cU b=true):m0 a b=Dr (mulR a.1 b.2) (mulR b.1 a.2) (mulR a.2 b.2) (iP (mulR a.1 b.2).1 (mulR b.1 a.2).1):=by
 unfold m0 pk sq Dr tM;rw[aj aM,aj ah];rcases D:((mulR a.1 b.2).2==0)<;>rcases G:((mulR b.1 a.2).2==0)<;>rcases ag:((mulR a.2 b.2).2==0)<;>rcases aR:((iP (mulR a.1 b.2).1 (mulR b.1 a.2).1).2==0)<;>simp_all
theorem Lg {z:Int}:((mq z).2==0)=gV z:=by
 rcases h:gV z
 ·rw[wQ h];rfl
 ·rw[su h];rfl
theorem amv {a b:Int}(aM:a.natAbs<c9)(ah:b.natAbs<c9):(mulR (gn (bc a)) (bc b))=mq (-(a*b)):=by
 rw[R8 aM,q4 (by rw[tB];exact aM) ah,Int.neg_mul]
theorem aa0 (z:Int):gV (-z)=gV z:=by unfold gV;rw[tB]
theorem amw {a b:bd}(aM:cU a=true)(ah:cU b=true):k5 a b=Dr (mulR a.1 b.2) (mulR b.1 a.2) (mulR a.2 b.2) (sw (mulR a.1 b.2).1 (mulR b.1 a.2).1):=by
 obtain⟨x,I,rfl⟩:=(wN _).1 aM;obtain⟨y,ak,rfl⟩:=(wN _).1 ah
 have amx:cU (gn (ai y).1,(ai y).2)=true:=by
  have:(gn (ai y).1,(ai y).2)=ai (-y):=by
   unfold ai;dsimp only;rw[R8 ak.1]
   rfl
  rw[this];exact tD (aah ak)
 unfold k5;rw[aj aM,aj ah,aaZ aM amx];unfold Dr tM;show (if (!(((mulR (bc x.num) (bc y.den)).2==0)&&(((mulR (gn (bc y.num)) (bc x.den)).2==0)&&(((mulR (bc x.den) (bc y.den)).2==0)&&((iP (mulR (bc x.num) (bc y.den)).1 (mulR (gn (bc y.num)) (bc x.den)).1).2==0)))))=true then (ei,6) else fM (iP (mulR (bc x.num) (bc y.den)).1 (mulR (gn (bc y.num)) (bc x.den)).1).1 (mulR (bc x.den) (bc y.den)).1)=(if (!(((mulR (bc x.num) (bc y.den)).2==0)&&(((mulR (bc y.num) (bc x.den)).2==0)&&(((mulR (bc x.den) (bc y.den)).2==0)&&((sw (mulR (bc x.num) (bc y.den)).1 (mulR (bc y.num) (bc x.den)).1).2==0)))))=true then (ei,6) else fM (sw (mulR (bc x.num) (bc y.den)).1 (mulR (bc y.num) (bc x.den)).1).1 (mulR (bc x.den) (bc y.den)).1);rw[q4 I.1 (mY ak),amv ak.1 (mY I),q4 ak.1 (mY I),q4 (mY I) (mY ak),Lg,Lg,Lg,Lg,aa0];rcases D:gV (x.num*y.den)
 ·rfl
 ·rcases G:gV (y.num*x.den)
  ·rfl
  ·rw[su D,su G,su (by rw[aa0];exact G)];dsimp only;rw[GM (p8 D) (by rw[tB];exact p8 G),amd (p8 D) (p8 G)]
   rfl
theorem amy (a b:Raw):(sw a b).1.2.length<=1000000:=by
 unfold sw
 split
 ·exact QO _ _
 ·simp
def Lh:=bU pn λ(s,l,s2,ab,bD,bj,bE,bh)=>cq (o l<=1000000/\o ab<=1000000/\o bj<=1000000/\o bh<=1000000) (.same (cO (m0 ((s,l),(s2,ab)) ((bD,bj),(bE,bh)))))
@[go_sem] theorem amz (s:Int)(l:List Int)(s2:Int)(ab:List Int)(bD:Int)(bj:List Int)(bE:Int)(bh:List Int)(E:(o l)<=1000000/\o ab<=1000000/\o bj<=1000000/\o bh<=1000000):Lh [.agg [.int .i64 s,.X (l.map Y),.int .i64 s2,.X (ab.map Y)],.agg [.int .i64 bD,.X (bj.map Y),.int .i64 bE,.X (bh.map Y)]]=some (.same (cO (m0 ((s,l),(s2,ab)) ((bD,bj),(bE,bh))))):=(b3 q9 (s,l,s2,ab,bD,bj,bE,bh)).trans (cw E _)
theorem amA (T:br)(dS:T kZ=aK tL)(iR:T o7=aK Dn)(vd:T F6=aK Lb)(iS:T wi=aK Dq)(s:Int)(l:List Int)(s2:Int)(ab:List Int)(bD:Int)(bj:List Int)(bE:Int)(bh:List Int)(E:(o l)<=1000000/\o ab<=1000000/\o bj<=1000000/\o bh<=1000000):WP T Si (.same (cO (m0 ((s,l),(s2,ab)) ((bD,bj),(bE,bh))))) [.J (.agg [.int .i64 s,.X (l.map Y),.int .i64 s2,.X (ab.map Y)]),.J (.agg [.int .i64 bD,.X (bj.map Y),.int .i64 bE,.X (bh.map Y)])]:=by
 refine b4 ?_;simp only[Si];obtain⟨bk,bp,dW,ez⟩:=E
 by_cases U:cU ((s,l),(s2,ab))=true
 ·by_cases aZ:cU ((bD,bj),(bE,bh))=true
  ·rw[aaZ U aZ];dsimp only;have cJ:=nD (s,l) (bE,bh);have cE:=nD (bD,bj) (s2,ab);have hv:=nD (s2,ab) (bE,bh);generalize hx:mulR (s,l) (bE,bh)=M1 at *;generalize iQ:mulR (bD,bj) (s2,ab)=M2 at *;generalize tN:mulR (s2,ab) (bE,bh)=M3 at *;obtain⟨⟨c6,dv⟩,aw⟩:=M1;obtain⟨⟨c5,eg⟩,aB⟩:=M2;obtain⟨⟨bm,bN⟩,cI⟩:=M3;dsimp only at *;have mo:=QO (c6,dv) (c5,eg);generalize tO:iP (c6,dv) (c5,eg)=M4 at *;obtain⟨⟨d1,d2⟩,gJ⟩:=M4;unfold Dr;dsimp only at *;rcases D:(aw==0)
   ·refine aQ ?_;repeat' (intro h<;>simp only[h,go_sem,go_sem_proc,dS,iR,vd,iS,bk,bp,dW,ez,U,aZ,hx,iQ,tN,tO,cJ,cE,hv,mo,D,c0,bF,cO,aH,cv,bX,bne,dm]<;>try refine al ?_ ?_)
   ·rcases G:(aB==0)
    ·refine aQ ?_;repeat' (intro h<;>simp only[h,go_sem,go_sem_proc,dS,iR,vd,iS,bk,bp,dW,ez,U,aZ,hx,iQ,tN,tO,cJ,cE,hv,mo,D,G,c0,bF,cO,aH,cv,bX,bne,dm,eF]<;>try refine al ?_ ?_)
    ·rcases ag:(cI==0)
     ·refine aQ ?_;repeat' (intro h<;>simp only[h,go_sem,go_sem_proc,dS,iR,vd,iS,bk,bp,dW,ez,U,aZ,hx,iQ,tN,tO,cJ,cE,hv,mo,D,G,ag,c0,bF,cO,aH,cv,bX,bne,dm,eF]<;>try refine al ?_ ?_)
     ·rcases aR:(gJ==0)
      ·refine aQ ?_;repeat' (intro h<;>simp only[h,go_sem,go_sem_proc,dS,iR,vd,iS,bk,bp,dW,ez,U,aZ,hx,iQ,tN,tO,cJ,cE,hv,mo,D,G,ag,aR,c0,bF,cO,aH,cv,bX,bne,dm,eF]<;>try refine al ?_ ?_)
      ·refine aQ ?_;repeat' (intro h<;>simp only[h,go_sem,go_sem_proc,dS,iR,vd,iS,bk,bp,dW,ez,U,aZ,hx,iQ,tN,tO,cJ,cE,hv,mo,D,G,ag,aR,c0,bF,cO,aH,cv,bX,bne,dm,eF]<;>try refine al ?_ ?_)
  ·have aZ:cU ((bD,bj),(bE,bh))=false:=by simpa using aZ
   unfold m0;rw[aj U,aq (by simp[aZ])];refine aQ ?_;repeat' (intro h<;>simp only[h,go_sem,go_sem_proc,dS,iR,vd,iS,bk,bp,dW,ez,U,aZ,cO,aH,ei,cM]<;>try refine al ?_ ?_)
 ·have U:cU ((s,l),(s2,ab))=false:=by simpa using U
  unfold m0;rw[aq (by simp[U])];refine aQ ?_;repeat' (intro h<;>simp only[h,go_sem,go_sem_proc,dS,iR,vd,iS,bk,bp,dW,ez,U,cO,aH,ei,cM]<;>try refine al ?_ ?_)
def Li:=bU pn λ(s,l,s2,ab,bD,bj,bE,bh)=>cq (o l<=1000000/\o ab<=1000000/\o bj<=1000000/\o bh<=1000000) (.same (cO (k5 ((s,l),(s2,ab)) ((bD,bj),(bE,bh)))))
@[go_sem] theorem amB (s:Int)(l:List Int)(s2:Int)(ab:List Int)(bD:Int)(bj:List Int)(bE:Int)(bh:List Int)(E:(o l)<=1000000/\o ab<=1000000/\o bj<=1000000/\o bh<=1000000):Li [.agg [.int .i64 s,.X (l.map Y),.int .i64 s2,.X (ab.map Y)],.agg [.int .i64 bD,.X (bj.map Y),.int .i64 bE,.X (bh.map Y)]]=some (.same (cO (k5 ((s,l),(s2,ab)) ((bD,bj),(bE,bh))))):=(b3 q9 (s,l,s2,ab,bD,bj,bE,bh)).trans (cw E _)
theorem amC (T:br)(dS:T kZ=aK tL)(iR:T o7=aK Dn)(AX:T Ow=aK R9)(iS:T wi=aK Dq)(s:Int)(l:List Int)(s2:Int)(ab:List Int)(bD:Int)(bj:List Int)(bE:Int)(bh:List Int)(E:(o l)<=1000000/\o ab<=1000000/\o bj<=1000000/\o bh<=1000000):WP T Sf (.same (cO (k5 ((s,l),(s2,ab)) ((bD,bj),(bE,bh))))) [.J (.agg [.int .i64 s,.X (l.map Y),.int .i64 s2,.X (ab.map Y)]),.J (.agg [.int .i64 bD,.X (bj.map Y),.int .i64 bE,.X (bh.map Y)])]:=by
 refine b4 ?_;simp only[Sf];obtain⟨bk,bp,dW,ez⟩:=E
 by_cases U:cU ((s,l),(s2,ab))=true
 ·by_cases aZ:cU ((bD,bj),(bE,bh))=true
  ·rw[amw U aZ];dsimp only;have cJ:=nD (s,l) (bE,bh);have cE:=nD (bD,bj) (s2,ab);have hv:=nD (s2,ab) (bE,bh);generalize hx:mulR (s,l) (bE,bh)=M1 at *;generalize iQ:mulR (bD,bj) (s2,ab)=M2 at *;generalize tN:mulR (s2,ab) (bE,bh)=M3 at *;obtain⟨⟨c6,dv⟩,aw⟩:=M1;obtain⟨⟨c5,eg⟩,aB⟩:=M2;obtain⟨⟨bm,bN⟩,cI⟩:=M3;dsimp only at *;have mo:=amy (c6,dv) (c5,eg);generalize tO:sw (c6,dv) (c5,eg)=M4 at *;obtain⟨⟨d1,d2⟩,gJ⟩:=M4;unfold Dr;dsimp only at *;rcases D:(aw==0)
   ·refine aQ ?_;repeat' (intro h<;>simp only[h,go_sem,go_sem_proc,dS,iR,AX,iS,bk,bp,dW,ez,U,aZ,hx,iQ,tN,tO,cJ,cE,hv,mo,D,c0,bF,cO,aH,cv,bX,bne,dm]<;>try refine al ?_ ?_)
   ·rcases G:(aB==0)
    ·refine aQ ?_;repeat' (intro h<;>simp only[h,go_sem,go_sem_proc,dS,iR,AX,iS,bk,bp,dW,ez,U,aZ,hx,iQ,tN,tO,cJ,cE,hv,mo,D,G,c0,bF,cO,aH,cv,bX,bne,dm,eF]<;>try refine al ?_ ?_)
    ·rcases ag:(cI==0)
     ·refine aQ ?_;repeat' (intro h<;>simp only[h,go_sem,go_sem_proc,dS,iR,AX,iS,bk,bp,dW,ez,U,aZ,hx,iQ,tN,tO,cJ,cE,hv,mo,D,G,ag,c0,bF,cO,aH,cv,bX,bne,dm,eF]<;>try refine al ?_ ?_)
     ·rcases aR:(gJ==0)
      ·refine aQ ?_;repeat' (intro h<;>simp only[h,go_sem,go_sem_proc,dS,iR,AX,iS,bk,bp,dW,ez,U,aZ,hx,iQ,tN,tO,cJ,cE,hv,mo,D,G,ag,aR,c0,bF,cO,aH,cv,bX,bne,dm,eF]<;>try refine al ?_ ?_)
      ·refine aQ ?_;repeat' (intro h<;>simp only[h,go_sem,go_sem_proc,dS,iR,AX,iS,bk,bp,dW,ez,U,aZ,hx,iQ,tN,tO,cJ,cE,hv,mo,D,G,ag,aR,c0,bF,cO,aH,cv,bX,bne,dm,eF]<;>try refine al ?_ ?_)
  ·have aZ:cU ((bD,bj),(bE,bh))=false:=by simpa using aZ
   unfold k5;rw[aj U,aq (by simp[aZ])];refine aQ ?_;repeat' (intro h<;>simp only[h,go_sem,go_sem_proc,dS,iR,AX,iS,bk,bp,dW,ez,U,aZ,cO,aH,ei,cM]<;>try refine al ?_ ?_)
 ·have U:cU ((s,l),(s2,ab))=false:=by simpa using U
  unfold k5;rw[aq (by simp[U])];refine aQ ?_;repeat' (intro h<;>simp only[h,go_sem,go_sem_proc,dS,iR,AX,iS,bk,bp,dW,ez,U,cO,aH,ei,cM]<;>try refine al ?_ ?_)
def Lj:=bU pn λ(s,l,s2,ab,bD,bj,bE,bh)=>cq (o l<=1000000/\o ab<=1000000/\o bj<=1000000/\o bh<=1000000) (.same (cO (k6 ((s,l),(s2,ab)) ((bD,bj),(bE,bh)))))
@[go_sem] theorem amD (s:Int)(l:List Int)(s2:Int)(ab:List Int)(bD:Int)(bj:List Int)(bE:Int)(bh:List Int)(E:(o l)<=1000000/\o ab<=1000000/\o bj<=1000000/\o bh<=1000000):Lj [.agg [.int .i64 s,.X (l.map Y),.int .i64 s2,.X (ab.map Y)],.agg [.int .i64 bD,.X (bj.map Y),.int .i64 bE,.X (bh.map Y)]]=some (.same (cO (k6 ((s,l),(s2,ab)) ((bD,bj),(bE,bh))))):=(b3 q9 (s,l,s2,ab,bD,bj,bE,bh)).trans (cw E _)
theorem amE (T:br)(dS:T kZ=aK tL)(iR:T o7=aK Dn)(iS:T wi=aK Dq)(s:Int)(l:List Int)(s2:Int)(ab:List Int)(bD:Int)(bj:List Int)(bE:Int)(bh:List Int)(E:(o l)<=1000000/\o ab<=1000000/\o bj<=1000000/\o bh<=1000000):WP T Sh (.same (cO (k6 ((s,l),(s2,ab)) ((bD,bj),(bE,bh))))) [.J (.agg [.int .i64 s,.X (l.map Y),.int .i64 s2,.X (ab.map Y)]),.J (.agg [.int .i64 bD,.X (bj.map Y),.int .i64 bE,.X (bh.map Y)])]:=by
 refine b4 ?_;simp only[Sh];obtain⟨bk,bp,dW,ez⟩:=E
 by_cases U:cU ((s,l),(s2,ab))=true
 ·by_cases aZ:cU ((bD,bj),(bE,bh))=true
  ·rw[amt U aZ];dsimp only;have cJ:=nD (s,l) (bD,bj);have cE:=nD (s2,ab) (bE,bh);generalize hx:mulR (s,l) (bD,bj)=M1 at *;generalize iQ:mulR (s2,ab) (bE,bh)=M2 at *;obtain⟨⟨c6,dv⟩,aw⟩:=M1;obtain⟨⟨c5,eg⟩,aB⟩:=M2;unfold Ds;dsimp only at *;rcases D:(aw==0)
   ·refine aQ ?_;repeat' (intro h<;>simp only[h,go_sem,go_sem_proc,dS,iR,iS,bk,bp,dW,ez,U,aZ,hx,iQ,cJ,cE,D,c0,bF,cO,aH,cv,bX,bne,dm]<;>try refine al ?_ ?_)
   ·rcases G:(aB==0)
    ·refine aQ ?_;repeat' (intro h<;>simp only[h,go_sem,go_sem_proc,dS,iR,iS,bk,bp,dW,ez,U,aZ,hx,iQ,cJ,cE,D,G,c0,bF,cO,aH,cv,bX,bne,dm,eF]<;>try refine al ?_ ?_)
    ·refine aQ ?_;repeat' (intro h<;>simp only[h,go_sem,go_sem_proc,dS,iR,iS,bk,bp,dW,ez,U,aZ,hx,iQ,cJ,cE,D,G,c0,bF,cO,aH,cv,bX,bne,dm,eF]<;>try refine al ?_ ?_)
  ·have aZ:cU ((bD,bj),(bE,bh))=false:=by simpa using aZ
   unfold k6;rw[aj U,aq (by simp[aZ])];refine aQ ?_;repeat' (intro h<;>simp only[h,go_sem,go_sem_proc,dS,iR,iS,bk,bp,dW,ez,U,aZ,cO,aH,ei,cM]<;>try refine al ?_ ?_)
 ·have U:cU ((s,l),(s2,ab))=false:=by simpa using U
  unfold k6;rw[aq (by simp[U])];refine aQ ?_;repeat' (intro h<;>simp only[h,go_sem,go_sem_proc,dS,iR,iS,bk,bp,dW,ez,U,cO,aH,ei,cM]<;>try refine al ?_ ?_)
def Lk:=bU pn λ(s,l,s2,ab,bD,bj,bE,bh)=>cq (o l<=1000000/\o ab<=1000000/\o bj<=1000000/\o bh<=1000000) (.same (cO (lG ((s,l),(s2,ab)) ((bD,bj),(bE,bh)))))
@[go_sem] theorem amF (s:Int)(l:List Int)(s2:Int)(ab:List Int)(bD:Int)(bj:List Int)(bE:Int)(bh:List Int)(E:(o l)<=1000000/\o ab<=1000000/\o bj<=1000000/\o bh<=1000000):Lk [.agg [.int .i64 s,.X (l.map Y),.int .i64 s2,.X (ab.map Y)],.agg [.int .i64 bD,.X (bj.map Y),.int .i64 bE,.X (bh.map Y)]]=some (.same (cO (lG ((s,l),(s2,ab)) ((bD,bj),(bE,bh))))):=(b3 q9 (s,l,s2,ab,bD,bj,bE,bh)).trans (cw E _)
theorem amG (T:br)(dS:T kZ=aK tL)(iR:T o7=aK Dn)(iS:T wi=aK Dq)(s:Int)(l:List Int)(s2:Int)(ab:List Int)(bD:Int)(bj:List Int)(bE:Int)(bh:List Int)(E:(o l)<=1000000/\o ab<=1000000/\o bj<=1000000/\o bh<=1000000):WP T Sk (.same (cO (lG ((s,l),(s2,ab)) ((bD,bj),(bE,bh))))) [.J (.agg [.int .i64 s,.X (l.map Y),.int .i64 s2,.X (ab.map Y)]),.J (.agg [.int .i64 bD,.X (bj.map Y),.int .i64 bE,.X (bh.map Y)])]:=by
 refine b4 ?_;simp only[Sk];obtain⟨bk,bp,dW,ez⟩:=E
 by_cases U:cU ((s,l),(s2,ab))=true
 ·by_cases aZ:cU ((bD,bj),(bE,bh))=true
  ·rw[amu U aZ];dsimp only;rcases au:(bD==0)
   ·rw[aq (by simp)];have cJ:=nD (s,l) (bE,bh);have cE:=nD (s2,ab) (bD,bj);generalize hx:mulR (s,l) (bE,bh)=M1 at *;generalize iQ:mulR (s2,ab) (bD,bj)=M2 at *;obtain⟨⟨c6,dv⟩,aw⟩:=M1;obtain⟨⟨c5,eg⟩,aB⟩:=M2;unfold Ds;dsimp only at *;rcases D:(aw==0)
    ·refine aQ ?_;repeat' (intro h<;>simp only[h,go_sem,go_sem_proc,dS,iR,iS,bk,bp,dW,ez,U,aZ,au,hx,iQ,cJ,cE,D,c0,bF,cO,aH,cv,bX,bne,dm]<;>try refine al ?_ ?_)
    ·rcases G:(aB==0)
     ·refine aQ ?_;repeat' (intro h<;>simp only[h,go_sem,go_sem_proc,dS,iR,iS,bk,bp,dW,ez,U,aZ,au,hx,iQ,cJ,cE,D,G,c0,bF,cO,aH,cv,bX,bne,dm,eF]<;>try refine al ?_ ?_)
     ·refine aQ ?_;repeat' (intro h<;>simp only[h,go_sem,go_sem_proc,dS,iR,iS,bk,bp,dW,ez,U,aZ,au,hx,iQ,cJ,cE,D,G,c0,bF,cO,aH,cv,bX,bne,dm,eF]<;>try refine al ?_ ?_)
   ·rw[aj rfl];refine aQ ?_;repeat' (intro h<;>simp only[h,go_sem,go_sem_proc,dS,iR,iS,bk,bp,dW,ez,U,aZ,au,cO,aH,ei,cM]<;>try refine al ?_ ?_)
  ·have aZ:cU ((bD,bj),(bE,bh))=false:=by simpa using aZ
   unfold lG;rw[aj U,aq (by simp[aZ])];refine aQ ?_;repeat' (intro h<;>simp only[h,go_sem,go_sem_proc,dS,iR,iS,bk,bp,dW,ez,U,aZ,cO,aH,ei,cM]<;>try refine al ?_ ?_)
 ·have U:cU ((s,l),(s2,ab))=false:=by simpa using U
  unfold lG;rw[aq (by simp[U])];refine aQ ?_;repeat' (intro h<;>simp only[h,go_sem,go_sem_proc,dS,iR,iS,bk,bp,dW,ez,U,cO,aH,ei,cM]<;>try refine al ?_ ?_)

theorem Dt {α:Type}{p:α->Bool}{l:List α}{i:Nat}{x:α}(I:l[i]?=some x):(l.take (i+1)).all p=((l.take i).all p&&p x):=by
 rw[fQ,I,List.all_append];simp
def wU (a b:List bd):Bool:=decide (a=b)
end Go.Mini
namespace Go.Mini
open Go
variable {P:Program} {A:Nat->Prop} {w aI:World} {B bB:Lay} {mem mem':Mem}
structure nI (P:Program) (f:FuncId) (gd:List O->Mem->Option gg):Prop where
 real:Real P f
 run:∀args mem np,gd args mem=some np->∀A w B vs,eK A w B mem->db w (ca A B) B args vs->Jp P f vs A w B mem np
def yB (res:List mc)(cD:O->Mem->Prop):fA->bz->Prop
 |.exit _,_=>False
 |.normal,st=>∃m,nc st res=some m/\cD m st.mem
 |.ret,st=>∃m,nc st res=some m/\cD m st.mem
@[go_sem] theorem azE {res:List mc}{st:bz}(cD:O->Mem->Prop)(id:Nat):yB res cD (.exit id) st=False:=bC
@[go_sem] theorem azF {res:List mc}{st:bz}(cD:O->Mem->Prop):yB res cD .normal st=∃m,nc st res=some m/\cD m st.mem:=bC
@[go_sem] theorem azG {res:List mc}{st:bz}(cD:O->Mem->Prop):yB res cD .ret st=∃m,nc st res=some m/\cD m st.mem:=bC
theorem aa1 {mf:bP}{cD:O->Mem->Prop}{e:fA}{st:bz}(h:yB mf.res cD e st):NP mf cD e st:=by
 cases e with
 |exit id=>exact h
 |normal=>exact h
 |ret=>exact h
theorem aa2 {kb : Nat}{own : List Nat}{f : FuncId}{fn : Func}{mf : bP}(aN : P.funcs[f]? = some fn)(tf : (fn.name == "runtime.NumGoroutine") = false)(aW : qC P kb own fn = some mf): Real P f := by
 cases ah:fn.body with
 |none=>simp[qC,ah] at aW
 |some c=>exact⟨fn,c,aN,ah,tf⟩
def wV (aT:List O->Mem->Option (O->Mem->Prop))(args:List O)(mem:Mem):Option gg:=(aT args mem).map .rel
@[go_sem] theorem azH (aT:List O->Mem->Option (O->Mem->Prop))(args:List O)(mem:Mem):wV aT args mem=(aT args mem).map .rel:=bC
theorem amH {T : br}{kb : Nat}{own : List Nat}(cG : oU P T)(hm : P.follows .mixedOrders = true){f : FuncId}{fn : Func}{mf : bP}(aN : P.funcs[f]? = some fn)(tf : (fn.name == "runtime.NumGoroutine") = false)(aW : qC P kb own fn = some { mf with body := erase mf.body })
  {aT:List O->Mem->Option (O->Mem->Prop)} (h:∀args mem cD,aT args mem=some cD->(o args)<=mf.n/\wp T mf.body (yB mf.res cD) ⟨nd args,mem⟩):nI P f (wV aT):=by
 refine⟨aa2 aN tf aW,λargs mem np gj A w B vs bY ad=>?_⟩;unfold wV at gj;rw[dI] at gj;obtain⟨cD,dk,rfl⟩:=gj;obtain⟨hlen,zJ⟩:=h args mem cD dk;refine Calls.mono (JG (Post:=cD) cG hm aN aW hlen (λe st R=>aa1 R) zJ bY ad) λe aI he=>?_;obtain⟨v,m,mem',bB,rfl,aa,lk,aG⟩:=he;exact⟨v,m,mem',bB,rfl,aa,lk,aG⟩
inductive qe (df:Key->Prop):O->Prop
 |J {d:Data}:qe df (.J d)
 |nil:qe df .nil
 |ref {k g sz off len:Nat} (h:¬ df k):qe df (.ref k g sz off len)
 |ptr {k g off:Nat} (h:¬ df k):qe df (.ptr k g off)
 |e5 {f:FuncId} {en:List O} (h:∀(i:Nat) (m:O),en[i]?=some m->qe df m):qe df (.e5 f en)
 |agg {cs:List O} (h:∀(i:Nat) (m:O),cs[i]?=some m->qe df m):qe df (.agg cs)
 |cQ {cs:List O} (h:∀(i:Nat) (m:O),cs[i]?=some m->qe df m):qe df (.cQ cs)
 |no:qe df .no
 |undef:qe df .undef
theorem clean_of {df:Key->Prop}{aS:Nat->Prop}(AY:∀k,df k->B k=none){m:O}{v:Value}(h:bA w aS B m v):qe df m:=by
 induction h with
 |J h=>exact .J
 |nil=>exact .nil
 |ref he bw ad=>exact .ref λay=>by rw[AY _ ay] at he;cases he
 |ptr he bw ad=>exact .ptr λay=>by rw[AY _ ay] at he;cases he
 |e5 ax ae aA=>exact .e5 λi m Q=>aA i m _ Q (bL (by have az:=(ef.1 Q).1;omega))
 |agg ax ae aA=>exact .agg λi m Q=>aA i m _ Q (bL (by have az:=(ef.1 Q).1;omega))
 |cQ ax ae aA=>exact .cQ λi m Q=>aA i m _ Q (bL (by have az:=(ef.1 Q).1;omega))
 |no=>exact .no
 |undef=>exact .undef
open Classical in
def sx (df:Key->Prop)(B:Lay):Lay:=λk=>if df k then none else B k
theorem Hj {df:Key->Prop}{b:Nat}(h:pJ (sx df B) b):pJ B b:=by
 obtain⟨k,e,he,ah⟩:=h;unfold sx at he
 split at he
 ·cases he
 ·exact⟨k,e,he,ah⟩
theorem amI {df:Key->Prop}{m:O}{v:Value}(h:bA w (ca A B) B m v)(E:qe df m):bA w (ca A (sx df B)) (sx df B) m v:=by
 have at_:∀{k:Key} {e:ks},¬ df k->B k=some e->sx df B k=some e:=λR he=>by unfold sx;rw[aq R];exact he
 induction h with
 |J h=>exact .J (h.less λb ah=>ah.imp Hj id)
 |nil=>exact .nil
 |ref he bw ad=>cases E with|ref R=>exact .ref (at_ R he) bw ad
 |ptr he bw ad=>cases E with|ptr R=>exact .ptr (at_ R he) bw ad
 |e5 ax ae aA=>cases E with|e5 E=>exact .e5 ax λi d v Q ad=>aA i d v Q ad (E i d Q)
 |agg ax ae aA=>cases E with|agg E=>exact .agg ax λi d v Q ad=>aA i d v Q ad (E i d Q)
 |cQ ax ae aA=>cases E with|cQ E=>exact .cQ ax λi d v Q ad=>aA i d v Q ad (E i d Q)
 |no=>exact .no
 |undef=>exact .undef
theorem ea.drop {df:Key->Prop}{Ll:Mem}(au:eK A w B mem)(AY:∀k,df k->mem k=none)(h:ea A w B aI bB mem')(D:∀k,df k->Ll k=none)(G:∀k,¬ df k->Ll k=mem' k)
  (E:∀k g cs,Ll k=some (g,cs)->∀m∈cs,(∃d,m=.J d)\/∃my Ju qN,mem my=some (Ju,qN)/\m∈qN):ea A w B aI (sx df bB) Ll:=by
 have kV:∀k,df k->B k=none:=λk R=>au.xt k (AY k R);have at_:∀{k:Key},¬ df k->sx df bB k=bB k:=λR=>by unfold sx;rw[aq R]
 have Ss:∀{k:Key},df k->sx df bB k=none:=λR=>by unfold sx;rw[aj R]
 refine⟨⟨λk R=>?_,λk k' e e' b he fy ah g6=>?_,λb aM bM=>h.dC.sep b aM (Hj bM),h.dC.lt,λk g cs R=>?_⟩,⟨h.kO.size,λb ah bM=>?_,λk e he=>?_⟩,h.aC,λb ah=>h.fresh b (Hj ah)⟩
 ·by_cases ay:df k
  ·exact Ss ay
  ·rw[at_ ay];exact h.dC.xt k (by rw[<-G k ay];exact R)
 ·by_cases ay:df k
  ·rw[Ss ay] at he;cases he
  ·by_cases ng:df k'
   ·rw[Ss ng] at fy;cases fy
   ·rw[at_ ay] at he;rw[at_ ng] at fy;exact h.dC.inj k k' e e' b he fy ah g6
 ·by_cases ay:df k
  ·rw[D k ay] at R;cases R
  ·obtain⟨e,he,bw,aL,ah⟩:=h.dC.dc k g cs (by rw[<-G k ay];exact R);refine⟨e,by rw[at_ ay];exact he,bw,aL,λb ij=>?_⟩
   obtain⟨vs,T,a6,a8,hle,U⟩:=ah b ij;refine⟨vs,T,a6,a8,hle,λi m Q=>?_⟩;obtain⟨v,ad,n0⟩:=U i m Q;refine⟨v,ad,amI n0 ?_⟩;rcases E k g cs R m (eN Q) with ⟨d,rfl⟩|⟨my,Ju,qN,lo,ir⟩
   ·exact .J
   ·obtain⟨b8,FE,Kj,mN,x4⟩:=au.dc my Ju qN lo
    cases CH:b8.dc with
    |none=>rw[mN CH] at ir;cases ir
    |some pZ =>
     obtain⟨azI,azJ,_,_,_,pd⟩:=x4 pZ CH;obtain⟨i0,p2⟩:=xR.1 ir;obtain⟨v0,_,amJ⟩:=pd i0 m p2;exact clean_of kV amJ
 ·obtain⟨ag,aR⟩:=h.kO.EI b ah bM;exact⟨ag,λI=>aR (Hj I)⟩
 ·have ay:¬ df k:=λay=>by rw[kV k ay] at he;cases he
  rw[at_ ay];exact h.kO.key k e he
def amK (cH:List O->Mem->Option (Data×Key×Nat×Nat×Data))(args:List O)(mem:Mem):Option gg:=(cH args mem).map λx => .hO x.1 x.2.1 x.2.2.1 x.2.2.2.1 (.J x.2.2.2.2)
@[go_sem] theorem azK (cH:List O->Mem->Option (Data×Key×Nat×Nat×Data))(args:List O)(mem:Mem):amK cH args mem=(cH args mem).map λx => .hO x.1 x.2.1 x.2.2.1 x.2.2.2.1 (.J x.2.2.2.2):=bC
def St:Option gg->Option gg->Option gg
 |some x,_=>some x
 |none,e=>e
@[go_sem] theorem azL (x:gg)(e:Option gg):St (some x) e=some x:=bC
@[go_sem] theorem azM (e:Option gg):St none e=e:=bC
def tP (kf:FuncId->Option (List Data->Option dF))(qf:FuncId->Option (List O->Mem->Option gg)):br:=λf args mem=>match qf f with
 |some gd=>St (gd args mem) (xK kf f args mem)
 |none=>xK kf f args mem
theorem AZ {kf:FuncId->Option (List Data->Option dF)}{qf:FuncId->Option (List O->Mem->Option gg)}(h:∀f a1,kf f=some a1->oa P f a1)(U:∀f gd,qf f=some gd->nI P f gd):oU P (tP kf qf):=by
 intro f args mem np cG;unfold tP at cG
 split at cG
 ·rename_i gd gj;have aa:=U f gd gj
  cases I:gd args mem with
  |none =>
   rw[I] at cG;exact Yo h f args mem np cG
  |some y =>
   rw[I] at cG
   cases cG;exact⟨aa.real,λA w B vs bY ad=>aa.run args mem np I A w B vs bY ad⟩
 ·exact Yo h f args mem np cG
theorem FQ.aa3 {f:FuncId}{cW:List O->Mem->Option (O×Mem)}(h:FQ P f cW):nI P f (xS cW):=by
 refine⟨h.real,λargs mem np gj A w B vs bY ad=>?_⟩;unfold xS at gj;rw[dI] at gj;obtain⟨x,I,rfl⟩:=gj;exact h.run args mem x I A w B vs bY ad
section
variable {kf:FuncId->Option (List Data->Option dF)} {qf:FuncId->Option (List O->Mem->Option gg)} {f:FuncId}
theorem Du {a1:List Data->Option dF}(h:qf f=none)(cu:kf f=some a1):tP kf qf f=aK a1:=by
 funext args mem
 unfold tP;rw[h];exact congrFun (congrFun (Yq cu) args) mem
theorem Lm {gd:List O->Mem->Option gg}(h:qf f=some gd)(cu:kf f=none):tP kf qf f=gd:=by
 funext args mem
 unfold tP xK;rw[h,cu];dsimp only
 cases gd args mem<;>rfl
theorem Dv {a1:List Data->Option dF}{cW:List O->Mem->Option (O×Mem)}(h:qf f=some (xS cW))(cu:kf f=some a1):tP kf qf f=wc a1 cW:=by
 funext args mem
 unfold tP;rw[h];unfold wc xS;rw[show xK kf f args mem=aK a1 args mem from congrFun (congrFun (Yq cu) args) mem];dsimp only
 cases cW args mem<;>rfl
end
def Ln (l:List (FuncId×(List O->Mem->Option gg))):FuncId->Option (List O->Mem->Option gg):=λf=>(l.find? λp=>p.1==f).map (·.2)
theorem A0 {l:List (FuncId×(List O->Mem->Option gg))}(h:∀p∈l,nI P p.1 p.2):∀f cW,Ln l f=some cW->nI P f cW:=by
 intro f a1 aN;unfold Ln at aN;rw[dI] at aN;obtain⟨p,aG,rfl⟩:=aN;have D:=List.mem_of_find?_eq_some aG;have G:=List.find?_some aG;have ag:p.1=f:=by simpa using G
 exact ag ▸ h p D
theorem pq:∀p∈([]:List (FuncId×(List O->Mem->Option gg))),nI P p.1 p.2:=by simp
theorem vf {f:FuncId}{a1:List O->Mem->Option gg}{l:List (FuncId×(List O->Mem->Option gg))}(h:nI P f a1)(ax:∀p∈l,nI P p.1 p.2):∀p∈(f,a1)::l,nI P p.1 p.2:=by
 intro p aG;rcases hF.1 aG with rfl|aG
 ·exact h
 ·exact ax p aG
open Classical in
def ra {α:Type}(bS:α->List O->Mem->Prop)(cD:α->Mem->O->Mem->Prop):List O->Mem->Option (O->Mem->Prop):=λargs mem=>if h:∃a,bS a args mem then some (cD (tg h) mem) else none
theorem aa4 {α:Type}{bS:α->List O->Mem->Prop}{cD:α->Mem->O->Mem->Prop}(uniq:∀a b args mem,bS a args mem->bS b args mem->a=b){a:α}{args:List O}{mem:Mem}(h:bS a args mem):ra bS cD args mem=some (cD a mem):=by
 have I:∃b,bS b args mem:=⟨a,h⟩;unfold ra;rw[dif_pos I,uniq _ _ _ _ (pW I) h]
theorem aa5 {α:Type}{bS:α->List O->Mem->Prop}{cD:α->Mem->O->Mem->Prop}{args:List O}{mem:Mem}{x:O->Mem->Prop}(h:ra bS cD args mem=some x):∃a,bS a args mem/\x=cD a mem:=by
 unfold ra at h
 split at h
 ·rename_i I;exact⟨_,pW I,(ln h).symm⟩
 ·cases h
end Go.Mini
namespace Go.Mini
open Go
abbrev gz:=Nat×Nat×List bd
def refsOf (N:Nat)(rows:List gz):List O:=rows.map λx => .ref (x.1+900000) x.2.1 4 0 (N+1)
structure amL (go N:Nat) (rows:List gz) (bad:Bool) (mem:Mem):Prop where
 m:mem 129015=some (0,[.ref 129035 go 1 0 N,.J (.int .i64 N),.J (.bool bad)])
 ar:mem 129035=some (go,refsOf N rows)
 r:∀x∈rows,mem (x.1+900000)=some (x.2.1,bK aH x.2.2)
structure sy (N:Nat) (rows:List gz):Prop where
 len:(o rows)=N
 Lo:(rows.map (·.1)).Nodup
 row:∀x∈rows,x.2.2.length=N+1/\∀f∈x.2.2,okF f
def amM (k:Nat):Prop:=k<900000/\k≠129015/\k≠129035/\k≠148008/\k≠148010/\k≠148013
def wW (jS:Mem)(go N:Nat)(rows:List gz)(bad:Bool)(mem:Mem):Prop:=amL go N rows bad mem/\∀k,amM k->mem k=jS k
section
variable {jS mem:Mem} {go N:Nat} {rows:List gz} {Dw:Bool}
theorem wW.own {k g:Nat}{cs:List O}(R:k=148008\/k=148010\/k=148013)(h:wW jS go N rows Dw mem):wW jS go N rows Dw (bI mem k g cs):=by
 have bZ:∀j:Nat,j≠k->bI mem k g cs j=mem j:=λj ay=>aq ay;refine⟨⟨by rw[bZ _ (by omega)];exact h.1.m,by rw[bZ _ (by omega)];exact h.1.ar,λx I=>by rw[bZ _ (by omega)];exact h.1.r x I⟩,λj ay=>?_⟩
 have:=ay.2;rw[bZ _ (by omega)];exact h.2 j ay
theorem wW.set {i:Nat}{x:gz}(ff:sy N rows)(Q:rows[i]?=some x)(l:List bd)(h:wW jS go N rows Dw mem):wW jS go N (rows.set i (x.1,x.2.1,l)) Dw (bI mem (x.1+900000) x.2.1 (bK aH l)):=by
 have bZ:∀j:Nat,j≠x.1+900000->bI mem (x.1+900000) x.2.1 (bK aH l) j=mem j:=λj ay=>aq ay;obtain⟨az,amN⟩:=ef.1 Q;refine⟨⟨by rw[bZ _ (by omega)];exact h.1.m,?_,λy ak=>?_⟩,λj ay=>?_⟩
 ·rw[bZ _ (by omega),h.1.ar]
  congr 2
  unfold refsOf;apply pU;intro j;rw[bb,bb,tQ]
  by_cases kW:i=j
  ·subst kW;rw[aj rfl,aj az,Q]
   rfl
  ·rw[aq kW]
 ·obtain⟨j,ay⟩:=xR.1 ak;rw[tQ] at ay
  by_cases kW:i=j
  ·subst kW;rw[aj rfl,aj az] at ay
   cases ay;simp[bI]
  ·rw[aq kW] at ay
   have azN:y.1≠x.1:=by
    intro he;have D:(rows.map (·.1))[j]?=some y.1:=by rw[bb,ay];rfl
    have G:(rows.map (·.1))[i]?=some y.1:=by rw[bb,Q,he];rfl
    have ax:i<(rows.map (·.1)).length:=by rw[af];exact az
    exact kW ((aa6 ax ff.Lo).1 (G.trans D.symm))
   rw[bZ (y.1+900000) (by omega)];exact h.1.r y (eN ay)
 ·have:=ay.1;rw[bZ j (by omega)];exact h.2 j ay
theorem wW.swap {i j:Nat}{a b:gz}(Q:rows[i]?=some a)(ay:rows[j]?=some b)(h:wW jS go N rows Dw mem):wW jS go N ((rows.set i b).set j a) Dw (bI (bI mem 129035 go (refsOf N (rows.set i b))) 129035 go (refsOf N ((rows.set i b).set j a))):=by
 have bZ:∀k:Nat,k≠129035->bI (bI mem 129035 go (refsOf N (rows.set i b))) 129035 go (refsOf N ((rows.set i b).set j a)) k=mem k:=λk R=>by simp[bI,R]
 refine⟨⟨by rw[bZ _ (by omega)];exact h.1.m,by simp[bI],λx I=>?_⟩,λk R=>?_⟩
 ·rw[bZ _ (by omega)];apply h.1.r;rcases Dx I with I|rfl
  ·rcases Dx I with I|rfl
   ·exact I
   ·exact eN ay
  ·exact eN Q
 ·rw[bZ _ R.2.2.1];exact h.2 k R
theorem sy.set {i:Nat}{x:gz}(ff:sy N rows)(Q:rows[i]?=some x){l:List bd}(ax:(o l)=N+1)(aN:∀f∈l,okF f):sy N (rows.set i (x.1,x.2.1,l)):=by
 obtain⟨az,amN⟩:=ef.1 Q;refine⟨by rw[kA];exact ff.len,?_,λy ak=>?_⟩
 ·have:(rows.set i (x.1,x.2.1,l)).map (·.1)=rows.map (·.1):=by
   rw[Hk];apply pU;intro j;rw[tQ]
   by_cases kW:i=j
   ·subst kW;rw[aj rfl,af,aj az,bb,Q];rfl
   ·rw[aq kW]
  rw[this];exact ff.Lo
 ·rcases Dx ak with ak|rfl
  ·exact ff.row y ak
  ·exact⟨ax,aN⟩
theorem amO {α:Type}{l:List α}{i j:Nat}{a b:α}(Q:l[i]?=some a)(ay:l[j]?=some b)(h:l.Nodup):((l.set i b).set j a).Nodup:=by
 obtain⟨hy,azO⟩:=ef.1 Q;obtain⟨ik,Jh⟩:=ef.1 ay
 have main:∀p q,p<q->q<(o l)->((l.set i b).set j a)[p]?≠((l.set i b).set j a)[q]?:=by
  intro p q nJ aF;rw[tQ,tQ,tQ,tQ];have inj:∀p q,p<(o l)->l[p]?=l[q]?->p=q:=λp q aG he=>(aa6 aG h).1 he;simp only[kA]
  by_cases D:j=p
  ·subst D;have G:¬ j=q:=by omega
   rw[aj rfl,aj ik,aq G]
   by_cases ag:i=q
   ·subst ag;rw[aj rfl,aj hy];intro he;rw[<-Q,<-ay] at he;have:=inj _ _ hy he;omega
   ·rw[aq ag,<-Q];intro he;exact ag (inj _ _ hy he)
  ·rw[aq D]
   by_cases ag:i=p
   ·subst ag;rw[aj rfl,aj hy]
    by_cases G:j=q
    ·subst G;rw[aj rfl,aj ik,<-Q,<-ay];intro he;have:=inj _ _ ik he;omega
    ·rw[aq G,aq (by omega),<-ay];intro he;exact G (inj _ _ ik he)
   ·rw[aq ag]
    by_cases G:j=q
    ·subst G;rw[aj rfl,aj ik,<-Q];intro he;exact ag (inj _ _ hy he.symm)
    ·rw[aq G]
     by_cases aR:i=q
     ·subst aR;rw[aj rfl,aj hy,<-ay];intro he;exact D (inj _ _ ik he.symm)
     ·rw[aq aR];intro he;have:=inj _ _ (by omega) he;omega
 refine List.pairwise_iff_getElem.2 λp q aG aF nJ he=>?_;simp only[kA] at aG aF;refine main p q nJ aF ?_;rw[bL (by simpa using aG),bL (by simpa using aF),he]
theorem sy.swap {i j:Nat}{a b:gz}(ff:sy N rows)(Q:rows[i]?=some a)(ay:rows[j]?=some b):sy N ((rows.set i b).set j a):=by
 refine⟨by rw[kA,kA];exact ff.len,?_,λx I=>?_⟩
 ·rw[Hk,Hk];exact amO (by rw[bb,Q];rfl) (by rw[bb,ay];rfl) ff.Lo
 ·rcases Dx I with I|rfl
  ·rcases Dx I with I|rfl
   ·exact ff.row x I
   ·exact ff.row _ (eN ay)
  ·exact ff.row _ (eN Q)
end
def Su (f:bd):Bool:=f.1.1==0
def cellOf (x:gz)(c:Nat):bd:=x.2.2.getD c ei
def findAt (rows:List gz)(r c:Nat):Nat:=r+(rows.drop r).findIdx λx => !Su (cellOf x c)
def ox (pr:bd):List bd->List bd->Bool->List bd×Bool
 |f::dz,p::ps,false=>((k5 f (k6 pr p).1).1::(ox pr dz ps ((k6 pr p).2 != 0||(k5 f (k6 pr p).1).2 != 0)).1,(ox pr dz ps ((k6 pr p).2 != 0||(k5 f (k6 pr p).1).2 != 0)).2)
 |dz,_,b=>(dz,b)
def vg (pt:List bd)(r c:Nat):Nat->List gz->Bool->List gz×Bool
 |_,[],bad=>([],bad)
 |i,x::xs,bad=>if (i==r||Su (cellOf x c))=true then (x::(vg pt r c (i+1) xs bad).1,(vg pt r c (i+1) xs bad).2) else
  ((x.1,x.2.1,(ox (cellOf x c) x.2.2 pt bad).1)::(vg pt r c (i+1) xs (ox (cellOf x c) x.2.2 pt bad).2).1,(vg pt r c (i+1) xs (ox (cellOf x c) x.2.2 pt bad).2).2)
def vh (Ha:bd)(l:List bd):List bd×Bool:=(l.map λf=>(lG f Ha).1,l.any λf=>(lG f Ha).2 != 0)
def rowAt (rows:List gz)(i:Nat):gz:=rows.getD i (0,0,[])
def sA (rows:List gz)(i j:Nat):List gz:=(rows.set i (rowAt rows j)).set j (rowAt rows i)
def Lp (rows:List gz)(r c:Nat):List gz:=rows.set r ((rowAt rows r).1,(rowAt rows r).2.1,(vh (cellOf (rowAt rows r) c) (rowAt rows r).2.2).1)
def aa7 (rows:List gz)(r c:Nat):Bool×List gz×Bool :=
 if findAt rows r c=(o rows) then (true,rows,false) else
  (false,vg (vh (cellOf (rowAt (sA rows r (findAt rows r c)) r) c) (rowAt (sA rows r (findAt rows r c)) r).2.2).1 r c 0 (Lp (sA rows r (findAt rows r c)) r c)
   (vh (cellOf (rowAt (sA rows r (findAt rows r c)) r) c) (rowAt (sA rows r (findAt rows r c)) r).2.2).2)
theorem gW {x:Rat}(h:dD x):okF (ai x):=⟨hX h.1,hX (mY h)⟩
theorem tR:okF ei:=⟨by simp[ei],by simp[ei]⟩
theorem amP (p q:Raw):okF (fM p q).1:=by
 unfold fM
 split
 ·rename_i h;rw[eX] at h;obtain⟨x,I,aw⟩:=(gR _).1 h.1;obtain⟨y,ak,aB⟩:=(gR _).1 h.2
  split
  ·exact tR
  ·rw[aw,aB,eo,eo];exact gW (akR I ak)
 ·exact tR
theorem aa8 (p q:Raw×Int):okF (pk p q).1:=by
 unfold pk
 split
 ·split
  ·exact amP _ _
  ·exact tR
 ·exact tR
theorem amQ (a b:bd):okF (m0 a b).1:=by
 unfold m0
 split
 ·split
  ·exact aa8 _ _
  ·exact tR
 ·exact tR
theorem amR (a b:bd):okF (k5 a b).1:=by
 unfold k5
 split
 ·split
  ·exact amQ _ _
  ·exact tR
 ·exact tR
theorem amS (a b:bd):okF (lG a b).1:=by
 unfold lG
 split
 ·split
  ·split
   ·exact tR
   ·exact aa8 _ _
  ·exact tR
 ·exact tR
theorem amT {x:gz}{c:Nat}{f:bd}(h:x.2.2[c]?=some f):cellOf x c=f:=by
 unfold cellOf;rw[fP,h]
 rfl
theorem Dy {rows:List gz}{i:Nat}{x:gz}(h:rows[i]?=some x):rowAt rows i=x:=by
 unfold rowAt;rw[fP,h]
 rfl
theorem aa9 (pr:bd):∀(l p:List bd) (b:Bool),(ox pr l p b).1.length=o l
 | [],_,_=>by simp[ox]
 |f::dz,[],b=>by cases b<;>simp[ox]
 |f::dz,p::ps,true=>by simp[ox]
 |f::dz,p::ps,false=>by simp[ox,aa9 pr dz ps]
theorem amU (pr:bd)(p:List bd)(b:Bool):ox pr [] p b=([],b):=by
 cases b<;>simp[ox]
theorem amV {α:Type}{rows:List α}{r i:Nat}{x Sv:α}(I:rows[i]?=some x)(sB:rows[r]?=some Sv):((rows.set r x).set i Sv)[r]?=some x:=by
 have D:=(ef.1 I).1;have G:=(ef.1 sB).1;rw[tQ,tQ,kA]
 by_cases h:i=r
 ·subst h;rw[I] at sB
  cases sB;rw[aj rfl,aj D]
 ·rw[aq h,aj rfl,aj G]
def e6.sub:e6->List Nat->e6
 |.seq a _,0::p=>a.sub p
 |.seq _ b,_::p=>b.sub p
 |.cond _ a _,0::p=>a.sub p
 |.cond _ _ b,_::p=>b.sub p
 |.block _ c,_::p=>c.sub p
 |.ghost _ c,_::p=>c.sub p
 |.loop c,_::p=>c.sub p
 |c,_=>c






def Sw (n:Nat):List Data:=[.int .i64 n]
theorem Sx (pt:List bd)(r c:Nat):∀(i:Nat) (l:List gz) (b:Bool),(vg pt r c i l b).1.map (λx=>(x.1,x.2.1,x.2.2.length))=l.map λx=>(x.1,x.2.1,x.2.2.length)
 |_,[],_=>rfl
 |i,x::xs,b=>by
  unfold vg
  split
  ·simp only[e8,Sx pt r c (i+1) xs b]
  ·simp only[e8,Sx pt r c (i+1) xs,aa9]
theorem aba (pr:bd):∀(l p:List bd) (b:Bool),(∀f∈l,okF f)->∀f∈(ox pr l p b).1,okF f
 | [],p,b,h=>by rw[amU];exact h
 |f::dz,[],b,h=>by cases b<;>(simp only[ox];exact h)
 |f::dz,p::ps,true,h=>by simp only[ox];exact h
 |f::dz,p::ps,false,h=>by
  simp only[ox];intro g bw;rcases hF.1 bw with rfl|bw
  ·exact amR _ _
  ·exact aba pr dz ps _ (λx I=>h x (ha _ I)) g bw
theorem Sy (pt:List bd)(r c:Nat):∀(i:Nat) (l:List gz) (b:Bool),(∀x∈l,∀f∈x.2.2,okF f)->∀x∈(vg pt r c i l b).1,∀f∈x.2.2,okF f
 |_,[],_,h=>h
 |i,x::xs,b,h=>by
  unfold vg
  split
  ·intro y ak;rcases hF.1 ak with rfl|ak
   ·exact h _ gP
   ·exact Sy pt r c (i+1) xs b (λz a8=>h z (ha _ a8)) y ak
  ·intro y ak;rcases hF.1 ak with rfl|ak
   ·exact aba _ _ _ _ (h _ gP)
   ·exact Sy pt r c (i+1) xs _ (λz a8=>h z (ha _ a8)) y ak
theorem amW (rows:List gz)(r c:Nat)(U:r<=o rows):r<=findAt rows r c/\findAt rows r c<=o rows:=by
 unfold findAt;have:=List.findIdx_le_length (p:=λx => !Su (cellOf x c)) (xs:=rows.drop r);rw[List.length_drop] at this;omega
theorem sy.piv {N:Nat}{rows:List gz}(h:sy N rows){r c:Nat}(U:r<N):sy N (aa7 rows r c).2.1:=by
 unfold aa7
 split
 ·exact h
 ·rename_i bZ;have nj:=amW rows r c (by rw[h.len];omega);have ax:=h.len;obtain⟨x,I⟩:∃x,rows[findAt rows r c]?=some x:=⟨_,bL (by omega)⟩;obtain⟨Sv,sB⟩:∃x,rows[r]?=some x:=⟨_,bL (by omega)⟩
  have abb:sy N (sA rows r (findAt rows r c)):=by
   unfold sA;rw[Dy I,Dy sB];exact h.swap sB I
  have Sz:(sA rows r (findAt rows r c))[r]?=some x:=by
   unfold sA;rw[Dy I,Dy sB];exact amV I sB
  generalize sA rows r (findAt rows r c)=qg at *;obtain⟨pR,azP⟩:=abb.row x (eN Sz)
  have Ao:sy N (Lp qg r c):=by
   unfold Lp;rw[Dy Sz];refine abb.set Sz (by simp[vh,pR]) λf aN=>?_;obtain⟨g,-,rfl⟩:=fZ.1 aN;exact amS _ _
  generalize Lp qg r c=Dz at *;have iw:=Sx (vh (cellOf (rowAt qg r) c) (rowAt qg r).2.2).1 r c 0 Dz (vh (cellOf (rowAt qg r) c) (rowAt qg r).2.2).2;have ff:=Sy (vh (cellOf (rowAt qg r) c) (rowAt qg r).2.2).1 r c 0 Dz (vh (cellOf (rowAt qg r) c) (rowAt qg r).2.2).2 λx I=>(Ao.row x I).2;dsimp only;generalize (vg (vh (cellOf (rowAt qg r) c) (rowAt qg r).2.2).1 r c 0 Dz (vh (cellOf (rowAt qg r) c) (rowAt qg r).2.2).2).1=el at *;refine⟨?_,?_,λy ak=>⟨?_,ff y ak⟩⟩
  ·have:=congrArg o iw;rw[af,af] at this;rw[this,Ao.len]
  ·have D:el.map (·.1)=Dz.map (·.1):=by
    have:=congrArg (List.map λp:Nat×Nat×Nat=>p.1) iw
    simpa [lX,Function.comp_def] using this
   rw[D];exact Ao.Lo
  ·have D:el.map (λx=>x.2.2.length)=Dz.map λx=>x.2.2.length:=by
    have:=congrArg (List.map λp:Nat×Nat×Nat=>p.2.2) iw
    simpa [lX,Function.comp_def] using this
   have G:y.2.2.length∈Dz.map λx=>x.2.2.length:=by rw[<-D];exact fZ.2 ⟨y,ak,rfl⟩
   obtain⟨z,a8,e⟩:=fZ.1 G;rw[<-e];exact (Ao.row z a8).1








section
variable {α:Type} {op:α->bd×Int} {e:α->bd}
end
def SA (N:Nat)(rows:List qa):Prop:=o rows=N/\∀x∈rows,x.1.length=N/\aau x
theorem SA.set {N:Nat}{rows:List qa}(h:SA N rows){i:Nat}{x:qa}(I:x.1.length=N/\aau x):SA N (rows.set i x):=by
 refine⟨by rw[kA];exact h.1,λy ak=>?_⟩
 rcases Dx ak with ak|rfl
 ·exact h.2 y ak
 ·exact I




def SB (r:qa):List bd:=r.1++[r.2]
def yC (dR:List gz)(cD:List qa):Prop:=dR.map (·.2.2)=cD.map SB
theorem yC.len {dR:List gz}{cD:List qa}(h:yC dR cD):(o dR)=o cD:=by
 have:=congrArg o h
 simpa using this
theorem yC.at_ {dR:List gz}{cD:List qa}(h:yC dR cD){i:Nat}{x:gz}{r:qa}(I:dR[i]?=some x)(U:cD[i]?=some r):x.2.2=SB r:=by
 have:=congrArg (λl:List (List bd)=>l[i]?) h;simp only[bb,I,U,Option.map_some,cz] at this;exact this
theorem yC.set {dR:List gz}{cD:List qa}(h:yC dR cD){i:Nat}{x:gz}{r:qa}(sB:x.2.2=SB r):yC (dR.set i x) (cD.set i r):=by
 unfold yC at h ⊢;rw[Hk,Hk,h,sB]
def cg:Nat->(Nat->Rat)->Rat
 |0,_=>0
 |n+1,f=>cg n f+f n
theorem j0 {n:Nat}{f g:Nat->Rat}(h:∀k,k<n->f k=g k):cg n f=cg n g:=by
 induction n with
 |zero=>rfl
 |succ n aA=>rw[cg,cg,aA λk R=>h k (by omega),h n (by omega)]
theorem sC (n:Nat)(f g:Nat->Rat):cg n (λk=>f k+g k)=cg n f+cg n g:=by
 induction n with
 |zero=>simp[cg,sD]
 |succ n aA=>rw[cg,cg,cg,aA];grind
theorem wX (n:Nat)(c:Rat)(f:Nat->Rat):cg n (λk=>c*f k)=c*cg n f:=by
 induction n with
 |zero=>simp[cg,m2]
 |succ n aA=>rw[cg,cg,aA];grind
theorem rb {n:Nat}{f:Nat->Rat}(h:∀k,k<n->f k=0):cg n f=0:=by
 induction n with
 |zero=>rfl
 |succ n aA=>rw[cg,aA λk R=>h k (by omega),h n (by omega)];exact sD 0
theorem yD {n:Nat}{f:Nat->Rat}{j:Nat}(ay:j<n)(h:∀k,k<n->k≠j->f k=0):cg n f=f j:=by
 induction n with
 |zero=>omega
 |succ n aA =>
  rw[cg]
  by_cases aL:j=n
  ·subst aL;rw[rb λk R=>h k (by omega) (by omega)];grind
  ·rw[aA (by omega) λk R=>h k (by omega),h n (by omega) (by omega)];grind
theorem amX (n m:Nat)(f:Nat->Nat->Rat):cg n (λi=>cg m (λj=>f i j))=cg m (λj=>cg n (λi=>f i j)):=by
 induction n with
 |zero=>rw[cg,rb];intro k R;rfl
 |succ n aA =>
  rw[cg,aA,<-sC]
  rfl
abbrev fI:=Nat->Nat->Rat
def k9 (N:Nat)(a y:Nat->Rat):Rat:=cg (N+1) λk=>a k*y k
def ko (N:Nat)(A:fI)(y:Nat->Rat):Prop:=∀i,i<N->k9 N (A i) y=0
def kJ (A:fI)(r s:Nat):fI:=λi=>if i=s then A r else if i=r then A s else A i
def qh (A:fI)(r c s:Nat):fI:=λi k=>if i=r then kJ A r s r k/kJ A r s r c else kJ A r s i k-kJ A r s i c*(kJ A r s r k/kJ A r s r c)
theorem SC (A:fI)(r s:Nat):kJ A r s r=A s:=by
 unfold kJ
 by_cases h:r=s
 ·simp[h]
 ·simp[h]
theorem amY {N r s:Nat}{A:fI}{y:Nat->Rat}(U:r<N)(aa:s<N):ko N (kJ A r s) y↔ko N A y:=by
 unfold ko kJ
 constructor
 ·intro h i Q
  by_cases D:i=r
  ·have:=h s aa;simp at this;rw[D];exact this
  ·by_cases G:i=s
   ·have:=h r U;rw[G]
    by_cases ag:r=s
    ·omega
    ·simp[ag] at this;exact this
   ·have:=h i Q;simp[D,G] at this;exact this
 ·intro h i Q
  by_cases G:i=s
  ·simp[G];exact h r U
  ·by_cases D:i=r
   ·have:=h s aa;rw[aq G,aj D];exact this
   ·simp[D,G];exact h i Q
theorem amZ (N:Nat)(a b y:Nat->Rat)(x:Rat):k9 N (λk=>a k-x*b k) y=k9 N a y-x*k9 N b y:=by
 unfold k9;have:(λk=>(a k-x*b k)*y k)=λk=>a k*y k+(-x)*(b k*y k):=by funext k;grind
 rw[this,sC,wX];grind
theorem abc (N:Nat)(a y:Nat->Rat)(x:Rat):k9 N (λk=>a k/x) y=k9 N a y/x:=by
 unfold k9;have:(λk=>(a k/x)*y k)=λk=>(1/x)*(a k*y k):=by funext k;grind
 rw[this,wX];grind
theorem am0 {N r s c:Nat}{A:fI}{y:Nat->Rat}(U:r<N)(aa:s<N)(bZ:A s c≠0):ko N (qh A r c s) y↔ko N A y:=by
 rw[<-amY (A:=A) U aa];have azQ:kJ A r s r c≠0:=by rw[SC];exact bZ
 generalize di:kJ A r s=S at *
 have d1:∀i,i≠r->k9 N (qh A r c s i) y=k9 N (S i) y-S i c*(k9 N (S r) y/S r c):=by
  intro i Q;have:qh A r c s i=λk=>S i k-S i c*(S r k/S r c):=by funext k;unfold qh;rw[di,aq Q]
  rw[this,amZ N (S i) (λk=>S r k/S r c) y (S i c),abc]
 have d2:k9 N (qh A r c s r) y=k9 N (S r) y/S r c:=by
  have:qh A r c s r=λk=>S r k/S r c:=by funext k;unfold qh;rw[di,aj rfl]
  rw[this,abc]
 unfold ko
 constructor
 ·intro h
  have au:k9 N (S r) y=0:=by
   have:=h r U;rw[d2] at this;generalize k9 N (S r) y=d at *;grind
  intro i Q
  by_cases Hl:i=r
  ·rw[Hl];exact au
  ·have:=h i Q;rw[d1 i Hl,au] at this;generalize k9 N (S i) y=d at *;grind
 ·intro h i Q;have au:=h r U
  by_cases Hl:i=r
  ·rw[Hl,d2,au];grind
  ·rw[d1 i Hl,au,h i Q];grind
structure tS (N:Nat) (aT:fI) (p c:Nat) (aJ:Nat->Nat):Prop where
 uJ:p<=c
 lt:∀j,j<p->aJ j<c
 unit:∀j,j<p->∀i,i<N->aT i (aJ j)=if i=j then 1 else 0
 zero:∀i,p<=i->i<N->∀k,k<c->aT i k=0
theorem tS.piv {N p c s:Nat}{aT:fI}{aJ:Nat->Nat}(h:tS N aT p c aJ)(aG:p<N)(aa:p<=s)(abd:s<N)(bZ:aT s c≠0):tS N (qh aT p c s) (p+1) (c+1) (λj=>if j=p then c else aJ j):=by
 have di:∀i,i<N->∃bt,bt<N/\kJ aT p s i=aT bt/\(i<p->bt=i)/\(p<=i->p<=bt):=by
  intro i Q;unfold kJ
  by_cases D:i=s
  ·exact⟨p,aG,by rw[aj D],by omega,by omega⟩
  ·by_cases G:i=p
   ·exact⟨s,abd,by rw[aq D,aj G],by omega,by omega⟩
   ·exact⟨i,Q,by rw[aq D,aq G],by omega,by omega⟩
 have azR:kJ aT p s p c≠0:=by rw[SC];exact bZ
 have a8:∀i,p<=i->i<N->∀k,k<c->kJ aT p s i k=0:=by
  intro i Q pg k R;obtain⟨bt,D,G,-,aR⟩:=di i pg;rw[G];exact h.zero bt (aR Q) D k R
 refine⟨by have:=h.uJ;omega,λj ay=>?_,λj ay i Q=>?_,λi Q pg k R=>?_⟩
 ·show (if j=p then c else aJ j)<c+1
  split
  ·omega
  ·have:=h.lt j (by omega);omega
 ·unfold qh
  by_cases DA:j=p
  ·simp only[DA,if_true]
   by_cases la:i=p
   ·rw[aj la,aj la];grind
   ·rw[aq la,aq la];grind
  ·simp only[DA,if_false];have ng:j<p:=by omega
   have aw:kJ aT p s p (aJ j)=0:=a8 p (cA _) aG _ (h.lt j ng);rw[aw]
   by_cases la:i=p
   ·rw[aj la,aq (by omega)];grind
   ·rw[aq la];obtain⟨bt,D,G,ag,aR⟩:=di i Q;rw[G,h.unit j ng bt D];rcases h1 i p with az|cb
    ·rw[ag az];grind
    ·rw[aq (by have:=aR cb;omega),aq (by omega)];grind
 ·unfold qh;rw[aq (by omega)]
  by_cases Dl:k=c
  ·subst Dl;grind
  ·rw[a8 i (by omega) pg k (by omega),a8 p (cA _) aG k (by omega)];grind
theorem abe (N:Nat)(aT:fI)(aJ:Nat->Nat):tS N aT 0 0 aJ:=⟨cA _,λj ay=>by omega,λj ay=>by omega,λi Q pg k R=>by omega⟩
end Go.Mini
namespace Go.Mini
open Classical
structure dL where
 aC:Nat
 to:Int
 bH:Nat
 am:Rat
theorem A1 {a b:Rat}(h:a=b):a<=b:=by rw[h];exact gX
def cy:List dL->(dL->Rat)->Rat
 | [],_=>0
 |c::l,a1=>a1 c+cy l a1
theorem wY {l:List dL}{a1 cW:dL->Rat}(h:∀c∈l,a1 c=cW c):cy l a1=cy l cW:=by
 induction l with
 |nil=>rfl
 |cons c l aA=>rw[cy,cy,h c gP,aA λx I=>h x (ha _ I)]
theorem Lq (l:List dL)(a1 cW:dL->Rat):cy l (λc=>a1 c+cW c)=cy l a1+cy l cW:=by
 induction l with
 |nil=>simp only[cy];grind
 |cons c l aA=>rw[cy,cy,cy,aA];grind
theorem Hm (l:List dL)(a1 cW:dL->Rat):cy l (λc=>a1 c-cW c)=cy l a1-cy l cW:=by
 induction l with
 |nil=>simp only[cy];grind
 |cons c l aA=>rw[cy,cy,cy,aA];grind
theorem Lr (l:List dL)(a:Rat)(a1:dL->Rat):cy l (λc=>a*a1 c)=a*cy l a1:=by
 induction l with
 |nil=>simp only[cy];grind
 |cons c l aA=>rw[cy,cy,aA];grind
theorem Hn {l:List dL}{a1:dL->Rat}(h:∀c∈l,a1 c=0):cy l a1=0:=by
 induction l with
 |nil=>rfl
 |cons c l aA=>rw[cy,h c gP,aA λx I=>h x (ha _ I)];grind
theorem DB {l:List dL}{a1 cW:dL->Rat}(h:∀c∈l,a1 c<=cW c):cy l a1<=cy l cW:=by
 induction l with
 |nil=>exact gX
 |cons c l aA =>
  have D:=h c gP;have G:=aA λx I=>h x (ha _ I);rw[cy,cy];grind
theorem yE {l:List dL}{a1:dL->Rat}(h:∀c∈l,0<=a1 c):0<=cy l a1:=by
 have:=DB (l:=l) (a1:=λ_=>0) (cW:=a1) h;rwa [Hn λ_ _=>rfl] at this
theorem SD {l:List dL}{a1:dL->Rat}(h:∀c∈l,0<=a1 c)(aa:cy l a1<=0):∀c∈l,a1 c=0:=by
 induction l with
 |nil=>intro c E;cases E
 |cons c l aA =>
  rw[cy] at aa;have D:=h c gP;have G:=yE λx I=>h x (ha c I);intro x I;rcases hF.1 I with rfl|I
  ·grind
  ·exact aA (λy ak=>h y (ha _ ak)) (by grind) x I
theorem am1 {l:List dL}{a1 cW:dL->Rat}(h:∀c∈l,a1 c<=cW c){j1:dL}(E:j1∈l)(az:a1 j1<cW j1):cy l a1<cy l cW:=by
 by_cases aa:cy l a1<cy l cW
 ·exact aa
 ·have:=SD (l:=l) (a1:=λc=>cW c-a1 c) (λc E=>by have:=h c E;grind) (by rw[Hm];grind) j1 E;grind
theorem abf {l:List dL}{a1:dL->Rat}(h:0<cy l a1):∃c∈l,0<a1 c:=by
 apply lI;intro aL
 have:=DB (l:=l) (a1:=a1) (cW:=λ_=>0) λc E=>by
  apply lI;intro G;exact aL ⟨c,E,by grind⟩
 rw[Hn (a1:=λ_=>(0:Rat)) λ_ _=>rfl] at this;grind
theorem Ho {n:Nat}{f g:Nat->Rat}(h:∀k,k<n->f k<=g k):cg n f<=cg n g:=by
 induction n with
 |zero=>exact gX
 |succ n aA =>
  have D:=h n (by omega);have G:=aA λk R=>h k (by omega);rw[cg,cg];grind
theorem am2 {n:Nat}{f:Nat->Rat}(h:∀k,k<n->0<=f k):0<=cg n f:=by
 have:=Ho (n:=n) (f:=λ_=>0) (g:=f) h;rwa [rb λ_ _=>rfl] at this
theorem Hp (n:Nat)(f g:Nat->Rat):cg n (λk=>f k-g k)=cg n f-cg n g:=by
 induction n with
 |zero=>simp only[cg];grind
 |succ n aA=>rw[cg,cg,cg,aA];grind
theorem am3 {n:Nat}{f:Nat->Rat}(h:∀k,k<n->0<=f k)(aa:cg n f<=0):∀k,k<n->f k=0:=by
 induction n with
 |zero=>intro k R;omega
 |succ n aA =>
  rw[cg] at aa;have D:=h n (by omega);have G:=am2 (n:=n) (f:=f) λk R=>h k (by omega);intro k R
  by_cases SE:k=n
  ·subst SE;grind
  ·exact aA (λk R=>h k (by omega)) (by grind) k (by omega)
def oy (C:Nat->Prop)(c:dL):Prop:=∃i:Nat,c.to=i/\C i
theorem SF {n:Nat}(C:Nat->Prop)(hK:∀i,C i->i<n)(l:List dL)(a:dL->Rat):cg n (λi=>if C i then cy l (λc=>if c.to=(i:Int) then a c else 0) else 0)=cy l (λc=>if oy C c then a c else 0):=by
 induction l with
 |nil=>exact rb λk _=>by split<;>rfl
 |cons c l aA =>
  rw[cy,<-aA]
  have e:(λi:Nat=>if C i then cy (c::l) (λc=>if c.to=(i:Int) then a c else 0) else 0)=λi=>(if C i then (if c.to=(i:Int) then a c else 0) else 0)+(if C i then cy l (λc=>if c.to=(i:Int) then a c else 0) else 0):=by
   funext i
   split
   ·rw[cy]
   ·grind
  rw[e,sC]
  congr 1
  by_cases h:oy C c
  ·obtain⟨i,Q,SG⟩:=h
   rw[yD (hK i SG) λk R oY=>by
    split
    ·rw[aq (by omega)]
    ·rfl]
   rw[aj SG,aj Q,aj ⟨i,Q,SG⟩]
  ·rw[aq h];refine rb λk R=>?_
   split
   ·rw[aq λgi=>h ⟨k,gi,by assumption⟩]
   ·rfl
theorem Ls {n:Nat}{l:List dL}(ax:∀c∈l,c.aC<n)(b:Nat->dL->Rat):cg n (λk=>cy l (λc=>if c.aC=k then b k c else 0))=cy l (λc=>b c.aC c):=by
 induction l with
 |nil=>exact rb λk _=>rfl
 |cons c l aA =>
  rw[cy,<-aA λx I=>ax x (ha _ I)];have e:(λk:Nat=>cy (c::l) (λc=>if c.aC=k then b k c else 0))=λk=>(if c.aC=k then b k c else 0)+cy l (λc=>if c.aC=k then b k c else 0):=rfl;rw[e,sC]
  congr 1
  rw[yD (ax c gP) λk _ R=>aq (Ne.symm R),aj rfl]
structure Day where
 n:Nat
 H:Nat->Rat
 dM:List dL
structure Day.dx (d:Day):Prop where
 aC:∀c∈d.dM,c.aC<d.n
 to:∀c∈d.dM,c.to<d.n
 bH:∀c∈d.dM,c.bH<10
 am:∀c∈d.dM,0<=c.am
 H:∀i,i<d.n->0<=d.H i
def Day.cH (d:Day)(k r:Nat):Rat:=cy d.dM λc=>if c.aC=k/\c.bH<r then c.am else 0
def Day.S (d:Day)(k r:Nat):Rat:=cy d.dM λc=>if c.aC=k/\c.bH=r then c.am else 0
theorem Day.am4 (d:Day)(k:Nat):d.cH k 0=0:=Hn λc _=>aq (by omega)
theorem Day.vi (d:Day)(k r:Nat):d.cH k (r+1)=d.cH k r+d.S k r:=by
 unfold Day.cH Day.S;rw[<-Lq];refine wY λc _=>?_
 by_cases D:c.aC=k/\c.bH<r
 ·rw[aj ⟨D.1,by omega⟩,aj D,aq (by omega)];grind
 ·rw[aq D]
  by_cases G:c.aC=k/\c.bH=r
  ·rw[aj ⟨G.1,by omega⟩,aj G];grind
  ·rw[aq (by omega),aq G];grind
theorem Day.dx.Lt {d:Day}(ae:d.dx)(k r:Nat):0<=d.S k r:=yE λc E=>by
 split
 ·exact ae.am c E
 ·exact gX
theorem Day.dx.wZ {d:Day}(ae:d.dx)(k:Nat){r s:Nat}(h:r<=s):d.cH k r<=d.cH k s:=by
 induction s with
 |zero =>
      obtain rfl:r=0:=by omega
      exact gX
 |succ s aA =>
  by_cases U:r=s+1
  ·rw[U];exact gX
  ·have D:=aA (by omega);have G:=ae.Lt k s;rw[d.vi];grind
theorem Day.dx.abg {d:Day}(ae:d.dx){c:dL}(E:c∈d.dM):c.am<=d.S c.aC c.bH:=by
 have:∀l:List dL,(∀x∈l,0<=x.am)->c∈l->c.am<=cy l λx=>if x.aC=c.aC/\x.bH=c.bH then x.am else 0:=by
  intro l
  induction l with
  |nil=>intro _ h;cases h
  |cons x l aA =>
   intro D G;rw[cy]
   have ag:0<=cy l λx=>if x.aC=c.aC/\x.bH=c.bH then x.am else 0:=yE λy ak=>by
    split
    ·exact D y (ha _ ak)
    ·exact gX
   rcases hF.1 G with rfl|G
   ·rw[aj ⟨rfl,rfl⟩];grind
   ·have aR:=aA (λy ak=>D y (ha _ ak)) G;have bs:=D x gP
    split<;>grind
 exact this d.dM ae.am E
def Day.w (d:Day)(c:dL):Rat:=c.am/d.S c.aC c.bH
theorem Day.dx.qi {d:Day}(ae:d.dx){c:dL}(E:c∈d.dM):0<=d.w c:=by
 unfold Day.w;have D:=ae.am c E;have G:=ae.Lt c.aC c.bH;rw[DC]
 exact SH D (by
  rcases Rat.le_iff_lt_or_eq.1 G with h|h
  ·exact Rat.le_of_lt (abh.2 h)
  ·rw[<-h];exact A1 Rat.inv_zero.symm)
theorem Day.dx.SI {d:Day}(ae:d.dx){c:dL}(E:c∈d.dM)(h:0<c.am):0<d.w c:=by
 unfold Day.w;have G:=ae.abg E;rw[DC];exact Hq h (abh.2 (by grind))
theorem Day.abi {d:Day}{c:dL}(h:c.am=0):d.w c=0:=by
 unfold Day.w;rw[h,DC,w0]
theorem Day.Lu {d:Day}{c:dL}(h:0<d.S c.aC c.bH):d.w c*d.S c.aC c.bH=c.am:=by
 unfold Day.w;grind
theorem Day.dx.Lv {d:Day}(ae:d.dx)(C:Nat->Prop)(f:Nat->Nat)(di:∀k,C k->0<d.S k (f k))(x:Nat->Rat):cy d.dM (λc=>if C c.aC/\c.bH=f c.aC then d.w c*x c.aC else 0)=cg d.n (λk=>if C k then x k else 0):=by
 rw[<-Ls ae.aC λk c=>if C k/\c.bH=f k then d.w c*x k else 0];refine j0 λk R=>?_
 by_cases hK:C k
 ·rw[aj hK];have hT:=di k hK
  have e:cy d.dM (λc=>if c.aC=k then (if C k/\c.bH=f k then d.w c*x k else 0) else 0)=cy d.dM λc=>(x k/d.S k (f k))*(if c.aC=k/\c.bH=f k then c.am else 0):=by
   refine wY λc _=>?_
   by_cases D:c.aC=k
   ·by_cases G:c.bH=f k
    ·rw[aj D,aj ⟨hK,G⟩,aj ⟨D,G⟩];unfold Day.w;rw[D,G];grind
    ·rw[aj D,aq (λh=>G h.2),aq (λh=>G h.2)];grind
   ·rw[aq D,aq (λh=>D h.1)];grind
  rw[e,Lr];show x k/d.S k (f k)*d.S k (f k)=x k;grind
 ·rw[aq hK]
  exact Hn λc _=>by
   split
   ·rw[aq λh=>hK h.1]
   ·rfl
end Go.Mini
namespace Go.Mini
open Classical
def pos (x:Rat):Rat:=if x<=0 then 0 else x
theorem DD (x:Rat):0<=pos x:=by unfold pos;split<;>grind
theorem Lw (x:Rat):x<=pos x:=by unfold pos;split<;>grind
theorem abj {x y:Rat}(h:x<=y):pos x<=pos y:=by unfold pos;split<;>split<;>grind
theorem vj {x:Rat}(h:0<=x):pos x=x:=by unfold pos;split<;>grind
theorem sE {x:Rat}(h:x<=0):pos x=0:=aj h
theorem A2 {a x y:Rat}(aM:0<=a)(h:x<=y):a*x<=a*y:=Rat.mul_le_mul_of_nonneg_left h aM
theorem sF {a x:Rat}(aM:0<=a)(h:0<=x):0<=a*x:=SH aM h
def Day.q (d:Day)(f:Nat->Nat)(h:Nat->Rat)(c:dL):Rat:=if c.bH<f c.aC then c.am else if c.bH=f c.aC then d.w c*pos (h c.aC-d.cH c.aC c.bH) else 0
def Day.l (d:Day)(f:Nat->Nat)(P:Nat->Prop)(h:Nat->Rat)(c:dL):Rat:=if c.bH<f c.aC then c.am else if c.bH=f c.aC/\P c.aC then d.w c*(h c.aC-d.cH c.aC c.bH) else 0
def Day.eJ (d:Day)(a:dL->Rat)(i:Nat):Rat:=d.H i+cy d.dM λc=>if c.to=(i:Int) then a c else 0
theorem Day.A5 {d:Day}{a b:dL->Rat}(h:∀c∈d.dM,a c<=b c)(i:Nat):d.eJ a i<=d.eJ b i:=by
 unfold Day.eJ
 have:=DB (l:=d.dM) (a1:=λc=>if c.to=(i:Int) then a c else 0) (cW:=λc=>if c.to=(i:Int) then b c else 0) λc E=>by
  try dsimp only
  split
  ·exact h c E
  ·exact gX
 grind
theorem Day.abk {d:Day}{a b:dL->Rat}(h:∀c∈d.dM,a c=b c)(i:Nat):d.eJ a i=d.eJ b i:=by
 unfold Day.eJ
 congr 1
 exact wY λc E=>by rw[h c E]
theorem Day.Lx (d:Day)(a b:dL->Rat)(i:Nat):d.eJ a i-d.eJ b i=cy d.dM λc=>if c.to=(i:Int) then a c-b c else 0:=by
 unfold Day.eJ
 have:(λc:dL=>if c.to=(i:Int) then a c-b c else 0)=λc=>(if c.to=(i:Int) then a c else 0)-(if c.to=(i:Int) then b c else 0):=by
  funext c;split<;>grind
 rw[this,Hm];grind
def Day.gf (d:Day)(C:Nat->Prop)(x:Nat->Rat):Rat:=cg d.n λi=>if C i then x i else 0
theorem Day.am5 (d:Day)(C:Nat->Prop)(x y:Nat->Rat):d.gf C (λi=>x i-y i)=d.gf C x-d.gf C y:=by
 unfold Day.gf;rw[<-Hp];exact j0 λk _=>by split<;>grind
theorem Day.am6 (d:Day)(C:Nat->Prop)(x y:Nat->Rat):d.gf C (λi=>x i+y i)=d.gf C x+d.gf C y:=by
 unfold Day.gf;rw[<-sC];exact j0 λk _=>by split<;>grind
theorem Day.abl {d:Day}{C:Nat->Prop}{x y:Nat->Rat}(h:∀i,i<d.n->C i->x i<=y i):d.gf C x<=d.gf C y:=by
 refine Ho λk R=>?_
 by_cases E:C k
 ·rw[aj E,aj E];exact h k R E
 ·rw[aq E,aq E];exact gX
theorem Day.Hr {d:Day}{C:Nat->Prop}{x y:Nat->Rat}(h:∀i,i<d.n->C i->x i=y i):d.gf C x=d.gf C y:=by
 refine j0 λk R=>?_
 split
 ·exact h k R (by assumption)
 ·rfl
theorem Day.SJ {d:Day}{C:Nat->Prop}(hK:∀i,C i->i<d.n)(a:dL->Rat):d.gf C (d.eJ a)=d.gf C d.H+cy d.dM λc=>if oy C c then a c else 0:=by
 rw[<-SF C hK];show cg d.n _=cg d.n _+_;rw[<-sC];refine j0 λk _=>?_;unfold Day.eJ
 split<;>grind
def Day.closed (d:Day)(f:Nat->Nat)(C:Nat->Prop):Prop:=∀c∈d.dM,C c.aC->c.bH=f c.aC->0<c.am->oy C c
def Day.cap (d:Day)(f:Nat->Nat)(g:Nat->Rat)(C:Nat->Prop)(k:Nat):Rat:=if C k then d.cH k (f k) else g k
section
variable {d:Day} {f:Nat->Nat} {P:Nat->Prop} {h g:Nat->Rat} {C:Nat->Prop} {c:dL}
theorem Day.abm (D:c.bH<f c.aC):d.l f P h c=c.am:=by unfold Day.l;rw[aj D]
theorem Day.abn (D:c.bH=f c.aC)(G:P c.aC):d.l f P h c=d.w c*(h c.aC-d.cH c.aC c.bH):=by
 unfold Day.l;rw[aq (by omega),aj ⟨D,G⟩]
theorem Day.SK (D:¬ c.bH<f c.aC)(G:¬ (c.bH=f c.aC/\P c.aC)):d.l f P h c=0:=by
 unfold Day.l;rw[aq D,aq G]
theorem Day.am7 (D:c.bH<f c.aC):d.q f h c=c.am:=by unfold Day.q;rw[aj D]
theorem Day.am8 (D:c.bH=f c.aC):d.q f h c=d.w c*pos (h c.aC-d.cH c.aC c.bH):=by
 unfold Day.q;rw[aq (by omega),aj D]
theorem Day.am9 (D:¬ c.bH<f c.aC)(G:¬ c.bH=f c.aC):d.q f h c=0:=by
 unfold Day.q;rw[aq D,aq G]
theorem Hs (h:¬ C c.aC):d.q f (d.cap f g C) c=d.q f g c:=by
 unfold Day.q Day.cap;rw[aq h]
theorem DE (h:C c.aC):d.q f (d.cap f g C) c=if c.bH<f c.aC then c.am else 0:=by
 by_cases D:c.bH<f c.aC
 ·rw[aj D,Day.am7 D]
 ·rw[aq D]
  by_cases G:c.bH=f c.aC
  ·rw[Day.am8 G];unfold Day.cap;rw[aj h,G,sE (by grind),m2]
  ·rw[Day.am9 D G]
end
structure Inv (d:Day) (f:Nat->Nat) (g:Nat->Rat):Prop where
 le:∀i,f i<=10
 sup:∀i,i<d.n->d.eJ (d.q f g) i<=g i
 ct:∀i,i<d.n->f i<10->d.cH i (f i)<=g i
 Q:∀i,i<d.n->f i<10->g i<d.cH i (f i+1)
 dM:∀C:Nat->Prop,(∃i,C i)->(∀i,C i->i<d.n/\f i<10)->d.closed f C->d.gf C (d.eJ (d.q f (d.cap f g C)))<d.gf C λi=>d.cH i (f i)
theorem Inv.yF {d:Day}{f:Nat->Nat}{g:Nat->Rat}(h:Inv d f g){i:Nat}(Q:i<d.n)(aN:f i<10):0<d.S i (f i):=by
 have D:=h.ct i Q aN;have G:=h.Q i Q aN;rw[d.vi] at G;grind
theorem Inv.start {d:Day}(ae:d.dx):Inv d (λ_=>10) (d.eJ λc=>c.am) :=
 ⟨λ_=>cA _,λi _=>d.A5 (λc E=>by
  unfold Day.q;rw[aj (ae.bH c E)];exact gX) i,λi _ h=>absurd h (by omega),λi _ h=>absurd h (by omega),λC ⟨i,Q⟩ h=>absurd (h i Q).2 (by omega)⟩
theorem Inv.abo {d:Day}{f:Nat->Nat}{g:Nat->Rat}(Q:Inv d f g)(ae:d.dx){C:Nat->Prop}(D:∃i,C i)(G:∀i,C i->i<d.n/\f i<10)(ag:d.closed f C)(L:dL->Rat)(e:Nat->Rat)(he:∀k,k<d.n->C k->0<=e k)
  (gl:∀c∈d.dM,oy C c->L c<=d.q f (d.cap f g C) c+if C c.aC/\c.bH=f c.aC then d.w c*e c.aC else 0):d.gf C (d.eJ L)<d.gf C λi=>d.cH i (f i)+e i:=by
 have dp:=Q.dM C D G ag;have hK:∀i,C i->i<d.n:=λi h=>(G i h).1;have dN:=ae.Lv C f (λk R=>Q.yF (G k R).1 (G k R).2) e;rw[Day.SJ hK] at dp ⊢;rw[Day.am6]
 have jR:cy d.dM (λc=>if oy C c then L c else 0)<=cy d.dM λc=>(if oy C c then d.q f (d.cap f g C) c else 0)+(if C c.aC/\c.bH=f c.aC then d.w c*e c.aC else 0):=by
  refine DB λc E=>?_
  have au:0<=if C c.aC/\c.bH=f c.aC then d.w c*e c.aC else 0:=by
   split
   ·exact sF (ae.qi E) (he _ (ae.aC c E) (by rename_i h;exact h.1))
   ·exact gX
  by_cases cL:oy C c
  ·rw[aj cL,aj cL];exact gl c E cL
  ·rw[aq cL,aq cL];grind
 rw[Lq,dN] at jR;have w2:d.gf C e=cg d.n λk=>if C k then e k else 0:=rfl;rw[<-w2] at jR;grind
structure hz (d:Day) (f:Nat->Nat) (g:Nat->Rat) (P:Nat->Prop) (h:Nat->Rat):Prop where
 kK:∀i,P i->i<d.n/\f i<10
 Ly:∀C:Nat->Prop,(∃i,C i)->(∀i,C i->P i)->¬ d.closed f C
 sys:∀i,i<d.n->h i=d.eJ (d.l f P h) i
 le:∀i,i<d.n->h i<=g i
 ge:∀i,P i->d.cH i (f i)<h i
theorem zr {d:Day}{f:Nat->Nat}{g:Nat->Rat}(Q:Inv d f g)(ae:d.dx){P:Nat->Prop}(hk:∀i,P i->i<d.n/\f i<10)(bM:∀C:Nat->Prop,(∃i,C i)->(∀i,C i->P i)->¬ d.closed f C)(x:Nat->Rat)
  (I:∀i,i<d.n->(cy d.dM λc=>if c.to=(i:Int) then (if c.bH=f c.aC/\P c.aC then d.w c*x c.aC else 0) else 0)<=x i):∀i,i<d.n->0<=x i:=by
 have key:∀i,P i->0<=x i:=by
  intro i0 p2;apply lI;intro jf;obtain⟨C,re⟩:∃C:Nat->Prop,∀i,C i↔P i/\x i<0:=⟨λi=>P i/\x i<0,λ_=>Iff.rfl⟩;have hK:∀i,C i->i<d.n:=λi h=>(hk i ((re i).1 h).1).1;refine bM C ⟨i0,(re i0).2 ⟨p2,by grind⟩⟩ (λi h=>((re i).1 h).1) ?_
  have aw:=SF C hK d.dM λc=>if c.bH=f c.aC/\P c.aC then d.w c*x c.aC else 0;have aB:=ae.Lv C f (λk R=>Q.yF (hk k ((re k).1 R).1).1 (hk k ((re k).1 R).1).2) x
  have cI:cg d.n (λi=>if C i then cy d.dM (λc=>if c.to=(i:Int) then (if c.bH=f c.aC/\P c.aC then d.w c*x c.aC else 0) else 0) else 0)<=cg d.n (λk=>if C k then x k else 0):=by
   refine Ho λk R=>?_
   by_cases E:C k
   ·rw[aj E,aj E];exact I k R
   ·rw[aq E,aq E];exact gX
  rw[aw,<-aB] at cI;have gJ:=SD (l:=d.dM) (a1:=λc=>(if oy C c then (if c.bH=f c.aC/\P c.aC then d.w c*x c.aC else 0) else 0)-(if C c.aC/\c.bH=f c.aC then d.w c*x c.aC else 0)) (λc E=>?_) (by rw[Hm];grind)
  ·intro c E fT jD w3;apply lI;intro cL;have:=gJ c E
   try dsimp only at this
   rw[aq cL,aj ⟨fT,jD⟩] at this;have D:=ae.SI E w3;have G:=((re _).1 fT).2;have ag:0<d.w c*(-x c.aC):=Hq D (by grind);grind
  ·try dsimp only
   have D:=ae.qi E
   have kV:((if C c.aC/\c.bH=f c.aC then d.w c*x c.aC else 0)=(if c.bH=f c.aC/\P c.aC then d.w c*x c.aC else 0)/\(if C c.aC/\c.bH=f c.aC then d.w c*x c.aC else 0)<=0)\/((if C c.aC/\c.bH=f c.aC then d.w c*x c.aC else 0)=0/\0<=(if c.bH=f c.aC/\P c.aC then d.w c*x c.aC else 0)):=by
    by_cases fT:C c.aC/\c.bH=f c.aC
    ·left
     have G:=(re _).1 fT.1;have ag:0<=d.w c*(-x c.aC):=sF D (by have:=G.2;grind);have aR:c.bH=f c.aC/\P c.aC:=⟨fT.2,G.1⟩;rw[aj fT,aj aR];exact⟨rfl,by grind⟩
    ·right
     rw[aq fT];refine⟨rfl,?_⟩
     split
     ·rename_i G;refine sF D ?_;apply lI;intro h;exact fT ⟨(re _).2 ⟨G.2,by grind⟩,G.1⟩
     ·exact gX
   generalize (if C c.aC/\c.bH=f c.aC then d.w c*x c.aC else 0)=B at *;generalize (if c.bH=f c.aC/\P c.aC then d.w c*x c.aC else 0)=A at *;rcases kV with ⟨G,ag⟩|⟨G,ag⟩<;>split<;>grind
 intro i cL;refine tT ?_ (I i cL);refine yE λc E=>?_
 split
 ·split
  ·rename_i h;exact sF (ae.qi E) (key _ h.2)
  ·exact gX
 ·exact gX
theorem Day.ana (d:Day)(f:Nat->Nat)(P:Nat->Prop)(h cu:Nat->Rat)(c:dL):d.l f P cu c-d.l f P h c=if c.bH=f c.aC/\P c.aC then d.w c*(cu c.aC-h c.aC) else 0:=by
 unfold Day.l
 by_cases D:c.bH<f c.aC
 ·rw[aj D,aj D,aq (by omega)];grind
 ·rw[aq D,aq D]
  split<;>grind
theorem anb {d:Day}{f:Nat->Nat}{g:Nat->Rat}(Q:Inv d f g)(ae:d.dx){P:Nat->Prop}(hk:∀i,P i->i<d.n/\f i<10)(bM:∀C:Nat->Prop,(∃i,C i)->(∀i,C i->P i)->¬ d.closed f C){h cu:Nat->Rat}
  (e:∀i,i<d.n->h i=d.eJ (d.l f P h) i) (e':∀i,i<d.n->cu i=d.eJ (d.l f P cu) i):∀i,i<d.n->h i=cu i:=by
 have main:∀h cu:Nat->Rat,(∀i,i<d.n->h i=d.eJ (d.l f P h) i)->(∀i,i<d.n->cu i=d.eJ (d.l f P cu) i)->∀i,i<d.n->0<=cu i-h i:=by
  intro h cu e e';refine zr Q ae hk bM (λi=>cu i-h i) λi cL=>?_;rw[e i cL,e' i cL,d.Lx];refine A1 (wY λc E=>?_);rw[d.ana]
 intro i cL;have D:=main h cu e e' i cL;have G:=main cu h e' e i cL;grind
theorem anc {d:Day}{f:Nat->Nat}{g:Nat->Rat}(Q:Inv d f g)(ae:d.dx){P:Nat->Prop}(hk:∀i,P i->i<d.n/\f i<10)(bM:∀C:Nat->Prop,(∃i,C i)->(∀i,C i->P i)->¬ d.closed f C)(x:Nat->Rat)
  (I:∀i,i<d.n->x i=cy d.dM λc=>if c.to=(i:Int) then (if c.bH=f c.aC/\P c.aC then d.w c*x c.aC else 0) else 0):∀i,i<d.n->x i=0:=by
 intro i cL;have D:=zr Q ae hk bM x (λi cL=>A1 (I i cL).symm) i cL;have G:=zr Q ae hk bM (λi => -x i) (λi cL=>?_) i cL
 ·grind
 ·rw[I i cL];refine A1 ?_;have:∀a1:dL->Rat,-(cy d.dM a1)=cy d.dM λc=>(-1)*a1 c:=λa1=>by rw[Lr];grind
  rw[this];refine wY λc E=>?_
  split
  ·split<;>grind
  ·grind
theorem Day.ane {d:Day}(ae:d.dx){f:Nat->Nat}{P:Nat->Prop}{h g:Nat->Rat}(hle:∀i,i<d.n->h i<=g i){c:dL}(E:c∈d.dM):d.l f P h c<=d.q f g c:=by
 unfold Day.l Day.q
 by_cases D:c.bH<f c.aC
 ·rw[aj D,aj D];exact gX
 ·rw[aq D,aq D]
  by_cases G:c.bH=f c.aC
  ·rw[aj G];have hw:=ae.qi E
   by_cases ag:P c.aC
   ·rw[aj ⟨G,ag⟩];refine A2 hw (tT ?_ (Lw _));have:=hle _ (ae.aC c E);grind
   ·rw[aq λh=>ag h.2];exact sF hw (DD _)
  ·rw[aq λh=>G h.1,aq G];exact gX
theorem hz.start {d:Day}(ae:d.dx){f:Nat->Nat}{g:Nat->Rat}(Q:Inv d f g){h:Nat->Rat}(aa:∀i,i<d.n->h i=d.eJ (d.l f (λ_=>False) h) i):hz d f g (λ_=>False) h :=
 ⟨λi h=>h.elim,λC ⟨i,h⟩ cu=>(cu i h).elim,aa,λi cL=>by
  rw[aa i cL];refine tT (d.A5 (b:=d.q f g) (λc E=>?_) i) (Q.sup i cL);unfold Day.l Day.q
  by_cases D:c.bH<f c.aC
  ·rw[aj D,aj D];exact gX
  ·rw[aq D,aq D,aq λh=>h.2]
   split
   ·exact sF (ae.qi E) (DD _)
   ·exact gX,λi h=>h.elim⟩
def sG (d:Day)(f:Nat->Nat)(P:Nat->Prop)(h:Nat->Rat)(i:Nat):Prop:=P i\/(i<d.n/\f i<10/\d.cH i (f i)<h i)
theorem hz.DF {d:Day}{f:Nat->Nat}{g:Nat->Rat}{P:Nat->Prop}{h:Nat->Rat}(aG:hz d f g P h):∀i,sG d f P h i->i<d.n/\f i<10:=λi aL=>aL.elim (aG.kK i) λh=>⟨h.1,h.2.1⟩
theorem hz.SL {d:Day}{f:Nat->Nat}{g:Nat->Rat}{P:Nat->Prop}{h:Nat->Rat}(aG:hz d f g P h):∀i,sG d f P h i->d.cH i (f i)<h i:=λi aL=>aL.elim (aG.ge i) λh=>h.2.2
theorem hz.abp {d:Day}(ae:d.dx){f:Nat->Nat}{g:Nat->Rat}(Q:Inv d f g){P:Nat->Prop}{h:Nat->Rat}(aG:hz d f g P h):∀C:Nat->Prop,(∃i,C i)->(∀i,C i->sG d f P h i)->¬ d.closed f C:=by
 intro C D G ag;have aN:∀i,C i->i<d.n/\f i<10:=λi E=>aG.DF i (G i E)
 have nj:=Q.abo ae D aN ag (d.l f P h) (λk=>if P k then h k-d.cH k (f k) else 0) (λk _ R=>by
  try dsimp only
  split
  ·have:=aG.ge k (by assumption);grind
  ·exact gX) λc E _=>by
   by_cases jR:C c.aC
   ·rw[DE jR]
    by_cases dp:c.bH<f c.aC
    ·rw[Day.abm dp,aj dp,aq (λh=>by have:=h.2;omega)];grind
    ·rw[aq dp]
     by_cases dN:c.bH=f c.aC
     ·have SM:C c.aC/\c.bH=f c.aC:=⟨jR,dN⟩;rw[aj SM]
      by_cases w2:P c.aC
      ·rw[Day.abn dN w2,aj w2,dN];grind
      ·rw[Day.SK dp (λh=>w2 h.2),aq w2];grind
     ·rw[Day.SK dp (λh=>dN h.1),aq λh=>dN h.2];grind
   ·rw[Hs jR,aq λh=>jR h.1];have:=Day.ane ae (P:=P) (f:=f) aG.le E;grind
 have e:d.gf C (d.eJ (d.l f P h))=d.gf C h:=Day.Hr λi cL _=>(aG.sys i cL).symm;rw[e] at nj
 have:d.gf C (λi=>d.cH i (f i)+if P i then h i-d.cH i (f i) else 0)<=d.gf C h:=by
  refine Day.abl λi cL E=>?_;have:=aG.SL i (G i E)
  split<;>grind
 grind
theorem hz.next {d:Day}(ae:d.dx){f:Nat->Nat}{g:Nat->Rat}(Q:Inv d f g){P:Nat->Prop}{h cu:Nat->Rat}(aG:hz d f g P h)(aa:∀i,i<d.n->cu i=d.eJ (d.l f (sG d f P h) cu) i):hz d f g (sG d f P h) cu:=by
 have bM:=aG.abp ae Q
 have u3:∀i,i<d.n->0<=cu i-h i:=by
  refine zr Q ae aG.DF bM (λi=>cu i-h i) λi cL=>?_;rw[aa i cL,aG.sys i cL,d.Lx];refine DB λc E=>?_;have hw:=ae.qi E
  split
  ·unfold Day.l
   by_cases D:c.bH<f c.aC
   ·rw[aj D,aj D,aq (by omega)];grind
   ·rw[aq D,aq D]
    by_cases G:c.bH=f c.aC
    ·by_cases ag:sG d f P h c.aC
     ·rw[aj ⟨G,ag⟩,aj ⟨G,ag⟩]
      by_cases aR:P c.aC
      ·rw[aj ⟨G,aR⟩];grind
      ·rw[aq λh=>aR h.2];have bs:=aG.SL _ ag;have:=sF hw (show 0<=h c.aC-d.cH c.aC c.bH by rw[G];grind);grind
     ·rw[aq λh=>ag h.2,aq λh=>ag h.2,aq λh=>ag (.inl h.2)];grind
    ·rw[aq λh=>G h.1,aq λh=>G h.1,aq λh=>G h.1];grind
  ·exact gX
 have hle:∀i,i<d.n->0<=g i-cu i:=by
  refine zr Q ae aG.DF bM (λi=>g i-cu i) λi cL=>?_;refine tT ?_ (show d.eJ (d.q f g) i-cu i<=g i-cu i by have:=Q.sup i cL;grind);rw[aa i cL,d.Lx];refine DB λc E=>?_;have hw:=ae.qi E
  split
  ·unfold Day.l Day.q
   by_cases D:c.bH<f c.aC
   ·rw[aj D,aj D,aq (by omega)];grind
   ·rw[aq D,aq D]
    by_cases G:c.bH=f c.aC
    ·rw[aj G]
     by_cases ag:sG d f P h c.aC
     ·rw[aj ⟨G,ag⟩,aj ⟨G,ag⟩];have:=A2 hw (Lw (g c.aC-d.cH c.aC c.bH));grind
     ·rw[aq λh=>ag h.2,aq λh=>ag h.2];have:=sF hw (DD (g c.aC-d.cH c.aC c.bH));grind
    ·rw[aq λh=>G h.1,aq G,aq λh=>G h.1];grind
  ·exact gX
 exact⟨aG.DF,bM,aa,λi cL=>by have:=hle i cL;grind,λi aL=>by
  have D:=aG.SL i aL;have G:=u3 i (aG.DF i aL).1;grind⟩
theorem hz.stop {d:Day}(ae:d.dx){f:Nat->Nat}{g:Nat->Rat}{P:Nat->Prop}{h:Nat->Rat}(aG:hz d f g P h)(Q:Inv d f g)(anf:∀i,i<d.n->f i<10->d.cH i (f i)<h i->P i):∀i,i<d.n->h i=d.eJ (d.q f h) i:=by
 intro i cL;rw[aG.sys i cL];refine d.abk (λc E=>?_) i;unfold Day.l Day.q
 by_cases D:c.bH<f c.aC
 ·rw[aj D,aj D]
 ·rw[aq D,aq D]
  by_cases G:c.bH=f c.aC
  ·rw[aj G]
   by_cases ag:P c.aC
   ·rw[aj ⟨G,ag⟩,vj];have:=aG.ge _ ag;rw[G];grind
   ·rw[aq λh=>ag h.2,sE]
    ·grind
    ·apply lI;intro aL;refine ag (anf _ (ae.aC c E) (by rw[<-G];exact ae.bH c E) ?_);rw[<-G];grind
  ·rw[aq λh=>G h.1,aq G]
end Go.Mini
namespace Go.Mini
open Classical
def Day.iT (d:Day)(h:Nat->Rat)(c:dL):Rat:=if d.cH c.aC (c.bH+1)<=h c.aC then c.am else d.w c*pos (h c.aC-d.cH c.aC c.bH)
theorem Day.dx.Lz {d:Day}(ae:d.dx){c:dL}(E:c∈d.dM){x:Rat}(h:x<=d.S c.aC c.bH):d.w c*x<=c.am:=by
 have au:=ae.am c E;have D:=ae.abg E
 by_cases di:0<d.S c.aC c.bH
 ·have:=A2 (ae.qi E) h;rw[Day.Lu di] at this;exact this
 ·rw[Day.abi (by grind),w0];exact au
theorem Day.dx.SN {d:Day}(ae:d.dx)(h:Nat->Rat){c:dL}(E:c∈d.dM):d.iT h c<=c.am:=by
 unfold Day.iT
 split
 ·exact gX
 ·rename_i aL;refine ae.Lz E ?_;rw[d.vi] at aL;have:=ae.Lt c.aC c.bH;unfold pos
  split<;>grind
theorem Day.dx.abq {d:Day}(ae:d.dx)(h:Nat->Rat){c:dL}(E:c∈d.dM):0<=d.iT h c:=by
 unfold Day.iT
 split
 ·exact ae.am c E
 ·exact sF (ae.qi E) (DD _)
theorem Day.dx.LA {d:Day}(ae:d.dx)(f:Nat->Nat)(h:Nat->Rat){c:dL}(E:c∈d.dM):0<=d.q f h c:=by
 unfold Day.q
 split
 ·exact ae.am c E
 ·split
  ·exact sF (ae.qi E) (DD _)
  ·exact gX
theorem Day.dx.SO {d:Day}(ae:d.dx){a:dL->Rat}(h:∀c∈d.dM,0<=a c){i:Nat}(Q:i<d.n):0<=d.eJ a i:=by
 unfold Day.eJ;have D:=ae.H i Q
 have:=yE (l:=d.dM) (a1:=λc=>if c.to=(i:Int) then a c else 0) λc E=>by
  try dsimp only
  split
  ·exact h c E
  ·exact gX
 grind
theorem Day.dx.abr {d:Day}(ae:d.dx){f:Nat->Nat}{h g:Nat->Rat}{c:dL}(E:c∈d.dM)(hle:h c.aC<=g c.aC):d.q f h c<=d.q f g c:=by
 unfold Day.q
 split
 ·exact gX
 ·split
  ·exact A2 (ae.qi E) (abj (by grind))
  ·exact gX
def SP (d:Day)(f:Nat->Nat)(h:Nat->Rat)(gA:Nat->Nat):Prop:=(∀i,gA i<=10)/\(∀i,i<d.n->h i<d.cH i (f i)->gA i<f i/\d.cH i (gA i)<=h i/\h i<d.cH i (gA i+1))/\∀i,i<d.n->d.cH i (f i)<=h i->gA i=f i
theorem SQ {d:Day}(ae:d.dx){f gA:Nat->Nat}{h:Nat->Rat}(aN:SP d f h gA){c:dL}(E:c∈d.dM):d.q gA h c<=d.q f h c:=by
 obtain⟨-,D,G⟩:=aN;have gx:=ae.aC c E
 by_cases e3:h c.aC<d.cH c.aC (f c.aC)
 ·obtain⟨dp,dN,jR⟩:=D _ gx e3;unfold Day.q
  by_cases fq:c.bH<gA c.aC
  ·rw[aj fq,aj (by omega)];exact gX
  ·rw[aq fq]
   by_cases eV:c.bH=gA c.aC
   ·rw[aj eV,aj (by omega)];rw[<-eV] at dN jR;rw[d.vi] at jR;exact ae.Lz E (by rw[vj (by grind)];grind)
   ·rw[aq eV];exact ae.LA f h E
 ·have:=G _ gx (by grind);unfold Day.q;rw[this];exact gX
theorem Inv.SR {d:Day}(ae:d.dx){f gA:Nat->Nat}{g h:Nat->Rat}(Q:Inv d f g)(yG:∀i,i<d.n->h i=d.eJ (d.q f h) i)(hle:∀i,i<d.n->h i<=g i)(aN:SP d f h gA):Inv d gA h:=by
 have fp:∀i,i<d.n->gA i<10->d.cH i (gA i)<=h i:=by
  intro i cL DG
  by_cases e3:h i<d.cH i (f i)
  ·exact (aN.2.1 i cL e3).2.1
  ·rw[aN.2.2 i cL (by grind)];grind
 have hS:∀i,i<d.n->gA i<10->h i<d.cH i (gA i+1):=by
  intro i cL DG
  by_cases e3:h i<d.cH i (f i)
  ·exact (aN.2.1 i cL e3).2.2
  ·have e:=aN.2.2 i cL (by grind);rw[e] at DG ⊢;have:=Q.Q i cL DG;have:=hle i cL;grind
 have di:∀i,i<d.n->gA i<10->0<d.S i (gA i):=by
  intro i cL DG;have D:=fp i cL DG;have G:=hS i cL DG;rw[d.vi] at G;grind
 refine⟨aN.1,λi cL=>?_,fp,hS,λC D G ag=>?_⟩
 ·exact tT (d.A5 (λc E=>SQ ae aN E) i) (A1 (yG i cL).symm)
 ·have hK:∀i,C i->i<d.n:=λi E=>(G i E).1
  by_cases hex:∃k,C k/\h k<d.cH k (f k)
  ·obtain⟨my,oZ,e3⟩:=hex;have abt:=hK my oZ;obtain⟨c5,eg,j2⟩:=aN.2.1 my abt e3;have p7:=di my abt (G my oZ).2;obtain⟨j1,jW,mW⟩:=abf p7
   have ang:j1.aC=my/\j1.bH=gA my/\0<j1.am:=by
    by_cases a6:j1.aC=my/\j1.bH=gA my
    ·rw[aj a6] at mW;exact⟨a6.1,a6.2,mW⟩
    ·rw[aq a6] at mW;exact absurd mW (by grind)
   obtain⟨c6,dv,a3⟩:=ang;have aw:=Day.SJ hK (d.q f h);have aB:=Day.SJ hK (d.q gA (d.cap gA h C));have cI:d.gf C (d.eJ (d.q f h))=d.gf C h:=Day.Hr λi cL _=>(yG i cL).symm;have gJ:=ae.Lv C gA (λk R=>di k (hK k R) (G k R).2) λk=>h k-d.cH k (gA k);have b6:d.gf C (λk=>h k-d.cH k (gA k))=cg d.n λk=>if C k then h k-d.cH k (gA k) else 0:=rfl;rw[<-b6,d.am5] at gJ
   have dB:cy d.dM (λc=>(if oy C c then d.q gA (d.cap gA h C) c else 0)+(if C c.aC/\c.bH=gA c.aC then d.w c*(h c.aC-d.cH c.aC (gA c.aC)) else 0))<cy d.dM (λc=>if oy C c then d.q f h c else 0):=by
    refine am1 (λc E=>?_) jW ?_
    ·have gx:=ae.aC c E
     by_cases cL:oy C c
     ·rw[aj cL,aj cL]
      by_cases fT:C c.aC
      ·rw[DE fT]
       by_cases fq:c.bH<gA c.aC
       ·rw[aj fq,aq (by omega)]
        have:c.bH<f c.aC:=by
         by_cases e3:h c.aC<d.cH c.aC (f c.aC)
         ·have:=(aN.2.1 _ gx e3).1;omega
         ·rw[<-aN.2.2 _ gx (by grind)];exact fq
        unfold Day.q;rw[aj this];grind
       ·rw[aq fq]
        by_cases eV:c.bH=gA c.aC
        ·rw[aj ⟨fT,eV⟩]
         by_cases e3:h c.aC<d.cH c.aC (f c.aC)
         ·obtain⟨dp,dN,jR⟩:=aN.2.1 _ gx e3;unfold Day.q;rw[aj (by omega)];rw[d.vi] at jR;have:=ae.Lz E (x:=h c.aC-d.cH c.aC (gA c.aC)) (by rw[eV];grind);grind
         ·have e:=aN.2.2 _ gx (by grind);rw[e] at fq eV ⊢;unfold Day.q;rw[aq fq,aj eV,<-eV];have:=A2 (ae.qi E) (Lw (h c.aC-d.cH c.aC c.bH));grind
        ·rw[aq λh=>eV h.2];have:=ae.LA f h E;grind
      ·rw[Hs fT,aq λh=>fT h.1];have:=SQ ae aN E;grind
     ·rw[aq cL,aq cL]
      by_cases fT:C c.aC/\c.bH=gA c.aC
      ·rw[aj fT]
       have:c.am=0:=by
        have au:=ae.am c E
        by_cases aG:0<c.am
        ·exact absurd (ag c E fT.1 fT.2 aG) cL
        ·grind
       rw[Day.abi this];grind
      ·rw[aq fT];grind
    ·have fT:C j1.aC:=by rw[c6];exact oZ
     have jD:j1.bH=gA j1.aC:=by rw[c6];exact dv
     have cL:=ag j1 jW fT jD a3;rw[aj cL,aj cL,DE fT,aq (by omega),aj ⟨fT,jD⟩];unfold Day.q;rw[aj (by rw[c6];omega)];have hw:=ae.SI jW a3;have Kh:=d.Lu (c:=j1) (by rw[c6,dv];exact p7);rw[d.vi] at j2;rw[<-c6,<-jD] at j2;rw[<-jD];have:0<d.w j1*(d.S j1.aC j1.bH-(h j1.aC-d.cH j1.aC j1.bH)):=Hq hw (by rw[c6] at j2 ⊢;grind);grind
   rw[Lq,gJ] at dB;grind
  ·have BR:∀k,C k->gA k=f k:=λk R=>aN.2.2 k (hK k R) (by
    apply lI;intro aL;exact hex ⟨k,R,by grind⟩)
   have dp:=Q.dM C D (λi E=>⟨hK i E,by rw[<-BR i E];exact (G i E).2⟩) (λc E fT jD w3=>ag c E fT (by rw[BR _ fT];exact jD) w3);have dN:d.gf C (λi=>d.cH i (gA i))=d.gf C λi=>d.cH i (f i):=Day.Hr λi _ E=>by rw[BR i E]
   rw[dN]
   have jR:d.gf C (d.eJ (d.q gA (d.cap gA h C)))<=d.gf C (d.eJ (d.q f (d.cap f g C))):=by
    refine Day.abl λi _ _=>d.A5 (λc E=>?_) i
    by_cases fT:C c.aC
    ·rw[DE fT,DE fT,BR _ fT];exact gX
    ·rw[Hs fT,Hs fT];exact tT (SQ ae aN E) (ae.abr E (hle _ (ae.aC c E)))
   grind
def Day.qj (d:Day)(h:Nat->Rat)(i:Nat):Rat:=d.eJ (d.iT h) i
theorem anh {d:Day}(ae:d.dx){f:Nat->Nat}{g z:Nat->Rat}(Q:Inv d f g)(a8:∀i,i<d.n->z i<=g i){c:dL}(E:c∈d.dM):d.iT z c<=d.q f z c:=by
 have gx:=ae.aC c E;have jD:=ae.bH c E;unfold Day.q
 by_cases fq:c.bH<f c.aC
 ·rw[aj fq];exact ae.SN z E
 ·rw[aq fq];have hs:f c.aC<10:=by omega
  have D:=Q.Q _ gx hs;have G:=a8 _ gx
  by_cases eV:c.bH=f c.aC
  ·rw[aj eV];unfold Day.iT;rw[aq (by rw[eV];grind)];exact gX
  ·rw[aq eV];have ag:=ae.wZ c.aC (r:=f c.aC+1) (s:=c.bH) (by omega);have aR:=ae.wZ c.aC (r:=c.bH) (s:=c.bH+1) (by omega);unfold Day.iT;rw[aq (by grind),sE (by grind),m2];exact gX
theorem Inv.SS {d:Day}(ae:d.dx){f:Nat->Nat}{g h z:Nat->Rat}(Q:Inv d f g)(yG:∀i,i<d.n->h i=d.eJ (d.q f h) i)(hle:∀i,i<d.n->h i<=g i)(a8:∀i,i<d.n->z i<=d.eJ (d.q f z) i):∀i,i<d.n->z i<=h i:=by
 intro i0 p2;apply lI;intro jf;obtain⟨C,re⟩:∃C:Nat->Prop,∀i,C i↔i<d.n/\h i<z i:=⟨λi=>i<d.n/\h i<z i,λ_=>Iff.rfl⟩;obtain⟨DH,w4⟩:∃ani:Nat->Prop,∀i,ani i↔C i/\f i<10:=⟨λi=>C i/\f i<10,λ_=>Iff.rfl⟩;have hK:∀i,C i->i<d.n:=λi h=>((re i).1 h).1;have DI:∀i,C i->h i<z i:=λi h=>((re i).1 h).2;have bZ:∃i,C i:=⟨i0,(re i0).2 ⟨p2,by grind⟩⟩
 have aw:=SF C hK d.dM λc=>d.q f z c-d.q f h c;have aB:=ae.Lv DH f (λk R=>Q.yF (hK k ((w4 k).1 R).1) ((w4 k).1 R).2) λk=>z k-h k
 have cI:d.gf C (λi=>z i-h i)<=cg d.n λi=>if C i then cy d.dM (λc=>if c.to=(i:Int) then d.q f z c-d.q f h c else 0) else 0:=by
  refine Ho λk R=>?_
  by_cases E:C k
  ·rw[aj E,aj E,<-d.Lx,<-yG k R];have D:=a8 k R;grind
  ·rw[aq E,aq E];exact gX
 rw[aw] at cI
 have gJ:cg d.n (λk=>if DH k then z k-h k else 0)<=d.gf C (λi=>z i-h i):=by
  refine Ho λk R=>?_
  by_cases E:C k
  ·rw[aj E];have:=DI k E
   split<;>grind
  ·rw[aq E,aq λh=>E ((w4 k).1 h).1];exact gX
 have abu:∀c∈d.dM,0<=(if DH c.aC/\c.bH=f c.aC then d.w c*(z c.aC-h c.aC) else 0)-(if oy C c then d.q f z c-d.q f h c else 0):=by
  intro c E;have hw:=ae.qi E;have gx:=ae.aC c E;have jD:=ae.bH c E
  by_cases D:DH c.aC/\c.bH=f c.aC
  ·rw[aj D];have G:0<=d.w c*(z c.aC-h c.aC):=sF hw (by have:=DI _ ((w4 _).1 D.1).1;grind)
   have ag:d.q f z c-d.q f h c<=d.w c*(z c.aC-h c.aC):=by
    unfold Day.q;rw[aq (by omega),aj D.2,aq (by omega),aj D.2]
    have aR:pos (z c.aC-d.cH c.aC c.bH)-pos (h c.aC-d.cH c.aC c.bH)<=z c.aC-h c.aC:=by
     have:=DI _ ((w4 _).1 D.1).1;unfold pos
     split<;>split<;>grind
    have:=A2 hw aR;grind
   split<;>grind
  ·rw[aq D]
   have ag:d.q f z c-d.q f h c<=0:=by
    unfold Day.q
    by_cases fq:c.bH<f c.aC
    ·rw[aj fq,aj fq];grind
    ·rw[aq fq,aq fq]
     by_cases eV:c.bH=f c.aC
     ·rw[aj eV,aj eV]
      have aR:z c.aC<=h c.aC:=by
       apply lI;intro aL;exact D ⟨(w4 _).2 ⟨(re _).2 ⟨gx,by grind⟩,by omega⟩,eV⟩
      have:=A2 hw (abj (show z c.aC-d.cH c.aC c.bH<=h c.aC-d.cH c.aC c.bH by grind));grind
     ·rw[aq eV,aq eV];grind
   split<;>grind
 have anj:=SD abu (by rw[Hm,aB];grind)
 have SU:∀k,C k->f k<10:=by
  have:cg d.n (λk=>(if C k then z k-h k else 0)-(if DH k then z k-h k else 0))<=0:=by
   rw[Hp];have:0<=cy d.dM λc=>(if DH c.aC/\c.bH=f c.aC then d.w c*(z c.aC-h c.aC) else 0)-(if oy C c then d.q f z c-d.q f h c else 0):=yE abu;rw[Hm,aB] at this;have bs:d.gf C (λi=>z i-h i)=cg d.n λk=>if C k then z k-h k else 0:=rfl;grind
  have aL:=am3 (λk R=>by
   try dsimp only
   by_cases E:C k
   ·rw[aj E];have:=DI k E
    split<;>grind
   ·rw[aq E,aq λh=>E ((w4 k).1 h).1];grind) this
  intro k R;apply lI;intro hs;have:=aL k (hK k R)
  try dsimp only at this
  rw[aj R,aq λh=>hs ((w4 k).1 h).2] at this;have:=DI k R;grind
 have cL:∀c∈d.dM,C c.aC->c.bH=f c.aC->0<c.am->oy C c/\d.cH c.aC c.bH<=h c.aC:=by
  intro c E fT jD w3;have au:=anj c E;have hw:=ae.SI E w3;have az:=DI _ fT
  try dsimp only at au
  rw[aj ⟨(w4 _).2 ⟨fT,SU _ fT⟩,jD⟩] at au
  by_cases cL:oy C c
  ·refine⟨cL,?_⟩;rw[aj cL] at au;unfold Day.q at au;rw[aq (by omega),aj jD,aq (by omega),aj jD] at au;apply lI;intro aL;rw[sE (x:=h c.aC-d.cH c.aC c.bH) (by grind)] at au
   have aR:0<z c.aC-h c.aC-pos (z c.aC-d.cH c.aC c.bH):=by
    unfold pos
    split<;>grind
   have:=Hq hw aR;grind
  ·rw[aq cL] at au;have:0<d.w c*(z c.aC-h c.aC):=Hq hw (by grind);grind
 have tU:∀k,C k->d.cH k (f k)<=h k:=by
  intro k R;have aa:=Q.yF (hK k R) (SU k R);obtain⟨j1,jW,mW⟩:=abf aa
  by_cases a6:j1.aC=k/\j1.bH=f k
  ·rw[aj a6] at mW;have:=(cL j1 jW (by rw[a6.1];exact R) (by rw[a6.1];exact a6.2) mW).2;rwa [a6.1,a6.2] at this
  ·rw[aq a6] at mW;exact absurd mW (by grind)
 have nj:=Q.abo ae bZ (λi E=>⟨hK i E,SU i E⟩) (λc E fT jD w3=>(cL c E fT jD w3).1) (d.q f h) (λk=>h k-d.cH k (f k)) (λk _ R=>by have:=tU k R;grind) λc E _=>by
  by_cases fT:C c.aC
  ·rw[DE fT];unfold Day.q
   by_cases fq:c.bH<f c.aC
   ·rw[aj fq,aj fq,aq (by omega)];grind
   ·rw[aq fq,aq fq]
    by_cases eV:c.bH=f c.aC
    ·rw[aj eV,aj ⟨fT,eV⟩,eV,vj (by have:=tU _ fT;grind)];grind
    ·rw[aq eV,aq λh=>eV h.2];grind
  ·rw[Hs fT,aq λh=>fT h.1];have:=ae.abr (f:=f) E (hle _ (ae.aC c E));grind
 have b1:d.gf C (d.eJ (d.q f h))=d.gf C h:=Day.Hr λi cL _=>(yG i cL).symm;have cd:d.gf C (λi=>d.cH i (f i)+(h i-d.cH i (f i)))=d.gf C h:=Day.Hr λi _ _=>by grind
 rw[b1,cd] at nj;exact absurd nj (by grind)
theorem Inv.final {d:Day}(ae:d.dx){f:Nat->Nat}{g h:Nat->Rat}(Q:Inv d f g)(yG:∀i,i<d.n->h i=d.eJ (d.q f h) i)(hle:∀i,i<d.n->h i<=g i)(fB:∀i,i<d.n->d.cH i (f i)<=h i):(∀i,i<d.n->h i=d.qj h i)/\∀i,i<d.n->(f i<10↔h i<d.cH i 10):=by
 constructor
 ·intro i cL;rw[yG i cL];unfold Day.qj;have:∀j,j<d.n->h j=d.eJ (d.q f h) j:=yG;refine d.abk (λc E=>?_) i;have gx:=ae.aC c E;have jD:=ae.bH c E;have au:=fB _ gx;unfold Day.q Day.iT
  by_cases fq:c.bH<f c.aC
  ·have:=ae.wZ c.aC (r:=c.bH+1) (s:=f c.aC) (by omega);rw[aj fq,aj (by grind)]
  ·rw[aq fq];have hs:f c.aC<10:=by omega
   have D:=Q.Q _ gx hs;have G:=hle _ gx
   by_cases eV:c.bH=f c.aC
   ·rw[aj eV,aq (by rw[eV];grind)]
   ·have ag:=ae.wZ c.aC (r:=f c.aC+1) (s:=c.bH) (by omega);have aR:=ae.wZ c.aC (r:=c.bH) (s:=c.bH+1) (by omega);rw[aq eV,aq (by grind),sE (by grind),m2]
 ·intro i cL
  constructor
  ·intro hs;have D:=Q.Q _ cL hs;have G:=hle _ cL;have ag:=ae.wZ i (r:=f i+1) (s:=10) (by omega);grind
  ·intro D;apply lI;intro G;have ag:=Q.le i;have aR:f i=10:=by omega
   have bs:=fB i cL;rw[aR] at bs;grind
end Go.Mini
namespace Go.Mini
open Classical
def lJ (d:Day)(f:Nat->Nat)(h:Nat->Rat):Prop:=∃g,Inv d f g/\(∀i,i<d.n->h i=d.eJ (d.q f h) i)/\∀i,i<d.n->h i<=g i
theorem lJ.unique {d:Day}(ae:d.dx){f:Nat->Nat}{h cu:Nat->Rat}(a:lJ d f h)(b:lJ d f cu):∀i,i<d.n->h i=cu i:=by
 obtain⟨g,D,G,ag⟩:=a;obtain⟨c4,dp,dN,jR⟩:=b;intro i cL;have aw:=D.SS ae G ag (z:=cu) (λi Q=>A1 (dN i Q)) i cL;have aB:=dp.SS ae dN jR (z:=h) (λi Q=>A1 (G i Q)) i cL;grind
def Day.nK (d:Day)(h:Nat->Rat)(i:Nat):Nat->Nat
 |0=>10
 |k+1=>if h i<d.cH i (10-(k+1)+1) then 10-(k+1) else Day.nK d h i k
theorem abv {d:Day}(ae:d.dx){h:Nat->Rat}{i:Nat}:∀k,k<=10->d.cH i (10-k)<=h i->(d.nK h i k=10/\d.cH i 10<=h i)\/(10-k<=d.nK h i k/\d.nK h i k<10/\d.cH i (d.nK h i k)<=h i/\h i<d.cH i (d.nK h i k+1))
 |0,_,au => .inl ⟨rfl,au⟩
 |k+1,R,au=>by
  unfold Day.nK
  by_cases D:h i<d.cH i (10-(k+1)+1)
  ·rw[aj D];exact .inr ⟨cA _,by omega,au,D⟩
  ·rw[aq D];rcases abv ae (h:=h) (i:=i) k (by omega) (by rw[show 10-k=10-(k+1)+1 by omega];grind) with e|⟨aw,aB⟩
   ·exact .inl e
   ·exact .inr ⟨by omega,aB⟩
def Day.kK (d:Day)(f:Nat->Nat)(h:Nat->Rat)(i:Nat):Nat:=if i<d.n/\h i<d.cH i (f i) then d.nK h i 10 else f i
theorem abw {d:Day}(ae:d.dx){f:Nat->Nat}{h:Nat->Rat}(hle:∀i,f i<=10)(au:∀i,i<d.n->0<=h i):SP d f h (d.kK f h):=by
 have key:∀i,i<d.n->h i<d.cH i (f i)->d.nK h i 10<f i/\d.cH i (d.nK h i 10)<=h i/\h i<d.cH i (d.nK h i 10+1):=by
  intro i cL e3;have hm:=ae.wZ i (hle i);rcases abv ae (h:=h) (i:=i) 10 (cA _) (by rw[Nat.sub_self,d.am4];exact au i cL) with ⟨-,e⟩|⟨-,aw,aB,cI⟩
  ·grind
  ·refine⟨?_,aB,cI⟩;apply lI;intro aL;have:=ae.wZ i (r:=f i) (s:=d.nK h i 10) (by omega);grind
 refine⟨λi=>?_,λi cL e3=>?_,λi cL e3=>?_⟩
 ·unfold Day.kK
  split
  ·rename_i a6;have:=(key i a6.1 a6.2).1;have:=hle i;omega
  ·exact hle i
 ·unfold Day.kK;rw[aj ⟨cL,e3⟩];exact key i cL e3
 ·unfold Day.kK;rw[aq λa6=>by have:=a6.2;grind]
theorem lJ.SR {d:Day}(ae:d.dx){f:Nat->Nat}{h:Nat->Rat}(a:lJ d f h):Inv d (d.kK f h) h:=by
 obtain⟨g,D,G,ag⟩:=a;exact D.SR ae G ag (abw ae D.le λi cL=>by rw[G i cL];exact ae.SO (λc E=>ae.LA f h E) cL)
theorem lJ.abx {d:Day}(ae:d.dx){f:Nat->Nat}{h:Nat->Rat}(a:lJ d f h){i:Nat}(cL:i<d.n):0<=h i:=by
 obtain⟨g,D,G,ag⟩:=a;rw[G i cL];exact ae.SO (λc E=>ae.LA f h E) cL
def Day.top (d:Day)(f:Nat->Nat):Nat->Rat:=if h:∃x,lJ d f x then tg h else λ_=>0
def Day.qk (d:Day)(f:Nat->Nat):List Nat:=(hR d.n).filter λi=>decide (d.top f i<d.cH i (f i))
def Day.rounds (d:Day):Nat->(Nat->Nat)->List (List Nat)×(Nat->Nat)
 |0,f=>([],f)
 |k+1,f=>if d.qk f=[] then ([],f) else (d.qk f::(Day.rounds d k (d.kK f (d.top f))).1,(Day.rounds d k (d.kK f (d.top f))).2)
def Reach (d:Day)(f:Nat->Nat):Prop:=∃g,Inv d f g/\∀z,(∀i,i<d.n->z i<=d.qj z i)->∀i,i<d.n->z i<=g i
theorem Reach.start {d:Day}(ae:d.dx):Reach d λ_=>10:=⟨_,Inv.start ae,λz a8 i cL=>tT (a8 i cL) (d.A5 (λ_ E=>ae.SN z E) i)⟩
def rf:Nat->(Nat->Nat)->Nat
 |0,_=>0
 |n+1,f=>rf n f+f n
theorem ank {n:Nat}{f g:Nat->Nat}(h:∀i,i<n->f i<=g i):rf n f<=rf n g:=by
 induction n with
 |zero=>exact cA _
 |succ n aA =>
  have:=aA λi Q=>h i (by omega);have:=h n (by omega);simp only[rf];omega
theorem aby {n:Nat}{f g:Nat->Nat}(h:∀i,i<n->f i<=g i){j:Nat}(ay:j<n)(az:f j<g j):rf n f<rf n g:=by
 induction n with
 |zero=>omega
 |succ n aA =>
  have D:=h n (by omega);simp only[rf]
  by_cases anl:j=n
  ·subst anl;have:=ank (n:=j) (f:=f) (g:=g) λi Q=>h i (by omega);omega
  ·have:=aA (λi Q=>h i (by omega)) (by omega);omega
theorem Day.DJ {d:Day}{f:Nat->Nat}(h:∃x,lJ d f x):lJ d f (d.top f):=by
 unfold Day.top;rw[dif_pos h];exact pW h
theorem Day.abz {d:Day}{f:Nat->Nat}{i:Nat}:i∈d.qk f↔i<d.n/\d.top f i<d.cH i (f i):=by
 unfold Day.qk;rw[Ht,od,decide_eq_true_eq]
section
variable {d:Day} (ae:d.dx) (hex:∀f,Reach d f->∃h,lJ d f h)
include ae hex
theorem anm {f:Nat->Nat}(U:Reach d f){z:Nat->Rat}(a8:∀i,i<d.n->z i<=d.qj z i):∀i,i<d.n->z i<=d.top f i:=by
 obtain⟨g,D,G,ag⟩:=Day.DJ (hex f U);obtain⟨c4,dp,dN⟩:=U;have bV:lJ d f (d.top f):=⟨g,D,G,ag⟩
 -- the end of the round below c4
 intro i cL;have zy:=λk R=>tT (a8 k R) (d.A5 (λ_ E=>anh ae dp (dN z a8) E) k);exact D.SS ae G ag zy i cL
theorem Reach.next {f:Nat->Nat}(U:Reach d f):Reach d (d.kK f (d.top f)):=⟨d.top f,(Day.DJ (hex f U)).SR ae,λz a8=>anm ae hex U a8⟩
theorem abA {f:Nat->Nat}(U:Reach d f)(bZ:d.qk f≠[]):rf d.n (d.kK f (d.top f))<rf d.n f:=by
 obtain⟨i,Q⟩:=List.exists_mem_of_ne_nil _ bZ;obtain⟨D,G⟩:=Day.abz.1 Q;have bV:=Day.DJ (hex f U);obtain⟨g,dp,-⟩:=bV;have aN:=abw ae dp.le (h:=d.top f) λi cL=>(Day.DJ (hex f U)).abx ae cL;refine aby (λj ay=>?_) D (aN.2.1 i D G).1
 by_cases e3:d.top f j<d.cH j (f j)
 ·have:=(aN.2.1 j ay e3).1;omega
 ·rw[aN.2.2 j ay (by grind)];exact cA _
theorem abB:∀k (f:Nat->Nat),Reach d f->rf d.n f<=k->Reach d (d.rounds k f).2/\d.qk (d.rounds k f).2=[]
 |0,f,U,R=>by
  refine⟨U,?_⟩;apply lI;intro bZ;have:=abA ae hex U bZ;omega
 |k+1,f,U,R=>by
  unfold Day.rounds
  by_cases bZ:d.qk f=[]
  ·rw[aj bZ];exact⟨U,bZ⟩
  ·rw[aq bZ];have:=abA ae hex U bZ;exact abB k _ (U.next ae hex) (by omega)
end
end Go.Mini
namespace Go.Mini
abbrev av:=Int×Int×Int×Int
def fN (n:Int)(c:av):Bool:=decide (0<=c.1)&&decide (c.1<n)&&decide (-1<=c.2.1)&&decide (c.2.1<n)&&decide (0<=c.2.2.1)&&decide (c.2.2.1<10)&&decide (0<=c.2.2.2)&&decide (c.2.2.2<=1000000000000000)
def hL (H:List Int)(cs:List av):Bool:=decide (o H<=60)&&decide (o cs<=2000)&&H.all (λx=>decide (0<=x)&&decide (x<=1000000000000000))&&cs.all (fN (o H))
def dJ (c:av):dL:=⟨c.1.toNat,c.2.1,c.2.2.1.toNat,(c.2.2.2:Rat)⟩
def cf (H:List Int)(cs:List av):Day:=⟨o H,λi=>((H.getD i 0:Int):Rat),cs.map dJ⟩
theorem m3 {H:List Int}{cs:List av}:hL H cs=true↔(o H)<=60/\o cs<=2000/\(∀x∈H,0<=x/\x<=1000000000000000)/\∀c∈cs,0<=c.1/\c.1<(o H) /\ -1<=c.2.1/\c.2.1<o H/\0<=c.2.2.1/\c.2.2.1<10/\0<=c.2.2.2/\c.2.2.2<=1000000000000000:=by
 unfold hL fN;simp only[eX,decide_eq_true_eq,List.all_eq_true,and_assoc]
theorem ann {H:List Int}{cs:List av}(h:hL H cs=true):(cf H cs).dx:=by
 obtain⟨-,-,ag,aR⟩:=m3.1 h
 have E:∀x∈(cf H cs).dM,∃c∈cs,x=dJ c:=λx I=>by
  obtain⟨c,E,rfl⟩:=fZ.1 I;exact⟨c,E,rfl⟩
 refine⟨λx I=>?_,λx I=>?_,λx I=>?_,λx I=>?_,λi Q=>?_⟩
 ·obtain⟨c,E,rfl⟩:=E x I;have:=aR c E;show c.1.toNat<o H;omega
 ·obtain⟨c,E,rfl⟩:=E x I;have:=aR c E;show c.2.1<(o H:Int);omega
 ·obtain⟨c,E,rfl⟩:=E x I;have:=aR c E;show c.2.2.1.toNat<10;omega
 ·obtain⟨c,E,rfl⟩:=E x I;have:=(aR c E).2.2.2.2.2.2.1;show (0:Rat)<=(c.2.2.2:Rat);exact_mod_cast this
 ·show (0:Rat)<=((H.getD i 0:Int):Rat);have kU:i<o H:=Q
  have:0<=H.getD i 0:=by
   rw[fP,bL kU];exact (ag _ (List.getElem_mem kU)).1
  exact_mod_cast this
def dA:List av->(av->Int)->Int
 | [],_=>0
 |c::l,a1=>a1 c+dA l a1
def dP (cs:List av)(cP r:Int):Int:=dA cs λc=>if c.1=cP/\c.2.2.1<r then c.2.2.2 else 0
theorem LB (cs:List av)(a1:av->Int)(cW:dL->Rat)(h:∀c∈cs,((a1 c:Int):Rat)=cW (dJ c)):((dA cs a1:Int):Rat)=cy (cs.map dJ) cW:=by
 induction cs with
 |nil=>rfl
 |cons c l aA=>rw[dA,e8,cy,tV,h c gP,aA λx I=>h x (ha _ I)]
theorem Hu {cs:List av}{a1 cW:av->Int}(h:∀c∈cs,a1 c=cW c):dA cs a1=dA cs cW:=by
 induction cs with
 |nil=>rfl
 |cons c l aA=>rw[dA,dA,h c gP,aA λx I=>h x (ha _ I)]
theorem LC {cs:List av}{a1:av->Int}{B:Int}(kV:0<=B)(h:∀c∈cs,0<=a1 c/\a1 c<=B):0<=dA cs a1/\dA cs a1<=o cs*B:=by
 induction cs with
 |nil=>simp[dA]
 |cons c l aA =>
  have D:=h c gP;have G:=aA λx I=>h x (ha _ I);simp only[dA,jN]
  have:((o l+1:Nat):Int)*B=o l*B+B:=by
   rw[Int.natCast_add,Int.add_mul];simp
  omega
theorem abC (a b:List av)(a1:av->Int):dA (a++b) a1=dA a a1+dA b a1:=by
 induction a with
 |nil=>simp[dA]
 |cons c l aA=>simp only[jc,dA,aA];omega
theorem yH {H:List Int}{cs:List av}(h:hL H cs=true)(i r:Nat):((dP cs i r:Int):Rat)=(cf H cs).cH i r:=by
 refine LB cs _ (λc=>if c.aC=i/\c.bH<r then c.am else 0) λc E=>?_;have:=(m3.1 h).2.2.2 c E;show ((if c.1=(i:Int)/\c.2.2.1<(r:Int) then c.2.2.2 else 0:Int):Rat)=if c.1.toNat=i/\c.2.2.1.toNat<r then (c.2.2.2:Rat) else 0
 by_cases D:c.1=(i:Int)/\c.2.2.1<(r:Int)
 ·rw[aj D,aj (by omega)]
 ·rw[aq D,aq (by omega)];rfl
theorem abD {H:List Int}{cs:List av}(h:hL H cs=true)(i r:Nat):((dP cs i (r+1:Nat)-dP cs i r:Int):Rat)=(cf H cs).S i r:=by
 have D:=yH h i r;have G:=yH h i (r+1);rw[Hv,D,G,Day.vi];grind
def yI (H:List Int)(cs:List av)(f:Nat->Nat)(i:Nat):Int:=H.getD i 0+dA cs λc=>if c.2.1=(i:Int)/\c.2.2.1<(f c.1.toNat:Int) then c.2.2.2 else 0
def ext (N:Nat)(y:Nat->Rat)(z:Rat):Nat->Rat:=λk=>if k<N then y k else z
theorem LD (N:Nat)(a y:Nat->Rat)(z:Rat):k9 N a (ext N y z)=cg N (λk=>a k*y k)+a N*z:=by
 unfold k9 ext;rw[cg]
 congr 1
 ·exact j0 λk R=>by rw[aj R]
 ·rw[aq (by omega)]
theorem abE {N:Nat}{aT:fI}{aJ:Nat->Nat}(h:tS N aT N N aJ)(rh:∀j,j<N->aJ j=j){i:Nat}(Q:i<N)(y:Nat->Rat)(z:Rat):k9 N (aT i) (ext N y z)=y i+aT i N*z:=by
 rw[LD]
 congr 1
 have:∀k,k<N->aT i k=if i=k then 1 else 0:=λk R=>by
  have:=h.unit k R i Q;rwa [rh k R] at this
 rw[yD Q λk R oY=>by rw[this k R,aq (Ne.symm oY),w0],this i Q,aj rfl,LF]
theorem ano {N:Nat}{aT:fI}{aJ:Nat->Nat}(h:tS N aT N N aJ)(rh:∀j,j<N->aJ j=j)(y:Nat->Rat):ko N aT (ext N y (-1))↔∀i,i<N->y i=aT i N:=by
 unfold ko
 constructor
 ·intro jd i Q;have:=jd i Q;rw[abE h rh Q] at this;grind
 ·intro jd i Q;rw[abE h rh Q,jd i Q];grind
def w5 (aT:fI)(c:Nat):Nat->Rat:=λk=>if k<c then 0-aT k c else if k=c then 1 else 0
theorem anp {N c:Nat}{aT:fI}{aJ:Nat->Nat}(h:tS N aT c c aJ)(rh:∀j,j<c->aJ j=j)(E:c<N)(a8:∀i,c<=i->i<N->aT i c=0):ko N aT (ext N (w5 aT c) 0):=by
 intro i Q;rw[LD]
 have main:∀n,c<n->n<=N->cg n (λk=>aT i k*w5 aT c k)=cg (c+1) (λk=>aT i k*w5 aT c k):=by
  intro n
  induction n with
  |zero=>intro h;omega
  |succ n aA =>
   intro D G
   by_cases Fp:c=n
   ·rw[Fp]
   ·rw[cg,aA (by omega) (by omega)];unfold w5;rw[aq (show ¬ n<c by omega),aq (show ¬ n=c by omega)];grind
 rw[main N E (cA _),cg];have R:w5 aT c c=1:=by unfold w5;rw[aq (by omega),aj rfl]
 rw[R]
 have hu:∀k,k<c->aT i k=if i=k then 1 else 0:=λk R=>by
  have:=h.unit k R i Q;rwa [rh k R] at this
 rcases h1 i c with az|cb
 ·rw[yD az λk R oY=>by rw[hu k R,aq (Ne.symm oY),w0],hu i az,aj rfl]
  unfold w5;rw[aj az];grind
 ·rw[rb λk R=>by rw[hu k R,aq (by omega),w0],a8 i cb Q]
  grind
abbrev fk:=Nat->Rat
def hY (n:Nat)(f:List fk->Rat):List fk->List fk->Rat
 |_,[]=>0
 |pre,c::cs=>c n*f (pre++cs)-hY n f (pre++[c]) cs
def fU:Nat->List fk->Rat
 |0,[]=>1
 |0,_::_=>0
 |n+1,cs=>hY n (fU n) [] cs
def yJ (x y:fk)(a:Rat):fk:=λi=>x i+a*y i
def SV (f:List fk->Rat):Prop:=∀A B x y a,f (A++yJ x y a::B)=f (A++x::B)+a*f (A++y::B)
def SW (f:List fk->Rat):Prop:=∀A B z,f (A++z::z::B)=0
theorem anq {n:Nat}{f:List fk->Rat}(h:SV f)(x y:fk)(a:Rat)(A:List fk):∀cs lK,hY n f (A++yJ x y a::lK) cs=hY n f (A++x::lK) cs+a*hY n f (A++y::lK) cs:=by
 intro cs
 induction cs with
 |nil=>intro lK;simp only[hY];grind
 |cons c cs aA =>
  intro lK;have e:=aA (lK++[c]);simp only[hY,gZ,jc] at e ⊢;rw[h A (lK++cs) x y a,e];grind
theorem anr {n:Nat}{f:List fk->Rat}(h:SV f)(x y:fk)(a:Rat)(B:List fk):∀A pre,hY n f pre (A++yJ x y a::B)=hY n f pre (A++x::B)+a*hY n f pre (A++y::B):=by
 intro A
 induction A with
 |nil =>
  intro pre;have e:=anq (n:=n) h x y a pre B [];simp only[ju,hY];rw[e];simp only[yJ];grind
 |cons c A aA =>
  intro pre;have e:=aA (pre++[c]);have aB:=h (pre++A) B x y a;simp only[gZ] at aB;simp only[jc,hY];rw[e,aB];grind
theorem A6:∀n,SV (fU n)
 |0=>by
  intro A B x y a
  cases A<;>simp only[ju,jc,fU]<;>grind
 |n+1=>λA B x y a=>anr (A6 n) x y a B A []
theorem ans {n:Nat}{f:List fk->Rat}(h:SW f)(z:fk)(A:List fk):∀cs lK,hY n f (A++z::z::lK) cs=0:=by
 intro cs
 induction cs with
 |nil=>intro lK;rfl
 |cons c cs aA =>
  intro lK;have e:=aA (lK++[c]);have aB:=h A (lK++cs) z;simp only[hY,gZ,jc] at e aB ⊢;rw[e,aB];grind
theorem ant {n:Nat}{f:List fk->Rat}(h:SW f)(z:fk)(B:List fk):∀A pre,hY n f pre (A++z::z::B)=0:=by
 intro A
 induction A with
 |nil =>
  intro pre;have e:=ans (n:=n) h z pre B [];simp only[ju,hY,gZ,jc] at e ⊢;rw[e];grind
 |cons c A aA =>
  intro pre;have e:=aA (pre++[c]);have aB:=h (pre++A) B z;simp only[gZ] at aB;simp only[jc,hY];rw[e,aB];grind
theorem Hw:∀n,SW (fU n)
 |0=>by
  intro A B z
  cases A<;>rfl
 |n+1=>λA B z=>ant (Hw n) z B A []
theorem anu (n:Nat)(A B:List fk)(x y:fk):fU n (A++x::y::B) = -fU n (A++y::x::B):=by
 have au:=Hw n A B (yJ x y 1);have D:=A6 n A (yJ x y 1::B) x y 1;rw[au] at D;have G:=A6 n (A++[x]) B x y 1;have ag:=A6 n (A++[y]) B x y 1;simp only[gZ,jc,ju] at G ag;rw[G,ag,Hw n A B x,Hw n A B y] at D;grind
theorem abF (n:Nat)(C:List fk)(z:fk):∀B A,fU n (A++z::(B++z::C))=0:=by
 intro B
 induction B with
 |nil=>intro A;exact Hw n A C z
 |cons b B aA =>
  intro A;have:=aA (A++[b]);simp only[gZ,jc,ju] at this ⊢;rw[anu,this];grind
theorem SX {n:Nat}{A B:List fk}{z:fk}(h:z∈A++B):fU n (A++z::B)=0:=by
 rcases iK.1 h with h|h
 ·obtain⟨Hx,DK,rfl⟩:=abG h;have:=abF n B z DK Hx
  simpa only [gZ,jc] using this
 ·obtain⟨xr,zd,rfl⟩:=abG h;exact abF n zd z xr A
theorem anv {n:Nat}{f:List fk->Rat}{z:fk}(a8:z n=0)(h:∀A B,f (A++z::B)=0):(∀cs A lK,hY n f (A++z::lK) cs=0)/\∀A B pre,hY n f pre (A++z::B)=0:=by
 have D:∀cs A lK,hY n f (A++z::lK) cs=0:=by
  intro cs
  induction cs with
  |nil=>intro A lK;rfl
  |cons c cs aA =>
   intro A lK;have e:=aA A (lK++[c]);have aB:=h A (lK++cs);simp only[hY,gZ,jc] at e aB ⊢;rw[e,aB];grind
 refine⟨D,λA=>?_⟩
 induction A with
 |nil =>
  intro B pre;have e:=D B pre [];simp only[ju,hY];rw[e,a8];grind
 |cons c A aA =>
  intro B pre;have e:=aA B (pre++[c]);have aB:=h (pre++A) B;simp only[gZ] at aB;simp only[jc,hY];rw[e,aB];grind
theorem SY:∀n (z:fk),(∀i,i<n->z i=0)->∀A B,fU n (A++z::B)=0
 |0,z,_=>λA B=>by cases A<;>rfl
 |n+1,z,h=>λA B=>(anv (h n (by omega)) (SY n z λi Q=>h i (by omega))).2 A B []
theorem abH {n:Nat}{e:fk}(h:∀i,i<n->e i=0)(cs:List fk):fU (n+1) (e::cs)=e n*fU n cs:=by
 show e n*fU n ([]++cs)-hY n (fU n) ([]++[e]) cs=_
 have:∀cs pre,hY n (fU n) (e::pre) cs=0:=by
  intro cs
  induction cs with
  |nil=>intro pre;rfl
  |cons c cs aA =>
   intro pre;have aw:=aA (pre++[c]);have aB:=SY n e h [] (pre++cs);simp only[hY,jc,ju] at aw aB ⊢;rw[aw,aB];grind
 simp only[ju];rw[this cs []];grind
theorem anw {n:Nat}{f:List fk->Rat}{T:fk->fk}(cG:∀c,T c n=c n)(h:∀l,f (l.map T)=f l):∀cs pre,hY n f (pre.map T) (cs.map T)=hY n f pre cs:=by
 intro cs
 induction cs with
 |nil=>intro pre;rfl
 |cons c cs aA =>
  intro pre;have e:=aA (pre++[c]);have aB:=h (pre++cs);simp only[mA,e8,cM] at e aB;simp only[e8,hY];rw[e,aB,cG]
theorem SZ:∀n (T:fk->fk),(∀c i,i<n->T c i=c i)->∀l,fU n (l.map T)=fU n l
 |0,T,_=>λl=>by cases l<;>rfl
 |n+1,T,h=>λl=>anw (λc=>h c n (by omega)) (SZ n T λc i Q=>h c i (by omega)) l []
theorem abI {n:Nat}{α:Type}(l:List α)(f g:α->fk)(h:∀a∈l,∀i,i<n->f a i=g a i):fU n (l.map f)=fU n (l.map g):=by
 rw[<-SZ n (λc i=>if i<n then c i else 0) (λc i Q=>aj Q),<-SZ n (λc i=>if i<n then c i else 0) (λc i Q=>aj Q) (l.map g)];rw[lX,lX]
 congr 1
 apply oV;intro a aM
 funext i
 simp only[Function.comp]
 split
 ·exact h a aM i (by assumption)
 ·rfl
theorem Hy (n:Nat)(A B:List fk)(x:Nat->Rat)(C:Nat->fk):∀m,fU n (A++(λi=>cg m λl=>x l*C l i)::B)=cg m λl=>x l*fU n (A++C l::B)
 |0=>SY n _ (λi _=>rfl) A B
 |m+1=>by
  have e:=A6 n A B (λi=>cg m λl=>x l*C l i) (C m) (x m);rw[Hy n A B x C m] at e;exact e
def ek (B:Nat)(x:Rat):Prop:=∃z:Int,x=(z:Rat)/\z.natAbs<=B
theorem ek.mono {A B:Nat}{x:Rat}(h:ek A x)(ax:A<=B):ek B x:=by obtain⟨z,D,G⟩:=h;exact⟨z,D,by omega⟩
theorem ek.mul {A B:Nat}{x y:Rat}(I:ek A x)(ak:ek B y):ek (A*B) (x*y):=by
 obtain⟨z,rfl,G⟩:=I;obtain⟨w,rfl,cR⟩:=ak;exact⟨z*w,by rw[oz],by rw[nz];exact nL G cR⟩
theorem ek.sub {A B:Nat}{x y:Rat}(I:ek A x)(ak:ek B y):ek (A+B) (x-y):=by
 obtain⟨z,rfl,G⟩:=I;obtain⟨w,rfl,cR⟩:=ak;exact⟨z-w,by rw[Hv],by omega⟩
theorem ek.add {A B:Nat}{x y:Rat}(I:ek A x)(ak:ek B y):ek (A+B) (x+y):=by
 obtain⟨z,rfl,G⟩:=I;obtain⟨w,rfl,cR⟩:=ak;exact⟨z+w,by rw[tV],by omega⟩
theorem ek.zero {B:Nat}:ek B 0:=⟨0,by rfl,by simp⟩
theorem ek.int (z:Int):ek z.natAbs (z:Rat):=⟨z,rfl,cA _⟩
theorem ek.sum {B:Nat}{f:Nat->Rat}:∀n,(∀k,k<n->ek B (f k))->ek (n*B) (cg n f)
 |0,_=>ek.zero
 |n+1,h=>by
  have:=(ek.sum n λk R=>h k (by omega)).add (h n (by omega));exact this.mono (by rw[qD];exact cA _)
theorem ek.of {z:Int}{B:Nat}(h:z.natAbs<=B):ek B (z:Rat):=⟨z,rfl,h⟩
theorem ek.nat {z:Nat}{B:Nat}(h:z<=B):ek B (z:Rat):=⟨z,(oA _).symm,by omega⟩
def fO:Nat->(Nat->Nat)->Nat
 |0,_=>0
 |n+1,a=>fO n a+a n
theorem S0 {n:Nat}{a b:Nat->Nat}(h:∀i,i<n->a i=b i):fO n a=fO n b:=by
 induction n with
 |zero=>rfl
 |succ n aA=>rw[fO,fO,aA λi Q=>h i (by omega),h n (by omega)]
theorem anx {N t:Nat}(b:Nat->Nat)(bV:t<N):fO N b=fO N (λi=>if i=t then 0 else b i)+b t:=by
 induction N with
 |zero=>omega
 |succ N aA =>
  by_cases h:t=N
  ·subst h;rw[fO,fO,aj rfl];have:fO t b=fO t λi=>if i=t then 0 else b i:=S0 λi Q=>by rw[aq (by omega)]
   omega
  ·have:=aA (by omega);rw[fO,fO,aq (by omega)];omega
theorem S1 {N:Nat}{τ:Nat->Nat}:∀{n:Nat} (b:Nat->Nat),(∀i,i<n->τ i<N)->(∀i j,i<n->j<n->τ i=τ j->i=j)->fO n (λi=>b (τ i))<=fO N b
 |0,_,_,_=>fY _
 |n+1,b,D,G=>by
  have aA:=S1 (n:=n) (λi=>if i=τ n then 0 else b i) (λi Q=>D i (by omega)) λi j Q ay=>G i j (by omega) (by omega);rw[anx b (D n (by omega)),fO]
  have:fO n (λi=>b (τ i))=fO n λi=>if τ i=τ n then 0 else b (τ i):=S0 λi Q=>by
   rw[aq λh=>by have:=G i n (by omega) (by omega) h;omega]
  omega
def h8:Nat->(Nat->Nat)->Nat
 |0,_=>1
 |n+1,cB=>h8 n cB*cB n
theorem anz {n:Nat}{cB:Nat->Nat}(h:∀k,k<n->0<cB k):0<h8 n cB:=by
 induction n with
 |zero=>exact S2
 |succ n aA=>exact S3 (aA λk R=>h k (by omega)) (h n (by omega))
theorem abJ {n b:Nat}{cB:Nat->Nat}(h:∀k,k<n->cB k<=2^b):h8 n cB<=2^(n*b):=by
 induction n with
 |zero=>simp[h8]
 |succ n aA =>
  rw[qD,vk];exact nL (aA λk R=>h k (by omega)) (h n (by omega))
theorem anA {n:Nat}{cB:Nat->Nat}{k:Nat}(R:k<n):∃m,h8 n cB=cB k*m:=by
 induction n with
 |zero=>omega
 |succ n aA =>
  by_cases SE:k=n
  ·subst SE;exact⟨h8 k cB,pY _ _⟩
  ·obtain⟨m,hm⟩:=aA (by omega);exact⟨m*cB n,by rw[h8,hm,A7]⟩
theorem abK {p:Nat}{cB:Nat->Nat}(ix:∀k,0<cB k):∀{N:Nat},p<=N->∃cD,0<cD/\h8 N cB=h8 p cB*cD/\∀k,p<=k->k<N->∃m,cD=cB k*m
 |0,h=>⟨1,S2,by rw[show p=0 by omega];rfl,λk _ h=>by omega⟩
 |N+1,h=>by
  by_cases aG:p=N+1
  ·exact⟨1,S2,by rw[aG,dU],λk D G=>by omega⟩
  ·obtain⟨cD,au,D,G⟩:=abK (p:=p) ix (N:=N) (by omega);refine⟨cD*cB N,S3 au (ix N),by rw[h8,D,A7],λk dp dN=>?_⟩
   by_cases R:k=N
   ·exact⟨cD,by rw[R,pY]⟩
   ·obtain⟨m,hm⟩:=G k dp (by omega);exact⟨m*cB N,by rw[hm,A7]⟩
abbrev yK:=fk×(Nat->Nat)
def lb (n:Nat):List yK->Nat
 | []=>1
 |p::l=>fO n p.2*lb n l
theorem anB (n:Nat)(a b:List yK):lb n (a++b)=lb n a*lb n b:=by
 induction a with
 |nil=>simp[lb]
 |cons p l aA=>simp only[jc,lb,aA,A7]
theorem abL (n:Nat):∀l:List yK,lb n l<=lb (n+1) l
 | []=>cA _
 |p::l=>nL (Nat.le_add_right _ _) (abL n l)
theorem abM {n:Nat}{f:List fk->Rat}(h:∀l:List yK,(∀p∈l,∀i,i<n->ek (p.2 i) (p.1 i))->ek (lb n l) (f (l.map (·.1)))):
  ∀cs pre:List yK,(∀p∈pre++cs,∀i,i<n+1->ek (p.2 i) (p.1 i))->∃z:Int,hY n f (pre.map (·.1)) (cs.map (·.1))=(z:Rat)/\z.natAbs+lb n pre*lb n cs<=lb n pre*lb (n+1) cs
 | [],pre,_=>⟨0,rfl,by simp[lb]⟩
 |c::cs,pre,aG=>by
  obtain⟨z,D,G⟩:=abM h cs (pre++[c]) (by simpa using aG);obtain⟨y,dh,cR⟩:=h (pre++cs) λp hm i Q=>aG p (by simp only[iK,hF] at hm ⊢;rcases hm with hm|hm<;>simp[hm]) i (by omega)
  obtain⟨x,dp,dN⟩:=aG c (by simp) n (by omega);simp only[mA,e8,cM] at D dh;refine⟨x*y-z,?_,?_⟩
  ·simp only[e8,hY];rw[dp,dh,D,Hv,oz]
  ·rw[anB] at G cR;simp only[lb,fO,dU] at G ⊢;have c6:(x*y-z).natAbs<=x.natAbs*y.natAbs+z.natAbs:=by rw[<-nz];omega
   have dv:=nL dN (eG cR (nL (cA _) (abL n cs)));generalize lb n pre=P at *;generalize lb n cs=s at *;generalize lb (n+1) cs=S at *;generalize fO n c.2=L at *;generalize c.2 n=a at *;have aw:P*((L+a)*S)=P*L*S+a*(P*S):=by rw[Nat.add_mul,Nat.mul_add,A7,abN a]
   have aB:P*(L*s)=P*L*s:=(A7 _ _ _).symm;rw[aw,aB];omega
theorem abO:∀n (l:List yK),(∀p∈l,∀i,i<n->ek (p.2 i) (p.1 i))->ek (lb n l) (fU n (l.map (·.1)))
 |0,[],_=>⟨1,by rfl,by simp[lb]⟩
 |0,p::l,_=>ek.zero
 |n+1,l,h=>by
  obtain⟨z,D,G⟩:=abM (f:=fU n) (abO n) l [] (by simpa using h);refine⟨z,D,?_⟩;simp only[lb,Nat.one_mul] at G;omega
open Go
def ql (N:Nat)(l:List bd)(q:Nat->Rat):Prop:=l=((hR (N+1)).map q).map ai/\∀k,k<=N->dD (q k)
def DL (N:Nat)(rows:List gz)(aT:fI):Prop:=o rows=N/\∀(i:Nat) x,rows[i]?=some x->ql N x.2.2 (aT i)
theorem ql.get {N:Nat}{l:List bd}{q:Nat->Rat}(h:ql N l q){k:Nat}(R:k<=N):l[k]?=some (ai (q k)):=by
 rw[h.1,bb,bb,s5 (by omega)]
 rfl
theorem ql.len {N:Nat}{l:List bd}{q:Nat->Rat}(h:ql N l q):(o l)=N+1:=by rw[h.1];simp
theorem ql.anC {N:Nat}{l:List bd}{q:Nat->Rat}(ax:(o l)=N+1)(h:∀k,k<=N->l[k]?=some (ai (q k))/\dD (q k)):ql N l q:=by
 refine⟨?_,λk R=>(h k R).2⟩;apply pU;intro k;rcases h1 k (N+1) with R|R
 ·rw[(h k (by omega)).1,bb,bb,s5 R];rfl
 ·rw[nh (by omega),nh (by simp;omega)]
theorem ql.congr {N:Nat}{l:List bd}{q CJ:Nat->Rat}(h:ql N l q)(aF:∀k,k<=N->q k=CJ k):ql N l CJ :=
 ql.anC h.len λk R=>by rw[<-aF k R];exact⟨h.get R,h.2 k R⟩
theorem ql.cell {N:Nat}{x:gz}{q:Nat->Rat}(h:ql N x.2.2 q){k:Nat}(R:k<=N):cellOf x k=ai (q k):=amT (h.get R)
theorem DL.row {N:Nat}{rows:List gz}{aT:fI}(h:DL N rows aT){i:Nat}(Q:i<N):∃x,rows[i]?=some x/\rowAt rows i=x/\ql N x.2.2 (aT i):=by
 obtain⟨x,I⟩:∃x,rows[i]?=some x:=⟨_,bL (by have:=h.1;omega)⟩;exact⟨x,I,Dy I,h.2 i x I⟩
theorem DL.swap {N:Nat}{rows:List gz}{aT:fI}(h:DL N rows aT){r s:Nat}(U:r<N)(aa:s<N):DL N (sA rows r s) (kJ aT r s):=by
 obtain⟨x,I,ex,DM⟩:=h.row U;obtain⟨y,ak,zp,anD⟩:=h.row aa;unfold sA;rw[ex,zp];refine⟨by rw[kA,kA];exact h.1,λi z a8=>?_⟩
 rw[tQ,tQ,kA] at a8;unfold kJ
 by_cases D:s=i
 ·rw[aj D,aj (by have:=h.1;omega)] at a8
  cases a8;rw[aj D.symm];exact DM
 ·rw[aq D] at a8;rw[aq (Ne.symm D)]
  by_cases G:r=i
  ·rw[aj G,aj (by have:=h.1;omega)] at a8
   cases a8;rw[aj G.symm];exact anD
  ·rw[aq G] at a8;rw[aq (Ne.symm G)];exact h.2 i z a8
structure abP (N:Nat) (aT DN:fI) (rows:List gz) (p c:Nat) (aJ:Nat->Nat):Prop where
 enc:DL N rows DN
 red:tS N DN p c aJ
 azS:∀y,ko N DN y↔ko N aT y
theorem abQ {f:bd}(h:cU f=true):f=ai (ot f)/\dD (ot f):=by
 obtain⟨x,I,rfl⟩:=(wN _).1 h;rw[AL];exact⟨rfl,I⟩
def Hz (N:Nat)(q:Nat->Rat)(b:Nat):Prop:=∃(v:Nat->Int) (d:Int),d≠0/\d.natAbs<=2^b/\∀k,k<=N->q k*(d:Rat)=(v k:Rat)/\(v k).natAbs<=2^b
theorem Hz.mono {N a b:Nat}{q:Nat->Rat}(h:Hz N q a)(wS:a<=b):Hz N q b:=by
 obtain⟨v,d,D,G,ag⟩:=h;have aG:2^a<=2^b:=u1 (by omega) wS;exact⟨v,d,D,eG G aG,λk R=>⟨(ag k R).1,eG (ag k R).2 aG⟩⟩
theorem anE {q:Rat}{v d:Int}(ae:d≠0)(h:q*(d:Rat)=(v:Rat)):q.num*d=v*q.den:=by
 have mg:(d:Rat)≠0:=by rw[Ne,abR];exact ae
 have e:q=kl v d:=by rw[S4];grind
 have aB:kl q.num q.den=kl v d:=by rw[Rat.num_divInt_den];exact e
 exact (Rat.divInt_eq_divInt_iff (tE q) ae).1 aB
theorem DO {q:Rat}{v d:Int}(ae:d≠0)(h:q*(d:Rat)=(v:Rat)):q.num.natAbs<=v.natAbs/\q.den<=d.natAbs:=by
 have E:=anE ae h
 have jr:q.num.natAbs*d.natAbs=v.natAbs*q.den:=by
  have:=congrArg Int.natAbs E;rwa [nz,nz,k3] at this
 have xz:q.den∣d.natAbs:=(Nat.Coprime.symm q.reduced).dvd_of_dvd_mul_left ⟨v.natAbs,by rw[jr,pY]⟩
 have Qh:0<d.natAbs:=by omega
 have G:=Nat.le_of_dvd Qh xz;refine⟨?_,G⟩;obtain⟨m,hm⟩:=xz;rw[hm] at jr;have Qj:=q.den_pos
 have ag:q.num.natAbs*m=v.natAbs:=by
  have:q.den*(q.num.natAbs*m)=q.den*v.natAbs:=by rw[pY q.den v.natAbs,<-jr];rw[abN]
  exact Nat.eq_of_mul_eq_mul_left Qj this
 have lo:0<m:=by
  rcases jo m with au|au
  ·rw[au,Nat.mul_zero] at hm;omega
  ·exact au
 rw[<-ag];exact Fo _ lo
def eB (b:Nat)(q:Rat):Prop:=q.num.natAbs<=2^b/\q.den<=2^b
theorem Hz.sz {N b:Nat}{q:Nat->Rat}(h:Hz N q b){k:Nat}(R:k<=N):eB b (q k):=by
 obtain⟨v,d,D,G,ag⟩:=h;obtain⟨aw,aB⟩:=ag k R;obtain⟨f1,f2⟩:=DO D aw;exact⟨eG f1 aB,eG f2 G⟩
theorem anF (a b c:Nat)(h:a=2^b):a^c=2^(b*c):=by rw[h,<-Nat.pow_mul]
theorem abS:∃B:Nat,B=1200/\c9=2^B:=⟨20*60,rfl,anF 1048576 20 60 (by decide)⟩
theorem yL {z:Int}{b:Nat}(h:z.natAbs<=2^b)(ah:b<1200):gV z=true:=by
 obtain⟨B,kV,gl⟩:=abS;unfold gV;rw[gl,decide_eq_true_eq];exact q0 h (abT (by omega) (by omega))
theorem qm {x y:Int}{a b:Nat}(I:x.natAbs<=2^a)(ak:y.natAbs<=2^b):(x*y).natAbs<=2^(a+b):=by
 rw[nz,vk];exact nL I ak
theorem abU {x y:Int}{a:Nat}(I:x.natAbs<=2^a)(ak:y.natAbs<=2^a):(x+y).natAbs<=2^(a+1):=by
 have:=Int.natAbs_add_le x y;rw[r6];omega
theorem eB.mono {a b:Nat}{q:Rat}(h:eB a q)(wS:a<=b):eB b q:=by
 have aG:2^a<=2^b:=u1 (by omega) wS;exact⟨eG h.1 aG,eG h.2 aG⟩
theorem abV {x y:Rat}{a b:Nat}(I:eB a x)(ak:eB b y)(h:a+b<1200):C6 x y=true:=by
 unfold C6;rw[eX];exact⟨yL (qm I.1 ak.1) h,yL (qm (x:=(x.den:Int)) (y:=(y.den:Int)) (by simpa using I.2) (by simpa using ak.2)) h⟩
theorem abW {x y:Rat}{a b:Nat}(I:eB a x)(ak:eB b y)(h:a+b<1200):C7 x y=true:=by
 unfold C7;rw[eX];exact⟨yL (qm (y:=(y.den:Int)) I.1 (by simpa using ak.2)) h,yL (qm (x:=(x.den:Int)) (by simpa using I.2) ak.1) h⟩
theorem S5 {x y:Rat}{a b:Nat}(I:eB a x)(ak:eB b y)(h:a+b+1<1200):mx x y=true:=by
 unfold mx;have D:=qm (y:=(y.den:Int)) I.1 (by simpa using ak.2);have G:=qm (y:=(x.den:Int)) ak.1 (by simpa using I.2);rw[xq b a] at G;simp only[eX];exact⟨yL D (by omega),yL G (by omega),yL (abU D G) h,yL (qm (x:=(x.den:Int)) (y:=(y.den:Int)) (by simpa using I.2) (by simpa using ak.2)) (by omega)⟩
theorem HA {b:Nat}{q:Rat}(h:eB b q):eB b (-q):=⟨by rw[Rat.neg_num,tB];exact h.1,h.2⟩
theorem S6 {p q:Int}{b:Nat}(D:p.natAbs<=2^b)(G:q.natAbs<=2^b)(aF:q≠0):eB b (kl p q):=by
 have azT:(q:Rat)≠0:=by rw[Ne,abR];exact aF
 have:=DO (q:=kl p q) (v:=p) aF (by rw[S4];grind);exact⟨eG this.1 D,eG this.2 G⟩
theorem HB {x y:Rat}{a b:Nat}(I:eB a x)(ak:eB b y):eB (a+b) (x*y):=by
 rw[<-aae];exact S6 (qm I.1 ak.1) (qm (x:=(x.den:Int)) (y:=(y.den:Int)) (by simpa using I.2) (by simpa using ak.2)) (wR (tE x) (tE y))
theorem S7 {x y:Rat}{a b:Nat}(I:eB a x)(ak:eB b y):eB (a+b+1) (x+y):=by
 rw[<-aad];have D:=qm (y:=(y.den:Int)) I.1 (by simpa using ak.2);have G:=qm (y:=(x.den:Int)) ak.1 (by simpa using I.2);rw[xq b a] at G;have ag:=qm (x:=(x.den:Int)) (y:=(y.den:Int)) (a:=a) (b:=b) (by simpa using I.2) (by simpa using ak.2);exact S6 (abU D G) (eG ag (u1 (by omega) (by omega))) (wR (tE x) (tE y))
theorem anG {x y:Rat}{a b:Nat}(I:eB a x)(ak:eB b y)(au:y≠0):eB (a+b) (x/y):=by
 rw[<-aag];have aL:y.num≠0:=λh=>au (Rat.num_eq_zero.1 h);exact S6 (qm (y:=(y.den:Int)) I.1 (by simpa using ak.2)) (qm (x:=(x.den:Int)) (by simpa using I.2) ak.1) (wR (tE x) aL)
def ri (A:fI)(σ:Nat->Nat)(k:Nat):fk:=λi=>A (σ i) k
def nM:Nat->List Nat
 |0=>[]
 |p+1=>p::nM p
theorem yM {k:Nat}:∀{p:Nat},k∈nM p↔k<p
 |0=>by simp[nM]
 |p+1=>by
  simp only[nM,hF,yM (p:=p)];omega
theorem abX {l:Nat}:∀{p:Nat},l<p->∃dR fs,nM p=dR++l::fs/\∀m,m∈dR++fs↔m<p/\m≠l
 |0,h=>by omega
 |p+1,h=>by
  by_cases ax:l=p
  ·subst ax;refine⟨[],nM l,rfl,λm=>?_⟩;rw[ju,yM];omega
  ·obtain⟨dR,fs,D,G⟩:=abX (l:=l) (p:=p) (by omega);refine⟨p::dR,fs,by simp[nM,D],λm=>?_⟩
   rw[jc,hF,G];omega
def pv (A:fI)(σ:Nat->Nat)(p:Nat):List fk:=(nM p).map (ri A σ)
theorem LG {n:Nat}{c c':fk}(dR fs:List fk)(h:∀i,i<n->c i=c' i):fU n (dR++c::fs)=fU n (dR++c'::fs):=by
 have:=abI (n:=n) (dR.map (λx=>(x,x))++(c,c')::fs.map (λx=>(x,x))) wP Prod.snd (λa aM i Q=>by
  simp only[iK,hF,fZ] at aM;rcases aM with ⟨x,_,rfl⟩|rfl|⟨x,_,rfl⟩
  ·rfl
  ·exact h i Q
  ·rfl)
 simpa [Function.comp_def] using this
theorem abY {A:fI}{σ τ:Nat->Nat}{p:Nat}(h:∀i,i<p->σ i=τ i):fU p (pv A σ p)=fU p (pv A τ p) :=
 abI _ _ _ λa _ i Q=>by unfold ri;rw[h i Q]
def HC (N:Nat)(A aT:fI)(σ:Nat->Nat)(p:Nat):Prop:=∀i,i<N->∀k,p<=k->k<=N->A (σ i) k=(if i<p then 0 else aT i k)+cg p λl=>A (σ i) l*aT l k
def ld (N:Nat)(A aT:fI)(p:Nat):Prop:=∃σ:Nat->Nat,(∀i,i<N->σ i<N)/\(∀i j,i<N->j<N->σ i=σ j->i=j)/\HC N A aT σ p/\fU p (pv A σ p)≠0
theorem ld.start (N:Nat)(A:fI):ld N A A 0:=by
 refine⟨λi=>i,λi h=>h,λi j _ _ h=>h,λi Q k _ R=>?_,?_⟩
 ·rw[aq (by omega)];show A i k=A i k+0;grind
 ·show (1:Rat)≠0;decide
theorem anH {p:Nat}(a x y:Nat->Rat)(t:Rat):cg p (λl=>a l*(x l-y l*t))=cg p (λl=>a l*x l)-t*cg p λl=>a l*y l:=by
 have:(λl=>a l*(x l-y l*t))=λl=>a l*x l+(-t)*(a l*y l):=by funext l;grind
 rw[this,sC,wX];grind
theorem ld.step {N p s:Nat}{A aT:fI}(h:ld N A aT p)(aG:p<N)(aa:p<=s)(abd:s<N)(bZ:aT s p≠0):ld N A (qh aT p p s) (p+1):=by
 obtain⟨σ,hσ,DP,U,ae⟩:=h
 let π:Nat->Nat:=λi=>if i=s then p else if i=p then s else i
 have hπ:∀i,kJ aT p s i=aT (π i):=by
  intro i;show (if i=s then aT p else if i=p then aT s else aT i)=aT (if i=s then p else if i=p then s else i)
  split
  ·rfl
  ·split<;>rfl
 have hπN:∀i,i<N->π i<N:=λi Q=>by show (if i=s then p else if i=p then s else i)<N;split<;>(try split)<;>omega
 have hπp:∀i,i<p->π i=i:=λi Q=>by show (if i=s then p else if i=p then s else i)=i;rw[aq (by omega),aq (by omega)]
 have hπq:∀i,p<=i->p<=π i:=λi Q=>by show p<=(if i=s then p else if i=p then s else i);split<;>(try split)<;>omega
 have hπj:∀i j,π i=π j->i=j:=λi j=>by
  show (if i=s then p else if i=p then s else i)=(if j=s then p else if j=p then s else j)->i=j
  (repeat' split)<;>omega
 have abZ:∀i j,i<N->j<N->σ (π i)=σ (π j)->i=j:=λi j Q ay h=>hπj i j (DP _ _ (hπN i Q) (hπN j ay) h)
 have di:HC N A (kJ aT p s) (λi=>σ (π i)) p:=by
  intro i Q k hb gi;have:=U (π i) (hπN i Q) k hb gi;rw[this]
  congr 1
  ·by_cases la:i<p
   ·rw[aj la,aj (by rw[hπp i la];exact la)]
   ·rw[aq la,aq (by have:=hπq i (by omega);omega),hπ]
  ·refine j0 λl ax=>?_;rw[hπ l,hπp l ax]
 have anI:kJ aT p s p p≠0:=by rw[SC];exact bZ
 generalize anJ:kJ aT p s=S at *
 have aF:qh aT p p s=λi k=>if i=p then S p k/S p p else S i k-S i p*(S p k/S p p):=by
  funext i k;unfold qh;rw[anJ]
 rw[aF]
 have mg:fU p (pv A (λi=>σ (π i)) p)≠0:=by
  rw[abY (τ:=σ) λi Q=>by show σ (π i)=σ i;rw[hπp i Q]]
  exact ae
 have hσ2:∀i,i<N->σ (π i)<N:=λi Q=>hσ _ (hπN i Q)
 change ∀i,i<N->(λi=>σ (π i)) i<N at hσ2
 change ∀i j,i<N->j<N->(λi=>σ (π i)) i=(λi=>σ (π i)) j->i=j at abZ
 generalize hτ:(λi=>σ (π i))=τ at *;refine⟨τ,hσ2,abZ,λi Q k hb gi=>?_,?_⟩
 ·have aw:=di i Q k (by omega) gi;have aB:=di i Q p (by omega) (by omega);simp only[cg,if_true];rw[j0 (g:=λl=>A (τ i) l*(S l k-S l p*(S p k/S p p))) λl ax=>by rw[aq (by omega)],anH]
  generalize cg p (λl=>A (τ i) l*S l k)=dR at *;generalize cg p (λl=>A (τ i) l*S l p)=fs at *
  by_cases D:i<p
  ·rw[aj D] at aw aB;rw[aj (by omega)];grind
  ·rw[aq D] at aw aB
   by_cases G:i=p
   ·subst G;rw[aj (by omega)];grind
   ·rw[aq (by omega),aq G];grind
 ·have E:fU (p+1) (pv A τ (p+1))=S p p*fU p (pv A τ p):=by
   show fU (p+1) ([]++ri A τ p::pv A τ p)=_
   rw[LG (c':=yJ (λi=>if i<p then 0 else S i p) (λi=>cg p λl=>S l p*ri A τ l i) 1) [] _ λi Q=>by
    have:=di i (by omega) p (by omega) (by omega);show A (τ i) p=(if i<p then 0 else S i p)+1*cg p λl=>S l p*A (τ i) l;rw[this,LF]
    congr 1
    exact j0 λl _=>vl _ _]
   rw[A6,Hy,rb λl ax=>by
    rw[SX (by rw[ju];exact tW (yM.2 ax))];exact m2 _]
   rw[ju,abH λi Q=>aj Q,aq (by omega)];grind
  rw[E];intro au;rcases S8.1 au with au|au
  ·exact anI au
  ·exact mg au
theorem anK {N p l k:Nat}{A aT:fI}{σ:Nat->Nat}(U:HC N A aT σ p)(aG:p<=N)(ax:l<p)(hb:p<=k)(gi:k<=N):∃dR fs:List Nat,nM p=dR++l::fs/\(∀m∈dR++fs,m<p)/\aT l k*fU p (pv A σ p)=fU p ((dR++k::fs).map (ri A σ)):=by
 obtain⟨dR,fs,p4,hm⟩:=abX ax;refine⟨dR,fs,p4,λm WS=>((hm m).1 WS).1,?_⟩
 ·rw[mA,e8]
  rw[LG (c':=λi=>cg p λm=>aT m k*ri A σ m i) _ _ λi Q=>by
   have:=U i (by omega) k hb gi;rw[aj Q] at this;show A (σ i) k=cg p λm=>aT m k*A (σ i) m;rw[this,A8];exact j0 λl _=>vl _ _]
  rw[Hy,yD ax λm anL oQ=>by
   rw[SX (by rw[<-mA];exact tW ((hm m).2 ⟨anL,oQ⟩))];exact m2 _]
  unfold pv;rw[p4,mA,e8]
theorem anM {N p i k:Nat}{A aT:fI}{σ:Nat->Nat}(U:HC N A aT σ p)(vK:p<=i)(rP:i<N)(hb:p<=k)(gi:k<=N):aT i k*fU p (pv A σ p)=fU (p+1) ((k::nM p).map (ri A λj=>if j=p then σ i else σ j)):=by
 have hτ:∀j,j<p->(λj=>if j=p then σ i else σ j) j=σ j:=λj ay=>aq (by omega);have hτp:(λj=>if j=p then σ i else σ j) p=σ i:=aj rfl;generalize (λj=>if j=p then σ i else σ j)=τ at *;show _=fU (p+1) ([]++ri A τ k::pv A τ p)
 rw[LG (c':=yJ (λj=>if j<p then 0 else aT i k) (λj=>cg p λl=>aT l k*ri A τ l j) 1) [] _ λj ay=>by
  show A (τ j) k=(if j<p then 0 else aT i k)+1*cg p λl=>aT l k*A (τ j) l;rw[LF]
  by_cases DA:j<p
  ·have:=U j (by omega) k hb gi;rw[aj DA] at this ⊢;rw[hτ j DA,this]
   congr 1
   exact j0 λl _=>vl _ _
  ·obtain rfl:j=p:=by omega
   have:=U i rP k hb gi;rw[aq (by omega)] at this;rw[aq DA,hτp,this]
   congr 1
   exact j0 λl _=>vl _ _]
 rw[A6,Hy,rb λl ax=>by
  rw[SX (by rw[ju];exact tW (yM.2 ax))];exact m2 _]
 rw[ju,abH λi Q=>aj Q,aq (by omega),abY λj ay=>(hτ j ay).symm];grind
theorem anN (n:Nat)(dR fs:List fk)(x:fk)(a:Rat):fU n (dR++(λi=>a*x i)::fs)=a*fU n (dR++x::fs):=by
 have:=Hy n dR fs (λ_=>a) (λ_=>x) 1;simp only[cg] at this;rw[A8] at this;rw[<-this];exact LG dR fs λi _=>(A8 _).symm
theorem ab0 (n:Nat)(cB:Nat->Rat)(C:Nat->fk):∀(L:List Nat) (dR:List fk),∃a:Rat,((∀k∈L,cB k≠0)->a≠0)/\fU n (dR++L.map λk=>λi=>cB k*C k i)=a*fU n (dR++L.map C)
 | [],dR=>⟨1,λ_=>by decide,by rw[LF];rfl⟩
 |k::L,dR=>by
  obtain⟨a,D,G⟩:=ab0 n cB C L (dR++[C k]);refine⟨cB k*a,λh=>?_,?_⟩
  ·intro au;rcases S8.1 au with au|au
   ·exact h k gP au
   ·exact D (λm hm=>h m (ha _ hm)) au
  ·simp only[e8,gZ,jc,ju] at G ⊢;rw[anN,G,Rat.mul_assoc]
structure tX (N:Nat) (A:fI) (δ v:Nat):Prop where
 ex:∃(cB:Nat->Nat) (u w:Nat->Int),h8 N cB<=2^δ/\(∀k,0<cB k)/\(∀k,k<N->∃b:Nat->Nat,fO N b<=2*cB k/\∀i,i<N->ek (b i) (cB k*A i k))/\(∀k,k<N->(u k).natAbs<=2^v)/\∀i,i<N->(w i).natAbs<=2^v/\A i N=cg N (λk=>A i k*(u k:Rat))+(w i:Rat)
def j3 (e:Nat->Nat):List Nat->Nat
 | []=>1
 |m::l=>e m*j3 e l
theorem ab1 (e:Nat->Nat)(a b:List Nat):j3 e (a++b)=j3 e a*j3 e b:=by
 induction a with
 |nil=>simp[j3]
 |cons p l aA=>simp only[jc,j3,aA,A7]
theorem anO {e f:Nat->Nat}{l:List Nat}(h:∀m∈l,e m=f m):j3 e l=j3 f l:=by
 induction l with
 |nil=>rfl
 |cons m l aA=>rw[j3,j3,aA λx I=>h x (ha _ I),h m gP]
theorem ab2 (cB:Nat->Nat):∀p,j3 (λm=>2*cB m) (nM p)=2^p*h8 p cB
 |0=>rfl
 |p+1=>by
  rw[nM,j3,ab2 cB p,h8,r6];grind
theorem S9 {N n:Nat}{A:fI}{e:Nat->Nat}(jd:∀k,k<=N->∃b:Nat->Nat,fO N b<=e k/\∀i,i<N->ek (b i) (A i k)){τ:Nat->Nat}(D:∀i,i<n->τ i<N)(G:∀i j,i<n->j<n->τ i=τ j->i=j)(L:List Nat)(gl:∀m∈L,m<=N):ek (j3 e L) (fU n (L.map (ri A τ))):=by
 have⟨B,kV⟩:∃B:Nat->Nat->Nat,∀k,k<=N->fO N (B k)<=e k/\∀i,i<N->ek (B k i) (A i k):=by
  refine⟨λk=>if h:k<=N then (jd k h).choose else λ_=>0,λk R=>?_⟩;dsimp only;rw[dif_pos R];exact (jd k R).choose_spec
 have h:=abO n (L.map λk=>(ri A τ k,λi=>B k (τ i))) λp aG i Q=>by
  obtain⟨m,hm,rfl⟩:=fZ.1 aG;exact (kV m (gl m hm)).2 _ (D i Q)
 rw[lX] at h;refine ek.mono h ?_;clear h
 induction L with
 |nil=>exact cA _
 |cons m L aA =>
  rw[e8,lb,j3];exact nL (eG (S1 (B m) D G) (kV m (gl m gP)).1) (aA λx I=>gl x (ha _ I))
structure anP (N:Nat) (aT:fI) (δ v p:Nat) (cB:Nat->Nat) (u:Nat->Int) (d:Int):Prop where
 d0:d≠0
 pos:∀k,0<cB k
 ab3:h8 N cB<=2^δ
 ab4:∀k,k<N->(u k).natAbs<=2^v
 zN:d.natAbs<=2^p*h8 p cB
 ab5:∀i,i<N->∀k,p<=k->k<N->ek (2^(p+1)*(h8 p cB*cB k)) (aT i k*(cB k*d))
 val:∀i,i<N->ek (2^p*h8 p cB*(N*2^v)) ((aT i N-(if i<p then (u i:Rat) else 0)-cg N λk=>if p<=k then aT i k*(u k:Rat) else 0)*d)
theorem ld.ab6 {N p δ v:Nat}{A aT:fI}(jd:tX N A δ v)(h:ld N A aT p)(aG:p<=N):∃cB u d,anP N aT δ v p cB u d:=by
 obtain⟨σ,hσ,DP,U,ae⟩:=h;obtain⟨cB,u,w,c6,dv,a3,a4,a5⟩:=jd
 have HD:∀m,((cB m:Nat):Rat)≠0:=λm=>by
  have:=dv m;rw[Ne,Rat.natCast_eq_zero_iff];omega
 -- the scaled matrix, with the whole numbers of the values
 have aZ:HC N (λi k=>if k<N then cB k*A i k else (w i:Rat)) (λl k=>if k<N then (if l<p then cB k*aT l k/cB l else cB k*aT l k) else (if l<p then (1:Rat)/cB l else 1)*(aT l N-(if l<p then (u l:Rat) else 0)-cg N λk=>if p<=k then aT l k*(u k:Rat) else 0)) σ p:=by
  intro i Q k hb gi
  by_cases m4:k<N
  ·have:=U i Q k hb gi;dsimp only;rw[aj m4,aj m4,this,Rat.mul_add,<-wX]
   congr 1
   ·split<;>grind
   ·refine j0 λl ax=>?_;rw[aj m4,aj (by omega),aj ax];have:=HD l;grind
  ·obtain rfl:k=N:=by omega
   dsimp only;rw[aq m4,aq m4];have aw:=U i Q k hb gi;have aB:=(a5 (σ i) (hσ i Q)).2
   have cI:(λm=>A (σ i) m*(u m:Rat))=λm=>(if m<p then A (σ i) m*(u m:Rat) else 0)+if p<=m then A (σ i) m*(u m:Rat) else 0:=by
    funext m
    by_cases hm:m<p
    ·rw[aj hm,aq (by omega),sD]
    ·rw[aq hm,aj (by omega),A8]
   have gJ:cg k (λm=>if p<=m then A (σ i) m*(u m:Rat) else 0)=cg k λm=>(if p<=m then (if i<p then 0 else aT i m*(u m:Rat)) else 0)+cg p λl=>A (σ i) l*(if p<=m then aT l m*(u m:Rat) else 0):=j0 λm hm=>by
    by_cases n4:p<=m
    ·rw[aj n4,aj n4,U i Q m n4 (by omega),Rat.add_mul]
     congr 1
     ·split<;>grind
     ·rw[vl,<-wX];refine j0 λl _=>?_;rw[aj n4];grind
    ·rw[aq n4,aq n4,A8];exact (rb λl _=>by rw[aq n4,m2]).symm
   rw[cI,sC,gJ,sC,amX] at aB
   have b6:cg k (λm=>if m<p then A (σ i) m*(u m:Rat) else 0)=cg p λl=>A (σ i) l*(u l:Rat):=by
    have:∀n,p<=n->cg n (λm=>if m<p then A (σ i) m*(u m:Rat) else 0)=cg p λl=>A (σ i) l*(u l:Rat):=by
     intro n
     induction n with
     |zero =>
          intro h;obtain rfl:p=0:=by omega
          rfl
     |succ n aA =>
      intro h
      by_cases LH:p=n+1
      ·rw[LH];exact j0 λm hm=>aj hm
      ·rw[cg,aA (by omega),aq (by omega),sD]
    exact this k aG
   rw[b6] at aB
   have dB:(cg p λl=>(λi rj=>if rj<k then (cB rj:Rat)*A i rj else (w i:Rat)) (σ i) l*((if l<p then (1:Rat)/cB l else 1)*(aT l k-(if l<p then (u l:Rat) else 0)-cg k λm=>if p<=m then aT l m*(u m:Rat) else 0)))=cg p (λl=>A (σ i) l*aT l k)-cg p (λl=>A (σ i) l*(u l:Rat))-cg p λl=>cg k λm=>A (σ i) l*(if p<=m then aT l m*(u m:Rat) else 0):=by
    have:∀f g h:Nat->Rat,cg p (λl=>f l-g l-h l)=cg p f-cg p g-cg p h:=λf g h=>by
     have e:(λl=>f l-g l-h l)=λl=>f l+((-1)*g l+(-1)*h l):=by funext l;grind
     rw[e,sC,sC,wX,wX];grind
    rw[<-this];refine j0 λl ax=>?_;dsimp only;rw[aj (by omega),aj ax,aj ax,wX];have:=HD l;grind
   have bQ:(cg p λl=>(λi rj=>if rj<k then (cB rj:Rat)*A i rj else (w i:Rat)) (σ i) l*(λl rj=>if rj<k then (if l<p then (cB rj:Rat)*aT l rj/cB l else cB rj*aT l rj) else (if l<p then (1:Rat)/cB l else 1)*(aT l k-(if l<p then (u l:Rat) else 0)-cg k λm=>if p<=m then aT l m*(u m:Rat) else 0)) l k)=cg p (λl=>A (σ i) l*aT l k)-cg p (λl=>A (σ i) l*(u l:Rat))-cg p λl=>cg k λm=>A (σ i) l*(if p<=m then aT l m*(u m:Rat) else 0):=by
    rw[<-dB];refine j0 λl ax=>?_;dsimp only;rw[aq (by omega:¬ k<k)]
   dsimp only at bQ;rw[bQ]
   by_cases la:i<p
   ·rw[aj la] at aw ⊢;have cS:cg k (λm=>if p<=m then (if i<p then 0 else aT i m*(u m:Rat)) else 0)=0:=rb λm _=>by rw[aj la];split<;>rfl
    rw[cS] at aB;grind
   ·rw[aq la] at aw ⊢;have cS:cg k (λm=>if p<=m then (if i<p then 0 else aT i m*(u m:Rat)) else 0)=cg k λm=>if p<=m then aT i m*(u m:Rat) else 0:=j0 λm _=>by rw[aq la]
    rw[cS] at aB;rw[aq la,aq la];grind
 have lB:fU p (pv (λi k=>if k<N then cB k*A i k else (w i:Rat)) σ p)≠0:=by
  obtain⟨a,D,G⟩:=ab0 p (λk=>(cB k:Rat)) (ri A σ) (nM p) []
  have anQ:pv (λi k=>if k<N then cB k*A i k else (w i:Rat)) σ p=(nM p).map λk=>λi=>(cB k:Rat)*ri A σ k i:=by
   unfold pv;refine oV λm hm=>?_;have:=yM.1 hm
   funext i
   show (if m<N then (cB m:Rat)*A (σ i) m else (w (σ i):Rat))=_;rw[aj (by omega)];rfl
  rw[ju,ju] at G;rw[anQ,G];intro au;rcases S8.1 au with au|au
  ·exact D (λm hm=>HD m) au
  ·exact ae au
 have anR:∀k,k<=N->∃b:Nat->Nat,fO N b<=(if k<N then 2*cB k else N*2^v)/\∀i,i<N->ek (b i) ((λi k=>if k<N then (cB k:Rat)*A i k else (w i:Rat)) i k):=by
  intro k R
  by_cases m4:k<N
  ·obtain⟨b,c5,eg⟩:=a3 k m4;refine⟨b,by rw[aj m4];exact c5,λi Q=>?_⟩
   dsimp only;rw[aj m4];exact eg i Q
  ·refine⟨λ_=>2^v,?_,λi Q=>?_⟩
   ·rw[aq m4]
    have:∀n,fO n (λ_=>2^v)=n*2^v:=λn=>by
     induction n with
     |zero=>simp[fO]
     |succ n aA=>rw[fO,aA,qD]
    rw[this];exact cA _
   ·dsimp only;rw[aq m4];exact ek.mono (ek.int _) (a5 i Q).1
 generalize azU:(λ(i k:Nat)=>if k<N then (cB k:Rat)*A i k else (w i:Rat))=DK at *;generalize Ta:(λk=>if k<N then 2*cB k else N*2^v)=e at *
 have Tb:∀k,k<=N->∃b:Nat->Nat,fO N b<=e k/\∀i,i<N->ek (b i) (DK i k):=by
  intro k R;rw[<-Ta];exact anR k R
 have Tc:∀m,m<N->e m=2*cB m:=λm hm=>by rw[<-Ta];exact aj hm
 have anS:e N=N*2^v:=by rw[<-Ta];exact aq (by omega)
 have Td:j3 e (nM p)=2^p*h8 p cB:=by
  rw[<-ab2];exact anO λm hm=>Tc m (by have:=yM.1 hm;omega)
 have hσp:∀i,i<p->σ i<N:=λi Q=>hσ i (by omega);have la:∀i j,i<p->j<p->σ i=σ j->i=j:=λi j Q ay=>DP i j (by omega) (by omega);have qL:=S9 Tb hσp la (nM p) λm hm=>by have:=yM.1 hm;omega
 rw[Td] at qL;obtain⟨d,wC,Al⟩:=qL
 change fU p (pv DK σ p)=(d:Rat) at wC
 have x5:d≠0:=by
  intro au;rw[wC,au] at lB;exact lB (by rfl)
 -- both kinds of rows
 have fp:∀l,l<p->∀k,p<=k->k<=N->∃m:Int,(λl k=>if k<N then (if l<p then (cB k:Rat)*aT l k/cB l else cB k*aT l k) else (if l<p then (1:Rat)/cB l else 1)*(aT l N-(if l<p then (u l:Rat) else 0)-cg N λk=>if p<=k then aT l k*(u k:Rat) else 0)) l k*(d:Rat)=(m:Rat)/\cB l*m.natAbs<=2^p*h8 p cB*e k:=by
  intro l ax k hb gi;obtain⟨dR,fs,aV,bG,cm⟩:=anK aZ aG ax hb gi
  have ah:=S9 Tb hσp la (dR++k::fs) λm hm=>by
   have:m=k\/m∈dR++fs:=by
    simp only[iK,hF] at hm ⊢;rcases hm with h|h|h<;>simp[h]
   rcases this with h|h
   ·omega
   ·have:=bG m h;omega
  obtain⟨m,cJ,cE⟩:=ah;rw[wC,cJ] at cm;refine⟨m,cm,?_⟩;have aw:j3 e (dR++k::fs)=j3 e dR*(e k*j3 e fs):=by rw[ab1,j3]
  have aB:j3 e dR*(2*cB l*j3 e fs)=2^p*h8 p cB:=by
   rw[<-Td,aV,ab1,j3,Tc l (by omega)]
  rw[aw] at cE;rw[<-aB];generalize j3 e dR=x at *;generalize j3 e fs=y at *;have dp:=nL (cA (cB l)) cE;have dN:x*(2*cB l*y)*e k=cB l*(x*(e k*y))+cB l*(x*(e k*y)):=by grind
  rw[dN];omega
 have hS:∀i,p<=i->i<N->∀k,p<=k->k<=N->∃m:Int,(λl k=>if k<N then (if l<p then (cB k:Rat)*aT l k/cB l else cB k*aT l k) else (if l<p then (1:Rat)/cB l else 1)*(aT l N-(if l<p then (u l:Rat) else 0)-cg N λk=>if p<=k then aT l k*(u k:Rat) else 0)) i k*(d:Rat)=(m:Rat)/\m.natAbs<=2^p*h8 p cB*e k:=by
  intro i vK rP k hb gi;have ab7:=anM aZ vK rP hb gi
  have hτ:∀j,j<p+1->(λj=>if j=p then σ i else σ j) j<N:=λj ay=>by
   show (if j=p then σ i else σ j)<N
   split
   ·exact hσ i rP
   ·exact hσ j (by omega)
  have hτj:∀j k,j<p+1->k<p+1->(λj=>if j=p then σ i else σ j) j=(λj=>if j=p then σ i else σ j) k->j=k:=λj k ay R=>by
   show (if j=p then σ i else σ j)=(if k=p then σ i else σ k)->j=k;intro h
   by_cases bm:j=p
   ·by_cases bN:k=p
    ·omega
    ·rw[aj bm,aq bN] at h;have:=DP _ _ rP (by omega) h;omega
   ·by_cases bN:k=p
    ·rw[aq bm,aj bN] at h;have:=DP _ _ (by omega) rP h;omega
    ·rw[aq bm,aq bN] at h;exact DP _ _ (by omega) (by omega) h
  obtain⟨m,cJ,cE⟩:=S9 Tb hτ hτj (k::nM p) λm hm=>by
   rcases hF.1 hm with h|h
   ·omega
   ·have:=yM.1 h;omega
  rw[wC,cJ] at ab7;refine⟨m,ab7,eG cE ?_⟩;rw[j3,Td,pY];exact cA _
 refine⟨cB,u,d,x5,dv,c6,a4,Al,λi Q k hb gi=>?_,λi Q=>?_⟩
 ·have QV:2^(p+1)*(h8 p cB*cB k)=2^p*h8 p cB*e k:=by rw[Tc k gi,r6];grind
  rw[QV]
  by_cases az:i<p
  ·obtain⟨m,cJ,cE⟩:=fp i az k hb (by omega);dsimp only at cJ;rw[aj gi,aj az] at cJ;refine⟨cB i*m,?_,by rw[nz,k3];exact cE⟩
   rw[oz,<-cJ,oA];have:=HD i;grind
  ·obtain⟨m,cJ,cE⟩:=hS i (by omega) Q k hb (by omega);dsimp only at cJ;rw[aj gi,aq az] at cJ;refine⟨m,?_,cE⟩;rw[<-cJ];grind
 ·rw[<-anS]
  by_cases az:i<p
  ·obtain⟨m,cJ,cE⟩:=fp i az N aG (cA _);dsimp only at cJ;rw[aq (by omega:¬ N<N),aj az,aj az] at cJ;refine⟨cB i*m,?_,by rw[nz,k3];exact cE⟩
   rw[oz,<-cJ,oA,aj az];have:=HD i;grind
  ·obtain⟨m,cJ,cE⟩:=hS i (by omega) Q N aG (cA _);dsimp only at cJ;rw[aq (by omega:¬ N<N),aq az,aq az] at cJ;refine⟨m,?_,cE⟩;rw[<-cJ,aq az];grind
def ab8 (N:Nat)(A:fI)(gd a1:Nat):Prop:=∀aT p,p<=N->ld N A aT p->∀i k,i<N->p<=k->k<=N->eB gd (aT i k)/\(k<N->eB a1 (aT i k))
theorem tX.anT {N δ v:Nat}{A:fI}(jd:tX N A δ v)(pg:N<=7):ab8 N A (N+δ+v+4) (N+δ):=by
 intro aT p aG h i k Q hb gi;obtain⟨cB,u,d,aL⟩:=h.ab6 jd aG;obtain⟨cD,azV,fq,eV⟩:=abK aL.pos aG;have Te:=aL.ab3;rw[fq] at Te
 have anU:∀k,p<=k->k<N->h8 p cB*cB k<=h8 p cB*cD:=λk D G=>by
  obtain⟨m,hm⟩:=eV k D G;refine nL (cA _) ?_
  have:0<m:=by
   rcases jo m with h|h
   ·rw[h] at hm;omega
   ·exact h
  rw[hm];exact Fo _ this
 have C4:∀q,q<=N->∀x,x<=2^δ->2^q*x<=2^(N+δ):=λq aF x I=>by
  rw[vk];exact nL (u1 (by omega) aF) I
 have e3:∀k,p<=k->k<N->eB (N+δ) (aT i k):=λk hb gi=>by
  obtain⟨z,mZ,pj⟩:=aL.ab5 i Q k hb gi;have azW:=aL.pos k;obtain⟨f1,f2⟩:=DO (q:=aT i k) (v:=z) (d:=(cB k:Int)*d) (wR (by omega) aL.d0) (by rw[<-mZ,oz,oA]);have hle:=eG (anU k hb gi) Te;refine⟨eG f1 (eG pj (C4 _ (by omega) _ hle)),eG f2 ?_⟩;rw[nz,k3];refine eG (nL (cA _) aL.zN) (eG ?_ (C4 p aG _ hle));exact w6 (by grind)
 by_cases m4:k<N
 ·exact⟨(e3 k hb m4).mono (by omega),λ_=>e3 k hb m4⟩
 refine⟨?_,λh=>absurd h m4⟩;obtain rfl:k=N:=by omega
 have g0:=aL.val i Q;have kV:∀q,q<=k->2^q*(h8 p cB*cD)<=2^(k+δ):=λq aF=>C4 q aF _ Te
 -- the three parts, times d and cD
 have hC:ek (k*2^(k+δ+v)) ((aT i k-(if i<p then (u i:Rat) else 0)-cg k λm=>if p<=m then aT i m*(u m:Rat) else 0)*d*(cD:Rat)):=by
  refine (g0.mul (ek.nat (cA cD))).mono ?_;have:=nL (kV p aG) (cA (k*2^v));refine eG (w6 ?_) (eG this (w6 ?_))
  ·grind
  ·rw[vk 2 (k+δ) v];grind
 have jb:ek (2^(k+δ+v)) ((if i<p then (u i:Rat) else 0)*d*(cD:Rat)):=by
  have hu:ek (2^v) (if i<p then (u i:Rat) else 0):=by
   split
   ·exact ek.mono (ek.int _) (aL.ab4 i Q)
   ·exact ek.zero
  refine ((hu.mul (ek.mono (ek.int d) aL.zN)).mul (ek.nat (cA cD))).mono ?_;have:=nL (kV p aG) (cA (2^v));refine eG (w6 ?_) (eG this (w6 ?_))
  ·grind
  ·rw[vk 2 (k+δ) v]
 have rk:ek (k*2^(k+δ+v)) ((cg k λm=>if p<=m then aT i m*(u m:Rat) else 0)*d*(cD:Rat)):=by
  have e:(cg k λm=>if p<=m then aT i m*(u m:Rat) else 0)*(d:Rat)*(cD:Rat)=cg k λm=>((d:Rat)*(cD:Rat))*(if p<=m then aT i m*(u m:Rat) else 0):=by
   rw[wX];grind
  rw[e];refine ek.sum k λm hm=>?_
  by_cases n4:p<=m
  ·rw[aj n4];obtain⟨y,ak⟩:=eV m n4 hm
   have aB:(d:Rat)*(cD:Rat)*(aT i m*(u m:Rat))=(aT i m*((cB m:Rat)*d))*(y:Rat)*(u m:Rat):=by
    rw[ak,LI];grind
   rw[aB];refine (((aL.ab5 i Q m n4 hm).mul (ek.nat (cA y))).mul (ek.mono (ek.int (u m)) (aL.ab4 m hm))).mono ?_;have:=nL (kV (p+1) (by omega)) (cA (2^v));refine eG (w6 ?_) (eG this (w6 ?_))
   ·rw[ak];grind
   ·rw[vk 2 (k+δ) v]
  ·rw[aq n4,m2];exact ek.zero
 obtain⟨z,mZ,pj⟩:=(hC.add jb).add rk
 have e:aT i k*((d*(cD:Int):Int):Rat)=(z:Rat):=by
  rw[<-mZ,oz,oA];grind
 obtain⟨f1,f2⟩:=DO (wR aL.d0 (by omega)) e;refine⟨eG f1 (eG pj ?_),eG f2 ?_⟩
 ·rw[vk 2 (k+δ+v) 4];generalize 2^(k+δ+v)=dR at *;have:k*dR<=7*dR:=Nat.mul_le_mul_right _ pg;omega
 ·rw[nz,k3];refine eG (nL aL.zN (cA cD)) (eG (w6 ?_) (eG (kV p aG) (u1 (by omega) (by omega))));grind
theorem ld.anV {N δ v:Nat}{A aT:fI}(jd:tX N A δ v)(h:ld N A aT N):∃bS:Nat,0<bS/\bS<=2^(N+δ)/\∀i,i<N->∃z:Int,aT i N*(bS:Rat)=(z:Rat):=by
 obtain⟨cB,u,d,aL⟩:=h.ab6 jd (cA N)
 have⟨s,aa⟩:∃s:Int,(d.natAbs:Int)=s*d:=by
  rcases Int.natAbs_eq d with e|e
  ·exact⟨1,by omega⟩
  ·exact⟨-1,by omega⟩
 have ae:=aL.d0;refine⟨d.natAbs,by omega,eG aL.zN ?_,λi Q=>?_⟩
 ·rw[vk];exact nL (cA _) aL.ab3
 ·obtain⟨z,mZ,-⟩:=aL.val i Q;rw[aj Q,rb λk R=>aq (by omega)] at mZ;refine⟨s*(z+u i*d),?_⟩;have e:((d.natAbs:Nat):Rat)=((d.natAbs:Int):Rat):=(oA _).symm;rw[e,aa,oz,oz,tV,oz,<-mZ];grind
def yN (N:Nat)(x:Nat->Rat):List bd:=((hR N).map x).map ai
theorem Tf (N:Nat)(x:Nat->Rat):(yN N x).length=N:=by simp[yN]
theorem anW {N k:Nat}(x:Nat->Rat)(h:k<N):(yN N x)[k]?=some (ai (x k)):=by
 unfold yN;rw[bb,bb,s5 h];rfl
theorem anX {N:Nat}{x:Nat->Rat}(pg:N<=40)(h:∀k,k<N->dD (x k)):ej (yN N x):=by
 refine⟨by rw[Tf];omega,λf aN=>?_⟩
 obtain⟨k,R⟩:=xR.1 aN;have m4:k<N:=by have:=(ef.1 R).1;rwa [Tf] at this
 rw[anW x m4] at R
 cases R;exact gW (h k m4)
def LJ (N:Nat)(bS:fI):Prop:=∃y,ko N bS (ext N y 0)/\∃k,k<N/\y k≠0
theorem abP.lim {N:Nat}{aT DN:fI}{rows:List gz}{p c:Nat}{aJ:Nat->Nat}(h:abP N aT DN rows p c aJ){i k:Nat}(Q:i<N)(R:k<=N):dD (DN i k):=by
 obtain⟨x,-,-,DM⟩:=h.enc.row Q;exact DM.2 k R
theorem anY (b:Nat)(p:Prop)[Decidable p]:eB b (if p then 1 else 0):=by
 have ah:1<=2^b:=Tg
 split
 ·exact⟨ah,ah⟩
 ·exact⟨fY _,ah⟩
theorem ld.all {N p gd a1:Nat}{A aT:fI}{aJ:Nat->Nat}(kV:ab8 N A gd a1)(h:ld N A aT p)(U:tS N aT p p aJ)(rh:∀j,j<p->aJ j=j)(aG:p<=N){i k:Nat}(Q:i<N)(R:k<=N):eB gd (aT i k):=by
 by_cases ab9:k<p
 ·have:=U.unit k ab9 i Q;rw[rh k ab9] at this;rw[this];exact anY _ _
 ·exact (kV aT p aG h i k Q (by omega) R).1
theorem ld.full {N:Nat}{A:fI}(aa:¬ LJ N A):∀k p aT aJ,p+k=N->tS N aT p p aJ->(∀y,ko N aT y↔ko N A y)->ld N A aT p->(∀j,j<p->aJ j=j)->∃aT aJ,ld N A aT N/\tS N aT N N aJ/\(∀j,j<N->aJ j=j)/\∀y,ko N aT y↔ko N A y
 |0,p,aT,aJ,aG,U,aM,ae,rh=>by
  obtain rfl:p=N:=by omega
  exact⟨aT,aJ,ae,U,rh,aM⟩
 |k+1,p,aT,aJ,aG,U,aM,ae,rh=>by
  by_cases a8:∀i,p<=i->i<N->aT i p=0
  ·exfalso
   refine aa ⟨w5 aT p,(aM _).1 (anp U rh (by omega) a8),p,by omega,?_⟩
   unfold w5;rw[aq (by omega),aj rfl]
   decide
  ·have⟨s,g3,l3,DQ⟩:∃s,p<=s/\s<N/\aT s p≠0:=by
    apply lI;intro h;exact a8 λi D G=>lI λag=>h ⟨i,D,G,ag⟩
   refine ld.full aa k (p+1) (qh aT p p s) (λj=>if j=p then p else aJ j) (by omega) (U.piv (by omega) g3 l3 DQ) (λy=>(am0 (by omega) l3 DQ).trans (aM y)) (ae.step (by omega) g3 l3 DQ) λj ay=>?_;show (if j=p then p else aJ j)=j
   split
   ·omega
   ·exact rh j (by omega)
theorem anZ {N δ v:Nat}{A:fI}(aa:¬ LJ N A)(jd:tX N A δ v){x:Nat->Rat}(I:ko N A (ext N x (-1))):∃bS:Nat,0<bS/\bS<=2^(N+δ)/\∀i,i<N->∃z:Int,x i*(bS:Rat)=(z:Rat):=by
 obtain⟨aT,aJ,⟨σ,D,vY,G,ag⟩,-⟩:=ld.full aa N 0 A (λj=>j) (by omega) (abe _ _ _) (λ_=>Iff.rfl) (ld.start _ _) (λj ay=>by omega);refine ld.anV (aT:=λi _=>x i) jd ⟨σ,D,vY,λi Q k hb gi=>?_,ag⟩;obtain rfl:k=N:=by omega
 rw[aj Q];have:=I (σ i) (D i Q);rw[LD] at this;grind
theorem an0 {N:Nat}{A:fI}(aa:¬ LJ N A):∃x,ko N A (ext N x (-1)):=by
 obtain⟨aT,aJ,-,D,G,ag⟩:=ld.full aa N 0 A (λj=>j) (by omega) (abe _ _ _) (λ_=>Iff.rfl) (ld.start _ _) (λj ay=>by omega);exact⟨λi=>aT i N,(ag _).1 ((ano D G _).2 λ_ _=>rfl)⟩
end Go.Mini
namespace Go.Mini
open Classical
def Day.W (d:Day)(f:Nat->Nat)(k i:Nat):Rat:=cy d.dM λc=>if c.to=(i:Int)/\c.aC=k/\c.bH=f k then d.w c else 0
def Day.st (d:Day)(f:Nat->Nat)(i:Nat):Rat:=d.H i+cy d.dM λc=>if c.to=(i:Int)/\c.bH<f c.aC then c.am else 0
theorem Day.dx.aca {d:Day}(ae:d.dx)(f:Nat->Nat)(P:Nat->Prop)(x:Nat->Rat)(i:Nat):(cy d.dM λc=>if c.to=(i:Int) then (if c.bH=f c.aC/\P c.aC then d.w c*x c.aC else 0) else 0)=cg d.n λk=>if P k then d.W f k i*x k else 0:=by
 have e:=Ls (n:=d.n) ae.aC λk c=>if c.to=(i:Int) then (if c.bH=f k/\P k then d.w c*x k else 0) else 0;rw[<-e];refine j0 λk R=>?_
 by_cases hk:P k
 ·rw[aj hk,vl];unfold Day.W;rw[<-Lr];refine wY λc _=>?_
  by_cases D:c.aC=k
  ·by_cases G:c.to=(i:Int)
   ·by_cases ag:c.bH=f k
    ·rw[aj D,aj G,aj ⟨ag,hk⟩,aj ⟨G,D,ag⟩,vl]
    ·rw[aj D,aj G,aq λh=>ag h.1,aq λh=>ag h.2.2,m2]
   ·rw[aj D,aq G,aq λh=>G h.1,m2]
  ·rw[aq D,aq λh=>D h.2.1,m2]
 ·rw[aq hk];refine Hn λc _=>?_
  split
  ·split
   ·rw[aq λh=>hk h.2]
   ·rfl
  ·rfl
theorem Day.dx.acb {d:Day}(ae:d.dx)(f:Nat->Nat)(P:Nat->Prop)(h:Nat->Rat)(i:Nat):d.eJ (d.l f P h) i=d.st f i+cg d.n λk=>if P k then d.W f k i*(h k-d.cH k (f k)) else 0:=by
 rw[<-ae.aca f P (λk=>h k-d.cH k (f k)) i];unfold Day.eJ Day.st;rw[Rat.add_assoc,<-Lq]
 congr 1
 refine wY λc _=>?_;unfold Day.l
 by_cases D:c.to=(i:Int)
 ·rw[aj D,aj D]
  by_cases G:c.bH<f c.aC
  ·have ag:c.to=(i:Int)/\c.bH<f c.aC:=⟨D,G⟩;have aR:¬ (c.bH=f c.aC/\P c.aC):=λh=>by have:=h.1;omega
   rw[aj G,aj ag,aq aR,sD]
  ·have ag:¬ (c.to=(i:Int)/\c.bH<f c.aC):=λh=>G h.2;rw[aq G,aq ag,A8]
   by_cases aR:c.bH=f c.aC/\P c.aC
   ·rw[aj aR,aj aR,aR.1]
   ·rw[aq aR,aq aR]
 ·have ag:¬ (c.to=(i:Int)/\c.bH<f c.aC):=λh=>D h.1;rw[aq D,aq ag,aq D,sD]
def Day.w7 (d:Day)(f:Nat->Nat)(P:Nat->Prop):fI:=λi k=>if k<d.n then (if i=k then 1 else 0)-(if P k then d.W f k i else 0) else d.st f i-cg d.n λk=>if P k then d.W f k i*d.cH k (f k) else 0
theorem Th {d:Day}(f:Nat->Nat)(P:Nat->Prop)(x:Nat->Rat)(z:Rat){i:Nat}(Q:i<d.n):k9 d.n (d.w7 f P i) (ext d.n x z)=x i-(cg d.n λk=>if P k then d.W f k i*x k else 0)+(d.st f i-cg d.n λk=>if P k then d.W f k i*d.cH k (f k) else 0)*z:=by
 rw[LD]
 congr 1
 ·have e:=yD (n:=d.n) (f:=λk=>if i=k then x k else 0) (j:=i) Q λk _ R=>aq (Ne.symm R);rw[aj rfl] at e;rw[<-e,<-Hp];refine j0 λk R=>?_;unfold Day.w7;rw[aj R]
  split<;>split<;>grind
 ·unfold Day.w7;rw[aq (by omega)]
theorem acd {d:Day}(ae:d.dx)(f:Nat->Nat)(P:Nat->Prop)(h:Nat->Rat):ko d.n (d.w7 f P) (ext d.n h (-1))↔∀i,i<d.n->h i=d.eJ (d.l f P h) i:=by
 have e:∀i,(cg d.n λk=>if P k then d.W f k i*(h k-d.cH k (f k)) else 0)=(cg d.n λk=>if P k then d.W f k i*h k else 0)-cg d.n λk=>if P k then d.W f k i*d.cH k (f k) else 0:=λi=>by
  rw[<-Hp];refine j0 λk _=>?_
  split<;>grind
 unfold ko
 constructor
 ·intro jd i Q;have:=jd i Q;rw[Th f P h _ Q] at this;rw[ae.acb,e];grind
 ·intro jd i Q;have:=jd i Q;rw[ae.acb,e] at this;rw[Th f P h _ Q];grind
structure Good (d:Day) (f:Nat->Nat) (P:Nat->Prop):Prop where
 ok:d.dx
 inv:∃g,Inv d f g
 kK:∀i,P i->i<d.n/\f i<10
 Ly:∀C:Nat->Prop,(∃i,C i)->(∀i,C i->P i)->¬ d.closed f C
theorem Good.an1 {d:Day}{f:Nat->Nat}{P:Nat->Prop}(bw:Good d f P){x:Nat->Rat}(I:∀i,i<d.n->x i=cg d.n λk=>if P k then d.W f k i*x k else 0):∀i,i<d.n->x i=0:=by
 obtain⟨g,Q⟩:=bw.inv;exact anc Q bw.ok bw.kK bw.Ly x λi cL=>by rw[bw.ok.aca f P x i];exact I i cL
theorem Good.ace {d:Day}{f:Nat->Nat}{P:Nat->Prop}(bw:Good d f P):¬ LJ d.n (d.w7 f P):=by
 rintro⟨y,ak,k,R,bZ⟩;refine bZ (bw.an1 (x:=y) (λi Q=>?_) k R);have:=ak i Q;rw[Th f P y _ Q] at this;grind
theorem Good.ex {d:Day}{f:Nat->Nat}{P:Nat->Prop}(bw:Good d f P):∃h:Nat->Rat,∀i,i<d.n->h i=d.eJ (d.l f P h) i:=by
 obtain⟨x,I⟩:=an0 bw.ace;exact⟨x,(acd bw.ok f P x).1 I⟩
theorem Good.uniq {d:Day}{f:Nat->Nat}{P:Nat->Prop}(bw:Good d f P){h cu:Nat->Rat}(e:∀i,i<d.n->h i=d.eJ (d.l f P h) i)(e':∀i,i<d.n->cu i=d.eJ (d.l f P cu) i):∀i,i<d.n->h i=cu i:=by
 obtain⟨g,Q⟩:=bw.inv;exact anb Q bw.ok bw.kK bw.Ly e e'
def Day.kL (d:Day)(f:Nat->Nat)(P:Nat->Prop):Nat->Rat:=if h:∃x:Nat->Rat,∀i,i<d.n->x i=d.eJ (d.l f P x) i then tg h else λ_=>0
theorem Good.kL {d:Day}{f:Nat->Nat}{P:Nat->Prop}(bw:Good d f P):∀i,i<d.n->d.kL f P i=d.eJ (d.l f P (d.kL f P)) i:=by
 have h:=bw.ex;unfold Day.kL;rw[dif_pos h];exact pW h
def an2 (P:Nat->Prop)(n:Nat):List Nat:=(hR n).filter λi=>decide (P i)
theorem hz.good {d:Day}(ae:d.dx){f:Nat->Nat}{g:Nat->Rat}(Q:Inv d f g){P:Nat->Prop}{h:Nat->Rat}(aG:hz d f g P h):Good d f P:=⟨ae,⟨g,Q⟩,aG.kK,aG.Ly⟩
theorem Good.none {d:Day}(ae:d.dx){f:Nat->Nat}{g:Nat->Rat}(Q:Inv d f g):Good d f λ_=>False:=⟨ae,⟨g,Q⟩,λ_ h=>h.elim,λ_ ⟨i,h⟩ cu=>(cu i h).elim⟩
theorem hz.first {d:Day}(ae:d.dx){f:Nat->Nat}{g:Nat->Rat}(Q:Inv d f g):hz d f g (λ_=>False) (d.kL f λ_=>False):=hz.start ae Q (Good.none ae Q).kL
theorem hz.succ {d:Day}(ae:d.dx){f:Nat->Nat}{g:Nat->Rat}(Q:Inv d f g){P:Nat->Prop}{h:Nat->Rat}(aG:hz d f g P h):hz d f g (sG d f P h) (d.kL f (sG d f P h)):=aG.next ae Q (Good.kL ⟨ae,⟨g,Q⟩,aG.DF,aG.abp ae Q⟩)
def idle (d:Day)(P:Nat->Prop):Nat:=rf d.n λi=>if P i then 0 else 1
theorem acf {d:Day}{f:Nat->Nat}{P:Nat->Prop}{h:Nat->Rat}{i:Nat}(Q:i<d.n)(aN:f i<10)(tU:d.cH i (f i)<h i)(hk:¬ P i):idle d (sG d f P h)<idle d P:=by
 refine aby (j:=i) (λj _=>?_) Q ?_
 ·by_cases ay:P j
  ·have D:sG d f P h j:=Or.inl ay;rw[aj D,aj ay];exact cA _
  ·rw[aq ay];split<;>omega
 ·have D:sG d f P h i:=Or.inr ⟨Q,aN,tU⟩;rw[aj D,aq hk];omega
theorem hz.top {d:Day}(ae:d.dx){f:Nat->Nat}{g:Nat->Rat}(Q:Inv d f g):∀m (P:Nat->Prop) (h:Nat->Rat),idle d P<=m->hz d f g P h->∃h,lJ d f h
 |m,P,h,hm,aG=>by
  by_cases aa:∀i,i<d.n->f i<10->d.cH i (f i)<h i->P i
  ·exact⟨h,g,Q,aG.stop ae Q aa,aG.le⟩
  ·have⟨i,D,G,ag,aR⟩:∃i,i<d.n/\f i<10/\d.cH i (f i)<h i/\¬ P i:=by
    apply lI;intro aL;exact aa λi D G ag=>lI λaR=>aL ⟨i,D,G,ag,aR⟩
   have az:=acf (h:=h) D G ag aR
   cases m with
   |zero=>omega
   |succ m=>exact hz.top ae Q m _ _ (by omega) (aG.succ ae Q)
theorem an3 {d:Day}(ae:d.dx){f:Nat->Nat}(U:Reach d f):∃h,lJ d f h:=by
 obtain⟨g,Q,-⟩:=U;exact hz.top ae Q _ _ _ (cA _) (hz.first ae Q)
theorem hz.an4 {d:Day}(ae:d.dx){f:Nat->Nat}{g:Nat->Rat}(Q:Inv d f g){P:Nat->Prop}{h:Nat->Rat}(aG:hz d f g P h)(aa:∀i,i<d.n->f i<10->d.cH i (f i)<h i->P i):∀i,i<d.n->h i=d.top f i :=
 have bV:lJ d f h:=⟨g,Q,aG.stop ae Q aa,aG.le⟩
 bV.unique ae (Day.DJ ⟨h,bV⟩)
end Go.Mini
namespace Go.Mini
open Classical
def fm (bS:Nat)(x:Rat):Prop:=∃z:Int,x*(bS:Rat)=(z:Rat)
theorem fm.add {bS:Nat}{x y:Rat}(I:fm bS x)(ak:fm bS y):fm bS (x+y):=by
 obtain⟨a,aM⟩:=I;obtain⟨b,ah⟩:=ak;exact⟨a+b,by rw[tV,<-aM,<-ah];grind⟩
theorem fm.sub {bS:Nat}{x y:Rat}(I:fm bS x)(ak:fm bS y):fm bS (x-y):=by
 obtain⟨a,aM⟩:=I;obtain⟨b,ah⟩:=ak;exact⟨a-b,by rw[Hv,<-aM,<-ah];grind⟩
theorem fm.mul {bS N:Nat}{x y:Rat}(I:fm bS x)(ak:fm N y):fm (bS*N) (x*y):=by
 obtain⟨a,aM⟩:=I;obtain⟨b,ah⟩:=ak;exact⟨a*b,by rw[oz,<-aM,<-ah,LI];grind⟩
theorem fm.int (bS:Nat)(z:Int):fm bS (z:Rat):=⟨z*bS,by rw[oz,oA]⟩
theorem fm.zero (bS:Nat):fm bS 0:=⟨0,by rw[w0];rfl⟩
theorem fm.more {bS:Nat}{x:Rat}(h:fm bS x)(N:Nat):fm (bS*N) x:=by
 obtain⟨a,aM⟩:=h;exact⟨a*N,by rw[oz,<-aM,LI,oA];grind⟩
theorem fm.of_dvd {bS N:Nat}{x:Rat}(h:fm bS x)(ae:∃m,N=bS*m):fm N x:=by
 obtain⟨m,rfl⟩:=ae;exact h.more m
theorem fm.cy {bS:Nat}{l:List dL}{a1:dL->Rat}(h:∀c∈l,fm bS (a1 c)):fm bS (cy l a1):=by
 induction l with
 |nil=>exact fm.zero bS
 |cons c l aA=>exact (h c gP).add (aA λx I=>h x (ha _ I))
theorem fm.cg {bS n:Nat}{a1:Nat->Rat}(h:∀k,k<n->fm bS (a1 k)):fm bS (cg n a1):=by
 induction n with
 |zero=>exact fm.zero bS
 |succ n aA=>exact (aA λk R=>h k (by omega)).add (h n (by omega))
theorem fm.sz {bS a e:Nat}{x:Rat}(h:fm bS x)(wE:0<bS)(acg:bS<=2^a)(au:0<=x)(I:x<=((2^e:Nat):Rat)):eB (a+e) x:=by
 obtain⟨z,a8⟩:=h;have oR:(0:Rat)<=(z:Rat):=by rw[<-a8];exact SH au (by exact_mod_cast fY bS)
 have an5:(z:Rat)<=((2^e*bS:Nat):Rat):=by
  rw[<-a8,LI];exact Rat.mul_le_mul_of_nonneg_right I (by exact_mod_cast fY bS)
 have my:0<=z:=by exact_mod_cast oR
 have dp:z<=((2^e*bS:Nat):Int):=by exact_mod_cast an5
 obtain⟨f1,f2⟩:=DO (q:=x) (v:=z) (d:=(bS:Int)) (by omega) (by rw[oA];exact a8);rw[k3] at f2;have dN:z.natAbs<=2^e*bS:=by omega
 refine⟨eG f1 (eG dN ?_),eG f2 (eG acg (u1 (by omega) (by omega)))⟩;rw[vk,pY (2^a)];exact Nat.mul_le_mul_left _ acg
structure fV (H:List Int) (cs:List av):Prop where
 right:hL H cs=true
 n5:(o H)<=6
 HE:(o cs)<=12
 am:∀c∈cs,c.2.2.2<=1000000000000000
theorem fV.ok {H:List Int}{cs:List av}(h:fV H cs):(cf H cs).dx:=ann h.right
theorem fV.sum {H:List Int}{cs:List av}(h:fV H cs)(p:av->Prop)[DecidablePred p]:0<=dA cs (λc=>if p c then c.2.2.2 else 0)/\dA cs (λc=>if p c then c.2.2.2 else 0)<=12000000000000000:=by
 have:=LC (cs:=cs) (a1:=λc=>if p c then c.2.2.2 else 0) (B:=1000000000000000) (by omega) λc E=>by
  have D:=h.am c E;have G:=((m3.1 h.right).2.2.2 c E).2.2.2.2.2.2.1
  try dsimp only
  split<;>omega
 have mn:=h.HE;omega
theorem fV.upto {H:List Int}{cs:List av}(h:fV H cs)(i r:Int):0<=dP cs i r/\dP cs i r<=12000000000000000:=h.sum λc=>c.1=i/\c.2.2.1<r
theorem an6 {H:List Int}{cs:List av}(h:hL H cs=true)(i:Int){r s:Int}(NQ:r<=s):dP cs i r<=dP cs i s:=by
 have aR:=(m3.1 h).2.2.2
 have:∀l:List av,(∀c∈l,0<=c.2.2.2)->dA l (λc=>if c.1=i/\c.2.2.1<r then c.2.2.2 else 0)<=dA l (λc=>if c.1=i/\c.2.2.1<s then c.2.2.2 else 0):=by
  intro l
  induction l with
  |nil=>intro _;exact ach _
  |cons c l aA =>
   intro ax;have D:=aA λx I=>ax x (ha _ I);have G:=ax c gP;simp only[dA]
   split<;>split<;>omega
 exact this cs λc E=>(aR c E).2.2.2.2.2.2.1
def l6 (cs:List av)(k r:Nat):Nat:=(dP cs k (r+1:Nat)-dP cs k r).toNat
theorem LL {H:List Int}{cs:List av}(h:hL H cs=true)(k r:Nat):((l6 cs k r:Nat):Rat)=(cf H cs).S k r:=by
 have D:=abD h k r;have G:=an6 h k (r:=r) (s:=(r+1:Nat)) (by omega);rw[<-D,<-oA];unfold l6;rw[Int.toNat_of_nonneg (by omega)]
theorem fV.aci {H:List Int}{cs:List av}(h:fV H cs)(k r:Nat):l6 cs k r<=2^54:=by
 have D:=h.upto k (r+1:Nat);have G:=h.upto k r;unfold l6;omega
def qn (cs:List av)(f:Nat->Nat)(k i:Nat):Int:=dA cs λc=>if c.2.1=(i:Int)/\c.1=(k:Int)/\c.2.2.1=(f k:Int) then c.2.2.2 else 0
theorem an7 {H:List Int}{cs:List av}(h:hL H cs=true)(f:Nat->Nat){k:Nat}(i:Nat)(di:0<(cf H cs).S k (f k)):(cf H cs).W f k i*(cf H cs).S k (f k)=((qn cs f k i:Int):Rat):=by
 unfold Day.W qn
 rw[LB cs _ (λc=>if c.to=(i:Int)/\c.aC=k/\c.bH=f k then c.am else 0) λc E=>by
  have:=(m3.1 h).2.2.2 c E;show ((if c.2.1=(i:Int)/\c.1=(k:Int)/\c.2.2.1=(f k:Int) then c.2.2.2 else 0:Int):Rat)=if c.2.1=(i:Int)/\c.1.toNat=k/\c.2.2.1.toNat=f k then (c.2.2.2:Rat) else 0
  by_cases D:c.2.1=(i:Int)/\c.1=(k:Int)/\c.2.2.1=(f k:Int)
  ·rw[aj D,aj (by omega)]
  ·rw[aq D,aq (by omega)];rfl]
 rw[vl,<-Lr];refine wY λc _=>?_
 split
 ·rename_i D;rw[vl];have aw:=D.2.1;have aB:=D.2.2;subst aw;rw[<-aB] at di ⊢;exact Day.Lu di
 ·rw[m2]
theorem an8 {H:List Int}{cs:List av}(h:hL H cs=true)(f:Nat->Nat)(i:Nat):((yI H cs f i:Int):Rat)=(cf H cs).st f i:=by
 unfold yI Day.st;rw[tV]
 congr 1
 refine LB cs _ (λc=>if c.to=(i:Int)/\c.bH<f c.aC then c.am else 0) λc E=>?_;have:=(m3.1 h).2.2.2 c E;show ((if c.2.1=(i:Int)/\c.2.2.1<(f c.1.toNat:Int) then c.2.2.2 else 0:Int):Rat)=if c.2.1=(i:Int)/\c.2.2.1.toNat<f c.1.toNat then (c.2.2.2:Rat) else 0
 by_cases D:c.2.1=(i:Int)/\c.2.2.1<(f c.1.toNat:Int)
 ·rw[aj D,aj (by omega)]
 ·rw[aq D,aq (by omega)];rfl
theorem fV.H {H:List Int}{cs:List av}(h:fV H cs)(i:Nat):0<=H.getD i 0/\H.getD i 0<=1000000000000000:=by
 rw[fP]
 cases Q:H[i]? with
 |none=>simp
 |some x=>exact (m3.1 h.right).2.2.1 x (eN Q)
theorem fV.steady {H:List Int}{cs:List av}(h:fV H cs)(f:Nat->Nat)(i:Nat):0<=yI H cs f i/\yI H cs f i<=13000000000000000:=by
 have D:=h.H i;have G:=h.sum λc=>c.2.1=(i:Int)/\c.2.2.1<(f c.1.toNat:Int);unfold yI;omega
theorem acj (n:Nat)(a b:Nat->Nat):fO n (λi=>a i+b i)=fO n a+fO n b:=by
 induction n with
 |zero=>rfl
 |succ n aA=>simp only[fO,aA];omega
theorem Ti {n:Nat}{a:Nat->Nat}(h:∀i,i<n->a i=0):fO n a=0:=by
 induction n with
 |zero=>rfl
 |succ n aA=>rw[fO,aA λi Q=>h i (by omega),h n (by omega)]
theorem an9 {n b e:Nat}{cB:Nat->Nat}(h:∀k,k<n->cB k<=2^b)(he:n*b<=e):h8 n cB<=2^e:=eG (abJ h) (u1 (by omega) he)
theorem Tj {n x:Nat}{p:Nat->Prop}[DecidablePred p](h:∀i j,p i->p j->i=j):fO n (λi=>if p i then x else 0)<=x:=by
 induction n with
 |zero=>exact fY _
 |succ n aA =>
  rw[fO]
  by_cases aG:p n
  ·rw[aj aG,Ti λi Q=>aq λD=>by have:=h i n D aG;omega]
   omega
  ·rw[aq aG];omega
theorem ack {cs:List av}{a1:av->Int}(h:∀c∈cs,0<=a1 c):0<=dA cs a1:=by
 induction cs with
 |nil=>exact ach _
 |cons c l aA =>
  have D:=aA λx I=>h x (ha _ I);have G:=h c gP;simp only[dA];omega
theorem acm {cs:List av}(h:∀c∈cs,0<=c.2.2.2)(f:Nat->Nat)(k i:Nat):0<=qn cs f k i:=ack λc E=>by
 have:=h c E
 split<;>omega
theorem aoa {cs:List av}(h:∀c∈cs,0<=c.2.2.2)(k r:Nat):l6 cs k r=(dA cs λc=>if c.1=(k:Int)/\c.2.2.1=(r:Int) then c.2.2.2 else 0).toNat:=by
 unfold l6 dP
 congr 1
 induction cs with
 |nil=>rfl
 |cons c l aA =>
  have D:=aA λx I=>h x (ha _ I);simp only[dA]
  have e:(if c.1=(k:Int)/\c.2.2.1<((r+1:Nat):Int) then c.2.2.2 else 0)-(if c.1=(k:Int)/\c.2.2.1<(r:Int) then c.2.2.2 else 0)=if c.1=(k:Int)/\c.2.2.1=(r:Int) then c.2.2.2 else 0:=by
   (repeat' split)<;>omega
  omega
theorem aob {cs:List av}(h:∀c∈cs,0<=c.2.2.2)(f:Nat->Nat)(k N:Nat):fO N (λi=>(qn cs f k i).toNat)<=l6 cs k (f k):=by
 rw[aoa h]
 induction cs with
 |nil=>exact eG (w6 (Ti λi _=>rfl)) (fY _)
 |cons c l aA =>
  have ax:=λx I=>h x (ha c I);have D:=aA ax;have G:=h c gP
  have e:fO N (λi=>(qn (c::l) f k i).toNat)=fO N (λi=>if c.2.1=(i:Int)/\c.1=(k:Int)/\c.2.2.1=(f k:Int) then c.2.2.2.toNat else 0)+fO N λi=>(qn l f k i).toNat:=by
   rw[<-acj];refine S0 λi _=>?_;have:=acm ax f k i;have aw:qn (c::l) f k i=(if c.2.1=(i:Int)/\c.1=(k:Int)/\c.2.2.1=(f k:Int) then c.2.2.2 else 0)+qn l f k i:=rfl;rw[aw]
   split<;>omega
  have aR:0<=dA l λc=>if c.1=(k:Int)/\c.2.2.1=(f k:Int) then c.2.2.2 else 0:=ack λc E=>by
   have:=ax c E
   split<;>omega
  have ag:fO N (λi=>if c.2.1=(i:Int)/\c.1=(k:Int)/\c.2.2.1=(f k:Int) then c.2.2.2.toNat else 0)<=if c.1=(k:Int)/\c.2.2.1=(f k:Int) then c.2.2.2.toNat else 0:=by
   by_cases E:c.1=(k:Int)/\c.2.2.1=(f k:Int)
   ·rw[aj E];exact Tj λi j Q ay=>by omega
   ·rw[aq E,Ti λi _=>aq λh=>E h.2];exact cA _
  simp only[dA];rw[e]
  split at ag<;>rename_i E
  ·rw[aj E];omega
  ·rw[aq E];omega
section
variable {H:List Int} {cs:List av} (aa:fV H cs) {f:Nat->Nat} {P:Nat->Prop} (di:∀k,P k->0<(cf H cs).S k (f k))
include aa di
theorem aoc {k:Nat}(R:P k):0<l6 cs k (f k):=by
 have D:=di k R;rw[<-LL aa.right] at D;exact_mod_cast D
theorem aod {k:Nat}(R:P k)(i:Nat):((l6 cs k (f k):Nat):Rat)*(cf H cs).W f k i=((qn cs f k i:Int):Rat):=by
 rw[LL aa.right,vl];exact an7 aa.right f i (di k R)
theorem aoe {k:Nat}(R:P k)(i:Nat)(p:Prop)[Decidable p]:ek ((if p then l6 cs k (f k) else 0)+(qn cs f k i).toNat) (((l6 cs k (f k):Nat):Rat)*((if p then 1 else 0)-(cf H cs).W f k i)):=by
 have e:((l6 cs k (f k):Nat):Rat)*((if p then 1 else 0)-(cf H cs).W f k i)=((if p then l6 cs k (f k) else 0:Nat):Rat)-((qn cs f k i:Int):Rat):=by
  rw[<-aod aa di R i]
  split<;>grind
 have G:=acm (λc E=>((m3.1 aa.right).2.2.2 c E).2.2.2.2.2.2.1) f k i;rw[e];exact (ek.nat (cA _)).sub (ek.of (by omega))
omit di in
theorem aof {N:Nat}{k:Nat}(τ:Nat->Nat)(t:Nat)(hτ:∀i,i<N->τ i<o H)(ay:∀i j,i<N->j<N->τ i=τ j->i=j):fO N (λi=>(if i=t then l6 cs k (f k) else 0)+(qn cs f k (τ i)).toNat)<=2*l6 cs k (f k):=by
 rw[acj];have D:fO N (λi=>if i=t then l6 cs k (f k) else 0)<=l6 cs k (f k):=Tj λi j Q ay=>by omega
 have G:=S1 (λi=>(qn cs f k i).toNat) hτ ay;have ag:=aob (λc E=>((m3.1 aa.right).2.2.2 c E).2.2.2.2.2.2.1) f k (o H);omega
omit di in
theorem aog (i:Nat):(yI H cs f i-dP cs (i:Nat) (f i)).natAbs<=2^54/\(yI H cs f i).natAbs<=2^54:=by
 have D:=aa.steady f i;have G:=aa.upto (i:Nat) (f i);omega
theorem aoh:tX (o H) ((cf H cs).w7 f P) (o H*54) 54:=by
 have uV:(cf H cs).n=o H:=rfl;refine⟨λk=>if P k then l6 cs k (f k) else 1,λk=>if P k then dP cs k (f k) else 0,λi=>yI H cs f i-if P i then dP cs i (f i) else 0,abJ λk _=>?_,λk=>?_,λk R=>?_,λk _=>?_,λi Q=>⟨?_,?_⟩⟩
 ·try dsimp only
  split
  ·exact aa.aci k _
  ·decide
 ·try dsimp only
  split
  ·exact aoc aa di (by assumption)
  ·omega
 ·by_cases hk:P k
  ·refine⟨λi=>(if i=k then l6 cs k (f k) else 0)+(qn cs f k i).toNat,by dsimp only;rw[aj hk];exact aof aa (λi=>i) k (λi Q=>Q) λi j _ _ h=>h,λi Q=>?_⟩
   unfold Day.w7;dsimp only;rw[aj hk,aj (show k<(cf H cs).n from R),aj hk];exact aoe aa di hk i _
  ·refine⟨λi=>if i=k then 1 else 0,by dsimp only;rw[aq hk];exact eG (Tj λi j Q ay=>by omega) (by omega),λi Q=>?_⟩
   unfold Day.w7;dsimp only;rw[aq hk,aj (show k<(cf H cs).n from R),aq hk];have:(((1:Nat):Rat)*((if i=k then 1 else 0)-0))=((if i=k then 1 else 0:Nat):Rat):=by split<;>simp<;>grind
   rw[this];exact ek.nat (cA _)
 ·try dsimp only
  split
  ·have:=aa.upto (k:Nat) (f k);omega
  ·decide
 ·have:=aog aa (f:=f) i;dsimp only
  split
  ·exact this.1
  ·rw[wB];exact this.2
 ·unfold Day.w7;rw[aq (by rw[uV];omega),uV]
  have aw:(λk=>(if k<(o H) then (if i=k then 1 else 0)-(if P k then (cf H cs).W f k i else 0) else (cf H cs).st f i-cg (o H) λk=>if P k then (cf H cs).W f k i*(cf H cs).cH k (f k) else 0)*((if P k then dP cs k (f k) else 0:Int):Rat))=λk=>(if k<(o H) then (if i=k then ((if P k then dP cs k (f k) else 0:Int):Rat) else 0)-(if P k then (cf H cs).W f k i*(cf H cs).cH k (f k) else 0) else ((cf H cs).st f i-cg (o H) λk=>if P k then (cf H cs).W f k i*(cf H cs).cH k (f k) else 0)*((if P k then dP cs k (f k) else 0:Int):Rat)):=by
   funext k
   by_cases D:k<o H
   ·rw[aj D,aj D]
    by_cases G:P k
    ·rw[aj G,aj G,aj G,<-yH aa.right k (f k)]
     split<;>grind
    ·rw[aq G,aq G,aq G]
     split<;>simp<;>grind
   ·rw[aq D,aq D]
  rw[aw];rw[j0 (g:=λk=>(if i=k then ((if P k then dP cs k (f k) else 0:Int):Rat) else 0)-(if P k then (cf H cs).W f k i*(cf H cs).cH k (f k) else 0)) λk R=>aj R];rw[Hp,yD Q λk _ R=>aq (Ne.symm R),aj rfl,Hv,an8 aa.right];grind
end
end Go.Mini
namespace Go.Mini
open Go Classical
theorem oB {b:Nat}{q:Rat}(h:eB b q)(ah:b<1200):dD q:=by
 obtain⟨B,kV,gl⟩:=abS;have:2^b<c9:=by rw[gl];exact abT (by omega) (by omega)
 exact⟨q0 h.1 this,q0 h.2 this⟩
theorem A9 {x:Rat}(h:dD x):cU (ai x)=true:=(wN _).2 ⟨x,h,rfl⟩
theorem acn {N:Nat}{a b y:Nat->Rat}(h:∀k,k<=N->a k=b k):k9 N a y=k9 N b y:=j0 λk R=>by rw[h k (by omega)]
theorem ko.congr {N:Nat}{A B:fI}(h:∀i,i<N->∀k,k<=N->A i k=B i k)(y:Nat->Rat):ko N A y↔ko N B y:=by
 unfold ko
 constructor
 ·intro jd i Q;rw[<-acn (h i Q)];exact jd i Q
 ·intro jd i Q;rw[acn (h i Q)];exact jd i Q
theorem tX.congr {N δ v:Nat}{A B:fI}(h:∀i,i<N->∀k,k<=N->A i k=B i k)(aa:tX N A δ v):tX N B δ v:=by
 obtain⟨cB,u,w,c6,dv,a3,a4,a5⟩:=aa;refine⟨cB,u,w,c6,dv,λk R=>?_,a4,λi Q=>⟨(a5 i Q).1,?_⟩⟩
 ·obtain⟨b,c5,eg⟩:=a3 k R;exact⟨b,c5,λi Q=>by rw[<-h i Q k (by omega)];exact eg i Q⟩
 ·rw[<-h i Q N (cA _),(a5 i Q).2,j0 λk R=>by rw[h i Q k (by omega)]]
theorem tX.sz {N δ v:Nat}{A:fI}(aa:tX N A δ v)(pg:N<=7){i k:Nat}(Q:i<N)(R:k<=N):eB (N+δ+v+4) (A i k):=(aa.anT pg A 0 (fY _) (ld.start N A) i k Q (fY _) R).1
structure w8 (d:Day) (f:Nat->Nat) (P:Nat->Prop):Prop where
 ok:d.dx
 ex:∃g,Inv d f g/\hz d f g P (d.kL f P)
theorem w8.good {d:Day}{f:Nat->Nat}{P:Nat->Prop}(h:w8 d f P):Good d f P:=by
 obtain⟨D,g,G,ag⟩:=h;exact ag.good D G
theorem w8.yF {d:Day}{f:Nat->Nat}{P:Nat->Prop}(h:w8 d f P):∀k,P k->0<d.S k (f k):=by
 obtain⟨D,g,G,ag⟩:=h;exact λk R=>G.yF (ag.kK k R).1 (ag.kK k R).2
theorem hz.aco {d:Day}(ae:d.dx){f:Nat->Nat}{g:Nat->Rat}{P:Nat->Prop}{h:Nat->Rat}(Q:Inv d f g)(aG:hz d f g P h){c:dL}(E:c∈d.dM):0<=d.l f P h c/\d.l f P h c<=c.am:=by
 have au:=ae.am c E
 by_cases D:c.bH<f c.aC
 ·rw[Day.abm D];exact⟨au,gX⟩
 ·by_cases G:c.bH=f c.aC/\P c.aC
  ·rw[Day.abn G.1 G.2];have aw:=aG.ge _ G.2;have aB:=aG.le _ (ae.aC c E);have cI:=Q.Q _ (ae.aC c E) (aG.kK _ G.2).2;rw[d.vi] at cI;rw[G.1];exact⟨sF (ae.qi E) (by grind),ae.Lz E (by rw[G.1];grind)⟩
  ·rw[Day.SK D G];exact⟨gX,au⟩
theorem w8.range {d:Day}{f:Nat->Nat}{P:Nat->Prop}(h:w8 d f P){i:Nat}(Q:i<d.n):0<=d.kL f P i/\d.kL f P i<=d.eJ (λc=>c.am) i:=by
 obtain⟨D,g,G,ag⟩:=h;rw[ag.sys i Q];exact⟨D.SO (λc E=>(ag.aco D G E).1) Q,d.A5 (λc E=>(ag.aco D G E).2) i⟩
theorem aoi {H:List Int}{cs:List av}(aa:fV H cs)(i:Nat):(cf H cs).eJ (λc=>c.am) i<=((2^54:Nat):Rat):=by
 have e:(cf H cs).eJ (λc=>c.am) i=((H.getD i 0+dA cs (λc=>if c.2.1=(i:Int) then c.2.2.2 else 0):Int):Rat):=by
  unfold Day.eJ;rw[tV]
  congr 1
  refine (LB cs _ (λc=>if c.to=(i:Int) then c.am else 0) λc E=>?_).symm;show ((if c.2.1=(i:Int) then c.2.2.2 else 0:Int):Rat)=if c.2.1=(i:Int) then (c.2.2.2:Rat) else 0
  split<;>rfl
 rw[e];have D:=aa.H i;have G:=aa.sum λc=>c.2.1=(i:Int)
 have:H.getD i 0+dA cs (λc=>if c.2.1=(i:Int) then c.2.2.2 else 0)<=((2^54:Nat):Int):=by omega
 rw[<-oA];exact_mod_cast this
section
variable {H:List Int} {cs:List av} (aa:fV H cs) {f:Nat->Nat} {P:Nat->Prop} (aG:w8 (cf H cs) f P)
include aa aG
theorem acp {i:Nat}(Q:i<o H):0<=(cf H cs).kL f P i/\(cf H cs).kL f P i<=((2^54:Nat):Rat):=by
 have h:=aG.range (d:=cf H cs) Q;exact⟨h.1,tT h.2 (aoi aa i)⟩
theorem acq:∃bS:Nat,0<bS/\(∃a,a<=330/\bS<=2^a)/\∀i,i<(o H)->fm bS ((cf H cs).kL f P i):=by
 obtain⟨bS,D,G,ag⟩:=anZ (N:=o H) aG.good.ace (aoh aa aG.yF) ((acd aG.ok f P _).2 aG.good.kL);have aL:=aa.n5;exact⟨bS,D,⟨_,by omega,G⟩,ag⟩
theorem aoj {i:Nat}(Q:i<o H):eB 428 ((cf H cs).kL f P i):=by
 obtain⟨bS,D,⟨a,au,G⟩,ag⟩:=acq aa aG;have aR:=acp aa aG Q;exact ((ag i Q).sz D G aR.1 aR.2).mono (by omega)
end
end Go.Mini
namespace Go.Mini
open Go
def Tk:bP:=b5 108 2 [.t 4,.t 5] (M [cN 2 279002 0,fa 4,bq 5 0] (.seq (M [ba 16 4 2,(dg 17 kZ 16),dY 18 17,F 19 18,⟨some 20,some (19,false),.ck (.t 1)⟩,⟨some 21,some (19,false),.call Gb [(.t 20)]⟩,⟨some 22,some (19,false),.un .not (.t 21)⟩,cX 23 19 22] (aX 23 (M [fa 4,bq 5 1] .ret) .skip)) (.seq (M [bg 24 0 2,bg 25 0 24,a2 26 1 25,bo 27 .lss 26 0] (aX 27 (M [fa 4,bq 5 1] .ret) .skip)) (M [F 28 1,cx 29 28,(aE 30 (.mb 279030 [(ao 0),.nil,(ao 0),.nil] 64 (.t 29) (.t 29))),F 6 30] (.seq (M [bq 7 0] (.block 0 (.loop  (.seq (M [F 31 7,F 32 1,cx 33 32,bJ 34 .lss 31 33] (aX 34 .skip (.exit 0))) (.seq (.block 1 (M [F 38 1,F 39 1,F 40 7,cC 41 4 39 40,bg 42 2 41,a2 43 1 42,(b0 44 OH 38 43),F 37 44,bx 45 0 37,bx 46 1 37,F 8 45,F 9 46] (eS [ba 48 4 2,F 49 8,(aE 50 (.call uQ [(.t 49),(.c (ao 1))])),(b0 51 Ot 48 50),F 47 51,bx 52 0 47,bx 53 1 47,(aE 10 (.alloc 279010 [(ao 0),.nil,(ao 0),.nil])),bu 4 10 52,F 11 53] [[],[],[],[],[],[],[],[0],[],[]] (.seq (M [F 54 11,bo 55 .neq 54 0] (aX 55 (M [F 56 11,fa 4,F 5 56] .ret) .skip)) (.seq (M [bg 57 0 10,bg 58 0 57,a2 59 1 58,bo 60 .leq 59 0] (aX 60 (M [F 61 6,F 62 7,(aE 63 (.call uQ [(.c (ao 0)),(.c (ao 1))])),cC 64 4 61 62,bu 4 64 63] (.exit 1)) .skip)) (.seq (eS [ba 65 4 10,F 66 9,(aE 67 (.call uQ [(.t 66),(.c (ao 1))])),(b0 68 Ga 65 67),bo 69 .geq 68 0] YQ (aX 69 (M [F 70 6,F 71 7,F 72 1,F 73 7,cC 74 4 72 73,bg 75 3 74,a2 76 1 75,(aE 77 (.call uQ [(.t 76),(.c (ao 1))])),cC 78 4 70 71,bu 4 78 77] (.exit 1)) .skip)) (eS [F 80 1,F 81 7,cC 82 4 80 81,bg 83 3 82,a2 84 1 83,(aE 85 (.call uQ [(.t 84),(.c (ao 1))])),ba 86 4 10,(b0 87 Ou 85 86),F 79 87,bx 88 0 79,bx 89 1 79,(aE 12 (.alloc 279012 [(ao 0),.nil,(ao 0),.nil])),bu 4 12 88,F 13 89] [[],[],[],[],[],[],[],[],[],[],[],[4,6],[],[]] (.seq (M [F 90 13,bo 91 .neq 90 0] (aX 91 (M [F 92 13,fa 4,F 5 92] .ret) .skip)) (eS [ba 94 4 12,F 95 9,(aE 96 (.call uQ [(.t 95),(.c (ao 1))])),(b0 97 Ox 94 96),F 93 97,bx 98 0 93,bx 99 1 93,(aE 14 (.alloc 279014 [(ao 0),.nil,(ao 0),.nil])),bu 4 14 98,F 15 99] [[],[],[],[],[],[],[],[0],[],[]] (.seq (M [F 100 15,bo 101 .neq 100 0] (aX 101 (M [F 102 15,fa 4,F 5 102] .ret) .skip)) (.ops [F 103 6,F 104 7,ba 105 4 14,cC 106 4 103 104,bu 4 106 105]))))))))))) (.ops [F 35 7,bo 36 .add 35 1,F 7 36])))))) (.seq (.ghost (.freeze 6) (.ops [F 107 6,F 4 107,bq 5 0])) .ret))))))
def Tl:bP:=b5 63 1 [.t 2] (M [cj 2 false] (.seq (M [F 5 0,cx 6 5,bo 7 .gtr 6 2000] (aX 7 (M [cj 2 false] .ret) .skip)) (.seq (M [bq 3 0] (.block 0 (.loop  (.seq (M [F 8 3,F 9 0,cx 10 9,bJ 11 .lss 8 10] (aX 11 .skip (.exit 0))) (.seq (.block 1 (M [F 14 0,F 15 3,cC 16 4 14 15,ba 17 4 16,(aE 4 (.alloc 282004 [(ao 0),(ao 0),(ao 0),(ao 0)])),bu 4 4 17] (.seq (M [bg 18 0 4,a2 19 1 18,bo 20 .lss 19 0,F 21 20,⟨some 22,some (21,false),.c3 0 (.t 4)⟩,⟨some 23,some (21,false),.load 1 false (.t 22)⟩,⟨some 24,some (21,false),.bin .geq (.t 23) (.c (ao 60))⟩,cX 25 21 24,F 26 25,⟨some 27,some (26,false),.c3 1 (.t 4)⟩,⟨some 28,some (26,false),.load 1 false (.t 27)⟩,⟨some 29,some (26,false),.bin .lss (.t 28) (.c (.J (.int .i64 (-1))))⟩,cX 30 26 29,F 31 30,⟨some 32,some (31,false),.c3 1 (.t 4)⟩,⟨some 33,some (31,false),.load 1 false (.t 32)⟩,⟨some 34,some (31,false),.bin .geq (.t 33) (.c (ao 60))⟩,cX 35 31 34,F 36 35,⟨some 37,some (36,false),.c3 2 (.t 4)⟩,⟨some 38,some (36,false),.load 1 false (.t 37)⟩,⟨some 39,some (36,false),.bin .lss (.t 38) (.c (ao 0))⟩,cX 40 36 39,F 41 40,⟨some 42,some (41,false),.c3 2 (.t 4)⟩,⟨some 43,some (41,false),.load 1 false (.t 42)⟩,⟨some 44,some (41,false),.bin .geq (.t 43) (.c (ao 10))⟩,cX 45 41 44,F 46 45,⟨some 47,some (46,false),.c3 3 (.t 4)⟩,⟨some 48,some (46,false),.load 1 false (.t 47)⟩,⟨some 49,some (46,false),.bin .lss (.t 48) (.c (ao 0))⟩,cX 50 46 49,F 51 50,⟨some 52,some (51,false),.c3 3 (.t 4)⟩,⟨some 53,some (51,false),.load 1 false (.t 52)⟩,⟨some 54,some (51,false),.bin .gtr (.t 53) (.c (ao 1000000000000000))⟩,cX 55 51 54] (aX 55 (M [cj 2 false] .ret) .skip)) (eS [bg 56 0 4,a2 57 1 56,F 58 0,(aE 59 (.jO 4 (.t 58) (.c (ao 0)))),bg 60 0 59,a2 61 1 60,bJ 62 .neq 57 61] YS (aX 62 (M [cj 2 false] .ret) .skip))))) (.ops [F 12 3,bo 13 .add 12 1,F 3 13])))))) (M [cj 2 true] .ret))))
def Tm:bP:=b5 45 2 [.t 4,.t 5] (M [bq 4 0,bq 5 0] (M [bq 6 0] (M [bq 7 0] (.seq (M [bq 8 0] (.block 0 (.loop  (.seq (M [F 9 8,F 10 0,cx 11 10,bJ 12 .lss 9 11] (aX 12 .skip (.exit 0))) (.seq (.block 1 (.seq (M [F 15 0,F 16 8,cC 17 4 15 16,bg 18 2 17,a2 19 1 18,F 20 1,bJ 21 .lss 19 20] (aX 21 (.ops [F 22 6,F 23 0,F 24 8,cC 25 4 23 24,bg 26 3 25,a2 27 1 26,bJ 28 .add 22 27,F 6 28]) .skip)) (M [F 29 0,F 30 8,cC 31 4 29 30,bg 32 2 31,a2 33 1 32,F 34 1,bJ 35 .eql 33 34] (aX 35 (.ops [F 36 7,F 37 0,F 38 8,cC 39 4 37 38,bg 40 3 39,a2 41 1 40,bJ 42 .add 36 41,F 7 42]) .skip)))) (.ops [F 13 8,bo 14 .add 13 1,F 8 14])))))) (M [F 43 6,F 44 7,F 4 43,F 5 44] .ret)))))
def Tn:bP:=b5 14 2 [.cell 4 4 true] (M [(aE 4 (.alloc 284004 [(ao 0),.nil,(ao 0),.nil]))] (M [F 8 0,F 9 1,(b0 10 xT 8 9),F 7 10,bx 11 0 7,bx 12 1 7,(aE 5 (.alloc 284005 [(ao 0),.nil,(ao 0),.nil])),bu 4 5 11,F 6 12] (M [ba 13 4 5,bu 4 4 13] .ret)))
def To:bP:=b5 27 2 [.t 4] (M [cj 4 false] (.seq (M [F 6 0,cx 7 6,F 8 1,cx 9 8,bJ 10 .neq 7 9] (aX 10 (M [cj 4 false] .ret) .skip)) (.seq (M [bq 5 0] (.block 0 (.loop  (.seq (M [F 11 5,F 12 0,cx 13 12,bJ 14 .lss 11 13] (aX 14 .skip (.exit 0))) (.seq (.block 1 (eS [F 17 0,F 18 5,cC 19 4 17 18,ba 20 4 19,F 21 1,F 22 5,cC 23 4 21 22,ba 24 4 23,(b0 25 FW 20 24),dY 26 25] JY (aX 26 (M [cj 4 false] .ret) .skip))) (.ops [F 15 5,bo 16 .add 15 1,F 5 16])))))) (M [cj 4 true] .ret))))
def Tp:bP:=b5 63 2 [.t 4,.t 5] (M [bq 4 0,cj 5 false] (.seq (M [F 9 0,(dg 10 Gb 9),dY 11 10,F 12 11,⟨some 13,some (12,false),.ck (.t 1)⟩,⟨some 14,some (12,false),.len (.t 13)⟩,⟨some 15,some (12,false),.ck (.t 0)⟩,⟨some 16,some (12,false),.len (.t 15)⟩,⟨some 17,some (12,false),.bin .neq (.t 14) (.t 16)⟩,cX 18 12 17] (aX 18 (M [bq 4 0,cj 5 false] .ret) .skip)) (.seq (M [bq 6 0] (.block 0 (.loop  (.seq (M [F 19 6,F 20 1,cx 21 20,bJ 22 .lss 19 21] (aX 22 .skip (.exit 0))) (.seq (.block 1 (M [F 25 1,F 26 6,cC 27 4 25 26,ba 28 4 27,(dg 29 kZ 28),dY 30 29] (aX 30 (M [bq 4 0,cj 5 false] .ret) .skip))) (.ops [F 23 6,bo 24 .add 23 1,F 6 24])))))) (.seq (M [bq 7 0] (.block 2 (.loop  (.seq (M [F 31 7,bo 32 .lss 31 10] (aX 32 .skip (.exit 2))) (.seq (.block 3 (M [bq 8 0] (.block 4 (.loop  (.seq (M [F 35 8,F 36 0,cx 37 36,bJ 38 .lss 35 37] (aX 38 .skip (.exit 4))) (.seq (.block 5 (eS [F 41 0,F 42 8,cC 43 4 41 42,bg 44 2 43,a2 45 1 44,F 46 7,bJ 47 .eql 45 46,F 48 47,⟨some 49,some (48,true),.ck (.t 1)⟩,⟨some 50,some (48,true),.ck (.t 8)⟩,⟨some 51,some (48,true),.jO 4 (.t 49) (.t 50)⟩,⟨some 52,some (48,true),.load 4 true (.t 51)⟩,⟨some 53,some (48,true),.ck (.t 0)⟩,⟨some 54,some (48,true),.ck (.t 8)⟩,⟨some 55,some (48,true),.jO 4 (.t 53) (.t 54)⟩,⟨some 56,some (48,true),.c3 3 (.t 55)⟩,⟨some 57,some (48,true),.load 1 false (.t 56)⟩,⟨some 58,some (48,true),.call uQ [(.t 57),(.c (ao 1))]⟩,⟨some 59,some (48,true),.call Ga [(.t 52),(.t 58)]⟩,⟨some 60,some (48,true),.bin .lss (.t 59) (.c (ao 0))⟩,gI 61 48 60] ajc (aX 61 (M [F 62 7,F 4 62,cj 5 true] .ret) .skip))) (.ops [F 39 8,bo 40 .add 39 1,F 8 40]))))))) (.ops [F 33 7,bo 34 .add 33 1,F 7 34])))))) (M [bq 4 0,cj 5 false] .ret)))))
def Tq:bP:=b5 49 2 [.t 4,.t 5] (M [bq 4 0,cj 5 false] (.seq (M [F 9 0,(dg 10 F7 9),dY 11 10,F 12 11,⟨some 13,some (12,false),.ck (.t 1)⟩,⟨some 14,some (12,false),.len (.t 13)⟩,⟨some 15,some (12,false),.ck (.t 0)⟩,⟨some 16,some (12,false),.len (.t 15)⟩,⟨some 17,some (12,false),.bin .neq (.t 14) (.t 16)⟩,cX 18 12 17] (aX 18 (M [bq 4 0,cj 5 false] .ret) .skip)) (M [bq 6 10] (.seq (M [F 19 0,cx 20 19,bq 21 0] (.block 0 (.loop  (M [bJ 22 .lss 21 20] (.seq (aX 22 .skip (.exit 0)) (.seq (.block 1 (M [F 23 21,cC 24 4 19 21,ba 25 4 24,(aE 8 (.alloc 225008 [(ao 0),(ao 0),(ao 0),(ao 0)])),F 7 23,bu 4 8 25] (.seq (M [F 26 1,F 27 7,cC 28 4 26 27,ba 29 4 28,(dg 30 kh 29),dY 31 30] (aX 31 (M [bq 4 0,cj 5 false] .ret) .skip)) (eS [F 32 1,F 33 7,cC 34 4 32 33,ba 35 4 34,bg 36 3 8,a2 37 1 36,(dg 38 sb 37),(b0 39 r7 35 38),bo 40 .lss 39 0] wk (aX 40 (.ops [F 41 6,bg 42 2 8,a2 43 1 42,(aE 44 (.jP false (.t 41) (.t 43))),F 6 44]) .skip))))) (.ops [bo 45 .add 21 1,F 21 45]))))))) (.seq (M [F 46 6,bo 47 .eql 46 10] (aX 47 (M [bq 4 0,cj 5 false] .ret) .skip)) (M [F 48 6,F 4 48,cj 5 true] .ret))))))
def Tr:bP:=b5 46 1 [.t 2] (M [cj 2 false] (.seq (M [F 5 0,cx 6 5,bq 7 0] (.block 0 (.loop  (M [bJ 8 .lss 7 6] (.seq (aX 8 .skip (.exit 0)) (.seq (.block 1 (M [cC 9 4 5 7,ba 10 4 9,(aE 4 (.alloc 240004 [(ao 0),(ao 0),(ao 0),(ao 0)])),bu 4 4 10] (eS [bg 11 0 4,a2 12 1 11,(aE 13 (.call Ct [(.t 12),(.c (ao 0)),(.c (ao 59))])),dY 14 13,F 15 14,⟨some 16,some (15,false),.c3 1 (.t 4)⟩,⟨some 17,some (15,false),.load 1 false (.t 16)⟩,⟨some 18,some (15,false),.call Ct [(.t 17),(.c (.J (.int .i64 (-1)))),(.c (ao 59))]⟩,⟨some 19,some (15,false),.un .not (.t 18)⟩,cX 20 15 19,F 21 20,⟨some 22,some (21,false),.c3 2 (.t 4)⟩,⟨some 23,some (21,false),.load 1 false (.t 22)⟩,⟨some 24,some (21,false),.call Ct [(.t 23),(.c (ao 0)),(.c (ao 9))]⟩,⟨some 25,some (21,false),.un .not (.t 24)⟩,cX 26 21 25,F 27 26,⟨some 28,some (27,false),.c3 3 (.t 4)⟩,⟨some 29,some (27,false),.load 1 false (.t 28)⟩,⟨some 30,some (27,false),.call Ct [(.t 29),(.c (ao 0)),(.c (ao 1000000000000000))]⟩,⟨some 31,some (27,false),.un .not (.t 30)⟩,cX 32 27 31,F 33 32,⟨some 34,some (33,false),.c3 0 (.t 4)⟩,⟨some 35,some (33,false),.load 1 false (.t 34)⟩,⟨some 36,some (33,false),.ck (.t 0)⟩,⟨some 37,some (33,false),.jO 4 (.t 36) (.c (ao 0))⟩,⟨some 38,some (33,false),.c3 0 (.t 37)⟩,⟨some 39,some (33,false),.load 1 false (.t 38)⟩,⟨some 40,some (33,false),.bin .neq (.t 35) (.t 39)⟩,cX 41 33 40] [[],[],[],[],[],[],[],[],[],[],[],[],[],[],[],[],[],[],[],[],[],[],[],[],[],[],[],[],[],[],[]] (aX 41 (M [cj 2 false] .ret) .skip)))) (.ops [bo 42 .add 7 1,F 7 42]))))))) (M [F 43 0,cx 44 43,bo 45 .leq 44 2000,F 2 45] .ret)))
def Ts:bP:=b5 11 1 [.cell 2 4 true] (M [(aE 2 (.alloc 241002 [(ao 0),.nil,(ao 0),.nil]))] (M [F 6 0,(aE 7 (.call zW [(.t 6),(.c (ao 1))])),F 5 7,bx 8 0 5,bx 9 1 5,(aE 3 (.alloc 241003 [(ao 0),.nil,(ao 0),.nil])),bu 4 3 8,F 4 9] (M [ba 10 4 3,bu 4 2 10] .ret)))
def Ba:bP:=b5 118 2 [.t 4,.t 5] (M [cN 2 249002 0,fa 4,bq 5 0] (.seq (eS [ba 19 4 2,(dg 20 kh 19),dY 21 20,F 22 21,⟨some 23,some (22,false),.load 4 true (.t 2)⟩,⟨some 24,some (22,false),.call sb [(.c (ao 0))]⟩,⟨some 25,some (22,false),.call r7 [(.t 23),(.t 24)]⟩,⟨some 26,some (22,false),.bin .lss (.t 25) (.c (ao 0))⟩,cX 27 22 26,F 28 27,⟨some 29,some (28,false),.ck (.t 1)⟩,⟨some 30,some (28,false),.call F7 [(.t 29)]⟩,⟨some 31,some (28,false),.un .not (.t 30)⟩,cX 32 28 31] Gk (aX 32 (M [fa 4,bq 5 1] .ret) .skip)) (M [F 33 1,cx 34 33,(aE 35 (.mb 249035 [(ao 0),.nil,(ao 0),.nil] 64 (.t 34) (.t 34))),F 6 35] (M [ba 36 4 2,(aE 7 (.alloc 249007 [(ao 0),.nil,(ao 0),.nil])),bu 4 7 36] (.seq (M [bq 37 0] (.block 0 (.loop  (M [bo 38 .lss 37 10] (.seq (aX 38 .skip (.exit 0)) (.seq (.block 1 (M [F 39 37,F 8 39] (M [bq 9 0] (.seq (M [F 40 1,cx 41 40,bq 42 0] (.block 2 (.loop  (M [bJ 43 .lss 42 41] (.seq (aX 43 .skip (.exit 2)) (.seq (.block 3 (M [cC 44 4 40 42,ba 45 4 44,(aE 11 (.alloc 249011 [(ao 0),(ao 0),(ao 0),(ao 0)])),bu 4 11 45] (M [bg 46 2 11,a2 47 1 46,F 48 8,bJ 49 .eql 47 48] (aX 49 (.ops [F 50 9,bg 51 3 11,a2 52 1 51,bJ 53 .add 50 52,F 9 53]) .skip)))) (.ops [bo 54 .add 42 1,F 42 54]))))))) (eS [ba 55 4 7,F 56 9,(dg 57 sb 56),(b0 58 r7 55 57),bo 59 .geq 58 0,F 12 59] YR (.seq (M [F 60 1,cx 61 60,bq 62 0] (.block 4 (.loop  (M [bJ 63 .lss 62 61] (.seq (aX 63 .skip (.exit 4)) (.seq (.block 5 (M [F 64 62,cC 65 4 60 62,ba 66 4 65,(aE 14 (.alloc 249014 [(ao 0),(ao 0),(ao 0),(ao 0)])),F 13 64,bu 4 14 66] (.seq (M [bg 67 2 14,a2 68 1 67,F 69 8,bJ 70 .neq 68 69] (aX 70 (.exit 5) .skip)) (M [F 71 6,F 72 13,bg 73 3 14,a2 74 1 73,(dg 75 sb 74),cC 76 4 71 72,bu 4 76 75] (.seq (M [F 77 12] (aX 77 (.exit 5) .skip)) (eS [bg 79 3 14,a2 80 1 79,(dg 81 sb 80),ba 82 4 7,(b0 83 JO 81 82),F 78 83,bx 84 0 78,bx 85 1 78,(aE 15 (.alloc 249015 [(ao 0),.nil,(ao 0),.nil])),bu 4 15 84,F 16 85] [[],[],[],[],[],[],[],[],[1,3],[],[]] (.seq (M [F 86 16,bo 87 .eql 86 0] (aX 87 (.pN [F 89 6,F 90 13,ba 91 4 15,F 92 9,(dg 93 sb 92),(b0 94 JR 91 93),F 88 94,bx 95 0 88,bx 96 1 88,cC 97 4 89 90,bu 4 97 95,F 16 96] YU) .skip)) (M [F 98 16,bo 99 .neq 98 0] (aX 99 (M [F 100 16,fa 4,F 5 100] .ret) .skip))))))))) (.ops [bo 101 .add 62 1,F 62 101]))))))) (.seq (M [F 102 12,dY 103 102] (aX 103 (M [(aE 104 (.call sb [(.c (ao 0))])),bu 4 7 104] (.exit 1)) .skip)) (eS [ba 106 4 7,F 107 9,(dg 108 sb 107),(b0 109 Og 106 108),F 105 109,bx 110 0 105,bx 111 1 105,(aE 17 (.alloc 249017 [(ao 0),.nil,(ao 0),.nil])),bu 4 17 110,F 18 111] [[],[],[],[],[],[],[],[0],[],[]] (.seq (M [F 112 18,bo 113 .neq 112 0] (aX 113 (M [F 114 18,fa 4,F 5 114] .ret) .skip)) (.ops [ba 115 4 17,bu 4 7 115])))))))))) (.ops [bo 116 .add 37 1,F 37 116]))))))) (.seq (.ghost (.freeze 6) (.ops [F 117 6,F 4 117,bq 5 0])) .ret))))))
def Tt:bP:=b5 15 3 [.t 6] (M [cj 6 false] (M [F 7 0,F 8 1,bJ 9 .geq 7 8,F 10 9,⟨some 11,some (10,true),.ck (.t 0)⟩,⟨some 12,some (10,true),.ck (.t 2)⟩,⟨some 13,some (10,true),.bin .leq (.t 11) (.t 12)⟩,gI 14 10 13,F 6 14] .ret))


def bR (c:av):List Data:=[.int .i64 c.1,.int .i64 c.2.1,.int .i64 c.2.2.1,.int .i64 c.2.2.2]
theorem HF (c:av):(bR c).length=4:=rfl
theorem acr (c:av):((bR c).map O.J).all O.one=true:=rfl
theorem oC:∀a b:av,bR a=bR b->a=b:=by
 rintro⟨c6,dv,a3,a4⟩ ⟨c5,eg,j2,lf⟩ h;simp only[bR,bn,Data.int.injEq,true_and,and_true] at h;obtain⟨rfl,rfl,rfl,rfl⟩:=h
 rfl
theorem Tu {cs:List av}{i:Nat}{c:av}(h:cs[i]?=some c)(a1:av->Int):dA (cs.take (i+1)) a1=dA (cs.take i) a1+a1 c:=by
 rw[fQ,h,abC];simp[dA]
def yO (cs:List av):Prop:=o cs<=2000/\∀c∈cs,0<=c.2.2.2/\c.2.2.2<=1000000000000000
theorem yO.sum {cs:List av}(h:yO cs)(p:av->Prop)[DecidablePred p](i:Nat):0<=dA (cs.take i) (λc=>if p c then c.2.2.2 else 0)/\dA (cs.take i) (λc=>if p c then c.2.2.2 else 0)<=2000000000000000000:=by
 have D:=LC (cs:=cs.take i) (a1:=λc=>if p c then c.2.2.2 else 0) (B:=1000000000000000) (by omega) λc E=>by
  have:=h.2 c (List.mem_of_mem_take E)
  try dsimp only
  split<;>omega
 have G:=h.1;have ag:(cs.take i).length<=o cs:=by rw[List.length_take];omega
 omega
theorem HG {n:Int}(h:c8 n):fM (bc n) (bc 1)=(ai (n:Rat),0):=by
 rw[yo (u9 h) (by decide +kernel) (by decide),S4,show ((1:Int):Rat)=1 from rfl,show (n:Rat)/1=n by grind]
def Tv:=bU tq λ(n:Int)=>cq (c8 n) (.same (.agg (aH (ai (n:Rat)))))
@[go_sem] theorem aok (n:Int)(E:c8 n):Tv [.int .i64 n]=some (.same (.agg (aH (ai (n:Rat))))):=(b3 wo n).trans (cw E _)
theorem aol (T:br)(lL:T zW=aK C5)(n:Int)(E:c8 n):WP T Q0 (.same (.agg (aH (ai (n:Rat))))) [.J (.int .i64 n)]:=by
 refine b4 ?_;simp only[Q0];have D:c8 1:=by unfold c8;omega
 have h:=HG E;generalize ai (n:Rat)=a1 at *;obtain⟨⟨a,b⟩,⟨c,d⟩⟩:=a1;simp only[go_sem,go_sem_proc,lL,E,D,h,cO,aH];repeat' (first|refine al ?_ ?_|fail)<;>intro h<;>simp only[h,go_sem,go_sem_proc,lL,E,D,h,cO,aH]
def DR:=bU tq λ(n:Int)=>cq (c8 n) (.same (.agg (aH (ai (n:Rat)))))
@[go_sem] theorem aom (n:Int)(E:c8 n):DR [.int .i64 n]=some (.same (.agg (aH (ai (n:Rat))))):=(b3 wo n).trans (cw E _)
theorem aon (T:br)(lL:T zW=aK C5)(n:Int)(E:c8 n):WP T Ts (.same (.agg (aH (ai (n:Rat))))) [.J (.int .i64 n)]:=by
 refine b4 ?_;simp only[Ts];have D:c8 1:=by unfold c8;omega
 have h:=HG E;generalize ai (n:Rat)=a1 at *;obtain⟨⟨a,b⟩,⟨c,d⟩⟩:=a1;simp only[go_sem,go_sem_proc,lL,E,D,h,cO,aH];repeat' (first|refine al ?_ ?_|fail)<;>intro h<;>simp only[h,go_sem,go_sem_proc,lL,E,D,h,cO,aH]
def HH:=bU Ah λ(p,q)=>cq (c8 p/\c8 q) (.same (.agg (aH (fM (bc p) (bc q)).1)))
@[go_sem] theorem aoo (p:Int)(q:Int)(E:c8 p/\c8 q):HH [.int .i64 p,.int .i64 q]=some (.same (.agg (aH (fM (bc p) (bc q)).1))):=(b3 Gr (p,q)).trans (cw E _)
theorem aop (T:br)(h9:T xT=aK Dp)(p:Int)(q:Int)(E:c8 p/\c8 q):WP T Tn (.same (.agg (aH (fM (bc p) (bc q)).1))) [.J (.int .i64 p),.J (.int .i64 q)]:=by
 refine b4 ?_;simp only[Tn];obtain⟨D,G⟩:=E;generalize e3:fM (bc p) (bc q)=a1 at *;obtain⟨⟨⟨a,b⟩,⟨c,d⟩⟩,e⟩:=a1;refine aQ ?_;repeat' (intro h<;>simp only[h,go_sem,go_sem_proc,h9,D,G,e3,cO,aH]<;>try refine al ?_ ?_)
theorem aoq {x:List Data}(h:Fits [.int .i64,.int .i64,.int .i64,.int .i64] x):∃c:av,x=bR c:=by
 simp only[Fit,Fits] at h;obtain⟨_,_,rfl,⟨a,rfl,-⟩,_,_,rfl,⟨b,rfl,-⟩,_,_,rfl,⟨c,rfl,-⟩,_,_,rfl,⟨d,rfl,-⟩,rfl⟩:=h;exact⟨(a,b,c,d),rfl⟩
theorem aor {es:List (List Data)}(h:∀x∈es,Fit (.st [.int .i64,.int .i64,.int .i64,.int .i64]) x):∃l:List av,es=l.map bR:=by
 obtain⟨l,e,-⟩:=FP (e:=bR) (good:=λ_=>True) λx I=>by
  have:=h x I;unfold Fit at this;obtain⟨c,rfl⟩:=aoq this;exact⟨c,rfl,trivial⟩
 exact⟨l,e⟩
end Go.Mini
namespace Go.Mini
open Classical
structure Alike (d e:Day):Prop where
 n:d.n=e.n
 H:d.H=e.H
 mem:∀c,c∈d.dM↔c∈e.dM
 sum:∀a1,cy d.dM a1=cy e.dM a1
theorem Alike.symm {d e:Day}(h:Alike d e):Alike e d:=⟨h.n.symm,h.H.symm,λc=>(h.mem c).symm,λa1=>(h.sum a1).symm⟩
section
variable {d e:Day} (h:Alike d e)
include h
theorem Alike.cH:d.cH=e.cH:=by funext k r;exact h.sum _
theorem Alike.S:d.S=e.S:=by funext k r;exact h.sum _
theorem Alike.w:d.w=e.w:=by funext c;unfold Day.w;rw[h.S]
theorem Alike.q:d.q=e.q:=by funext f x c;unfold Day.q;rw[h.cH,h.w]
theorem Alike.l:d.l=e.l:=by funext f P x c;unfold Day.l;rw[h.cH,h.w]
theorem Alike.iT:d.iT=e.iT:=by funext x c;unfold Day.iT;rw[h.cH,h.w]
theorem Alike.eJ:d.eJ=e.eJ:=by funext a i;unfold Day.eJ;rw[h.H,h.sum]
theorem Alike.qj:d.qj=e.qj:=by funext x i;unfold Day.qj;rw[h.eJ,h.iT]
theorem Alike.gf:d.gf=e.gf:=by funext C x;unfold Day.gf;rw[h.n]
theorem Alike.cap:d.cap=e.cap:=by funext f g C k;unfold Day.cap;rw[h.cH]
theorem Alike.closed (f:Nat->Nat)(C:Nat->Prop):d.closed f C↔e.closed f C:=by
 unfold Day.closed;exact⟨λk c E=>k c ((h.mem c).2 E),λk c E=>k c ((h.mem c).1 E)⟩
theorem Alike.inv {f:Nat->Nat}{g:Nat->Rat}(a:Inv d f g):Inv e f g:=by
 obtain⟨D,G,ag,aR,bs⟩:=a;refine⟨D,λi Q=>?_,λi Q aN=>?_,λi Q aN=>?_,λC hK aos aot=>?_⟩
 ·have:=G i (by rw[h.n];exact Q);rwa [h.eJ,h.q] at this
 ·have:=ag i (by rw[h.n];exact Q) aN;rwa [h.cH] at this
 ·have:=aR i (by rw[h.n];exact Q) aN;rwa [h.cH] at this
 ·have:=bs C hK (λi Q=>by rw[h.n];exact aos i Q) ((h.closed f C).2 aot);rwa [h.gf,h.eJ,h.q,h.cap,h.cH] at this
theorem Alike.ok (a:d.dx):e.dx:=⟨λc E=>by rw[<-h.n];exact a.aC c ((h.mem c).2 E),λc E=>by rw[<-h.n];exact a.to c ((h.mem c).2 E),λc E=>a.bH c ((h.mem c).2 E),λc E=>a.am c ((h.mem c).2 E),λi Q=>by rw[<-h.H];exact a.H i (by rw[h.n];exact Q)⟩
theorem Alike.acs {f:Nat->Nat}{x:Nat->Rat}(a:lJ d f x):lJ e f x:=by
 obtain⟨g,D,G,ag⟩:=a;refine⟨g,h.inv D,λi Q=>?_,λi Q=>ag i (by rw[h.n];exact Q)⟩;have:=G i (by rw[h.n];exact Q);rwa [h.eJ,h.q] at this
theorem Alike.aou:lJ d=lJ e:=by
 funext f x
 exact propext ⟨h.acs,h.symm.acs⟩
theorem Alike.top:d.top=e.top:=by
 funext f
 unfold Day.top;rw[h.aou]
theorem Alike.qk:d.qk=e.qk:=by
 funext f
 unfold Day.qk;rw[h.top,h.cH,h.n]
theorem Alike.nK:d.nK=e.nK:=by
 funext x i k
 induction k with
 |zero=>rfl
 |succ k aA=>unfold Day.nK;rw[h.cH,aA]
theorem Alike.kK:d.kK=e.kK:=by
 funext f x i
 unfold Day.kK;rw[h.n,h.cH,h.nK]
theorem Alike.rounds:d.rounds=e.rounds:=by
 funext k
 induction k with
 |zero=>funext f;rfl
 |succ k aA =>
  funext f
  unfold Day.rounds;rw[h.qk,h.kK,h.top,aA]
end
def e0 (cs:List av)(i k:Nat):List av:=cs.filter λc=>c.1==(i:Int)&&c.2.2.1==(k:Int)
theorem aov {cs:List av}{i k:Nat}{c:av}:c∈e0 cs i k↔c∈cs/\c.1=(i:Int)/\c.2.2.1=(k:Int):=by
 unfold e0;rw[Ht,eX,beq_iff_eq,beq_iff_eq]
def kp (n:Nat)(cs:List av):List av:=(hR n).flatMap λi=>(hR 10).flatMap λk=>e0 cs i k
theorem aow (cs:List av)(i k j r:Nat):e0 (e0 cs i k) j r=if i=j/\k=r then e0 cs i k else []:=by
 unfold e0;rw[List.filter_filter]
 by_cases h:i=j/\k=r
 ·obtain⟨rfl,rfl⟩:=h;rw[aj ⟨rfl,rfl⟩]
  congr 1
  funext c
  simp
 ·rw[aq h,List.filter_eq_nil_iff];intro c _;simp only[eX,beq_iff_eq];rintro⟨⟨D,G⟩,ag,aR⟩;exact h ⟨by omega,by omega⟩
theorem acu {α:Type}{n i:Nat}(Q:i<n)(a1:Nat->List α)(h:∀k,k<n->k≠i->a1 k=[]):(hR n).flatMap a1=a1 i:=by
 induction n with
 |zero=>omega
 |succ n aA =>
  rw[HI,acv,xP,acw,gk]
  by_cases aL:i=n
  ·subst aL
   have:(hR i).flatMap a1=[]:=by
    rw[acx];intro k R;have:=od.1 R;exact h k (by omega) (by omega)
   rw[this,ju]
  ·rw[aA (by omega) λk R=>h k (by omega),h n (by omega) (Ne.symm aL),gk]
theorem acy {α:Type}(l:List α)(a1:α->List av)(i k:Nat):e0 (l.flatMap a1) i k=l.flatMap λx=>e0 (a1 x) i k:=by
 unfold e0
 induction l with
 |nil=>rfl
 |cons a l aA=>rw[xP,xP,List.filter_append,aA]
theorem acz {n i k:Nat}(cs:List av)(Q:i<n)(R:k<10):e0 (kp n cs) i k=e0 cs i k:=by
 unfold kp;rw[acy];simp only[acy,aow];rw[acu Q,acu R]
 ·rw[aj ⟨rfl,rfl⟩]
 ·intro r _ U;rw[aq λh=>U h.2]
 ·intro j _ ay;rw[acx];intro r _;rw[aq λh=>ay h.1]
theorem acA {n:Nat}{a b:List av}(h:∀i,i<n->∀k,k<10->e0 a i k=e0 b i k):kp n a=kp n b:=by
 unfold kp;rw[LM,LM]
 congr 1
 refine oV λi Q=>?_;rw[LM,LM]
 congr 1
 exact oV λk R=>h i (od.1 Q) k (od.1 R)
theorem aox (n:Nat)(cs:List av):kp n (kp n cs)=kp n cs:=acA λ_ Q _ R=>acz cs Q R
theorem Tw {n:Nat}{cs:List av}(U:∀c∈cs,0<=c.1/\c.1<n/\0<=c.2.2.1/\c.2.2.1<10){c:av}:c∈kp n cs↔c∈cs:=by
 unfold kp;simp only[List.mem_flatMap,od,aov]
 constructor
 ·rintro⟨i,-,k,-,h,-⟩;exact h
 ·intro E;have:=U c E;exact⟨c.1.toNat,by omega,c.2.2.1.toNat,by omega,E,by omega,by omega⟩
theorem LN (a b:List dL)(a1:dL->Rat):cy (a++b) a1=cy a a1+cy b a1:=by
 induction a with
 |nil=>simp only[ju,cy];grind
 |cons c l aA=>rw[jc,cy,cy,aA];grind
theorem acB (a1:Nat->List av)(cW:dL->Rat)(n:Nat):cy (((hR n).flatMap a1).map dJ) cW=cg n λi=>cy ((a1 i).map dJ) cW:=by
 induction n with
 |zero=>rfl
 |succ n aA=>rw[HI,acv,mA,LN,aA,cg,xP,acw,gk]
theorem aoy {l:List dL}(ax:∀c∈l,c.bH<10)(b:Nat->dL->Rat):cg 10 (λk=>cy l (λc=>if c.bH=k then b k c else 0))=cy l (λc=>b c.bH c):=by
 induction l with
 |nil=>exact rb λk _=>rfl
 |cons c l aA =>
  rw[cy,<-aA λx I=>ax x (ha _ I)];have e:(λk:Nat=>cy (c::l) (λc=>if c.bH=k then b k c else 0))=λk=>(if c.bH=k then b k c else 0)+cy l (λc=>if c.bH=k then b k c else 0):=rfl;rw[e,sC]
  congr 1
  rw[yD (ax c gP) λk _ R=>aq (Ne.symm R),aj rfl]
theorem aoz {cs:List av}(U:∀c∈cs,0<=c.1/\0<=c.2.2.1)(i k:Nat)(cW:dL->Rat):cy ((e0 cs i k).map dJ) cW=cy (cs.map dJ) λc=>if c.aC=i/\c.bH=k then cW c else 0:=by
 induction cs with
 |nil=>rfl
 |cons c l aA =>
  have au:=U c gP;have aA:=aA λx I=>U x (ha _ I);unfold e0 at aA ⊢;rw[e8,cy,<-aA]
  by_cases h:(dJ c).aC=i/\(dJ c).bH=k
  ·obtain⟨D,G⟩:=h;have aw:c.1=(i:Int):=by have:c.1.toNat=i:=D;omega
   have aB:c.2.2.1=(k:Int):=by have:c.2.2.1.toNat=k:=G;omega
   rw[List.filter_cons_of_pos (by simp[aw,aB]),e8,cy,aj ⟨D,G⟩]
  ·rw[aq h,List.filter_cons_of_neg,A8];intro ah;rw[eX,beq_iff_eq,beq_iff_eq] at ah;refine h ⟨?_,?_⟩
   ·show c.1.toNat=i;omega
   ·show c.2.2.1.toNat=k;omega
theorem acC {n:Nat}{cs:List av}(U:∀c∈cs,0<=c.1/\c.1<n/\0<=c.2.2.1/\c.2.2.1<10)(cW:dL->Rat):cy ((kp n cs).map dJ) cW=cy (cs.map dJ) cW:=by
 unfold kp;rw[acB]
 have gx:∀c∈cs.map dJ,c.aC<n:=λc E=>by
  obtain⟨x,I,rfl⟩:=fZ.1 E;have:=U x I;show x.1.toNat<n;omega
 have jD:∀c∈cs.map dJ,c.bH<10:=λc E=>by
  obtain⟨x,I,rfl⟩:=fZ.1 E;have:=U x I;show x.2.2.1.toNat<10;omega
 have e:(λi=>cy (((hR 10).flatMap λk=>e0 cs i k).map dJ) cW)=λi=>cy (cs.map dJ) λc=>if c.aC=i then cW c else 0:=by
  funext i
  rw[acB,<-aoy jD λ_ c=>if c.aC=i then cW c else 0]
  congr 1
  funext k
  rw[aoz λc E=>⟨(U c E).1,(U c E).2.2.1⟩];refine wY λc _=>?_
  by_cases D:c.bH=k
  ·rw[aj D]
   by_cases G:c.aC=i
   ·rw[aj ⟨G,D⟩,aj G]
   ·rw[aq λh=>G h.1,aq G]
  ·rw[aq D,aq λh=>D h.2]
 rw[e,Ls gx λ_ c=>cW c]
theorem aoA {H:List Int}{cs:List av}(h:hL H cs=true):Alike (cf H cs) (cf H (kp (o H) cs)):=by
 have U:∀c∈cs,0<=c.1/\c.1<o H/\0<=c.2.2.1/\c.2.2.1<10:=λc E=>by
  have:=(m3.1 h).2.2.2 c E;exact⟨this.1,this.2.1,this.2.2.2.2.1,this.2.2.2.2.2.1⟩
 refine⟨rfl,rfl,λc=>?_,λa1=>(acC U a1).symm⟩;show c∈cs.map dJ↔c∈(kp (o H) cs).map dJ;rw[fZ,fZ];simp only[Tw U]
theorem acD {n:Nat}{cs:List av}(U:∀c∈cs,0<=c.1/\c.1<n/\0<=c.2.2.1/\c.2.2.1<10):(kp n cs).length=o cs:=by
 have D:∀l:List av,cy (l.map dJ) (λ_=>1)=(o l:Rat):=λl=>by
  induction l with
  |nil=>rfl
  |cons a l aA=>rw[e8,cy,aA,jN,Rat.natCast_add,Rat.add_comm];rfl
 have:=acC U λ_=>1;rw[D,D] at this;exact_mod_cast this
theorem aoB {H:List Int}{cs:List av}(h:fV H cs):fV H (kp (o H) cs):=by
 have zE:=m3.1 h.right
 have U:∀c∈cs,0<=c.1/\c.1<o H/\0<=c.2.2.1/\c.2.2.1<10:=λc E=>by
  have:=zE.2.2.2 c E;exact⟨this.1,this.2.1,this.2.2.2.2.1,this.2.2.2.2.2.1⟩
 refine⟨m3.2 ⟨zE.1,by rw[acD U];exact zE.2.1,zE.2.2.1,λc E=>zE.2.2.2 c ((Tw U).1 E)⟩,h.n5,by rw[acD U];exact h.HE,λc E=>h.am c ((Tw U).1 E)⟩
end Go.Mini
namespace Go.Mini
open Classical
def Day.oD (d:Day):Nat->Nat:=(d.rounds (10*d.n) λ_=>10).2
def Day.DS (d:Day):List (List Nat):=(d.rounds (10*d.n) λ_=>10).1
def Day.eb (d:Day):Nat->Rat:=d.top d.oD
theorem aoC (n k:Nat):rf n (λ_=>k)=k*n:=by
 induction n with
 |zero=>rfl
 |succ n aA=>rw[rf,aA,Nat.mul_succ]
section
variable {d:Day} (ae:d.dx)
include ae
theorem Day.dx.hex:∀f,Reach d f->∃h,lJ d f h:=λ_ U=>an3 ae U
theorem HJ:Reach d d.oD/\d.qk d.oD=[]:=abB ae ae.hex (10*d.n) (λ_=>10) (Reach.start ae) (by rw[aoC];exact cA _)
theorem LO:lJ d d.oD d.eb:=Day.DJ (ae.hex _ (HJ ae).1)
theorem acE:∀i,i<d.n->d.cH i (d.oD i)<=d.eb i:=by
 intro i Q;apply lI;intro aL;have:i∈d.qk d.oD:=Day.abz.2 ⟨Q,by unfold Day.eb at aL;grind⟩
 rw[(HJ ae).2] at this
 cases this
theorem Tx:(∀i,i<d.n->d.eb i=d.qj d.eb i)/\∀i,i<d.n->(d.oD i<10↔d.eb i<d.cH i 10):=by
 obtain⟨g,D,G,ag⟩:=LO ae;exact D.final ae G ag (acE ae)
theorem aoD {i:Nat}(Q:i<d.n):0<=d.eb i:=(LO ae).abx ae Q
end
theorem Lt {d:Day}(ae:d.dx)(i k:Nat):0<=d.S i k:=yE λc E=>by
 try dsimp only
 split
 ·exact ae.am c E
 ·exact gX
end Go.Mini
namespace Go.Mini
open Classical
section
variable {d:Day} (ae:d.dx)
include ae
end
end Go.Mini
namespace Go.Mini
open Classical
def Day.times (d:Day)(k:Rat):Day:=⟨d.n,λi=>k*d.H i,d.dM.map λc=>⟨c.aC,c.to,c.bH,k*c.am⟩⟩
section
variable {d:Day} (ae:d.dx) {k:Rat} (R:0<k)
include R
end
section
variable {d:Day} (ae:d.dx) (cP:Nat)
include ae
end
end Go.Mini
namespace Go.Mini
open Classical
theorem acF {d:Day}(ae:d.dx){f:Nat->Nat}{g:Nat->Rat}(Q:Inv d f g):∀m (P:Nat->Prop),idle d P<=m->hz d f g P (d.kL f P)->∃P,w8 d f P/\∀i,i<d.n->d.kL f P i=d.top f i
 |m,P,hm,aG=>by
  by_cases aa:∀i,i<d.n->f i<10->d.cH i (f i)<d.kL f P i->P i
  ·exact⟨P,⟨ae,g,Q,aG⟩,aG.an4 ae Q aa⟩
  ·have⟨i,D,G,ag,aR⟩:∃i,i<d.n/\f i<10/\d.cH i (f i)<d.kL f P i/\¬ P i:=by
    apply lI;intro aL;exact aa λi D G ag=>lI λaR=>aL ⟨i,D,G,ag,aR⟩
   have az:=acf (h:=d.kL f P) D G ag aR
   cases m with
   |zero=>omega
   |succ m=>exact acF ae Q m _ (by omega) (aG.succ ae Q)
theorem Ty {d:Day}(ae:d.dx){f:Nat->Nat}(U:Reach d f):∃P,w8 d f P/\∀i,i<d.n->d.kL f P i=d.top f i:=by
 obtain⟨g,Q,-⟩:=U;exact acF ae Q _ _ (cA _) (hz.first ae Q)
section
variable {H:List Int} {cs:List av} (aa:fV H cs)
include aa
theorem aoE {f:Nat->Nat}(U:Reach (cf H cs) f){i:Nat}(Q:i<o H):eB 428 ((cf H cs).top f i):=by
 obtain⟨P,aG,he⟩:=Ty aa.ok U;rw[<-he i Q];exact aoj aa aG Q
theorem Tz {i:Nat}(Q:i<o H):eB 428 ((cf H cs).eb i):=aoE aa (HJ aa.ok).1 Q
theorem aoF {i:Nat}(Q:i<o H):(cf H cs).eb i<=((2^54:Nat):Rat):=by
 obtain⟨P,aG,he⟩:=Ty aa.ok (HJ aa.ok).1;have:=(acp aa aG Q).2;rw[he i Q] at this;exact this
theorem acG:∃bS:Nat,0<bS/\(∃a,a<=330/\bS<=2^a)/\∀i,i<(o H)->fm bS ((cf H cs).eb i):=by
 obtain⟨P,aG,he⟩:=Ty aa.ok (HJ aa.ok).1;obtain⟨bS,D,G,ag⟩:=acq aa aG;refine⟨bS,D,G,λi Q=>?_⟩;have:=ag i Q;rw[he i Q] at this;exact this
end
section
variable {d:Day} (ae:d.dx)
include ae
end
def sH (H:List Int)(cs:List av)(k:Nat):Nat:=if (cf H cs).oD k<10 then l6 cs k ((cf H cs).oD k) else 1
section
variable {H:List Int} {cs:List av} (aa:fV H cs)
include aa
theorem acH {k:Nat}(R:k<o H):0<sH H cs k:=by
 unfold sH
 split
 ·rename_i h;obtain⟨g,D,-⟩:=LO aa.ok;have G:=D.yF (i:=k) R h;rw[<-LL aa.right] at G;exact_mod_cast G
 ·omega
theorem acI (k:Nat):sH H cs k<=2^54:=by
 unfold sH
 split
 ·exact aa.aci _ _
 ·exact Tg
theorem acJ {bS:Nat}(wE:∀i,i<(o H)->fm bS ((cf H cs).eb i)){c:av}(E:c∈cs):fm (bS*sH H cs (dJ c).aC) ((cf H cs).iT (cf H cs).eb (dJ c)):=by
 have ae:=aa.ok;have fu:dJ c∈(cf H cs).dM:=tW E;have R:(dJ c).aC<o H:=ae.aC _ fu;have w3:∀N,fm N (dJ c).am:=λN=>fm.int N c.2.2.2;have a8:∀N,fm N (0:Rat):=fm.zero;have tU:=λr s=>@Day.dx.wZ _ ae (dJ c).aC r s;have jD:=ae.bH _ fu;have fB:=acE ae _ R;unfold Day.iT
 by_cases D:(cf H cs).cH (dJ c).aC ((dJ c).bH+1)<=(cf H cs).eb (dJ c).aC
 ·rw[aj D];exact w3 _
 ·rw[aq D]
  have aN:(cf H cs).oD (dJ c).aC<10:=by
   refine ((Tx ae).2 _ R).2 ?_;have:=tU ((dJ c).bH+1) 10 (by omega);grind
  have az:(cf H cs).eb (dJ c).aC<(cf H cs).cH (dJ c).aC ((cf H cs).oD (dJ c).aC+1):=by
   obtain⟨g,dp,-,jR⟩:=LO ae;have:=dp.Q _ R aN;have:=jR _ R;grind
  rcases Nat.lt_trichotomy (dJ c).bH ((cf H cs).oD (dJ c).aC) with G|G|G
  ·have:=tU ((dJ c).bH+1) ((cf H cs).oD (dJ c).aC) (by omega);exact absurd (tT this fB) D
  ·have hw:fm (sH H cs (dJ c).aC) ((cf H cs).w (dJ c)):=by
    unfold sH;rw[aj aN];refine⟨c.2.2.2,?_⟩;rw[LL aa.right,<-G]
    have:0<(cf H cs).S (dJ c).aC (dJ c).bH:=by
     have:=(cf H cs).vi (dJ c).aC ((cf H cs).oD (dJ c).aC);rw[G];grind
    exact Day.Lu this
   have aoG:fm bS ((cf H cs).eb (dJ c).aC-(cf H cs).cH (dJ c).aC (dJ c).bH):=by
    refine (wE _ R).sub ?_;rw[<-yH aa.right];exact fm.int _ _
   rw[vj (by rw[G];grind),pY];exact hw.mul aoG
  ·have:=tU ((cf H cs).oD (dJ c).aC+1) (dJ c).bH (by omega);rw[sE (by grind),m2];exact a8 _
theorem aoH {c:av}(E:c∈cs):eB 482 ((cf H cs).iT (cf H cs).eb (dJ c)):=by
 obtain⟨bS,D,⟨a,G,ag⟩,aR⟩:=acG aa;have fu:dJ c∈(cf H cs).dM:=tW E;have R:(dJ c).aC<o H:=aa.ok.aC _ fu;have bs:=acJ aa aR E;have b1:=acH aa R;have cd:=acI aa (dJ c).aC;have de:bS*sH H cs (dJ c).aC<=2^(a+54):=by rw[vk];exact nL ag cd
 have jt:=aa.ok.abq (cf H cs).eb fu
 have hs:(cf H cs).iT (cf H cs).eb (dJ c)<=((2^50:Nat):Rat):=by
  refine tT (aa.ok.SN _ fu) ?_;have:=aa.am c E;show ((c.2.2.2:Int):Rat)<=_;have:c.2.2.2<=((2^50:Nat):Int):=by omega
  rw[<-oA];exact Rat.intCast_le_intCast.2 this
 exact (bs.sz (S3 D b1) de jt hs).mono (by omega)
end
end Go.Mini
namespace Go.Mini
open Go
theorem Bb {n:Int}{c:av}:fN n c=true↔0<=c.1/\c.1<n /\ -1<=c.2.1/\c.2.1<n/\0<=c.2.2.1/\c.2.2.1<10/\0<=c.2.2.2/\c.2.2.2<=1000000000000000:=by
 unfold fN;simp only[eX,decide_eq_true_eq,and_assoc]
def e1 (x:Int):Bool:=decide (0<=x)&&decide (x<=1000000000000000)
theorem Bc {x:Int}:e1 x=true↔0<=x/\x<=1000000000000000:=by
 unfold e1;simp only[eX,decide_eq_true_eq]
theorem aoI (H:List Int)(cs:List av):hL H cs=(decide (o H<=60)&&decide (o cs<=2000)&&H.all e1&&cs.all (fN (o H))):=rfl
def DT (p q r s:Int):Prop:=p.natAbs<c9/\q.natAbs<c9/\r.natAbs<c9/\s.natAbs<c9/\0<q/\0<s
def HK (a:Int×Int×Int×Int):List Data:=[.agg (bF (bc a.1)),.agg (bF (bc a.2.1)),.agg (bF (bc a.2.2.1)),.agg (bF (bc a.2.2.2))]
theorem LP {a b:Raw}(h:bF a=bF b):a=b:=by
 obtain⟨s,l⟩:=a;obtain⟨t,m⟩:=b;simp only[bF,bn,Data.int.injEq,Data.X.injEq,true_and,and_true] at h;exact dV h.1 (map_inj eR _ _ h.2)
theorem acK:∀a b:Int×Int×Int×Int,HK a=HK b->a=b:=by
 rintro⟨c6,dv,a3,a4⟩ ⟨c5,eg,j2,lf⟩ h;simp only[HK,bn,Data.agg.injEq,and_true] at h;obtain⟨D,G,ag,aR⟩:=h;rw[KL (LP D),KL (LP G),KL (LP ag),KL (LP aR)]
def acL (a:Int×Int×Int×Int):dF:=.same (.int .i64 (a.1*a.2.2.2-a.2.2.1*a.2.1).sign)
def HL:List Data->Option dF:=bU HK λa=>cq (DT a.1 a.2.1 a.2.2.1 a.2.2.2) (acL a)
def HM (n:Nat):List Data->Option dF:=bU HK λa=>cq (DT a.1 a.2.1 a.2.2.1 a.2.2.2/\a.2.1.toNat+a.2.2.2.toNat<n) (acL a)
theorem acM {n:Nat}{p q r s:Int}(h:DT p q r s/\q.toNat+s.toNat<n):HM n [.agg (bF (bc p)),.agg (bF (bc q)),.agg (bF (bc r)),.agg (bF (bc s))]=some (.same (.int .i64 (p*s-r*q).sign)) :=
 (b3 acK (p,q,r,s)).trans (cw h _)
theorem aoJ {p q r s:Int}(h:DT p q r s):HL [.agg (bF (bc p)),.agg (bF (bc q)),.agg (bF (bc r)),.agg (bF (bc s))]=some (.same (.int .i64 (p*s-r*q).sign)) :=
 (b3 acK (p,q,r,s)).trans (cw h _)
theorem aoK {ds:List Data}{x:dF}(h:HL ds=some x):∃n,HM n ds=some x:=by
 obtain⟨⟨p,q,r,s⟩,rfl,G⟩:=NW h;obtain⟨E,rfl⟩:=NX G;exact⟨_,acM ⟨E,Nat.lt_succ_self _⟩⟩
theorem aoL {p q r s:Int}(aF:0<q)(aa:0<s)(h:p.fdiv q≠r.fdiv s):(p*s-r*q).sign=fh (p.fdiv q) (r.fdiv s):=by
 have aw:p.fmod q+q*p.fdiv q=p:=HN p q;have aB:r.fmod s+s*r.fdiv s=r:=HN r s;have jg:=HO p aF;have n1:=HP p aF;have v0:=HO r aa;have v1:=HP r aa;generalize p.fdiv q=x at *;generalize r.fdiv s=y at *;generalize p.fmod q=u at *;generalize r.fmod s=v at *;have vP:0<q*s:=Int.mul_pos aF aa;have dp:0<=u*s:=q1 jg (by omega);have dN:0<=v*q:=q1 v0 (by omega)
 have jR:u*s<=q*s-s:=by
  have:=jz (show u<=q-1 by omega) (show 0<=s by omega);grind
 have w2:v*q<=q*s-q:=by
  have:=jz (show v<=s-1 by omega) (show 0<=q by omega);grind
 have e:p*s-r*q=q*s*(x-y)+(u*s-v*q):=by rw[<-aw,<-aB];grind
 rw[e];rcases Sm h with az|js
 ·have SM:q*s*(x-y)<=q*s*(-1):=se (by omega) (by omega);rw[wI az];exact jY (by omega)
 ·have SM:q*s*1<=q*s*(x-y):=se (by omega) (by omega)
  have:fh x y=1:=by
   unfold fh;rw[aq (by simp;omega),aj (by simp;omega)]
  rw[this];exact fS (by omega)
theorem aoM {p q r s:Int}(h:p.fdiv q=r.fdiv s):p*s-r*q=p.fmod q*s-r.fmod s*q:=by
 have aw:p.fmod q+q*p.fdiv q=p:=HN p q;have aB:r.fmod s+s*r.fdiv s=r:=HN r s;rw[h] at aw;generalize r.fdiv s=y at *;generalize p.fmod q=u at *;generalize r.fmod s=v at *;rw[<-aw,<-aB];grind
theorem aoN (T:br)(qd:T zZ=aK Lc)(nH:T F5=aK K8)(n:Nat)(DU:T Cu=aK (HM n))(p q r s:Int)(E:DT p q r s/\q.toNat+s.toNat<n+1):WP T Ld (.same (.int .i64 (p*s-r*q).sign)) [.J (.agg (bF (bc p))),.J (.agg (bF (bc q))),.J (.agg (bF (bc r))),.J (.agg (bF (bc s)))]:=by
 refine b4 ?_;simp only[Ld];obtain⟨⟨hC,c7,fq,s1,aF,aa⟩,aL⟩:=E;have fK:=hX hC;have ab:=hX c7;have bj:=hX fq;have bh:=hX s1;have jg:=HO p aF;have n1:=HP p aF;have v0:=HO r aa;have v1:=HP r aa;have acN:(p.fmod q).natAbs<c9:=by omega
 have DM:(r.fmod s).natAbs<c9:=by omega
 have FH:∀{a b:Int},a.natAbs<c9->0<b->(a.fdiv b).natAbs<c9:=by
  intro a b aM ah;have aw:a.fmod b+b*a.fdiv b=a:=HN a b;have aB:=HO a ah;have cI:=HP a ah
  have:(a.fdiv b).natAbs<=a.natAbs:=by
   rcases Int.lt_or_le (a.fdiv b) 0 with h|h
   ·have k:b*(a.fdiv b+1)<=1*(a.fdiv b+1):=Int.mul_le_mul_of_nonpos_right (by omega) (by omega);have:b*(a.fdiv b+1)=b*a.fdiv b+b:=by grind
    omega
   ·have k:1*a.fdiv b<=b*a.fdiv b:=jz (by omega) h;omega
  omega
 have aV:=FH hC aF;have x2:=FH fq aa;have cJ:=hX aV;have cE:=hX x2;have hv:=hX acN;have mo:=hX DM;have d1:=wK hC c7 (by omega);have d2:=wK fq s1 (by omega);have d3:=GN aV x2;have bZ:=aoL (p:=p) (r:=r) aF aa;have heq:=aoM (p:=p) (q:=q) (r:=r) (s:=s);have uK:DT s (r.fmod s) q (p.fmod q)->HM n [.agg (bF (bc s)),.agg (bF (bc (r.fmod s))),.agg (bF (bc q)),.agg (bF (bc (p.fmod q)))]=some (.same (.int .i64 (s*p.fmod q-q*r.fmod s).sign)):=λh=>acM ⟨h,by omega⟩
 have ye:p.fdiv q=r.fdiv s->fh (p.fdiv q) (r.fdiv s)=0:=λh=>by unfold fh;rw[aq (by simp;omega),aq (by simp;omega)]
 have aoO:p.fdiv q≠r.fdiv s->(fh (p.fdiv q) (r.fdiv s)==0)=false:=λh=>by
  rcases Sm h with h|h
  ·rw[wI h];rfl
  ·unfold fh;rw[aq (by simp;omega),aj (by simp;omega)];rfl
 have es:∀z:Int,bc z=(z.sign,aD z.natAbs):=λz=>rfl;rw[es,es] at d1 d2 d3
 by_cases gw:p.fdiv q=r.fdiv s
 ·have jW:=ye gw
  by_cases hu:p.fmod q=0
  ·have po:(p.fmod q).sign=0:=by rw[hu];rfl
   have hD:(p*s-r*q).sign=0-(r.fmod s).sign:=by
    rw[heq gw,hu,AF,Int.zero_sub,Int.sign_neg,mX,fS aF,o8];omega
   rw[hD]
   have w:IntKind.i64.wrap (0-(r.fmod s).sign)=0-(r.fmod s).sign:=by
    have:=GL (r.fmod s);rw[eQ _]
   simp only[go_sem,go_sem_proc,qd,nH,bF,fw,fK,ab,bj,bh,cJ,cE,d1,d2,d3,jW,po,w,es,af,beq_self_eq_true,bne,bX];repeat' (first|refine al ?_ ?_|fail)<;>intro h<;>simp only[h,go_sem,go_sem_proc,qd,nH,bF,fw,fK,ab,bj,bh,cJ,cE,d1,d2,d3,jW,po,w,es,af,beq_self_eq_true,bne,bX]
  ·have po:((p.fmod q).sign==0)=false:=by
    rw[fS (by omega)];rfl
   by_cases ad:r.fmod s=0
   ·have HQ:(r.fmod s).sign=0:=by rw[ad];rfl
    have hD:(p*s-r*q).sign=(p.fmod q).sign-0:=by
     rw[heq gw,ad,AF,wB,mX,fS aa,o8,wB]
    rw[hD]
    have w:IntKind.i64.wrap ((p.fmod q).sign-0)=(p.fmod q).sign-0:=by
     have:=GL (p.fmod q);rw[eQ _]
    simp only[go_sem,go_sem_proc,qd,nH,bF,fw,fK,ab,bj,bh,cJ,cE,d1,d2,d3,jW,po,HQ,w,es,af,beq_self_eq_true,bne,bX];repeat' (first|refine al ?_ ?_|fail)<;>intro h<;>simp only[h,go_sem,go_sem_proc,qd,nH,bF,fw,fK,ab,bj,bh,cJ,cE,d1,d2,d3,jW,po,HQ,w,es,af,beq_self_eq_true,bne,bX]
   ·have HQ:((r.fmod s).sign==0)=false:=by
     rw[fS (by omega)];rfl
    have U:=uK ⟨s1,DM,c7,acN,by omega,by omega⟩
    have hD:s*p.fmod q-q*r.fmod s=p*s-r*q:=by rw[heq gw];grind
    rw[hD] at U;simp only[bF,es] at U;simp only[go_sem,go_sem_proc,qd,nH,DU,bF,fw,fK,ab,bj,bh,cJ,cE,d1,d2,d3,jW,po,HQ,U,es,af,beq_self_eq_true,bne,bX];repeat' (first|refine al ?_ ?_|fail)<;>intro h<;>simp only[h,go_sem,go_sem_proc,qd,nH,DU,bF,fw,fK,ab,bj,bh,cJ,cE,d1,d2,d3,jW,po,HQ,U,es,af,beq_self_eq_true,bne,bX]
 ·have jW:=aoO gw;rw[bZ gw];simp only[go_sem,go_sem_proc,qd,nH,bF,fw,fK,ab,bj,bh,cJ,cE,d1,d2,d3,jW,es,af,bne,cv];repeat' (first|refine al ?_ ?_|fail)<;>intro h<;>simp only[h,go_sem,go_sem_proc,qd,nH,bF,fw,fK,ab,bj,bh,cJ,cE,d1,d2,d3,jW,es,af,bne,cv]
def HR:=bU pn λ(s,l,s2,ab,bD,bj,bE,bh)=>cq (o l<=1000000/\o ab<=1000000/\o bj<=1000000/\o bh<=1000000) (.same (.int .i64 (h7 ((s,l),(s2,ab)) ((bD,bj),(bE,bh)))))
@[go_sem] theorem aoP (s:Int)(l:List Int)(s2:Int)(ab:List Int)(bD:Int)(bj:List Int)(bE:Int)(bh:List Int)(E:(o l)<=1000000/\o ab<=1000000/\o bj<=1000000/\o bh<=1000000):HR [.agg [.int .i64 s,.X (l.map Y),.int .i64 s2,.X (ab.map Y)],.agg [.int .i64 bD,.X (bj.map Y),.int .i64 bE,.X (bh.map Y)]]=some (.same (.int .i64 (h7 ((s,l),(s2,ab)) ((bD,bj),(bE,bh))))):=(b3 q9 (s,l,s2,ab,bD,bj,bE,bh)).trans (cw E _)
theorem aoQ (T:br)(dS:T kZ=aK tL)(DU:T Cu=aK HL)(s:Int)(l:List Int)(s2:Int)(ab:List Int)(bD:Int)(bj:List Int)(bE:Int)(bh:List Int)(E:(o l)<=1000000/\o ab<=1000000/\o bj<=1000000/\o bh<=1000000):WP T Sl (.same (.int .i64 (h7 ((s,l),(s2,ab)) ((bD,bj),(bE,bh))))) [.J (.agg [.int .i64 s,.X (l.map Y),.int .i64 s2,.X (ab.map Y)]),.J (.agg [.int .i64 bD,.X (bj.map Y),.int .i64 bE,.X (bh.map Y)])]:=by
 refine b4 ?_;simp only[Sl];obtain⟨bk,bp,dW,ez⟩:=E;unfold h7;rcases U:cU ((s,l),(s2,ab))
 ·refine aQ ?_;repeat' (intro h<;>simp only[h,go_sem,go_sem_proc,dS,DU,bk,bp,U]<;>try refine al ?_ ?_)
 ·rcases aZ:cU ((bD,bj),(bE,bh))
  ·refine aQ ?_;repeat' (intro h<;>simp only[h,go_sem,go_sem_proc,dS,DU,bk,bp,dW,ez,U,aZ]<;>try refine al ?_ ?_)
  ·obtain⟨x,I,ex⟩:=(wN _).1 U;obtain⟨y,ak,zp⟩:=(wN _).1 aZ;have ah:HL [.agg (bF (bc x.num)),.agg (bF (bc x.den)),.agg (bF (bc y.num)),.agg (bF (bc y.den))]=some (.same (.int .i64 (x.num*y.den-y.num*x.den).sign)):=aoJ ⟨I.1,mY I,ak.1,mY ak,den_pos x,den_pos y⟩;unfold ai at ex zp;simp only[eU] at ex zp;obtain⟨aw,aB⟩:=ex;obtain⟨cI,gJ⟩:=zp;rw[<-aw,<-aB,<-cI,<-gJ] at ah
   have ad:(ga (s,l)*ga (bE,bh)-ga (bD,bj)*ga (s2,ab))=x.num*y.den-y.num*x.den:=by
    rw[aw,aB,cI,gJ,eo,eo,eo,eo]
   simp only[bF] at ah;rw[aj rfl,aj rfl,ad];refine aQ ?_;repeat' (intro h<;>simp only[h,go_sem,go_sem_proc,dS,DU,bk,bp,dW,ez,U,aZ,ah]<;>try refine al ?_ ?_)
theorem aoR {x y:Rat}(I:dD x)(ak:dD y)(h:mx x (-y)=true):Li [.agg (aH (ai x)),.agg (aH (ai y))]=some (.same (.cQ [.agg (aH (ai (x-y))),.int .i64 0])):=by
 have D:=gW I;have G:=gW ak;have:=amB (ai x).1.1 (ai x).1.2 (ai x).2.1 (ai x).2.2 (ai y).1.1 (ai y).1.2 (ai y).2.1 (ai y).2.2 ⟨D.1,D.2,G.1,G.2⟩;have e:k5 (ai x) (ai y)=(ai (x-y),0):=by rw[aai I ak,h];rfl
 exact this.trans (by show some (dF.same (cO (k5 (ai x) (ai y))))=_;rw[e];rfl)
theorem aoS {x y:Rat}(I:dD x)(ak:dD y)(h:C6 x y=true):Lj [.agg (aH (ai x)),.agg (aH (ai y))]=some (.same (.cQ [.agg (aH (ai (x*y))),.int .i64 0])):=by
 have D:=gW I;have G:=gW ak;have:=amD (ai x).1.1 (ai x).1.2 (ai x).2.1 (ai x).2.2 (ai y).1.1 (ai y).1.2 (ai y).2.1 (ai y).2.2 ⟨D.1,D.2,G.1,G.2⟩;have e:k6 (ai x) (ai y)=(ai (x*y),0):=by rw[aaj I ak,h];rfl
 exact this.trans (by show some (dF.same (cO (k6 (ai x) (ai y))))=_;rw[e];rfl)
theorem aoT {x y:Rat}(I:dD x)(ak:dD y)(h:mx x (-y)=true):KQ [.agg (aH (ai x)),.agg (aH (ai y))]=some (.same (.cQ [.agg (aH (ai (x-y))),.int .i64 0])):=by
 have D:=gW I;have G:=gW ak;have:=alc (ai x).1.1 (ai x).1.2 (ai x).2.1 (ai x).2.2 (ai y).1.1 (ai y).1.2 (ai y).2.1 (ai y).2.2 ⟨D.1,D.2,G.1,G.2⟩;have e:k5 (ai x) (ai y)=(ai (x-y),0):=by rw[aai I ak,h];rfl
 exact this.trans (by show some (dF.same (cO (k5 (ai x) (ai y))))=_;rw[e];rfl)
theorem aoU {x y:Rat}(I:dD x)(ak:dD y)(h:C6 x y=true):GY [.agg (aH (ai x)),.agg (aH (ai y))]=some (.same (.cQ [.agg (aH (ai (x*y))),.int .i64 0])):=by
 have D:=gW I;have G:=gW ak;have:=ale (ai x).1.1 (ai x).1.2 (ai x).2.1 (ai x).2.2 (ai y).1.1 (ai y).1.2 (ai y).2.1 (ai y).2.2 ⟨D.1,D.2,G.1,G.2⟩;have e:k6 (ai x) (ai y)=(ai (x*y),0):=by rw[aaj I ak,h];rfl
 exact this.trans (by show some (dF.same (cO (k6 (ai x) (ai y))))=_;rw[e];rfl)
theorem aoV {x y:Rat}(I:dD x)(ak:dD y)(au:y≠0)(h:C7 x y=true):Lk [.agg (aH (ai x)),.agg (aH (ai y))]=some (.same (.cQ [.agg (aH (ai (x/y))),.int .i64 0])):=by
 have D:=gW I;have G:=gW ak;have:=amF (ai x).1.1 (ai x).1.2 (ai x).2.1 (ai x).2.2 (ai y).1.1 (ai y).1.2 (ai y).2.1 (ai y).2.2 ⟨D.1,D.2,G.1,G.2⟩;have e:lG (ai x) (ai y)=(ai (x/y),0):=by rw[aak I ak au,h];rfl
 exact this.trans (by show some (dF.same (cO (lG (ai x) (ai y))))=_;rw[e];rfl)
theorem aoW {x y:Rat}(I:dD x)(ak:dD y)(au:y≠0)(h:C7 x y=true):GZ [.agg (aH (ai x)),.agg (aH (ai y))]=some (.same (.cQ [.agg (aH (ai (x/y))),.int .i64 0])):=by
 have D:=gW I;have G:=gW ak;have:=alg (ai x).1.1 (ai x).1.2 (ai x).2.1 (ai x).2.2 (ai y).1.1 (ai y).1.2 (ai y).2.1 (ai y).2.2 ⟨D.1,D.2,G.1,G.2⟩;have e:lG (ai x) (ai y)=(ai (x/y),0):=by rw[aak I ak au,h];rfl
 exact this.trans (by show some (dF.same (cO (lG (ai x) (ai y))))=_;rw[e];rfl)
theorem acO {x y:Rat}(I:dD x)(ak:dD y):HR [.agg (aH (ai x)),.agg (aH (ai y))]=some (.same (.int .i64 (km x y))):=by
 have D:=gW I;have G:=gW ak;have:=aoP (ai x).1.1 (ai x).1.2 (ai x).2.1 (ai x).2.2 (ai y).1.1 (ai y).1.2 (ai y).2.1 (ai y).2.2 ⟨D.1,D.2,G.1,G.2⟩;exact this.trans (by show some (dF.same (.int .i64 (h7 (ai x) (ai y))))=_;rw[KR I ak])
theorem LQ {x y:Rat}(I:dD x)(ak:dD y):yq [.agg (aH (ai x)),.agg (aH (ai y))]=some (.same (.int .i64 (km x y))):=by
 have D:=gW I;have G:=gW ak;have:=aap (ai x).1.1 (ai x).1.2 (ai x).2.1 (ai x).2.2 (ai y).1.1 (ai y).1.2 (ai y).2.1 (ai y).2.2 ⟨D.1,D.2,G.1,G.2⟩;exact this.trans (by show some (dF.same (.int .i64 (h7 (ai x) (ai y))))=_;rw[KR I ak])
theorem aoX {x y:Rat}:decide (km x y>0)=decide (y<x):=by
 have D:km x y>0↔y<x:=by
  unfold km;rw[gt_iff_lt,Int.sign_pos_iff,Rat.lt_iff];omega
 rw[decide_eq_decide];exact D
theorem LR {x y:Rat}:decide (km x y<0)=decide (x<y):=by
 have D:km x y<0↔x<y:=by
  unfold km;rw[Int.sign_neg_iff,Rat.lt_iff];omega
 rw[decide_eq_decide];exact D
theorem acP {x y:Rat}:decide (km x y>=0)=decide (y<=x):=by
 have D:km x y>=0↔y<=x:=by
  unfold km;rw[ge_iff_le,Int.sign_nonneg_iff,Rat.le_iff];omega
 rw[decide_eq_decide];exact D
end Go.Mini
namespace Go.Mini
open Go
variable {P:Program} {A:Nat->Prop} {w aI:World} {B bB:Lay} {mem mem':Mem}
def aoY (N:List O->Mem->Option Data)(args:List O)(mem:Mem):Option gg:=(N args mem).map λd => .rel (wb (.J d) mem)
@[go_sem] theorem azX (N:List O->Mem->Option Data)(args:List O)(mem:Mem):aoY N args mem=(N args mem).map λd => .rel (wb (.J d) mem):=bC
def HS (W:List O->Mem->Option (Data×Key))(args:List O)(mem:Mem):Option gg:=(W args mem).map λx => .vF x.1 x.2
@[go_sem] theorem azY (W:List O->Mem->Option (Data×Key))(args:List O)(mem:Mem):HS W args mem=(W args mem).map λx => .vF x.1 x.2:=bC
theorem aoZ {T : br}{kb : Nat}{own : List Nat}(cG : oU P T)(hm : P.follows .mixedOrders = true){f : FuncId}{fn : Func}{mf : bP}(aN : P.funcs[f]? = some fn)(tf : (fn.name == "runtime.NumGoroutine") = false)(aW : qC P kb own fn = some { mf with body := erase mf.body })
  (df:Key->Prop) {W:List O->Mem->Option (Data×Key)}
  (h:∀args mem d k,W args mem=some (d,k)->(o args)<=mf.n/\(∀j,df j->mem j=none)/\¬ df k /\
   wp T mf.body (yB mf.res λm mem'=>da 6 emp m=some d/\∀j,¬ df j->mem' j=bI mem k (b7 mem k) [] j) ⟨nd args,mem⟩):nI P f (HS W):=by
 refine⟨aa2 aN tf aW,λargs mem np gj A w B vs bY ad=>?_⟩;unfold HS at gj;rw[dI] at gj;obtain⟨⟨d,k⟩,tU,rfl⟩:=gj;obtain⟨hlen,AY,R,zJ⟩:=h args mem d k tU;refine Calls.mono (JG (Post:=λm mem'=>da 6 emp m=some d/\∀j,¬ df j->mem' j=bI mem k (b7 mem k) [] j) cG hm aN aW hlen (λe st R=>aa1 R) zJ bY ad) λe aI he=>?_;obtain⟨v,m,mem',bB,rfl,aa,lk,ae,ir⟩:=he;refine⟨v,sx df bB,rfl,aa.drop bY AY (λj ay=>?_) (λj ay=>(ir j ay).symm) ?_,.J ((Ym 6 m v d ae lk).less λb ah=>ah.imp Hj id)⟩
 ·have:j≠k:=λe=>R (e ▸ ay);simp only[bI,this,if_false];exact AY j ay
 ·intro dN cR mQ G m wD
  by_cases gi:dN=k
  ·subst gi;simp only[bI,if_true,cz,eU] at G;obtain⟨-,rfl⟩:=G
   cases wD
  ·simp only[bI,gi,if_false] at G;exact .inr ⟨dN,cR,mQ,G,wD⟩
open Classical in
def HT {α:Type}(bS:α->List O->Mem->Prop)(res:α->Data×Key):List O->Mem->Option (Data×Key):=λargs mem=>if h:∃a,bS a args mem then some (res (tg h)) else none
theorem ao0 {α:Type}{bS:α->List O->Mem->Prop}{res:α->Data×Key}(uniq:∀a b args mem,bS a args mem->bS b args mem->res a=res b){a:α}{args:List O}{mem:Mem}(h:bS a args mem):HT bS res args mem=some (res a):=by
 have I:∃b,bS b args mem:=⟨a,h⟩;unfold HT;rw[dif_pos I,uniq _ _ _ _ (pW I) h]
theorem ao1 {α:Type}{bS:α->List O->Mem->Prop}{res:α->Data×Key}{args:List O}{mem:Mem}{d:Data×Key}(h:HT bS res args mem=some d):∃a,bS a args mem/\d=res a:=by
 unfold HT at h
 split at h
 ·rename_i I;exact⟨_,pW I,(ln h).symm⟩
 ·cases h
def l7 (n:Nat)(mem m:Mem):Prop:=∀k,k/1000≠n->m k=mem k
theorem l7.refl (n:Nat)(mem:Mem):l7 n mem mem:=λ_ _=>rfl
theorem l7.hO {n k g:Nat}{cs:List O}{mem m:Mem}(h:l7 n mem m)(R:k/1000=n):l7 n mem (bI m k g cs):=λj ay=>by
 have:j≠k:=λe=>ay (by rw[e];exact R);simp only[bI,this,if_false];exact h j ay
theorem l7.kill {n k:Nat}{mem m:Mem}(h:l7 n mem m)(R:k/1000=n):l7 n mem (kill m k):=h.hO R
theorem l7.at {n:Nat}{mem m:Mem}(h:l7 n mem m)(k:Nat)(R:k/1000≠n):m k=mem k:=h k R
def HU (n:Nat)(mem:Mem):Prop:=∀k,k/1000=n->mem k=none
theorem HU.aC {n acQ:Nat}{mem m:Mem}(h:HU n mem)(aN:l7 acQ mem m)(aL:n≠acQ):HU n m:=λk R=>by rw[aN k (by omega)];exact h k R
end Go.Mini
namespace Go.Mini
open Go
def dK (x:Int):O:=.J (.int .i64 x)
def yP (b:Bool):O:=.J (.bool b)
theorem HV {α:Type}{f:α->O}{l:List α}{k:Nat}{y:α}(h:l[k]?=some y):List.take 1 (List.drop k (l.map f))=[f y]:=by
 obtain⟨ax,rfl⟩:=ef.1 h;rw[<-List.map_drop,List.drop_eq_getElem_cons ax,e8,List.take_succ_cons,List.take_zero]
structure yQ (H:List Int) (cs:List av) (fl:List Int) (P:List Bool) (g eb mB:Nat) (mem:Mem):Prop where
 r:mem 261029=some (g,[.J (.X (H.map Y)),.J (.X (cs.map bR)),.ref 261042 eb 1 0 (o fl),.ref 261027 mB 1 0 (o P),.J (.bool false)])
 f:mem 261042=some (eb,fl.map dK)
 p:mem 261027=some (mB,P.map yP)
theorem yQ.aC {H:List Int}{cs:List av}{fl:List Int}{P:List Bool}{g eb mB n:Nat}{mem m:Mem}(h:yQ H cs fl P g eb mB mem)(aN:l7 n mem m)(aL:n≠261):yQ H cs fl P g eb mB m :=
 ⟨(aN.at 261029 (by omega)).trans h.r,(aN.at 261042 (by omega)).trans h.f,(aN.at 261027 (by omega)).trans h.p⟩
theorem LS {a b:List Int}(h:a.map dK=b.map dK):a=b:=map_inj (λx y h=>by simpa [dK] using h) _ _ h
theorem ao2 {a b:List Bool}(h:a.map yP=b.map yP):a=b:=map_inj (λx y h=>by simpa [yP] using h) _ _ h
theorem yQ.uniq {H DV:List Int}{cs lj:List av}{fl w9:List Int}{P acR:List Bool}{g eb mB c4 acS acT:Nat}{mem:Mem}(h:yQ H cs fl P g eb mB mem)(cu:yQ DV lj w9 acR c4 acS acT mem):H=DV/\cs=lj/\fl=w9/\P=acR/\g=c4/\eb=acS/\mB=acT:=by
 have D:=h.r;rw[cu.r] at D;simp only[cz,eU,bn,O.J.injEq,Data.X.injEq,O.ref.injEq,true_and,and_true] at D;obtain⟨aw,aB,cI,⟨gJ,-⟩,dB,-⟩:=D;have G:=h.f;rw[cu.f] at G;simp only[cz,eU] at G;have ag:=h.p;rw[cu.p] at ag;simp only[cz,eU] at ag;exact⟨(map_inj eR _ _ aB).symm,(map_inj oC _ _ cI).symm,(LS G.2).symm,(ao2 ag.2).symm,aw.symm,gJ.symm,dB.symm⟩
structure LU where
 H:List Int
 cs:List av
 fl:List Int
 P:List Bool
 g:Nat
 eb:Nat
 mB:Nat
def LU.At (a:LU)(mem:Mem):Prop:=yQ a.H a.cs a.fl a.P a.g a.eb a.mB mem
theorem LU.uniq {a b:LU}{mem:Mem}(h:a.At mem)(cu:b.At mem):a=b:=by
 obtain⟨c6,dv,a3,a4,a5,LV,azZ⟩:=a;obtain⟨c5,eg,j2,lf,ao3,acU,az0⟩:=b;have:=yQ.uniq h cu;dsimp only at this;obtain⟨rfl,rfl,rfl,rfl,rfl,rfl,rfl⟩:=this
 rfl
theorem l7.same {n k g:Nat}{cs:List O}{mem m:Mem}(h:l7 n mem m)(hm:mem k=some (g,cs)):l7 n mem (bI m k g cs):=λj ay=>by
 by_cases e:j=k
 ·subst e;simp only[bI,if_true];exact hm.symm
 ·simp only[bI,e,if_false];exact h j ay
theorem tY {z:Int}(D:-9000000000000000000<=z)(G:z<=9000000000000000000):c8 z:=by unfold c8;omega
theorem yO.upto {cs:List av}(h:yO cs)(i r:Int):0<=dP cs i r/\dP cs i r<=2000000000000000000:=by
 have:=h.sum (λc=>c.1=i/\c.2.2.1<r) (o cs);rw[List.take_length] at this;exact this
def iz (cs:List av)(i r:Int):Int:=dP cs i (r+1)-dP cs i r
end Go.Mini
namespace Go.Mini
open Go Classical
def TA (fl:List Int)(i:Nat):Nat:=(fl.getD i 10).toNat
def acV (P:List Bool)(i:Nat):Prop:=P.getD i false=true
theorem vm {z:Int}{b:Nat}(h:z.natAbs<=2^b):eB b (z:Rat):=⟨by rw[Rat.num_intCast];exact h,by rw[Rat.den_intCast];exact Tg⟩
section
variable {H:List Int} {cs:List av} (aa:fV H cs) (f:Nat->Nat) (P:Nat->Prop) (i:Nat) (di:∀k,P k->0<(cf H cs).S k (f k))
include aa di
end
end Go.Mini
namespace Go.Mini
open Go
theorem TB:c8 0:=by unfold c8;omega
theorem TC:c8 1:=by unfold c8;omega
theorem acW {α:Type}{l:List α}{k:Nat}{d x:α}(h:l[k]?=some x):l.getD k d=x:=by rw[fP,h];rfl


def Bd (n:Nat)(p:Nat->Bool):List Bool:=(hR n).map p
theorem ao4 (n:Nat)(p:Nat->Bool):(Bd n p).length=n:=by simp[Bd]
theorem ao5 {n i:Nat}(p:Nat->Bool)(h:i<n):(Bd n p)[i]?=some (p i):=by
 unfold Bd;rw[bb,s5 h];rfl

end Go.Mini
