/- A part of the proof. -/
import Derived.Test.YtgpioapepokkbaaGreatM04
set_option linter.unusedSimpArgs false
set_option linter.unusedVariables false
set_option linter.defProp false
set_option maxRecDepth 100000
set_option maxHeartbeats 4000000
noncomputable section
open Bool renaming and_eq_true->fC,and_false->iS,false_and->e9,not_false->cA,not_true->b3,or_eq_true->s9,or_false->lT,or_true->se,true_and->fN
open Classical renaming byContradiction->mN,choose_spec->qo
open Decidable renaming em->dn
open Int renaming add_zero->rr,fmod_add_mul_fdiv->P6,fmod_lt_of_pos->P8,fmod_nonneg_of_pos->P7,le_refl->PT,lt_or_gt_of_ne->anN,mul_le_mul_of_nonneg_left->xg,mul_le_mul_of_nonneg_right->mm,mul_nonneg->sl,mul_one->tf,sign_eq_one_of_pos->hn,sign_mul->o9,sign_neg_iff->anS,sign_trichotomy->Oj,sub_zero->D4,toNat_natCast->gK,zero_mul->xu
open List renaming append_assoc->g8,append_inj->JA,append_nil->hD,concat_eq_append->BX,cons_append->m1,drop->hl,drop_append->qq,drop_append_of_le_length->aoQ,drop_eq_nil_of_le->lM,drop_succ_cons->yn,eq_nil_or_concat->BW,ext_getElem?->pE,filter_append->zo,filter_cons_of_neg->zp,filter_cons_of_pos->xW,filter_eq_nil_iff->anx,filter_nil->sE,flatMap_append->AZ,flatMap_cons->r8,flatMap_def->A0,flatMap_eq_nil_iff->anA,flatMap_nil->Fb,flatten_cons->l8,getD_eq_getElem?_getD->eD,getElem?_eq_getElem->bh,getElem?_eq_none->jZ,getElem?_eq_some_iff->dV,getElem?_map->bm,getElem?_range->vo,getElem?_replicate->ac0,getElem?_set->mr,getElem_mem->mh,length->D,length_append->gC,length_cons->lJ,length_drop->oz,length_eq_zero_iff->xY,length_filter_le->p2,length_map->al,length_range->td,length_replicate->xH,length_set->ie,length_singleton->qI,length_take->gP,map->sG,map_append->kE,map_congr_left->ox,map_cons->eE,map_nil->bY,map_replicate->KC,map_set->xD,mem_cons_of_mem->iG,mem_cons_self->g1,mem_filter->PE,mem_flatMap->zY,mem_map->gm,mem_map_of_mem->wA,mem_of_getElem?->dy,mem_of_mem_take->yo,mem_range->ig,nil_append->jE,range->eM,range_add->apd,range_succ->rM,replicate->ef,replicate_succ'->Qj,set_cons_zero->lB,set_eq_take_append_cons_drop->Vm,take->gT,take_add_one->hZ,take_append_drop->DM,take_append_of_le_length->EO,take_length->pb,take_of_length_le->dD,take_zero->nw
open List.cons renaming inj->yI,injEq->bj
open Nat renaming le_refl->cl,le_trans->eR,lt_or_ge->hO,lt_succ_self->anM,mul_le_mul->pj,mul_one->dZ,one_le_two_pow->acT,reduceEqDiff->cE,succ_mul->vp
open Option renaming getD_some->BJ
open Option.some renaming inj->nu,injEq->cF
open Prod renaming ext->et,ext_iff->Ad
open Prod.mk renaming injEq->fq
open Rat renaming add_zero->rH,den_intCast->Vh,divInt_eq_div->PL,intCast_le_intCast->acU,intCast_natCast->oe,le_refl->hp,le_trans->xM,lt_iff->acN,mul_zero->rI,natCast_add->acF,num_intCast->Vg,one_mul->EX,zero_den->PR,zero_num->PS
namespace Go.Mini
open Go
def xT:bJ:=b5 175 2 [.cell 4 3 true,.t 5] (Q [bQ 4 261004 sd,a7 5 0] (Q [aP 17 (.build sd []),bQ 6 261006 sd,aT 3 6 17] (.seq (Q [E 18 0,E 19 1,bI 20 Y0 18 19,fb 21 20] (b4 21 [aS 22 3 6,aT 3 4 22,a7 5 1])) (Q [E 23 0,E 24 1,E 25 0,cq 26 25,aP 27 (.mC 261027 [.H (.bool false)] 1 (.t 26) (.t 26)),aP 28 (.build [.nil,.nil,.nil,.nil,.H (.bool false)] [(0,1,.t 23),(1,1,.t 24),(3,1,.t 27)]),c0 29 261029 28,E 7 29] (.seq (.seq (.ghost (.Dr (.t 7) 2 261042 1) (.ghost (.Dr (.t 6) 2 261117 1) (.ops [a7 8 0]))) (dY 0 (.seq (Q [E 30 8,E 31 0,cq 32 31,bp 33 .lss 30 32] (dq 33 0)) (.seq (.block 1 (.ops [E 36 7,E 37 7,e7 38 37,aD 39 2 38,aA 40 1 39,aP 41 (.eW 261041 false [bM 0] 1 1 [(0,1,.c (bM 10))]),aP 42 (.app 261042 [bM 0] 8 (.t 40) (.t 41)),e7 43 36,aD 44 2 43,aT 1 44 42])) (.ops [E 34 8,a3 35 .add 34 1,E 8 35]))))) (.seq (dY 2 (.block 3 (Q [E 45 7,dv 46 Sv 45,aD 47 0 6,aT 1 47 46] (.seq (Q [E 48 7,e7 49 48,aD 50 4 49,aA 51 1 50] (b4 51 [aP 52 (.build sd []),aT 3 4 52,a7 5 6])) (Q [dO 9] (.seq (Q [a7 10 0] (.block 4 (.ghost (.nq 9 261080 1) (.loop  (.seq (Q [E 53 10,E 54 0,cq 55 54,bp 56 .lss 53 55] (dq 56 4)) (.seq (.block 5 (ed [aD 59 0 6,aA 60 1 59,E 61 10,br 62 4 60 61,aS 63 4 62,E 64 1,E 65 10,E 66 7,e7 67 66,aD 68 2 67,aA 69 1 68,E 70 10,br 71 1 69 70,aA 72 1 71,uG 73 sc 64 65 72,dv 74 rl 73,bI 75 uC 63 74,a3 76 .lss 75 0] Zh (e8 76 (.ops [E 77 9,E 78 10,aP 79 (.eW 261079 false [bM 0] 1 1 [(0,1,.t 78)]),aP 80 (.app 261080 [bM 0] 8 (.t 77) (.t 79)),E 9 80]) .skip))) (.ops [E 57 10,a3 58 .add 57 1,E 10 58]))))))) (.seq (Q [E 81 9,cq 82 81,a3 83 .eql 82 0] (e8 83 (.exit 2) .skip)) (.seq (Q [a7 11 0] (dY 6 (.seq (Q [E 84 11,E 85 9,cq 86 85,bp 87 .lss 84 86] (dq 87 6)) (.seq (.block 7 (.l9 [E 90 7,e7 91 90,aD 92 2 91,aA 93 1 92,E 94 9,E 95 11,br 96 1 94 95,aA 97 1 96,E 98 1,E 99 9,E 100 11,br 101 1 99 100,aA 102 1 101,aD 103 0 6,aA 104 1 103,E 105 9,E 106 11,br 107 1 105 106,aA 108 1 107,br 109 4 104 108,aS 110 4 109,uG 111 NI 98 102 110,br 112 1 93 97,aT 1 112 111] avX)) (.ops [E 88 11,a3 89 .add 88 1,E 11 89]))))) (.ghost (.freeze 9) (.ops [aD 113 2 6,aA 114 1 113,E 115 9,aP 116 (.eW 261116 false [.nil] 1 1 [(0,1,.t 115)]),aP 117 (.app 261117 [.nil] 24 (.t 114) (.t 116)),aD 118 2 6,aT 1 118 117])))))))))) (.seq (.seq (.ghost (.Dr (.t 6) 1 261172 4) (.ops [a7 12 0])) (dY 8 (.seq (Q [E 119 12,E 120 1,cq 121 120,bp 122 .lss 119 121] (dq 122 8)) (.seq (.block 9 (ed [E 126 1,E 127 1,E 128 12,br 129 4 127 128,aD 130 0 129,aA 131 1 130,aD 132 0 6,aA 133 1 132,E 134 1,E 135 12,br 136 4 134 135,aD 137 0 136,aA 138 1 137,br 139 4 133 138,aS 140 4 139,uG 141 Sw 126 131 140,E 125 141,a0 142 0 125,a0 143 1 125,E 13 142,E 14 143] avW (.seq (Q [E 144 14,a3 145 .neq 144 0] (b4 145 [aP 146 (.build sd []),aT 3 4 146,a7 5 6])) (Q [a7 15 0] (.seq (Q [a7 16 0] (dY 10 (.seq (Q [E 147 16,E 148 12,bp 149 .lss 147 148] (dq 149 10)) (.seq (.block 11 (ed [E 152 1,E 153 16,br 154 4 152 153,aD 155 0 154,aA 156 1 155,E 157 1,E 158 12,br 159 4 157 158,aD 160 0 159,aA 161 1 160,bp 162 .eql 156 161] Aa (e8 162 (.ops [E 163 15,a3 164 .add 163 1,E 15 164]) .skip))) (.ops [E 150 16,a3 151 .add 150 1,E 16 151]))))) (.l9 [aD 165 1 6,aA 166 1 165,E 167 13,E 168 15,br 169 4 167 168,aS 170 4 169,aP 171 (.eW 261171 false cG 4 1 [(0,4,.t 170)]),aP 172 (.app 261172 cG 64 (.t 166) (.t 171)),aD 173 1 6,aT 1 173 172] Jy)))))) (.ops [E 123 12,a3 124 .add 123 1,E 12 124]))))) (.seq (.ghost (.FI (.t 6) 1) (.ghost (.FI (.t 6) 2) (.ops [aS 174 3 6,aT 3 4 174,a7 5 0]))) .ret))))))))
def ank:bJ:=b5 85 2 [.t 4] (Q [cx 4 false] (Q [E 9 0,cq 10 9,E 5 10] (.seq (Q [E 11 5,a3 12 .gtr 11 60,E 13 12,fr 14 13 1,pN 15 13 14,fc 16 13 .gtr 15 2000,cv 17 13 16] (b4 17 [cx 4 false])) (.seq (Q [a7 6 0] (dY 0 (.seq (Q [E 18 6,E 19 5,bp 20 .lss 18 19] (dq 20 0)) (.seq (.block 1 (Q [E 23 0,E 24 6,br 25 1 23 24,aA 26 1 25,a3 27 .lss 26 0,E 28 27,fr 29 28 0,fr 30 28 6,B5 31 28 1 29 30,dG 32 28 1 31,fc 33 28 .gtr 32 1000000000000000,cv 34 28 33] (b4 34 [cx 4 false]))) (.ops [E 21 6,a3 22 .add 21 1,E 6 22]))))) (.seq (Q [a7 7 0] (dY 2 (.seq (Q [E 35 7,E 36 1,cq 37 36,bp 38 .lss 35 37] (dq 38 2)) (.seq (.block 3 (Q [E 41 1,E 42 7,br 43 4 41 42,aS 44 4 43,bQ 8 268008 lS,aT 4 8 44] (Q [aD 45 0 8,aA 46 1 45,a3 47 .lss 46 0,E 48 47,ez 49 48 0 8,dG 50 48 1 49,fr 51 48 5,rm 52 48 .geq 50 51,cv 53 48 52,E 54 53,ez 55 54 1 8,dG 56 54 1 55,e3 57 54 (.bin .lss (.t 56) (.c (.H (.int .i64 (-1))))),cv 58 54 57,E 59 58,ez 60 59 1 8,dG 61 59 1 60,fr 62 59 5,rm 63 59 .geq 61 62,cv 64 59 63,E 65 64,ez 66 65 2 8,dG 67 65 1 66,fc 68 65 .lss 67 0,cv 69 65 68,E 70 69,ez 71 70 2 8,dG 72 70 1 71,fc 73 70 .geq 72 10,cv 74 70 73,E 75 74,ez 76 75 3 8,dG 77 75 1 76,fc 78 75 .lss 77 0,cv 79 75 78,E 80 79,ez 81 80 3 8,dG 82 80 1 81,fc 83 80 .gtr 82 1000000000000000,cv 84 80 83] (b4 84 [cx 4 false])))) (.ops [E 39 7,a3 40 .add 39 1,E 7 40]))))) (Q [cx 4 true] .ret))))))
def K1:bJ:=b5 92 1 [.t 2] (Q [dO 2] (Q [E 8 0,e7 9 8,aD 10 0 9,aA 11 1 10,cq 12 11,E 3 12] (.seq (Q [a7 4 0] (dY 0 (.seq (Q [E 13 4,E 14 3,bp 15 .lss 13 14] (dq 15 0)) (.seq (.block 1 (.ops [E 18 0,e7 19 18,aD 20 3 19,aA 21 1 20,E 22 4,br 23 1 21 22,⟨none,none,.store 1 (.t 23) (.c (.H (.bool false)))⟩])) (.ops [E 16 4,a3 17 .add 16 1,E 4 17]))))) (.seq (dY 2 (.seq (Q [E 24 0,e7 25 24,aD 26 4 25,aA 27 1 26,fb 28 27] (dq 28 2)) (.block 3 (Q [E 29 0,dv 30 Y1 29,E 5 30] (Q [cx 6 false] (.seq (Q [a7 7 0] (dY 4 (.seq (Q [E 31 7,E 32 3,bp 33 .lss 31 32,E 34 33,eg 35 34 0,h0 36 34 (.oq (.t 35)),n4 37 34 4 36,j4 38 34 1 37,B6 39 34 38,gr 40 34 39] (dq 40 4)) (.seq (.block 5 (ed [E 43 0,e7 44 43,aD 45 2 44,aA 46 1 45,E 47 7,br 48 1 46 47,aA 49 1 48,a3 50 .lss 49 10,E 51 50,eg 52 51 0,h0 53 51 (.oq (.t 52)),n4 54 51 3 53,j4 55 51 1 54,eg 56 51 7,rn 57 51 1 55 56,j4 58 51 1 57,B6 59 51 58,gr 60 51 59,E 61 60,eg 62 61 5,eg 63 61 7,rn 64 61 4 62 63,uE 65 61 4 64,eg 66 61 0,h0 67 61 (.oq (.t 66)),n4 68 61 1 67,j4 69 61 1 68,eg 70 61 7,eg 71 61 0,h0 72 61 (.oq (.t 71)),n4 73 61 2 72,j4 74 61 1 73,eg 75 61 7,rn 76 61 1 74 75,j4 77 61 1 76,h0 78 61 (.call sc [.t 69,.t 70,.t 77]),h0 79 61 (.call rl [.t 78]),h0 80 61 (.call uC [.t 65,.t 79]),k7 81 61 .gtr 80 0,gr 82 61 81] [[],[],[],[],[],[],[],[],[],[],[],[],[],[],[],[],[],[],[],[],[],[],[],[],[],[],[],[],[],[],[],[],[],[],[],[],[],[],[],[]] (e8 82 (Q [E 83 0,e7 84 83,aD 85 3 84,aA 86 1 85,E 87 7,br 88 1 86 87,⟨none,none,.store 1 (.t 88) (.c (.H (.bool true)))⟩] (.ops [cx 6 true])) .skip))) (.ops [E 41 7,a3 42 .add 41 1,E 7 42]))))) (Q [E 89 6,fb 90 89] (b4 90 [E 91 5,E 2 91])))))))) (Q [dO 2] .ret)))))
def anl:bJ:=b5 11 1 [.cell 2 4 true] (Q [bQ 2 271002 cG] (Q [E 6 0,aP 7 (.call B1 [.t 6,.c (bM 1)]),E 5 7,a0 8 0 5,a0 9 1 5,bQ 3 271003 cG,aT 4 3 8,E 4 9] (Q [aS 10 4 3,aT 4 2 10] .ret)))
def anm:bJ:=b5 39 3 [.t 6] (Q [a7 6 0] (Q [a7 7 0] (.seq (Q [a7 8 0] (dY 0 (.seq (Q [E 9 8,E 10 0,cq 11 10,bp 12 .lss 9 11] (dq 12 0)) (.seq (.block 1 (Q [E 15 0,E 16 8,br 17 4 15 16,aD 18 0 17,aA 19 1 18,E 20 1,bp 21 .eql 19 20,E 22 21,eg 23 22 0,eg 24 22 8,rn 25 22 4 23 24,n4 26 22 2 25,j4 27 22 1 26,eg 28 22 2,uF 29 22 .lss 27 28,gr 30 22 29] (e8 30 (.ops [E 31 7,E 32 0,E 33 8,br 34 4 32 33,aD 35 3 34,aA 36 1 35,bp 37 .add 31 36,E 7 37]) .skip))) (.ops [E 13 8,a3 14 .add 13 1,E 8 14]))))) (Q [E 38 7,E 6 38] .ret))))
def ann:bJ:=b5 24 3 [.t 6] (Q [c0 5 273005 2,a7 6 0] (Q [a7 7 0] (.seq (dY 0 (.seq (ed [E 8 7,a3 9 .lss 8 10,E 10 9,uE 11 10 4 5,eg 12 10 0,eg 13 10 1,eg 14 10 7,k7 15 10 .add 14 1,h0 16 10 (.call sc [.t 12,.t 13,.t 15]),h0 17 10 (.call rl [.t 16]),h0 18 10 (.call uC [.t 11,.t 17]),k7 19 10 .geq 18 0,gr 20 10 19] GJ (dq 20 0)) (.block 1 (.ops [E 21 7,a3 22 .add 21 1,E 7 22])))) (Q [E 23 7,E 6 23] .ret))))
def ano:bJ:=b5 35 3 [.t 6,.t 7] (Q [c0 5 274005 2,dO 6,a7 7 0] (Q [dO 8] (.seq (Q [a7 9 0] (.block 0 (.ghost (.nq 8 274029 4) (.loop  (.seq (Q [E 10 9,E 11 0,cq 12 11,bp 13 .lss 10 12] (dq 13 0)) (.seq (.block 1 (Q [E 16 0,E 17 9,br 18 4 16 17,aD 19 0 18,aA 20 1 19,E 21 1,bp 22 .eql 20 21] (e8 22 (.ops [E 23 8,E 24 0,E 25 9,br 26 4 24 25,aS 27 4 26,aP 28 (.eW 274028 false lS 4 1 [(0,4,.t 27)]),aP 29 (.app 274029 lS 32 (.t 23) (.t 28)),E 8 29]) .skip))) (.ops [E 14 9,a3 15 .add 14 1,E 9 15]))))))) (.seq (.ghost (.freeze 8) (.ops [aS 30 4 5,E 31 8,bI 32 Y2 30 31,a0 33 0 32,a0 34 1 32,E 6 33,E 7 34])) .ret))))
def E9:bJ:=b5 188 1 [.t 2] (Q [dO 2] (Q [E 19 0,e7 20 19,aD 21 0 20,aA 22 1 21,cq 23 22,E 3 23] (Q [dO 4] (.seq (Q [a7 5 0] (.block 0 (.ghost (.nq 4 277165 5) (.loop  (.seq (Q [E 24 5,E 25 3,bp 26 .lss 24 25] (dq 26 0)) (.seq (.block 1 (Q [E 29 0,E 30 5,bI 31 Y3 29 30,dv 32 rl 31,aP 33 (.build oC [(1,4,.t 32)]),bQ 6 277006 oC,aT 5 6 33] (.seq (.seq (.ghost (.Dr (.t 6) 0 277043 4) (.ops [a7 7 0])) (dY 2 (.seq (Q [E 34 7,E 35 3,bp 36 .lss 34 35] (dq 36 2)) (.seq (.block 3 (.l9 [aD 39 0 6,aA 40 1 39,aP 41 (.call rl [.c (bM 0)]),aP 42 (.eW 277042 false cG 4 1 [(0,4,.t 41)]),aP 43 (.app 277043 cG 64 (.t 40) (.t 42)),aD 44 0 6,aT 1 44 43] Zf)) (.ops [E 37 7,a3 38 .add 37 1,E 7 38]))))) (ed [aD 45 0 6,aA 46 1 45,E 47 5,aP 48 (.call rl [.c (bM 1)]),br 49 4 46 47,aT 4 49 48] Ze (.seq (Q [a7 8 0] (dY 4 (.seq (Q [E 50 8,E 51 0,e7 52 51,aD 53 1 52,aA 54 1 53,cq 55 54,bp 56 .lss 50 55] (dq 56 4)) (.seq (.block 5 (Q [E 59 0,e7 60 59,aD 61 1 60,aA 62 1 61,E 63 8,br 64 4 62 63,aS 65 4 64,bQ 9 277009 lS,aT 4 9 65] (.seq (ed [aD 66 1 9,aA 67 1 66,E 68 5,bp 69 .neq 67 68,E 70 69,fr 71 70 0,e3 72 70 (.oq (.t 71)),ez 73 70 3 72,dG 74 70 1 73,ez 75 70 0 9,dG 76 70 1 75,B5 77 70 1 74 76,dG 78 70 1 77,ha 79 70 78,cv 80 70 79,E 81 80,ez 82 81 2 9,dG 83 81 1 82,fr 84 81 0,e3 85 81 (.oq (.t 84)),ez 86 81 2 85,dG 87 81 1 86,ez 88 81 0 9,dG 89 81 1 88,B5 90 81 1 87 89,dG 91 81 1 90,rm 92 81 .neq 83 91,cv 93 81 92,E 94 93,ez 95 94 3 9,dG 96 94 1 95,fc 97 94 .eql 96 0,cv 98 94 97] [[],[],[],[],[],[],[],[],[],[],[],[],[],[],[],[],[],[],[],[],[],[],[],[],[],[],[],[],[],[],[],[],[]] (e8 98 (.exit 5) .skip)) (Q [E 99 0,aS 100 4 9,bI 101 Sx 99 100,bQ 10 277010 cG,aT 4 10 101] (ed [aD 103 0 6,aA 104 1 103,aD 105 0 9,aA 106 1 105,br 107 4 104 106,aS 108 4 107,aS 109 4 10,bI 110 yB 108 109,E 102 110,a0 111 0 102,a0 112 1 102,bQ 11 277011 cG,aT 4 11 111,E 12 112] [[],[],[],[],[],[],[],[],[],[],[],[1,3,5,6],[],[]] (ed [aS 114 4 10,E 115 0,e7 116 115,aD 117 1 116,aA 118 1 117,aD 119 0 9,aA 120 1 119,aD 121 2 9,aA 122 1 121,uG 123 sc 118 120 122,dv 124 rl 123,bI 125 DT 114 124,E 113 125,a0 126 0 113,a0 127 1 113,bQ 13 277013 cG,aT 4 13 126,E 14 127] [[],[],[],[],[],[],[],[],[],[],[],[],[],[],[],[0,4,6,8],[],[]] (Q [aD 129 1 6,aS 130 4 129,aS 131 4 13,bI 132 yB 130 131,E 128 132,a0 133 0 128,a0 134 1 128,bQ 15 277015 cG,aT 4 15 133,E 16 134] (Q [E 135 0,E 136 0,e7 137 136,aD 138 4 137,aA 139 1 138,E 140 139,fr 141 140 12,fc 142 140 .neq 141 0,cv 143 140 142,E 144 143,fr 145 144 14,fc 146 144 .neq 145 0,cv 147 144 146,E 148 147,fr 149 148 16,fc 150 148 .neq 149 0,cv 151 148 150,e7 152 135,aD 153 4 152,aT 1 153 151] (Q [aD 154 0 6,aA 155 1 154,aD 156 0 9,aA 157 1 156,aS 158 4 11,br 159 4 155 157,aT 4 159 158] (.ops [aS 160 4 15,aD 161 1 6,aT 4 161 160])))))))))) (.ops [E 57 8,a3 58 .add 57 1,E 8 58]))))) (.ghost (.FI (.t 6) 0) (.ops [E 162 4,aS 163 5 6,aP 164 (.eW 277164 false oC 5 1 [(0,5,.t 163)]),aP 165 (.app 277165 oC 88 (.t 162) (.t 164)),E 4 165]))))))) (.ops [E 27 5,a3 28 .add 27 1,E 5 28]))))))) (.seq (Q [E 166 0,e7 167 166,aD 168 4 167,aA 169 1 168] (b4 169 [dO 2])) (.seq (.ghost (.freeze 4) (.ops [E 171 4,E 172 3,bI 173 YN 171 172,E 170 173,a0 174 0 170,a0 175 1 170,E 17 174,E 18 175])) (Q [E 176 0,E 177 0,e7 178 177,aD 179 4 178,aA 180 1 179,E 181 180,fr 182 181 18,fc 183 181 .neq 182 0,cv 184 181 183,e7 185 176,aD 186 4 185,aT 1 186 184] (Q [E 187 17,E 2 187] .ret))))))))
def UY:bJ:=b5 53 2 [.t 4] (Q [a7 4 0] (Q [E 8 0,e7 9 8,aD 10 0 9,aA 11 1 10,E 12 1,br 13 1 11 12,aA 14 1 13,E 5 14] (.seq (Q [a7 6 0] (dY 0 (.seq (Q [E 15 6,E 16 0,e7 17 16,aD 18 1 17,aA 19 1 18,cq 20 19,bp 21 .lss 15 20] (dq 21 0)) (.seq (.block 1 (Q [E 24 0,e7 25 24,aD 26 1 25,aA 27 1 26,E 28 6,br 29 4 27 28,aS 30 4 29,bQ 7 280007 lS,aT 4 7 30] (ed [aD 31 1 7,aA 32 1 31,E 33 1,bp 34 .eql 32 33,E 35 34,n4 36 35 2 7,j4 37 35 1 36,eg 38 35 0,h0 39 35 (.oq (.t 38)),n4 40 35 2 39,j4 41 35 1 40,n4 42 35 0 7,j4 43 35 1 42,rn 44 35 1 41 43,j4 45 35 1 44,uF 46 35 .lss 37 45,gr 47 35 46] agZ (e8 47 (.ops [E 48 5,aD 49 3 7,aA 50 1 49,bp 51 .add 48 50,E 5 51]) .skip)))) (.ops [E 22 6,a3 23 .add 22 1,E 6 23]))))) (Q [E 52 5,E 4 52] .ret))))
def UZ:bJ:=b5 45 2 [.cell 4 4 true] (Q [c0 3 281003 1,bQ 4 281004 cG] (ed [aD 8 3 3,aA 9 1 8,E 10 0,e7 11 10,aD 12 1 11,aA 13 1 12,aD 14 0 3,aA 15 1 14,aD 16 2 3,aA 17 1 16,a3 18 .add 17 1,uG 19 sc 13 15 18,E 20 0,e7 21 20,aD 22 1 21,aA 23 1 22,aD 24 0 3,aA 25 1 24,aD 26 2 3,aA 27 1 26,uG 28 sc 23 25 27,bp 29 .sub 19 28,bI 30 B1 9 29,E 7 30,a0 31 0 7,a0 32 1 7,bQ 5 281005 cG,aT 4 5 31,E 6 32] [[],[],[],[],[],[],[],[],[],[],[],[],[],[],[],[],[],[],[],[],[],[],[],[],[],[],[1,5,7,9,15,17,19],[],[]] (Q [E 33 0,E 34 0,e7 35 34,aD 36 4 35,aA 37 1 36,E 38 37,fr 39 38 6,fc 40 38 .neq 39 0,cv 41 38 40,e7 42 33,aD 43 4 42,aT 1 43 41] (Q [aS 44 4 5,aT 4 4 44] .ret))))
def anp:bJ:=b5 108 2 [.t 4,.t 5] (Q [c0 2 279002 0,dO 4,a7 5 0] (.seq (Q [aS 16 4 2,dv 17 qw 16,fb 18 17,E 19 18,fr 20 19 1,e3 21 19 (.call Y4 [.t 20]),ha 22 19 21,cv 23 19 22] (b4 23 [dO 4,a7 5 1])) (.seq (Q [aD 24 0 2,aD 25 0 24,aA 26 1 25,a3 27 .lss 26 0] (b4 27 [dO 4,a7 5 1])) (Q [E 28 1,cq 29 28,aP 30 (.mC 279030 cG 64 (.t 29) (.t 29)),E 6 30] (.seq (Q [a7 7 0] (dY 0 (.seq (Q [E 31 7,E 32 1,cq 33 32,bp 34 .lss 31 33] (dq 34 0)) (.seq (.block 1 (Q [E 38 1,E 39 1,E 40 7,br 41 4 39 40,aD 42 2 41,aA 43 1 42,bI 44 Y5 38 43,E 37 44,a0 45 0 37,a0 46 1 37,E 8 45,E 9 46] (ed [aS 48 4 2,E 49 8,aP 50 (.call DW [.t 49,.c (bM 1)]),bI 51 yB 48 50,E 47 51,a0 52 0 47,a0 53 1 47,bQ 10 279010 cG,aT 4 10 52,E 11 53] [[],[],[],[],[],[],[],[0],[],[]] (.seq (Q [E 54 11,a3 55 .neq 54 0] (b4 55 [E 56 11,dO 4,E 5 56])) (.seq (Q [aD 57 0 10,aD 58 0 57,aA 59 1 58,a3 60 .leq 59 0] (e8 60 (Q [E 61 6,E 62 7,aP 63 (.call DW [.c (bM 0),.c (bM 1)]),br 64 4 61 62,aT 4 64 63] (.exit 1)) .skip)) (.seq (ed [aS 65 4 10,E 66 9,aP 67 (.call DW [.t 66,.c (bM 1)]),bI 68 uC 65 67,a3 69 .geq 68 0] agX (e8 69 (Q [E 70 6,E 71 7,E 72 1,E 73 7,br 74 4 72 73,aD 75 3 74,aA 76 1 75,aP 77 (.call DW [.t 76,.c (bM 1)]),br 78 4 70 71,aT 4 78 77] (.exit 1)) .skip)) (ed [E 80 1,E 81 7,br 82 4 80 81,aD 83 3 82,aA 84 1 83,aP 85 (.call DW [.t 84,.c (bM 1)]),aS 86 4 10,bI 87 DT 85 86,E 79 87,a0 88 0 79,a0 89 1 79,bQ 12 279012 cG,aT 4 12 88,E 13 89] [[],[],[],[],[],[],[],[],[],[],[],[4,6],[],[]] (.seq (Q [E 90 13,a3 91 .neq 90 0] (b4 91 [E 92 13,dO 4,E 5 92])) (ed [aS 94 4 12,E 95 9,aP 96 (.call DW [.t 95,.c (bM 1)]),bI 97 Js 94 96,E 93 97,a0 98 0 93,a0 99 1 93,bQ 14 279014 cG,aT 4 14 98,E 15 99] [[],[],[],[],[],[],[],[0],[],[]] (.seq (Q [E 100 15,a3 101 .neq 100 0] (b4 101 [E 102 15,dO 4,E 5 102])) (.ops [E 103 6,E 104 7,aS 105 4 14,br 106 4 103 104,aT 4 106 105]))))))))))) (.ops [E 35 7,a3 36 .add 35 1,E 7 36]))))) (.seq (.ghost (.freeze 6) (.ops [E 107 6,E 4 107,a7 5 0])) .ret))))))
def anq:bJ:=b5 63 1 [.t 2] (Q [cx 2 false] (.seq (Q [E 5 0,cq 6 5,a3 7 .gtr 6 2000] (b4 7 [cx 2 false])) (.seq (Q [a7 3 0] (dY 0 (.seq (Q [E 8 3,E 9 0,cq 10 9,bp 11 .lss 8 10] (dq 11 0)) (.seq (.block 1 (Q [E 14 0,E 15 3,br 16 4 14 15,aS 17 4 16,bQ 4 282004 lS,aT 4 4 17] (.seq (Q [aD 18 0 4,aA 19 1 18,a3 20 .lss 19 0,E 21 20,ez 22 21 0 4,dG 23 21 1 22,fc 24 21 .geq 23 60,cv 25 21 24,E 26 25,ez 27 26 1 4,dG 28 26 1 27,e3 29 26 (.bin .lss (.t 28) (.c (.H (.int .i64 (-1))))),cv 30 26 29,E 31 30,ez 32 31 1 4,dG 33 31 1 32,fc 34 31 .geq 33 60,cv 35 31 34,E 36 35,ez 37 36 2 4,dG 38 36 1 37,fc 39 36 .lss 38 0,cv 40 36 39,E 41 40,ez 42 41 2 4,dG 43 41 1 42,fc 44 41 .geq 43 10,cv 45 41 44,E 46 45,ez 47 46 3 4,dG 48 46 1 47,fc 49 46 .lss 48 0,cv 50 46 49,E 51 50,ez 52 51 3 4,dG 53 51 1 52,fc 54 51 .gtr 53 1000000000000000,cv 55 51 54] (b4 55 [cx 2 false])) (ed [aD 56 0 4,aA 57 1 56,E 58 0,aP 59 (.q2 4 (.t 58) (.c (bM 0))),aD 60 0 59,aA 61 1 60,bp 62 .neq 57 61] Zf (b4 62 [cx 2 false]))))) (.ops [E 12 3,a3 13 .add 12 1,E 3 13]))))) (Q [cx 2 true] .ret))))
def anr:bJ:=b5 45 2 [.t 4,.t 5] (Q [a7 4 0,a7 5 0] (Q [a7 6 0] (Q [a7 7 0] (.seq (Q [a7 8 0] (dY 0 (.seq (Q [E 9 8,E 10 0,cq 11 10,bp 12 .lss 9 11] (dq 12 0)) (.seq (.block 1 (.seq (Q [E 15 0,E 16 8,br 17 4 15 16,aD 18 2 17,aA 19 1 18,E 20 1,bp 21 .lss 19 20] (e8 21 (.ops [E 22 6,E 23 0,E 24 8,br 25 4 23 24,aD 26 3 25,aA 27 1 26,bp 28 .add 22 27,E 6 28]) .skip)) (Q [E 29 0,E 30 8,br 31 4 29 30,aD 32 2 31,aA 33 1 32,E 34 1,bp 35 .eql 33 34] (e8 35 (.ops [E 36 7,E 37 0,E 38 8,br 39 4 37 38,aD 40 3 39,aA 41 1 40,bp 42 .add 36 41,E 7 42]) .skip)))) (.ops [E 13 8,a3 14 .add 13 1,E 8 14]))))) (Q [E 43 6,E 44 7,E 4 43,E 5 44] .ret)))))
def ans:bJ:=b5 14 2 [.cell 4 4 true] (Q [bQ 4 284004 cG] (Q [E 8 0,E 9 1,bI 10 B1 8 9,E 7 10,a0 11 0 7,a0 12 1 7,bQ 5 284005 cG,aT 4 5 11,E 6 12] (Q [aS 13 4 5,aT 4 4 13] .ret)))
def ant:bJ:=b5 46 1 [.t 2] (Q [cx 2 false] (.seq (Q [E 5 0,cq 6 5,a7 7 0] (dY 0 (Q [bp 8 .lss 7 6] (.seq (dq 8 0) (.seq (.block 1 (Q [br 9 4 5 7,aS 10 4 9,bQ 4 240004 lS,aT 4 4 10] (ed [aD 11 0 4,aA 12 1 11,aP 13 (.call Jv [.t 12,.c (bM 0),.c (bM 59)]),fb 14 13,E 15 14,ez 16 15 1 4,dG 17 15 1 16,e3 18 15 (.call Jv [.t 17,.c (.H (.int .i64 (-1))),.c (bM 59)]),ha 19 15 18,cv 20 15 19,E 21 20,ez 22 21 2 4,dG 23 21 1 22,e3 24 21 (.call Jv [.t 23,.c (bM 0),.c (bM 9)]),ha 25 21 24,cv 26 21 25,E 27 26,ez 28 27 3 4,dG 29 27 1 28,e3 30 27 (.call Jv [.t 29,.c (bM 0),.c (bM 1000000000000000)]),ha 31 27 30,cv 32 27 31,E 33 32,ez 34 33 0 4,dG 35 33 1 34,fr 36 33 0,e3 37 33 (.q2 4 (.t 36) (.c (bM 0))),ez 38 33 0 37,dG 39 33 1 38,rm 40 33 .neq 35 39,cv 41 33 40] [[],[],[],[],[],[],[],[],[],[],[],[],[],[],[],[],[],[],[],[],[],[],[],[],[],[],[],[],[],[],[]] (b4 41 [cx 2 false])))) (.ops [a3 42 .add 7 1,E 7 42])))))) (Q [E 43 0,cq 44 43,a3 45 .leq 44 2000,E 2 45] .ret)))
def anu:bJ:=b5 11 1 [.cell 2 4 true] (Q [bQ 2 241002 cG] (Q [E 6 0,aP 7 (.call Gm [.t 6,.c (bM 1)]),E 5 7,a0 8 0 5,a0 9 1 5,bQ 3 241003 cG,aT 4 3 8,E 4 9] (Q [aS 10 4 3,aT 4 2 10] .ret)))
def K2:bJ:=b5 118 2 [.t 4,.t 5] (Q [c0 2 249002 0,dO 4,a7 5 0] (.seq (ed [aS 19 4 2,dv 20 o1 19,fb 21 20,E 22 21,iR 23 22 4 2,e3 24 22 (.call z9 [.c (bM 0)]),e3 25 22 (.call sa [.t 23,.t 24]),fc 26 22 .lss 25 0,cv 27 22 26,E 28 27,fr 29 28 1,e3 30 28 (.call YV [.t 29]),ha 31 28 30,cv 32 28 31] NT (b4 32 [dO 4,a7 5 1])) (Q [E 33 1,cq 34 33,aP 35 (.mC 249035 cG 64 (.t 34) (.t 34)),E 6 35] (Q [aS 36 4 2,bQ 7 249007 cG,aT 4 7 36] (.seq (Q [a7 37 0] (dY 0 (Q [a3 38 .lss 37 10] (.seq (dq 38 0) (.seq (.block 1 (Q [E 39 37,E 8 39] (Q [a7 9 0] (.seq (Q [E 40 1,cq 41 40,a7 42 0] (dY 2 (Q [bp 43 .lss 42 41] (.seq (dq 43 2) (.seq (.block 3 (Q [br 44 4 40 42,aS 45 4 44,bQ 11 249011 lS,aT 4 11 45] (Q [aD 46 2 11,aA 47 1 46,E 48 8,bp 49 .eql 47 48] (e8 49 (.ops [E 50 9,aD 51 3 11,aA 52 1 51,bp 53 .add 50 52,E 9 53]) .skip)))) (.ops [a3 54 .add 42 1,E 42 54])))))) (ed [aS 55 4 7,E 56 9,dv 57 z9 56,bI 58 sa 55 57,a3 59 .geq 58 0,E 12 59] Ze (.seq (Q [E 60 1,cq 61 60,a7 62 0] (dY 4 (Q [bp 63 .lss 62 61] (.seq (dq 63 4) (.seq (.block 5 (Q [E 64 62,br 65 4 60 62,aS 66 4 65,bQ 14 249014 lS,E 13 64,aT 4 14 66] (.seq (Q [aD 67 2 14,aA 68 1 67,E 69 8,bp 70 .neq 68 69] (e8 70 (.exit 5) .skip)) (Q [E 71 6,E 72 13,aD 73 3 14,aA 74 1 73,dv 75 z9 74,br 76 4 71 72,aT 4 76 75] (.seq (Q [E 77 12] (e8 77 (.exit 5) .skip)) (ed [aD 79 3 14,aA 80 1 79,dv 81 z9 80,aS 82 4 7,bI 83 yA 81 82,E 78 83,a0 84 0 78,a0 85 1 78,bQ 15 249015 cG,aT 4 15 84,E 16 85] [[],[],[],[],[],[],[],[],[1,3],[],[]] (.seq (Q [E 86 16,a3 87 .eql 86 0] (e8 87 (.l9 [E 89 6,E 90 13,aS 91 4 15,E 92 9,dv 93 z9 92,bI 94 Gr 91 93,E 88 94,a0 95 0 88,a0 96 1 88,br 97 4 89 90,aT 4 97 95,E 16 96] agY) .skip)) (Q [E 98 16,a3 99 .neq 98 0] (b4 99 [E 100 16,dO 4,E 5 100]))))))))) (.ops [a3 101 .add 62 1,E 62 101])))))) (.seq (Q [E 102 12,fb 103 102] (e8 103 (Q [aP 104 (.call z9 [.c (bM 0)]),aT 4 7 104] (.exit 1)) .skip)) (ed [aS 106 4 7,E 107 9,dv 108 z9 107,bI 109 xb 106 108,E 105 109,a0 110 0 105,a0 111 1 105,bQ 17 249017 cG,aT 4 17 110,E 18 111] [[],[],[],[],[],[],[],[0],[],[]] (.seq (Q [E 112 18,a3 113 .neq 112 0] (b4 113 [E 114 18,dO 4,E 5 114])) (.ops [aS 115 4 17,aT 4 7 115])))))))))) (.ops [a3 116 .add 37 1,E 37 116])))))) (.seq (.ghost (.freeze 6) (.ops [E 117 6,E 4 117,a7 5 0])) .ret))))))
def anv:bJ:=b5 15 3 [.t 6] (Q [cx 6 false] (Q [E 7 0,E 8 1,bp 9 .geq 7 8,E 10 9,eg 11 10 0,eg 12 10 2,uF 13 10 .leq 11 12,gr 14 10 13,E 6 14] .ret))


def bL (c:aB):List Data:=[.int .i64 c.1,.int .i64 c.2.1,.int .i64 c.2.2.1,.int .i64 c.2.2.2]
def p3 (c:aB):(bL c).length=4:=rfl
def U0 (c:aB):((bL c).map M.H).all M.one=true:=rfl
def tM:∀a b:aB,bL a=bL b->a=b:=by
 rintro⟨cz,cY,eA,eQ⟩ ⟨cQ,dN,gy,g3⟩ h;simp only[bL,bj,Data.int.injEq,true_and,and_true] at h;obtain⟨rfl,rfl,rfl,rfl⟩:=h
 rfl
def PX {cs:List aB}{i:Nat}{c:aB}(h:cs[i]?=some c)(aO:aB->Int):cJ (cs.take (i+1)) aO=cJ (cs.take i) aO+aO c:=by
 rw[hZ,h,PF];simp[cJ]
def AX (cs:List aB):Prop:=D cs<=2000/\∀c∈cs,0<=c.2.2.2/\c.2.2.2<=1000000000000000
def AX.sum {cs:List aB}(h:AX cs)(p:aB->Prop)[DecidablePred p](i:Nat):0<=cJ (cs.take i) (λc=>if p c then c.2.2.2 else 0)/\cJ (cs.take i) (λc=>if p c then c.2.2.2 else 0)<=2000000000000000000:=by
 have F:=abT (cs:=cs.take i) (aO:=λc=>if p c then c.2.2.2 else 0) (B:=1000000000000000) (by omega) λc J=>by
  have:=h.2 c (yo J)
  try dsimp only
  split<;>omega
 have G:=h.1;have ab:(cs.take i).length<=D cs:=by rw[gP];omega
 omega
def AY {cash:List Int}{cs:List aB}(h:hr cash cs=true):AX cs :=
 ⟨(hL.1 h).2.1,λc J=>⟨((hL.1 h).2.2.2 c J).2.2.2.2.2.2.1,((hL.1 h).2.2.2 c J).2.2.2.2.2.2.2⟩⟩
def PY {n:Int}(h:eJ n):jw (bl n) (bl 1)=(av (n:Rat),0):=by
 rw[Cs (uN h) (by decide +kernel) (by decide),PL,show ((1:Int):Rat)=1 from rfl,show (n:Rat)/1=n by grind]
def xU:=bV o3 λ(n:Int)=>cu (eJ n) (.same (.agg (az (av (n:Rat)))))
@[go_sem] def HQ (n):=cH xU rfl B7 n rfl
def aC2 (T:ba)(HR:T B1=aK Ez):WF T anl xU:=by
 refine cp λn=>cT λJ=>⟨rfl,ck ?_⟩;simp only[anl,o3,cd];have F:eJ 1:=by unfold eJ;omega
 have h:=PY J;generalize av (n:Rat)=aO at *;obtain⟨⟨a,b⟩,⟨c,d⟩⟩:=aO;refine ai ?_;repeat' (intro (ao:_=_)<;>simp only[ao,go_sem,go_sem_proc,HR,J,F,h,dT,az]<;>try refine ag ?_ ?_)
def u4:=bV o3 λ(n:Int)=>cu (eJ n) (.same (.agg (az (av (n:Rat)))))
@[go_sem] def Fa (n):=cH u4 rfl B7 n rfl
def aC3 (T:ba)(PZ:T Gm=aK J3):WF T ajh u4:=by
 refine cp λn=>cT λJ=>⟨rfl,ck ?_⟩;simp only[ajh,o3,cd];have F:eJ 1:=by unfold eJ;omega
 have h:=PY J;generalize av (n:Rat)=aO at *;obtain⟨⟨a,b⟩,⟨c,d⟩⟩:=aO;refine ai ?_;repeat' (intro (ao:_=_)<;>simp only[ao,go_sem,go_sem_proc,PZ,J,F,h,dT,az]<;>try refine ag ?_ ?_)
def K3:=bV o3 λ(n:Int)=>cu (eJ n) (.same (.agg (az (av (n:Rat)))))
@[go_sem] def aC4 (n):=cH K3 rfl B7 n rfl
def aC5 (T:ba)(PZ:T Gm=aK J3):WF T anu K3:=by
 refine cp λn=>cT λJ=>⟨rfl,ck ?_⟩;simp only[anu,o3,cd];have F:eJ 1:=by unfold eJ;omega
 have h:=PY J;generalize av (n:Rat)=aO at *;obtain⟨⟨a,b⟩,⟨c,d⟩⟩:=aO;refine ai ?_;repeat' (intro (ao:_=_)<;>simp only[ao,go_sem,go_sem_proc,PZ,J,F,h,dT,az]<;>try refine ag ?_ ?_)
def P0:=bV Ae λ(p,q)=>cu (eJ p/\eJ q) (.same (.agg (az (jw (bl p) (bl q)).1)))
@[go_sem] def aC6 (p q):=cH P0 rfl SI (p,q) rfl
def aC7 (T:ba)(HR:T B1=aK Ez):WF T ans P0:=by
 refine cp λ(p,q)=>cT λJ=>⟨rfl,ck ?_⟩;simp only[ans,Ae,cd];obtain⟨F,G⟩:=J;generalize ec:jw (bl p) (bl q)=aO at *;obtain⟨⟨⟨a,b⟩,⟨c,d⟩⟩,e⟩:=aO;refine ai ?_;repeat' (intro h<;>simp only[h,go_sem,go_sem_proc,HR,F,G,ec,dT,az]<;>try refine ag ?_ ?_)
abbrev U1:(List aB)×Int×Int->List Data:=λ(cs,cK,r)=>[.ax (cs.map bL),.int .i64 cK,.int .i64 r]
def xV:=bV U1 λ(cs,cK,r)=>cu (AX cs) (.same (.int .i64 (bT cs cK r)))
def aC8:∀a b,U1 a=U1 b->a=b:=by
  rintro⟨C0,aC9,e2⟩ ⟨uq,aDa,fa⟩ h;simp only[bj,Data.int.injEq,Data.ax.injEq] at h;exact et (map_inj tM _ _ h.1) (et h.2.1.2 h.2.2.1.2)
@[go_sem] def U2 (cs cK r):=cH xV rfl aC8 (cs,cK,r) rfl
def aDb (T:ba):WF T anm xV:=by
 refine cp λ(cs,cK,r)=>cT λJ=>⟨rfl,ck ?_⟩;simp only[anm,U1,cd];have aq:=J.1;simp only[go_sem,go_sem_proc,al];refine dd [0,1,2] [] (λ(i:Nat) tm mem=>i<=D cs/\tm 7=.H (.int .i64 (bT (cs.take i) cK r))/\tm 8=.H (.int .i64 i)) (λi=>D cs-i) 0 (by refine⟨by omega,rfl,rfl⟩) ?_;intro vs ms aQ aM;simp only[go_sem,go_sem_proc,al] at aQ aM;subst aQ aM;rintro i tm mem I hm ⟨O,b9,cS⟩;simp only[go_sem,go_sem_proc,bj] at I;obtain⟨ay,F,G⟩:=I;rcases dn (i<D cs) with ah|bW
 ·obtain⟨⟨a,b,k,m⟩,L⟩:∃c,cs[i]?=some c:=⟨_,bh ah⟩;have d1:decide ((i:Int)<(D cs:Int))=true:=cX;have bF:=eI (i:=i) (by omega);have R:=J.sum (λc=>c.1=cK/\c.2.2.1<r) i;have hm:=J.2 _ (dy L);have da:=PX L λc=>if c.1=cK/\c.2.2.1<r then c.2.2.2 else 0;unfold bT at b9 ⊢;generalize cJ (cs.take i) (λc=>if c.1=cK/\c.2.2.1<r then c.2.2.2 else 0)=s at *;dsimp only at da hm;have jN:IntKind.i64.wrap (s+m)=s+m:=by rw[eY _]
  rcases au:(a==cK)
  ·have:¬ (a=cK/\k<r):=λh=>by rw[h.1] at au;simp at au
   rw[aa this] at da;refine ai ?_;repeat' (intro (ao:_=_)<;>simp only[ao,go_sem,go_sem_proc,ay,F,G,b9,cS,L,d1,bF,jN,au,bL,al,bm]<;>try refine ag ?_ ?_)
   exact⟨i+1,by omega,by omega,by rw[da,rr],rfl⟩
  ·have Hf:=beq_iff_eq.1 au;rcases aC:decide (k<r)
   ·have:¬ (a=cK/\k<r):=λh=>of_decide_eq_false aC h.2;rw[aa this] at da;refine ai ?_;repeat' (intro (ao:_=_)<;>simp only[ao,go_sem,go_sem_proc,ay,F,G,b9,cS,L,d1,bF,jN,au,aC,bL,al,bm]<;>try refine ag ?_ ?_)
    exact⟨i+1,by omega,by omega,by rw[da,rr],rfl⟩
   ·rw[Y ⟨Hf,of_decide_eq_true aC⟩] at da;refine ai ?_;repeat' (intro (ao:_=_)<;>simp only[ao,go_sem,go_sem_proc,ay,F,G,b9,cS,L,d1,bF,jN,au,aC,bL,al,bm]<;>try refine ag ?_ ?_)
    exact⟨i+1,by omega,by omega,by rw[da],rfl⟩
 ·have d1:decide ((i:Int)<(D cs:Int))=false:=b7;rw[dD (by omega)] at b9;refine ai ?_;repeat' (intro (ao:_=_)<;>simp only[ao,go_sem,go_sem_proc,ay,F,G,b9,cS,d1,al]<;>try refine ag ?_ ?_)
def aDc {x:List Data}(h:Fits [.int .i64,.int .i64,.int .i64,.int .i64] x):∃c:aB,x=bL c:=by
 simp only[Fit,Fits] at h;obtain⟨_,_,rfl,⟨a,rfl,-⟩,_,_,rfl,⟨b,rfl,-⟩,_,_,rfl,⟨c,rfl,-⟩,_,_,rfl,⟨d,rfl,-⟩,rfl⟩:=h;exact⟨(a,b,c,d),rfl⟩
def aDd {es:List (List Data)}(h:∀x∈es,Fit (.st [.int .i64,.int .i64,.int .i64,.int .i64]) x):∃l:List aB,es=l.map bL:=by
 obtain⟨l,e,-⟩:=Yq (e:=bL) (good:=λ_=>True) λx L=>by
  have:=h x L;unfold Fit at this;obtain⟨c,rfl⟩:=aDc this;exact⟨c,rfl,trivial⟩
 exact⟨l,e⟩
end Go.Mini
namespace Go.Mini
open Classical
structure Alike (d e:Day):Prop where
 n:d.n=e.n
 cash:d.cash=e.cash
 mem:∀c,c∈d.dE↔c∈e.dE
 sum:∀aO,cC d.dE aO=cC e.dE aO
def Alike.symm {d e:Day}(h:Alike d e):Alike e d:=⟨h.n.symm,h.cash.symm,λc=>(h.mem c).symm,λaO=>(h.sum aO).symm⟩
section
variable {d e:Day} (h:Alike d e)
include h
def Alike.U:d.U=e.U:=by funext k r;exact h.sum _
def Alike.S:d.S=e.S:=by funext k r;exact h.sum _
def Alike.w:d.w=e.w:=by funext c;unfold Day.w;rw[h.S]
def Alike.q:d.q=e.q:=by funext f x c;unfold Day.q;rw[h.U,h.w]
def Alike.l:d.l=e.l:=by funext f P x c;unfold Day.l;rw[h.U,h.w]
def Alike.kf:d.kf=e.kf:=by funext x c;unfold Day.kf;rw[h.U,h.w]
def Alike.fz:d.fz=e.fz:=by funext a i;unfold Day.fz;rw[h.cash,h.sum]
def Alike.xN:d.xN=e.xN:=by funext x i;unfold Day.xN;rw[h.fz,h.kf]
def Alike.hK:d.hK=e.hK:=by funext C x;unfold Day.hK;rw[h.n]
def Alike.cap:d.cap=e.cap:=by funext f g C k;unfold Day.cap;rw[h.U]
def Alike.closed (f:Nat->Nat)(C:Nat->Prop):d.closed f C↔e.closed f C:=by
 unfold Day.closed;exact⟨λk c J=>k c ((h.mem c).2 J),λk c J=>k c ((h.mem c).1 J)⟩
def Alike.inv {f:Nat->Nat}{g:Nat->Rat}(a:Inv d f g):Inv e f g:=by
 obtain⟨F,G,ab,aV,bu⟩:=a;refine⟨F,λi O=>?_,λi O aH=>?_,λi O aH=>?_,λC lF aDe aDf=>?_⟩
 ·have:=G i (by rw[h.n];exact O);rwa [h.fz,h.q] at this
 ·have:=ab i (by rw[h.n];exact O) aH;rwa [h.U] at this
 ·have:=aV i (by rw[h.n];exact O) aH;rwa [h.U] at this
 ·have:=bu C lF (λi O=>by rw[h.n];exact aDe i O) ((h.closed f C).2 aDf);rwa [h.hK,h.fz,h.q,h.cap,h.U] at this
def Alike.ok (a:d.dJ):e.dJ:=⟨λc J=>by rw[<-h.n];exact a.aF c ((h.mem c).2 J),λc J=>by rw[<-h.n];exact a.to c ((h.mem c).2 J),λc J=>a.rk c ((h.mem c).2 J),λc J=>a.am c ((h.mem c).2 J),λi O=>by rw[<-h.cash];exact a.cash i (by rw[h.n];exact O)⟩
def Alike.anw {f:Nat->Nat}{x:Nat->Rat}(a:oN d f x):oN e f x:=by
 obtain⟨g,F,G,ab⟩:=a;refine⟨g,h.inv F,λi O=>?_,λi O=>ab i (by rw[h.n];exact O)⟩;have:=G i (by rw[h.n];exact O);rwa [h.fz,h.q] at this
def Alike.aDg:oN d=oN e:=by
 funext f x
 exact propext ⟨h.anw,h.symm.anw⟩
def Alike.top:d.top=e.top:=by
 funext f
 unfold Day.top;rw[h.aDg]
def Alike.h6:d.h6=e.h6:=by
 funext f
 unfold Day.h6;rw[h.top,h.U,h.n]
def Alike.jA:d.jA=e.jA:=by
 funext x i k
 induction k with
 |zero=>rfl
 |succ k aG=>unfold Day.jA;rw[h.U,aG]
def Alike.gz:d.gz=e.gz:=by
 funext f x i
 unfold Day.gz;rw[h.n,h.U,h.jA]
def Alike.rounds:d.rounds=e.rounds:=by
 funext k
 induction k with
 |zero=>funext f;rfl
 |succ k aG =>
  funext f
  unfold Day.rounds;rw[h.h6,h.gz,h.top,aG]
end
def dx (cs:List aB)(i k:Nat):List aB:=cs.filter λc=>c.1==(i:Int)&&c.2.2.1==(k:Int)
def HS {cs:List aB}{i k:Nat}{c:aB}:c∈dx cs i k↔c∈cs/\c.1=(i:Int)/\c.2.2.1=(k:Int):=by
 unfold dx;rw[PE,fC,beq_iff_eq,beq_iff_eq]
def dR (n:Nat)(cs:List aB):List aB:=(eM n).flatMap λi=>(eM 10).flatMap λk=>dx cs i k
def aDh (cs:List aB)(i k j r:Nat):dx (dx cs i k) j r=if i=j/\k=r then dx cs i k else []:=by
 unfold dx;rw[List.filter_filter]
 by_cases h:i=j/\k=r
 ·obtain⟨rfl,rfl⟩:=h;rw[Y ⟨rfl,rfl⟩]
  congr 1
  funext c
  simp
 ·rw[aa h,anx];intro c _;simp only[fC,beq_iff_eq];rintro⟨⟨F,G⟩,ab,aV⟩;exact h ⟨by omega,by omega⟩
def anz {α:Type}{n i:Nat}(O:i<n)(aO:Nat->List α)(h:∀k,k<n->k≠i->aO k=[]):(eM n).flatMap aO=aO i:=by
 induction n with
 |zero=>omega
 |succ n aG =>
  rw[rM,AZ,r8,Fb,hD]
  by_cases aL:i=n
  ·subst aL
   have:(eM i).flatMap aO=[]:=by
    rw[anA];intro k I;have:=ig.1 I;exact h k (by omega) (by omega)
   rw[this,jE]
  ·rw[aG (by omega) λk I=>h k (by omega),h n (by omega) (Ne.symm aL),hD]
def anB {α:Type}(l:List α)(aO:α->List aB)(i k:Nat):dx (l.flatMap aO) i k=l.flatMap λx=>dx (aO x) i k:=by
 unfold dx
 induction l with
 |nil=>rfl
 |cons a l aG=>rw[r8,r8,zo,aG]
def anC {n i k:Nat}(cs:List aB)(O:i<n)(I:k<10):dx (dR n cs) i k=dx cs i k:=by
 unfold dR;rw[anB];simp only[anB,aDh];rw[anz O,anz I]
 ·rw[Y ⟨rfl,rfl⟩]
 ·intro r _ X;rw[aa λh=>X h.2]
 ·intro j _ ae;rw[anA];intro r _;rw[aa λh=>ae h.1]
def anD {n:Nat}{a b:List aB}(h:∀i,i<n->∀k,k<10->dx a i k=dx b i k):dR n a=dR n b:=by
 unfold dR;rw[A0,A0]
 congr 1
 refine ox λi O=>?_;rw[A0,A0]
 congr 1
 exact ox λk I=>h i (ig.1 O) k (ig.1 I)
def aDi (n:Nat)(cs:List aB):dR n (dR n cs)=dR n cs:=anD λ_ O _ I=>anC cs O I
def acD {n:Nat}{cs:List aB}(X:∀c∈cs,0<=c.1/\c.1<n/\0<=c.2.2.1/\c.2.2.1<10){c:aB}:c∈dR n cs↔c∈cs:=by
 unfold dR;simp only[zY,ig,HS]
 constructor
 ·rintro⟨i,-,k,-,h,-⟩;exact h
 ·intro J;have:=X c J;exact⟨c.1.toNat,by omega,c.2.2.1.toNat,by omega,J,by omega,by omega⟩
def P1 (a b:List ej)(aO:ej->Rat):cC (a++b) aO=cC a aO+cC b aO:=by
 induction a with
 |nil=>simp only[jE,cC];grind
 |cons c l aG=>rw[m1,cC,cC,aG];grind
def anE (aO:Nat->List aB)(bs:ej->Rat)(n:Nat):cC (((eM n).flatMap aO).map bP) bs=bR n λi=>cC ((aO i).map bP) bs:=by
 induction n with
 |zero=>rfl
 |succ n aG=>rw[rM,AZ,kE,P1,aG,bR,r8,Fb,hD]
def aDj {l:List ej}(aq:∀c∈l,c.rk<10)(b:Nat->ej->Rat):bR 10 (λk=>cC l (λc=>if c.rk=k then b k c else 0))=cC l (λc=>b c.rk c):=by
 induction l with
 |nil=>exact u0 λk _=>rfl
 |cons c l aG =>
  rw[cC,<-aG λx L=>aq x (iG _ L)];have e:(λk:Nat=>cC (c::l) (λc=>if c.rk=k then b k c else 0))=λk=>(if c.rk=k then b k c else 0)+cC l (λc=>if c.rk=k then b k c else 0):=rfl;rw[e,xK]
  congr 1
  rw[AM (aq c g1) λk _ I=>aa (Ne.symm I),Y rfl]
def acE {cs:List aB}(X:∀c∈cs,0<=c.1/\0<=c.2.2.1)(i k:Nat)(bs:ej->Rat):cC ((dx cs i k).map bP) bs=cC (cs.map bP) λc=>if c.aF=i/\c.rk=k then bs c else 0:=by
 induction cs with
 |nil=>rfl
 |cons c l aG =>
  have ay:=X c g1;have aG:=aG λx L=>X x (iG _ L);unfold dx at aG ⊢;rw[eE,cC,<-aG]
  by_cases h:(bP c).aF=i/\(bP c).rk=k
  ·obtain⟨F,G⟩:=h;have au:c.1=(i:Int):=by have:c.1.toNat=i:=F;omega
   have aC:c.2.2.1=(k:Int):=by have:c.2.2.1.toNat=k:=G;omega
   rw[xW (by simp[au,aC]),eE,cC,Y ⟨F,G⟩]
  ·rw[aa h,zp,Rat.zero_add];intro ad;rw[fC,beq_iff_eq,beq_iff_eq] at ad;refine h ⟨?_,?_⟩
   ·show c.1.toNat=i;omega
   ·show c.2.2.1.toNat=k;omega
def anF {n:Nat}{cs:List aB}(X:∀c∈cs,0<=c.1/\c.1<n/\0<=c.2.2.1/\c.2.2.1<10)(bs:ej->Rat):cC ((dR n cs).map bP) bs=cC (cs.map bP) bs:=by
 unfold dR;rw[anE]
 have bg:∀c∈cs.map bP,c.aF<n:=λc J=>by
  obtain⟨x,L,rfl⟩:=gm.1 J;have:=X x L;show x.1.toNat<n;omega
 have iH:∀c∈cs.map bP,c.rk<10:=λc J=>by
  obtain⟨x,L,rfl⟩:=gm.1 J;have:=X x L;show x.2.2.1.toNat<10;omega
 have e:(λi=>cC (((eM 10).flatMap λk=>dx cs i k).map bP) bs)=λi=>cC (cs.map bP) λc=>if c.aF=i then bs c else 0:=by
  funext i
  rw[anE,<-aDj iH λ_ c=>if c.aF=i then bs c else 0]
  congr 1
  funext k
  rw[acE λc J=>⟨(X c J).1,(X c J).2.2.1⟩];refine wv λc _=>?_
  by_cases F:c.rk=k
  ·rw[Y F]
   by_cases G:c.aF=i
   ·rw[Y ⟨G,F⟩,Y G]
   ·rw[aa λh=>G h.1,aa G]
  ·rw[aa F,aa λh=>F h.2]
 rw[e,abB bg λ_ c=>bs c]
def anG {cash:List Int}{cs:List aB}(h:hr cash cs=true):Alike (af cash cs) (af cash (dR (D cash) cs)):=by
 have X:∀c∈cs,0<=c.1/\c.1<D cash/\0<=c.2.2.1/\c.2.2.1<10:=λc J=>by
  have:=(hL.1 h).2.2.2 c J;exact⟨this.1,this.2.1,this.2.2.2.2.1,this.2.2.2.2.2.1⟩
 refine⟨rfl,rfl,λc=>?_,λaO=>(anF X aO).symm⟩;show c∈cs.map bP↔c∈(dR (D cash) cs).map bP;rw[gm,gm];simp only[acD X]
def anH {n:Nat}{cs:List aB}(X:∀c∈cs,0<=c.1/\c.1<n/\0<=c.2.2.1/\c.2.2.1<10):(dR n cs).length=D cs:=by
 have F:∀l:List aB,cC (l.map bP) (λ_=>1)=(D l:Rat):=λl=>by
  induction l with
  |nil=>rfl
  |cons a l aG=>rw[eE,cC,aG,lJ,acF,Rat.add_comm];rfl
 have:=anF X λ_=>1;rw[F,F] at this;exact_mod_cast this
def acG {cash:List Int}{cs:List aB}(h:fX cash cs):fX cash (dR (D cash) cs):=by
 have k5:=hL.1 h.right
 have X:∀c∈cs,0<=c.1/\c.1<D cash/\0<=c.2.2.1/\c.2.2.1<10:=λc J=>by
  have:=k5.2.2.2 c J;exact⟨this.1,this.2.1,this.2.2.2.2.1,this.2.2.2.2.2.1⟩
 refine⟨hL.2 ⟨k5.1,by rw[anH X];exact k5.2.1,k5.2.2.1,λc J=>k5.2.2.2 c ((acD X).1 J)⟩,h.jV,by rw[anH X];exact h.wE,λc J=>h.am c ((acD X).1 J)⟩
end Go.Mini
namespace Go.Mini
open Classical
def Day.pn (d:Day):Nat->Nat:=(d.rounds (10*d.n) λ_=>10).2
def Day.iI (d:Day):List (List Nat):=(d.rounds (10*d.n) λ_=>10).1
def Day.cL (d:Day):Nat->Rat:=d.top d.pn
def acH (n k:Nat):kG n (λ_=>k)=k*n:=by
 induction n with
 |zero=>rfl
 |succ n aG=>rw[kG,aG,Nat.mul_succ]
section
variable {d:Day} (Z:d.dJ)
include Z
def Day.dJ.hex:∀f,Reach d f->∃h,oN d f h:=λ_ X=>aCI Z X
def P2:Reach d d.pn/\d.h6 d.pn=[]:=al6 Z Z.hex (10*d.n) (λ_=>10) (Reach.start Z) (by rw[acH];exact cl _)
def U3:oN d d.pn d.cL:=Day.EW (Z.hex _ (P2 Z).1)
def anI:∀i,i<d.n->d.U i (d.pn i)<=d.cL i:=by
 intro i O;apply mN;intro aL;have:i∈d.h6 d.pn:=Day.PD.2 ⟨O,by unfold Day.cL at aL;grind⟩
 rw[(P2 Z).2] at this
 cases this
def U4:(∀i,i<d.n->d.cL i=d.xN d.cL i)/\∀i,i<d.n->(d.pn i<10↔d.cL i<d.U i 10):=by
 obtain⟨g,F,G,ab⟩:=U3 Z;exact F.final Z G ab (anI Z)
def acI {i:Nat}(O:i<d.n):0<=d.cL i:=(U3 Z).abR Z O
end
def UC {d:Day}(Z:d.dJ)(i k:Nat):0<=d.S i k:=AO λc J=>by
 try dsimp only
 split
 ·exact Z.am c J
 ·exact hp
end Go.Mini
namespace Go.Mini
open Go
def Fc {n:Int}{c:aB}:kg n c=true↔0<=c.1/\c.1<n /\ -1<=c.2.1/\c.2.1<n/\0<=c.2.2.1/\c.2.2.1<10/\0<=c.2.2.2/\c.2.2.2<=1000000000000000:=by
 unfold kg;simp only[fC,decide_eq_true_eq,and_assoc]
def jc (x:Int):Bool:=decide (0<=x)&&decide (x<=1000000000000000)
def Fe {x:Int}:jc x=true↔0<=x/\x<=1000000000000000:=by
 unfold jc;simp only[fC,decide_eq_true_eq]
def U5 (cash:List Int)(cs:List aB):hr cash cs=(decide (D cash<=60)&&decide (D cs<=2000)&&cash.all jc&&cs.all (kg (D cash))):=rfl
abbrev u5:(List Int)×(List aB)->List Data:=λ(cash,cs)=>[.ax (cash.map aI),.ax (cs.map bL)]
def U6:=bV u5 λ(cash,cs)=>some (.same (.bool (hr cash cs)))
def K4:∀a b,u5 a=u5 b->a=b:=by
  rintro⟨K5,C0⟩ ⟨K6,uq⟩ h;simp only[bj,Data.ax.injEq] at h;exact et (map_inj gq _ _ h.1) (map_inj tM _ _ h.2.1)
@[go_sem] def aPU (cash cs):=pK U6 rfl K4 (cash,cs) rfl
def aDk (T:ba):WF T ank U6:=by
 refine cp λ(cash,cs)=>⟨rfl,ck ?_⟩;simp only[ank,u5,cd];rw[U5]
 by_cases eN:(D cash)<=60
 ·by_cases aw:(D cs)<=2000
  ·have au:decide ((D cash:Int)>60)=false:=b7;have aC:decide ((D cs:Int)>2000)=false:=b7;rw[hN eN,hN aw,fN,fN];simp only[go_sem,go_sem_proc,au,aC,al];refine dd [0,1,5] [268008] (λ(i:Nat) tm mem=>i<=D cash/\(cash.take i).all jc=true/\tm 6=.H (.int .i64 i)) (λi=>D cash-i) 0 (by refine⟨by omega,by simp,rfl⟩) ?_;intro vs ms aQ aM;simp only[go_sem,go_sem_proc,al] at aQ aM;subst aQ aM;rintro i tm mem I hm ⟨O,aH,bX⟩;simp only[go_sem,go_sem_proc,bj] at I hm;obtain⟨ay,F,bu⟩:=I;rcases dn (i<D cash) with ah|bW
   ·obtain⟨x,L⟩:∃c,cash[i]?=some c:=⟨_,bh ah⟩;have d1:decide ((i:Int)<(D cash:Int))=true:=cX;have bF:=eI (i:=i) (by omega)
    by_cases J:jc x=true
    ·have lR:=Fe.1 J;have ar:decide (x<0)=false:=b7;have c2:decide (x>1000000000000000)=false:=b7;refine ai ?_;repeat' (intro h<;>simp only[h,go_sem,go_sem_proc,ay,F,bu,bX,hm,L,d1,bF,ar,c2,aI,al,bm]<;>try refine ag ?_ ?_)
     exact⟨i+1,by omega,by omega,by rw[akt L,aH,J];rfl,rfl⟩
    ·have GR:jc x=false:=by simpa using J
     rw[aku L GR,e9];rw[Fe] at J;rcases ar:decide (x<0)
     ·have c2:decide (x>1000000000000000)=true:=hN (by have:=of_decide_eq_false ar;omega);refine ai ?_;repeat' (intro h<;>simp only[h,go_sem,go_sem_proc,ay,F,bu,bX,hm,L,d1,bF,ar,c2,aI,al,bm]<;>try refine ag ?_ ?_)
     ·refine ai ?_;repeat' (intro h<;>simp only[h,go_sem,go_sem_proc,ay,F,bu,bX,hm,L,d1,bF,ar,aI,al,bm]<;>try refine ag ?_ ?_)
   ·have d1:decide ((i:Int)<(D cash:Int))=false:=b7;have acJ:cash.all jc=true:=by rw[dD (by omega)] at aH;exact aH
    rw[acJ,fN];simp only[go_sem,go_sem_proc,ay,F,bu,bX,hm,d1,al];refine dd [1,5] [] (λ(i:Nat) tm mem=>i<=D cs/\(cs.take i).all (kg (D cash))=true/\tm 7=.H (.int .i64 i)) (λi=>D cs-i) 0 (by refine⟨by omega,by simp,rfl⟩) ?_;intro vs ms aQ aM;simp only[go_sem,go_sem_proc,al,F,bu] at aQ aM;subst aQ aM;clear ay F bu bX hm;rintro i tm mem I hm ⟨O,aH,b9⟩;simp only[go_sem,go_sem_proc,bj] at I;obtain⟨F,bu⟩:=I;rcases dn (i<D cs) with ah|bW
    ·obtain⟨⟨a,b,k,x⟩,L⟩:∃c,cs[i]?=some c:=⟨_,bh ah⟩;have d1:decide ((i:Int)<(D cs:Int))=true:=cX;have bF:=eI (i:=i) (by omega)
     by_cases J:kg (D cash) (a,b,k,x)=true
     ·have lR:=Fc.1 J;dsimp only at lR;have ar:decide (a<0)=false:=b7;have c2:decide (a>=(D cash:Int))=false:=b7;have c3:decide (b < -1)=false:=b7;have c4:decide (b>=(D cash:Int))=false:=b7;have HT:decide (k<0)=false:=b7;have HU:decide (k>=10)=false:=b7;have C1:decide (x<0)=false:=b7;have acK:decide (x>1000000000000000)=false:=b7;refine ai ?_;repeat' (intro h<;>simp only[h,go_sem,go_sem_proc,F,bu,b9,L,d1,bF,ar,c2,c3,c4,HT,HU,C1,acK,bL,al,bm]<;>try refine ag ?_ ?_)
      exact⟨i+1,by omega,by omega,by rw[akt L,aH,J];rfl,rfl⟩
     ·have GR:kg (D cash) (a,b,k,x)=false:=by simpa using J
      rw[aku L GR];rw[Fc] at J;dsimp only at J;refine ai ?_;repeat' (intro h<;>simp only[h,go_sem,go_sem_proc,F,bu,b9,L,d1,bF,bL,al,bm]<;>try refine ag ?_ ?_)
      all_goals (exfalso;simp only[decide_eq_false_iff_not] at *;omega)
    ·have d1:decide ((i:Int)<(D cs:Int))=false:=b7;have acJ:cs.all (kg (D cash))=true:=by rw[dD (by omega)] at aH;exact aH
     rw[acJ];refine ai ?_;repeat' (intro h<;>simp only[h,go_sem,go_sem_proc,F,bu,b9,d1,al]<;>try refine ag ?_ ?_)
  ·have au:decide ((D cash:Int)>60)=false:=b7;have aC:decide ((D cs:Int)>2000)=true:=cX;rw[kM aw,iS,e9,e9];refine ai ?_;repeat' (intro h<;>simp only[h,go_sem,go_sem_proc,au,aC,al]<;>try refine ag ?_ ?_)
 ·have au:decide ((D cash:Int)>60)=true:=cX;rw[kM eN,e9,e9,e9];refine ai ?_;repeat' (intro h<;>simp only[h,go_sem,go_sem_proc,au,al]<;>try refine ag ?_ ?_)
def K7 (p q r s:Int):Prop:=p.natAbs<dF/\q.natAbs<dF/\r.natAbs<dF/\s.natAbs<dF/\0<q/\0<s
def P3 (a:Int×Int×Int×Int):List Data:=[.agg (cM (bl a.1)),.agg (cM (bl a.2.1)),.agg (cM (bl a.2.2.1)),.agg (cM (bl a.2.2.2))]
def U7 {a b:Raw}(h:cM a=cM b):a=b:=by
 obtain⟨s,l⟩:=a;obtain⟨t,m⟩:=b;simp only[cM,bj,Data.int.injEq,Data.ax.injEq,true_and,and_true] at h;exact et h.1 (map_inj gq _ _ h.2)
def anJ:∀a b:Int×Int×Int×Int,P3 a=P3 b->a=b:=by
 rintro⟨cz,cY,eA,eQ⟩ ⟨cQ,dN,gy,g3⟩ h;simp only[P3,bj,Data.agg.injEq,and_true] at h;obtain⟨F,G,ab,aV⟩:=h;rw[S9 (U7 F),S9 (U7 G),S9 (U7 ab),S9 (U7 aV)]
def anK (a:Int×Int×Int×Int):eb:=.same (.int .i64 (a.1*a.2.2.2-a.2.2.1*a.2.1).sign)
def P4:List Data->Option eb:=bV P3 λa=>cu (K7 a.1 a.2.1 a.2.2.1 a.2.2.2) (anK a)
def P5 (n:Nat):List Data->Option eb:=bV P3 λa=>cu (K7 a.1 a.2.1 a.2.2.1 a.2.2.2/\a.2.1.toNat+a.2.2.2.toNat<n) (anK a)
def anL {n:Nat}{p q r s:Int}(h:K7 p q r s/\q.toNat+s.toNat<n):P5 n [.agg (cM (bl p)),.agg (cM (bl q)),.agg (cM (bl r)),.agg (cM (bl s))]=some (.same (.int .i64 (p*s-r*q).sign)) :=
 (Sa anJ (p,q,r,s)).trans (Sc h _)
def aDl {p q r s:Int}(h:K7 p q r s):P4 [.agg (cM (bl p)),.agg (cM (bl q)),.agg (cM (bl r)),.agg (cM (bl s))]=some (.same (.int .i64 (p*s-r*q).sign)) :=
 (Sa anJ (p,q,r,s)).trans (Sc h _)
def aDm {ds:List Data}{x:eb}(h:P4 ds=some x):∃n,P5 n ds=some x:=by
 obtain⟨⟨p,q,r,s⟩,rfl,G⟩:=Sb h;obtain⟨J,rfl⟩:=Yc G;exact⟨_,anL ⟨J,anM _⟩⟩
def aDn {p q r s:Int}(bq:0<q)(R:0<s)(h:p.fdiv q≠r.fdiv s):(p*s-r*q).sign=g2 (p.fdiv q) (r.fdiv s):=by
 have au:p.fmod q+q*p.fdiv q=p:=P6 p q;have aC:r.fmod s+s*r.fdiv s=r:=P6 r s;have lW:=P7 p bq;have lP:=P8 p bq;have v0:=P7 r R;have v1:=P8 r R;generalize p.fdiv q=x at *;generalize r.fdiv s=y at *;generalize p.fmod q=u at *;generalize r.fmod s=v at *;have BC:0<q*s:=Int.mul_pos bq R;have cy:0<=u*s:=sl lW (by omega);have dw:0<=v*q:=sl v0 (by omega)
 have dW:u*s<=q*s-s:=by
  have:=mm (show u<=q-1 by omega) (show 0<=s by omega);grind
 have fW:v*q<=q*s-q:=by
  have:=mm (show v<=s-1 by omega) (show 0<=q by omega);grind
 have e:p*s-r*q=q*s*(x-y)+(u*s-v*q):=by rw[<-au,<-aC];grind
 rw[e];rcases anN h with ah|iz
 ·have jb:q*s*(x-y)<=q*s*(-1):=xg (by omega) (by omega);rw[Cl ah];exact Int.sign_eq_neg_one_of_neg (by omega)
 ·have jb:q*s*1<=q*s*(x-y):=xg (by omega) (by omega)
  have:g2 x y=1:=by
   unfold g2;rw[aa (by simp;omega),Y (by simp;omega)]
  rw[this];exact hn (by omega)
def aDo {p q r s:Int}(h:p.fdiv q=r.fdiv s):p*s-r*q=p.fmod q*s-r.fmod s*q:=by
 have au:p.fmod q+q*p.fdiv q=p:=P6 p q;have aC:r.fmod s+s*r.fdiv s=r:=P6 r s;rw[h] at au;generalize r.fdiv s=y at *;generalize p.fmod q=u at *;generalize r.fmod s=v at *;rw[<-au,<-aC];grind
def aDp (T:ba)(AB:T Gq=aK OV)(CI:T Nz=aK OT)(n:Nat)(P9:T Jw=aK (P5 n))(p q r s:Int)(J:K7 p q r s/\q.toNat+s.toNat<n+1):WP T TI (.same (.int .i64 (p*s-r*q).sign)) [.H (.agg (cM (bl p))),.H (.agg (cM (bl q))),.H (.agg (cM (bl r))),.H (.agg (cM (bl s)))]:=by
 refine ck ?_;simp only[TI];obtain⟨⟨hk,dI,e2,s1,bq,R⟩,aL⟩:=J;have eN:=kB hk;have aw:=kB dI;have cb:=kB e2;have cR:=kB s1;have lW:=P7 p bq;have lP:=P8 p bq;have v0:=P7 r R;have v1:=P8 r R;have anO:(p.fmod q).natAbs<dF:=by omega
 have nP:(r.fmod s).natAbs<dF:=by omega
 have Gd:∀{a b:Int},a.natAbs<dF->0<b->(a.fdiv b).natAbs<dF:=by
  intro a b aZ ad;have au:a.fmod b+b*a.fdiv b=a:=P6 a b;have aC:=P7 a ad;have bN:=P8 a ad
  have:(a.fdiv b).natAbs<=a.natAbs:=by
   rcases Int.lt_or_le (a.fdiv b) 0 with h|h
   ·have k:b*(a.fdiv b+1)<=1*(a.fdiv b+1):=Int.mul_le_mul_of_nonpos_right (by omega) (by omega);have:b*(a.fdiv b+1)=b*a.fdiv b+b:=by grind
    omega
   ·have k:1*a.fdiv b<=b*a.fdiv b:=mm (by omega) h;omega
  omega
 have fx:=Gd hk bq;have nD:=Gd e2 R;have dg:=kB fx;have bU:=kB nD;have iA:=kB anO;have fE:=kB nP;have d1:=Cn hk dI (by omega);have d2:=Cn e2 s1 (by omega);have d3:=Om fx nD;have b8:=aDn (p:=p) (r:=r) bq R;have heq:=aDo (p:=p) (q:=q) (r:=r) (s:=s);have z0:K7 s (r.fmod s) q (p.fmod q)->P5 n [.agg (cM (bl s)),.agg (cM (bl (r.fmod s))),.agg (cM (bl q)),.agg (cM (bl (p.fmod q)))]=some (.same (.int .i64 (s*p.fmod q-q*r.fmod s).sign)):=λh=>anL ⟨h,by omega⟩
 have lx:p.fdiv q=r.fdiv s->g2 (p.fdiv q) (r.fdiv s)=0:=λh=>by unfold g2;rw[aa (by simp;omega),aa (by simp;omega)]
 have aDq:p.fdiv q≠r.fdiv s->(g2 (p.fdiv q) (r.fdiv s)==0)=false:=λh=>by
  rcases anN h with h|h
  ·rw[Cl h];rfl
  ·unfold g2;rw[aa (by simp;omega),Y (by simp;omega)];rfl
 have es:∀z:Int,bl z=(z.sign,aY z.natAbs):=λz=>rfl;rw[es,es] at d1 d2 d3
 by_cases g0:p.fdiv q=r.fdiv s
 ·have jK:=lx g0
  by_cases hu:p.fmod q=0
  ·have qG:(p.fmod q).sign=0:=by rw[hu];rfl
   have lq:(p*s-r*q).sign=0-(r.fmod s).sign:=by
    rw[heq g0,hu,xu,Int.zero_sub,Int.sign_neg,o9,hn bq,tf];omega
   rw[lq]
   have w:IntKind.i64.wrap (0-(r.fmod s).sign)=0-(r.fmod s).sign:=by
    have:=Oj (r.fmod s);rw[eY _]
   refine ai ?_;repeat' (intro (ao:_=_)<;>simp only[ao,go_sem,go_sem_proc,AB,CI,cM,lZ,eN,aw,cb,cR,dg,bU,d1,d2,d3,jK,qG,w,es,al,beq_self_eq_true,bne,b3]<;>try refine ag ?_ ?_)
  ·have qG:((p.fmod q).sign==0)=false:=by
    rw[hn (by omega)];rfl
   by_cases aN:r.fmod s=0
   ·have acL:(r.fmod s).sign=0:=by rw[aN];rfl
    have lq:(p*s-r*q).sign=(p.fmod q).sign-0:=by
     rw[heq g0,aN,xu,D4,o9,hn R,tf,D4]
    rw[lq]
    have w:IntKind.i64.wrap ((p.fmod q).sign-0)=(p.fmod q).sign-0:=by
     have:=Oj (p.fmod q);rw[eY _]
    refine ai ?_;repeat' (intro (ao:_=_)<;>simp only[ao,go_sem,go_sem_proc,AB,CI,cM,lZ,eN,aw,cb,cR,dg,bU,d1,d2,d3,jK,qG,acL,w,es,al,beq_self_eq_true,bne,b3]<;>try refine ag ?_ ?_)
   ·have acL:((r.fmod s).sign==0)=false:=by
     rw[hn (by omega)];rfl
    have X:=z0 ⟨s1,nP,dI,anO,by omega,by omega⟩
    have lq:s*p.fmod q-q*r.fmod s=p*s-r*q:=by rw[heq g0];grind
    rw[lq] at X;simp only[cM,es] at X;refine ai ?_;repeat' (intro (ao:_=_)<;>simp only[ao,go_sem,go_sem_proc,AB,CI,P9,cM,lZ,eN,aw,cb,cR,dg,bU,d1,d2,d3,jK,qG,acL,X,es,al,beq_self_eq_true,bne,b3]<;>try refine ag ?_ ?_)
 ·have jK:=aDq g0;rw[b8 g0];refine ai ?_;repeat' (intro (ao:_=_)<;>simp only[ao,go_sem,go_sem_proc,AB,CI,cM,lZ,eN,aw,cb,cR,dg,bU,d1,d2,d3,jK,es,al,bne,cA]<;>try refine ag ?_ ?_)
def xX:=bV ob λ(s,l,s2,aw,c1,cb,de,cR)=>cu (D l<=1000000/\D aw<=1000000/\D cb<=1000000/\D cR<=1000000) (.same (.int .i64 (uP ((s,l),(s2,aw)) ((c1,cb),(de,cR)))))
@[go_sem] def aDr (s l s2 aw c1 cb de cR):=cH xX rfl As (s,l,s2,aw,c1,cb,de,cR) rfl
def aDs (T:ba)(gO:T qw=aK CH)(P9:T Jw=aK P4):WF T aki xX:=by
 refine cp λ(s,l,s2,aw,c1,cb,de,cR)=>cT λJ=>⟨rfl,ck ?_⟩;simp only[aki,ob,cd];obtain⟨bG,bO,fp,fy⟩:=J;unfold uP;rcases X:dM ((s,l),(s2,aw))
 ·refine ai ?_;repeat' (intro h<;>simp only[h,go_sem,go_sem_proc,gO,P9,bG,bO,X]<;>try refine ag ?_ ?_)
 ·rcases bf:dM ((c1,cb),(de,cR))
  ·refine ai ?_;repeat' (intro h<;>simp only[h,go_sem,go_sem_proc,gO,P9,bG,bO,fp,fy,X,bf]<;>try refine ag ?_ ?_)
  ·obtain⟨x,L,ex⟩:=(Cr _).1 X;obtain⟨y,aj,zT⟩:=(Cr _).1 bf;have ad:P4 [.agg (cM (bl x.num)),.agg (cM (bl x.den)),.agg (cM (bl y.num)),.agg (cM (bl y.den))]=some (.same (.int .i64 (x.num*y.den-y.num*x.den).sign)):=aDl ⟨L.1,qD L,aj.1,qD aj,den_pos x,den_pos y⟩;unfold av at ex zT;simp only[fq] at ex zT;obtain⟨au,aC⟩:=ex;obtain⟨bN,bK⟩:=zT;rw[<-au,<-aC,<-bN,<-bK] at ad
   have aN:(hF (s,l)*hF (de,cR)-hF (c1,cb)*hF (s2,aw))=x.num*y.den-y.num*x.den:=by
    rw[au,aC,bN,bK,fl,fl,fl,fl]
   simp only[cM] at ad;rw[Y rfl,Y rfl,aN];refine ai ?_;repeat' (intro h<;>simp only[h,go_sem,go_sem_proc,gO,P9,bG,bO,fp,fy,X,bf,ad]<;>try refine ag ?_ ?_)
def U8 {x y:Rat}(L:dH x)(aj:dH y)(h:qF x (-y)=true):CK [.agg (az (av x)),.agg (az (av y))]=some (.same (.dj [.agg (az (av (x-y))),.int .i64 0])):=by
 have F:=mu L;have G:=mu aj;have:=azg (av x).1.1 (av x).1.2 (av x).2.1 (av x).2.2 (av y).1.1 (av y).1.2 (av y).2.1 (av y).2.2 ⟨F.1,F.2,G.1,G.2⟩;have e:l0 (av x) (av y)=(av (x-y),0):=by rw[OA L aj,h];rfl
 exact this.trans (by show some (eb.same (dT (l0 (av x) (av y))))=_;rw[e];rfl)
def anP {x y:Rat}(L:dH x)(aj:dH y)(h:At x y=true):EA [.agg (az (av x)),.agg (az (av y))]=some (.same (.dj [.agg (az (av (x*y))),.int .i64 0])):=by
 have F:=mu L;have G:=mu aj;have:=azi (av x).1.1 (av x).1.2 (av x).2.1 (av x).2.2 (av y).1.1 (av y).1.2 (av y).2.1 (av y).2.2 ⟨F.1,F.2,G.1,G.2⟩;have e:jx (av x) (av y)=(av (x*y),0):=by rw[Th L aj,h];rfl
 exact this.trans (by show some (eb.same (dT (jx (av x) (av y))))=_;rw[e];rfl)
def anQ {x y:Rat}(L:dH x)(aj:dH y)(h:qF x y=true):Eo [.agg (az (av x)),.agg (az (av y))]=some (.same (.dj [.agg (az (av (x+y))),.int .i64 0])):=by
 have F:=mu L;have G:=mu aj;have:=axT (av x).1.1 (av x).1.2 (av x).2.1 (av x).2.2 (av y).1.1 (av y).1.2 (av y).2.1 (av y).2.2 ⟨F.1,F.2,G.1,G.2⟩;have e:yT (av x) (av y)=(av (x+y),0):=by rw[ai0 L aj,h];rfl
 exact this.trans (by show some (eb.same (dT (yT (av x) (av y))))=_;rw[e];rfl)
def U9 {x y:Rat}(L:dH x)(aj:dH y)(h:qF x (-y)=true):yU [.agg (az (av x)),.agg (az (av y))]=some (.same (.dj [.agg (az (av (x-y))),.int .i64 0])):=by
 have F:=mu L;have G:=mu aj;have:=axV (av x).1.1 (av x).1.2 (av x).2.1 (av x).2.2 (av y).1.1 (av y).1.2 (av y).2.1 (av y).2.2 ⟨F.1,F.2,G.1,G.2⟩;have e:l0 (av x) (av y)=(av (x-y),0):=by rw[OA L aj,h];rfl
 exact this.trans (by show some (eb.same (dT (l0 (av x) (av y))))=_;rw[e];rfl)
def anR {x y:Rat}(L:dH x)(aj:dH y)(h:At x y=true):yV [.agg (az (av x)),.agg (az (av y))]=some (.same (.dj [.agg (az (av (x*y))),.int .i64 0])):=by
 have F:=mu L;have G:=mu aj;have:=axX (av x).1.1 (av x).1.2 (av x).2.1 (av x).2.2 (av y).1.1 (av y).1.2 (av y).2.1 (av y).2.2 ⟨F.1,F.2,G.1,G.2⟩;have e:jx (av x) (av y)=(av (x*y),0):=by rw[Th L aj,h];rfl
 exact this.trans (by show some (eb.same (dT (jx (av x) (av y))))=_;rw[e];rfl)
def aDt {x y:Rat}(L:dH x)(aj:dH y)(ay:y≠0)(h:xw x y=true):Kn [.agg (az (av x)),.agg (az (av y))]=some (.same (.dj [.agg (az (av (x/y))),.int .i64 0])):=by
 have F:=mu L;have G:=mu aj;have:=azk (av x).1.1 (av x).1.2 (av x).2.1 (av x).2.2 (av y).1.1 (av y).1.2 (av y).2.1 (av y).2.2 ⟨F.1,F.2,G.1,G.2⟩;have e:gn (av x) (av y)=(av (x/y),0):=by rw[OB L aj ay,h];rfl
 exact this.trans (by show some (eb.same (dT (gn (av x) (av y))))=_;rw[e];rfl)
def aDu {x y:Rat}(L:dH x)(aj:dH y)(ay:y≠0)(h:xw x y=true):Ep [.agg (az (av x)),.agg (az (av y))]=some (.same (.dj [.agg (az (av (x/y))),.int .i64 0])):=by
 have F:=mu L;have G:=mu aj;have:=axZ (av x).1.1 (av x).1.2 (av x).2.1 (av x).2.2 (av y).1.1 (av y).1.2 (av y).2.1 (av y).2.2 ⟨F.1,F.2,G.1,G.2⟩;have e:gn (av x) (av y)=(av (x/y),0):=by rw[OB L aj ay,h];rfl
 exact this.trans (by show some (eb.same (dT (gn (av x) (av y))))=_;rw[e];rfl)
def Qa {x y:Rat}(L:dH x)(aj:dH y):xX [.agg (az (av x)),.agg (az (av y))]=some (.same (.int .i64 (lb x y))):=by
 have F:=mu L;have G:=mu aj;have:=aDr (av x).1.1 (av x).1.2 (av x).2.1 (av x).2.2 (av y).1.1 (av y).1.2 (av y).2.1 (av y).2.2 ⟨F.1,F.2,G.1,G.2⟩;exact this.trans (by show some (eb.same (.int .i64 (uP (av x) (av y))))=_;rw[Ti L aj])
def Qb {x y:Rat}(L:dH x)(aj:dH y):v5 [.agg (az (av x)),.agg (az (av y))]=some (.same (.int .i64 (lb x y))):=by
 have F:=mu L;have G:=mu aj;have:=ai8 (av x).1.1 (av x).1.2 (av x).2.1 (av x).2.2 (av y).1.1 (av y).1.2 (av y).2.1 (av y).2.2 ⟨F.1,F.2,G.1,G.2⟩;exact this.trans (by show some (eb.same (.int .i64 (uP (av x) (av y))))=_;rw[Ti L aj])
def acM {x y:Rat}:decide (lb x y>0)=decide (y<x):=by
 have F:lb x y>0↔y<x:=by
  unfold lb;rw[gt_iff_lt,Int.sign_pos_iff,acN];omega
 rw[decide_eq_decide];exact F
def acO {x y:Rat}:decide (lb x y<0)=decide (x<y):=by
 have F:lb x y<0↔x<y:=by
  unfold lb;rw[anS,acN];omega
 rw[decide_eq_decide];exact F
def Va {x y:Rat}:decide (lb x y>=0)=decide (y<=x):=by
 have F:lb x y>=0↔y<=x:=by
  unfold lb;rw[ge_iff_le,Int.sign_nonneg_iff,Rat.le_iff];omega
 rw[decide_eq_decide];exact F
end Go.Mini
namespace Go.Mini
open Go
variable {P:Program} {A:Nat->Prop} {w aX:World} {B bD:fu} {mem mem':Mem}
def po (N:List M->Mem->Option Data)(args:List M)(mem:Mem):Option hA:=(N args mem).map λd => .rel (BR (.H d) mem)
@[go_sem] def aPV (N:List M->Mem->Option Data)(args:List M)(mem:Mem):po N args mem=(N args mem).map λd => .rel (BR (.H d) mem):=bE
def HV {T : ba}{kb : Nat}{own : List Nat}(di : r6 P T)(hm : P.follows .mixedOrders = true){f : FuncId}{fn : Func}{mf : bJ}(aH : P.funcs[f]? = some fn)(vI : (fn.name == "runtime.NumGoroutine") = false)(a8 : r2 P kb own fn = some { mf with body := erase mf.body })
  (dA:Key->Prop) {N:List M->Mem->Option Data}
  (h:∀args mem d,N args mem=some d->(D args)<=mf.n/\(∀j,dA j->mem j=none) /\
   wp T mf.body (oJ mf.res λm mem'=>cV 6 emp m=some d/\∀j,¬ dA j->mem' j=mem j) ⟨kq args,mem⟩):l1 P f (po N):=by
 refine⟨aaD aH vI a8,λargs mem rb gx A w B vs cf aN=>?_⟩;unfold po at gx;rw[Option.map_eq_some_iff] at gx;obtain⟨d,l2,rfl⟩:=gx;obtain⟨hlen,AD,BO⟩:=h args mem d l2;refine Calls.mono (Nb (Post:=λm mem'=>cV 6 emp m=some d/\∀j,¬ dA j->mem' j=mem j) di hm aH a8 hlen (λe st I=>aaC I) BO cf aN) λe aX he=>?_;obtain⟨v,m,mem',bD,rfl,R,pB,Z,gQ⟩:=he;exact⟨v,.H d,mem,wb dA bD,rfl,R.drop cf AD AD (λj ae=>(gQ j ae).symm) (λk g cs I m hm => .inr ⟨k,g,cs,I,hm⟩),.H ((X7 6 m v d Z pB).less λb ad=>ad.imp Kq id),rfl,rfl⟩
def aDv (W:List M->Mem->Option (Data×Key))(args:List M)(mem:Mem):Option hA:=(W args mem).map λx => .Bp x.1 x.2
@[go_sem] def aPW (W:List M->Mem->Option (Data×Key))(args:List M)(mem:Mem):aDv W args mem=(W args mem).map λx => .Bp x.1 x.2:=bE
open Classical in
def zq {α:Type}(bk:α->List M->Mem->Prop)(res:α->Data):List M->Mem->Option Data:=λargs mem=>if h:∃a,bk a args mem then some (res (Classical.choose h)) else none
def HW {α:Type}{bk:α->List M->Mem->Prop}{res:α->Data}(uniq:∀a b args mem,bk a args mem->bk b args mem->res a=res b){a:α}{args:List M}{mem:Mem}(h:bk a args mem):zq bk res args mem=some (res a):=by
 have L:∃b,bk b args mem:=⟨a,h⟩;unfold zq;rw[dif_pos L,uniq _ _ _ _ (qo L) h]
def HX {α:Type}{bk:α->List M->Mem->Prop}{res:α->Data}{args:List M}{mem:Mem}{d:Data}(h:zq bk res args mem=some d):∃a,bk a args mem/\d=res a:=by
 unfold zq at h
 split at h
 ·rename_i L;exact⟨_,qo L,(nu h).symm⟩
 ·cases h
def acP {α:Type}{bk:α->List M->Mem->Prop}{bC:α->Mem->M->Mem->Prop}(uniq:∀a b args mem,bk a args mem->bk b args mem->bC a mem=bC b mem){a:α}{args:List M}{mem:Mem}(h:bk a args mem):AE bk bC args mem=some (bC a mem):=by
 have L:∃b,bk b args mem:=⟨a,h⟩;unfold AE;rw[dif_pos L,uniq _ _ _ _ (qo L) h]
def Qc {K:bc->Prop}{st:bc}{x:bZ}{i k sz kc g off:Nat}{cs:List M}(F:bd st.tm x=.ptr kc g off)(G:st.mem kc=some (g,cs))(ab:cs[off+i]?=some .nil)(aV:k≠kc)
  (h:K ⟨st.tm,a5 (a5 st.mem k (ca st.mem k) []) kc g (cs.set (off+i) (.ref k (ca st.mem k) sz 0 0))⟩):lp K st (.Dr x i k sz):=by
 simp only[lp,F,G,if_true,ab];rw[Y aV];exact h
def Vb {K:bc->Prop}{st:bc}{x:bZ}{i kc gc off k g sz o len:Nat}{cc cs:List M}{d:Data}(F:bd st.tm x=.ptr kc gc off)(G:st.mem kc=some (gc,cc))(ab:cc[off+i]?=some (.ref k g sz o len))(aV:st.mem k=some (g,cs))(bu:uc cs=true)(bX:k≠kc)(b9:cV 1 st.mem (.ref k g sz o len)=some d)
  (h:K ⟨st.tm,a5 (kill st.mem k) kc gc (cc.set (off+i) (.H d))⟩):lp K st (.FI x i):=by
 simp only[lp,F,G,if_true,ab,aV];rw[Y ⟨trivial,bu,bX⟩,b9];exact h
def df (n:Nat)(mem m:Mem):Prop:=∀k,k/1000≠n->m k=mem k
def df.refl (n:Nat)(mem:Mem):df n mem mem:=λ_ _=>rfl
def df.dK {n k g:Nat}{cs:List M}{mem m:Mem}(h:df n mem m)(I:k/1000=n):df n mem (a5 m k g cs):=λj ae=>by
 have:j≠k:=λe=>ae (by rw[e];exact I);simp only[a5,this,if_false];exact h j ae
def df.kill {n k:Nat}{mem m:Mem}(h:df n mem m)(I:k/1000=n):df n mem (kill m k):=h.dK I
def df.at {n:Nat}{mem m:Mem}(h:df n mem m)(k:Nat)(I:k/1000≠n):m k=mem k:=h k I
def kh (n:Nat)(mem:Mem):Prop:=∀k,k/1000=n->mem k=none
def kh.aF {n anT:Nat}{mem m:Mem}(h:kh n mem)(aH:df anT mem m)(aL:n≠anT):kh n m:=λk I=>by rw[aH k (by omega)];exact h k I
end Go.Mini
namespace Go.Mini
open Go
def dS (x:Int):M:=.H (.int .i64 x)
def iJ (b:Bool):M:=.H (.bool b)
def zr {α:Type}{f:α->M}{l:List α}{k:Nat}{y:α}(h:l[k]?=some y):gT 1 (hl k (l.map f))=[f y]:=by
 obtain⟨aq,rfl⟩:=dV.1 h;rw[<-List.map_drop,List.drop_eq_getElem_cons aq,eE,List.take_succ_cons,nw]
structure u6 (cash:List Int) (cs:List aB) (aJ:List Int) (P:List Bool) (g cL e1:Nat) (mem:Mem):Prop where
 r:mem 261029=some (g,[.H (.ax (cash.map aI)),.H (.ax (cs.map bL)),.ref 261042 cL 1 0 (D aJ),.ref 261027 e1 1 0 (D P),.H (.bool false)])
 f:mem 261042=some (cL,aJ.map dS)
 p:mem 261027=some (e1,P.map iJ)
def u6.aF {cash:List Int}{cs:List aB}{aJ:List Int}{P:List Bool}{g cL e1 n:Nat}{mem m:Mem}(h:u6 cash cs aJ P g cL e1 mem)(aH:df n mem m)(aL:n≠261):u6 cash cs aJ P g cL e1 m :=
 ⟨(aH.at 261029 (by omega)).trans h.r,(aH.at 261042 (by omega)).trans h.f,(aH.at 261027 (by omega)).trans h.p⟩
def anU {a b:List Int}(h:a.map dS=b.map dS):a=b:=map_inj (λx y h=>by simpa [dS] using h) _ _ h
def aDw {a b:List Bool}(h:a.map iJ=b.map iJ):a=b:=map_inj (λx y h=>by simpa [iJ] using h) _ _ h
def u6.uniq {cash Ff:List Int}{cs jY:List aB}{aJ Qd:List Int}{P zs:List Bool}{g cL e1 dp anV Vc:Nat}{mem:Mem}(h:u6 cash cs aJ P g cL e1 mem)(cn:u6 Ff jY Qd zs dp anV Vc mem):cash=Ff/\cs=jY/\aJ=Qd/\P=zs/\g=dp/\cL=anV/\e1=Vc:=by
 have F:=h.r;rw[cn.r] at F;simp only[cF,fq,bj,M.H.injEq,Data.ax.injEq,M.ref.injEq,true_and,and_true] at F;obtain⟨au,aC,bN,⟨bK,-⟩,bt,-⟩:=F;have G:=h.f;rw[cn.f] at G;simp only[cF,fq] at G;have ab:=h.p;rw[cn.p] at ab;simp only[cF,fq] at ab;exact⟨(map_inj gq _ _ aC).symm,(map_inj tM _ _ bN).symm,(anU G.2).symm,(aDw ab.2).symm,au.symm,bK.symm,bt.symm⟩
def HY (cash:List Int)(cs:List aB)(aJ:List Int)(cK:Nat):Int:=cash.getD cK 0+cJ cs λc=>if c.2.1=(cK:Int)/\c.2.2.1<aJ.getD c.1.toNat 0 then c.2.2.2 else 0
structure oh where
 cash:List Int
 cs:List aB
 aJ:List Int
 P:List Bool
 g:Nat
 cL:Nat
 e1:Nat
def oh.fj (a:oh)(mem:Mem):Prop:=u6 a.cash a.cs a.aJ a.P a.g a.cL a.e1 mem
def oh.uniq {a b:oh}{mem:Mem}(h:a.fj mem)(cn:b.fj mem):a=b:=by
 obtain⟨cz,cY,eA,eQ,p1,u7,anW⟩:=a;obtain⟨cQ,dN,gy,g3,aDx,anX,anY⟩:=b;have:=u6.uniq h cn;dsimp only at this;obtain⟨rfl,rfl,rfl,rfl,rfl,rfl,rfl⟩:=this
 rfl
def acQ:List M->Mem->Option Data:=zq (λ(a:oh×Nat) args mem=>args=[.ptr 261029 a.1.g 0,.H (.int .i64 a.2)]/\a.1.fj mem/\kh 280 mem/\hr a.1.cash a.1.cs=true/\a.1.aJ.length=a.1.cash.length/\a.2<a.1.cash.length) λa => .int .i64 (HY a.1.cash a.1.cs a.1.aJ a.2)
def aDy (a:oh)(cK:Nat)(mem:Mem)(F:a.fj mem)(G:kh 280 mem)(ab:hr a.cash a.cs=true)(aV:(D a.aJ)=D a.cash)(bu:cK<D a.cash):acQ [.ptr 261029 a.g 0,.H (.int .i64 cK)] mem=some (.int .i64 (HY a.cash a.cs a.aJ cK)):=by
 refine HW (a:=(a,cK)) ?_ ⟨rfl,F,G,ab,aV,bu⟩;rintro⟨a,i⟩ ⟨b,j⟩ args mem ⟨au,aC,-⟩ ⟨bN,bK,-⟩;obtain rfl:=oh.uniq aC bK;rw[au] at bN;simp only[bj,M.H.injEq,Data.int.injEq,true_and,and_true] at bN;have:i=j:=by omega
 rw[this]
def aDz {cash:List Int}{cs:List aB}(h:hr cash cs=true)(aJ:List Int)(cK i:Nat):0<=cash.getD cK 0/\cash.getD cK 0<=1000000000000000/\0<=cJ (cs.take i) (λc=>if c.2.1=(cK:Int)/\c.2.2.1<aJ.getD c.1.toNat 0 then c.2.2.2 else 0)/\cJ (cs.take i) (λc=>if c.2.1=(cK:Int)/\c.2.2.1<aJ.getD c.1.toNat 0 then c.2.2.2 else 0)<=2000000000000000000:=by
 have F:=(AY h).sum (λc=>c.2.1=(cK:Int)/\c.2.2.1<aJ.getD c.1.toNat 0) i;refine⟨?_,?_,F.1,F.2⟩ <;>
 ·rw[eD]
  cases O:cash[cK]? with
  |none=>simp
  |some x=>have:=(hL.1 h).2.2.1 x (dy O);simp only[BJ];omega
def aDA (T:ba)(a:oh)(cK:Nat)(mem:Mem)(F:a.fj mem)(G:kh 280 mem)(ab:hr a.cash a.cs=true)(aV:(D a.aJ)=D a.cash)(bu:cK<D a.cash):
  wp T UY.body (oJ UY.res λm mem'=>cV 6 emp m=some (.int .i64 (HY a.cash a.cs a.aJ cK))/\df 280 mem mem') ⟨kq [.ptr 261029 a.g 0,.H (.int .i64 cK)],mem⟩:=by
 obtain⟨cash,cs,aJ,P,g,cL,e1⟩:=a;dsimp only at *;have X:=F.r;have aH:=F.f;dsimp only at X aH;refine ra ?_;simp only[UY];obtain⟨HZ,iW⟩:∃x,cash[cK]?=some x:=⟨_,bh bu⟩;have acR:cash.getD cK 0=HZ:=by rw[eD,iW];rfl
 simp only[go_sem,go_sem_proc,X,aH,iW,aI,al,bm];refine dd [0,1] [] (λ(i:Nat) tm m=>i<=D cs/\tm 5=.H (.int .i64 (HZ+cJ (cs.take i) λc=>if c.2.1=(cK:Int)/\c.2.2.1<aJ.getD c.1.toNat 0 then c.2.2.2 else 0))/\tm 6=.H (.int .i64 i)/\df 280 mem m) (λi=>D cs-i) 0 (by refine⟨by omega,?_,rfl,df.refl _ _⟩;simp[cJ,go_sem]) ?_;intro vs ms aQ aM;simp only[go_sem,go_sem_proc,al] at aQ aM;subst aQ aM;rintro i tm m I hm ⟨O,Qe,Vd,bg⟩;simp only[go_sem,go_sem_proc,bj] at I;obtain⟨eU,cy⟩:=I;have vr:=(bg.at 261029 (by omega)).trans X;have BE:=(bg.at 261042 (by omega)).trans aH;have aq:=(AY ab).1;rcases dn (i<D cs) with ah|bW
 ·obtain⟨⟨ar,c2,c3,c4⟩,L⟩:∃c,cs[i]?=some c:=⟨_,bh ah⟩;have d1:decide ((i:Int)<(D cs:Int))=true:=cX;have bF:=eI (i:=i) (by omega);have da:=PX L λc=>if c.2.1=(cK:Int)/\c.2.2.1<aJ.getD c.1.toNat 0 then c.2.2.2 else 0;have ad:=aDz ab aJ cK i;have J:=(hL.1 ab).2.2.2 _ (dy L);generalize cJ (cs.take i) (λc=>if c.2.1=(cK:Int)/\c.2.2.1<aJ.getD c.1.toNat 0 then c.2.2.2 else 0)=s at *;dsimp only at da J;rw[acR] at ad;obtain⟨ar,rfl⟩:∃k:Nat,ar=(k:Int):=⟨ar.toNat,by omega⟩
  rw[gK] at da;have jN:IntKind.i64.wrap (HZ+s+c4)=HZ+s+c4:=by rw[eY _]
  obtain⟨y,aj⟩:∃y,aJ[ar]?=some y:=⟨_,bh (by omega)⟩;have v7:aJ.getD ar 0=y:=by rw[eD,aj];rfl
  have ew:ar+1<=D aJ:=by omega
  have anZ:ar<D aJ:=by omega
  have an0:=zr (f:=dS) aj;rw[v7] at da;rcases au:(c2==(cK:Int))
  ·have:¬ (c2=(cK:Int)/\c3<y):=λh=>by rw[h.1] at au;simp at au
   rw[aa this] at da;refine ai ?_;repeat' (intro (ao:_=_)<;>simp only[ao,go_sem,go_sem_proc,eU,cy,Qe,Vd,vr,BE,L,d1,bF,jN,au,bL,al,bm]<;>try refine ag ?_ ?_)
   exact⟨i+1,by omega,by omega,by rw[da,rr],rfl,(bg.dK (by decide)).dK (by decide)⟩
  ·have Hf:=beq_iff_eq.1 au;rcases aC:decide (c3<y)
   ·have:¬ (c2=(cK:Int)/\c3<y):=λh=>of_decide_eq_false aC h.2;rw[aa this] at da;refine ai ?_;repeat' (intro (ao:_=_)<;>simp only[ao,go_sem,go_sem_proc,eU,cy,Qe,Vd,vr,BE,L,an0,ew,anZ,d1,bF,jN,au,aC,bL,dZ,al,bm,show ∀x,dS x=.H (.int .i64 x) from λ_=>rfl]<;>try refine ag ?_ ?_)
    exact⟨i+1,by omega,by omega,by rw[da,rr],rfl,(bg.dK (by decide)).dK (by decide)⟩
   ·rw[Y ⟨Hf,of_decide_eq_true aC⟩] at da;refine ai ?_;repeat' (intro (ao:_=_)<;>simp only[ao,go_sem,go_sem_proc,eU,cy,Qe,Vd,vr,BE,L,an0,ew,anZ,d1,bF,jN,au,aC,bL,dZ,al,bm,show ∀x,dS x=.H (.int .i64 x) from λ_=>rfl]<;>try refine ag ?_ ?_)
    exact⟨i+1,by omega,by omega,by rw[da,Int.add_assoc],rfl,(bg.dK (by decide)).dK (by decide)⟩
 ·have d1:decide ((i:Int)<(D cs:Int))=false:=b7;rw[dD (by omega)] at Qe;have lq:HY cash cs aJ cK=HZ+cJ cs (λc=>if c.2.1=(cK:Int)/\c.2.2.1<aJ.getD c.1.toNat 0 then c.2.2.2 else 0):=by unfold HY;rw[acR]
  rw[lq];refine ai ?_;repeat' (intro (ao:_=_)<;>simp only[ao,go_sem,go_sem_proc,eU,cy,Qe,Vd,vr,BE,d1,al]<;>try refine ag ?_ ?_)
  exact⟨_,rfl,rfl,bg⟩
def df.same {n k g:Nat}{cs:List M}{mem m:Mem}(h:df n mem m)(hm:mem k=some (g,cs)):df n mem (a5 m k g cs):=λj ae=>by
 by_cases e:j=k
 ·subst e;simp only[a5,if_true];exact hm.symm
 ·simp only[a5,e,if_false];exact h j ae
def mQ {z:Int}(F:-9000000000000000000<=z)(G:z<=9000000000000000000):eJ z:=by unfold eJ;omega
def AX.upto {cs:List aB}(h:AX cs)(i r:Int):0<=bT cs i r/\bT cs i r<=2000000000000000000:=by
 have:=h.sum (λc=>c.1=i/\c.2.2.1<r) (D cs);rw[pb] at this;exact this
def an1 {p q:Int}(aE:eJ p)(bq:eJ q)(ay:q≠0):jw (bl p) (bl q)=(av ((p:Rat)/(q:Rat)),0):=by
 rw[Cs (uN aE) (uN bq) ay,PL]
def hg (cs:List aB)(i r:Int):Int:=bT cs i (r+1)-bT cs i r
structure Ve where
 cash:List Int
 cs:List aB
 fe:M
 hH:M
 g:Nat
 c:aB
def acS (a:Ve)(mem:Mem):Prop:=mem 261029=some (a.g,[.H (.ax (a.cash.map aI)),.H (.ax (a.cs.map bL)),a.fe,a.hH,.H (.bool false)])/\kh 281 mem/\AX a.cs/\0<=a.c.2.2.1/\a.c.2.2.1<10/\0<=a.c.2.2.2/\a.c.2.2.2<=1000000000000000/\0<hg a.cs a.c.1 a.c.2.2.1
def K8 (cs:List aB)(c:aB):Rat:=(c.2.2.2:Rat)/((hg cs c.1 c.2.2.1:Int):Rat)
def Qf:List M->Mem->Option Data:=zq (λ(a:Ve) args mem=>args=[.ptr 261029 a.g 0,.agg ((bL a.c).map .H)]/\acS a mem) λa => .agg (az (av (K8 a.cs a.c)))
def aDB (a:Ve)(mem:Mem)(h:acS a mem):Qf [.ptr 261029 a.g 0,.agg ((bL a.c).map .H)] mem=some (.agg (az (av (K8 a.cs a.c)))):=by
 refine HW (a:=a) ?_ ⟨rfl,h⟩;rintro a b args mem ⟨au,aC,-⟩ ⟨bN,bK,-⟩;rw[au] at bN;simp only[bj,M.agg.injEq,and_true] at bN;have J:=tM _ _ (map_inj (λx y h=>M.H.inj h) _ _ bN.2);rw[bK] at aC;simp only[cF,fq,bj,M.H.injEq,Data.ax.injEq] at aC;have R:=map_inj tM _ _ aC.2.2.1;rw[J,R]
def aDC (T:ba)(im:T sc=aK xV)(HR:T B1=aK Ez)(a:Ve)(mem:Mem)(h:acS a mem):
  wp T UZ.body (oJ UZ.res λm mem'=>cV 6 emp m=some (.agg (az (av (K8 a.cs a.c))))/\df 281 mem mem') ⟨kq [.ptr 261029 a.g 0,.agg ((bL a.c).map .H)],mem⟩:=by
 obtain⟨cash,cs,fe,hH,g,⟨ar,c2,c3,c4⟩⟩:=a;obtain⟨X,aL,cw,cy,dw,dW,fW,cZ⟩:=h;dsimp only at *;refine ra ?_;simp only[UZ,bL,eE,bY];have bF:IntKind.i64.wrap (c3+1)=c3+1:=by rw[eY _]
 have lP:=cw.upto ar (c3+1);have hY:=cw.upto ar c3;have amE:bT cs ar (c3+1)-bT cs ar c3=hg cs ar c3:=rfl;have jN:IntKind.i64.wrap (bT cs ar (c3+1)-bT cs ar c3)=hg cs ar c3:=by rw[eY _];rfl
 have i1:eJ c4:=mQ (by omega) (by omega);have i2:eJ (hg cs ar c3):=mQ (by omega) (by omega);have iO:=an1 i1 i2 (by omega);unfold K8;dsimp only;generalize av ((c4:Rat)/((hg cs ar c3:Int):Rat))=aO at *;obtain⟨⟨cz,cY⟩,⟨eA,eQ⟩⟩:=aO;refine ai ?_;repeat' (intro (ao:_=_)<;>simp only[ao,go_sem,go_sem_proc,im,HR,X,cw,bF,jN,i1,i2,iO,dT,az,bne,beq_self_eq_true,b3]<;>try refine ag ?_ ?_)
 refine⟨_,rfl,by simp[go_sem,cV],?_⟩
 refine df.dK ?_ (by decide);refine df.same ?_ X;exact (((((df.refl 281 mem).dK (by decide)).dK (by decide)).dK (by decide)).dK (by decide))
end Go.Mini
namespace Go.Mini
open Go Classical
def a9 (aJ:List Int)(i:Nat):Nat:=(aJ.getD i 10).toNat
def dB (P:List Bool)(i:Nat):Prop:=P.getD i false=true
def pq (f:Nat->Nat)(P:Nat->Prop)(i:Nat)(c:ej):Prop:=c.to=(i:Int)/\c.rk=f c.aF/\P c.aF
def mx (d:Day)(f:Nat->Nat)(P:Nat->Prop)(i:Nat)(l:List ej)(j:Nat):Rat:=(if i=j then 1 else 0)-cC l λc=>if pq f P i c/\c.aF=j then d.w c else 0
def oP (d:Day)(f:Nat->Nat)(P:Nat->Prop)(i:Nat)(l:List ej):Rat:=d.st f i-cC l λc=>if pq f P i c then d.w c*d.U c.aF c.rk else 0
def Vf (a b:List ej)(aO:ej->Rat):cC (a++b) aO=cC a aO+cC b aO:=by
 induction a with
 |nil=>simp only[jE,cC];grind
 |cons c l aG=>rw[m1,cC,cC,aG];grind
def aDD {d:Day}{f:Nat->Nat}{P:Nat->Prop}{i j:Nat}(O:i<d.n)(ae:j<d.n):mx d f P i d.dE j=d.pk f P i j:=by
 unfold mx Day.pk;rw[Y ae]
 congr 1
 by_cases fF:P j
 ·rw[Y fF];unfold Day.W;refine wv λc _=>?_
  by_cases h:c.to=(i:Int)/\c.aF=j/\c.rk=f j
  ·have G:pq f P i c/\c.aF=j:=⟨⟨h.1,by rw[h.2.1];exact h.2.2,by rw[h.2.1];exact fF⟩,h.2.1⟩
   rw[Y h,Y G]
  ·have G:¬ (pq f P i c/\c.aF=j):=λab=>h ⟨ab.1.1,ab.2,by rw[<-ab.2];exact ab.1.2.1⟩
   rw[aa h,aa G]
 ·rw[aa fF];exact HG λc _=>aa λh=>fF (by rw[<-h.2];exact h.1.2.2)
def aDE {d:Day}(Z:d.dJ){f:Nat->Nat}{P:Nat->Prop}{i:Nat}:oP d f P i d.dE=d.pk f P i d.n:=by
 unfold oP Day.pk;rw[aa (by omega),<-Z.acn f P (λk=>d.U k (f k)) i]
 congr 1
 refine wv λc _=>?_
 by_cases F:c.to=(i:Int)
 ·rw[Y F]
  by_cases G:c.rk=f c.aF/\P c.aF
  ·have ab:pq f P i c:=⟨F,G⟩;rw[Y G,Y ab,G.1]
  ·have ab:¬ pq f P i c:=λh=>G h.2;rw[aa G,aa ab]
 ·have ab:¬ pq f P i c:=λh=>F h.1;rw[aa F,aa ab]
def an2 (d:Day)(f:Nat->Nat)(P:Nat->Prop)(i j:Nat):mx d f P i [] j=if i=j then 1 else 0:=by unfold mx;simp only[cC];split<;>grind
def an3 (d:Day)(f:Nat->Nat)(P:Nat->Prop)(i:Nat):oP d f P i []=d.st f i:=by unfold oP;simp only[cC];grind
def an4 {d:Day}{f:Nat->Nat}{P:Nat->Prop}{i:Nat}{l:List ej}{c:ej}(h:pq f P i c)(j:Nat):mx d f P i (l++[c]) j=if j=c.aF then mx d f P i l j-d.w c else mx d f P i l j:=by
 unfold mx;rw[Vf];simp only[cC]
 by_cases ae:c.aF=j
 ·have G:pq f P i c/\c.aF=j:=⟨h,ae⟩;rw[Y G,Y ae.symm];grind
 ·have G:¬ (pq f P i c/\c.aF=j):=λab=>ae ab.2;rw[aa G,aa (Ne.symm ae)];grind
def an5 {d:Day}{f:Nat->Nat}{P:Nat->Prop}{i:Nat}{l:List ej}{c:ej}(h:¬ pq f P i c\/c.am=0)(j:Nat):mx d f P i (l++[c]) j=mx d f P i l j:=by
 unfold mx;rw[Vf];simp only[cC];rcases h with h|h
 ·have G:¬ (pq f P i c/\c.aF=j):=λab=>h ab.1;rw[aa G];grind
 ·have G:=Day.Hp (d:=d) h;rw[G]
  split<;>grind
def an6 {d:Day}{f:Nat->Nat}{P:Nat->Prop}{i:Nat}{l:List ej}{c:ej}(h:pq f P i c):oP d f P i (l++[c])=oP d f P i l-d.w c*d.U c.aF c.rk:=by
 unfold oP;rw[Vf];simp only[cC];rw[Y h];grind
def an7 {d:Day}{f:Nat->Nat}{P:Nat->Prop}{i:Nat}{l:List ej}{c:ej}(h:¬ pq f P i c\/c.am=0):oP d f P i (l++[c])=oP d f P i l:=by
 unfold oP;rw[Vf];simp only[cC];rcases h with h|h
 ·rw[aa h];grind
 ·rw[Day.Hp h]
  split<;>grind
def A1 {z:Int}{b:Nat}(h:z.natAbs<=2^b):e0 b (z:Rat):=⟨by rw[Vg];exact h,by rw[Vh];exact acT⟩
def an8 {cash:List Int}{cs:List aB}(R:fX cash cs){c:aB}(J:c∈cs):e0 54 ((af cash cs).w (bP c)):=by
 have X:=(hL.1 R.right).2.2.2 c J;have zh:=R.am c J
 by_cases ay:c.2.2.2=0
 ·have:(bP c).am=0:=by show ((c.2.2.2:Int):Rat)=0;rw[ay];rfl
  rw[Day.Hp this];exact⟨Nat.zero_le _,acT⟩
 ·have cZ:=E7 R.right (bP c).aF (bP c).rk;have hle:=(KT R.right).UD (c:=bP c) (wA J);rw[<-cZ] at hle
  have F:c.2.2.2<=((jq cs (bP c).aF (bP c).rk:Nat):Int):=by
   have:((c.2.2.2:Int):Rat)<=(((jq cs (bP c).aF (bP c).rk:Nat):Int):Rat):=by rw[oe];exact hle
   exact_mod_cast this
  have G:=R.E8 (bP c).aF (bP c).rk
  obtain⟨f1,f2⟩:=EZ (q:=(af cash cs).w (bP c)) (v:=c.2.2.2) (d:=((jq cs (bP c).aF (bP c).rk:Nat):Int)) (by omega) (by
   rw[oe,cZ];refine Day.HI ?_;rw[<-cZ];have:0<jq cs (bP c).aF (bP c).rk:=by omega
   exact_mod_cast this)
  rw[Int.natAbs_natCast] at f2;exact⟨by omega,by omega⟩
section
variable {cash:List Int} {cs:List aB} (R:fX cash cs) (f:Nat->Nat) (P:Nat->Prop) (i:Nat) (cZ:∀k,P k->0<(af cash cs).S k (f k))
include R cZ
def an9 {c:aB}(J:c∈cs)(h:pq f P i (bP c)):eV (AV cs f P (bP c).aF) ((af cash cs).w (bP c))/\0<=(af cash cs).w (bP c)/\(af cash cs).w (bP c)<=1:=by
 have hm:bP c∈(af cash cs).dE:=wA J;obtain⟨F,G,ab⟩:=h;have aE:=cZ _ ab;rw[<-G] at aE;have e:=Day.HI (d:=af cash cs) (c:=bP c) aE;have hle:=(KT R.right).UD hm;have ay:=(KT R.right).rJ hm;refine⟨⟨c.2.2.2,?_⟩,ay,?_⟩
 ·unfold AV;rw[Y ab,E7 R.right,<-G];exact e
 ·have aV:((af cash cs).w (bP c))*(af cash cs).S (bP c).aF (bP c).rk<=1*(af cash cs).S (bP c).aF (bP c).rk:=by rw[e,EX];exact hle
  exact Rat.le_of_mul_le_mul_right aV aE
def aDF (l:List aB)(aq:∀c∈l,c∈cs)(eu:(D l)<=12)(j:Nat):e0 58 (mx (af cash cs) f P i (l.map bP) j):=by
 have:∀n (l:List aB),D l=n->(∀c∈l,c∈cs)->eV (AV cs f P j) (mx (af cash cs) f P i (l.map bP) j) /\ -(D l:Rat)<=mx (af cash cs) f P i (l.map bP) j/\mx (af cash cs) f P i (l.map bP) j<=1:=by
  intro n
  induction n with
  |zero =>
   intro l aq _;have:l=[]:=xY.1 aq;subst this;rw[bY,an2]
   split
   ·exact⟨eV.int _ 1,by decide,by decide⟩
   ·exact⟨eV.zero _,by decide,by decide⟩
  |succ n aG =>
   intro l aq hm;rcases BW l with ay|⟨gb,c,rfl⟩
   ·subst ay;cases aq
   ·rw[BX] at *;simp only[gC,qI] at aq;obtain⟨F,G,ab⟩:=aG gb (by omega) (λx L=>hm x (by simp[L]));rw[kE,eE,bY,gC,qI,acF];have ql:((1:Nat):Rat)=1:=rfl;rw[ql]
    by_cases J:pq f P i (bP c)
    ·rw[an4 J];obtain⟨w1,qc,bF⟩:=an9 R f P i cZ (hm c (by simp)) J
     split
     ·rename_i ae;rw[<-ae] at w1;exact⟨F.sub w1,by grind,by grind⟩
     ·exact⟨F,by grind,ab⟩
    ·rw[an5 (.inl J)];exact⟨F,by grind,ab⟩
 obtain⟨F,G,ab⟩:=this _ l rfl aq;have aV:(D l:Rat)<=((2^4:Nat):Rat):=by exact_mod_cast (by omega:(D l)<=2^4)
 have bu:(1:Rat)<=((2^4:Nat):Rat):=by decide
 exact F.am0 (am8 R cZ j) (am9 R j) (e:=4) (by grind) (by grind)
def aDG (l:List aB)(aq:∀c∈l,c∈cs)(eu:(D l)<=12):e0 382 (oP (af cash cs) f P i (l.map bP)):=by
 have l2:∀c∈cs,eV 1 ((af cash cs).U (bP c).aF (bP c).rk)/\0<=(af cash cs).U (bP c).aF (bP c).rk/\(af cash cs).U (bP c).aF (bP c).rk<=((2^54:Nat):Rat):=λc _=>by
  rw[<-qS R.right];have:=R.upto (bP c).aF (bP c).rk;refine⟨eV.int _ _,by exact_mod_cast this.1,?_⟩
  rw[<-oe];exact acU.2 (by omega)
 have:∀n (l:List aB),D l=n->(∀c∈l,c∈cs)->eV (jo (D cash) (AV cs f P)) (oP (af cash cs) f P i (l.map bP)) /\ -(D l*((2^54:Nat):Rat))<=oP (af cash cs) f P i (l.map bP)/\oP (af cash cs) f P i (l.map bP)<=((2^54:Nat):Rat):=by
  intro n
  induction n with
  |zero =>
   intro l aq _;have:l=[]:=xY.1 aq;subst this;rw[bY,an3,<-HP R.right];have:=R.steady f i;have bx:(0:Rat)<=((kH cash cs f i:Int):Rat):=by exact_mod_cast this.1
   have au:((kH cash cs f i:Int):Rat)<=((2^54:Nat):Rat):=by
    rw[<-oe];exact acU.2 (by omega)
   refine⟨eV.int _ _,?_,au⟩;have:(([]:List aB).length:Rat)=0:=rfl;rw[this,Rat.zero_mul];exact bx
  |succ n aG =>
   intro l aq hm;rcases BW l with ay|⟨gb,c,rfl⟩
   ·subst ay;cases aq
   ·rw[BX] at *;simp only[gC,qI] at aq;obtain⟨F,G,ab⟩:=aG gb (by omega) (λx L=>hm x (by simp[L]));have fD:=hm c (by simp);obtain⟨lP,hY,EG⟩:=l2 c fD;rw[kE,eE,bY,gC,qI,acF,Rat.add_mul];have ql:((1:Nat):Rat)=1:=rfl;rw[ql,EX];have ga:(0:Rat)<=((2^54:Nat):Rat):=by decide
    by_cases J:pq f P i (bP c)
    ·rw[an6 J];obtain⟨w1,qc,bF⟩:=an9 R f P i cZ fD J;have eU:=u1 qc hY;have cy:(af cash cs).w (bP c)*(af cash cs).U (bP c).aF (bP c).rk<=1*(af cash cs).U (bP c).aF (bP c).rk:=Rat.mul_le_mul_of_nonneg_right bF hY;rw[EX] at cy
     have dw:=(w1.mul lP).of_dvd (N:=jo (D cash) (AV cs f P)) (by
      rw[dZ];exact ab6 ((KT R.right).aF _ (wA fD)))
     generalize ((2^54:Nat):Rat)=B at *;exact⟨F.sub dw,by grind,by grind⟩
    ·rw[an7 (.inl J)];generalize ((2^54:Nat):Rat)=B at *;exact⟨F,by grind,ab⟩
 obtain⟨F,G,ab⟩:=this _ l rfl aq
 have aV:(D l:Rat)*((2^54:Nat):Rat)<=((2^58:Nat):Rat):=by
  rw[<-Rat.natCast_mul];exact_mod_cast eR (pj eu (cl (2^54))) (by decide)
 have bu:((2^54:Nat):Rat)<=((2^58:Nat):Rat):=by decide +kernel
 have aL:=R.jV;obtain⟨eZ,gx⟩:∃eZ,eZ=324:=⟨_,rfl⟩;have ia:jo (D cash) (AV cs f P)<=2^eZ:=acu (e:=eZ) (λk _=>am9 R k) (by omega);exact (F.am0 (ab2 λk _=>am8 R cZ k) ia (e:=58) (by grind) (by grind)).mono (by omega)
end
end Go.Mini
namespace Go.Mini
open Go
def H0:eJ 0:=by unfold eJ;omega
def Qg:eJ 1:=by unfold eJ;omega
def aDH (T:ba)(hM:T rl=aK xU){K:eK->bc->Prop}{kk:List fT}(ep:Mem)(n:Nat)(aL:n<=60)(aoa tN:M)(bs nQ:Nat)(v1 v2 jy v4:M)(Qh:Option (Nat×List M))(tm:Nat->M)(m:Mem)
  (bx:tm 0=aoa) (bN:tm 3=.H (.int .i64 n)) (bK:tm 4=tN) (i:Nat) (c6:tm 5=.H (.int .i64 i)) (bt:tm 6=.ptr 277006 bs 0) (bS:tm 7=.H (.int .i64 0)) (ho:m 277006=some (bs,[.ref 277043 nQ 4 0 0,v1,v2,jy,v4])) (oQ:m 277043=some (nQ,[])) (A2:m 277165=Qh) (bg:df 277 ep m)
  (db:∀tm' m' Qi,tm' 0=aoa->tm' 3=.H (.int .i64 n)->tm' 4=tN->tm' 5=.H (.int .i64 i)->tm' 6=.ptr 277006 bs 0->m' 277006=some (bs,[.ref 277043 Qi 4 0 n,v1,v2,jy,v4])->m' 277043=some (Qi,aU az (ef n (av ((0:Int):Rat))))->m' 277165=Qh->df 277 ep m'->cg T K kk (.exit 2) ⟨tm',m'⟩) :
  wp T (E9.body.sub [1,1,1,0,1,0,0,0,1,0,0,1,0,1,0]) (cg T K kk) ⟨tm,m⟩:=by
 simp only[E9,er.sub];refine dd [0,3,4,5,6] [277165] (λ((k,g):Nat×Nat) tm m=>k<=n/\tm 7=.H (.int .i64 k)/\m 277006=some (bs,[.ref 277043 g 4 0 k,v1,v2,jy,v4])/\m 277043=some (g,aU az (ef k (av ((0:Int):Rat))))/\df 277 ep m) (λ(k,_)=>n-k) (0,nQ) (by refine⟨by omega,bS,ho,oQ,bg⟩) ?_;intro vs ms aQ aM;simp only[go_sem,go_sem_proc,bx,bN,bK,c6,bt,A2] at aQ aM;subst aQ aM;clear bx bN bK c6 bt bS ho oQ A2 bg tm m;rintro⟨k,g⟩ tm m I hm ⟨AP,bS,ho,oQ,bg⟩;simp only[go_sem,go_sem_proc,bj] at I hm;obtain⟨bx,bN,bK,c6,bt⟩:=I;rcases dn (k<n) with ah|bW
 ·have d1:decide ((k:Int)<(n:Int))=true:=cX;have bF:=eI (i:=k) (by omega);have hw:=HQ 0 H0;have cm:(ef k (av ((0:Int):Rat))).length=k:=xH;have c9:=λcs jD=>kx jj v8 277043 g 64 (ef k (av ((0:Int):Rat))) (av ((0:Int):Rat)) (cs:=cs) jD (by omega) (by omega);rw[cm,<-Qj] at c9;have aPX:=db;clear db;generalize acV:av ((0:Int):Rat)=xB at *;obtain⟨⟨cz,cY⟩,⟨eA,eQ⟩⟩:=xB;have ng:=c9 _ rfl;simp only[az,eE,bY] at ng hw;refine ai ?_;repeat' (intro h<;>simp only[h,go_sem,go_sem_proc,hM,bx,bN,bK,c6,bt,bS,ho,oQ,hm,d1,bF,hw,ng]<;>try refine ag ?_ ?_)
  exact⟨(k+1,g+1),by dsimp only;omega,by dsimp only;omega,rfl,rfl,rfl,by repeat first|exact bg|refine df.dK ?_ (by decide)⟩
 ·have d1:decide ((k:Int)<(n:Int))=false:=b7;obtain rfl:k=n:=by omega
  refine ai ?_;repeat' (intro h<;>simp only[h,go_sem,go_sem_proc,bx,bN,bK,c6,bt,bS,d1]<;>try refine ag ?_ ?_)
  refine db _ _ g ?_ ?_ ?_ ?_ ?_ ho oQ hm bg<;>simp only[dC,cE,if_false,bx,bN,bK,c6,bt]
def acW {N k:Nat}(x:Nat->Rat)(y:Rat):(c8 N x).set k (av y)=c8 N λj=>if j=k then y else x j:=by
 refine K0 (by rw[ie,qT]) λj ae=>?_;rw[mr]
 by_cases h:k=j
 ·rw[Y h,Y (by rw[qT];omega),Y h.symm]
 ·rw[aa h,rL _ ae,aa (Ne.symm h)]
def kW {α:Type}{l:List α}{k:Nat}{d x:α}(h:l[k]?=some x):l.getD k d=x:=by rw[eD,h];rfl
def aDI {cash:List Int}{cs:List aB}(h:hr cash cs=true)(ar:Nat)(c2:Int)(c3:Nat)(c4:Int):K8 cs ((ar:Int),c2,(c3:Int),c4)=(af cash cs).w (bP ((ar:Int),c2,(c3:Int),c4)):=by
 unfold K8 Day.w;have:=KU h ar c3;show ((c4:Int):Rat)/((hg cs ar c3:Int):Rat)=((c4:Int):Rat)/(af cash cs).S ((ar:Int)).toNat ((c3:Int)).toNat;rw[gK,gK,<-this]
 rfl
structure Vi (a:oh) (mem:Mem):Prop where
 at_:a.fj mem
 cy:kh 277 mem
 dw:kh 280 mem
 dW:kh 281 mem
 wF:fX a.cash a.cs
 aJ:(D a.aJ)=D a.cash
 pl:(D a.P)=D a.cash
 f10:∀x∈a.aJ,0<=x/\x<=10
 kf:sF (af a.cash a.cs) (a9 a.aJ) (dB a.P)
def aDJ (T:ba)(hM:T rl=aK xU)(im:T sc=aK xV)(acX:T Sx=po Qf)(oL:T yB=aK CK)(rD:T DT=aK EA){K:eK->bc->Prop}{kk:List fT}(ep:Mem)(a:oh)(aZ:Vi a ep)(i:Nat)(O:i<D a.cash)(tN:M)(bs nQ:Nat)(Qh:Option (Nat×List M))(ME:List M)(tm:Nat->M)(m:Mem)
  (bx:tm 0=.ptr 261029 a.g 0) (bN:tm 3=.H (.int .i64 (D a.cash))) (bK:tm 4=tN) (c6:tm 5=.H (.int .i64 i)) (bt:tm 6=.ptr 277006 bs 0) (ee:tm 8=.H (.int .i64 0)) (aob:ME=(az (av ((af a.cash a.cs).st (a9 a.aJ) i))).map .H) (ho:m 277006=some (bs,.ref 277043 nQ 4 0 (D a.cash)::ME)) (oQ:m 277043=some (nQ,aU az (c8 (D a.cash) λj=>if i=j then 1 else 0))) (A2:m 277165=Qh) (bg:df 277 ep m)
  (db:∀tm' m',tm' 0=.ptr 261029 a.g 0->tm' 3=.H (.int .i64 (D a.cash))->tm' 4=tN->tm' 5=.H (.int .i64 i)->tm' 6=.ptr 277006 bs 0->m' 277006=some (bs,.ref 277043 nQ 4 0 (D a.cash)::(az (av ((af a.cash a.cs).pk (a9 a.aJ) (dB a.P) i (D a.cash)))).map .H)->m' 277043=some (nQ,aU az (c8 (D a.cash) ((af a.cash a.cs).pk (a9 a.aJ) (dB a.P) i)))->m' 277165=Qh->df 277 ep m'->cg T K kk (.exit 4) ⟨tm',m'⟩) :
  wp T (E9.body.sub [1,1,1,0,1,0,0,0,1,0,0,1,1,1,0,1,0]) (cg T K kk) ⟨tm,m⟩:=by
 simp only[E9,er.sub];obtain⟨cash,cs,aJ,P,g,cL,e1⟩:=a;obtain⟨bH,hB,ib,oR,R,gw,ia,du,iK⟩:=aZ;dsimp only at *;have Z:=R.ok;have aq:=(AY R.right).1;have iT:=bH.r;have w5:=bH.f;have mn:=bH.p;dsimp only at iT w5 mn
 refine dd [0,3,4,5,6] [277165] (λ(t:Nat) tm m=>t<=D cs/\tm 8=.H (.int .i64 t)/\m 277006=some (bs,.ref 277043 nQ 4 0 (D cash)::(az (av (oP (af cash cs) (a9 aJ) (dB P) i ((cs.take t).map bP)))).map .H)/\m 277043=some (nQ,aU az (c8 (D cash) (mx (af cash cs) (a9 aJ) (dB P) i ((cs.take t).map bP))))/\df 277 ep m) (λt=>D cs-t) 0 (by
  refine⟨by omega,ee,?_,?_,bg⟩
  ·rw[ho,aob,nw,bY,an3]
  ·rw[oQ,nw,bY]
   congr 3
   exact xS λk _=>(an2 _ _ _ i k).symm) ?_
 intro vs ms aQ aM;simp only[go_sem,go_sem_proc,bx,bN,bK,c6,bt,A2] at aQ aM;subst aQ aM;clear bx bN bK c6 bt ee ho oQ A2 bg aob tm m;rintro t tm m I hm ⟨b0,ee,ho,oQ,bg⟩;simp only[go_sem,go_sem_proc,bj] at I hm;obtain⟨bx,bN,bK,c6,bt⟩:=I;have X:=(bg.at 261029 (by omega)).trans iT;have aH:=(bg.at 261042 (by omega)).trans w5;have aE:=(bg.at 261027 (by omega)).trans mn;rcases dn (t<D cs) with ah|bW
 ·obtain⟨⟨ar,c2,c3,c4⟩,L⟩:∃c,cs[t]?=some c:=⟨_,bh ah⟩;have d1:decide ((t:Int)<(D cs:Int))=true:=cX;have bF:=eI (i:=t) (by omega);have fD:=dy L;have J:=(hL.1 R.right).2.2.2 _ fD;dsimp only at J
  have hb:(cs.take (t+1)).map bP=(cs.take t).map bP++[bP (ar,c2,c3,c4)]:=by
   rw[hZ,L,kE];rfl
  obtain⟨ar,rfl⟩:∃k:Nat,ar=(k:Int):=⟨ar.toNat,by omega⟩
  obtain⟨c3,rfl⟩:∃k:Nat,c3=(k:Int):=⟨c3.toNat,by omega⟩
  obtain⟨b,ad⟩:∃b,P[ar]?=some b:=⟨_,bh (by omega)⟩;obtain⟨y,aj⟩:∃y,aJ[ar]?=some y:=⟨_,bh (by omega)⟩;have A3:=zr (f:=iJ) ad;have zt:=zr (f:=dS) aj;have qO:=du y (dy aj);have bG:ar+1<=D P:=by omega
  have bO:ar<D P:=by omega
  have fp:ar+1<=D aJ:=by omega
  have fy:ar<D aJ:=by omega
  have mc:a9 aJ ar=y.toNat:=by unfold a9;rw[kW aj]
  have y3:dB P ar↔b=true:=by unfold dB;rw[kW ad]
  have ew:bP ((ar:Int),c2,(c3:Int),c4)=⟨ar,c2,c3,(c4:Rat)⟩:=by
   show ej.mk ((ar:Int)).toNat c2 ((c3:Int)).toNat (c4:Rat)=_;rw[gK,gK]
  have Qk:pq (a9 aJ) (dB P) i (bP ((ar:Int),c2,(c3:Int),c4))↔c2=(i:Int)/\(c3:Int)=y/\b=true:=by
   rw[ew];show c2=(i:Int)/\c3=a9 aJ ar/\dB P ar↔_;rw[mc,y3]
   constructor
   ·rintro⟨F,G,ab⟩;exact⟨F,by omega,ab⟩
   ·rintro⟨F,G,ab⟩;exact⟨F,by omega,ab⟩
  have y8:(¬ pq (a9 aJ) (dB P) i (bP ((ar:Int),c2,(c3:Int),c4))\/c4=0)->m 277006=some (bs,.ref 277043 nQ 4 0 (D cash)::(az (av (oP (af cash cs) (a9 aJ) (dB P) i ((cs.take (t+1)).map bP)))).map .H)/\m 277043=some (nQ,aU az (c8 (D cash) (mx (af cash cs) (a9 aJ) (dB P) i ((cs.take (t+1)).map bP)))):=by
   intro h
   have cn:¬ pq (a9 aJ) (dB P) i (bP ((ar:Int),c2,(c3:Int),c4))\/(bP ((ar:Int),c2,(c3:Int),c4)).am=0:=h.imp id λh=>by
    show ((c4:Int):Rat)=0;rw[h];rfl
   rw[hb,an7 cn,ho];refine⟨rfl,?_⟩;rw[oQ]
   congr 3
   exact xS λk _=>(an5 cn k).symm
  have xI:∀x,iJ x=.H (.bool x):=λ_=>rfl;have iw:∀x,dS x=.H (.int .i64 x):=λ_=>rfl;rcases au:(c2==(i:Int))
  ·obtain⟨s1,s2⟩:=y8 (.inl λh=>by have:=(Qk.1 h).1;rw[this] at au;simp at au);refine ai ?_;repeat' (intro (ao:_=_)<;>simp only[ao,go_sem,go_sem_proc,bx,bN,bK,c6,bt,ee,hm,X,L,d1,bF,au,bL,al,bm,bne,cA,b3]<;>try refine ag ?_ ?_)
   exact⟨t+1,by omega,by omega,rfl,s1,s2,(bg.dK (by decide)).dK (by decide)⟩
  ·cases b
   ·obtain⟨s1,s2⟩:=y8 (.inl λh=>by have:=(Qk.1 h).2.2;cases this);refine ai ?_;repeat' (intro (ao:_=_)<;>simp only[ao,go_sem,go_sem_proc,bx,bN,bK,c6,bt,ee,hm,X,aH,aE,L,A3,bG,bO,d1,bF,au,bL,dZ,xI,al,bm,bne,cA,b3]<;>try refine ag ?_ ?_)
    exact⟨t+1,by omega,by omega,rfl,s1,s2,(bg.dK (by decide)).dK (by decide)⟩
   ·rcases aC:((c3:Int)==y)
    ·obtain⟨s1,s2⟩:=y8 (.inl λh=>by have:=(Qk.1 h).2.1;rw[this] at aC;simp at aC);refine ai ?_;repeat' (intro (ao:_=_)<;>simp only[ao,go_sem,go_sem_proc,bx,bN,bK,c6,bt,ee,hm,X,aH,aE,L,A3,zt,bG,bO,fp,fy,d1,bF,au,aC,bL,dZ,xI,iw,al,bm,bne,cA,b3]<;>try refine ag ?_ ?_)
     exact⟨t+1,by omega,by omega,rfl,s1,s2,(bg.dK (by decide)).dK (by decide)⟩
    ·rcases acY:(c4==0)
     ·have Hf:c2=(i:Int):=beq_iff_eq.1 au;have zT:(c3:Int)=y:=beq_iff_eq.1 aC;have aoc:=Qk.2 ⟨Hf,zT,rfl⟩;have cZ:=iK.ph ar (y3.2 rfl);rw[mc,<-zT,gK,<-KU R.right] at cZ
      have aod:0<hg cs ar c3:=by
       have:(0:Int)<bT cs ar (c3+1:Nat)-bT cs ar c3:=by exact_mod_cast cZ
       exact this
      have qn:∀m':Mem,df 277 ep m'->Qf [.ptr 261029 g 0,.agg ((bL ((ar:Int),c2,(c3:Int),c4)).map .H)] m'=some (.agg (az (av ((af cash cs).w (bP ((ar:Int),c2,(c3:Int),c4)))))):=λm' BE=>by
       rw[<-aDI R.right ar c2 c3 c4];exact aDB ⟨cash,cs,.ref 261042 cL 1 0 (D aJ),.ref 261027 e1 1 0 (D P),g,((ar:Int),c2,(c3:Int),c4)⟩ m' ⟨(BE.at 261029 (by omega)).trans iT,oR.aF BE (by decide),AY R.right,by dsimp only;omega,by dsimp only;omega,by dsimp only;omega,by dsimp only;omega,aod⟩
      have SY:=λ(cU dc:Nat) (C0 uq:List M)=>qn (a5 (a5 m 277009 cU C0) 277009 dc uq) ((bg.dK (by decide)).dK (by decide));have l2:=R.upto ar c3;have oS:eJ (bT cs ar c3):=mQ (by omega) (by omega);have aoe:=HQ (bT cs ar c3) oS;have oF:=U2 cs ar c3 (AY R.right);have mK:(cs.take t).length<=12:=by have:=R.wE;rw[gP];omega
      have fB:=aDF R (a9 aJ) (dB P) i iK.ph (cs.take t) (λc J=>yo J) mK ar;have gN:=aDG R (a9 aJ) (dB P) i iK.ph (cs.take t) (λc J=>yo J) mK;have mR:=an8 R fD;have tO:e0 54 ((bT cs ar c3:Int):Rat):=A1 (by omega);have dI:=U8 (hU fB (by omega)) (hU mR (by omega)) (xQ fB (wy mR) (by omega));have ek:=anP (hU mR (by omega)) (hU tO (by omega)) (PM mR tO (by omega));have ht:=U8 (hU gN (by omega)) (hU (E1 mR tO) (by omega)) (xQ gN (wy (E1 mR tO)) (by omega))
      have zu:c8 (D cash) (mx (af cash cs) (a9 aJ) (dB P) i ((cs.take (t+1)).map bP))=(c8 (D cash) (mx (af cash cs) (a9 aJ) (dB P) i ((cs.take t).map bP))).set ar (av (mx (af cash cs) (a9 aJ) (dB P) i ((cs.take t).map bP) ar-(af cash cs).w (bP ((ar:Int),c2,(c3:Int),c4)))):=by
       rw[acW,hb];refine xS λk _=>?_;rw[an4 aoc,ew]
       by_cases I:k=ar
       ·rw[Y I,Y I,I]
       ·rw[aa I,aa I]
      have j8:oP (af cash cs) (a9 aJ) (dB P) i ((cs.take (t+1)).map bP)=oP (af cash cs) (a9 aJ) (dB P) i ((cs.take t).map bP)-(af cash cs).w (bP ((ar:Int),c2,(c3:Int),c4))*((bT cs ar c3:Int):Rat):=by
       rw[hb,an6 aoc,qS R.right,ew]
      have OP:(c8 (D cash) (mx (af cash cs) (a9 aJ) (dB P) i ((cs.take t).map bP))).length=D cash:=qT _ _;have acZ:=rL (N:=D cash) (mx (af cash cs) (a9 aJ) (dB P) i ((cs.take t).map bP)) (k:=ar) (by omega);have aDK:=congrArg av j8;clear j8 y8 db Qk fB gN mR tO hb;generalize av (oP (af cash cs) (a9 aJ) (dB P) i ((cs.take t).map bP)-(af cash cs).w (bP ((ar:Int),c2,(c3:Int),c4))*((bT cs ar c3:Int):Rat))=F1 at *;generalize av (mx (af cash cs) (a9 aJ) (dB P) i ((cs.take t).map bP) ar-(af cash cs).w (bP ((ar:Int),c2,(c3:Int),c4)))=F2 at *;generalize av ((af cash cs).w (bP ((ar:Int),c2,(c3:Int),c4))*((bT cs ar c3:Int):Rat))=F3 at *;generalize av ((bT cs ar c3:Int):Rat)=F4 at *;generalize av ((af cash cs).w (bP ((ar:Int),c2,(c3:Int),c4)))=F5 at *;generalize av (oP (af cash cs) (a9 aJ) (dB P) i ((cs.take t).map bP))=F6 at *;generalize av (mx (af cash cs) (a9 aJ) (dB P) i ((cs.take t).map bP) ar)=F7 at *;generalize c8 (D cash) (mx (af cash cs) (a9 aJ) (dB P) i ((cs.take t).map bP))=bC at *;obtain⟨⟨cz,cY⟩,⟨eA,eQ⟩⟩:=F1;obtain⟨⟨cQ,dN⟩,⟨gy,g3⟩⟩:=F2;obtain⟨⟨f1,f2⟩,⟨f3,f4⟩⟩:=F3;obtain⟨⟨cU,dc⟩,⟨hj,kV⟩⟩:=F4;obtain⟨⟨cy,dw⟩,⟨dW,fW⟩⟩:=F5;obtain⟨⟨qJ,qK⟩,⟨K9,La⟩⟩:=F6;obtain⟨⟨hk,hQ⟩,⟨kD,lf⟩⟩:=F7;have t1:=Hq acZ;have t2:=AF (l:=bC) (k:=ar) (by omega);have t3:=Hr (l:=bC) (k:=ar) (by omega) cQ dN gy g3;have MY:ar<D cash:=by omega
      simp only[az,eE,bY,bL] at dI ek ht SY aoe ho;refine ai ?_;repeat' (intro (ao:_=_)<;>simp only[ao,go_sem,go_sem_proc,hM,im,acX,oL,rD,bx,bN,bK,c6,bt,ee,hm,X,aH,aE,ho,oQ,L,A3,zt,bG,bO,fp,fy,MY,d1,bF,au,aC,acY,SY,oF,aoe,dI,ek,ht,t1,t2,t3,bL,dZ,xI,iw,al,bm,bne,cA,b3,beq_self_eq_true]<;>try refine ag ?_ ?_)
      refine⟨t+1,by omega,by omega,rfl,by rw[aDK];rfl,by rw[zu],by repeat first|exact bg|refine df.same ?_ iT|refine df.dK ?_ (by decide)⟩
     ·obtain⟨s1,s2⟩:=y8 (.inr (beq_iff_eq.1 acY));refine ai ?_;repeat' (intro (ao:_=_)<;>simp only[ao,go_sem,go_sem_proc,bx,bN,bK,c6,bt,ee,hm,X,aH,aE,L,A3,zt,bG,bO,fp,fy,d1,bF,au,aC,acY,bL,dZ,xI,iw,al,bm,bne,cA,b3]<;>try refine ag ?_ ?_)
      exact⟨t+1,by omega,by omega,rfl,s1,s2,(bg.dK (by decide)).dK (by decide)⟩
 ·have d1:decide ((t:Int)<(D cs:Int))=false:=b7;rw[dD (by omega)] at ho oQ;have F:oP (af cash cs) (a9 aJ) (dB P) i (cs.map bP)=(af cash cs).pk (a9 aJ) (dB P) i (D cash):=aDE Z;have G:c8 (D cash) (mx (af cash cs) (a9 aJ) (dB P) i (cs.map bP))=c8 (D cash) ((af cash cs).pk (a9 aJ) (dB P) i):=xS λk I=>aDD (d:=af cash cs) O I;rw[F] at ho;rw[G] at oQ;refine ai ?_;repeat' (intro (ao:_=_)<;>simp only[ao,go_sem,go_sem_proc,bx,bN,bK,c6,bt,ee,X,d1,al]<;>try refine ag ?_ ?_)
  refine db _ _ ?_ ?_ ?_ ?_ ?_ ho oQ hm bg<;>simp only[dC,cE,if_false,bx,bN,bK,c6,bt]
def aof (r:cI):((dQ r).map M.H).all M.one=true:=rfl
def aDL {aJ:List Int}(h:∀x∈aJ,0<=x/\x<=10){i:Nat}(O:i<D aJ):aJ.getD i 0=(a9 aJ i:Int):=by
 unfold a9;rw[eD,eD,bh O];have:=h _ (mh O);simp only[BJ];omega
def aDM {cash:List Int}{cs:List aB}{aJ:List Int}(X:hr cash cs=true)(aq:(D aJ)=D cash)(h:∀x∈aJ,0<=x/\x<=10)(i:Nat):HY cash cs aJ i=kH cash cs (a9 aJ) i:=by
 unfold HY kH
 congr 1
 refine HL λc J=>?_;have:=(hL.1 X).2.2.2 c J;rw[aDL h (by omega)]
def aDN {N i:Nat}(O:i<N):(ef N (av ((0:Int):Rat))).set i (av ((1:Int):Rat))=c8 N λj=>if i=j then 1 else 0:=by
 have:ef N (av ((0:Int):Rat))=c8 N λ_=>0:=K0 xH λk I=>by
  rw[ac0,Y I];rfl
 rw[this,acW];refine xS λk _=>?_
 by_cases h:k=i
 ·rw[Y h,Y h.symm];rfl
 ·rw[aa h,aa (Ne.symm h)]
def ac1:List M->Mem->Option Data:=zq (λ(a:oh) args mem=>args=[.ptr 261029 a.g 0]/\Vi a mem) λa => .ax ((c8 (D a.cash) ((af a.cash a.cs).e5 (a9 a.aJ) (dB a.P))).map az)
def aDO (a:oh)(mem:Mem)(h:Vi a mem):ac1 [.ptr 261029 a.g 0] mem=some (.ax ((c8 (D a.cash) ((af a.cash a.cs).e5 (a9 a.aJ) (dB a.P))).map az)):=by
 refine HW (a:=a) ?_ ⟨rfl,h⟩;rintro a b args mem ⟨au,aC⟩ ⟨bN,bK⟩;rw[oh.uniq aC.at_ bK.at_]
def aDP (T:ba)(aDQ:T Y3=po acQ)(hM:T rl=aK xU)(im:T sc=aK xV)(acX:T Sx=po Qf)(oL:T yB=aK CK)(rD:T DT=aK EA)(aDR:T YN=aK Uw)(a:oh)(mem:Mem)(aZ:Vi a mem):
  wp T E9.body (oJ E9.res λm mem'=>cV 6 emp m=some (.ax ((c8 (D a.cash) ((af a.cash a.cs).e5 (a9 a.aJ) (dB a.P))).map az))/\df 277 mem mem') ⟨kq [.ptr 261029 a.g 0],mem⟩:=by
 have ea:=aZ;obtain⟨cash,cs,aJ,P,g,cL,e1⟩:=a;obtain⟨bH,hB,ib,oR,R,gw,ia,du,iK⟩:=aZ;dsimp only at *;have iT:=bH.r;dsimp only at iT;have aL:=R.jV;have aDS:mem 277165=none:=hB 277165 (by decide);refine ra ?_;simp only[E9];generalize dX:(af cash cs).pk (a9 aJ) (dB P)=A at *;simp only[go_sem,go_sem_proc,iT,aDS,al];refine dd [0,3] [] (λ((i,xZ):Nat×Nat) tm m=>i<=D cash/\tm 5=.H (.int .i64 i)/\tm 4=.ref 277165 xZ 5 0 i/\m 277165=some (xZ,aU dQ ((rowsOf (D cash) A).take i))/\df 277 mem m) (λ(i,_)=>D cash-i) (0,0) (by refine⟨by omega,rfl,rfl,rfl,(df.refl _ _).dK (by decide)⟩) ?_;intro vs ms aQ aM;simp only[go_sem,go_sem_proc,al] at aQ aM;subst aQ aM;rintro⟨i,xZ⟩ tm m I hm ⟨O,c6,bK,A2,bg⟩;simp only[go_sem,go_sem_proc,bj] at I;obtain⟨bx,bN⟩:=I;have X:=(bg.at 261029 (by omega)).trans iT;rcases dn (i<D cash) with ah|bW
 ·have d1:decide ((i:Int)<(D cash:Int))=true:=cX;have bF:=eI (i:=i) (by omega);have da:=aDy ⟨cash,cs,aJ,P,g,cL,e1⟩ i m (u6.aF bH bg (by decide)) (ib.aF bg (by decide)) R.right gw ah;dsimp only at da;have aPY:=R.steady (a9 aJ) i;rw[aDM R.right gw du i] at da;have x0:eJ (kH cash cs (a9 aJ) i):=mQ (by omega) (by omega);have Vj:=HQ _ x0;rw[HP R.right] at Vj;have F:=HQ 1 Qg;generalize aDT:av ((af cash cs).st (a9 aJ) i)=SF at *;obtain⟨⟨s1,s2⟩,⟨c1,de⟩⟩:=SF;simp only[az] at Vj;simp only[go_sem,go_sem_proc,aDQ,hM,bx,bN,bK,c6,X,d1,da,Vj];refine Qc (kc:=277006) (g:=gk (m 277006)) (off:=0) (cs:=[.nil,.H (.int .i64 s1),.H (.ax (s2.map aI)),.H (.int .i64 c1),.H (.ax (de.map aI))]) ?_ ?_ rfl (by decide) ?_
  ·simp only[go_sem,go_sem_proc]
  ·simp[a5]
  simp only[go_sem,go_sem_proc,lB];refine aDH T hM mem (D cash) (by omega) (.ptr 261029 g 0) (.ref 277165 xZ 5 0 i) (gk (m 277006)) (gk (m 277043)) (.H (.int .i64 s1)) (.H (.ax (s2.map aI))) (.H (.int .i64 c1)) (.H (.ax (de.map aI))) (some (xZ,aU dQ ((rowsOf (D cash) A).take i))) _ _ ?_ ?_ ?_ i ?_ ?_ ?_ ?_ ?_ ?_ ?_ ?_
  ·simp only[dC,cE,if_false];exact bx
  ·simp only[dC,cE,if_false];exact bN
  ·simp only[dC,cE,if_false];exact bK
  ·simp only[dC,cE,if_false];exact c6
  ·simp only[dC,cE,if_false,if_true]
  ·simp only[dC,cE,if_false,if_true]
  ·simp[a5]
  ·simp[a5]
  ·simp only[a5,cE,if_false];exact A2
  ·repeat first|exact bg|refine df.dK ?_ (by decide)
  intro tm bU nQ eU dW fW jb fv l4 Fg ac2 jB;have bf:=(jB.at 261029 (by omega)).trans iT;have cm:(ef (D cash) (av ((0:Int):Rat))).length=D cash:=xH;have yx:=aDN ah;clear bx bN bK c6 da Vj A2 bg X;generalize jf:ef (D cash) (av ((0:Int):Rat))=bC at *;generalize fZ:av ((1:Int):Rat)=a4 at *;obtain⟨⟨qJ,qK⟩,⟨K9,La⟩⟩:=a4;have t2:=AF (l:=bC) (k:=i) (by omega);have t3:=Hr (l:=bC) (k:=i) (by omega) qJ qK K9 La;simp only[az] at F;simp only[go_sem,go_sem_proc,hM,eU,dW,fW,jb,fv,l4,Fg,bf,F,ah,t2,t3];refine aDJ T hM im acX oL rD mem ⟨cash,cs,aJ,P,g,cL,e1⟩ ea i ah (.ref 277165 xZ 5 0 i) (gk (m 277006)) nQ (some (xZ,aU dQ ((rowsOf (D cash) A).take i))) [.H (.int .i64 s1),.H (.ax (s2.map aI)),.H (.int .i64 c1),.H (.ax (de.map aI))] _ _ ?_ ?_ ?_ ?_ ?_ ?_ ?_ ?_ ?_ ?_ ?_ ?_
  ·simp only[dC,cE,if_false];exact eU
  ·simp only[dC,cE,if_false];exact dW
  ·simp only[dC,cE,if_false];exact fW
  ·simp only[dC,cE,if_false];exact jb
  ·simp only[dC,cE,if_false];exact fv
  ·simp only[dC,cE,if_false,if_true]
  ·dsimp only;rw[aDT];rfl
  ·simp only[a5,cE,if_false];exact l4
  ·simp only[a5,cE,if_true];rw[yx]
  ·simp only[a5,cE,if_false];exact ac2
  ·repeat first|exact jB|refine df.dK ?_ (by decide)
  dsimp only;rw[dX];intro tm iA eU dW fW jb fv l4 Fg ac2 A4;clear yx t2 t3 F bf;have c9:=λcs jD=>kx ry aof 277165 xZ 88 ((rowsOf (D cash) A).take i) (c8 (D cash) (A i),av (A i (D cash))) (cs:=cs) jD;have mK:((rowsOf (D cash) A).take i).length=i:=by rw[gP,AW];omega
  have hb:(rowsOf (D cash) A).take i++[(c8 (D cash) (A i),av (A i (D cash)))]=(rowsOf (D cash) A).take (i+1):=by
   rw[hZ,acy A ah];rfl
  rw[mK,hb] at c9;have j3:(c8 (D cash) (A i)).length=D cash:=qT _ _;generalize c8 (D cash) (A i)=V at *;generalize av (A i (D cash))=eZ at *;obtain⟨⟨v1,v2⟩,⟨jy,v4⟩⟩:=eZ;have ng:=c9 _ rfl (by omega) (by omega);simp only[az,dQ,eE,bY] at l4 ng;simp only[go_sem,go_sem_proc];refine Vb (kc:=277006) (gc:=gk (m 277006)) (off:=0) (cc:=[.ref 277043 nQ 4 0 (D cash),.H (.int .i64 v1),.H (.ax (v2.map aI)),.H (.int .i64 jy),.H (.ax (v4.map aI))]) (k:=277043) (g:=nQ) (sz:=4) (o:=0) (len:=D cash) (cs:=aU az V) (d:=.ax (V.map az)) ?_ l4 rfl Fg (Jf _ _) (by decide) ?_ ?_
  ·exact fv
  ·have:=k6 (n:=0) jj Fg;rw[j3] at this;exact this
  refine ai ?_;repeat' (intro h<;>simp only[h,go_sem,go_sem_proc,eU,dW,fW,jb,fv,ac2,ng,bF,lB]<;>try refine ag ?_ ?_)
  exact⟨(i+1,xZ+1),by dsimp only;omega,by dsimp only;omega,rfl,rfl,rfl,by repeat first|exact A4|refine df.dK ?_ (by decide)⟩
 ·have d1:decide ((i:Int)<(D cash:Int))=false:=b7;have cP:i=D cash:=by omega
  have hlen:=AW (D cash) A;rw[dD (by rw[hlen];omega)] at A2;obtain⟨cQ,dN⟩:=aCV R iK;rw[dX] at cQ dN
  have hT:uQ (rowsOf (D cash) A):=by
   rw[<-dX];exact ana (by omega) λi O k I=>hU ((acw R iK.ph).sz (by omega) O I) (by omega)
  have ec:=aBi (rowsOf (D cash) A) (D cash) hT;rw[<-aBA hT,cQ] at ec;dsimp only at ec;have lg:=λ(K:bc->Prop) (st:bc)=>nB (K:=K) (st:=st) ry 4 277165 xZ (rowsOf (D cash) A);rw[hlen] at lg;subst cP;refine ai ?_;repeat' (intro h<;>simp only[h,go_sem,go_sem_proc,aDR,bx,bN,bK,c6,X,A2,d1,lg,ec,bne,beq_self_eq_true,b3]<;>try refine ag ?_ ?_)
  exact⟨_,rfl,rfl,by repeat first|exact bg|refine df.same ?_ iT|refine df.dK ?_ (by decide)⟩
def zv (cs:List aB)(cK:Int)(x:Rat):Nat->Nat
 |0=>10
 |k+1=>if x<((bT cs cK (10-(k+1)+1:Nat):Int):Rat) then 10-(k+1) else zv cs cK x k
def aog {cash:List Int}{cs:List aB}(h:hr cash cs=true)(f:Nat->Rat)(i:Nat):∀k,zv cs i (f i) k=(af cash cs).jA f i k
 |0=>rfl
 |k+1=>by
  unfold zv Day.jA;rw[qS h,aog h f i k]
def aDU (cs:List aB)(cK:Int)(x:Rat)(k:Nat):zv cs cK x (k+1)=if x<((bT cs cK (10-(k+1)+1:Nat):Int):Rat) then 10-(k+1) else zv cs cK x k:=rfl
abbrev Lb:(List aB)×Int×Rat->List Data:=λ(cs,cK,x)=>[.ax (cs.map bL),.int .i64 cK,.agg (az (av x))]
def Lc:=bV Lb λ(cs,cK,x)=>cu (AX cs/\dH x) (.same (.int .i64 (zv cs cK x 10)))
def aoh:∀a b,Lb a=Lb b->a=b:=by
  rintro⟨C0,aC9,fx⟩ ⟨uq,aDa,fe⟩ h;simp only[bj,Data.ax.injEq,Data.int.injEq,Data.agg.injEq,and_true,true_and] at h;exact et (map_inj tM _ _ h.1) (et h.2.1 (Em (pS _ _ h.2.2)))
@[go_sem] def aDV (cs cK x):=cH Lc rfl aoh (cs,cK,x) rfl
def aDW (T:ba)(im:T sc=aK xV)(hM:T rl=aK xU)(gA:T uC=aK xX):WF T ann Lc:=by
 refine cp λ(cs,cK,x)=>cT λJ=>⟨rfl,ck ?_⟩;simp only[ann,Lb,cd];obtain⟨cw,m4⟩:=J;generalize ec:av x=aO at *;obtain⟨⟨cz,cY⟩,⟨eA,eQ⟩⟩:=aO;simp only[go_sem,go_sem_proc,im,hM,gA,az];refine dd [0,1,5] [273005] (λ(k:Nat) tm m=>k<=10/\tm 7=.H (.int .i64 k)/\zv cs cK x 10=zv cs cK x (10-k)) (λk=>10-k) 0 (by refine⟨by omega,rfl,rfl⟩) ?_;intro vs ms aQ aM;simp only[go_sem,go_sem_proc,im,hM,gA,az] at aQ aM;subst aQ aM;rintro k tm m I hm ⟨aDX,bS,zm⟩;simp only[go_sem,go_sem_proc,im,hM,gA,bj] at I hm;obtain⟨bx,au,c6⟩:=I;rcases dn (k<10) with ah|bW
 ·have d1:decide ((k:Int)<10)=true:=cX;have bF:=eI (i:=k) (by omega);have l2:=cw.upto cK (k+1:Nat);have oS:eJ (bT cs cK (k+1:Nat)):=mQ (by omega) (by omega);have oF:=U2 cs cK (k+1:Nat) cw;have hw:=HQ _ oS;have lx:=Qa m4 (y:=((bT cs cK (k+1:Nat):Int):Rat)) ⟨by rw[Vg];exact uN oS,by rw[Vh];decide +kernel⟩
  have bW:decide (lb x ((bT cs cK (k+1:Nat):Int):Rat)>=0)=decide (((bT cs cK (k+1:Nat):Int):Rat)<=x):=Va
  have he:zv cs cK x (10-k)=if x<((bT cs cK (k+1:Nat):Int):Rat) then k else zv cs cK x (10-(k+1)):=by
   obtain⟨j,ae⟩:∃j,10-k=j+1:=⟨9-k,by omega⟩
   rw[ae,aDU,show 10-(j+1)=k by omega,show 10-(k+1)=j by omega]
  rw[ec] at lx;generalize iU:av ((bT cs cK (k+1:Nat):Int):Rat)=b2 at *;obtain⟨⟨cQ,dN⟩,⟨gy,g3⟩⟩:=b2;simp only[az] at hw lx
  by_cases L:x<((bT cs cK (k+1:Nat):Int):Rat)
  ·rw[Y L] at he;have d2:decide (lb x ((bT cs cK (k+1:Nat):Int):Rat)>=0)=false:=by rw[bW];exact kM (by grind)
   rw[zm,he];refine ai ?_;repeat' (intro h<;>simp only[h,go_sem,go_sem_proc,im,hM,gA,im,hM,gA,bx,au,c6,bS,hm,d1,bF,oF,hw,lx,d2]<;>try refine ag ?_ ?_)
  ·rw[aa L] at he;have d2:decide (lb x ((bT cs cK (k+1:Nat):Int):Rat)>=0)=true:=by rw[bW];exact hN (by grind)
   refine ai ?_;repeat' (intro h<;>simp only[h,go_sem,go_sem_proc,im,hM,gA,im,hM,gA,bx,au,c6,bS,hm,d1,bF,oF,hw,lx,d2]<;>try refine ag ?_ ?_)
   exact⟨k+1,by omega,by omega,rfl,zm.trans he⟩
 ·have d1:decide ((k:Int)<10)=false:=b7;obtain rfl:k=10:=by omega
  rw[zm];refine ai ?_;repeat' (intro h<;>simp only[h,go_sem,go_sem_proc,im,hM,gA,bx,au,c6,bS,hm,d1,zv]<;>try refine ag ?_ ?_)
def fI (n:Nat)(p:Nat->Bool):List Bool:=(eM n).map p
def tP (n:Nat)(p:Nat->Bool):(fI n p).length=n:=by simp[fI]
def Fh {n i:Nat}(p:Nat->Bool)(h:i<n):(fI n p)[i]?=some (p i):=by
 unfold fI;rw[bm,vo h];rfl
def aoi {n i:Nat}(p:Nat->Bool)(b:Bool):(fI n p).set i b=fI n λj=>if j=i then b else p j:=by
 apply pE;intro j;rcases hO j n with ae|ae
 ·rw[Fh _ ae,mr]
  by_cases h:i=j
  ·rw[Y h,Y (by rw[tP];omega),Y h.symm]
  ·rw[aa h,Fh _ ae,aa (Ne.symm h)]
 ·rw[jZ (by rw[ie,tP];omega),jZ (by rw[tP];omega)]
def H2 {n:Nat}{p q:Nat->Bool}(h:∀i,i<n->p i=q i):fI n p=fI n q:=ox λi O=>h i (ig.1 O)
def Ql {n i:Nat}{p:Nat->Bool}:dB (fI n p) i↔i<n/\p i=true:=by
 unfold dB;rcases hO i n with h|h
 ·rw[kW (Fh p h)];exact⟨λe=>⟨h,e⟩,λe=>e.2⟩
 ·rw[eD,jZ (by rw[tP];exact h)];simp;omega
def p4 (d:Day)(f:Nat->Nat)(h:Nat->Rat)(i:Nat):Bool:=decide (f i<10)&&decide (d.U i (f i)<h i)
def iL (d:Day)(f:Nat->Nat)(h:Nat->Rat)(p:Nat->Bool)(i j:Nat):Bool:=p j||(decide (j<i)&&p4 d f h j)
def wG (d:Day)(f:Nat->Nat)(h:Nat->Rat)(p:Nat->Bool)(i:Nat):Bool:=(eM i).any λj => !p j&&p4 d f h j
def aoj (d:Day)(f:Nat->Nat)(h:Nat->Rat)(p:Nat->Bool)(i:Nat):wG d f h p (i+1)=(wG d f h p i||(!p i&&p4 d f h i)):=by
 unfold wG;rw[rM,List.any_append];simp
def Vk (d:Day)(f:Nat->Nat)(h:Nat->Rat)(p:Nat->Bool)(i:Nat):iL d f h p i i=p i:=by
 unfold iL;rw[kM (Nat.lt_irrefl i),e9,lT]
def ac3 (d:Day)(f:Nat->Nat)(h:Nat->Rat)(p:Nat->Bool)(i j:Nat):iL d f h p (i+1) j=if j=i then (p i||p4 d f h i) else iL d f h p i j:=by
 unfold iL
 by_cases ae:j=i
 ·subst ae;rw[Y rfl,hN (anM j),fN]
 ·rw[aa ae]
  congr 2
  rw[decide_eq_decide];omega
structure aDY (a:oh) (mem:Mem):Prop where
 at_:a.fj mem
 cy:kh 277 mem
 dw:kh 280 mem
 dW:kh 281 mem
 wF:fX a.cash a.cs
 aJ:(D a.aJ)=D a.cash
 pl:(D a.P)=D a.cash
 f10:∀x∈a.aJ,0<=x/\x<=10
def aDZ (T:ba)(hM:T rl=aK xU)(im:T sc=aK xV)(gA:T uC=aK xX){K:eK->bc->Prop}{kk:List fT}(ep:Mem)(a:oh)(p:Nat->Bool)(fF:a.P=fI (D a.cash) p)(R:fX a.cash a.cs)(gw:(D a.aJ)=D a.cash)(du:∀x∈a.aJ,0<=x/\x<=10)(h:Nat->Rat)(hT:∀i,i<(D a.cash)->dH (h i))(tm:Nat->M)(m:Mem)
  (bH:a.fj m) (bg:∀k,k≠261027->m k=ep k) (bx:tm 0=.ptr 261029 a.g 0) (bN:tm 3=.H (.int .i64 (D a.cash))) (c6:tm 5=.H (.ax ((c8 (D a.cash) h).map az))) (bt:tm 6=.H (.bool false)) (bS:tm 7=.H (.int .i64 0))
  (db:∀tm' m',tm' 0=.ptr 261029 a.g 0->tm' 3=.H (.int .i64 (D a.cash))->tm' 5=.H (.ax ((c8 (D a.cash) h).map az))->tm' 6=.H (.bool (wG (af a.cash a.cs) (a9 a.aJ) h p (D a.cash)))->u6 a.cash a.cs a.aJ (fI (D a.cash) (iL (af a.cash a.cs) (a9 a.aJ) h p (D a.cash))) a.g a.cL a.e1 m'->(∀k,k≠261027->m' k=ep k)->cg T K kk (.exit 4) ⟨tm',m'⟩) :
  wp T (K1.body.sub [1,1,1,0,0,0,1,0,1,1,0,1,0]) (cg T K kk) ⟨tm,m⟩:=by
 simp only[K1,er.sub];obtain⟨cash,cs,aJ,P,g,cL,e1⟩:=a;dsimp only at *;subst fF;have aL:=R.jV
 refine dd [0,3,5] [] (λ(i:Nat) tm m=>i<=D cash/\tm 7=.H (.int .i64 i)/\tm 6=.H (.bool (wG (af cash cs) (a9 aJ) h p i))/\u6 cash cs aJ (fI (D cash) (iL (af cash cs) (a9 aJ) h p i)) g cL e1 m/\∀k,k≠261027->m k=ep k) (λi=>D cash-i) 0 (by
  refine⟨by omega,bS,bt,?_,bg⟩
  have:fI (D cash) (iL (af cash cs) (a9 aJ) h p 0)=fI (D cash) p:=H2 λj _=>by
   unfold iL;rw[b7,e9,lT]
  rw[this];exact bH) ?_
 intro vs ms aQ aM;simp only[go_sem,go_sem_proc,bx,bN,c6] at aQ aM;subst aQ aM;clear bx bN c6 bt bS bH bg tm m;rintro i tm m I-⟨O,bS,bt,bH,bg⟩;simp only[go_sem,go_sem_proc,bj] at I;obtain⟨bx,bN,c6⟩:=I;have X:=bH.r;have aH:=bH.f;have aE:=bH.p;rw[tP] at X;rcases dn (i<D cash) with ah|bW
 ·have d1:decide ((i:Int)<(D cash:Int))=true:=cX;have bF:=eI (i:=i) (by omega);obtain⟨y,aj⟩:∃y,aJ[i]?=some y:=⟨_,bh (by omega)⟩;have qO:=du y (dy aj);have mc:a9 aJ i=y.toNat:=by unfold a9;rw[kW aj]
  obtain⟨y,rfl⟩:∃k:Nat,y=(k:Int):=⟨y.toNat,by omega⟩
  rw[gK] at mc;have zt:=zr (f:=dS) aj;have aok:=Fh (n:=D cash) (iL (af cash cs) (a9 aJ) h p i) ah;rw[Vk] at aok;have A3:=zr (f:=iJ) aok;have Ob:=aoi (n:=D cash) (i:=i) (iL (af cash cs) (a9 aJ) h p i) true;have eN:i+1<=D aJ:=by omega
  have aw:i<D aJ:=by omega
  have cb:i+1<=D cash:=by omega
  have aM:=aoj (af cash cs) (a9 aJ) h p i;have da:fI (D cash) (iL (af cash cs) (a9 aJ) h p (i+1))=fI (D cash) λj=>if j=i then (p i||p4 (af cash cs) (a9 aJ) h i) else iL (af cash cs) (a9 aJ) h p i j:=H2 λj _=>ac3 _ _ _ _ _ _
  have ug:(p i=true\/p4 (af cash cs) (a9 aJ) h i=false)->fI (D cash) (iL (af cash cs) (a9 aJ) h p (i+1))=fI (D cash) (iL (af cash cs) (a9 aJ) h p i):=λa1=>by
   rw[da];refine H2 λj _=>?_
   by_cases ae:j=i
   ·subst ae;rw[Y rfl,Vk];rcases a1 with F|F
    ·rw[F];rfl
    ·rw[F,lT]
   ·rw[aa ae]
  have xI:∀x,iJ x=.H (.bool x):=λ_=>rfl;have iw:∀x,dS x=.H (.int .i64 x):=λ_=>rfl;have x1:(fI (D cash) (iL (af cash cs) (a9 aJ) h p i)).length=D cash:=tP _ _;rcases d2:decide ((y:Int)<10)
  ·have iO:p4 (af cash cs) (a9 aJ) h i=false:=by
    unfold p4;rw[mc,kM (by have:=of_decide_eq_false d2;omega),e9]
   rw[iO,iS,lT] at aM;refine ai ?_;repeat' (intro (ao:_=_)<;>simp only[ao,go_sem,go_sem_proc,bx,bN,c6,bt,bS,X,aH,aE,d1,d2,bF,zt,eN,aw,dZ,iw,cA,al]<;>try refine ag ?_ ?_)
   exact⟨i+1,by omega,by omega,rfl,by rw[aM],by rw[ug (.inr iO)];exact bH,bg⟩
  ·rcases rf:p i
   ·rw[rf] at A3;have l2:=R.upto i y;have oS:eJ (bT cs i y):=mQ (by omega) (by omega);have oF:=U2 cs i y (AY R.right);have hw:=HQ _ oS;have lx:=Qa (hT i ah) (y:=((bT cs i y:Int):Rat)) ⟨by rw[Vg];exact uN oS,by rw[Vh];decide +kernel⟩
    have iz:decide (lb (h i) ((bT cs i y:Int):Rat)>0)=decide (((bT cs i y:Int):Rat)<h i):=acM
    have b8:p4 (af cash cs) (a9 aJ) h i=decide (((bT cs i y:Int):Rat)<h i):=by
     unfold p4;rw[mc,qS R.right,hN (show y<10 by have:=of_decide_eq_true d2;omega),fN]
    rw[<-b8] at iz;have tQ:=rL h ah;generalize Vl:av (h i)=gR at *;generalize iU:av ((bT cs i y:Int):Rat)=b2 at *;obtain⟨⟨cQ,dN⟩,⟨gy,g3⟩⟩:=b2;obtain⟨⟨cz,cY⟩,⟨eA,eQ⟩⟩:=gR;simp only[az] at hw lx;rcases iO:p4 (af cash cs) (a9 aJ) h i
    ·rw[iO] at iz;rw[rf,iO,iS,lT] at aM;refine ai ?_;repeat' (intro (ao:_=_)<;>simp only[ao,go_sem,go_sem_proc,im,hM,gA,bx,bN,c6,bt,bS,X,aH,aE,d1,d2,bF,zt,A3,x1,eN,aw,cb,ah,oF,hw,lx,iz,tQ,az,dZ,iw,xI,cA,b3,al,bm]<;>try refine ag ?_ ?_)
     exact⟨i+1,by omega,by omega,rfl,by rw[aM],by rw[ug (.inr iO)];exact bH,bg⟩
    ·rw[iO] at iz;rw[rf,iO,cA,fN,se] at aM
     have ju:lo (sG iJ (fI (D cash) (iL (af cash cs) (a9 aJ) h p i))) i [iJ true]=sG iJ (fI (D cash) (iL (af cash cs) (a9 aJ) h p (i+1))):=by
      rw[da,iO,rf];have:fI (D cash) (λj=>if j=i then (false||true) else iL (af cash cs) (a9 aJ) h p i j)=(fI (D cash) (iL (af cash cs) (a9 aJ) h p i)).set i true:=Ob.symm;rw[this];unfold lo;rw[xD,Vm,Y (by rw[al,x1];exact ah)];simp
     have aD0:gT i (sG iJ (fI (D cash) (iL (af cash cs) (a9 aJ) h p i)))++[M.H (.bool true)]++hl (i+1) (sG iJ (fI (D cash) (iL (af cash cs) (a9 aJ) h p i)))=sG iJ (fI (D cash) (iL (af cash cs) (a9 aJ) h p (i+1))):=ju;refine ai ?_;repeat' (intro (ao:_=_)<;>simp only[ao,go_sem,go_sem_proc,im,hM,gA,bx,bN,c6,bt,bS,X,aH,aE,d1,d2,bF,zt,A3,x1,eN,aw,cb,ah,oF,hw,lx,iz,tQ,aD0,az,dZ,iw,xI,cA,b3,al,bm]<;>try refine ag ?_ ?_)
     refine⟨i+1,by omega,by omega,rfl,by rw[aM],⟨?_,?_,?_⟩,λk I=>?_⟩
     ·rw[tP];simp only[a5,cE,if_false];exact X
     ·simp only[a5,cE,if_false];exact aH
     ·simp only[a5,if_true]
     ·simp only[a5,I,if_false];exact bg k I
   ·rw[rf] at A3;rw[rf,b3,e9,lT] at aM;refine ai ?_;repeat' (intro (ao:_=_)<;>simp only[ao,go_sem,go_sem_proc,bx,bN,c6,bt,bS,X,aH,aE,d1,d2,bF,zt,A3,x1,eN,aw,cb,ah,dZ,iw,xI,cA,b3,al]<;>try refine ag ?_ ?_)
    exact⟨i+1,by omega,by omega,rfl,by rw[aM],by rw[ug (.inl rf)];exact bH,bg⟩
 ·have d1:decide ((i:Int)<(D cash:Int))=false:=b7;obtain rfl:i=D cash:=by omega
  refine ai ?_;repeat' (intro (ao:_=_)<;>simp only[ao,go_sem,go_sem_proc,bx,bN,c6,bt,bS,X,d1]<;>try refine ag ?_ ?_)
  refine db _ _ ?_ ?_ ?_ ?_ bH bg<;>simp only[dC,cE,if_false,bx,bN,c6,bt]
def aol {d:Day}{f:Nat->Nat}{h:Nat->Rat}{p:Nat->Bool}:dB (fI d.n (iL d f h p d.n))=u2 d f (dB (fI d.n p)) h:=by
 funext i
 apply propext;rw[Ql];unfold u2 iL p4;rw[Ql]
 constructor
 ·rintro⟨F,G⟩;rw[s9] at G;rcases G with G|G
  ·exact .inl ⟨F,G⟩
  ·simp only[fC,decide_eq_true_eq] at G;exact .inr ⟨F,G.2⟩
 ·rintro (⟨F,G⟩|⟨F,G⟩)
  ·exact⟨F,by rw[G];rfl⟩
  ·refine⟨F,?_⟩;rw[s9]
   right
   simp only[fC,decide_eq_true_eq];exact⟨F,G⟩
def aom {n:Nat}:dB (fI n λ_=>false)=λ_=>False:=by
 funext i
 apply propext;rw[Ql];simp
def aon {d:Day}{f:Nat->Nat}{h:Nat->Rat}{p:Nat->Bool}{n:Nat}(hm:wG d f h p n=true):kG n (λi=>if iL d f h p n i then 0 else 1)<kG n λi=>if p i then 0 else 1:=by
 unfold wG at hm;rw[List.any_eq_true] at hm;obtain⟨j,ae,G⟩:=hm;have ae:=ig.1 ae;simp only[fC,Bool.not_eq_true'] at G;refine abS (j:=j) (λi O=>?_) ae ?_
 ·unfold iL
  cases p i
  ·try dsimp only
   split<;>simp
  ·simp
 ·unfold iL;rw[G.1,G.2,hN ae]
  decide
def aoo {d:Day}{f:Nat->Nat}{h:Nat->Rat}{p:Nat->Bool}{n:Nat}(hm:wG d f h p n=false){i:Nat}(O:i<n)(F:f i<10)(G:d.U i (f i)<h i):p i=true:=by
 unfold wG at hm;rw[List.any_eq_false] at hm;have:=hm i (ig.2 O);unfold p4 at this;rw[hN F,hN G] at this
 simpa using this
structure ac4 (a:oh) (mem:Mem):Prop where
 h:aDY a mem
 inv:∃g,Inv (af a.cash a.cs) (a9 a.aJ) g
def ac5 (a:oh)(mem:Mem):M->Mem->Prop:=λm mem'=>m=.H (.ax ((c8 (D a.cash) ((af a.cash a.cs).top (a9 a.aJ))).map az))/\∃zs,D zs=D a.cash/\u6 a.cash a.cs a.aJ zs a.g a.cL a.e1 mem'/\∀k,k≠261027->mem' k=mem k
def Vn:List M->Mem->Option (M->Mem->Prop):=AE (λ(a:oh) args mem=>args=[.ptr 261029 a.g 0]/\ac4 a mem) ac5
def aD1 (a:oh)(mem:Mem)(h:ac4 a mem):Vn [.ptr 261029 a.g 0] mem=some (ac5 a mem):=by
 refine acP (a:=a) ?_ ⟨rfl,h⟩;rintro a b args mem ⟨au,aC⟩ ⟨bN,bK⟩;rw[oh.uniq aC.h.at_ bK.h.at_]
def aD2 (T:ba)(aD3:T Y1=po ac1)(hM:T rl=aK xU)(im:T sc=aK xV)(gA:T uC=aK xX)(a:oh)(mem:Mem)(aZ:ac4 a mem):
  wp T K1.body (oJ K1.res (ac5 a mem)) ⟨kq [.ptr 261029 a.g 0],mem⟩:=by
 obtain⟨⟨bH,hB,ib,oR,R,gw,ia,du⟩,vA,hinv⟩:=aZ;have aL:=R.jV;have Z:=R.ok;obtain⟨cash,cs,aJ,P,g,cL,e1⟩:=a;dsimp only at *;have iT:=bH.r;have mn:=bH.p;have w5:=bH.f;dsimp only at iT mn w5;rw[ia] at iT
 have fF:P=fI (D cash) λj=>P.getD j false:=by
  apply pE;intro j;rcases hO j (D cash) with ae|ae
  ·rw[Fh _ ae,eD,bh (by omega)];rfl
  ·rw[jZ (by omega),jZ (by rw[tP];exact ae)]
 refine ra ?_;simp only[K1];simp only[go_sem,go_sem_proc,iT,al]
 refine dd [0,3] [] (λ(i:Nat) tm m=>i<=D cash/\tm 4=.H (.int .i64 i)/\m 261027=some (e1,(fI (D cash) λj=>if j<i then false else P.getD j false).map iJ)/\∀k,k≠261027->m k=mem k) (λi=>D cash-i) 0 (by
  refine⟨by omega,rfl,?_,λ_ _=>rfl⟩
  rw[mn]
  congr 2
  rw[fF];exact congrArg _ (H2 λj _=>by rw[aa (by omega),<-fF])) ?_
 intro vs ms aQ aM;simp only[go_sem,go_sem_proc,al] at aQ aM;subst aQ aM;rintro i tm m I-⟨O,bK,H3,bg⟩;simp only[go_sem,go_sem_proc,bj] at I;obtain⟨bx,bN⟩:=I;have X:=(bg 261029 (by decide)).trans iT;rcases dn (i<D cash) with ah|bW
 ·have d1:decide ((i:Int)<(D cash:Int))=true:=cX;have bF:=eI (i:=i) (by omega);have cb:i+1<=D cash:=by omega
  have x1:=tP (D cash) λj=>if j<i then false else P.getD j false;have Ob:=aoi (n:=D cash) (i:=i) (λj=>if j<i then false else P.getD j false) false
  have Hk:(fI (D cash) λj=>if j=i then false else if j<i then false else P.getD j false)=fI (D cash) λj=>if j<i+1 then false else P.getD j false:=H2 λj _=>by
   by_cases F:j=i
   ·rw[Y F,Y (by omega)]
   ·rw[aa F]
    by_cases G:j<i
    ·rw[Y G,Y (by omega)]
    ·rw[aa G,aa (by omega)]
  rw[Hk] at Ob
  have ju:gT i (sG iJ (fI (D cash) λj=>if j<i then false else P.getD j false))++[M.H (.bool false)]++hl (i+1) (sG iJ (fI (D cash) λj=>if j<i then false else P.getD j false))=sG iJ (fI (D cash) λj=>if j<i+1 then false else P.getD j false):=by
   rw[<-Ob,xD,Vm,Y (by rw[al,x1];exact ah)];simp[iJ]
  generalize (fI (D cash) λj=>if j<i then false else P.getD j false)=c7 at *;refine ai ?_;repeat' (intro (ao:_=_)<;>simp only[ao,go_sem,go_sem_proc,bx,bN,bK,X,H3,d1,bF,x1,cb,ah,ju,dZ,al]<;>try refine ag ?_ ?_)
  refine⟨i+1,by omega,by omega,rfl,rfl,λk I=>?_⟩
  simp only[a5,I,if_false];exact bg k I
 ·have d1:decide ((i:Int)<(D cash:Int))=false:=b7;obtain rfl:i=D cash:=by omega
  have Hk:(fI (D cash) λj=>if j<(D cash) then false else P.getD j false)=fI (D cash) λ_=>false:=H2 λj ae=>by rw[Y ae]
  rw[Hk] at H3;simp only[go_sem,go_sem_proc,bx,bN,bK,X,d1]
  refine dd [0,3] [] (λ(p:Nat->Bool) tm m=>u6 cash cs aJ (fI (D cash) p) g cL e1 m/\(∀k,k≠261027->m k=mem k)/\sF (af cash cs) (a9 aJ) (dB (fI (D cash) p))) (λp=>kG (D cash) λi=>if p i then 0 else 1) (λ_=>false) (by
   refine⟨⟨?_,?_,H3⟩,bg,?_⟩
   ·rw[tP];exact X
   ·exact (bg 261042 (by decide)).trans w5
   ·rw[aom];exact⟨Z,vA,hinv,jz.first Z hinv⟩) ?_
  intro vs ms aQ aM;simp only[go_sem,go_sem_proc,bx,bN] at aQ aM;subst aQ aM;clear bx bN bK H3 bg X;rintro p tm m I-⟨kT,bg,iK⟩;simp only[go_sem,go_sem_proc,bj] at I;obtain⟨bx,bN⟩:=I;have X:=kT.r
  have gl:∀n,n≠261->kh n mem->kh n m:=λn aL I k AP=>by
   rw[bg k (by rintro rfl;omega)];exact I k AP
  have fA:=aDO ⟨cash,cs,aJ,fI (D cash) p,g,cL,e1⟩ m ⟨kT,gl 277 (by decide) hB,gl 280 (by decide) ib,gl 281 (by decide) oR,R,gw,tP _ _,du,iK⟩;dsimp only at fA;simp only[go_sem,go_sem_proc,aD3,bx,bN,X,fA,cA];refine aDZ T hM im gA m ⟨cash,cs,aJ,fI (D cash) p,g,cL,e1⟩ p rfl R gw du ((af cash cs).e5 (a9 aJ) (dB (fI (D cash) p))) (λi O=>hU (acB R iK O) (by omega)) _ _ kT (λ_ _=>rfl) ?_ ?_ ?_ ?_ ?_ ?_
  ·simp only[dC,cE,if_false];exact bx
  ·simp only[dC,cE,if_false];exact bN
  ·simp only[dC,cE,if_false,if_true]
  ·simp only[dC,cE,if_false,if_true]
  ·simp only[dC,cE,if_false,if_true]
  dsimp only;intro C2 bU eU dW jb fv aop jB;obtain⟨cw,cU,nV,GW⟩:=iK;rcases hm:wG (af cash cs) (a9 aJ) ((af cash cs).e5 (a9 aJ) (dB (fI (D cash) p))) p (D cash)
  ·rw[hm] at fv;have SS:=GW.acr Z nV λi O F G=>Ql.2 ⟨O,aoo hm O F G⟩;rw[xS (N:=D cash) SS] at jb;refine ai ?_;repeat' (intro (ao:_=_)<;>simp only[ao,go_sem,go_sem_proc,eU,dW,jb,fv,cA]<;>try refine ag ?_ ?_)
   exact⟨_,rfl,rfl,_,tP _ _,aop,λk I=>(jB k I).trans (bg k I)⟩
  ·rw[hm] at fv;refine ai ?_;repeat' (intro (ao:_=_)<;>simp only[ao,go_sem,go_sem_proc,eU,dW,jb,fv,b3]<;>try refine ag ?_ ?_)
   refine⟨_,aon hm,aop,λk I=>(jB k I).trans (bg k I),?_⟩;have yZ:=aol (d:=af cash cs) (f:=a9 aJ) (h:=(af cash cs).e5 (a9 aJ) (dB (fI (D cash) p))) (p:=p);have lv:(af cash cs).n=D cash:=rfl;rw[lv] at yZ;rw[yZ];exact⟨Z,cU,nV,GW.succ Z nV⟩
def gW (cs:List aB)(x:Rat)(c:aB):Rat:=if ((bT cs c.1 (c.2.2.1+1):Int):Rat)<=x then (c.2.2.2:Rat) else (c.2.2.2:Rat)/((hg cs c.1 c.2.2.1:Int):Rat)*pos (x-((bT cs c.1 c.2.2.1:Int):Rat))
def ac6 {cash:List Int}{cs:List aB}(h:hr cash cs=true)(x:Nat->Rat){c:aB}(J:c∈cs):(af cash cs).kf x (bP c)=gW cs (x c.1.toNat) c:=by
 have X:=(hL.1 h).2.2.2 c J;obtain⟨ar,c2,c3,c4⟩:=c;dsimp only at X;obtain⟨ar,rfl⟩:∃k:Nat,ar=(k:Int):=⟨ar.toNat,by omega⟩
 obtain⟨c3,rfl⟩:∃k:Nat,c3=(k:Int):=⟨c3.toNat,by omega⟩
 unfold Day.kf gW Day.w;have F:=qS h ar (c3+1);have G:=qS h ar c3;have ab:=KU h ar c3;have au:(bP ((ar:Int),c2,(c3:Int),c4)).aF=ar:=gK ar;have aC:(bP ((ar:Int),c2,(c3:Int),c4)).rk=c3:=gK c3;have bN:(bP ((ar:Int),c2,(c3:Int),c4)).am=(c4:Rat):=rfl;rw[au,aC,bN,<-F,<-G,<-ab]
 rfl
structure nh (l:List aB):Prop where
 len:(D l)<=12
 c:∀c∈l,0<=c.1/\c.1<60 /\ -1<=c.2.1/\c.2.1<60/\0<=c.2.2.1/\c.2.2.1<10/\0<=c.2.2.2/\c.2.2.2<=1000000000000000
 one:∀c∈l,∀c'∈l,c.1=c'.1
def nh.cs {l:List aB}(h:nh l):AX l:=⟨by have:=h.len;omega,λc J=>by have:=h.c c J;omega⟩
abbrev Fi:List aB->List Data:=λ(l:List aB)=>[.ax (l.map bL)]
def Vo:=bV Fi λ(l:List aB)=>cu (nh l) (.same (.bool true))
def ac7:∀a b,Fi a=Fi b->a=b:=by
  intro eN aw h;simp only[bj,Data.ax.injEq] at h;exact map_inj tM _ _ h.1
@[go_sem] def aPZ (l):=cH Vo rfl ac7 l rfl
def aD4 (T:ba):WF T anq Vo:=by
 refine cp λl=>cT λJ=>⟨rfl,ck ?_⟩;simp only[anq,Fi,cd];have hlen:=J.len;have d0:decide ((D l:Int)>2000)=false:=b7;simp only[go_sem,go_sem_proc,d0,al];refine dd [0] [] (λ(i:Nat) tm m=>i<=D l/\tm 3=.H (.int .i64 i)) (λi=>D l-i) 0 (by refine⟨by omega,rfl⟩) ?_;intro vs ms aQ aM;simp only[go_sem,go_sem_proc,al] at aQ aM;subst aQ aM;rintro i tm m I hm ⟨O,bN⟩;simp only[go_sem,go_sem_proc,bj] at I;have bx:=I;rcases dn (i<D l) with ah|bW
 ·have d1:decide ((i:Int)<(D l:Int))=true:=cX;have bF:=eI (i:=i) (by omega);obtain⟨⟨ar,c2,c3,c4⟩,L⟩:∃c,l[i]?=some c:=⟨_,bh ah⟩;obtain⟨⟨fB,gN,mR,tO⟩,a2⟩:∃c,l[0]?=some c:=⟨_,bh (by omega)⟩;have lR:=J.c _ (dy L);have vw:=J.one _ (dy L) _ (dy a2);dsimp only at lR vw;subst vw;have dI:decide (ar<0)=false:=b7;have ek:decide (ar>=60)=false:=b7;have ht:decide (c2 < -1)=false:=b7;have fV:decide (c2>=60)=false:=b7;have rN:decide (c3<0)=false:=b7;have l4:decide (c3>=10)=false:=b7;have qV:decide (c4<0)=false:=b7;have H4:decide (c4>1000000000000000)=false:=b7;have iy:0<D l:=by omega
  refine ai ?_;repeat' (intro h<;>simp only[h,go_sem,go_sem_proc,bx,bN,L,a2,d1,bF,dI,ek,ht,fV,rN,l4,qV,H4,iy,bL,al,bm,Int.toNat_zero,bne,beq_self_eq_true,b3]<;>try refine ag ?_ ?_)
  exact⟨i+1,by omega,by omega,rfl⟩
 ·have d1:decide ((i:Int)<(D l:Int))=false:=b7;refine ai ?_;repeat' (intro h<;>simp only[h,go_sem,go_sem_proc,bx,bN,d1,al]<;>try refine ag ?_ ?_)
abbrev Vp:(List aB)×Int->List Data:=λ(l,r)=>[.ax (l.map bL),.int .i64 r]
def Vq:=bV Vp λ(l,r)=>cu (AX l) (.same (.dj [.int .i64 (cJ l λc=>if c.2.2.1<r then c.2.2.2 else 0),.int .i64 (cJ l λc=>if c.2.2.1=r then c.2.2.2 else 0)]))
def aD5:∀a b,Vp a=Vp b->a=b:=by
  rintro⟨eN,e2⟩ ⟨aw,fa⟩ h;simp only[bj,Data.ax.injEq,Data.int.injEq,true_and,and_true] at h;exact et (map_inj tM _ _ h.1) h.2
@[go_sem] def aD6 (l r):=cH Vq rfl aD5 (l,r) rfl
def aD7 (T:ba):WF T anr Vq:=by
 refine cp λ(l,r)=>cT λJ=>⟨rfl,ck ?_⟩;simp only[anr,Vp,cd];have hlen:=J.1;simp only[go_sem,go_sem_proc,al];refine dd [0,1] [] (λ(i:Nat) tm m=>i<=D l/\tm 8=.H (.int .i64 i)/\tm 6=.H (.int .i64 (cJ (l.take i) λc=>if c.2.2.1<r then c.2.2.2 else 0))/\tm 7=.H (.int .i64 (cJ (l.take i) λc=>if c.2.2.1=r then c.2.2.2 else 0))) (λi=>D l-i) 0 (by refine⟨by omega,rfl,rfl,rfl⟩) ?_;intro vs ms aQ aM;simp only[go_sem,go_sem_proc,al] at aQ aM;subst aQ aM;rintro i tm m I hm ⟨O,ee,bt,bS⟩;simp only[go_sem,go_sem_proc,bj] at I;obtain⟨bx,au⟩:=I;rcases dn (i<D l) with ah|bW
 ·have d1:decide ((i:Int)<(D l:Int))=true:=cX;have bF:=eI (i:=i) (by omega);obtain⟨⟨ar,c2,c3,c4⟩,L⟩:∃c,l[i]?=some c:=⟨_,bh ah⟩;have lR:=J.2 _ (dy L);have s1:=J.sum (λc=>c.2.2.1<r) i;have s2:=J.sum (λc=>c.2.2.1=r) i;have t1:=PX L λc=>if c.2.2.1<r then c.2.2.2 else 0;have t2:=PX L λc=>if c.2.2.1=r then c.2.2.2 else 0;generalize cJ (l.take i) (λc=>if c.2.2.1<r then c.2.2.2 else 0)=a at *;generalize cJ (l.take i) (λc=>if c.2.2.1=r then c.2.2.2 else 0)=b at *;dsimp only at lR t1 t2;have jN:IntKind.i64.wrap (a+c4)=a+c4:=by rw[eY _]
  have ac8:IntKind.i64.wrap (b+c4)=b+c4:=by rw[eY _]
  rcases dI:decide (c3<r)
  ·rw[aa (of_decide_eq_false dI),rr] at t1;rcases ek:(c3==r)
   ·rw[aa (by simpa using ek),rr] at t2;refine ai ?_;repeat' (intro h<;>simp only[h,go_sem,go_sem_proc,bx,au,bt,bS,ee,L,d1,bF,jN,ac8,dI,ek,bL,al,bm]<;>try refine ag ?_ ?_)
    exact⟨i+1,by omega,by omega,rfl,by rw[t1],by rw[t2]⟩
   ·rw[Y (beq_iff_eq.1 ek)] at t2;refine ai ?_;repeat' (intro h<;>simp only[h,go_sem,go_sem_proc,bx,au,bt,bS,ee,L,d1,bF,jN,ac8,dI,ek,bL,al,bm]<;>try refine ag ?_ ?_)
    exact⟨i+1,by omega,by omega,rfl,by rw[t1],by rw[t2]⟩
  ·have ek:(c3==r)=false:=by have:=of_decide_eq_true dI;simp;omega
   rw[Y (of_decide_eq_true dI)] at t1;rw[aa (by simpa using ek),rr] at t2;refine ai ?_;repeat' (intro h<;>simp only[h,go_sem,go_sem_proc,bx,au,bt,bS,ee,L,d1,bF,jN,ac8,dI,ek,bL,al,bm]<;>try refine ag ?_ ?_)
   exact⟨i+1,by omega,by omega,rfl,by rw[t1],by rw[t2]⟩
 ·have d1:decide ((i:Int)<(D l:Int))=false:=b7;rw[dD (by omega)] at bt bS;refine ai ?_;repeat' (intro h<;>simp only[h,go_sem,go_sem_proc,bx,au,bt,bS,ee,d1,al]<;>try refine ag ?_ ?_)
def mS {α:Type}(enc:α->List M)(l:List α):List M:=(l.map enc).flatten
def aD8 {α:Type}{enc:α->List M}{sz:Nat}(h:∀a,(enc a).length=sz)(l:List α):(mS enc l).length=D l*sz:=by
 unfold mS
 induction l with
 |nil=>simp
 |cons a l aG=>rw[eE,l8,gC,aG,h,lJ,vp];omega
def aoq {α:Type}{enc:α->List M}{sz:Nat}(h:∀a,(enc a).length=sz):∀(l:List α) (i:Nat),i<(D l)->∀b,gT (i*sz) (mS enc l)++enc b++hl (i*sz+sz) (mS enc l)=mS enc (l.set i b)
 | [],i,O,b=>absurd O (by simp)
 |a::l,0,_,b=>by
  have aZ:=h a;unfold mS;simp only[Nat.zero_mul,Nat.zero_add,nw,jE,eE,l8,lB];rw[<-aZ,List.drop_left]
 |a::l,i+1,O,b=>by
  have aZ:=h a;have aG:=aoq h l i (by simpa using O) b;unfold mS at aG ⊢;simp only[eE,l8,List.set_cons_succ];rw[<-aG,vp,List.take_append,qq,aZ];rw[dD (by omega),lM (by omega),jE];rw[show i*sz+sz-sz=i*sz by omega,show i*sz+sz+sz-sz=i*sz+sz by omega]
  simp only[g8]
def bA {α:Type}(n:Nat)(q:Nat->α):List α:=(eM n).map q
def gB {α:Type}(n:Nat)(q:Nat->α):(bA n q).length=n:=by simp[bA]
def ki {α:Type}{n i:Nat}(q:Nat->α)(h:i<n):(bA n q)[i]?=some (q i):=by
 unfold bA;rw[bm,vo h];rfl
def Vr {α:Type}{n:Nat}{l:List α}{q:Nat->α}(aq:(D l)=n)(h:∀i,i<n->l[i]?=some (q i)):l=bA n q:=by
 apply pE;intro i;rcases hO i n with O|O
 ·rw[h i O,ki q O]
 ·rw[jZ (by omega),jZ (by rw[gB];exact O)]
def A5 {α:Type}{n i:Nat}(q:Nat->α)(b:α):(bA n q).set i b=bA n λj=>if j=i then b else q j:=by
 refine Vr (by rw[ie,gB]) λj ae=>?_;rw[mr]
 by_cases h:i=j
 ·rw[Y h,Y (by rw[gB];omega),Y h.symm]
 ·rw[aa h,ki _ ae,aa (Ne.symm h)]
def jW {α:Type}{n:Nat}{p q:Nat->α}(h:∀i,i<n->p i=q i):bA n p=bA n q:=ox λi O=>h i (ig.1 O)
def rO:Option bz->List M
 |none=>[.H (.int .i64 0),.nil,.H (.int .i64 0),.nil]
 |some f=>(az f).map .H
def aor:∀a,(rO a).length=4
 |none=>rfl
 |some _=>rfl
def ac9 (n:Nat):(ef n [M.H (.int .i64 0),M.nil,M.H (.int .i64 0),M.nil]).flatten=mS rO (bA n λ_=>none):=by
 unfold mS bA;rw[List.map_map]
 congr 1
 apply pE;intro i;rw[bm];rcases hO i n with O|O
 ·rw[vo O,ac0,Y O];rfl
 ·rw[jZ (by simpa using O),jZ (by simpa using O)];rfl
def ada (l:List bz):mS rO (l.map some)=aU az l:=by
 unfold mS aU
 induction l with
 |nil=>rfl
 |cons f l aG =>
  simp only[eE,l8,kE];rw[aG];rfl
def Vs {n i:Nat}{q:Nat->Option bz}(h:i<n):(i*4+4<=(mS rO (bA n q)).length)=True:=eq_true (by rw[aD8 aor,gB];omega)
def Vt {n i:Nat}{q:Nat->Option bz}(h:i<n)(a:Int)(b:List Int)(c:Int)(d:List Int):
  gT (i*4) (mS rO (bA n q))++[M.H (.int .i64 a),.H (.ax (b.map aI)),.H (.int .i64 c),.H (.ax (d.map aI))]++hl (i*4+4) (mS rO (bA n q))=mS rO (bA n λj=>if j=i then some ((a,b),(c,d)) else q j):=by
 rw[<-A5];exact aoq aor (bA n q) i (by rw[gB];exact h) (some ((a,b),(c,d)))
structure Qm (l:List aB) (x:Rat):Prop where
 own:nh l
 pos:0<=x
 sz:e0 460 x
def nh.less {l:List aB}(h:nh l){c:aB}(J:c∈l)(r:Int):(cJ l λc'=>if c'.2.2.1<r then c'.2.2.2 else 0)=bT l c.1 r:=by
 unfold bT;refine HL λc' lR=>?_;have:=h.one c' lR c J
 by_cases F:c'.2.2.1<r
 ·rw[Y F,Y ⟨this,F⟩]
 ·rw[aa F,aa λh=>F h.2]
def adb (l:List aB)(aO bs:aB->Int):cJ l (λc=>aO c+bs c)=cJ l aO+cJ l bs:=by
 induction l with
 |nil=>simp[cJ]
 |cons c l aG=>simp only[cJ,aG];omega
def nh.same {l:List aB}(h:nh l){c:aB}(J:c∈l)(r:Int):(cJ l λc'=>if c'.2.2.1=r then c'.2.2.2 else 0)=hg l c.1 r:=by
 have F:=h.less J r;have G:=h.less J (r+1)
 have ab:(cJ l λc'=>if c'.2.2.1<r+1 then c'.2.2.2 else 0)=(cJ l λc'=>if c'.2.2.1<r then c'.2.2.2 else 0)+cJ l λc'=>if c'.2.2.1=r then c'.2.2.2 else 0:=by
  rw[<-adb];refine HL λc _=>?_
  by_cases cy:c.2.2.1<r
  ·rw[Y (by omega),Y cy,aa (by omega)];omega
  ·rw[aa cy]
   by_cases dw:c.2.2.1=r
   ·rw[Y (by omega),Y dw];omega
   ·rw[aa (by omega),aa dw];omega
 unfold hg;omega
def nh.bound {l:List aB}(h:nh l)(p:aB->Prop)[DecidablePred p]:0<=cJ l (λc=>if p c then c.2.2.2 else 0)/\cJ l (λc=>if p c then c.2.2.2 else 0)<=12000000000000000:=by
 have:=abT (cs:=l) (aO:=λc=>if p c then c.2.2.2 else 0) (B:=1000000000000000) (by omega) λc J=>by
  have:=h.c c J
  try dsimp only
  split<;>omega
 have:=h.len;omega
def aD9 (cs:List aB)(i r:Int):hg cs i r=cJ cs λc=>if c.1=i/\c.2.2.1=r then c.2.2.2 else 0:=by
 have ab:bT cs i (r+1)=bT cs i r+cJ cs λc=>if c.1=i/\c.2.2.1=r then c.2.2.2 else 0:=by
  unfold bT;rw[<-adb];refine HL λc _=>?_
  split<;>split<;>split<;>omega
 unfold hg;omega
def aEa {cs:List aB}{aO:aB->Int}(h:∀c∈cs,0<=aO c){c:aB}(J:c∈cs):aO c<=cJ cs aO:=by
 induction cs with
 |nil=>cases J
 |cons a l aG =>
  simp only[cJ];have ay:=h a g1
  have F:0<=cJ l aO:=by
   have:∀l:List aB,(∀c∈l,0<=aO c)->0<=cJ l aO:=by
    intro l
    induction l with
    |nil=>intro _;exact PT _
    |cons b l UO=>intro a1;simp only[cJ];have:=a1 b g1;have:=UO λc J=>a1 c (iG _ J);omega
   exact this l λc J=>h c (iG _ J)
  rcases List.mem_cons.1 J with rfl|J
  ·omega
  ·have:=aG (λc J=>h c (iG _ J)) J;omega
def aos {cs:List aB}(h:∀c∈cs,0<=c.2.2.2){c:aB}(J:c∈cs):c.2.2.2<=hg cs c.1 c.2.2.1:=by
 rw[aD9];have:=aEa (aO:=λc'=>if c'.1=c.1/\c'.2.2.1=c.2.2.1 then c'.2.2.2 else 0) (λc' lR=>by have:=h c' lR;split<;>omega) J;rwa [Y ⟨rfl,rfl⟩] at this
section
variable {cs:List aB} {x:Rat} {c:aB}
def ade (cs:List aB)(i r:Int):((bT cs i (r+1):Int):Rat)=((bT cs i r:Int):Rat)+((hg cs i r:Int):Rat):=by
 rw[<-Rat.intCast_add]
 congr 1
 unfold hg;omega
def adf (aL:∀c∈cs,0<=c.2.2.2)(J:c∈cs)(h:x-((bT cs c.1 c.2.2.1:Int):Rat)<=0):gW cs x c=0:=by
 unfold gW;have F:=aos aL J;have G:=aL c J;rw[ade]
 split
 ·rename_i ab
  have aV:((hg cs c.1 c.2.2.1:Int):Rat)<=((0:Int):Rat):=by
   have:((0:Int):Rat)=0:=rfl;rw[this];generalize ((bT cs c.1 c.2.2.1:Int):Rat)=u at *;grind
  have bu:hg cs c.1 c.2.2.1<=0:=by exact_mod_cast aV
  rw[show c.2.2.2=0 by omega];rfl
 ·rw[xL h,rI]
def aot (h:((hg cs c.1 c.2.2.1:Int):Rat)<=x-((bT cs c.1 c.2.2.1:Int):Rat)):gW cs x c=(c.2.2.2:Rat):=by
 unfold gW;rw[ade,Y];generalize ((bT cs c.1 c.2.2.1:Int):Rat)=u at *;generalize ((hg cs c.1 c.2.2.1:Int):Rat)=s at *;grind
def adg (ay:0<=x-((bT cs c.1 c.2.2.1:Int):Rat))(h:x-((bT cs c.1 c.2.2.1:Int):Rat)<((hg cs c.1 c.2.2.1:Int):Rat)):gW cs x c=(c.2.2.2:Rat)*(x-((bT cs c.1 c.2.2.1:Int):Rat))/((hg cs c.1 c.2.2.1:Int):Rat):=by
 unfold gW;rw[ade,aa,AR ay]
 ·generalize ((bT cs c.1 c.2.2.1:Int):Rat)=u at *;generalize ((hg cs c.1 c.2.2.1:Int):Rat)=s at *;grind
 ·generalize ((bT cs c.1 c.2.2.1:Int):Rat)=u at *;generalize ((hg cs c.1 c.2.2.1:Int):Rat)=s at *;grind
end
def Vu {n:Int}(h:eJ n):P0 [.int .i64 n,.int .i64 1]=some (.same (.agg (az (av (n:Rat))))):=by
 have:=aC6 n 1 ⟨h,Qg⟩;rw[PY h] at this;exact this
def p5 {n:Int}(h:eJ n):dH (n:Rat):=⟨by rw[Vg];exact uN h,by rw[Vh];decide +kernel⟩
def aEb {x:Rat}:decide (x.num.sign<=0)=decide (x<=0):=by
 have:x.num.sign<=0↔x<=0:=by
  rw[Int.sign_nonpos_iff,Rat.le_iff,PS,PR];omega
 rw[decide_eq_decide];exact this
def aou {x:Rat}:decide (x.num.sign<0)=decide (x<0):=by
 have:x.num.sign<0↔x<0:=by
  rw[anS,acN,PS,PR];omega
 rw[decide_eq_decide];exact this
def kj:aB:=(0,0,0,0)
def rP (l:List aB)(x:Rat)(j:Nat):bz:=av (gW l x (l.getD j kj))
def aov (l:List aB)(x:Rat):(bA (D l) λj=>some (rP l x j))=(l.map λc=>av (gW l x c)).map some:=by
 symm
 refine Vr (by simp) λi O=>?_;rw[bm,bm,bh O];unfold rP;rw[kW (bh O)];rfl
abbrev Ld:Rat×(List aB)->List Data:=λ(x,l)=>[.agg (az (av x)),.ax (l.map bL)]
def Vv:=bV Ld λ(x,l)=>cu (Qm l x) (.same (.dj [.ax ((l.map λc=>av (gW l x c)).map az),.int .i64 0]))
def aow:∀a b,Ld a=Ld b->a=b:=by
  rintro⟨fx,eN⟩ ⟨fe,aw⟩ h;simp only[bj,Data.ax.injEq,Data.agg.injEq,and_true] at h;exact et (Em (pS _ _ h.1)) (map_inj tM _ _ h.2)
@[go_sem] def aEc (x l):=cH Vv rfl aow (x,l) rfl
def aEd (T:ba)(gO:T qw=aK CH)(H5:T Y4=aK Vo)(A6:T Y5=aK Vq)(A7:T DW=aK P0)(oL:T yB=aK CK)(gA:T uC=aK xX)(rD:T DT=aK EA)(rE:T Js=aK Kn):WF T anp Vv:=by
 refine cp λ(x,l)=>cT λJ=>⟨rfl,ck ?_⟩;simp only[anp,Ld,cd];obtain⟨how,iW,rh⟩:=J;have hT:=hU rh (by omega);have hlen:=how.len;have adh:=PV hT;have qG:(av x).1.1=x.num.sign:=rfl;have qE:decide (x.num.sign<0)=false:=by rw[aou];exact kM (by grind)
 have bw:=mu hT;have ju:=aov l x;generalize ec:av x=aO at *;obtain⟨⟨cz,cY⟩,⟨eA,eQ⟩⟩:=aO;dsimp only at qG bw;subst qG;have w7:(64*D l<=140737488355328)=True:=eq_true (by omega);have xG:(D l<=maxLen)=True:=eq_true (by unfold maxLen;omega);have a2:=ac9 (D l);have Og:(bA (D l) λj=>if j<0 then some (rP l x j) else none)=bA (D l) λ_=>none:=jW λj _=>aa (by omega);rw[<-Og] at a2;simp only[go_sem,go_sem_proc,gO,H5,A6,A7,oL,gA,rD,rE,az,adh,bw.1,bw.2,how,qE,w7,xG,a2,al,b3,cA];refine dd [1,2,6] [279002] (λ(i:Nat) tm m=>i<=D l/\tm 7=.H (.int .i64 i)/\m 279030=some (0,mS rO (bA (D l) λj=>if j<i then some (rP l x j) else none))) (λi=>D l-i) 0 (by refine⟨by omega,rfl,rfl⟩) ?_;intro vs ms aQ aM;simp only[go_sem,go_sem_proc,gO,H5,A6,A7,oL,gA,rD,rE,az,al] at aQ aM;subst aQ aM;rintro i tm m I hm ⟨O,bS,Qn⟩;simp only[go_sem,go_sem_proc,gO,H5,A6,A7,oL,gA,rD,rE,bj] at I hm;obtain⟨au,aC,bt⟩:=I;rcases dn (i<D l) with ah|bW
 ·have d1:decide ((i:Int)<(D l:Int))=true:=cX;have bF:=eI (i:=i) (by omega);obtain⟨c,L⟩:∃c,l[i]?=some c:=⟨_,bh ah⟩;have fD:=dy L;have lR:=how.c _ fD;have Vw:=aD6 l c.2.2.1 how.cs;rw[how.less fD,how.same fD] at Vw;have aEe:=how.bound (λc'=>c'.2.2.1<c.2.2.1);rw[how.less fD] at aEe;have adi:=how.bound (λc'=>c'.2.2.1=c.2.2.1);rw[how.same fD] at adi;have oS:eJ (bT l c.1 c.2.2.1):=mQ (by omega) (by omega);have x0:eJ (hg l c.1 c.2.2.1):=mQ (by omega) (by omega);have Qo:eJ c.2.2.2:=mQ (by omega) (by omega);have Le:=Vu oS;have zw:=Vu x0;have C3:=Vu Qo;have f0:=Vu H0;have aox:e0 54 ((bT l c.1 c.2.2.1:Int):Rat):=A1 (by omega);have Lf:e0 54 ((hg l c.1 c.2.2.1:Int):Rat):=A1 (by omega);have Fj:e0 54 ((c.2.2.2:Int):Rat):=A1 (by omega);have dI:=U8 hT (p5 oS) (xQ rh (wy aox) (by omega));have wH:e0 515 (x-((bT l c.1 c.2.2.1:Int):Rat)):=by rw[Rat.sub_eq_add_neg];exact (acb rh (wy aox)).mono (by omega)
  have yW:=hU wH (by omega);have ek:=Qa yW (p5 x0);have aL:∀c∈l,0<=c.2.2.2:=λc J=>(how.c c J).2.2.2.2.2.2.1;have Vx:rP l x i=av (gW l x c):=by unfold rP;rw[kW L]
  have lC:=λa b c d=>Vt (q:=λj=>if j<i then some (rP l x j) else none) ah a b c d;have Fk:=Vs (q:=λj=>if j<i then some (rP l x j) else none) ah
  have pH:∀aO:bz,aO=av (gW l x c)->(bA (D l) λj=>if j=i then some aO else if j<i then some (rP l x j) else none)=bA (D l) λj=>if j<i+1 then some (rP l x j) else none:=by
   intro aO ec;refine jW λj _=>?_
   by_cases F:j=i
   ·rw[Y F,Y (by omega),F,Vx,ec]
   ·rw[aa F]
    by_cases G:j<i
    ·rw[Y G,Y (by omega)]
    ·rw[aa G,aa (by omega)]
  have aoy:(av (x-((bT l c.1 c.2.2.1:Int):Rat))).1.1=(x-((bT l c.1 c.2.2.1:Int):Rat)).num.sign:=rfl;have AL:decide ((x-((bT l c.1 c.2.2.1:Int):Rat)).num.sign<=0)=decide (x-((bT l c.1 c.2.2.1:Int):Rat)<=0):=aEb;have bW:decide (lb (x-((bT l c.1 c.2.2.1:Int):Rat)) ((hg l c.1 c.2.2.1:Int):Rat)>=0)=decide (((hg l c.1 c.2.2.1:Int):Rat)<=x-((bT l c.1 c.2.2.1:Int):Rat)):=Va;have aEf:=adf (x:=x) aL fD;have aEg:=aot (cs:=l) (x:=x) (c:=c);have pp:=adg (cs:=l) (x:=x) (c:=c);have dg:=λay=>anP (p5 Qo) yW (PM Fj wH ay);have bU:=λay F=>aDt (hU (E1 Fj wH) F) (p5 x0) ay (aca (E1 Fj wH) Lf (by omega));have dg:=dg (by omega);have bU:=λay=>bU ay (by omega);rw[ec] at dI;obtain⟨ar,c2,c3,c4⟩:=c;dsimp only at *;generalize x-((bT l ar c3:Int):Rat)=r at *;generalize aP0:av r=Fr at *;obtain⟨⟨e2,fa⟩,⟨aP1,tN⟩⟩:=Fr;dsimp only at aoy;subst aoy;rcases cy:decide (r<=0)
  ·have aP2:=of_decide_eq_false cy;rw[cy] at AL;rcases dw:decide (((hg l ar c3:Int):Rat)<=r)
   ·have aoz:=of_decide_eq_false dw;rw[dw] at bW;have adj:((hg l ar c3:Int):Rat)≠0:=by grind
    have iK:=pp (by grind) (by grind);have bU:=bU adj;have aL:=pH (av (((c4:Int):Rat)*r/((hg l ar c3:Int):Rat))) (by rw[iK]);generalize av (((c4:Int):Rat)*r/((hg l ar c3:Int):Rat))=G1 at *;generalize av (((c4:Int):Rat)*r)=G2 at *;generalize av ((hg l ar c3:Int):Rat)=G3 at *;generalize av ((bT l ar c3:Int):Rat)=G4 at *;generalize av ((c4:Int):Rat)=G5 at *;obtain⟨⟨cU,dc⟩,⟨hj,kV⟩⟩:=G1;obtain⟨⟨F,G⟩,⟨ab,aV⟩⟩:=G2;obtain⟨⟨i1,i2⟩,⟨i3,i4⟩⟩:=G3;obtain⟨⟨Fl,w6⟩,⟨adk,CM⟩⟩:=G4;obtain⟨⟨hB,ib⟩,⟨oR,pV⟩⟩:=G5;simp only[az] at Le zw C3 dI ek dg bU;have da:=lC cU dc hj kV;rw[aL] at da;refine ai ?_;repeat' (intro h<;>simp only[h,go_sem,go_sem_proc,gO,H5,A6,A7,oL,gA,rD,rE,A6,A7,oL,gA,rD,rE,au,aC,bt,bS,hm,Qn,L,d1,bF,ah,Vw,Le,zw,C3,dI,ek,dg,bU,AL,bW,Fk,da,bL,al,bm,bne,beq_self_eq_true,b3]<;>try refine ag ?_ ?_)
    exact⟨i+1,by omega,by omega,rfl,rfl⟩
   ·rw[dw] at bW;have iK:=aEg (of_decide_eq_true dw);have aL:=pH (av ((c4:Int):Rat)) (by rw[iK]);generalize av ((hg l ar c3:Int):Rat)=G3 at *;generalize av ((bT l ar c3:Int):Rat)=G4 at *;generalize av ((c4:Int):Rat)=G5 at *;obtain⟨⟨i1,i2⟩,⟨i3,i4⟩⟩:=G3;obtain⟨⟨Fl,w6⟩,⟨adk,CM⟩⟩:=G4;obtain⟨⟨hB,ib⟩,⟨oR,pV⟩⟩:=G5;simp only[az] at Le zw C3 dI ek;have da:=lC hB ib oR pV;rw[aL] at da;refine ai ?_;repeat' (intro h<;>simp only[h,go_sem,go_sem_proc,gO,H5,A6,A7,oL,gA,rD,rE,A6,A7,oL,gA,rD,rE,au,aC,bt,bS,hm,Qn,L,d1,bF,ah,Vw,Le,zw,C3,dI,ek,AL,bW,Fk,da,bL,al,bm,bne,beq_self_eq_true,b3]<;>try refine ag ?_ ?_)
    exact⟨i+1,by omega,by omega,rfl,rfl⟩
  ·rw[cy] at AL;have iK:=aEf (of_decide_eq_true cy);have aL:=pH (av ((0:Int):Rat)) (by rw[iK];rfl);generalize av ((bT l ar c3:Int):Rat)=G4 at *;generalize av ((0:Int):Rat)=G5 at *;obtain⟨⟨Fl,w6⟩,⟨adk,CM⟩⟩:=G4;obtain⟨⟨hB,ib⟩,⟨oR,pV⟩⟩:=G5;simp only[az] at Le f0 dI;have da:=lC hB ib oR pV;rw[aL] at da;refine ai ?_;repeat' (intro h<;>simp only[h,go_sem,go_sem_proc,gO,H5,A6,A7,oL,gA,rD,rE,A6,A7,oL,gA,rD,rE,au,aC,bt,bS,hm,Qn,L,d1,bF,ah,Vw,Le,f0,dI,AL,Fk,da,bL,al,bm,bne,beq_self_eq_true,b3]<;>try refine ag ?_ ?_)
   exact⟨i+1,by omega,by omega,rfl,rfl⟩
 ·have d1:decide ((i:Int)<(D l:Int))=false:=b7;obtain rfl:i=D l:=by omega
  have ea:(bA (D l) λj=>if j<(D l) then some (rP l x j) else none)=bA (D l) λj=>some (rP l x j):=jW λj ae=>Y ae;rw[ea,ju,ada] at Qn;have lg:=λ(K:bc->Prop) (st:bc)=>nB (K:=K) (st:=st) jj 6 279030 0 (l.map λc=>av (gW l x c));rw[al] at lg;refine ai ?_;repeat' (intro h<;>simp only[h,go_sem,go_sem_proc,gO,H5,A6,A7,oL,gA,rD,rE,au,aC,bt,bS,hm,d1,Qn,lg,al]<;>try refine ag ?_ ?_)
end Go.Mini
namespace Go.Mini
open Classical
section
variable {u s a x:Rat} (R:0<=s) (aZ:0<=a)
include R aZ
end
end Go.Mini
namespace Go.Mini
open Classical
section
variable {d:Day} (Z:d.dJ)
include Z
end
end Go.Mini
namespace Go.Mini
open Classical
def Day.times (d:Day)(k:Rat):Day:=⟨d.n,λi=>k*d.cash i,d.dE.map λc=>⟨c.aF,c.to,c.rk,k*c.am⟩⟩
section
variable {d:Day} (Z:d.dJ) {k:Rat} (I:0<k)
include I
end
section
variable {d:Day} (Z:d.dJ) (cK:Nat)
include Z
end
end Go.Mini
namespace Go.Mini
open Classical
def aoA {d:Day}(Z:d.dJ){f:Nat->Nat}{g:Nat->Rat}(O:Inv d f g):∀m (P:Nat->Prop),idle d P<=m->jz d f g P (d.e5 f P)->∃P,sF d f P/\∀i,i<d.n->d.e5 f P i=d.top f i
 |m,P,hm,aE=>by
  by_cases R:∀i,i<d.n->f i<10->d.U i (f i)<d.e5 f P i->P i
  ·exact⟨P,⟨Z,g,O,aE⟩,aE.acr Z O R⟩
  ·have⟨i,F,G,ab,aV⟩:∃i,i<d.n/\f i<10/\d.U i (f i)<d.e5 f P i/\¬ P i:=by
    apply mN;intro aL;exact R λi F G ab=>mN λaV=>aL ⟨i,F,G,ab,aV⟩
   have ah:=amZ (h:=d.e5 f P) F G ab aV
   cases m with
   |zero=>omega
   |succ m=>exact aoA Z O m _ (by omega) (aE.succ Z O)
def adl {d:Day}(Z:d.dJ){f:Nat->Nat}(X:Reach d f):∃P,sF d f P/\∀i,i<d.n->d.e5 f P i=d.top f i:=by
 obtain⟨g,O,-⟩:=X;exact aoA Z O _ _ (cl _) (jz.first Z O)
section
variable {cash:List Int} {cs:List aB} (R:fX cash cs)
include R
def adm {f:Nat->Nat}(X:Reach (af cash cs) f){i:Nat}(O:i<D cash):e0 428 ((af cash cs).top f i):=by
 obtain⟨P,aE,he⟩:=adl R.ok X;rw[<-he i O];exact acB R aE O
def Qp {i:Nat}(O:i<D cash):e0 428 ((af cash cs).cL i):=adm R (P2 R.ok).1 O
def aEh {i:Nat}(O:i<D cash):(af cash cs).cL i<=((2^54:Nat):Rat):=by
 obtain⟨P,aE,he⟩:=adl R.ok (P2 R.ok).1;have:=(UT R aE O).2;rw[he i O] at this;exact this
def aoB:∃bk:Nat,0<bk/\(∃a,a<=330/\bk<=2^a)/\∀i,i<(D cash)->eV bk ((af cash cs).cL i):=by
 obtain⟨P,aE,he⟩:=adl R.ok (P2 R.ok).1;obtain⟨bk,F,G,ab⟩:=anh R aE;refine⟨bk,F,G,λi O=>?_⟩;have:=ab i O;rw[he i O] at this;exact this
end
section
variable {d:Day} (Z:d.dJ)
include Z
end
def x2 (cash:List Int)(cs:List aB)(k:Nat):Nat:=if (af cash cs).pn k<10 then jq cs k ((af cash cs).pn k) else 1
section
variable {cash:List Int} {cs:List aB} (R:fX cash cs)
include R
def aoC {k:Nat}(I:k<D cash):0<x2 cash cs k:=by
 unfold x2
 split
 ·rename_i h;obtain⟨g,F,-⟩:=U3 R.ok;have G:=F.ph (i:=k) I h;rw[<-E7 R.right] at G;exact_mod_cast G
 ·omega
def aoD (k:Nat):x2 cash cs k<=2^54:=by
 unfold x2
 split
 ·exact R.E8 _ _
 ·exact acT
def aoE {bk:Nat}(gE:∀i,i<(D cash)->eV bk ((af cash cs).cL i)){c:aB}(J:c∈cs):eV (bk*x2 cash cs (bP c).aF) ((af cash cs).kf (af cash cs).cL (bP c)):=by
 have Z:=R.ok;have fD:bP c∈(af cash cs).dE:=wA J;have I:(bP c).aF<D cash:=Z.aF _ fD;have zh:∀N,eV N (bP c).am:=λN=>eV.int N c.2.2.2;have a2:∀N,eV N (0:Rat):=eV.zero;have l2:=λr s=>@Day.dJ.zg _ Z (bP c).aF r s;have iH:=Z.rk _ fD;have gl:=anI Z _ I;unfold Day.kf
 by_cases F:(af cash cs).U (bP c).aF ((bP c).rk+1)<=(af cash cs).cL (bP c).aF
 ·rw[Y F];exact zh _
 ·rw[aa F]
  have aH:(af cash cs).pn (bP c).aF<10:=by
   refine ((U4 Z).2 _ I).2 ?_;have:=l2 ((bP c).rk+1) 10 (by omega);grind
  have ah:(af cash cs).cL (bP c).aF<(af cash cs).U (bP c).aF ((af cash cs).pn (bP c).aF+1):=by
   obtain⟨g,cy,-,dW⟩:=U3 Z;have:=cy.O _ I aH;have:=dW _ I;grind
  rcases Nat.lt_trichotomy (bP c).rk ((af cash cs).pn (bP c).aF) with G|G|G
  ·have:=l2 ((bP c).rk+1) ((af cash cs).pn (bP c).aF) (by omega);exact absurd (xM this gl) F
  ·have hw:eV (x2 cash cs (bP c).aF) ((af cash cs).w (bP c)):=by
    unfold x2;rw[Y aH];refine⟨c.2.2.2,?_⟩;rw[E7 R.right,<-G]
    have:0<(af cash cs).S (bP c).aF (bP c).rk:=by
     have:=(af cash cs).AQ (bP c).aF ((af cash cs).pn (bP c).aF);rw[G];grind
    exact Day.HI this
   have HD:eV bk ((af cash cs).cL (bP c).aF-(af cash cs).U (bP c).aF (bP c).rk):=by
    refine (gE _ I).sub ?_;rw[<-qS R.right];exact eV.int _ _
   rw[AR (by rw[G];grind),Nat.mul_comm];exact hw.mul HD
  ·have:=l2 ((af cash cs).pn (bP c).aF+1) (bP c).rk (by omega);rw[xL (by grind),rI];exact a2 _
def aoF {c:aB}(J:c∈cs):e0 482 ((af cash cs).kf (af cash cs).cL (bP c)):=by
 obtain⟨bk,F,⟨a,G,ab⟩,aV⟩:=aoB R;have fD:bP c∈(af cash cs).dE:=wA J;have I:(bP c).aF<D cash:=R.ok.aF _ fD;have bu:=aoE R aV J;have bX:=aoC R I;have b9:=aoD R (bP c).aF;have cS:bk*x2 cash cs (bP c).aF<=2^(a+54):=by rw[Nat.pow_add];exact pj ab b9
 have eP:=R.ok.al1 (af cash cs).cL fD
 have du:(af cash cs).kf (af cash cs).cL (bP c)<=((2^50:Nat):Rat):=by
  refine xM (R.ok.abJ _ fD) ?_;have:=R.am c J;show ((c.2.2.2:Int):Rat)<=_;have:c.2.2.2<=((2^50:Nat):Int):=by omega
  rw[<-oe];exact acU.2 this
 exact (bu.sz (Nat.mul_pos F bX) cS eP du).mono (by omega)
end
end Go.Mini
namespace Go.Mini
open Go
def dk (cs:List aB)(cK:Int):List aB:=cs.filter λc=>c.1==cK
def aEi (cs:List aB)(cK:Int)(p:aB->Prop)[DecidablePred p]:cJ (dk cs cK) (λc=>if c.1=cK/\p c then c.2.2.2 else 0)=cJ cs λc=>if c.1=cK/\p c then c.2.2.2 else 0:=by
 unfold dk
 induction cs with
 |nil=>rfl
 |cons c l aG =>
  by_cases h:c.1=cK
  ·rw[xW (by simpa using h)];simp only[cJ,aG]
  ·rw[zp (by simpa using h),aG];simp only[cJ];rw[aa λa1=>h a1.1];omega
def aoG (cs:List aB)(cK r:Int):bT (dk cs cK) cK r=bT cs cK r:=aEi cs cK λc=>c.2.2.1<r
def Fm {cs:List aB}{cK:Int}{c:aB}:c∈dk cs cK↔c∈cs/\c.1=cK:=by
 unfold dk;rw[PE,beq_iff_eq]
def aEj {cs:List aB}{cK:Int}{x:Rat}{c:aB}(h:c.1=cK):gW (dk cs cK) x c=gW cs x c:=by
 unfold gW hg;rw[h,aoG,aoG]
def aoH (cs:List aB)(cK:Int)(x:Rat):((dk cs cK).map λc=>av (gW (dk cs cK) x c))=(dk cs cK).map λc=>av (gW cs x c) :=
 ox λc J=>by rw[aEj (Fm.1 J).2]
structure aEk (cs:List aB) (cK:Int) (x:Rat):Prop where
 s:Qm (dk cs cK) x
 l:(D cs)<=2000
def fX.own {cash:List Int}{cs:List aB}(h:fX cash cs)(cK:Int):nh (dk cs cK):=by
 have X:=hL.1 h.right;have aL:=h.jV;refine⟨?_,λc J=>?_,λc J c' lR=>?_⟩
 ·have:=p2 (λc:aB=>c.1==cK) cs;have:=h.wE;unfold dk;omega
 ·have F:=X.2.2.2 c (Fm.1 J).1;have G:=h.am c (Fm.1 J).1;omega
 ·rw[(Fm.1 J).2,(Fm.1 lR).2]
def Qq:=bV Lb λ(cs,cK,x)=>cu (aEk cs cK x) (.same (.dj [.ax (((dk cs cK).map λc=>av (gW cs x c)).map az),.int .i64 0]))
@[go_sem] def aEl (cs cK x):=cH Qq rfl aoh (cs,cK,x) rfl
def aEm (T:ba)(H6:T Y2=aK Vv):WF T ano Qq:=by
 refine cp λ(cs,cK,x)=>cT λJ=>⟨rfl,ck ?_⟩;simp only[ano,Lb,cd];obtain⟨R,hlen⟩:=J;have ec:=aEc x (dk cs cK) R;rw[aoH] at ec;generalize iU:av x=b2 at *;obtain⟨⟨cz,cY⟩,⟨eA,eQ⟩⟩:=b2;simp only[az] at ec;simp only[go_sem,go_sem_proc,H6,az];refine dd [0,1,5] [274005] (λ((i,g):Nat×Nat) tm m=>i<=D cs/\tm 9=.H (.int .i64 i)/\tm 8=.ref 274029 g 4 0 (dk (cs.take i) cK).length/\m 274029=some (g,aU bL (dk (cs.take i) cK))) (λ(i,_)=>D cs-i) (0,0) (by refine⟨by omega,rfl,rfl,rfl⟩) ?_;intro vs ms aQ aM;simp only[go_sem,go_sem_proc,H6,az] at aQ aM;subst aQ aM;rintro⟨i,g⟩ tm m I hm ⟨O,eT,ee,kl⟩;simp only[go_sem,go_sem_proc,H6,bj] at I hm;obtain⟨bx,au,c6⟩:=I;rcases dn (i<D cs) with ah|bW
 ·have d1:decide ((i:Int)<(D cs:Int))=true:=cX;have bF:=eI (i:=i) (by omega);obtain⟨⟨ar,c2,c3,c4⟩,L⟩:∃c,cs[i]?=some c:=⟨_,bh ah⟩;have hb:cs.take (i+1)=cs.take i++[(ar,c2,c3,c4)]:=by rw[hZ,L];rfl
  have FV:(dk (cs.take i) cK).length<=2000:=by
   have F:=p2 (λc:aB=>c.1==cK) (cs.take i);have G:(cs.take i).length<=D cs:=by rw[gP];omega
   unfold dk;omega
  rcases dI:(ar==cK)
  ·have q9:dk (cs.take (i+1)) cK=dk (cs.take i) cK:=by
    unfold dk;rw[hb,zo,zp (by simpa using dI),sE,hD]
   refine ai ?_;repeat' (intro h<;>simp only[h,go_sem,go_sem_proc,H6,bx,au,c6,ee,eT,hm,kl,L,d1,bF,dI,bL,al,bm]<;>try refine ag ?_ ?_)
   exact⟨(i+1,g),by dsimp only;omega,by dsimp only;omega,rfl,by rw[q9],by rw[q9]⟩
  ·have q9:dk (cs.take (i+1)) cK=dk (cs.take i) cK++[(ar,c2,c3,c4)]:=by
    unfold dk;rw[hb,zo,xW (by simpa using dI),sE]
   have c9:=kx p3 U0 274029 g 32 (dk (cs.take i) cK) (ar,c2,c3,c4) (cs:=[.H (.int .i64 ar),.H (.int .i64 c2),.H (.int .i64 c3),.H (.int .i64 c4)]) rfl (by omega) (by omega);rw[<-q9] at c9;have bG:(dk (cs.take (i+1)) cK).length=(dk (cs.take i) cK).length+1:=by rw[q9,gC];rfl
   refine ai ?_;repeat' (intro h<;>simp only[h,go_sem,go_sem_proc,H6,bx,au,c6,ee,eT,hm,kl,L,d1,bF,dI,c9,bL,al,bm]<;>try refine ag ?_ ?_)
   exact⟨(i+1,g+1),by dsimp only;omega,by dsimp only;omega,rfl,by rw[bG],rfl⟩
 ·have d1:decide ((i:Int)<(D cs:Int))=false:=b7;rw[dD (by omega)] at ee kl;have lg:=λ(K:bc->Prop) (st:bc)=>nB (K:=K) (st:=st) p3 8 274029 g (dk cs cK);refine ai ?_;repeat' (intro h<;>simp only[h,go_sem,go_sem_proc,H6,H6,bx,au,c6,ee,eT,hm,d1,kl,lg,ec,al]<;>try refine ag ?_ ?_)
def adn (n:Nat):((h4 n).map M.H).all M.one=true:=rfl
def oT (d:Day)(f:Nat->Nat)(h:Nat->Rat)(i:Nat):List Nat:=(eM i).filter λj=>decide (h j<d.U j (f j))
def aoI (d:Day)(f:Nat->Nat)(h:Nat->Rat)(i:Nat):oT d f h (i+1)=if h i<d.U i (f i) then oT d f h i++[i] else oT d f h i:=by
 unfold oT;rw[rM,zo]
 by_cases a1:h i<d.U i (f i)
 ·rw[Y a1,xW (by simpa using a1),sE]
 ·rw[aa a1,zp (by simpa using a1),sE,hD]
def aoJ (d:Day)(f:Nat->Nat)(h:Nat->Rat)(i:Nat):(oT d f h i).length<=i:=by
 have:=p2 (λj=>decide (h j<d.U j (f j))) (eM i);rw[td] at this;exact this
structure aEn (cash:List Int) (cs:List aB) (aJ:List Int) (h:Nat->Rat) (g cL:Nat) (hH A8:M) (m:Mem):Prop where
 r:∃x,m 261029=some (g,[.H (.ax (cash.map aI)),.H (.ax (cs.map bL)),.ref 261042 cL 1 0 (D aJ),hH,x])
 f:m 261042=some (cL,aJ.map dS)
 c:m 261006=some (0,[.H (.ax ((c8 (D cash) h).map az)),.nil,A8])
def aEo (T:ba)(hM:T rl=aK xU)(im:T sc=aK xV)(gA:T uC=aK xX){K:eK->bc->Prop}{kk:List fT}(cash:List Int)(cs:List aB)(R:fX cash cs)(aJ:List Int)(gw:(D aJ)=D cash)(du:∀x∈aJ,0<=x/\x<=10)(h:Nat->Rat)(hT:∀i,i<(D cash)->dH (h i))(g cL kF:Nat)(hH A8:M)(tm:Nat->M)(m:Mem)
  (bH:aEn cash cs aJ h g cL hH A8 m) (bx:tm 0=.H (.ax (cash.map aI))) (au:tm 1=.H (.ax (cs.map bL))) (bK:tm 4=.ptr 261004 0 0) (bt:tm 6=.ptr 261006 0 0) (bS:tm 7=.ptr 261029 g 0) (eT:tm 9=.ref 261080 kF 1 0 0) (gg:tm 10=.H (.int .i64 0)) (C4:m 261080=some (kF,[]))
  (db:∀tm' m' aoK,tm' 0=.H (.ax (cash.map aI))->tm' 1=.H (.ax (cs.map bL))->tm' 4=.ptr 261004 0 0->tm' 6=.ptr 261006 0 0->tm' 7=.ptr 261029 g 0->tm' 9=.ref 261080 aoK 1 0 (oT (af cash cs) (a9 aJ) h (D cash)).length->m' 261080=some (aoK,aU h4 (oT (af cash cs) (a9 aJ) h (D cash)))->(∀k,k≠261080->m' k=m k)->cg T K kk (.exit 4) ⟨tm',m'⟩) :
  wp T (xT.body.sub [1,1,1,1,1,0,0,0,0,1,1,1,0,1,0,0]) (cg T K kk) ⟨tm,m⟩:=by
 simp only[xT,er.sub];obtain⟨⟨Qr,iT⟩,w5,jK⟩:=bH;have aL:=R.jV;generalize n0:m=gD at *;refine dd [0,1,4,6,7] [] (λ((i,tR):Nat×Nat) tm m=>i<=D cash/\tm 10=.H (.int .i64 i)/\tm 9=.ref 261080 tR 1 0 (oT (af cash cs) (a9 aJ) h i).length/\m 261080=some (tR,aU h4 (oT (af cash cs) (a9 aJ) h i))/\∀k,k≠261080->m k=gD k) (λ(i,_)=>D cash-i) (0,kF) (by refine⟨by omega,gg,eT,C4,λ_ _=>rfl⟩) ?_;intro vs ms aQ aM;simp only[go_sem,go_sem_proc,bx,au,bK,bt,bS] at aQ aM;subst aQ aM;clear bx au bK bt bS eT gg n0 C4 tm;rintro⟨i,tR⟩ tm dg I-⟨O,gg,eT,C4,bg⟩;simp only[go_sem,go_sem_proc,bj] at I;obtain⟨bx,au,bK,bt,bS⟩:=I;have X:=(bg 261029 (by decide)).trans iT;have aH:=(bg 261042 (by decide)).trans w5;have J:=(bg 261006 (by decide)).trans jK;rcases dn (i<D cash) with ah|bW
 ·have d1:decide ((i:Int)<(D cash:Int))=true:=cX;have bF:=eI (i:=i) (by omega);obtain⟨y,aj⟩:∃y,aJ[i]?=some y:=⟨_,bh (by omega)⟩;have qO:=du y (dy aj);have mc:a9 aJ i=y.toNat:=by unfold a9;rw[kW aj]
  obtain⟨y,rfl⟩:∃k:Nat,y=(k:Int):=⟨y.toNat,by omega⟩
  rw[gK] at mc;have zt:=zr (f:=dS) aj;have eN:i+1<=D aJ:=by omega
  have aw:i<D aJ:=by omega
  have l2:=R.upto i y;have oS:eJ (bT cs i y):=mQ (by omega) (by omega);have oF:=U2 cs i y (AY R.right);have hw:=HQ _ oS;have lx:=Qa (hT i ah) (p5 oS);have h3:decide (lb (h i) ((bT cs i y:Int):Rat)<0)=decide (h i<((bT cs i y:Int):Rat)):=acO;have Fo:=qS R.right i y;have tS:=aoI (af cash cs) (a9 aJ) h i;rw[mc,<-Fo] at tS;have tQ:=rL h ah;have Vy:=aoJ (af cash cs) (a9 aJ) h i;have c9:=kx wk adn 261080 tR 8 (oT (af cash cs) (a9 aJ) h i) i (cs:=[.H (.int .i64 i)]) rfl (by omega) (by omega);have iw:∀x,dS x=.H (.int .i64 x):=λ_=>rfl;generalize Vl:av (h i)=gR at *;generalize iU:av ((bT cs i y:Int):Rat)=b2 at *;obtain⟨⟨cQ,dN⟩,⟨gy,g3⟩⟩:=b2;obtain⟨⟨cz,cY⟩,⟨eA,eQ⟩⟩:=gR;simp only[az] at hw lx;rcases dI:decide (h i<((bT cs i y:Int):Rat))
  ·rw[dI] at h3;rw[aa (of_decide_eq_false dI)] at tS;refine ai ?_;repeat' (intro (ao:_=_)<;>simp only[ao,go_sem,go_sem_proc,im,hM,gA,bx,au,bK,bt,bS,eT,gg,X,aH,J,d1,bF,zt,eN,aw,oF,hw,lx,h3,tQ,iw,az,dZ,al,bm]<;>try refine ag ?_ ?_)
   exact⟨(i+1,tR),by dsimp only;omega,by dsimp only;omega,rfl,by rw[tS],by rw[tS];exact C4,bg⟩
  ·rw[dI] at h3;rw[Y (of_decide_eq_true dI)] at tS;rw[<-tS] at c9;have bG:(oT (af cash cs) (a9 aJ) h (i+1)).length=(oT (af cash cs) (a9 aJ) h i).length+1:=by rw[tS,gC];rfl
   refine ai ?_;repeat' (intro (ao:_=_)<;>simp only[ao,go_sem,go_sem_proc,im,hM,gA,bx,au,bK,bt,bS,eT,gg,X,aH,J,C4,d1,bF,zt,eN,aw,oF,hw,lx,h3,tQ,iw,c9,az,dZ,al,bm]<;>try refine ag ?_ ?_)
   refine⟨(i+1,tR+1),by dsimp only;omega,by dsimp only;omega,rfl,by rw[bG],rfl,λk I=>?_⟩
   simp only[a5,I,if_false];exact bg k I
 ·have d1:decide ((i:Int)<(D cash:Int))=false:=b7;obtain rfl:i=D cash:=by omega
  refine ai ?_;repeat' (intro (ao:_=_)<;>simp only[ao,go_sem,go_sem_proc,bx,au,bK,bt,bS,eT,gg,d1,al]<;>try refine ag ?_ ?_)
  refine db _ _ tR ?_ ?_ ?_ ?_ ?_ ?_ C4 bg<;>simp only[dC,cE,if_false,bx,au,bK,bt,bS,eT]
def x3 (d:Day)(f:Nat->Nat)(h:Nat->Rat)(aO:List Nat)(n:Nat):List Int:=bA n λi=>((if i∈aO then d.jA h i 10 else f i:Nat):Int)
def aEp (T:ba)(qW:T NI=aK Lc){K:eK->bc->Prop}{kk:List fT}(cash:List Int)(cs:List aB)(R:fX cash cs)(f:Nat->Nat)(h:Nat->Rat)(hT:∀i,i<(D cash)->dH (h i))(aO:List Nat)(ec:∀i∈aO,i<D cash)(aEq:(D aO)<=D cash)(g cL kF:Nat)(hH A8 Qr:M)(tm:Nat->M)(m:Mem)
  (iT:m 261029=some (g,[.H (.ax (cash.map aI)),.H (.ax (cs.map bL)),.ref 261042 cL 1 0 (D cash),hH,Qr])) (w5:m 261042=some (cL,(bA (D cash) λi=>(f i:Int)).map dS)) (jK:m 261006=some (0,[.H (.ax ((c8 (D cash) h).map az)),.nil,A8])) (bx:tm 0=.H (.ax (cash.map aI))) (au:tm 1=.H (.ax (cs.map bL))) (bK:tm 4=.ptr 261004 0 0) (bt:tm 6=.ptr 261006 0 0) (bS:tm 7=.ptr 261029 g 0) (eT:tm 9=.ref 261080 kF 1 0 (D aO)) (lD:tm 11=.H (.int .i64 0)) (C4:m 261080=some (kF,aU h4 aO))
  (db:∀tm' m',tm' 0=.H (.ax (cash.map aI))->tm' 1=.H (.ax (cs.map bL))->tm' 4=.ptr 261004 0 0->tm' 6=.ptr 261006 0 0->tm' 7=.ptr 261029 g 0->tm' 9=.ref 261080 kF 1 0 (D aO)->m' 261042=some (cL,(x3 (af cash cs) f h aO (D cash)).map dS)->(∀k,k≠261042->m' k=m k)->cg T K kk (.exit 6) ⟨tm',m'⟩) :
  wp T (xT.body.sub [1,1,1,1,1,0,0,0,0,1,1,1,1,1,0,1,0]) (cg T K kk) ⟨tm,m⟩:=by
 simp only[xT,er.sub];have aL:=R.jV;generalize n0:m=gD at *
 refine dd [0,1,4,6,7,9] [] (λ(j:Nat) tm m=>j<=D aO/\tm 11=.H (.int .i64 j)/\m 261042=some (cL,(x3 (af cash cs) f h (aO.take j) (D cash)).map dS)/\∀k,k≠261042->m k=gD k) (λj=>D aO-j) 0 (by
  refine⟨by omega,lD,?_,λ_ _=>rfl⟩
  rw[w5];have:(bA (D cash) λi=>(f i:Int))=x3 (af cash cs) f h (aO.take 0) (D cash):=jW λi _=>by rw[nw,aa (by simp)]
  rw[this]) ?_
 intro vs ms aQ aM;simp only[go_sem,go_sem_proc,bx,au,bK,bt,bS,eT] at aQ aM;subst aQ aM;clear bx au bK bt bS eT lD n0 w5 tm;rintro j tm dg I-⟨ae,lD,aH,bg⟩;simp only[go_sem,go_sem_proc,bj] at I;obtain⟨bx,au,bK,bt,bS,eT⟩:=I;have X:=(bg 261029 (by decide)).trans iT;have J:=(bg 261006 (by decide)).trans jK;have aoL:=(bg 261080 (by decide)).trans C4;rcases dn (j<D aO) with ah|bW
 ·have d1:decide ((j:Int)<(D aO:Int))=true:=cX;have bF:=eI (i:=j) (by omega);obtain⟨i,L⟩:∃c,aO[j]?=some c:=⟨_,bh ah⟩;have O:=ec i (dy L);have zm:=aDV cs i (h i) ⟨AY R.right,hT i O⟩;rw[aog R.right h i 10] at zm;have tQ:=rL h O
  have nY:gT 1 (hl j (aU h4 aO))=[.H (.int .i64 i)]:=by
   have:aU h4 aO=aO.map λn:Nat=>M.H (.int .i64 (n:Int)):=by
    unfold aU;clear L ec aEq ah ae d1 db eT aoL C4 aH
    induction aO with
    |nil=>rfl
    |cons a l aG=>simp only[eE,l8,kE];rw[aG];rfl
   rw[this];exact zr L
  have cm:(aU h4 aO).length=D aO:=by rw[jS wk];omega
  have x1:(x3 (af cash cs) f h (aO.take j) (D cash)).length=D cash:=gB _ _;have hb:aO.take (j+1)=aO.take j++[i]:=by rw[hZ,L];rfl
  have ju:gT i (sG dS (x3 (af cash cs) f h (aO.take j) (D cash)))++[M.H (.int .i64 ((af cash cs).jA h i 10))]++hl (i+1) (sG dS (x3 (af cash cs) f h (aO.take j) (D cash)))=sG dS (x3 (af cash cs) f h (aO.take (j+1)) (D cash)):=by
   have e:x3 (af cash cs) f h (aO.take (j+1)) (D cash)=(x3 (af cash cs) f h (aO.take j) (D cash)).set i (((af cash cs).jA h i 10:Nat):Int):=by
    unfold x3;rw[A5,hb];refine jW λk _=>?_
    by_cases I:k=i
    ·subst I;rw[Y (by simp),Y rfl]
    ·rw[aa I]
     congr 1
     by_cases hm:k∈aO.take j
     ·rw[Y (by simp[hm]),Y hm]
     ·rw[aa (by simp[hm,I]),aa hm]
   rw[e,xD,Vm,Y (by rw[al,x1];exact O)];simp[dS]
  have eN:i+1<=D cash:=by omega
  have aw:j+1<=D aO:=by omega
  generalize x3 (af cash cs) f h (aO.take j) (D cash)=c7 at *;generalize Vl:av (h i)=gR at *;obtain⟨⟨cz,cY⟩,⟨eA,eQ⟩⟩:=gR;simp only[az] at zm;refine ai ?_;repeat' (intro (ao:_=_)<;>simp only[ao,go_sem,go_sem_proc,qW,bx,au,bK,bt,bS,eT,lD,X,aH,J,aoL,d1,bF,O,ah,nY,cm,x1,eN,aw,zm,tQ,ju,az,dZ,al,bm]<;>try refine ag ?_ ?_)
  refine⟨j+1,by omega,by omega,rfl,rfl,λk I=>?_⟩
  simp only[a5,I,if_false];exact bg k I
 ·have d1:decide ((j:Int)<(D aO:Int))=false:=b7;obtain rfl:j=D aO:=by omega
  rw[pb] at aH;refine ai ?_;repeat' (intro (ao:_=_)<;>simp only[ao,go_sem,go_sem_proc,bx,au,bK,bt,bS,eT,lD,d1,al]<;>try refine ag ?_ ?_)
  refine db _ _ ?_ ?_ ?_ ?_ ?_ ?_ aH bg<;>simp only[dC,cE,if_false,bx,au,bK,bt,bS,eT]
end Go.Mini
namespace Go.Mini
open Classical
def lh (d:Day)(l:List aB)(i:Nat):Rat:=cC (l.map bP) λc=>if c.to=(i:Int) then d.w c else 0
def aEr (d:Day)(i:Nat):lh d [] i=0:=rfl
def aoM (d:Day)(l:List aB)(c:aB)(i:Nat):lh d (l++[c]) i=lh d l i+if c.2.1=(i:Int) then d.w (bP c) else 0:=by
 unfold lh;rw[kE,P1]
 congr 1
 show (if (bP c).to=(i:Int) then d.w (bP c) else 0)+0=_;rw[rH]
 rfl
def aEs {cash:List Int}{cs:List aB}(h:hr cash cs=true)(f:Nat->Nat)(k i:Nat):lh (af cash cs) (dx cs k (f k)) i=(af cash cs).W f k i:=by
 have X:=(hL.1 h).2.2.2;unfold lh Day.W;rw[acE λc J=>⟨(X c J).1,(X c J).2.2.2.2.1⟩];refine wv λc _=>?_
 by_cases F:c.aF=k/\c.rk=f k
 ·rw[Y F]
  by_cases G:c.to=(i:Int)
  ·rw[Y G,Y ⟨G,F⟩]
  ·rw[aa G,aa λh=>G h.1]
 ·rw[aa F,aa λh=>F h.2]
section
variable {cash:List Int} {cs:List aB} (R:fX cash cs) {k r:Nat} (cZ:0<(af cash cs).S k r)
include R cZ
def Vz {c:aB}(J:c∈dx cs k r):eV (jq cs k r) ((af cash cs).w (bP c))/\0<=(af cash cs).w (bP c)/\(af cash cs).w (bP c)=(c.2.2.2:Rat)/((hg cs k r:Int):Rat):=by
 obtain⟨F,G,ab⟩:=HS.1 J;have au:(bP c).aF=k:=by show c.1.toNat=k;omega
 have aC:(bP c).rk=r:=by show c.2.2.1.toNat=r;omega
 have hm:bP c∈(af cash cs).dE:=wA F;refine⟨⟨c.2.2.2,?_⟩,R.ok.rJ hm,?_⟩
 ·rw[E7 R.right,<-au,<-aC];exact Day.HI (by rw[au,aC];exact cZ)
 ·unfold Day.w hg;rw[au,aC];have:=KU R.right k r;rw[<-this]
  rfl
def aEt {l:List aB}(aq:∃gb,dx cs k r=l++gb)(i:Nat):e0 54 (lh (af cash cs) l i):=by
 obtain⟨gb,aq⟩:=aq;have gQ:∀c∈l,c∈dx cs k r:=λc J=>by rw[aq];simp[J]
 have aEu:∀c∈gb,c∈dx cs k r:=λc J=>by rw[aq];simp[J]
 have Z:eV (jq cs k r) (lh (af cash cs) l i):=by
  unfold lh;refine eV.cC λx L=>?_;obtain⟨c,J,rfl⟩:=gm.1 L
  split
  ·exact (Vz R cZ (gQ c J)).1
  ·exact eV.zero _
 have ay:∀m:List aB,(∀c∈m,c∈dx cs k r)->0<=lh (af cash cs) m i:=λm hm=>AO λx L=>by
  obtain⟨c,J,rfl⟩:=gm.1 L
  try dsimp only
  split
  ·exact (Vz R cZ (hm c J)).2.1
  ·exact hp
 have F:lh (af cash cs) l i<=1:=by
  have e:lh (af cash cs) (dx cs k r) i=lh (af cash cs) l i+lh (af cash cs) gb i:=by
   rw[aq];unfold lh;rw[kE,P1]
  have aC:lh (af cash cs) (dx cs k r) i<=cC ((dx cs k r).map bP) (af cash cs).w:=HH λx L=>by
   obtain⟨c,J,rfl⟩:=gm.1 L;have:=(Vz R cZ J).2.1
   split
   ·exact hp
   ·exact this
  have X:=(hL.1 R.right).2.2.2;rw[acE λc J=>⟨(X c J).1,(X c J).2.2.2.2.1⟩] at aC
  have bN:cC (cs.map bP) (λc=>if c.aF=k/\c.rk=r then (af cash cs).w c else 0)=1:=by
   have I:k<(af cash cs).n:=by
    obtain⟨c,J,aE⟩:=aby cZ
    by_cases lQ:c.aF=k/\c.rk=r
    ·rw[<-lQ.1];exact R.ok.aF c J
    ·rw[aa lQ] at aE;grind
   have:=R.ok.PA (λj=>j=k) (λ_=>r) (λj ae=>by subst ae;exact cZ) λ_=>1;rw[AM I (λj _ ae=>by rw[aa ae]),Y rfl] at this;refine (wv λc _=>?_).trans this
   by_cases J:c.aF=k/\c.rk=r
   ·rw[Y J,Y J,Rat.mul_one]
   ·rw[aa J,aa J]
  have:=ay gb aEu;grind
 have fA:0<jq cs k r:=by
  rw[<-E7 R.right] at cZ;exact_mod_cast cZ
 exact (Z.sz fA (R.E8 k r) (ay l gQ) (e:=0) (by rw[show ((2^0:Nat):Rat)=1 from rfl];exact F)).mono (by omega)
end
end Go.Mini
namespace Go.Mini
open Go
def lj (l:List aB):M:=if l=[] then .nil else .H (.ax (l.map bL))
def aEv {a b:List aB}(h:lj a=lj b):a=b:=by
 unfold lj at h
 by_cases aZ:a=[]<;>by_cases ad:b=[]
 ·rw[aZ,ad]
 ·rw[Y aZ,aa ad] at h;cases h
 ·rw[aa aZ,Y ad] at h;cases h
 ·rw[aa aZ,aa ad] at h;exact map_inj tM _ _ (Data.ax.inj (M.H.inj h))
def aoN (l:List aB):qf (lj l)=some (D l):=by
 unfold lj
 split
 ·rename_i h;rw[h];rfl
 ·simp[qf]
def aoO {l:List aB}{n:Nat}{c:aB}(h:l[n]?=some c):yi 4 n (lj l)=some (.H (.ptr (bL c))):=by
 unfold lj
 split
 ·rename_i aq;rw[aq] at h;cases h
 ·simp only[yi,bm,h,Option.map_some];rw[Y (p3 c)]
structure pr where
 cash:Int
 dE:List (List aB)
 us:List Int
 f:Int
 p:Bool
def gi (x:pr):List M:=dS x.cash::(x.dE.map lj++(x.us.map dS++[dS x.f,iJ x.p]))
def pr.zx (x:pr)(f:Int):pr:=⟨x.cash,x.dE,x.us,f,x.p⟩
def pr.sp (x:pr)(p:Bool):pr:=⟨x.cash,x.dE,x.us,x.f,p⟩
structure pr.dJ (x:pr):Prop where
 dE:(D x.dE)=10
 us:(D x.us)=11
def Fp {x:pr}(h:x.dJ):(gi x).length=24:=by
 simp[gi,h.dE,h.us]
def aEw {x y:pr}(L:x.dJ)(aj:y.dJ)(h:gi x=gi y):x=y:=by
 unfold gi at h;obtain⟨F,G⟩:=yI h;obtain⟨ab,aV⟩:=JA G (by rw[al,al,L.dE,aj.dE]);obtain⟨bu,bX⟩:=JA aV (by rw[al,al,L.us,aj.us]);obtain⟨b9,cS⟩:=yI bX;obtain⟨eP,-⟩:=yI cS;obtain⟨fx,fe,hH,iE,Qr⟩:=x;obtain⟨nD,o5,wq,wu,aP3⟩:=y;have aC:=map_inj (λa b h=>aEv h) _ _ ab;have bN:=anU bu;simp only[dS,iJ,M.H.injEq,Data.int.injEq,Data.bool.injEq,true_and] at F b9 eP;dsimp only at *;rw[F,aC,bN,b9,eP]
section
variable {x:pr} (h:x.dJ)
include h
omit h in
def aEx:gT 1 (gi x)=[dS x.cash]:=rfl
omit h in
def aoP {k:Nat}{l:List aB}(I:x.dE[k]?=some l):gT 1 (hl (1+k) (gi x))=[lj l]:=by
 have ah:=(dV.1 I).1;unfold gi;rw[Nat.add_comm,yn,aoQ (by rw[al];omega),EO (by rw[oz,al];omega)];exact zr (f:=lj) I
def Qs {k:Nat}{z:Int}(I:x.us[k]?=some z):gT 1 (hl (11+k) (gi x))=[dS z]:=by
 have ah:=(dV.1 I).1;unfold gi;rw[show 11+k=(10+k)+1 by omega,yn,qq,lM (by rw[al,h.dE];omega),al,h.dE,jE,show 10+k-10=k by omega,aoQ (by rw[al];omega),EO (by rw[oz,al];omega)]
 exact zr (f:=dS) I
def Qt:gT 1 (hl 22 (gi x))=[dS x.f]:=by
 unfold gi;rw[yn,qq,lM (by rw[al,h.dE];omega),al,h.dE,jE,qq,lM (by rw[al,h.us];omega),al,h.us]
 rfl
def aoR:gT 1 (hl 23 (gi x))=[iJ x.p]:=by
 unfold gi;rw[yn,qq,lM (by rw[al,h.dE];omega),al,h.dE,jE,qq,lM (by rw[al,h.us];omega),al,h.us]
 rfl
def aEy (f:Int):gT 22 (gi x)++[M.H (.int .i64 f)]++hl 23 (gi x)=gi (x.zx f):=by
 have e:gi x=(dS x.cash::(x.dE.map lj++x.us.map dS))++[dS x.f,iJ x.p]:=by simp[gi]
 have l:(dS x.cash::(x.dE.map lj++x.us.map dS)).length=22:=by simp[h.dE,h.us]
 rw[e,EO (by omega),dD (by omega),qq,lM (by omega),l];simp[gi,pr.zx,dS]
def aoS (p:Bool):gT 23 (gi x)++[M.H (.bool p)]++hl 24 (gi x)=gi (x.sp p):=by
 have e:gi x=(dS x.cash::(x.dE.map lj++(x.us.map dS++[dS x.f])))++[iJ x.p]:=by simp[gi]
 have l:(dS x.cash::(x.dE.map lj++(x.us.map dS++[dS x.f]))).length=23:=by simp[h.dE,h.us]
 rw[e,EO (by omega),dD (by omega),qq,lM (by omega),l];simp[gi,pr.sp,iJ]
end
structure dt where
 cash:List Int
 cs:List aB
 aJ:List Int
 P:List Bool
 g:Nat
 gs:List Nat
def dt.hh (a:dt)(i:Nat):pr:=⟨a.cash.getD i 0,bA 10 λk=>dx a.cs i k,bA 11 λk=>bT a.cs i (k:Nat),a.aJ.getD i 10,a.P.getD i false⟩
def dt.zy (a:dt)(i:Nat):(a.hh i).dJ:=⟨gB _ _,gB _ _⟩
structure dt.fj (a:dt) (m:Mem):Prop where
 can:a.cs=dR (D a.cash) a.cs
 aJ:(D a.aJ)=D a.cash
 pl:(D a.P)=D a.cash
 VA:(D a.gs)=D a.cash
 row:m 228023=some (a.g,bA (D a.cash) λi => .ptr (228500+i) (a.gs.getD i 0) 0)
 dU:∀i,i<(D a.cash)->m (228500+i)=some (a.gs.getD i 0,gi (a.hh i))
def Qu {α:Type}{d:α}{n:Nat}{a b:List α}(aZ:(D a)=n)(ad:(D b)=n)(h:∀i,i<n->a.getD i d=b.getD i d):a=b:=by
 apply pE;intro i;rcases hO i n with O|O
 ·have:=h i O;rw[eD,eD,bh (by omega),bh (by omega)] at this;rw[bh (by omega),bh (by omega)];exact congrArg some this
 ·rw[jZ (by omega),jZ (by omega)]
def aoT {α:Type}{n:Nat}{p q:Nat->α}(h:bA n p=bA n q):∀i,i<n->p i=q i:=λi O=>by
 have F:=ki p O;rw[h,ki q O] at F;exact (nu F).symm
def dt.uniq {a b:dt}{m:Mem}(h:a.fj m)(cn:b.fj m):a=b:=by
 obtain⟨cz,cY,eA,eQ,p1,u7⟩:=a;obtain⟨cQ,dN,gy,g3,aDx,anX⟩:=b;obtain⟨ar,c2,c3,c4,HT,HU⟩:=h;obtain⟨d1,d2,d3,d4,d5,d6⟩:=cn;dsimp only at *;rw[HT,cF,fq] at d5;obtain⟨rfl,gj⟩:=d5
 have aL:(D cz)=D cQ:=by
  have:=congrArg D gj;rwa [gB,gB] at this
 rw[<-aL] at gj d1 d2 d3 d4 d6
 have bb:u7=anX:=Qu (d:=0) c4 d4 λi O=>by
  have:=aoT gj i O;rw[M.ptr.injEq] at this;exact this.2.1
 subst bb
 have ad:∀i,i<(D cz)->dt.hh ⟨cz,cY,eA,eQ,p1,u7⟩ i=dt.hh ⟨cQ,dN,gy,g3,p1,u7⟩ i:=λi O=>by
  have F:=HU i O;rw[d6 i O,cF,fq] at F;exact (aEw (dt.zy _ _) (dt.zy _ _) F.2).symm
 simp only[dt.hh,pr.mk.injEq] at ad;have au:cz=cQ:=Qu (d:=0) rfl aL.symm λi O=>(ad i O).1;subst au
 have aC:cY=dN:=by
  rw[ar,d1];exact anD λi O k I=>aoT (ad i O).2.1 k I
 have bN:eA=gy:=Qu (d:=10) c2 d2 λi O=>(ad i O).2.2.2.1;have bK:eQ=g3:=Qu (d:=false) c3 d3 λi O=>(ad i O).2.2.2.2;rw[aC,bN,bK]
def dt.fj.aF {a:dt}{mem m:Mem}{n:Nat}(h:a.fj mem)(aH:df n mem m)(aL:n≠228)(bu:(D a.cash)<=6):a.fj m :=
 ⟨h.can,h.aJ,h.pl,h.VA,by rw[aH 228023 (by omega)];exact h.row,λi O=>by rw[aH (228500+i) (by omega)];exact h.dU i O⟩
def aoU:bJ:=b5 6 1 [.t 2] (Q [cx 2 false] (Q [E 3 0,dv 4 NH 3,fb 5 4,E 2 5] .ret))
def aoV:bJ:=b5 9 1 [.t 2] (Q [cx 2 false] (Q [E 3 0,a3 4 .geq 3 0,E 5 4,eg 6 5 0,k7 7 5 .leq 6 1000000000000000,gr 8 5 7,E 2 8] .ret))
def aoW:bJ:=b5 42 2 [.t 3] (Q [c0 2 252002 0,cx 3 false] (Q [aD 4 0 2,aA 5 1 4,a3 6 .lss 5 0,E 7 6,ez 8 7 0 2,dG 9 7 1 8,dG 10 7 1 1,pN 11 7 10,rm 12 7 .geq 9 11,cv 13 7 12,E 14 13,ez 15 14 1 2,dG 16 14 1 15,e3 17 14 (.bin .lss (.t 16) (.c (.H (.int .i64 (-1))))),cv 18 14 17,E 19 18,ez 20 19 1 2,dG 21 19 1 20,dG 22 19 1 1,pN 23 19 22,rm 24 19 .geq 21 23,cv 25 19 24,E 26 25,ez 27 26 2 2,dG 28 26 1 27,fc 29 26 .lss 28 0,cv 30 26 29,E 31 30,ez 32 31 2 2,dG 33 31 1 32,fc 34 31 .geq 33 10,cv 35 31 34,E 36 35,ez 37 36 3 2,dG 38 36 1 37,e3 39 36 (.call NH [.t 38]),ha 40 36 39,cv 41 36 40,E 3 41] .ret))
abbrev Fq:Int×Int×Int->List Data:=λ(x,a,b)=>[.int .i64 x,.int .i64 a,.int .i64 b]
def Qv:=bV Fq λ(x,a,b)=>some (.same (.bool (decide (a<=x)&&decide (x<=b))))
def ado:∀a b,Fq a=Fq b->a=b:=by
  rintro⟨fx,cz,cQ⟩ ⟨fe,cY,dN⟩ h;simp only[bj,Data.int.injEq,Data.agg.injEq,Data.ax.injEq,Data.bool.injEq,Data.str.injEq,Data.ptr.injEq,Data.dj.injEq,fq,true_and,and_true] at h ⊢
  first|exact h|simpa [Ad,and_assoc] using h|grind
@[go_sem] def aP4 (x a b):=pK Qv rfl ado (x,a,b) rfl
def aEz (T:ba):WF T ajj Qv:=by
 refine cp λ(x,a,b)=>⟨rfl,ck ?_⟩;simp only[ajj,Fq,cd];rcases ar:decide (a<=x)
 ·have c2:decide (x>=a)=false:=ar;refine ai ?_;repeat' (intro h<;>simp only[h,go_sem,go_sem_proc,ar,c2,e9]<;>try refine ag ?_ ?_)
 ·have c2:decide (x>=a)=true:=ar;refine ai ?_;repeat' (intro h<;>simp only[h,go_sem,go_sem_proc,ar,c2,fN]<;>try refine ag ?_ ?_)
abbrev VB:Int->List Data:=λ(x:Int)=>[.int .i64 x,.ptr [.fn DV []]]
def VC:=bV VB λ(x:Int)=>some (.same (.bool (!jc x)))
def aEA:∀a b,VB a=VB b->a=b:=by
  intro fx fe h;simp only[bj,Data.int.injEq,Data.agg.injEq,Data.ax.injEq,Data.bool.injEq,Data.str.injEq,Data.ptr.injEq,Data.dj.injEq,fq,true_and,and_true] at h ⊢
  first|exact h|simpa [Ad,and_assoc] using h|grind
@[go_sem] def aEB (x):=pK VC rfl aEA x rfl
def aEC (T:ba)(adp:T DV=aK Qv):WF T ajk VC:=by
 refine cp λx=>⟨rfl,ck ?_⟩;simp only[ajk,VB,cd];unfold jc;refine ai ?_;repeat' (intro h<;>simp only[h,go_sem,go_sem_proc,adp]<;>try refine ag ?_ ?_)
abbrev VD:Int×Int×Int×Int×Int->List Data:=λ(a,b,k,x,n)=>[.agg [.int .i64 a,.int .i64 b,.int .i64 k,.int .i64 x],.ptr [.fn DV []],.ptr [.int .i64 n]]
def VE:=bV VD λ(a,b,k,x,n)=>cu (0<=n/\n<=1000000) (.same (.bool (!kg n (a,b,k,x))))
def aED:∀a b,VD a=VD b->a=b:=by
  rintro⟨cz,cQ,cy,fx,hB⟩ ⟨cY,dN,dw,fe,ib⟩ h;simp only[bj,Data.int.injEq,Data.agg.injEq,Data.ax.injEq,Data.bool.injEq,Data.str.injEq,Data.ptr.injEq,Data.dj.injEq,fq,true_and,and_true] at h ⊢
  first|exact h|simpa [Ad,and_assoc] using h|grind
@[go_sem] def aEE (a b k x n):=cH VE rfl aED (a,b,k,x,n) rfl
def aEF (T:ba)(adp:T DV=aK Qv):WF T ajl VE:=by
 refine cp λ(a,b,k,x,n)=>cT λJ=>⟨rfl,ck ?_⟩;simp only[ajl,VD,cd];have w:IntKind.i64.wrap (n-1)=n-1:=by rw[eY _]
 have e:kg n (a,b,k,x)=((decide (0<=a)&&decide (a<=n-1))&&((decide (-1<=b)&&decide (b<=n-1))&&((decide (0<=k)&&decide (k<=9))&&(decide (0<=x)&&decide (x<=1000000000000000))))):=by
  rw[Bool.eq_iff_iff,Fc];simp only[fC,decide_eq_true_eq];omega
 rw[e];rcases ar:(decide (0<=a)&&decide (a<=n-1))<;>rcases c2:(decide (-1<=b)&&decide (b<=n-1))<;>rcases c3:(decide (0<=k)&&decide (k<=9))<;>rcases c4:(decide (0<=x)&&decide (x<=1000000000000000))
 all_goals
      refine ai ?_;repeat' (intro h<;>simp only[h,go_sem,go_sem_proc,adp,w,ar,c2,c3,c4]<;>try refine ag ?_ ?_)
structure dt.Lg (a:dt):Prop where
 wF:fX a.cash a.cs
 du:∀x∈a.aJ,0<=x/\x<=10
def dt.Qw {a:dt}{m:Mem}(h:a.fj m)(aH:a.Lg){i:Nat}(O:i<D a.cash):a.aJ.getD i 10=(a9 a.aJ i:Int)/\a9 a.aJ i<=10:=by
 have aq:=h.aJ
 have:a.aJ.getD i 10∈a.aJ:=by
  rw[eD,bh (by omega)];exact mh _
 have:=aH.du _ this;unfold a9;omega
structure adq (x:dt×Nat) (mem:Mem):Prop where
 at_:x.1.fj mem
 no:kh 255 mem
 Lh:x.1.Lg
 lt:x.2<x.1.cash.length
 f10:a9 x.1.aJ x.2<10
 S:0<(af x.1.cash x.1.cs).S x.2 (a9 x.1.aJ x.2)
def VF (x:dt×Nat):Data:=.dj [.ax ((c8 x.1.cash.length λi=>(af x.1.cash x.1.cs).W (a9 x.1.aJ) x.2 i).map az),.bool true]
def VG:List M->Mem->Option Data:=zq (λ(x:dt×Nat) args mem=>args=[.ptr (228500+x.2) (x.1.gs.getD x.2 0) 0,.H (.int .i64 x.1.cash.length)]/\adq x mem) VF
def aEG (a:dt)(k:Nat)(mem:Mem)(h:adq (a,k) mem):VG [.ptr (228500+k) (a.gs.getD k 0) 0,.H (.int .i64 (D a.cash))] mem=some (VF (a,k)):=by
 refine HW (a:=(a,k)) ?_ ⟨rfl,h⟩;rintro⟨a,i⟩ ⟨b,j⟩ args mem ⟨au,aC⟩ ⟨bN,bK⟩;obtain rfl:=dt.uniq aC.at_ bK.at_;rw[au] at bN;simp only[bj,M.ptr.injEq,M.H.injEq,Data.int.injEq,true_and,and_true] at bN;have F:228500+i=228500+j:=bN.1;have:i=j:=by omega
 rw[this]
def aEH (N:Nat)(aO:bz):(ef N (az aO)).flatten.map M.H=aU az (ef N aO):=by
 unfold aU;rw[KC,List.map_flatten,KC]
def aEI (T:ba)(my:T pM=aK u4)(aEJ:T YA=aK Ud)(PZ:T Gm=aK J3)(Cu:T DO=aK Eo)(a:dt)(k:Nat)(mem:Mem)(h:adq (a,k) mem):
  wp T Tn.body (oJ Tn.res λm mem'=>cV 6 emp m=some (VF (a,k))/\df 255 mem mem') ⟨kq [.ptr (228500+k) (a.gs.getD k 0) 0,.H (.int .i64 (D a.cash))],mem⟩:=by
 obtain⟨bH,gl,tT,I,u9,cZ⟩:=h;dsimp only at *;obtain⟨R,du⟩:=tT;have aL:=R.jV;have uI:=bH.dU k I;have tC:=(dt.Qw bH ⟨R,du⟩ I).1;have cw:=a.zy k;have hlen:=Fp cw;have p6:=Qt cw;rw[show (a.hh k).f=(a9 a.aJ k:Int) from tC] at p6;have kJ:=aoP (x:=a.hh k) (k:=a9 a.aJ k) (l:=dx a.cs k (a9 a.aJ k)) (ki _ u9);have C5:=Qs cw (k:=a9 a.aJ k) (z:=bT a.cs k (a9 a.aJ k:Nat)) (ki _ (by omega));have aEK:=Qs cw (k:=a9 a.aJ k+1) (z:=bT a.cs k (a9 a.aJ k+1:Nat)) (ki _ (by omega));have aaa:∀j,228500+k≠255000+j:=λj=>by omega
 generalize gi (a.hh k)=DC at *;have adr:=Fa 0 H0;have a2:c8 (D a.cash) (lh (af a.cash a.cs) [])=ef (D a.cash) (av ((0:Int):Rat)):=(K0 xH λj ae=>by rw[ac0,Y ae,aEr];rfl).symm;generalize fO:dx a.cs k (a9 a.aJ k)=c7 at *;refine ra ?_;simp only[Tn];have wI:(228500+k)/1000≠255:=by omega
 have m6:mem 255017=none:=gl 255017 (by decide);have gQ:=λc (J:c∈c7)=>HS.1 (fO ▸ J:c∈dx a.cs k (a9 a.aJ k));have aoX:=λc (J:c∈c7)=>(Vz R cZ (fO ▸ J:c∈dx a.cs k (a9 a.aJ k))).2.2;have aoY:=λl i (aq:∃gb,c7=l++gb)=>aEt R cZ (l:=l) (by rw[fO];exact aq) i;have aoZ:=λi=>aEs R.right (a9 a.aJ) k i;rw[fO] at aoZ
 have aP5:(D c7)<=12:=by
  have F:=p2 (λc:aB=>c.1==(k:Int)&&c.2.2.1==(a9 a.aJ k:Int)) a.cs;have G:=R.wE;rw[<-fO];unfold dx;omega
 have aod:(0:Int)<hg a.cs k (a9 a.aJ k):=by
  have F:=KU R.right k (a9 a.aJ k);rw[<-F] at cZ;have:(0:Int)<bT a.cs k (a9 a.aJ k+1:Nat)-bT a.cs k (a9 a.aJ k):=by exact_mod_cast cZ
  exact this
 have aEL:hg a.cs k (a9 a.aJ k)=bT a.cs k (a9 a.aJ k+1:Nat)-bT a.cs k (a9 a.aJ k:Nat):=rfl;have aal:=R.upto k (a9 a.aJ k+1:Nat);have Hb:=R.upto k (a9 a.aJ k:Nat);have aEM:=(hL.1 R.right).2.2.2;generalize db:228500+k=eO at *;have p7:∀j,eO≠255000+j:=λj=>by omega
 have VH:(eO=255009)=False:=eq_false (p7 9);have aEN:(eO=255010)=False:=eq_false (p7 10);have aEO:(eO=255012)=False:=eq_false (p7 12);have ao0:(eO=255017)=False:=eq_false (p7 17);have Li:(eO==255009)=false:=beq_eq_false_iff_ne.2 (p7 9);have aEP:(eO==255010)=false:=beq_eq_false_iff_ne.2 (p7 10);have aEQ:(eO==255012)=false:=beq_eq_false_iff_ne.2 (p7 12);have aER:(eO==255017)=false:=beq_eq_false_iff_ne.2 (p7 17);have d9:(255009==eO)=false:=beq_eq_false_iff_ne.2 (p7 9).symm;have d10:(255010==eO)=false:=beq_eq_false_iff_ne.2 (p7 10).symm;have d12:(255012==eO)=false:=beq_eq_false_iff_ne.2 (p7 12).symm;have d17:(255017==eO)=false:=beq_eq_false_iff_ne.2 (p7 17).symm;have eN:a9 a.aJ k+1<11:=by omega
 have aw:a9 a.aJ k<11:=by omega
 have cb:(1+a9 a.aJ k+1<=24)=True:=eq_true (by omega);have cR:(11+a9 a.aJ k+1<=24)=True:=eq_true (by omega);have aES:(11+(a9 a.aJ k+1)+1<=24)=True:=eq_true (by omega);have wf:IntKind.i64.wrap ((a9 a.aJ k:Int)+1)=((a9 a.aJ k+1:Nat):Int):=by rw[eY _];omega
 have mi:=uI;generalize aP6:bT a.cs k (a9 a.aJ k+1:Nat)=ao1 at *;generalize aP7:bT a.cs k (a9 a.aJ k:Nat)=aET at *;generalize aP8:a9 a.aJ k=F0 at *;generalize acV:av ((0:Int):Rat)=xB at *;obtain⟨⟨fB,gN⟩,⟨mR,tO⟩⟩:=xB;have ads:=aAF fB gN mR tO (D a.cash) (by omega);have j1:=aEH (D a.cash) ((fB,gN),(mR,tO));simp only[az] at adr ads j1;have ew:=aoN c7;simp only[go_sem,go_sem_proc] at ew;simp only[go_sem,go_sem_proc,my,adr,aEJ,ads,j1,uI,hlen,u9,p6,kJ,ao0,cb,m6,dS,dZ,ew,xH]
 refine dd [0,6,26,27] [] (λ(j:Nat) tm m=>j<=D c7/\tm 28=.H (.int .i64 j)/\tm 7=.H (.bool true)/\m 255017=some (0,aU az (c8 (D a.cash) (lh (af a.cash a.cs) (c7.take j))))/\df 255 mem m) (λj=>D c7-j) 0 (by
  refine⟨by omega,rfl,rfl,?_,(df.refl _ _).dK (by decide)⟩
  rw[nw,a2];simp[a5,m6,gk]) ?_
 intro vs ms aQ aM;simp only[go_sem,go_sem_proc] at aQ aM;subst aQ aM;clear adr ads j1 uI;rintro j tm m I-⟨ae,x4,bS,oi,bg⟩;simp only[go_sem,go_sem_proc,bj] at I;obtain⟨bx,bt,oj,p8⟩:=I;have ad:=(bg eO wI).trans mi;rcases dn (j<D c7) with ah|bW
 ·have d1:decide ((j:Int)<(D c7:Int))=true:=cX;have bF:=eI (i:=j) (by omega);obtain⟨⟨ar,c2,c3,c4⟩,L⟩:∃c,c7[j]?=some c:=⟨_,bh ah⟩;have EI:=dy L;have kP:=aEM _ (gQ _ EI).1;dsimp only at kP;have pW:=aoO L;simp only[go_sem,go_sem_proc] at pW;have hb:c7.take (j+1)=c7.take j++[(ar,c2,c3,c4)]:=by rw[hZ,L];rfl
  rcases q:decide (c2<0)
  ·have Bv:0<=c2:=by have:=of_decide_eq_false q;omega
   obtain⟨t,rfl⟩:∃t:Nat,c2=(t:Int):=⟨c2.toNat,by omega⟩
   have hw:=aoX _ EI;dsimp only at hw;have iO:=an1 (p:=c4) (q:=hg a.cs k F0) (mQ (by omega) (by omega)) (mQ (by omega) (by omega)) (by omega);rw[<-hw] at iO;have adt:=axC c4 (hg a.cs k F0) ⟨mQ (by omega) (by omega),mQ (by omega) (by omega)⟩;rw[iO] at adt;have fB:=aoY (c7.take j) t ⟨c7.drop j,(DM j c7).symm⟩;have gN:=an8 R (gQ _ EI).1;have pa:=anQ (hU fB (by omega)) (hU gN (by omega)) (xQ fB gN (by omega))
   have zu:c8 (D a.cash) (lh (af a.cash a.cs) (c7.take (j+1)))=(c8 (D a.cash) (lh (af a.cash a.cs) (c7.take j))).set t (av (lh (af a.cash a.cs) (c7.take j) t+(af a.cash a.cs).w (bP (ar,(t:Int),c3,c4)))):=by
    rw[acW];refine xS λi _=>?_;rw[hb,aoM]
    by_cases O:i=t
    ·rw[Y O,Y (by dsimp only;omega),O]
    ·rw[aa O,aa (by dsimp only;omega),rH]
   have aEU:IntKind.i64.wrap (ao1-aET)=hg a.cs k F0:=by rw[wrap64 _ (by omega) (by omega),aEL]
   have OP:(c8 (D a.cash) (lh (af a.cash a.cs) (c7.take j))).length=D a.cash:=qT _ _;have acZ:=rL (N:=D a.cash) (lh (af a.cash a.cs) (c7.take j)) (k:=t) (by omega);clear fB gN aoY aoX iO hw;generalize av (lh (af a.cash a.cs) (c7.take j) t+(af a.cash a.cs).w (bP (ar,(t:Int),c3,c4)))=F1 at *;generalize av (lh (af a.cash a.cs) (c7.take j) t)=F2 at *;generalize av ((af a.cash a.cs).w (bP (ar,(t:Int),c3,c4)))=F3 at *;generalize c8 (D a.cash) (lh (af a.cash a.cs) (c7.take j))=bC at *;obtain⟨⟨cz,cY⟩,⟨eA,eQ⟩⟩:=F1;obtain⟨⟨f1,f2⟩,⟨f3,f4⟩⟩:=F2;obtain⟨⟨cU,dc⟩,⟨hj,kV⟩⟩:=F3;have t1:=Hq acZ;have t2:=AF (l:=bC) (k:=t) (by omega);have t3:=Hr (l:=bC) (k:=t) (by omega) cz cY eA eQ;have MY:t<D a.cash:=by omega
   simp only[az,dT] at adt pa;refine ai ?_;repeat' (intro (ao:_=_)<;>simp only[ao,go_sem,go_sem_proc,PZ,Cu,bx,bt,bS,oj,p8,x4,ad,oi,pW,hlen,p6,C5,aEK,wf,aEU,d1,bF,q,adt,pa,t1,t2,t3,MY,u9,eN,aw,cb,cR,aES,VH,aEN,aEO,ao0,Li,aEP,aEQ,aER,d9,d10,d12,d17,bL,dS,dZ,beq_self_eq_true]<;>try refine ag ?_ ?_)
   refine⟨j+1,by omega,by omega,rfl,by rw[zu],by repeat first|exact bg|refine df.dK ?_ (by decide)⟩
  ·have Bv:c2<0:=of_decide_eq_true q
   have zu:c8 (D a.cash) (lh (af a.cash a.cs) (c7.take (j+1)))=c8 (D a.cash) (lh (af a.cash a.cs) (c7.take j)):=xS λi _=>by
    rw[hb,aoM,aa (by dsimp only;omega),rH]
   refine ai ?_;repeat' (intro (ao:_=_)<;>simp only[ao,go_sem,go_sem_proc,bx,bt,bS,oj,p8,x4,ad,oi,pW,d1,bF,q,bL,dZ]<;>try refine ag ?_ ?_)
   refine⟨j+1,by omega,by omega,rfl,by rw[zu],by repeat first|exact bg|refine df.dK ?_ (by decide)⟩
 ·have d1:decide ((j:Int)<(D c7:Int))=false:=b7;rw[dD (by omega)] at oi;have zu:c8 (D a.cash) (lh (af a.cash a.cs) c7)=c8 (D a.cash) λi=>(af a.cash a.cs).W (a9 a.aJ) k i:=xS λi _=>aoZ i;rw[zu] at oi;have j3:(c8 (D a.cash) λi=>(af a.cash a.cs).W (a9 a.aJ) k i).length=D a.cash:=qT _ _;have lg:=λ(K:bc->Prop) (st:bc)=>nB (K:=K) (st:=st) jj 6 255017 0 (c8 (D a.cash) λi=>(af a.cash a.cs).W (a9 a.aJ) k i);rw[j3] at lg;refine ai ?_;repeat' (intro (ao:_=_)<;>simp only[ao,go_sem,go_sem_proc,bx,bt,bS,oj,p8,x4,ad,oi,d1,lg]<;>try refine ag ?_ ?_)
  exact⟨_,rfl,rfl,by repeat first|exact bg|refine df.dK ?_ (by decide)|refine df.kill ?_ (by decide)⟩
def ao2 (N:Nat)(x:Nat->Rat):c8 (N+1) x=c8 N x++[av (x N)]:=by
 unfold c8;rw[rM,kE,kE];rfl
def x5 {l:List M}{k:Nat}{y:M}(h:l[k]?=some y):gT 1 (hl k l)=[y]:=by
 have:=zr (f:=id) h;rwa [List.map_id] at this
def va (n:Nat)(W:Nat->Nat->Rat)(k:Nat):List Data:=[.ax ((c8 n (W k)).map az)]
def aEV (T:ba)(my:T pM=aK u4)(nL:T xb=aK yU){K:eK->bc->Prop}{kk:List fT}(ep:Mem)(n:Nat)(aL:n<=60)(p:List Nat)(aE:(D p)<=60)(W:Nat->Nat->Rat)(r i:Nat)(O:i<n)(z5:∀k,k<(D p)->e0 54 (W (p.getD k 0) i))(v0 v1 v10 v20 ao3 ao4:M)(bs nQ:Nat)(ar c2 c3 c4:M)(ao5:Option (Nat×List M))(tm:Nat->M)(m:Mem)
  (bx:tm 0=v0) (au:tm 1=v1) (aC:tm 2=.H (.ax (p.map h4))) (bN:tm 3=.H (.ax (p.map (va n W)))) (gg:tm 10=v10) (lD:tm 11=.H (.int .i64 r)) (gf:tm 12=.H (.int .i64 i)) (ij:tm 13=.ptr 256013 bs 0) (p9:tm 20=v20) (v3:tm 21=ao3) (ts:tm 22=ao4) (nb:tm 50=.H (.int .i64 (D p))) (oU:tm 51=.H (.int .i64 0)) (Lj:m 256013=some (bs,[.ref 256076 nQ 4 0 0,ar,c2,c3,c4])) (oQ:m 256076=some (nQ,[])) (H7:m 256082=ao5) (bg:df 256 ep m)
  (db:∀tm' m' Qi,tm' 0=v0->tm' 1=v1->tm' 2=.H (.ax (p.map h4))->tm' 3=.H (.ax (p.map (va n W)))->tm' 10=v10->tm' 13=.ptr 256013 bs 0->tm' 20=v20->tm' 21=ao3->tm' 22=ao4->m' 256013=some (bs,[.ref 256076 Qi 4 0 (D p),ar,c2,c3,c4])->m' 256076=some (Qi,aU az (c8 (D p) λk=>(if r=k then 1 else 0)-W (p.getD k 0) i))->m' 256082=ao5->df 256 ep m'->cg T K kk (.exit 2) ⟨tm',m'⟩) :
  wp T (J7.body.sub [1,1,0,1,0,0,0,1,1,0,0,1,1,0,1,0]) (cg T K kk) ⟨tm,m⟩:=by
 simp only[J7,er.sub];refine dd [0,1,2,3,10,11,12,13,20,21,22,50] [256082] (λ((k,g):Nat×Nat) tm m=>k<=D p/\tm 51=.H (.int .i64 k)/\m 256013=some (bs,[.ref 256076 g 4 0 k,ar,c2,c3,c4])/\m 256076=some (g,aU az (c8 k λk=>(if r=k then 1 else 0)-W (p.getD k 0) i))/\df 256 ep m) (λ(k,_)=>D p-k) (0,nQ) (by refine⟨by omega,oU,Lj,oQ,bg⟩) ?_;intro vs ms aQ aM;simp only[go_sem,go_sem_proc,bx,au,aC,bN,gg,lD,gf,ij,p9,v3,ts,nb,H7] at aQ aM;subst aQ aM;clear bx au aC bN gg lD gf ij p9 v3 ts nb oU Lj oQ H7 bg tm m;rintro⟨k,g⟩ tm m I hm ⟨AP,oU,Lj,oQ,bg⟩;simp only[go_sem,go_sem_proc,bj] at I hm;obtain⟨bx,au,aC,bN,gg,lD,gf,ij,p9,v3,ts,nb⟩:=I;rcases dn (k<D p) with ah|bW
 ·have d1:decide ((k:Int)<(D p:Int))=true:=cX;have bF:=eI (i:=k) (by omega);obtain⟨x6,L⟩:∃c,p[k]?=some c:=⟨_,bh ah⟩;have iF:p.getD k 0=x6:=by rw[eD,L];rfl
  have Qx:=z5 k ah;have aQ:=ao2 k λk=>(if r=k then 1 else 0)-W (p.getD k 0) i;have cm:(c8 k λk=>(if r=k then 1 else 0)-W (p.getD k 0) i).length=k:=qT _ _;have c9:=λ(aO:bz) cs jD=>kx jj v8 256076 g 64 (c8 k λk=>(if r=k then 1 else 0)-W (p.getD k 0) i) aO (cs:=cs) jD (by omega) (by omega);simp only[cm] at c9;rw[iF] at Qx aQ;have bb:=rL (W x6) O;generalize c8 k (λk=>(if r=k then 1 else 0)-W (p.getD k 0) i)=V at *;generalize m3:c8 (k+1) (λk=>(if r=k then 1 else 0)-W (p.getD k 0) i)=V2 at *;clear db z5;have key:∀o:Int,(o=0\/o=1)->(if r=k then (1:Rat) else 0)=(o:Rat)->True:=λ_ _ _=>trivial;rcases q:((k:Int)==(r:Int))
  ·have iH:¬ r=k:=by have:=ne_of_beq_false q;omega
   have hw:=Fa 0 H0;have R:=U9 (p5 H0) (hU Qx (by omega)) (xQ (A1 (z:=0) (b:=1) (by decide)) (wy Qx) (by omega));rw[aa iH,show (0:Rat)=((0:Int):Rat) from rfl] at aQ;generalize av ((0:Int):Rat)=xB at *;generalize av (W x6 i)=eZ at *;generalize av (((0:Int):Rat)-W x6 i)=b2 at *;obtain⟨⟨fB,gN⟩,⟨mR,tO⟩⟩:=xB;obtain⟨⟨nD,o5⟩,⟨wq,wu⟩⟩:=eZ;obtain⟨⟨fx,fe⟩,⟨hH,iE⟩⟩:=b2;have ng:=c9 ((fx,fe),(hH,iE)) _ rfl;rw[<-aQ] at ng;simp only[az,eE,bY] at ng hw R;refine ai ?_;repeat' (intro h<;>simp only[h,go_sem,go_sem_proc,my,nL,bx,au,aC,bN,gg,lD,gf,ij,p9,v3,ts,nb,oU,Lj,oQ,hm,d1,bF,q,L,va,bb,hw,R,ng,az,al,bm,bne,beq_self_eq_true,b3,lB]<;>try refine ag ?_ ?_)
   exact⟨(k+1,g+1),by dsimp only;omega,by dsimp only;omega,rfl,rfl,by rw[<-m3],by repeat first|exact bg|refine df.dK ?_ (by decide)⟩
  ·have iH:r=k:=by have:=eq_of_beq q;omega
   have hw:=Fa 1 Qg;have R:=U9 (p5 Qg) (hU Qx (by omega)) (xQ (A1 (z:=1) (b:=1) (by decide)) (wy Qx) (by omega));rw[Y iH,show (1:Rat)=((1:Int):Rat) from rfl] at aQ;generalize av ((1:Int):Rat)=xB at *;generalize av (W x6 i)=eZ at *;generalize av (((1:Int):Rat)-W x6 i)=b2 at *;obtain⟨⟨fB,gN⟩,⟨mR,tO⟩⟩:=xB;obtain⟨⟨nD,o5⟩,⟨wq,wu⟩⟩:=eZ;obtain⟨⟨fx,fe⟩,⟨hH,iE⟩⟩:=b2;have ng:=c9 ((fx,fe),(hH,iE)) _ rfl;rw[<-aQ] at ng;simp only[az,eE,bY] at ng hw R;refine ai ?_;repeat' (intro h<;>simp only[h,go_sem,go_sem_proc,my,nL,bx,au,aC,bN,gg,lD,gf,ij,p9,v3,ts,nb,oU,Lj,oQ,hm,d1,bF,q,L,va,bb,hw,R,ng,az,al,bm,bne,beq_self_eq_true,b3,lB]<;>try refine ag ?_ ?_)
   exact⟨(k+1,g+1),by dsimp only;omega,by dsimp only;omega,rfl,rfl,by rw[<-m3],by repeat first|exact bg|refine df.dK ?_ (by decide)⟩
 ·have d1:decide ((k:Int)<(D p:Int))=false:=b7;obtain rfl:k=D p:=by omega
  refine ai ?_;repeat' (intro h<;>simp only[h,go_sem,go_sem_proc,bx,au,aC,bN,gg,lD,gf,ij,p9,v3,ts,nb,oU,d1]<;>try refine ag ?_ ?_)
  refine db _ _ g ?_ ?_ ?_ ?_ ?_ ?_ ?_ ?_ ?_ Lj oQ hm bg<;>simp only[dC,cE,if_false,bx,au,aC,bN,gg,ij,p9,v3,ts]
structure adu (a:dt) (mem:Mem):Prop where
 at_:a.fj mem
 no:kh 256 mem
 Lh:a.Lg
 kf:sF (af a.cash a.cs) (a9 a.aJ) (dB a.P)
def dt.p (a:dt):List Nat:=dh (dB a.P) (D a.cash)
def VI (a:dt):List M:=[.ref 228023 a.g 1 0 (D a.cash),.H (.ax ((bA (D a.cash) λi=>kH a.cash a.cs (a9 a.aJ) i).map aI)),.H (.ax (a.p.map h4)),.H (.ax (a.p.map (va (D a.cash) λk i=>(af a.cash a.cs).W (a9 a.aJ) k i)))]
def dt.xs (a:dt):List bz:=c8 (D a.p) λk=>(af a.cash a.cs).e5 (a9 a.aJ) (dB a.P) (a.p.getD k 0)-(af a.cash a.cs).U (a.p.getD k 0) (a9 a.aJ (a.p.getD k 0))
def VJ (a:dt):Data:=.dj [.ax (a.xs.map az),.bool true]
def VK:List M->Mem->Option Data:=zq (λ(a:dt) args mem=>args=VI a/\adu a mem) VJ
def aEW (a:dt)(mem:Mem)(h:adu a mem):VK (VI a) mem=some (VJ a):=by
 refine HW (a:=a) ?_ ⟨rfl,h⟩;rintro a b args mem ⟨au,aC⟩ ⟨bN,bK⟩;rw[dt.uniq aC.at_ bK.at_]
def aEX (T:ba)(my:T pM=aK u4)(nL:T xb=aK yU)(aEY:T Yw=aK T8)(a:dt)(mem:Mem)(aZ:adu a mem):
  wp T J7.body (oJ J7.res λm mem'=>cV 6 emp m=some (VJ a)/\df 256 mem mem') ⟨kq (VI a),mem⟩:=by
 obtain⟨bH,gl,tT,iK⟩:=aZ;have tC:=λi=>dt.Qw bH tT (i:=i);obtain⟨R,du⟩:=tT;have aL:=R.jV;have pI:=λk=>zn (P:=dB a.P) (n:=D a.cash) (k:=k);have UW:=aCW R iK;have Qy:=acx R iK.ph (dh (dB a.P) (D a.cash)) (λk I=>⟨(zn I).2,(zn I).1⟩) λi j O ae=>acz O ae;have aEZ:=λk (I:dB a.P k) i=>(UU R iK I i).1
 have aP9:(dh (dB a.P) (D a.cash)).length<=6:=by
  unfold dh;exact eR (p2 _ _) (by rw[td];exact aL)
 have aE0:mem 256082=none:=gl 256082 (by decide);unfold VI VJ dt.xs dt.p;generalize aE:dh (dB a.P) (D a.cash)=p at *;generalize dX:(af a.cash a.cs).wD (a9 a.aJ) p=A at *;generalize aE1:(bA (D a.cash) λi=>kH a.cash a.cs (a9 a.aJ) i).map aI=ao6 at *;have aE2:∀i,i<(D a.cash)->ao6[i]?=some [.int .i64 (kH a.cash a.cs (a9 a.aJ) i)]:=λi O=>by rw[<-aE1,bm,ki _ O];rfl
 refine ra ?_;simp only[J7];simp only[go_sem,go_sem_proc,aE0,al];refine dd [0,1,2,3,20,21] [] (λ((r,g):Nat×Nat) tm m=>r<=D p/\tm 22=.H (.int .i64 r)/\tm 10=.ref 256082 g 5 0 r/\m 256082=some (g,aU dQ ((rowsOf (D p) A).take r))/\df 256 mem m) (λ(r,_)=>D p-r) (0,0) (by refine⟨by omega,rfl,rfl,rfl,(df.refl _ _).dK (by decide)⟩) ?_;intro vs ms aQ aM;simp only[go_sem,go_sem_proc,al] at aQ aM;subst aQ aM;rintro⟨r,g⟩ tm m I hm ⟨ao7,ts,gg,H7,bg⟩;simp only[go_sem,go_sem_proc,bj] at I;obtain⟨bx,au,aC,bN,p9,v3⟩:=I;rcases dn (r<D p) with ah|bW
 ·have d1:decide ((r:Int)<(D p:Int))=true:=cX;have bF:=eI (i:=r) (by omega);obtain⟨i,L⟩:∃c,p[r]?=some c:=⟨_,bh ah⟩;have zf:p.getD r 0=i:=by rw[eD,L];rfl
  obtain⟨O,aE3⟩:=pI r ah;rw[zf] at O aE3;obtain⟨tT,u9⟩:=tC i O;have gj:=(bg.at 228023 (by omega)).trans bH.row;have gv:=(bg.at (228500+i) (by omega)).trans (bH.dU i O);have k5:=x5 (ki (λi=>M.ptr (228500+i) (a.gs.getD i 0) 0) O);have cm:(bA (D a.cash) λi=>M.ptr (228500+i) (a.gs.getD i 0) 0).length=D a.cash:=gB _ _;have cw:=a.zy i;have hlen:=Fp cw;have p6:=Qt cw;rw[show (a.hh i).f=(a9 a.aJ i:Int) from tT] at p6;have C5:=Qs cw (k:=a9 a.aJ i) (z:=bT a.cs i (a9 a.aJ i:Nat)) (ki _ (by omega));have da:=aE2 i O;have cQ:=R.steady (a9 a.aJ) i;have dN:=R.upto i (a9 a.aJ i);have aE4:IntKind.i64.wrap (kH a.cash a.cs (a9 a.aJ) i-bT a.cs i (a9 a.aJ i:Nat))=kH a.cash a.cs (a9 a.aJ) i-bT a.cs i (a9 a.aJ i:Nat):=by rw[eY _]
  have hw:=Fa (kH a.cash a.cs (a9 a.aJ) i-bT a.cs i (a9 a.aJ i:Nat)) (mQ (by omega) (by omega))
  have aE5:A r (D p)=((kH a.cash a.cs (a9 a.aJ) i-bT a.cs i (a9 a.aJ i:Nat):Int):Rat):=by
   rw[<-dX];unfold Day.wD;rw[aa (by omega),zf,<-HP R.right,<-qS R.right,Rat.intCast_sub]
  have aE6:∀k,k<(D p)->A r k=(if r=k then 1 else 0)-(af a.cash a.cs).W (a9 a.aJ) (p.getD k 0) i:=λk I=>by
   rw[<-dX];unfold Day.wD;rw[Y I,zf]
  have eN:i+1<=D a.cash:=by omega
  have aw:a9 a.aJ i<11:=by omega
  have cb:(11+a9 a.aJ i+1<=24)=True:=eq_true (by omega);rw[<-aE5] at hw;generalize wI:228500+i=eO at *;generalize gi (a.hh i)=DC at *;generalize (bA (D a.cash) λi=>M.ptr (228500+i) (a.gs.getD i 0) 0)=zz at *;generalize kH a.cash a.cs (a9 a.aJ) i=S1 at *;generalize bT a.cs i (a9 a.aJ i:Nat)=ao1 at *;generalize a9 a.aJ i=F0 at *;generalize gx:av (A r (D p))=eZ at *;obtain⟨⟨nD,o5⟩,⟨wq,wu⟩⟩:=eZ;simp only[az] at hw;have aE7:(eO==256013)=false:=beq_eq_false_iff_ne.2 (by omega);have aE8:(256013==eO)=false:=beq_eq_false_iff_ne.2 (by omega);have aE9:(eO=256013)=False:=eq_false (by omega);simp only[go_sem,go_sem_proc,my,bx,au,aC,bN,gg,p9,v3,ts,gj,gv,k5,cm,hlen,p6,C5,da,aE4,hw,L,d1,bF,O,eN,aw,cb,aE7,aE8,aE9,dS,h4,dZ,al,bm];refine Qc (kc:=256013) (g:=gk (m 256013)) (off:=0) (cs:=[.nil,.H (.int .i64 nD),.H (.ax (o5.map aI)),.H (.int .i64 wq),.H (.ax (wu.map aI))]) ?_ ?_ rfl (by decide) ?_
  ·simp only[go_sem,go_sem_proc]
  ·simp[a5]
  simp only[go_sem,go_sem_proc,aC,al,lB];refine aEV T my nL mem (D a.cash) (by omega) p (by omega) (λk i=>(af a.cash a.cs).W (a9 a.aJ) k i) r i O (λk I=>aEZ _ (pI k I).2 i) (.ref 228023 a.g 1 0 (D a.cash)) (.H (.ax ao6)) (.ref 256082 g 5 0 r) (.H (.ax (p.map h4))) (.H (.int .i64 (D p))) (.H (.int .i64 r)) (gk (m 256013)) (gk (m 256076)) (.H (.int .i64 nD)) (.H (.ax (o5.map aI))) (.H (.int .i64 wq)) (.H (.ax (wu.map aI))) (some (g,aU dQ ((rowsOf (D p) A).take r))) _ _ ?_ ?_ ?_ ?_ ?_ ?_ ?_ ?_ ?_ ?_ ?_ ?_ ?_ ?_ ?_ ?_ ?_ ?_
  ·simp only[dC,cE,if_false];exact bx
  ·simp only[dC,cE,if_false];exact au
  ·simp only[dC,cE,if_false];exact aC
  ·simp only[dC,cE,if_false];exact bN
  ·simp only[dC,cE,if_false];exact gg
  ·simp only[dC,cE,if_false,if_true]
  ·simp only[dC,cE,if_false,if_true]
  ·simp only[dC,cE,if_false,if_true]
  ·simp only[dC,cE,if_false];exact p9
  ·simp only[dC,cE,if_false];exact v3
  ·simp only[dC,cE,if_false];exact ts
  ·simp only[dC,cE,if_false,if_true]
  ·simp only[dC,cE,if_false,if_true]
  ·simp[a5]
  ·simp[a5]
  ·simp only[a5,cE,if_false];exact H7
  ·repeat first|exact bg|refine df.dK ?_ (by decide)
  intro tm bU nQ eU cy dw dW o7 xp adv aFa aFb aFc Fg aFd jB;have aFe:(c8 (D p) λk=>(if r=k then 1 else 0)-(af a.cash a.cs).W (a9 a.aJ) (p.getD k 0) i)=c8 (D p) (A r):=xS λk I=>(aE6 k I).symm;rw[aFe] at Fg;clear bx au aC bN gg p9 v3 ts H7 gj gv k5 bg;have c9:=λcs jD=>kx ry aof 256082 g 88 ((rowsOf (D p) A).take r) (c8 (D p) (A r),av (A r (D p))) (cs:=cs) jD;have mK:((rowsOf (D p) A).take r).length=r:=by rw[gP,AW];omega
  have hb:(rowsOf (D p) A).take r++[(c8 (D p) (A r),av (A r (D p)))]=(rowsOf (D p) A).take (r+1):=by
   rw[hZ,acy A ah];rfl
  rw[mK,hb,gx] at c9;have j3:(c8 (D p) (A r)).length=D p:=qT _ _;generalize c8 (D p) (A r)=V at *;have ng:=c9 _ rfl (by omega) (by omega);simp only[az,dQ,eE,bY] at ng;simp only[go_sem,go_sem_proc];refine Vb (kc:=256013) (gc:=gk (m 256013)) (off:=0) (cc:=[.ref 256076 nQ 4 0 (D p),.H (.int .i64 nD),.H (.ax (o5.map aI)),.H (.int .i64 wq),.H (.ax (wu.map aI))]) (k:=256076) (g:=nQ) (sz:=4) (o:=0) (len:=D p) (cs:=aU az V) (d:=.ax (V.map az)) ?_ aFc rfl Fg (Jf _ _) (by decide) ?_ ?_
  ·exact xp
  ·have:=k6 (n:=0) jj Fg;rw[j3] at this;exact this
  refine ai ?_;repeat' (intro h<;>simp only[h,go_sem,go_sem_proc,eU,cy,dw,dW,o7,xp,adv,aFa,aFb,aFd,ng,bF,lB]<;>try refine ag ?_ ?_)
  exact⟨(r+1,g+1),by dsimp only;omega,by dsimp only;omega,rfl,rfl,rfl,by repeat first|exact jB|refine df.dK ?_ (by decide)⟩
 ·have d1:decide ((r:Int)<(D p:Int))=false:=b7;have ao7:r=D p:=by omega
  have hlen:=AW (D p) A;rw[dD (by rw[hlen];omega)] at H7;obtain⟨cQ,dN⟩:=UW;have hT:uQ (rowsOf (D p) A):=ana (by omega) λi O k I=>hU (Qy.sz (by omega) O I) (by omega);have ec:=aAr (rowsOf (D p) A) (D p) hT;rw[cQ] at ec;dsimp only at ec;have lg:=λ(K:bc->Prop) (st:bc)=>nB (K:=K) (st:=st) ry 10 256082 g (rowsOf (D p) A);rw[hlen] at lg;subst ao7;refine ai ?_;repeat' (intro h<;>simp only[h,go_sem,go_sem_proc,aEY,bx,au,aC,bN,gg,p9,v3,ts,H7,d1,lg,ec,al,bne,beq_self_eq_true,b3]<;>try refine ag ?_ ?_)
  exact⟨_,rfl,rfl,by repeat first|exact bg|refine df.dK ?_ (by decide)|refine df.kill ?_ (by decide)⟩
end Go.Mini
namespace Go.Mini
open Classical
def vb (cs:List aB)(f:Nat->Nat)(n:Nat):List aB:=(eM n).flatMap λi=>(eM (f i)).flatMap λk=>dx cs i k
def aFf (aO:Nat->List aB)(r n:Nat)(h:r<=n):((eM n).flatMap λk=>if k<r then aO k else [])=(eM r).flatMap aO:=by
 induction n with
 |zero=>rw[show r=0 by omega];rfl
 |succ n aG =>
  rw[rM,AZ,r8,Fb,hD]
  by_cases X:r=n+1
  ·subst X;rw[Y (by omega),rM,AZ,r8,Fb,hD]
   congr 1
   rw[A0,A0]
   congr 1
   exact ox λk I=>Y (by have:=ig.1 I;omega)
  ·rw[aa (by omega),hD];exact aG (by omega)
def ao8 {α:Type}(l:List α)(aO:α->List aB)(p:aB->Bool):(l.flatMap aO).filter p=l.flatMap λx=>(aO x).filter p:=by
 induction l with
 |nil=>rfl
 |cons a l aG=>rw[r8,r8,zo,aG]
def aFg {cs:List aB}{f:Nat->Nat}{n:Nat}(aH:∀i,i<n->f i<=10):vb cs f n=(dR n cs).filter λc=>decide (c.2.2.1<(f c.1.toNat:Int)):=by
 unfold vb dR;rw[ao8,A0,A0]
 congr 1
 refine ox λi O=>?_;rw[ao8,<-aFf (λk=>dx cs i k) (f i) 10 (aH i (ig.1 O)),A0,A0]
 congr 1
 refine ox λk _=>?_
 by_cases h:k<f i
 ·rw[Y h];refine (List.filter_eq_self.2 λc J=>?_).symm;obtain⟨-,F,G⟩:=HS.1 J;rw[F,G,gK];exact cX
 ·rw[aa h];refine (anx.2 λc J=>?_).symm;obtain⟨-,F,G⟩:=HS.1 J;rw[F,G,gK,decide_eq_true_eq];omega
def aFh (cs:List aB)(p:aB->Prop)[DecidablePred p](aO:aB->Int):cJ (cs.filter λc=>decide (p c)) aO=cJ cs λc=>if p c then aO c else 0:=by
 induction cs with
 |nil=>rfl
 |cons c l aG =>
  by_cases h:p c
  ·rw[xW (by simpa using h)];simp only[cJ,aG,Y h]
  ·rw[zp (by simpa using h),aG];simp only[cJ,aa h];omega
def hv (j:Nat)(c:aB):Int:=if c.2.1=(j:Int) then c.2.2.2 else 0
def ao9 {cash:List Int}{cs:List aB}{f:Nat->Nat}(Qz:cs=dR (D cash) cs)(aH:∀i,i<(D cash)->f i<=10)(j:Nat):kH cash cs f j=cash.getD j 0+cJ (vb cs f (D cash)) (hv j):=by
 rw[aFg aH,<-Qz,aFh cs (λc=>c.2.2.1<(f c.1.toNat:Int))];unfold kH
 congr 1
 refine HL λc _=>?_;unfold hv
 by_cases F:c.2.1=(j:Int)
 ·by_cases G:c.2.2.1<(f c.1.toNat:Int)
  ·rw[Y ⟨F,G⟩,Y G,Y F]
  ·rw[aa λh=>G h.2,aa G]
 ·rw[aa λh=>F h.1,aa F]
  split<;>rfl
def aFi {cs:List aB}{f:Nat->Nat}{n:Nat}{c:aB}(h:c∈vb cs f n):c∈cs:=by
 unfold vb at h;simp only[zY] at h;obtain⟨i,-,k,-,J⟩:=h;exact (HS.1 J).1
def lG (cs:List aB)(f:Nat->Nat)(i k t:Nat):List aB:=vb cs f i++(((eM k).flatMap λk=>dx cs i k)++(dx cs i k).take t)
def aFj (cs:List aB)(f:Nat->Nat):lG cs f 0 0 0=[]:=rfl
def aFk (cs:List aB)(f:Nat->Nat)(i k:Nat):lG cs f i k (dx cs i k).length=lG cs f i (k+1) 0:=by
 unfold lG;rw[pb,nw,hD,rM,AZ,r8,Fb,hD]
def aFl (cs:List aB)(f:Nat->Nat)(i:Nat):lG cs f i (f i) 0=lG cs f (i+1) 0 0:=by
 unfold lG vb;rw[nw,nw,hD,rM,AZ,r8,Fb,hD];simp
def apa (cs:List aB)(f:Nat->Nat)(n:Nat):lG cs f n 0 0=vb cs f n:=by
 unfold lG;simp
def apb (cs:List aB)(f:Nat->Nat){n i k t:Nat}(O:i<n)(I:k<f i):∃l,vb cs f n=lG cs f i k t++l:=by
 have aL:∃m,n=i+1+m:=⟨n-(i+1),by omega⟩
 obtain⟨m,rfl⟩:=aL;have aH:∃r,f i=k+1+r:=⟨f i-(k+1),by omega⟩
 obtain⟨r,X⟩:=aH;have apc:∀(a b:Nat) (aO:Nat->List aB),(eM (a+b)).flatMap aO=(eM a).flatMap aO++((eM b).map (a+·)).flatMap aO:=λa b aO=>by rw[apd,AZ]
 unfold vb lG;rw[apc,rM,AZ,r8,Fb,hD,X,apc,rM,AZ,r8,Fb,hD];refine⟨(dx cs i k).drop t++(((eM r).map (k+1+·)).flatMap (λk=>dx cs i k)++((eM m).map (i+1+·)).flatMap λi=>(eM (f i)).flatMap λk=>dx cs i k),?_⟩;unfold vb;simp only[g8]
 congr 1
 congr 1
 rw[<-g8 ((dx cs i k).take t),DM]
def ape {cash:List Int}{cs:List aB}(h:fX cash cs){f:Nat->Nat}(Qz:cs=dR (D cash) cs)(aH:∀i,i<(D cash)->f i<=10)(j:Nat){l gb:List aB}(aq:vb cs f (D cash)=l++gb):0<=cJ l (hv j)/\cJ l (hv j)<=13000000000000000:=by
 have FP:∀m:List aB,(∀c∈m,c∈cs)->0<=cJ m (hv j):=by
  intro m
  induction m with
  |nil=>intro _;exact PT _
  |cons c m aG =>
   intro hm;have F:=aG λy aj=>hm y (iG _ aj);have G:=((hL.1 h.right).2.2.2 c (hm c g1)).2.2.2.2.2.2.1;simp only[cJ,hv] at *
   split<;>omega
 have hm:∀c∈l++gb,c∈cs:=λc J=>aFi (by rw[aq];exact J);have F:=FP l λc J=>hm c (by simp[J]);have G:=FP gb λc J=>hm c (by simp[J]);have ab:=ao9 Qz aH j;rw[aq,PF] at ab;have aV:=h.steady f j;have bu:=h.cash j;omega
end Go.Mini
namespace Go.Mini
open Go
def apf {n c:Nat}(J:c<n)(q:Nat->Int)(v:Int):gT c (sG dS (bA n q))++[M.H (.int .i64 v)]++hl (c+1) (sG dS (bA n q))=sG dS (bA n λj=>if j=c then v else q j):=by
 rw[<-A5,xD,Vm,Y (by rw[al,gB];exact J)];simp[dS]
def apg {n c:Nat}(J:c<n)(q:Nat->Int):gT 1 (hl c (sG dS (bA n q)))=[.H (.int .i64 (q c))]:=zr (f:=dS) (ki q J)
def aph (n:Nat)(q:Nat->Int):(sG dS (bA n q)).length=n:=by rw[al,gB]
def VL (l:List aB)(c:aB)(aO:aB->Int):cJ (l++[c]) aO=cJ l aO+aO c:=by
 rw[PF];simp[cJ]
def aFm (T:ba){K:eK->bc->Prop}{kk:List fT}(ep:Mem)(n:Nat)(aL:n<=60)(c7:List aB)(B:Nat->Int)(ga:∀t j,0<=B j+cJ (c7.take t) (hv j)/\B j+cJ (c7.take t) (hv j)<=4000000000000000000)(fO:∀c∈c7,c.2.1<n /\ -1<=c.2.1)(Lk:(D c7)<=2000)(v0 v4 v6 tU CD api v30 Ll Lm apj apk:M)(bs:Nat)(Ln Lo:Option (Nat×List M))(tm:Nat->M)(m:Mem)
  (bx:tm 0=v0) (bK:tm 4=v4) (c6:tm 5=.ref 248029 bs 1 0 n) (bt:tm 6=v6) (bS:tm 7=tU) (ee:tm 8=CD) (eT:tm 9=api) (kK:tm 30=v30) (iq:tm 31=Ll) (ir:tm 32=Lm) (nb:tm 50=apj) (oU:tm 51=apk) (rQ:tm 59=lj c7) (mT:tm 60=.H (.int .i64 (D c7))) (vc:tm 61=.H (.int .i64 0))
  (kl:m 248029=some (bs,(bA n B).map dS)) (oV:m 248094=Ln) (oW:m 248098=Lo) (bg:df 248 ep m)
  (db:∀tm' m',tm' 0=v0->tm' 4=v4->tm' 5=.ref 248029 bs 1 0 n->tm' 6=v6->tm' 7=tU->tm' 8=CD->tm' 9=api->tm' 30=v30->tm' 31=Ll->tm' 32=Lm->tm' 50=apj->tm' 51=apk->m' 248029=some (bs,(bA n λj=>B j+cJ c7 (hv j)).map dS)->m' 248094=Ln->m' 248098=Lo->df 248 ep m'->cg T K kk (.exit 4) ⟨tm',m'⟩) :
  wp T (xy.body.sub [1,1,1,1,1,0,1,0,0,0,0,1,1,0,0,1,1,0,1,0,0,1,1,0,0,1,1,0]) (cg T K kk) ⟨tm,m⟩:=by
 simp only[xy,er.sub]
 refine dd [0,4,5,6,7,8,9,30,31,32,50,51,59,60] [248094,248098] (λ(t:Nat) tm m=>t<=D c7/\tm 61=.H (.int .i64 t)/\m 248029=some (bs,(bA n λj=>B j+cJ (c7.take t) (hv j)).map dS)/\df 248 ep m) (λt=>D c7-t) 0 (by
  refine⟨by omega,vc,?_,bg⟩
  rw[kl]
  congr 3
  exact jW λj _=>by rw[nw];simp[cJ]) ?_
 intro vs ms aQ aM;simp only[go_sem,go_sem_proc,bx,bK,c6,bt,bS,ee,eT,kK,iq,ir,nb,oU,rQ,mT,oV,oW] at aQ aM;subst aQ aM;clear bx bK c6 bt bS ee eT kK iq ir nb oU rQ mT vc kl oV oW bg tm m;rintro t tm m I hm ⟨anf,vc,kl,bg⟩;simp only[go_sem,go_sem_proc,bj] at I hm;obtain⟨bx,bK,c6,bt,bS,ee,eT,kK,iq,ir,nb,oU,rQ,mT⟩:=I;obtain⟨oV,oW⟩:=hm;rcases dn (t<D c7) with ah|bW
 ·have d1:decide ((t:Int)<(D c7:Int))=true:=cX;have bF:=eI (i:=t) (by omega);obtain⟨⟨ar,c2,c3,c4⟩,L⟩:∃c,c7[t]?=some c:=⟨_,bh ah⟩;have kP:=fO _ (dy L);dsimp only at kP;have pW:=aoO L;simp only[go_sem,go_sem_proc] at pW;have hb:c7.take (t+1)=c7.take t++[(ar,c2,c3,c4)]:=by rw[hZ,L];rfl
  rcases q:decide (c2>=0)
  ·have Bv:c2<0:=by have:=of_decide_eq_false q;omega
   have zu:(bA n λj=>B j+cJ (c7.take (t+1)) (hv j))=bA n λj=>B j+cJ (c7.take t) (hv j):=jW λj _=>by
    rw[hb,VL];unfold hv;rw[aa (by dsimp only;omega)];omega
   refine ai ?_;repeat' (intro h<;>simp only[h,go_sem,go_sem_proc,bx,bK,c6,bt,bS,ee,eT,kK,iq,ir,nb,oU,rQ,mT,vc,kl,oV,oW,pW,d1,bF,q,bL,dZ]<;>try refine ag ?_ ?_)
   refine⟨t+1,by omega,by omega,rfl,by rw[zu],by repeat first|exact bg|refine df.dK ?_ (by decide)⟩
  ·have Bv:0<=c2:=of_decide_eq_true q;obtain⟨i,rfl⟩:∃t:Nat,c2=(t:Int):=⟨c2.toNat,by omega⟩
   have cP:i<n:=by omega
   have mi:=ga t i;have fi:=ga (t+1) i;rw[hb,VL] at fi;have C6:hv i (ar,(i:Int),c3,c4)=c4:=by unfold hv;rw[Y rfl]
   rw[C6] at fi;have QA:IntKind.i64.wrap (B i+cJ (c7.take t) (hv i)+c4)=B i+cJ (c7.take t) (hv i)+c4:=by rw[eY _]
   have zu:(bA n λj=>B j+cJ (c7.take (t+1)) (hv j))=bA n λj=>if j=i then B i+cJ (c7.take t) (hv i)+c4 else B j+cJ (c7.take t) (hv j):=jW λj _=>by
    rw[hb,VL]
    by_cases ae:j=i
    ·rw[Y ae,ae,C6];omega
    ·rw[aa ae];have:hv j (ar,(i:Int),c3,c4)=0:=by unfold hv;rw[aa (by dsimp only;omega)]
     rw[this];omega
   have t1:=apg cP λj=>B j+cJ (c7.take t) (hv j);have t2:=aph n λj=>B j+cJ (c7.take t) (hv j);have t3:=apf cP (λj=>B j+cJ (c7.take t) (hv j)) (B i+cJ (c7.take t) (hv i)+c4);rw[<-zu] at t3;have eN:i+1<=n:=by omega
   generalize aN:(bA n λj=>B j+cJ (c7.take t) (hv j)).map dS=bC at *;generalize uk:(bA n λj=>B j+cJ (c7.take (t+1)) (hv j)).map dS=tA at *;generalize B i+cJ (c7.take t) (hv i)=S1 at *;refine ai ?_;repeat' (intro h<;>simp only[h,go_sem,go_sem_proc,bx,bK,c6,bt,bS,ee,eT,kK,iq,ir,nb,oU,rQ,mT,vc,kl,oV,oW,pW,d1,bF,q,QA,t1,t2,t3,cP,eN,bL,dZ]<;>try refine ag ?_ ?_)
   refine⟨t+1,by omega,by omega,rfl,by rw[uk],by repeat first|exact bg|refine df.dK ?_ (by decide)⟩
 ·have d1:decide ((t:Int)<(D c7:Int))=false:=b7;rw[dD (by omega)] at kl;refine ai ?_;repeat' (intro h<;>simp only[h,go_sem,go_sem_proc,bx,bK,c6,bt,bS,ee,eT,kK,iq,ir,nb,oU,rQ,mT,vc,d1]<;>try refine ag ?_ ?_)
  refine db _ _ ?_ ?_ ?_ ?_ ?_ ?_ ?_ ?_ ?_ ?_ ?_ ?_ kl oV oW bg<;>simp only[dC,cE,if_false,bx,bK,c6,bt,bS,ee,eT,kK,iq,ir,nb,oU]
def apl (cs:List aB)(f:Nat->Nat)(i k t:Nat):lG cs f i k t=lG cs f i k 0++(dx cs i k).take t:=by
 unfold lG;simp
def aFn (T:ba){K:eK->bc->Prop}{kk:List fT}(ep:Mem)(cash:List Int)(cs:List aB)(f:Nat->Nat)(R:fX cash cs)(Qz:cs=dR (D cash) cs)(aH:∀i,i<(D cash)->f i<=10)(i:Nat)(O:i<D cash)(x:pr)(L:x.dJ)(ew:∀k,k<10->x.dE[k]?=some (dx cs i k))(B:Nat->Int)(ga:∀j,0<=B j/\B j<=1000000000000000)(eO g:Nat)(wI:eO/1000≠248)(n0:ep eO=some (g,gi x))(v0 v4 v6 tU CD v30 Ll Lm:M)(bs:Nat)(Ln Lo:Option (Nat×List M))(tm:Nat->M)(m:Mem)
  (bx:tm 0=v0) (bK:tm 4=v4) (c6:tm 5=.ref 248029 bs 1 0 (D cash)) (bt:tm 6=v6) (bS:tm 7=tU) (ee:tm 8=CD) (eT:tm 9=.ptr eO g 0) (kK:tm 30=v30) (iq:tm 31=Ll) (ir:tm 32=Lm) (nb:tm 50=.H (.int .i64 (f i))) (oU:tm 51=.H (.int .i64 0))
  (kl:m 248029=some (bs,(bA (D cash) λj=>B j+cJ (lG cs f i 0 0) (hv j)).map dS)) (oV:m 248094=Ln) (oW:m 248098=Lo) (bg:df 248 ep m)
  (db:∀tm' m',tm' 0=v0->tm' 4=v4->tm' 5=.ref 248029 bs 1 0 (D cash)->tm' 6=v6->tm' 7=tU->tm' 8=CD->tm' 9=.ptr eO g 0->tm' 30=v30->tm' 31=Ll->tm' 32=Lm->m' 248029=some (bs,(bA (D cash) λj=>B j+cJ (lG cs f (i+1) 0 0) (hv j)).map dS)->m' 248094=Ln->m' 248098=Lo->df 248 ep m'->cg T K kk (.exit 2) ⟨tm',m'⟩) :
  wp T (xy.body.sub [1,1,1,1,1,0,1,0,0,0,0,1,1,0,0,1,1,0,1,0]) (cg T K kk) ⟨tm,m⟩:=by
 simp only[xy,er.sub];have tT:=aH i O;have aL:=R.jV;refine dd [0,4,5,6,7,8,9,30,31,32,50] [248094,248098] (λ(k:Nat) tm m=>k<=f i/\tm 51=.H (.int .i64 k)/\m 248029=some (bs,(bA (D cash) λj=>B j+cJ (lG cs f i k 0) (hv j)).map dS)/\df 248 ep m) (λk=>f i-k) 0 (by refine⟨by omega,oU,kl,bg⟩) ?_;intro vs ms aQ aM;simp only[go_sem,go_sem_proc,bx,bK,c6,bt,bS,ee,eT,kK,iq,ir,nb,oV,oW] at aQ aM;subst aQ aM;clear bx bK c6 bt bS ee eT kK iq ir nb oU kl oV oW bg tm m;rintro k tm m I hm ⟨AP,oU,kl,bg⟩;simp only[go_sem,go_sem_proc,bj] at I hm;obtain⟨bx,bK,c6,bt,bS,ee,eT,kK,iq,ir,nb⟩:=I;obtain⟨oV,oW⟩:=hm;rcases dn (k<f i) with ah|bW
 ·have d1:decide ((k:Int)<(f i:Int))=true:=cX;have bF:=eI (i:=k) (by omega);have ad:=(bg eO wI).trans n0;have hlen:=Fp L;have kJ:=aoP (x:=x) (k:=k) (l:=dx cs i k) (ew k (by omega));have eN:k<10:=by omega
  have cb:(1+k+1<=24)=True:=eq_true (by omega);have apm:=aoN (dx cs i k);simp only[go_sem,go_sem_proc] at apm;generalize gi x=DC at *;simp only[go_sem,go_sem_proc,bx,bK,c6,bt,bS,ee,eT,kK,iq,ir,nb,oU,ad,hlen,kJ,d1,eN,cb,apm,dZ];refine aFm T ep (D cash) (by omega) (dx cs i k) (λj=>B j+cJ (lG cs f i k 0) (hv j)) (λt j=>?_) (λc J=>?_) ?_ v0 v4 v6 tU CD (.ptr eO g 0) v30 Ll Lm (.H (.int .i64 (f i))) (.H (.int .i64 k)) bs Ln Lo _ _ ?_ ?_ ?_ ?_ ?_ ?_ ?_ ?_ ?_ ?_ ?_ ?_ ?_ ?_ ?_ kl oV oW bg ?_
  ·obtain⟨l,aq⟩:=apb cs f (n:=D cash) (t:=t) O ah;have F:=ape R Qz aH j aq;rw[apl,PF] at F;have G:=ga j;omega
  ·have:=(hL.1 R.right).2.2.2 c (HS.1 J).1;omega
  ·have F:=p2 (λc:aB=>c.1==(i:Int)&&c.2.2.1==(k:Int)) cs;have G:=R.wE;unfold dx;omega
  all_goals first|(intro tm' m' eU fW jb fv jk k9 ly VM VN VO KJ aFo x7 VP VQ zA)|(simp only[dC,cE,if_false,if_true,bx,bK,c6,bt,bS,ee,eT,kK,iq,ir,nb,oU])
  have hC:(bA (D cash) λj=>B j+cJ (lG cs f i k 0) (hv j)+cJ (dx cs i k) (hv j))=bA (D cash) λj=>B j+cJ (lG cs f i (k+1) 0) (hv j):=jW λj _=>by
   rw[<-aFk,apl cs f i k (dx cs i k).length,pb,PF];omega
  rw[hC] at x7;refine ai ?_;repeat' (intro h<;>simp only[h,go_sem,go_sem_proc,eU,fW,jb,fv,jk,k9,ly,VM,VN,VO,KJ,aFo,VP,VQ,bF]<;>try refine ag ?_ ?_)
  refine⟨k+1,by omega,by omega,rfl,x7,zA⟩
 ·have d1:decide ((k:Int)<(f i:Int))=false:=b7;obtain rfl:k=f i:=by omega
  rw[aFl] at kl;refine ai ?_;repeat' (intro h<;>simp only[h,go_sem,go_sem_proc,bx,bK,c6,bt,bS,ee,eT,kK,iq,ir,nb,oU,d1]<;>try refine ag ?_ ?_)
  refine db _ _ ?_ ?_ ?_ ?_ ?_ ?_ ?_ ?_ ?_ ?_ kl oV oW bg<;>simp only[dC,cE,if_false,bx,bK,c6,bt,bS,ee,eT,kK,iq,ir]
structure VR (a:dt) (mem:Mem):Prop where
 at_:a.fj mem
 hB:kh 248 mem
 ib:kh 255 mem
 oR:kh 256 mem
 Lh:a.Lg
 kf:sF (af a.cash a.cs) (a9 a.aJ) (dB a.P)
open Classical in
def apn (P:Nat->Prop)(n:Nat):dh P (n+1)=dh P n++(if P n then [n] else []):=by
 unfold dh;rw[rM,zo]
 by_cases h:P n
 ·rw[Y h,xW (by simpa using h),sE]
 ·rw[aa h,zp (by simpa using h),sE]
def apo (P:Nat->Prop)(n:Nat):(dh P n).length<=n:=by
 unfold dh;exact eR (p2 _ _) (by rw[td];exact cl _)
def dt.W (a:dt)(k i:Nat):Rat:=(af a.cash a.cs).W (a9 a.aJ) k i
def apq (n:Nat)(W:Nat->Nat->Rat)(k:Nat):(va n W k).length=1:=rfl
def aFp (n:Nat)(W:Nat->Nat->Rat)(k:Nat):((va n W k).map M.H).all M.one=true:=rfl
def ps (a:dt)(i j:Nat):Int:=(if j<i then a.cash.getD j 0 else 0)+cJ (lG a.cs (a9 a.aJ) i 0 0) (hv j)
def aFq (T:ba)(adw:T Su=po VG){K:eK->bc->Prop}{kk:List fT}(a:dt)(ep:Mem)(aZ:VR a ep)(v0 v4 v30:M)(bs tV mz:Nat)(tm:Nat->M)(m:Mem)
  (bx:tm 0=v0) (bK:tm 4=.H (.int .i64 (D a.cash))) (c6:tm 5=.ref 248029 bs 1 0 (D a.cash)) (bt:tm 6=.ref 248094 tV 1 0 0) (bS:tm 7=.ref 248098 mz 1 0 0) (kK:tm 30=.ref 228023 a.g 1 0 (D a.cash)) (iq:tm 31=.H (.int .i64 (D a.cash))) (ir:tm 32=.H (.int .i64 0))
  (kl:m 248029=some (bs,(bA (D a.cash) λj=>ps a 0 j).map dS)) (oV:m 248094=some (tV,[])) (oW:m 248098=some (mz,[])) (bg:df 248 ep m)
  (db:∀tm' m' apr aps,tm' 0=v0->tm' 4=.H (.int .i64 (D a.cash))->tm' 5=.ref 248029 bs 1 0 (D a.cash)->tm' 6=.ref 248094 apr 1 0 (D a.p)->tm' 7=.ref 248098 aps 1 0 (D a.p)->m' 248029=some (bs,(bA (D a.cash) λj=>ps a (D a.cash) j).map dS)->m' 248094=some (apr,aU h4 a.p)->m' 248098=some (aps,aU (va (D a.cash) a.W) a.p)->df 248 ep m'->cg T K kk (.exit 0) ⟨tm',m'⟩) :
  wp T (xy.body.sub [1,1,1,1,1,0,1,0,0,0]) (cg T K kk) ⟨tm,m⟩:=by
 have aQa:=aZ;obtain⟨bH,hB,ib,oR,C7,iK⟩:=aZ;have tC:=λi=>dt.Qw bH C7 (i:=i);obtain⟨R,du⟩:=C7;have aL:=R.jV;simp only[xy,er.sub];refine dd [0,4,5,30,31] [] (λ((i,tV,mz):Nat×Nat×Nat) tm m=>i<=D a.cash/\tm 32=.H (.int .i64 i)/\tm 6=.ref 248094 tV 1 0 (dh (dB a.P) i).length/\tm 7=.ref 248098 mz 1 0 (dh (dB a.P) i).length/\m 248029=some (bs,(bA (D a.cash) λj=>ps a i j).map dS)/\m 248094=some (tV,aU h4 (dh (dB a.P) i))/\m 248098=some (mz,aU (va (D a.cash) a.W) (dh (dB a.P) i))/\df 248 ep m) (λ(i,_)=>D a.cash-i) (0,tV,mz) (by refine⟨by omega,ir,bt,bS,kl,oV,oW,bg⟩) ?_;intro vs ms aQ aM;simp only[go_sem,go_sem_proc,bx,bK,c6,kK,iq] at aQ aM;subst aQ aM;clear bx bK c6 bt bS kK iq ir kl oV oW bg tm m;rintro⟨i,tV,mz⟩ tm m I-⟨cP,ir,bt,bS,kl,oV,oW,bg⟩;simp only[go_sem,go_sem_proc,bj] at I;obtain⟨bx,bK,c6,kK,iq⟩:=I;rcases dn (i<D a.cash) with O|bW
 ·have d1:decide ((i:Int)<(D a.cash:Int))=true:=cX;have bF:=eI (i:=i) (by omega);obtain⟨tT,u9⟩:=tC i O;have gj:=(bg.at 228023 (by omega)).trans bH.row;have uI:=bH.dU i O;have gv:=(bg.at (228500+i) (by omega)).trans uI;have k5:=x5 (ki (λi=>M.ptr (228500+i) (a.gs.getD i 0) 0) O);have cm:(bA (D a.cash) λi=>M.ptr (228500+i) (a.gs.getD i 0) 0).length=D a.cash:=gB _ _;have cw:=a.zy i;have hlen:=Fp cw;have p6:=Qt cw;have x8:=aoR cw;have apt:=aEx (x:=a.hh i);rw[show (a.hh i).f=(a9 a.aJ i:Int) from tT] at p6;rw[show (a.hh i).p=a.P.getD i false from rfl] at x8;rw[show (a.hh i).cash=a.cash.getD i 0 from rfl] at apt;have acR:=R.cash i;have ju:=apb a.cs (a9 a.aJ) (n:=D a.cash) (i:=i) (k:=0) (t:=0) O
  have aQb:0<=cJ (lG a.cs (a9 a.aJ) i 0 0) (hv i)/\cJ (lG a.cs (a9 a.aJ) i 0 0) (hv i)<=13000000000000000:=by
   have:∃l,vb a.cs (a9 a.aJ) (D a.cash)=lG a.cs (a9 a.aJ) i 0 0++l:=by
    obtain⟨r,X⟩:∃r,D a.cash=i+r:=⟨D a.cash-i,by omega⟩
    refine⟨((eM r).map (i+·)).flatMap λi=>(eM (a9 a.aJ i)).flatMap λk=>dx a.cs i k,?_⟩;rw[apa];unfold vb;rw[X,apd,AZ]
   obtain⟨l,aq⟩:=this;exact ape R bH.can (λi O=>(tC i O).2) i aq
  have acC:ps a i i=cJ (lG a.cs (a9 a.aJ) i 0 0) (hv i):=by unfold ps;rw[aa (by omega)];omega
  have aFr:IntKind.i64.wrap (ps a i i+a.cash.getD i 0)=ps a i i+a.cash.getD i 0:=by rw[eY _]
  have t1:=apg O λj=>ps a i j;have t2:=aph (D a.cash) λj=>ps a i j;have t3:=apf O (λj=>ps a i j) (ps a i i+a.cash.getD i 0)
  have H8:(bA (D a.cash) λj=>if j=i then ps a i i+a.cash.getD i 0 else ps a i j)=bA (D a.cash) λj=>(if j<i+1 then a.cash.getD j 0 else 0)+cJ (lG a.cs (a9 a.aJ) i 0 0) (hv j):=jW λj _=>by
   by_cases ae:j=i
   ·rw[Y ae,ae,Y (by omega),acC];omega
   ·rw[aa ae];unfold ps
    by_cases w4:j<i
    ·rw[Y w4,Y (by omega)]
    ·rw[aa w4,aa (by omega)]
  rw[H8] at t3;have eN:i+1<=D a.cash:=by omega
  have wI:(228500+i)/1000≠248:=by omega
  generalize p7:228500+i=eO at *;have aFs:(eO=248029)=False:=eq_false (by omega);have aFt:(eO==248029)=false:=beq_eq_false_iff_ne.2 (by omega);have aFu:(248029==eO)=false:=beq_eq_false_iff_ne.2 (by omega);have aQc:gi (a.hh i)=gi (a.hh i):=rfl;generalize jf:(bA (D a.cash) λj=>ps a i j).map dS=bC at *;generalize aFv:(bA (D a.cash) λj=>(if j<i+1 then a.cash.getD j 0 else 0)+cJ (lG a.cs (a9 a.aJ) i 0 0) (hv j)).map dS=tA at *;generalize Lp:(bA (D a.cash) λi=>M.ptr (228500+i) (a.gs.getD i 0) 0)=zz at *;generalize QB:gi (a.hh i)=DC at *;simp only[go_sem,go_sem_proc,bx,bK,c6,bt,bS,kK,iq,ir,gj,gv,k5,cm,hlen,p6,x8,apt,kl,t1,t2,t3,aFr,d1,O,eN,aFs,aFt,aFu,dS,iJ,dZ];refine aFn T ep a.cash a.cs (a9 a.aJ) R bH.can (λi O=>(tC i O).2) i O (a.hh i) cw (λk I=>ki _ I) (λj=>if j<i+1 then a.cash.getD j 0 else 0) (λj=>?_) eO (a.gs.getD i 0) wI (by rw[QB];exact uI) v0 (.H (.int .i64 (D a.cash))) (.ref 248094 tV 1 0 (dh (dB a.P) i).length) (.ref 248098 mz 1 0 (dh (dB a.P) i).length) (.H (.int .i64 i)) (.ref 228023 a.g 1 0 (D a.cash)) (.H (.int .i64 (D a.cash))) (.H (.int .i64 i)) bs (some (tV,aU h4 (dh (dB a.P) i))) (some (mz,aU (va (D a.cash) a.W) (dh (dB a.P) i))) _ _ ?_ ?_ ?_ ?_ ?_ ?_ ?_ ?_ ?_ ?_ ?_ ?_ ?_ ?_ ?_ (bg.dK (by decide)) ?_
  ·have:=R.cash j
   split<;>omega
  all_goals first|(intro tm' m' eU fW jb fv jk k9 ly VM VN VO x7 VP VQ zA)|(simp only[dC,cE,if_false,if_true,bx,bK,c6,bt,bS,kK,iq,ir])|(simp only[a5,cE,if_false,if_true,oV,oW])|skip
  ·rw[<-aFv]
  have hC:(bA (D a.cash) λj=>(if j<i+1 then a.cash.getD j 0 else 0)+cJ (lG a.cs (a9 a.aJ) (i+1) 0 0) (hv j))=bA (D a.cash) λj=>ps a (i+1) j:=rfl;rw[hC] at x7;have fi:=(zA eO wI).trans uI;have pl:=apo (dB a.P) i;rcases q:a.P.getD i false
  ·have hc:dh (dB a.P) (i+1)=dh (dB a.P) i:=by
    rw[apn,aa (by unfold dB;rw[q];decide),hD]
   rw[q] at x8;refine ai ?_;repeat' (intro h<;>simp only[h,go_sem,go_sem_proc,eU,fW,jb,fv,jk,k9,ly,VM,VN,VO,VP,VQ,fi,hlen,x8,bF,iJ,dZ]<;>try refine ag ?_ ?_)
   exact⟨(i+1,tV,mz),by dsimp only;omega,by dsimp only;omega,rfl,by rw[hc],by rw[hc],x7,by rw[hc],by rw[hc],zA⟩
  ·have fF:dB a.P i:=q
   have hc:dh (dB a.P) (i+1)=dh (dB a.P) i++[i]:=by
    rw[apn,Y fF]
   have aFw:a9 a.aJ i<10:=by
    obtain⟨F,g,G,ab⟩:=iK;exact (ab.gz i fF).2
   have qn:=aEG a i m' ⟨bH.aF zA (by decide) aL,ib.aF zA (by decide),⟨R,du⟩,O,aFw,iK.ph i fF⟩;rw[p7] at qn;have aFx:VF (a,i)=.dj [.ax ((c8 (D a.cash) (a.W i)).map az),.bool true]:=rfl;rw[aFx] at qn;have apu:=kx wk adn 248094 tV 8 (dh (dB a.P) i) i (cs:=[.H (.int .i64 i)]) rfl (by omega) (by omega);have apv:=kx (apq (D a.cash) a.W) (aFp (D a.cash) a.W) 248098 mz 24 (dh (dB a.P) i) i (cs:=[.H (.ax ((c8 (D a.cash) (a.W i)).map az))]) rfl (by omega) (by omega);have bG:(dh (dB a.P) (i+1)).length=(dh (dB a.P) i).length+1:=by rw[hc,gC];rfl
   rw[<-hc] at apu apv;rw[q] at x8;generalize (c8 (D a.cash) (a.W i)).map az=V at *;refine ai ?_;repeat' (intro h<;>simp only[h,go_sem,go_sem_proc,adw,eU,fW,jb,fv,jk,k9,ly,VM,VN,VO,VP,VQ,fi,hlen,x8,qn,apu,apv,bF,iJ,dZ,b3]<;>try refine ag ?_ ?_)
   exact⟨(i+1,tV+1,mz+1),by dsimp only;omega,by dsimp only;omega,rfl,by rw[bG],by rw[bG],x7,rfl,rfl,by repeat first|exact zA|refine df.dK ?_ (by decide)⟩
 ·have d1:decide ((i:Int)<(D a.cash:Int))=false:=b7;obtain rfl:i=D a.cash:=by omega
  refine ai ?_;repeat' (intro h<;>simp only[h,go_sem,go_sem_proc,bx,bK,c6,bt,bS,kK,iq,ir,d1]<;>try refine ag ?_ ?_)
  refine db _ _ tV mz ?_ ?_ ?_ ?_ ?_ kl oV oW bg<;>simp only[dC,cE,if_false,bx,bK,c6,bt,bS,dt.p]
def aFy (T:ba)(oK:T yA=aK yV)(Cu:T DO=aK Eo){K:eK->bc->Prop}{kk:List fT}(ep:Mem)(n:Nat)(p:List Nat)(aE:(D p)<=60)(W:Nat->Nat->Rat)(b2:Nat->Rat)(i:Nat)(O:i<n)(x9:Rat)(a2:∀t,t<=(D p)->e0 708 (x9+bR t λk=>W (p.getD k 0) i*b2 k))(di:∀k,k<(D p)->e0 438 (W (p.getD k 0) i*b2 k)/\e0 54 (W (p.getD k 0) i)/\e0 384 (b2 k))(apw apx apy apz:M)(bs:Nat)(apA:Option (Nat×List M))(tm:Nat->M)(m:Mem)
  (bt:tm 6=.H (.ax (p.map h4))) (bS:tm 7=.H (.ax (p.map (va n W)))) (qX:tm 15=.H (.ax ((c8 (D p) b2).map az))) (sx:tm 17=apw) (EJ:tm 18=.H (.int .i64 i)) (p9:tm 20=.ptr 248020 bs 0) (A9:tm 110=apx) (Ba:tm 111=apy) (sw:tm 112=apz) (QC:tm 120=.H (.int .i64 (D p))) (QD:tm 121=.H (.int .i64 0))
  (Lq:m 248020=some (bs,(az (av x9)).map .H)) (QE:m 248156=apA) (bg:df 248 ep m)
  (db:∀tm' m',tm' 6=.H (.ax (p.map h4))->tm' 7=.H (.ax (p.map (va n W)))->tm' 15=.H (.ax ((c8 (D p) b2).map az))->tm' 17=apw->tm' 20=.ptr 248020 bs 0->tm' 110=apx->tm' 111=apy->tm' 112=apz->m' 248020=some (bs,(az (av (x9+bR (D p) λk=>W (p.getD k 0) i*b2 k))).map .H)->m' 248156=apA->df 248 ep m'->cg T K kk (.exit 8) ⟨tm',m'⟩) :
  wp T (xy.body.sub [1,1,1,1,1,1,1,1,1,0,1,0,0,0,1,1,0,0,1,1,0,1,0]) (cg T K kk) ⟨tm,m⟩:=by
 simp only[xy,er.sub]
 refine dd [6,7,15,17,18,20,110,111,112,120] [248156] (λ(k:Nat) tm m=>k<=D p/\tm 121=.H (.int .i64 k)/\m 248020=some (bs,(az (av (x9+bR k λk=>W (p.getD k 0) i*b2 k))).map .H)/\df 248 ep m) (λk=>D p-k) 0 (by
  refine⟨by omega,QD,?_,bg⟩
  rw[Lq,bR,rH]) ?_
 intro vs ms aQ aM;simp only[go_sem,go_sem_proc,bt,bS,qX,sx,EJ,p9,A9,Ba,sw,QC,QE] at aQ aM;subst aQ aM;clear bt bS qX sx EJ p9 A9 Ba sw QC QD Lq QE bg tm m;rintro k tm m I hm ⟨AP,QD,Lq,bg⟩;simp only[go_sem,go_sem_proc,bj] at I hm;obtain⟨bt,bS,qX,sx,EJ,p9,A9,Ba,sw,QC⟩:=I;rcases dn (k<D p) with ah|bW
 ·have d1:decide ((k:Int)<(D p:Int))=true:=cX;have bF:=eI (i:=k) (by omega);obtain⟨x6,L⟩:∃c,p[k]?=some c:=⟨_,bh ah⟩;have iF:p.getD k 0=x6:=by rw[eD,L];rfl
  obtain⟨fB,gN,mR⟩:=di k ah;have adx:=a2 k (by omega);rw[iF] at fB gN;have hmul:=anR (hU gN (by omega)) (hU mR (by omega)) (PM gN mR (by omega));have pa:=anQ (hU adx (by omega)) (hU fB (by omega)) (xQ adx fB (by omega))
  have R:(x9+bR (k+1) λk=>W (p.getD k 0) i*b2 k)=x9+bR k (λk=>W (p.getD k 0) i*b2 k)+W x6 i*b2 k:=by
   rw[bR,iF];grind
  have bb:=rL (W x6) O;have aFz:=rL b2 ah;rw[<-R] at pa;clear adx fB gN mR di a2 R db;generalize av (x9+bR k λk=>W (p.getD k 0) i*b2 k)=F1 at *;generalize aFA:av (x9+bR (k+1) λk=>W (p.getD k 0) i*b2 k)=F2 at *;generalize av (W x6 i*b2 k)=F3 at *;generalize av (W x6 i)=F4 at *;generalize av (b2 k)=F5 at *;obtain⟨⟨cz,cY⟩,⟨eA,eQ⟩⟩:=F1;obtain⟨⟨cQ,dN⟩,⟨gy,g3⟩⟩:=F2;obtain⟨⟨f1,f2⟩,⟨f3,f4⟩⟩:=F3;obtain⟨⟨cU,dc⟩,⟨hj,kV⟩⟩:=F4;obtain⟨⟨cy,dw⟩,⟨dW,fW⟩⟩:=F5;simp only[az,eE,bY] at hmul pa Lq;refine ai ?_;repeat' (intro h<;>simp only[h,go_sem,go_sem_proc,oK,Cu,bt,bS,qX,sx,EJ,p9,A9,Ba,sw,QC,QD,Lq,hm,d1,bF,L,va,bb,aFz,hmul,pa,az,al,bm,bne,beq_self_eq_true,b3]<;>try refine ag ?_ ?_)
  refine⟨k+1,by omega,by omega,rfl,by rw[aFA],by repeat first|exact bg|refine df.dK ?_ (by decide)⟩
 ·have d1:decide ((k:Int)<(D p:Int))=false:=b7;obtain rfl:k=D p:=by omega
  refine ai ?_;repeat' (intro h<;>simp only[h,go_sem,go_sem_proc,bt,bS,qX,sx,EJ,p9,A9,Ba,sw,QC,QD,d1]<;>try refine ag ?_ ?_)
  refine db _ _ ?_ ?_ ?_ ?_ ?_ ?_ ?_ ?_ Lq hm bg<;>simp only[dC,cE,if_false,bt,bS,qX,sx,p9,A9,Ba,sw]
def VS (a:dt):Data:=.dj [.ax ((c8 (D a.cash) ((af a.cash a.cs).e5 (a9 a.aJ) (dB a.P))).map az),.bool true]
def ady:List M->Mem->Option Data:=zq (λ(a:dt) args mem=>args=[.ref 228023 a.g 1 0 (D a.cash)]/\VR a mem) VS
def aFB (a:dt)(mem:Mem)(h:VR a mem):ady [.ref 228023 a.g 1 0 (D a.cash)] mem=some (VS a):=by
 refine HW (a:=a) ?_ ⟨rfl,h⟩;rintro a b args mem ⟨au,aC⟩ ⟨bN,bK⟩;rw[dt.uniq aC.at_ bK.at_]
def apB (l:List Int):l.map dS=aU aI l:=by
 unfold aU
 induction l with
 |nil=>rfl
 |cons a l aG=>rw[eE,eE,l8,kE,<-aG];rfl
def aFC (n:Nat):(ef n [M.H (.int .i64 0)]).flatten=(bA n λ_=>(0:Int)).map dS:=by
 induction n with
 |zero=>rfl
 |succ n aG=>rw[Qj,List.flatten_append,aG];simp[bA,rM,dS]
def aFD (T:ba)(my:T pM=aK u4)(adw:T Su=po VG)(aFE:T YZ=po VK)(oK:T yA=aK yV)(Cu:T DO=aK Eo)(a:dt)(mem:Mem)(aZ:VR a mem):
  wp T xy.body (oJ xy.res λm mem'=>cV 6 emp m=some (VS a)/\df 248 mem mem') ⟨kq [.ref 228023 a.g 1 0 (D a.cash)],mem⟩:=by
 have bH:=aZ.at_;have R:=aZ.Lh.wF;have iK:=aZ.kf;have aL:=R.jV;have EP:(8*D a.cash<=140737488355328)=True:=eq_true (by omega);have xG:(D a.cash<=maxLen)=True:=eq_true (by unfold maxLen;omega);have apC:mem 248094=none:=aZ.hB 248094 (by decide);have apD:mem 248098=none:=aZ.hB 248098 (by decide);have T2:mem 248029=none:=aZ.hB 248029 (by decide);have a2:=aFC (D a.cash)
 have w3:(bA (D a.cash) λj=>ps a 0 j)=bA (D a.cash) λ_=>(0:Int):=jW λj _=>by
  unfold ps;rw[aa (by omega),aFj];rfl
 refine ra ?_;simp only[xy];simp only[go_sem,go_sem_proc,EP,xG,apC,apD,T2,a2];refine aFq T adw a mem aZ (.ref 228023 a.g 1 0 (D a.cash)) (.ref 228023 a.g 1 0 (D a.cash)) (.ref 228023 a.g 1 0 (D a.cash)) 0 0 0 _ _ ?_ ?_ ?_ ?_ ?_ ?_ ?_ ?_ ?_ ?_ ?_ ((((df.refl _ _).dK (by decide)).dK (by decide)).dK (by decide)) ?_
 all_goals first|(intro tm m tV mz eU fW jb fv jk kl oV oW bg)|(simp only[dC,cE,if_false,if_true];done)|(simp only[dC,cE,if_false,if_true];rfl)|(simp only[a5,cE,if_false,if_true,w3])|skip
 have da:(bA (D a.cash) λj=>ps a (D a.cash) j)=bA (D a.cash) λi=>kH a.cash a.cs (a9 a.aJ) i:=jW λj ae=>by
  unfold ps;rw[Y ae,apa,ao9 bH.can λi O=>(dt.Qw bH aZ.Lh O).2]
 rw[da,apB] at kl;have fA:∀jX,df 248 mem jX->VK [.ref 228023 a.g 1 0 (D a.cash),.H (.ax ((bA (D a.cash) λi=>kH a.cash a.cs (a9 a.aJ) i).map aI)),.H (.ax (a.p.map h4)),.H (.ax (a.p.map (va (D a.cash) a.W)))] jX=some (.dj [.ax (a.xs.map az),.bool true]):=λjX h=>aEW a jX ⟨bH.aF h (by decide) aL,aZ.oR.aF h (by decide),aZ.Lh,iK⟩;have apE:(bA (D a.cash) λi=>kH a.cash a.cs (a9 a.aJ) i).length=D a.cash:=gB _ _;have aFF:∀i,i<(D a.cash)->(bA (D a.cash) λi=>kH a.cash a.cs (a9 a.aJ) i)[i]?=some (kH a.cash a.cs (a9 a.aJ) i):=λi O=>ki _ O;generalize aQd:(bA (D a.cash) λi=>kH a.cash a.cs (a9 a.aJ) i)=ST at *;have adz:=λ(K:bc->Prop) (st:bc)=>nB (K:=K) (st:=st) kz 5 248029 0 ST;rw[apE] at adz;have Fs:=λ(K:bc->Prop) (st:bc)=>nB (K:=K) (st:=st) wk 6 248094 tV a.p;have apF:=λ(K:bc->Prop) (st:bc)=>nB (K:=K) (st:=st) (apq (D a.cash) a.W) 7 248098 mz a.p;have apG:=λcU dc hj ar c2 c3=>fA (a5 (a5 (a5 m 248029 cU ar) 248094 dc c2) 248098 hj c3) (((bg.dK (by decide)).dK (by decide)).dK (by decide));simp only[go_sem,go_sem_proc,aFE,eU,fW,jb,fv,jk,kl,oV,oW,adz,Fs,apF,apG,apE,al,b3];have ia:(D a.p)<=D a.cash:=apo _ _;have hc:=λi (O:i<D a.cash) t (b0:t<=D a.p)=>aCY R iK O b0;have adA:=λi (O:i<D a.cash)=>iK.good.amY (d:=af a.cash a.cs) O;have H9:dh (dB a.P) (af a.cash a.cs).n=a.p:=rfl;have aFG:dh (dB a.P) (D a.cash)=a.p:=rfl;have rh:a.xs=c8 (D a.p) λk=>(af a.cash a.cs).e5 (a9 a.aJ) (dB a.P) (a.p.getD k 0)-(af a.cash a.cs).U (a.p.getD k 0) (a9 a.aJ (a.p.getD k 0)):=rfl;rw[H9] at adA;rw[aFG] at hc;rw[rh];generalize iU:(λk=>(af a.cash a.cs).e5 (a9 a.aJ) (dB a.P) (a.p.getD k 0)-(af a.cash a.cs).U (a.p.getD k 0) (a9 a.aJ (a.p.getD k 0)))=b2 at *;have CC:∀k,(af a.cash a.cs).e5 (a9 a.aJ) (dB a.P) (a.p.getD k 0)-(af a.cash a.cs).U (a.p.getD k 0) (a9 a.aJ (a.p.getD k 0))=b2 k:=λk=>congrFun iU k;simp only[CC] at hc adA;have Fo:=λi=>HP R.right (a9 a.aJ) i;have apH:=λi=>R.steady (a9 a.aJ) i;clear adz Fs apF fA apG rh iU CC eU fW jb fv jk kl oV oW apC apD T2 a2 w3 EP xG
 refine dd [6,7,15,110,111] [] (λ((i,g):Nat×Nat) tm jX=>i<=D a.cash/\tm 112=.H (.int .i64 i)/\tm 17=.ref 248156 g 4 0 i/\jX 248156=some (g,aU az (c8 i ((af a.cash a.cs).e5 (a9 a.aJ) (dB a.P))))/\df 248 mem jX) (λ(i,_)=>D a.cash-i) (0,gk (m 248156)) (by
  refine⟨by omega,rfl,rfl,by simp[a5];rfl,by repeat first|exact bg|refine df.dK ?_ (by decide)⟩) ?_
 intro vs ms aQ aM;simp only[go_sem,go_sem_proc] at aQ aM;subst aQ aM;clear bg m tm;rintro⟨i,g⟩ tm m I-⟨cP,sw,sx,QE,bg⟩;simp only[go_sem,go_sem_proc,bj] at I;obtain⟨bt,bS,qX,A9,Ba⟩:=I;rcases dn (i<D a.cash) with O|bW
 ·have d1:decide ((i:Int)<(D a.cash:Int))=true:=cX;have bF:=eI (i:=i) (by omega);have aFH:=aFF i O;have hw:=Fa _ (mQ (z:=kH a.cash a.cs (a9 a.aJ) i) (by have:=apH i;omega) (by have:=apH i;omega));rw[Fo] at hw;have adB:=hc i O;have aFI:=adA i O;generalize qE:(af a.cash a.cs).st (a9 a.aJ) i=x9 at *;generalize gx:av x9=eZ at *;obtain⟨⟨nD,o5⟩,⟨wq,wu⟩⟩:=eZ;simp only[az] at hw;simp only[go_sem,go_sem_proc,my,bt,bS,qX,sx,A9,Ba,sw,d1,aFH,hw,aI,al,bm];refine aFy T oK Cu mem (D a.cash) a.p (by omega) a.W b2 i O x9 (λt b0=>(adB t b0).1) (λk I=>⟨(adB 0 (by omega)).2.1 k I,(UU R iK (zn I).2 i).1,(adB 0 (by omega)).2.2 k I⟩) (.ref 248156 g 4 0 i) (.H (.ax (ST.map aI))) (.H (.int .i64 (D a.cash))) (.H (.int .i64 i)) (gk (m 248020)) (some (g,aU az (c8 i ((af a.cash a.cs).e5 (a9 a.aJ) (dB a.P))))) _ _ ?_ ?_ ?_ ?_ ?_ ?_ ?_ ?_ ?_ ?_ ?_ ?_ ?_ ((bg.dK (by decide)).dK (by decide)) ?_
  all_goals first|(intro tm' m' fv jk adC aFJ adv aFK aFL aaS adD aFM zA)|(simp only[dC,cE,if_false,if_true,bt,bS,qX,sx,A9,Ba,sw];done)|(simp only[a5,cE,if_false,if_true,QE];done)|(simp only[a5,if_true];rw[gx];rfl)
  have aFN:x9+(bR (D a.p) λk=>a.W (a.p.getD k 0) i*b2 k)=(af a.cash a.cs).e5 (a9 a.aJ) (dB a.P) i:=aFI.symm;rw[aFN] at adD;have aQ:=ao2 i ((af a.cash a.cs).e5 (a9 a.aJ) (dB a.P));have cm:(c8 i ((af a.cash a.cs).e5 (a9 a.aJ) (dB a.P))).length=i:=qT _ _;have c9:=λ(aO:bz) cs jD=>kx jj v8 248156 g 64 (c8 i ((af a.cash a.cs).e5 (a9 a.aJ) (dB a.P))) aO (cs:=cs) jD (by omega) (by omega);simp only[cm] at c9;generalize c8 i ((af a.cash a.cs).e5 (a9 a.aJ) (dB a.P))=V at *;generalize m3:c8 (i+1) ((af a.cash a.cs).e5 (a9 a.aJ) (dB a.P))=V2 at *;generalize av ((af a.cash a.cs).e5 (a9 a.aJ) (dB a.P) i)=aO at *;obtain⟨⟨cz,cY⟩,⟨eA,eQ⟩⟩:=aO;have ng:=c9 ((cz,cY),(eA,eQ)) _ rfl;rw[<-aQ] at ng;simp only[az,eE,bY] at ng adD;refine ai ?_;repeat' (intro (ao:_=_)<;>simp only[ao,go_sem,go_sem_proc,fv,jk,adC,aFJ,adv,aFK,aFL,aaS,adD,aFM,ng,bF]<;>try refine ag ?_ ?_)
  exact⟨(i+1,g+1),by dsimp only;omega,by dsimp only;omega,rfl,rfl,by rw[<-m3],by repeat first|exact zA|refine df.dK ?_ (by decide)⟩
 ·have d1:decide ((i:Int)<(D a.cash:Int))=false:=b7;obtain rfl:i=D a.cash:=by omega
  have j3:(c8 (D a.cash) ((af a.cash a.cs).e5 (a9 a.aJ) (dB a.P))).length=D a.cash:=qT _ _;have lg:=λ(K:bc->Prop) (st:bc)=>nB (K:=K) (st:=st) jj 17 248156 g (c8 (D a.cash) ((af a.cash a.cs).e5 (a9 a.aJ) (dB a.P)));rw[j3] at lg;refine ai ?_;repeat' (intro (ao:_=_)<;>simp only[ao,go_sem,go_sem_proc,bt,bS,qX,sx,A9,Ba,sw,QE,d1,lg]<;>try refine ag ?_ ?_)
  exact⟨_,rfl,rfl,by repeat first|exact bg|refine df.dK ?_ (by decide)|refine df.kill ?_ (by decide)⟩
def dt.iM (a:dt)(p:Nat->Bool):dt:={ a with P:=fI (D a.cash) p }
def dt.VT (a:dt)(p:Nat->Bool){i:Nat}(O:i<D a.cash):(a.iM p).hh i=(a.hh i).sp (p i):=by
 have:(fI (D a.cash) p).getD i false=p i:=by rw[eD,Fh _ O];rfl
 unfold dt.hh dt.iM pr.sp;dsimp only;rw[this]
def dt.fj.apI {a:dt}{m:Mem}{p:Nat->Bool}(h:(a.iM p).fj m){i:Nat}(O:i<D a.cash)(b:Bool):(a.iM λj=>if j=i then b else p j).fj (a5 m (228500+i) (a.gs.getD i 0) (gi ((a.hh i).sp b))):=by
 refine⟨h.can,h.aJ,tP _ _,h.VA,?_,λj ae=>?_⟩
 ·have:=h.row;simp only[a5];rw[aa (show ¬ ((228023:Nat)=228500+i) by omega)];exact this
 ·rw[dt.VT a _ ae];simp only[a5]
  by_cases jR:j=i
  ·subst jR;rw[Y rfl,Y rfl]
   rfl
  ·rw[aa (show ¬ ((228500+j:Nat)=228500+i) by omega),aa jR];have:=h.dU j ae;rw[dt.VT a _ ae] at this;exact this
def dt.aFO {a:dt}(h:(D a.P)=D a.cash):a.iM (λj=>a.P.getD j false)=a:=by
 have:fI (D a.cash) (λj=>a.P.getD j false)=a.P:=by
  refine Qu (d:=false) (tP _ _) h λj ae=>?_;rw[eD,Fh _ ae];rfl
 unfold dt.iM;rw[this]
def dt.Lr (a:dt){p q:Nat->Bool}(h:∀i,i<(D a.cash)->p i=q i):a.iM p=a.iM q:=by
 unfold dt.iM;rw[H2 h]
def zB (n:Nat)(mem m:Mem):Prop:=∀k,(∀i,i<n->k≠228500+i)->m k=mem k
def zB.dK {n i g:Nat}{cs:List M}{mem m:Mem}(h:zB n mem m)(O:i<n):zB n mem (a5 m (228500+i) g cs):=λk I=>by
 simp only[a5];rw[aa (I i O)];exact h k I
def zB.no {n j:Nat}{mem m:Mem}(h:zB n mem m)(aL:n<=6)(ae:j≠228)(hm:kh j mem):kh j m:=λk I=>by
 rw[h k λi O=>by omega]
 exact hm k I
def aFP (T:ba)(my:T pM=aK u4)(kL:T sa=aK v5){K:eK->bc->Prop}{kk:List fT}(ep:Mem)(a:dt)(p:Nat->Bool)(C7:a.Lg)(h:Nat->Rat)(hT:∀i,i<(D a.cash)->dH (h i))(tm:Nat->M)(m:Mem)
  (bH:(a.iM p).fj m) (bg:zB (D a.cash) ep m) (bx:tm 0=.ref 228023 a.g 1 0 (D a.cash)) (bt:tm 6=.H (.ax ((c8 (D a.cash) h).map az))) (ee:tm 8=.H (.bool false)) (x4:tm 28=.ref 228023 a.g 1 0 (D a.cash)) (Ft:tm 29=.H (.int .i64 (D a.cash))) (kK:tm 30=.H (.int .i64 0))
  (db:∀tm' m',tm' 0=.ref 228023 a.g 1 0 (D a.cash)->tm' 6=.H (.ax ((c8 (D a.cash) h).map az))->tm' 8=.H (.bool (wG (af a.cash a.cs) (a9 a.aJ) h p (D a.cash)))->(a.iM (iL (af a.cash a.cs) (a9 a.aJ) h p (D a.cash))).fj m'->zB (D a.cash) ep m'->cg T K kk (.exit 4) ⟨tm',m'⟩) :
  wp T (J6.body.sub [1,1,0,0,0,1,1,1,0,1,0]) (cg T K kk) ⟨tm,m⟩:=by
 simp only[J6,er.sub];obtain⟨R,du⟩:=C7;have aL:=R.jV
 refine dd [0,6,28,29] [] (λ(i:Nat) tm m=>i<=D a.cash/\tm 30=.H (.int .i64 i)/\tm 8=.H (.bool (wG (af a.cash a.cs) (a9 a.aJ) h p i))/\(a.iM (iL (af a.cash a.cs) (a9 a.aJ) h p i)).fj m/\zB (D a.cash) ep m) (λi=>D a.cash-i) 0 (by
  refine⟨by omega,kK,ee,?_,bg⟩
  have:a.iM (iL (af a.cash a.cs) (a9 a.aJ) h p 0)=a.iM p:=a.Lr λj _=>by
   unfold iL;rw[b7,e9,lT]
  rw[this];exact bH) ?_
 intro vs ms aQ aM;simp only[go_sem,go_sem_proc,bx,bt,x4,Ft] at aQ aM;subst aQ aM;clear bx bt ee x4 Ft kK bH bg tm m;rintro i tm m I-⟨O,kK,ee,bH,bg⟩;simp only[go_sem,go_sem_proc,bj] at I;obtain⟨bx,bt,x4,Ft⟩:=I;rcases dn (i<D a.cash) with ah|bW
 ·have d1:decide ((i:Int)<(D a.cash:Int))=true:=cX;have bF:=eI (i:=i) (by omega);have tT:a.aJ.getD i 10=(a9 a.aJ i:Int)/\a9 a.aJ i<=10:=dt.Qw (a:=a.iM (iL (af a.cash a.cs) (a9 a.aJ) h p i)) bH ⟨R,du⟩ ah;obtain⟨tT,u9⟩:=tT;have gj:m 228023=some (a.g,bA (D a.cash) λi => .ptr (228500+i) (a.gs.getD i 0) 0):=bH.row;have gv:m (228500+i)=some (a.gs.getD i 0,gi ((a.iM (iL (af a.cash a.cs) (a9 a.aJ) h p i)).hh i)):=bH.dU i ah;rw[dt.VT a _ ah,Vk] at gv;have k5:=x5 (ki (λi=>M.ptr (228500+i) (a.gs.getD i 0) 0) ah);have cm:(bA (D a.cash) λi=>M.ptr (228500+i) (a.gs.getD i 0) 0).length=D a.cash:=gB _ _;have cw:((a.hh i).sp (p i)).dJ:=⟨(a.zy i).dE,(a.zy i).us⟩;have hlen:=Fp cw;have p6:gT 1 (hl 22 (gi ((a.hh i).sp (p i))))=[dS (a9 a.aJ i:Int)]:=(Qt cw).trans (congrArg (λx=>[dS x]) tT);have x8:gT 1 (hl 23 (gi ((a.hh i).sp (p i))))=[iJ (p i)]:=aoR cw;have C5:=Qs cw (k:=a9 a.aJ i) (z:=bT a.cs i (a9 a.aJ i:Nat)) (ki _ (by omega));have fk:_=gi ((a.hh i).sp true):=aoS cw true;have lC:=bH.apI ah true;have aM:=aoj (af a.cash a.cs) (a9 a.aJ) h p i
  have ug:(p i=true\/p4 (af a.cash a.cs) (a9 a.aJ) h i=false)->a.iM (iL (af a.cash a.cs) (a9 a.aJ) h p (i+1))=a.iM (iL (af a.cash a.cs) (a9 a.aJ) h p i):=λa1=>a.Lr λj _=>by
   rw[ac3]
   by_cases ae:j=i
   ·subst ae;rw[Y rfl,Vk];rcases a1 with F|F
    ·rw[F];rfl
    ·rw[F,lT]
   ·rw[aa ae]
  have eN:i+1<=D a.cash:=by omega
  have aw:a9 a.aJ i<11:=by omega
  have cb:(11+a9 a.aJ i+1<=24)=True:=eq_true (by omega);have cR:(23+1<=24)=True:=eq_true (by omega);generalize Lp:(bA (D a.cash) λi=>M.ptr (228500+i) (a.gs.getD i 0) 0)=zz at *;have p7:228500+i=228500+i:=rfl;generalize wI:228500+i=eO at *;generalize QB:gi ((a.hh i).sp (p i))=DC at *;rcases d2:decide ((a9 a.aJ i:Int)<10)
  ·have iO:p4 (af a.cash a.cs) (a9 a.aJ) h i=false:=by
    unfold p4;rw[kM (by have:=of_decide_eq_false d2;omega),e9]
   rw[iO,iS,lT] at aM;refine ai ?_;repeat' (intro (ao:_=_)<;>simp only[ao,go_sem,go_sem_proc,bx,bt,ee,x4,Ft,kK,gj,gv,k5,cm,hlen,p6,d1,d2,bF,ah,eN,dS,iJ,dZ]<;>try refine ag ?_ ?_)
   exact⟨i+1,by omega,by omega,rfl,by rw[aM],by rw[ug (.inr iO)];exact bH,bg⟩
  ·rcases rf:p i
   ·rw[rf] at x8;have l2:=R.upto i (a9 a.aJ i);have oS:eJ (bT a.cs i (a9 a.aJ i:Nat)):=mQ (by omega) (by omega);have hw:=Fa _ oS;have lx:=Qb (hT i ah) (p5 oS);have iz:decide (lb (h i) ((bT a.cs i (a9 a.aJ i:Nat):Int):Rat)>0)=decide (((bT a.cs i (a9 a.aJ i:Nat):Int):Rat)<h i):=acM
    have b8:p4 (af a.cash a.cs) (a9 a.aJ) h i=decide (((bT a.cs i (a9 a.aJ i:Nat):Int):Rat)<h i):=by
     unfold p4;rw[qS R.right,hN (show a9 a.aJ i<10 by have:=of_decide_eq_true d2;omega),fN]
    rw[<-b8] at iz;have tQ:=rL h ah;generalize Vl:av (h i)=gR at *;generalize iU:av ((bT a.cs i (a9 a.aJ i:Nat):Int):Rat)=b2 at *;obtain⟨⟨cQ,dN⟩,⟨gy,g3⟩⟩:=b2;obtain⟨⟨cz,cY⟩,⟨eA,eQ⟩⟩:=gR;simp only[az] at hw lx;rcases iO:p4 (af a.cash a.cs) (a9 a.aJ) h i
    ·rw[iO] at iz;rw[rf,iO,iS,lT] at aM;refine ai ?_;repeat' (intro (ao:_=_)<;>simp only[ao,go_sem,go_sem_proc,my,kL,bx,bt,ee,x4,Ft,kK,gj,gv,k5,cm,hlen,p6,x8,C5,d1,d2,bF,ah,eN,aw,cb,hw,lx,iz,tQ,az,dS,iJ,dZ,cA,b3,al,bm]<;>try refine ag ?_ ?_)
     exact⟨i+1,by omega,by omega,rfl,by rw[aM],by rw[ug (.inr iO)];exact bH,bg⟩
    ·rw[iO] at iz;rw[rf,iO,cA,fN,se] at aM
     have hC:a.iM (iL (af a.cash a.cs) (a9 a.aJ) h p (i+1))=a.iM λj=>if j=i then true else iL (af a.cash a.cs) (a9 a.aJ) h p i j:=a.Lr λj _=>by
      rw[ac3,iO,se]
     rw[<-hC] at lC;have jB:=bg.dK (g:=a.gs.getD i 0) (cs:=gi ((a.hh i).sp true)) ah;rw[wI] at jB;refine ai ?_;repeat' (intro (ao:_=_)<;>simp only[ao,go_sem,go_sem_proc,my,kL,bx,bt,ee,x4,Ft,kK,gj,gv,k5,cm,hlen,p6,x8,C5,fk,d1,d2,bF,ah,eN,aw,cb,cR,hw,lx,iz,tQ,az,dS,iJ,dZ,cA,b3,al,bm]<;>try refine ag ?_ ?_)
     exact⟨i+1,by omega,by omega,rfl,by rw[aM],lC,jB⟩
   ·rw[rf] at x8;rw[rf,b3,e9,lT] at aM;refine ai ?_;repeat' (intro (ao:_=_)<;>simp only[ao,go_sem,go_sem_proc,bx,bt,ee,x4,Ft,kK,gj,gv,k5,cm,hlen,p6,x8,d1,d2,bF,ah,eN,dS,iJ,dZ,b3]<;>try refine ag ?_ ?_)
    exact⟨i+1,by omega,by omega,rfl,by rw[aM],by rw[ug (.inl rf)];exact bH,bg⟩
 ·have d1:decide ((i:Int)<(D a.cash:Int))=false:=b7;obtain rfl:i=D a.cash:=by omega
  refine ai ?_;repeat' (intro (ao:_=_)<;>simp only[ao,go_sem,go_sem_proc,bx,bt,ee,x4,Ft,kK,d1]<;>try refine ag ?_ ?_)
  refine db _ _ ?_ ?_ ?_ bH bg<;>simp only[dC,cE,if_false,bx,bt,ee]
structure adE (a:dt) (mem:Mem):Prop where
 at_:a.fj mem
 hB:kh 248 mem
 ib:kh 255 mem
 oR:kh 256 mem
 Lh:a.Lg
 inv:∃g,Inv (af a.cash a.cs) (a9 a.aJ) g
def VU (a:dt)(mem:Mem):M->Mem->Prop:=λm mem'=>m=.dj [.H (.ax ((c8 (D a.cash) ((af a.cash a.cs).top (a9 a.aJ))).map az)),.H (.bool true)]/\∃p,(a.iM p).fj mem'/\zB (D a.cash) mem mem'
def Ls:List M->Mem->Option (M->Mem->Prop):=AE (λ(a:dt) args mem=>args=[.ref 228023 a.g 1 0 (D a.cash)]/\adE a mem) VU
def aFQ (a:dt)(mem:Mem)(h:adE a mem):Ls [.ref 228023 a.g 1 0 (D a.cash)] mem=some (VU a mem):=by
 refine acP (a:=a) ?_ ⟨rfl,h⟩;rintro a b args mem ⟨au,aC⟩ ⟨bN,bK⟩;rw[dt.uniq aC.at_ bK.at_]
def aFR (T:ba)(aFS:T YW=po ady)(my:T pM=aK u4)(kL:T sa=aK v5)(a:dt)(mem:Mem)(aZ:adE a mem):
  wp T J6.body (oJ J6.res (VU a mem)) ⟨kq [.ref 228023 a.g 1 0 (D a.cash)],mem⟩:=by
 obtain⟨apJ,hB,ib,oR,C7,vA,hinv⟩:=aZ;have R:=C7.wF;have aL:=R.jV;have Z:=R.ok;refine ra ?_;simp only[J6];simp only[go_sem,go_sem_proc]
 refine dd [0,11,12] [] (λ(i:Nat) tm m=>i<=D a.cash/\tm 13=.H (.int .i64 i)/\(a.iM λj=>if j<i then false else a.P.getD j false).fj m/\zB (D a.cash) mem m) (λi=>D a.cash-i) 0 (by
  refine⟨by omega,rfl,?_,λ_ _=>rfl⟩
  have:(a.iM λj=>if j<0 then false else a.P.getD j false)=a:=(a.Lr λj _=>by rw[aa (by omega)]).trans (dt.aFO apJ.pl);rw[this];exact apJ) ?_
 intro vs ms aQ aM;simp only[go_sem,go_sem_proc] at aQ aM;subst aQ aM;rintro i tm m I-⟨O,ij,bH,bg⟩;simp only[go_sem,go_sem_proc,bj] at I;obtain⟨bx,lD,gf⟩:=I;rcases dn (i<D a.cash) with ah|bW
 ·have d1:decide ((i:Int)<(D a.cash:Int))=true:=cX;have bF:=eI (i:=i) (by omega);have gj:m 228023=some (a.g,bA (D a.cash) λi => .ptr (228500+i) (a.gs.getD i 0) 0):=bH.row;have gv:m (228500+i)=some (a.gs.getD i 0,_):=bH.dU i ah;rw[dt.VT a _ ah] at gv;have k5:=x5 (ki (λi=>M.ptr (228500+i) (a.gs.getD i 0) 0) ah);have cm:(bA (D a.cash) λi=>M.ptr (228500+i) (a.gs.getD i 0) 0).length=D a.cash:=gB _ _;have cw:((a.hh i).sp (if i<i then false else a.P.getD i false)).dJ:=⟨(a.zy i).dE,(a.zy i).us⟩;have hlen:=Fp cw;have fk:_=gi ((a.hh i).sp false):=aoS cw false;have lC:=bH.apI ah false;have jB:=bg.dK (g:=a.gs.getD i 0) (cs:=gi ((a.hh i).sp false)) ah
  have hC:(a.iM λj=>if j<i+1 then false else a.P.getD j false)=a.iM λj=>if j=i then false else if j<i then false else a.P.getD j false:=a.Lr λj _=>by
   by_cases F:j=i
   ·rw[Y F,Y (by omega)]
   ·rw[aa F]
    by_cases G:j<i
    ·rw[Y G,Y (by omega)]
    ·rw[aa G,aa (by omega)]
  rw[<-hC] at lC;have eN:i+1<=D a.cash:=by omega
  have cR:(23+1<=24)=True:=eq_true (by omega);generalize Lp:(bA (D a.cash) λi=>M.ptr (228500+i) (a.gs.getD i 0) 0)=zz at *;generalize wI:228500+i=eO at *;generalize QB:gi ((a.hh i).sp (if i<i then false else a.P.getD i false))=DC at *;refine ai ?_;repeat' (intro (ao:_=_)<;>simp only[ao,go_sem,go_sem_proc,bx,lD,gf,ij,gj,gv,k5,cm,hlen,fk,d1,bF,ah,eN,cR,dS,iJ,dZ]<;>try refine ag ?_ ?_)
  exact⟨i+1,by omega,by omega,rfl,lC,jB⟩
 ·have d1:decide ((i:Int)<(D a.cash:Int))=false:=b7;obtain rfl:i=D a.cash:=by omega
  have hC:(a.iM λj=>if j<(D a.cash) then false else a.P.getD j false)=a.iM λ_=>false:=a.Lr λj ae=>by rw[Y ae]
  rw[hC] at bH;simp only[go_sem,go_sem_proc,bx,lD,gf,ij,d1]
  refine dd [0] [] (λ(p:Nat->Bool) tm m=>(a.iM p).fj m/\zB (D a.cash) mem m/\sF (af a.cash a.cs) (a9 a.aJ) (dB (fI (D a.cash) p))) (λp=>kG (D a.cash) λi=>if p i then 0 else 1) (λ_=>false) (by
   refine⟨bH,bg,?_⟩;rw[aom];exact⟨Z,vA,hinv,jz.first Z hinv⟩) ?_
  intro vs ms aQ aM;simp only[go_sem,go_sem_proc,bx] at aQ aM;subst aQ aM;clear bx lD gf ij bg bH;rintro p tm m bx-⟨bH,bg,iK⟩;simp only[go_sem,go_sem_proc,bj] at bx;have fA:=aFB (a.iM p) m ⟨bH,bg.no aL (by decide) hB,bg.no aL (by decide) ib,bg.no aL (by decide) oR,⟨C7.wF,C7.du⟩,iK⟩;have fO:VS (a.iM p)=.dj [.ax ((c8 (D a.cash) ((af a.cash a.cs).e5 (a9 a.aJ) (dB (fI (D a.cash) p)))).map az),.bool true]:=rfl;rw[fO,show (a.iM p).g=a.g from rfl,show (a.iM p).cash=a.cash from rfl] at fA;simp only[go_sem,go_sem_proc,aFS,bx,fA,b3];refine aFP T my kL m a p C7 ((af a.cash a.cs).e5 (a9 a.aJ) (dB (fI (D a.cash) p))) (λi O=>hU (acB R iK O) (by omega)) _ _ bH (λ_ _=>rfl) ?_ ?_ ?_ ?_ ?_ ?_ ?_
  all_goals first|(intro C2 bU eU fv k9 BF jB)|(simp only[dC,cE,if_false,if_true,bx];done)
  obtain⟨cw,cU,nV,GW⟩:=iK;rcases hm:wG (af a.cash a.cs) (a9 a.aJ) ((af a.cash a.cs).e5 (a9 a.aJ) (dB (fI (D a.cash) p))) p (D a.cash)
  ·rw[hm] at k9;have SS:=GW.acr Z nV λi O F G=>Ql.2 ⟨O,aoo hm O F G⟩;rw[xS (N:=D a.cash) SS] at fv;refine ai ?_;repeat' (intro (ao:_=_)<;>simp only[ao,go_sem,go_sem_proc,eU,fv,k9,cA]<;>try refine ag ?_ ?_)
   exact⟨_,rfl,rfl,_,BF,λk I=>(jB k I).trans (bg k I)⟩
  ·rw[hm] at k9;refine ai ?_;repeat' (intro (ao:_=_)<;>simp only[ao,go_sem,go_sem_proc,eU,fv,k9,b3]<;>try refine ag ?_ ?_)
   refine⟨_,aon hm,BF,λk I=>(jB k I).trans (bg k I),?_⟩;have yZ:=aol (d:=af a.cash a.cs) (f:=a9 a.aJ) (h:=(af a.cash a.cs).e5 (a9 a.aJ) (dB (fI (D a.cash) p))) (p:=p);have lv:(af a.cash a.cs).n=D a.cash:=rfl;rw[lv] at yZ;rw[yZ];exact⟨Z,cU,nV,GW.succ Z nV⟩
end Go.Mini
