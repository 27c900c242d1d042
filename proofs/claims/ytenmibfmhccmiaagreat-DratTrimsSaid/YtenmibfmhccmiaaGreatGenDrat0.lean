/- The functions that the statements reach, printed as what the frame asks of them, each checked by the kernel against the loaded text. -/
import Derived.Test.YtenmibfmhccmiaaGreatProg
import Derived.Test.YtenmibfmhccmiaaGreatFwDefer
set_option linter.unusedVariables false
set_option linter.unusedSimpArgs false
namespace Go.Proofs.YtenmibfmhccmiaaGreat.W
open Go Go.Fw Go.Proofs
set_option maxRecDepth 100000
theorem mixed:Tryz.prog.follows .mixedOrders=true:=by kernel_rfl
abbrev fathomlaw08_DratTrims.id:FuncId:=7
abbrev fathomlaw08_small.id:FuncId:=13
abbrev fathomlaw08_awake.id:FuncId:=14
abbrev fathomlaw08_may.id:FuncId:=15
abbrev drat_Plain.id:FuncId:=16
abbrev drat_Find.id:FuncId:=18
abbrev fathomlaw07_Small.id:FuncId:=21
abbrev fathomref01_Cnf.id:FuncId:=23
abbrev fathomref01_May.id:FuncId:=24
abbrev drat_Check.id:FuncId:=27
abbrev drat_Trim.id:FuncId:=28
abbrev rup_Proves.id:FuncId:=32
abbrev fathomref01_Sat.id:FuncId:=33
abbrev fathomref01_Holds.id:FuncId:=43
abbrev fathomref04_May.id:FuncId:=44
abbrev fathomlaw04_Light.id:FuncId:=46
abbrev fathomref01_Has.id:FuncId:=47
abbrev lit_CheckCnf.id:FuncId:=48
abbrev trace_Check.id:FuncId:=49
abbrev drat_end.id:FuncId:=50
abbrev drat_greatest.id:FuncId:=51
abbrev drat_sources.id:FuncId:=52
abbrev drat_gone.id:FuncId:=53
abbrev rup_Unit.id:FuncId:=54
abbrev drat_clauses.id:FuncId:=55
abbrev slices_Clone_fathom_drat_source_fathom_drat_source.id:FuncId:=59
abbrev drat_needs.id:FuncId:=60
abbrev fathomlaw01_Light.id:FuncId:=61
abbrev lit_Check.id:FuncId:=62
abbrev fathomref01_Var.id:FuncId:=63
abbrev fathomref01_Lit.id:FuncId:=64
abbrev drat_rising.id:FuncId:=67
abbrev slices_ContainsFunc_int_int.id:FuncId:=68
abbrev drat_Check_1.id:FuncId:=69
abbrev slices_Clone_int_int.id:FuncId:=70
abbrev rup_begin.id:FuncId:=73
abbrev rup_base_do.id:FuncId:=74
abbrev fathomref01_Model.id:FuncId:=75
abbrev prop_New.id:FuncId:=76
abbrev prop_Prop_Run.id:FuncId:=79
abbrev slices_Clone_int_int_85.id:FuncId:=85
abbrev fathomref01_Clause.id:FuncId:=86
abbrev lit_CheckCnf_1.id:FuncId:=88
abbrev lit_amount.id:FuncId:=89
abbrev trace_Check_1.id:FuncId:=91
abbrev drat_end_1.id:FuncId:=93
abbrev lit_Norm.id:FuncId:=94
abbrev drat_gone_1.id:FuncId:=96
abbrev slices_Equal_int_int.id:FuncId:=97
abbrev slices_Delete_fathom_drat_source_fathom_drat_source.id:FuncId:=98
abbrev rup_may.id:FuncId:=99
abbrev rup_base_unit.id:FuncId:=100
abbrev drat_coded.id:FuncId:=103
abbrev drat_tester_at.id:FuncId:=104
abbrev prop_Prop_Drop.id:FuncId:=105
abbrev prop_Prop_Add.id:FuncId:=106
abbrev lit_Check_1.id:FuncId:=108
abbrev lit_is.id:FuncId:=109
abbrev slices_IndexFunc_int_int.id:FuncId:=112
abbrev rup_base_note.id:FuncId:=113
abbrev rup_base_anew.id:FuncId:=114
abbrev rup_base_drop.id:FuncId:=115
abbrev rup_base_first.id:FuncId:=116
abbrev rup_base_add.id:FuncId:=117
abbrev prop_Prop_loosely.id:FuncId:=118
abbrev prop_side.id:FuncId:=119
abbrev prop_Prop_visit.id:FuncId:=120
abbrev prop_Prop_Value.id:FuncId:=122
abbrev prop_Prop_Decide.id:FuncId:=123
abbrev fathomref01_Value.id:FuncId:=133
abbrev slices_SortFunc_int_int.id:FuncId:=135
abbrev lit_before.id:FuncId:=136
abbrev slices_Compact_int_int.id:FuncId:=137
abbrev prop_Prop_Back.id:FuncId:=138
abbrev rup_base_code.id:FuncId:=139
abbrev prop_Prop_there.id:FuncId:=141
abbrev prop_Prop_val.id:FuncId:=142
abbrev prop_amount.id:FuncId:=143
abbrev prop_Prop_unwatch.id:FuncId:=144
abbrev slices_DeleteFunc_int_int.id:FuncId:=145
abbrev prop_Prop_Drop_1.id:FuncId:=146
abbrev prop_Prop_Add_1.id:FuncId:=147
abbrev prop_Prop_is.id:FuncId:=148
abbrev prop_Prop_settle.id:FuncId:=149
abbrev slices_Delete_int_int.id:FuncId:=150
abbrev slices_Contains_int_int.id:FuncId:=151
abbrev prop_Prop_loosely_1.id:FuncId:=153
abbrev prop_Prop_again.id:FuncId:=154
abbrev prop_Prop_put.id:FuncId:=155
abbrev slices_pdqsortCmpFunc_int.id:FuncId:=177
abbrev bits_Len.id:FuncId:=178
abbrev prop_Prop_unwatch_1.id:FuncId:=179
abbrev prop_Prop_rank.id:FuncId:=180
abbrev slices_Index_int_int.id:FuncId:=181
abbrev slices_insertionSortCmpFunc_int.id:FuncId:=204
abbrev slices_heapSortCmpFunc_int.id:FuncId:=205
abbrev slices_breakPatternsCmpFunc_int.id:FuncId:=206
abbrev slices_choosePivotCmpFunc_int.id:FuncId:=207
abbrev slices_reverseRangeCmpFunc_int.id:FuncId:=208
abbrev slices_partialInsertionSortCmpFunc_int.id:FuncId:=209
abbrev slices_partitionEqualCmpFunc_int.id:FuncId:=210
abbrev slices_partitionCmpFunc_int.id:FuncId:=211
abbrev bits_Len64.id:FuncId:=213
abbrev slices_siftDownCmpFunc_int.id:FuncId:=218
abbrev slices_nextPowerOfTwo.id:FuncId:=219
abbrev slices_xorshift_Next.id:FuncId:=220
abbrev slices_medianAdjacentCmpFunc_int.id:FuncId:=221
abbrev slices_medianCmpFunc_int.id:FuncId:=222
abbrev slices_order2CmpFunc_int.id:FuncId:=223
abbrev ty_int:TypeId:=3
abbrev ty_bool:TypeId:=4
abbrev ty_sl_sl_int:TypeId:=22
abbrev ty_api_Cnf:TypeId:=24
abbrev ty_sl_api_Step:TypeId:=25
abbrev ty_sl_int:TypeId:=28
abbrev ty_api_Step:TypeId:=48
abbrev ty_sl_drat_source:TypeId:=74
abbrev ty_drat_source:TypeId:=79
abbrev ty_sl_sl_drat_source:TypeId:=83
abbrev ty_drat_origin:TypeId:=86
abbrev ty_map_drat_origin_bool:TypeId:=87
abbrev ty_map_int_int:TypeId:=133
abbrev ty_map_int_sl_int:TypeId:=140
abbrev ty_sl_int8:TypeId:=144
abbrev ty_sl_prop_clause:TypeId:=145
abbrev ty_prop_Prop:TypeId:=147
abbrev ty_prop_clause:TypeId:=151
abbrev ty_int8:TypeId:=166
def strtab0:ByteArray:=(ByteArray.mk #[0,1,2,2,3,3,3,3,4,4,4,4,4,4,4,4,5,5,5,5,5,5,5,5,5,5,5,5,5,5,5,5,6,6,6,6,6,6,6,6,6,6,6,6,6,6,6,6,6,6,6,6,6,6,6,6,6,6,6,6,6,6,6,6,7,7,7,7,7,7,7,7,7,7,7,7,7,7,7,7,7,7,7,7,7,7,7,7,7,7,7,7,7,7,7,7,7,7,7,7,7,7,7,7,7,7,7,7,7,7,7,7,7,7,7,7,7,7,7,7,7,7,7,7,7,7,7,7,8,8,8,8,8,8,8,8,8,8,8,8,8,8,8,8,8,8,8,8,8,8,8,8,8,8,8,8,8,8,8,8,8,8,8,8,8,8,8,8,8,8,8,8,8,8,8,8,8,8,8,8,8,8,8,8,8,8,8,8,8,8,8,8,8,8,8,8,8,8,8,8,8,8,8,8,8,8,8,8,8,8,8,8,8,8,8,8,8,8,8,8,8,8,8,8,8,8,8,8,8,8,8,8,8,8,8,8,8,8,8,8,8,8,8,8,8,8,8,8,8,8,8,8,8,8,8,8])
def fathomlaw08_DratTrims.w (f_0:Int) (f_1_p:Option Addr) (f_1_n:Nat) (f_1_c:Nat) (l__p:Option Addr) (l__n:Nat) (l__c:Nat) (w:World) (K:Value→World→Prop):Prop:=
 ∀ (n1:Nat) (w2:World),New (.cells #[.int .i64 f_0,.slice f_1_p f_1_n f_1_c] 24) w n1 w2→
 ∃x3 x4_p x4_n x4_c,CellsAt w2 (Addr.mk n1 0 none) 0 [.int .i64 x3,.slice x4_p x4_n x4_c]∧
 Calls Tryz.prog 13 #[.agg #[.int .i64 x3,.slice x4_p x4_n x4_c],.slice l__p l__n l__c] w2 fun e w5=> ∃r6,e= .returned (.bool r6)∧
 cnd (!r6)
 (Calls Tryz.prog 14 #[] w5 fun e w7=> ∃r8,e= .returned (.bool r8)∧
 K (.bool r8) w7)
 (∃x9 x10_p x10_n x10_c,CellsAt w5 (Addr.mk n1 0 none) 0 [.int .i64 x9,.slice x10_p x10_n x10_c]∧
 Calls Tryz.prog 15 #[.agg #[.int .i64 x9,.slice x10_p x10_n x10_c],.slice l__p l__n l__c] w5 fun e w11=> ∃r12,e= .returned (.bool r12)∧
 cnd (!r12)
 (Calls Tryz.prog 14 #[] w11 fun e w13=> ∃r14,e= .returned (.bool r14)∧
 K (.bool r14) w13)
 (∃x15,w11.cell? ((Addr.mk n1 0 none).add 0)=some (.int .i64 x15)∧
 cnd (decide (x15> (8:Int)))
 (Calls Tryz.prog 14 #[] w11 fun e w16=> ∃r17,e= .returned (.bool r17)∧
   K (.bool r17) w16)
 (∃x18 x19_p x19_n x19_c,CellsAt w11 (Addr.mk n1 0 none) 0 [.int .i64 x18,.slice x19_p x19_n x19_c]∧
   Calls Tryz.prog 18 #[.agg #[.int .i64 x18,.slice x19_p x19_n x19_c],.slice l__p l__n l__c] w11 fun e w20=> ∃r21_p r21_n r21_c r22_p r22_n r22_c r23,e= .returned (.tuple #[.agg #[.slice r21_p r21_n r21_c,.slice r22_p r22_n r22_c],.int .i64 r23])∧
   ∀ (n24:Nat) (w25:World),New (.cells #[.slice none 0 0,.slice none 0 0] 30) w20 n24 w25→
   ∃w26,StoreAt (Addr.mk n24 0 none) 0 [.slice r21_p r21_n r21_c,.slice r22_p r22_n r22_c] w25 w26∧
   cnd (r23 !=(0:Int))
   (Calls Tryz.prog 14 #[] w26 fun e w27=> ∃r28,e= .returned (.bool r28)∧
     K (.bool r28) w27)
   (∃x29 x30_p x30_n x30_c,CellsAt w26 (Addr.mk n1 0 none) 0 [.int .i64 x29,.slice x30_p x30_n x30_c]∧
     ∃x31_p x31_n x31_c x32_p x32_n x32_c,CellsAt w26 (Addr.mk n24 0 none) 0 [.slice x31_p x31_n x31_c,.slice x32_p x32_n x32_c]∧
     Calls Tryz.prog 28 #[.agg #[.int .i64 x29,.slice x30_p x30_n x30_c],.slice l__p l__n l__c,.agg #[.slice x31_p x31_n x31_c,.slice x32_p x32_n x32_c]] w26 fun e w33=> ∃r34 r35_p r35_n r35_c r36_p r36_n r36_c r37,e= .returned (.tuple #[.agg #[.int .i64 r34,.slice r35_p r35_n r35_c],.slice r36_p r36_n r36_c,.int .i64 r37])∧
     ∀ (n38:Nat) (w39:World),New (.cells #[.int .i64 0,.slice none 0 0] 24) w33 n38 w39→
     ∃w40,StoreAt (Addr.mk n38 0 none) 0 [.int .i64 r34,.slice r35_p r35_n r35_c] w39 w40∧
     ∃x41 x42_p x42_n x42_c,CellsAt w40 (Addr.mk n38 0 none) 0 [.int .i64 x41,.slice x42_p x42_n x42_c]∧
     Calls Tryz.prog 32 #[.agg #[.int .i64 x41,.slice x42_p x42_n x42_c],.slice r36_p r36_n r36_c] w40 fun e w43=> ∃r44 r45,e= .returned (.tuple #[.int .i64 r44,.int .i64 r45])∧
     ∃x46 x47_p x47_n x47_c,CellsAt w43 (Addr.mk n38 0 none) 0 [.int .i64 x46,.slice x47_p x47_n x47_c]∧
     Calls Tryz.prog 33 #[.agg #[.int .i64 x46,.slice x47_p x47_n x47_c]] w43 fun e w48=> ∃r49_p r49_n r49_c r50,e= .returned (.tuple #[.slice r49_p r49_n r49_c,.bool r50])∧
     cnd (r37==(0:Int))
     (cnd (r45==(0:Int))
     (cnd (decide (r44< (r36_n:Int)))
     (cnd (!r50)
     (∃x51_p x51_n x51_c,w48.cell? ((Addr.mk n38 0 none).add 1)=some (.slice x51_p x51_n x51_c)∧
     ∃x52_p x52_n x52_c,w48.cell? ((Addr.mk n1 0 none).add 1)=some (.slice x52_p x52_n x52_c)∧
     cnd (decide ((x51_n:Int)≤(x52_n:Int)))
     (Calls Tryz.prog 14 #[] w48 fun e w53=> ∃r54,e= .returned (.bool r54)∧
     K (.bool r54) w53)
     (K (.bool false) w48))
     (K (.bool false) w48))
     (K (.bool false) w48))
     (K (.bool false) w48))
     (K (.bool false) w48)))))
theorem fathomlaw08_DratTrims.calls {f_0 f_1_p f_1_n f_1_c l__p l__n l__c w R} (h:fathomlaw08_DratTrims.w f_0 f_1_p f_1_n f_1_c l__p l__n l__c w fun v w'=>R (.returned v) w'):Calls Tryz.prog 7 #[.agg #[.int .i64 f_0,.slice f_1_p f_1_n f_1_c],.slice l__p l__n l__c] w R:=
 calls_of mixed Tryz.func7 (by kernel_rfl) rfl (ann:= .leaf) (F:=fathomlaw08_DratTrims.w f_0 f_1_p f_1_n f_1_c l__p l__n l__c w) (fun K=>by kernel_rfl) h
def fathomlaw08_small.w (f_0:Int) (f_1_p:Option Addr) (f_1_n:Nat) (f_1_c:Nat) (l__p:Option Addr) (l__n:Nat) (l__c:Nat) (w:World) (K:Value→World→Prop):Prop:=
 ∀ (n1:Nat) (w2:World),New (.cells #[.int .i64 f_0,.slice f_1_p f_1_n f_1_c] 24) w n1 w2→
 ∃x3 x4_p x4_n x4_c,CellsAt w2 (Addr.mk n1 0 none) 0 [.int .i64 x3,.slice x4_p x4_n x4_c]∧
 Calls Tryz.prog 21 #[.agg #[.int .i64 x3,.slice x4_p x4_n x4_c]] w2 fun e w5=> ∃r6,e= .returned (.bool r6)∧
 cnd r6
 (Calls Tryz.prog 46 #[.slice l__p l__n l__c] w5 fun e w7=> ∃r8,e= .returned (.bool r8)∧
 cnd r8
 (K (.bool (decide ((l__n:Int)≤(20:Int)))) w7)
 (K (.bool false) w7))
 (K (.bool false) w5)
theorem fathomlaw08_small.calls {f_0 f_1_p f_1_n f_1_c l__p l__n l__c w R} (h:fathomlaw08_small.w f_0 f_1_p f_1_n f_1_c l__p l__n l__c w fun v w'=>R (.returned v) w'):Calls Tryz.prog 13 #[.agg #[.int .i64 f_0,.slice f_1_p f_1_n f_1_c],.slice l__p l__n l__c] w R:=
 calls_of mixed Tryz.func13 (by kernel_rfl) rfl (ann:= .leaf) (F:=fathomlaw08_small.w f_0 f_1_p f_1_n f_1_c l__p l__n l__c w) (fun K=>by kernel_rfl) h
def fathomlaw08_awake.w (w:World) (K:Value→World→Prop):Prop:=
 ∀ (n1:Nat) (w2:World),New (.cells #[.int .i64 1,.int .i64 2] 3) w n1 w2→
 ∀ (n3:Nat) (w4:World),New (.cells #[.int .i64 (-1),.int .i64 2] 3) w2 n3 w4→
 ∀ (n5:Nat) (w6:World),New (.cells #[.int .i64 (-2)] 3) w4 n5 w6→
 ∀ (n7:Nat) (w8:World),New (.cells #[.int .i64 3] 3) w6 n7 w8→
 ∀ (n9:Nat) (w10:World),New (.cells #[.slice (some (Addr.mk n1 0 none)) 2 2,.slice (some (Addr.mk n3 0 none)) 2 2,.slice (some (Addr.mk n5 0 none)) 1 1,.slice (some (Addr.mk n7 0 none)) 1 1] 28) w8 n9 w10→
 ∀ (n11:Nat) (w12:World),New (.cells #[.int .i64 0,.slice none 0 0] 24) w10 n11 w12→
 ∃w13,StoreAt (Addr.mk n11 0 none) 0 [.int .i64 3,.slice (some (Addr.mk n9 0 none)) 4 4] w12 w13∧
 ∃x14 x15_p x15_n x15_c,CellsAt w13 (Addr.mk n11 0 none) 0 [.int .i64 x14,.slice x15_p x15_n x15_c]∧
 ∀ (n16:Nat) (w17:World),New (.cells #[.int .i64 2] 3) w13 n16 w17→
 ∀ (n18:Nat) (w19:World),New (.cells #[.bool false,.slice (some (Addr.mk n16 0 none)) 1 1,.bool false,.slice none 0 0] 48) w17 n18 w19→
 Calls Tryz.prog 18 #[.agg #[.int .i64 x14,.slice x15_p x15_n x15_c],.slice (some (Addr.mk n18 0 none)) 2 2] w19 fun e w20=> ∃r21_p r21_n r21_c r22_p r22_n r22_c r23,e= .returned (.tuple #[.agg #[.slice r21_p r21_n r21_c,.slice r22_p r22_n r22_c],.int .i64 r23])∧
 ∀ (n24:Nat) (w25:World),New (.cells #[.slice none 0 0,.slice none 0 0] 30) w20 n24 w25→
 ∃w26,StoreAt (Addr.mk n24 0 none) 0 [.slice r21_p r21_n r21_c,.slice r22_p r22_n r22_c] w25 w26∧
 cnd (r23==(0:Int))
 (∃x27_p x27_n x27_c,w26.cell? ((Addr.mk n24 0 none).add 0)=some (.slice x27_p x27_n x27_c)∧
 Calls Tryz.prog 47 #[.slice x27_p x27_n x27_c,.int .i64 3] w26 fun e w28=> ∃r29,e= .returned (.bool r29)∧
 cnd (!r29)
 (∃x30_p x30_n x30_c,w28.cell? ((Addr.mk n24 0 none).add 0)=some (.slice x30_p x30_n x30_c)∧
 Calls Tryz.prog 47 #[.slice x30_p x30_n x30_c,.int .i64 2] w28 fun e w31=> ∃r32,e= .returned (.bool r32)∧
 cnd r32
 (∃x33_p x33_n x33_c,w31.cell? ((Addr.mk n24 0 none).add 1)=some (.slice x33_p x33_n x33_c)∧
 Calls Tryz.prog 47 #[.slice x33_p x33_n x33_c,.int .i64 1] w31 fun e w34=> ∃r35,e= .returned (.bool r35)∧
 K (.bool r35) w34)
 (K (.bool false) w31))
 (K (.bool false) w28))
 (K (.bool false) w26)
theorem fathomlaw08_awake.calls {w R} (h:fathomlaw08_awake.w w fun v w'=>R (.returned v) w'):Calls Tryz.prog 14 #[] w R:=
 calls_of mixed Tryz.func14 (by kernel_rfl) rfl (ann:= .leaf) (F:=fathomlaw08_awake.w w) (fun K=>by kernel_rfl) h
def fathomlaw08_may.w (f_0:Int) (f_1_p:Option Addr) (f_1_n:Nat) (f_1_c:Nat) (l__p:Option Addr) (l__n:Nat) (l__c:Nat) (w:World) (K:Value→World→Prop):Prop:=
 ∀ (n1:Nat) (w2:World),New (.cells #[.int .i64 f_0,.slice f_1_p f_1_n f_1_c] 24) w n1 w2→
 ∃x3 x4_p x4_n x4_c,CellsAt w2 (Addr.mk n1 0 none) 0 [.int .i64 x3,.slice x4_p x4_n x4_c]∧
 Calls Tryz.prog 23 #[.agg #[.int .i64 x3,.slice x4_p x4_n x4_c]] w2 fun e w5=> ∃r6,e= .returned (.bool r6)∧
 cnd r6
 (Calls Tryz.prog 44 #[.slice l__p l__n l__c] w5 fun e w7=> ∃r8,e= .returned (.bool r8)∧
 K (.bool r8) w7)
 (K (.bool false) w5)
theorem fathomlaw08_may.calls {f_0 f_1_p f_1_n f_1_c l__p l__n l__c w R} (h:fathomlaw08_may.w f_0 f_1_p f_1_n f_1_c l__p l__n l__c w fun v w'=>R (.returned v) w'):Calls Tryz.prog 15 #[.agg #[.int .i64 f_0,.slice f_1_p f_1_n f_1_c],.slice l__p l__n l__c] w R:=
 calls_of mixed Tryz.func15 (by kernel_rfl) rfl (ann:= .leaf) (F:=fathomlaw08_may.w f_0 f_1_p f_1_n f_1_c l__p l__n l__c w) (fun K=>by kernel_rfl) h
def drat_Plain.w (f_0:Int) (f_1_p:Option Addr) (f_1_n:Nat) (f_1_c:Nat) (l__p:Option Addr) (l__n:Nat) (l__c:Nat) (w:World) (K:Value→World→Prop):Prop:=
 ∀ (n1:Nat) (w2:World),New (.cells #[.int .i64 f_0,.slice f_1_p f_1_n f_1_c] 24) w n1 w2→
 ∃x3 x4_p x4_n x4_c,CellsAt w2 (Addr.mk n1 0 none) 0 [.int .i64 x3,.slice x4_p x4_n x4_c]∧
 Calls Tryz.prog 48 #[.agg #[.int .i64 x3,.slice x4_p x4_n x4_c]] w2 fun e w5=> ∃r6,e= .returned (.int .i64 r6)∧
 cnd (r6 !=(0:Int))
 (K (.bool false) w5)
 (Calls Tryz.prog 49 #[.slice l__p l__n l__c] w5 fun e w7=> ∃r8,e= .returned (.int .i64 r8)∧
 cnd (r8 !=(0:Int))
 (K (.bool false) w7)
 (Calls Tryz.prog 50 #[.slice l__p l__n l__c] w7 fun e w9=> ∃r10,e= .returned (.int .i64 r10)∧
   cnd (decide (r10< (0:Int)))
   (K (.bool false) w9)
   (∃x11 x12_p x12_n x12_c,CellsAt w9 (Addr.mk n1 0 none) 0 [.int .i64 x11,.slice x12_p x12_n x12_c]∧
     Calls Tryz.prog 51 #[.agg #[.int .i64 x11,.slice x12_p x12_n x12_c],.slice l__p l__n l__c] w9 fun e w13=> ∃r14,e= .returned (.int .i64 r14)∧
     ∃x15 x16_p x16_n x16_c,CellsAt w13 (Addr.mk n1 0 none) 0 [.int .i64 x15,.slice x16_p x16_n x16_c]∧
     Calls Tryz.prog 52 #[.agg #[.int .i64 x15,.slice x16_p x16_n x16_c]] w13 fun e w17=> ∃r18_p r18_n r18_c,e= .returned (.slice r18_p r18_n r18_c)∧
     slK l__p l__n l__c 2 none (some (IntKind.i64.wrap (r10+ (1:Int)))) none fun s19_p s19_n s19_c=>
     ∃I20:Option Addr→Nat→Nat→Int→World→Nat→Prop,(∃k21,I20 r18_p r18_n r18_c 0 w17 k21)∧
     ∀ (have_23_p:Option Addr) (have_23_n:Nat) (have_23_c:Nat) (v24:Int) (w25:World) (k21:Nat) (_:Fr),I20 have_23_p have_23_n have_23_c v24 w25 k21→
     cnd (decide (v24< (s19_n:Int)))
      (ixK s19_p s19_n v24 2 fun a26=>
        ∃x27 x28_p x28_n x28_c,CellsAt w25 a26 0 [.bool x27,.slice x28_p x28_n x28_c]∧
        ∀ (n29:Nat) (w30:World),New (.cells #[.bool false,.slice none 0 0] 48) w25 n29 w30→
        ∃w31,StoreAt (Addr.mk n29 0 none) 0 [.bool x27,.slice x28_p x28_n x28_c] w30 w31∧
        ∃x32,w31.cell? ((Addr.mk n29 0 none).add 0)=some (.bool x32)∧
        cnd x32
        (∃x33_p x33_n x33_c,w31.cell? ((Addr.mk n29 0 none).add 1)=some (.slice x33_p x33_n x33_c)∧
          Calls Tryz.prog 53 #[.slice have_23_p have_23_n have_23_c,.slice x33_p x33_n x33_c] w31 fun e w34=> ∃r35_p r35_n r35_c,e= .returned (.slice r35_p r35_n r35_c)∧
          ∃k22,k22<k21∧I20 r35_p r35_n r35_c (IntKind.i64.wrap (v24+ (1:Int))) w34 k22)
        (∃W36:World→Prop,W36 w31.drew∧
          cnd (decide ((have_23_n:Int)≥(262144:Int)))
          (K (.bool false) w31.drew)
          (Calls Tryz.prog 55 #[.slice have_23_p have_23_n have_23_c] w31.drew fun e w37=> ∃r38_p r38_n r38_c,e= .returned (.slice r38_p r38_n r38_c)∧
          W36 w37∧∃x39_p x39_n x39_c,AtW W36 ((Addr.mk n29 0 none).add 1) (.slice x39_p x39_n x39_c)∧
          Calls Tryz.prog 54 #[.agg #[.int .i64 r14,.slice r38_p r38_n r38_c],.slice x39_p x39_n x39_c] w37 fun e w40=> ∃r41,e= .returned (.bool r41)∧
          cnd (!r41)
          (K (.bool false) w40)
          (∃x42_p x42_n x42_c,w40.cell? ((Addr.mk n29 0 none).add 1)=some (.slice x42_p x42_n x42_c)∧
            ∀ (n43:Nat) (w44:World),New (.cells #[.slice x42_p x42_n x42_c,.bool true,.int .i64 v24] 79) w40 n43 w44→
            ∃w45 r46_p r46_n r46_c,(Builtin.append_ #[74,74] 74 #[.slice have_23_p have_23_n have_23_c,.slice (some (Addr.mk n43 0 none)) 1 1]).run Tryz.prog w44= .ok (.slice r46_p r46_n r46_c) w45∧
            ∃k22,k22<k21∧I20 r46_p r46_n r46_c (IntKind.i64.wrap (v24+ (1:Int))) w45 k22))))
      (K (.bool true) w25))))
theorem drat_Plain.calls {f_0 f_1_p f_1_n f_1_c l__p l__n l__c w R} (h:drat_Plain.w f_0 f_1_p f_1_n f_1_c l__p l__n l__c w fun v w'=>R (.returned v) w'):Calls Tryz.prog 16 #[.agg #[.int .i64 f_0,.slice f_1_p f_1_n f_1_c],.slice l__p l__n l__c] w R:=
 calls_of mixed Tryz.func16 (by kernel_rfl) rfl (ann:=(.two .leaf (.two .leaf (.two .leaf (.two .leaf (.two .leaf (.two .leaf (.two (.two .leaf (.one (.loop [(7,74),(32,3)] (.two .leaf (.two .leaf (.two (.one (.two .leaf (.two .leaf (.two (.two .draw .leaf) .leaf)))) .leaf)))))) .leaf)))))))) (F:=drat_Plain.w f_0 f_1_p f_1_n f_1_c l__p l__n l__c w) (fun K=>by kernel_rfl) h
def drat_Find.w (f_0:Int) (f_1_p:Option Addr) (f_1_n:Nat) (f_1_c:Nat) (l__p:Option Addr) (l__n:Nat) (l__c:Nat) (w:World) (K:Value→World→Prop):Prop:=
 ∀ (n1:Nat) (w2:World),New (.cells #[.int .i64 f_0,.slice f_1_p f_1_n f_1_c] 24) w n1 w2→
 ∀ (n3:Nat) (w4:World),New (.cells #[.slice none 0 0,.slice none 0 0] 30) w2 n3 w4→
 ∃x5 x6_p x6_n x6_c,CellsAt w4 (Addr.mk n1 0 none) 0 [.int .i64 x5,.slice x6_p x6_n x6_c]∧
 Calls Tryz.prog 48 #[.agg #[.int .i64 x5,.slice x6_p x6_n x6_c]] w4 fun e w7=> ∃r8,e= .returned (.int .i64 r8)∧
 cnd (r8 !=(0:Int))
 (∃w9,StoreAt (Addr.mk n3 0 none) 0 [.slice none 0 0,.slice none 0 0] w7 w9∧
 ∃x10_p x10_n x10_c x11_p x11_n x11_c,CellsAt w9 (Addr.mk n3 0 none) 0 [.slice x10_p x10_n x10_c,.slice x11_p x11_n x11_c]∧
 K (.tuple #[.agg #[.slice x10_p x10_n x10_c,.slice x11_p x11_n x11_c],.int .i64 1]) w9)
 (Calls Tryz.prog 49 #[.slice l__p l__n l__c] w7 fun e w12=> ∃r13,e= .returned (.int .i64 r13)∧
 cnd (r13 !=(0:Int))
 (∃w14,StoreAt (Addr.mk n3 0 none) 0 [.slice none 0 0,.slice none 0 0] w12 w14∧
   ∃x15_p x15_n x15_c x16_p x16_n x16_c,CellsAt w14 (Addr.mk n3 0 none) 0 [.slice x15_p x15_n x15_c,.slice x16_p x16_n x16_c]∧
   K (.tuple #[.agg #[.slice x15_p x15_n x15_c,.slice x16_p x16_n x16_c],.int .i64 1]) w14)
 (∃x17 x18_p x18_n x18_c,CellsAt w12 (Addr.mk n1 0 none) 0 [.int .i64 x17,.slice x18_p x18_n x18_c]∧
   Calls Tryz.prog 16 #[.agg #[.int .i64 x17,.slice x18_p x18_n x18_c],.slice l__p l__n l__c] w12 fun e w19=> ∃r20,e= .returned (.bool r20)∧
   cnd (!r20)
   (∃w21,StoreAt (Addr.mk n3 0 none) 0 [.slice none 0 0,.slice none 0 0] w19 w21∧
     ∃x22_p x22_n x22_c x23_p x23_n x23_c,CellsAt w21 (Addr.mk n3 0 none) 0 [.slice x22_p x22_n x22_c,.slice x23_p x23_n x23_c]∧
     K (.tuple #[.agg #[.slice x22_p x22_n x22_c,.slice x23_p x23_n x23_c],.int .i64 4]) w21)
   (Calls Tryz.prog 50 #[.slice l__p l__n l__c] w19 fun e w24=> ∃r25,e= .returned (.int .i64 r25)∧
     ∃x26 x27_p x27_n x27_c,CellsAt w24 (Addr.mk n1 0 none) 0 [.int .i64 x26,.slice x27_p x27_n x27_c]∧
     Calls Tryz.prog 52 #[.agg #[.int .i64 x26,.slice x27_p x27_n x27_c]] w24 fun e w28=> ∃r29_p r29_n r29_c,e= .returned (.slice r29_p r29_n r29_c)∧
     slK l__p l__n l__c 2 none (some (IntKind.i64.wrap (r25+ (1:Int)))) none fun s30_p s30_n s30_c=>
     ∃I31:Option Addr→Nat→Nat→Option Addr→Nat→Nat→Int→World→Nat→Prop,(∃k32,I31 none 0 0 r29_p r29_n r29_c 0 w28 k32)∧
     ∀ (then_34_p:Option Addr) (then_34_n:Nat) (then_34_c:Nat) (have_35_p:Option Addr) (have_35_n:Nat) (have_35_c:Nat) (v36:Int) (w37:World) (k32:Nat) (_:Fr),I31 then_34_p then_34_n then_34_c have_35_p have_35_n have_35_c v36 w37 k32→
     cnd (decide (v36< (s30_n:Int)))
      (ixK s30_p s30_n v36 2 fun a38=>
        ∃x39 x40_p x40_n x40_c,CellsAt w37 a38 0 [.bool x39,.slice x40_p x40_n x40_c]∧
        ∀ (n41:Nat) (w42:World),New (.cells #[.bool false,.slice none 0 0] 48) w37 n41 w42→
        ∃w43,StoreAt (Addr.mk n41 0 none) 0 [.bool x39,.slice x40_p x40_n x40_c] w42 w43∧
        ∀ (n44:Nat) (w45:World),New (.cells #[.slice have_35_p have_35_n have_35_c] 74) w43 n44 w45→
        ∃w46 r47_p r47_n r47_c,(Builtin.append_ #[83,83] 83 #[.slice then_34_p then_34_n then_34_c,.slice (some (Addr.mk n44 0 none)) 1 1]).run Tryz.prog w45= .ok (.slice r47_p r47_n r47_c) w46∧
        ∃x48,w46.cell? ((Addr.mk n41 0 none).add 0)=some (.bool x48)∧
        cnd x48
        (∃x49_p x49_n x49_c,w46.cell? ((Addr.mk n41 0 none).add 1)=some (.slice x49_p x49_n x49_c)∧
          Calls Tryz.prog 53 #[.slice have_35_p have_35_n have_35_c,.slice x49_p x49_n x49_c] w46 fun e w50=> ∃r51_p r51_n r51_c,e= .returned (.slice r51_p r51_n r51_c)∧
          ∃k33,k33<k32∧I31 r47_p r47_n r47_c r51_p r51_n r51_c (IntKind.i64.wrap (v36+ (1:Int))) w50 k33)
        (∃W52:World→Prop,W52 w46.drew∧
          ∃x53_p x53_n x53_c,AtW W52 ((Addr.mk n41 0 none).add 1) (.slice x53_p x53_n x53_c)∧
          (Calls Tryz.prog 59 #[.slice have_35_p have_35_n have_35_c] w46.drew fun e w54=> ∃r55_p r55_n r55_c,e= .returned (.slice r55_p r55_n r55_c)∧
          W52 w54∧∀ (n56:Nat) (w57:World),New (.cells #[.slice x53_p x53_n x53_c,.bool true,.int .i64 v36] 79) w54 n56 w57→
          ∃w58 r59_p r59_n r59_c,(Builtin.append_ #[74,74] 74 #[.slice r55_p r55_n r55_c,.slice (some (Addr.mk n56 0 none)) 1 1]).run Tryz.prog w57= .ok (.slice r59_p r59_n r59_c) w58∧
          ∃k33,k33<k32∧I31 r47_p r47_n r47_c r59_p r59_n r59_c (IntKind.i64.wrap (v36+ (1:Int))) w58 k33)∧
        (∀ (n60:Nat) (w61:World),New (.cells #[.slice x53_p x53_n x53_c,.bool true,.int .i64 v36] 79) w46.drew n60 w61→
          Calls Tryz.prog 59 #[.slice have_35_p have_35_n have_35_c] w61 fun e w62=> ∃r63_p r63_n r63_c,e= .returned (.slice r63_p r63_n r63_c)∧
          W52 w62∧∃w64 r65_p r65_n r65_c,(Builtin.append_ #[74,74] 74 #[.slice r63_p r63_n r63_c,.slice (some (Addr.mk n60 0 none)) 1 1]).run Tryz.prog w62= .ok (.slice r65_p r65_n r65_c) w64∧
          ∃k33,k33<k32∧I31 r47_p r47_n r47_c r65_p r65_n r65_c (IntKind.i64.wrap (v36+ (1:Int))) w64 k33)))
      (∀ (n66:Nat) (w67:World),New (.map #[] 0) w37 n66 w67→
        ∃w68,(Instr.mapUpdate 87 (.map (some n66)) (.agg #[.bool true,.int .i64 r25]) (.bool true)).run Tryz.prog w67= .ok () w68∧
        ∃I69:Int→World→Nat→Prop,(∃k70,I69 r25 w68 k70)∧
        ∀ (i_72:Int) (w73:World) (k70:Nat) (_:Fr),I69 i_72 w73 k70→
        cnd (decide (i_72≥(0:Int)))
         (∃w74 r75,(Instr.lookup 87 (.map (some n66)) (.agg #[.bool true,.int .i64 i_72]) false).run Tryz.prog w73= .ok (.bool r75) w74∧
           cnd (!r75)
           (∃k71,k71<k70∧I69 (IntKind.i64.wrap (i_72 - (1:Int))) w74 k71)
           (∃W76:World→Prop,W76 w74.drew∧
             ixK then_34_p then_34_n i_72 1 fun a77=>
             ∃x78_p x78_n x78_c,AtW W76 a77 (.slice x78_p x78_n x78_c)∧
             Calls Tryz.prog 55 #[.slice x78_p x78_n x78_c] w74.drew fun e w79=> ∃r80_p r80_n r80_c,e= .returned (.slice r80_p r80_n r80_c)∧
             W76 w79∧ixK l__p l__n i_72 2 fun a81=>
             ∃x82_p x82_n x82_c,AtW W76 (a81.add 1) (.slice x82_p x82_n x82_c)∧
             Calls Tryz.prog 60 #[.slice r80_p r80_n r80_c,.slice x82_p x82_n x82_c] w79 fun e w83=> ∃r84_p r84_n r84_c r85,e= .returned (.tuple #[.slice r84_p r84_n r84_c,.bool r85])∧
             ∃I86:Int→World→Nat→Prop,(∃k87,I86 0 w83 k87)∧
             ∀ (v89:Int) (w90:World) (k87:Nat) (_:Fr),I86 v89 w90 k87→
             cnd (decide (v89< (r84_n:Int)))
              (ixK r84_p r84_n v89 1 fun a91=>
                ∃x92,w90.cell? a91=some (.int .i64 x92)∧
                ixK then_34_p then_34_n i_72 1 fun a93=>
                ∃x94_p x94_n x94_c,w90.drew.cell? a93=some (.slice x94_p x94_n x94_c)∧
                ixK x94_p x94_n x92 3 fun a95=>
                ∃x96,w90.drew.cell? (a95.add 1)=some (.bool x96)∧
                ixK then_34_p then_34_n i_72 1 fun a97=>
                ∃x98_p x98_n x98_c,w90.drew.cell? a97=some (.slice x98_p x98_n x98_c)∧
                ixK x98_p x98_n x92 3 fun a99=>
                ∃x100,w90.drew.cell? (a99.add 2)=some (.int .i64 x100)∧
                ∃w101,(Instr.mapUpdate 87 (.map (some n66)) (.agg #[.bool x96,.int .i64 x100]) (.bool true)).run Tryz.prog w90.drew= .ok () w101∧
                ∃k88,k88<k87∧I86 (IntKind.i64.wrap (v89+ (1:Int))) w101 k88)
              (∃k71,k71<k70∧I69 (IntKind.i64.wrap (i_72 - (1:Int))) w90 k71)))
         (∀ (n102:Nat) (w103:World),New (.cells #[.slice none 0 0,.slice none 0 0] 30) w73 n102 w103→
           ∃x104_p x104_n x104_c,w103.cell? ((Addr.mk n1 0 none).add 1)=some (.slice x104_p x104_n x104_c)∧
           ∃I105:Int→World→Nat→Prop,(∃k106,I105 0 w103 k106)∧
           ∀ (v108:Int) (w109:World) (k106:Nat) (_:Fr),I105 v108 w109 k106→
           cnd (decide (v108< (x104_n:Int)))
            (∃w110 r111,(Instr.lookup 87 (.map (some n66)) (.agg #[.bool false,.int .i64 v108]) false).run Tryz.prog w109= .ok (.bool r111) w110∧
              cnd r111
              (∃x112_p x112_n x112_c,w110.cell? ((Addr.mk n102 0 none).add 0)=some (.slice x112_p x112_n x112_c)∧
                ∀ (n113:Nat) (w114:World),New (.cells #[.int .i64 v108] 3) w110 n113 w114→
                ∃w115 r116_p r116_n r116_c,(Builtin.append_ #[28,28] 28 #[.slice x112_p x112_n x112_c,.slice (some (Addr.mk n113 0 none)) 1 1]).run Tryz.prog w114= .ok (.slice r116_p r116_n r116_c) w115∧
                ∃w117,StoreAt ((Addr.mk n102 0 none).add 0) 0 [.slice r116_p r116_n r116_c] w115 w117∧
                ∃k107,k107<k106∧I105 (IntKind.i64.wrap (v108+ (1:Int))) w117 k107)
              (∃k107,k107<k106∧I105 (IntKind.i64.wrap (v108+ (1:Int))) w110 k107))
            (∃I118:Int→World→Nat→Prop,(∃k119,I118 0 w109 k119)∧
              ∀ (v121:Int) (w122:World) (k119:Nat) (_:Fr),I118 v121 w122 k119→
              cnd (decide (v121< (IntKind.i64.wrap (r25+ (1:Int)))))
               (∃w123 r124,(Instr.lookup 87 (.map (some n66)) (.agg #[.bool true,.int .i64 v121]) false).run Tryz.prog w122= .ok (.bool r124) w123∧
                 cnd r124
                 (∃x125_p x125_n x125_c,w123.cell? ((Addr.mk n102 0 none).add 1)=some (.slice x125_p x125_n x125_c)∧
                   ∀ (n126:Nat) (w127:World),New (.cells #[.int .i64 v121] 3) w123 n126 w127→
                   ∃w128 r129_p r129_n r129_c,(Builtin.append_ #[28,28] 28 #[.slice x125_p x125_n x125_c,.slice (some (Addr.mk n126 0 none)) 1 1]).run Tryz.prog w127= .ok (.slice r129_p r129_n r129_c) w128∧
                   ∃w130,StoreAt ((Addr.mk n102 0 none).add 1) 0 [.slice r129_p r129_n r129_c] w128 w130∧
                   ∃k120,k120<k119∧I118 (IntKind.i64.wrap (v121+ (1:Int))) w130 k120)
                 (∃k120,k120<k119∧I118 (IntKind.i64.wrap (v121+ (1:Int))) w123 k120))
               (∃x131_p x131_n x131_c x132_p x132_n x132_c,CellsAt w122 (Addr.mk n102 0 none) 0 [.slice x131_p x131_n x131_c,.slice x132_p x132_n x132_c]∧
                 ∃w133,StoreAt (Addr.mk n3 0 none) 0 [.slice x131_p x131_n x131_c,.slice x132_p x132_n x132_c] w122 w133∧
                 ∃x134_p x134_n x134_c x135_p x135_n x135_c,CellsAt w133 (Addr.mk n3 0 none) 0 [.slice x134_p x134_n x134_c,.slice x135_p x135_n x135_c]∧
                 K (.tuple #[.agg #[.slice x134_p x134_n x134_c,.slice x135_p x135_n x135_c],.int .i64 0]) w133)))))))
theorem drat_Find.calls {f_0 f_1_p f_1_n f_1_c l__p l__n l__c w R} (h:drat_Find.w f_0 f_1_p f_1_n f_1_c l__p l__n l__c w fun v w'=>R (.returned v) w'):Calls Tryz.prog 18 #[.agg #[.int .i64 f_0,.slice f_1_p f_1_n f_1_c],.slice l__p l__n l__c] w R:=
 calls_of mixed Tryz.func18 (by kernel_rfl) rfl (ann:=(.two .leaf (.two .leaf (.two .leaf (.two .leaf (.two .leaf (.two (.two .leaf (.one (.loop [(7,83),(8,74),(45,3)] (.two .leaf (.two .leaf (.two (.one (.two .leaf (.two .leaf (.two .leaf (.two .leaf .draw))))) .leaf)))))) (.two .leaf (.two (.two .leaf (.one (.loop [(12,3)] (.two .leaf (.two (.one (.two .leaf (.two .draw (.two .leaf (.one (.loop [(99,3)] .leaf)))))) .leaf))))) (.two .leaf (.two (.two .leaf (.one (.loop [(125,3)] .leaf))) (.two (.two .leaf (.one (.loop [(141,3)] .leaf))) .leaf)))))))))))) (F:=drat_Find.w f_0 f_1_p f_1_n f_1_c l__p l__n l__c w) (fun K=>by kernel_rfl) h
def fathomlaw07_Small.w (f_0:Int) (f_1_p:Option Addr) (f_1_n:Nat) (f_1_c:Nat) (w:World) (K:Value→World→Prop):Prop:=
 ∀ (n1:Nat) (w2:World),New (.cells #[.int .i64 f_0,.slice f_1_p f_1_n f_1_c] 24) w n1 w2→
 ∃x3 x4_p x4_n x4_c,CellsAt w2 (Addr.mk n1 0 none) 0 [.int .i64 x3,.slice x4_p x4_n x4_c]∧
 Calls Tryz.prog 61 #[.agg #[.int .i64 x3,.slice x4_p x4_n x4_c]] w2 fun e w5=> ∃r6,e= .returned (.bool r6)∧
 cnd r6
 (∃x7_p x7_n x7_c,w5.cell? ((Addr.mk n1 0 none).add 1)=some (.slice x7_p x7_n x7_c)∧
 K (.bool (decide ((x7_n:Int)≤(40:Int)))) w5)
 (K (.bool false) w5)
theorem fathomlaw07_Small.calls {f_0 f_1_p f_1_n f_1_c w R} (h:fathomlaw07_Small.w f_0 f_1_p f_1_n f_1_c w fun v w'=>R (.returned v) w'):Calls Tryz.prog 21 #[.agg #[.int .i64 f_0,.slice f_1_p f_1_n f_1_c]] w R:=
 calls_of mixed Tryz.func21 (by kernel_rfl) rfl (ann:= .leaf) (F:=fathomlaw07_Small.w f_0 f_1_p f_1_n f_1_c w) (fun K=>by kernel_rfl) h
def fathomref01_Cnf.w (f_0:Int) (f_1_p:Option Addr) (f_1_n:Nat) (f_1_c:Nat) (w:World) (K:Value→World→Prop):Prop:=
 ∀ (n1:Nat) (w2:World),New (.cells #[.int .i64 f_0,.slice f_1_p f_1_n f_1_c] 24) w n1 w2→
 ∃x3,w2.cell? ((Addr.mk n1 0 none).add 0)=some (.int .i64 x3)∧
 cnd (decide (x3< (0:Int)))
 (K (.bool false) w2)
 (∃x4,w2.cell? ((Addr.mk n1 0 none).add 0)=some (.int .i64 x4)∧
 cnd (decide (x4> (1048576:Int)))
 (K (.bool false) w2)
 (∃x5_p x5_n x5_c,w2.cell? ((Addr.mk n1 0 none).add 1)=some (.slice x5_p x5_n x5_c)∧
 cnd (decide ((x5_n:Int)> (262144:Int)))
 (K (.bool false) w2)
 (∃I6:Int→World→Nat→Prop,(∃k7,I6 0 w2 k7)∧
   ∀ (i_9:Int) (w10:World) (k7:Nat) (_:Fr),I6 i_9 w10 k7→
   ∃x11_p x11_n x11_c,w10.cell? ((Addr.mk n1 0 none).add 1)=some (.slice x11_p x11_n x11_c)∧
    cnd (decide (i_9< (x11_n:Int)))
    (∃x12_p x12_n x12_c,w10.cell? ((Addr.mk n1 0 none).add 1)=some (.slice x12_p x12_n x12_c)∧
      ixK x12_p x12_n i_9 1 fun a13=>
      ∃x14_p x14_n x14_c,w10.cell? a13=some (.slice x14_p x14_n x14_c)∧
      Calls Tryz.prog 24 #[.slice x14_p x14_n x14_c] w10 fun e w15=> ∃r16,e= .returned (.bool r16)∧
      cnd (!r16)
      (K (.bool false) w15)
      (∃I17:Int→World→Nat→Prop,(∃k18,I17 0 w15 k18)∧
        ∀ (k_20:Int) (w21:World) (k18:Nat) (_:Fr),I17 k_20 w21 k18→
        ∃x22_p x22_n x22_c,w21.cell? ((Addr.mk n1 0 none).add 1)=some (.slice x22_p x22_n x22_c)∧
         ixK x22_p x22_n i_9 1 fun a23=>
         ∃x24_p x24_n x24_c,w21.cell? a23=some (.slice x24_p x24_n x24_c)∧
         cnd (decide (k_20< (x24_n:Int)))
         (∃x25_p x25_n x25_c,w21.drew.cell? ((Addr.mk n1 0 none).add 1)=some (.slice x25_p x25_n x25_c)∧
           ixK x25_p x25_n i_9 1 fun a26=>
           ∃x27_p x27_n x27_c,w21.drew.cell? a26=some (.slice x27_p x27_n x27_c)∧
           ixK x27_p x27_n k_20 1 fun a28=>
           ∃x29,w21.drew.cell? a28=some (.int .i64 x29)∧
           (Calls Tryz.prog 63 #[.int .i64 x29] w21.drew fun e w30=> ∃r31,e= .returned (.int .i64 r31)∧
           ∃x32,w30.cell? ((Addr.mk n1 0 none).add 0)=some (.int .i64 x32)∧
           cnd (decide (r31>x32))
           (K (.bool false) w30)
           (∃k19,k19<k18∧I17 (IntKind.i64.wrap (k_20+ (1:Int))) w30 k19))∧
         (∃x33,w21.drew.cell? ((Addr.mk n1 0 none).add 0)=some (.int .i64 x33)∧
           Calls Tryz.prog 63 #[.int .i64 x29] w21.drew fun e w34=> ∃r35,e= .returned (.int .i64 r35)∧
           cnd (decide (r35>x33))
           (K (.bool false) w34)
           (∃k19,k19<k18∧I17 (IntKind.i64.wrap (k_20+ (1:Int))) w34 k19)))
         (∃k8,k8<k7∧I6 (IntKind.i64.wrap (i_9+ (1:Int))) w21 k8)))
    (K (.bool true) w10))))
theorem fathomref01_Cnf.calls {f_0 f_1_p f_1_n f_1_c w R} (h:fathomref01_Cnf.w f_0 f_1_p f_1_n f_1_c w fun v w'=>R (.returned v) w'):Calls Tryz.prog 23 #[.agg #[.int .i64 f_0,.slice f_1_p f_1_n f_1_c]] w R:=
 calls_of mixed Tryz.func23 (by kernel_rfl) rfl (ann:=(.two .leaf (.two .leaf (.two (.two .leaf (.one (.loop [(3,3)] (.two .leaf (.two (.one (.two .leaf (.two .leaf (.one (.loop [(4,3)] .leaf))))) .leaf))))) .leaf)))) (F:=fathomref01_Cnf.w f_0 f_1_p f_1_n f_1_c w) (fun K=>by kernel_rfl) h
def fathomref01_May.w (c__p:Option Addr) (c__n:Nat) (c__c:Nat) (w:World) (K:Value→World→Prop):Prop:=
 ∃I1:Int→World→Nat→Prop,(∃k2,I1 0 w k2)∧
 ∀ (i_4:Int) (w5:World) (k2:Nat) (_:Fr),I1 i_4 w5 k2→
 cnd (decide (i_4< (c__n:Int)))
  (ixK c__p c__n i_4 1 fun a6=>
    ∃x7,w5.cell? a6=some (.int .i64 x7)∧
    Calls Tryz.prog 64 #[.int .i64 x7] w5 fun e w8=> ∃r9,e= .returned (.bool r9)∧
    cnd (!r9)
    (K (.bool false) w8)
    (∃k3,k3<k2∧I1 (IntKind.i64.wrap (i_4+ (1:Int))) w8 k3))
  (K (.bool (decide ((c__n:Int)≤(4096:Int)))) w5)
theorem fathomref01_May.calls {c__p c__n c__c w R} (h:fathomref01_May.w c__p c__n c__c w fun v w'=>R (.returned v) w'):Calls Tryz.prog 24 #[.slice c__p c__n c__c] w R:=
 calls_of mixed Tryz.func24 (by kernel_rfl) rfl (ann:=(.two .leaf (.two (.two .leaf (.one (.loop [(3,3)] .leaf))) .leaf))) (F:=fathomref01_May.w c__p c__n c__c w) (fun K=>by kernel_rfl) h
def drat_Check.w (f_0:Int) (f_1_p:Option Addr) (f_1_n:Nat) (f_1_c:Nat) (l__p:Option Addr) (l__n:Nat) (l__c:Nat) (c_0_p:Option Addr) (c_0_n:Nat) (c_0_c:Nat) (c_1_p:Option Addr) (c_1_n:Nat) (c_1_c:Nat) (w:World) (K:Value→World→Prop):Prop:=
 ∀ (n1:Nat) (w2:World),New (.cells #[.int .i64 f_0,.slice f_1_p f_1_n f_1_c] 24) w n1 w2→
 ∀ (n3:Nat) (w4:World),New (.cells #[.slice l__p l__n l__c] 25) w2 n3 w4→
 ∀ (n5:Nat) (w6:World),New (.cells #[.slice c_0_p c_0_n c_0_c,.slice c_1_p c_1_n c_1_c] 30) w4 n5 w6→
 ∃x7 x8_p x8_n x8_c,CellsAt w6 (Addr.mk n1 0 none) 0 [.int .i64 x7,.slice x8_p x8_n x8_c]∧
 Calls Tryz.prog 48 #[.agg #[.int .i64 x7,.slice x8_p x8_n x8_c]] w6 fun e w9=> ∃r10,e= .returned (.int .i64 r10)∧
 cnd (r10 !=(0:Int))
 (K (.int .i64 1) w9)
 (∃x11_p x11_n x11_c,w9.cell? (Addr.mk n3 0 none)=some (.slice x11_p x11_n x11_c)∧
 Calls Tryz.prog 49 #[.slice x11_p x11_n x11_c] w9 fun e w12=> ∃r13,e= .returned (.int .i64 r13)∧
 cnd (r13 !=(0:Int))
 (K (.int .i64 1) w12)
 (∃x14_p x14_n x14_c,w12.cell? ((Addr.mk n5 0 none).add 0)=some (.slice x14_p x14_n x14_c)∧
 ∃x15_p x15_n x15_c,w12.cell? ((Addr.mk n1 0 none).add 1)=some (.slice x15_p x15_n x15_c)∧
 Calls Tryz.prog 67 #[.slice x14_p x14_n x14_c,.int .i64 (x15_n:Int)] w12 fun e w16=> ∃r17,e= .returned (.bool r17)∧
 cnd (!r17)
 (K (.int .i64 1) w16)
 (∃x18_p x18_n x18_c,w16.cell? ((Addr.mk n5 0 none).add 1)=some (.slice x18_p x18_n x18_c)∧
 ∃x19_p x19_n x19_c,w16.cell? (Addr.mk n3 0 none)=some (.slice x19_p x19_n x19_c)∧
 Calls Tryz.prog 67 #[.slice x18_p x18_n x18_c,.int .i64 (x19_n:Int)] w16 fun e w20=> ∃r21,e= .returned (.bool r21)∧
 cnd (!r21)
 (K (.int .i64 1) w20)
 (∃x22_p x22_n x22_c,w20.cell? ((Addr.mk n5 0 none).add 1)=some (.slice x22_p x22_n x22_c)∧
   Calls Tryz.prog 68 #[.slice x22_p x22_n x22_c,.func (.func 69) #[] #[.pointer (some (Addr.mk n3 0 none))]] w20 fun e w23=> ∃r24,e= .returned (.bool r24)∧
   cnd r24
   (K (.int .i64 1) w23)
   (∃x25_p x25_n x25_c,w23.cell? ((Addr.mk n5 0 none).add 0)=some (.slice x25_p x25_n x25_c)∧
     ∃I26:Option Addr→Nat→Nat→Int→World→Nat→Prop,(∃k27,I26 none 0 0 0 w23 k27)∧
     ∀ (have_29_p:Option Addr) (have_29_n:Nat) (have_29_c:Nat) (v30:Int) (w31:World) (k27:Nat) (_:Fr),I26 have_29_p have_29_n have_29_c v30 w31 k27→
     cnd (decide (v30< (x25_n:Int)))
      (ixK x25_p x25_n v30 1 fun a32=>
        ∃x33,w31.cell? a32=some (.int .i64 x33)∧
        ∃x34_p x34_n x34_c,w31.cell? ((Addr.mk n1 0 none).add 1)=some (.slice x34_p x34_n x34_c)∧
        ixK x34_p x34_n x33 1 fun a35=>
        ∃x36_p x36_n x36_c,w31.cell? a35=some (.slice x36_p x36_n x36_c)∧
        ∀ (n37:Nat) (w38:World),New (.cells #[.slice x36_p x36_n x36_c] 28) w31 n37 w38→
        ∃w39 r40_p r40_n r40_c,(Builtin.append_ #[22,22] 22 #[.slice have_29_p have_29_n have_29_c,.slice (some (Addr.mk n37 0 none)) 1 1]).run Tryz.prog w38= .ok (.slice r40_p r40_n r40_c) w39∧
        ∃k28,k28<k27∧I26 r40_p r40_n r40_c (IntKind.i64.wrap (v30+ (1:Int))) w39 k28)
      (∃x41 x42_p x42_n x42_c,CellsAt w31 (Addr.mk n1 0 none) 0 [.int .i64 x41,.slice x42_p x42_n x42_c]∧
        ∃x43_p x43_n x43_c,w31.cell? (Addr.mk n3 0 none)=some (.slice x43_p x43_n x43_c)∧
        Calls Tryz.prog 51 #[.agg #[.int .i64 x41,.slice x42_p x42_n x42_c],.slice x43_p x43_n x43_c] w31 fun e w44=> ∃r45,e= .returned (.int .i64 r45)∧
        ∃x46_p x46_n x46_c,w44.cell? ((Addr.mk n5 0 none).add 1)=some (.slice x46_p x46_n x46_c)∧
        ∃I47:Option Addr→Nat→Nat→Bool→Int→World→Nat→Prop,(∃k48,I47 have_29_p have_29_n have_29_c false 0 w44 k48)∧
        ∀ (have_50_p:Option Addr) (have_50_n:Nat) (have_50_c:Nat) (ends_51:Bool) (v52:Int) (w53:World) (k48:Nat) (_:Fr),I47 have_50_p have_50_n have_50_c ends_51 v52 w53 k48→
        cnd (decide (v52< (x46_n:Int)))
         (ixK x46_p x46_n v52 1 fun a54=>
           ∃x55,w53.cell? a54=some (.int .i64 x55)∧
           cnd (decide ((have_50_n:Int)> (262144:Int)))
           (K (.int .i64 7) w53)
           (∃x56_p x56_n x56_c,w53.cell? (Addr.mk n3 0 none)=some (.slice x56_p x56_n x56_c)∧
           ixK x56_p x56_n x55 2 fun a57=>
           ∃x58_p x58_n x58_c,w53.cell? (a57.add 1)=some (.slice x58_p x58_n x58_c)∧
           Calls Tryz.prog 54 #[.agg #[.int .i64 r45,.slice have_50_p have_50_n have_50_c],.slice x58_p x58_n x58_c] w53 fun e w59=> ∃r60,e= .returned (.bool r60)∧
           cnd (!r60)
           (K (.int .i64 7) w59)
           (∃x61_p x61_n x61_c,w59.cell? (Addr.mk n3 0 none)=some (.slice x61_p x61_n x61_c)∧
             ixK x61_p x61_n x55 2 fun a62=>
             ∃x63_p x63_n x63_c,w59.cell? (a62.add 1)=some (.slice x63_p x63_n x63_c)∧
             ∀ (n64:Nat) (w65:World),New (.cells #[.slice x63_p x63_n x63_c] 28) w59 n64 w65→
             ∃w66 r67_p r67_n r67_c,(Builtin.append_ #[22,22] 22 #[.slice have_50_p have_50_n have_50_c,.slice (some (Addr.mk n64 0 none)) 1 1]).run Tryz.prog w65= .ok (.slice r67_p r67_n r67_c) w66∧
             cnd ends_51
             (∃k49,k49<k48∧I47 r67_p r67_n r67_c true (IntKind.i64.wrap (v52+ (1:Int))) w66 k49)
             (∃x68_p x68_n x68_c,w66.cell? (Addr.mk n3 0 none)=some (.slice x68_p x68_n x68_c)∧
             ixK x68_p x68_n x55 2 fun a69=>
             ∃x70_p x70_n x70_c,w66.cell? (a69.add 1)=some (.slice x70_p x70_n x70_c)∧
             ∃k49,k49<k48∧I47 r67_p r67_n r67_c ((x70_n:Int)==(0:Int)) (IntKind.i64.wrap (v52+ (1:Int))) w66 k49))))
         (cnd (!ends_51)
           (K (.int .i64 7) w53)
           (K (.int .i64 0) w53))))))))
theorem drat_Check.calls {f_0 f_1_p f_1_n f_1_c l__p l__n l__c c_0_p c_0_n c_0_c c_1_p c_1_n c_1_c w R} (h:drat_Check.w f_0 f_1_p f_1_n f_1_c l__p l__n l__c c_0_p c_0_n c_0_c c_1_p c_1_n c_1_c w fun v w'=>R (.returned v) w'):Calls Tryz.prog 27 #[.agg #[.int .i64 f_0,.slice f_1_p f_1_n f_1_c],.slice l__p l__n l__c,.agg #[.slice c_0_p c_0_n c_0_c,.slice c_1_p c_1_n c_1_c]] w R:=
 calls_of mixed Tryz.func27 (by kernel_rfl) rfl (ann:=(.two .leaf (.two .leaf (.two .leaf (.two .leaf (.two (.two .leaf (.one (.loop [(7,22),(46,3)] .leaf))) (.two .leaf (.two .leaf (.two (.two .leaf (.one (.loop [(7,22),(11,4),(65,3)] .leaf))) .leaf))))))))) (F:=drat_Check.w f_0 f_1_p f_1_n f_1_c l__p l__n l__c c_0_p c_0_n c_0_c c_1_p c_1_n c_1_c w) (fun K=>by kernel_rfl) h
def drat_Trim.w (f_0:Int) (f_1_p:Option Addr) (f_1_n:Nat) (f_1_c:Nat) (l__p:Option Addr) (l__n:Nat) (l__c:Nat) (c_0_p:Option Addr) (c_0_n:Nat) (c_0_c:Nat) (c_1_p:Option Addr) (c_1_n:Nat) (c_1_c:Nat) (w:World) (K:Value→World→Prop):Prop:=
 ∀ (n1:Nat) (w2:World),New (.cells #[.int .i64 f_0,.slice f_1_p f_1_n f_1_c] 24) w n1 w2→
 ∀ (n3:Nat) (w4:World),New (.cells #[.slice c_0_p c_0_n c_0_c,.slice c_1_p c_1_n c_1_c] 30) w2 n3 w4→
 ∀ (n5:Nat) (w6:World),New (.cells #[.int .i64 0,.slice none 0 0] 24) w4 n5 w6→
 ∃x7 x8_p x8_n x8_c,CellsAt w6 (Addr.mk n1 0 none) 0 [.int .i64 x7,.slice x8_p x8_n x8_c]∧
 ∃x9_p x9_n x9_c x10_p x10_n x10_c,CellsAt w6 (Addr.mk n3 0 none) 0 [.slice x9_p x9_n x9_c,.slice x10_p x10_n x10_c]∧
 Calls Tryz.prog 27 #[.agg #[.int .i64 x7,.slice x8_p x8_n x8_c],.slice l__p l__n l__c,.agg #[.slice x9_p x9_n x9_c,.slice x10_p x10_n x10_c]] w6 fun e w11=> ∃r12,e= .returned (.int .i64 r12)∧
 cnd (r12 !=(0:Int))
 (∃w13,StoreAt (Addr.mk n5 0 none) 0 [.int .i64 0,.slice none 0 0] w11 w13∧
   ∃x14 x15_p x15_n x15_c,CellsAt w13 (Addr.mk n5 0 none) 0 [.int .i64 x14,.slice x15_p x15_n x15_c]∧
   K (.tuple #[.agg #[.int .i64 x14,.slice x15_p x15_n x15_c],.slice none 0 0,.int .i64 r12]) w13)
 (∃x16,w11.cell? ((Addr.mk n1 0 none).add 0)=some (.int .i64 x16)∧
   ∀ (n17:Nat) (w18:World),New (.cells #[.int .i64 0,.slice none 0 0] 24) w11 n17 w18→
   ∃w19,StoreAt (Addr.mk n17 0 none) 0 [.int .i64 x16,.slice none 0 0] w18 w19∧
   ∃x20_p x20_n x20_c,w19.cell? ((Addr.mk n3 0 none).add 0)=some (.slice x20_p x20_n x20_c)∧
   ∃I21:Int→World→Nat→Prop,(∃k22,I21 0 w19 k22)∧
   ∀ (v24:Int) (w25:World) (k22:Nat) (_:Fr),I21 v24 w25 k22→
   cnd (decide (v24< (x20_n:Int)))
    (ixK x20_p x20_n v24 1 fun a26=>
      ∃x27,w25.cell? a26=some (.int .i64 x27)∧
      ∃W28:World→Prop,W28 w25.drew∧
      ∃x29_p x29_n x29_c,AtW W28 ((Addr.mk n17 0 none).add 1) (.slice x29_p x29_n x29_c)∧
      ∃x30_p x30_n x30_c,AtW W28 ((Addr.mk n1 0 none).add 1) (.slice x30_p x30_n x30_c)∧
      ixK x30_p x30_n x27 1 fun a31=>
      ∃x32_p x32_n x32_c,AtW W28 a31 (.slice x32_p x32_n x32_c)∧
      Calls Tryz.prog 70 #[.slice x32_p x32_n x32_c] w25.drew fun e w33=> ∃r34_p r34_n r34_c,e= .returned (.slice r34_p r34_n r34_c)∧
      W28 w33∧∀ (n35:Nat) (w36:World),New (.cells #[.slice r34_p r34_n r34_c] 28) w33 n35 w36→
      W28 w36∧∃w37 r38_p r38_n r38_c,(Builtin.append_ #[22,22] 22 #[.slice x29_p x29_n x29_c,.slice (some (Addr.mk n35 0 none)) 1 1]).run Tryz.prog w36= .ok (.slice r38_p r38_n r38_c) w37∧
      ∃w39,StoreAt ((Addr.mk n17 0 none).add 1) 0 [.slice r38_p r38_n r38_c] w37 w39∧
      ∃k23,k23<k22∧I21 (IntKind.i64.wrap (v24+ (1:Int))) w39 k23)
    (∃x40_p x40_n x40_c,w25.cell? ((Addr.mk n3 0 none).add 1)=some (.slice x40_p x40_n x40_c)∧
      ∃I41:Option Addr→Nat→Nat→Int→World→Nat→Prop,(∃k42,I41 none 0 0 0 w25 k42)∧
      ∀ (out_44_p:Option Addr) (out_44_n:Nat) (out_44_c:Nat) (v45:Int) (w46:World) (k42:Nat) (_:Fr),I41 out_44_p out_44_n out_44_c v45 w46 k42→
      cnd (decide (v45< (x40_n:Int)))
       (ixK x40_p x40_n v45 1 fun a47=>
         ∃x48,w46.cell? a47=some (.int .i64 x48)∧
         ixK l__p l__n x48 2 fun a49=>
         ∃x50_p x50_n x50_c,w46.cell? (a49.add 1)=some (.slice x50_p x50_n x50_c)∧
         Calls Tryz.prog 70 #[.slice x50_p x50_n x50_c] w46 fun e w51=> ∃r52_p r52_n r52_c,e= .returned (.slice r52_p r52_n r52_c)∧
         ∀ (n53:Nat) (w54:World),New (.cells #[.bool false,.slice r52_p r52_n r52_c] 48) w51 n53 w54→
         ∃w55 r56_p r56_n r56_c,(Builtin.append_ #[25,25] 25 #[.slice out_44_p out_44_n out_44_c,.slice (some (Addr.mk n53 0 none)) 1 1]).run Tryz.prog w54= .ok (.slice r56_p r56_n r56_c) w55∧
         ∃k43,k43<k42∧I41 r56_p r56_n r56_c (IntKind.i64.wrap (v45+ (1:Int))) w55 k43)
       (∃x57 x58_p x58_n x58_c,CellsAt w46 (Addr.mk n17 0 none) 0 [.int .i64 x57,.slice x58_p x58_n x58_c]∧
         ∃w59,StoreAt (Addr.mk n5 0 none) 0 [.int .i64 x57,.slice x58_p x58_n x58_c] w46 w59∧
         ∃x60 x61_p x61_n x61_c,CellsAt w59 (Addr.mk n5 0 none) 0 [.int .i64 x60,.slice x61_p x61_n x61_c]∧
         K (.tuple #[.agg #[.int .i64 x60,.slice x61_p x61_n x61_c],.slice out_44_p out_44_n out_44_c,.int .i64 0]) w59)))
theorem drat_Trim.calls {f_0 f_1_p f_1_n f_1_c l__p l__n l__c c_0_p c_0_n c_0_c c_1_p c_1_n c_1_c w R} (h:drat_Trim.w f_0 f_1_p f_1_n f_1_c l__p l__n l__c c_0_p c_0_n c_0_c c_1_p c_1_n c_1_c w fun v w'=>R (.returned v) w'):Calls Tryz.prog 28 #[.agg #[.int .i64 f_0,.slice f_1_p f_1_n f_1_c],.slice l__p l__n l__c,.agg #[.slice c_0_p c_0_n c_0_c,.slice c_1_p c_1_n c_1_c]] w R:=
 calls_of mixed Tryz.func28 (by kernel_rfl) rfl (ann:=(.two .leaf (.two .leaf (.two .leaf (.two (.two .leaf (.one (.loop [(30,3)] (.two .leaf (.two .leaf (.two (.one (.two .leaf .draw)) .leaf)))))) (.two .leaf (.two (.two .leaf (.one (.loop [(13,25),(49,3)] .leaf))) .leaf))))))) (F:=drat_Trim.w f_0 f_1_p f_1_n f_1_c l__p l__n l__c c_0_p c_0_n c_0_c c_1_p c_1_n c_1_c w) (fun K=>by kernel_rfl) h
def rup_Proves.w (f_0:Int) (f_1_p:Option Addr) (f_1_n:Nat) (f_1_c:Nat) (l__p:Option Addr) (l__n:Nat) (l__c:Nat) (w:World) (K:Value→World→Prop):Prop:=
 ∀ (n1:Nat) (w2:World),New (.cells #[.int .i64 f_0,.slice f_1_p f_1_n f_1_c] 24) w n1 w2→
 ∃x3 x4_p x4_n x4_c,CellsAt w2 (Addr.mk n1 0 none) 0 [.int .i64 x3,.slice x4_p x4_n x4_c]∧
 Calls Tryz.prog 48 #[.agg #[.int .i64 x3,.slice x4_p x4_n x4_c]] w2 fun e w5=> ∃r6,e= .returned (.int .i64 r6)∧
 cnd (r6 !=(0:Int))
 (K (.tuple #[.int .i64 0,.int .i64 1]) w5)
 (Calls Tryz.prog 49 #[.slice l__p l__n l__c] w5 fun e w7=> ∃r8,e= .returned (.int .i64 r8)∧
 cnd (r8 !=(0:Int))
 (K (.tuple #[.int .i64 0,.int .i64 1]) w7)
 (∃I9:Option Addr→Nat→Nat→Int→World→Nat→Prop,(∃k10,I9 none 0 0 0 w7 k10)∧
   ∀ (all_12_p:Option Addr) (all_12_n:Nat) (all_12_c:Nat) (v13:Int) (w14:World) (k10:Nat) (_:Fr),I9 all_12_p all_12_n all_12_c v13 w14 k10→
   cnd (decide (v13< (l__n:Int)))
    (ixK l__p l__n v13 2 fun a15=>
      ∃x16 x17_p x17_n x17_c,CellsAt w14 a15 0 [.bool x16,.slice x17_p x17_n x17_c]∧
      ∀ (n18:Nat) (w19:World),New (.cells #[.bool false,.slice none 0 0] 48) w14 n18 w19→
      ∃w20,StoreAt (Addr.mk n18 0 none) 0 [.bool x16,.slice x17_p x17_n x17_c] w19 w20∧
      ∃x21_p x21_n x21_c,w20.cell? ((Addr.mk n18 0 none).add 1)=some (.slice x21_p x21_n x21_c)∧
      ∀ (n22:Nat) (w23:World),New (.cells #[.slice x21_p x21_n x21_c] 28) w20 n22 w23→
      ∃w24 r25_p r25_n r25_c,(Builtin.append_ #[22,22] 22 #[.slice all_12_p all_12_n all_12_c,.slice (some (Addr.mk n22 0 none)) 1 1]).run Tryz.prog w23= .ok (.slice r25_p r25_n r25_c) w24∧
      ∃k11,k11<k10∧I9 r25_p r25_n r25_c (IntKind.i64.wrap (v13+ (1:Int))) w24 k11)
    (∃x26 x27_p x27_n x27_c,CellsAt w14 (Addr.mk n1 0 none) 0 [.int .i64 x26,.slice x27_p x27_n x27_c]∧
      Calls Tryz.prog 73 #[.agg #[.int .i64 x26,.slice x27_p x27_n x27_c],.slice all_12_p all_12_n all_12_c] w14 fun e w28=> ∃r29,e= .returned (.pointer r29)∧
      ∃I30:Int→World→Nat→Prop,(∃k31,I30 0 w28 k31)∧
      ∀ (v33:Int) (w34:World) (k31:Nat) (_:Fr),I30 v33 w34 k31→
      cnd (decide (v33< (l__n:Int)))
       (ixK l__p l__n v33 2 fun a35=>
         ∃x36 x37_p x37_n x37_c,CellsAt w34 a35 0 [.bool x36,.slice x37_p x37_n x37_c]∧
         ∀ (n38:Nat) (w39:World),New (.cells #[.bool false,.slice none 0 0] 48) w34 n38 w39→
         ∃w40,StoreAt (Addr.mk n38 0 none) 0 [.bool x36,.slice x37_p x37_n x37_c] w39 w40∧
         ∃x41 x42_p x42_n x42_c,CellsAt w40 (Addr.mk n38 0 none) 0 [.bool x41,.slice x42_p x42_n x42_c]∧
         Calls Tryz.prog 74 #[.pointer r29,.agg #[.bool x41,.slice x42_p x42_n x42_c]] w40 fun e w43=> ∃r44,e= .returned (.int .i64 r44)∧
         cnd (r44 !=(0:Int))
         (K (.tuple #[.int .i64 v33,.int .i64 r44]) w43)
         (∃x45,w43.cell? ((Addr.mk n38 0 none).add 0)=some (.bool x45)∧
           cnd (!x45)
           (∃x46_p x46_n x46_c,w43.cell? ((Addr.mk n38 0 none).add 1)=some (.slice x46_p x46_n x46_c)∧
           cnd ((x46_n:Int)==(0:Int))
           (K (.tuple #[.int .i64 v33,.int .i64 0]) w43)
           (∃k32,k32<k31∧I30 (IntKind.i64.wrap (v33+ (1:Int))) w43 k32))
           (∃k32,k32<k31∧I30 (IntKind.i64.wrap (v33+ (1:Int))) w43 k32)))
       (K (.tuple #[.int .i64 (l__n:Int),.int .i64 4]) w34))))
theorem rup_Proves.calls {f_0 f_1_p f_1_n f_1_c l__p l__n l__c w R} (h:rup_Proves.w f_0 f_1_p f_1_n f_1_c l__p l__n l__c w fun v w'=>R (.returned v) w'):Calls Tryz.prog 32 #[.agg #[.int .i64 f_0,.slice f_1_p f_1_n f_1_c],.slice l__p l__n l__c] w R:=
 calls_of mixed Tryz.func32 (by kernel_rfl) rfl (ann:=(.two .leaf (.two .leaf (.two .leaf (.two (.two .leaf (.one (.loop [(6,22),(23,3)] .leaf))) (.two .leaf (.two (.two .leaf (.one (.loop [(38,3)] .leaf))) .leaf))))))) (F:=rup_Proves.w f_0 f_1_p f_1_n f_1_c l__p l__n l__c w) (fun K=>by kernel_rfl) h
def fathomref01_Sat.w (f_0:Int) (f_1_p:Option Addr) (f_1_n:Nat) (f_1_c:Nat) (w:World) (K:Value→World→Prop):Prop:=
 ∀ (n1:Nat) (w2:World),New (.cells #[.int .i64 f_0,.slice f_1_p f_1_n f_1_c] 24) w n1 w2→
 ∃I3:Int→World→Nat→Prop,(∃k4,I3 0 w2 k4)∧
 ∀ (n_6:Int) (w7:World) (k4:Nat) (_:Fr),I3 n_6 w7 k4→
 ∃x8,w7.cell? ((Addr.mk n1 0 none).add 0)=some (.int .i64 x8)∧
  0≤x8∧cnd (decide (n_6< (IntKind.i64.wrap ((1:Int)*2 ^ (min x8.toNat (IntKind.bits .i64))))))
  (∃x9,w7.drew.cell? ((Addr.mk n1 0 none).add 0)=some (.int .i64 x9)∧
    (∃x10 x11_p x11_n x11_c,CellsAt w7.drew (Addr.mk n1 0 none) 0 [.int .i64 x10,.slice x11_p x11_n x11_c]∧
    Calls Tryz.prog 75 #[.int .i64 x9,.int .i64 n_6] w7.drew fun e w12=> ∃r13_p r13_n r13_c,e= .returned (.slice r13_p r13_n r13_c)∧
    Calls Tryz.prog 43 #[.agg #[.int .i64 x10,.slice x11_p x11_n x11_c],.slice r13_p r13_n r13_c] w12 fun e w14=> ∃r15,e= .returned (.bool r15)∧
    cnd r15
    (∃x16,w14.cell? ((Addr.mk n1 0 none).add 0)=some (.int .i64 x16)∧
      Calls Tryz.prog 75 #[.int .i64 x16,.int .i64 n_6] w14 fun e w17=> ∃r18_p r18_n r18_c,e= .returned (.slice r18_p r18_n r18_c)∧
      K (.tuple #[.slice r18_p r18_n r18_c,.bool true]) w17)
    (∃k5,k5<k4∧I3 (IntKind.i64.wrap (n_6+ (1:Int))) w14 k5))∧
  (Calls Tryz.prog 75 #[.int .i64 x9,.int .i64 n_6] w7.drew fun e w19=> ∃r20_p r20_n r20_c,e= .returned (.slice r20_p r20_n r20_c)∧
    ∃x21 x22_p x22_n x22_c,CellsAt w19 (Addr.mk n1 0 none) 0 [.int .i64 x21,.slice x22_p x22_n x22_c]∧
    Calls Tryz.prog 43 #[.agg #[.int .i64 x21,.slice x22_p x22_n x22_c],.slice r20_p r20_n r20_c] w19 fun e w23=> ∃r24,e= .returned (.bool r24)∧
    cnd r24
    (∃x25,w23.cell? ((Addr.mk n1 0 none).add 0)=some (.int .i64 x25)∧
      Calls Tryz.prog 75 #[.int .i64 x25,.int .i64 n_6] w23 fun e w26=> ∃r27_p r27_n r27_c,e= .returned (.slice r27_p r27_n r27_c)∧
      K (.tuple #[.slice r27_p r27_n r27_c,.bool true]) w26)
    (∃k5,k5<k4∧I3 (IntKind.i64.wrap (n_6+ (1:Int))) w23 k5)))
  (K (.tuple #[.slice none 0 0,.bool false]) w7)
theorem fathomref01_Sat.calls {f_0 f_1_p f_1_n f_1_c w R} (h:fathomref01_Sat.w f_0 f_1_p f_1_n f_1_c w fun v w'=>R (.returned v) w'):Calls Tryz.prog 33 #[.agg #[.int .i64 f_0,.slice f_1_p f_1_n f_1_c]] w R:=
 calls_of mixed Tryz.func33 (by kernel_rfl) rfl (ann:=(.two .leaf (.two (.two .leaf (.one (.loop [(4,3)] .leaf))) .leaf))) (F:=fathomref01_Sat.w f_0 f_1_p f_1_n f_1_c w) (fun K=>by kernel_rfl) h
def fathomref01_Holds.w (f_0:Int) (f_1_p:Option Addr) (f_1_n:Nat) (f_1_c:Nat) (m__p:Option Addr) (m__n:Nat) (m__c:Nat) (w:World) (K:Value→World→Prop):Prop:=
 ∀ (n1:Nat) (w2:World),New (.cells #[.int .i64 f_0,.slice f_1_p f_1_n f_1_c] 24) w n1 w2→
 ∃I3:Int→World→Nat→Prop,(∃k4,I3 0 w2 k4)∧
 ∀ (i_6:Int) (w7:World) (k4:Nat) (_:Fr),I3 i_6 w7 k4→
 ∃x8_p x8_n x8_c,w7.cell? ((Addr.mk n1 0 none).add 1)=some (.slice x8_p x8_n x8_c)∧
  cnd (decide (i_6< (x8_n:Int)))
  (∃x9_p x9_n x9_c,w7.cell? ((Addr.mk n1 0 none).add 1)=some (.slice x9_p x9_n x9_c)∧
    ixK x9_p x9_n i_6 1 fun a10=>
    ∃x11_p x11_n x11_c,w7.cell? a10=some (.slice x11_p x11_n x11_c)∧
    Calls Tryz.prog 86 #[.slice m__p m__n m__c,.slice x11_p x11_n x11_c] w7 fun e w12=> ∃r13,e= .returned (.int .i64 r13)∧
    cnd (r13 !=(1:Int))
    (K (.bool false) w12)
    (∃k5,k5<k4∧I3 (IntKind.i64.wrap (i_6+ (1:Int))) w12 k5))
  (K (.bool true) w7)
theorem fathomref01_Holds.calls {f_0 f_1_p f_1_n f_1_c m__p m__n m__c w R} (h:fathomref01_Holds.w f_0 f_1_p f_1_n f_1_c m__p m__n m__c w fun v w'=>R (.returned v) w'):Calls Tryz.prog 43 #[.agg #[.int .i64 f_0,.slice f_1_p f_1_n f_1_c],.slice m__p m__n m__c] w R:=
 calls_of mixed Tryz.func43 (by kernel_rfl) rfl (ann:=(.two .leaf (.two (.two .leaf (.one (.loop [(5,3)] .leaf))) .leaf))) (F:=fathomref01_Holds.w f_0 f_1_p f_1_n f_1_c m__p m__n m__c w) (fun K=>by kernel_rfl) h
def fathomref04_May.w (l__p:Option Addr) (l__n:Nat) (l__c:Nat) (w:World) (K:Value→World→Prop):Prop:=
 ∃I1:Int→World→Nat→Prop,(∃k2,I1 0 w k2)∧
 ∀ (i_4:Int) (w5:World) (k2:Nat) (_:Fr),I1 i_4 w5 k2→
 cnd (decide (i_4< (l__n:Int)))
  (ixK l__p l__n i_4 2 fun a6=>
    ∃x7_p x7_n x7_c,w5.cell? (a6.add 1)=some (.slice x7_p x7_n x7_c)∧
    Calls Tryz.prog 24 #[.slice x7_p x7_n x7_c] w5 fun e w8=> ∃r9,e= .returned (.bool r9)∧
    cnd (!r9)
    (K (.bool false) w8)
    (∃k3,k3<k2∧I1 (IntKind.i64.wrap (i_4+ (1:Int))) w8 k3))
  (K (.bool (decide ((l__n:Int)≤(262144:Int)))) w5)
theorem fathomref04_May.calls {l__p l__n l__c w R} (h:fathomref04_May.w l__p l__n l__c w fun v w'=>R (.returned v) w'):Calls Tryz.prog 44 #[.slice l__p l__n l__c] w R:=
 calls_of mixed Tryz.func44 (by kernel_rfl) rfl (ann:=(.two .leaf (.two (.two .leaf (.one (.loop [(3,3)] .leaf))) .leaf))) (F:=fathomref04_May.w l__p l__n l__c w) (fun K=>by kernel_rfl) h
def fathomlaw04_Light.w (l__p:Option Addr) (l__n:Nat) (l__c:Nat) (w:World) (K:Value→World→Prop):Prop:=
 ∃I1:Int→Int→World→Nat→Prop,(∃k2,I1 0 0 w k2)∧
 ∀ (n_4:Int) (i_5:Int) (w6:World) (k2:Nat) (_:Fr),I1 n_4 i_5 w6 k2→
 cnd (decide (i_5< (l__n:Int)))
  (cnd (decide (i_5≤(300:Int)))
  (ixK l__p l__n i_5 2 fun a7=>
    ∃x8_p x8_n x8_c,w6.cell? (a7.add 1)=some (.slice x8_p x8_n x8_c)∧
    cnd (decide ((x8_n:Int)> (5000:Int)))
    (K (.bool false) w6)
    (ixK l__p l__n i_5 2 fun a9=>
      ∃x10_p x10_n x10_c,w6.cell? (a9.add 1)=some (.slice x10_p x10_n x10_c)∧
      ∃k3,k3<k2∧I1 (IntKind.i64.wrap (n_4+ (x10_n:Int))) (IntKind.i64.wrap (i_5+ (1:Int))) w6 k3))
  (cnd (decide ((l__n:Int)≤(300:Int)))
    (K (.bool (decide (n_4≤(6000:Int)))) w6)
    (K (.bool false) w6)))
  (cnd (decide ((l__n:Int)≤(300:Int)))
  (K (.bool (decide (n_4≤(6000:Int)))) w6)
  (K (.bool false) w6))
theorem fathomlaw04_Light.calls {l__p l__n l__c w R} (h:fathomlaw04_Light.w l__p l__n l__c w fun v w'=>R (.returned v) w'):Calls Tryz.prog 46 #[.slice l__p l__n l__c] w R:=
 calls_of mixed Tryz.func46 (by kernel_rfl) rfl (ann:=(.two .leaf (.two .leaf (.two (.two .leaf (.one (.loop [(3,3),(4,3)] .leaf))) .leaf)))) (F:=fathomlaw04_Light.w l__p l__n l__c w) (fun K=>by kernel_rfl) h
def fathomref01_Has.w (l__p:Option Addr) (l__n:Nat) (l__c:Nat) (n_:Int) (w:World) (K:Value→World→Prop):Prop:=
 ∃I1:Int→World→Nat→Prop,(∃k2,I1 0 w k2)∧
 ∀ (i_4:Int) (w5:World) (k2:Nat) (_:Fr),I1 i_4 w5 k2→
 cnd (decide (i_4< (l__n:Int)))
  (ixK l__p l__n i_4 1 fun a6=>
    ∃x7,w5.cell? a6=some (.int .i64 x7)∧
    cnd (x7==n_)
    (K (.bool true) w5)
    (∃k3,k3<k2∧I1 (IntKind.i64.wrap (i_4+ (1:Int))) w5 k3))
  (K (.bool false) w5)
theorem fathomref01_Has.calls {l__p l__n l__c n_ w R} (h:fathomref01_Has.w l__p l__n l__c n_ w fun v w'=>R (.returned v) w'):Calls Tryz.prog 47 #[.slice l__p l__n l__c,.int .i64 n_] w R:=
 calls_of mixed Tryz.func47 (by kernel_rfl) rfl (ann:=(.two .leaf (.two (.two .leaf (.one (.loop [(5,3)] .leaf))) .leaf))) (F:=fathomref01_Has.w l__p l__n l__c n_ w) (fun K=>by kernel_rfl) h
def lit_CheckCnf.w (f_0:Int) (f_1_p:Option Addr) (f_1_n:Nat) (f_1_c:Nat) (w:World) (K:Value→World→Prop):Prop:=
 ∀ (n1:Nat) (w2:World),New (.cells #[.int .i64 f_0,.slice f_1_p f_1_n f_1_c] 24) w n1 w2→
 ∃x3,w2.cell? ((Addr.mk n1 0 none).add 0)=some (.int .i64 x3)∧
 cnd (decide (x3< (0:Int)))
 (K (.int .i64 1) w2)
 (∃x4,w2.cell? ((Addr.mk n1 0 none).add 0)=some (.int .i64 x4)∧
 cnd (decide (x4> (1048576:Int)))
 (K (.int .i64 1) w2)
 (∃x5_p x5_n x5_c,w2.cell? ((Addr.mk n1 0 none).add 1)=some (.slice x5_p x5_n x5_c)∧
 cnd (decide ((x5_n:Int)> (262144:Int)))
 (K (.int .i64 1) w2)
 (∃x6_p x6_n x6_c,w2.cell? ((Addr.mk n1 0 none).add 1)=some (.slice x6_p x6_n x6_c)∧
   ∃I7:Int→World→Nat→Prop,(∃k8,I7 0 w2 k8)∧
   ∀ (v10:Int) (w11:World) (k8:Nat) (_:Fr),I7 v10 w11 k8→
   cnd (decide (v10< (x6_n:Int)))
    (ixK x6_p x6_n v10 1 fun a12=>
      ∃x13_p x13_n x13_c,w11.cell? a12=some (.slice x13_p x13_n x13_c)∧
      Calls Tryz.prog 62 #[.slice x13_p x13_n x13_c] w11 fun e w14=> ∃r15,e= .returned (.int .i64 r15)∧
      cnd (r15 !=(0:Int))
      (K (.int .i64 1) w14)
      (Calls Tryz.prog 68 #[.slice x13_p x13_n x13_c,.func (.func 88) #[] #[.pointer (some (Addr.mk n1 0 none))]] w14 fun e w16=> ∃r17,e= .returned (.bool r17)∧
      cnd r17
      (K (.int .i64 1) w16)
      (∃k9,k9<k8∧I7 (IntKind.i64.wrap (v10+ (1:Int))) w16 k9)))
    (K (.int .i64 0) w11))))
theorem lit_CheckCnf.calls {f_0 f_1_p f_1_n f_1_c w R} (h:lit_CheckCnf.w f_0 f_1_p f_1_n f_1_c w fun v w'=>R (.returned v) w'):Calls Tryz.prog 48 #[.agg #[.int .i64 f_0,.slice f_1_p f_1_n f_1_c]] w R:=
 calls_of mixed Tryz.func48 (by kernel_rfl) rfl (ann:=(.two .leaf (.two .leaf (.two (.two .leaf (.one (.loop [(22,3)] .leaf))) .leaf)))) (F:=lit_CheckCnf.w f_0 f_1_p f_1_n f_1_c w) (fun K=>by kernel_rfl) h
def trace_Check.w (l__p:Option Addr) (l__n:Nat) (l__c:Nat) (w:World) (K:Value→World→Prop):Prop:=
 cnd (decide ((l__n:Int)> (262144:Int)))
 (K (.int .i64 1) w)
 (Calls Tryz.prog 90 #[.slice l__p l__n l__c,.func (.func 91) #[] #[]] w fun e w1=> ∃r2,e= .returned (.bool r2)∧
 cnd r2
 (K (.int .i64 1) w1)
 (K (.int .i64 0) w1))
theorem trace_Check.calls {l__p l__n l__c w R} (h:trace_Check.w l__p l__n l__c w fun v w'=>R (.returned v) w'):Calls Tryz.prog 49 #[.slice l__p l__n l__c] w R:=
 calls_of mixed Tryz.func49 (by kernel_rfl) rfl (ann:= .leaf) (F:=trace_Check.w l__p l__n l__c w) (fun K=>by kernel_rfl) h
def drat_end.w (l__p:Option Addr) (l__n:Nat) (l__c:Nat) (w:World) (K:Value→World→Prop):Prop:=
 Calls Tryz.prog 92 #[.slice l__p l__n l__c,.func (.func 93) #[] #[]] w fun e w1=> ∃r2,e= .returned (.int .i64 r2)∧
 K (.int .i64 r2) w1
theorem drat_end.calls {l__p l__n l__c w R} (h:drat_end.w l__p l__n l__c w fun v w'=>R (.returned v) w'):Calls Tryz.prog 50 #[.slice l__p l__n l__c] w R:=
 calls_of mixed Tryz.func50 (by kernel_rfl) rfl (ann:= .leaf) (F:=drat_end.w l__p l__n l__c w) (fun K=>by kernel_rfl) h
def drat_greatest.w (f_0:Int) (f_1_p:Option Addr) (f_1_n:Nat) (f_1_c:Nat) (l__p:Option Addr) (l__n:Nat) (l__c:Nat) (w:World) (K:Value→World→Prop):Prop:=
 ∀ (n1:Nat) (w2:World),New (.cells #[.int .i64 f_0,.slice f_1_p f_1_n f_1_c] 24) w n1 w2→
 ∃x3,w2.cell? ((Addr.mk n1 0 none).add 0)=some (.int .i64 x3)∧
 ∃I4:Int→Int→World→Nat→Prop,(∃k5,I4 x3 0 w2 k5)∧
 ∀ (n_7:Int) (v8:Int) (w9:World) (k5:Nat) (_:Fr),I4 n_7 v8 w9 k5→
 cnd (decide (v8< (l__n:Int)))
  (ixK l__p l__n v8 2 fun a10=>
    ∃x11 x12_p x12_n x12_c,CellsAt w9 a10 0 [.bool x11,.slice x12_p x12_n x12_c]∧
    ∀ (n13:Nat) (w14:World),New (.cells #[.bool false,.slice none 0 0] 48) w9 n13 w14→
    ∃w15,StoreAt (Addr.mk n13 0 none) 0 [.bool x11,.slice x12_p x12_n x12_c] w14 w15∧
    ∃x16_p x16_n x16_c,w15.cell? ((Addr.mk n13 0 none).add 1)=some (.slice x16_p x16_n x16_c)∧
    ∃I17:Int→Int→World→Nat→Prop,(∃k18,I17 n_7 0 w15 k18)∧
    ∀ (n_20:Int) (v21:Int) (w22:World) (k18:Nat) (_:Fr),I17 n_20 v21 w22 k18→
    cnd (decide (v21< (x16_n:Int)))
     (ixK x16_p x16_n v21 1 fun a23=>
       ∃x24,w22.cell? a23=some (.int .i64 x24)∧
       ∃k19,k19<k18∧I17 (imax (imax n_20 x24) (IntKind.i64.wrap (0 - x24))) (IntKind.i64.wrap (v21+ (1:Int))) w22 k19)
     (∃k6,k6<k5∧I4 n_20 (IntKind.i64.wrap (v8+ (1:Int))) w22 k6))
  (K (.int .i64 n_7) w9)
theorem drat_greatest.calls {f_0 f_1_p f_1_n f_1_c l__p l__n l__c w R} (h:drat_greatest.w f_0 f_1_p f_1_n f_1_c l__p l__n l__c w fun v w'=>R (.returned v) w'):Calls Tryz.prog 51 #[.agg #[.int .i64 f_0,.slice f_1_p f_1_n f_1_c],.slice l__p l__n l__c] w R:=
 calls_of mixed Tryz.func51 (by kernel_rfl) rfl (ann:=(.two .leaf (.two .leaf (.two (.two .leaf (.one (.loop [(5,3),(14,3)] (.two .leaf (.two .leaf (.two (.one (.two .leaf (.two .leaf (.one (.loop [(5,3),(21,3)] .leaf))))) .leaf)))))) .leaf)))) (F:=drat_greatest.w f_0 f_1_p f_1_n f_1_c l__p l__n l__c w) (fun K=>by kernel_rfl) h
def drat_sources.w (f_0:Int) (f_1_p:Option Addr) (f_1_n:Nat) (f_1_c:Nat) (w:World) (K:Value→World→Prop):Prop:=
 ∀ (n1:Nat) (w2:World),New (.cells #[.int .i64 f_0,.slice f_1_p f_1_n f_1_c] 24) w n1 w2→
 ∃x3_p x3_n x3_c,w2.cell? ((Addr.mk n1 0 none).add 1)=some (.slice x3_p x3_n x3_c)∧
 ∃I4:Option Addr→Nat→Nat→Int→World→Nat→Prop,(∃k5,I4 none 0 0 0 w2 k5)∧
 ∀ (l_7_p:Option Addr) (l_7_n:Nat) (l_7_c:Nat) (v8:Int) (w9:World) (k5:Nat) (_:Fr),I4 l_7_p l_7_n l_7_c v8 w9 k5→
 cnd (decide (v8< (x3_n:Int)))
  (ixK x3_p x3_n v8 1 fun a10=>
    ∃x11_p x11_n x11_c,w9.cell? a10=some (.slice x11_p x11_n x11_c)∧
    ∀ (n12:Nat) (w13:World),New (.cells #[.slice x11_p x11_n x11_c,.bool false,.int .i64 v8] 79) w9 n12 w13→
    ∃w14 r15_p r15_n r15_c,(Builtin.append_ #[74,74] 74 #[.slice l_7_p l_7_n l_7_c,.slice (some (Addr.mk n12 0 none)) 1 1]).run Tryz.prog w13= .ok (.slice r15_p r15_n r15_c) w14∧
    ∃k6,k6<k5∧I4 r15_p r15_n r15_c (IntKind.i64.wrap (v8+ (1:Int))) w14 k6)
  (K (.slice l_7_p l_7_n l_7_c) w9)
theorem drat_sources.calls {f_0 f_1_p f_1_n f_1_c w R} (h:drat_sources.w f_0 f_1_p f_1_n f_1_c w fun v w'=>R (.returned v) w'):Calls Tryz.prog 52 #[.agg #[.int .i64 f_0,.slice f_1_p f_1_n f_1_c]] w R:=
 calls_of mixed Tryz.func52 (by kernel_rfl) rfl (ann:=(.two .leaf (.two .leaf (.two (.two .leaf (.one (.loop [(3,74),(9,3)] .leaf))) .leaf)))) (F:=drat_sources.w f_0 f_1_p f_1_n f_1_c w) (fun K=>by kernel_rfl) h
def drat_gone.w (l__p:Option Addr) (l__n:Nat) (l__c:Nat) (c__p:Option Addr) (c__n:Nat) (c__c:Nat) (w:World) (K:Value→World→Prop):Prop:=
 Calls Tryz.prog 94 #[.slice c__p c__n c__c] w fun e w1=> ∃r2_p r2_n r2_c r3,e= .returned (.tuple #[.slice r2_p r2_n r2_c,.bool r3])∧
 ∀ (n4:Nat) (w5:World),New (.cells #[.slice none 0 0] 28) w1 n4 w5→
 ∃w6,StoreAt (Addr.mk n4 0 none) 0 [.slice r2_p r2_n r2_c] w5 w6∧
 Calls Tryz.prog 95 #[.slice l__p l__n l__c,.func (.func 96) #[] #[.pointer (some (Addr.mk n4 0 none))]] w6 fun e w7=> ∃r8,e= .returned (.int .i64 r8)∧
 cnd (decide (r8< (0:Int)))
 (K (.slice l__p l__n l__c) w7)
 (Calls Tryz.prog 59 #[.slice l__p l__n l__c] w7 fun e w9=> ∃r10_p r10_n r10_c,e= .returned (.slice r10_p r10_n r10_c)∧
   Calls Tryz.prog 98 #[.slice r10_p r10_n r10_c,.int .i64 r8,.int .i64 (IntKind.i64.wrap (r8+ (1:Int)))] w9 fun e w11=> ∃r12_p r12_n r12_c,e= .returned (.slice r12_p r12_n r12_c)∧
   K (.slice r12_p r12_n r12_c) w11)
theorem drat_gone.calls {l__p l__n l__c c__p c__n c__c w R} (h:drat_gone.w l__p l__n l__c c__p c__n c__c w fun v w'=>R (.returned v) w'):Calls Tryz.prog 53 #[.slice l__p l__n l__c,.slice c__p c__n c__c] w R:=
 calls_of mixed Tryz.func53 (by kernel_rfl) rfl (ann:= .leaf) (F:=drat_gone.w l__p l__n l__c c__p c__n c__c w) (fun K=>by kernel_rfl) h
def rup_Unit.w (f_0:Int) (f_1_p:Option Addr) (f_1_n:Nat) (f_1_c:Nat) (c__p:Option Addr) (c__n:Nat) (c__c:Nat) (w:World) (K:Value→World→Prop):Prop:=
 ∀ (n1:Nat) (w2:World),New (.cells #[.int .i64 f_0,.slice f_1_p f_1_n f_1_c] 24) w n1 w2→
 ∃x3 x4_p x4_n x4_c,CellsAt w2 (Addr.mk n1 0 none) 0 [.int .i64 x3,.slice x4_p x4_n x4_c]∧
 Calls Tryz.prog 99 #[.agg #[.int .i64 x3,.slice x4_p x4_n x4_c],.slice c__p c__n c__c] w2 fun e w5=> ∃r6,e= .returned (.bool r6)∧
 cnd r6
 (∃x7 x8_p x8_n x8_c,CellsAt w5 (Addr.mk n1 0 none) 0 [.int .i64 x7,.slice x8_p x8_n x8_c]∧
 ∀ (n9:Nat) (w10:World),New (.cells #[.slice c__p c__n c__c] 28) w5 n9 w10→
 Calls Tryz.prog 73 #[.agg #[.int .i64 x7,.slice x8_p x8_n x8_c],.slice (some (Addr.mk n9 0 none)) 1 1] w10 fun e w11=> ∃r12,e= .returned (.pointer r12)∧
 Calls Tryz.prog 100 #[.pointer r12,.slice c__p c__n c__c] w11 fun e w13=> ∃r14,e= .returned (.bool r14)∧
 K (.bool r14) w13)
 (K (.bool false) w5)
theorem rup_Unit.calls {f_0 f_1_p f_1_n f_1_c c__p c__n c__c w R} (h:rup_Unit.w f_0 f_1_p f_1_n f_1_c c__p c__n c__c w fun v w'=>R (.returned v) w'):Calls Tryz.prog 54 #[.agg #[.int .i64 f_0,.slice f_1_p f_1_n f_1_c],.slice c__p c__n c__c] w R:=
 calls_of mixed Tryz.func54 (by kernel_rfl) rfl (ann:= .leaf) (F:=rup_Unit.w f_0 f_1_p f_1_n f_1_c c__p c__n c__c w) (fun K=>by kernel_rfl) h
def drat_clauses.w (l__p:Option Addr) (l__n:Nat) (l__c:Nat) (w:World) (K:Value→World→Prop):Prop:=
 ∃I1:Option Addr→Nat→Nat→Int→World→Nat→Prop,(∃k2,I1 none 0 0 0 w k2)∧
 ∀ (out_4_p:Option Addr) (out_4_n:Nat) (out_4_c:Nat) (v5:Int) (w6:World) (k2:Nat) (_:Fr),I1 out_4_p out_4_n out_4_c v5 w6 k2→
 cnd (decide (v5< (l__n:Int)))
  (ixK l__p l__n v5 3 fun a7=>
    ∃x8_p x8_n x8_c x9 x10,CellsAt w6 a7 0 [.slice x8_p x8_n x8_c,.bool x9,.int .i64 x10]∧
    ∀ (n11:Nat) (w12:World),New (.cells #[.slice none 0 0,.bool false,.int .i64 0] 79) w6 n11 w12→
    ∃w13,StoreAt (Addr.mk n11 0 none) 0 [.slice x8_p x8_n x8_c,.bool x9,.int .i64 x10] w12 w13∧
    ∃x14_p x14_n x14_c,w13.cell? ((Addr.mk n11 0 none).add 0)=some (.slice x14_p x14_n x14_c)∧
    ∀ (n15:Nat) (w16:World),New (.cells #[.slice x14_p x14_n x14_c] 28) w13 n15 w16→
    ∃w17 r18_p r18_n r18_c,(Builtin.append_ #[22,22] 22 #[.slice out_4_p out_4_n out_4_c,.slice (some (Addr.mk n15 0 none)) 1 1]).run Tryz.prog w16= .ok (.slice r18_p r18_n r18_c) w17∧
    ∃k3,k3<k2∧I1 r18_p r18_n r18_c (IntKind.i64.wrap (v5+ (1:Int))) w17 k3)
  (K (.slice out_4_p out_4_n out_4_c) w6)
theorem drat_clauses.calls {l__p l__n l__c w R} (h:drat_clauses.w l__p l__n l__c w fun v w'=>R (.returned v) w'):Calls Tryz.prog 55 #[.slice l__p l__n l__c] w R:=
 calls_of mixed Tryz.func55 (by kernel_rfl) rfl (ann:=(.two .leaf (.two .leaf (.two (.two .leaf (.one (.loop [(3,22),(8,3)] .leaf))) .leaf)))) (F:=drat_clauses.w l__p l__n l__c w) (fun K=>by kernel_rfl) h
def slices_Clone_fathom_drat_source_fathom_drat_source.w (s__p:Option Addr) (s__n:Nat) (s__c:Nat) (w:World) (K:Value→World→Prop):Prop:=
 cnd s__p.isNone
 (K (.slice none 0 0) w)
 (∀ (n1:Nat) (w2:World),New (.cells #[] 79) w n1 w2→
   ∃w3 r4_p r4_n r4_c,(Builtin.append_ #[74,74] 74 #[.slice (some (Addr.mk n1 0 none)) 0 0,.slice s__p s__n s__c]).run Tryz.prog w2= .ok (.slice r4_p r4_n r4_c) w3∧
   K (.slice r4_p r4_n r4_c) w3)
theorem slices_Clone_fathom_drat_source_fathom_drat_source.calls {s__p s__n s__c w R} (h:slices_Clone_fathom_drat_source_fathom_drat_source.w s__p s__n s__c w fun v w'=>R (.returned v) w'):Calls Tryz.prog 59 #[.slice s__p s__n s__c] w R:=
 calls_of mixed Tryz.func59 (by kernel_rfl) rfl (ann:= .leaf) (F:=slices_Clone_fathom_drat_source_fathom_drat_source.w s__p s__n s__c w) (fun K=>by kernel_rfl) h
def drat_needs.w (l__p:Option Addr) (l__n:Nat) (l__c:Nat) (c__p:Option Addr) (c__n:Nat) (c__c:Nat) (w:World) (K:Value→World→Prop):Prop:=
 Calls Tryz.prog 102 #[.slice c__p c__n c__c] w fun e w1=> ∃r2,e= .returned (.bool r2)∧
 cnd r2
 (K (.tuple #[.slice none 0 0,.bool true]) w1)
 (Calls Tryz.prog 85 #[.slice l__p l__n l__c] w1 fun e w3=> ∃r4_p r4_n r4_c,e= .returned (.slice r4_p r4_n r4_c)∧
   ∀ (n5:Nat) (w6:World),New (.cells #[.slice c__p c__n c__c] 28) w3 n5 w6→
   ∃w7 r8_p r8_n r8_c,(Builtin.append_ #[22,22] 22 #[.slice r4_p r4_n r4_c,.slice (some (Addr.mk n5 0 none)) 1 1]).run Tryz.prog w6= .ok (.slice r8_p r8_n r8_c) w7∧
   Calls Tryz.prog 103 #[.slice r8_p r8_n r8_c] w7 fun e w9=> ∃r10 r11_p r11_n r11_c,e= .returned (.tuple #[.int .i64 r10,.slice r11_p r11_n r11_c])∧
   ∃J12:Int→World→Prop,(cnd ((c__n:Int)==(0:Int))
   (∀ (n13:Nat) (w14:World),New (.cells #[.int .i64 (IntKind.i64.wrap (r10+ (1:Int)))] 3) w9 n13 w14→
     ixK r11_p r11_n (IntKind.i64.wrap ((r11_n:Int) - (1:Int))) 1 fun a15=>
     ∃w16,StoreAt a15 0 [.slice (some (Addr.mk n13 0 none)) 1 1] w14 w16∧
     J12 (IntKind.i64.wrap (r10+ (1:Int))) w16)
   (J12 r10 w9))∧
   ∀ (vars_17:Int) (w18:World) (_:Fr),J12 vars_17 w18→
   slK r11_p r11_n r11_c 1 none (some (IntKind.i64.wrap ((r11_n:Int) - (1:Int)))) none fun s19_p s19_n s19_c=>
   Calls Tryz.prog 76 #[.agg #[.int .i64 vars_17,.slice s19_p s19_n s19_c]] w18 fun e w20=> ∃r21 r22,e= .returned (.tuple #[.pointer r21,.int .i64 r22])∧
   ixK r11_p r11_n (IntKind.i64.wrap ((r11_n:Int) - (1:Int))) 1 fun a23=>
   ∃x24_p x24_n x24_c,w20.cell? a23=some (.slice x24_p x24_n x24_c)∧
   ∀ (n25:Nat) (w26:World),New (.cells #[.pointer r21,.slice x24_p x24_n x24_c] 132) w20 n25 w26→
   Calls Tryz.prog 104 #[.pointer (some (Addr.mk n25 0 none))] w26 fun e w27=> ∃r28,e= .returned (.bool r28)∧
   cnd (!r28)
   (K (.tuple #[.slice none 0 0,.bool false]) w27)
   (∀ (n29:Nat) (w30:World),New (.map #[] 0) w27 n29 w30→
     ∃I31:Int→World→Nat→Prop,(∃k32,I31 0 w30 k32)∧
     ∀ (v34:Int) (w35:World) (k32:Nat) (_:Fr),I31 v34 w35 k32→
     cnd (decide (v34< (l__n:Int)))
      (∃w36,(Instr.mapUpdate 133 (.map (some n29)) (.int .i64 v34) (.int .i64 v34)).run Tryz.prog w35= .ok () w36∧
        ∃k33,k33<k32∧I31 (IntKind.i64.wrap (v34+ (1:Int))) w36 k33)
      (∃I37:Option Addr→Option Nat→Int→World→Nat→Prop,(∃k38,I37 r21 (some n29) (IntKind.i64.wrap ((l__n:Int) - (1:Int))) w35 k38)∧
        ∀ (p_40:Option Addr) (left_41:Option Nat) (i_42:Int) (w43:World) (k38:Nat) (_:Fr),I37 p_40 left_41 i_42 w43 k38→
        cnd (decide (i_42≥(0:Int)))
         (∃w44 r45,(Instr.lookup 133 (.map left_41) (.int .i64 i_42) false).run Tryz.prog w43= .ok (.int .i64 r45) w44∧
           Calls Tryz.prog 105 #[.pointer p_40,.int .i64 r45] w44 fun e w46=> ∃r47,e= .returned (.int .i64 r47)∧
           Calls Tryz.prog 104 #[.pointer (some (Addr.mk n25 0 none))] w46 fun e w48=> ∃r49,e= .returned (.bool r49)∧
           cnd r49
           (∃w50,(Builtin.delete_ #[133,3] 0 #[.map left_41,.int .i64 i_42]).run Tryz.prog w48= .ok (.tuple #[]) w50∧
             ∃k39,k39<k38∧I37 p_40 left_41 (IntKind.i64.wrap (i_42 - (1:Int))) w50 k39)
           (ixK r11_p r11_n i_42 1 fun a51=>
             ∃x52_p x52_n x52_c,w48.cell? a51=some (.slice x52_p x52_n x52_c)∧
             Calls Tryz.prog 106 #[.pointer p_40,.slice x52_p x52_n x52_c] w48 fun e w53=> ∃r54 r55,e= .returned (.tuple #[.int .i64 r54,.int .i64 r55])∧
             ∃w56,(Instr.mapUpdate 133 (.map left_41) (.int .i64 i_42) (.int .i64 r54)).run Tryz.prog w53= .ok () w56∧
             cnd (r55 !=(0:Int))
             (Calls Tryz.prog 107 #[.int .i64 vars_17,.slice r11_p r11_n r11_c,.map left_41] w56 fun e w57=> ∃r58,∃r59:Option Nat,e= .returned (.tuple #[.pointer r58,.map r59])∧
               ∃a60,(some (Addr.mk n25 0 none))=some a60∧∃w61,StoreAt (a60.add 0) 0 [.pointer r58] w57 w61∧
               ∃a62,(some (Addr.mk n25 0 none))=some a62∧∃x63,w61.cell? (a62.add 0)=some (.pointer x63)∧
               ∃k39,k39<k38∧I37 x63 r59 (IntKind.i64.wrap (i_42 - (1:Int))) w61 k39)
             (∃k39,k39<k38∧I37 p_40 left_41 (IntKind.i64.wrap (i_42 - (1:Int))) w56 k39)))
         (∃I64:Option Addr→Nat→Nat→Int→World→Nat→Prop,(∃k65,I64 none 0 0 0 w43 k65)∧
           ∀ (out_67_p:Option Addr) (out_67_n:Nat) (out_67_c:Nat) (v68:Int) (w69:World) (k65:Nat) (_:Fr),I64 out_67_p out_67_n out_67_c v68 w69 k65→
           cnd (decide (v68< (l__n:Int)))
            (∃w70 r71 r72,(Instr.lookup 133 (.map left_41) (.int .i64 v68) true).run Tryz.prog w69= .ok (.tuple #[.int .i64 r71,.bool r72]) w70∧
              cnd r72
              (∀ (n73:Nat) (w74:World),New (.cells #[.int .i64 v68] 3) w70 n73 w74→
                ∃w75 r76_p r76_n r76_c,(Builtin.append_ #[28,28] 28 #[.slice out_67_p out_67_n out_67_c,.slice (some (Addr.mk n73 0 none)) 1 1]).run Tryz.prog w74= .ok (.slice r76_p r76_n r76_c) w75∧
                ∃k66,k66<k65∧I64 r76_p r76_n r76_c (IntKind.i64.wrap (v68+ (1:Int))) w75 k66)
              (∃k66,k66<k65∧I64 out_67_p out_67_n out_67_c (IntKind.i64.wrap (v68+ (1:Int))) w70 k66))
            (K (.tuple #[.slice out_67_p out_67_n out_67_c,.bool true]) w69)))))
theorem drat_needs.calls {l__p l__n l__c c__p c__n c__c w R} (h:drat_needs.w l__p l__n l__c c__p c__n c__c w fun v w'=>R (.returned v) w'):Calls Tryz.prog 60 #[.slice l__p l__n l__c,.slice c__p c__n c__c] w R:=
 calls_of mixed Tryz.func60 (by kernel_rfl) rfl (ann:=(.two .leaf (.two .leaf (.two .leaf (.cut [(6,3)] .leaf (.two .leaf (.two .leaf (.two .leaf (.two .leaf (.two (.two .leaf (.one (.loop [(70,3)] .leaf))) (.two (.two .leaf (.one (.loop [(8,101),(11,133),(13,3)] .leaf))) (.two .leaf (.two (.two .leaf (.one (.loop [(17,28),(124,3)] .leaf))) .leaf))))))))))))) (F:=drat_needs.w l__p l__n l__c c__p c__n c__c w) (fun K=>by kernel_rfl) h
def fathomlaw01_Light.w (f_0:Int) (f_1_p:Option Addr) (f_1_n:Nat) (f_1_c:Nat) (w:World) (K:Value→World→Prop):Prop:=
 ∀ (n1:Nat) (w2:World),New (.cells #[.int .i64 f_0,.slice f_1_p f_1_n f_1_c] 24) w n1 w2→
 ∃I3:Int→Int→World→Nat→Prop,(∃k4,I3 0 0 w2 k4)∧
 ∀ (n_6:Int) (i_7:Int) (w8:World) (k4:Nat) (_:Fr),I3 n_6 i_7 w8 k4→
 ∃x9_p x9_n x9_c,w8.cell? ((Addr.mk n1 0 none).add 1)=some (.slice x9_p x9_n x9_c)∧
  cnd (decide (i_7< (x9_n:Int)))
  (cnd (decide (i_7≤(300:Int)))
  (∃x10_p x10_n x10_c,w8.cell? ((Addr.mk n1 0 none).add 1)=some (.slice x10_p x10_n x10_c)∧
    ixK x10_p x10_n i_7 1 fun a11=>
    ∃x12_p x12_n x12_c,w8.cell? a11=some (.slice x12_p x12_n x12_c)∧
    cnd (decide ((x12_n:Int)> (5000:Int)))
    (K (.bool false) w8)
    (∃x13_p x13_n x13_c,w8.cell? ((Addr.mk n1 0 none).add 1)=some (.slice x13_p x13_n x13_c)∧
      ixK x13_p x13_n i_7 1 fun a14=>
      ∃x15_p x15_n x15_c,w8.cell? a14=some (.slice x15_p x15_n x15_c)∧
      ∃k5,k5<k4∧I3 (IntKind.i64.wrap (n_6+ (x15_n:Int))) (IntKind.i64.wrap (i_7+ (1:Int))) w8 k5))
  (∃x16_p x16_n x16_c,w8.cell? ((Addr.mk n1 0 none).add 1)=some (.slice x16_p x16_n x16_c)∧
    cnd (decide ((x16_n:Int)≤(300:Int)))
    (K (.bool (decide (n_6≤(6000:Int)))) w8)
    (K (.bool false) w8)))
  (∃x17_p x17_n x17_c,w8.cell? ((Addr.mk n1 0 none).add 1)=some (.slice x17_p x17_n x17_c)∧
  cnd (decide ((x17_n:Int)≤(300:Int)))
  (K (.bool (decide (n_6≤(6000:Int)))) w8)
  (K (.bool false) w8))
theorem fathomlaw01_Light.calls {f_0 f_1_p f_1_n f_1_c w R} (h:fathomlaw01_Light.w f_0 f_1_p f_1_n f_1_c w fun v w'=>R (.returned v) w'):Calls Tryz.prog 61 #[.agg #[.int .i64 f_0,.slice f_1_p f_1_n f_1_c]] w R:=
 calls_of mixed Tryz.func61 (by kernel_rfl) rfl (ann:=(.two .leaf (.two .leaf (.two (.two .leaf (.one (.loop [(3,3),(4,3)] .leaf))) .leaf)))) (F:=fathomlaw01_Light.w f_0 f_1_p f_1_n f_1_c w) (fun K=>by kernel_rfl) h
def lit_Check.w (c__p:Option Addr) (c__n:Nat) (c__c:Nat) (w:World) (K:Value→World→Prop):Prop:=
 cnd (decide ((c__n:Int)> (4096:Int)))
 (K (.int .i64 1) w)
 (Calls Tryz.prog 68 #[.slice c__p c__n c__c,.func (.func 108) #[] #[]] w fun e w1=> ∃r2,e= .returned (.bool r2)∧
 cnd r2
 (K (.int .i64 1) w1)
 (K (.int .i64 0) w1))
theorem lit_Check.calls {c__p c__n c__c w R} (h:lit_Check.w c__p c__n c__c w fun v w'=>R (.returned v) w'):Calls Tryz.prog 62 #[.slice c__p c__n c__c] w R:=
 calls_of mixed Tryz.func62 (by kernel_rfl) rfl (ann:= .leaf) (F:=lit_Check.w c__p c__n c__c w) (fun K=>by kernel_rfl) h
def fathomref01_Var.w (l_:Int) (w:World) (K:Value→World→Prop):Prop:=
 cnd (decide (l_< (0:Int)))
 (K (.int .i64 (IntKind.i64.wrap (0 - l_))) w)
 (K (.int .i64 l_) w)
theorem fathomref01_Var.calls {l_ w R} (h:fathomref01_Var.w l_ w fun v w'=>R (.returned v) w'):Calls Tryz.prog 63 #[.int .i64 l_] w R:=
 calls_of mixed Tryz.func63 (by kernel_rfl) rfl (ann:= .leaf) (F:=fathomref01_Var.w l_ w) (fun K=>by kernel_rfl) h
def fathomref01_Lit.w (l_:Int) (w:World) (K:Value→World→Prop):Prop:=
 cnd (l_ !=(0:Int))
 (cnd (decide (l_≥(-1048576)))
 (K (.bool (decide (l_≤(1048576:Int)))) w)
 (K (.bool false) w))
 (K (.bool false) w)
theorem fathomref01_Lit.calls {l_ w R} (h:fathomref01_Lit.w l_ w fun v w'=>R (.returned v) w'):Calls Tryz.prog 64 #[.int .i64 l_] w R:=
 calls_of mixed Tryz.func64 (by kernel_rfl) rfl (ann:= .leaf) (F:=fathomref01_Lit.w l_ w) (fun K=>by kernel_rfl) h
def drat_rising.w (l__p:Option Addr) (l__n:Nat) (l__c:Nat) (n_:Int) (w:World) (K:Value→World→Prop):Prop:=
 ∃I1:Int→World→Nat→Prop,(∃k2,I1 0 w k2)∧
 ∀ (v4:Int) (w5:World) (k2:Nat) (_:Fr),I1 v4 w5 k2→
 cnd (decide (v4< (l__n:Int)))
  (ixK l__p l__n v4 1 fun a6=>
    ∃x7,w5.cell? a6=some (.int .i64 x7)∧
    cnd (decide (x7< (0:Int)))
    (K (.bool false) w5)
    (cnd (decide (x7≥n_))
    (K (.bool false) w5)
    (cnd (decide (v4> (0:Int)))
    (ixK l__p l__n (IntKind.i64.wrap (v4 - (1:Int))) 1 fun a8=>
    ∃x9,w5.cell? a8=some (.int .i64 x9)∧
    cnd (decide (x7≤x9))
    (K (.bool false) w5)
    (∃k3,k3<k2∧I1 (IntKind.i64.wrap (v4+ (1:Int))) w5 k3))
    (∃k3,k3<k2∧I1 (IntKind.i64.wrap (v4+ (1:Int))) w5 k3))))
  (K (.bool true) w5)
theorem drat_rising.calls {l__p l__n l__c n_ w R} (h:drat_rising.w l__p l__n l__c n_ w fun v w'=>R (.returned v) w'):Calls Tryz.prog 67 #[.slice l__p l__n l__c,.int .i64 n_] w R:=
 calls_of mixed Tryz.func67 (by kernel_rfl) rfl (ann:=(.two .leaf (.two (.two .leaf (.one (.loop [(9,3)] .leaf))) .leaf))) (F:=drat_rising.w l__p l__n l__c n_ w) (fun K=>by kernel_rfl) h
def slices_ContainsFunc_int_int.w (s__p:Option Addr) (s__n:Nat) (s__c:Nat) (f_f:FuncId) (f_v:Array Value) (w:World) (K:Value→World→Prop):Prop:=
 Calls Tryz.prog 112 #[.slice s__p s__n s__c,.func (.func f_f) #[] f_v] w fun e w1=> ∃r2,e= .returned (.int .i64 r2)∧
 K (.bool (decide (r2≥(0:Int)))) w1
theorem slices_ContainsFunc_int_int.calls {s__p s__n s__c f_f f_v w R} (h:slices_ContainsFunc_int_int.w s__p s__n s__c f_f f_v w fun v w'=>R (.returned v) w'):Calls Tryz.prog 68 #[.slice s__p s__n s__c,.func (.func f_f) #[] f_v] w R:=
 calls_of mixed Tryz.func68 (by kernel_rfl) rfl (ann:= .leaf) (F:=slices_ContainsFunc_int_int.w s__p s__n s__c f_f f_v w) (fun K=>by kernel_rfl) h
def drat_Check_1.w (i_:Int) (c0_:Addr) (w:World) (K:Value→World→Prop):Prop:=
 ∃x1_p x1_n x1_c,w.cell? c0_=some (.slice x1_p x1_n x1_c)∧
 ixK x1_p x1_n i_ 2 fun a2=>
 ∃x3,w.cell? (a2.add 0)=some (.bool x3)∧
 K (.bool x3) w
theorem drat_Check_1.calls {i_ c0_ w R} (h:drat_Check_1.w i_ c0_ w fun v w'=>R (.returned v) w'):Calls Tryz.prog 69 #[.int .i64 i_,.pointer (some c0_)] w R:=
 calls_of mixed Tryz.func69 (by kernel_rfl) rfl (ann:= .leaf) (F:=drat_Check_1.w i_ c0_ w) (fun K=>by kernel_rfl) h
def slices_Clone_int_int.w (s__p:Option Addr) (s__n:Nat) (s__c:Nat) (w:World) (K:Value→World→Prop):Prop:=
 cnd s__p.isNone
 (K (.slice none 0 0) w)
 (∀ (n1:Nat) (w2:World),New (.cells #[] 3) w n1 w2→
   ∃w3 r4_p r4_n r4_c,(Builtin.append_ #[28,28] 28 #[.slice (some (Addr.mk n1 0 none)) 0 0,.slice s__p s__n s__c]).run Tryz.prog w2= .ok (.slice r4_p r4_n r4_c) w3∧
   K (.slice r4_p r4_n r4_c) w3)
theorem slices_Clone_int_int.calls {s__p s__n s__c w R} (h:slices_Clone_int_int.w s__p s__n s__c w fun v w'=>R (.returned v) w'):Calls Tryz.prog 70 #[.slice s__p s__n s__c] w R:=
 calls_of mixed Tryz.func70 (by kernel_rfl) rfl (ann:= .leaf) (F:=slices_Clone_int_int.w s__p s__n s__c w) (fun K=>by kernel_rfl) h
def rup_begin.w (f_0:Int) (f_1_p:Option Addr) (f_1_n:Nat) (f_1_c:Nat) (more__p:Option Addr) (more__n:Nat) (more__c:Nat) (w:World) (K:Value→World→Prop):Prop:=
 ∀ (n1:Nat) (w2:World),New (.cells #[.int .i64 f_0,.slice f_1_p f_1_n f_1_c] 24) w n1 w2→
 ∃x3,w2.cell? ((Addr.mk n1 0 none).add 0)=some (.int .i64 x3)∧
 ∀ (n4:Nat) (w5:World),New (.map #[] 0) w2 n4 w5→
 ∀ (n6:Nat) (w7:World),New (.cells #[.int .i64 x3,.map (some n4),.pointer none,.slice none 0 0,.map none] 142) w5 n6 w7→
 ∃x8_p x8_n x8_c,w7.cell? ((Addr.mk n1 0 none).add 1)=some (.slice x8_p x8_n x8_c)∧
 ∃I9:Int→World→Nat→Prop,(∃k10,I9 0 w7 k10)∧
 ∀ (v12:Int) (w13:World) (k10:Nat) (_:Fr),I9 v12 w13 k10→
 cnd (decide (v12< (x8_n:Int)))
  (ixK x8_p x8_n v12 1 fun a14=>
    ∃x15_p x15_n x15_c,w13.cell? a14=some (.slice x15_p x15_n x15_c)∧
    Calls Tryz.prog 113 #[.pointer (some (Addr.mk n6 0 none)),.slice x15_p x15_n x15_c] w13 fun e w16=>e= .returned (.tuple #[])∧
    ∃k11,k11<k10∧I9 (IntKind.i64.wrap (v12+ (1:Int))) w16 k11)
  (∃I17:Int→World→Nat→Prop,(∃k18,I17 0 w13 k18)∧
    ∀ (v20:Int) (w21:World) (k18:Nat) (_:Fr),I17 v20 w21 k18→
    cnd (decide (v20< (more__n:Int)))
     (ixK more__p more__n v20 1 fun a22=>
       ∃x23_p x23_n x23_c,w21.cell? a22=some (.slice x23_p x23_n x23_c)∧
       Calls Tryz.prog 113 #[.pointer (some (Addr.mk n6 0 none)),.slice x23_p x23_n x23_c] w21 fun e w24=>e= .returned (.tuple #[])∧
       ∃k19,k19<k18∧I17 (IntKind.i64.wrap (v20+ (1:Int))) w24 k19)
     (∃x25_p x25_n x25_c,w21.cell? ((Addr.mk n1 0 none).add 1)=some (.slice x25_p x25_n x25_c)∧
       Calls Tryz.prog 114 #[.pointer (some (Addr.mk n6 0 none)),.slice x25_p x25_n x25_c] w21 fun e w26=>e= .returned (.tuple #[])∧
       K (.pointer (some (Addr.mk n6 0 none))) w26))
theorem rup_begin.calls {f_0 f_1_p f_1_n f_1_c more__p more__n more__c w R} (h:rup_begin.w f_0 f_1_p f_1_n f_1_c more__p more__n more__c w fun v w'=>R (.returned v) w'):Calls Tryz.prog 73 #[.agg #[.int .i64 f_0,.slice f_1_p f_1_n f_1_c],.slice more__p more__n more__c] w R:=
 calls_of mixed Tryz.func73 (by kernel_rfl) rfl (ann:=(.two .leaf (.two .leaf (.two (.two .leaf (.one (.loop [(18,3)] .leaf))) (.two (.two .leaf (.one (.loop [(28,3)] .leaf))) .leaf))))) (F:=rup_begin.w f_0 f_1_p f_1_n f_1_c more__p more__n more__c w) (fun K=>by kernel_rfl) h
def rup_base_do.w (b_:Option Addr) (s_0:Bool) (s_1_p:Option Addr) (s_1_n:Nat) (s_1_c:Nat) (w:World) (K:Value→World→Prop):Prop:=
 ∀ (n1:Nat) (w2:World),New (.cells #[.bool s_0,.slice s_1_p s_1_n s_1_c] 48) w n1 w2→
 ∃x3,w2.cell? ((Addr.mk n1 0 none).add 0)=some (.bool x3)∧
 cnd x3
 (∃x4_p x4_n x4_c,w2.cell? ((Addr.mk n1 0 none).add 1)=some (.slice x4_p x4_n x4_c)∧
   Calls Tryz.prog 115 #[.pointer b_,.slice x4_p x4_n x4_c] w2 fun e w5=>e= .returned (.tuple #[])∧
   K (.int .i64 0) w5)
 (∃a6,b_=some a6∧∃x7_p x7_n x7_c,w2.cell? (a6.add 3)=some (.slice x7_p x7_n x7_c)∧
   cnd ((x7_n:Int)==(262144:Int))
   (K (.int .i64 3) w2)
   (∃x8_p x8_n x8_c,w2.cell? ((Addr.mk n1 0 none).add 1)=some (.slice x8_p x8_n x8_c)∧
     Calls Tryz.prog 100 #[.pointer b_,.slice x8_p x8_n x8_c] w2 fun e w9=> ∃r10,e= .returned (.bool r10)∧
     cnd (!r10)
     (∃x11_p x11_n x11_c,w9.cell? ((Addr.mk n1 0 none).add 1)=some (.slice x11_p x11_n x11_c)∧
     Calls Tryz.prog 116 #[.pointer b_,.slice x11_p x11_n x11_c] w9 fun e w12=> ∃r13,e= .returned (.bool r13)∧
     cnd (!r13)
     (K (.int .i64 7) w12)
     (∃x14_p x14_n x14_c,w12.cell? ((Addr.mk n1 0 none).add 1)=some (.slice x14_p x14_n x14_c)∧
       Calls Tryz.prog 117 #[.pointer b_,.slice x14_p x14_n x14_c] w12 fun e w15=>e= .returned (.tuple #[])∧
       K (.int .i64 0) w15))
     (∃x16_p x16_n x16_c,w9.cell? ((Addr.mk n1 0 none).add 1)=some (.slice x16_p x16_n x16_c)∧
     Calls Tryz.prog 117 #[.pointer b_,.slice x16_p x16_n x16_c] w9 fun e w17=>e= .returned (.tuple #[])∧
     K (.int .i64 0) w17)))
theorem rup_base_do.calls {b_ s_0 s_1_p s_1_n s_1_c w R} (h:rup_base_do.w b_ s_0 s_1_p s_1_n s_1_c w fun v w'=>R (.returned v) w'):Calls Tryz.prog 74 #[.pointer b_,.agg #[.bool s_0,.slice s_1_p s_1_n s_1_c]] w R:=
 calls_of mixed Tryz.func74 (by kernel_rfl) rfl (ann:= .leaf) (F:=rup_base_do.w b_ s_0 s_1_p s_1_n s_1_c w) (fun K=>by kernel_rfl) h
def fathomref01_Model.w (vars_:Int) (n_:Int) (w:World) (K:Value→World→Prop):Prop:=
 ∀ (n1:Nat) (w2:World),New (.cells #[] 3) w n1 w2→
 ∃I3:Int→Option Addr→Nat→Nat→Int→World→Nat→Prop,(∃k4,I3 n_ (some (Addr.mk n1 0 none)) 0 0 0 w2 k4)∧
 ∀ (n_6:Int) (m_7_p:Option Addr) (m_7_n:Nat) (m_7_c:Nat) (i_8:Int) (w9:World) (k4:Nat) (_:Fr),I3 n_6 m_7_p m_7_n m_7_c i_8 w9 k4→
 cnd (decide (i_8<vars_))
  ((2:Int)≠0∧cnd ((n_6.tmod (2:Int))==(1:Int))
    (∀ (n10:Nat) (w11:World),New (.cells #[.int .i64 1] 3) w9 n10 w11→
      ∃w12 r13_p r13_n r13_c,(Builtin.append_ #[28,28] 28 #[.slice m_7_p m_7_n m_7_c,.slice (some (Addr.mk n10 0 none)) 1 1]).run Tryz.prog w11= .ok (.slice r13_p r13_n r13_c) w12∧
      (2:Int)≠0∧∃k5,k5<k4∧I3 (IntKind.i64.wrap (n_6.tdiv (2:Int))) r13_p r13_n r13_c (IntKind.i64.wrap (i_8+ (1:Int))) w12 k5)
    (∀ (n14:Nat) (w15:World),New (.cells #[.int .i64 (-1)] 3) w9 n14 w15→
      ∃w16 r17_p r17_n r17_c,(Builtin.append_ #[28,28] 28 #[.slice m_7_p m_7_n m_7_c,.slice (some (Addr.mk n14 0 none)) 1 1]).run Tryz.prog w15= .ok (.slice r17_p r17_n r17_c) w16∧
      (2:Int)≠0∧∃k5,k5<k4∧I3 (IntKind.i64.wrap (n_6.tdiv (2:Int))) r17_p r17_n r17_c (IntKind.i64.wrap (i_8+ (1:Int))) w16 k5))
  (K (.slice m_7_p m_7_n m_7_c) w9)
theorem fathomref01_Model.calls {vars_ n_ w R} (h:fathomref01_Model.w vars_ n_ w fun v w'=>R (.returned v) w'):Calls Tryz.prog 75 #[.int .i64 vars_,.int .i64 n_] w R:=
 calls_of mixed Tryz.func75 (by kernel_rfl) rfl (ann:=(.two .leaf (.two .leaf (.two (.two .leaf (.one (.loop [(1,3),(5,28),(6,3)] .leaf))) .leaf)))) (F:=fathomref01_Model.w vars_ n_ w) (fun K=>by kernel_rfl) h
def prop_New.w (f_0:Int) (f_1_p:Option Addr) (f_1_n:Nat) (f_1_c:Nat) (w:World) (K:Value→World→Prop):Prop:=
 ∀ (n1:Nat) (w2:World),New (.cells #[.int .i64 f_0,.slice f_1_p f_1_n f_1_c] 24) w n1 w2→
 ∃x3 x4_p x4_n x4_c,CellsAt w2 (Addr.mk n1 0 none) 0 [.int .i64 x3,.slice x4_p x4_n x4_c]∧
 Calls Tryz.prog 48 #[.agg #[.int .i64 x3,.slice x4_p x4_n x4_c]] w2 fun e w5=> ∃r6,e= .returned (.int .i64 r6)∧
 cnd (r6 !=(0:Int))
 (K (.tuple #[.pointer none,.int .i64 1]) w5)
 (∃x7,w5.cell? ((Addr.mk n1 0 none).add 0)=some (.int .i64 x7)∧
   ∃J8:Addr→World→Prop,(∃W9:World→Prop,W9 w5.drew∧
   ∃x10,AtW W9 ((Addr.mk n1 0 none).add 0) (.int .i64 x10)∧
   (∃w11 r12_p r12_n r12_c,(Instr.makeSlice 22 (.int .i64 (IntKind.i64.wrap ((2:Int)* (IntKind.i64.wrap (x7+ (1:Int)))))) (.int .i64 (IntKind.i64.wrap ((2:Int)* (IntKind.i64.wrap (x7+ (1:Int))))))).run Tryz.prog w5.drew= .ok (.slice r12_p r12_n r12_c) w11∧
   W9 w11∧(∃w13 r14_p r14_n r14_c,(Instr.makeSlice 144 (.int .i64 (IntKind.i64.wrap (x7+ (1:Int)))) (.int .i64 (IntKind.i64.wrap (x7+ (1:Int))))).run Tryz.prog w11= .ok (.slice r14_p r14_n r14_c) w13∧
   W9 w13∧(∃w15 r16_p r16_n r16_c,(Instr.makeSlice 28 (.int .i64 (IntKind.i64.wrap (x7+ (1:Int)))) (.int .i64 (IntKind.i64.wrap (x7+ (1:Int))))).run Tryz.prog w13= .ok (.slice r16_p r16_n r16_c) w15∧
   W9 w15∧∃w17 r18_p r18_n r18_c,(Instr.makeSlice 28 (.int .i64 (IntKind.i64.wrap (x7+ (1:Int)))) (.int .i64 (IntKind.i64.wrap (x7+ (1:Int))))).run Tryz.prog w15= .ok (.slice r18_p r18_n r18_c) w17∧
   W9 w17∧∀ (n19:Nat) (w20:World),New (.cells #[.int .i64 x10,.slice none 0 0,.slice r12_p r12_n r12_c,.slice r14_p r14_n r14_c,.slice r16_p r16_n r16_c,.slice r18_p r18_n r18_c,.slice none 0 0,.slice none 0 0,.slice none 0 0,.int .i64 0,.slice none 0 0] 147) w17 n19 w20→
   J8 (Addr.mk n19 0 none) w20)∧
 (∃w21 r22_p r22_n r22_c,(Instr.makeSlice 28 (.int .i64 (IntKind.i64.wrap (x7+ (1:Int)))) (.int .i64 (IntKind.i64.wrap (x7+ (1:Int))))).run Tryz.prog w13= .ok (.slice r22_p r22_n r22_c) w21∧
   W9 w21∧∃w23 r24_p r24_n r24_c,(Instr.makeSlice 28 (.int .i64 (IntKind.i64.wrap (x7+ (1:Int)))) (.int .i64 (IntKind.i64.wrap (x7+ (1:Int))))).run Tryz.prog w21= .ok (.slice r24_p r24_n r24_c) w23∧
   W9 w23∧∀ (n25:Nat) (w26:World),New (.cells #[.int .i64 x10,.slice none 0 0,.slice r12_p r12_n r12_c,.slice r14_p r14_n r14_c,.slice r24_p r24_n r24_c,.slice r22_p r22_n r22_c,.slice none 0 0,.slice none 0 0,.slice none 0 0,.int .i64 0,.slice none 0 0] 147) w23 n25 w26→
   J8 (Addr.mk n25 0 none) w26))∧
 (∃w27 r28_p r28_n r28_c,(Instr.makeSlice 28 (.int .i64 (IntKind.i64.wrap (x7+ (1:Int)))) (.int .i64 (IntKind.i64.wrap (x7+ (1:Int))))).run Tryz.prog w11= .ok (.slice r28_p r28_n r28_c) w27∧
   W9 w27∧(∃w29 r30_p r30_n r30_c,(Instr.makeSlice 144 (.int .i64 (IntKind.i64.wrap (x7+ (1:Int)))) (.int .i64 (IntKind.i64.wrap (x7+ (1:Int))))).run Tryz.prog w27= .ok (.slice r30_p r30_n r30_c) w29∧
   W9 w29∧∃w31 r32_p r32_n r32_c,(Instr.makeSlice 28 (.int .i64 (IntKind.i64.wrap (x7+ (1:Int)))) (.int .i64 (IntKind.i64.wrap (x7+ (1:Int))))).run Tryz.prog w29= .ok (.slice r32_p r32_n r32_c) w31∧
   W9 w31∧∀ (n33:Nat) (w34:World),New (.cells #[.int .i64 x10,.slice none 0 0,.slice r12_p r12_n r12_c,.slice r30_p r30_n r30_c,.slice r28_p r28_n r28_c,.slice r32_p r32_n r32_c,.slice none 0 0,.slice none 0 0,.slice none 0 0,.int .i64 0,.slice none 0 0] 147) w31 n33 w34→
   J8 (Addr.mk n33 0 none) w34)∧
 (∃w35 r36_p r36_n r36_c,(Instr.makeSlice 28 (.int .i64 (IntKind.i64.wrap (x7+ (1:Int)))) (.int .i64 (IntKind.i64.wrap (x7+ (1:Int))))).run Tryz.prog w27= .ok (.slice r36_p r36_n r36_c) w35∧
   W9 w35∧∃w37 r38_p r38_n r38_c,(Instr.makeSlice 144 (.int .i64 (IntKind.i64.wrap (x7+ (1:Int)))) (.int .i64 (IntKind.i64.wrap (x7+ (1:Int))))).run Tryz.prog w35= .ok (.slice r38_p r38_n r38_c) w37∧
   W9 w37∧∀ (n39:Nat) (w40:World),New (.cells #[.int .i64 x10,.slice none 0 0,.slice r12_p r12_n r12_c,.slice r38_p r38_n r38_c,.slice r28_p r28_n r28_c,.slice r36_p r36_n r36_c,.slice none 0 0,.slice none 0 0,.slice none 0 0,.int .i64 0,.slice none 0 0] 147) w37 n39 w40→
   J8 (Addr.mk n39 0 none) w40))∧
 (∃w41 r42_p r42_n r42_c,(Instr.makeSlice 28 (.int .i64 (IntKind.i64.wrap (x7+ (1:Int)))) (.int .i64 (IntKind.i64.wrap (x7+ (1:Int))))).run Tryz.prog w11= .ok (.slice r42_p r42_n r42_c) w41∧
   W9 w41∧(∃w43 r44_p r44_n r44_c,(Instr.makeSlice 144 (.int .i64 (IntKind.i64.wrap (x7+ (1:Int)))) (.int .i64 (IntKind.i64.wrap (x7+ (1:Int))))).run Tryz.prog w41= .ok (.slice r44_p r44_n r44_c) w43∧
   W9 w43∧∃w45 r46_p r46_n r46_c,(Instr.makeSlice 28 (.int .i64 (IntKind.i64.wrap (x7+ (1:Int)))) (.int .i64 (IntKind.i64.wrap (x7+ (1:Int))))).run Tryz.prog w43= .ok (.slice r46_p r46_n r46_c) w45∧
   W9 w45∧∀ (n47:Nat) (w48:World),New (.cells #[.int .i64 x10,.slice none 0 0,.slice r12_p r12_n r12_c,.slice r44_p r44_n r44_c,.slice r46_p r46_n r46_c,.slice r42_p r42_n r42_c,.slice none 0 0,.slice none 0 0,.slice none 0 0,.int .i64 0,.slice none 0 0] 147) w45 n47 w48→
   J8 (Addr.mk n47 0 none) w48)∧
 (∃w49 r50_p r50_n r50_c,(Instr.makeSlice 28 (.int .i64 (IntKind.i64.wrap (x7+ (1:Int)))) (.int .i64 (IntKind.i64.wrap (x7+ (1:Int))))).run Tryz.prog w41= .ok (.slice r50_p r50_n r50_c) w49∧
   W9 w49∧∃w51 r52_p r52_n r52_c,(Instr.makeSlice 144 (.int .i64 (IntKind.i64.wrap (x7+ (1:Int)))) (.int .i64 (IntKind.i64.wrap (x7+ (1:Int))))).run Tryz.prog w49= .ok (.slice r52_p r52_n r52_c) w51∧
   W9 w51∧∀ (n53:Nat) (w54:World),New (.cells #[.int .i64 x10,.slice none 0 0,.slice r12_p r12_n r12_c,.slice r52_p r52_n r52_c,.slice r50_p r50_n r50_c,.slice r42_p r42_n r42_c,.slice none 0 0,.slice none 0 0,.slice none 0 0,.int .i64 0,.slice none 0 0] 147) w51 n53 w54→
   J8 (Addr.mk n53 0 none) w54)))∧
 (∃w55 r56_p r56_n r56_c,(Instr.makeSlice 144 (.int .i64 (IntKind.i64.wrap (x7+ (1:Int)))) (.int .i64 (IntKind.i64.wrap (x7+ (1:Int))))).run Tryz.prog w5.drew= .ok (.slice r56_p r56_n r56_c) w55∧
   W9 w55∧(∃w57 r58_p r58_n r58_c,(Instr.makeSlice 22 (.int .i64 (IntKind.i64.wrap ((2:Int)* (IntKind.i64.wrap (x7+ (1:Int)))))) (.int .i64 (IntKind.i64.wrap ((2:Int)* (IntKind.i64.wrap (x7+ (1:Int))))))).run Tryz.prog w55= .ok (.slice r58_p r58_n r58_c) w57∧
   W9 w57∧(∃w59 r60_p r60_n r60_c,(Instr.makeSlice 28 (.int .i64 (IntKind.i64.wrap (x7+ (1:Int)))) (.int .i64 (IntKind.i64.wrap (x7+ (1:Int))))).run Tryz.prog w57= .ok (.slice r60_p r60_n r60_c) w59∧
   W9 w59∧∃w61 r62_p r62_n r62_c,(Instr.makeSlice 28 (.int .i64 (IntKind.i64.wrap (x7+ (1:Int)))) (.int .i64 (IntKind.i64.wrap (x7+ (1:Int))))).run Tryz.prog w59= .ok (.slice r62_p r62_n r62_c) w61∧
   W9 w61∧∀ (n63:Nat) (w64:World),New (.cells #[.int .i64 x10,.slice none 0 0,.slice r58_p r58_n r58_c,.slice r56_p r56_n r56_c,.slice r60_p r60_n r60_c,.slice r62_p r62_n r62_c,.slice none 0 0,.slice none 0 0,.slice none 0 0,.int .i64 0,.slice none 0 0] 147) w61 n63 w64→
   J8 (Addr.mk n63 0 none) w64)∧
 (∃w65 r66_p r66_n r66_c,(Instr.makeSlice 28 (.int .i64 (IntKind.i64.wrap (x7+ (1:Int)))) (.int .i64 (IntKind.i64.wrap (x7+ (1:Int))))).run Tryz.prog w57= .ok (.slice r66_p r66_n r66_c) w65∧
   W9 w65∧∃w67 r68_p r68_n r68_c,(Instr.makeSlice 28 (.int .i64 (IntKind.i64.wrap (x7+ (1:Int)))) (.int .i64 (IntKind.i64.wrap (x7+ (1:Int))))).run Tryz.prog w65= .ok (.slice r68_p r68_n r68_c) w67∧
   W9 w67∧∀ (n69:Nat) (w70:World),New (.cells #[.int .i64 x10,.slice none 0 0,.slice r58_p r58_n r58_c,.slice r56_p r56_n r56_c,.slice r68_p r68_n r68_c,.slice r66_p r66_n r66_c,.slice none 0 0,.slice none 0 0,.slice none 0 0,.int .i64 0,.slice none 0 0] 147) w67 n69 w70→
   J8 (Addr.mk n69 0 none) w70))∧
 (∃w71 r72_p r72_n r72_c,(Instr.makeSlice 28 (.int .i64 (IntKind.i64.wrap (x7+ (1:Int)))) (.int .i64 (IntKind.i64.wrap (x7+ (1:Int))))).run Tryz.prog w55= .ok (.slice r72_p r72_n r72_c) w71∧
   W9 w71∧(∃w73 r74_p r74_n r74_c,(Instr.makeSlice 22 (.int .i64 (IntKind.i64.wrap ((2:Int)* (IntKind.i64.wrap (x7+ (1:Int)))))) (.int .i64 (IntKind.i64.wrap ((2:Int)* (IntKind.i64.wrap (x7+ (1:Int))))))).run Tryz.prog w71= .ok (.slice r74_p r74_n r74_c) w73∧
   W9 w73∧∃w75 r76_p r76_n r76_c,(Instr.makeSlice 28 (.int .i64 (IntKind.i64.wrap (x7+ (1:Int)))) (.int .i64 (IntKind.i64.wrap (x7+ (1:Int))))).run Tryz.prog w73= .ok (.slice r76_p r76_n r76_c) w75∧
   W9 w75∧∀ (n77:Nat) (w78:World),New (.cells #[.int .i64 x10,.slice none 0 0,.slice r74_p r74_n r74_c,.slice r56_p r56_n r56_c,.slice r72_p r72_n r72_c,.slice r76_p r76_n r76_c,.slice none 0 0,.slice none 0 0,.slice none 0 0,.int .i64 0,.slice none 0 0] 147) w75 n77 w78→
   J8 (Addr.mk n77 0 none) w78)∧
 (∃w79 r80_p r80_n r80_c,(Instr.makeSlice 28 (.int .i64 (IntKind.i64.wrap (x7+ (1:Int)))) (.int .i64 (IntKind.i64.wrap (x7+ (1:Int))))).run Tryz.prog w71= .ok (.slice r80_p r80_n r80_c) w79∧
   W9 w79∧∃w81 r82_p r82_n r82_c,(Instr.makeSlice 22 (.int .i64 (IntKind.i64.wrap ((2:Int)* (IntKind.i64.wrap (x7+ (1:Int)))))) (.int .i64 (IntKind.i64.wrap ((2:Int)* (IntKind.i64.wrap (x7+ (1:Int))))))).run Tryz.prog w79= .ok (.slice r82_p r82_n r82_c) w81∧
   W9 w81∧∀ (n83:Nat) (w84:World),New (.cells #[.int .i64 x10,.slice none 0 0,.slice r82_p r82_n r82_c,.slice r56_p r56_n r56_c,.slice r72_p r72_n r72_c,.slice r80_p r80_n r80_c,.slice none 0 0,.slice none 0 0,.slice none 0 0,.int .i64 0,.slice none 0 0] 147) w81 n83 w84→
   J8 (Addr.mk n83 0 none) w84))∧
 (∃w85 r86_p r86_n r86_c,(Instr.makeSlice 28 (.int .i64 (IntKind.i64.wrap (x7+ (1:Int)))) (.int .i64 (IntKind.i64.wrap (x7+ (1:Int))))).run Tryz.prog w55= .ok (.slice r86_p r86_n r86_c) w85∧
   W9 w85∧(∃w87 r88_p r88_n r88_c,(Instr.makeSlice 22 (.int .i64 (IntKind.i64.wrap ((2:Int)* (IntKind.i64.wrap (x7+ (1:Int)))))) (.int .i64 (IntKind.i64.wrap ((2:Int)* (IntKind.i64.wrap (x7+ (1:Int))))))).run Tryz.prog w85= .ok (.slice r88_p r88_n r88_c) w87∧
   W9 w87∧∃w89 r90_p r90_n r90_c,(Instr.makeSlice 28 (.int .i64 (IntKind.i64.wrap (x7+ (1:Int)))) (.int .i64 (IntKind.i64.wrap (x7+ (1:Int))))).run Tryz.prog w87= .ok (.slice r90_p r90_n r90_c) w89∧
   W9 w89∧∀ (n91:Nat) (w92:World),New (.cells #[.int .i64 x10,.slice none 0 0,.slice r88_p r88_n r88_c,.slice r56_p r56_n r56_c,.slice r90_p r90_n r90_c,.slice r86_p r86_n r86_c,.slice none 0 0,.slice none 0 0,.slice none 0 0,.int .i64 0,.slice none 0 0] 147) w89 n91 w92→
   J8 (Addr.mk n91 0 none) w92)∧
 (∃w93 r94_p r94_n r94_c,(Instr.makeSlice 28 (.int .i64 (IntKind.i64.wrap (x7+ (1:Int)))) (.int .i64 (IntKind.i64.wrap (x7+ (1:Int))))).run Tryz.prog w85= .ok (.slice r94_p r94_n r94_c) w93∧
   W9 w93∧∃w95 r96_p r96_n r96_c,(Instr.makeSlice 22 (.int .i64 (IntKind.i64.wrap ((2:Int)* (IntKind.i64.wrap (x7+ (1:Int)))))) (.int .i64 (IntKind.i64.wrap ((2:Int)* (IntKind.i64.wrap (x7+ (1:Int))))))).run Tryz.prog w93= .ok (.slice r96_p r96_n r96_c) w95∧
   W9 w95∧∀ (n97:Nat) (w98:World),New (.cells #[.int .i64 x10,.slice none 0 0,.slice r96_p r96_n r96_c,.slice r56_p r56_n r56_c,.slice r94_p r94_n r94_c,.slice r86_p r86_n r86_c,.slice none 0 0,.slice none 0 0,.slice none 0 0,.int .i64 0,.slice none 0 0] 147) w95 n97 w98→
   J8 (Addr.mk n97 0 none) w98)))∧
 (∃w99 r100_p r100_n r100_c,(Instr.makeSlice 28 (.int .i64 (IntKind.i64.wrap (x7+ (1:Int)))) (.int .i64 (IntKind.i64.wrap (x7+ (1:Int))))).run Tryz.prog w5.drew= .ok (.slice r100_p r100_n r100_c) w99∧
   W9 w99∧(∃w101 r102_p r102_n r102_c,(Instr.makeSlice 22 (.int .i64 (IntKind.i64.wrap ((2:Int)* (IntKind.i64.wrap (x7+ (1:Int)))))) (.int .i64 (IntKind.i64.wrap ((2:Int)* (IntKind.i64.wrap (x7+ (1:Int))))))).run Tryz.prog w99= .ok (.slice r102_p r102_n r102_c) w101∧
   W9 w101∧(∃w103 r104_p r104_n r104_c,(Instr.makeSlice 144 (.int .i64 (IntKind.i64.wrap (x7+ (1:Int)))) (.int .i64 (IntKind.i64.wrap (x7+ (1:Int))))).run Tryz.prog w101= .ok (.slice r104_p r104_n r104_c) w103∧
   W9 w103∧∃w105 r106_p r106_n r106_c,(Instr.makeSlice 28 (.int .i64 (IntKind.i64.wrap (x7+ (1:Int)))) (.int .i64 (IntKind.i64.wrap (x7+ (1:Int))))).run Tryz.prog w103= .ok (.slice r106_p r106_n r106_c) w105∧
   W9 w105∧∀ (n107:Nat) (w108:World),New (.cells #[.int .i64 x10,.slice none 0 0,.slice r102_p r102_n r102_c,.slice r104_p r104_n r104_c,.slice r100_p r100_n r100_c,.slice r106_p r106_n r106_c,.slice none 0 0,.slice none 0 0,.slice none 0 0,.int .i64 0,.slice none 0 0] 147) w105 n107 w108→
   J8 (Addr.mk n107 0 none) w108)∧
 (∃w109 r110_p r110_n r110_c,(Instr.makeSlice 28 (.int .i64 (IntKind.i64.wrap (x7+ (1:Int)))) (.int .i64 (IntKind.i64.wrap (x7+ (1:Int))))).run Tryz.prog w101= .ok (.slice r110_p r110_n r110_c) w109∧
   W9 w109∧∃w111 r112_p r112_n r112_c,(Instr.makeSlice 144 (.int .i64 (IntKind.i64.wrap (x7+ (1:Int)))) (.int .i64 (IntKind.i64.wrap (x7+ (1:Int))))).run Tryz.prog w109= .ok (.slice r112_p r112_n r112_c) w111∧
   W9 w111∧∀ (n113:Nat) (w114:World),New (.cells #[.int .i64 x10,.slice none 0 0,.slice r102_p r102_n r102_c,.slice r112_p r112_n r112_c,.slice r100_p r100_n r100_c,.slice r110_p r110_n r110_c,.slice none 0 0,.slice none 0 0,.slice none 0 0,.int .i64 0,.slice none 0 0] 147) w111 n113 w114→
   J8 (Addr.mk n113 0 none) w114))∧
 (∃w115 r116_p r116_n r116_c,(Instr.makeSlice 144 (.int .i64 (IntKind.i64.wrap (x7+ (1:Int)))) (.int .i64 (IntKind.i64.wrap (x7+ (1:Int))))).run Tryz.prog w99= .ok (.slice r116_p r116_n r116_c) w115∧
   W9 w115∧(∃w117 r118_p r118_n r118_c,(Instr.makeSlice 22 (.int .i64 (IntKind.i64.wrap ((2:Int)* (IntKind.i64.wrap (x7+ (1:Int)))))) (.int .i64 (IntKind.i64.wrap ((2:Int)* (IntKind.i64.wrap (x7+ (1:Int))))))).run Tryz.prog w115= .ok (.slice r118_p r118_n r118_c) w117∧
   W9 w117∧∃w119 r120_p r120_n r120_c,(Instr.makeSlice 28 (.int .i64 (IntKind.i64.wrap (x7+ (1:Int)))) (.int .i64 (IntKind.i64.wrap (x7+ (1:Int))))).run Tryz.prog w117= .ok (.slice r120_p r120_n r120_c) w119∧
   W9 w119∧∀ (n121:Nat) (w122:World),New (.cells #[.int .i64 x10,.slice none 0 0,.slice r118_p r118_n r118_c,.slice r116_p r116_n r116_c,.slice r100_p r100_n r100_c,.slice r120_p r120_n r120_c,.slice none 0 0,.slice none 0 0,.slice none 0 0,.int .i64 0,.slice none 0 0] 147) w119 n121 w122→
   J8 (Addr.mk n121 0 none) w122)∧
 (∃w123 r124_p r124_n r124_c,(Instr.makeSlice 28 (.int .i64 (IntKind.i64.wrap (x7+ (1:Int)))) (.int .i64 (IntKind.i64.wrap (x7+ (1:Int))))).run Tryz.prog w115= .ok (.slice r124_p r124_n r124_c) w123∧
   W9 w123∧∃w125 r126_p r126_n r126_c,(Instr.makeSlice 22 (.int .i64 (IntKind.i64.wrap ((2:Int)* (IntKind.i64.wrap (x7+ (1:Int)))))) (.int .i64 (IntKind.i64.wrap ((2:Int)* (IntKind.i64.wrap (x7+ (1:Int))))))).run Tryz.prog w123= .ok (.slice r126_p r126_n r126_c) w125∧
   W9 w125∧∀ (n127:Nat) (w128:World),New (.cells #[.int .i64 x10,.slice none 0 0,.slice r126_p r126_n r126_c,.slice r116_p r116_n r116_c,.slice r100_p r100_n r100_c,.slice r124_p r124_n r124_c,.slice none 0 0,.slice none 0 0,.slice none 0 0,.int .i64 0,.slice none 0 0] 147) w125 n127 w128→
   J8 (Addr.mk n127 0 none) w128))∧
 (∃w129 r130_p r130_n r130_c,(Instr.makeSlice 28 (.int .i64 (IntKind.i64.wrap (x7+ (1:Int)))) (.int .i64 (IntKind.i64.wrap (x7+ (1:Int))))).run Tryz.prog w99= .ok (.slice r130_p r130_n r130_c) w129∧
   W9 w129∧(∃w131 r132_p r132_n r132_c,(Instr.makeSlice 22 (.int .i64 (IntKind.i64.wrap ((2:Int)* (IntKind.i64.wrap (x7+ (1:Int)))))) (.int .i64 (IntKind.i64.wrap ((2:Int)* (IntKind.i64.wrap (x7+ (1:Int))))))).run Tryz.prog w129= .ok (.slice r132_p r132_n r132_c) w131∧
   W9 w131∧∃w133 r134_p r134_n r134_c,(Instr.makeSlice 144 (.int .i64 (IntKind.i64.wrap (x7+ (1:Int)))) (.int .i64 (IntKind.i64.wrap (x7+ (1:Int))))).run Tryz.prog w131= .ok (.slice r134_p r134_n r134_c) w133∧
   W9 w133∧∀ (n135:Nat) (w136:World),New (.cells #[.int .i64 x10,.slice none 0 0,.slice r132_p r132_n r132_c,.slice r134_p r134_n r134_c,.slice r100_p r100_n r100_c,.slice r130_p r130_n r130_c,.slice none 0 0,.slice none 0 0,.slice none 0 0,.int .i64 0,.slice none 0 0] 147) w133 n135 w136→
   J8 (Addr.mk n135 0 none) w136)∧
 (∃w137 r138_p r138_n r138_c,(Instr.makeSlice 144 (.int .i64 (IntKind.i64.wrap (x7+ (1:Int)))) (.int .i64 (IntKind.i64.wrap (x7+ (1:Int))))).run Tryz.prog w129= .ok (.slice r138_p r138_n r138_c) w137∧
   W9 w137∧∃w139 r140_p r140_n r140_c,(Instr.makeSlice 22 (.int .i64 (IntKind.i64.wrap ((2:Int)* (IntKind.i64.wrap (x7+ (1:Int)))))) (.int .i64 (IntKind.i64.wrap ((2:Int)* (IntKind.i64.wrap (x7+ (1:Int))))))).run Tryz.prog w137= .ok (.slice r140_p r140_n r140_c) w139∧
   W9 w139∧∀ (n141:Nat) (w142:World),New (.cells #[.int .i64 x10,.slice none 0 0,.slice r140_p r140_n r140_c,.slice r138_p r138_n r138_c,.slice r100_p r100_n r100_c,.slice r130_p r130_n r130_c,.slice none 0 0,.slice none 0 0,.slice none 0 0,.int .i64 0,.slice none 0 0] 147) w139 n141 w142→
   J8 (Addr.mk n141 0 none) w142)))∧
 (∃w143 r144_p r144_n r144_c,(Instr.makeSlice 28 (.int .i64 (IntKind.i64.wrap (x7+ (1:Int)))) (.int .i64 (IntKind.i64.wrap (x7+ (1:Int))))).run Tryz.prog w5.drew= .ok (.slice r144_p r144_n r144_c) w143∧
   W9 w143∧(∃w145 r146_p r146_n r146_c,(Instr.makeSlice 22 (.int .i64 (IntKind.i64.wrap ((2:Int)* (IntKind.i64.wrap (x7+ (1:Int)))))) (.int .i64 (IntKind.i64.wrap ((2:Int)* (IntKind.i64.wrap (x7+ (1:Int))))))).run Tryz.prog w143= .ok (.slice r146_p r146_n r146_c) w145∧
   W9 w145∧(∃w147 r148_p r148_n r148_c,(Instr.makeSlice 144 (.int .i64 (IntKind.i64.wrap (x7+ (1:Int)))) (.int .i64 (IntKind.i64.wrap (x7+ (1:Int))))).run Tryz.prog w145= .ok (.slice r148_p r148_n r148_c) w147∧
   W9 w147∧∃w149 r150_p r150_n r150_c,(Instr.makeSlice 28 (.int .i64 (IntKind.i64.wrap (x7+ (1:Int)))) (.int .i64 (IntKind.i64.wrap (x7+ (1:Int))))).run Tryz.prog w147= .ok (.slice r150_p r150_n r150_c) w149∧
   W9 w149∧∀ (n151:Nat) (w152:World),New (.cells #[.int .i64 x10,.slice none 0 0,.slice r146_p r146_n r146_c,.slice r148_p r148_n r148_c,.slice r150_p r150_n r150_c,.slice r144_p r144_n r144_c,.slice none 0 0,.slice none 0 0,.slice none 0 0,.int .i64 0,.slice none 0 0] 147) w149 n151 w152→
   J8 (Addr.mk n151 0 none) w152)∧
 (∃w153 r154_p r154_n r154_c,(Instr.makeSlice 28 (.int .i64 (IntKind.i64.wrap (x7+ (1:Int)))) (.int .i64 (IntKind.i64.wrap (x7+ (1:Int))))).run Tryz.prog w145= .ok (.slice r154_p r154_n r154_c) w153∧
   W9 w153∧∃w155 r156_p r156_n r156_c,(Instr.makeSlice 144 (.int .i64 (IntKind.i64.wrap (x7+ (1:Int)))) (.int .i64 (IntKind.i64.wrap (x7+ (1:Int))))).run Tryz.prog w153= .ok (.slice r156_p r156_n r156_c) w155∧
   W9 w155∧∀ (n157:Nat) (w158:World),New (.cells #[.int .i64 x10,.slice none 0 0,.slice r146_p r146_n r146_c,.slice r156_p r156_n r156_c,.slice r154_p r154_n r154_c,.slice r144_p r144_n r144_c,.slice none 0 0,.slice none 0 0,.slice none 0 0,.int .i64 0,.slice none 0 0] 147) w155 n157 w158→
   J8 (Addr.mk n157 0 none) w158))∧
 (∃w159 r160_p r160_n r160_c,(Instr.makeSlice 144 (.int .i64 (IntKind.i64.wrap (x7+ (1:Int)))) (.int .i64 (IntKind.i64.wrap (x7+ (1:Int))))).run Tryz.prog w143= .ok (.slice r160_p r160_n r160_c) w159∧
   W9 w159∧(∃w161 r162_p r162_n r162_c,(Instr.makeSlice 22 (.int .i64 (IntKind.i64.wrap ((2:Int)* (IntKind.i64.wrap (x7+ (1:Int)))))) (.int .i64 (IntKind.i64.wrap ((2:Int)* (IntKind.i64.wrap (x7+ (1:Int))))))).run Tryz.prog w159= .ok (.slice r162_p r162_n r162_c) w161∧
   W9 w161∧∃w163 r164_p r164_n r164_c,(Instr.makeSlice 28 (.int .i64 (IntKind.i64.wrap (x7+ (1:Int)))) (.int .i64 (IntKind.i64.wrap (x7+ (1:Int))))).run Tryz.prog w161= .ok (.slice r164_p r164_n r164_c) w163∧
   W9 w163∧∀ (n165:Nat) (w166:World),New (.cells #[.int .i64 x10,.slice none 0 0,.slice r162_p r162_n r162_c,.slice r160_p r160_n r160_c,.slice r164_p r164_n r164_c,.slice r144_p r144_n r144_c,.slice none 0 0,.slice none 0 0,.slice none 0 0,.int .i64 0,.slice none 0 0] 147) w163 n165 w166→
   J8 (Addr.mk n165 0 none) w166)∧
 (∃w167 r168_p r168_n r168_c,(Instr.makeSlice 28 (.int .i64 (IntKind.i64.wrap (x7+ (1:Int)))) (.int .i64 (IntKind.i64.wrap (x7+ (1:Int))))).run Tryz.prog w159= .ok (.slice r168_p r168_n r168_c) w167∧
   W9 w167∧∃w169 r170_p r170_n r170_c,(Instr.makeSlice 22 (.int .i64 (IntKind.i64.wrap ((2:Int)* (IntKind.i64.wrap (x7+ (1:Int)))))) (.int .i64 (IntKind.i64.wrap ((2:Int)* (IntKind.i64.wrap (x7+ (1:Int))))))).run Tryz.prog w167= .ok (.slice r170_p r170_n r170_c) w169∧
   W9 w169∧∀ (n171:Nat) (w172:World),New (.cells #[.int .i64 x10,.slice none 0 0,.slice r170_p r170_n r170_c,.slice r160_p r160_n r160_c,.slice r168_p r168_n r168_c,.slice r144_p r144_n r144_c,.slice none 0 0,.slice none 0 0,.slice none 0 0,.int .i64 0,.slice none 0 0] 147) w169 n171 w172→
   J8 (Addr.mk n171 0 none) w172))∧
 (∃w173 r174_p r174_n r174_c,(Instr.makeSlice 28 (.int .i64 (IntKind.i64.wrap (x7+ (1:Int)))) (.int .i64 (IntKind.i64.wrap (x7+ (1:Int))))).run Tryz.prog w143= .ok (.slice r174_p r174_n r174_c) w173∧
   W9 w173∧(∃w175 r176_p r176_n r176_c,(Instr.makeSlice 22 (.int .i64 (IntKind.i64.wrap ((2:Int)* (IntKind.i64.wrap (x7+ (1:Int)))))) (.int .i64 (IntKind.i64.wrap ((2:Int)* (IntKind.i64.wrap (x7+ (1:Int))))))).run Tryz.prog w173= .ok (.slice r176_p r176_n r176_c) w175∧
   W9 w175∧∃w177 r178_p r178_n r178_c,(Instr.makeSlice 144 (.int .i64 (IntKind.i64.wrap (x7+ (1:Int)))) (.int .i64 (IntKind.i64.wrap (x7+ (1:Int))))).run Tryz.prog w175= .ok (.slice r178_p r178_n r178_c) w177∧
   W9 w177∧∀ (n179:Nat) (w180:World),New (.cells #[.int .i64 x10,.slice none 0 0,.slice r176_p r176_n r176_c,.slice r178_p r178_n r178_c,.slice r174_p r174_n r174_c,.slice r144_p r144_n r144_c,.slice none 0 0,.slice none 0 0,.slice none 0 0,.int .i64 0,.slice none 0 0] 147) w177 n179 w180→
   J8 (Addr.mk n179 0 none) w180)∧
 (∃w181 r182_p r182_n r182_c,(Instr.makeSlice 144 (.int .i64 (IntKind.i64.wrap (x7+ (1:Int)))) (.int .i64 (IntKind.i64.wrap (x7+ (1:Int))))).run Tryz.prog w173= .ok (.slice r182_p r182_n r182_c) w181∧
   W9 w181∧∃w183 r184_p r184_n r184_c,(Instr.makeSlice 22 (.int .i64 (IntKind.i64.wrap ((2:Int)* (IntKind.i64.wrap (x7+ (1:Int)))))) (.int .i64 (IntKind.i64.wrap ((2:Int)* (IntKind.i64.wrap (x7+ (1:Int))))))).run Tryz.prog w181= .ok (.slice r184_p r184_n r184_c) w183∧
   W9 w183∧∀ (n185:Nat) (w186:World),New (.cells #[.int .i64 x10,.slice none 0 0,.slice r184_p r184_n r184_c,.slice r182_p r182_n r182_c,.slice r174_p r174_n r174_c,.slice r144_p r144_n r144_c,.slice none 0 0,.slice none 0 0,.slice none 0 0,.int .i64 0,.slice none 0 0] 147) w183 n185 w186→
   J8 (Addr.mk n185 0 none) w186))))∧
   ∀ (p_187:Addr) (w188:World) (_:Fr),J8 p_187 w188→
   ∃x189_p x189_n x189_c,w188.cell? ((Addr.mk n1 0 none).add 1)=some (.slice x189_p x189_n x189_c)∧
   ∃I190:Int→World→Nat→Prop,(∃k191,I190 0 w188 k191)∧
   ∀ (v193:Int) (w194:World) (k191:Nat) (_:Fr),I190 v193 w194 k191→
   cnd (decide (v193< (x189_n:Int)))
    (ixK x189_p x189_n v193 1 fun a195=>
      ∃x196_p x196_n x196_c,w194.cell? a195=some (.slice x196_p x196_n x196_c)∧
      Calls Tryz.prog 106 #[.pointer (some p_187),.slice x196_p x196_n x196_c] w194 fun e w197=> ∃r198 r199,e= .returned (.tuple #[.int .i64 r198,.int .i64 r199])∧
      ∃k192,k192<k191∧I190 (IntKind.i64.wrap (v193+ (1:Int))) w197 k192)
    (K (.tuple #[.pointer (some p_187),.int .i64 0]) w194))
theorem prop_New.calls {f_0 f_1_p f_1_n f_1_c w R} (h:prop_New.w f_0 f_1_p f_1_n f_1_c w fun v w'=>R (.returned v) w'):Calls Tryz.prog 76 #[.agg #[.int .i64 f_0,.slice f_1_p f_1_n f_1_c]] w R:=
 calls_of mixed Tryz.func76 (by kernel_rfl) rfl (ann:=(.two .leaf (.two .leaf (.two .leaf (.cut [(5,1000000)] .draw (.two (.two .leaf (.one (.loop [(30,3)] .leaf))) .leaf)))))) (F:=prop_New.w f_0 f_1_p f_1_n f_1_c w) (fun K=>by kernel_rfl) h
def prop_Prop_Run.w (p_:Option Addr) (w:World) (K:Value→World→Prop):Prop:=
 cnd p_.isNone
 (K (.int .i64 (-1)) w)
 (∃a1,p_=some a1∧∃x2_p x2_n x2_c,w.cell? (a1.add 3)=some (.slice x2_p x2_n x2_c)∧
 cnd x2_p.isNone
 (K (.int .i64 (-1)) w)
 (Calls Tryz.prog 118 #[.pointer p_] w fun e w3=> ∃r4,e= .returned (.int .i64 r4)∧
   cnd (decide (r4≥(0:Int)))
   (K (.int .i64 r4) w3)
   (∃I5:World→Nat→Prop,(∃k6,I5 w3 k6)∧
     ∀ (w8:World) (k6:Nat) (_:Fr),I5 w8 k6→
     ∃a9,p_=some a9∧∃x10,w8.drew.cell? (a9.add 9)=some (.int .i64 x10)∧
      ∃a11,p_=some a11∧∃x12_p x12_n x12_c,w8.drew.cell? (a11.add 6)=some (.slice x12_p x12_n x12_c)∧
      cnd (decide (x10< (x12_n:Int)))
      (∃a13,p_=some a13∧∃x14_p x14_n x14_c,w8.drew.drew.cell? (a13.add 6)=some (.slice x14_p x14_n x14_c)∧
        ∃a15,p_=some a15∧∃x16,w8.drew.drew.cell? (a15.add 9)=some (.int .i64 x16)∧
        ixK x14_p x14_n x16 1 fun a17=>
        ∃x18,w8.drew.drew.cell? a17=some (.int .i64 x18)∧
        ∃W19:World→Prop,W19 w8.drew.drew.drew∧
        ∃a20,p_=some a20∧∃x21_p x21_n x21_c,AtW W19 (a20.add 2) (.slice x21_p x21_n x21_c)∧
        Calls Tryz.prog 119 #[.int .i64 (IntKind.i64.wrap (0 - x18))] w8.drew.drew.drew fun e w22=> ∃r23,e= .returned (.int .i64 r23)∧
        W19 w22∧ixK x21_p x21_n r23 1 fun a24=>
        ∃x25_p x25_n x25_c,AtW W19 a24 (.slice x25_p x25_n x25_c)∧
        ∃I26:Int→Int→World→Nat→Prop,(∃k27,I26 0 0 w22 k27)∧
        ∀ (kept_29:Int) (v30:Int) (w31:World) (k27:Nat) (_:Fr),I26 kept_29 v30 w31 k27→
        cnd (decide (v30< (x25_n:Int)))
         (ixK x25_p x25_n v30 1 fun a32=>
           ∃x33,w31.cell? a32=some (.int .i64 x33)∧
           ∃a34,p_=some a34∧∃x35_p x35_n x35_c,w31.cell? (a34.add 1)=some (.slice x35_p x35_n x35_c)∧
           ixK x35_p x35_n x33 3 fun a36=>
           ∃x37_p x37_n x37_c,w31.cell? (a36.add 1)=some (.slice x37_p x37_n x37_c)∧
           cnd (decide ((x37_n:Int)< (2:Int)))
           (ixK x25_p x25_n kept_29 1 fun a38=>
             ∃w39,StoreAt a38 0 [.int .i64 x33] w31 w39∧
             ∃k28,k28<k27∧I26 (IntKind.i64.wrap (kept_29+ (1:Int))) (IntKind.i64.wrap (v30+ (1:Int))) w39 k28)
           (Calls Tryz.prog 120 #[.pointer p_,.int .i64 x33,.int .i64 (IntKind.i64.wrap (0 - x18))] w31 fun e w40=> ∃r41 r42,e= .returned (.tuple #[.bool r41,.bool r42])∧
             cnd r41
             (ixK x25_p x25_n kept_29 1 fun a43=>
               ∃w44,StoreAt a43 0 [.int .i64 x33] w40 w44∧
               cnd r42
               (slK x25_p x25_n x25_c 1 (some (IntKind.i64.wrap (kept_29+ (1:Int)))) none none fun s45_p s45_n s45_c=>
                 slK x25_p x25_n x25_c 1 (some (IntKind.i64.wrap (v30+ (1:Int)))) none none fun s46_p s46_n s46_c=>
                 ∃w47 r48,(Builtin.copy_ #[28,28] 3 #[.slice s45_p s45_n s45_c,.slice s46_p s46_n s46_c]).run Tryz.prog w44.drew= .ok (.int .i64 r48) w47∧
                 ∃W49:World→Prop,W49 w47.drew∧
                 ∃a50,p_=some a50∧∃x51_p x51_n x51_c,AtW W49 (a50.add 2) (.slice x51_p x51_n x51_c)∧
                 Calls Tryz.prog 119 #[.int .i64 (IntKind.i64.wrap (0 - x18))] w47.drew fun e w52=> ∃r53,e= .returned (.int .i64 r53)∧
                 W49 w52∧slK x25_p x25_n x25_c 1 none (some (IntKind.i64.wrap ((IntKind.i64.wrap (kept_29+ (1:Int)))+r48))) none fun s54_p s54_n s54_c=>
                 ixK x51_p x51_n r53 1 fun a55=>
                 ∃w56,StoreAt a55 0 [.slice s54_p s54_n s54_c] w52 w56∧
                 K (.int .i64 x33) w56)
               (∃k28,k28<k27∧I26 (IntKind.i64.wrap (kept_29+ (1:Int))) (IntKind.i64.wrap (v30+ (1:Int))) w44 k28))
             (cnd r42
               (slK x25_p x25_n x25_c 1 (some kept_29) none none fun s57_p s57_n s57_c=>
                 slK x25_p x25_n x25_c 1 (some (IntKind.i64.wrap (v30+ (1:Int)))) none none fun s58_p s58_n s58_c=>
                 ∃w59 r60,(Builtin.copy_ #[28,28] 3 #[.slice s57_p s57_n s57_c,.slice s58_p s58_n s58_c]).run Tryz.prog w40.drew= .ok (.int .i64 r60) w59∧
                 ∃W61:World→Prop,W61 w59.drew∧
                 ∃a62,p_=some a62∧∃x63_p x63_n x63_c,AtW W61 (a62.add 2) (.slice x63_p x63_n x63_c)∧
                 Calls Tryz.prog 119 #[.int .i64 (IntKind.i64.wrap (0 - x18))] w59.drew fun e w64=> ∃r65,e= .returned (.int .i64 r65)∧
                 W61 w64∧slK x25_p x25_n x25_c 1 none (some (IntKind.i64.wrap (kept_29+r60))) none fun s66_p s66_n s66_c=>
                 ixK x63_p x63_n r65 1 fun a67=>
                 ∃w68,StoreAt a67 0 [.slice s66_p s66_n s66_c] w64 w68∧
                 K (.int .i64 x33) w68)
               (∃k28,k28<k27∧I26 kept_29 (IntKind.i64.wrap (v30+ (1:Int))) w40 k28))))
         (∃W69:World→Prop,W69 w31.drew∧
           ∃a70,p_=some a70∧∃x71_p x71_n x71_c,AtW W69 (a70.add 2) (.slice x71_p x71_n x71_c)∧
           Calls Tryz.prog 119 #[.int .i64 (IntKind.i64.wrap (0 - x18))] w31.drew fun e w72=> ∃r73,e= .returned (.int .i64 r73)∧
           W69 w72∧slK x25_p x25_n x25_c 1 none (some kept_29) none fun s74_p s74_n s74_c=>
           ixK x71_p x71_n r73 1 fun a75=>
           ∃w76,StoreAt a75 0 [.slice s74_p s74_n s74_c] w72 w76∧
           ∃a77,p_=some a77∧∃x78,w76.cell? (a77.add 9)=some (.int .i64 x78)∧
           ∃a79,p_=some a79∧∃w80,StoreAt (a79.add 9) 0 [.int .i64 (IntKind.i64.wrap (x78+ (1:Int)))] w76 w80∧
           ∃k7,k7<k6∧I5 w80 k7))
      (K (.int .i64 (-1)) w8.drew))))
theorem prop_Prop_Run.calls {p_ w R} (h:prop_Prop_Run.w p_ w fun v w'=>R (.returned v) w'):Calls Tryz.prog 79 #[.pointer p_] w R:=
 calls_of mixed Tryz.func79 (by kernel_rfl) rfl (ann:=(.two .leaf (.one (.two .leaf (.two .leaf (.two .leaf (.two (.one (.loop [] (.two .leaf (.one (.two .leaf (.two .draw (.two .leaf (.two (.two .leaf (.one (.loop [(6,3),(56,3)] (.two .leaf (.two .leaf (.two (.one (.two .leaf (.two .leaf (.two .leaf (.two .leaf (.two .leaf (.two (.two .leaf (.two .draw .leaf)) .leaf))))))) .leaf)))))) (.two .draw .leaf))))))))) .leaf))))))) (F:=prop_Prop_Run.w p_ w) (fun K=>by kernel_rfl) h
def slices_Clone_int_int_85.w (s__p:Option Addr) (s__n:Nat) (s__c:Nat) (w:World) (K:Value→World→Prop):Prop:=
 cnd s__p.isNone
 (K (.slice none 0 0) w)
 (∀ (n1:Nat) (w2:World),New (.cells #[] 28) w n1 w2→
   ∃w3 r4_p r4_n r4_c,(Builtin.append_ #[22,22] 22 #[.slice (some (Addr.mk n1 0 none)) 0 0,.slice s__p s__n s__c]).run Tryz.prog w2= .ok (.slice r4_p r4_n r4_c) w3∧
   K (.slice r4_p r4_n r4_c) w3)
theorem slices_Clone_int_int_85.calls {s__p s__n s__c w R} (h:slices_Clone_int_int_85.w s__p s__n s__c w fun v w'=>R (.returned v) w'):Calls Tryz.prog 85 #[.slice s__p s__n s__c] w R:=
 calls_of mixed Tryz.func85 (by kernel_rfl) rfl (ann:= .leaf) (F:=slices_Clone_int_int_85.w s__p s__n s__c w) (fun K=>by kernel_rfl) h
def fathomref01_Clause.w (m__p:Option Addr) (m__n:Nat) (m__c:Nat) (c__p:Option Addr) (c__n:Nat) (c__c:Nat) (w:World) (K:Value→World→Prop):Prop:=
 ∃I1:Bool→Int→World→Nat→Prop,(∃k2,I1 false 0 w k2)∧
 ∀ (open_4:Bool) (i_5:Int) (w6:World) (k2:Nat) (_:Fr),I1 open_4 i_5 w6 k2→
 cnd (decide (i_5< (c__n:Int)))
  (ixK c__p c__n i_5 1 fun a7=>
    ∃x8,w6.cell? a7=some (.int .i64 x8)∧
    Calls Tryz.prog 133 #[.slice m__p m__n m__c,.int .i64 x8] w6 fun e w9=> ∃r10,e= .returned (.int .i64 r10)∧
    cnd (r10==(1:Int))
    (K (.int .i64 1) w9)
    (cnd open_4
      (∃k3,k3<k2∧I1 true (IntKind.i64.wrap (i_5+ (1:Int))) w9 k3)
      (ixK c__p c__n i_5 1 fun a11=>
      ∃x12,w9.cell? a11=some (.int .i64 x12)∧
      Calls Tryz.prog 133 #[.slice m__p m__n m__c,.int .i64 x12] w9 fun e w13=> ∃r14,e= .returned (.int .i64 r14)∧
      ∃k3,k3<k2∧I1 (r14==(0:Int)) (IntKind.i64.wrap (i_5+ (1:Int))) w13 k3)))
  (cnd open_4
    (K (.int .i64 0) w6)
    (K (.int .i64 (-1)) w6))
theorem fathomref01_Clause.calls {m__p m__n m__c c__p c__n c__c w R} (h:fathomref01_Clause.w m__p m__n m__c c__p c__n c__c w fun v w'=>R (.returned v) w'):Calls Tryz.prog 86 #[.slice m__p m__n m__c,.slice c__p c__n c__c] w R:=
 calls_of mixed Tryz.func86 (by kernel_rfl) rfl (ann:=(.two .leaf (.two .leaf (.two (.two .leaf (.one (.loop [(5,4),(6,3)] .leaf))) .leaf)))) (F:=fathomref01_Clause.w m__p m__n m__c c__p c__n c__c w) (fun K=>by kernel_rfl) h
def lit_CheckCnf_1.w (l_:Int) (c0_:Addr) (w:World) (K:Value→World→Prop):Prop:=
 (Calls Tryz.prog 89 #[.int .i64 l_] w.drew fun e w1=> ∃r2,e= .returned (.int .i64 r2)∧
 ∃x3,w1.cell? (c0_.add 0)=some (.int .i64 x3)∧
 K (.bool (decide (r2>x3))) w1)∧
(∃x4,w.drew.cell? (c0_.add 0)=some (.int .i64 x4)∧
  Calls Tryz.prog 89 #[.int .i64 l_] w.drew fun e w5=> ∃r6,e= .returned (.int .i64 r6)∧
  K (.bool (decide (r6>x4))) w5)
theorem lit_CheckCnf_1.calls {l_ c0_ w R} (h:lit_CheckCnf_1.w l_ c0_ w fun v w'=>R (.returned v) w'):Calls Tryz.prog 88 #[.int .i64 l_,.pointer (some c0_)] w R:=
 calls_of mixed Tryz.func88 (by kernel_rfl) rfl (ann:= .leaf) (F:=lit_CheckCnf_1.w l_ c0_ w) (fun K=>by kernel_rfl) h
def lit_amount.w (l_:Int) (w:World) (K:Value→World→Prop):Prop:=
 K (.int .i64 (imax l_ (IntKind.i64.wrap (0 - l_)))) w
theorem lit_amount.calls {l_ w R} (h:lit_amount.w l_ w fun v w'=>R (.returned v) w'):Calls Tryz.prog 89 #[.int .i64 l_] w R:=
 calls_of mixed Tryz.func89 (by kernel_rfl) rfl (ann:= .leaf) (F:=lit_amount.w l_ w) (fun K=>by kernel_rfl) h
def slices_ContainsFunc_fathom_api_Step_fathom_api_Step.w (s__p:Option Addr) (s__n:Nat) (s__c:Nat) (f_f:FuncId) (f_v:Array Value) (w:World) (K:Value→World→Prop):Prop:=
 Calls Tryz.prog 92 #[.slice s__p s__n s__c,.func (.func f_f) #[] f_v] w fun e w1=> ∃r2,e= .returned (.int .i64 r2)∧
 K (.bool (decide (r2≥(0:Int)))) w1
theorem slices_ContainsFunc_fathom_api_Step_fathom_api_Step.calls {s__p s__n s__c f_f f_v w R} (h:slices_ContainsFunc_fathom_api_Step_fathom_api_Step.w s__p s__n s__c f_f f_v w fun v w'=>R (.returned v) w'):Calls Tryz.prog 90 #[.slice s__p s__n s__c,.func (.func f_f) #[] f_v] w R:=
 calls_of mixed Tryz.func90 (by kernel_rfl) rfl (ann:= .leaf) (F:=slices_ContainsFunc_fathom_api_Step_fathom_api_Step.w s__p s__n s__c f_f f_v w) (fun K=>by kernel_rfl) h
def trace_Check_1.w (s_0:Bool) (s_1_p:Option Addr) (s_1_n:Nat) (s_1_c:Nat) (w:World) (K:Value→World→Prop):Prop:=
 ∀ (n1:Nat) (w2:World),New (.cells #[.bool s_0,.slice s_1_p s_1_n s_1_c] 48) w n1 w2→
 ∃x3_p x3_n x3_c,w2.cell? ((Addr.mk n1 0 none).add 1)=some (.slice x3_p x3_n x3_c)∧
 Calls Tryz.prog 62 #[.slice x3_p x3_n x3_c] w2 fun e w4=> ∃r5,e= .returned (.int .i64 r5)∧
 K (.bool (r5 !=(0:Int))) w4
theorem trace_Check_1.calls {s_0 s_1_p s_1_n s_1_c w R} (h:trace_Check_1.w s_0 s_1_p s_1_n s_1_c w fun v w'=>R (.returned v) w'):Calls Tryz.prog 91 #[.agg #[.bool s_0,.slice s_1_p s_1_n s_1_c]] w R:=
 calls_of mixed Tryz.func91 (by kernel_rfl) rfl (ann:= .leaf) (F:=trace_Check_1.w s_0 s_1_p s_1_n s_1_c w) (fun K=>by kernel_rfl) h
def slices_IndexFunc_fathom_api_Step_fathom_api_Step.w (s__p:Option Addr) (s__n:Nat) (s__c:Nat) (f_f:FuncId) (f_v:Array Value) (w:World) (K:Value→World→Prop):Prop:=
 ∃I1:Int→World→Nat→Prop,(∃k2,I1 0 w k2)∧
 ∀ (v4:Int) (w5:World) (k2:Nat) (_:Fr),I1 v4 w5 k2→
 cnd (decide (v4< (s__n:Int)))
  (ixK s__p s__n v4 2 fun a6=>
    ∃x7 x8_p x8_n x8_c,CellsAt w5 a6 0 [.bool x7,.slice x8_p x8_n x8_c]∧
    cnd (entB Tryz.prog f_f) (Calls Tryz.prog f_f (#[]++ #[.agg #[.bool x7,.slice x8_p x8_n x8_c]]++f_v) w5 fun e w9=> ∃r10,e= .returned (.bool r10)∧
    cnd r10
    (K (.int .i64 v4) w9)
    (∃k3,k3<k2∧I1 (IntKind.i64.wrap (v4+ (1:Int))) w9 k3)) False)
  (K (.int .i64 (-1)) w5)
theorem slices_IndexFunc_fathom_api_Step_fathom_api_Step.calls {s__p s__n s__c f_f f_v w R} (h:slices_IndexFunc_fathom_api_Step_fathom_api_Step.w s__p s__n s__c f_f f_v w fun v w'=>R (.returned v) w'):Calls Tryz.prog 92 #[.slice s__p s__n s__c,.func (.func f_f) #[] f_v] w R:=
 calls_of mixed Tryz.func92 (by kernel_rfl) rfl (ann:=(.two .leaf (.two (.two .leaf (.one (.loop [(8,3)] .leaf))) .leaf))) (F:=slices_IndexFunc_fathom_api_Step_fathom_api_Step.w s__p s__n s__c f_f f_v w) (fun K=>by kernel_rfl) h
def drat_end_1.w (s_0:Bool) (s_1_p:Option Addr) (s_1_n:Nat) (s_1_c:Nat) (w:World) (K:Value→World→Prop):Prop:=
 ∀ (n1:Nat) (w2:World),New (.cells #[.bool s_0,.slice s_1_p s_1_n s_1_c] 48) w n1 w2→
 ∃x3,w2.cell? ((Addr.mk n1 0 none).add 0)=some (.bool x3)∧
 cnd (!x3)
 (∃x4_p x4_n x4_c,w2.cell? ((Addr.mk n1 0 none).add 1)=some (.slice x4_p x4_n x4_c)∧
 K (.bool ((x4_n:Int)==(0:Int))) w2)
 (K (.bool false) w2)
theorem drat_end_1.calls {s_0 s_1_p s_1_n s_1_c w R} (h:drat_end_1.w s_0 s_1_p s_1_n s_1_c w fun v w'=>R (.returned v) w'):Calls Tryz.prog 93 #[.agg #[.bool s_0,.slice s_1_p s_1_n s_1_c]] w R:=
 calls_of mixed Tryz.func93 (by kernel_rfl) rfl (ann:= .leaf) (F:=drat_end_1.w s_0 s_1_p s_1_n s_1_c w) (fun K=>by kernel_rfl) h
def lit_Norm.w (c__p:Option Addr) (c__n:Nat) (c__c:Nat) (w:World) (K:Value→World→Prop):Prop:=
 Calls Tryz.prog 62 #[.slice c__p c__n c__c] w fun e w1=> ∃r2,e= .returned (.int .i64 r2)∧
 cnd (r2 !=(0:Int))
 (K (.tuple #[.slice none 0 0,.bool false]) w1)
 (Calls Tryz.prog 70 #[.slice c__p c__n c__c] w1 fun e w3=> ∃r4_p r4_n r4_c,e= .returned (.slice r4_p r4_n r4_c)∧
   Calls Tryz.prog 135 #[.slice r4_p r4_n r4_c,.func (.func 136) #[] #[]] w3 fun e w5=>e= .returned (.tuple #[])∧
   Calls Tryz.prog 137 #[.slice r4_p r4_n r4_c] w5 fun e w6=> ∃r7_p r7_n r7_c,e= .returned (.slice r7_p r7_n r7_c)∧
   ∃I8:Int→World→Nat→Prop,(∃k9,I8 1 w6 k9)∧
   ∀ (i_11:Int) (w12:World) (k9:Nat) (_:Fr),I8 i_11 w12 k9→
   cnd (decide (i_11< (r7_n:Int)))
    (ixK r7_p r7_n i_11 1 fun a13=>
      ∃x14,w12.drew.cell? a13=some (.int .i64 x14)∧
      ixK r7_p r7_n (IntKind.i64.wrap (i_11 - (1:Int))) 1 fun a15=>
      ∃x16,w12.drew.cell? a15=some (.int .i64 x16)∧
      cnd (x14==(IntKind.i64.wrap (0 - x16)))
      (K (.tuple #[.slice r7_p r7_n r7_c,.bool true]) w12.drew)
      (∃k10,k10<k9∧I8 (IntKind.i64.wrap (i_11+ (1:Int))) w12.drew k10))
    (K (.tuple #[.slice r7_p r7_n r7_c,.bool false]) w12))
theorem lit_Norm.calls {c__p c__n c__c w R} (h:lit_Norm.w c__p c__n c__c w fun v w'=>R (.returned v) w'):Calls Tryz.prog 94 #[.slice c__p c__n c__c] w R:=
 calls_of mixed Tryz.func94 (by kernel_rfl) rfl (ann:=(.two .leaf (.two .leaf (.two .leaf (.two .leaf (.two .leaf (.two (.two .leaf (.one (.loop [(5,3)] .leaf))) .leaf))))))) (F:=lit_Norm.w c__p c__n c__c w) (fun K=>by kernel_rfl) h
def slices_IndexFunc_fathom_drat_source_fathom_drat_source.w (s__p:Option Addr) (s__n:Nat) (s__c:Nat) (f_f:FuncId) (f_v:Array Value) (w:World) (K:Value→World→Prop):Prop:=
 ∃I1:Int→World→Nat→Prop,(∃k2,I1 0 w k2)∧
 ∀ (v4:Int) (w5:World) (k2:Nat) (_:Fr),I1 v4 w5 k2→
 cnd (decide (v4< (s__n:Int)))
  (ixK s__p s__n v4 3 fun a6=>
    ∃x7_p x7_n x7_c x8 x9,CellsAt w5 a6 0 [.slice x7_p x7_n x7_c,.bool x8,.int .i64 x9]∧
    cnd (entB Tryz.prog f_f) (Calls Tryz.prog f_f (#[]++ #[.agg #[.slice x7_p x7_n x7_c,.bool x8,.int .i64 x9]]++f_v) w5 fun e w10=> ∃r11,e= .returned (.bool r11)∧
    cnd r11
    (K (.int .i64 v4) w10)
    (∃k3,k3<k2∧I1 (IntKind.i64.wrap (v4+ (1:Int))) w10 k3)) False)
  (K (.int .i64 (-1)) w5)
theorem slices_IndexFunc_fathom_drat_source_fathom_drat_source.calls {s__p s__n s__c f_f f_v w R} (h:slices_IndexFunc_fathom_drat_source_fathom_drat_source.w s__p s__n s__c f_f f_v w fun v w'=>R (.returned v) w'):Calls Tryz.prog 95 #[.slice s__p s__n s__c,.func (.func f_f) #[] f_v] w R:=
 calls_of mixed Tryz.func95 (by kernel_rfl) rfl (ann:=(.two .leaf (.two (.two .leaf (.one (.loop [(8,3)] .leaf))) .leaf))) (F:=slices_IndexFunc_fathom_drat_source_fathom_drat_source.w s__p s__n s__c f_f f_v w) (fun K=>by kernel_rfl) h
def drat_gone_1.w (s_0_p:Option Addr) (s_0_n:Nat) (s_0_c:Nat) (s_1:Bool) (s_2:Int) (c0_:Addr) (w:World) (K:Value→World→Prop):Prop:=
 ∀ (n1:Nat) (w2:World),New (.cells #[.slice s_0_p s_0_n s_0_c,.bool s_1,.int .i64 s_2] 79) w n1 w2→
 ∃x3_p x3_n x3_c,w2.cell? ((Addr.mk n1 0 none).add 0)=some (.slice x3_p x3_n x3_c)∧
 Calls Tryz.prog 94 #[.slice x3_p x3_n x3_c] w2 fun e w4=> ∃r5_p r5_n r5_c r6,e= .returned (.tuple #[.slice r5_p r5_n r5_c,.bool r6])∧
 ∃x7_p x7_n x7_c,w4.cell? c0_=some (.slice x7_p x7_n x7_c)∧
 Calls Tryz.prog 97 #[.slice r5_p r5_n r5_c,.slice x7_p x7_n x7_c] w4 fun e w8=> ∃r9,e= .returned (.bool r9)∧
 K (.bool r9) w8
theorem drat_gone_1.calls {s_0_p s_0_n s_0_c s_1 s_2 c0_ w R} (h:drat_gone_1.w s_0_p s_0_n s_0_c s_1 s_2 c0_ w fun v w'=>R (.returned v) w'):Calls Tryz.prog 96 #[.agg #[.slice s_0_p s_0_n s_0_c,.bool s_1,.int .i64 s_2],.pointer (some c0_)] w R:=
 calls_of mixed Tryz.func96 (by kernel_rfl) rfl (ann:= .leaf) (F:=drat_gone_1.w s_0_p s_0_n s_0_c s_1 s_2 c0_ w) (fun K=>by kernel_rfl) h
def slices_Equal_int_int.w (s1__p:Option Addr) (s1__n:Nat) (s1__c:Nat) (s2__p:Option Addr) (s2__n:Nat) (s2__c:Nat) (w:World) (K:Value→World→Prop):Prop:=
 cnd ((s1__n:Int) !=(s2__n:Int))
 (K (.bool false) w)
 (∃I1:Int→World→Nat→Prop,(∃k2,I1 0 w k2)∧
   ∀ (v4:Int) (w5:World) (k2:Nat) (_:Fr),I1 v4 w5 k2→
   cnd (decide (v4< (s1__n:Int)))
    (ixK s1__p s1__n v4 1 fun a6=>
      ∃x7,w5.drew.cell? a6=some (.int .i64 x7)∧
      ixK s2__p s2__n v4 1 fun a8=>
      ∃x9,w5.drew.cell? a8=some (.int .i64 x9)∧
      cnd (x7 !=x9)
      (K (.bool false) w5.drew)
      (∃k3,k3<k2∧I1 (IntKind.i64.wrap (v4+ (1:Int))) w5.drew k3))
    (K (.bool true) w5))
theorem slices_Equal_int_int.calls {s1__p s1__n s1__c s2__p s2__n s2__c w R} (h:slices_Equal_int_int.w s1__p s1__n s1__c s2__p s2__n s2__c w fun v w'=>R (.returned v) w'):Calls Tryz.prog 97 #[.slice s1__p s1__n s1__c,.slice s2__p s2__n s2__c] w R:=
 calls_of mixed Tryz.func97 (by kernel_rfl) rfl (ann:=(.two .leaf (.two .leaf (.two (.two .leaf (.one (.loop [(13,3)] .leaf))) .leaf)))) (F:=slices_Equal_int_int.w s1__p s1__n s1__c s2__p s2__n s2__c w) (fun K=>by kernel_rfl) h
def slices_Delete_fathom_drat_source_fathom_drat_source.w (s__p:Option Addr) (s__n:Nat) (s__c:Nat) (i_:Int) (j_:Int) (w:World) (K:Value→World→Prop):Prop:=
 slK s__p s__n s__c 3 (some i_) (some j_) (some (s__n:Int)) fun s1_p s1_n s1_c=>
 cnd (i_==j_)
 (K (.slice s__p s__n s__c) w)
 (slK s__p s__n s__c 3 none (some i_) none fun s2_p s2_n s2_c=>
   slK s__p s__n s__c 3 (some j_) none none fun s3_p s3_n s3_c=>
   ∃w4 r5_p r5_n r5_c,(Builtin.append_ #[74,74] 74 #[.slice s2_p s2_n s2_c,.slice s3_p s3_n s3_c]).run Tryz.prog w.drew= .ok (.slice r5_p r5_n r5_c) w4∧
   slK r5_p r5_n r5_c 3 (some (r5_n:Int)) (some (s__n:Int)) none fun s6_p s6_n s6_c=>
   ∃w7,(Builtin.clear_ #[74] 0 #[.slice s6_p s6_n s6_c]).run Tryz.prog w4= .ok (.tuple #[]) w7∧
   K (.slice r5_p r5_n r5_c) w7)
theorem slices_Delete_fathom_drat_source_fathom_drat_source.calls {s__p s__n s__c i_ j_ w R} (h:slices_Delete_fathom_drat_source_fathom_drat_source.w s__p s__n s__c i_ j_ w fun v w'=>R (.returned v) w'):Calls Tryz.prog 98 #[.slice s__p s__n s__c,.int .i64 i_,.int .i64 j_] w R:=
 calls_of mixed Tryz.func98 (by kernel_rfl) rfl (ann:= .leaf) (F:=slices_Delete_fathom_drat_source_fathom_drat_source.w s__p s__n s__c i_ j_ w) (fun K=>by kernel_rfl) h
def rup_may.w (f_0:Int) (f_1_p:Option Addr) (f_1_n:Nat) (f_1_c:Nat) (c__p:Option Addr) (c__n:Nat) (c__c:Nat) (w:World) (K:Value→World→Prop):Prop:=
 ∀ (n1:Nat) (w2:World),New (.cells #[.int .i64 f_0,.slice f_1_p f_1_n f_1_c] 24) w n1 w2→
 ∃x3 x4_p x4_n x4_c,CellsAt w2 (Addr.mk n1 0 none) 0 [.int .i64 x3,.slice x4_p x4_n x4_c]∧
 Calls Tryz.prog 48 #[.agg #[.int .i64 x3,.slice x4_p x4_n x4_c]] w2 fun e w5=> ∃r6,e= .returned (.int .i64 r6)∧
 cnd (r6==(0:Int))
 (Calls Tryz.prog 62 #[.slice c__p c__n c__c] w5 fun e w7=> ∃r8,e= .returned (.int .i64 r8)∧
 K (.bool (r8==(0:Int))) w7)
 (K (.bool false) w5)
theorem rup_may.calls {f_0 f_1_p f_1_n f_1_c c__p c__n c__c w R} (h:rup_may.w f_0 f_1_p f_1_n f_1_c c__p c__n c__c w fun v w'=>R (.returned v) w'):Calls Tryz.prog 99 #[.agg #[.int .i64 f_0,.slice f_1_p f_1_n f_1_c],.slice c__p c__n c__c] w R:=
 calls_of mixed Tryz.func99 (by kernel_rfl) rfl (ann:= .leaf) (F:=rup_may.w f_0 f_1_p f_1_n f_1_c c__p c__n c__c w) (fun K=>by kernel_rfl) h
def rup_base_unit.w (b_:Option Addr) (c__p:Option Addr) (c__n:Nat) (c__c:Nat) (w:World) (K:Value→World→Prop):Prop:=
 ∃a1,b_=some a1∧∃x2,w.cell? (a1.add 2)=some (.pointer x2)∧
 Calls Tryz.prog 139 #[.pointer b_,.slice c__p c__n c__c] w fun e w3=> ∃r4_p r4_n r4_c,e= .returned (.slice r4_p r4_n r4_c)∧
 ∃I5:Int→World→Nat→Prop,(∃k6,I5 0 w3 k6)∧
 ∀ (v8:Int) (w9:World) (k6:Nat) (_:Fr),I5 v8 w9 k6→
 cnd (decide (v8< (r4_n:Int)))
  (ixK r4_p r4_n v8 1 fun a10=>
    ∃x11,w9.cell? a10=some (.int .i64 x11)∧
    ∃a12,b_=some a12∧∃x13,w9.cell? (a12.add 2)=some (.pointer x13)∧
    Calls Tryz.prog 122 #[.pointer x13,.int .i64 x11] w9 fun e w14=> ∃r15,e= .returned (.int .i64 r15)∧
    cnd (r15==(1:Int))
    (CallsD Tryz.prog 138 #[.pointer x2,.int .i64 0] .returning w14 fun e u17 w16=>u17= .returning∧∃v18:Value,e= .returned v18∧
      K (.bool true) w16)
    (cnd (r15==(0:Int))
      (∃a19,b_=some a19∧∃x20,w14.cell? (a19.add 2)=some (.pointer x20)∧
        Calls Tryz.prog 123 #[.pointer x20,.int .i64 (IntKind.i64.wrap (0 - x11))] w14 fun e w21=> ∃r22,e= .returned (.int .i64 r22)∧
        ∃k7,k7<k6∧I5 (IntKind.i64.wrap (v8+ (1:Int))) w21 k7)
      (∃k7,k7<k6∧I5 (IntKind.i64.wrap (v8+ (1:Int))) w14 k7)))
  (∃a23,b_=some a23∧∃x24,w9.cell? (a23.add 2)=some (.pointer x24)∧
    Calls Tryz.prog 79 #[.pointer x24] w9 fun e w25=> ∃r26,e= .returned (.int .i64 r26)∧
    CallsD Tryz.prog 138 #[.pointer x2,.int .i64 0] .returning w25 fun e u28 w27=>u28= .returning∧∃v29:Value,e= .returned v29∧
    K (.bool (decide (r26≥(0:Int)))) w27)
theorem rup_base_unit.calls {b_ c__p c__n c__c w R} (h:rup_base_unit.w b_ c__p c__n c__c w fun v w'=>R (.returned v) w'):Calls Tryz.prog 100 #[.pointer b_,.slice c__p c__n c__c] w R:=
 calls_ofD mixed Tryz.func100 (by kernel_rfl) rfl (ann:=(.two .leaf (.two .leaf (.two (.two .leaf (.one (.loop [(15,3)] .leaf))) .leaf)))) (F:=rup_base_unit.w b_ c__p c__n c__c w) (fun K=>by kernel_rfl) h
end Go.Proofs.YtenmibfmhccmiaaGreat.W
