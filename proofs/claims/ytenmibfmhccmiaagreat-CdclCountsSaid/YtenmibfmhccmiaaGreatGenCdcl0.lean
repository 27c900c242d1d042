/- The functions that the statements reach, printed as what the frame asks of them, each checked by the kernel against the loaded text. -/
import Derived.Test.YtenmibfmhccmiaaGreatProg
import Derived.Test.YtenmibfmhccmiaaGreatFwRange2
namespace Go.Proofs.YtenmibfmhccmiaaGreat.W
open Go Go.Fw Go.Proofs
open Go.Proofs.Tryz (prog)
open Go.IntKind (i64)
set_option maxRecDepth 100000
theorem mixed:Tryz.prog.follows .mixedOrders=true:=by kernel_rfl
abbrev fathomlaw14_CdclCounts.id:FuncId:=10
abbrev fathomlaw07_Small.id:FuncId:=21
abbrev fathomref01_Cnf.id:FuncId:=23
abbrev fathomref01_May.id:FuncId:=24
abbrev fathomlaw14_awake.id:FuncId:=36
abbrev cdcl_Solve.id:FuncId:=37
abbrev cdcl_Check.id:FuncId:=38
abbrev cdcl_Usual.id:FuncId:=39
abbrev cdcl_Count.id:FuncId:=40
abbrev fathomref14_Models.id:FuncId:=41
abbrev fathomref01_Holds.id:FuncId:=43
abbrev lit_CheckCnf.id:FuncId:=48
abbrev fathomlaw01_Light.id:FuncId:=61
abbrev lit_Check.id:FuncId:=62
abbrev fathomref01_Var.id:FuncId:=63
abbrev fathomref01_Lit.id:FuncId:=64
abbrev slices_ContainsFunc_int_int.id:FuncId:=68
abbrev slices_Clone_int_int.id:FuncId:=70
abbrev fathomref01_Model.id:FuncId:=75
abbrev prop_New.id:FuncId:=76
abbrev heap_New.id:FuncId:=77
abbrev luby_Start.id:FuncId:=78
abbrev prop_Prop_Run.id:FuncId:=79
abbrev cdcl_search_decide.id:FuncId:=80
abbrev cdcl_search_sat.id:FuncId:=81
abbrev prop_Prop_Levels.id:FuncId:=82
abbrev cdcl_search_told.id:FuncId:=83
abbrev cdcl_search_conflict.id:FuncId:=84
abbrev slices_Clone_int_int_85.id:FuncId:=85
abbrev fathomref01_Clause.id:FuncId:=86
abbrev lit_CheckCnf_1.id:FuncId:=88
abbrev lit_amount.id:FuncId:=89
abbrev lit_Norm.id:FuncId:=94
abbrev prop_Prop_Drop.id:FuncId:=105
abbrev prop_Prop_Add.id:FuncId:=106
abbrev lit_Check_1.id:FuncId:=108
abbrev lit_is.id:FuncId:=109
abbrev slices_IndexFunc_int_int.id:FuncId:=112
abbrev prop_Prop_loosely.id:FuncId:=118
abbrev prop_side.id:FuncId:=119
abbrev prop_Prop_visit.id:FuncId:=120
abbrev heap_Heap_Pop.id:FuncId:=121
abbrev prop_Prop_Value.id:FuncId:=122
abbrev prop_Prop_Decide.id:FuncId:=123
abbrev prop_Prop_Clause.id:FuncId:=124
abbrev cdcl_search_study.id:FuncId:=125
abbrev heap_Heap_Bump.id:FuncId:=126
abbrev heap_Heap_Decay.id:FuncId:=127
abbrev cdcl_search_back.id:FuncId:=128
abbrev cdcl_search_add.id:FuncId:=129
abbrev luby_Tick.id:FuncId:=130
abbrev reduce_Due.id:FuncId:=131
abbrev cdcl_search_less.id:FuncId:=132
abbrev fathomref01_Value.id:FuncId:=133
abbrev slices_SortFunc_int_int.id:FuncId:=135
abbrev lit_before.id:FuncId:=136
abbrev slices_Compact_int_int.id:FuncId:=137
abbrev prop_Prop_Back.id:FuncId:=138
abbrev prop_Prop_there.id:FuncId:=141
abbrev prop_Prop_val.id:FuncId:=142
abbrev prop_amount.id:FuncId:=143
abbrev prop_Prop_unwatch.id:FuncId:=144
abbrev slices_DeleteFunc_int_int.id:FuncId:=145
abbrev prop_Prop_Drop_1.id:FuncId:=146
abbrev prop_Prop_Add_1.id:FuncId:=147
abbrev prop_Prop_is.id:FuncId:=148
abbrev prop_Prop_settle.id:FuncId:=149
abbrev slices_Contains_int_int.id:FuncId:=151
abbrev prop_Prop_loosely_1.id:FuncId:=153
abbrev prop_Prop_again.id:FuncId:=154
abbrev prop_Prop_put.id:FuncId:=155
abbrev heap_Heap_Best.id:FuncId:=156
abbrev heap_Heap_put.id:FuncId:=157
abbrev heap_Heap_fall.id:FuncId:=158
abbrev cdcl_search_cone.id:FuncId:=159
abbrev learn_Learn.id:FuncId:=160
abbrev cdcl_search_decisions.id:FuncId:=161
abbrev learn_Shorten.id:FuncId:=162
abbrev learn_Back.id:FuncId:=163
abbrev learn_Levels.id:FuncId:=164
abbrev heap_Heap_is.id:FuncId:=165
abbrev heap_Heap_up.id:FuncId:=166
abbrev heap_Heap_scale.id:FuncId:=167
abbrev prop_Prop_Trail.id:FuncId:=168
abbrev heap_Heap_Push.id:FuncId:=169
abbrev luby_Check.id:FuncId:=171
abbrev luby_number.id:FuncId:=172
abbrev reduce_Quota.id:FuncId:=173
abbrev cdcl_search_locked.id:FuncId:=174
abbrev reduce_Keep.id:FuncId:=175
abbrev slices_pdqsortCmpFunc_int.id:FuncId:=177
abbrev bits_Len.id:FuncId:=178
abbrev prop_Prop_unwatch_1.id:FuncId:=179
abbrev prop_Prop_rank.id:FuncId:=180
abbrev slices_Index_int_int.id:FuncId:=181
abbrev heap_Heap_Len.id:FuncId:=182
abbrev heap_Heap_better.id:FuncId:=183
abbrev cdcl_search_cone_1.id:FuncId:=184
abbrev prop_Prop_Level.id:FuncId:=186
abbrev prop_Prop_Reason.id:FuncId:=188
abbrev slices_Reverse_fathom_api_Assign_fathom_api_Assign.id:FuncId:=189
abbrev learn_Check.id:FuncId:=190
abbrev learn_places.id:FuncId:=191
abbrev learn_study_add.id:FuncId:=192
abbrev learn_study_top.id:FuncId:=193
abbrev learn_study_ordered.id:FuncId:=194
abbrev learn_sound.id:FuncId:=195
abbrev learn_breaks.id:FuncId:=196
abbrev learn_study_level.id:FuncId:=197
abbrev learn_study_idle.id:FuncId:=198
abbrev learn_amount.id:FuncId:=199
abbrev cdcl_search_locked_1.id:FuncId:=200
abbrev reduce_Check.id:FuncId:=201
abbrev reduce_must.id:FuncId:=202
abbrev reduce_Order.id:FuncId:=203
abbrev slices_insertionSortCmpFunc_int.id:FuncId:=204
abbrev slices_heapSortCmpFunc_int.id:FuncId:=205
abbrev slices_breakPatternsCmpFunc_int.id:FuncId:=206
abbrev slices_choosePivotCmpFunc_int.id:FuncId:=207
abbrev slices_reverseRangeCmpFunc_int.id:FuncId:=208
abbrev slices_partialInsertionSortCmpFunc_int.id:FuncId:=209
abbrev slices_partitionEqualCmpFunc_int.id:FuncId:=210
abbrev slices_partitionCmpFunc_int.id:FuncId:=211
abbrev bits_Len64.id:FuncId:=213
abbrev learn_study_ordered_1.id:FuncId:=215
abbrev learn_reasoned.id:FuncId:=216
abbrev reduce_Order_1.id:FuncId:=217
abbrev slices_siftDownCmpFunc_int.id:FuncId:=218
abbrev slices_nextPowerOfTwo.id:FuncId:=219
abbrev slices_xorshift_Next.id:FuncId:=220
abbrev slices_medianAdjacentCmpFunc_int.id:FuncId:=221
abbrev slices_medianCmpFunc_int.id:FuncId:=222
abbrev slices_order2CmpFunc_int.id:FuncId:=223
abbrev ty_int:TypeId:=3
abbrev ty_bool:TypeId:=4
abbrev ty_sl_sl_int:TypeId:=22
abbrev ty_sl_api_Step:TypeId:=25
abbrev ty_sl_int:TypeId:=28
abbrev ty_api_Step:TypeId:=48
abbrev ty_sl_cdcl_clause:TypeId:=105
abbrev ty_map_int_int:TypeId:=133
abbrev ty_sl_int8:TypeId:=144
abbrev ty_sl_prop_clause:TypeId:=145
abbrev ty_prop_Prop:TypeId:=147
abbrev ty_prop_clause:TypeId:=151
abbrev ty_int8:TypeId:=166
abbrev ty_api_Learnt:TypeId:=182
abbrev ty_cdcl_clause:TypeId:=184
abbrev ty_sl_api_Learnt:TypeId:=186
abbrev ty_sl_bool:TypeId:=188
abbrev ty_map_int_bool:TypeId:=194
abbrev ty_api_Assign:TypeId:=199
def strtab0:ByteArray:=(ByteArray.mk #[0,1,2,2,3,3,3,3,4,4,4,4,4,4,4,4,5,5,5,5,5,5,5,5,5,5,5,5,5,5,5,5,6,6,6,6,6,6,6,6,6,6,6,6,6,6,6,6,6,6,6,6,6,6,6,6,6,6,6,6,6,6,6,6,7,7,7,7,7,7,7,7,7,7,7,7,7,7,7,7,7,7,7,7,7,7,7,7,7,7,7,7,7,7,7,7,7,7,7,7,7,7,7,7,7,7,7,7,7,7,7,7,7,7,7,7,7,7,7,7,7,7,7,7,7,7,7,7,8,8,8,8,8,8,8,8,8,8,8,8,8,8,8,8,8,8,8,8,8,8,8,8,8,8,8,8,8,8,8,8,8,8,8,8,8,8,8,8,8,8,8,8,8,8,8,8,8,8,8,8,8,8,8,8,8,8,8,8,8,8,8,8,8,8,8,8,8,8,8,8,8,8,8,8,8,8,8,8,8,8,8,8,8,8,8,8,8,8,8,8,8,8,8,8,8,8,8,8,8,8,8,8,8,8,8,8,8,8,8,8,8,8,8,8,8,8,8,8,8,8,8,8,8,8,8,8])
def fathomlaw14_CdclCounts.w (f_0:Int) (f1p:Option Addr) (f1n:Nat) (f1c:Nat) (a:Int) (w:World) (K:Value→World→Prop):Prop:=
 ∀n1 w2,New (.cells #[.int .i64 f_0,.slice f1p f1n f1c] 24) w n1 w2→
 ∃x3 x4p x4n x4c,CellsAt w2 (Addr.mk n1 0 none) 0 [.int .i64 x3,.slice x4p x4n x4c]∧
 Calls prog 21 #[.agg #[.int .i64 x3,.slice x4p x4n x4c]] w2 fun e w5=> ∃r6,e= .returned (.bool r6)∧
 cnd (!r6)
 (Calls prog 36 #[] w5 fun e w7=> ∃r8,e= .returned (.bool r8)∧
 K (.bool r8) w7)
 (∃x9,w5.cell? ((Addr.mk n1 0 none).add 0)=some (.int .i64 x9)∧
 cnd (decide (x9> (6:Int)))
 (Calls prog 36 #[] w5 fun e w10=> ∃r11,e= .returned (.bool r11)∧
   K (.bool r11) w10)
 (∃x12 x13p x13n x13c,CellsAt w5 (Addr.mk n1 0 none) 0 [.int .i64 x12,.slice x13p x13n x13c]∧
   Calls prog 40 #[.agg #[.int .i64 x12,.slice x13p x13n x13c],.int .i64 a] w5 fun e w14=> ∃r15 r16,e= .returned (.tuple #[.int .i64 r15,.int .i64 r16])∧
   ∃x17 x18p x18n x18c,CellsAt w14 (Addr.mk n1 0 none) 0 [.int .i64 x17,.slice x18p x18n x18c]∧
   Calls prog 23 #[.agg #[.int .i64 x17,.slice x18p x18n x18c]] w14 fun e w19=> ∃r20,e= .returned (.bool r20)∧
   cnd (!r20)
   (cnd (r16==(1:Int))
   (cnd (r15==(0:Int))
   (Calls prog 36 #[] w19 fun e w21=> ∃r22,e= .returned (.bool r22)∧
   K (.bool r22) w21)
   (K (.bool false) w19))
   (K (.bool false) w19))
   (cnd (decide (a< (0:Int)))
   (cnd (r16==(1:Int))
   (cnd (r15==(0:Int))
   (Calls prog 36 #[] w19 fun e w23=> ∃r24,e= .returned (.bool r24)∧
   K (.bool r24) w23)
   (K (.bool false) w19))
   (K (.bool false) w19))
   (cnd (decide (a> (4096:Int)))
   (cnd (r16==(1:Int))
     (cnd (r15==(0:Int))
     (Calls prog 36 #[] w19 fun e w25=> ∃r26,e= .returned (.bool r26)∧
     K (.bool r26) w25)
     (K (.bool false) w19))
     (K (.bool false) w19))
   (∃x27 x28p x28n x28c,CellsAt w19 (Addr.mk n1 0 none) 0 [.int .i64 x27,.slice x28p x28n x28c]∧
     Calls prog 41 #[.agg #[.int .i64 x27,.slice x28p x28n x28c]] w19 fun e w29=> ∃r30,e= .returned (.int .i64 r30)∧
     cnd (decide (r30>a))
     (cnd (r16==(0:Int))
       (cnd (r15==a)
       (Calls prog 36 #[] w29 fun e w31=> ∃r32,e= .returned (.bool r32)∧
       K (.bool r32) w31)
       (K (.bool false) w29))
       (K (.bool false) w29))
     (cnd (r16==(0:Int))
       (cnd (r15==r30)
       (Calls prog 36 #[] w29 fun e w33=> ∃r34,e= .returned (.bool r34)∧
       K (.bool r34) w33)
       (K (.bool false) w29))
       (K (.bool false) w29)))))))
theorem fathomlaw14_CdclCounts.calls {f_0 f1p f1n f1c a w R} (h:fathomlaw14_CdclCounts.w f_0 f1p f1n f1c a w fun v w'=>R (.returned v) w'):Calls prog 10 #[.agg #[.int .i64 f_0,.slice f1p f1n f1c],.int .i64 a] w R:=
 calls_of mixed Tryz.func10 (by kernel_rfl) rfl (ann:= .leaf) (F:=fathomlaw14_CdclCounts.w f_0 f1p f1n f1c a w) (fun K=>by kernel_rfl) h
def fathomlaw07_Small.w (f_0:Int) (f1p:Option Addr) (f1n:Nat) (f1c:Nat) (w:World) (K:Value→World→Prop):Prop:=
 ∀n1 w2,New (.cells #[.int .i64 f_0,.slice f1p f1n f1c] 24) w n1 w2→
 ∃x3 x4p x4n x4c,CellsAt w2 (Addr.mk n1 0 none) 0 [.int .i64 x3,.slice x4p x4n x4c]∧
 Calls prog 61 #[.agg #[.int .i64 x3,.slice x4p x4n x4c]] w2 fun e w5=> ∃r6,e= .returned (.bool r6)∧
 cnd r6
 (∃x7p x7n x7c,w5.cell? ((Addr.mk n1 0 none).add 1)=some (.slice x7p x7n x7c)∧
 K (.bool (decide ((x7n:Int)≤(40:Int)))) w5)
 (K (.bool false) w5)
theorem fathomlaw07_Small.calls {f_0 f1p f1n f1c w R} (h:fathomlaw07_Small.w f_0 f1p f1n f1c w fun v w'=>R (.returned v) w'):Calls prog 21 #[.agg #[.int .i64 f_0,.slice f1p f1n f1c]] w R:=
 calls_of mixed Tryz.func21 (by kernel_rfl) rfl (ann:= .leaf) (F:=fathomlaw07_Small.w f_0 f1p f1n f1c w) (fun K=>by kernel_rfl) h
def fathomref01_Cnf.w (f_0:Int) (f1p:Option Addr) (f1n:Nat) (f1c:Nat) (w:World) (K:Value→World→Prop):Prop:=
 ∀n1 w2,New (.cells #[.int .i64 f_0,.slice f1p f1n f1c] 24) w n1 w2→
 ∃x3,w2.cell? ((Addr.mk n1 0 none).add 0)=some (.int .i64 x3)∧
 cnd (decide (x3< (0:Int)))
 (K (.bool false) w2)
 (∃x4,w2.cell? ((Addr.mk n1 0 none).add 0)=some (.int .i64 x4)∧
 cnd (decide (x4> (1048576:Int)))
 (K (.bool false) w2)
 (∃x5p x5n x5c,w2.cell? ((Addr.mk n1 0 none).add 1)=some (.slice x5p x5n x5c)∧
 cnd (decide ((x5n:Int)> (262144:Int)))
 (K (.bool false) w2)
 (∃I6:Int→World→Nat→Prop,(∃k7,I6 0 w2 k7)∧
   ∀i_9 w10 k7 (_:Fr),I6 i_9 w10 k7→
   ∃x11p x11n x11c,w10.cell? ((Addr.mk n1 0 none).add 1)=some (.slice x11p x11n x11c)∧
    cnd (decide (i_9< (x11n:Int)))
    (∃x12p x12n x12c,w10.cell? ((Addr.mk n1 0 none).add 1)=some (.slice x12p x12n x12c)∧
      ixK x12p x12n i_9 1 fun a13=>
      ∃x14p x14n x14c,w10.cell? a13=some (.slice x14p x14n x14c)∧
      Calls prog 24 #[.slice x14p x14n x14c] w10 fun e w15=> ∃r16,e= .returned (.bool r16)∧
      cnd (!r16)
      (K (.bool false) w15)
      (∃I17:Int→World→Nat→Prop,(∃k18,I17 0 w15 k18)∧
        ∀k_20 w21 k18 (_:Fr),I17 k_20 w21 k18→
        ∃x22p x22n x22c,w21.cell? ((Addr.mk n1 0 none).add 1)=some (.slice x22p x22n x22c)∧
         ixK x22p x22n i_9 1 fun a23=>
         ∃x24p x24n x24c,w21.cell? a23=some (.slice x24p x24n x24c)∧
         cnd (decide (k_20< (x24n:Int)))
         (∃x25p x25n x25c,w21.drew.cell? ((Addr.mk n1 0 none).add 1)=some (.slice x25p x25n x25c)∧
           ixK x25p x25n i_9 1 fun a26=>
           ∃x27p x27n x27c,w21.drew.cell? a26=some (.slice x27p x27n x27c)∧
           ixK x27p x27n k_20 1 fun a28=>
           ∃x29,w21.drew.cell? a28=some (.int .i64 x29)∧
           (Calls prog 63 #[.int .i64 x29] w21.drew fun e w30=> ∃r31,e= .returned (.int .i64 r31)∧
           ∃x32,w30.cell? ((Addr.mk n1 0 none).add 0)=some (.int .i64 x32)∧
           cnd (decide (r31>x32))
           (K (.bool false) w30)
           (∃k19,k19<k18∧I17 (i64.wrap (k_20+ (1:Int))) w30 k19))∧
         (∃x33,w21.drew.cell? ((Addr.mk n1 0 none).add 0)=some (.int .i64 x33)∧
           Calls prog 63 #[.int .i64 x29] w21.drew fun e w34=> ∃r35,e= .returned (.int .i64 r35)∧
           cnd (decide (r35>x33))
           (K (.bool false) w34)
           (∃k19,k19<k18∧I17 (i64.wrap (k_20+ (1:Int))) w34 k19)))
         (∃k8,k8<k7∧I6 (i64.wrap (i_9+ (1:Int))) w21 k8)))
    (K (.bool true) w10))))
theorem fathomref01_Cnf.calls {f_0 f1p f1n f1c w R} (h:fathomref01_Cnf.w f_0 f1p f1n f1c w fun v w'=>R (.returned v) w'):Calls prog 23 #[.agg #[.int .i64 f_0,.slice f1p f1n f1c]] w R:=
 calls_of mixed Tryz.func23 (by kernel_rfl) rfl (ann:=(.two .leaf (.two .leaf (.two (.two .leaf (.one (.loop [(3,3)] (.two .leaf (.two (.one (.two .leaf (.two .leaf (.one (.loop [(4,3)] .leaf))))) .leaf))))) .leaf)))) (F:=fathomref01_Cnf.w f_0 f1p f1n f1c w) (fun K=>by kernel_rfl) h
def fathomref01_May.w (a:Option Addr) (b:Nat) (c:Nat) (w:World) (K:Value→World→Prop):Prop:=
 ∃I1:Int→World→Nat→Prop,(∃k2,I1 0 w k2)∧
 ∀i_4 w5 k2 (_:Fr),I1 i_4 w5 k2→
 cnd (decide (i_4< (b:Int)))
  (ixK a b i_4 1 fun a6=>
    ∃x7,w5.cell? a6=some (.int .i64 x7)∧
    Calls prog 64 #[.int .i64 x7] w5 fun e w8=> ∃r9,e= .returned (.bool r9)∧
    cnd (!r9)
    (K (.bool false) w8)
    (∃k3,k3<k2∧I1 (i64.wrap (i_4+ (1:Int))) w8 k3))
  (K (.bool (decide ((b:Int)≤(4096:Int)))) w5)
theorem fathomref01_May.calls {a b c w R} (h:fathomref01_May.w a b c w fun v w'=>R (.returned v) w'):Calls prog 24 #[.slice a b c] w R:=
 calls_of mixed Tryz.func24 (by kernel_rfl) rfl (ann:=(.two .leaf (.two (.two .leaf (.one (.loop [(3,3)] .leaf))) .leaf))) (F:=fathomref01_May.w a b c w) (fun K=>by kernel_rfl) h
def fathomlaw14_awake.w (w:World) (K:Value→World→Prop):Prop:=
 ∀n1 w2,New (.cells #[.int .i64 1,.int .i64 2] 3) w n1 w2→
 ∀n3 w4,New (.cells #[.int .i64 (-1),.int .i64 2] 3) w2 n3 w4→
 ∀n5 w6,New (.cells #[.int .i64 1,.int .i64 (-2)] 3) w4 n5 w6→
 ∀n7 w8,New (.cells #[.int .i64 (-1),.int .i64 (-2)] 3) w6 n7 w8→
 ∀n9 w10,New (.cells #[.slice (some (Addr.mk n1 0 none)) 2 2,.slice (some (Addr.mk n3 0 none)) 2 2,.slice (some (Addr.mk n5 0 none)) 2 2,.slice (some (Addr.mk n7 0 none)) 2 2] 28) w8 n9 w10→
 ∀n11 w12,New (.cells #[.int .i64 0,.slice none 0 0] 24) w10 n11 w12→
 ∃w13,StoreAt (Addr.mk n11 0 none) 0 [.int .i64 2,.slice (some (Addr.mk n9 0 none)) 4 4] w12 w13∧
 ∃x14 x15p x15n x15c,CellsAt w13 (Addr.mk n11 0 none) 0 [.int .i64 x14,.slice x15p x15n x15c]∧
 Calls prog 37 #[.agg #[.int .i64 x14,.slice x15p x15n x15c],.agg #[.int .i64 (-1),.int .i64 4,.int .i64 4]] w13 fun e w16=> ∃r17 r18p r18n r18c r19p r19n r19c r20 r21 r22 r23 r24,e= .returned (.tuple #[.agg #[.int .i64 r17,.slice r18p r18n r18c,.slice r19p r19n r19c,.int .i64 r20,.int .i64 r21,.int .i64 r22,.int .i64 r23],.int .i64 r24])∧
 ∀n25 w26,New (.cells #[.int .i64 0,.slice none 0 0,.slice none 0 0,.int .i64 0,.int .i64 0,.int .i64 0,.int .i64 0] 58) w16 n25 w26→
 ∃w27,StoreAt (Addr.mk n25 0 none) 0 [.int .i64 r17,.slice r18p r18n r18c,.slice r19p r19n r19c,.int .i64 r20,.int .i64 r21,.int .i64 r22,.int .i64 r23] w26 w27∧
 ∀n28 w29,New (.cells #[.int .i64 1,.int .i64 2] 3) w27 n28 w29→
 ∀n30 w31,New (.cells #[.slice (some (Addr.mk n28 0 none)) 2 2] 28) w29 n30 w31→
 Calls prog 40 #[.agg #[.int .i64 2,.slice (some (Addr.mk n30 0 none)) 1 1],.int .i64 9] w31 fun e w32=> ∃r33 r34,e= .returned (.tuple #[.int .i64 r33,.int .i64 r34])∧
 cnd (r24==(0:Int))
 (∃x35,w32.cell? ((Addr.mk n25 0 none).add 0)=some (.int .i64 x35)∧
 cnd (x35==(2:Int))
 (cnd (r34==(0:Int))
 (cnd (r33==(3:Int))
 (Calls prog 39 #[] w32 fun e w36=> ∃r37 r38 r39,e= .returned (.agg #[.int .i64 r37,.int .i64 r38,.int .i64 r39])∧
 K (.bool (decide (r37< (0:Int)))) w36)
 (K (.bool false) w32))
 (K (.bool false) w32))
 (K (.bool false) w32))
 (K (.bool false) w32)
theorem fathomlaw14_awake.calls {w R} (h:fathomlaw14_awake.w w fun v w'=>R (.returned v) w'):Calls prog 36 #[] w R:=
 calls_of mixed Tryz.func36 (by kernel_rfl) rfl (ann:= .leaf) (F:=fathomlaw14_awake.w w) (fun K=>by kernel_rfl) h
def cdcl_Solve.w (f_0:Int) (f1p:Option Addr) (f1n:Nat) (f1c:Nat) (s_0:Int) (s_1:Int) (s_2:Int) (w:World) (K:Value→World→Prop):Prop:=
 ∀n1 w2,New (.cells #[.int .i64 f_0,.slice f1p f1n f1c] 24) w n1 w2→
 ∀n3 w4,New (.cells #[.int .i64 s_0,.int .i64 s_1,.int .i64 s_2] 55) w2 n3 w4→
 ∀n5 w6,New (.cells #[.int .i64 0,.slice none 0 0,.slice none 0 0,.int .i64 0,.int .i64 0,.int .i64 0,.int .i64 0] 58) w4 n5 w6→
 ∃x7 x8p x8n x8c,CellsAt w6 (Addr.mk n1 0 none) 0 [.int .i64 x7,.slice x8p x8n x8c]∧
 Calls prog 48 #[.agg #[.int .i64 x7,.slice x8p x8n x8c]] w6 fun e w9=> ∃r10,e= .returned (.int .i64 r10)∧
 cnd (r10 !=(0:Int))
 (∃w11,StoreAt (Addr.mk n5 0 none) 0 [.int .i64 0,.slice none 0 0,.slice none 0 0,.int .i64 0,.int .i64 0,.int .i64 0,.int .i64 0] w9 w11∧
 ∃x12 x13p x13n x13c x14p x14n x14c x15 x16 x17 x18,CellsAt w11 (Addr.mk n5 0 none) 0 [.int .i64 x12,.slice x13p x13n x13c,.slice x14p x14n x14c,.int .i64 x15,.int .i64 x16,.int .i64 x17,.int .i64 x18]∧
 K (.tuple #[.agg #[.int .i64 x12,.slice x13p x13n x13c,.slice x14p x14n x14c,.int .i64 x15,.int .i64 x16,.int .i64 x17,.int .i64 x18],.int .i64 1]) w11)
 (∃x19 x20 x21,CellsAt w9 (Addr.mk n3 0 none) 0 [.int .i64 x19,.int .i64 x20,.int .i64 x21]∧
 Calls prog 38 #[.agg #[.int .i64 x19,.int .i64 x20,.int .i64 x21]] w9 fun e w22=> ∃r23,e= .returned (.int .i64 r23)∧
 cnd (r23 !=(0:Int))
 (∃w24,StoreAt (Addr.mk n5 0 none) 0 [.int .i64 0,.slice none 0 0,.slice none 0 0,.int .i64 0,.int .i64 0,.int .i64 0,.int .i64 0] w22 w24∧
   ∃x25 x26p x26n x26c x27p x27n x27c x28 x29 x30 x31,CellsAt w24 (Addr.mk n5 0 none) 0 [.int .i64 x25,.slice x26p x26n x26c,.slice x27p x27n x27c,.int .i64 x28,.int .i64 x29,.int .i64 x30,.int .i64 x31]∧
   K (.tuple #[.agg #[.int .i64 x25,.slice x26p x26n x26c,.slice x27p x27n x27c,.int .i64 x28,.int .i64 x29,.int .i64 x30,.int .i64 x31],.int .i64 1]) w24)
 (∃W32:World→Prop,W32 w22.drew∧
   ∃x33 x34p x34n x34c,CellsW W32 (Addr.mk n1 0 none) [.int .i64 x33,.slice x34p x34n x34c]∧
   ∃x35 x36 x37,CellsW W32 (Addr.mk n3 0 none) [.int .i64 x35,.int .i64 x36,.int .i64 x37]∧
   ∃x38,AtW W32 ((Addr.mk n1 0 none).add 0) (.int .i64 x38)∧
   ∃w39 r40p r40n r40c,(Instr.makeSlice 28 (.int .i64 (i64.wrap (x38+ (1:Int)))) (.int .i64 (i64.wrap (x38+ (1:Int))))).run prog w22.drew= .ok (.slice r40p r40n r40c) w39∧
   W32 w39∧∀n41 w42,New (.cells #[.int .i64 x33,.slice x34p x34n x34c,.int .i64 x35,.int .i64 x36,.int .i64 x37,.pointer none,.pointer none,.slice r40p r40n r40c,.int .i64 0,.int .i64 0,.int .i64 0,.slice none 0 0,.slice none 0 0,.int .i64 0,.int .i64 0,.slice none 0 0,.slice none 0 0,.int .i64 0,.int .i64 0,.int .i64 0,.int .i64 0] 107) w39 n41 w42→
   ∃x43 x44p x44n x44c,CellsAt w42 (Addr.mk n1 0 none) 0 [.int .i64 x43,.slice x44p x44n x44c]∧
   Calls prog 76 #[.agg #[.int .i64 x43,.slice x44p x44n x44c]] w42 fun e w45=> ∃r46 r47,e= .returned (.tuple #[.pointer r46,.int .i64 r47])∧
   ∃a48,(some (Addr.mk n41 0 none))=some a48∧∃w49,StoreAt (a48.add 5) 0 [.pointer r46] w45 w49∧
   ∃x50,w49.cell? ((Addr.mk n1 0 none).add 0)=some (.int .i64 x50)∧
   Calls prog 77 #[.int .i64 x50] w49 fun e w51=> ∃r52 r53,e= .returned (.tuple #[.pointer r52,.int .i64 r53])∧
   ∃a54,(some (Addr.mk n41 0 none))=some a54∧∃w55,StoreAt (a54.add 6) 0 [.pointer r52] w51 w55∧
   ∃x56,w55.cell? ((Addr.mk n3 0 none).add 1)=some (.int .i64 x56)∧
   Calls prog 78 #[.int .i64 x56] w55 fun e w57=> ∃r58 r59 r60 r61,e= .returned (.tuple #[.agg #[.int .i64 r58,.int .i64 r59,.int .i64 r60],.int .i64 r61])∧
   ∃a62,(some (Addr.mk n41 0 none))=some a62∧∃w63,StoreAt (a62.add 8) 0 [.int .i64 r58,.int .i64 r59,.int .i64 r60] w57 w63∧
   ∃I64:World→Nat→Prop,(∃k65,I64 w63 k65)∧
   ∀w67 k65 (_:Fr),I64 w67 k65→
   ∃a68,(some (Addr.mk n41 0 none))=some a68∧∃x69,w67.cell? (a68.add 5)=some (.pointer x69)∧
    Calls prog 79 #[.pointer x69] w67 fun e w70=> ∃r71,e= .returned (.int .i64 r71)∧
    ∃J72:Bool→World→Prop,(cnd (decide (r71< (0:Int)))
    (Calls prog 80 #[.pointer (some (Addr.mk n41 0 none))] w70 fun e w73=> ∃r74,e= .returned (.bool r74)∧
    J72 (!r74) w73)
    (J72 false w70))∧
    ∀v75 w76 (_:Fr),J72 v75 w76→
    cnd v75
    (Calls prog 81 #[.pointer (some (Addr.mk n41 0 none))] w76 fun e w77=>e= .returned (.tuple #[])∧
      ∃a78,(some (Addr.mk n41 0 none))=some a78∧∃x79 x80p x80n x80c x81p x81n x81c x82 x83 x84 x85,CellsAt w77 (a78.add 14) 0 [.int .i64 x79,.slice x80p x80n x80c,.slice x81p x81n x81c,.int .i64 x82,.int .i64 x83,.int .i64 x84,.int .i64 x85]∧
      ∃w86,StoreAt (Addr.mk n5 0 none) 0 [.int .i64 x79,.slice x80p x80n x80c,.slice x81p x81n x81c,.int .i64 x82,.int .i64 x83,.int .i64 x84,.int .i64 x85] w77 w86∧
      ∃x87 x88p x88n x88c x89p x89n x89c x90 x91 x92 x93,CellsAt w86 (Addr.mk n5 0 none) 0 [.int .i64 x87,.slice x88p x88n x88c,.slice x89p x89n x89c,.int .i64 x90,.int .i64 x91,.int .i64 x92,.int .i64 x93]∧
      K (.tuple #[.agg #[.int .i64 x87,.slice x88p x88n x88c,.slice x89p x89n x89c,.int .i64 x90,.int .i64 x91,.int .i64 x92,.int .i64 x93],.int .i64 0]) w86)
    (cnd (decide (r71< (0:Int)))
      (∃k66,k66<k65∧I64 w76 k66)
      (∃a94,(some (Addr.mk n41 0 none))=some a94∧∃x95,w76.cell? (a94.add 5)=some (.pointer x95)∧
        Calls prog 82 #[.pointer x95] w76 fun e w96=> ∃r97,e= .returned (.int .i64 r97)∧
        cnd (r97==(0:Int))
        (Calls prog 83 #[.pointer (some (Addr.mk n41 0 none)),.slice none 0 0] w96 fun e w98=>e= .returned (.tuple #[])∧
          ∃a99,(some (Addr.mk n41 0 none))=some a99∧∃w100,StoreAt ((a99.add 14).add 0) 0 [.int .i64 2] w98 w100∧
          ∃a101,(some (Addr.mk n41 0 none))=some a101∧∃x102 x103p x103n x103c x104p x104n x104c x105 x106 x107 x108,CellsAt w100 (a101.add 14) 0 [.int .i64 x102,.slice x103p x103n x103c,.slice x104p x104n x104c,.int .i64 x105,.int .i64 x106,.int .i64 x107,.int .i64 x108]∧
          ∃w109,StoreAt (Addr.mk n5 0 none) 0 [.int .i64 x102,.slice x103p x103n x103c,.slice x104p x104n x104c,.int .i64 x105,.int .i64 x106,.int .i64 x107,.int .i64 x108] w100 w109∧
          ∃x110 x111p x111n x111c x112p x112n x112c x113 x114 x115 x116,CellsAt w109 (Addr.mk n5 0 none) 0 [.int .i64 x110,.slice x111p x111n x111c,.slice x112p x112n x112c,.int .i64 x113,.int .i64 x114,.int .i64 x115,.int .i64 x116]∧
          K (.tuple #[.agg #[.int .i64 x110,.slice x111p x111n x111c,.slice x112p x112n x112c,.int .i64 x113,.int .i64 x114,.int .i64 x115,.int .i64 x116],.int .i64 0]) w109)
        (∃a117,(some (Addr.mk n41 0 none))=some a117∧∃x118,w96.drew.cell? ((a117.add 2).add 0)=some (.int .i64 x118)∧
          cnd (decide (x118≥(0:Int)))
          (∃a119,(some (Addr.mk n41 0 none))=some a119∧∃x120,w96.drew.cell? ((a119.add 14).add 3)=some (.int .i64 x120)∧
          ∃a121,(some (Addr.mk n41 0 none))=some a121∧∃x122,w96.drew.cell? ((a121.add 2).add 0)=some (.int .i64 x122)∧
          cnd (decide (x120≥x122))
          (∃a123,(some (Addr.mk n41 0 none))=some a123∧∃w124,StoreAt ((a123.add 14).add 2) 0 [.slice none 0 0] w96.drew w124∧
            ∃a125,(some (Addr.mk n41 0 none))=some a125∧∃x126 x127p x127n x127c x128p x128n x128c x129 x130 x131 x132,CellsAt w124 (a125.add 14) 0 [.int .i64 x126,.slice x127p x127n x127c,.slice x128p x128n x128c,.int .i64 x129,.int .i64 x130,.int .i64 x131,.int .i64 x132]∧
            ∃w133,StoreAt (Addr.mk n5 0 none) 0 [.int .i64 x126,.slice x127p x127n x127c,.slice x128p x128n x128c,.int .i64 x129,.int .i64 x130,.int .i64 x131,.int .i64 x132] w124 w133∧
            ∃x134 x135p x135n x135c x136p x136n x136c x137 x138 x139 x140,CellsAt w133 (Addr.mk n5 0 none) 0 [.int .i64 x134,.slice x135p x135n x135c,.slice x136p x136n x136c,.int .i64 x137,.int .i64 x138,.int .i64 x139,.int .i64 x140]∧
            K (.tuple #[.agg #[.int .i64 x134,.slice x135p x135n x135c,.slice x136p x136n x136c,.int .i64 x137,.int .i64 x138,.int .i64 x139,.int .i64 x140],.int .i64 6]) w133)
          (Calls prog 84 #[.pointer (some (Addr.mk n41 0 none)),.int .i64 r71] w96.drew fun e w141=>e= .returned (.tuple #[])∧
            ∃k66,k66<k65∧I64 w141 k66))
          (Calls prog 84 #[.pointer (some (Addr.mk n41 0 none)),.int .i64 r71] w96.drew fun e w142=>e= .returned (.tuple #[])∧
          ∃k66,k66<k65∧I64 w142 k66))))))
theorem cdcl_Solve.calls {f_0 f1p f1n f1c s_0 s_1 s_2 w R} (h:cdcl_Solve.w f_0 f1p f1n f1c s_0 s_1 s_2 w fun v w'=>R (.returned v) w'):Calls prog 37 #[.agg #[.int .i64 f_0,.slice f1p f1n f1c],.agg #[.int .i64 s_0,.int .i64 s_1,.int .i64 s_2]] w R:=
 calls_of mixed Tryz.func37 (by kernel_rfl) rfl (ann:=(.two .leaf (.two .leaf (.two .draw (.two .leaf (.two .leaf (.two .leaf (.one (.loop [] (.one (.two .leaf (.one (.cut [(59,4)] .leaf .leaf))))))))))))) (F:=cdcl_Solve.w f_0 f1p f1n f1c s_0 s_1 s_2 w) (fun K=>by kernel_rfl) h
def cdcl_Check.w (s_0:Int) (s_1:Int) (s_2:Int) (w:World) (K:Value→World→Prop):Prop:=
 ∀n1 w2,New (.cells #[.int .i64 s_0,.int .i64 s_1,.int .i64 s_2] 55) w n1 w2→
 ∃x3,w2.cell? ((Addr.mk n1 0 none).add 1)=some (.int .i64 x3)∧
 cnd (decide (x3< (1:Int)))
 (K (.int .i64 1) w2)
 (∃x4,w2.cell? ((Addr.mk n1 0 none).add 1)=some (.int .i64 x4)∧
 cnd (decide (x4> (1048576:Int)))
 (K (.int .i64 1) w2)
 (∃x5,w2.cell? ((Addr.mk n1 0 none).add 2)=some (.int .i64 x5)∧
 cnd (decide (x5< (1:Int)))
 (K (.int .i64 1) w2)
 (∃x6,w2.cell? ((Addr.mk n1 0 none).add 2)=some (.int .i64 x6)∧
 cnd (decide (x6> (1048576:Int)))
 (K (.int .i64 1) w2)
 (K (.int .i64 0) w2))))
theorem cdcl_Check.calls {s_0 s_1 s_2 w R} (h:cdcl_Check.w s_0 s_1 s_2 w fun v w'=>R (.returned v) w'):Calls prog 38 #[.agg #[.int .i64 s_0,.int .i64 s_1,.int .i64 s_2]] w R:=
 calls_of mixed Tryz.func38 (by kernel_rfl) rfl (ann:= .leaf) (F:=cdcl_Check.w s_0 s_1 s_2 w) (fun K=>by kernel_rfl) h
def cdcl_Usual.w (w:World) (K:Value→World→Prop):Prop:=
 ∀n1 w2,New (.cells #[.int .i64 0,.int .i64 0,.int .i64 0] 55) w n1 w2→
 ∃w3,StoreAt (Addr.mk n1 0 none) 0 [.int .i64 (-1),.int .i64 64,.int .i64 200] w2 w3∧
 ∃x4 x5 x6,CellsAt w3 (Addr.mk n1 0 none) 0 [.int .i64 x4,.int .i64 x5,.int .i64 x6]∧
 K (.agg #[.int .i64 x4,.int .i64 x5,.int .i64 x6]) w3
theorem cdcl_Usual.calls {w R} (h:cdcl_Usual.w w fun v w'=>R (.returned v) w'):Calls prog 39 #[] w R:=
 calls_of mixed Tryz.func39 (by kernel_rfl) rfl (ann:= .leaf) (F:=cdcl_Usual.w w) (fun K=>by kernel_rfl) h
def cdcl_Count.w (f_0:Int) (f1p:Option Addr) (f1n:Nat) (f1c:Nat) (n_:Int) (w:World) (K:Value→World→Prop):Prop:=
 ∀n1 w2,New (.cells #[.int .i64 f_0,.slice f1p f1n f1c] 24) w n1 w2→
 ∃x3 x4p x4n x4c,CellsAt w2 (Addr.mk n1 0 none) 0 [.int .i64 x3,.slice x4p x4n x4c]∧
 Calls prog 48 #[.agg #[.int .i64 x3,.slice x4p x4n x4c]] w2 fun e w5=> ∃r6,e= .returned (.int .i64 r6)∧
 cnd (r6 !=(0:Int))
 (K (.tuple #[.int .i64 0,.int .i64 1]) w5)
 (cnd (decide (n_< (0:Int)))
 (K (.tuple #[.int .i64 0,.int .i64 1]) w5)
 (cnd (decide (n_> (4096:Int)))
 (K (.tuple #[.int .i64 0,.int .i64 1]) w5)
 (∃x7,w5.cell? ((Addr.mk n1 0 none).add 0)=some (.int .i64 x7)∧
   cnd (decide (x7> (4096:Int)))
   (K (.tuple #[.int .i64 0,.int .i64 6]) w5)
   (∃x8p x8n x8c,w5.cell? ((Addr.mk n1 0 none).add 1)=some (.slice x8p x8n x8c)∧
   cnd (decide ((i64.wrap ((x8n:Int)+n_))> (262144:Int)))
   (K (.tuple #[.int .i64 0,.int .i64 6]) w5)
   (∃W9:World→Prop,W9 w5.drew∧
     ∃x10,AtW W9 ((Addr.mk n1 0 none).add 0) (.int .i64 x10)∧
     ∃x11p x11n x11c,AtW W9 ((Addr.mk n1 0 none).add 1) (.slice x11p x11n x11c)∧
     (Calls prog 85 #[.slice x11p x11n x11c] w5.drew fun e w12=> ∃r13p r13n r13c,e= .returned (.slice r13p r13n r13c)∧
     W9 w12∧∀n14 w15,New (.cells #[.int .i64 0,.slice none 0 0] 24) w12 n14 w15→
     W9 w15∧∃w16,StoreAt (Addr.mk n14 0 none) 0 [.int .i64 x10,.slice r13p r13n r13c] w15 w16∧
     ∃I17:Int→World→Nat→Prop,(∃k18,I17 0 w16 k18)∧
     ∀v20 w21 k18 (_:Fr),I17 v20 w21 k18→
     cnd (decide (v20<n_))
      (∃W22:World→Prop,W22 w21.drew∧
        ∃x23 x24p x24n x24c,CellsW W22 (Addr.mk n14 0 none) [.int .i64 x23,.slice x24p x24n x24c]∧
        (Calls prog 39 #[] w21.drew fun e w25=> ∃r26 r27 r28,e= .returned (.agg #[.int .i64 r26,.int .i64 r27,.int .i64 r28])∧
        W22 w25∧(Calls prog 37 #[.agg #[.int .i64 x23,.slice x24p x24n x24c],.agg #[.int .i64 r26,.int .i64 r27,.int .i64 r28]] w25 fun e w29=> ∃r30 r31p r31n r31c r32p r32n r32c r33 r34 r35 r36 r37,e= .returned (.tuple #[.agg #[.int .i64 r30,.slice r31p r31n r31c,.slice r32p r32n r32c,.int .i64 r33,.int .i64 r34,.int .i64 r35,.int .i64 r36],.int .i64 r37])∧
        ∀n38 w39,New (.cells #[.int .i64 0,.slice none 0 0,.slice none 0 0,.int .i64 0,.int .i64 0,.int .i64 0,.int .i64 0] 58) w29 n38 w39→
        W22 w39∧∃w40,StoreAt (Addr.mk n38 0 none) 0 [.int .i64 r30,.slice r31p r31n r31c,.slice r32p r32n r32c,.int .i64 r33,.int .i64 r34,.int .i64 r35,.int .i64 r36] w39 w40∧
        cnd (r37 !=(0:Int))
        (K (.tuple #[.int .i64 v20,.int .i64 0]) w40)
        (∃x41,w40.cell? ((Addr.mk n38 0 none).add 0)=some (.int .i64 x41)∧
        cnd (x41 !=(1:Int))
        (K (.tuple #[.int .i64 v20,.int .i64 0]) w40)
        (∃x42p x42n x42c,w40.cell? ((Addr.mk n38 0 none).add 1)=some (.slice x42p x42n x42c)∧
          ∃I43:Option Addr→Nat→Nat→Int→World→Nat→Prop,(∃k44,I43 none 0 0 0 w40 k44)∧
          ∀o46p o46n o46c v47 w48 k44 (_:Fr),I43 o46p o46n o46c v47 w48 k44→
          cnd (decide (v47< (x42n:Int)))
           (ixK x42p x42n v47 1 fun a49=>
             ∃x50,w48.cell? a49=some (.int .i64 x50)∧
             ∀n51 w52,New (.cells #[.int .i64 (i64.wrap ((i64.wrap (0 - x50))* (i64.wrap (v47+ (1:Int)))))] 3) w48 n51 w52→
             ∃w53 r54p r54n r54c,(Builtin.append_ #[28,28] 28 #[.slice o46p o46n o46c,.slice (some (Addr.mk n51 0 none)) 1 1]).run prog w52= .ok (.slice r54p r54n r54c) w53∧
             ∃k45,k45<k44∧I43 r54p r54n r54c (i64.wrap (v47+ (1:Int))) w53 k45)
           (∃x55p x55n x55c,w48.cell? ((Addr.mk n14 0 none).add 1)=some (.slice x55p x55n x55c)∧
             ∀n56 w57,New (.cells #[.slice o46p o46n o46c] 28) w48 n56 w57→
             ∃w58 r59p r59n r59c,(Builtin.append_ #[22,22] 22 #[.slice x55p x55n x55c,.slice (some (Addr.mk n56 0 none)) 1 1]).run prog w57= .ok (.slice r59p r59n r59c) w58∧
             ∃w60,StoreAt ((Addr.mk n14 0 none).add 1) 0 [.slice r59p r59n r59c] w58 w60∧
             ∃k19,k19<k18∧I17 (i64.wrap (v20+ (1:Int))) w60 k19))))∧
      (∀n61 w62,New (.cells #[.int .i64 0,.slice none 0 0,.slice none 0 0,.int .i64 0,.int .i64 0,.int .i64 0,.int .i64 0] 58) w25 n61 w62→
        W22 w62∧Calls prog 37 #[.agg #[.int .i64 x23,.slice x24p x24n x24c],.agg #[.int .i64 r26,.int .i64 r27,.int .i64 r28]] w62 fun e w63=> ∃r64 r65p r65n r65c r66p r66n r66c r67 r68 r69 r70 r71,e= .returned (.tuple #[.agg #[.int .i64 r64,.slice r65p r65n r65c,.slice r66p r66n r66c,.int .i64 r67,.int .i64 r68,.int .i64 r69,.int .i64 r70],.int .i64 r71])∧
        ∃w72,StoreAt (Addr.mk n61 0 none) 0 [.int .i64 r64,.slice r65p r65n r65c,.slice r66p r66n r66c,.int .i64 r67,.int .i64 r68,.int .i64 r69,.int .i64 r70] w63 w72∧
        cnd (r71 !=(0:Int))
        (K (.tuple #[.int .i64 v20,.int .i64 0]) w72)
        (∃x73,w72.cell? ((Addr.mk n61 0 none).add 0)=some (.int .i64 x73)∧
        cnd (x73 !=(1:Int))
        (K (.tuple #[.int .i64 v20,.int .i64 0]) w72)
        (∃x74p x74n x74c,w72.cell? ((Addr.mk n61 0 none).add 1)=some (.slice x74p x74n x74c)∧
          ∃I75:Option Addr→Nat→Nat→Int→World→Nat→Prop,(∃k76,I75 none 0 0 0 w72 k76)∧
          ∀o78p o78n o78c v79 w80 k76 (_:Fr),I75 o78p o78n o78c v79 w80 k76→
          cnd (decide (v79< (x74n:Int)))
           (ixK x74p x74n v79 1 fun a81=>
             ∃x82,w80.cell? a81=some (.int .i64 x82)∧
             ∀n83 w84,New (.cells #[.int .i64 (i64.wrap ((i64.wrap (0 - x82))* (i64.wrap (v79+ (1:Int)))))] 3) w80 n83 w84→
             ∃w85 r86p r86n r86c,(Builtin.append_ #[28,28] 28 #[.slice o78p o78n o78c,.slice (some (Addr.mk n83 0 none)) 1 1]).run prog w84= .ok (.slice r86p r86n r86c) w85∧
             ∃k77,k77<k76∧I75 r86p r86n r86c (i64.wrap (v79+ (1:Int))) w85 k77)
           (∃x87p x87n x87c,w80.cell? ((Addr.mk n14 0 none).add 1)=some (.slice x87p x87n x87c)∧
             ∀n88 w89,New (.cells #[.slice o78p o78n o78c] 28) w80 n88 w89→
             ∃w90 r91p r91n r91c,(Builtin.append_ #[22,22] 22 #[.slice x87p x87n x87c,.slice (some (Addr.mk n88 0 none)) 1 1]).run prog w89= .ok (.slice r91p r91n r91c) w90∧
             ∃w92,StoreAt ((Addr.mk n14 0 none).add 1) 0 [.slice r91p r91n r91c] w90 w92∧
             ∃k19,k19<k18∧I17 (i64.wrap (v20+ (1:Int))) w92 k19)))))∧
      (∀n93 w94,New (.cells #[.int .i64 0,.slice none 0 0,.slice none 0 0,.int .i64 0,.int .i64 0,.int .i64 0,.int .i64 0] 58) w21.drew n93 w94→
        W22 w94∧Calls prog 39 #[] w94 fun e w95=> ∃r96 r97 r98,e= .returned (.agg #[.int .i64 r96,.int .i64 r97,.int .i64 r98])∧
        W22 w95∧Calls prog 37 #[.agg #[.int .i64 x23,.slice x24p x24n x24c],.agg #[.int .i64 r96,.int .i64 r97,.int .i64 r98]] w95 fun e w99=> ∃r100 r101p r101n r101c r102p r102n r102c r103 r104 r105 r106 r107,e= .returned (.tuple #[.agg #[.int .i64 r100,.slice r101p r101n r101c,.slice r102p r102n r102c,.int .i64 r103,.int .i64 r104,.int .i64 r105,.int .i64 r106],.int .i64 r107])∧
        ∃w108,StoreAt (Addr.mk n93 0 none) 0 [.int .i64 r100,.slice r101p r101n r101c,.slice r102p r102n r102c,.int .i64 r103,.int .i64 r104,.int .i64 r105,.int .i64 r106] w99 w108∧
        cnd (r107 !=(0:Int))
        (K (.tuple #[.int .i64 v20,.int .i64 0]) w108)
        (∃x109,w108.cell? ((Addr.mk n93 0 none).add 0)=some (.int .i64 x109)∧
        cnd (x109 !=(1:Int))
        (K (.tuple #[.int .i64 v20,.int .i64 0]) w108)
        (∃x110p x110n x110c,w108.cell? ((Addr.mk n93 0 none).add 1)=some (.slice x110p x110n x110c)∧
          ∃I111:Option Addr→Nat→Nat→Int→World→Nat→Prop,(∃k112,I111 none 0 0 0 w108 k112)∧
          ∀o114p o114n o114c v115 w116 k112 (_:Fr),I111 o114p o114n o114c v115 w116 k112→
          cnd (decide (v115< (x110n:Int)))
           (ixK x110p x110n v115 1 fun a117=>
             ∃x118,w116.cell? a117=some (.int .i64 x118)∧
             ∀n119 w120,New (.cells #[.int .i64 (i64.wrap ((i64.wrap (0 - x118))* (i64.wrap (v115+ (1:Int)))))] 3) w116 n119 w120→
             ∃w121 r122p r122n r122c,(Builtin.append_ #[28,28] 28 #[.slice o114p o114n o114c,.slice (some (Addr.mk n119 0 none)) 1 1]).run prog w120= .ok (.slice r122p r122n r122c) w121∧
             ∃k113,k113<k112∧I111 r122p r122n r122c (i64.wrap (v115+ (1:Int))) w121 k113)
           (∃x123p x123n x123c,w116.cell? ((Addr.mk n14 0 none).add 1)=some (.slice x123p x123n x123c)∧
             ∀n124 w125,New (.cells #[.slice o114p o114n o114c] 28) w116 n124 w125→
             ∃w126 r127p r127n r127c,(Builtin.append_ #[22,22] 22 #[.slice x123p x123n x123c,.slice (some (Addr.mk n124 0 none)) 1 1]).run prog w125= .ok (.slice r127p r127n r127c) w126∧
             ∃w128,StoreAt ((Addr.mk n14 0 none).add 1) 0 [.slice r127p r127n r127c] w126 w128∧
             ∃k19,k19<k18∧I17 (i64.wrap (v20+ (1:Int))) w128 k19)))))
      (K (.tuple #[.int .i64 n_,.int .i64 0]) w21))∧
   (∀n129 w130,New (.cells #[.int .i64 0,.slice none 0 0] 24) w5.drew n129 w130→
     W9 w130∧Calls prog 85 #[.slice x11p x11n x11c] w130 fun e w131=> ∃r132p r132n r132c,e= .returned (.slice r132p r132n r132c)∧
     W9 w131∧∃w133,StoreAt (Addr.mk n129 0 none) 0 [.int .i64 x10,.slice r132p r132n r132c] w131 w133∧
     ∃I134:Int→World→Nat→Prop,(∃k135,I134 0 w133 k135)∧
     ∀v137 w138 k135 (_:Fr),I134 v137 w138 k135→
     cnd (decide (v137<n_))
      (∃W139:World→Prop,W139 w138.drew∧
        ∃x140 x141p x141n x141c,CellsW W139 (Addr.mk n129 0 none) [.int .i64 x140,.slice x141p x141n x141c]∧
        (Calls prog 39 #[] w138.drew fun e w142=> ∃r143 r144 r145,e= .returned (.agg #[.int .i64 r143,.int .i64 r144,.int .i64 r145])∧
        W139 w142∧(Calls prog 37 #[.agg #[.int .i64 x140,.slice x141p x141n x141c],.agg #[.int .i64 r143,.int .i64 r144,.int .i64 r145]] w142 fun e w146=> ∃r147 r148p r148n r148c r149p r149n r149c r150 r151 r152 r153 r154,e= .returned (.tuple #[.agg #[.int .i64 r147,.slice r148p r148n r148c,.slice r149p r149n r149c,.int .i64 r150,.int .i64 r151,.int .i64 r152,.int .i64 r153],.int .i64 r154])∧
        ∀n155 w156,New (.cells #[.int .i64 0,.slice none 0 0,.slice none 0 0,.int .i64 0,.int .i64 0,.int .i64 0,.int .i64 0] 58) w146 n155 w156→
        W139 w156∧∃w157,StoreAt (Addr.mk n155 0 none) 0 [.int .i64 r147,.slice r148p r148n r148c,.slice r149p r149n r149c,.int .i64 r150,.int .i64 r151,.int .i64 r152,.int .i64 r153] w156 w157∧
        cnd (r154 !=(0:Int))
        (K (.tuple #[.int .i64 v137,.int .i64 0]) w157)
        (∃x158,w157.cell? ((Addr.mk n155 0 none).add 0)=some (.int .i64 x158)∧
        cnd (x158 !=(1:Int))
        (K (.tuple #[.int .i64 v137,.int .i64 0]) w157)
        (∃x159p x159n x159c,w157.cell? ((Addr.mk n155 0 none).add 1)=some (.slice x159p x159n x159c)∧
          ∃I160:Option Addr→Nat→Nat→Int→World→Nat→Prop,(∃k161,I160 none 0 0 0 w157 k161)∧
          ∀o163p o163n o163c v164 w165 k161 (_:Fr),I160 o163p o163n o163c v164 w165 k161→
          cnd (decide (v164< (x159n:Int)))
           (ixK x159p x159n v164 1 fun a166=>
             ∃x167,w165.cell? a166=some (.int .i64 x167)∧
             ∀n168 w169,New (.cells #[.int .i64 (i64.wrap ((i64.wrap (0 - x167))* (i64.wrap (v164+ (1:Int)))))] 3) w165 n168 w169→
             ∃w170 r171p r171n r171c,(Builtin.append_ #[28,28] 28 #[.slice o163p o163n o163c,.slice (some (Addr.mk n168 0 none)) 1 1]).run prog w169= .ok (.slice r171p r171n r171c) w170∧
             ∃k162,k162<k161∧I160 r171p r171n r171c (i64.wrap (v164+ (1:Int))) w170 k162)
           (∃x172p x172n x172c,w165.cell? ((Addr.mk n129 0 none).add 1)=some (.slice x172p x172n x172c)∧
             ∀n173 w174,New (.cells #[.slice o163p o163n o163c] 28) w165 n173 w174→
             ∃w175 r176p r176n r176c,(Builtin.append_ #[22,22] 22 #[.slice x172p x172n x172c,.slice (some (Addr.mk n173 0 none)) 1 1]).run prog w174= .ok (.slice r176p r176n r176c) w175∧
             ∃w177,StoreAt ((Addr.mk n129 0 none).add 1) 0 [.slice r176p r176n r176c] w175 w177∧
             ∃k136,k136<k135∧I134 (i64.wrap (v137+ (1:Int))) w177 k136))))∧
      (∀n178 w179,New (.cells #[.int .i64 0,.slice none 0 0,.slice none 0 0,.int .i64 0,.int .i64 0,.int .i64 0,.int .i64 0] 58) w142 n178 w179→
        W139 w179∧Calls prog 37 #[.agg #[.int .i64 x140,.slice x141p x141n x141c],.agg #[.int .i64 r143,.int .i64 r144,.int .i64 r145]] w179 fun e w180=> ∃r181 r182p r182n r182c r183p r183n r183c r184 r185 r186 r187 r188,e= .returned (.tuple #[.agg #[.int .i64 r181,.slice r182p r182n r182c,.slice r183p r183n r183c,.int .i64 r184,.int .i64 r185,.int .i64 r186,.int .i64 r187],.int .i64 r188])∧
        ∃w189,StoreAt (Addr.mk n178 0 none) 0 [.int .i64 r181,.slice r182p r182n r182c,.slice r183p r183n r183c,.int .i64 r184,.int .i64 r185,.int .i64 r186,.int .i64 r187] w180 w189∧
        cnd (r188 !=(0:Int))
        (K (.tuple #[.int .i64 v137,.int .i64 0]) w189)
        (∃x190,w189.cell? ((Addr.mk n178 0 none).add 0)=some (.int .i64 x190)∧
        cnd (x190 !=(1:Int))
        (K (.tuple #[.int .i64 v137,.int .i64 0]) w189)
        (∃x191p x191n x191c,w189.cell? ((Addr.mk n178 0 none).add 1)=some (.slice x191p x191n x191c)∧
          ∃I192:Option Addr→Nat→Nat→Int→World→Nat→Prop,(∃k193,I192 none 0 0 0 w189 k193)∧
          ∀o195p o195n o195c v196 w197 k193 (_:Fr),I192 o195p o195n o195c v196 w197 k193→
          cnd (decide (v196< (x191n:Int)))
           (ixK x191p x191n v196 1 fun a198=>
             ∃x199,w197.cell? a198=some (.int .i64 x199)∧
             ∀n200 w201,New (.cells #[.int .i64 (i64.wrap ((i64.wrap (0 - x199))* (i64.wrap (v196+ (1:Int)))))] 3) w197 n200 w201→
             ∃w202 r203p r203n r203c,(Builtin.append_ #[28,28] 28 #[.slice o195p o195n o195c,.slice (some (Addr.mk n200 0 none)) 1 1]).run prog w201= .ok (.slice r203p r203n r203c) w202∧
             ∃k194,k194<k193∧I192 r203p r203n r203c (i64.wrap (v196+ (1:Int))) w202 k194)
           (∃x204p x204n x204c,w197.cell? ((Addr.mk n129 0 none).add 1)=some (.slice x204p x204n x204c)∧
             ∀n205 w206,New (.cells #[.slice o195p o195n o195c] 28) w197 n205 w206→
             ∃w207 r208p r208n r208c,(Builtin.append_ #[22,22] 22 #[.slice x204p x204n x204c,.slice (some (Addr.mk n205 0 none)) 1 1]).run prog w206= .ok (.slice r208p r208n r208c) w207∧
             ∃w209,StoreAt ((Addr.mk n129 0 none).add 1) 0 [.slice r208p r208n r208c] w207 w209∧
             ∃k136,k136<k135∧I134 (i64.wrap (v137+ (1:Int))) w209 k136)))))∧
      (∀n210 w211,New (.cells #[.int .i64 0,.slice none 0 0,.slice none 0 0,.int .i64 0,.int .i64 0,.int .i64 0,.int .i64 0] 58) w138.drew n210 w211→
        W139 w211∧Calls prog 39 #[] w211 fun e w212=> ∃r213 r214 r215,e= .returned (.agg #[.int .i64 r213,.int .i64 r214,.int .i64 r215])∧
        W139 w212∧Calls prog 37 #[.agg #[.int .i64 x140,.slice x141p x141n x141c],.agg #[.int .i64 r213,.int .i64 r214,.int .i64 r215]] w212 fun e w216=> ∃r217 r218p r218n r218c r219p r219n r219c r220 r221 r222 r223 r224,e= .returned (.tuple #[.agg #[.int .i64 r217,.slice r218p r218n r218c,.slice r219p r219n r219c,.int .i64 r220,.int .i64 r221,.int .i64 r222,.int .i64 r223],.int .i64 r224])∧
        ∃w225,StoreAt (Addr.mk n210 0 none) 0 [.int .i64 r217,.slice r218p r218n r218c,.slice r219p r219n r219c,.int .i64 r220,.int .i64 r221,.int .i64 r222,.int .i64 r223] w216 w225∧
        cnd (r224 !=(0:Int))
        (K (.tuple #[.int .i64 v137,.int .i64 0]) w225)
        (∃x226,w225.cell? ((Addr.mk n210 0 none).add 0)=some (.int .i64 x226)∧
        cnd (x226 !=(1:Int))
        (K (.tuple #[.int .i64 v137,.int .i64 0]) w225)
        (∃x227p x227n x227c,w225.cell? ((Addr.mk n210 0 none).add 1)=some (.slice x227p x227n x227c)∧
          ∃I228:Option Addr→Nat→Nat→Int→World→Nat→Prop,(∃k229,I228 none 0 0 0 w225 k229)∧
          ∀o231p o231n o231c v232 w233 k229 (_:Fr),I228 o231p o231n o231c v232 w233 k229→
          cnd (decide (v232< (x227n:Int)))
           (ixK x227p x227n v232 1 fun a234=>
             ∃x235,w233.cell? a234=some (.int .i64 x235)∧
             ∀n236 w237,New (.cells #[.int .i64 (i64.wrap ((i64.wrap (0 - x235))* (i64.wrap (v232+ (1:Int)))))] 3) w233 n236 w237→
             ∃w238 r239p r239n r239c,(Builtin.append_ #[28,28] 28 #[.slice o231p o231n o231c,.slice (some (Addr.mk n236 0 none)) 1 1]).run prog w237= .ok (.slice r239p r239n r239c) w238∧
             ∃k230,k230<k229∧I228 r239p r239n r239c (i64.wrap (v232+ (1:Int))) w238 k230)
           (∃x240p x240n x240c,w233.cell? ((Addr.mk n129 0 none).add 1)=some (.slice x240p x240n x240c)∧
             ∀n241 w242,New (.cells #[.slice o231p o231n o231c] 28) w233 n241 w242→
             ∃w243 r244p r244n r244c,(Builtin.append_ #[22,22] 22 #[.slice x240p x240n x240c,.slice (some (Addr.mk n241 0 none)) 1 1]).run prog w242= .ok (.slice r244p r244n r244c) w243∧
             ∃w245,StoreAt ((Addr.mk n129 0 none).add 1) 0 [.slice r244p r244n r244c] w243 w245∧
             ∃k136,k136<k135∧I134 (i64.wrap (v137+ (1:Int))) w245 k136)))))
      (K (.tuple #[.int .i64 n_,.int .i64 0]) w138)))))))
theorem cdcl_Count.calls {f_0 f1p f1n f1c n_ w R} (h:cdcl_Count.w f_0 f1p f1n f1c n_ w fun v w'=>R (.returned v) w'):Calls prog 40 #[.agg #[.int .i64 f_0,.slice f1p f1n f1c],.int .i64 n_] w R:=
 calls_of mixed Tryz.func40 (by kernel_rfl) rfl (ann:=(.two .leaf (.two .leaf (.two .draw (.two (.two .leaf (.one (.loop [(44,3)] (.two .leaf (.two .leaf (.two (.one (.two .leaf (.two .draw (.two .leaf (.two .leaf (.two (.two .leaf (.one (.loop [(10,28),(64,3)] .leaf))) .leaf)))))) .leaf)))))) .leaf))))) (F:=cdcl_Count.w f_0 f1p f1n f1c n_ w) (fun K=>by kernel_rfl) h
def fathomref14_Models.w (f_0:Int) (f1p:Option Addr) (f1n:Nat) (f1c:Nat) (w:World) (K:Value→World→Prop):Prop:=
 ∀n1 w2,New (.cells #[.int .i64 f_0,.slice f1p f1n f1c] 24) w n1 w2→
 ∃I3:Int→Int→World→Nat→Prop,(∃k4,I3 0 0 w2 k4)∧
 ∀n_6 k_7 w8 k4 (_:Fr),I3 n_6 k_7 w8 k4→
 ∃x9,w8.cell? ((Addr.mk n1 0 none).add 0)=some (.int .i64 x9)∧
  0≤x9∧cnd (decide (k_7< (i64.wrap ((1:Int)*2 ^ (min x9.toNat (IntKind.bits .i64))))))
  (∃W10:World→Prop,W10 w8.drew∧
    ∃x11 x12p x12n x12c,CellsW W10 (Addr.mk n1 0 none) [.int .i64 x11,.slice x12p x12n x12c]∧
    ∃x13,AtW W10 ((Addr.mk n1 0 none).add 0) (.int .i64 x13)∧
    Calls prog 75 #[.int .i64 x13,.int .i64 k_7] w8.drew fun e w14=> ∃r15p r15n r15c,e= .returned (.slice r15p r15n r15c)∧
    W10 w14∧Calls prog 43 #[.agg #[.int .i64 x11,.slice x12p x12n x12c],.slice r15p r15n r15c] w14 fun e w16=> ∃r17,e= .returned (.bool r17)∧
    cnd r17
    (∃k5,k5<k4∧I3 (i64.wrap (n_6+ (1:Int))) (i64.wrap (k_7+ (1:Int))) w16 k5)
    (∃k5,k5<k4∧I3 n_6 (i64.wrap (k_7+ (1:Int))) w16 k5))
  (K (.int .i64 n_6) w8)
theorem fathomref14_Models.calls {f_0 f1p f1n f1c w R} (h:fathomref14_Models.w f_0 f1p f1n f1c w fun v w'=>R (.returned v) w'):Calls prog 41 #[.agg #[.int .i64 f_0,.slice f1p f1n f1c]] w R:=
 calls_of mixed Tryz.func41 (by kernel_rfl) rfl (ann:=(.two .leaf (.two .leaf (.two (.two .leaf (.one (.loop [(3,3),(4,3)] (.two .leaf (.two (.one (.two .draw .leaf)) .leaf))))) .leaf)))) (F:=fathomref14_Models.w f_0 f1p f1n f1c w) (fun K=>by kernel_rfl) h
def fathomref01_Holds.w (f_0:Int) (f1p:Option Addr) (f1n:Nat) (f1c:Nat) (a:Option Addr) (b:Nat) (c:Nat) (w:World) (K:Value→World→Prop):Prop:=
 ∀n1 w2,New (.cells #[.int .i64 f_0,.slice f1p f1n f1c] 24) w n1 w2→
 ∃I3:Int→World→Nat→Prop,(∃k4,I3 0 w2 k4)∧
 ∀i_6 w7 k4 (_:Fr),I3 i_6 w7 k4→
 ∃x8p x8n x8c,w7.cell? ((Addr.mk n1 0 none).add 1)=some (.slice x8p x8n x8c)∧
  cnd (decide (i_6< (x8n:Int)))
  (∃x9p x9n x9c,w7.cell? ((Addr.mk n1 0 none).add 1)=some (.slice x9p x9n x9c)∧
    ixK x9p x9n i_6 1 fun a10=>
    ∃x11p x11n x11c,w7.cell? a10=some (.slice x11p x11n x11c)∧
    Calls prog 86 #[.slice a b c,.slice x11p x11n x11c] w7 fun e w12=> ∃r13,e= .returned (.int .i64 r13)∧
    cnd (r13 !=(1:Int))
    (K (.bool false) w12)
    (∃k5,k5<k4∧I3 (i64.wrap (i_6+ (1:Int))) w12 k5))
  (K (.bool true) w7)
theorem fathomref01_Holds.calls {f_0 f1p f1n f1c a b c w R} (h:fathomref01_Holds.w f_0 f1p f1n f1c a b c w fun v w'=>R (.returned v) w'):Calls prog 43 #[.agg #[.int .i64 f_0,.slice f1p f1n f1c],.slice a b c] w R:=
 calls_of mixed Tryz.func43 (by kernel_rfl) rfl (ann:=(.two .leaf (.two (.two .leaf (.one (.loop [(5,3)] .leaf))) .leaf))) (F:=fathomref01_Holds.w f_0 f1p f1n f1c a b c w) (fun K=>by kernel_rfl) h
def lit_CheckCnf.w (f_0:Int) (f1p:Option Addr) (f1n:Nat) (f1c:Nat) (w:World) (K:Value→World→Prop):Prop:=
 ∀n1 w2,New (.cells #[.int .i64 f_0,.slice f1p f1n f1c] 24) w n1 w2→
 ∃x3,w2.cell? ((Addr.mk n1 0 none).add 0)=some (.int .i64 x3)∧
 cnd (decide (x3< (0:Int)))
 (K (.int .i64 1) w2)
 (∃x4,w2.cell? ((Addr.mk n1 0 none).add 0)=some (.int .i64 x4)∧
 cnd (decide (x4> (1048576:Int)))
 (K (.int .i64 1) w2)
 (∃x5p x5n x5c,w2.cell? ((Addr.mk n1 0 none).add 1)=some (.slice x5p x5n x5c)∧
 cnd (decide ((x5n:Int)> (262144:Int)))
 (K (.int .i64 1) w2)
 (∃x6p x6n x6c,w2.cell? ((Addr.mk n1 0 none).add 1)=some (.slice x6p x6n x6c)∧
   ∃I7:Int→World→Nat→Prop,(∃k8,I7 0 w2 k8)∧
   ∀v10 w11 k8 (_:Fr),I7 v10 w11 k8→
   cnd (decide (v10< (x6n:Int)))
    (ixK x6p x6n v10 1 fun a12=>
      ∃x13p x13n x13c,w11.cell? a12=some (.slice x13p x13n x13c)∧
      Calls prog 62 #[.slice x13p x13n x13c] w11 fun e w14=> ∃r15,e= .returned (.int .i64 r15)∧
      cnd (r15 !=(0:Int))
      (K (.int .i64 1) w14)
      (Calls prog 68 #[.slice x13p x13n x13c,.func (.func 88) #[] #[.pointer (some (Addr.mk n1 0 none))]] w14 fun e w16=> ∃r17,e= .returned (.bool r17)∧
      cnd r17
      (K (.int .i64 1) w16)
      (∃k9,k9<k8∧I7 (i64.wrap (v10+ (1:Int))) w16 k9)))
    (K (.int .i64 0) w11))))
theorem lit_CheckCnf.calls {f_0 f1p f1n f1c w R} (h:lit_CheckCnf.w f_0 f1p f1n f1c w fun v w'=>R (.returned v) w'):Calls prog 48 #[.agg #[.int .i64 f_0,.slice f1p f1n f1c]] w R:=
 calls_of mixed Tryz.func48 (by kernel_rfl) rfl (ann:=(.two .leaf (.two .leaf (.two (.two .leaf (.one (.loop [(22,3)] .leaf))) .leaf)))) (F:=lit_CheckCnf.w f_0 f1p f1n f1c w) (fun K=>by kernel_rfl) h
def fathomlaw01_Light.w (f_0:Int) (f1p:Option Addr) (f1n:Nat) (f1c:Nat) (w:World) (K:Value→World→Prop):Prop:=
 ∀n1 w2,New (.cells #[.int .i64 f_0,.slice f1p f1n f1c] 24) w n1 w2→
 ∃I3:Int→Int→World→Nat→Prop,(∃k4,I3 0 0 w2 k4)∧
 ∀n_6 i_7 w8 k4 (_:Fr),I3 n_6 i_7 w8 k4→
 ∃x9p x9n x9c,w8.cell? ((Addr.mk n1 0 none).add 1)=some (.slice x9p x9n x9c)∧
  cnd (decide (i_7< (x9n:Int)))
  (cnd (decide (i_7≤(300:Int)))
  (∃x10p x10n x10c,w8.cell? ((Addr.mk n1 0 none).add 1)=some (.slice x10p x10n x10c)∧
    ixK x10p x10n i_7 1 fun a11=>
    ∃x12p x12n x12c,w8.cell? a11=some (.slice x12p x12n x12c)∧
    cnd (decide ((x12n:Int)> (5000:Int)))
    (K (.bool false) w8)
    (∃x13p x13n x13c,w8.cell? ((Addr.mk n1 0 none).add 1)=some (.slice x13p x13n x13c)∧
      ixK x13p x13n i_7 1 fun a14=>
      ∃x15p x15n x15c,w8.cell? a14=some (.slice x15p x15n x15c)∧
      ∃k5,k5<k4∧I3 (i64.wrap (n_6+ (x15n:Int))) (i64.wrap (i_7+ (1:Int))) w8 k5))
  (∃x16p x16n x16c,w8.cell? ((Addr.mk n1 0 none).add 1)=some (.slice x16p x16n x16c)∧
    cnd (decide ((x16n:Int)≤(300:Int)))
    (K (.bool (decide (n_6≤(6000:Int)))) w8)
    (K (.bool false) w8)))
  (∃x17p x17n x17c,w8.cell? ((Addr.mk n1 0 none).add 1)=some (.slice x17p x17n x17c)∧
  cnd (decide ((x17n:Int)≤(300:Int)))
  (K (.bool (decide (n_6≤(6000:Int)))) w8)
  (K (.bool false) w8))
theorem fathomlaw01_Light.calls {f_0 f1p f1n f1c w R} (h:fathomlaw01_Light.w f_0 f1p f1n f1c w fun v w'=>R (.returned v) w'):Calls prog 61 #[.agg #[.int .i64 f_0,.slice f1p f1n f1c]] w R:=
 calls_of mixed Tryz.func61 (by kernel_rfl) rfl (ann:=(.two .leaf (.two .leaf (.two (.two .leaf (.one (.loop [(3,3),(4,3)] .leaf))) .leaf)))) (F:=fathomlaw01_Light.w f_0 f1p f1n f1c w) (fun K=>by kernel_rfl) h
def lit_Check.w (a:Option Addr) (b:Nat) (c:Nat) (w:World) (K:Value→World→Prop):Prop:=
 cnd (decide ((b:Int)> (4096:Int)))
 (K (.int .i64 1) w)
 (Calls prog 68 #[.slice a b c,.func (.func 108) #[] #[]] w fun e w1=> ∃r2,e= .returned (.bool r2)∧
 cnd r2
 (K (.int .i64 1) w1)
 (K (.int .i64 0) w1))
theorem lit_Check.calls {a b c w R} (h:lit_Check.w a b c w fun v w'=>R (.returned v) w'):Calls prog 62 #[.slice a b c] w R:=
 calls_of mixed Tryz.func62 (by kernel_rfl) rfl (ann:= .leaf) (F:=lit_Check.w a b c w) (fun K=>by kernel_rfl) h
def fathomref01_Var.w (l_:Int) (w:World) (K:Value→World→Prop):Prop:=
 cnd (decide (l_< (0:Int)))
 (K (.int .i64 (i64.wrap (0 - l_))) w)
 (K (.int .i64 l_) w)
theorem fathomref01_Var.calls {l_ w R} (h:fathomref01_Var.w l_ w fun v w'=>R (.returned v) w'):Calls prog 63 #[.int .i64 l_] w R:=
 calls_of mixed Tryz.func63 (by kernel_rfl) rfl (ann:= .leaf) (F:=fathomref01_Var.w l_ w) (fun K=>by kernel_rfl) h
def fathomref01_Lit.w (l_:Int) (w:World) (K:Value→World→Prop):Prop:=
 cnd (l_ !=(0:Int))
 (cnd (decide (l_≥(-1048576)))
 (K (.bool (decide (l_≤(1048576:Int)))) w)
 (K (.bool false) w))
 (K (.bool false) w)
theorem fathomref01_Lit.calls {l_ w R} (h:fathomref01_Lit.w l_ w fun v w'=>R (.returned v) w'):Calls prog 64 #[.int .i64 l_] w R:=
 calls_of mixed Tryz.func64 (by kernel_rfl) rfl (ann:= .leaf) (F:=fathomref01_Lit.w l_ w) (fun K=>by kernel_rfl) h
def slices_ContainsFunc_int_int.w (a:Option Addr) (b:Nat) (c:Nat) (f_f:FuncId) (f_v:Array Value) (w:World) (K:Value→World→Prop):Prop:=
 Calls prog 112 #[.slice a b c,.func (.func f_f) #[] f_v] w fun e w1=> ∃r2,e= .returned (.int .i64 r2)∧
 K (.bool (decide (r2≥(0:Int)))) w1
theorem slices_ContainsFunc_int_int.calls {a b c f_f f_v w R} (h:slices_ContainsFunc_int_int.w a b c f_f f_v w fun v w'=>R (.returned v) w'):Calls prog 68 #[.slice a b c,.func (.func f_f) #[] f_v] w R:=
 calls_of mixed Tryz.func68 (by kernel_rfl) rfl (ann:= .leaf) (F:=slices_ContainsFunc_int_int.w a b c f_f f_v w) (fun K=>by kernel_rfl) h
def slices_Clone_int_int.w (a:Option Addr) (b:Nat) (c:Nat) (w:World) (K:Value→World→Prop):Prop:=
 cnd a.isNone
 (K (.slice none 0 0) w)
 (∀n1 w2,New (.cells #[] 3) w n1 w2→
   ∃w3 r4p r4n r4c,(Builtin.append_ #[28,28] 28 #[.slice (some (Addr.mk n1 0 none)) 0 0,.slice a b c]).run prog w2= .ok (.slice r4p r4n r4c) w3∧
   K (.slice r4p r4n r4c) w3)
theorem slices_Clone_int_int.calls {a b c w R} (h:slices_Clone_int_int.w a b c w fun v w'=>R (.returned v) w'):Calls prog 70 #[.slice a b c] w R:=
 calls_of mixed Tryz.func70 (by kernel_rfl) rfl (ann:= .leaf) (F:=slices_Clone_int_int.w a b c w) (fun K=>by kernel_rfl) h
def fathomref01_Model.w (a:Int) (n_:Int) (w:World) (K:Value→World→Prop):Prop:=
 ∀n1 w2,New (.cells #[] 3) w n1 w2→
 ∃I3:Int→Option Addr→Nat→Nat→Int→World→Nat→Prop,(∃k4,I3 n_ (some (Addr.mk n1 0 none)) 0 0 0 w2 k4)∧
 ∀n_6 m7p m7n m7c i_8 w9 k4 (_:Fr),I3 n_6 m7p m7n m7c i_8 w9 k4→
 cnd (decide (i_8<a))
  ((2:Int)≠0∧cnd ((n_6.tmod (2:Int))==(1:Int))
    (∀n10 w11,New (.cells #[.int .i64 1] 3) w9 n10 w11→
      ∃w12 r13p r13n r13c,(Builtin.append_ #[28,28] 28 #[.slice m7p m7n m7c,.slice (some (Addr.mk n10 0 none)) 1 1]).run prog w11= .ok (.slice r13p r13n r13c) w12∧
      (2:Int)≠0∧∃k5,k5<k4∧I3 (i64.wrap (n_6.tdiv (2:Int))) r13p r13n r13c (i64.wrap (i_8+ (1:Int))) w12 k5)
    (∀n14 w15,New (.cells #[.int .i64 (-1)] 3) w9 n14 w15→
      ∃w16 r17p r17n r17c,(Builtin.append_ #[28,28] 28 #[.slice m7p m7n m7c,.slice (some (Addr.mk n14 0 none)) 1 1]).run prog w15= .ok (.slice r17p r17n r17c) w16∧
      (2:Int)≠0∧∃k5,k5<k4∧I3 (i64.wrap (n_6.tdiv (2:Int))) r17p r17n r17c (i64.wrap (i_8+ (1:Int))) w16 k5))
  (K (.slice m7p m7n m7c) w9)
theorem fathomref01_Model.calls {a n_ w R} (h:fathomref01_Model.w a n_ w fun v w'=>R (.returned v) w'):Calls prog 75 #[.int .i64 a,.int .i64 n_] w R:=
 calls_of mixed Tryz.func75 (by kernel_rfl) rfl (ann:=(.two .leaf (.two .leaf (.two (.two .leaf (.one (.loop [(1,3),(5,28),(6,3)] .leaf))) .leaf)))) (F:=fathomref01_Model.w a n_ w) (fun K=>by kernel_rfl) h
def prop_New.w (f_0:Int) (f1p:Option Addr) (f1n:Nat) (f1c:Nat) (w:World) (K:Value→World→Prop):Prop:=
 ∀n1 w2,New (.cells #[.int .i64 f_0,.slice f1p f1n f1c] 24) w n1 w2→
 ∃x3 x4p x4n x4c,CellsAt w2 (Addr.mk n1 0 none) 0 [.int .i64 x3,.slice x4p x4n x4c]∧
 Calls prog 48 #[.agg #[.int .i64 x3,.slice x4p x4n x4c]] w2 fun e w5=> ∃r6,e= .returned (.int .i64 r6)∧
 cnd (r6 !=(0:Int))
 (K (.tuple #[.pointer none,.int .i64 1]) w5)
 (∃x7,w5.cell? ((Addr.mk n1 0 none).add 0)=some (.int .i64 x7)∧
   ∃J8:Addr→World→Prop,(∃W9:World→Prop,W9 w5.drew∧
   ∃x10,AtW W9 ((Addr.mk n1 0 none).add 0) (.int .i64 x10)∧
   (∃w11 r12p r12n r12c,(Instr.makeSlice 22 (.int .i64 (i64.wrap ((2:Int)* (i64.wrap (x7+ (1:Int)))))) (.int .i64 (i64.wrap ((2:Int)* (i64.wrap (x7+ (1:Int))))))).run prog w5.drew= .ok (.slice r12p r12n r12c) w11∧
   W9 w11∧(∃w13 r14p r14n r14c,(Instr.makeSlice 144 (.int .i64 (i64.wrap (x7+ (1:Int)))) (.int .i64 (i64.wrap (x7+ (1:Int))))).run prog w11= .ok (.slice r14p r14n r14c) w13∧
   W9 w13∧(∃w15 r16p r16n r16c,(Instr.makeSlice 28 (.int .i64 (i64.wrap (x7+ (1:Int)))) (.int .i64 (i64.wrap (x7+ (1:Int))))).run prog w13= .ok (.slice r16p r16n r16c) w15∧
   W9 w15∧∃w17 r18p r18n r18c,(Instr.makeSlice 28 (.int .i64 (i64.wrap (x7+ (1:Int)))) (.int .i64 (i64.wrap (x7+ (1:Int))))).run prog w15= .ok (.slice r18p r18n r18c) w17∧
   W9 w17∧∀n19 w20,New (.cells #[.int .i64 x10,.slice none 0 0,.slice r12p r12n r12c,.slice r14p r14n r14c,.slice r16p r16n r16c,.slice r18p r18n r18c,.slice none 0 0,.slice none 0 0,.slice none 0 0,.int .i64 0,.slice none 0 0] 147) w17 n19 w20→
   J8 (Addr.mk n19 0 none) w20)∧
 (∃w21 r22p r22n r22c,(Instr.makeSlice 28 (.int .i64 (i64.wrap (x7+ (1:Int)))) (.int .i64 (i64.wrap (x7+ (1:Int))))).run prog w13= .ok (.slice r22p r22n r22c) w21∧
   W9 w21∧∃w23 r24p r24n r24c,(Instr.makeSlice 28 (.int .i64 (i64.wrap (x7+ (1:Int)))) (.int .i64 (i64.wrap (x7+ (1:Int))))).run prog w21= .ok (.slice r24p r24n r24c) w23∧
   W9 w23∧∀n25 w26,New (.cells #[.int .i64 x10,.slice none 0 0,.slice r12p r12n r12c,.slice r14p r14n r14c,.slice r24p r24n r24c,.slice r22p r22n r22c,.slice none 0 0,.slice none 0 0,.slice none 0 0,.int .i64 0,.slice none 0 0] 147) w23 n25 w26→
   J8 (Addr.mk n25 0 none) w26))∧
 (∃w27 r28p r28n r28c,(Instr.makeSlice 28 (.int .i64 (i64.wrap (x7+ (1:Int)))) (.int .i64 (i64.wrap (x7+ (1:Int))))).run prog w11= .ok (.slice r28p r28n r28c) w27∧
   W9 w27∧(∃w29 r30p r30n r30c,(Instr.makeSlice 144 (.int .i64 (i64.wrap (x7+ (1:Int)))) (.int .i64 (i64.wrap (x7+ (1:Int))))).run prog w27= .ok (.slice r30p r30n r30c) w29∧
   W9 w29∧∃w31 r32p r32n r32c,(Instr.makeSlice 28 (.int .i64 (i64.wrap (x7+ (1:Int)))) (.int .i64 (i64.wrap (x7+ (1:Int))))).run prog w29= .ok (.slice r32p r32n r32c) w31∧
   W9 w31∧∀n33 w34,New (.cells #[.int .i64 x10,.slice none 0 0,.slice r12p r12n r12c,.slice r30p r30n r30c,.slice r28p r28n r28c,.slice r32p r32n r32c,.slice none 0 0,.slice none 0 0,.slice none 0 0,.int .i64 0,.slice none 0 0] 147) w31 n33 w34→
   J8 (Addr.mk n33 0 none) w34)∧
 (∃w35 r36p r36n r36c,(Instr.makeSlice 28 (.int .i64 (i64.wrap (x7+ (1:Int)))) (.int .i64 (i64.wrap (x7+ (1:Int))))).run prog w27= .ok (.slice r36p r36n r36c) w35∧
   W9 w35∧∃w37 r38p r38n r38c,(Instr.makeSlice 144 (.int .i64 (i64.wrap (x7+ (1:Int)))) (.int .i64 (i64.wrap (x7+ (1:Int))))).run prog w35= .ok (.slice r38p r38n r38c) w37∧
   W9 w37∧∀n39 w40,New (.cells #[.int .i64 x10,.slice none 0 0,.slice r12p r12n r12c,.slice r38p r38n r38c,.slice r28p r28n r28c,.slice r36p r36n r36c,.slice none 0 0,.slice none 0 0,.slice none 0 0,.int .i64 0,.slice none 0 0] 147) w37 n39 w40→
   J8 (Addr.mk n39 0 none) w40))∧
 (∃w41 r42p r42n r42c,(Instr.makeSlice 28 (.int .i64 (i64.wrap (x7+ (1:Int)))) (.int .i64 (i64.wrap (x7+ (1:Int))))).run prog w11= .ok (.slice r42p r42n r42c) w41∧
   W9 w41∧(∃w43 r44p r44n r44c,(Instr.makeSlice 144 (.int .i64 (i64.wrap (x7+ (1:Int)))) (.int .i64 (i64.wrap (x7+ (1:Int))))).run prog w41= .ok (.slice r44p r44n r44c) w43∧
   W9 w43∧∃w45 r46p r46n r46c,(Instr.makeSlice 28 (.int .i64 (i64.wrap (x7+ (1:Int)))) (.int .i64 (i64.wrap (x7+ (1:Int))))).run prog w43= .ok (.slice r46p r46n r46c) w45∧
   W9 w45∧∀n47 w48,New (.cells #[.int .i64 x10,.slice none 0 0,.slice r12p r12n r12c,.slice r44p r44n r44c,.slice r46p r46n r46c,.slice r42p r42n r42c,.slice none 0 0,.slice none 0 0,.slice none 0 0,.int .i64 0,.slice none 0 0] 147) w45 n47 w48→
   J8 (Addr.mk n47 0 none) w48)∧
 (∃w49 r50p r50n r50c,(Instr.makeSlice 28 (.int .i64 (i64.wrap (x7+ (1:Int)))) (.int .i64 (i64.wrap (x7+ (1:Int))))).run prog w41= .ok (.slice r50p r50n r50c) w49∧
   W9 w49∧∃w51 r52p r52n r52c,(Instr.makeSlice 144 (.int .i64 (i64.wrap (x7+ (1:Int)))) (.int .i64 (i64.wrap (x7+ (1:Int))))).run prog w49= .ok (.slice r52p r52n r52c) w51∧
   W9 w51∧∀n53 w54,New (.cells #[.int .i64 x10,.slice none 0 0,.slice r12p r12n r12c,.slice r52p r52n r52c,.slice r50p r50n r50c,.slice r42p r42n r42c,.slice none 0 0,.slice none 0 0,.slice none 0 0,.int .i64 0,.slice none 0 0] 147) w51 n53 w54→
   J8 (Addr.mk n53 0 none) w54)))∧
 (∃w55 r56p r56n r56c,(Instr.makeSlice 144 (.int .i64 (i64.wrap (x7+ (1:Int)))) (.int .i64 (i64.wrap (x7+ (1:Int))))).run prog w5.drew= .ok (.slice r56p r56n r56c) w55∧
   W9 w55∧(∃w57 r58p r58n r58c,(Instr.makeSlice 22 (.int .i64 (i64.wrap ((2:Int)* (i64.wrap (x7+ (1:Int)))))) (.int .i64 (i64.wrap ((2:Int)* (i64.wrap (x7+ (1:Int))))))).run prog w55= .ok (.slice r58p r58n r58c) w57∧
   W9 w57∧(∃w59 r60p r60n r60c,(Instr.makeSlice 28 (.int .i64 (i64.wrap (x7+ (1:Int)))) (.int .i64 (i64.wrap (x7+ (1:Int))))).run prog w57= .ok (.slice r60p r60n r60c) w59∧
   W9 w59∧∃w61 r62p r62n r62c,(Instr.makeSlice 28 (.int .i64 (i64.wrap (x7+ (1:Int)))) (.int .i64 (i64.wrap (x7+ (1:Int))))).run prog w59= .ok (.slice r62p r62n r62c) w61∧
   W9 w61∧∀n63 w64,New (.cells #[.int .i64 x10,.slice none 0 0,.slice r58p r58n r58c,.slice r56p r56n r56c,.slice r60p r60n r60c,.slice r62p r62n r62c,.slice none 0 0,.slice none 0 0,.slice none 0 0,.int .i64 0,.slice none 0 0] 147) w61 n63 w64→
   J8 (Addr.mk n63 0 none) w64)∧
 (∃w65 r66p r66n r66c,(Instr.makeSlice 28 (.int .i64 (i64.wrap (x7+ (1:Int)))) (.int .i64 (i64.wrap (x7+ (1:Int))))).run prog w57= .ok (.slice r66p r66n r66c) w65∧
   W9 w65∧∃w67 r68p r68n r68c,(Instr.makeSlice 28 (.int .i64 (i64.wrap (x7+ (1:Int)))) (.int .i64 (i64.wrap (x7+ (1:Int))))).run prog w65= .ok (.slice r68p r68n r68c) w67∧
   W9 w67∧∀n69 w70,New (.cells #[.int .i64 x10,.slice none 0 0,.slice r58p r58n r58c,.slice r56p r56n r56c,.slice r68p r68n r68c,.slice r66p r66n r66c,.slice none 0 0,.slice none 0 0,.slice none 0 0,.int .i64 0,.slice none 0 0] 147) w67 n69 w70→
   J8 (Addr.mk n69 0 none) w70))∧
 (∃w71 r72p r72n r72c,(Instr.makeSlice 28 (.int .i64 (i64.wrap (x7+ (1:Int)))) (.int .i64 (i64.wrap (x7+ (1:Int))))).run prog w55= .ok (.slice r72p r72n r72c) w71∧
   W9 w71∧(∃w73 r74p r74n r74c,(Instr.makeSlice 22 (.int .i64 (i64.wrap ((2:Int)* (i64.wrap (x7+ (1:Int)))))) (.int .i64 (i64.wrap ((2:Int)* (i64.wrap (x7+ (1:Int))))))).run prog w71= .ok (.slice r74p r74n r74c) w73∧
   W9 w73∧∃w75 r76p r76n r76c,(Instr.makeSlice 28 (.int .i64 (i64.wrap (x7+ (1:Int)))) (.int .i64 (i64.wrap (x7+ (1:Int))))).run prog w73= .ok (.slice r76p r76n r76c) w75∧
   W9 w75∧∀n77 w78,New (.cells #[.int .i64 x10,.slice none 0 0,.slice r74p r74n r74c,.slice r56p r56n r56c,.slice r72p r72n r72c,.slice r76p r76n r76c,.slice none 0 0,.slice none 0 0,.slice none 0 0,.int .i64 0,.slice none 0 0] 147) w75 n77 w78→
   J8 (Addr.mk n77 0 none) w78)∧
 (∃w79 r80p r80n r80c,(Instr.makeSlice 28 (.int .i64 (i64.wrap (x7+ (1:Int)))) (.int .i64 (i64.wrap (x7+ (1:Int))))).run prog w71= .ok (.slice r80p r80n r80c) w79∧
   W9 w79∧∃w81 r82p r82n r82c,(Instr.makeSlice 22 (.int .i64 (i64.wrap ((2:Int)* (i64.wrap (x7+ (1:Int)))))) (.int .i64 (i64.wrap ((2:Int)* (i64.wrap (x7+ (1:Int))))))).run prog w79= .ok (.slice r82p r82n r82c) w81∧
   W9 w81∧∀n83 w84,New (.cells #[.int .i64 x10,.slice none 0 0,.slice r82p r82n r82c,.slice r56p r56n r56c,.slice r72p r72n r72c,.slice r80p r80n r80c,.slice none 0 0,.slice none 0 0,.slice none 0 0,.int .i64 0,.slice none 0 0] 147) w81 n83 w84→
   J8 (Addr.mk n83 0 none) w84))∧
 (∃w85 r86p r86n r86c,(Instr.makeSlice 28 (.int .i64 (i64.wrap (x7+ (1:Int)))) (.int .i64 (i64.wrap (x7+ (1:Int))))).run prog w55= .ok (.slice r86p r86n r86c) w85∧
   W9 w85∧(∃w87 r88p r88n r88c,(Instr.makeSlice 22 (.int .i64 (i64.wrap ((2:Int)* (i64.wrap (x7+ (1:Int)))))) (.int .i64 (i64.wrap ((2:Int)* (i64.wrap (x7+ (1:Int))))))).run prog w85= .ok (.slice r88p r88n r88c) w87∧
   W9 w87∧∃w89 r90p r90n r90c,(Instr.makeSlice 28 (.int .i64 (i64.wrap (x7+ (1:Int)))) (.int .i64 (i64.wrap (x7+ (1:Int))))).run prog w87= .ok (.slice r90p r90n r90c) w89∧
   W9 w89∧∀n91 w92,New (.cells #[.int .i64 x10,.slice none 0 0,.slice r88p r88n r88c,.slice r56p r56n r56c,.slice r90p r90n r90c,.slice r86p r86n r86c,.slice none 0 0,.slice none 0 0,.slice none 0 0,.int .i64 0,.slice none 0 0] 147) w89 n91 w92→
   J8 (Addr.mk n91 0 none) w92)∧
 (∃w93 r94p r94n r94c,(Instr.makeSlice 28 (.int .i64 (i64.wrap (x7+ (1:Int)))) (.int .i64 (i64.wrap (x7+ (1:Int))))).run prog w85= .ok (.slice r94p r94n r94c) w93∧
   W9 w93∧∃w95 r96p r96n r96c,(Instr.makeSlice 22 (.int .i64 (i64.wrap ((2:Int)* (i64.wrap (x7+ (1:Int)))))) (.int .i64 (i64.wrap ((2:Int)* (i64.wrap (x7+ (1:Int))))))).run prog w93= .ok (.slice r96p r96n r96c) w95∧
   W9 w95∧∀n97 w98,New (.cells #[.int .i64 x10,.slice none 0 0,.slice r96p r96n r96c,.slice r56p r56n r56c,.slice r94p r94n r94c,.slice r86p r86n r86c,.slice none 0 0,.slice none 0 0,.slice none 0 0,.int .i64 0,.slice none 0 0] 147) w95 n97 w98→
   J8 (Addr.mk n97 0 none) w98)))∧
 (∃w99 r100p r100n r100c,(Instr.makeSlice 28 (.int .i64 (i64.wrap (x7+ (1:Int)))) (.int .i64 (i64.wrap (x7+ (1:Int))))).run prog w5.drew= .ok (.slice r100p r100n r100c) w99∧
   W9 w99∧(∃w101 r102p r102n r102c,(Instr.makeSlice 22 (.int .i64 (i64.wrap ((2:Int)* (i64.wrap (x7+ (1:Int)))))) (.int .i64 (i64.wrap ((2:Int)* (i64.wrap (x7+ (1:Int))))))).run prog w99= .ok (.slice r102p r102n r102c) w101∧
   W9 w101∧(∃w103 r104p r104n r104c,(Instr.makeSlice 144 (.int .i64 (i64.wrap (x7+ (1:Int)))) (.int .i64 (i64.wrap (x7+ (1:Int))))).run prog w101= .ok (.slice r104p r104n r104c) w103∧
   W9 w103∧∃w105 r106p r106n r106c,(Instr.makeSlice 28 (.int .i64 (i64.wrap (x7+ (1:Int)))) (.int .i64 (i64.wrap (x7+ (1:Int))))).run prog w103= .ok (.slice r106p r106n r106c) w105∧
   W9 w105∧∀n107 w108,New (.cells #[.int .i64 x10,.slice none 0 0,.slice r102p r102n r102c,.slice r104p r104n r104c,.slice r100p r100n r100c,.slice r106p r106n r106c,.slice none 0 0,.slice none 0 0,.slice none 0 0,.int .i64 0,.slice none 0 0] 147) w105 n107 w108→
   J8 (Addr.mk n107 0 none) w108)∧
 (∃w109 r110p r110n r110c,(Instr.makeSlice 28 (.int .i64 (i64.wrap (x7+ (1:Int)))) (.int .i64 (i64.wrap (x7+ (1:Int))))).run prog w101= .ok (.slice r110p r110n r110c) w109∧
   W9 w109∧∃w111 r112p r112n r112c,(Instr.makeSlice 144 (.int .i64 (i64.wrap (x7+ (1:Int)))) (.int .i64 (i64.wrap (x7+ (1:Int))))).run prog w109= .ok (.slice r112p r112n r112c) w111∧
   W9 w111∧∀n113 w114,New (.cells #[.int .i64 x10,.slice none 0 0,.slice r102p r102n r102c,.slice r112p r112n r112c,.slice r100p r100n r100c,.slice r110p r110n r110c,.slice none 0 0,.slice none 0 0,.slice none 0 0,.int .i64 0,.slice none 0 0] 147) w111 n113 w114→
   J8 (Addr.mk n113 0 none) w114))∧
 (∃w115 r116p r116n r116c,(Instr.makeSlice 144 (.int .i64 (i64.wrap (x7+ (1:Int)))) (.int .i64 (i64.wrap (x7+ (1:Int))))).run prog w99= .ok (.slice r116p r116n r116c) w115∧
   W9 w115∧(∃w117 r118p r118n r118c,(Instr.makeSlice 22 (.int .i64 (i64.wrap ((2:Int)* (i64.wrap (x7+ (1:Int)))))) (.int .i64 (i64.wrap ((2:Int)* (i64.wrap (x7+ (1:Int))))))).run prog w115= .ok (.slice r118p r118n r118c) w117∧
   W9 w117∧∃w119 r120p r120n r120c,(Instr.makeSlice 28 (.int .i64 (i64.wrap (x7+ (1:Int)))) (.int .i64 (i64.wrap (x7+ (1:Int))))).run prog w117= .ok (.slice r120p r120n r120c) w119∧
   W9 w119∧∀n121 w122,New (.cells #[.int .i64 x10,.slice none 0 0,.slice r118p r118n r118c,.slice r116p r116n r116c,.slice r100p r100n r100c,.slice r120p r120n r120c,.slice none 0 0,.slice none 0 0,.slice none 0 0,.int .i64 0,.slice none 0 0] 147) w119 n121 w122→
   J8 (Addr.mk n121 0 none) w122)∧
 (∃w123 r124p r124n r124c,(Instr.makeSlice 28 (.int .i64 (i64.wrap (x7+ (1:Int)))) (.int .i64 (i64.wrap (x7+ (1:Int))))).run prog w115= .ok (.slice r124p r124n r124c) w123∧
   W9 w123∧∃w125 r126p r126n r126c,(Instr.makeSlice 22 (.int .i64 (i64.wrap ((2:Int)* (i64.wrap (x7+ (1:Int)))))) (.int .i64 (i64.wrap ((2:Int)* (i64.wrap (x7+ (1:Int))))))).run prog w123= .ok (.slice r126p r126n r126c) w125∧
   W9 w125∧∀n127 w128,New (.cells #[.int .i64 x10,.slice none 0 0,.slice r126p r126n r126c,.slice r116p r116n r116c,.slice r100p r100n r100c,.slice r124p r124n r124c,.slice none 0 0,.slice none 0 0,.slice none 0 0,.int .i64 0,.slice none 0 0] 147) w125 n127 w128→
   J8 (Addr.mk n127 0 none) w128))∧
 (∃w129 r130p r130n r130c,(Instr.makeSlice 28 (.int .i64 (i64.wrap (x7+ (1:Int)))) (.int .i64 (i64.wrap (x7+ (1:Int))))).run prog w99= .ok (.slice r130p r130n r130c) w129∧
   W9 w129∧(∃w131 r132p r132n r132c,(Instr.makeSlice 22 (.int .i64 (i64.wrap ((2:Int)* (i64.wrap (x7+ (1:Int)))))) (.int .i64 (i64.wrap ((2:Int)* (i64.wrap (x7+ (1:Int))))))).run prog w129= .ok (.slice r132p r132n r132c) w131∧
   W9 w131∧∃w133 r134p r134n r134c,(Instr.makeSlice 144 (.int .i64 (i64.wrap (x7+ (1:Int)))) (.int .i64 (i64.wrap (x7+ (1:Int))))).run prog w131= .ok (.slice r134p r134n r134c) w133∧
   W9 w133∧∀n135 w136,New (.cells #[.int .i64 x10,.slice none 0 0,.slice r132p r132n r132c,.slice r134p r134n r134c,.slice r100p r100n r100c,.slice r130p r130n r130c,.slice none 0 0,.slice none 0 0,.slice none 0 0,.int .i64 0,.slice none 0 0] 147) w133 n135 w136→
   J8 (Addr.mk n135 0 none) w136)∧
 (∃w137 r138p r138n r138c,(Instr.makeSlice 144 (.int .i64 (i64.wrap (x7+ (1:Int)))) (.int .i64 (i64.wrap (x7+ (1:Int))))).run prog w129= .ok (.slice r138p r138n r138c) w137∧
   W9 w137∧∃w139 r140p r140n r140c,(Instr.makeSlice 22 (.int .i64 (i64.wrap ((2:Int)* (i64.wrap (x7+ (1:Int)))))) (.int .i64 (i64.wrap ((2:Int)* (i64.wrap (x7+ (1:Int))))))).run prog w137= .ok (.slice r140p r140n r140c) w139∧
   W9 w139∧∀n141 w142,New (.cells #[.int .i64 x10,.slice none 0 0,.slice r140p r140n r140c,.slice r138p r138n r138c,.slice r100p r100n r100c,.slice r130p r130n r130c,.slice none 0 0,.slice none 0 0,.slice none 0 0,.int .i64 0,.slice none 0 0] 147) w139 n141 w142→
   J8 (Addr.mk n141 0 none) w142)))∧
 (∃w143 r144p r144n r144c,(Instr.makeSlice 28 (.int .i64 (i64.wrap (x7+ (1:Int)))) (.int .i64 (i64.wrap (x7+ (1:Int))))).run prog w5.drew= .ok (.slice r144p r144n r144c) w143∧
   W9 w143∧(∃w145 r146p r146n r146c,(Instr.makeSlice 22 (.int .i64 (i64.wrap ((2:Int)* (i64.wrap (x7+ (1:Int)))))) (.int .i64 (i64.wrap ((2:Int)* (i64.wrap (x7+ (1:Int))))))).run prog w143= .ok (.slice r146p r146n r146c) w145∧
   W9 w145∧(∃w147 r148p r148n r148c,(Instr.makeSlice 144 (.int .i64 (i64.wrap (x7+ (1:Int)))) (.int .i64 (i64.wrap (x7+ (1:Int))))).run prog w145= .ok (.slice r148p r148n r148c) w147∧
   W9 w147∧∃w149 r150p r150n r150c,(Instr.makeSlice 28 (.int .i64 (i64.wrap (x7+ (1:Int)))) (.int .i64 (i64.wrap (x7+ (1:Int))))).run prog w147= .ok (.slice r150p r150n r150c) w149∧
   W9 w149∧∀n151 w152,New (.cells #[.int .i64 x10,.slice none 0 0,.slice r146p r146n r146c,.slice r148p r148n r148c,.slice r150p r150n r150c,.slice r144p r144n r144c,.slice none 0 0,.slice none 0 0,.slice none 0 0,.int .i64 0,.slice none 0 0] 147) w149 n151 w152→
   J8 (Addr.mk n151 0 none) w152)∧
 (∃w153 r154p r154n r154c,(Instr.makeSlice 28 (.int .i64 (i64.wrap (x7+ (1:Int)))) (.int .i64 (i64.wrap (x7+ (1:Int))))).run prog w145= .ok (.slice r154p r154n r154c) w153∧
   W9 w153∧∃w155 r156p r156n r156c,(Instr.makeSlice 144 (.int .i64 (i64.wrap (x7+ (1:Int)))) (.int .i64 (i64.wrap (x7+ (1:Int))))).run prog w153= .ok (.slice r156p r156n r156c) w155∧
   W9 w155∧∀n157 w158,New (.cells #[.int .i64 x10,.slice none 0 0,.slice r146p r146n r146c,.slice r156p r156n r156c,.slice r154p r154n r154c,.slice r144p r144n r144c,.slice none 0 0,.slice none 0 0,.slice none 0 0,.int .i64 0,.slice none 0 0] 147) w155 n157 w158→
   J8 (Addr.mk n157 0 none) w158))∧
 (∃w159 r160p r160n r160c,(Instr.makeSlice 144 (.int .i64 (i64.wrap (x7+ (1:Int)))) (.int .i64 (i64.wrap (x7+ (1:Int))))).run prog w143= .ok (.slice r160p r160n r160c) w159∧
   W9 w159∧(∃w161 r162p r162n r162c,(Instr.makeSlice 22 (.int .i64 (i64.wrap ((2:Int)* (i64.wrap (x7+ (1:Int)))))) (.int .i64 (i64.wrap ((2:Int)* (i64.wrap (x7+ (1:Int))))))).run prog w159= .ok (.slice r162p r162n r162c) w161∧
   W9 w161∧∃w163 r164p r164n r164c,(Instr.makeSlice 28 (.int .i64 (i64.wrap (x7+ (1:Int)))) (.int .i64 (i64.wrap (x7+ (1:Int))))).run prog w161= .ok (.slice r164p r164n r164c) w163∧
   W9 w163∧∀n165 w166,New (.cells #[.int .i64 x10,.slice none 0 0,.slice r162p r162n r162c,.slice r160p r160n r160c,.slice r164p r164n r164c,.slice r144p r144n r144c,.slice none 0 0,.slice none 0 0,.slice none 0 0,.int .i64 0,.slice none 0 0] 147) w163 n165 w166→
   J8 (Addr.mk n165 0 none) w166)∧
 (∃w167 r168p r168n r168c,(Instr.makeSlice 28 (.int .i64 (i64.wrap (x7+ (1:Int)))) (.int .i64 (i64.wrap (x7+ (1:Int))))).run prog w159= .ok (.slice r168p r168n r168c) w167∧
   W9 w167∧∃w169 r170p r170n r170c,(Instr.makeSlice 22 (.int .i64 (i64.wrap ((2:Int)* (i64.wrap (x7+ (1:Int)))))) (.int .i64 (i64.wrap ((2:Int)* (i64.wrap (x7+ (1:Int))))))).run prog w167= .ok (.slice r170p r170n r170c) w169∧
   W9 w169∧∀n171 w172,New (.cells #[.int .i64 x10,.slice none 0 0,.slice r170p r170n r170c,.slice r160p r160n r160c,.slice r168p r168n r168c,.slice r144p r144n r144c,.slice none 0 0,.slice none 0 0,.slice none 0 0,.int .i64 0,.slice none 0 0] 147) w169 n171 w172→
   J8 (Addr.mk n171 0 none) w172))∧
 (∃w173 r174p r174n r174c,(Instr.makeSlice 28 (.int .i64 (i64.wrap (x7+ (1:Int)))) (.int .i64 (i64.wrap (x7+ (1:Int))))).run prog w143= .ok (.slice r174p r174n r174c) w173∧
   W9 w173∧(∃w175 r176p r176n r176c,(Instr.makeSlice 22 (.int .i64 (i64.wrap ((2:Int)* (i64.wrap (x7+ (1:Int)))))) (.int .i64 (i64.wrap ((2:Int)* (i64.wrap (x7+ (1:Int))))))).run prog w173= .ok (.slice r176p r176n r176c) w175∧
   W9 w175∧∃w177 r178p r178n r178c,(Instr.makeSlice 144 (.int .i64 (i64.wrap (x7+ (1:Int)))) (.int .i64 (i64.wrap (x7+ (1:Int))))).run prog w175= .ok (.slice r178p r178n r178c) w177∧
   W9 w177∧∀n179 w180,New (.cells #[.int .i64 x10,.slice none 0 0,.slice r176p r176n r176c,.slice r178p r178n r178c,.slice r174p r174n r174c,.slice r144p r144n r144c,.slice none 0 0,.slice none 0 0,.slice none 0 0,.int .i64 0,.slice none 0 0] 147) w177 n179 w180→
   J8 (Addr.mk n179 0 none) w180)∧
 (∃w181 r182p r182n r182c,(Instr.makeSlice 144 (.int .i64 (i64.wrap (x7+ (1:Int)))) (.int .i64 (i64.wrap (x7+ (1:Int))))).run prog w173= .ok (.slice r182p r182n r182c) w181∧
   W9 w181∧∃w183 r184p r184n r184c,(Instr.makeSlice 22 (.int .i64 (i64.wrap ((2:Int)* (i64.wrap (x7+ (1:Int)))))) (.int .i64 (i64.wrap ((2:Int)* (i64.wrap (x7+ (1:Int))))))).run prog w181= .ok (.slice r184p r184n r184c) w183∧
   W9 w183∧∀n185 w186,New (.cells #[.int .i64 x10,.slice none 0 0,.slice r184p r184n r184c,.slice r182p r182n r182c,.slice r174p r174n r174c,.slice r144p r144n r144c,.slice none 0 0,.slice none 0 0,.slice none 0 0,.int .i64 0,.slice none 0 0] 147) w183 n185 w186→
   J8 (Addr.mk n185 0 none) w186))))∧
   ∀p_187 w188 (_:Fr),J8 p_187 w188→
   ∃x189p x189n x189c,w188.cell? ((Addr.mk n1 0 none).add 1)=some (.slice x189p x189n x189c)∧
   ∃I190:Int→World→Nat→Prop,(∃k191,I190 0 w188 k191)∧
   ∀v193 w194 k191 (_:Fr),I190 v193 w194 k191→
   cnd (decide (v193< (x189n:Int)))
    (ixK x189p x189n v193 1 fun a195=>
      ∃x196p x196n x196c,w194.cell? a195=some (.slice x196p x196n x196c)∧
      Calls prog 106 #[.pointer (some p_187),.slice x196p x196n x196c] w194 fun e w197=> ∃r198 r199,e= .returned (.tuple #[.int .i64 r198,.int .i64 r199])∧
      ∃k192,k192<k191∧I190 (i64.wrap (v193+ (1:Int))) w197 k192)
    (K (.tuple #[.pointer (some p_187),.int .i64 0]) w194))
theorem prop_New.calls {f_0 f1p f1n f1c w R} (h:prop_New.w f_0 f1p f1n f1c w fun v w'=>R (.returned v) w'):Calls prog 76 #[.agg #[.int .i64 f_0,.slice f1p f1n f1c]] w R:=
 calls_of mixed Tryz.func76 (by kernel_rfl) rfl (ann:=(.two .leaf (.two .leaf (.two .leaf (.cut [(5,1000000)] .draw (.two (.two .leaf (.one (.loop [(30,3)] .leaf))) .leaf)))))) (F:=prop_New.w f_0 f1p f1n f1c w) (fun K=>by kernel_rfl) h
def heap_New.w (n_:Int) (w:World) (K:Value→World→Prop):Prop:=
 cnd (decide (n_< (0:Int)))
 (K (.tuple #[.pointer none,.int .i64 1]) w)
 (cnd (decide (n_> (1048576:Int)))
 (K (.tuple #[.pointer none,.int .i64 1]) w)
 ((∃w1 r2p r2n r2c,(Instr.makeSlice 28 (.int .i64 (i64.wrap (n_+ (1:Int)))) (.int .i64 (i64.wrap (n_+ (1:Int))))).run prog w.drew= .ok (.slice r2p r2n r2c) w1∧
   ∃w3 r4p r4n r4c,(Instr.makeSlice 28 (.int .i64 (i64.wrap (n_+ (1:Int)))) (.int .i64 (i64.wrap (n_+ (1:Int))))).run prog w1= .ok (.slice r4p r4n r4c) w3∧
   ∀n5 w6,New (.cells #[.slice none 0 0,.slice r2p r2n r2c,.slice r4p r4n r4c,.int .i64 64] 149) w3 n5 w6→
   ∃I7:Int→World→Nat→Prop,(∃k8,I7 1 w6 k8)∧
   ∀v_10 w11 k8 (_:Fr),I7 v_10 w11 k8→
   cnd (decide (v_10≤n_))
    (∃a12,(some (Addr.mk n5 0 none))=some a12∧∃x13p x13n x13c,w11.cell? (a12.add 0)=some (.slice x13p x13n x13c)∧
      ∀n14 w15,New (.cells #[.int .i64 v_10] 3) w11 n14 w15→
      ∃w16 r17p r17n r17c,(Builtin.append_ #[28,28] 28 #[.slice x13p x13n x13c,.slice (some (Addr.mk n14 0 none)) 1 1]).run prog w15= .ok (.slice r17p r17n r17c) w16∧
      ∃a18,(some (Addr.mk n5 0 none))=some a18∧∃w19,StoreAt (a18.add 0) 0 [.slice r17p r17n r17c] w16 w19∧
      ∃a20,(some (Addr.mk n5 0 none))=some a20∧∃x21p x21n x21c,w19.cell? (a20.add 1)=some (.slice x21p x21n x21c)∧
      ixK x21p x21n v_10 1 fun a22=>
      ∃w23,StoreAt a22 0 [.int .i64 v_10] w19 w23∧
      ∃k9,k9<k8∧I7 (i64.wrap (v_10+ (1:Int))) w23 k9)
    (K (.tuple #[.pointer (some (Addr.mk n5 0 none)),.int .i64 0]) w11))∧
 (∃w24 r25p r25n r25c,(Instr.makeSlice 28 (.int .i64 (i64.wrap (n_+ (1:Int)))) (.int .i64 (i64.wrap (n_+ (1:Int))))).run prog w.drew= .ok (.slice r25p r25n r25c) w24∧
   ∃w26 r27p r27n r27c,(Instr.makeSlice 28 (.int .i64 (i64.wrap (n_+ (1:Int)))) (.int .i64 (i64.wrap (n_+ (1:Int))))).run prog w24= .ok (.slice r27p r27n r27c) w26∧
   ∀n28 w29,New (.cells #[.slice none 0 0,.slice r27p r27n r27c,.slice r25p r25n r25c,.int .i64 64] 149) w26 n28 w29→
   ∃I30:Int→World→Nat→Prop,(∃k31,I30 1 w29 k31)∧
   ∀v_33 w34 k31 (_:Fr),I30 v_33 w34 k31→
   cnd (decide (v_33≤n_))
    (∃a35,(some (Addr.mk n28 0 none))=some a35∧∃x36p x36n x36c,w34.cell? (a35.add 0)=some (.slice x36p x36n x36c)∧
      ∀n37 w38,New (.cells #[.int .i64 v_33] 3) w34 n37 w38→
      ∃w39 r40p r40n r40c,(Builtin.append_ #[28,28] 28 #[.slice x36p x36n x36c,.slice (some (Addr.mk n37 0 none)) 1 1]).run prog w38= .ok (.slice r40p r40n r40c) w39∧
      ∃a41,(some (Addr.mk n28 0 none))=some a41∧∃w42,StoreAt (a41.add 0) 0 [.slice r40p r40n r40c] w39 w42∧
      ∃a43,(some (Addr.mk n28 0 none))=some a43∧∃x44p x44n x44c,w42.cell? (a43.add 1)=some (.slice x44p x44n x44c)∧
      ixK x44p x44n v_33 1 fun a45=>
      ∃w46,StoreAt a45 0 [.int .i64 v_33] w42 w46∧
      ∃k32,k32<k31∧I30 (i64.wrap (v_33+ (1:Int))) w46 k32)
    (K (.tuple #[.pointer (some (Addr.mk n28 0 none)),.int .i64 0]) w34))))
theorem heap_New.calls {n_ w R} (h:heap_New.w n_ w fun v w'=>R (.returned v) w'):Calls prog 77 #[.int .i64 n_] w R:=
 calls_of mixed Tryz.func77 (by kernel_rfl) rfl (ann:=(.two .leaf (.two .leaf (.two .leaf (.two (.two .leaf (.one (.loop [(5,3)] .leaf))) .leaf))))) (F:=heap_New.w n_ w) (fun K=>by kernel_rfl) h
def luby_Start.w (u_:Int) (w:World) (K:Value→World→Prop):Prop:=
 ∀n1 w2,New (.cells #[.int .i64 0,.int .i64 0,.int .i64 0] 104) w n1 w2→
 cnd (decide (u_< (1:Int)))
 (∃w3,StoreAt (Addr.mk n1 0 none) 0 [.int .i64 0,.int .i64 0,.int .i64 0] w2 w3∧
 ∃x4 x5 x6,CellsAt w3 (Addr.mk n1 0 none) 0 [.int .i64 x4,.int .i64 x5,.int .i64 x6]∧
 K (.tuple #[.agg #[.int .i64 x4,.int .i64 x5,.int .i64 x6],.int .i64 1]) w3)
 (cnd (decide (u_> (1048576:Int)))
 (∃w7,StoreAt (Addr.mk n1 0 none) 0 [.int .i64 0,.int .i64 0,.int .i64 0] w2 w7∧
   ∃x8 x9 x10,CellsAt w7 (Addr.mk n1 0 none) 0 [.int .i64 x8,.int .i64 x9,.int .i64 x10]∧
   K (.tuple #[.agg #[.int .i64 x8,.int .i64 x9,.int .i64 x10],.int .i64 1]) w7)
 (∃w11,StoreAt (Addr.mk n1 0 none) 0 [.int .i64 u_,.int .i64 1,.int .i64 u_] w2 w11∧
   ∃x12 x13 x14,CellsAt w11 (Addr.mk n1 0 none) 0 [.int .i64 x12,.int .i64 x13,.int .i64 x14]∧
   K (.tuple #[.agg #[.int .i64 x12,.int .i64 x13,.int .i64 x14],.int .i64 0]) w11))
theorem luby_Start.calls {u_ w R} (h:luby_Start.w u_ w fun v w'=>R (.returned v) w'):Calls prog 78 #[.int .i64 u_] w R:=
 calls_of mixed Tryz.func78 (by kernel_rfl) rfl (ann:= .leaf) (F:=luby_Start.w u_ w) (fun K=>by kernel_rfl) h
def prop_Prop_Run.w (p_:Option Addr) (w:World) (K:Value→World→Prop):Prop:=
 cnd p_.isNone
 (K (.int .i64 (-1)) w)
 (∃a1,p_=some a1∧∃x2p x2n x2c,w.cell? (a1.add 3)=some (.slice x2p x2n x2c)∧
 cnd x2p.isNone
 (K (.int .i64 (-1)) w)
 (Calls prog 118 #[.pointer p_] w fun e w3=> ∃r4,e= .returned (.int .i64 r4)∧
   cnd (decide (r4≥(0:Int)))
   (K (.int .i64 r4) w3)
   (∃I5:World→Nat→Prop,(∃k6,I5 w3 k6)∧
     ∀w8 k6 (_:Fr),I5 w8 k6→
     ∃a9,p_=some a9∧∃x10,w8.drew.cell? (a9.add 9)=some (.int .i64 x10)∧
      ∃a11,p_=some a11∧∃x12p x12n x12c,w8.drew.cell? (a11.add 6)=some (.slice x12p x12n x12c)∧
      cnd (decide (x10< (x12n:Int)))
      (∃a13,p_=some a13∧∃x14p x14n x14c,w8.drew.drew.cell? (a13.add 6)=some (.slice x14p x14n x14c)∧
        ∃a15,p_=some a15∧∃x16,w8.drew.drew.cell? (a15.add 9)=some (.int .i64 x16)∧
        ixK x14p x14n x16 1 fun a17=>
        ∃x18,w8.drew.drew.cell? a17=some (.int .i64 x18)∧
        ∃W19:World→Prop,W19 w8.drew.drew.drew∧
        ∃a20,p_=some a20∧∃x21p x21n x21c,AtW W19 (a20.add 2) (.slice x21p x21n x21c)∧
        Calls prog 119 #[.int .i64 (i64.wrap (0 - x18))] w8.drew.drew.drew fun e w22=> ∃r23,e= .returned (.int .i64 r23)∧
        W19 w22∧ixK x21p x21n r23 1 fun a24=>
        ∃x25p x25n x25c,AtW W19 a24 (.slice x25p x25n x25c)∧
        ∃I26:Int→Int→World→Nat→Prop,(∃k27,I26 0 0 w22 k27)∧
        ∀k_29 v30 w31 k27 (_:Fr),I26 k_29 v30 w31 k27→
        cnd (decide (v30< (x25n:Int)))
         (ixK x25p x25n v30 1 fun a32=>
           ∃x33,w31.cell? a32=some (.int .i64 x33)∧
           ∃a34,p_=some a34∧∃x35p x35n x35c,w31.cell? (a34.add 1)=some (.slice x35p x35n x35c)∧
           ixK x35p x35n x33 3 fun a36=>
           ∃x37p x37n x37c,w31.cell? (a36.add 1)=some (.slice x37p x37n x37c)∧
           cnd (decide ((x37n:Int)< (2:Int)))
           (ixK x25p x25n k_29 1 fun a38=>
             ∃w39,StoreAt a38 0 [.int .i64 x33] w31 w39∧
             ∃k28,k28<k27∧I26 (i64.wrap (k_29+ (1:Int))) (i64.wrap (v30+ (1:Int))) w39 k28)
           (Calls prog 120 #[.pointer p_,.int .i64 x33,.int .i64 (i64.wrap (0 - x18))] w31 fun e w40=> ∃r41 r42,e= .returned (.tuple #[.bool r41,.bool r42])∧
             cnd r41
             (ixK x25p x25n k_29 1 fun a43=>
               ∃w44,StoreAt a43 0 [.int .i64 x33] w40 w44∧
               cnd r42
               (slK x25p x25n x25c 1 (some (i64.wrap (k_29+ (1:Int)))) none none fun s45p s45n s45c=>
                 slK x25p x25n x25c 1 (some (i64.wrap (v30+ (1:Int)))) none none fun s46p s46n s46c=>
                 ∃w47 r48,(Builtin.copy_ #[28,28] 3 #[.slice s45p s45n s45c,.slice s46p s46n s46c]).run prog w44.drew= .ok (.int .i64 r48) w47∧
                 ∃W49:World→Prop,W49 w47.drew∧
                 ∃a50,p_=some a50∧∃x51p x51n x51c,AtW W49 (a50.add 2) (.slice x51p x51n x51c)∧
                 Calls prog 119 #[.int .i64 (i64.wrap (0 - x18))] w47.drew fun e w52=> ∃r53,e= .returned (.int .i64 r53)∧
                 W49 w52∧slK x25p x25n x25c 1 none (some (i64.wrap ((i64.wrap (k_29+ (1:Int)))+r48))) none fun s54p s54n s54c=>
                 ixK x51p x51n r53 1 fun a55=>
                 ∃w56,StoreAt a55 0 [.slice s54p s54n s54c] w52 w56∧
                 K (.int .i64 x33) w56)
               (∃k28,k28<k27∧I26 (i64.wrap (k_29+ (1:Int))) (i64.wrap (v30+ (1:Int))) w44 k28))
             (cnd r42
               (slK x25p x25n x25c 1 (some k_29) none none fun s57p s57n s57c=>
                 slK x25p x25n x25c 1 (some (i64.wrap (v30+ (1:Int)))) none none fun s58p s58n s58c=>
                 ∃w59 r60,(Builtin.copy_ #[28,28] 3 #[.slice s57p s57n s57c,.slice s58p s58n s58c]).run prog w40.drew= .ok (.int .i64 r60) w59∧
                 ∃W61:World→Prop,W61 w59.drew∧
                 ∃a62,p_=some a62∧∃x63p x63n x63c,AtW W61 (a62.add 2) (.slice x63p x63n x63c)∧
                 Calls prog 119 #[.int .i64 (i64.wrap (0 - x18))] w59.drew fun e w64=> ∃r65,e= .returned (.int .i64 r65)∧
                 W61 w64∧slK x25p x25n x25c 1 none (some (i64.wrap (k_29+r60))) none fun s66p s66n s66c=>
                 ixK x63p x63n r65 1 fun a67=>
                 ∃w68,StoreAt a67 0 [.slice s66p s66n s66c] w64 w68∧
                 K (.int .i64 x33) w68)
               (∃k28,k28<k27∧I26 k_29 (i64.wrap (v30+ (1:Int))) w40 k28))))
         (∃W69:World→Prop,W69 w31.drew∧
           ∃a70,p_=some a70∧∃x71p x71n x71c,AtW W69 (a70.add 2) (.slice x71p x71n x71c)∧
           Calls prog 119 #[.int .i64 (i64.wrap (0 - x18))] w31.drew fun e w72=> ∃r73,e= .returned (.int .i64 r73)∧
           W69 w72∧slK x25p x25n x25c 1 none (some k_29) none fun s74p s74n s74c=>
           ixK x71p x71n r73 1 fun a75=>
           ∃w76,StoreAt a75 0 [.slice s74p s74n s74c] w72 w76∧
           ∃a77,p_=some a77∧∃x78,w76.cell? (a77.add 9)=some (.int .i64 x78)∧
           ∃a79,p_=some a79∧∃w80,StoreAt (a79.add 9) 0 [.int .i64 (i64.wrap (x78+ (1:Int)))] w76 w80∧
           ∃k7,k7<k6∧I5 w80 k7))
      (K (.int .i64 (-1)) w8.drew))))
theorem prop_Prop_Run.calls {p_ w R} (h:prop_Prop_Run.w p_ w fun v w'=>R (.returned v) w'):Calls prog 79 #[.pointer p_] w R:=
 calls_of mixed Tryz.func79 (by kernel_rfl) rfl (ann:=(.two .leaf (.one (.two .leaf (.two .leaf (.two .leaf (.two (.one (.loop [] (.two .leaf (.one (.two .leaf (.two .draw (.two .leaf (.two (.two .leaf (.one (.loop [(6,3),(56,3)] (.two .leaf (.two .leaf (.two (.one (.two .leaf (.two .leaf (.two .leaf (.two .leaf (.two .leaf (.two (.two .leaf (.two .draw .leaf)) .leaf))))))) .leaf)))))) (.two .draw .leaf))))))))) .leaf))))))) (F:=prop_Prop_Run.w p_ w) (fun K=>by kernel_rfl) h
def cdcl_search_decide.w (x0_:Option Addr) (w:World) (K:Value→World→Prop):Prop:=
 ∃I1:World→Nat→Prop,(∃k2,I1 w k2)∧
 ∀w4 k2 (_:Fr),I1 w4 k2→
 ∃a5,x0_=some a5∧∃x6,w4.cell? (a5.add 6)=some (.pointer x6)∧
  Calls prog 121 #[.pointer x6] w4 fun e w7=> ∃r8 r9,e= .returned (.tuple #[.int .i64 r8,.bool r9])∧
  cnd (!r9)
  (K (.bool false) w7)
  (∃a10,x0_=some a10∧∃x11,w7.cell? (a10.add 5)=some (.pointer x11)∧
    Calls prog 122 #[.pointer x11,.int .i64 r8] w7 fun e w12=> ∃r13,e= .returned (.int .i64 r13)∧
    cnd (r13 !=(0:Int))
    (∃k3,k3<k2∧I1 w12 k3)
    (∃a14,x0_=some a14∧∃x15p x15n x15c,w12.cell? (a14.add 7)=some (.slice x15p x15n x15c)∧
      ixK x15p x15n r8 1 fun a16=>
      ∃x17,w12.cell? a16=some (.int .i64 x17)∧
      cnd (decide (x17> (0:Int)))
      (∃a18,x0_=some a18∧∃x19,w12.cell? (a18.add 5)=some (.pointer x19)∧
        Calls prog 123 #[.pointer x19,.int .i64 r8] w12 fun e w20=> ∃r21,e= .returned (.int .i64 r21)∧
        ∃a22,x0_=some a22∧∃x23,w20.cell? ((a22.add 14).add 4)=some (.int .i64 x23)∧
        ∃a24,x0_=some a24∧∃w25,StoreAt ((a24.add 14).add 4) 0 [.int .i64 (i64.wrap (x23+ (1:Int)))] w20 w25∧
        K (.bool true) w25)
      (∃a26,x0_=some a26∧∃x27,w12.cell? (a26.add 5)=some (.pointer x27)∧
        Calls prog 123 #[.pointer x27,.int .i64 (i64.wrap (0 - r8))] w12 fun e w28=> ∃r29,e= .returned (.int .i64 r29)∧
        ∃a30,x0_=some a30∧∃x31,w28.cell? ((a30.add 14).add 4)=some (.int .i64 x31)∧
        ∃a32,x0_=some a32∧∃w33,StoreAt ((a32.add 14).add 4) 0 [.int .i64 (i64.wrap (x31+ (1:Int)))] w28 w33∧
        K (.bool true) w33)))
theorem cdcl_search_decide.calls {x0_ w R} (h:cdcl_search_decide.w x0_ w fun v w'=>R (.returned v) w'):Calls prog 80 #[.pointer x0_] w R:=
 calls_of mixed Tryz.func80 (by kernel_rfl) rfl (ann:=(.two .leaf (.one (.loop [] .leaf)))) (F:=cdcl_search_decide.w x0_ w) (fun K=>by kernel_rfl) h
def cdcl_search_sat.w (x0_:Option Addr) (w:World) (K:Value→World→Prop):Prop:=
 ∃a1,x0_=some a1∧∃w2,StoreAt ((a1.add 14).add 0) 0 [.int .i64 1] w w2∧
 ∃a3,x0_=some a3∧∃w4,StoreAt ((a3.add 14).add 2) 0 [.slice none 0 0] w2 w4∧
 ∃I5:Int→World→Nat→Prop,(∃k6,I5 1 w4 k6)∧
 ∀v_8 w9 k6 (_:Fr),I5 v_8 w9 k6→
 ∃a10,x0_=some a10∧∃x11,w9.cell? ((a10.add 0).add 0)=some (.int .i64 x11)∧
  cnd (decide (v_8≤x11))
  (∃W12:World→Prop,W12 w9.drew∧
    ∃a13,x0_=some a13∧∃x14p x14n x14c,AtW W12 ((a13.add 14).add 1) (.slice x14p x14n x14c)∧
    ∃a15,x0_=some a15∧∃x16,AtW W12 (a15.add 5) (.pointer x16)∧
    Calls prog 122 #[.pointer x16,.int .i64 v_8] w9.drew fun e w17=> ∃r18,e= .returned (.int .i64 r18)∧
    W12 w17∧∀n19 w20,New (.cells #[.int .i64 r18] 3) w17 n19 w20→
    W12 w20∧∃w21 r22p r22n r22c,(Builtin.append_ #[28,28] 28 #[.slice x14p x14n x14c,.slice (some (Addr.mk n19 0 none)) 1 1]).run prog w20= .ok (.slice r22p r22n r22c) w21∧
    ∃a23,x0_=some a23∧∃w24,StoreAt ((a23.add 14).add 1) 0 [.slice r22p r22n r22c] w21 w24∧
    ∃k7,k7<k6∧I5 (i64.wrap (v_8+ (1:Int))) w24 k7)
  (K (.tuple #[]) w9)
theorem cdcl_search_sat.calls {x0_ w R} (h:cdcl_search_sat.w x0_ w fun v w'=>R (.returned v) w'):Calls prog 81 #[.pointer x0_] w R:=
 calls_of mixed Tryz.func81 (by kernel_rfl) rfl (ann:=(.two .leaf (.two .leaf (.one (.loop [(2,3)] (.two .leaf (.two (.one .draw) .leaf))))))) (F:=cdcl_search_sat.w x0_ w) (fun K=>by kernel_rfl) h
def prop_Prop_Levels.w (p_:Option Addr) (w:World) (K:Value→World→Prop):Prop:=
 cnd p_.isNone
 (K (.int .i64 0) w)
 (∃a1,p_=some a1∧∃x2p x2n x2c,w.cell? (a1.add 7)=some (.slice x2p x2n x2c)∧
   K (.int .i64 (x2n:Int)) w)
theorem prop_Prop_Levels.calls {p_ w R} (h:prop_Prop_Levels.w p_ w fun v w'=>R (.returned v) w'):Calls prog 82 #[.pointer p_] w R:=
 calls_of mixed Tryz.func82 (by kernel_rfl) rfl (ann:= .leaf) (F:=prop_Prop_Levels.w p_ w) (fun K=>by kernel_rfl) h
def cdcl_search_told.w (x0_:Option Addr) (a:Option Addr) (b:Nat) (c:Nat) (w:World) (K:Value→World→Prop):Prop:=
 ∃W1:World→Prop,W1 w.drew∧
 ∃a2,x0_=some a2∧∃x3p x3n x3c,AtW W1 ((a2.add 14).add 2) (.slice x3p x3n x3c)∧
 Calls prog 70 #[.slice a b c] w.drew fun e w4=> ∃r5p r5n r5c,e= .returned (.slice r5p r5n r5c)∧
 W1 w4∧∀n6 w7,New (.cells #[.bool false,.slice r5p r5n r5c] 48) w4 n6 w7→
 W1 w7∧∃w8 r9p r9n r9c,(Builtin.append_ #[25,25] 25 #[.slice x3p x3n x3c,.slice (some (Addr.mk n6 0 none)) 1 1]).run prog w7= .ok (.slice r9p r9n r9c) w8∧
 ∃a10,x0_=some a10∧∃w11,StoreAt ((a10.add 14).add 2) 0 [.slice r9p r9n r9c] w8 w11∧
 K (.tuple #[]) w11
theorem cdcl_search_told.calls {x0_ a b c w R} (h:cdcl_search_told.w x0_ a b c w fun v w'=>R (.returned v) w'):Calls prog 83 #[.pointer x0_,.slice a b c] w R:=
 calls_of mixed Tryz.func83 (by kernel_rfl) rfl (ann:= .draw) (F:=cdcl_search_told.w x0_ a b c w) (fun K=>by kernel_rfl) h
def cdcl_search_conflict.w (x0_:Option Addr) (i_:Int) (w:World) (K:Value→World→Prop):Prop:=
 ∃a1,x0_=some a1∧∃x2,w.cell? ((a1.add 14).add 3)=some (.int .i64 x2)∧
 ∃a3,x0_=some a3∧∃w4,StoreAt ((a3.add 14).add 3) 0 [.int .i64 (i64.wrap (x2+ (1:Int)))] w w4∧
 ∃a5,x0_=some a5∧∃x6,w4.cell? (a5.add 5)=some (.pointer x6)∧
 Calls prog 124 #[.pointer x6,.int .i64 i_] w4 fun e w7=> ∃r8p r8n r8c r9,e= .returned (.tuple #[.slice r8p r8n r8c,.bool r9])∧
 Calls prog 125 #[.pointer x0_,.slice r8p r8n r8c] w7 fun e w10=> ∃r11p r11n r11c r12 r13,e= .returned (.tuple #[.slice r11p r11n r11c,.int .i64 r12,.int .i64 r13])∧
 Calls prog 70 #[.slice r8p r8n r8c] w10 fun e w14=> ∃r15p r15n r15c,e= .returned (.slice r15p r15n r15c)∧
 ∃w16 r17p r17n r17c,(Builtin.append_ #[28,28] 28 #[.slice r15p r15n r15c,.slice r11p r11n r11c]).run prog w14= .ok (.slice r17p r17n r17c) w16∧
 ∃I18:Int→World→Nat→Prop,(∃k19,I18 0 w16 k19)∧
 ∀v21 w22 k19 (_:Fr),I18 v21 w22 k19→
 cnd (decide (v21< (r17n:Int)))
  (ixK r17p r17n v21 1 fun a23=>
    ∃x24,w22.cell? a23=some (.int .i64 x24)∧
    ∃a25,x0_=some a25∧∃x26,w22.cell? (a25.add 6)=some (.pointer x26)∧
    Calls prog 126 #[.pointer x26,.int .i64 (imax x24 (i64.wrap (0 - x24)))] w22 fun e w27=> ∃r28,e= .returned (.int .i64 r28)∧
    ∃k20,k20<k19∧I18 (i64.wrap (v21+ (1:Int))) w27 k20)
  (∃a29,x0_=some a29∧∃x30,w22.cell? (a29.add 6)=some (.pointer x30)∧
    Calls prog 127 #[.pointer x30] w22 fun e w31=>e= .returned (.tuple #[])∧
    Calls prog 83 #[.pointer x0_,.slice r11p r11n r11c] w31 fun e w32=>e= .returned (.tuple #[])∧
    Calls prog 128 #[.pointer x0_,.int .i64 (imax 0 r12)] w32 fun e w33=>e= .returned (.tuple #[])∧
    Calls prog 129 #[.pointer x0_,.slice r11p r11n r11c,.int .i64 r13] w33 fun e w34=>e= .returned (.tuple #[])∧
    ∃a35,x0_=some a35∧∃x36 x37 x38,CellsAt w34 (a35.add 8) 0 [.int .i64 x36,.int .i64 x37,.int .i64 x38]∧
    Calls prog 130 #[.agg #[.int .i64 x36,.int .i64 x37,.int .i64 x38]] w34 fun e w39=> ∃r40 r41 r42 r43,e= .returned (.tuple #[.agg #[.int .i64 r40,.int .i64 r41,.int .i64 r42],.bool r43])∧
    ∃a44,x0_=some a44∧∃w45,StoreAt (a44.add 8) 0 [.int .i64 r40,.int .i64 r41,.int .i64 r42] w39 w45∧
    cnd r43
    (∃a46,x0_=some a46∧∃x47,w45.cell? ((a46.add 14).add 5)=some (.int .i64 x47)∧
      ∃a48,x0_=some a48∧∃w49,StoreAt ((a48.add 14).add 5) 0 [.int .i64 (i64.wrap (x47+ (1:Int)))] w45 w49∧
      Calls prog 128 #[.pointer x0_,.int .i64 0] w49 fun e w50=>e= .returned (.tuple #[])∧
      ∃a51,x0_=some a51∧∃x52p x52n x52c,w50.drew.cell? (a51.add 11)=some (.slice x52p x52n x52c)∧
      ∃a53,x0_=some a53∧∃x54,w50.drew.cell? ((a53.add 2).add 2)=some (.int .i64 x54)∧
      ∃a55,x0_=some a55∧∃x56,w50.drew.cell? (a55.add 13)=some (.int .i64 x56)∧
      Calls prog 131 #[.int .i64 (x52n:Int),.int .i64 x54,.int .i64 x56] w50.drew fun e w57=> ∃r58,e= .returned (.bool r58)∧
      cnd r58
      (Calls prog 128 #[.pointer x0_,.int .i64 0] w57 fun e w59=>e= .returned (.tuple #[])∧
        Calls prog 132 #[.pointer x0_] w59 fun e w60=>e= .returned (.tuple #[])∧
        K (.tuple #[]) w60)
      (K (.tuple #[]) w57))
    (∃a61,x0_=some a61∧∃x62p x62n x62c,w45.drew.cell? (a61.add 11)=some (.slice x62p x62n x62c)∧
      ∃a63,x0_=some a63∧∃x64,w45.drew.cell? ((a63.add 2).add 2)=some (.int .i64 x64)∧
      ∃a65,x0_=some a65∧∃x66,w45.drew.cell? (a65.add 13)=some (.int .i64 x66)∧
      Calls prog 131 #[.int .i64 (x62n:Int),.int .i64 x64,.int .i64 x66] w45.drew fun e w67=> ∃r68,e= .returned (.bool r68)∧
      cnd r68
      (Calls prog 128 #[.pointer x0_,.int .i64 0] w67 fun e w69=>e= .returned (.tuple #[])∧
        Calls prog 132 #[.pointer x0_] w69 fun e w70=>e= .returned (.tuple #[])∧
        K (.tuple #[]) w70)
      (K (.tuple #[]) w67)))
theorem cdcl_search_conflict.calls {x0_ i_ w R} (h:cdcl_search_conflict.w x0_ i_ w fun v w'=>R (.returned v) w'):Calls prog 84 #[.pointer x0_,.int .i64 i_] w R:=
 calls_of mixed Tryz.func84 (by kernel_rfl) rfl (ann:=(.two .leaf (.two .leaf (.two .leaf (.two (.two .leaf (.one (.loop [(42,3)] .leaf))) .leaf))))) (F:=cdcl_search_conflict.w x0_ i_ w) (fun K=>by kernel_rfl) h
def slices_Clone_int_int_85.w (a:Option Addr) (b:Nat) (c:Nat) (w:World) (K:Value→World→Prop):Prop:=
 cnd a.isNone
 (K (.slice none 0 0) w)
 (∀n1 w2,New (.cells #[] 28) w n1 w2→
   ∃w3 r4p r4n r4c,(Builtin.append_ #[22,22] 22 #[.slice (some (Addr.mk n1 0 none)) 0 0,.slice a b c]).run prog w2= .ok (.slice r4p r4n r4c) w3∧
   K (.slice r4p r4n r4c) w3)
theorem slices_Clone_int_int_85.calls {a b c w R} (h:slices_Clone_int_int_85.w a b c w fun v w'=>R (.returned v) w'):Calls prog 85 #[.slice a b c] w R:=
 calls_of mixed Tryz.func85 (by kernel_rfl) rfl (ann:= .leaf) (F:=slices_Clone_int_int_85.w a b c w) (fun K=>by kernel_rfl) h
def fathomref01_Clause.w (a:Option Addr) (b:Nat) (c:Nat) (d:Option Addr) (f:Nat) (g:Nat) (w:World) (K:Value→World→Prop):Prop:=
 ∃I1:Bool→Int→World→Nat→Prop,(∃k2,I1 false 0 w k2)∧
 ∀o_4 i_5 w6 k2 (_:Fr),I1 o_4 i_5 w6 k2→
 cnd (decide (i_5< (f:Int)))
  (ixK d f i_5 1 fun a7=>
    ∃x8,w6.cell? a7=some (.int .i64 x8)∧
    Calls prog 133 #[.slice a b c,.int .i64 x8] w6 fun e w9=> ∃r10,e= .returned (.int .i64 r10)∧
    cnd (r10==(1:Int))
    (K (.int .i64 1) w9)
    (cnd o_4
      (∃k3,k3<k2∧I1 true (i64.wrap (i_5+ (1:Int))) w9 k3)
      (ixK d f i_5 1 fun a11=>
      ∃x12,w9.cell? a11=some (.int .i64 x12)∧
      Calls prog 133 #[.slice a b c,.int .i64 x12] w9 fun e w13=> ∃r14,e= .returned (.int .i64 r14)∧
      ∃k3,k3<k2∧I1 (r14==(0:Int)) (i64.wrap (i_5+ (1:Int))) w13 k3)))
  (cnd o_4
    (K (.int .i64 0) w6)
    (K (.int .i64 (-1)) w6))
theorem fathomref01_Clause.calls {a b c d f g w R} (h:fathomref01_Clause.w a b c d f g w fun v w'=>R (.returned v) w'):Calls prog 86 #[.slice a b c,.slice d f g] w R:=
 calls_of mixed Tryz.func86 (by kernel_rfl) rfl (ann:=(.two .leaf (.two .leaf (.two (.two .leaf (.one (.loop [(5,4),(6,3)] .leaf))) .leaf)))) (F:=fathomref01_Clause.w a b c d f g w) (fun K=>by kernel_rfl) h
def lit_CheckCnf_1.w (l_:Int) (c0_:Addr) (w:World) (K:Value→World→Prop):Prop:=
 (Calls prog 89 #[.int .i64 l_] w.drew fun e w1=> ∃r2,e= .returned (.int .i64 r2)∧
 ∃x3,w1.cell? (c0_.add 0)=some (.int .i64 x3)∧
 K (.bool (decide (r2>x3))) w1)∧
(∃x4,w.drew.cell? (c0_.add 0)=some (.int .i64 x4)∧
  Calls prog 89 #[.int .i64 l_] w.drew fun e w5=> ∃r6,e= .returned (.int .i64 r6)∧
  K (.bool (decide (r6>x4))) w5)
theorem lit_CheckCnf_1.calls {l_ c0_ w R} (h:lit_CheckCnf_1.w l_ c0_ w fun v w'=>R (.returned v) w'):Calls prog 88 #[.int .i64 l_,.pointer (some c0_)] w R:=
 calls_of mixed Tryz.func88 (by kernel_rfl) rfl (ann:= .leaf) (F:=lit_CheckCnf_1.w l_ c0_ w) (fun K=>by kernel_rfl) h
def lit_amount.w (l_:Int) (w:World) (K:Value→World→Prop):Prop:=
 K (.int .i64 (imax l_ (i64.wrap (0 - l_)))) w
theorem lit_amount.calls {l_ w R} (h:lit_amount.w l_ w fun v w'=>R (.returned v) w'):Calls prog 89 #[.int .i64 l_] w R:=
 calls_of mixed Tryz.func89 (by kernel_rfl) rfl (ann:= .leaf) (F:=lit_amount.w l_ w) (fun K=>by kernel_rfl) h
def lit_Norm.w (a:Option Addr) (b:Nat) (c:Nat) (w:World) (K:Value→World→Prop):Prop:=
 Calls prog 62 #[.slice a b c] w fun e w1=> ∃r2,e= .returned (.int .i64 r2)∧
 cnd (r2 !=(0:Int))
 (K (.tuple #[.slice none 0 0,.bool false]) w1)
 (Calls prog 70 #[.slice a b c] w1 fun e w3=> ∃r4p r4n r4c,e= .returned (.slice r4p r4n r4c)∧
   Calls prog 135 #[.slice r4p r4n r4c,.func (.func 136) #[] #[]] w3 fun e w5=>e= .returned (.tuple #[])∧
   Calls prog 137 #[.slice r4p r4n r4c] w5 fun e w6=> ∃r7p r7n r7c,e= .returned (.slice r7p r7n r7c)∧
   ∃I8:Int→World→Nat→Prop,(∃k9,I8 1 w6 k9)∧
   ∀i_11 w12 k9 (_:Fr),I8 i_11 w12 k9→
   cnd (decide (i_11< (r7n:Int)))
    (ixK r7p r7n i_11 1 fun a13=>
      ∃x14,w12.drew.cell? a13=some (.int .i64 x14)∧
      ixK r7p r7n (i64.wrap (i_11 - (1:Int))) 1 fun a15=>
      ∃x16,w12.drew.cell? a15=some (.int .i64 x16)∧
      cnd (x14==(i64.wrap (0 - x16)))
      (K (.tuple #[.slice r7p r7n r7c,.bool true]) w12.drew)
      (∃k10,k10<k9∧I8 (i64.wrap (i_11+ (1:Int))) w12.drew k10))
    (K (.tuple #[.slice r7p r7n r7c,.bool false]) w12))
theorem lit_Norm.calls {a b c w R} (h:lit_Norm.w a b c w fun v w'=>R (.returned v) w'):Calls prog 94 #[.slice a b c] w R:=
 calls_of mixed Tryz.func94 (by kernel_rfl) rfl (ann:=(.two .leaf (.two .leaf (.two .leaf (.two .leaf (.two .leaf (.two (.two .leaf (.one (.loop [(5,3)] .leaf))) .leaf))))))) (F:=lit_Norm.w a b c w) (fun K=>by kernel_rfl) h
def prop_Prop_Drop.w (p_:Option Addr) (i_:Int) (w:World) (K:Value→World→Prop):Prop:=
 ∀n1 w2,New (.cells #[.int .i64 i_] 3) w n1 w2→
 ∃x3,w2.cell? (Addr.mk n1 0 none)=some (.int .i64 x3)∧
 Calls prog 141 #[.pointer p_,.int .i64 x3] w2 fun e w4=> ∃r5,e= .returned (.bool r5)∧
 cnd (!r5)
 (K (.int .i64 4) w4)
 (∃a6,p_=some a6∧∃x7p x7n x7c,w4.drew.cell? (a6.add 1)=some (.slice x7p x7n x7c)∧
   ∃x8,w4.drew.cell? (Addr.mk n1 0 none)=some (.int .i64 x8)∧
   ixK x7p x7n x8 3 fun a9=>
   ∃x10p x10n x10c,w4.drew.cell? (a9.add 1)=some (.slice x10p x10n x10c)∧
   ∃I11:Int→World→Nat→Prop,(∃k12,I11 0 w4.drew k12)∧
   ∀v14 w15 k12 (_:Fr),I11 v14 w15 k12→
   cnd (decide (v14< (x10n:Int)))
    (ixK x10p x10n v14 1 fun a16=>
      ∃x17,w15.cell? a16=some (.int .i64 x17)∧
      ∃W18:World→Prop,W18 w15.drew∧
      Calls prog 142 #[.pointer p_,.int .i64 x17] w15.drew fun e w19=> ∃r20,e= .returned (.int .i8 r20)∧
      W18 w19∧cnd (decide (r20> (0:Int)))
      (∃a21,p_=some a21∧∃x22p x22n x22c,AtW W18 (a21.add 5) (.slice x22p x22n x22c)∧
      Calls prog 143 #[.int .i64 x17] w19 fun e w23=> ∃r24,e= .returned (.int .i64 r24)∧
      W18 w23∧ixK x22p x22n r24 1 fun a25=>
      ∃x26,AtW W18 a25 (.int .i64 x26)∧
      ∃x27,AtW W18 (Addr.mk n1 0 none) (.int .i64 x27)∧
      cnd (x26==x27)
      (K (.int .i64 7) w23)
      (∃k13,k13<k12∧I11 (i64.wrap (v14+ (1:Int))) w23 k13))
      (∃k13,k13<k12∧I11 (i64.wrap (v14+ (1:Int))) w19 k13))
    (∃x28,w15.cell? (Addr.mk n1 0 none)=some (.int .i64 x28)∧
      Calls prog 144 #[.pointer p_,.int .i64 x28] w15 fun e w29=>e= .returned (.tuple #[])∧
      ∃a30,p_=some a30∧∃x31p x31n x31c,w29.cell? (a30.add 10)=some (.slice x31p x31n x31c)∧
      Calls prog 145 #[.slice x31p x31n x31c,.func (.func 146) #[] #[.pointer (some (Addr.mk n1 0 none))]] w29 fun e w32=> ∃r33p r33n r33c,e= .returned (.slice r33p r33n r33c)∧
      ∃a34,p_=some a34∧∃w35,StoreAt (a34.add 10) 0 [.slice r33p r33n r33c] w32 w35∧
      ∃a36,p_=some a36∧∃x37p x37n x37c,w35.drew.cell? (a36.add 1)=some (.slice x37p x37n x37c)∧
      ∃x38,w35.drew.cell? (Addr.mk n1 0 none)=some (.int .i64 x38)∧
      ixK x37p x37n x38 3 fun a39=>
      ∃w40,StoreAt a39 0 [.slice none 0 0,.slice none 0 0,.bool true] w35.drew w40∧
      K (.int .i64 0) w40))
theorem prop_Prop_Drop.calls {p_ i_ w R} (h:prop_Prop_Drop.w p_ i_ w fun v w'=>R (.returned v) w'):Calls prog 105 #[.pointer p_,.int .i64 i_] w R:=
 calls_of mixed Tryz.func105 (by kernel_rfl) rfl (ann:=(.two .leaf (.two .leaf (.two (.two .leaf (.one (.loop [(20,3)] (.two .leaf (.two .leaf (.two (.one (.two .leaf (.two .draw .leaf))) .leaf)))))) .leaf)))) (F:=prop_Prop_Drop.w p_ i_ w) (fun K=>by kernel_rfl) h
def prop_Prop_Add.w (p_:Option Addr) (a:Option Addr) (b:Nat) (c:Nat) (w:World) (K:Value→World→Prop):Prop:=
 ∀n1 w2,New (.cells #[.pointer p_] 101) w n1 w2→
 ∃x3,w2.cell? (Addr.mk n1 0 none)=some (.pointer x3)∧
 cnd x3.isNone
 (K (.tuple #[.int .i64 0,.int .i64 1]) w2)
 (∃x4,w2.cell? (Addr.mk n1 0 none)=some (.pointer x4)∧
 ∃a5,x4=some a5∧∃x6p x6n x6c,w2.cell? (a5.add 3)=some (.slice x6p x6n x6c)∧
 cnd x6p.isNone
 (K (.tuple #[.int .i64 0,.int .i64 1]) w2)
 (Calls prog 62 #[.slice a b c] w2 fun e w7=> ∃r8,e= .returned (.int .i64 r8)∧
 cnd (r8 !=(0:Int))
 (K (.tuple #[.int .i64 0,.int .i64 1]) w7)
 (Calls prog 68 #[.slice a b c,.func (.func 147) #[] #[.pointer (some (Addr.mk n1 0 none))]] w7 fun e w9=> ∃r10,e= .returned (.bool r10)∧
 cnd r10
 (K (.tuple #[.int .i64 0,.int .i64 1]) w9)
 (∃x11,w9.cell? (Addr.mk n1 0 none)=some (.pointer x11)∧
   ∃a12,x11=some a12∧∃x13p x13n x13c,w9.cell? (a12.add 1)=some (.slice x13p x13n x13c)∧
   cnd ((x13n:Int)==(262144:Int))
   (K (.tuple #[.int .i64 0,.int .i64 5]) w9)
   (Calls prog 94 #[.slice a b c] w9 fun e w14=> ∃r15p r15n r15c r16,e= .returned (.tuple #[.slice r15p r15n r15c,.bool r16])∧
     ∃x17,w14.cell? (Addr.mk n1 0 none)=some (.pointer x17)∧
     ∃a18,x17=some a18∧∃x19p x19n x19c,w14.cell? (a18.add 1)=some (.slice x19p x19n x19c)∧
     ∃W20:World→Prop,W20 w14.drew∧
     ∃x21,AtW W20 (Addr.mk n1 0 none) (.pointer x21)∧
     ∃x22,AtW W20 (Addr.mk n1 0 none) (.pointer x22)∧
     ∃a23,x22=some a23∧∃x24p x24n x24c,AtW W20 (a23.add 1) (.slice x24p x24n x24c)∧
     Calls prog 70 #[.slice a b c] w14.drew fun e w25=> ∃r26p r26n r26c,e= .returned (.slice r26p r26n r26c)∧
     W20 w25∧∀n27 w28,New (.cells #[.slice r26p r26n r26c,.slice r15p r15n r15c,.bool false] 151) w25 n27 w28→
     W20 w28∧∃w29 r30p r30n r30c,(Builtin.append_ #[145,145] 145 #[.slice x24p x24n x24c,.slice (some (Addr.mk n27 0 none)) 1 1]).run prog w28= .ok (.slice r30p r30n r30c) w29∧
     W20 w29∧∃a31,x21=some a31∧∃w32,StoreAt (a31.add 1) 0 [.slice r30p r30n r30c] w29 w32∧
     ∃x33,w32.cell? (Addr.mk n1 0 none)=some (.pointer x33)∧
     Calls prog 149 #[.pointer x33,.int .i64 (x19n:Int)] w32 fun e w34=>e= .returned (.tuple #[])∧
     K (.tuple #[.int .i64 (x19n:Int),.int .i64 0]) w34)))))
theorem prop_Prop_Add.calls {p_ a b c w R} (h:prop_Prop_Add.w p_ a b c w fun v w'=>R (.returned v) w'):Calls prog 106 #[.pointer p_,.slice a b c] w R:=
 calls_of mixed Tryz.func106 (by kernel_rfl) rfl (ann:=(.two .leaf (.two .leaf (.two .leaf (.two .leaf (.two .draw .leaf)))))) (F:=prop_Prop_Add.w p_ a b c w) (fun K=>by kernel_rfl) h
def lit_Check_1.w (l_:Int) (w:World) (K:Value→World→Prop):Prop:=
 Calls prog 109 #[.int .i64 l_] w fun e w1=> ∃r2,e= .returned (.bool r2)∧
 K (.bool (!r2)) w1
theorem lit_Check_1.calls {l_ w R} (h:lit_Check_1.w l_ w fun v w'=>R (.returned v) w'):Calls prog 108 #[.int .i64 l_] w R:=
 calls_of mixed Tryz.func108 (by kernel_rfl) rfl (ann:= .leaf) (F:=lit_Check_1.w l_ w) (fun K=>by kernel_rfl) h
def lit_is.w (l_:Int) (w:World) (K:Value→World→Prop):Prop:=
 cnd (l_ !=(0:Int))
 (cnd (decide (l_≥(-1048576)))
 (K (.bool (decide (l_≤(1048576:Int)))) w)
 (K (.bool false) w))
 (K (.bool false) w)
theorem lit_is.calls {l_ w R} (h:lit_is.w l_ w fun v w'=>R (.returned v) w'):Calls prog 109 #[.int .i64 l_] w R:=
 calls_of mixed Tryz.func109 (by kernel_rfl) rfl (ann:= .leaf) (F:=lit_is.w l_ w) (fun K=>by kernel_rfl) h
def slices_IndexFunc_int_int.w (a:Option Addr) (b:Nat) (c:Nat) (f_f:FuncId) (f_v:Array Value) (w:World) (K:Value→World→Prop):Prop:=
 ∃I1:Int→World→Nat→Prop,(∃k2,I1 0 w k2)∧
 ∀v4 w5 k2 (_:Fr),I1 v4 w5 k2→
 cnd (decide (v4< (b:Int)))
  (ixK a b v4 1 fun a6=>
    ∃x7,w5.cell? a6=some (.int .i64 x7)∧
    cnd (entB prog f_f) (Calls prog f_f (#[]++ #[.int .i64 x7]++f_v) w5 fun e w8=> ∃r9,e= .returned (.bool r9)∧
    cnd r9
    (K (.int .i64 v4) w8)
    (∃k3,k3<k2∧I1 (i64.wrap (v4+ (1:Int))) w8 k3)) False)
  (K (.int .i64 (-1)) w5)
theorem slices_IndexFunc_int_int.calls {a b c f_f f_v w R} (h:slices_IndexFunc_int_int.w a b c f_f f_v w fun v w'=>R (.returned v) w'):Calls prog 112 #[.slice a b c,.func (.func f_f) #[] f_v] w R:=
 calls_of mixed Tryz.func112 (by kernel_rfl) rfl (ann:=(.two .leaf (.two (.two .leaf (.one (.loop [(8,3)] .leaf))) .leaf))) (F:=slices_IndexFunc_int_int.w a b c f_f f_v w) (fun K=>by kernel_rfl) h
def prop_Prop_loosely.w (p_:Option Addr) (w:World) (K:Value→World→Prop):Prop:=
 ∀n1 w2,New (.cells #[.pointer p_] 101) w n1 w2→
 ∃x3,w2.cell? (Addr.mk n1 0 none)=some (.pointer x3)∧
 ∃a4,x3=some a4∧∃x5p x5n x5c,w2.cell? (a4.add 10)=some (.slice x5p x5n x5c)∧
 ∃I6:Option Addr→Nat→Nat→Int→Int→World→Nat→Prop,(∃k7,I6 none 0 0 (-1) 0 w2 k7)∧
 ∀k9p k9n k9c b_10 v11 w12 k7 (_:Fr),I6 k9p k9n k9c b_10 v11 w12 k7→
 cnd (decide (v11< (x5n:Int)))
  (ixK x5p x5n v11 1 fun a13=>
    ∃x14,w12.cell? a13=some (.int .i64 x14)∧
    cnd (decide (b_10≥(0:Int)))
    (∃x15,w12.cell? (Addr.mk n1 0 none)=some (.pointer x15)∧
      ∃a16,x15=some a16∧∃x17p x17n x17c,w12.cell? (a16.add 10)=some (.slice x17p x17n x17c)∧
      ixK x17p x17n v11 1 fun a18=>
      ∃x19,w12.cell? a18=some (.int .i64 x19)∧
      ∀n20 w21,New (.cells #[.int .i64 x19] 3) w12 n20 w21→
      ∃w22 r23p r23n r23c,(Builtin.append_ #[28,28] 28 #[.slice k9p k9n k9c,.slice (some (Addr.mk n20 0 none)) 1 1]).run prog w21= .ok (.slice r23p r23n r23c) w22∧
      ∃k8,k8<k7∧I6 r23p r23n r23c b_10 (i64.wrap (v11+ (1:Int))) w22 k8)
    (∃x24,w12.cell? (Addr.mk n1 0 none)=some (.pointer x24)∧
      ∃a25,x24=some a25∧∃x26p x26n x26c,w12.cell? (a25.add 1)=some (.slice x26p x26n x26c)∧
      ixK x26p x26n x14 3 fun a27=>
      ∃x28p x28n x28c,w12.cell? (a27.add 1)=some (.slice x28p x28n x28c)∧
      Calls prog 70 #[.slice x28p x28n x28c] w12 fun e w29=> ∃r30p r30n r30c,e= .returned (.slice r30p r30n r30c)∧
      Calls prog 145 #[.slice r30p r30n r30c,.func (.func 153) #[] #[.pointer (some (Addr.mk n1 0 none))]] w29 fun e w31=> ∃r32p r32n r32c,e= .returned (.slice r32p r32n r32c)∧
      cnd (decide ((r32n:Int)> (1:Int)))
      (∃x33,w31.cell? (Addr.mk n1 0 none)=some (.pointer x33)∧
        Calls prog 144 #[.pointer x33,.int .i64 x14] w31 fun e w34=>e= .returned (.tuple #[])∧
        ∃x35,w34.cell? (Addr.mk n1 0 none)=some (.pointer x35)∧
        Calls prog 154 #[.pointer x35,.int .i64 x14] w34 fun e w36=>e= .returned (.tuple #[])∧
        ∃k8,k8<k7∧I6 k9p k9n k9c b_10 (i64.wrap (v11+ (1:Int))) w36 k8)
      (∀n37 w38,New (.cells #[.int .i64 x14] 3) w31 n37 w38→
        ∃w39 r40p r40n r40c,(Builtin.append_ #[28,28] 28 #[.slice k9p k9n k9c,.slice (some (Addr.mk n37 0 none)) 1 1]).run prog w38= .ok (.slice r40p r40n r40c) w39∧
        cnd ((r32n:Int)==(0:Int))
        (∃k8,k8<k7∧I6 r40p r40n r40c x14 (i64.wrap (v11+ (1:Int))) w39 k8)
        (∃x41,w39.drew.cell? (Addr.mk n1 0 none)=some (.pointer x41)∧
          ixK r32p r32n 0 1 fun a42=>
          ∃x43,w39.drew.cell? a42=some (.int .i64 x43)∧
          Calls prog 142 #[.pointer x41,.int .i64 x43] w39.drew fun e w44=> ∃r45,e= .returned (.int .i8 r45)∧
          cnd (r45==(0:Int))
          (∃x46,w44.drew.cell? (Addr.mk n1 0 none)=some (.pointer x46)∧
            ixK r32p r32n 0 1 fun a47=>
            ∃x48,w44.drew.cell? a47=some (.int .i64 x48)∧
            Calls prog 155 #[.pointer x46,.int .i64 x48,.int .i64 x14] w44.drew fun e w49=>e= .returned (.tuple #[])∧
            ∃k8,k8<k7∧I6 r40p r40n r40c b_10 (i64.wrap (v11+ (1:Int))) w49 k8)
          (∃k8,k8<k7∧I6 r40p r40n r40c b_10 (i64.wrap (v11+ (1:Int))) w44 k8)))))
  (∃x50,w12.cell? (Addr.mk n1 0 none)=some (.pointer x50)∧
    ∃a51,x50=some a51∧∃w52,StoreAt (a51.add 10) 0 [.slice k9p k9n k9c] w12 w52∧
    K (.int .i64 b_10) w52)
theorem prop_Prop_loosely.calls {p_ w R} (h:prop_Prop_loosely.w p_ w fun v w'=>R (.returned v) w'):Calls prog 118 #[.pointer p_] w R:=
 calls_of mixed Tryz.func118 (by kernel_rfl) rfl (ann:=(.two .leaf (.two .leaf (.two .leaf (.two (.two .leaf (.one (.loop [(3,28),(4,3),(14,3)] .leaf))) .leaf))))) (F:=prop_Prop_loosely.w p_ w) (fun K=>by kernel_rfl) h
def prop_side.w (l_:Int) (w:World) (K:Value→World→Prop):Prop:=
 cnd (decide (l_< (0:Int)))
 (K (.int .i64 (i64.wrap ((i64.wrap ((-2)*l_))+ (1:Int)))) w)
 (K (.int .i64 (i64.wrap ((2:Int)*l_))) w)
theorem prop_side.calls {l_ w R} (h:prop_side.w l_ w fun v w'=>R (.returned v) w'):Calls prog 119 #[.int .i64 l_] w R:=
 calls_of mixed Tryz.func119 (by kernel_rfl) rfl (ann:= .leaf) (F:=prop_side.w l_ w) (fun K=>by kernel_rfl) h
def prop_Prop_visit.w (p_:Option Addr) (i_:Int) (a:Int) (w:World) (K:Value→World→Prop):Prop:=
 ∃a1,p_=some a1∧∃x2p x2n x2c,w.cell? (a1.add 1)=some (.slice x2p x2n x2c)∧
 ixK x2p x2n i_ 3 fun a3=>
 ∃x4p x4n x4c,w.cell? (a3.add 1)=some (.slice x4p x4n x4c)∧
 ∃J5:World→Prop,(ixK x4p x4n 0 1 fun a6=>
 ∃x7,w.cell? a6=some (.int .i64 x7)∧
 cnd (x7==a)
 (cnd (decide ((x4n:Int)> (1:Int)))
 (ixK x4p x4n 1 1 fun a8=>
   ∃x9,w.drew.cell? a8=some (.int .i64 x9)∧
   ixK x4p x4n 0 1 fun a10=>
   ∃x11,w.drew.cell? a10=some (.int .i64 x11)∧
   ixK x4p x4n 0 1 fun a12=>
   ∃w13,StoreAt a12 0 [.int .i64 x9] w.drew w13∧
   ixK x4p x4n 1 1 fun a14=>
   ∃w15,StoreAt a14 0 [.int .i64 x11] w13 w15∧
   J5 w15)
 (J5 w))
 (J5 w))∧
 ∀w16 (_:Fr),J5 w16→
 ixK x4p x4n 0 1 fun a17=>
 ∃x18,w16.cell? a17=some (.int .i64 x18)∧
 Calls prog 142 #[.pointer p_,.int .i64 x18] w16 fun e w19=> ∃r20,e= .returned (.int .i8 r20)∧
 cnd (decide (r20> (0:Int)))
 (K (.tuple #[.bool true,.bool false]) w19)
 (∃I21:Int→World→Nat→Prop,(∃k22,I21 2 w19 k22)∧
   ∀k_24 w25 k22 (_:Fr),I21 k_24 w25 k22→
   cnd (decide (k_24< (x4n:Int)))
    (ixK x4p x4n k_24 1 fun a26=>
      ∃x27,w25.cell? a26=some (.int .i64 x27)∧
      Calls prog 142 #[.pointer p_,.int .i64 x27] w25 fun e w28=> ∃r29,e= .returned (.int .i8 r29)∧
      cnd (decide (r29≥(0:Int)))
      (ixK x4p x4n k_24 1 fun a30=>
        ∃x31,w28.drew.cell? a30=some (.int .i64 x31)∧
        ixK x4p x4n 1 1 fun a32=>
        ∃x33,w28.drew.cell? a32=some (.int .i64 x33)∧
        ixK x4p x4n 1 1 fun a34=>
        ∃w35,StoreAt a34 0 [.int .i64 x31] w28.drew w35∧
        ixK x4p x4n k_24 1 fun a36=>
        ∃w37,StoreAt a36 0 [.int .i64 x33] w35 w37∧
        ∃W38:World→Prop,W38 w37.drew∧
        ∃a39,p_=some a39∧∃x40p x40n x40c,AtW W38 (a39.add 2) (.slice x40p x40n x40c)∧
        ixK x4p x4n 1 1 fun a41=>
        ∃x42,AtW W38 a41 (.int .i64 x42)∧
        ∃a43,p_=some a43∧∃x44p x44n x44c,AtW W38 (a43.add 2) (.slice x44p x44n x44c)∧
        ixK x4p x4n 1 1 fun a45=>
        ∃x46,AtW W38 a45 (.int .i64 x46)∧
        (Calls prog 119 #[.int .i64 x42] w37.drew fun e w47=> ∃r48,e= .returned (.int .i64 r48)∧
        W38 w47∧(Calls prog 119 #[.int .i64 x46] w47 fun e w49=> ∃r50,e= .returned (.int .i64 r50)∧
        W38 w49∧ixK x44p x44n r50 1 fun a51=>
        ∃x52p x52n x52c,AtW W38 a51 (.slice x52p x52n x52c)∧
        ∀n53 w54,New (.cells #[.int .i64 i_] 3) w49 n53 w54→
        W38 w54∧∃w55 r56p r56n r56c,(Builtin.append_ #[28,28] 28 #[.slice x52p x52n x52c,.slice (some (Addr.mk n53 0 none)) 1 1]).run prog w54= .ok (.slice r56p r56n r56c) w55∧
        W38 w55∧ixK x40p x40n r48 1 fun a57=>
        ∃w58,StoreAt a57 0 [.slice r56p r56n r56c] w55 w58∧
        K (.tuple #[.bool false,.bool false]) w58)∧
      (∀n59 w60,New (.cells #[.int .i64 i_] 3) w47 n59 w60→
        W38 w60∧Calls prog 119 #[.int .i64 x46] w60 fun e w61=> ∃r62,e= .returned (.int .i64 r62)∧
        W38 w61∧ixK x44p x44n r62 1 fun a63=>
        ∃x64p x64n x64c,AtW W38 a63 (.slice x64p x64n x64c)∧
        ∃w65 r66p r66n r66c,(Builtin.append_ #[28,28] 28 #[.slice x64p x64n x64c,.slice (some (Addr.mk n59 0 none)) 1 1]).run prog w61= .ok (.slice r66p r66n r66c) w65∧
        W38 w65∧ixK x40p x40n r48 1 fun a67=>
        ∃w68,StoreAt a67 0 [.slice r66p r66n r66c] w65 w68∧
        K (.tuple #[.bool false,.bool false]) w68))∧
      (∀n69 w70,New (.cells #[.int .i64 i_] 3) w37.drew n69 w70→
        W38 w70∧Calls prog 119 #[.int .i64 x42] w70 fun e w71=> ∃r72,e= .returned (.int .i64 r72)∧
        W38 w71∧Calls prog 119 #[.int .i64 x46] w71 fun e w73=> ∃r74,e= .returned (.int .i64 r74)∧
        W38 w73∧ixK x44p x44n r74 1 fun a75=>
        ∃x76p x76n x76c,AtW W38 a75 (.slice x76p x76n x76c)∧
        ∃w77 r78p r78n r78c,(Builtin.append_ #[28,28] 28 #[.slice x76p x76n x76c,.slice (some (Addr.mk n69 0 none)) 1 1]).run prog w73= .ok (.slice r78p r78n r78c) w77∧
        W38 w77∧ixK x40p x40n r72 1 fun a79=>
        ∃w80,StoreAt a79 0 [.slice r78p r78n r78c] w77 w80∧
        K (.tuple #[.bool false,.bool false]) w80))
      (∃k23,k23<k22∧I21 (i64.wrap (k_24+ (1:Int))) w28 k23))
    (ixK x4p x4n 0 1 fun a81=>
      ∃x82,w25.cell? a81=some (.int .i64 x82)∧
      Calls prog 142 #[.pointer p_,.int .i64 x82] w25 fun e w83=> ∃r84,e= .returned (.int .i8 r84)∧
      cnd (decide (r84< (0:Int)))
      (K (.tuple #[.bool true,.bool true]) w83)
      (ixK x4p x4n 0 1 fun a85=>
        ∃x86,w83.cell? a85=some (.int .i64 x86)∧
        Calls prog 155 #[.pointer p_,.int .i64 x86,.int .i64 i_] w83 fun e w87=>e= .returned (.tuple #[])∧
        K (.tuple #[.bool true,.bool false]) w87)))
theorem prop_Prop_visit.calls {p_ i_ a w R} (h:prop_Prop_visit.w p_ i_ a w fun v w'=>R (.returned v) w'):Calls prog 120 #[.pointer p_,.int .i64 i_,.int .i64 a] w R:=
 calls_of mixed Tryz.func120 (by kernel_rfl) rfl (ann:=(.two .leaf (.two .leaf (.cut [] .leaf (.two .leaf (.two (.two .leaf (.one (.loop [(9,3)] (.two .leaf (.two (.one (.two .leaf (.two (.two .leaf (.two .draw .leaf)) .leaf))) .leaf))))) .leaf)))))) (F:=prop_Prop_visit.w p_ i_ a w) (fun K=>by kernel_rfl) h
def heap_Heap_Pop.w (h_:Option Addr) (w:World) (K:Value→World→Prop):Prop:=
 Calls prog 156 #[.pointer h_] w fun e w1=> ∃r2 r3,e= .returned (.tuple #[.int .i64 r2,.bool r3])∧
 cnd (!r3)
 (K (.tuple #[.int .i64 0,.bool false]) w1)
 (∃a4,h_=some a4∧∃x5p x5n x5c,w1.cell? (a4.add 0)=some (.slice x5p x5n x5c)∧
   ∃a6,h_=some a6∧∃x7p x7n x7c,w1.cell? (a6.add 0)=some (.slice x7p x7n x7c)∧
   ixK x7p x7n (i64.wrap ((x5n:Int) - (1:Int))) 1 fun a8=>
   ∃x9,w1.cell? a8=some (.int .i64 x9)∧
   ∃a10,h_=some a10∧∃x11p x11n x11c,w1.cell? (a10.add 0)=some (.slice x11p x11n x11c)∧
   slK x11p x11n x11c 1 none (some (i64.wrap ((x5n:Int) - (1:Int)))) none fun s12p s12n s12c=>
   ∃a13,h_=some a13∧∃w14,StoreAt (a13.add 0) 0 [.slice s12p s12n s12c] w1 w14∧
   ∃a15,h_=some a15∧∃x16p x16n x16c,w14.cell? (a15.add 1)=some (.slice x16p x16n x16c)∧
   ixK x16p x16n r2 1 fun a17=>
   ∃w18,StoreAt a17 0 [.int .i64 0] w14 w18∧
   cnd (decide ((i64.wrap ((x5n:Int) - (1:Int)))> (0:Int)))
   (Calls prog 157 #[.pointer h_,.int .i64 0,.int .i64 x9] w18 fun e w19=>e= .returned (.tuple #[])∧
     Calls prog 158 #[.pointer h_,.int .i64 0] w19 fun e w20=>e= .returned (.tuple #[])∧
     K (.tuple #[.int .i64 r2,.bool true]) w20)
   (K (.tuple #[.int .i64 r2,.bool true]) w18))
theorem heap_Heap_Pop.calls {h_ w R} (h:heap_Heap_Pop.w h_ w fun v w'=>R (.returned v) w'):Calls prog 121 #[.pointer h_] w R:=
 calls_of mixed Tryz.func121 (by kernel_rfl) rfl (ann:= .leaf) (F:=heap_Heap_Pop.w h_ w) (fun K=>by kernel_rfl) h
def prop_Prop_Value.w (p_:Option Addr) (l_:Int) (w:World) (K:Value→World→Prop):Prop:=
 Calls prog 148 #[.pointer p_,.int .i64 l_] w fun e w1=> ∃r2,e= .returned (.bool r2)∧
 cnd (!r2)
 (K (.int .i64 0) w1)
 (Calls prog 142 #[.pointer p_,.int .i64 l_] w1 fun e w3=> ∃r4,e= .returned (.int .i8 r4)∧
   K (.int .i64 (i64.wrap r4)) w3)
theorem prop_Prop_Value.calls {p_ l_ w R} (h:prop_Prop_Value.w p_ l_ w fun v w'=>R (.returned v) w'):Calls prog 122 #[.pointer p_,.int .i64 l_] w R:=
 calls_of mixed Tryz.func122 (by kernel_rfl) rfl (ann:= .leaf) (F:=prop_Prop_Value.w p_ l_ w) (fun K=>by kernel_rfl) h
def prop_Prop_Decide.w (p_:Option Addr) (l_:Int) (w:World) (K:Value→World→Prop):Prop:=
 Calls prog 148 #[.pointer p_,.int .i64 l_] w fun e w1=> ∃r2,e= .returned (.bool r2)∧
 cnd (!r2)
 (K (.int .i64 1) w1)
 (Calls prog 142 #[.pointer p_,.int .i64 l_] w1 fun e w3=> ∃r4,e= .returned (.int .i8 r4)∧
 cnd (r4 !=(0:Int))
 (K (.int .i64 1) w3)
 (∃W5:World→Prop,W5 w3.drew∧
   ∃a6,p_=some a6∧∃x7p x7n x7c,AtW W5 (a6.add 7) (.slice x7p x7n x7c)∧
   ∃a8,p_=some a8∧∃x9p x9n x9c,AtW W5 (a8.add 6) (.slice x9p x9n x9c)∧
   ∃a10,p_=some a10∧∃x11p x11n x11c,AtW W5 (a10.add 8) (.slice x11p x11n x11c)∧
   ∃a12,p_=some a12∧∃x13,AtW W5 (a12.add 9) (.int .i64 x13)∧
   (∀n14 w15,New (.cells #[.int .i64 (x9n:Int)] 3) w3.drew n14 w15→
   W5 w15∧(∃w16 r17p r17n r17c,(Builtin.append_ #[28,28] 28 #[.slice x7p x7n x7c,.slice (some (Addr.mk n14 0 none)) 1 1]).run prog w15= .ok (.slice r17p r17n r17c) w16∧
   W5 w16∧∀n18 w19,New (.cells #[.int .i64 x13] 3) w16 n18 w19→
   W5 w19∧∃w20 r21p r21n r21c,(Builtin.append_ #[28,28] 28 #[.slice x11p x11n x11c,.slice (some (Addr.mk n18 0 none)) 1 1]).run prog w19= .ok (.slice r21p r21n r21c) w20∧
   ∃a22,p_=some a22∧∃w23,StoreAt (a22.add 7) 0 [.slice r17p r17n r17c] w20 w23∧
   ∃a24,p_=some a24∧∃w25,StoreAt (a24.add 8) 0 [.slice r21p r21n r21c] w23 w25∧
   Calls prog 155 #[.pointer p_,.int .i64 l_,.int .i64 (-1)] w25 fun e w26=>e= .returned (.tuple #[])∧
   K (.int .i64 0) w26)∧
 (∀n27 w28,New (.cells #[.int .i64 x13] 3) w15 n27 w28→
   W5 w28∧∃w29 r30p r30n r30c,(Builtin.append_ #[28,28] 28 #[.slice x7p x7n x7c,.slice (some (Addr.mk n14 0 none)) 1 1]).run prog w28= .ok (.slice r30p r30n r30c) w29∧
   W5 w29∧∃w31 r32p r32n r32c,(Builtin.append_ #[28,28] 28 #[.slice x11p x11n x11c,.slice (some (Addr.mk n27 0 none)) 1 1]).run prog w29= .ok (.slice r32p r32n r32c) w31∧
   ∃a33,p_=some a33∧∃w34,StoreAt (a33.add 7) 0 [.slice r30p r30n r30c] w31 w34∧
   ∃a35,p_=some a35∧∃w36,StoreAt (a35.add 8) 0 [.slice r32p r32n r32c] w34 w36∧
   Calls prog 155 #[.pointer p_,.int .i64 l_,.int .i64 (-1)] w36 fun e w37=>e= .returned (.tuple #[])∧
   K (.int .i64 0) w37))∧
 (∀n38 w39,New (.cells #[.int .i64 x13] 3) w3.drew n38 w39→
   W5 w39∧∀n40 w41,New (.cells #[.int .i64 (x9n:Int)] 3) w39 n40 w41→
   W5 w41∧∃w42 r43p r43n r43c,(Builtin.append_ #[28,28] 28 #[.slice x7p x7n x7c,.slice (some (Addr.mk n40 0 none)) 1 1]).run prog w41= .ok (.slice r43p r43n r43c) w42∧
   W5 w42∧∃w44 r45p r45n r45c,(Builtin.append_ #[28,28] 28 #[.slice x11p x11n x11c,.slice (some (Addr.mk n38 0 none)) 1 1]).run prog w42= .ok (.slice r45p r45n r45c) w44∧
   ∃a46,p_=some a46∧∃w47,StoreAt (a46.add 7) 0 [.slice r43p r43n r43c] w44 w47∧
   ∃a48,p_=some a48∧∃w49,StoreAt (a48.add 8) 0 [.slice r45p r45n r45c] w47 w49∧
   Calls prog 155 #[.pointer p_,.int .i64 l_,.int .i64 (-1)] w49 fun e w50=>e= .returned (.tuple #[])∧
   K (.int .i64 0) w50)))
theorem prop_Prop_Decide.calls {p_ l_ w R} (h:prop_Prop_Decide.w p_ l_ w fun v w'=>R (.returned v) w'):Calls prog 123 #[.pointer p_,.int .i64 l_] w R:=
 calls_of mixed Tryz.func123 (by kernel_rfl) rfl (ann:=(.two .leaf (.two .leaf (.two .draw .leaf)))) (F:=prop_Prop_Decide.w p_ l_ w) (fun K=>by kernel_rfl) h
def prop_Prop_Clause.w (p_:Option Addr) (i_:Int) (w:World) (K:Value→World→Prop):Prop:=
 Calls prog 141 #[.pointer p_,.int .i64 i_] w fun e w1=> ∃r2,e= .returned (.bool r2)∧
 cnd (!r2)
 (K (.tuple #[.slice none 0 0,.bool false]) w1)
 (∃a3,p_=some a3∧∃x4p x4n x4c,w1.cell? (a3.add 1)=some (.slice x4p x4n x4c)∧
   ixK x4p x4n i_ 3 fun a5=>
   ∃x6p x6n x6c,w1.cell? (a5.add 0)=some (.slice x6p x6n x6c)∧
   Calls prog 70 #[.slice x6p x6n x6c] w1 fun e w7=> ∃r8p r8n r8c,e= .returned (.slice r8p r8n r8c)∧
   K (.tuple #[.slice r8p r8n r8c,.bool true]) w7)
theorem prop_Prop_Clause.calls {p_ i_ w R} (h:prop_Prop_Clause.w p_ i_ w fun v w'=>R (.returned v) w'):Calls prog 124 #[.pointer p_,.int .i64 i_] w R:=
 calls_of mixed Tryz.func124 (by kernel_rfl) rfl (ann:= .leaf) (F:=prop_Prop_Clause.w p_ i_ w) (fun K=>by kernel_rfl) h
def cdcl_search_study.w (x0_:Option Addr) (a:Option Addr) (b:Nat) (c:Nat) (w:World) (K:Value→World→Prop):Prop:=
 Calls prog 159 #[.pointer x0_,.slice a b c] w fun e w1=> ∃r2p r2n r2c r3p r3n r3c,e= .returned (.tuple #[.slice r2p r2n r2c,.slice r3p r3n r3c])∧
 Calls prog 160 #[.slice r2p r2n r2c,.slice a b c] w1 fun e w4=> ∃r5p r5n r5c r6,e= .returned (.tuple #[.slice r5p r5n r5c,.int .i64 r6])∧
 cnd (r6 !=(0:Int))
 (Calls prog 161 #[.pointer x0_] w4 fun e w7=> ∃r8p r8n r8c r9 r10,e= .returned (.tuple #[.slice r8p r8n r8c,.int .i64 r9,.int .i64 r10])∧
   K (.tuple #[.slice r8p r8n r8c,.int .i64 r9,.int .i64 r10]) w7)
 (Calls prog 162 #[.slice r2p r2n r2c,.slice r5p r5n r5c] w4 fun e w11=> ∃r12p r12n r12c,e= .returned (.slice r12p r12n r12c)∧
   Calls prog 163 #[.slice r2p r2n r2c,.slice r12p r12n r12c] w11 fun e w13=> ∃r14,e= .returned (.int .i64 r14)∧
   cnd (decide (r14< (0:Int)))
   (K (.tuple #[.slice r12p r12n r12c,.int .i64 0,.int .i64 0]) w13)
   (∃W15:World→Prop,W15 w13.drew∧
     ixK r3p r3n r14 1 fun a16=>
     ∃x17,AtW W15 a16 (.int .i64 x17)∧
     Calls prog 164 #[.slice r2p r2n r2c,.slice r12p r12n r12c] w13.drew fun e w18=> ∃r19,e= .returned (.int .i64 r19)∧
     W15 w18∧K (.tuple #[.slice r12p r12n r12c,.int .i64 x17,.int .i64 r19]) w18))
theorem cdcl_search_study.calls {x0_ a b c w R} (h:cdcl_search_study.w x0_ a b c w fun v w'=>R (.returned v) w'):Calls prog 125 #[.pointer x0_,.slice a b c] w R:=
 calls_of mixed Tryz.func125 (by kernel_rfl) rfl (ann:=(.two .leaf (.two .leaf (.two .leaf (.two .leaf (.two .leaf (.two .leaf (.two .leaf (.two .draw .leaf))))))))) (F:=cdcl_search_study.w x0_ a b c w) (fun K=>by kernel_rfl) h
def heap_Heap_Bump.w (h_:Option Addr) (v_:Int) (w:World) (K:Value→World→Prop):Prop:=
 Calls prog 165 #[.pointer h_,.int .i64 v_] w fun e w1=> ∃r2,e= .returned (.bool r2)∧
 cnd (!r2)
 (K (.int .i64 1) w1)
 (∃a3,h_=some a3∧∃x4p x4n x4c,w1.drew.cell? (a3.add 2)=some (.slice x4p x4n x4c)∧
   ixK x4p x4n v_ 1 fun a5=>
   ∃x6,w1.drew.cell? a5=some (.int .i64 x6)∧
   ∃a7,h_=some a7∧∃x8,w1.drew.cell? (a7.add 3)=some (.int .i64 x8)∧
   ixK x4p x4n v_ 1 fun a9=>
   ∃w10,StoreAt a9 0 [.int .i64 (i64.wrap (x6+x8))] w1.drew w10∧
   ∃a11,h_=some a11∧∃x12p x12n x12c,w10.cell? (a11.add 1)=some (.slice x12p x12n x12c)∧
   ixK x12p x12n v_ 1 fun a13=>
   ∃x14,w10.cell? a13=some (.int .i64 x14)∧
   cnd (decide (x14> (0:Int)))
   (∃a15,h_=some a15∧∃x16p x16n x16c,w10.cell? (a15.add 1)=some (.slice x16p x16n x16c)∧
     ixK x16p x16n v_ 1 fun a17=>
     ∃x18,w10.cell? a17=some (.int .i64 x18)∧
     Calls prog 166 #[.pointer h_,.int .i64 (i64.wrap (x18 - (1:Int)))] w10 fun e w19=>e= .returned (.tuple #[])∧
     Calls prog 167 #[.pointer h_,.int .i64 v_] w19 fun e w20=>e= .returned (.tuple #[])∧
     K (.int .i64 0) w20)
   (Calls prog 167 #[.pointer h_,.int .i64 v_] w10 fun e w21=>e= .returned (.tuple #[])∧
     K (.int .i64 0) w21))
theorem heap_Heap_Bump.calls {h_ v_ w R} (h:heap_Heap_Bump.w h_ v_ w fun v w'=>R (.returned v) w'):Calls prog 126 #[.pointer h_,.int .i64 v_] w R:=
 calls_of mixed Tryz.func126 (by kernel_rfl) rfl (ann:= .leaf) (F:=heap_Heap_Bump.w h_ v_ w) (fun K=>by kernel_rfl) h
def heap_Heap_Decay.w (h_:Option Addr) (w:World) (K:Value→World→Prop):Prop:=
 cnd h_.isNone
 (K (.tuple #[]) w)
 (∃a1,h_=some a1∧∃x2p x2n x2c,w.cell? (a1.add 1)=some (.slice x2p x2n x2c)∧
 cnd x2p.isNone
 (K (.tuple #[]) w)
 (∃a3,h_=some a3∧∃x4,w.drew.cell? (a3.add 3)=some (.int .i64 x4)∧
   ∃a5,h_=some a5∧∃x6,w.drew.cell? (a5.add 3)=some (.int .i64 x6)∧
   (16:Int)≠0∧∃a7,h_=some a7∧∃w8,StoreAt (a7.add 3) 0 [.int .i64 (i64.wrap (x4+ (i64.wrap ((i64.wrap (x6.tdiv (16:Int)))+ (1:Int)))))] w.drew w8∧
   Calls prog 167 #[.pointer h_,.int .i64 0] w8 fun e w9=>e= .returned (.tuple #[])∧
   K (.tuple #[]) w9))
theorem heap_Heap_Decay.calls {h_ w R} (h:heap_Heap_Decay.w h_ w fun v w'=>R (.returned v) w'):Calls prog 127 #[.pointer h_] w R:=
 calls_of mixed Tryz.func127 (by kernel_rfl) rfl (ann:= .leaf) (F:=heap_Heap_Decay.w h_ w) (fun K=>by kernel_rfl) h
def cdcl_search_back.w (x0_:Option Addr) (a:Int) (w:World) (K:Value→World→Prop):Prop:=
 ∃a1,x0_=some a1∧∃x2,w.cell? (a1.add 5)=some (.pointer x2)∧
 Calls prog 168 #[.pointer x2] w fun e w3=> ∃r4p r4n r4c,e= .returned (.slice r4p r4n r4c)∧
 ∃a5,x0_=some a5∧∃x6,w3.cell? (a5.add 5)=some (.pointer x6)∧
 Calls prog 138 #[.pointer x6,.int .i64 a] w3 fun e w7=>e= .returned (.tuple #[])∧
 ∃a8,x0_=some a8∧∃x9,w7.cell? (a8.add 5)=some (.pointer x9)∧
 Calls prog 168 #[.pointer x9] w7 fun e w10=> ∃r11p r11n r11c,e= .returned (.slice r11p r11n r11c)∧
 slK r4p r4n r4c 1 (some (r11n:Int)) none none fun s12p s12n s12c=>
 ∃I13:Int→World→Nat→Prop,(∃k14,I13 0 w10 k14)∧
 ∀v16 w17 k14 (_:Fr),I13 v16 w17 k14→
 cnd (decide (v16< (s12n:Int)))
  (ixK s12p s12n v16 1 fun a18=>
    ∃x19,w17.cell? a18=some (.int .i64 x19)∧
    ∃a20,x0_=some a20∧∃x21p x21n x21c,w17.cell? (a20.add 7)=some (.slice x21p x21n x21c)∧
    ixK x21p x21n (imax x19 (i64.wrap (0 - x19))) 1 fun a22=>
    ∃w23,StoreAt a22 0 [.int .i64 x19] w17 w23∧
    ∃a24,x0_=some a24∧∃x25,w23.cell? (a24.add 6)=some (.pointer x25)∧
    Calls prog 169 #[.pointer x25,.int .i64 (imax x19 (i64.wrap (0 - x19)))] w23 fun e w26=> ∃r27,e= .returned (.int .i64 r27)∧
    ∃k15,k15<k14∧I13 (i64.wrap (v16+ (1:Int))) w26 k15)
  (K (.tuple #[]) w17)
theorem cdcl_search_back.calls {x0_ a w R} (h:cdcl_search_back.w x0_ a w fun v w'=>R (.returned v) w'):Calls prog 128 #[.pointer x0_,.int .i64 a] w R:=
 calls_of mixed Tryz.func128 (by kernel_rfl) rfl (ann:=(.two .leaf (.two .leaf (.two .leaf (.one (.loop [(28,3)] .leaf)))))) (F:=cdcl_search_back.w x0_ a w) (fun K=>by kernel_rfl) h
def cdcl_search_add.w (x0_:Option Addr) (a:Option Addr) (b:Nat) (c:Nat) (d:Int) (w:World) (K:Value→World→Prop):Prop:=
 ∃a1,x0_=some a1∧∃x2,w.cell? (a1.add 5)=some (.pointer x2)∧
 Calls prog 106 #[.pointer x2,.slice a b c] w fun e w3=> ∃r4 r5,e= .returned (.tuple #[.int .i64 r4,.int .i64 r5])∧
 cnd (r5 !=(0:Int))
 (Calls prog 170 #[.pointer x0_] w3 fun e w6=>e= .returned (.tuple #[])∧
   ∃a7,x0_=some a7∧∃x8,w6.cell? (a7.add 5)=some (.pointer x8)∧
   Calls prog 106 #[.pointer x8,.slice a b c] w6 fun e w9=> ∃r10 r11,e= .returned (.tuple #[.int .i64 r10,.int .i64 r11])∧
   cnd (decide ((b:Int)> (1:Int)))
   (∃a12,x0_=some a12∧∃x13p x13n x13c,w9.cell? (a12.add 11)=some (.slice x13p x13n x13c)∧
     ∀n14 w15,New (.cells #[.int .i64 r10,.slice a b c,.int .i64 d,.int .i64 (b:Int),.bool false] 184) w9 n14 w15→
     ∃w16 r17p r17n r17c,(Builtin.append_ #[105,105] 105 #[.slice x13p x13n x13c,.slice (some (Addr.mk n14 0 none)) 1 1]).run prog w15= .ok (.slice r17p r17n r17c) w16∧
     ∃a18,x0_=some a18∧∃w19,StoreAt (a18.add 11) 0 [.slice r17p r17n r17c] w16 w19∧
     K (.tuple #[]) w19)
   (∃a20,x0_=some a20∧∃x21p x21n x21c,w9.cell? (a20.add 12)=some (.slice x21p x21n x21c)∧
     ∀n22 w23,New (.cells #[.slice a b c] 28) w9 n22 w23→
     ∃w24 r25p r25n r25c,(Builtin.append_ #[22,22] 22 #[.slice x21p x21n x21c,.slice (some (Addr.mk n22 0 none)) 1 1]).run prog w23= .ok (.slice r25p r25n r25c) w24∧
     ∃a26,x0_=some a26∧∃w27,StoreAt (a26.add 12) 0 [.slice r25p r25n r25c] w24 w27∧
     K (.tuple #[]) w27))
 (cnd (decide ((b:Int)> (1:Int)))
   (∃a28,x0_=some a28∧∃x29p x29n x29c,w3.cell? (a28.add 11)=some (.slice x29p x29n x29c)∧
     ∀n30 w31,New (.cells #[.int .i64 r4,.slice a b c,.int .i64 d,.int .i64 (b:Int),.bool false] 184) w3 n30 w31→
     ∃w32 r33p r33n r33c,(Builtin.append_ #[105,105] 105 #[.slice x29p x29n x29c,.slice (some (Addr.mk n30 0 none)) 1 1]).run prog w31= .ok (.slice r33p r33n r33c) w32∧
     ∃a34,x0_=some a34∧∃w35,StoreAt (a34.add 11) 0 [.slice r33p r33n r33c] w32 w35∧
     K (.tuple #[]) w35)
   (∃a36,x0_=some a36∧∃x37p x37n x37c,w3.cell? (a36.add 12)=some (.slice x37p x37n x37c)∧
     ∀n38 w39,New (.cells #[.slice a b c] 28) w3 n38 w39→
     ∃w40 r41p r41n r41c,(Builtin.append_ #[22,22] 22 #[.slice x37p x37n x37c,.slice (some (Addr.mk n38 0 none)) 1 1]).run prog w39= .ok (.slice r41p r41n r41c) w40∧
     ∃a42,x0_=some a42∧∃w43,StoreAt (a42.add 12) 0 [.slice r41p r41n r41c] w40 w43∧
     K (.tuple #[]) w43))
theorem cdcl_search_add.calls {x0_ a b c d w R} (h:cdcl_search_add.w x0_ a b c d w fun v w'=>R (.returned v) w'):Calls prog 129 #[.pointer x0_,.slice a b c,.int .i64 d] w R:=
 calls_of mixed Tryz.func129 (by kernel_rfl) rfl (ann:= .leaf) (F:=cdcl_search_add.w x0_ a b c d w) (fun K=>by kernel_rfl) h
def luby_Tick.w (p_0:Int) (p_1:Int) (p_2:Int) (w:World) (K:Value→World→Prop):Prop:=
 ∀n1 w2,New (.cells #[.int .i64 p_0,.int .i64 p_1,.int .i64 p_2] 104) w n1 w2→
 ∀n3 w4,New (.cells #[.int .i64 0,.int .i64 0,.int .i64 0] 104) w2 n3 w4→
 ∃x5 x6 x7,CellsAt w4 (Addr.mk n1 0 none) 0 [.int .i64 x5,.int .i64 x6,.int .i64 x7]∧
 Calls prog 171 #[.agg #[.int .i64 x5,.int .i64 x6,.int .i64 x7]] w4 fun e w8=> ∃r9,e= .returned (.int .i64 r9)∧
 cnd (r9 !=(0:Int))
 (∃w10,StoreAt (Addr.mk n3 0 none) 0 [.int .i64 0,.int .i64 0,.int .i64 0] w8 w10∧
   ∃x11 x12 x13,CellsAt w10 (Addr.mk n3 0 none) 0 [.int .i64 x11,.int .i64 x12,.int .i64 x13]∧
   K (.tuple #[.agg #[.int .i64 x11,.int .i64 x12,.int .i64 x13],.bool false]) w10)
 (∃x14,w8.cell? ((Addr.mk n1 0 none).add 2)=some (.int .i64 x14)∧
   ∃w15,StoreAt ((Addr.mk n1 0 none).add 2) 0 [.int .i64 (i64.wrap (x14 - (1:Int)))] w8 w15∧
   ∃x16,w15.cell? ((Addr.mk n1 0 none).add 2)=some (.int .i64 x16)∧
   cnd (decide (x16> (0:Int)))
   (∃x17 x18 x19,CellsAt w15 (Addr.mk n1 0 none) 0 [.int .i64 x17,.int .i64 x18,.int .i64 x19]∧
     ∃w20,StoreAt (Addr.mk n3 0 none) 0 [.int .i64 x17,.int .i64 x18,.int .i64 x19] w15 w20∧
     ∃x21 x22 x23,CellsAt w20 (Addr.mk n3 0 none) 0 [.int .i64 x21,.int .i64 x22,.int .i64 x23]∧
     K (.tuple #[.agg #[.int .i64 x21,.int .i64 x22,.int .i64 x23],.bool false]) w20)
   (∃x24,w15.cell? ((Addr.mk n1 0 none).add 1)=some (.int .i64 x24)∧
     (1073741824:Int)≠0∧∃w25,StoreAt ((Addr.mk n1 0 none).add 1) 0 [.int .i64 (i64.wrap ((x24.tmod (1073741824:Int))+ (1:Int)))] w15 w25∧
     ∃x26,w25.drew.cell? ((Addr.mk n1 0 none).add 1)=some (.int .i64 x26)∧
     (∃x27,w25.drew.cell? ((Addr.mk n1 0 none).add 0)=some (.int .i64 x27)∧
     Calls prog 172 #[.int .i64 x26] w25.drew fun e w28=> ∃r29,e= .returned (.int .i64 r29)∧
     ∃w30,StoreAt ((Addr.mk n1 0 none).add 2) 0 [.int .i64 (i64.wrap (x27*r29))] w28 w30∧
     ∃x31 x32 x33,CellsAt w30 (Addr.mk n1 0 none) 0 [.int .i64 x31,.int .i64 x32,.int .i64 x33]∧
     ∃w34,StoreAt (Addr.mk n3 0 none) 0 [.int .i64 x31,.int .i64 x32,.int .i64 x33] w30 w34∧
     ∃x35 x36 x37,CellsAt w34 (Addr.mk n3 0 none) 0 [.int .i64 x35,.int .i64 x36,.int .i64 x37]∧
     K (.tuple #[.agg #[.int .i64 x35,.int .i64 x36,.int .i64 x37],.bool true]) w34)∧
   (Calls prog 172 #[.int .i64 x26] w25.drew fun e w38=> ∃r39,e= .returned (.int .i64 r39)∧
     ∃x40,w38.cell? ((Addr.mk n1 0 none).add 0)=some (.int .i64 x40)∧
     ∃w41,StoreAt ((Addr.mk n1 0 none).add 2) 0 [.int .i64 (i64.wrap (x40*r39))] w38 w41∧
     ∃x42 x43 x44,CellsAt w41 (Addr.mk n1 0 none) 0 [.int .i64 x42,.int .i64 x43,.int .i64 x44]∧
     ∃w45,StoreAt (Addr.mk n3 0 none) 0 [.int .i64 x42,.int .i64 x43,.int .i64 x44] w41 w45∧
     ∃x46 x47 x48,CellsAt w45 (Addr.mk n3 0 none) 0 [.int .i64 x46,.int .i64 x47,.int .i64 x48]∧
     K (.tuple #[.agg #[.int .i64 x46,.int .i64 x47,.int .i64 x48],.bool true]) w45)))
theorem luby_Tick.calls {p_0 p_1 p_2 w R} (h:luby_Tick.w p_0 p_1 p_2 w fun v w'=>R (.returned v) w'):Calls prog 130 #[.agg #[.int .i64 p_0,.int .i64 p_1,.int .i64 p_2]] w R:=
 calls_of mixed Tryz.func130 (by kernel_rfl) rfl (ann:= .leaf) (F:=luby_Tick.w p_0 p_1 p_2 w) (fun K=>by kernel_rfl) h
def reduce_Due.w (a:Int) (b:Int) (c:Int) (w:World) (K:Value→World→Prop):Prop:=
 Calls prog 173 #[.int .i64 b,.int .i64 c] w fun e w1=> ∃r2,e= .returned (.int .i64 r2)∧
 cnd (decide (r2> (0:Int)))
 (K (.bool (decide (a≥r2))) w1)
 (K (.bool false) w1)
theorem reduce_Due.calls {a b c w R} (h:reduce_Due.w a b c w fun v w'=>R (.returned v) w'):Calls prog 131 #[.int .i64 a,.int .i64 b,.int .i64 c] w R:=
 calls_of mixed Tryz.func131 (by kernel_rfl) rfl (ann:= .leaf) (F:=reduce_Due.w a b c w) (fun K=>by kernel_rfl) h
def cdcl_search_less.w (x0_:Option Addr) (w:World) (K:Value→World→Prop):Prop:=
 ∃a1,x0_=some a1∧∃x2p x2n x2c,w.cell? (a1.add 11)=some (.slice x2p x2n x2c)∧
 ∃I3:Option Addr→Nat→Nat→Int→World→Nat→Prop,(∃k4,I3 none 0 0 0 w k4)∧
 ∀l6p l6n l6c v7 w8 k4 (_:Fr),I3 l6p l6n l6c v7 w8 k4→
 cnd (decide (v7< (x2n:Int)))
  (ixK x2p x2n v7 5 fun a9=>
    ∃x10 x11p x11n x11c x12 x13 x14,CellsAt w8 a9 0 [.int .i64 x10,.slice x11p x11n x11c,.int .i64 x12,.int .i64 x13,.bool x14]∧
    ∀n15 w16,New (.cells #[.int .i64 0,.slice none 0 0,.int .i64 0,.int .i64 0,.bool false] 184) w8 n15 w16→
    ∃w17,StoreAt (Addr.mk n15 0 none) 0 [.int .i64 x10,.slice x11p x11n x11c,.int .i64 x12,.int .i64 x13,.bool x14] w16 w17∧
    ∃W18:World→Prop,W18 w17.drew∧
    ∃a19,x0_=some a19∧∃x20p x20n x20c,AtW W18 (a19.add 11) (.slice x20p x20n x20c)∧
    ∃x21 x22p x22n x22c x23 x24 x25,CellsW W18 (Addr.mk n15 0 none) [.int .i64 x21,.slice x22p x22n x22c,.int .i64 x23,.int .i64 x24,.bool x25]∧
    Calls prog 174 #[.pointer x0_,.agg #[.int .i64 x21,.slice x22p x22n x22c,.int .i64 x23,.int .i64 x24,.bool x25]] w17.drew fun e w26=> ∃r27,e= .returned (.bool r27)∧
    W18 w26∧ixK x20p x20n v7 5 fun a28=>
    ∃w29,StoreAt ((a28.add 2).add 2) 0 [.bool r27] w26 w29∧
    ∃a30,x0_=some a30∧∃x31p x31n x31c,w29.cell? (a30.add 11)=some (.slice x31p x31n x31c)∧
    ixK x31p x31n v7 5 fun a32=>
    ∃x33 x34 x35,CellsAt w29 (a32.add 2) 0 [.int .i64 x33,.int .i64 x34,.bool x35]∧
    ∀n36 w37,New (.cells #[.int .i64 x33,.int .i64 x34,.bool x35] 182) w29 n36 w37→
    ∃w38 r39p r39n r39c,(Builtin.append_ #[186,186] 186 #[.slice l6p l6n l6c,.slice (some (Addr.mk n36 0 none)) 1 1]).run prog w37= .ok (.slice r39p r39n r39c) w38∧
    ∃k5,k5<k4∧I3 r39p r39n r39c (i64.wrap (v7+ (1:Int))) w38 k5)
  (Calls prog 175 #[.slice l6p l6n l6c] w8 fun e w40=> ∃r41p r41n r41c,e= .returned (.slice r41p r41n r41c)∧
    ∃a42,x0_=some a42∧∃x43p x43n x43c,w40.cell? (a42.add 11)=some (.slice x43p x43n x43c)∧
    ∃I44:Option Addr→Nat→Nat→Int→World→Nat→Prop,(∃k45,I44 none 0 0 0 w40 k45)∧
    ∀l47p l47n l47c v48 w49 k45 (_:Fr),I44 l47p l47n l47c v48 w49 k45→
    cnd (decide (v48< (x43n:Int)))
     (ixK x43p x43n v48 5 fun a50=>
       ∃x51 x52p x52n x52c x53 x54 x55,CellsAt w49 a50 0 [.int .i64 x51,.slice x52p x52n x52c,.int .i64 x53,.int .i64 x54,.bool x55]∧
       ∀n56 w57,New (.cells #[.int .i64 0,.slice none 0 0,.int .i64 0,.int .i64 0,.bool false] 184) w49 n56 w57→
       ∃w58,StoreAt (Addr.mk n56 0 none) 0 [.int .i64 x51,.slice x52p x52n x52c,.int .i64 x53,.int .i64 x54,.bool x55] w57 w58∧
       ixK r41p r41n v48 1 fun a59=>
       ∃x60,w58.drew.cell? a59=some (.bool x60)∧
       cnd x60
       (∃x61 x62p x62n x62c x63 x64 x65,CellsAt w58.drew (Addr.mk n56 0 none) 0 [.int .i64 x61,.slice x62p x62n x62c,.int .i64 x63,.int .i64 x64,.bool x65]∧
       ∀n66 w67,New (.cells #[.int .i64 x61,.slice x62p x62n x62c,.int .i64 x63,.int .i64 x64,.bool x65] 184) w58.drew n66 w67→
       ∃w68 r69p r69n r69c,(Builtin.append_ #[105,105] 105 #[.slice l47p l47n l47c,.slice (some (Addr.mk n66 0 none)) 1 1]).run prog w67= .ok (.slice r69p r69n r69c) w68∧
       ∃k46,k46<k45∧I44 r69p r69n r69c (i64.wrap (v48+ (1:Int))) w68 k46)
       (∃a70,x0_=some a70∧∃x71,w58.drew.cell? (a70.add 5)=some (.pointer x71)∧
       ∃x72,w58.drew.cell? ((Addr.mk n56 0 none).add 0)=some (.int .i64 x72)∧
       Calls prog 105 #[.pointer x71,.int .i64 x72] w58.drew fun e w73=> ∃r74,e= .returned (.int .i64 r74)∧
       cnd (r74 !=(0:Int))
       (∃x75 x76p x76n x76c x77 x78 x79,CellsAt w73 (Addr.mk n56 0 none) 0 [.int .i64 x75,.slice x76p x76n x76c,.int .i64 x77,.int .i64 x78,.bool x79]∧
         ∀n80 w81,New (.cells #[.int .i64 x75,.slice x76p x76n x76c,.int .i64 x77,.int .i64 x78,.bool x79] 184) w73 n80 w81→
         ∃w82 r83p r83n r83c,(Builtin.append_ #[105,105] 105 #[.slice l47p l47n l47c,.slice (some (Addr.mk n80 0 none)) 1 1]).run prog w81= .ok (.slice r83p r83n r83c) w82∧
         ∃k46,k46<k45∧I44 r83p r83n r83c (i64.wrap (v48+ (1:Int))) w82 k46)
       (∃W84:World→Prop,W84 w73.drew∧
         ∃a85,x0_=some a85∧∃x86p x86n x86c,AtW W84 ((a85.add 14).add 2) (.slice x86p x86n x86c)∧
         ∃x87p x87n x87c,AtW W84 ((Addr.mk n56 0 none).add 1) (.slice x87p x87n x87c)∧
         Calls prog 70 #[.slice x87p x87n x87c] w73.drew fun e w88=> ∃r89p r89n r89c,e= .returned (.slice r89p r89n r89c)∧
         W84 w88∧∀n90 w91,New (.cells #[.bool true,.slice r89p r89n r89c] 48) w88 n90 w91→
         W84 w91∧∃w92 r93p r93n r93c,(Builtin.append_ #[25,25] 25 #[.slice x86p x86n x86c,.slice (some (Addr.mk n90 0 none)) 1 1]).run prog w91= .ok (.slice r93p r93n r93c) w92∧
         ∃a94,x0_=some a94∧∃w95,StoreAt ((a94.add 14).add 2) 0 [.slice r93p r93n r93c] w92 w95∧
         ∃a96,x0_=some a96∧∃x97,w95.cell? ((a96.add 14).add 6)=some (.int .i64 x97)∧
         ∃a98,x0_=some a98∧∃w99,StoreAt ((a98.add 14).add 6) 0 [.int .i64 (i64.wrap (x97+ (1:Int)))] w95 w99∧
         ∃k46,k46<k45∧I44 l47p l47n l47c (i64.wrap (v48+ (1:Int))) w99 k46)))
     (∃a100,x0_=some a100∧∃w101,StoreAt (a100.add 11) 0 [.slice l47p l47n l47c] w49 w101∧
       ∃a102,x0_=some a102∧∃x103,w101.cell? (a102.add 13)=some (.int .i64 x103)∧
       ∃a104,x0_=some a104∧∃w105,StoreAt (a104.add 13) 0 [.int .i64 (imin (i64.wrap (x103+ (1:Int))) 100)] w101 w105∧
       K (.tuple #[]) w105))
theorem cdcl_search_less.calls {x0_ w R} (h:cdcl_search_less.w x0_ w fun v w'=>R (.returned v) w'):Calls prog 132 #[.pointer x0_] w R:=
 calls_of mixed Tryz.func132 (by kernel_rfl) rfl (ann:=(.two .leaf (.two (.two .leaf (.one (.loop [(2,186),(14,3)] (.two .leaf (.two .leaf (.two (.one (.two .leaf (.two .draw .leaf))) .leaf)))))) (.two .leaf (.two .leaf (.two (.two .leaf (.one (.loop [(6,105),(49,3)] (.two .leaf (.two .leaf (.two (.one (.two .leaf (.two .leaf (.two .draw .leaf)))) .leaf)))))) .leaf)))))) (F:=cdcl_search_less.w x0_ w) (fun K=>by kernel_rfl) h
def fathomref01_Value.w (a:Option Addr) (b:Nat) (c:Nat) (l_:Int) (w:World) (K:Value→World→Prop):Prop:=
 Calls prog 64 #[.int .i64 l_] w fun e w1=> ∃r2,e= .returned (.bool r2)∧
 cnd (!r2)
 (K (.int .i64 0) w1)
 (Calls prog 63 #[.int .i64 l_] w1 fun e w3=> ∃r4,e= .returned (.int .i64 r4)∧
 cnd (decide (r4> (b:Int)))
 (K (.int .i64 0) w3)
 (Calls prog 63 #[.int .i64 l_] w3 fun e w5=> ∃r6,e= .returned (.int .i64 r6)∧
 ixK a b (i64.wrap (r6 - (1:Int))) 1 fun a7=>
 ∃x8,w5.cell? a7=some (.int .i64 x8)∧
 cnd (x8==(0:Int))
 (K (.int .i64 0) w5)
 (Calls prog 63 #[.int .i64 l_] w5 fun e w9=> ∃r10,e= .returned (.int .i64 r10)∧
   ixK a b (i64.wrap (r10 - (1:Int))) 1 fun a11=>
   ∃x12,w9.cell? a11=some (.int .i64 x12)∧
   cnd ((decide (x12> (0:Int)))==(decide (l_> (0:Int))))
   (K (.int .i64 1) w9)
   (K (.int .i64 (-1)) w9))))
theorem fathomref01_Value.calls {a b c l_ w R} (h:fathomref01_Value.w a b c l_ w fun v w'=>R (.returned v) w'):Calls prog 133 #[.slice a b c,.int .i64 l_] w R:=
 calls_of mixed Tryz.func133 (by kernel_rfl) rfl (ann:= .leaf) (F:=fathomref01_Value.w a b c l_ w) (fun K=>by kernel_rfl) h
def slices_SortFunc_int_int.w (a:Option Addr) (b:Nat) (c:Nat) (d:FuncId) (f:Array Value) (w:World) (K:Value→World→Prop):Prop:=
 Calls prog 178 #[.int .u64 (IntKind.u64.wrap (b:Int))] w fun e w1=> ∃r2,e= .returned (.int .i64 r2)∧
 Calls prog 177 #[.slice a b c,.int .i64 0,.int .i64 (b:Int),.int .i64 r2,.func (.func d) #[] f] w1 fun e w3=>e= .returned (.tuple #[])∧
 K (.tuple #[]) w3
theorem slices_SortFunc_int_int.calls {a b c d f w R} (h:slices_SortFunc_int_int.w a b c d f w fun v w'=>R (.returned v) w'):Calls prog 135 #[.slice a b c,.func (.func d) #[] f] w R:=
 calls_of mixed Tryz.func135 (by kernel_rfl) rfl (ann:= .leaf) (F:=slices_SortFunc_int_int.w a b c d f w) (fun K=>by kernel_rfl) h
def lit_before.w (a_:Int) (b_:Int) (w:World) (K:Value→World→Prop):Prop:=
 Calls prog 89 #[.int .i64 a_] w fun e w1=> ∃r2,e= .returned (.int .i64 r2)∧
 Calls prog 89 #[.int .i64 b_] w1 fun e w3=> ∃r4,e= .returned (.int .i64 r4)∧
 cnd (r2 !=r4)
 (Calls prog 89 #[.int .i64 a_] w3 fun e w5=> ∃r6,e= .returned (.int .i64 r6)∧
   Calls prog 89 #[.int .i64 b_] w5 fun e w7=> ∃r8,e= .returned (.int .i64 r8)∧
   K (.int .i64 (i64.wrap (r6 - r8))) w7)
 (K (.int .i64 (i64.wrap (b_ - a_))) w3)
theorem lit_before.calls {a_ b_ w R} (h:lit_before.w a_ b_ w fun v w'=>R (.returned v) w'):Calls prog 136 #[.int .i64 a_,.int .i64 b_] w R:=
 calls_of mixed Tryz.func136 (by kernel_rfl) rfl (ann:= .leaf) (F:=lit_before.w a_ b_ w) (fun K=>by kernel_rfl) h
def slices_Compact_int_int.w (a:Option Addr) (b:Nat) (c:Nat) (w:World) (K:Value→World→Prop):Prop:=
 cnd (decide ((b:Int)< (2:Int)))
 (K (.slice a b c) w)
 (∃I1:Int→World→Nat→Prop,(∃k2,I1 1 w k2)∧
   ∀k_4 w5 k2 (_:Fr),I1 k_4 w5 k2→
   cnd (decide (k_4< (b:Int)))
    (ixK a b k_4 1 fun a6=>
      ∃x7,w5.drew.cell? a6=some (.int .i64 x7)∧
      ixK a b (i64.wrap (k_4 - (1:Int))) 1 fun a8=>
      ∃x9,w5.drew.cell? a8=some (.int .i64 x9)∧
      cnd (x7==x9)
      (slK a b c 1 (some k_4) none none fun s10p s10n s10c=>
        ∃I11:Int→Int→World→Nat→Prop,(∃k12,I11 k_4 1 w5.drew k12)∧
        ∀k_14 k2_15 w16 k12 (_:Fr),I11 k_14 k2_15 w16 k12→
        cnd (decide (k2_15< (s10n:Int)))
         (ixK s10p s10n k2_15 1 fun a17=>
           ∃x18,w16.drew.cell? a17=some (.int .i64 x18)∧
           ixK s10p s10n (i64.wrap (k2_15 - (1:Int))) 1 fun a19=>
           ∃x20,w16.drew.cell? a19=some (.int .i64 x20)∧
           cnd (x18 !=x20)
           (ixK s10p s10n k2_15 1 fun a21=>
             ∃x22,w16.drew.cell? a21=some (.int .i64 x22)∧
             ixK a b k_14 1 fun a23=>
             ∃w24,StoreAt a23 0 [.int .i64 x22] w16.drew w24∧
             ∃k13,k13<k12∧I11 (i64.wrap (k_14+ (1:Int))) (i64.wrap (k2_15+ (1:Int))) w24 k13)
           (∃k13,k13<k12∧I11 k_14 (i64.wrap (k2_15+ (1:Int))) w16.drew k13))
         (slK a b c 1 (some k_14) none none fun s25p s25n s25c=>
           ∃w26,(Builtin.clear_ #[28] 0 #[.slice s25p s25n s25c]).run prog w16= .ok (.tuple #[]) w26∧
           slK a b c 1 none (some k_14) none fun s27p s27n s27c=>
           K (.slice s27p s27n s27c) w26))
      (∃k3,k3<k2∧I1 (i64.wrap (k_4+ (1:Int))) w5.drew k3))
    (K (.slice a b c) w5))
theorem slices_Compact_int_int.calls {a b c w R} (h:slices_Compact_int_int.w a b c w fun v w'=>R (.returned v) w'):Calls prog 137 #[.slice a b c] w R:=
 calls_of mixed Tryz.func137 (by kernel_rfl) rfl (ann:=(.two .leaf (.two .leaf (.two (.two .leaf (.one (.loop [(3,3)] (.two .leaf (.two (.one (.two .leaf (.two (.two .leaf (.two (.two .leaf (.one (.loop [(3,3),(5,3)] .leaf))) .leaf)) .leaf))) .leaf))))) .leaf)))) (F:=slices_Compact_int_int.w a b c w) (fun K=>by kernel_rfl) h
def prop_Prop_Back.w (p_:Option Addr) (a:Int) (w:World) (K:Value→World→Prop):Prop:=
 cnd p_.isNone
 (K (.tuple #[]) w)
 (∃a1,p_=some a1∧∃x2p x2n x2c,w.cell? (a1.add 7)=some (.slice x2p x2n x2c)∧
 cnd (decide ((imax 0 a)≥(x2n:Int)))
 (K (.tuple #[]) w)
 (∃a3,p_=some a3∧∃x4p x4n x4c,w.cell? (a3.add 7)=some (.slice x4p x4n x4c)∧
   ixK x4p x4n (imax 0 a) 1 fun a5=>
   ∃x6,w.cell? a5=some (.int .i64 x6)∧
   ∃a7,p_=some a7∧∃x8p x8n x8c,w.cell? (a7.add 6)=some (.slice x8p x8n x8c)∧
   slK x8p x8n x8c 1 (some x6) none none fun s9p s9n s9c=>
   ∃I10:Int→World→Nat→Prop,(∃k11,I10 0 w k11)∧
   ∀v13 w14 k11 (_:Fr),I10 v13 w14 k11→
   cnd (decide (v13< (s9n:Int)))
    (ixK s9p s9n v13 1 fun a15=>
      ∃x16,w14.cell? a15=some (.int .i64 x16)∧
      ∃W17:World→Prop,W17 w14.drew∧
      ∃a18,p_=some a18∧∃x19p x19n x19c,AtW W17 (a18.add 3) (.slice x19p x19n x19c)∧
      Calls prog 143 #[.int .i64 x16] w14.drew fun e w20=> ∃r21,e= .returned (.int .i64 r21)∧
      W17 w20∧ixK x19p x19n r21 1 fun a22=>
      ∃w23,StoreAt a22 0 [.int .i8 0] w20 w23∧
      ∃k12,k12<k11∧I10 (i64.wrap (v13+ (1:Int))) w23 k12)
    (∃a24,p_=some a24∧∃x25,w14.drew.cell? (a24.add 9)=some (.int .i64 x25)∧
      ∃a26,p_=some a26∧∃x27p x27n x27c,w14.drew.cell? (a26.add 8)=some (.slice x27p x27n x27c)∧
      ixK x27p x27n (imax 0 a) 1 fun a28=>
      ∃x29,w14.drew.cell? a28=some (.int .i64 x29)∧
      ∃a30,p_=some a30∧∃w31,StoreAt (a30.add 9) 0 [.int .i64 (imin (imin x25 x6) x29)] w14.drew w31∧
      ∃a32,p_=some a32∧∃x33p x33n x33c,w31.drew.cell? (a32.add 6)=some (.slice x33p x33n x33c)∧
      slK x33p x33n x33c 1 none (some x6) none fun s34p s34n s34c=>
      ∃a35,p_=some a35∧∃x36p x36n x36c,w31.drew.cell? (a35.add 7)=some (.slice x36p x36n x36c)∧
      slK x36p x36n x36c 1 none (some (imax 0 a)) none fun s37p s37n s37c=>
      ∃a38,p_=some a38∧∃x39p x39n x39c,w31.drew.cell? (a38.add 8)=some (.slice x39p x39n x39c)∧
      slK x39p x39n x39c 1 none (some (imax 0 a)) none fun s40p s40n s40c=>
      ∃a41,p_=some a41∧∃w42,StoreAt (a41.add 6) 0 [.slice s34p s34n s34c] w31.drew w42∧
      ∃a43,p_=some a43∧∃w44,StoreAt (a43.add 7) 0 [.slice s37p s37n s37c] w42 w44∧
      ∃a45,p_=some a45∧∃w46,StoreAt (a45.add 8) 0 [.slice s40p s40n s40c] w44 w46∧
      K (.tuple #[]) w46)))
theorem prop_Prop_Back.calls {p_ a w R} (h:prop_Prop_Back.w p_ a w fun v w'=>R (.returned v) w'):Calls prog 138 #[.pointer p_,.int .i64 a] w R:=
 calls_of mixed Tryz.func138 (by kernel_rfl) rfl (ann:=(.two .leaf (.two .leaf (.two .leaf (.two (.two .leaf (.one (.loop [(34,3)] (.two .leaf (.two .leaf (.two (.one (.two .leaf .draw)) .leaf)))))) .leaf))))) (F:=prop_Prop_Back.w p_ a w) (fun K=>by kernel_rfl) h
def prop_Prop_there.w (p_:Option Addr) (i_:Int) (w:World) (K:Value→World→Prop):Prop:=
 cnd (!p_.isNone)
 (cnd (decide (i_≥(0:Int)))
 (∃a1,p_=some a1∧∃x2p x2n x2c,w.cell? (a1.add 1)=some (.slice x2p x2n x2c)∧
 cnd (decide (i_< (x2n:Int)))
 (∃a3,p_=some a3∧∃x4p x4n x4c,w.cell? (a3.add 1)=some (.slice x4p x4n x4c)∧
 ixK x4p x4n i_ 3 fun a5=>
 ∃x6,w.cell? (a5.add 2)=some (.bool x6)∧
 K (.bool (!x6)) w)
 (K (.bool false) w))
 (K (.bool false) w))
 (K (.bool false) w)
theorem prop_Prop_there.calls {p_ i_ w R} (h:prop_Prop_there.w p_ i_ w fun v w'=>R (.returned v) w'):Calls prog 141 #[.pointer p_,.int .i64 i_] w R:=
 calls_of mixed Tryz.func141 (by kernel_rfl) rfl (ann:= .leaf) (F:=prop_Prop_there.w p_ i_ w) (fun K=>by kernel_rfl) h
def prop_Prop_val.w (p_:Option Addr) (l_:Int) (w:World) (K:Value→World→Prop):Prop:=
 cnd (decide (l_< (0:Int)))
 (∃a1,p_=some a1∧∃x2p x2n x2c,w.cell? (a1.add 3)=some (.slice x2p x2n x2c)∧
   ixK x2p x2n (i64.wrap (0 - l_)) 1 fun a3=>
   ∃x4,w.cell? a3=some (.int .i8 x4)∧
   K (.int .i8 (IntKind.i8.wrap (0 - x4))) w)
 (∃a5,p_=some a5∧∃x6p x6n x6c,w.cell? (a5.add 3)=some (.slice x6p x6n x6c)∧
   ixK x6p x6n l_ 1 fun a7=>
   ∃x8,w.cell? a7=some (.int .i8 x8)∧
   K (.int .i8 x8) w)
theorem prop_Prop_val.calls {p_ l_ w R} (h:prop_Prop_val.w p_ l_ w fun v w'=>R (.returned v) w'):Calls prog 142 #[.pointer p_,.int .i64 l_] w R:=
 calls_of mixed Tryz.func142 (by kernel_rfl) rfl (ann:= .leaf) (F:=prop_Prop_val.w p_ l_ w) (fun K=>by kernel_rfl) h
def prop_amount.w (l_:Int) (w:World) (K:Value→World→Prop):Prop:=
 K (.int .i64 (imax l_ (i64.wrap (0 - l_)))) w
theorem prop_amount.calls {l_ w R} (h:prop_amount.w l_ w fun v w'=>R (.returned v) w'):Calls prog 143 #[.int .i64 l_] w R:=
 calls_of mixed Tryz.func143 (by kernel_rfl) rfl (ann:= .leaf) (F:=prop_amount.w l_ w) (fun K=>by kernel_rfl) h
def prop_Prop_unwatch.w (p_:Option Addr) (i_:Int) (w:World) (K:Value→World→Prop):Prop:=
 ∀n1 w2,New (.cells #[.int .i64 i_] 3) w n1 w2→
 ∃a3,p_=some a3∧∃x4p x4n x4c,w2.drew.cell? (a3.add 1)=some (.slice x4p x4n x4c)∧
 ∃x5,w2.drew.cell? (Addr.mk n1 0 none)=some (.int .i64 x5)∧
 ixK x4p x4n x5 3 fun a6=>
 ∃x7p x7n x7c,w2.drew.cell? (a6.add 1)=some (.slice x7p x7n x7c)∧
 slK x7p x7n x7c 1 none (some (imin 2 (x7n:Int))) none fun s8p s8n s8c=>
 ∃I9:Int→World→Nat→Prop,(∃k10,I9 0 w2.drew k10)∧
 ∀v12 w13 k10 (_:Fr),I9 v12 w13 k10→
 cnd (decide (v12< (s8n:Int)))
  (ixK s8p s8n v12 1 fun a14=>
    ∃x15,w13.cell? a14=some (.int .i64 x15)∧
    ∃W16:World→Prop,W16 w13.drew∧
    ∃a17,p_=some a17∧∃x18p x18n x18c,AtW W16 (a17.add 2) (.slice x18p x18n x18c)∧
    Calls prog 119 #[.int .i64 x15] w13.drew fun e w19=> ∃r20,e= .returned (.int .i64 r20)∧
    W16 w19∧ixK x18p x18n r20 1 fun a21=>
    ∃x22p x22n x22c,AtW W16 a21 (.slice x22p x22n x22c)∧
    ∃W23:World→Prop,W23 w19.drew∧
    ∃a24,p_=some a24∧∃x25p x25n x25c,AtW W23 (a24.add 2) (.slice x25p x25n x25c)∧
    Calls prog 119 #[.int .i64 x15] w19.drew fun e w26=> ∃r27,e= .returned (.int .i64 r27)∧
    W23 w26∧Calls prog 145 #[.slice x22p x22n x22c,.func (.func 179) #[] #[.pointer (some (Addr.mk n1 0 none))]] w26 fun e w28=> ∃r29p r29n r29c,e= .returned (.slice r29p r29n r29c)∧
    W23 w28∧ixK x25p x25n r27 1 fun a30=>
    ∃w31,StoreAt a30 0 [.slice r29p r29n r29c] w28 w31∧
    ∃k11,k11<k10∧I9 (i64.wrap (v12+ (1:Int))) w31 k11)
  (K (.tuple #[]) w13)
theorem prop_Prop_unwatch.calls {p_ i_ w R} (h:prop_Prop_unwatch.w p_ i_ w fun v w'=>R (.returned v) w'):Calls prog 144 #[.pointer p_,.int .i64 i_] w R:=
 calls_of mixed Tryz.func144 (by kernel_rfl) rfl (ann:=(.two .leaf (.two .leaf (.two .leaf (.one (.loop [(22,3)] (.two .leaf (.two .leaf (.two (.one (.two .leaf (.two .draw .draw))) .leaf))))))))) (F:=prop_Prop_unwatch.w p_ i_ w) (fun K=>by kernel_rfl) h
end Go.Proofs.YtenmibfmhccmiaaGreat.W
