/- The functions that the statements reach, printed as what the frame asks of them, each checked by the kernel against the loaded text. -/
import Derived.Test.YtbdghpjnifjlmaaGreatProg
import Derived.Test.YtbdghpjnifjlmaaGreatFwRange2
namespace Go.Proofs.YtbdghpjnifjlmaaGreat.W
open Go Go.Fw Go.Proofs
open Go.Proofs.Tryz (prog)
open Go.IntKind (i64)
set_option maxRecDepth 100000
theorem mixed:Tryz.prog.follows .mixedOrders=true:=by kernel_rfl
abbrev fathomlaw37_CertifyChecks.id:FuncId:=3
abbrev fathomlaw07_Small.id:FuncId:=7
abbrev fathomlaw04_Light.id:FuncId:=8
abbrev fathomlaw37_awake.id:FuncId:=9
abbrev certify_Check.id:FuncId:=10
abbrev fathomref37_Check.id:FuncId:=11
abbrev certify_Solve.id:FuncId:=12
abbrev fathomref01_Cnf.id:FuncId:=13
abbrev certify_Core.id:FuncId:=17
abbrev cdcl_Usual.id:FuncId:=21
abbrev fathomlaw01_Light.id:FuncId:=24
abbrev lit_CheckCnf.id:FuncId:=25
abbrev trace_Check.id:FuncId:=26
abbrev lit_Holds.id:FuncId:=27
abbrev rup_Proves.id:FuncId:=28
abbrev fathomref04_May.id:FuncId:=29
abbrev fathomref01_Holds.id:FuncId:=30
abbrev fathomref07_Proves.id:FuncId:=31
abbrev cdcl_Solve.id:FuncId:=32
abbrev fathomref01_May.id:FuncId:=33
abbrev fathomref01_Var.id:FuncId:=34
abbrev drat_Find.id:FuncId:=36
abbrev drat_Trim.id:FuncId:=37
abbrev fathomref01_Ints.id:FuncId:=38
abbrev fathomref07_Unit.id:FuncId:=40
abbrev lit_Check.id:FuncId:=49
abbrev slices_ContainsFunc_int_int.id:FuncId:=50
abbrev lit_CheckCnf_1.id:FuncId:=51
abbrev lit_amount.id:FuncId:=52
abbrev trace_Check_1.id:FuncId:=54
abbrev lit_Value.id:FuncId:=55
abbrev rup_begin.id:FuncId:=56
abbrev rup_base_do.id:FuncId:=57
abbrev fathomref01_Clause.id:FuncId:=58
abbrev fathomref07_Do.id:FuncId:=59
abbrev cdcl_Check.id:FuncId:=60
abbrev prop_New.id:FuncId:=61
abbrev heap_New.id:FuncId:=62
abbrev luby_Start.id:FuncId:=63
abbrev prop_Prop_Run.id:FuncId:=64
abbrev prop_Prop_Levels.id:FuncId:=67
abbrev cdcl_search_told.id:FuncId:=68
abbrev fathomref01_Lit.id:FuncId:=70
abbrev drat_Plain.id:FuncId:=71
abbrev drat_end.id:FuncId:=72
abbrev drat_sources.id:FuncId:=73
abbrev drat_gone.id:FuncId:=74
abbrev slices_Clone_fathom_drat_source_fathom_drat_source.id:FuncId:=75
abbrev drat_needs.id:FuncId:=76
abbrev drat_clauses.id:FuncId:=77
abbrev drat_Check.id:FuncId:=78
abbrev slices_Clone_int_int.id:FuncId:=79
abbrev fathomref01_Taut.id:FuncId:=80
abbrev fathomref06_Follows.id:FuncId:=81
abbrev fathomref01_Order.id:FuncId:=82
abbrev lit_Check_1.id:FuncId:=91
abbrev lit_is.id:FuncId:=92
abbrev slices_IndexFunc_int_int.id:FuncId:=93
abbrev rup_base_note.id:FuncId:=95
abbrev rup_base_anew.id:FuncId:=96
abbrev rup_base_drop.id:FuncId:=97
abbrev rup_base_unit.id:FuncId:=98
abbrev rup_base_first.id:FuncId:=99
abbrev rup_base_add.id:FuncId:=100
abbrev fathomref01_Value.id:FuncId:=101
abbrev fathomref07_First.id:FuncId:=102
abbrev prop_Prop_Add.id:FuncId:=103
abbrev prop_Prop_loosely.id:FuncId:=104
abbrev prop_side.id:FuncId:=105
abbrev prop_Prop_visit.id:FuncId:=106
abbrev prop_Prop_Value.id:FuncId:=108
abbrev prop_Prop_Decide.id:FuncId:=109
abbrev drat_greatest.id:FuncId:=119
abbrev rup_Unit.id:FuncId:=120
abbrev drat_end_1.id:FuncId:=121
abbrev lit_Norm.id:FuncId:=122
abbrev drat_gone_1.id:FuncId:=124
abbrev slices_Equal_int_int.id:FuncId:=125
abbrev slices_Delete_fathom_drat_source_fathom_drat_source.id:FuncId:=126
abbrev drat_coded.id:FuncId:=128
abbrev slices_Clone_int_int_85.id:FuncId:=129
abbrev drat_tester_at.id:FuncId:=130
abbrev prop_Prop_Drop.id:FuncId:=131
abbrev drat_rising.id:FuncId:=133
abbrev drat_Check_1.id:FuncId:=134
abbrev fathomref01_Has.id:FuncId:=135
abbrev fathomref06_Broken.id:FuncId:=136
abbrev fathomref06_Unit.id:FuncId:=137
abbrev fathomref01_Ahead.id:FuncId:=138
abbrev slices_Delete_int_int.id:FuncId:=142
abbrev prop_Prop_Back.id:FuncId:=143
abbrev rup_base_code.id:FuncId:=144
abbrev slices_Contains_int_int.id:FuncId:=145
abbrev fathomref01_Without.id:FuncId:=147
abbrev prop_Prop_Add_1.id:FuncId:=148
abbrev prop_Prop_is.id:FuncId:=149
abbrev prop_Prop_settle.id:FuncId:=150
abbrev slices_DeleteFunc_int_int.id:FuncId:=151
abbrev prop_Prop_loosely_1.id:FuncId:=152
abbrev prop_Prop_val.id:FuncId:=153
abbrev prop_Prop_unwatch.id:FuncId:=154
abbrev prop_Prop_again.id:FuncId:=155
abbrev prop_Prop_put.id:FuncId:=156
abbrev prop_Prop_there.id:FuncId:=160
abbrev heap_Heap_is.id:FuncId:=167
abbrev rup_may.id:FuncId:=178
abbrev slices_SortFunc_int_int.id:FuncId:=179
abbrev lit_before.id:FuncId:=180
abbrev slices_Compact_int_int.id:FuncId:=181
abbrev prop_amount.id:FuncId:=182
abbrev prop_Prop_Drop_1.id:FuncId:=183
abbrev slices_Index_int_int.id:FuncId:=184
abbrev prop_Prop_rank.id:FuncId:=185
abbrev prop_Prop_unwatch_1.id:FuncId:=186
abbrev ty_int:TypeId:=3
abbrev ty_bool:TypeId:=4
abbrev ty_sl_sl_int:TypeId:=22
abbrev ty_api_Cnf:TypeId:=24
abbrev ty_sl_int:TypeId:=25
abbrev ty_sl_api_Step:TypeId:=26
abbrev ty_api_Step:TypeId:=58
abbrev ty_sl_sl_drat_source:TypeId:=120
abbrev ty_sl_drat_source:TypeId:=121
abbrev ty_drat_source:TypeId:=126
abbrev ty_drat_origin:TypeId:=128
abbrev ty_map_drat_origin_bool:TypeId:=129
abbrev ty_map_int_int:TypeId:=147
abbrev ty_map_int_sl_int:TypeId:=148
abbrev ty_sl_int8:TypeId:=152
abbrev ty_sl_prop_clause:TypeId:=153
abbrev ty_prop_Prop:TypeId:=155
abbrev ty_prop_clause:TypeId:=160
abbrev ty_int8:TypeId:=194
abbrev ty_cdcl_clause:TypeId:=209
def fathomlaw37_CertifyChecks.w (f_0:Int) (f1p:Option Addr) (f1n:Nat) (f1c:Nat) (c_0:Int) (c1p:Option Addr) (c1n:Nat) (c1c:Nat) (c2p:Option Addr) (c2n:Nat) (c2c:Nat) (c_3:Int) (w:World) (K:Value→World→Prop):Prop:=
 ∀n1 w2,New (.cells #[.int .i64 f_0,.slice f1p f1n f1c] 24) w n1 w2→
 ∀n3 w4,New (.cells #[.int .i64 c_0,.slice c1p c1n c1c,.slice c2p c2n c2c,.int .i64 c_3] 28) w2 n3 w4→
 ∃x5 x6p x6n x6c,CellsAt w4 (Addr.mk n1 0 none) 0 [.int .i64 x5,.slice x6p x6n x6c]∧
 Calls prog 7 #[.agg #[.int .i64 x5,.slice x6p x6n x6c]] w4 fun e w7=> ∃r8,e= .returned (.bool r8)∧
 cnd (!r8)
 (Calls prog 9 #[] w7 fun e w9=> ∃r10,e= .returned (.bool r10)∧
 K (.bool r10) w9)
 (∃x11p x11n x11c,w7.cell? ((Addr.mk n3 0 none).add 2)=some (.slice x11p x11n x11c)∧
 Calls prog 8 #[.slice x11p x11n x11c] w7 fun e w12=> ∃r13,e= .returned (.bool r13)∧
 cnd (!r13)
 (Calls prog 9 #[] w12 fun e w14=> ∃r15,e= .returned (.bool r15)∧
 K (.bool r15) w14)
 (∃x16p x16n x16c,w12.cell? ((Addr.mk n3 0 none).add 2)=some (.slice x16p x16n x16c)∧
 cnd (decide ((x16n:Int)> (30:Int)))
 (Calls prog 9 #[] w12 fun e w17=> ∃r18,e= .returned (.bool r18)∧
   K (.bool r18) w17)
 (∃W19:World→Prop,W19 w12.drew∧
   ∃x20 x21p x21n x21c,CellsW W19 (Addr.mk n1 0 none) [.int .i64 x20,.slice x21p x21n x21c]∧
   ∃x22 x23p x23n x23c x24p x24n x24c x25,CellsW W19 (Addr.mk n3 0 none) [.int .i64 x22,.slice x23p x23n x23c,.slice x24p x24n x24c,.int .i64 x25]∧
   Calls prog 10 #[.agg #[.int .i64 x20,.slice x21p x21n x21c],.agg #[.int .i64 x22,.slice x23p x23n x23c,.slice x24p x24n x24c,.int .i64 x25]] w12.drew fun e w26=> ∃r27,e= .returned (.int .i64 r27)∧
   W19 w26∧∃x28 x29p x29n x29c,CellsW W19 (Addr.mk n1 0 none) [.int .i64 x28,.slice x29p x29n x29c]∧
   ∃x30 x31p x31n x31c x32p x32n x32c x33,CellsW W19 (Addr.mk n3 0 none) [.int .i64 x30,.slice x31p x31n x31c,.slice x32p x32n x32c,.int .i64 x33]∧
   Calls prog 11 #[.agg #[.int .i64 x28,.slice x29p x29n x29c],.agg #[.int .i64 x30,.slice x31p x31n x31c,.slice x32p x32n x32c,.int .i64 x33]] w26 fun e w34=> ∃r35,e= .returned (.int .i64 r35)∧
   cnd (r27==r35)
   (Calls prog 9 #[] w34 fun e w36=> ∃r37,e= .returned (.bool r37)∧
   K (.bool r37) w36)
   (K (.bool false) w34))))
theorem fathomlaw37_CertifyChecks.calls {f_0 f1p f1n f1c c_0 c1p c1n c1c c2p c2n c2c c_3 w R} (h:fathomlaw37_CertifyChecks.w f_0 f1p f1n f1c c_0 c1p c1n c1c c2p c2n c2c c_3 w fun v w'=>R (.returned v) w'):Calls prog 3 #[.agg #[.int .i64 f_0,.slice f1p f1n f1c],.agg #[.int .i64 c_0,.slice c1p c1n c1c,.slice c2p c2n c2c,.int .i64 c_3]] w R:=
 calls_of mixed Tryz.func3 (by kernel_rfl) rfl (ann:=(.two .leaf (.two .leaf (.two .draw .leaf)))) (F:=fathomlaw37_CertifyChecks.w f_0 f1p f1n f1c c_0 c1p c1n c1c c2p c2n c2c c_3 w) (fun K=>by kernel_rfl) h
def fathomlaw07_Small.w (f_0:Int) (f1p:Option Addr) (f1n:Nat) (f1c:Nat) (w:World) (K:Value→World→Prop):Prop:=
 ∀n1 w2,New (.cells #[.int .i64 f_0,.slice f1p f1n f1c] 24) w n1 w2→
 ∃x3 x4p x4n x4c,CellsAt w2 (Addr.mk n1 0 none) 0 [.int .i64 x3,.slice x4p x4n x4c]∧
 Calls prog 24 #[.agg #[.int .i64 x3,.slice x4p x4n x4c]] w2 fun e w5=> ∃r6,e= .returned (.bool r6)∧
 cnd r6
 (∃x7p x7n x7c,w5.cell? ((Addr.mk n1 0 none).add 1)=some (.slice x7p x7n x7c)∧
 K (.bool (decide ((x7n:Int)≤(40:Int)))) w5)
 (K (.bool false) w5)
theorem fathomlaw07_Small.calls {f_0 f1p f1n f1c w R} (h:fathomlaw07_Small.w f_0 f1p f1n f1c w fun v w'=>R (.returned v) w'):Calls prog 7 #[.agg #[.int .i64 f_0,.slice f1p f1n f1c]] w R:=
 calls_of mixed Tryz.func7 (by kernel_rfl) rfl (ann:= .leaf) (F:=fathomlaw07_Small.w f_0 f1p f1n f1c w) (fun K=>by kernel_rfl) h
def fathomlaw04_Light.w (a:Option Addr) (b:Nat) (c:Nat) (w:World) (K:Value→World→Prop):Prop:=
 ∃I1:Int→Int→World→Nat→Prop,(∃k2,I1 0 0 w k2)∧
 ∀n_4 i_5 w6 k2 (_:Fr),I1 n_4 i_5 w6 k2→
 cnd (decide (i_5< (b:Int)))
  (cnd (decide (i_5≤(300:Int)))
  (ixK a b i_5 2 fun a7=>
    ∃x8p x8n x8c,w6.cell? (a7.add 1)=some (.slice x8p x8n x8c)∧
    cnd (decide ((x8n:Int)> (5000:Int)))
    (K (.bool false) w6)
    (ixK a b i_5 2 fun a9=>
      ∃x10p:Option Addr,∃x10n:Nat,∃x10c:Nat,w6.cell? (a9.add 1)=some (.slice x10p x10n x10c)∧
      ∃k3,k3<k2∧I1 (i64.wrap (n_4+ (x10n:Int))) (i64.wrap (i_5+ (1:Int))) w6 k3))
  (cnd (decide ((b:Int)≤(300:Int)))
    (K (.bool (decide (n_4≤(6000:Int)))) w6)
    (K (.bool false) w6)))
  (cnd (decide ((b:Int)≤(300:Int)))
  (K (.bool (decide (n_4≤(6000:Int)))) w6)
  (K (.bool false) w6))
theorem fathomlaw04_Light.calls {a b c w R} (h:fathomlaw04_Light.w a b c w fun v w'=>R (.returned v) w'):Calls prog 8 #[.slice a b c] w R:=
 calls_of mixed Tryz.func8 (by kernel_rfl) rfl (ann:=(.two .leaf (.two .leaf (.two (.two .leaf (.one (.loop [(3,3),(4,3)] .leaf))) .leaf)))) (F:=fathomlaw04_Light.w a b c w) (fun K=>by kernel_rfl) h
def fathomlaw37_awake.w (w:World) (K:Value→World→Prop):Prop:=
 ∀n1 w2,New (.cells #[.int .i64 1,.int .i64 2] 3) w n1 w2→
 ∀n3 w4,New (.cells #[.int .i64 (-1),.int .i64 2] 3) w2 n3 w4→
 ∀n5 w6,New (.cells #[.int .i64 (-2)] 3) w4 n5 w6→
 ∀n7 w8,New (.cells #[.int .i64 3] 3) w6 n7 w8→
 ∀n9 w10,New (.cells #[.slice (some (Addr.mk n1 0 none)) 2 2,.slice (some (Addr.mk n3 0 none)) 2 2,.slice (some (Addr.mk n5 0 none)) 1 1,.slice (some (Addr.mk n7 0 none)) 1 1] 25) w8 n9 w10→
 ∀n11 w12,New (.cells #[.int .i64 0,.slice none 0 0] 24) w10 n11 w12→
 ∃w13,StoreAt (Addr.mk n11 0 none) 0 [.int .i64 3,.slice (some (Addr.mk n9 0 none)) 4 4] w12 w13∧
 ∃W14:World→Prop,W14 w13.drew∧
 ∃x15 x16p x16n x16c,CellsW W14 (Addr.mk n11 0 none) [.int .i64 x15,.slice x16p x16n x16c]∧
 (Calls prog 21 #[] w13.drew fun e w17=> ∃r18 r19 r20,e= .returned (.agg #[.int .i64 r18,.int .i64 r19,.int .i64 r20])∧
 W14 w17∧(Calls prog 17 #[.agg #[.int .i64 x15,.slice x16p x16n x16c],.agg #[.int .i64 r18,.int .i64 r19,.int .i64 r20]] w17 fun e w21=> ∃r22 r23p r23n r23c r24p r24n r24c r25,e= .returned (.tuple #[.agg #[.int .i64 r22,.slice r23p r23n r23c],.slice r24p r24n r24c,.int .i64 r25])∧
 ∀n26 w27,New (.cells #[.int .i64 0,.slice none 0 0] 24) w21 n26 w27→
 W14 w27∧∃w28,StoreAt (Addr.mk n26 0 none) 0 [.int .i64 r22,.slice r23p r23n r23c] w27 w28∧
 cnd (r25==(0:Int))
 (∃x29p x29n x29c,w28.cell? ((Addr.mk n26 0 none).add 1)=some (.slice x29p x29n x29c)∧
 cnd ((x29n:Int)==(3:Int))
 (K (.bool (decide ((r24n:Int)> (0:Int)))) w28)
 (K (.bool false) w28))
 (K (.bool false) w28))∧
(∀n30 w31,New (.cells #[.int .i64 0,.slice none 0 0] 24) w17 n30 w31→
  W14 w31∧Calls prog 17 #[.agg #[.int .i64 x15,.slice x16p x16n x16c],.agg #[.int .i64 r18,.int .i64 r19,.int .i64 r20]] w31 fun e w32=> ∃r33 r34p r34n r34c r35p r35n r35c r36,e= .returned (.tuple #[.agg #[.int .i64 r33,.slice r34p r34n r34c],.slice r35p r35n r35c,.int .i64 r36])∧
  ∃w37,StoreAt (Addr.mk n30 0 none) 0 [.int .i64 r33,.slice r34p r34n r34c] w32 w37∧
  cnd (r36==(0:Int))
  (∃x38p x38n x38c,w37.cell? ((Addr.mk n30 0 none).add 1)=some (.slice x38p x38n x38c)∧
  cnd ((x38n:Int)==(3:Int))
  (K (.bool (decide ((r35n:Int)> (0:Int)))) w37)
  (K (.bool false) w37))
  (K (.bool false) w37)))∧
(∀n39 w40,New (.cells #[.int .i64 0,.slice none 0 0] 24) w13.drew n39 w40→
  W14 w40∧Calls prog 21 #[] w40 fun e w41=> ∃r42 r43 r44,e= .returned (.agg #[.int .i64 r42,.int .i64 r43,.int .i64 r44])∧
  W14 w41∧Calls prog 17 #[.agg #[.int .i64 x15,.slice x16p x16n x16c],.agg #[.int .i64 r42,.int .i64 r43,.int .i64 r44]] w41 fun e w45=> ∃r46 r47p r47n r47c r48p r48n r48c r49,e= .returned (.tuple #[.agg #[.int .i64 r46,.slice r47p r47n r47c],.slice r48p r48n r48c,.int .i64 r49])∧
  ∃w50,StoreAt (Addr.mk n39 0 none) 0 [.int .i64 r46,.slice r47p r47n r47c] w45 w50∧
  cnd (r49==(0:Int))
  (∃x51p x51n x51c,w50.cell? ((Addr.mk n39 0 none).add 1)=some (.slice x51p x51n x51c)∧
  cnd ((x51n:Int)==(3:Int))
  (K (.bool (decide ((r48n:Int)> (0:Int)))) w50)
  (K (.bool false) w50))
  (K (.bool false) w50))
theorem fathomlaw37_awake.calls {w R} (h:fathomlaw37_awake.w w fun v w'=>R (.returned v) w'):Calls prog 9 #[] w R:=
 calls_of mixed Tryz.func9 (by kernel_rfl) rfl (ann:=(.two .leaf (.two .leaf (.two .draw .leaf)))) (F:=fathomlaw37_awake.w w) (fun K=>by kernel_rfl) h
def certify_Check.w (f_0:Int) (f1p:Option Addr) (f1n:Nat) (f1c:Nat) (c_0:Int) (c1p:Option Addr) (c1n:Nat) (c1c:Nat) (c2p:Option Addr) (c2n:Nat) (c2c:Nat) (c_3:Int) (w:World) (K:Value→World→Prop):Prop:=
 ∀n1 w2,New (.cells #[.int .i64 f_0,.slice f1p f1n f1c] 24) w n1 w2→
 ∀n3 w4,New (.cells #[.int .i64 c_0,.slice c1p c1n c1c,.slice c2p c2n c2c,.int .i64 c_3] 28) w2 n3 w4→
 ∃x5 x6p x6n x6c,CellsAt w4 (Addr.mk n1 0 none) 0 [.int .i64 x5,.slice x6p x6n x6c]∧
 Calls prog 25 #[.agg #[.int .i64 x5,.slice x6p x6n x6c]] w4 fun e w7=> ∃r8,e= .returned (.int .i64 r8)∧
 cnd (r8 !=(0:Int))
 (K (.int .i64 1) w7)
 (∃x9p x9n x9c,w7.cell? ((Addr.mk n3 0 none).add 2)=some (.slice x9p x9n x9c)∧
 Calls prog 26 #[.slice x9p x9n x9c] w7 fun e w10=> ∃r11,e= .returned (.int .i64 r11)∧
 cnd (r11 !=(0:Int))
 (K (.int .i64 1) w10)
 (∃x12,w10.cell? ((Addr.mk n3 0 none).add 0)=some (.int .i64 x12)∧
 cnd (decide (x12< (0:Int)))
 (K (.int .i64 1) w10)
 (∃x13,w10.cell? ((Addr.mk n3 0 none).add 0)=some (.int .i64 x13)∧
 cnd (decide (x13> (2:Int)))
 (K (.int .i64 1) w10)
 (∃x14,w10.cell? ((Addr.mk n3 0 none).add 0)=some (.int .i64 x14)∧
   cnd (x14==(1:Int))
   (∃x15p x15n x15c,w10.cell? ((Addr.mk n3 0 none).add 1)=some (.slice x15p x15n x15c)∧
     ∃x16,w10.cell? ((Addr.mk n1 0 none).add 0)=some (.int .i64 x16)∧
     cnd ((x15n:Int) !=x16)
     (K (.int .i64 7) w10)
     (∃x17 x18p x18n x18c,CellsAt w10 (Addr.mk n1 0 none) 0 [.int .i64 x17,.slice x18p x18n x18c]∧
     ∃x19p x19n x19c,w10.cell? ((Addr.mk n3 0 none).add 1)=some (.slice x19p x19n x19c)∧
     Calls prog 27 #[.agg #[.int .i64 x17,.slice x18p x18n x18c],.slice x19p x19n x19c] w10 fun e w20=> ∃r21,e= .returned (.bool r21)∧
     cnd (!r21)
     (K (.int .i64 7) w20)
     (K (.int .i64 0) w20)))
   (cnd (x14==(2:Int))
     (∃x22 x23p x23n x23c,CellsAt w10 (Addr.mk n1 0 none) 0 [.int .i64 x22,.slice x23p x23n x23c]∧
       ∃x24p x24n x24c,w10.cell? ((Addr.mk n3 0 none).add 2)=some (.slice x24p x24n x24c)∧
       Calls prog 28 #[.agg #[.int .i64 x22,.slice x23p x23n x23c],.slice x24p x24n x24c] w10 fun e w25=> ∃r26 r27,e= .returned (.tuple #[.int .i64 r26,.int .i64 r27])∧
       cnd (r27 !=(0:Int))
       (K (.int .i64 7) w25)
       (K (.int .i64 0) w25))
     (K (.int .i64 7) w10))))))
theorem certify_Check.calls {f_0 f1p f1n f1c c_0 c1p c1n c1c c2p c2n c2c c_3 w R} (h:certify_Check.w f_0 f1p f1n f1c c_0 c1p c1n c1c c2p c2n c2c c_3 w fun v w'=>R (.returned v) w'):Calls prog 10 #[.agg #[.int .i64 f_0,.slice f1p f1n f1c],.agg #[.int .i64 c_0,.slice c1p c1n c1c,.slice c2p c2n c2c,.int .i64 c_3]] w R:=
 calls_of mixed Tryz.func10 (by kernel_rfl) rfl (ann:= .leaf) (F:=certify_Check.w f_0 f1p f1n f1c c_0 c1p c1n c1c c2p c2n c2c c_3 w) (fun K=>by kernel_rfl) h
def fathomref37_Check.w (f_0:Int) (f1p:Option Addr) (f1n:Nat) (f1c:Nat) (c_0:Int) (c1p:Option Addr) (c1n:Nat) (c1c:Nat) (c2p:Option Addr) (c2n:Nat) (c2c:Nat) (c_3:Int) (w:World) (K:Value→World→Prop):Prop:=
 ∀n1 w2,New (.cells #[.int .i64 f_0,.slice f1p f1n f1c] 24) w n1 w2→
 ∀n3 w4,New (.cells #[.int .i64 c_0,.slice c1p c1n c1c,.slice c2p c2n c2c,.int .i64 c_3] 28) w2 n3 w4→
 ∃x5 x6p x6n x6c,CellsAt w4 (Addr.mk n1 0 none) 0 [.int .i64 x5,.slice x6p x6n x6c]∧
 Calls prog 13 #[.agg #[.int .i64 x5,.slice x6p x6n x6c]] w4 fun e w7=> ∃r8,e= .returned (.bool r8)∧
 cnd (!r8)
 (K (.int .i64 1) w7)
 (∃x9p x9n x9c,w7.cell? ((Addr.mk n3 0 none).add 2)=some (.slice x9p x9n x9c)∧
 Calls prog 29 #[.slice x9p x9n x9c] w7 fun e w10=> ∃r11,e= .returned (.bool r11)∧
 cnd (!r11)
 (K (.int .i64 1) w10)
 (∃x12,w10.cell? ((Addr.mk n3 0 none).add 0)=some (.int .i64 x12)∧
 cnd (decide (x12< (0:Int)))
 (K (.int .i64 1) w10)
 (∃x13,w10.cell? ((Addr.mk n3 0 none).add 0)=some (.int .i64 x13)∧
 cnd (decide (x13> (2:Int)))
 (K (.int .i64 1) w10)
 (∃x14,w10.cell? ((Addr.mk n3 0 none).add 0)=some (.int .i64 x14)∧
   cnd (x14==(1:Int))
   (∃x15p x15n x15c,w10.cell? ((Addr.mk n3 0 none).add 1)=some (.slice x15p x15n x15c)∧
   ∃x16,w10.cell? ((Addr.mk n1 0 none).add 0)=some (.int .i64 x16)∧
   cnd ((x15n:Int)==x16)
   (∃x17 x18p x18n x18c,CellsAt w10 (Addr.mk n1 0 none) 0 [.int .i64 x17,.slice x18p x18n x18c]∧
   ∃x19p x19n x19c,w10.cell? ((Addr.mk n3 0 none).add 1)=some (.slice x19p x19n x19c)∧
   Calls prog 30 #[.agg #[.int .i64 x17,.slice x18p x18n x18c],.slice x19p x19n x19c] w10 fun e w20=> ∃r21,e= .returned (.bool r21)∧
   cnd r21
   (K (.int .i64 0) w20)
   (∃x22,w20.cell? ((Addr.mk n3 0 none).add 0)=some (.int .i64 x22)∧
     cnd (x22==(2:Int))
     (∃x23 x24p x24n x24c,CellsAt w20 (Addr.mk n1 0 none) 0 [.int .i64 x23,.slice x24p x24n x24c]∧
       ∃x25p x25n x25c,w20.cell? ((Addr.mk n3 0 none).add 2)=some (.slice x25p x25n x25c)∧
       Calls prog 31 #[.agg #[.int .i64 x23,.slice x24p x24n x24c],.slice x25p x25n x25c] w20 fun e w26=> ∃r27 r28,e= .returned (.tuple #[.int .i64 r27,.int .i64 r28])∧
       cnd (r28==(0:Int))
       (K (.int .i64 0) w26)
       (K (.int .i64 7) w26))
     (K (.int .i64 7) w20)))
   (∃x29,w10.cell? ((Addr.mk n3 0 none).add 0)=some (.int .i64 x29)∧
   cnd (x29==(2:Int))
   (∃x30 x31p x31n x31c,CellsAt w10 (Addr.mk n1 0 none) 0 [.int .i64 x30,.slice x31p x31n x31c]∧
     ∃x32p x32n x32c,w10.cell? ((Addr.mk n3 0 none).add 2)=some (.slice x32p x32n x32c)∧
     Calls prog 31 #[.agg #[.int .i64 x30,.slice x31p x31n x31c],.slice x32p x32n x32c] w10 fun e w33=> ∃r34 r35,e= .returned (.tuple #[.int .i64 r34,.int .i64 r35])∧
     cnd (r35==(0:Int))
     (K (.int .i64 0) w33)
     (K (.int .i64 7) w33))
   (K (.int .i64 7) w10)))
   (∃x36,w10.cell? ((Addr.mk n3 0 none).add 0)=some (.int .i64 x36)∧
   cnd (x36==(2:Int))
   (∃x37 x38p x38n x38c,CellsAt w10 (Addr.mk n1 0 none) 0 [.int .i64 x37,.slice x38p x38n x38c]∧
     ∃x39p x39n x39c,w10.cell? ((Addr.mk n3 0 none).add 2)=some (.slice x39p x39n x39c)∧
     Calls prog 31 #[.agg #[.int .i64 x37,.slice x38p x38n x38c],.slice x39p x39n x39c] w10 fun e w40=> ∃r41 r42,e= .returned (.tuple #[.int .i64 r41,.int .i64 r42])∧
     cnd (r42==(0:Int))
     (K (.int .i64 0) w40)
     (K (.int .i64 7) w40))
   (K (.int .i64 7) w10))))))
theorem fathomref37_Check.calls {f_0 f1p f1n f1c c_0 c1p c1n c1c c2p c2n c2c c_3 w R} (h:fathomref37_Check.w f_0 f1p f1n f1c c_0 c1p c1n c1c c2p c2n c2c c_3 w fun v w'=>R (.returned v) w'):Calls prog 11 #[.agg #[.int .i64 f_0,.slice f1p f1n f1c],.agg #[.int .i64 c_0,.slice c1p c1n c1c,.slice c2p c2n c2c,.int .i64 c_3]] w R:=
 calls_of mixed Tryz.func11 (by kernel_rfl) rfl (ann:= .leaf) (F:=fathomref37_Check.w f_0 f1p f1n f1c c_0 c1p c1n c1c c2p c2n c2c c_3 w) (fun K=>by kernel_rfl) h
def certify_Solve.w (f_0:Int) (f1p:Option Addr) (f1n:Nat) (f1c:Nat) (s_0:Int) (s_1:Int) (s_2:Int) (w:World) (K:Value→World→Prop):Prop:=
 ∀n1 w2,New (.cells #[.int .i64 f_0,.slice f1p f1n f1c] 24) w n1 w2→
 ∀n3 w4,New (.cells #[.int .i64 s_0,.int .i64 s_1,.int .i64 s_2] 36) w2 n3 w4→
 ∀n5 w6,New (.cells #[.int .i64 0,.slice none 0 0,.slice none 0 0,.int .i64 0] 28) w4 n5 w6→
 ∃x7 x8p x8n x8c,CellsAt w6 (Addr.mk n1 0 none) 0 [.int .i64 x7,.slice x8p x8n x8c]∧
 ∃x9 x10 x11,CellsAt w6 (Addr.mk n3 0 none) 0 [.int .i64 x9,.int .i64 x10,.int .i64 x11]∧
 Calls prog 32 #[.agg #[.int .i64 x7,.slice x8p x8n x8c],.agg #[.int .i64 x9,.int .i64 x10,.int .i64 x11]] w6 fun e w12=> ∃r13 r14p r14n r14c r15p r15n r15c r16 r17 r18 r19 r20,e= .returned (.tuple #[.agg #[.int .i64 r13,.slice r14p r14n r14c,.slice r15p r15n r15c,.int .i64 r16,.int .i64 r17,.int .i64 r18,.int .i64 r19],.int .i64 r20])∧
 ∀n21 w22,New (.cells #[.int .i64 0,.slice none 0 0,.slice none 0 0,.int .i64 0,.int .i64 0,.int .i64 0,.int .i64 0] 65) w12 n21 w22→
 ∃w23,StoreAt (Addr.mk n21 0 none) 0 [.int .i64 r13,.slice r14p r14n r14c,.slice r15p r15n r15c,.int .i64 r16,.int .i64 r17,.int .i64 r18,.int .i64 r19] w22 w23∧
 ∃x24,w23.cell? ((Addr.mk n21 0 none).add 0)=some (.int .i64 x24)∧
 ∃x25p x25n x25c,w23.cell? ((Addr.mk n21 0 none).add 1)=some (.slice x25p x25n x25c)∧
 ∃x26p x26n x26c,w23.cell? ((Addr.mk n21 0 none).add 2)=some (.slice x26p x26n x26c)∧
 ∃x27,w23.cell? ((Addr.mk n21 0 none).add 3)=some (.int .i64 x27)∧
 ∀n28 w29,New (.cells #[.int .i64 0,.slice none 0 0,.slice none 0 0,.int .i64 0] 28) w23 n28 w29→
 ∃w30,StoreAt (Addr.mk n28 0 none) 0 [.int .i64 x24,.slice x25p x25n x25c,.slice x26p x26n x26c,.int .i64 x27] w29 w30∧
 cnd (r20 !=(0:Int))
 (∃x31 x32p x32n x32c x33p x33n x33c x34,CellsAt w30 (Addr.mk n28 0 none) 0 [.int .i64 x31,.slice x32p x32n x32c,.slice x33p x33n x33c,.int .i64 x34]∧
   ∃w35,StoreAt (Addr.mk n5 0 none) 0 [.int .i64 x31,.slice x32p x32n x32c,.slice x33p x33n x33c,.int .i64 x34] w30 w35∧
   ∃x36 x37p x37n x37c x38p x38n x38c x39,CellsAt w35 (Addr.mk n5 0 none) 0 [.int .i64 x36,.slice x37p x37n x37c,.slice x38p x38n x38c,.int .i64 x39]∧
   K (.tuple #[.agg #[.int .i64 x36,.slice x37p x37n x37c,.slice x38p x38n x38c,.int .i64 x39],.int .i64 r20]) w35)
 (∃x40 x41p x41n x41c,CellsAt w30 (Addr.mk n1 0 none) 0 [.int .i64 x40,.slice x41p x41n x41c]∧
   ∃x42 x43p x43n x43c x44p x44n x44c x45,CellsAt w30 (Addr.mk n28 0 none) 0 [.int .i64 x42,.slice x43p x43n x43c,.slice x44p x44n x44c,.int .i64 x45]∧
   Calls prog 10 #[.agg #[.int .i64 x40,.slice x41p x41n x41c],.agg #[.int .i64 x42,.slice x43p x43n x43c,.slice x44p x44n x44c,.int .i64 x45]] w30 fun e w46=> ∃r47,e= .returned (.int .i64 r47)∧
   cnd (r47 !=(0:Int))
   (∃w48,StoreAt (Addr.mk n5 0 none) 0 [.int .i64 0,.slice none 0 0,.slice none 0 0,.int .i64 0] w46 w48∧
     ∃x49 x50p x50n x50c x51p x51n x51c x52,CellsAt w48 (Addr.mk n5 0 none) 0 [.int .i64 x49,.slice x50p x50n x50c,.slice x51p x51n x51c,.int .i64 x52]∧
     K (.tuple #[.agg #[.int .i64 x49,.slice x50p x50n x50c,.slice x51p x51n x51c,.int .i64 x52],.int .i64 r47]) w48)
   (∃x53 x54p x54n x54c x55p x55n x55c x56,CellsAt w46 (Addr.mk n28 0 none) 0 [.int .i64 x53,.slice x54p x54n x54c,.slice x55p x55n x55c,.int .i64 x56]∧
     ∃w57,StoreAt (Addr.mk n5 0 none) 0 [.int .i64 x53,.slice x54p x54n x54c,.slice x55p x55n x55c,.int .i64 x56] w46 w57∧
     ∃x58 x59p x59n x59c x60p x60n x60c x61,CellsAt w57 (Addr.mk n5 0 none) 0 [.int .i64 x58,.slice x59p x59n x59c,.slice x60p x60n x60c,.int .i64 x61]∧
     K (.tuple #[.agg #[.int .i64 x58,.slice x59p x59n x59c,.slice x60p x60n x60c,.int .i64 x61],.int .i64 0]) w57))
theorem certify_Solve.calls {f_0 f1p f1n f1c s_0 s_1 s_2 w R} (h:certify_Solve.w f_0 f1p f1n f1c s_0 s_1 s_2 w fun v w'=>R (.returned v) w'):Calls prog 12 #[.agg #[.int .i64 f_0,.slice f1p f1n f1c],.agg #[.int .i64 s_0,.int .i64 s_1,.int .i64 s_2]] w R:=
 calls_of mixed Tryz.func12 (by kernel_rfl) rfl (ann:= .leaf) (F:=certify_Solve.w f_0 f1p f1n f1c s_0 s_1 s_2 w) (fun K=>by kernel_rfl) h
def fathomref01_Cnf.w (f_0:Int) (f1p:Option Addr) (f1n:Nat) (f1c:Nat) (w:World) (K:Value→World→Prop):Prop:=
 ∀n1 w2,New (.cells #[.int .i64 f_0,.slice f1p f1n f1c] 24) w n1 w2→
 ∃x3,w2.cell? ((Addr.mk n1 0 none).add 0)=some (.int .i64 x3)∧
 cnd (decide (x3< (0:Int)))
 (K (.bool false) w2)
 (∃x4,w2.cell? ((Addr.mk n1 0 none).add 0)=some (.int .i64 x4)∧
 cnd (decide (x4> (1048576:Int)))
 (K (.bool false) w2)
 (∃x5p x5n x5c,w2.cell? ((Addr.mk n1 0 none).add 1)=some (.slice x5p x5n x5c)∧
 cnd (decide ((x5n:Int)> (262144:Int)))
 (K (.bool false) w2)
 (∃I6:Int→World→Nat→Prop,(∃k7,I6 0 w2 k7)∧
   ∀i_9 w10 k7 (_:Fr),I6 i_9 w10 k7→
   ∃x11p x11n x11c,w10.cell? ((Addr.mk n1 0 none).add 1)=some (.slice x11p x11n x11c)∧
    cnd (decide (i_9< (x11n:Int)))
    (∃x12p x12n x12c,w10.cell? ((Addr.mk n1 0 none).add 1)=some (.slice x12p x12n x12c)∧
      ixK x12p x12n i_9 1 fun a13=>
      ∃x14p x14n x14c,w10.cell? a13=some (.slice x14p x14n x14c)∧
      Calls prog 33 #[.slice x14p x14n x14c] w10 fun e w15=> ∃r16,e= .returned (.bool r16)∧
      cnd (!r16)
      (K (.bool false) w15)
      (∃I17:Int→World→Nat→Prop,(∃k18,I17 0 w15 k18)∧
        ∀k_20 w21 k18 (_:Fr),I17 k_20 w21 k18→
        ∃x22p x22n x22c,w21.cell? ((Addr.mk n1 0 none).add 1)=some (.slice x22p x22n x22c)∧
         ixK x22p x22n i_9 1 fun a23=>
         ∃x24p x24n x24c,w21.cell? a23=some (.slice x24p x24n x24c)∧
         cnd (decide (k_20< (x24n:Int)))
         (∃x25p x25n x25c,w21.drew.cell? ((Addr.mk n1 0 none).add 1)=some (.slice x25p x25n x25c)∧
           ixK x25p x25n i_9 1 fun a26=>
           ∃x27p x27n x27c,w21.drew.cell? a26=some (.slice x27p x27n x27c)∧
           ixK x27p x27n k_20 1 fun a28=>
           ∃x29,w21.drew.cell? a28=some (.int .i64 x29)∧
           (Calls prog 34 #[.int .i64 x29] w21.drew fun e w30=> ∃r31,e= .returned (.int .i64 r31)∧
           ∃x32,w30.cell? ((Addr.mk n1 0 none).add 0)=some (.int .i64 x32)∧
           cnd (decide (r31>x32))
           (K (.bool false) w30)
           (∃k19,k19<k18∧I17 (i64.wrap (k_20+ (1:Int))) w30 k19))∧
         (∃x33,w21.drew.cell? ((Addr.mk n1 0 none).add 0)=some (.int .i64 x33)∧
           Calls prog 34 #[.int .i64 x29] w21.drew fun e w34=> ∃r35,e= .returned (.int .i64 r35)∧
           cnd (decide (r35>x33))
           (K (.bool false) w34)
           (∃k19,k19<k18∧I17 (i64.wrap (k_20+ (1:Int))) w34 k19)))
         (∃k8,k8<k7∧I6 (i64.wrap (i_9+ (1:Int))) w21 k8)))
    (K (.bool true) w10))))
theorem fathomref01_Cnf.calls {f_0 f1p f1n f1c w R} (h:fathomref01_Cnf.w f_0 f1p f1n f1c w fun v w'=>R (.returned v) w'):Calls prog 13 #[.agg #[.int .i64 f_0,.slice f1p f1n f1c]] w R:=
 calls_of mixed Tryz.func13 (by kernel_rfl) rfl (ann:=(.two .leaf (.two .leaf (.two (.two .leaf (.one (.loop [(3,3)] (.two .leaf (.two (.one (.two .leaf (.two .leaf (.one (.loop [(4,3)] .leaf))))) .leaf))))) .leaf)))) (F:=fathomref01_Cnf.w f_0 f1p f1n f1c w) (fun K=>by kernel_rfl) h
def certify_Core.w (f_0:Int) (f1p:Option Addr) (f1n:Nat) (f1c:Nat) (s_0:Int) (s_1:Int) (s_2:Int) (w:World) (K:Value→World→Prop):Prop:=
 ∀n1 w2,New (.cells #[.int .i64 f_0,.slice f1p f1n f1c] 24) w n1 w2→
 ∀n3 w4,New (.cells #[.int .i64 s_0,.int .i64 s_1,.int .i64 s_2] 36) w2 n3 w4→
 ∀n5 w6,New (.cells #[.int .i64 0,.slice none 0 0] 24) w4 n5 w6→
 ∃x7 x8p x8n x8c,CellsAt w6 (Addr.mk n1 0 none) 0 [.int .i64 x7,.slice x8p x8n x8c]∧
 ∃x9 x10 x11,CellsAt w6 (Addr.mk n3 0 none) 0 [.int .i64 x9,.int .i64 x10,.int .i64 x11]∧
 Calls prog 12 #[.agg #[.int .i64 x7,.slice x8p x8n x8c],.agg #[.int .i64 x9,.int .i64 x10,.int .i64 x11]] w6 fun e w12=> ∃r13 r14p r14n r14c r15p r15n r15c r16 r17,e= .returned (.tuple #[.agg #[.int .i64 r13,.slice r14p r14n r14c,.slice r15p r15n r15c,.int .i64 r16],.int .i64 r17])∧
 ∀n18 w19,New (.cells #[.int .i64 0,.slice none 0 0,.slice none 0 0,.int .i64 0] 28) w12 n18 w19→
 ∃w20,StoreAt (Addr.mk n18 0 none) 0 [.int .i64 r13,.slice r14p r14n r14c,.slice r15p r15n r15c,.int .i64 r16] w19 w20∧
 cnd (r17 !=(0:Int))
 (∃w21,StoreAt (Addr.mk n5 0 none) 0 [.int .i64 0,.slice none 0 0] w20 w21∧
   ∃x22 x23p x23n x23c,CellsAt w21 (Addr.mk n5 0 none) 0 [.int .i64 x22,.slice x23p x23n x23c]∧
   K (.tuple #[.agg #[.int .i64 x22,.slice x23p x23n x23c],.slice none 0 0,.int .i64 r17]) w21)
 (∃x24,w20.cell? ((Addr.mk n18 0 none).add 0)=some (.int .i64 x24)∧
   cnd (x24 !=(2:Int))
   (∃w25,StoreAt (Addr.mk n5 0 none) 0 [.int .i64 0,.slice none 0 0] w20 w25∧
     ∃x26 x27p x27n x27c,CellsAt w25 (Addr.mk n5 0 none) 0 [.int .i64 x26,.slice x27p x27n x27c]∧
     K (.tuple #[.agg #[.int .i64 x26,.slice x27p x27n x27c],.slice none 0 0,.int .i64 4]) w25)
   (∃x28 x29p x29n x29c,CellsAt w20 (Addr.mk n1 0 none) 0 [.int .i64 x28,.slice x29p x29n x29c]∧
     ∃x30p x30n x30c,w20.cell? ((Addr.mk n18 0 none).add 2)=some (.slice x30p x30n x30c)∧
     Calls prog 36 #[.agg #[.int .i64 x28,.slice x29p x29n x29c],.slice x30p x30n x30c] w20 fun e w31=> ∃r32p r32n r32c r33p r33n r33c r34,e= .returned (.tuple #[.agg #[.slice r32p r32n r32c,.slice r33p r33n r33c],.int .i64 r34])∧
     ∀n35 w36,New (.cells #[.slice none 0 0,.slice none 0 0] 72) w31 n35 w36→
     ∃w37,StoreAt (Addr.mk n35 0 none) 0 [.slice r32p r32n r32c,.slice r33p r33n r33c] w36 w37∧
     cnd (r34 !=(0:Int))
     (∃w38,StoreAt (Addr.mk n5 0 none) 0 [.int .i64 0,.slice none 0 0] w37 w38∧
       ∃x39 x40p x40n x40c,CellsAt w38 (Addr.mk n5 0 none) 0 [.int .i64 x39,.slice x40p x40n x40c]∧
       K (.tuple #[.agg #[.int .i64 x39,.slice x40p x40n x40c],.slice none 0 0,.int .i64 7]) w38)
     (∃x41 x42p x42n x42c,CellsAt w37 (Addr.mk n1 0 none) 0 [.int .i64 x41,.slice x42p x42n x42c]∧
       ∃x43p x43n x43c,w37.cell? ((Addr.mk n18 0 none).add 2)=some (.slice x43p x43n x43c)∧
       ∃x44p x44n x44c x45p x45n x45c,CellsAt w37 (Addr.mk n35 0 none) 0 [.slice x44p x44n x44c,.slice x45p x45n x45c]∧
       Calls prog 37 #[.agg #[.int .i64 x41,.slice x42p x42n x42c],.slice x43p x43n x43c,.agg #[.slice x44p x44n x44c,.slice x45p x45n x45c]] w37 fun e w46=> ∃r47 r48p r48n r48c r49p r49n r49c r50,e= .returned (.tuple #[.agg #[.int .i64 r47,.slice r48p r48n r48c],.slice r49p r49n r49c,.int .i64 r50])∧
       ∃w51,StoreAt (Addr.mk n5 0 none) 0 [.int .i64 r47,.slice r48p r48n r48c] w46 w51∧
       ∃x52 x53p x53n x53c,CellsAt w51 (Addr.mk n5 0 none) 0 [.int .i64 x52,.slice x53p x53n x53c]∧
       K (.tuple #[.agg #[.int .i64 x52,.slice x53p x53n x53c],.slice r49p r49n r49c,.int .i64 r50]) w51)))
theorem certify_Core.calls {f_0 f1p f1n f1c s_0 s_1 s_2 w R} (h:certify_Core.w f_0 f1p f1n f1c s_0 s_1 s_2 w fun v w'=>R (.returned v) w'):Calls prog 17 #[.agg #[.int .i64 f_0,.slice f1p f1n f1c],.agg #[.int .i64 s_0,.int .i64 s_1,.int .i64 s_2]] w R:=
 calls_of mixed Tryz.func17 (by kernel_rfl) rfl (ann:= .leaf) (F:=certify_Core.w f_0 f1p f1n f1c s_0 s_1 s_2 w) (fun K=>by kernel_rfl) h
def cdcl_Usual.w (w:World) (K:Value→World→Prop):Prop:=
 ∀n1 w2,New (.cells #[.int .i64 0,.int .i64 0,.int .i64 0] 36) w n1 w2→
 ∃w3,StoreAt (Addr.mk n1 0 none) 0 [.int .i64 (-1),.int .i64 64,.int .i64 200] w2 w3∧
 ∃x4 x5 x6,CellsAt w3 (Addr.mk n1 0 none) 0 [.int .i64 x4,.int .i64 x5,.int .i64 x6]∧
 K (.agg #[.int .i64 x4,.int .i64 x5,.int .i64 x6]) w3
theorem cdcl_Usual.calls {w R} (h:cdcl_Usual.w w fun v w'=>R (.returned v) w'):Calls prog 21 #[] w R:=
 calls_of mixed Tryz.func21 (by kernel_rfl) rfl (ann:= .leaf) (F:=cdcl_Usual.w w) (fun K=>by kernel_rfl) h
def fathomlaw01_Light.w (f_0:Int) (f1p:Option Addr) (f1n:Nat) (f1c:Nat) (w:World) (K:Value→World→Prop):Prop:=
 ∀n1 w2,New (.cells #[.int .i64 f_0,.slice f1p f1n f1c] 24) w n1 w2→
 ∃I3:Int→Int→World→Nat→Prop,(∃k4,I3 0 0 w2 k4)∧
 ∀n_6 i_7 w8 k4 (_:Fr),I3 n_6 i_7 w8 k4→
 ∃x9p x9n x9c,w8.cell? ((Addr.mk n1 0 none).add 1)=some (.slice x9p x9n x9c)∧
  cnd (decide (i_7< (x9n:Int)))
  (cnd (decide (i_7≤(300:Int)))
  (∃x10p x10n x10c,w8.cell? ((Addr.mk n1 0 none).add 1)=some (.slice x10p x10n x10c)∧
    ixK x10p x10n i_7 1 fun a11=>
    ∃x12p x12n x12c,w8.cell? a11=some (.slice x12p x12n x12c)∧
    cnd (decide ((x12n:Int)> (5000:Int)))
    (K (.bool false) w8)
    (∃x13p x13n x13c,w8.cell? ((Addr.mk n1 0 none).add 1)=some (.slice x13p x13n x13c)∧
      ixK x13p x13n i_7 1 fun a14=>
      ∃x15p:Option Addr,∃x15n:Nat,∃x15c:Nat,w8.cell? a14=some (.slice x15p x15n x15c)∧
      ∃k5,k5<k4∧I3 (i64.wrap (n_6+ (x15n:Int))) (i64.wrap (i_7+ (1:Int))) w8 k5))
  (∃x16p x16n x16c,w8.cell? ((Addr.mk n1 0 none).add 1)=some (.slice x16p x16n x16c)∧
    cnd (decide ((x16n:Int)≤(300:Int)))
    (K (.bool (decide (n_6≤(6000:Int)))) w8)
    (K (.bool false) w8)))
  (∃x17p x17n x17c,w8.cell? ((Addr.mk n1 0 none).add 1)=some (.slice x17p x17n x17c)∧
  cnd (decide ((x17n:Int)≤(300:Int)))
  (K (.bool (decide (n_6≤(6000:Int)))) w8)
  (K (.bool false) w8))
theorem fathomlaw01_Light.calls {f_0 f1p f1n f1c w R} (h:fathomlaw01_Light.w f_0 f1p f1n f1c w fun v w'=>R (.returned v) w'):Calls prog 24 #[.agg #[.int .i64 f_0,.slice f1p f1n f1c]] w R:=
 calls_of mixed Tryz.func24 (by kernel_rfl) rfl (ann:=(.two .leaf (.two .leaf (.two (.two .leaf (.one (.loop [(3,3),(4,3)] .leaf))) .leaf)))) (F:=fathomlaw01_Light.w f_0 f1p f1n f1c w) (fun K=>by kernel_rfl) h
def lit_CheckCnf.w (f_0:Int) (f1p:Option Addr) (f1n:Nat) (f1c:Nat) (w:World) (K:Value→World→Prop):Prop:=
 ∀n1 w2,New (.cells #[.int .i64 f_0,.slice f1p f1n f1c] 24) w n1 w2→
 ∃x3,w2.cell? ((Addr.mk n1 0 none).add 0)=some (.int .i64 x3)∧
 cnd (decide (x3< (0:Int)))
 (K (.int .i64 1) w2)
 (∃x4,w2.cell? ((Addr.mk n1 0 none).add 0)=some (.int .i64 x4)∧
 cnd (decide (x4> (1048576:Int)))
 (K (.int .i64 1) w2)
 (∃x5p x5n x5c,w2.cell? ((Addr.mk n1 0 none).add 1)=some (.slice x5p x5n x5c)∧
 cnd (decide ((x5n:Int)> (262144:Int)))
 (K (.int .i64 1) w2)
 (∃x6p x6n x6c,w2.cell? ((Addr.mk n1 0 none).add 1)=some (.slice x6p x6n x6c)∧
   ∃I7:Int→World→Nat→Prop,(∃k8,I7 0 w2 k8)∧
   ∀v10 w11 k8 (_:Fr),I7 v10 w11 k8→
   cnd (decide (v10< (x6n:Int)))
    (ixK x6p x6n v10 1 fun a12=>
      ∃x13p x13n x13c,w11.cell? a12=some (.slice x13p x13n x13c)∧
      Calls prog 49 #[.slice x13p x13n x13c] w11 fun e w14=> ∃r15,e= .returned (.int .i64 r15)∧
      cnd (r15 !=(0:Int))
      (K (.int .i64 1) w14)
      (Calls prog 50 #[.slice x13p x13n x13c,.func (.func 51) #[] #[.pointer (some (Addr.mk n1 0 none))]] w14 fun e w16=> ∃r17,e= .returned (.bool r17)∧
      cnd r17
      (K (.int .i64 1) w16)
      (∃k9,k9<k8∧I7 (i64.wrap (v10+ (1:Int))) w16 k9)))
    (K (.int .i64 0) w11))))
theorem lit_CheckCnf.calls {f_0 f1p f1n f1c w R} (h:lit_CheckCnf.w f_0 f1p f1n f1c w fun v w'=>R (.returned v) w'):Calls prog 25 #[.agg #[.int .i64 f_0,.slice f1p f1n f1c]] w R:=
 calls_of mixed Tryz.func25 (by kernel_rfl) rfl (ann:=(.two .leaf (.two .leaf (.two (.two .leaf (.one (.loop [(22,3)] .leaf))) .leaf)))) (F:=lit_CheckCnf.w f_0 f1p f1n f1c w) (fun K=>by kernel_rfl) h
def trace_Check.w (a:Option Addr) (b:Nat) (c:Nat) (w:World) (K:Value→World→Prop):Prop:=
 cnd (decide ((b:Int)> (262144:Int)))
 (K (.int .i64 1) w)
 (Calls prog 53 #[.slice a b c,.func (.func 54) #[] #[]] w fun e w1=> ∃r2,e= .returned (.bool r2)∧
 cnd r2
 (K (.int .i64 1) w1)
 (K (.int .i64 0) w1))
theorem trace_Check.calls {a b c w R} (h:trace_Check.w a b c w fun v w'=>R (.returned v) w'):Calls prog 26 #[.slice a b c] w R:=
 calls_of mixed Tryz.func26 (by kernel_rfl) rfl (ann:= .leaf) (F:=trace_Check.w a b c w) (fun K=>by kernel_rfl) h
def lit_Holds.w (f_0:Int) (f1p:Option Addr) (f1n:Nat) (f1c:Nat) (a:Option Addr) (b:Nat) (c:Nat) (w:World) (K:Value→World→Prop):Prop:=
 ∀n1 w2,New (.cells #[.int .i64 f_0,.slice f1p f1n f1c] 24) w n1 w2→
 ∃x3 x4p x4n x4c,CellsAt w2 (Addr.mk n1 0 none) 0 [.int .i64 x3,.slice x4p x4n x4c]∧
 Calls prog 25 #[.agg #[.int .i64 x3,.slice x4p x4n x4c]] w2 fun e w5=> ∃r6,e= .returned (.int .i64 r6)∧
 cnd (r6 !=(0:Int))
 (K (.bool false) w5)
 (∃x7p x7n x7c,w5.cell? ((Addr.mk n1 0 none).add 1)=some (.slice x7p x7n x7c)∧
   ∃I8:Int→World→Nat→Prop,(∃k9,I8 0 w5 k9)∧
   ∀v11 w12 k9 (_:Fr),I8 v11 w12 k9→
   cnd (decide (v11< (x7n:Int)))
    (ixK x7p x7n v11 1 fun a13=>
      ∃x14p x14n x14c,w12.cell? a13=some (.slice x14p x14n x14c)∧
      ∃I15:Int→World→Nat→Prop,(∃k16,I15 0 w12 k16)∧
      ∀v18 w19 k16 (_:Fr),I15 v18 w19 k16→
      cnd (decide (v18< (x14n:Int)))
       (ixK x14p x14n v18 1 fun a20=>
         ∃x21,w19.cell? a20=some (.int .i64 x21)∧
         Calls prog 55 #[.slice a b c,.int .i64 x21] w19 fun e w22=> ∃r23,e= .returned (.int .i64 r23)∧
         cnd (decide (r23> (0:Int)))
         (∃k10,k10<k9∧I8 (i64.wrap (v11+ (1:Int))) w22 k10)
         (∃k17,k17<k16∧I15 (i64.wrap (v18+ (1:Int))) w22 k17))
       (K (.bool false) w19))
    (K (.bool true) w12))
theorem lit_Holds.calls {f_0 f1p f1n f1c a b c w R} (h:lit_Holds.w f_0 f1p f1n f1c a b c w fun v w'=>R (.returned v) w'):Calls prog 27 #[.agg #[.int .i64 f_0,.slice f1p f1n f1c],.slice a b c] w R:=
 calls_of mixed Tryz.func27 (by kernel_rfl) rfl (ann:=(.two .leaf (.one (.two .leaf (.two .leaf (.two (.two .leaf (.one (.loop [(15,3)] (.two .leaf (.two .leaf (.two (.one (.two .leaf (.two (.two .leaf (.one (.loop [(21,3)] .leaf))) .leaf))) .leaf)))))) .leaf)))))) (F:=lit_Holds.w f_0 f1p f1n f1c a b c w) (fun K=>by kernel_rfl) h
def rup_Proves.w (f_0:Int) (f1p:Option Addr) (f1n:Nat) (f1c:Nat) (a:Option Addr) (b:Nat) (c:Nat) (w:World) (K:Value→World→Prop):Prop:=
 ∀n1 w2,New (.cells #[.int .i64 f_0,.slice f1p f1n f1c] 24) w n1 w2→
 ∃x3 x4p x4n x4c,CellsAt w2 (Addr.mk n1 0 none) 0 [.int .i64 x3,.slice x4p x4n x4c]∧
 Calls prog 25 #[.agg #[.int .i64 x3,.slice x4p x4n x4c]] w2 fun e w5=> ∃r6,e= .returned (.int .i64 r6)∧
 cnd (r6 !=(0:Int))
 (K (.tuple #[.int .i64 0,.int .i64 1]) w5)
 (Calls prog 26 #[.slice a b c] w5 fun e w7=> ∃r8,e= .returned (.int .i64 r8)∧
 cnd (r8 !=(0:Int))
 (K (.tuple #[.int .i64 0,.int .i64 1]) w7)
 (∃I9:Option Addr→Nat→Nat→Int→World→Nat→Prop,(∃k10,I9 none 0 0 0 w7 k10)∧
   ∀a12p a12n a12c v13 w14 k10 (_:Fr),I9 a12p a12n a12c v13 w14 k10→
   cnd (decide (v13< (b:Int)))
    (ixK a b v13 2 fun a15=>
      ∃x16 x17p x17n x17c,CellsAt w14 a15 0 [.bool x16,.slice x17p x17n x17c]∧
      ∀n18 w19,New (.cells #[.bool false,.slice none 0 0] 58) w14 n18 w19→
      ∃w20,StoreAt (Addr.mk n18 0 none) 0 [.bool x16,.slice x17p x17n x17c] w19 w20∧
      ∃x21p x21n x21c,w20.cell? ((Addr.mk n18 0 none).add 1)=some (.slice x21p x21n x21c)∧
      ∀n22 w23,New (.cells #[.slice x21p x21n x21c] 25) w20 n22 w23→
      ∃w24 r25p r25n r25c,(Builtin.append_ #[22,22] 22 #[.slice a12p a12n a12c,.slice (some (Addr.mk n22 0 none)) 1 1]).run prog w23= .ok (.slice r25p r25n r25c) w24∧
      ∃k11,k11<k10∧I9 r25p r25n r25c (i64.wrap (v13+ (1:Int))) w24 k11)
    (∃x26 x27p x27n x27c,CellsAt w14 (Addr.mk n1 0 none) 0 [.int .i64 x26,.slice x27p x27n x27c]∧
      Calls prog 56 #[.agg #[.int .i64 x26,.slice x27p x27n x27c],.slice a12p a12n a12c] w14 fun e w28=> ∃r29,e= .returned (.pointer r29)∧
      ∃I30:Int→World→Nat→Prop,(∃k31,I30 0 w28 k31)∧
      ∀v33 w34 k31 (_:Fr),I30 v33 w34 k31→
      cnd (decide (v33< (b:Int)))
       (ixK a b v33 2 fun a35=>
         ∃x36 x37p x37n x37c,CellsAt w34 a35 0 [.bool x36,.slice x37p x37n x37c]∧
         ∀n38 w39,New (.cells #[.bool false,.slice none 0 0] 58) w34 n38 w39→
         ∃w40,StoreAt (Addr.mk n38 0 none) 0 [.bool x36,.slice x37p x37n x37c] w39 w40∧
         ∃x41 x42p x42n x42c,CellsAt w40 (Addr.mk n38 0 none) 0 [.bool x41,.slice x42p x42n x42c]∧
         Calls prog 57 #[.pointer r29,.agg #[.bool x41,.slice x42p x42n x42c]] w40 fun e w43=> ∃r44,e= .returned (.int .i64 r44)∧
         cnd (r44 !=(0:Int))
         (K (.tuple #[.int .i64 v33,.int .i64 r44]) w43)
         (∃x45,w43.cell? ((Addr.mk n38 0 none).add 0)=some (.bool x45)∧
           cnd (!x45)
           (∃x46p x46n x46c,w43.cell? ((Addr.mk n38 0 none).add 1)=some (.slice x46p x46n x46c)∧
           cnd ((x46n:Int)==(0:Int))
           (K (.tuple #[.int .i64 v33,.int .i64 0]) w43)
           (∃k32,k32<k31∧I30 (i64.wrap (v33+ (1:Int))) w43 k32))
           (∃k32,k32<k31∧I30 (i64.wrap (v33+ (1:Int))) w43 k32)))
       (K (.tuple #[.int .i64 (b:Int),.int .i64 4]) w34))))
theorem rup_Proves.calls {f_0 f1p f1n f1c a b c w R} (h:rup_Proves.w f_0 f1p f1n f1c a b c w fun v w'=>R (.returned v) w'):Calls prog 28 #[.agg #[.int .i64 f_0,.slice f1p f1n f1c],.slice a b c] w R:=
 calls_of mixed Tryz.func28 (by kernel_rfl) rfl (ann:=(.two .leaf (.two .leaf (.two .leaf (.two (.two .leaf (.one (.loop [(6,22),(23,3)] .leaf))) (.two .leaf (.two (.two .leaf (.one (.loop [(38,3)] .leaf))) .leaf))))))) (F:=rup_Proves.w f_0 f1p f1n f1c a b c w) (fun K=>by kernel_rfl) h
def fathomref04_May.w (a:Option Addr) (b:Nat) (c:Nat) (w:World) (K:Value→World→Prop):Prop:=
 ∃I1:Int→World→Nat→Prop,(∃k2,I1 0 w k2)∧
 ∀i_4 w5 k2 (_:Fr),I1 i_4 w5 k2→
 cnd (decide (i_4< (b:Int)))
  (ixK a b i_4 2 fun a6=>
    ∃x7p x7n x7c,w5.cell? (a6.add 1)=some (.slice x7p x7n x7c)∧
    Calls prog 33 #[.slice x7p x7n x7c] w5 fun e w8=> ∃r9,e= .returned (.bool r9)∧
    cnd (!r9)
    (K (.bool false) w8)
    (∃k3,k3<k2∧I1 (i64.wrap (i_4+ (1:Int))) w8 k3))
  (K (.bool (decide ((b:Int)≤(262144:Int)))) w5)
theorem fathomref04_May.calls {a b c w R} (h:fathomref04_May.w a b c w fun v w'=>R (.returned v) w'):Calls prog 29 #[.slice a b c] w R:=
 calls_of mixed Tryz.func29 (by kernel_rfl) rfl (ann:=(.two .leaf (.two (.two .leaf (.one (.loop [(3,3)] .leaf))) .leaf))) (F:=fathomref04_May.w a b c w) (fun K=>by kernel_rfl) h
def fathomref01_Holds.w (f_0:Int) (f1p:Option Addr) (f1n:Nat) (f1c:Nat) (a:Option Addr) (b:Nat) (c:Nat) (w:World) (K:Value→World→Prop):Prop:=
 ∀n1 w2,New (.cells #[.int .i64 f_0,.slice f1p f1n f1c] 24) w n1 w2→
 ∃I3:Int→World→Nat→Prop,(∃k4,I3 0 w2 k4)∧
 ∀i_6 w7 k4 (_:Fr),I3 i_6 w7 k4→
 ∃x8p x8n x8c,w7.cell? ((Addr.mk n1 0 none).add 1)=some (.slice x8p x8n x8c)∧
  cnd (decide (i_6< (x8n:Int)))
  (∃x9p x9n x9c,w7.cell? ((Addr.mk n1 0 none).add 1)=some (.slice x9p x9n x9c)∧
    ixK x9p x9n i_6 1 fun a10=>
    ∃x11p x11n x11c,w7.cell? a10=some (.slice x11p x11n x11c)∧
    Calls prog 58 #[.slice a b c,.slice x11p x11n x11c] w7 fun e w12=> ∃r13,e= .returned (.int .i64 r13)∧
    cnd (r13 !=(1:Int))
    (K (.bool false) w12)
    (∃k5,k5<k4∧I3 (i64.wrap (i_6+ (1:Int))) w12 k5))
  (K (.bool true) w7)
theorem fathomref01_Holds.calls {f_0 f1p f1n f1c a b c w R} (h:fathomref01_Holds.w f_0 f1p f1n f1c a b c w fun v w'=>R (.returned v) w'):Calls prog 30 #[.agg #[.int .i64 f_0,.slice f1p f1n f1c],.slice a b c] w R:=
 calls_of mixed Tryz.func30 (by kernel_rfl) rfl (ann:=(.two .leaf (.two (.two .leaf (.one (.loop [(5,3)] .leaf))) .leaf))) (F:=fathomref01_Holds.w f_0 f1p f1n f1c a b c w) (fun K=>by kernel_rfl) h
def fathomref07_Proves.w (f_0:Int) (f1p:Option Addr) (f1n:Nat) (f1c:Nat) (a:Option Addr) (b:Nat) (c:Nat) (w:World) (K:Value→World→Prop):Prop:=
 ∀n1 w2,New (.cells #[.int .i64 f_0,.slice f1p f1n f1c] 24) w n1 w2→
 ∃I3:Int→World→Nat→Prop,(∃k4,I3 0 w2 k4)∧
 ∀i_6 w7 k4 (_:Fr),I3 i_6 w7 k4→
 cnd (decide (i_6< (b:Int)))
  (∃W8:World→Prop,W8 w7.drew∧
    ∃x9 x10p x10n x10c,CellsW W8 (Addr.mk n1 0 none) [.int .i64 x9,.slice x10p x10n x10c]∧
    ixK a b i_6 2 fun a11=>
    ∃x12 x13p x13n x13c,CellsW W8 a11 [.bool x12,.slice x13p x13n x13c]∧
    (Calls prog 59 #[.agg #[.int .i64 x9,.slice x10p x10n x10c],.agg #[.bool x12,.slice x13p x13n x13c]] w7.drew fun e w14=> ∃r15 r16p r16n r16c r17,e= .returned (.tuple #[.agg #[.int .i64 r15,.slice r16p r16n r16c],.int .i64 r17])∧
    ∀n18 w19,New (.cells #[.int .i64 0,.slice none 0 0] 24) w14 n18 w19→
    W8 w19∧∃w20,StoreAt (Addr.mk n18 0 none) 0 [.int .i64 r15,.slice r16p r16n r16c] w19 w20∧
    cnd (r17 !=(0:Int))
    (K (.tuple #[.int .i64 i_6,.int .i64 r17]) w20)
    (ixK a b i_6 2 fun a21=>
      ∃x22,w20.cell? (a21.add 0)=some (.bool x22)∧
      cnd (!x22)
      (ixK a b i_6 2 fun a23=>
      ∃x24p x24n x24c,w20.cell? (a23.add 1)=some (.slice x24p x24n x24c)∧
      cnd ((x24n:Int)==(0:Int))
      (K (.tuple #[.int .i64 i_6,.int .i64 0]) w20)
      (∃x25 x26p x26n x26c,CellsAt w20 (Addr.mk n18 0 none) 0 [.int .i64 x25,.slice x26p x26n x26c]∧
        ∃w27,StoreAt (Addr.mk n1 0 none) 0 [.int .i64 x25,.slice x26p x26n x26c] w20 w27∧
        ∃k5,k5<k4∧I3 (i64.wrap (i_6+ (1:Int))) w27 k5))
      (∃x28 x29p x29n x29c,CellsAt w20 (Addr.mk n18 0 none) 0 [.int .i64 x28,.slice x29p x29n x29c]∧
      ∃w30,StoreAt (Addr.mk n1 0 none) 0 [.int .i64 x28,.slice x29p x29n x29c] w20 w30∧
      ∃k5,k5<k4∧I3 (i64.wrap (i_6+ (1:Int))) w30 k5)))∧
  (∀n31 w32,New (.cells #[.int .i64 0,.slice none 0 0] 24) w7.drew n31 w32→
    W8 w32∧Calls prog 59 #[.agg #[.int .i64 x9,.slice x10p x10n x10c],.agg #[.bool x12,.slice x13p x13n x13c]] w32 fun e w33=> ∃r34 r35p r35n r35c r36,e= .returned (.tuple #[.agg #[.int .i64 r34,.slice r35p r35n r35c],.int .i64 r36])∧
    ∃w37,StoreAt (Addr.mk n31 0 none) 0 [.int .i64 r34,.slice r35p r35n r35c] w33 w37∧
    cnd (r36 !=(0:Int))
    (K (.tuple #[.int .i64 i_6,.int .i64 r36]) w37)
    (ixK a b i_6 2 fun a38=>
      ∃x39,w37.cell? (a38.add 0)=some (.bool x39)∧
      cnd (!x39)
      (ixK a b i_6 2 fun a40=>
      ∃x41p x41n x41c,w37.cell? (a40.add 1)=some (.slice x41p x41n x41c)∧
      cnd ((x41n:Int)==(0:Int))
      (K (.tuple #[.int .i64 i_6,.int .i64 0]) w37)
      (∃x42 x43p x43n x43c,CellsAt w37 (Addr.mk n31 0 none) 0 [.int .i64 x42,.slice x43p x43n x43c]∧
        ∃w44,StoreAt (Addr.mk n1 0 none) 0 [.int .i64 x42,.slice x43p x43n x43c] w37 w44∧
        ∃k5,k5<k4∧I3 (i64.wrap (i_6+ (1:Int))) w44 k5))
      (∃x45 x46p x46n x46c,CellsAt w37 (Addr.mk n31 0 none) 0 [.int .i64 x45,.slice x46p x46n x46c]∧
      ∃w47,StoreAt (Addr.mk n1 0 none) 0 [.int .i64 x45,.slice x46p x46n x46c] w37 w47∧
      ∃k5,k5<k4∧I3 (i64.wrap (i_6+ (1:Int))) w47 k5))))
  (K (.tuple #[.int .i64 (b:Int),.int .i64 4]) w7)
theorem fathomref07_Proves.calls {f_0 f1p f1n f1c a b c w R} (h:fathomref07_Proves.w f_0 f1p f1n f1c a b c w fun v w'=>R (.returned v) w'):Calls prog 31 #[.agg #[.int .i64 f_0,.slice f1p f1n f1c],.slice a b c] w R:=
 calls_of mixed Tryz.func31 (by kernel_rfl) rfl (ann:=(.two .leaf (.two (.two .leaf (.one (.loop [(6,3)] (.two .leaf (.two (.one (.two .draw .leaf)) .leaf))))) .leaf))) (F:=fathomref07_Proves.w f_0 f1p f1n f1c a b c w) (fun K=>by kernel_rfl) h
def cdcl_Solve.w (f_0:Int) (f1p:Option Addr) (f1n:Nat) (f1c:Nat) (s_0:Int) (s_1:Int) (s_2:Int) (w:World) (K:Value→World→Prop):Prop:=
 ∀n1 w2,New (.cells #[.int .i64 f_0,.slice f1p f1n f1c] 24) w n1 w2→
 ∀n3 w4,New (.cells #[.int .i64 s_0,.int .i64 s_1,.int .i64 s_2] 36) w2 n3 w4→
 ∀n5 w6,New (.cells #[.int .i64 0,.slice none 0 0,.slice none 0 0,.int .i64 0,.int .i64 0,.int .i64 0,.int .i64 0] 65) w4 n5 w6→
 ∃x7 x8p x8n x8c,CellsAt w6 (Addr.mk n1 0 none) 0 [.int .i64 x7,.slice x8p x8n x8c]∧
 Calls prog 25 #[.agg #[.int .i64 x7,.slice x8p x8n x8c]] w6 fun e w9=> ∃r10,e= .returned (.int .i64 r10)∧
 cnd (r10 !=(0:Int))
 (∃w11,StoreAt (Addr.mk n5 0 none) 0 [.int .i64 0,.slice none 0 0,.slice none 0 0,.int .i64 0,.int .i64 0,.int .i64 0,.int .i64 0] w9 w11∧
 ∃x12 x13p x13n x13c x14p x14n x14c x15 x16 x17 x18,CellsAt w11 (Addr.mk n5 0 none) 0 [.int .i64 x12,.slice x13p x13n x13c,.slice x14p x14n x14c,.int .i64 x15,.int .i64 x16,.int .i64 x17,.int .i64 x18]∧
 K (.tuple #[.agg #[.int .i64 x12,.slice x13p x13n x13c,.slice x14p x14n x14c,.int .i64 x15,.int .i64 x16,.int .i64 x17,.int .i64 x18],.int .i64 1]) w11)
 (∃x19 x20 x21,CellsAt w9 (Addr.mk n3 0 none) 0 [.int .i64 x19,.int .i64 x20,.int .i64 x21]∧
 Calls prog 60 #[.agg #[.int .i64 x19,.int .i64 x20,.int .i64 x21]] w9 fun e w22=> ∃r23,e= .returned (.int .i64 r23)∧
 cnd (r23 !=(0:Int))
 (∃w24,StoreAt (Addr.mk n5 0 none) 0 [.int .i64 0,.slice none 0 0,.slice none 0 0,.int .i64 0,.int .i64 0,.int .i64 0,.int .i64 0] w22 w24∧
   ∃x25 x26p x26n x26c x27p x27n x27c x28 x29 x30 x31,CellsAt w24 (Addr.mk n5 0 none) 0 [.int .i64 x25,.slice x26p x26n x26c,.slice x27p x27n x27c,.int .i64 x28,.int .i64 x29,.int .i64 x30,.int .i64 x31]∧
   K (.tuple #[.agg #[.int .i64 x25,.slice x26p x26n x26c,.slice x27p x27n x27c,.int .i64 x28,.int .i64 x29,.int .i64 x30,.int .i64 x31],.int .i64 1]) w24)
 (∃W32:World→Prop,W32 w22.drew∧
   ∃x33 x34p x34n x34c,CellsW W32 (Addr.mk n1 0 none) [.int .i64 x33,.slice x34p x34n x34c]∧
   ∃x35 x36 x37,CellsW W32 (Addr.mk n3 0 none) [.int .i64 x35,.int .i64 x36,.int .i64 x37]∧
   ∃x38,AtW W32 ((Addr.mk n1 0 none).add 0) (.int .i64 x38)∧
   ∃w39 r40p r40n r40c,(Instr.makeSlice 25 (.int .i64 (i64.wrap (x38+ (1:Int)))) (.int .i64 (i64.wrap (x38+ (1:Int))))).run prog w22.drew= .ok (.slice r40p r40n r40c) w39∧
   W32 w39∧∀n41 w42,New (.cells #[.int .i64 x33,.slice x34p x34n x34c,.int .i64 x35,.int .i64 x36,.int .i64 x37,.pointer none,.pointer none,.slice r40p r40n r40c,.int .i64 0,.int .i64 0,.int .i64 0,.slice none 0 0,.slice none 0 0,.int .i64 0,.int .i64 0,.slice none 0 0,.slice none 0 0,.int .i64 0,.int .i64 0,.int .i64 0,.int .i64 0] 110) w39 n41 w42→
   ∃x43 x44p x44n x44c,CellsAt w42 (Addr.mk n1 0 none) 0 [.int .i64 x43,.slice x44p x44n x44c]∧
   Calls prog 61 #[.agg #[.int .i64 x43,.slice x44p x44n x44c]] w42 fun e w45=> ∃r46 r47,e= .returned (.tuple #[.pointer r46,.int .i64 r47])∧
   ∃a48,(some (Addr.mk n41 0 none))=some a48∧∃w49,StoreAt (a48.add 5) 0 [.pointer r46] w45 w49∧
   ∃x50,w49.cell? ((Addr.mk n1 0 none).add 0)=some (.int .i64 x50)∧
   Calls prog 62 #[.int .i64 x50] w49 fun e w51=> ∃r52 r53,e= .returned (.tuple #[.pointer r52,.int .i64 r53])∧
   ∃a54,(some (Addr.mk n41 0 none))=some a54∧∃w55,StoreAt (a54.add 6) 0 [.pointer r52] w51 w55∧
   ∃x56,w55.cell? ((Addr.mk n3 0 none).add 1)=some (.int .i64 x56)∧
   Calls prog 63 #[.int .i64 x56] w55 fun e w57=> ∃r58 r59 r60 r61,e= .returned (.tuple #[.agg #[.int .i64 r58,.int .i64 r59,.int .i64 r60],.int .i64 r61])∧
   ∃a62,(some (Addr.mk n41 0 none))=some a62∧∃w63,StoreAt (a62.add 8) 0 [.int .i64 r58,.int .i64 r59,.int .i64 r60] w57 w63∧
   ∃I64:World→Nat→Prop,(∃k65,I64 w63 k65)∧
   ∀w67 k65 (_:Fr),I64 w67 k65→
   ∃a68,(some (Addr.mk n41 0 none))=some a68∧∃x69,w67.cell? (a68.add 5)=some (.pointer x69)∧
    Calls prog 64 #[.pointer x69] w67 fun e w70=> ∃r71,e= .returned (.int .i64 r71)∧
    ∃J72:Bool→World→Prop,(cnd (decide (r71< (0:Int)))
    (Calls prog 65 #[.pointer (some (Addr.mk n41 0 none))] w70 fun e w73=> ∃r74,e= .returned (.bool r74)∧
    J72 (!r74) w73)
    (J72 false w70))∧
    ∀v75 w76 (_:Fr),J72 v75 w76→
    cnd v75
    (Calls prog 66 #[.pointer (some (Addr.mk n41 0 none))] w76 fun e w77=>e= .returned (.tuple #[])∧
      ∃a78,(some (Addr.mk n41 0 none))=some a78∧∃x79 x80p x80n x80c x81p x81n x81c x82 x83 x84 x85,CellsAt w77 (a78.add 14) 0 [.int .i64 x79,.slice x80p x80n x80c,.slice x81p x81n x81c,.int .i64 x82,.int .i64 x83,.int .i64 x84,.int .i64 x85]∧
      ∃w86,StoreAt (Addr.mk n5 0 none) 0 [.int .i64 x79,.slice x80p x80n x80c,.slice x81p x81n x81c,.int .i64 x82,.int .i64 x83,.int .i64 x84,.int .i64 x85] w77 w86∧
      ∃x87 x88p x88n x88c x89p x89n x89c x90 x91 x92 x93,CellsAt w86 (Addr.mk n5 0 none) 0 [.int .i64 x87,.slice x88p x88n x88c,.slice x89p x89n x89c,.int .i64 x90,.int .i64 x91,.int .i64 x92,.int .i64 x93]∧
      K (.tuple #[.agg #[.int .i64 x87,.slice x88p x88n x88c,.slice x89p x89n x89c,.int .i64 x90,.int .i64 x91,.int .i64 x92,.int .i64 x93],.int .i64 0]) w86)
    (cnd (decide (r71< (0:Int)))
      (∃k66,k66<k65∧I64 w76 k66)
      (∃a94,(some (Addr.mk n41 0 none))=some a94∧∃x95,w76.cell? (a94.add 5)=some (.pointer x95)∧
        Calls prog 67 #[.pointer x95] w76 fun e w96=> ∃r97,e= .returned (.int .i64 r97)∧
        cnd (r97==(0:Int))
        (Calls prog 68 #[.pointer (some (Addr.mk n41 0 none)),.slice none 0 0] w96 fun e w98=>e= .returned (.tuple #[])∧
          ∃a99,(some (Addr.mk n41 0 none))=some a99∧∃w100,StoreAt ((a99.add 14).add 0) 0 [.int .i64 2] w98 w100∧
          ∃a101,(some (Addr.mk n41 0 none))=some a101∧∃x102 x103p x103n x103c x104p x104n x104c x105 x106 x107 x108,CellsAt w100 (a101.add 14) 0 [.int .i64 x102,.slice x103p x103n x103c,.slice x104p x104n x104c,.int .i64 x105,.int .i64 x106,.int .i64 x107,.int .i64 x108]∧
          ∃w109,StoreAt (Addr.mk n5 0 none) 0 [.int .i64 x102,.slice x103p x103n x103c,.slice x104p x104n x104c,.int .i64 x105,.int .i64 x106,.int .i64 x107,.int .i64 x108] w100 w109∧
          ∃x110 x111p x111n x111c x112p x112n x112c x113 x114 x115 x116,CellsAt w109 (Addr.mk n5 0 none) 0 [.int .i64 x110,.slice x111p x111n x111c,.slice x112p x112n x112c,.int .i64 x113,.int .i64 x114,.int .i64 x115,.int .i64 x116]∧
          K (.tuple #[.agg #[.int .i64 x110,.slice x111p x111n x111c,.slice x112p x112n x112c,.int .i64 x113,.int .i64 x114,.int .i64 x115,.int .i64 x116],.int .i64 0]) w109)
        (∃a117,(some (Addr.mk n41 0 none))=some a117∧∃x118,w96.drew.cell? ((a117.add 2).add 0)=some (.int .i64 x118)∧
          cnd (decide (x118≥(0:Int)))
          (∃a119,(some (Addr.mk n41 0 none))=some a119∧∃x120,w96.drew.cell? ((a119.add 14).add 3)=some (.int .i64 x120)∧
          ∃a121,(some (Addr.mk n41 0 none))=some a121∧∃x122,w96.drew.cell? ((a121.add 2).add 0)=some (.int .i64 x122)∧
          cnd (decide (x120≥x122))
          (∃a123,(some (Addr.mk n41 0 none))=some a123∧∃w124,StoreAt ((a123.add 14).add 2) 0 [.slice none 0 0] w96.drew w124∧
            ∃a125,(some (Addr.mk n41 0 none))=some a125∧∃x126 x127p x127n x127c x128p x128n x128c x129 x130 x131 x132,CellsAt w124 (a125.add 14) 0 [.int .i64 x126,.slice x127p x127n x127c,.slice x128p x128n x128c,.int .i64 x129,.int .i64 x130,.int .i64 x131,.int .i64 x132]∧
            ∃w133,StoreAt (Addr.mk n5 0 none) 0 [.int .i64 x126,.slice x127p x127n x127c,.slice x128p x128n x128c,.int .i64 x129,.int .i64 x130,.int .i64 x131,.int .i64 x132] w124 w133∧
            ∃x134 x135p x135n x135c x136p x136n x136c x137 x138 x139 x140,CellsAt w133 (Addr.mk n5 0 none) 0 [.int .i64 x134,.slice x135p x135n x135c,.slice x136p x136n x136c,.int .i64 x137,.int .i64 x138,.int .i64 x139,.int .i64 x140]∧
            K (.tuple #[.agg #[.int .i64 x134,.slice x135p x135n x135c,.slice x136p x136n x136c,.int .i64 x137,.int .i64 x138,.int .i64 x139,.int .i64 x140],.int .i64 6]) w133)
          (Calls prog 69 #[.pointer (some (Addr.mk n41 0 none)),.int .i64 r71] w96.drew fun e w141=>e= .returned (.tuple #[])∧
            ∃k66,k66<k65∧I64 w141 k66))
          (Calls prog 69 #[.pointer (some (Addr.mk n41 0 none)),.int .i64 r71] w96.drew fun e w142=>e= .returned (.tuple #[])∧
          ∃k66,k66<k65∧I64 w142 k66))))))
theorem cdcl_Solve.calls {f_0 f1p f1n f1c s_0 s_1 s_2 w R} (h:cdcl_Solve.w f_0 f1p f1n f1c s_0 s_1 s_2 w fun v w'=>R (.returned v) w'):Calls prog 32 #[.agg #[.int .i64 f_0,.slice f1p f1n f1c],.agg #[.int .i64 s_0,.int .i64 s_1,.int .i64 s_2]] w R:=
 calls_of mixed Tryz.func32 (by kernel_rfl) rfl (ann:=(.two .leaf (.two .leaf (.two .draw (.two .leaf (.two .leaf (.two .leaf (.one (.loop [] (.one (.two .leaf (.one (.cut [(59,4)] .leaf .leaf))))))))))))) (F:=cdcl_Solve.w f_0 f1p f1n f1c s_0 s_1 s_2 w) (fun K=>by kernel_rfl) h
def fathomref01_May.w (a:Option Addr) (b:Nat) (c:Nat) (w:World) (K:Value→World→Prop):Prop:=
 ∃I1:Int→World→Nat→Prop,(∃k2,I1 0 w k2)∧
 ∀i_4 w5 k2 (_:Fr),I1 i_4 w5 k2→
 cnd (decide (i_4< (b:Int)))
  (ixK a b i_4 1 fun a6=>
    ∃x7,w5.cell? a6=some (.int .i64 x7)∧
    Calls prog 70 #[.int .i64 x7] w5 fun e w8=> ∃r9,e= .returned (.bool r9)∧
    cnd (!r9)
    (K (.bool false) w8)
    (∃k3,k3<k2∧I1 (i64.wrap (i_4+ (1:Int))) w8 k3))
  (K (.bool (decide ((b:Int)≤(4096:Int)))) w5)
theorem fathomref01_May.calls {a b c w R} (h:fathomref01_May.w a b c w fun v w'=>R (.returned v) w'):Calls prog 33 #[.slice a b c] w R:=
 calls_of mixed Tryz.func33 (by kernel_rfl) rfl (ann:=(.two .leaf (.two (.two .leaf (.one (.loop [(3,3)] .leaf))) .leaf))) (F:=fathomref01_May.w a b c w) (fun K=>by kernel_rfl) h
def fathomref01_Var.w (l_:Int) (w:World) (K:Value→World→Prop):Prop:=
 cnd (decide (l_< (0:Int)))
 (K (.int .i64 (i64.wrap (0 - l_))) w)
 (K (.int .i64 l_) w)
theorem fathomref01_Var.calls {l_ w R} (h:fathomref01_Var.w l_ w fun v w'=>R (.returned v) w'):Calls prog 34 #[.int .i64 l_] w R:=
 calls_of mixed Tryz.func34 (by kernel_rfl) rfl (ann:= .leaf) (F:=fathomref01_Var.w l_ w) (fun K=>by kernel_rfl) h
def drat_Find.w (f_0:Int) (f1p:Option Addr) (f1n:Nat) (f1c:Nat) (a:Option Addr) (b:Nat) (c:Nat) (w:World) (K:Value→World→Prop):Prop:=
 ∀n1 w2,New (.cells #[.int .i64 f_0,.slice f1p f1n f1c] 24) w n1 w2→
 ∀n3 w4,New (.cells #[.slice none 0 0,.slice none 0 0] 72) w2 n3 w4→
 ∃x5 x6p x6n x6c,CellsAt w4 (Addr.mk n1 0 none) 0 [.int .i64 x5,.slice x6p x6n x6c]∧
 Calls prog 25 #[.agg #[.int .i64 x5,.slice x6p x6n x6c]] w4 fun e w7=> ∃r8,e= .returned (.int .i64 r8)∧
 cnd (r8 !=(0:Int))
 (∃w9,StoreAt (Addr.mk n3 0 none) 0 [.slice none 0 0,.slice none 0 0] w7 w9∧
 ∃x10p x10n x10c x11p x11n x11c,CellsAt w9 (Addr.mk n3 0 none) 0 [.slice x10p x10n x10c,.slice x11p x11n x11c]∧
 K (.tuple #[.agg #[.slice x10p x10n x10c,.slice x11p x11n x11c],.int .i64 1]) w9)
 (Calls prog 26 #[.slice a b c] w7 fun e w12=> ∃r13,e= .returned (.int .i64 r13)∧
 cnd (r13 !=(0:Int))
 (∃w14,StoreAt (Addr.mk n3 0 none) 0 [.slice none 0 0,.slice none 0 0] w12 w14∧
   ∃x15p x15n x15c x16p x16n x16c,CellsAt w14 (Addr.mk n3 0 none) 0 [.slice x15p x15n x15c,.slice x16p x16n x16c]∧
   K (.tuple #[.agg #[.slice x15p x15n x15c,.slice x16p x16n x16c],.int .i64 1]) w14)
 (∃x17 x18p x18n x18c,CellsAt w12 (Addr.mk n1 0 none) 0 [.int .i64 x17,.slice x18p x18n x18c]∧
   Calls prog 71 #[.agg #[.int .i64 x17,.slice x18p x18n x18c],.slice a b c] w12 fun e w19=> ∃r20,e= .returned (.bool r20)∧
   cnd (!r20)
   (∃w21,StoreAt (Addr.mk n3 0 none) 0 [.slice none 0 0,.slice none 0 0] w19 w21∧
     ∃x22p x22n x22c x23p x23n x23c,CellsAt w21 (Addr.mk n3 0 none) 0 [.slice x22p x22n x22c,.slice x23p x23n x23c]∧
     K (.tuple #[.agg #[.slice x22p x22n x22c,.slice x23p x23n x23c],.int .i64 4]) w21)
   (Calls prog 72 #[.slice a b c] w19 fun e w24=> ∃r25,e= .returned (.int .i64 r25)∧
     ∃x26 x27p x27n x27c,CellsAt w24 (Addr.mk n1 0 none) 0 [.int .i64 x26,.slice x27p x27n x27c]∧
     Calls prog 73 #[.agg #[.int .i64 x26,.slice x27p x27n x27c]] w24 fun e w28=> ∃r29p r29n r29c,e= .returned (.slice r29p r29n r29c)∧
     slK a b c 2 none (some (i64.wrap (r25+ (1:Int)))) none fun s30p s30n s30c=>
     ∃I31:Option Addr→Nat→Nat→Option Addr→Nat→Nat→Int→World→Nat→Prop,(∃k32,I31 none 0 0 r29p r29n r29c 0 w28 k32)∧
     ∀t34p t34n t34c h35p h35n h35c v36 w37 k32 (_:Fr),I31 t34p t34n t34c h35p h35n h35c v36 w37 k32→
     cnd (decide (v36< (s30n:Int)))
      (ixK s30p s30n v36 2 fun a38=>
        ∃x39 x40p x40n x40c,CellsAt w37 a38 0 [.bool x39,.slice x40p x40n x40c]∧
        ∀n41 w42,New (.cells #[.bool false,.slice none 0 0] 58) w37 n41 w42→
        ∃w43,StoreAt (Addr.mk n41 0 none) 0 [.bool x39,.slice x40p x40n x40c] w42 w43∧
        ∀n44 w45,New (.cells #[.slice h35p h35n h35c] 121) w43 n44 w45→
        ∃w46 r47p r47n r47c,(Builtin.append_ #[120,120] 120 #[.slice t34p t34n t34c,.slice (some (Addr.mk n44 0 none)) 1 1]).run prog w45= .ok (.slice r47p r47n r47c) w46∧
        ∃x48,w46.cell? ((Addr.mk n41 0 none).add 0)=some (.bool x48)∧
        cnd x48
        (∃x49p x49n x49c,w46.cell? ((Addr.mk n41 0 none).add 1)=some (.slice x49p x49n x49c)∧
          Calls prog 74 #[.slice h35p h35n h35c,.slice x49p x49n x49c] w46 fun e w50=> ∃r51p r51n r51c,e= .returned (.slice r51p r51n r51c)∧
          ∃k33,k33<k32∧I31 r47p r47n r47c r51p r51n r51c (i64.wrap (v36+ (1:Int))) w50 k33)
        (∃W52:World→Prop,W52 w46.drew∧
          ∃x53p x53n x53c,AtW W52 ((Addr.mk n41 0 none).add 1) (.slice x53p x53n x53c)∧
          (Calls prog 75 #[.slice h35p h35n h35c] w46.drew fun e w54=> ∃r55p r55n r55c,e= .returned (.slice r55p r55n r55c)∧
          W52 w54∧∀n56 w57,New (.cells #[.slice x53p x53n x53c,.bool true,.int .i64 v36] 126) w54 n56 w57→
          ∃w58 r59p r59n r59c,(Builtin.append_ #[121,121] 121 #[.slice r55p r55n r55c,.slice (some (Addr.mk n56 0 none)) 1 1]).run prog w57= .ok (.slice r59p r59n r59c) w58∧
          ∃k33,k33<k32∧I31 r47p r47n r47c r59p r59n r59c (i64.wrap (v36+ (1:Int))) w58 k33)∧
        (∀n60 w61,New (.cells #[.slice x53p x53n x53c,.bool true,.int .i64 v36] 126) w46.drew n60 w61→
          Calls prog 75 #[.slice h35p h35n h35c] w61 fun e w62=> ∃r63p r63n r63c,e= .returned (.slice r63p r63n r63c)∧
          W52 w62∧∃w64 r65p r65n r65c,(Builtin.append_ #[121,121] 121 #[.slice r63p r63n r63c,.slice (some (Addr.mk n60 0 none)) 1 1]).run prog w62= .ok (.slice r65p r65n r65c) w64∧
          ∃k33,k33<k32∧I31 r47p r47n r47c r65p r65n r65c (i64.wrap (v36+ (1:Int))) w64 k33)))
      (∀n66 w67,New (.map #[] 0) w37 n66 w67→
        ∃w68,(Instr.mapUpdate 129 (.map (some n66)) (.agg #[.bool true,.int .i64 r25]) (.bool true)).run prog w67= .ok () w68∧
        ∃I69:Int→World→Nat→Prop,(∃k70,I69 r25 w68 k70)∧
        ∀i_72 w73 k70 (_:Fr),I69 i_72 w73 k70→
        cnd (decide (i_72≥(0:Int)))
         (∃w74 r75,(Instr.lookup 129 (.map (some n66)) (.agg #[.bool true,.int .i64 i_72]) false).run prog w73= .ok (.bool r75) w74∧
           cnd (!r75)
           (∃k71,k71<k70∧I69 (i64.wrap (i_72 - (1:Int))) w74 k71)
           (∃W76:World→Prop,W76 w74.drew∧
             ixK t34p t34n i_72 1 fun a77=>
             ∃x78p x78n x78c,AtW W76 a77 (.slice x78p x78n x78c)∧
             Calls prog 77 #[.slice x78p x78n x78c] w74.drew fun e w79=> ∃r80p r80n r80c,e= .returned (.slice r80p r80n r80c)∧
             W76 w79∧ixK a b i_72 2 fun a81=>
             ∃x82p x82n x82c,AtW W76 (a81.add 1) (.slice x82p x82n x82c)∧
             Calls prog 76 #[.slice r80p r80n r80c,.slice x82p x82n x82c] w79 fun e w83=> ∃r84p r84n r84c r85,e= .returned (.tuple #[.slice r84p r84n r84c,.bool r85])∧
             ∃I86:Int→World→Nat→Prop,(∃k87,I86 0 w83 k87)∧
             ∀v89 w90 k87 (_:Fr),I86 v89 w90 k87→
             cnd (decide (v89< (r84n:Int)))
              (ixK r84p r84n v89 1 fun a91=>
                ∃x92,w90.cell? a91=some (.int .i64 x92)∧
                ixK t34p t34n i_72 1 fun a93=>
                ∃x94p x94n x94c,w90.drew.cell? a93=some (.slice x94p x94n x94c)∧
                ixK x94p x94n x92 3 fun a95=>
                ∃x96,w90.drew.cell? (a95.add 1)=some (.bool x96)∧
                ixK t34p t34n i_72 1 fun a97=>
                ∃x98p x98n x98c,w90.drew.cell? a97=some (.slice x98p x98n x98c)∧
                ixK x98p x98n x92 3 fun a99=>
                ∃x100,w90.drew.cell? (a99.add 2)=some (.int .i64 x100)∧
                ∃w101,(Instr.mapUpdate 129 (.map (some n66)) (.agg #[.bool x96,.int .i64 x100]) (.bool true)).run prog w90.drew= .ok () w101∧
                ∃k88,k88<k87∧I86 (i64.wrap (v89+ (1:Int))) w101 k88)
              (∃k71,k71<k70∧I69 (i64.wrap (i_72 - (1:Int))) w90 k71)))
         (∀n102 w103,New (.cells #[.slice none 0 0,.slice none 0 0] 72) w73 n102 w103→
           ∃x104p x104n x104c,w103.cell? ((Addr.mk n1 0 none).add 1)=some (.slice x104p x104n x104c)∧
           ∃I105:Int→World→Nat→Prop,(∃k106,I105 0 w103 k106)∧
           ∀v108 w109 k106 (_:Fr),I105 v108 w109 k106→
           cnd (decide (v108< (x104n:Int)))
            (∃w110 r111,(Instr.lookup 129 (.map (some n66)) (.agg #[.bool false,.int .i64 v108]) false).run prog w109= .ok (.bool r111) w110∧
              cnd r111
              (∃x112p x112n x112c,w110.cell? ((Addr.mk n102 0 none).add 0)=some (.slice x112p x112n x112c)∧
                ∀n113 w114,New (.cells #[.int .i64 v108] 3) w110 n113 w114→
                ∃w115 r116p r116n r116c,(Builtin.append_ #[25,25] 25 #[.slice x112p x112n x112c,.slice (some (Addr.mk n113 0 none)) 1 1]).run prog w114= .ok (.slice r116p r116n r116c) w115∧
                ∃w117,StoreAt ((Addr.mk n102 0 none).add 0) 0 [.slice r116p r116n r116c] w115 w117∧
                ∃k107,k107<k106∧I105 (i64.wrap (v108+ (1:Int))) w117 k107)
              (∃k107,k107<k106∧I105 (i64.wrap (v108+ (1:Int))) w110 k107))
            (∃I118:Int→World→Nat→Prop,(∃k119,I118 0 w109 k119)∧
              ∀v121 w122 k119 (_:Fr),I118 v121 w122 k119→
              cnd (decide (v121< (i64.wrap (r25+ (1:Int)))))
               (∃w123 r124,(Instr.lookup 129 (.map (some n66)) (.agg #[.bool true,.int .i64 v121]) false).run prog w122= .ok (.bool r124) w123∧
                 cnd r124
                 (∃x125p x125n x125c,w123.cell? ((Addr.mk n102 0 none).add 1)=some (.slice x125p x125n x125c)∧
                   ∀n126 w127,New (.cells #[.int .i64 v121] 3) w123 n126 w127→
                   ∃w128 r129p r129n r129c,(Builtin.append_ #[25,25] 25 #[.slice x125p x125n x125c,.slice (some (Addr.mk n126 0 none)) 1 1]).run prog w127= .ok (.slice r129p r129n r129c) w128∧
                   ∃w130,StoreAt ((Addr.mk n102 0 none).add 1) 0 [.slice r129p r129n r129c] w128 w130∧
                   ∃k120,k120<k119∧I118 (i64.wrap (v121+ (1:Int))) w130 k120)
                 (∃k120,k120<k119∧I118 (i64.wrap (v121+ (1:Int))) w123 k120))
               (∃x131p x131n x131c x132p x132n x132c,CellsAt w122 (Addr.mk n102 0 none) 0 [.slice x131p x131n x131c,.slice x132p x132n x132c]∧
                 ∃w133,StoreAt (Addr.mk n3 0 none) 0 [.slice x131p x131n x131c,.slice x132p x132n x132c] w122 w133∧
                 ∃x134p x134n x134c x135p x135n x135c,CellsAt w133 (Addr.mk n3 0 none) 0 [.slice x134p x134n x134c,.slice x135p x135n x135c]∧
                 K (.tuple #[.agg #[.slice x134p x134n x134c,.slice x135p x135n x135c],.int .i64 0]) w133)))))))
theorem drat_Find.calls {f_0 f1p f1n f1c a b c w R} (h:drat_Find.w f_0 f1p f1n f1c a b c w fun v w'=>R (.returned v) w'):Calls prog 36 #[.agg #[.int .i64 f_0,.slice f1p f1n f1c],.slice a b c] w R:=
 calls_of mixed Tryz.func36 (by kernel_rfl) rfl (ann:=(.two .leaf (.two .leaf (.two .leaf (.two .leaf (.two .leaf (.two (.two .leaf (.one (.loop [(7,120),(8,121),(45,3)] (.two .leaf (.two .leaf (.two (.one (.two .leaf (.two .leaf (.two .leaf (.two .leaf .draw))))) .leaf)))))) (.two .leaf (.two (.two .leaf (.one (.loop [(12,3)] (.two .leaf (.two (.one (.two .leaf (.two .draw (.two .leaf (.one (.loop [(99,3)] .leaf)))))) .leaf))))) (.two .leaf (.two (.two .leaf (.one (.loop [(125,3)] .leaf))) (.two (.two .leaf (.one (.loop [(141,3)] .leaf))) .leaf)))))))))))) (F:=drat_Find.w f_0 f1p f1n f1c a b c w) (fun K=>by kernel_rfl) h
def drat_Trim.w (f_0:Int) (f1p:Option Addr) (f1n:Nat) (f1c:Nat) (a:Option Addr) (b:Nat) (c:Nat) (c0p:Option Addr) (c0n:Nat) (c0c:Nat) (c1p:Option Addr) (c1n:Nat) (c1c:Nat) (w:World) (K:Value→World→Prop):Prop:=
 ∀n1 w2,New (.cells #[.int .i64 f_0,.slice f1p f1n f1c] 24) w n1 w2→
 ∀n3 w4,New (.cells #[.slice c0p c0n c0c,.slice c1p c1n c1c] 72) w2 n3 w4→
 ∀n5 w6,New (.cells #[.int .i64 0,.slice none 0 0] 24) w4 n5 w6→
 ∃x7 x8p x8n x8c,CellsAt w6 (Addr.mk n1 0 none) 0 [.int .i64 x7,.slice x8p x8n x8c]∧
 ∃x9p x9n x9c x10p x10n x10c,CellsAt w6 (Addr.mk n3 0 none) 0 [.slice x9p x9n x9c,.slice x10p x10n x10c]∧
 Calls prog 78 #[.agg #[.int .i64 x7,.slice x8p x8n x8c],.slice a b c,.agg #[.slice x9p x9n x9c,.slice x10p x10n x10c]] w6 fun e w11=> ∃r12,e= .returned (.int .i64 r12)∧
 cnd (r12 !=(0:Int))
 (∃w13,StoreAt (Addr.mk n5 0 none) 0 [.int .i64 0,.slice none 0 0] w11 w13∧
   ∃x14 x15p x15n x15c,CellsAt w13 (Addr.mk n5 0 none) 0 [.int .i64 x14,.slice x15p x15n x15c]∧
   K (.tuple #[.agg #[.int .i64 x14,.slice x15p x15n x15c],.slice none 0 0,.int .i64 r12]) w13)
 (∃x16,w11.cell? ((Addr.mk n1 0 none).add 0)=some (.int .i64 x16)∧
   ∀n17 w18,New (.cells #[.int .i64 0,.slice none 0 0] 24) w11 n17 w18→
   ∃w19,StoreAt (Addr.mk n17 0 none) 0 [.int .i64 x16,.slice none 0 0] w18 w19∧
   ∃x20p x20n x20c,w19.cell? ((Addr.mk n3 0 none).add 0)=some (.slice x20p x20n x20c)∧
   ∃I21:Int→World→Nat→Prop,(∃k22,I21 0 w19 k22)∧
   ∀v24 w25 k22 (_:Fr),I21 v24 w25 k22→
   cnd (decide (v24< (x20n:Int)))
    (ixK x20p x20n v24 1 fun a26=>
      ∃x27,w25.cell? a26=some (.int .i64 x27)∧
      ∃W28:World→Prop,W28 w25.drew∧
      ∃x29p x29n x29c,AtW W28 ((Addr.mk n17 0 none).add 1) (.slice x29p x29n x29c)∧
      ∃x30p x30n x30c,AtW W28 ((Addr.mk n1 0 none).add 1) (.slice x30p x30n x30c)∧
      ixK x30p x30n x27 1 fun a31=>
      ∃x32p x32n x32c,AtW W28 a31 (.slice x32p x32n x32c)∧
      Calls prog 79 #[.slice x32p x32n x32c] w25.drew fun e w33=> ∃r34p r34n r34c,e= .returned (.slice r34p r34n r34c)∧
      W28 w33∧∀n35 w36,New (.cells #[.slice r34p r34n r34c] 25) w33 n35 w36→
      W28 w36∧∃w37 r38p r38n r38c,(Builtin.append_ #[22,22] 22 #[.slice x29p x29n x29c,.slice (some (Addr.mk n35 0 none)) 1 1]).run prog w36= .ok (.slice r38p r38n r38c) w37∧
      ∃w39,StoreAt ((Addr.mk n17 0 none).add 1) 0 [.slice r38p r38n r38c] w37 w39∧
      ∃k23,k23<k22∧I21 (i64.wrap (v24+ (1:Int))) w39 k23)
    (∃x40p x40n x40c,w25.cell? ((Addr.mk n3 0 none).add 1)=some (.slice x40p x40n x40c)∧
      ∃I41:Option Addr→Nat→Nat→Int→World→Nat→Prop,(∃k42,I41 none 0 0 0 w25 k42)∧
      ∀o44p o44n o44c v45 w46 k42 (_:Fr),I41 o44p o44n o44c v45 w46 k42→
      cnd (decide (v45< (x40n:Int)))
       (ixK x40p x40n v45 1 fun a47=>
         ∃x48,w46.cell? a47=some (.int .i64 x48)∧
         ixK a b x48 2 fun a49=>
         ∃x50p x50n x50c,w46.cell? (a49.add 1)=some (.slice x50p x50n x50c)∧
         Calls prog 79 #[.slice x50p x50n x50c] w46 fun e w51=> ∃r52p r52n r52c,e= .returned (.slice r52p r52n r52c)∧
         ∀n53 w54,New (.cells #[.bool false,.slice r52p r52n r52c] 58) w51 n53 w54→
         ∃w55 r56p r56n r56c,(Builtin.append_ #[26,26] 26 #[.slice o44p o44n o44c,.slice (some (Addr.mk n53 0 none)) 1 1]).run prog w54= .ok (.slice r56p r56n r56c) w55∧
         ∃k43,k43<k42∧I41 r56p r56n r56c (i64.wrap (v45+ (1:Int))) w55 k43)
       (∃x57 x58p x58n x58c,CellsAt w46 (Addr.mk n17 0 none) 0 [.int .i64 x57,.slice x58p x58n x58c]∧
         ∃w59,StoreAt (Addr.mk n5 0 none) 0 [.int .i64 x57,.slice x58p x58n x58c] w46 w59∧
         ∃x60 x61p x61n x61c,CellsAt w59 (Addr.mk n5 0 none) 0 [.int .i64 x60,.slice x61p x61n x61c]∧
         K (.tuple #[.agg #[.int .i64 x60,.slice x61p x61n x61c],.slice o44p o44n o44c,.int .i64 0]) w59)))
theorem drat_Trim.calls {f_0 f1p f1n f1c a b c c0p c0n c0c c1p c1n c1c w R} (h:drat_Trim.w f_0 f1p f1n f1c a b c c0p c0n c0c c1p c1n c1c w fun v w'=>R (.returned v) w'):Calls prog 37 #[.agg #[.int .i64 f_0,.slice f1p f1n f1c],.slice a b c,.agg #[.slice c0p c0n c0c,.slice c1p c1n c1c]] w R:=
 calls_of mixed Tryz.func37 (by kernel_rfl) rfl (ann:=(.two .leaf (.two .leaf (.two .leaf (.two (.two .leaf (.one (.loop [(30,3)] (.two .leaf (.two .leaf (.two (.one (.two .leaf .draw)) .leaf)))))) (.two .leaf (.two (.two .leaf (.one (.loop [(13,26),(49,3)] .leaf))) .leaf))))))) (F:=drat_Trim.w f_0 f1p f1n f1c a b c c0p c0n c0c c1p c1n c1c w) (fun K=>by kernel_rfl) h
def fathomref01_Ints.w (a:Option Addr) (b:Nat) (c:Nat) (d:Option Addr) (f:Nat) (g:Nat) (w:World) (K:Value→World→Prop):Prop:=
 cnd ((b:Int) !=(f:Int))
 (K (.bool false) w)
 (∃I1:Int→World→Nat→Prop,(∃k2,I1 0 w k2)∧
   ∀i_4 w5 k2 (_:Fr),I1 i_4 w5 k2→
   cnd (decide (i_4< (b:Int)))
    (ixK a b i_4 1 fun a6=>
      ∃x7,w5.drew.cell? a6=some (.int .i64 x7)∧
      ixK d f i_4 1 fun a8=>
      ∃x9,w5.drew.cell? a8=some (.int .i64 x9)∧
      cnd (x7 !=x9)
      (K (.bool false) w5.drew)
      (∃k3,k3<k2∧I1 (i64.wrap (i_4+ (1:Int))) w5.drew k3))
    (K (.bool true) w5))
theorem fathomref01_Ints.calls {a b c d f g w R} (h:fathomref01_Ints.w a b c d f g w fun v w'=>R (.returned v) w'):Calls prog 38 #[.slice a b c,.slice d f g] w R:=
 calls_of mixed Tryz.func38 (by kernel_rfl) rfl (ann:=(.two .leaf (.two .leaf (.two (.two .leaf (.one (.loop [(5,3)] .leaf))) .leaf)))) (F:=fathomref01_Ints.w a b c d f g w) (fun K=>by kernel_rfl) h
def fathomref07_Unit.w (a:Option Addr) (b:Nat) (c:Nat) (d:Option Addr) (f:Nat) (g:Nat) (w:World) (K:Value→World→Prop):Prop:=
 Calls prog 80 #[.slice d f g] w fun e w1=> ∃r2,e= .returned (.bool r2)∧
 cnd r2
 (K (.bool true) w1)
 (∀n3 w4,New (.cells #[] 3) w1 n3 w4→
   ∃I5:Option Addr→Nat→Nat→Int→World→Nat→Prop,(∃k6,I5 (some (Addr.mk n3 0 none)) 0 0 0 w4 k6)∧
   ∀t8p t8n t8c i_9 w10 k6 (_:Fr),I5 t8p t8n t8c i_9 w10 k6→
   cnd (decide (i_9< (f:Int)))
    (ixK d f i_9 1 fun a11=>
      ∃x12,w10.cell? a11=some (.int .i64 x12)∧
      ∀n13 w14,New (.cells #[.int .i64 (i64.wrap (0 - x12))] 3) w10 n13 w14→
      ∃w15 r16p r16n r16c,(Builtin.append_ #[25,25] 25 #[.slice t8p t8n t8c,.slice (some (Addr.mk n13 0 none)) 1 1]).run prog w14= .ok (.slice r16p r16n r16c) w15∧
      ∃k7,k7<k6∧I5 r16p r16n r16c (i64.wrap (i_9+ (1:Int))) w15 k7)
    (Calls prog 81 #[.slice a b c,.slice t8p t8n t8c] w10 fun e w17=> ∃r18p r18n r18c r19,e= .returned (.tuple #[.slice r18p r18n r18c,.bool r19])∧
      K (.bool r19) w17))
theorem fathomref07_Unit.calls {a b c d f g w R} (h:fathomref07_Unit.w a b c d f g w fun v w'=>R (.returned v) w'):Calls prog 40 #[.slice a b c,.slice d f g] w R:=
 calls_of mixed Tryz.func40 (by kernel_rfl) rfl (ann:=(.two .leaf (.two .leaf (.two .leaf (.two (.two .leaf (.one (.loop [(5,25),(6,3)] .leaf))) .leaf))))) (F:=fathomref07_Unit.w a b c d f g w) (fun K=>by kernel_rfl) h
def lit_Check.w (a:Option Addr) (b:Nat) (c:Nat) (w:World) (K:Value→World→Prop):Prop:=
 cnd (decide ((b:Int)> (4096:Int)))
 (K (.int .i64 1) w)
 (Calls prog 50 #[.slice a b c,.func (.func 91) #[] #[]] w fun e w1=> ∃r2,e= .returned (.bool r2)∧
 cnd r2
 (K (.int .i64 1) w1)
 (K (.int .i64 0) w1))
theorem lit_Check.calls {a b c w R} (h:lit_Check.w a b c w fun v w'=>R (.returned v) w'):Calls prog 49 #[.slice a b c] w R:=
 calls_of mixed Tryz.func49 (by kernel_rfl) rfl (ann:= .leaf) (F:=lit_Check.w a b c w) (fun K=>by kernel_rfl) h
def slices_ContainsFunc_int_int.w (a:Option Addr) (b:Nat) (c:Nat) (f_f:FuncId) (f_v:Array Value) (w:World) (K:Value→World→Prop):Prop:=
 Calls prog 93 #[.slice a b c,.func (.func f_f) #[] f_v] w fun e w1=> ∃r2,e= .returned (.int .i64 r2)∧
 K (.bool (decide (r2≥(0:Int)))) w1
theorem slices_ContainsFunc_int_int.calls {a b c f_f f_v w R} (h:slices_ContainsFunc_int_int.w a b c f_f f_v w fun v w'=>R (.returned v) w'):Calls prog 50 #[.slice a b c,.func (.func f_f) #[] f_v] w R:=
 calls_of mixed Tryz.func50 (by kernel_rfl) rfl (ann:= .leaf) (F:=slices_ContainsFunc_int_int.w a b c f_f f_v w) (fun K=>by kernel_rfl) h
def lit_CheckCnf_1.w (l_:Int) (c0_:Addr) (w:World) (K:Value→World→Prop):Prop:=
 (Calls prog 52 #[.int .i64 l_] w.drew fun e w1=> ∃r2,e= .returned (.int .i64 r2)∧
 ∃x3,w1.cell? (c0_.add 0)=some (.int .i64 x3)∧
 K (.bool (decide (r2>x3))) w1)∧
(∃x4,w.drew.cell? (c0_.add 0)=some (.int .i64 x4)∧
  Calls prog 52 #[.int .i64 l_] w.drew fun e w5=> ∃r6,e= .returned (.int .i64 r6)∧
  K (.bool (decide (r6>x4))) w5)
theorem lit_CheckCnf_1.calls {l_ c0_ w R} (h:lit_CheckCnf_1.w l_ c0_ w fun v w'=>R (.returned v) w'):Calls prog 51 #[.int .i64 l_,.pointer (some c0_)] w R:=
 calls_of mixed Tryz.func51 (by kernel_rfl) rfl (ann:= .leaf) (F:=lit_CheckCnf_1.w l_ c0_ w) (fun K=>by kernel_rfl) h
def lit_amount.w (l_:Int) (w:World) (K:Value→World→Prop):Prop:=
 K (.int .i64 (imax l_ (i64.wrap (0 - l_)))) w
theorem lit_amount.calls {l_ w R} (h:lit_amount.w l_ w fun v w'=>R (.returned v) w'):Calls prog 52 #[.int .i64 l_] w R:=
 calls_of mixed Tryz.func52 (by kernel_rfl) rfl (ann:= .leaf) (F:=lit_amount.w l_ w) (fun K=>by kernel_rfl) h
def slices_ContainsFunc_fathom_api_Step_fathom_api_Step.w (a:Option Addr) (b:Nat) (c:Nat) (f_f:FuncId) (f_v:Array Value) (w:World) (K:Value→World→Prop):Prop:=
 Calls prog 94 #[.slice a b c,.func (.func f_f) #[] f_v] w fun e w1=> ∃r2,e= .returned (.int .i64 r2)∧
 K (.bool (decide (r2≥(0:Int)))) w1
theorem slices_ContainsFunc_fathom_api_Step_fathom_api_Step.calls {a b c f_f f_v w R} (h:slices_ContainsFunc_fathom_api_Step_fathom_api_Step.w a b c f_f f_v w fun v w'=>R (.returned v) w'):Calls prog 53 #[.slice a b c,.func (.func f_f) #[] f_v] w R:=
 calls_of mixed Tryz.func53 (by kernel_rfl) rfl (ann:= .leaf) (F:=slices_ContainsFunc_fathom_api_Step_fathom_api_Step.w a b c f_f f_v w) (fun K=>by kernel_rfl) h
def trace_Check_1.w (s_0:Bool) (s1p:Option Addr) (s1n:Nat) (s1c:Nat) (w:World) (K:Value→World→Prop):Prop:=
 ∀n1 w2,New (.cells #[.bool s_0,.slice s1p s1n s1c] 58) w n1 w2→
 ∃x3p x3n x3c,w2.cell? ((Addr.mk n1 0 none).add 1)=some (.slice x3p x3n x3c)∧
 Calls prog 49 #[.slice x3p x3n x3c] w2 fun e w4=> ∃r5,e= .returned (.int .i64 r5)∧
 K (.bool (r5 !=(0:Int))) w4
theorem trace_Check_1.calls {s_0 s1p s1n s1c w R} (h:trace_Check_1.w s_0 s1p s1n s1c w fun v w'=>R (.returned v) w'):Calls prog 54 #[.agg #[.bool s_0,.slice s1p s1n s1c]] w R:=
 calls_of mixed Tryz.func54 (by kernel_rfl) rfl (ann:= .leaf) (F:=trace_Check_1.w s_0 s1p s1n s1c w) (fun K=>by kernel_rfl) h
def lit_Value.w (a:Option Addr) (b:Nat) (c:Nat) (l_:Int) (w:World) (K:Value→World→Prop):Prop:=
 Calls prog 92 #[.int .i64 l_] w fun e w1=> ∃r2,e= .returned (.bool r2)∧
 cnd (!r2)
 (K (.int .i64 0) w1)
 (Calls prog 52 #[.int .i64 l_] w1 fun e w3=> ∃r4,e= .returned (.int .i64 r4)∧
 cnd (decide (r4> (b:Int)))
 (K (.int .i64 0) w3)
 (Calls prog 52 #[.int .i64 l_] w3 fun e w5=> ∃r6,e= .returned (.int .i64 r6)∧
   ixK a b (i64.wrap (r6 - (1:Int))) 1 fun a7=>
   ∃x8,w5.cell? a7=some (.int .i64 x8)∧
   cnd (x8==(0:Int))
   (K (.int .i64 0) w5)
   (cnd ((decide (x8> (0:Int)))==(decide (l_> (0:Int))))
     (K (.int .i64 1) w5)
     (K (.int .i64 (-1)) w5))))
theorem lit_Value.calls {a b c l_ w R} (h:lit_Value.w a b c l_ w fun v w'=>R (.returned v) w'):Calls prog 55 #[.slice a b c,.int .i64 l_] w R:=
 calls_of mixed Tryz.func55 (by kernel_rfl) rfl (ann:= .leaf) (F:=lit_Value.w a b c l_ w) (fun K=>by kernel_rfl) h
def rup_begin.w (f_0:Int) (f1p:Option Addr) (f1n:Nat) (f1c:Nat) (a:Option Addr) (b:Nat) (c:Nat) (w:World) (K:Value→World→Prop):Prop:=
 ∀n1 w2,New (.cells #[.int .i64 f_0,.slice f1p f1n f1c] 24) w n1 w2→
 ∃x3,w2.cell? ((Addr.mk n1 0 none).add 0)=some (.int .i64 x3)∧
 ∀n4 w5,New (.map #[] 0) w2 n4 w5→
 ∀n6 w7,New (.cells #[.int .i64 x3,.map (some n4),.pointer none,.slice none 0 0,.map none] 150) w5 n6 w7→
 ∃x8p x8n x8c,w7.cell? ((Addr.mk n1 0 none).add 1)=some (.slice x8p x8n x8c)∧
 ∃I9:Int→World→Nat→Prop,(∃k10,I9 0 w7 k10)∧
 ∀v12 w13 k10 (_:Fr),I9 v12 w13 k10→
 cnd (decide (v12< (x8n:Int)))
  (ixK x8p x8n v12 1 fun a14=>
    ∃x15p x15n x15c,w13.cell? a14=some (.slice x15p x15n x15c)∧
    Calls prog 95 #[.pointer (some (Addr.mk n6 0 none)),.slice x15p x15n x15c] w13 fun e w16=>e= .returned (.tuple #[])∧
    ∃k11,k11<k10∧I9 (i64.wrap (v12+ (1:Int))) w16 k11)
  (∃I17:Int→World→Nat→Prop,(∃k18,I17 0 w13 k18)∧
    ∀v20 w21 k18 (_:Fr),I17 v20 w21 k18→
    cnd (decide (v20< (b:Int)))
     (ixK a b v20 1 fun a22=>
       ∃x23p x23n x23c,w21.cell? a22=some (.slice x23p x23n x23c)∧
       Calls prog 95 #[.pointer (some (Addr.mk n6 0 none)),.slice x23p x23n x23c] w21 fun e w24=>e= .returned (.tuple #[])∧
       ∃k19,k19<k18∧I17 (i64.wrap (v20+ (1:Int))) w24 k19)
     (∃x25p x25n x25c,w21.cell? ((Addr.mk n1 0 none).add 1)=some (.slice x25p x25n x25c)∧
       Calls prog 96 #[.pointer (some (Addr.mk n6 0 none)),.slice x25p x25n x25c] w21 fun e w26=>e= .returned (.tuple #[])∧
       K (.pointer (some (Addr.mk n6 0 none))) w26))
theorem rup_begin.calls {f_0 f1p f1n f1c a b c w R} (h:rup_begin.w f_0 f1p f1n f1c a b c w fun v w'=>R (.returned v) w'):Calls prog 56 #[.agg #[.int .i64 f_0,.slice f1p f1n f1c],.slice a b c] w R:=
 calls_of mixed Tryz.func56 (by kernel_rfl) rfl (ann:=(.two .leaf (.two .leaf (.two (.two .leaf (.one (.loop [(18,3)] .leaf))) (.two (.two .leaf (.one (.loop [(28,3)] .leaf))) .leaf))))) (F:=rup_begin.w f_0 f1p f1n f1c a b c w) (fun K=>by kernel_rfl) h
def rup_base_do.w (b_:Option Addr) (s_0:Bool) (s1p:Option Addr) (s1n:Nat) (s1c:Nat) (w:World) (K:Value→World→Prop):Prop:=
 ∀n1 w2,New (.cells #[.bool s_0,.slice s1p s1n s1c] 58) w n1 w2→
 ∃x3,w2.cell? ((Addr.mk n1 0 none).add 0)=some (.bool x3)∧
 cnd x3
 (∃x4p x4n x4c,w2.cell? ((Addr.mk n1 0 none).add 1)=some (.slice x4p x4n x4c)∧
   Calls prog 97 #[.pointer b_,.slice x4p x4n x4c] w2 fun e w5=>e= .returned (.tuple #[])∧
   K (.int .i64 0) w5)
 (∃a6,b_=some a6∧∃x7p x7n x7c,w2.cell? (a6.add 3)=some (.slice x7p x7n x7c)∧
   cnd ((x7n:Int)==(262144:Int))
   (K (.int .i64 3) w2)
   (∃x8p x8n x8c,w2.cell? ((Addr.mk n1 0 none).add 1)=some (.slice x8p x8n x8c)∧
     Calls prog 98 #[.pointer b_,.slice x8p x8n x8c] w2 fun e w9=> ∃r10,e= .returned (.bool r10)∧
     cnd (!r10)
     (∃x11p x11n x11c,w9.cell? ((Addr.mk n1 0 none).add 1)=some (.slice x11p x11n x11c)∧
     Calls prog 99 #[.pointer b_,.slice x11p x11n x11c] w9 fun e w12=> ∃r13,e= .returned (.bool r13)∧
     cnd (!r13)
     (K (.int .i64 7) w12)
     (∃x14p x14n x14c,w12.cell? ((Addr.mk n1 0 none).add 1)=some (.slice x14p x14n x14c)∧
       Calls prog 100 #[.pointer b_,.slice x14p x14n x14c] w12 fun e w15=>e= .returned (.tuple #[])∧
       K (.int .i64 0) w15))
     (∃x16p x16n x16c,w9.cell? ((Addr.mk n1 0 none).add 1)=some (.slice x16p x16n x16c)∧
     Calls prog 100 #[.pointer b_,.slice x16p x16n x16c] w9 fun e w17=>e= .returned (.tuple #[])∧
     K (.int .i64 0) w17)))
theorem rup_base_do.calls {b_ s_0 s1p s1n s1c w R} (h:rup_base_do.w b_ s_0 s1p s1n s1c w fun v w'=>R (.returned v) w'):Calls prog 57 #[.pointer b_,.agg #[.bool s_0,.slice s1p s1n s1c]] w R:=
 calls_of mixed Tryz.func57 (by kernel_rfl) rfl (ann:= .leaf) (F:=rup_base_do.w b_ s_0 s1p s1n s1c w) (fun K=>by kernel_rfl) h
def fathomref01_Clause.w (a:Option Addr) (b:Nat) (c:Nat) (d:Option Addr) (f:Nat) (g:Nat) (w:World) (K:Value→World→Prop):Prop:=
 ∃I1:Bool→Int→World→Nat→Prop,(∃k2,I1 false 0 w k2)∧
 ∀o_4 i_5 w6 k2 (_:Fr),I1 o_4 i_5 w6 k2→
 cnd (decide (i_5< (f:Int)))
  (ixK d f i_5 1 fun a7=>
    ∃x8,w6.cell? a7=some (.int .i64 x8)∧
    Calls prog 101 #[.slice a b c,.int .i64 x8] w6 fun e w9=> ∃r10,e= .returned (.int .i64 r10)∧
    cnd (r10==(1:Int))
    (K (.int .i64 1) w9)
    (cnd o_4
      (∃k3,k3<k2∧I1 true (i64.wrap (i_5+ (1:Int))) w9 k3)
      (ixK d f i_5 1 fun a11=>
      ∃x12,w9.cell? a11=some (.int .i64 x12)∧
      Calls prog 101 #[.slice a b c,.int .i64 x12] w9 fun e w13=> ∃r14,e= .returned (.int .i64 r14)∧
      ∃k3,k3<k2∧I1 (r14==(0:Int)) (i64.wrap (i_5+ (1:Int))) w13 k3)))
  (cnd o_4
    (K (.int .i64 0) w6)
    (K (.int .i64 (-1)) w6))
theorem fathomref01_Clause.calls {a b c d f g w R} (h:fathomref01_Clause.w a b c d f g w fun v w'=>R (.returned v) w'):Calls prog 58 #[.slice a b c,.slice d f g] w R:=
 calls_of mixed Tryz.func58 (by kernel_rfl) rfl (ann:=(.two .leaf (.two .leaf (.two (.two .leaf (.one (.loop [(5,4),(6,3)] .leaf))) .leaf)))) (F:=fathomref01_Clause.w a b c d f g w) (fun K=>by kernel_rfl) h
def fathomref07_Do.w (f_0:Int) (f1p:Option Addr) (f1n:Nat) (f1c:Nat) (s_0:Bool) (s1p:Option Addr) (s1n:Nat) (s1c:Nat) (w:World) (K:Value→World→Prop):Prop:=
 ∀n1 w2,New (.cells #[.int .i64 f_0,.slice f1p f1n f1c] 24) w n1 w2→
 ∀n3 w4,New (.cells #[.bool s_0,.slice s1p s1n s1c] 58) w2 n3 w4→
 ∀n5 w6,New (.cells #[.int .i64 0,.slice none 0 0] 24) w4 n5 w6→
 ∃x7,w6.cell? ((Addr.mk n3 0 none).add 0)=some (.bool x7)∧
 cnd x7
 (∃x8p x8n x8c,w6.cell? ((Addr.mk n3 0 none).add 1)=some (.slice x8p x8n x8c)∧
   Calls prog 82 #[.slice x8p x8n x8c] w6 fun e w9=> ∃r10p r10n r10c,e= .returned (.slice r10p r10n r10c)∧
   ∃I11:Int→World→Nat→Prop,(∃k12,I11 0 w9 k12)∧
   ∀i_14 w15 k12 (_:Fr),I11 i_14 w15 k12→
   ∃x16p x16n x16c,w15.cell? ((Addr.mk n1 0 none).add 1)=some (.slice x16p x16n x16c)∧
    cnd (decide (i_14< (x16n:Int)))
    (∃x17p x17n x17c,w15.cell? ((Addr.mk n1 0 none).add 1)=some (.slice x17p x17n x17c)∧
      ixK x17p x17n i_14 1 fun a18=>
      ∃x19p x19n x19c,w15.cell? a18=some (.slice x19p x19n x19c)∧
      Calls prog 82 #[.slice x19p x19n x19c] w15 fun e w20=> ∃r21p r21n r21c,e= .returned (.slice r21p r21n r21c)∧
      Calls prog 38 #[.slice r21p r21n r21c,.slice r10p r10n r10c] w20 fun e w22=> ∃r23,e= .returned (.bool r23)∧
      cnd r23
      (∀n24 w25,New (.cells #[] 25) w22 n24 w25→
        ∃x26p x26n x26c,w25.cell? ((Addr.mk n1 0 none).add 1)=some (.slice x26p x26n x26c)∧
        slK x26p x26n x26c 1 none (some i_14) none fun s27p s27n s27c=>
        ∃w28 r29p r29n r29c,(Builtin.append_ #[22,22] 22 #[.slice (some (Addr.mk n24 0 none)) 0 0,.slice s27p s27n s27c]).run prog w25= .ok (.slice r29p r29n r29c) w28∧
        ∃W30:World→Prop,W30 w28.drew∧
        ∃x31,AtW W30 ((Addr.mk n1 0 none).add 0) (.int .i64 x31)∧
        ∃x32p x32n x32c,AtW W30 ((Addr.mk n1 0 none).add 1) (.slice x32p x32n x32c)∧
        slK x32p x32n x32c 1 (some (i64.wrap (i_14+ (1:Int)))) none none fun s33p s33n s33c=>
        ∃w34 r35p r35n r35c,(Builtin.append_ #[22,22] 22 #[.slice r29p r29n r29c,.slice s33p s33n s33c]).run prog w28.drew= .ok (.slice r35p r35n r35c) w34∧
        W30 w34∧∃w36,StoreAt (Addr.mk n5 0 none) 0 [.int .i64 x31,.slice r35p r35n r35c] w34 w36∧
        ∃x37 x38p x38n x38c,CellsAt w36 (Addr.mk n5 0 none) 0 [.int .i64 x37,.slice x38p x38n x38c]∧
        K (.tuple #[.agg #[.int .i64 x37,.slice x38p x38n x38c],.int .i64 0]) w36)
      (∃k13,k13<k12∧I11 (i64.wrap (i_14+ (1:Int))) w22 k13))
    (∃x39 x40p x40n x40c,CellsAt w15 (Addr.mk n1 0 none) 0 [.int .i64 x39,.slice x40p x40n x40c]∧
      ∃w41,StoreAt (Addr.mk n5 0 none) 0 [.int .i64 x39,.slice x40p x40n x40c] w15 w41∧
      ∃x42 x43p x43n x43c,CellsAt w41 (Addr.mk n5 0 none) 0 [.int .i64 x42,.slice x43p x43n x43c]∧
      K (.tuple #[.agg #[.int .i64 x42,.slice x43p x43n x43c],.int .i64 0]) w41))
 (∃x44p x44n x44c,w6.cell? ((Addr.mk n1 0 none).add 1)=some (.slice x44p x44n x44c)∧
   cnd ((x44n:Int)==(262144:Int))
   (∃x45 x46p x46n x46c,CellsAt w6 (Addr.mk n1 0 none) 0 [.int .i64 x45,.slice x46p x46n x46c]∧
     ∃w47,StoreAt (Addr.mk n5 0 none) 0 [.int .i64 x45,.slice x46p x46n x46c] w6 w47∧
     ∃x48 x49p x49n x49c,CellsAt w47 (Addr.mk n5 0 none) 0 [.int .i64 x48,.slice x49p x49n x49c]∧
     K (.tuple #[.agg #[.int .i64 x48,.slice x49p x49n x49c],.int .i64 3]) w47)
   (∃J50:World→Prop,(∃x51p x51n x51c,w6.cell? ((Addr.mk n1 0 none).add 1)=some (.slice x51p x51n x51c)∧
     ∃x52p x52n x52c,w6.cell? ((Addr.mk n3 0 none).add 1)=some (.slice x52p x52n x52c)∧
     Calls prog 40 #[.slice x51p x51n x51c,.slice x52p x52n x52c] w6 fun e w53=> ∃r54,e= .returned (.bool r54)∧
     cnd (!r54)
     (∃x55p x55n x55c,w53.cell? ((Addr.mk n1 0 none).add 1)=some (.slice x55p x55n x55c)∧
     ∃x56p x56n x56c,w53.cell? ((Addr.mk n3 0 none).add 1)=some (.slice x56p x56n x56c)∧
     Calls prog 102 #[.slice x55p x55n x55c,.slice x56p x56n x56c] w53 fun e w57=> ∃r58,e= .returned (.bool r58)∧
     cnd (!r58)
     (∃x59 x60p x60n x60c,CellsAt w57 (Addr.mk n1 0 none) 0 [.int .i64 x59,.slice x60p x60n x60c]∧
       ∃w61,StoreAt (Addr.mk n5 0 none) 0 [.int .i64 x59,.slice x60p x60n x60c] w57 w61∧
       ∃x62 x63p x63n x63c,CellsAt w61 (Addr.mk n5 0 none) 0 [.int .i64 x62,.slice x63p x63n x63c]∧
       K (.tuple #[.agg #[.int .i64 x62,.slice x63p x63n x63c],.int .i64 7]) w61)
     (J50 w57))
     (J50 w53))∧
     ∀w64 (_:Fr),J50 w64→
     ∃J65:Addr→World→Prop,(∃W66:World→Prop,W66 w64.drew∧
     ∃x67,AtW W66 ((Addr.mk n1 0 none).add 0) (.int .i64 x67)∧
     ∃x68p x68n x68c,AtW W66 ((Addr.mk n1 0 none).add 1) (.slice x68p x68n x68c)∧
     ∃x69p x69n x69c,AtW W66 ((Addr.mk n3 0 none).add 1) (.slice x69p x69n x69c)∧
     (∀n70 w71,New (.cells #[] 25) w64.drew n70 w71→
     W66 w71∧(∃w72 r73p r73n r73c,(Builtin.append_ #[22,22] 22 #[.slice (some (Addr.mk n70 0 none)) 0 0,.slice x68p x68n x68c]).run prog w71= .ok (.slice r73p r73n r73c) w72∧
     W66 w72∧(∀n74 w75,New (.cells #[.slice x69p x69n x69c] 25) w72 n74 w75→
     W66 w75∧(∃w76 r77p r77n r77c,(Builtin.append_ #[22,22] 22 #[.slice r73p r73n r73c,.slice (some (Addr.mk n74 0 none)) 1 1]).run prog w75= .ok (.slice r77p r77n r77c) w76∧
     W66 w76∧∀n78 w79,New (.cells #[.int .i64 0,.slice none 0 0] 24) w76 n78 w79→
     W66 w79∧∃w80,StoreAt (Addr.mk n78 0 none) 0 [.int .i64 x67,.slice r77p r77n r77c] w79 w80∧
     J65 (Addr.mk n78 0 none) w80)∧
   (∀n81 w82,New (.cells #[.int .i64 0,.slice none 0 0] 24) w75 n81 w82→
     W66 w82∧∃w83 r84p r84n r84c,(Builtin.append_ #[22,22] 22 #[.slice r73p r73n r73c,.slice (some (Addr.mk n74 0 none)) 1 1]).run prog w82= .ok (.slice r84p r84n r84c) w83∧
     W66 w83∧∃w85,StoreAt (Addr.mk n81 0 none) 0 [.int .i64 x67,.slice r84p r84n r84c] w83 w85∧
     J65 (Addr.mk n81 0 none) w85))∧
   (∀n86 w87,New (.cells #[.int .i64 0,.slice none 0 0] 24) w72 n86 w87→
     W66 w87∧∀n88 w89,New (.cells #[.slice x69p x69n x69c] 25) w87 n88 w89→
     W66 w89∧∃w90 r91p r91n r91c,(Builtin.append_ #[22,22] 22 #[.slice r73p r73n r73c,.slice (some (Addr.mk n88 0 none)) 1 1]).run prog w89= .ok (.slice r91p r91n r91c) w90∧
     W66 w90∧∃w92,StoreAt (Addr.mk n86 0 none) 0 [.int .i64 x67,.slice r91p r91n r91c] w90 w92∧
     J65 (Addr.mk n86 0 none) w92))∧
   (∀n93 w94,New (.cells #[.slice x69p x69n x69c] 25) w71 n93 w94→
     W66 w94∧(∃w95 r96p r96n r96c,(Builtin.append_ #[22,22] 22 #[.slice (some (Addr.mk n70 0 none)) 0 0,.slice x68p x68n x68c]).run prog w94= .ok (.slice r96p r96n r96c) w95∧
     W66 w95∧(∃w97 r98p r98n r98c,(Builtin.append_ #[22,22] 22 #[.slice r96p r96n r96c,.slice (some (Addr.mk n93 0 none)) 1 1]).run prog w95= .ok (.slice r98p r98n r98c) w97∧
     W66 w97∧∀n99 w100,New (.cells #[.int .i64 0,.slice none 0 0] 24) w97 n99 w100→
     W66 w100∧∃w101,StoreAt (Addr.mk n99 0 none) 0 [.int .i64 x67,.slice r98p r98n r98c] w100 w101∧
     J65 (Addr.mk n99 0 none) w101)∧
   (∀n102 w103,New (.cells #[.int .i64 0,.slice none 0 0] 24) w95 n102 w103→
     W66 w103∧∃w104 r105p r105n r105c,(Builtin.append_ #[22,22] 22 #[.slice r96p r96n r96c,.slice (some (Addr.mk n93 0 none)) 1 1]).run prog w103= .ok (.slice r105p r105n r105c) w104∧
     W66 w104∧∃w106,StoreAt (Addr.mk n102 0 none) 0 [.int .i64 x67,.slice r105p r105n r105c] w104 w106∧
     J65 (Addr.mk n102 0 none) w106))∧
   (∀n107 w108,New (.cells #[.int .i64 0,.slice none 0 0] 24) w94 n107 w108→
     W66 w108∧∃w109 r110p r110n r110c,(Builtin.append_ #[22,22] 22 #[.slice (some (Addr.mk n70 0 none)) 0 0,.slice x68p x68n x68c]).run prog w108= .ok (.slice r110p r110n r110c) w109∧
     W66 w109∧∃w111 r112p r112n r112c,(Builtin.append_ #[22,22] 22 #[.slice r110p r110n r110c,.slice (some (Addr.mk n93 0 none)) 1 1]).run prog w109= .ok (.slice r112p r112n r112c) w111∧
     W66 w111∧∃w113,StoreAt (Addr.mk n107 0 none) 0 [.int .i64 x67,.slice r112p r112n r112c] w111 w113∧
     J65 (Addr.mk n107 0 none) w113))∧
   (∀n114 w115,New (.cells #[.int .i64 0,.slice none 0 0] 24) w71 n114 w115→
     W66 w115∧(∃w116 r117p r117n r117c,(Builtin.append_ #[22,22] 22 #[.slice (some (Addr.mk n70 0 none)) 0 0,.slice x68p x68n x68c]).run prog w115= .ok (.slice r117p r117n r117c) w116∧
     W66 w116∧∀n118 w119,New (.cells #[.slice x69p x69n x69c] 25) w116 n118 w119→
     W66 w119∧∃w120 r121p r121n r121c,(Builtin.append_ #[22,22] 22 #[.slice r117p r117n r117c,.slice (some (Addr.mk n118 0 none)) 1 1]).run prog w119= .ok (.slice r121p r121n r121c) w120∧
     W66 w120∧∃w122,StoreAt (Addr.mk n114 0 none) 0 [.int .i64 x67,.slice r121p r121n r121c] w120 w122∧
     J65 (Addr.mk n114 0 none) w122)∧
   (∀n123 w124,New (.cells #[.slice x69p x69n x69c] 25) w115 n123 w124→
     W66 w124∧∃w125 r126p r126n r126c,(Builtin.append_ #[22,22] 22 #[.slice (some (Addr.mk n70 0 none)) 0 0,.slice x68p x68n x68c]).run prog w124= .ok (.slice r126p r126n r126c) w125∧
     W66 w125∧∃w127 r128p r128n r128c,(Builtin.append_ #[22,22] 22 #[.slice r126p r126n r126c,.slice (some (Addr.mk n123 0 none)) 1 1]).run prog w125= .ok (.slice r128p r128n r128c) w127∧
     W66 w127∧∃w129,StoreAt (Addr.mk n114 0 none) 0 [.int .i64 x67,.slice r128p r128n r128c] w127 w129∧
     J65 (Addr.mk n114 0 none) w129)))∧
   (∀n130 w131,New (.cells #[.slice x69p x69n x69c] 25) w64.drew n130 w131→
     W66 w131∧(∀n132 w133,New (.cells #[] 25) w131 n132 w133→
     W66 w133∧(∃w134 r135p r135n r135c,(Builtin.append_ #[22,22] 22 #[.slice (some (Addr.mk n132 0 none)) 0 0,.slice x68p x68n x68c]).run prog w133= .ok (.slice r135p r135n r135c) w134∧
     W66 w134∧(∃w136 r137p r137n r137c,(Builtin.append_ #[22,22] 22 #[.slice r135p r135n r135c,.slice (some (Addr.mk n130 0 none)) 1 1]).run prog w134= .ok (.slice r137p r137n r137c) w136∧
     W66 w136∧∀n138 w139,New (.cells #[.int .i64 0,.slice none 0 0] 24) w136 n138 w139→
     W66 w139∧∃w140,StoreAt (Addr.mk n138 0 none) 0 [.int .i64 x67,.slice r137p r137n r137c] w139 w140∧
     J65 (Addr.mk n138 0 none) w140)∧
   (∀n141 w142,New (.cells #[.int .i64 0,.slice none 0 0] 24) w134 n141 w142→
     W66 w142∧∃w143 r144p r144n r144c,(Builtin.append_ #[22,22] 22 #[.slice r135p r135n r135c,.slice (some (Addr.mk n130 0 none)) 1 1]).run prog w142= .ok (.slice r144p r144n r144c) w143∧
     W66 w143∧∃w145,StoreAt (Addr.mk n141 0 none) 0 [.int .i64 x67,.slice r144p r144n r144c] w143 w145∧
     J65 (Addr.mk n141 0 none) w145))∧
   (∀n146 w147,New (.cells #[.int .i64 0,.slice none 0 0] 24) w133 n146 w147→
     W66 w147∧∃w148 r149p r149n r149c,(Builtin.append_ #[22,22] 22 #[.slice (some (Addr.mk n132 0 none)) 0 0,.slice x68p x68n x68c]).run prog w147= .ok (.slice r149p r149n r149c) w148∧
     W66 w148∧∃w150 r151p r151n r151c,(Builtin.append_ #[22,22] 22 #[.slice r149p r149n r149c,.slice (some (Addr.mk n130 0 none)) 1 1]).run prog w148= .ok (.slice r151p r151n r151c) w150∧
     W66 w150∧∃w152,StoreAt (Addr.mk n146 0 none) 0 [.int .i64 x67,.slice r151p r151n r151c] w150 w152∧
     J65 (Addr.mk n146 0 none) w152))∧
   (∀n153 w154,New (.cells #[.int .i64 0,.slice none 0 0] 24) w131 n153 w154→
     W66 w154∧∀n155 w156,New (.cells #[] 25) w154 n155 w156→
     W66 w156∧∃w157 r158p r158n r158c,(Builtin.append_ #[22,22] 22 #[.slice (some (Addr.mk n155 0 none)) 0 0,.slice x68p x68n x68c]).run prog w156= .ok (.slice r158p r158n r158c) w157∧
     W66 w157∧∃w159 r160p r160n r160c,(Builtin.append_ #[22,22] 22 #[.slice r158p r158n r158c,.slice (some (Addr.mk n130 0 none)) 1 1]).run prog w157= .ok (.slice r160p r160n r160c) w159∧
     W66 w159∧∃w161,StoreAt (Addr.mk n153 0 none) 0 [.int .i64 x67,.slice r160p r160n r160c] w159 w161∧
     J65 (Addr.mk n153 0 none) w161))∧
   (∀n162 w163,New (.cells #[.int .i64 0,.slice none 0 0] 24) w64.drew n162 w163→
     W66 w163∧(∀n164 w165,New (.cells #[] 25) w163 n164 w165→
     W66 w165∧(∃w166 r167p r167n r167c,(Builtin.append_ #[22,22] 22 #[.slice (some (Addr.mk n164 0 none)) 0 0,.slice x68p x68n x68c]).run prog w165= .ok (.slice r167p r167n r167c) w166∧
     W66 w166∧∀n168 w169,New (.cells #[.slice x69p x69n x69c] 25) w166 n168 w169→
     W66 w169∧∃w170 r171p r171n r171c,(Builtin.append_ #[22,22] 22 #[.slice r167p r167n r167c,.slice (some (Addr.mk n168 0 none)) 1 1]).run prog w169= .ok (.slice r171p r171n r171c) w170∧
     W66 w170∧∃w172,StoreAt (Addr.mk n162 0 none) 0 [.int .i64 x67,.slice r171p r171n r171c] w170 w172∧
     J65 (Addr.mk n162 0 none) w172)∧
   (∀n173 w174,New (.cells #[.slice x69p x69n x69c] 25) w165 n173 w174→
     W66 w174∧∃w175 r176p r176n r176c,(Builtin.append_ #[22,22] 22 #[.slice (some (Addr.mk n164 0 none)) 0 0,.slice x68p x68n x68c]).run prog w174= .ok (.slice r176p r176n r176c) w175∧
     W66 w175∧∃w177 r178p r178n r178c,(Builtin.append_ #[22,22] 22 #[.slice r176p r176n r176c,.slice (some (Addr.mk n173 0 none)) 1 1]).run prog w175= .ok (.slice r178p r178n r178c) w177∧
     W66 w177∧∃w179,StoreAt (Addr.mk n162 0 none) 0 [.int .i64 x67,.slice r178p r178n r178c] w177 w179∧
     J65 (Addr.mk n162 0 none) w179))∧
   (∀n180 w181,New (.cells #[.slice x69p x69n x69c] 25) w163 n180 w181→
     W66 w181∧∀n182 w183,New (.cells #[] 25) w181 n182 w183→
     W66 w183∧∃w184 r185p r185n r185c,(Builtin.append_ #[22,22] 22 #[.slice (some (Addr.mk n182 0 none)) 0 0,.slice x68p x68n x68c]).run prog w183= .ok (.slice r185p r185n r185c) w184∧
     W66 w184∧∃w186 r187p r187n r187c,(Builtin.append_ #[22,22] 22 #[.slice r185p r185n r185c,.slice (some (Addr.mk n180 0 none)) 1 1]).run prog w184= .ok (.slice r187p r187n r187c) w186∧
     W66 w186∧∃w188,StoreAt (Addr.mk n162 0 none) 0 [.int .i64 x67,.slice r187p r187n r187c] w186 w188∧
     J65 (Addr.mk n162 0 none) w188)))∧
     ∀x_189 w190 (_:Fr),J65 x_189 w190→
     ∃I191:Int→World→Nat→Prop,(∃k192,I191 0 w190 k192)∧
     ∀i_194 w195 k192 (_:Fr),I191 i_194 w195 k192→
     ∃x196p x196n x196c,w195.cell? ((Addr.mk n3 0 none).add 1)=some (.slice x196p x196n x196c)∧
      cnd (decide (i_194< (x196n:Int)))
      (∃x197p x197n x197c,w195.cell? ((Addr.mk n3 0 none).add 1)=some (.slice x197p x197n x197c)∧
        ixK x197p x197n i_194 1 fun a198=>
        ∃x199,w195.cell? a198=some (.int .i64 x199)∧
        Calls prog 34 #[.int .i64 x199] w195 fun e w200=> ∃r201,e= .returned (.int .i64 r201)∧
        ∃x202,w200.cell? (x_189.add 0)=some (.int .i64 x202)∧
        cnd (decide (r201>x202))
        (∃w203,StoreAt (x_189.add 0) 0 [.int .i64 r201] w200 w203∧
          ∃k193,k193<k192∧I191 (i64.wrap (i_194+ (1:Int))) w203 k193)
        (∃k193,k193<k192∧I191 (i64.wrap (i_194+ (1:Int))) w200 k193))
      (∃x204 x205p x205n x205c,CellsAt w195 x_189 0 [.int .i64 x204,.slice x205p x205n x205c]∧
        ∃w206,StoreAt (Addr.mk n5 0 none) 0 [.int .i64 x204,.slice x205p x205n x205c] w195 w206∧
        ∃x207 x208p x208n x208c,CellsAt w206 (Addr.mk n5 0 none) 0 [.int .i64 x207,.slice x208p x208n x208c]∧
        K (.tuple #[.agg #[.int .i64 x207,.slice x208p x208n x208c],.int .i64 0]) w206)))
theorem fathomref07_Do.calls {f_0 f1p f1n f1c s_0 s1p s1n s1c w R} (h:fathomref07_Do.w f_0 f1p f1n f1c s_0 s1p s1n s1c w fun v w'=>R (.returned v) w'):Calls prog 59 #[.agg #[.int .i64 f_0,.slice f1p f1n f1c],.agg #[.bool s_0,.slice s1p s1n s1c]] w R:=
 calls_of mixed Tryz.func59 (by kernel_rfl) rfl (ann:=(.two .leaf (.two (.two .leaf (.two (.two .leaf (.two (.two .leaf (.one (.loop [(7,3)] (.two .leaf (.two (.one (.two .leaf (.two (.two .leaf (.two .draw .leaf)) .leaf))) .leaf))))) .leaf)) .leaf)) (.two .leaf (.cut [] .leaf (.cut [(9,1000000)] .draw (.two (.two .leaf (.one (.loop [(10,3)] .leaf))) .leaf))))))) (F:=fathomref07_Do.w f_0 f1p f1n f1c s_0 s1p s1n s1c w) (fun K=>by kernel_rfl) h
def cdcl_Check.w (s_0:Int) (s_1:Int) (s_2:Int) (w:World) (K:Value→World→Prop):Prop:=
 ∀n1 w2,New (.cells #[.int .i64 s_0,.int .i64 s_1,.int .i64 s_2] 36) w n1 w2→
 ∃x3,w2.cell? ((Addr.mk n1 0 none).add 1)=some (.int .i64 x3)∧
 cnd (decide (x3< (1:Int)))
 (K (.int .i64 1) w2)
 (∃x4,w2.cell? ((Addr.mk n1 0 none).add 1)=some (.int .i64 x4)∧
 cnd (decide (x4> (1048576:Int)))
 (K (.int .i64 1) w2)
 (∃x5,w2.cell? ((Addr.mk n1 0 none).add 2)=some (.int .i64 x5)∧
 cnd (decide (x5< (1:Int)))
 (K (.int .i64 1) w2)
 (∃x6,w2.cell? ((Addr.mk n1 0 none).add 2)=some (.int .i64 x6)∧
 cnd (decide (x6> (1048576:Int)))
 (K (.int .i64 1) w2)
 (K (.int .i64 0) w2))))
theorem cdcl_Check.calls {s_0 s_1 s_2 w R} (h:cdcl_Check.w s_0 s_1 s_2 w fun v w'=>R (.returned v) w'):Calls prog 60 #[.agg #[.int .i64 s_0,.int .i64 s_1,.int .i64 s_2]] w R:=
 calls_of mixed Tryz.func60 (by kernel_rfl) rfl (ann:= .leaf) (F:=cdcl_Check.w s_0 s_1 s_2 w) (fun K=>by kernel_rfl) h
def prop_New.w (f_0:Int) (f1p:Option Addr) (f1n:Nat) (f1c:Nat) (w:World) (K:Value→World→Prop):Prop:=
 ∀n1 w2,New (.cells #[.int .i64 f_0,.slice f1p f1n f1c] 24) w n1 w2→
 ∃x3 x4p x4n x4c,CellsAt w2 (Addr.mk n1 0 none) 0 [.int .i64 x3,.slice x4p x4n x4c]∧
 Calls prog 25 #[.agg #[.int .i64 x3,.slice x4p x4n x4c]] w2 fun e w5=> ∃r6,e= .returned (.int .i64 r6)∧
 cnd (r6 !=(0:Int))
 (K (.tuple #[.pointer none,.int .i64 1]) w5)
 (∃x7,w5.cell? ((Addr.mk n1 0 none).add 0)=some (.int .i64 x7)∧
   ∃J8:Addr→World→Prop,(∃W9:World→Prop,W9 w5.drew∧
   ∃x10,AtW W9 ((Addr.mk n1 0 none).add 0) (.int .i64 x10)∧
   (∃w11 r12p r12n r12c,(Instr.makeSlice 22 (.int .i64 (i64.wrap ((2:Int)* (i64.wrap (x7+ (1:Int)))))) (.int .i64 (i64.wrap ((2:Int)* (i64.wrap (x7+ (1:Int))))))).run prog w5.drew= .ok (.slice r12p r12n r12c) w11∧
   W9 w11∧(∃w13 r14p r14n r14c,(Instr.makeSlice 152 (.int .i64 (i64.wrap (x7+ (1:Int)))) (.int .i64 (i64.wrap (x7+ (1:Int))))).run prog w11= .ok (.slice r14p r14n r14c) w13∧
   W9 w13∧(∃w15 r16p r16n r16c,(Instr.makeSlice 25 (.int .i64 (i64.wrap (x7+ (1:Int)))) (.int .i64 (i64.wrap (x7+ (1:Int))))).run prog w13= .ok (.slice r16p r16n r16c) w15∧
   W9 w15∧∃w17 r18p r18n r18c,(Instr.makeSlice 25 (.int .i64 (i64.wrap (x7+ (1:Int)))) (.int .i64 (i64.wrap (x7+ (1:Int))))).run prog w15= .ok (.slice r18p r18n r18c) w17∧
   W9 w17∧∀n19 w20,New (.cells #[.int .i64 x10,.slice none 0 0,.slice r12p r12n r12c,.slice r14p r14n r14c,.slice r16p r16n r16c,.slice r18p r18n r18c,.slice none 0 0,.slice none 0 0,.slice none 0 0,.int .i64 0,.slice none 0 0] 155) w17 n19 w20→
   J8 (Addr.mk n19 0 none) w20)∧
 (∃w21 r22p r22n r22c,(Instr.makeSlice 25 (.int .i64 (i64.wrap (x7+ (1:Int)))) (.int .i64 (i64.wrap (x7+ (1:Int))))).run prog w13= .ok (.slice r22p r22n r22c) w21∧
   W9 w21∧∃w23 r24p r24n r24c,(Instr.makeSlice 25 (.int .i64 (i64.wrap (x7+ (1:Int)))) (.int .i64 (i64.wrap (x7+ (1:Int))))).run prog w21= .ok (.slice r24p r24n r24c) w23∧
   W9 w23∧∀n25 w26,New (.cells #[.int .i64 x10,.slice none 0 0,.slice r12p r12n r12c,.slice r14p r14n r14c,.slice r24p r24n r24c,.slice r22p r22n r22c,.slice none 0 0,.slice none 0 0,.slice none 0 0,.int .i64 0,.slice none 0 0] 155) w23 n25 w26→
   J8 (Addr.mk n25 0 none) w26))∧
 (∃w27 r28p r28n r28c,(Instr.makeSlice 25 (.int .i64 (i64.wrap (x7+ (1:Int)))) (.int .i64 (i64.wrap (x7+ (1:Int))))).run prog w11= .ok (.slice r28p r28n r28c) w27∧
   W9 w27∧(∃w29 r30p r30n r30c,(Instr.makeSlice 152 (.int .i64 (i64.wrap (x7+ (1:Int)))) (.int .i64 (i64.wrap (x7+ (1:Int))))).run prog w27= .ok (.slice r30p r30n r30c) w29∧
   W9 w29∧∃w31 r32p r32n r32c,(Instr.makeSlice 25 (.int .i64 (i64.wrap (x7+ (1:Int)))) (.int .i64 (i64.wrap (x7+ (1:Int))))).run prog w29= .ok (.slice r32p r32n r32c) w31∧
   W9 w31∧∀n33 w34,New (.cells #[.int .i64 x10,.slice none 0 0,.slice r12p r12n r12c,.slice r30p r30n r30c,.slice r28p r28n r28c,.slice r32p r32n r32c,.slice none 0 0,.slice none 0 0,.slice none 0 0,.int .i64 0,.slice none 0 0] 155) w31 n33 w34→
   J8 (Addr.mk n33 0 none) w34)∧
 (∃w35 r36p r36n r36c,(Instr.makeSlice 25 (.int .i64 (i64.wrap (x7+ (1:Int)))) (.int .i64 (i64.wrap (x7+ (1:Int))))).run prog w27= .ok (.slice r36p r36n r36c) w35∧
   W9 w35∧∃w37 r38p r38n r38c,(Instr.makeSlice 152 (.int .i64 (i64.wrap (x7+ (1:Int)))) (.int .i64 (i64.wrap (x7+ (1:Int))))).run prog w35= .ok (.slice r38p r38n r38c) w37∧
   W9 w37∧∀n39 w40,New (.cells #[.int .i64 x10,.slice none 0 0,.slice r12p r12n r12c,.slice r38p r38n r38c,.slice r28p r28n r28c,.slice r36p r36n r36c,.slice none 0 0,.slice none 0 0,.slice none 0 0,.int .i64 0,.slice none 0 0] 155) w37 n39 w40→
   J8 (Addr.mk n39 0 none) w40))∧
 (∃w41 r42p r42n r42c,(Instr.makeSlice 25 (.int .i64 (i64.wrap (x7+ (1:Int)))) (.int .i64 (i64.wrap (x7+ (1:Int))))).run prog w11= .ok (.slice r42p r42n r42c) w41∧
   W9 w41∧(∃w43 r44p r44n r44c,(Instr.makeSlice 152 (.int .i64 (i64.wrap (x7+ (1:Int)))) (.int .i64 (i64.wrap (x7+ (1:Int))))).run prog w41= .ok (.slice r44p r44n r44c) w43∧
   W9 w43∧∃w45 r46p r46n r46c,(Instr.makeSlice 25 (.int .i64 (i64.wrap (x7+ (1:Int)))) (.int .i64 (i64.wrap (x7+ (1:Int))))).run prog w43= .ok (.slice r46p r46n r46c) w45∧
   W9 w45∧∀n47 w48,New (.cells #[.int .i64 x10,.slice none 0 0,.slice r12p r12n r12c,.slice r44p r44n r44c,.slice r46p r46n r46c,.slice r42p r42n r42c,.slice none 0 0,.slice none 0 0,.slice none 0 0,.int .i64 0,.slice none 0 0] 155) w45 n47 w48→
   J8 (Addr.mk n47 0 none) w48)∧
 (∃w49 r50p r50n r50c,(Instr.makeSlice 25 (.int .i64 (i64.wrap (x7+ (1:Int)))) (.int .i64 (i64.wrap (x7+ (1:Int))))).run prog w41= .ok (.slice r50p r50n r50c) w49∧
   W9 w49∧∃w51 r52p r52n r52c,(Instr.makeSlice 152 (.int .i64 (i64.wrap (x7+ (1:Int)))) (.int .i64 (i64.wrap (x7+ (1:Int))))).run prog w49= .ok (.slice r52p r52n r52c) w51∧
   W9 w51∧∀n53 w54,New (.cells #[.int .i64 x10,.slice none 0 0,.slice r12p r12n r12c,.slice r52p r52n r52c,.slice r50p r50n r50c,.slice r42p r42n r42c,.slice none 0 0,.slice none 0 0,.slice none 0 0,.int .i64 0,.slice none 0 0] 155) w51 n53 w54→
   J8 (Addr.mk n53 0 none) w54)))∧
 (∃w55 r56p r56n r56c,(Instr.makeSlice 152 (.int .i64 (i64.wrap (x7+ (1:Int)))) (.int .i64 (i64.wrap (x7+ (1:Int))))).run prog w5.drew= .ok (.slice r56p r56n r56c) w55∧
   W9 w55∧(∃w57 r58p r58n r58c,(Instr.makeSlice 22 (.int .i64 (i64.wrap ((2:Int)* (i64.wrap (x7+ (1:Int)))))) (.int .i64 (i64.wrap ((2:Int)* (i64.wrap (x7+ (1:Int))))))).run prog w55= .ok (.slice r58p r58n r58c) w57∧
   W9 w57∧(∃w59 r60p r60n r60c,(Instr.makeSlice 25 (.int .i64 (i64.wrap (x7+ (1:Int)))) (.int .i64 (i64.wrap (x7+ (1:Int))))).run prog w57= .ok (.slice r60p r60n r60c) w59∧
   W9 w59∧∃w61 r62p r62n r62c,(Instr.makeSlice 25 (.int .i64 (i64.wrap (x7+ (1:Int)))) (.int .i64 (i64.wrap (x7+ (1:Int))))).run prog w59= .ok (.slice r62p r62n r62c) w61∧
   W9 w61∧∀n63 w64,New (.cells #[.int .i64 x10,.slice none 0 0,.slice r58p r58n r58c,.slice r56p r56n r56c,.slice r60p r60n r60c,.slice r62p r62n r62c,.slice none 0 0,.slice none 0 0,.slice none 0 0,.int .i64 0,.slice none 0 0] 155) w61 n63 w64→
   J8 (Addr.mk n63 0 none) w64)∧
 (∃w65 r66p r66n r66c,(Instr.makeSlice 25 (.int .i64 (i64.wrap (x7+ (1:Int)))) (.int .i64 (i64.wrap (x7+ (1:Int))))).run prog w57= .ok (.slice r66p r66n r66c) w65∧
   W9 w65∧∃w67 r68p r68n r68c,(Instr.makeSlice 25 (.int .i64 (i64.wrap (x7+ (1:Int)))) (.int .i64 (i64.wrap (x7+ (1:Int))))).run prog w65= .ok (.slice r68p r68n r68c) w67∧
   W9 w67∧∀n69 w70,New (.cells #[.int .i64 x10,.slice none 0 0,.slice r58p r58n r58c,.slice r56p r56n r56c,.slice r68p r68n r68c,.slice r66p r66n r66c,.slice none 0 0,.slice none 0 0,.slice none 0 0,.int .i64 0,.slice none 0 0] 155) w67 n69 w70→
   J8 (Addr.mk n69 0 none) w70))∧
 (∃w71 r72p r72n r72c,(Instr.makeSlice 25 (.int .i64 (i64.wrap (x7+ (1:Int)))) (.int .i64 (i64.wrap (x7+ (1:Int))))).run prog w55= .ok (.slice r72p r72n r72c) w71∧
   W9 w71∧(∃w73 r74p r74n r74c,(Instr.makeSlice 22 (.int .i64 (i64.wrap ((2:Int)* (i64.wrap (x7+ (1:Int)))))) (.int .i64 (i64.wrap ((2:Int)* (i64.wrap (x7+ (1:Int))))))).run prog w71= .ok (.slice r74p r74n r74c) w73∧
   W9 w73∧∃w75 r76p r76n r76c,(Instr.makeSlice 25 (.int .i64 (i64.wrap (x7+ (1:Int)))) (.int .i64 (i64.wrap (x7+ (1:Int))))).run prog w73= .ok (.slice r76p r76n r76c) w75∧
   W9 w75∧∀n77 w78,New (.cells #[.int .i64 x10,.slice none 0 0,.slice r74p r74n r74c,.slice r56p r56n r56c,.slice r72p r72n r72c,.slice r76p r76n r76c,.slice none 0 0,.slice none 0 0,.slice none 0 0,.int .i64 0,.slice none 0 0] 155) w75 n77 w78→
   J8 (Addr.mk n77 0 none) w78)∧
 (∃w79 r80p r80n r80c,(Instr.makeSlice 25 (.int .i64 (i64.wrap (x7+ (1:Int)))) (.int .i64 (i64.wrap (x7+ (1:Int))))).run prog w71= .ok (.slice r80p r80n r80c) w79∧
   W9 w79∧∃w81 r82p r82n r82c,(Instr.makeSlice 22 (.int .i64 (i64.wrap ((2:Int)* (i64.wrap (x7+ (1:Int)))))) (.int .i64 (i64.wrap ((2:Int)* (i64.wrap (x7+ (1:Int))))))).run prog w79= .ok (.slice r82p r82n r82c) w81∧
   W9 w81∧∀n83 w84,New (.cells #[.int .i64 x10,.slice none 0 0,.slice r82p r82n r82c,.slice r56p r56n r56c,.slice r72p r72n r72c,.slice r80p r80n r80c,.slice none 0 0,.slice none 0 0,.slice none 0 0,.int .i64 0,.slice none 0 0] 155) w81 n83 w84→
   J8 (Addr.mk n83 0 none) w84))∧
 (∃w85 r86p r86n r86c,(Instr.makeSlice 25 (.int .i64 (i64.wrap (x7+ (1:Int)))) (.int .i64 (i64.wrap (x7+ (1:Int))))).run prog w55= .ok (.slice r86p r86n r86c) w85∧
   W9 w85∧(∃w87 r88p r88n r88c,(Instr.makeSlice 22 (.int .i64 (i64.wrap ((2:Int)* (i64.wrap (x7+ (1:Int)))))) (.int .i64 (i64.wrap ((2:Int)* (i64.wrap (x7+ (1:Int))))))).run prog w85= .ok (.slice r88p r88n r88c) w87∧
   W9 w87∧∃w89 r90p r90n r90c,(Instr.makeSlice 25 (.int .i64 (i64.wrap (x7+ (1:Int)))) (.int .i64 (i64.wrap (x7+ (1:Int))))).run prog w87= .ok (.slice r90p r90n r90c) w89∧
   W9 w89∧∀n91 w92,New (.cells #[.int .i64 x10,.slice none 0 0,.slice r88p r88n r88c,.slice r56p r56n r56c,.slice r90p r90n r90c,.slice r86p r86n r86c,.slice none 0 0,.slice none 0 0,.slice none 0 0,.int .i64 0,.slice none 0 0] 155) w89 n91 w92→
   J8 (Addr.mk n91 0 none) w92)∧
 (∃w93 r94p r94n r94c,(Instr.makeSlice 25 (.int .i64 (i64.wrap (x7+ (1:Int)))) (.int .i64 (i64.wrap (x7+ (1:Int))))).run prog w85= .ok (.slice r94p r94n r94c) w93∧
   W9 w93∧∃w95 r96p r96n r96c,(Instr.makeSlice 22 (.int .i64 (i64.wrap ((2:Int)* (i64.wrap (x7+ (1:Int)))))) (.int .i64 (i64.wrap ((2:Int)* (i64.wrap (x7+ (1:Int))))))).run prog w93= .ok (.slice r96p r96n r96c) w95∧
   W9 w95∧∀n97 w98,New (.cells #[.int .i64 x10,.slice none 0 0,.slice r96p r96n r96c,.slice r56p r56n r56c,.slice r94p r94n r94c,.slice r86p r86n r86c,.slice none 0 0,.slice none 0 0,.slice none 0 0,.int .i64 0,.slice none 0 0] 155) w95 n97 w98→
   J8 (Addr.mk n97 0 none) w98)))∧
 (∃w99 r100p r100n r100c,(Instr.makeSlice 25 (.int .i64 (i64.wrap (x7+ (1:Int)))) (.int .i64 (i64.wrap (x7+ (1:Int))))).run prog w5.drew= .ok (.slice r100p r100n r100c) w99∧
   W9 w99∧(∃w101 r102p r102n r102c,(Instr.makeSlice 22 (.int .i64 (i64.wrap ((2:Int)* (i64.wrap (x7+ (1:Int)))))) (.int .i64 (i64.wrap ((2:Int)* (i64.wrap (x7+ (1:Int))))))).run prog w99= .ok (.slice r102p r102n r102c) w101∧
   W9 w101∧(∃w103 r104p r104n r104c,(Instr.makeSlice 152 (.int .i64 (i64.wrap (x7+ (1:Int)))) (.int .i64 (i64.wrap (x7+ (1:Int))))).run prog w101= .ok (.slice r104p r104n r104c) w103∧
   W9 w103∧∃w105 r106p r106n r106c,(Instr.makeSlice 25 (.int .i64 (i64.wrap (x7+ (1:Int)))) (.int .i64 (i64.wrap (x7+ (1:Int))))).run prog w103= .ok (.slice r106p r106n r106c) w105∧
   W9 w105∧∀n107 w108,New (.cells #[.int .i64 x10,.slice none 0 0,.slice r102p r102n r102c,.slice r104p r104n r104c,.slice r100p r100n r100c,.slice r106p r106n r106c,.slice none 0 0,.slice none 0 0,.slice none 0 0,.int .i64 0,.slice none 0 0] 155) w105 n107 w108→
   J8 (Addr.mk n107 0 none) w108)∧
 (∃w109 r110p r110n r110c,(Instr.makeSlice 25 (.int .i64 (i64.wrap (x7+ (1:Int)))) (.int .i64 (i64.wrap (x7+ (1:Int))))).run prog w101= .ok (.slice r110p r110n r110c) w109∧
   W9 w109∧∃w111 r112p r112n r112c,(Instr.makeSlice 152 (.int .i64 (i64.wrap (x7+ (1:Int)))) (.int .i64 (i64.wrap (x7+ (1:Int))))).run prog w109= .ok (.slice r112p r112n r112c) w111∧
   W9 w111∧∀n113 w114,New (.cells #[.int .i64 x10,.slice none 0 0,.slice r102p r102n r102c,.slice r112p r112n r112c,.slice r100p r100n r100c,.slice r110p r110n r110c,.slice none 0 0,.slice none 0 0,.slice none 0 0,.int .i64 0,.slice none 0 0] 155) w111 n113 w114→
   J8 (Addr.mk n113 0 none) w114))∧
 (∃w115 r116p r116n r116c,(Instr.makeSlice 152 (.int .i64 (i64.wrap (x7+ (1:Int)))) (.int .i64 (i64.wrap (x7+ (1:Int))))).run prog w99= .ok (.slice r116p r116n r116c) w115∧
   W9 w115∧(∃w117 r118p r118n r118c,(Instr.makeSlice 22 (.int .i64 (i64.wrap ((2:Int)* (i64.wrap (x7+ (1:Int)))))) (.int .i64 (i64.wrap ((2:Int)* (i64.wrap (x7+ (1:Int))))))).run prog w115= .ok (.slice r118p r118n r118c) w117∧
   W9 w117∧∃w119 r120p r120n r120c,(Instr.makeSlice 25 (.int .i64 (i64.wrap (x7+ (1:Int)))) (.int .i64 (i64.wrap (x7+ (1:Int))))).run prog w117= .ok (.slice r120p r120n r120c) w119∧
   W9 w119∧∀n121 w122,New (.cells #[.int .i64 x10,.slice none 0 0,.slice r118p r118n r118c,.slice r116p r116n r116c,.slice r100p r100n r100c,.slice r120p r120n r120c,.slice none 0 0,.slice none 0 0,.slice none 0 0,.int .i64 0,.slice none 0 0] 155) w119 n121 w122→
   J8 (Addr.mk n121 0 none) w122)∧
 (∃w123 r124p r124n r124c,(Instr.makeSlice 25 (.int .i64 (i64.wrap (x7+ (1:Int)))) (.int .i64 (i64.wrap (x7+ (1:Int))))).run prog w115= .ok (.slice r124p r124n r124c) w123∧
   W9 w123∧∃w125 r126p r126n r126c,(Instr.makeSlice 22 (.int .i64 (i64.wrap ((2:Int)* (i64.wrap (x7+ (1:Int)))))) (.int .i64 (i64.wrap ((2:Int)* (i64.wrap (x7+ (1:Int))))))).run prog w123= .ok (.slice r126p r126n r126c) w125∧
   W9 w125∧∀n127 w128,New (.cells #[.int .i64 x10,.slice none 0 0,.slice r126p r126n r126c,.slice r116p r116n r116c,.slice r100p r100n r100c,.slice r124p r124n r124c,.slice none 0 0,.slice none 0 0,.slice none 0 0,.int .i64 0,.slice none 0 0] 155) w125 n127 w128→
   J8 (Addr.mk n127 0 none) w128))∧
 (∃w129 r130p r130n r130c,(Instr.makeSlice 25 (.int .i64 (i64.wrap (x7+ (1:Int)))) (.int .i64 (i64.wrap (x7+ (1:Int))))).run prog w99= .ok (.slice r130p r130n r130c) w129∧
   W9 w129∧(∃w131 r132p r132n r132c,(Instr.makeSlice 22 (.int .i64 (i64.wrap ((2:Int)* (i64.wrap (x7+ (1:Int)))))) (.int .i64 (i64.wrap ((2:Int)* (i64.wrap (x7+ (1:Int))))))).run prog w129= .ok (.slice r132p r132n r132c) w131∧
   W9 w131∧∃w133 r134p r134n r134c,(Instr.makeSlice 152 (.int .i64 (i64.wrap (x7+ (1:Int)))) (.int .i64 (i64.wrap (x7+ (1:Int))))).run prog w131= .ok (.slice r134p r134n r134c) w133∧
   W9 w133∧∀n135 w136,New (.cells #[.int .i64 x10,.slice none 0 0,.slice r132p r132n r132c,.slice r134p r134n r134c,.slice r100p r100n r100c,.slice r130p r130n r130c,.slice none 0 0,.slice none 0 0,.slice none 0 0,.int .i64 0,.slice none 0 0] 155) w133 n135 w136→
   J8 (Addr.mk n135 0 none) w136)∧
 (∃w137 r138p r138n r138c,(Instr.makeSlice 152 (.int .i64 (i64.wrap (x7+ (1:Int)))) (.int .i64 (i64.wrap (x7+ (1:Int))))).run prog w129= .ok (.slice r138p r138n r138c) w137∧
   W9 w137∧∃w139 r140p r140n r140c,(Instr.makeSlice 22 (.int .i64 (i64.wrap ((2:Int)* (i64.wrap (x7+ (1:Int)))))) (.int .i64 (i64.wrap ((2:Int)* (i64.wrap (x7+ (1:Int))))))).run prog w137= .ok (.slice r140p r140n r140c) w139∧
   W9 w139∧∀n141 w142,New (.cells #[.int .i64 x10,.slice none 0 0,.slice r140p r140n r140c,.slice r138p r138n r138c,.slice r100p r100n r100c,.slice r130p r130n r130c,.slice none 0 0,.slice none 0 0,.slice none 0 0,.int .i64 0,.slice none 0 0] 155) w139 n141 w142→
   J8 (Addr.mk n141 0 none) w142)))∧
 (∃w143 r144p r144n r144c,(Instr.makeSlice 25 (.int .i64 (i64.wrap (x7+ (1:Int)))) (.int .i64 (i64.wrap (x7+ (1:Int))))).run prog w5.drew= .ok (.slice r144p r144n r144c) w143∧
   W9 w143∧(∃w145 r146p r146n r146c,(Instr.makeSlice 22 (.int .i64 (i64.wrap ((2:Int)* (i64.wrap (x7+ (1:Int)))))) (.int .i64 (i64.wrap ((2:Int)* (i64.wrap (x7+ (1:Int))))))).run prog w143= .ok (.slice r146p r146n r146c) w145∧
   W9 w145∧(∃w147 r148p r148n r148c,(Instr.makeSlice 152 (.int .i64 (i64.wrap (x7+ (1:Int)))) (.int .i64 (i64.wrap (x7+ (1:Int))))).run prog w145= .ok (.slice r148p r148n r148c) w147∧
   W9 w147∧∃w149 r150p r150n r150c,(Instr.makeSlice 25 (.int .i64 (i64.wrap (x7+ (1:Int)))) (.int .i64 (i64.wrap (x7+ (1:Int))))).run prog w147= .ok (.slice r150p r150n r150c) w149∧
   W9 w149∧∀n151 w152,New (.cells #[.int .i64 x10,.slice none 0 0,.slice r146p r146n r146c,.slice r148p r148n r148c,.slice r150p r150n r150c,.slice r144p r144n r144c,.slice none 0 0,.slice none 0 0,.slice none 0 0,.int .i64 0,.slice none 0 0] 155) w149 n151 w152→
   J8 (Addr.mk n151 0 none) w152)∧
 (∃w153 r154p r154n r154c,(Instr.makeSlice 25 (.int .i64 (i64.wrap (x7+ (1:Int)))) (.int .i64 (i64.wrap (x7+ (1:Int))))).run prog w145= .ok (.slice r154p r154n r154c) w153∧
   W9 w153∧∃w155 r156p r156n r156c,(Instr.makeSlice 152 (.int .i64 (i64.wrap (x7+ (1:Int)))) (.int .i64 (i64.wrap (x7+ (1:Int))))).run prog w153= .ok (.slice r156p r156n r156c) w155∧
   W9 w155∧∀n157 w158,New (.cells #[.int .i64 x10,.slice none 0 0,.slice r146p r146n r146c,.slice r156p r156n r156c,.slice r154p r154n r154c,.slice r144p r144n r144c,.slice none 0 0,.slice none 0 0,.slice none 0 0,.int .i64 0,.slice none 0 0] 155) w155 n157 w158→
   J8 (Addr.mk n157 0 none) w158))∧
 (∃w159 r160p r160n r160c,(Instr.makeSlice 152 (.int .i64 (i64.wrap (x7+ (1:Int)))) (.int .i64 (i64.wrap (x7+ (1:Int))))).run prog w143= .ok (.slice r160p r160n r160c) w159∧
   W9 w159∧(∃w161 r162p r162n r162c,(Instr.makeSlice 22 (.int .i64 (i64.wrap ((2:Int)* (i64.wrap (x7+ (1:Int)))))) (.int .i64 (i64.wrap ((2:Int)* (i64.wrap (x7+ (1:Int))))))).run prog w159= .ok (.slice r162p r162n r162c) w161∧
   W9 w161∧∃w163 r164p r164n r164c,(Instr.makeSlice 25 (.int .i64 (i64.wrap (x7+ (1:Int)))) (.int .i64 (i64.wrap (x7+ (1:Int))))).run prog w161= .ok (.slice r164p r164n r164c) w163∧
   W9 w163∧∀n165 w166,New (.cells #[.int .i64 x10,.slice none 0 0,.slice r162p r162n r162c,.slice r160p r160n r160c,.slice r164p r164n r164c,.slice r144p r144n r144c,.slice none 0 0,.slice none 0 0,.slice none 0 0,.int .i64 0,.slice none 0 0] 155) w163 n165 w166→
   J8 (Addr.mk n165 0 none) w166)∧
 (∃w167 r168p r168n r168c,(Instr.makeSlice 25 (.int .i64 (i64.wrap (x7+ (1:Int)))) (.int .i64 (i64.wrap (x7+ (1:Int))))).run prog w159= .ok (.slice r168p r168n r168c) w167∧
   W9 w167∧∃w169 r170p r170n r170c,(Instr.makeSlice 22 (.int .i64 (i64.wrap ((2:Int)* (i64.wrap (x7+ (1:Int)))))) (.int .i64 (i64.wrap ((2:Int)* (i64.wrap (x7+ (1:Int))))))).run prog w167= .ok (.slice r170p r170n r170c) w169∧
   W9 w169∧∀n171 w172,New (.cells #[.int .i64 x10,.slice none 0 0,.slice r170p r170n r170c,.slice r160p r160n r160c,.slice r168p r168n r168c,.slice r144p r144n r144c,.slice none 0 0,.slice none 0 0,.slice none 0 0,.int .i64 0,.slice none 0 0] 155) w169 n171 w172→
   J8 (Addr.mk n171 0 none) w172))∧
 (∃w173 r174p r174n r174c,(Instr.makeSlice 25 (.int .i64 (i64.wrap (x7+ (1:Int)))) (.int .i64 (i64.wrap (x7+ (1:Int))))).run prog w143= .ok (.slice r174p r174n r174c) w173∧
   W9 w173∧(∃w175 r176p r176n r176c,(Instr.makeSlice 22 (.int .i64 (i64.wrap ((2:Int)* (i64.wrap (x7+ (1:Int)))))) (.int .i64 (i64.wrap ((2:Int)* (i64.wrap (x7+ (1:Int))))))).run prog w173= .ok (.slice r176p r176n r176c) w175∧
   W9 w175∧∃w177 r178p r178n r178c,(Instr.makeSlice 152 (.int .i64 (i64.wrap (x7+ (1:Int)))) (.int .i64 (i64.wrap (x7+ (1:Int))))).run prog w175= .ok (.slice r178p r178n r178c) w177∧
   W9 w177∧∀n179 w180,New (.cells #[.int .i64 x10,.slice none 0 0,.slice r176p r176n r176c,.slice r178p r178n r178c,.slice r174p r174n r174c,.slice r144p r144n r144c,.slice none 0 0,.slice none 0 0,.slice none 0 0,.int .i64 0,.slice none 0 0] 155) w177 n179 w180→
   J8 (Addr.mk n179 0 none) w180)∧
 (∃w181 r182p r182n r182c,(Instr.makeSlice 152 (.int .i64 (i64.wrap (x7+ (1:Int)))) (.int .i64 (i64.wrap (x7+ (1:Int))))).run prog w173= .ok (.slice r182p r182n r182c) w181∧
   W9 w181∧∃w183 r184p r184n r184c,(Instr.makeSlice 22 (.int .i64 (i64.wrap ((2:Int)* (i64.wrap (x7+ (1:Int)))))) (.int .i64 (i64.wrap ((2:Int)* (i64.wrap (x7+ (1:Int))))))).run prog w181= .ok (.slice r184p r184n r184c) w183∧
   W9 w183∧∀n185 w186,New (.cells #[.int .i64 x10,.slice none 0 0,.slice r184p r184n r184c,.slice r182p r182n r182c,.slice r174p r174n r174c,.slice r144p r144n r144c,.slice none 0 0,.slice none 0 0,.slice none 0 0,.int .i64 0,.slice none 0 0] 155) w183 n185 w186→
   J8 (Addr.mk n185 0 none) w186))))∧
   ∀p_187 w188 (_:Fr),J8 p_187 w188→
   ∃x189p x189n x189c,w188.cell? ((Addr.mk n1 0 none).add 1)=some (.slice x189p x189n x189c)∧
   ∃I190:Int→World→Nat→Prop,(∃k191,I190 0 w188 k191)∧
   ∀v193 w194 k191 (_:Fr),I190 v193 w194 k191→
   cnd (decide (v193< (x189n:Int)))
    (ixK x189p x189n v193 1 fun a195=>
      ∃x196p x196n x196c,w194.cell? a195=some (.slice x196p x196n x196c)∧
      Calls prog 103 #[.pointer (some p_187),.slice x196p x196n x196c] w194 fun e w197=> ∃r198 r199,e= .returned (.tuple #[.int .i64 r198,.int .i64 r199])∧
      ∃k192,k192<k191∧I190 (i64.wrap (v193+ (1:Int))) w197 k192)
    (K (.tuple #[.pointer (some p_187),.int .i64 0]) w194))
theorem prop_New.calls {f_0 f1p f1n f1c w R} (h:prop_New.w f_0 f1p f1n f1c w fun v w'=>R (.returned v) w'):Calls prog 61 #[.agg #[.int .i64 f_0,.slice f1p f1n f1c]] w R:=
 calls_of mixed Tryz.func61 (by kernel_rfl) rfl (ann:=(.two .leaf (.two .leaf (.two .leaf (.cut [(5,1000000)] .draw (.two (.two .leaf (.one (.loop [(30,3)] .leaf))) .leaf)))))) (F:=prop_New.w f_0 f1p f1n f1c w) (fun K=>by kernel_rfl) h
def heap_New.w (n_:Int) (w:World) (K:Value→World→Prop):Prop:=
 cnd (decide (n_< (0:Int)))
 (K (.tuple #[.pointer none,.int .i64 1]) w)
 (cnd (decide (n_> (1048576:Int)))
 (K (.tuple #[.pointer none,.int .i64 1]) w)
 ((∃w1 r2p r2n r2c,(Instr.makeSlice 25 (.int .i64 (i64.wrap (n_+ (1:Int)))) (.int .i64 (i64.wrap (n_+ (1:Int))))).run prog w.drew= .ok (.slice r2p r2n r2c) w1∧
   ∃w3 r4p r4n r4c,(Instr.makeSlice 25 (.int .i64 (i64.wrap (n_+ (1:Int)))) (.int .i64 (i64.wrap (n_+ (1:Int))))).run prog w1= .ok (.slice r4p r4n r4c) w3∧
   ∀n5 w6,New (.cells #[.slice none 0 0,.slice r2p r2n r2c,.slice r4p r4n r4c,.int .i64 64] 158) w3 n5 w6→
   ∃I7:Int→World→Nat→Prop,(∃k8,I7 1 w6 k8)∧
   ∀v_10 w11 k8 (_:Fr),I7 v_10 w11 k8→
   cnd (decide (v_10≤n_))
    (∃a12,(some (Addr.mk n5 0 none))=some a12∧∃x13p x13n x13c,w11.cell? (a12.add 0)=some (.slice x13p x13n x13c)∧
      ∀n14 w15,New (.cells #[.int .i64 v_10] 3) w11 n14 w15→
      ∃w16 r17p r17n r17c,(Builtin.append_ #[25,25] 25 #[.slice x13p x13n x13c,.slice (some (Addr.mk n14 0 none)) 1 1]).run prog w15= .ok (.slice r17p r17n r17c) w16∧
      ∃a18,(some (Addr.mk n5 0 none))=some a18∧∃w19,StoreAt (a18.add 0) 0 [.slice r17p r17n r17c] w16 w19∧
      ∃a20,(some (Addr.mk n5 0 none))=some a20∧∃x21p x21n x21c,w19.cell? (a20.add 1)=some (.slice x21p x21n x21c)∧
      ixK x21p x21n v_10 1 fun a22=>
      ∃w23,StoreAt a22 0 [.int .i64 v_10] w19 w23∧
      ∃k9,k9<k8∧I7 (i64.wrap (v_10+ (1:Int))) w23 k9)
    (K (.tuple #[.pointer (some (Addr.mk n5 0 none)),.int .i64 0]) w11))∧
 (∃w24 r25p r25n r25c,(Instr.makeSlice 25 (.int .i64 (i64.wrap (n_+ (1:Int)))) (.int .i64 (i64.wrap (n_+ (1:Int))))).run prog w.drew= .ok (.slice r25p r25n r25c) w24∧
   ∃w26 r27p r27n r27c,(Instr.makeSlice 25 (.int .i64 (i64.wrap (n_+ (1:Int)))) (.int .i64 (i64.wrap (n_+ (1:Int))))).run prog w24= .ok (.slice r27p r27n r27c) w26∧
   ∀n28 w29,New (.cells #[.slice none 0 0,.slice r27p r27n r27c,.slice r25p r25n r25c,.int .i64 64] 158) w26 n28 w29→
   ∃I30:Int→World→Nat→Prop,(∃k31,I30 1 w29 k31)∧
   ∀v_33 w34 k31 (_:Fr),I30 v_33 w34 k31→
   cnd (decide (v_33≤n_))
    (∃a35,(some (Addr.mk n28 0 none))=some a35∧∃x36p x36n x36c,w34.cell? (a35.add 0)=some (.slice x36p x36n x36c)∧
      ∀n37 w38,New (.cells #[.int .i64 v_33] 3) w34 n37 w38→
      ∃w39 r40p r40n r40c,(Builtin.append_ #[25,25] 25 #[.slice x36p x36n x36c,.slice (some (Addr.mk n37 0 none)) 1 1]).run prog w38= .ok (.slice r40p r40n r40c) w39∧
      ∃a41,(some (Addr.mk n28 0 none))=some a41∧∃w42,StoreAt (a41.add 0) 0 [.slice r40p r40n r40c] w39 w42∧
      ∃a43,(some (Addr.mk n28 0 none))=some a43∧∃x44p x44n x44c,w42.cell? (a43.add 1)=some (.slice x44p x44n x44c)∧
      ixK x44p x44n v_33 1 fun a45=>
      ∃w46,StoreAt a45 0 [.int .i64 v_33] w42 w46∧
      ∃k32,k32<k31∧I30 (i64.wrap (v_33+ (1:Int))) w46 k32)
    (K (.tuple #[.pointer (some (Addr.mk n28 0 none)),.int .i64 0]) w34))))
theorem heap_New.calls {n_ w R} (h:heap_New.w n_ w fun v w'=>R (.returned v) w'):Calls prog 62 #[.int .i64 n_] w R:=
 calls_of mixed Tryz.func62 (by kernel_rfl) rfl (ann:=(.two .leaf (.two .leaf (.two .leaf (.two (.two .leaf (.one (.loop [(5,3)] .leaf))) .leaf))))) (F:=heap_New.w n_ w) (fun K=>by kernel_rfl) h
def luby_Start.w (u_:Int) (w:World) (K:Value→World→Prop):Prop:=
 ∀n1 w2,New (.cells #[.int .i64 0,.int .i64 0,.int .i64 0] 107) w n1 w2→
 cnd (decide (u_< (1:Int)))
 (∃w3,StoreAt (Addr.mk n1 0 none) 0 [.int .i64 0,.int .i64 0,.int .i64 0] w2 w3∧
 ∃x4 x5 x6,CellsAt w3 (Addr.mk n1 0 none) 0 [.int .i64 x4,.int .i64 x5,.int .i64 x6]∧
 K (.tuple #[.agg #[.int .i64 x4,.int .i64 x5,.int .i64 x6],.int .i64 1]) w3)
 (cnd (decide (u_> (1048576:Int)))
 (∃w7,StoreAt (Addr.mk n1 0 none) 0 [.int .i64 0,.int .i64 0,.int .i64 0] w2 w7∧
   ∃x8 x9 x10,CellsAt w7 (Addr.mk n1 0 none) 0 [.int .i64 x8,.int .i64 x9,.int .i64 x10]∧
   K (.tuple #[.agg #[.int .i64 x8,.int .i64 x9,.int .i64 x10],.int .i64 1]) w7)
 (∃w11,StoreAt (Addr.mk n1 0 none) 0 [.int .i64 u_,.int .i64 1,.int .i64 u_] w2 w11∧
   ∃x12 x13 x14,CellsAt w11 (Addr.mk n1 0 none) 0 [.int .i64 x12,.int .i64 x13,.int .i64 x14]∧
   K (.tuple #[.agg #[.int .i64 x12,.int .i64 x13,.int .i64 x14],.int .i64 0]) w11))
theorem luby_Start.calls {u_ w R} (h:luby_Start.w u_ w fun v w'=>R (.returned v) w'):Calls prog 63 #[.int .i64 u_] w R:=
 calls_of mixed Tryz.func63 (by kernel_rfl) rfl (ann:= .leaf) (F:=luby_Start.w u_ w) (fun K=>by kernel_rfl) h
def prop_Prop_Run.w (p_:Option Addr) (w:World) (K:Value→World→Prop):Prop:=
 cnd p_.isNone
 (K (.int .i64 (-1)) w)
 (∃a1,p_=some a1∧∃x2p x2n x2c,w.cell? (a1.add 3)=some (.slice x2p x2n x2c)∧
 cnd x2p.isNone
 (K (.int .i64 (-1)) w)
 (Calls prog 104 #[.pointer p_] w fun e w3=> ∃r4,e= .returned (.int .i64 r4)∧
   cnd (decide (r4≥(0:Int)))
   (K (.int .i64 r4) w3)
   (∃I5:World→Nat→Prop,(∃k6,I5 w3 k6)∧
     ∀w8 k6 (_:Fr),I5 w8 k6→
     ∃a9,p_=some a9∧∃x10,w8.drew.cell? (a9.add 9)=some (.int .i64 x10)∧
      ∃a11,p_=some a11∧∃x12p x12n x12c,w8.drew.cell? (a11.add 6)=some (.slice x12p x12n x12c)∧
      cnd (decide (x10< (x12n:Int)))
      (∃a13,p_=some a13∧∃x14p x14n x14c,w8.drew.drew.cell? (a13.add 6)=some (.slice x14p x14n x14c)∧
        ∃a15,p_=some a15∧∃x16,w8.drew.drew.cell? (a15.add 9)=some (.int .i64 x16)∧
        ixK x14p x14n x16 1 fun a17=>
        ∃x18,w8.drew.drew.cell? a17=some (.int .i64 x18)∧
        ∃W19:World→Prop,W19 w8.drew.drew.drew∧
        ∃a20,p_=some a20∧∃x21p x21n x21c,AtW W19 (a20.add 2) (.slice x21p x21n x21c)∧
        Calls prog 105 #[.int .i64 (i64.wrap (0 - x18))] w8.drew.drew.drew fun e w22=> ∃r23,e= .returned (.int .i64 r23)∧
        W19 w22∧ixK x21p x21n r23 1 fun a24=>
        ∃x25p x25n x25c,AtW W19 a24 (.slice x25p x25n x25c)∧
        ∃I26:Int→Int→World→Nat→Prop,(∃k27,I26 0 0 w22 k27)∧
        ∀k_29 v30 w31 k27 (_:Fr),I26 k_29 v30 w31 k27→
        cnd (decide (v30< (x25n:Int)))
         (ixK x25p x25n v30 1 fun a32=>
           ∃x33,w31.cell? a32=some (.int .i64 x33)∧
           ∃a34,p_=some a34∧∃x35p x35n x35c,w31.cell? (a34.add 1)=some (.slice x35p x35n x35c)∧
           ixK x35p x35n x33 3 fun a36=>
           ∃x37p x37n x37c,w31.cell? (a36.add 1)=some (.slice x37p x37n x37c)∧
           cnd (decide ((x37n:Int)< (2:Int)))
           (ixK x25p x25n k_29 1 fun a38=>
             ∃w39,StoreAt a38 0 [.int .i64 x33] w31 w39∧
             ∃k28,k28<k27∧I26 (i64.wrap (k_29+ (1:Int))) (i64.wrap (v30+ (1:Int))) w39 k28)
           (Calls prog 106 #[.pointer p_,.int .i64 x33,.int .i64 (i64.wrap (0 - x18))] w31 fun e w40=> ∃r41 r42,e= .returned (.tuple #[.bool r41,.bool r42])∧
             cnd r41
             (ixK x25p x25n k_29 1 fun a43=>
               ∃w44,StoreAt a43 0 [.int .i64 x33] w40 w44∧
               cnd r42
               (slK x25p x25n x25c 1 (some (i64.wrap (k_29+ (1:Int)))) none none fun s45p s45n s45c=>
                 slK x25p x25n x25c 1 (some (i64.wrap (v30+ (1:Int)))) none none fun s46p s46n s46c=>
                 ∃w47 r48,(Builtin.copy_ #[25,25] 3 #[.slice s45p s45n s45c,.slice s46p s46n s46c]).run prog w44.drew= .ok (.int .i64 r48) w47∧
                 ∃W49:World→Prop,W49 w47.drew∧
                 ∃a50,p_=some a50∧∃x51p x51n x51c,AtW W49 (a50.add 2) (.slice x51p x51n x51c)∧
                 Calls prog 105 #[.int .i64 (i64.wrap (0 - x18))] w47.drew fun e w52=> ∃r53,e= .returned (.int .i64 r53)∧
                 W49 w52∧slK x25p x25n x25c 1 none (some (i64.wrap ((i64.wrap (k_29+ (1:Int)))+r48))) none fun s54p s54n s54c=>
                 ixK x51p x51n r53 1 fun a55=>
                 ∃w56,StoreAt a55 0 [.slice s54p s54n s54c] w52 w56∧
                 K (.int .i64 x33) w56)
               (∃k28,k28<k27∧I26 (i64.wrap (k_29+ (1:Int))) (i64.wrap (v30+ (1:Int))) w44 k28))
             (cnd r42
               (slK x25p x25n x25c 1 (some k_29) none none fun s57p s57n s57c=>
                 slK x25p x25n x25c 1 (some (i64.wrap (v30+ (1:Int)))) none none fun s58p s58n s58c=>
                 ∃w59 r60,(Builtin.copy_ #[25,25] 3 #[.slice s57p s57n s57c,.slice s58p s58n s58c]).run prog w40.drew= .ok (.int .i64 r60) w59∧
                 ∃W61:World→Prop,W61 w59.drew∧
                 ∃a62,p_=some a62∧∃x63p x63n x63c,AtW W61 (a62.add 2) (.slice x63p x63n x63c)∧
                 Calls prog 105 #[.int .i64 (i64.wrap (0 - x18))] w59.drew fun e w64=> ∃r65,e= .returned (.int .i64 r65)∧
                 W61 w64∧slK x25p x25n x25c 1 none (some (i64.wrap (k_29+r60))) none fun s66p s66n s66c=>
                 ixK x63p x63n r65 1 fun a67=>
                 ∃w68,StoreAt a67 0 [.slice s66p s66n s66c] w64 w68∧
                 K (.int .i64 x33) w68)
               (∃k28,k28<k27∧I26 k_29 (i64.wrap (v30+ (1:Int))) w40 k28))))
         (∃W69:World→Prop,W69 w31.drew∧
           ∃a70,p_=some a70∧∃x71p x71n x71c,AtW W69 (a70.add 2) (.slice x71p x71n x71c)∧
           Calls prog 105 #[.int .i64 (i64.wrap (0 - x18))] w31.drew fun e w72=> ∃r73,e= .returned (.int .i64 r73)∧
           W69 w72∧slK x25p x25n x25c 1 none (some k_29) none fun s74p s74n s74c=>
           ixK x71p x71n r73 1 fun a75=>
           ∃w76,StoreAt a75 0 [.slice s74p s74n s74c] w72 w76∧
           ∃a77,p_=some a77∧∃x78,w76.cell? (a77.add 9)=some (.int .i64 x78)∧
           ∃a79,p_=some a79∧∃w80,StoreAt (a79.add 9) 0 [.int .i64 (i64.wrap (x78+ (1:Int)))] w76 w80∧
           ∃k7,k7<k6∧I5 w80 k7))
      (K (.int .i64 (-1)) w8.drew))))
theorem prop_Prop_Run.calls {p_ w R} (h:prop_Prop_Run.w p_ w fun v w'=>R (.returned v) w'):Calls prog 64 #[.pointer p_] w R:=
 calls_of mixed Tryz.func64 (by kernel_rfl) rfl (ann:=(.two .leaf (.one (.two .leaf (.two .leaf (.two .leaf (.two (.one (.loop [] (.two .leaf (.one (.two .leaf (.two .draw (.two .leaf (.two (.two .leaf (.one (.loop [(6,3),(56,3)] (.two .leaf (.two .leaf (.two (.one (.two .leaf (.two .leaf (.two .leaf (.two .leaf (.two .leaf (.two (.two .leaf (.two .draw .leaf)) .leaf))))))) .leaf)))))) (.two .draw .leaf))))))))) .leaf))))))) (F:=prop_Prop_Run.w p_ w) (fun K=>by kernel_rfl) h
end Go.Proofs.YtbdghpjnifjlmaaGreat.W
