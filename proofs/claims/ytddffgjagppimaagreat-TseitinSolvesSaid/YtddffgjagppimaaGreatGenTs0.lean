/- The functions that the statements reach, printed as what the frame asks of them, each checked by the kernel against the loaded text. -/
import Derived.Test.YtddffgjagppimaaGreatProg
import Derived.Test.YtddffgjagppimaaGreatFwRange2
namespace Go.Proofs.YtddffgjagppimaaGreat.W
open Go Go.Fw Go.Proofs
open Go.Proofs.Tryz (prog)
open Go.IntKind (i64)
set_option maxRecDepth 100000
theorem mixed:Tryz.prog.follows .mixedOrders=true:=by kernel_rfl
abbrev fathomlaw18_TseitinSolves.id:FuncId:=3
abbrev fathomlaw18_light.id:FuncId:=4
abbrev fathomref18_May.id:FuncId:=5
abbrev fathomlaw18_awake.id:FuncId:=6
abbrev tseitin_Build.id:FuncId:=7
abbrev cdcl_Solve.id:FuncId:=8
abbrev cdcl_Usual.id:FuncId:=9
abbrev fathomref18_Asked.id:FuncId:=10
abbrev tseitin_Ins.id:FuncId:=11
abbrev fathomref15_Is.id:FuncId:=12
abbrev fathomref15_May.id:FuncId:=13
abbrev tseitin_Code.id:FuncId:=14
abbrev tseitin_may.id:FuncId:=15
abbrev tseitin_cone.id:FuncId:=16
abbrev tseitin_and.id:FuncId:=17
abbrev tseitin_builder_add.id:FuncId:=18
abbrev lit_CheckCnf.id:FuncId:=19
abbrev cdcl_Check.id:FuncId:=20
abbrev prop_New.id:FuncId:=21
abbrev heap_New.id:FuncId:=22
abbrev luby_Start.id:FuncId:=23
abbrev prop_Prop_Run.id:FuncId:=24
abbrev cdcl_search_decide.id:FuncId:=25
abbrev cdcl_search_sat.id:FuncId:=26
abbrev prop_Prop_Levels.id:FuncId:=27
abbrev cdcl_search_told.id:FuncId:=28
abbrev cdcl_search_conflict.id:FuncId:=29
abbrev fathomref15_True.id:FuncId:=30
abbrev aig_Check.id:FuncId:=31
abbrev lit_Value.id:FuncId:=32
abbrev slices_ContainsFunc_int_int.id:FuncId:=33
abbrev tseitin_may_1.id:FuncId:=34
abbrev lit_Check.id:FuncId:=35
abbrev lit_CheckCnf_1.id:FuncId:=36
abbrev lit_amount.id:FuncId:=37
abbrev prop_Prop_Add.id:FuncId:=38
abbrev prop_Prop_loosely.id:FuncId:=39
abbrev prop_side.id:FuncId:=40
abbrev prop_Prop_visit.id:FuncId:=41
abbrev heap_Heap_Pop.id:FuncId:=42
abbrev prop_Prop_Value.id:FuncId:=43
abbrev prop_Prop_Decide.id:FuncId:=44
abbrev slices_Clone_int_int.id:FuncId:=45
abbrev prop_Prop_Clause.id:FuncId:=46
abbrev cdcl_search_study.id:FuncId:=47
abbrev heap_Heap_Bump.id:FuncId:=48
abbrev heap_Heap_Decay.id:FuncId:=49
abbrev cdcl_search_back.id:FuncId:=50
abbrev cdcl_search_add.id:FuncId:=51
abbrev luby_Tick.id:FuncId:=52
abbrev reduce_Due.id:FuncId:=53
abbrev cdcl_search_less.id:FuncId:=54
abbrev aig_input.id:FuncId:=55
abbrev lit_is.id:FuncId:=56
abbrev slices_IndexFunc_int_int.id:FuncId:=57
abbrev lit_Check_1.id:FuncId:=58
abbrev prop_Prop_Add_1.id:FuncId:=59
abbrev prop_Prop_is.id:FuncId:=60
abbrev lit_Norm.id:FuncId:=61
abbrev prop_Prop_settle.id:FuncId:=62
abbrev slices_DeleteFunc_int_int.id:FuncId:=63
abbrev prop_Prop_loosely_1.id:FuncId:=64
abbrev prop_Prop_val.id:FuncId:=65
abbrev prop_Prop_unwatch.id:FuncId:=66
abbrev prop_Prop_again.id:FuncId:=67
abbrev prop_Prop_put.id:FuncId:=68
abbrev heap_Heap_Best.id:FuncId:=69
abbrev heap_Heap_put.id:FuncId:=70
abbrev heap_Heap_fall.id:FuncId:=71
abbrev prop_Prop_there.id:FuncId:=72
abbrev cdcl_search_cone.id:FuncId:=73
abbrev learn_Learn.id:FuncId:=74
abbrev cdcl_search_decisions.id:FuncId:=75
abbrev learn_Shorten.id:FuncId:=76
abbrev learn_Back.id:FuncId:=77
abbrev learn_Levels.id:FuncId:=78
abbrev heap_Heap_is.id:FuncId:=79
abbrev heap_Heap_up.id:FuncId:=80
abbrev heap_Heap_scale.id:FuncId:=81
abbrev prop_Prop_Trail.id:FuncId:=82
abbrev prop_Prop_Back.id:FuncId:=83
abbrev heap_Heap_Push.id:FuncId:=84
abbrev luby_Check.id:FuncId:=86
abbrev luby_number.id:FuncId:=87
abbrev reduce_Quota.id:FuncId:=88
abbrev cdcl_search_locked.id:FuncId:=89
abbrev reduce_Keep.id:FuncId:=90
abbrev prop_Prop_Drop.id:FuncId:=91
abbrev prop_amount.id:FuncId:=92
abbrev slices_SortFunc_int_int.id:FuncId:=93
abbrev lit_before.id:FuncId:=94
abbrev slices_Compact_int_int.id:FuncId:=95
abbrev prop_Prop_rank.id:FuncId:=96
abbrev prop_Prop_unwatch_1.id:FuncId:=97
abbrev heap_Heap_Len.id:FuncId:=98
abbrev heap_Heap_better.id:FuncId:=99
abbrev cdcl_search_cone_1.id:FuncId:=100
abbrev prop_Prop_Level.id:FuncId:=102
abbrev prop_Prop_Reason.id:FuncId:=104
abbrev slices_Reverse_fathom_api_Assign_fathom_api_Assign.id:FuncId:=105
abbrev learn_Check.id:FuncId:=106
abbrev learn_places.id:FuncId:=107
abbrev learn_study_add.id:FuncId:=108
abbrev learn_study_top.id:FuncId:=109
abbrev learn_study_ordered.id:FuncId:=110
abbrev learn_sound.id:FuncId:=111
abbrev learn_breaks.id:FuncId:=112
abbrev learn_study_level.id:FuncId:=113
abbrev learn_study_idle.id:FuncId:=114
abbrev learn_amount.id:FuncId:=115
abbrev bits_Len.id:FuncId:=116
abbrev cdcl_search_locked_1.id:FuncId:=117
abbrev reduce_Check.id:FuncId:=118
abbrev reduce_must.id:FuncId:=119
abbrev reduce_Order.id:FuncId:=120
abbrev prop_Prop_Drop_1.id:FuncId:=121
abbrev learn_study_ordered_1.id:FuncId:=124
abbrev learn_reasoned.id:FuncId:=125
abbrev bits_Len64.id:FuncId:=127
abbrev reduce_Order_1.id:FuncId:=128
abbrev slices_Contains_int_int.id:FuncId:=137
abbrev slices_Index_int_int.id:FuncId:=143
abbrev ty_int:TypeId:=3
abbrev ty_bool:TypeId:=4
abbrev ty_sl_sl_int:TypeId:=23
abbrev ty_sl_int:TypeId:=28
abbrev ty_sl_api_Step:TypeId:=34
abbrev ty_api_Solved:TypeId:=36
abbrev ty_api_Gate:TypeId:=43
abbrev ty_sl_bool:TypeId:=44
abbrev ty_sl_cdcl_clause:TypeId:=64
abbrev ty_sl_int8:TypeId:=83
abbrev ty_sl_prop_clause:TypeId:=84
abbrev ty_prop_Prop:TypeId:=86
abbrev ty_prop_clause:TypeId:=92
abbrev ty_api_Step:TypeId:=100
abbrev ty_int8:TypeId:=113
abbrev ty_api_Learnt:TypeId:=126
abbrev ty_cdcl_clause:TypeId:=128
abbrev ty_sl_api_Learnt:TypeId:=131
abbrev ty_map_int_bool:TypeId:=136
abbrev ty_api_Assign:TypeId:=141
abbrev ty_map_int_int:TypeId:=145
def strtab0:ByteArray:=(ByteArray.mk #[0,1,2,2,3,3,3,3,4,4,4,4,4,4,4,4,5,5,5,5,5,5,5,5,5,5,5,5,5,5,5,5,6,6,6,6,6,6,6,6,6,6,6,6,6,6,6,6,6,6,6,6,6,6,6,6,6,6,6,6,6,6,6,6,7,7,7,7,7,7,7,7,7,7,7,7,7,7,7,7,7,7,7,7,7,7,7,7,7,7,7,7,7,7,7,7,7,7,7,7,7,7,7,7,7,7,7,7,7,7,7,7,7,7,7,7,7,7,7,7,7,7,7,7,7,7,7,7,8,8,8,8,8,8,8,8,8,8,8,8,8,8,8,8,8,8,8,8,8,8,8,8,8,8,8,8,8,8,8,8,8,8,8,8,8,8,8,8,8,8,8,8,8,8,8,8,8,8,8,8,8,8,8,8,8,8,8,8,8,8,8,8,8,8,8,8,8,8,8,8,8,8,8,8,8,8,8,8,8,8,8,8,8,8,8,8,8,8,8,8,8,8,8,8,8,8,8,8,8,8,8,8,8,8,8,8,8,8,8,8,8,8,8,8,8,8,8,8,8,8,8,8,8,8,8,8])
def fathomlaw18_TseitinSolves.w (a:Option Addr) (b:Nat) (c:Nat) (d:Option Addr) (f:Nat) (g:Nat) (w:World) (K:Value→World→Prop):Prop:=
 Calls prog 4 #[.slice a b c,.slice d f g] w fun e w1=> ∃r2,e= .returned (.bool r2)∧
 cnd (!r2)
 (Calls prog 6 #[] w1 fun e w3=> ∃r4,e= .returned (.bool r4)∧
 K (.bool r4) w3)
 (Calls prog 5 #[.slice a b c,.slice d f g] w1 fun e w5=> ∃r6,e= .returned (.bool r6)∧
 cnd (!r6)
 (Calls prog 6 #[] w5 fun e w7=> ∃r8,e= .returned (.bool r8)∧
   K (.bool r8) w7)
 (Calls prog 7 #[.slice a b c,.slice d f g] w5 fun e w9=> ∃r10 r11p r11n r11c r12p r12n r12c r13,e= .returned (.tuple #[.agg #[.int .i64 r10,.slice r11p r11n r11c,.slice r12p r12n r12c],.int .i64 r13])∧
   ∀n14 w15,New (.cells #[.int .i64 0,.slice none 0 0,.slice none 0 0] 30) w9 n14 w15→
   ∃w16,StoreAt (Addr.mk n14 0 none) 0 [.int .i64 r10,.slice r11p r11n r11c,.slice r12p r12n r12c] w15 w16∧
   ∃J17:Addr→Int→World→Prop,(∃W18:World→Prop,W18 w16.drew∧
   ∃x19 x20p x20n x20c,CellsW W18 ((Addr.mk n14 0 none).add 0) [.int .i64 x19,.slice x20p x20n x20c]∧
   (Calls prog 9 #[] w16.drew fun e w21=> ∃r22 r23 r24,e= .returned (.agg #[.int .i64 r22,.int .i64 r23,.int .i64 r24])∧
   W18 w21∧(Calls prog 8 #[.agg #[.int .i64 x19,.slice x20p x20n x20c],.agg #[.int .i64 r22,.int .i64 r23,.int .i64 r24]] w21 fun e w25=> ∃r26 r27p r27n r27c r28p r28n r28c r29 r30 r31 r32 r33,e= .returned (.tuple #[.agg #[.int .i64 r26,.slice r27p r27n r27c,.slice r28p r28n r28c,.int .i64 r29,.int .i64 r30,.int .i64 r31,.int .i64 r32],.int .i64 r33])∧
   ∀n34 w35,New (.cells #[.int .i64 0,.slice none 0 0,.slice none 0 0,.int .i64 0,.int .i64 0,.int .i64 0,.int .i64 0] 36) w25 n34 w35→
   W18 w35∧∃w36,StoreAt (Addr.mk n34 0 none) 0 [.int .i64 r26,.slice r27p r27n r27c,.slice r28p r28n r28c,.int .i64 r29,.int .i64 r30,.int .i64 r31,.int .i64 r32] w35 w36∧
   J17 (Addr.mk n34 0 none) r33 w36)∧
 (∀n37 w38,New (.cells #[.int .i64 0,.slice none 0 0,.slice none 0 0,.int .i64 0,.int .i64 0,.int .i64 0,.int .i64 0] 36) w21 n37 w38→
   W18 w38∧Calls prog 8 #[.agg #[.int .i64 x19,.slice x20p x20n x20c],.agg #[.int .i64 r22,.int .i64 r23,.int .i64 r24]] w38 fun e w39=> ∃r40 r41p r41n r41c r42p r42n r42c r43 r44 r45 r46 r47,e= .returned (.tuple #[.agg #[.int .i64 r40,.slice r41p r41n r41c,.slice r42p r42n r42c,.int .i64 r43,.int .i64 r44,.int .i64 r45,.int .i64 r46],.int .i64 r47])∧
   ∃w48,StoreAt (Addr.mk n37 0 none) 0 [.int .i64 r40,.slice r41p r41n r41c,.slice r42p r42n r42c,.int .i64 r43,.int .i64 r44,.int .i64 r45,.int .i64 r46] w39 w48∧
   J17 (Addr.mk n37 0 none) r47 w48))∧
 (∀n49 w50,New (.cells #[.int .i64 0,.slice none 0 0,.slice none 0 0,.int .i64 0,.int .i64 0,.int .i64 0,.int .i64 0] 36) w16.drew n49 w50→
   W18 w50∧Calls prog 9 #[] w50 fun e w51=> ∃r52 r53 r54,e= .returned (.agg #[.int .i64 r52,.int .i64 r53,.int .i64 r54])∧
   W18 w51∧Calls prog 8 #[.agg #[.int .i64 x19,.slice x20p x20n x20c],.agg #[.int .i64 r52,.int .i64 r53,.int .i64 r54]] w51 fun e w55=> ∃r56 r57p r57n r57c r58p r58n r58c r59 r60 r61 r62 r63,e= .returned (.tuple #[.agg #[.int .i64 r56,.slice r57p r57n r57c,.slice r58p r58n r58c,.int .i64 r59,.int .i64 r60,.int .i64 r61,.int .i64 r62],.int .i64 r63])∧
   ∃w64,StoreAt (Addr.mk n49 0 none) 0 [.int .i64 r56,.slice r57p r57n r57c,.slice r58p r58n r58c,.int .i64 r59,.int .i64 r60,.int .i64 r61,.int .i64 r62] w55 w64∧
   J17 (Addr.mk n49 0 none) r63 w64))∧
   ∀s_65 f_66 w67 (_:Fr),J17 s_65 f_66 w67→
   cnd (r13 !=(0:Int))
   (K (.bool false) w67)
   (cnd (f_66 !=(0:Int))
   (K (.bool false) w67)
   (∃I68:Int→Int→World→Nat→Prop,(∃k69,I68 0 0 w67 k69)∧
     ∀n_71 i_72 w73 k69 (_:Fr),I68 n_71 i_72 w73 k69→
     cnd (decide (i_72< (b:Int)))
      (ixK a b i_72 2 fun a74=>
        ∃x75,w73.cell? (a74.add 0)=some (.int .i64 x75)∧
        cnd (decide (x75< (0:Int)))
        (∃k70,k70<k69∧I68 (i64.wrap (n_71+ (1:Int))) (i64.wrap (i_72+ (1:Int))) w73 k70)
        (∃k70,k70<k69∧I68 n_71 (i64.wrap (i_72+ (1:Int))) w73 k70))
      (∃J76:Bool→World→Prop,(∃I77:Bool→Int→World→Nat→Prop,(∃k78,I77 false 0 w73 k78)∧
        ∀s_80 k_81 w82 k78 (_:Fr),I77 s_80 k_81 w82 k78→
        0≤n_71∧cnd (decide (k_81< (i64.wrap ((1:Int)*2 ^ (min n_71.toNat (IntKind.bits .i64))))))
         (cnd (!s_80)
         (∀n83 w84,New (.cells #[] 4) w82 n83 w84→
           ∃I85:Option Addr→Nat→Nat→Int→World→Nat→Prop,(∃k86,I85 (some (Addr.mk n83 0 none)) 0 0 0 w84 k86)∧
           ∀i88p i88n i88c i_89 w90 k86 (_:Fr),I85 i88p i88n i88c i_89 w90 k86→
           cnd (decide (i_89<n_71))
            (0≤(IntKind.u64.wrap i_89)∧(2:Int)≠0∧∀n91 w92,New (.cells #[.bool (((k_81.fdiv (2 ^ (min (IntKind.u64.wrap i_89).toNat (IntKind.bits .i64)))).tmod (2:Int))==(1:Int))] 4) w90 n91 w92→
              ∃w93 r94p r94n r94c,(Builtin.append_ #[44,44] 44 #[.slice i88p i88n i88c,.slice (some (Addr.mk n91 0 none)) 1 1]).run prog w92= .ok (.slice r94p r94n r94c) w93∧
              ∃k87,k87<k86∧I85 r94p r94n r94c (i64.wrap (i_89+ (1:Int))) w93 k87)
            (Calls prog 10 #[.slice a b c,.slice d f g,.slice i88p i88n i88c] w90 fun e w95=> ∃r96,e= .returned (.bool r96)∧
              ∃k79,k79<k78∧I77 r96 (i64.wrap (k_81+ (1:Int))) w95 k79))
         (J76 s_80 w82))
         (J76 s_80 w82))∧
        ∀s_97 w98 (_:Fr),J76 s_97 w98→
        cnd (!s_97)
        (∃x99,w98.cell? (s_65.add 0)=some (.int .i64 x99)∧
          cnd (x99==(2:Int))
          (Calls prog 6 #[] w98 fun e w100=> ∃r101,e= .returned (.bool r101)∧
          K (.bool r101) w100)
          (K (.bool false) w98))
        (∃x102,w98.cell? (s_65.add 0)=some (.int .i64 x102)∧
          cnd (x102==(1:Int))
          (∃x103 x104p x104n x104c x105p x105n x105c,CellsAt w98 (Addr.mk n14 0 none) 0 [.int .i64 x103,.slice x104p x104n x104c,.slice x105p x105n x105c]∧
          ∃x106p x106n x106c,w98.cell? (s_65.add 1)=some (.slice x106p x106n x106c)∧
          Calls prog 11 #[.slice a b c,.agg #[.int .i64 x103,.slice x104p x104n x104c,.slice x105p x105n x105c],.slice x106p x106n x106c] w98 fun e w107=> ∃r108p r108n r108c,e= .returned (.slice r108p r108n r108c)∧
          Calls prog 10 #[.slice a b c,.slice d f g,.slice r108p r108n r108c] w107 fun e w109=> ∃r110,e= .returned (.bool r110)∧
          cnd r110
          (Calls prog 6 #[] w109 fun e w111=> ∃r112,e= .returned (.bool r112)∧
          K (.bool r112) w111)
          (K (.bool false) w109))
          (K (.bool false) w98)))))))
theorem fathomlaw18_TseitinSolves.calls {a b c d f g w R} (h:fathomlaw18_TseitinSolves.w a b c d f g w fun v w'=>R (.returned v) w'):Calls prog 3 #[.slice a b c,.slice d f g] w R:=
 calls_of mixed Tryz.func3 (by kernel_rfl) rfl (ann:=(.two .leaf (.two .leaf (.two .leaf (.cut [(7,1000000),(8,31)] .draw (.two .leaf (.two .leaf (.two (.two .leaf (.one (.loop [(9,3),(10,3)] .leaf))) (.two .leaf (.cut [(11,4)] (.two .leaf (.one (.loop [(11,4),(12,3)] (.two .leaf (.two (.one (.two .leaf (.two (.two .leaf (.one (.loop [(13,44),(14,3)] .leaf))) .leaf))) .leaf))))) .leaf)))))))))) (F:=fathomlaw18_TseitinSolves.w a b c d f g w) (fun K=>by kernel_rfl) h
def fathomlaw18_light.w (a:Option Addr) (b:Nat) (c:Nat) (d:Option Addr) (f:Nat) (g:Nat) (w:World) (K:Value→World→Prop):Prop:=
 ∃I1:Int→World→Nat→Prop,(∃k2,I1 0 w k2)∧
 ∀i_4 w5 k2 (_:Fr),I1 i_4 w5 k2→
 cnd (decide (i_4< (f:Int)))
  (cnd (decide (i_4≤(12:Int)))
  (ixK d f i_4 1 fun a6=>
    ∃x7p x7n x7c,w5.cell? a6=some (.slice x7p x7n x7c)∧
    cnd (decide ((x7n:Int)> (30:Int)))
    (K (.bool false) w5)
    (∃k3,k3<k2∧I1 (i64.wrap (i_4+ (1:Int))) w5 k3))
  (cnd (decide ((b:Int)≤(12:Int)))
    (K (.bool (decide ((f:Int)≤(12:Int)))) w5)
    (K (.bool false) w5)))
  (cnd (decide ((b:Int)≤(12:Int)))
  (K (.bool (decide ((f:Int)≤(12:Int)))) w5)
  (K (.bool false) w5))
theorem fathomlaw18_light.calls {a b c d f g w R} (h:fathomlaw18_light.w a b c d f g w fun v w'=>R (.returned v) w'):Calls prog 4 #[.slice a b c,.slice d f g] w R:=
 calls_of mixed Tryz.func4 (by kernel_rfl) rfl (ann:=(.two .leaf (.two (.two .leaf (.one (.loop [(5,3)] .leaf))) .leaf))) (F:=fathomlaw18_light.w a b c d f g w) (fun K=>by kernel_rfl) h
def fathomref18_May.w (a:Option Addr) (b:Nat) (c:Nat) (d:Option Addr) (f:Nat) (g:Nat) (w:World) (K:Value→World→Prop):Prop:=
 ∃I1:Int→World→Nat→Prop,(∃k2,I1 0 w k2)∧
 ∀i_4 w5 k2 (_:Fr),I1 i_4 w5 k2→
 cnd (decide (i_4< (f:Int)))
  (∃I6:Int→World→Nat→Prop,(∃k7,I6 0 w5 k7)∧
    ∀k_9 w10 k7 (_:Fr),I6 k_9 w10 k7→
    ixK d f i_4 1 fun a11=>
     ∃x12p x12n x12c,w10.cell? a11=some (.slice x12p x12n x12c)∧
     cnd (decide (k_9< (x12n:Int)))
     (ixK d f i_4 1 fun a13=>
       ∃x14p x14n x14c,w10.cell? a13=some (.slice x14p x14n x14c)∧
       ixK x14p x14n k_9 1 fun a15=>
       ∃x16,w10.cell? a15=some (.int .i64 x16)∧
       Calls prog 12 #[.slice a b c,.int .i64 x16] w10 fun e w17=> ∃r18,e= .returned (.bool r18)∧
       cnd (!r18)
       (K (.bool false) w17)
       (∃k8,k8<k7∧I6 (i64.wrap (k_9+ (1:Int))) w17 k8))
     (ixK d f i_4 1 fun a19=>
       ∃x20p x20n x20c,w10.cell? a19=some (.slice x20p x20n x20c)∧
       cnd (decide ((x20n:Int)> (4096:Int)))
       (K (.bool false) w10)
       (∃k3,k3<k2∧I1 (i64.wrap (i_4+ (1:Int))) w10 k3)))
  (Calls prog 13 #[.slice a b c] w5 fun e w21=> ∃r22,e= .returned (.bool r22)∧
    K (.bool r22) w21)
theorem fathomref18_May.calls {a b c d f g w R} (h:fathomref18_May.w a b c d f g w fun v w'=>R (.returned v) w'):Calls prog 5 #[.slice a b c,.slice d f g] w R:=
 calls_of mixed Tryz.func5 (by kernel_rfl) rfl (ann:=(.two .leaf (.two (.two .leaf (.one (.loop [(5,3)] (.two .leaf (.two (.one (.two (.two .leaf (.one (.loop [(6,3)] .leaf))) .leaf)) .leaf))))) .leaf))) (F:=fathomref18_May.w a b c d f g w) (fun K=>by kernel_rfl) h
def fathomlaw18_awake.w (w:World) (K:Value→World→Prop):Prop:=
 ∀n1 w2,New (.cells #[.int .i64 (-1),.int .i64 (-1),.int .i64 (-1),.int .i64 (-1),.int .i64 2,.int .i64 4] 43) w n1 w2→
 ∀n3 w4,New (.cells #[.int .i64 6] 3) w2 n3 w4→
 ∀n5 w6,New (.cells #[.slice (some (Addr.mk n3 0 none)) 1 1] 28) w4 n5 w6→
 Calls prog 7 #[.slice (some (Addr.mk n1 0 none)) 3 3,.slice (some (Addr.mk n5 0 none)) 1 1] w6 fun e w7=> ∃r8 r9p r9n r9c r10p r10n r10c r11,e= .returned (.tuple #[.agg #[.int .i64 r8,.slice r9p r9n r9c,.slice r10p r10n r10c],.int .i64 r11])∧
 ∀n12 w13,New (.cells #[.int .i64 0,.slice none 0 0,.slice none 0 0] 30) w7 n12 w13→
 ∃w14,StoreAt (Addr.mk n12 0 none) 0 [.int .i64 r8,.slice r9p r9n r9c,.slice r10p r10n r10c] w13 w14∧
 cnd (r11==(0:Int))
 (∃x15,w14.cell? (((Addr.mk n12 0 none).add 0).add 0)=some (.int .i64 x15)∧
 cnd (x15==(3:Int))
 (∃x16p x16n x16c,w14.cell? (((Addr.mk n12 0 none).add 0).add 1)=some (.slice x16p x16n x16c)∧
 cnd ((x16n:Int)==(4:Int))
 (∃x17 x18p x18n x18c x19p x19n x19c,CellsAt w14 (Addr.mk n12 0 none) 0 [.int .i64 x17,.slice x18p x18n x18c,.slice x19p x19n x19c]∧
 Calls prog 14 #[.agg #[.int .i64 x17,.slice x18p x18n x18c,.slice x19p x19n x19c],.int .i64 7] w14 fun e w20=> ∃r21,e= .returned (.int .i64 r21)∧
 K (.bool (r21==(-3))) w20)
 (K (.bool false) w14))
 (K (.bool false) w14))
 (K (.bool false) w14)
theorem fathomlaw18_awake.calls {w R} (h:fathomlaw18_awake.w w fun v w'=>R (.returned v) w'):Calls prog 6 #[] w R:=
 calls_of mixed Tryz.func6 (by kernel_rfl) rfl (ann:= .leaf) (F:=fathomlaw18_awake.w w) (fun K=>by kernel_rfl) h
def tseitin_Build.w (a:Option Addr) (b:Nat) (c:Nat) (d:Option Addr) (f:Nat) (g:Nat) (w:World) (K:Value→World→Prop):Prop:=
 ∀n1 w2,New (.cells #[.int .i64 0,.slice none 0 0,.slice none 0 0] 30) w n1 w2→
 Calls prog 15 #[.slice a b c,.slice d f g] w2 fun e w3=> ∃r4,e= .returned (.bool r4)∧
 cnd (!r4)
 (∃w5,StoreAt (Addr.mk n1 0 none) 0 [.int .i64 0,.slice none 0 0,.slice none 0 0] w3 w5∧
   ∃x6 x7p x7n x7c x8p x8n x8c,CellsAt w5 (Addr.mk n1 0 none) 0 [.int .i64 x6,.slice x7p x7n x7c,.slice x8p x8n x8c]∧
   K (.tuple #[.agg #[.int .i64 x6,.slice x7p x7n x7c,.slice x8p x8n x8c],.int .i64 1]) w5)
 (Calls prog 16 #[.slice a b c,.slice d f g] w3 fun e w9=> ∃r10p r10n r10c,e= .returned (.slice r10p r10n r10c)∧
   ∀n11 w12,New (.cells #[.int .i64 0,.slice none 0 0,.slice none 0 0] 54) w9 n11 w12→
   ∃I13:Int→World→Nat→Prop,(∃k14,I13 0 w12 k14)∧
   ∀v16 w17 k14 (_:Fr),I13 v16 w17 k14→
   cnd (decide (v16< (b:Int)))
    (ixK r10p r10n (i64.wrap (v16+ (1:Int))) 1 fun a18=>
      ∃x19,w17.cell? a18=some (.bool x19)∧
      cnd x19
      (∃a20,(some (Addr.mk n11 0 none))=some a20∧∃x21,w17.cell? (((a20.add 0).add 0).add 0)=some (.int .i64 x21)∧
        ∃a22,(some (Addr.mk n11 0 none))=some a22∧∃w23,StoreAt (((a22.add 0).add 0).add 0) 0 [.int .i64 (i64.wrap (x21+ (1:Int)))] w17 w23∧
        ∃a24,(some (Addr.mk n11 0 none))=some a24∧∃x25,w23.cell? (((a24.add 0).add 0).add 0)=some (.int .i64 x25)∧
        ∃a26,(some (Addr.mk n11 0 none))=some a26∧∃x27p x27n x27c,w23.cell? ((a26.add 0).add 2)=some (.slice x27p x27n x27c)∧
        ∀n28 w29,New (.cells #[.int .i64 x25] 3) w23 n28 w29→
        ∃w30 r31p r31n r31c,(Builtin.append_ #[28,28] 28 #[.slice x27p x27n x27c,.slice (some (Addr.mk n28 0 none)) 1 1]).run prog w29= .ok (.slice r31p r31n r31c) w30∧
        ∃a32,(some (Addr.mk n11 0 none))=some a32∧∃w33,StoreAt ((a32.add 0).add 2) 0 [.slice r31p r31n r31c] w30 w33∧
        ∃k15,k15<k14∧I13 (i64.wrap (v16+ (1:Int))) w33 k15)
      (∃a34,(some (Addr.mk n11 0 none))=some a34∧∃x35p x35n x35c,w17.cell? ((a34.add 0).add 2)=some (.slice x35p x35n x35c)∧
        ∀n36 w37,New (.cells #[.int .i64 0] 3) w17 n36 w37→
        ∃w38 r39p r39n r39c,(Builtin.append_ #[28,28] 28 #[.slice x35p x35n x35c,.slice (some (Addr.mk n36 0 none)) 1 1]).run prog w37= .ok (.slice r39p r39n r39c) w38∧
        ∃a40,(some (Addr.mk n11 0 none))=some a40∧∃w41,StoreAt ((a40.add 0).add 2) 0 [.slice r39p r39n r39c] w38 w41∧
        ∃k15,k15<k14∧I13 (i64.wrap (v16+ (1:Int))) w41 k15))
    (∃I42:Int→World→Nat→Prop,(∃k43,I42 0 w17 k43)∧
      ∀v45 w46 k43 (_:Fr),I42 v45 w46 k43→
      cnd (decide (v45< (b:Int)))
       (ixK a b v45 2 fun a47=>
         ∃x48 x49,CellsAt w46 a47 0 [.int .i64 x48,.int .i64 x49]∧
         ∀n50 w51,New (.cells #[.int .i64 0,.int .i64 0] 43) w46 n50 w51→
         ∃w52,StoreAt (Addr.mk n50 0 none) 0 [.int .i64 x48,.int .i64 x49] w51 w52∧
         ixK r10p r10n (i64.wrap (v45+ (1:Int))) 1 fun a53=>
         ∃x54,w52.cell? a53=some (.bool x54)∧
         cnd (!x54)
         (∃k44,k44<k43∧I42 (i64.wrap (v45+ (1:Int))) w52 k44)
         (∃x55 x56,CellsAt w52 (Addr.mk n50 0 none) 0 [.int .i64 x55,.int .i64 x56]∧
         Calls prog 17 #[.agg #[.int .i64 x55,.int .i64 x56]] w52 fun e w57=> ∃r58,e= .returned (.bool r58)∧
         cnd (!r58)
         (∃k44,k44<k43∧I42 (i64.wrap (v45+ (1:Int))) w57 k44)
         (∃x59,w57.cell? ((Addr.mk n50 0 none).add 0)=some (.int .i64 x59)∧
           ∀n60 w61,New (.cells #[.int .i64 (i64.wrap ((BitVec.ofInt (IntKind.bits .i64) (i64.wrap ((2:Int)* (i64.wrap (v45+ (1:Int))))) ^^^ BitVec.ofInt (IntKind.bits .i64) (1:Int)).toNat)),.int .i64 x59] 3) w57 n60 w61→
           Calls prog 18 #[.pointer (some (Addr.mk n11 0 none)),.slice (some (Addr.mk n60 0 none)) 2 2] w61 fun e w62=>e= .returned (.tuple #[])∧
           ∃x63,w62.cell? ((Addr.mk n50 0 none).add 1)=some (.int .i64 x63)∧
           ∀n64 w65,New (.cells #[.int .i64 (i64.wrap ((BitVec.ofInt (IntKind.bits .i64) (i64.wrap ((2:Int)* (i64.wrap (v45+ (1:Int))))) ^^^ BitVec.ofInt (IntKind.bits .i64) (1:Int)).toNat)),.int .i64 x63] 3) w62 n64 w65→
           Calls prog 18 #[.pointer (some (Addr.mk n11 0 none)),.slice (some (Addr.mk n64 0 none)) 2 2] w65 fun e w66=>e= .returned (.tuple #[])∧
           ∃x67,w66.cell? ((Addr.mk n50 0 none).add 0)=some (.int .i64 x67)∧
           ∃x68,w66.cell? ((Addr.mk n50 0 none).add 1)=some (.int .i64 x68)∧
           ∀n69 w70,New (.cells #[.int .i64 (i64.wrap ((2:Int)* (i64.wrap (v45+ (1:Int))))),.int .i64 (i64.wrap ((BitVec.ofInt (IntKind.bits .i64) x67 ^^^ BitVec.ofInt (IntKind.bits .i64) (1:Int)).toNat)),.int .i64 (i64.wrap ((BitVec.ofInt (IntKind.bits .i64) x68 ^^^ BitVec.ofInt (IntKind.bits .i64) (1:Int)).toNat))] 3) w66 n69 w70→
           Calls prog 18 #[.pointer (some (Addr.mk n11 0 none)),.slice (some (Addr.mk n69 0 none)) 3 3] w70 fun e w71=>e= .returned (.tuple #[])∧
           ∃k44,k44<k43∧I42 (i64.wrap (v45+ (1:Int))) w71 k44)))
       (∃I72:Int→World→Nat→Prop,(∃k73,I72 0 w46 k73)∧
         ∀v75 w76 k73 (_:Fr),I72 v75 w76 k73→
         cnd (decide (v75< (f:Int)))
          (ixK d f v75 1 fun a77=>
            ∃x78p x78n x78c,w76.cell? a77=some (.slice x78p x78n x78c)∧
            Calls prog 18 #[.pointer (some (Addr.mk n11 0 none)),.slice x78p x78n x78c] w76 fun e w79=>e= .returned (.tuple #[])∧
            ∃k74,k74<k73∧I72 (i64.wrap (v75+ (1:Int))) w79 k74)
          (∃a80,(some (Addr.mk n11 0 none))=some a80∧∃x81 x82p x82n x82c,CellsAt w76 ((a80.add 0).add 0) 0 [.int .i64 x81,.slice x82p x82n x82c]∧
            Calls prog 19 #[.agg #[.int .i64 x81,.slice x82p x82n x82c]] w76 fun e w83=> ∃r84,e= .returned (.int .i64 r84)∧
            cnd (r84 !=(0:Int))
            (∃w85,StoreAt (Addr.mk n1 0 none) 0 [.int .i64 0,.slice none 0 0,.slice none 0 0] w83 w85∧
              ∃x86 x87p x87n x87c x88p x88n x88c,CellsAt w85 (Addr.mk n1 0 none) 0 [.int .i64 x86,.slice x87p x87n x87c,.slice x88p x88n x88c]∧
              K (.tuple #[.agg #[.int .i64 x86,.slice x87p x87n x87c,.slice x88p x88n x88c],.int .i64 5]) w85)
            (∃a89,(some (Addr.mk n11 0 none))=some a89∧∃x90 x91p x91n x91c x92p x92n x92c,CellsAt w83 (a89.add 0) 0 [.int .i64 x90,.slice x91p x91n x91c,.slice x92p x92n x92c]∧
              ∃w93,StoreAt (Addr.mk n1 0 none) 0 [.int .i64 x90,.slice x91p x91n x91c,.slice x92p x92n x92c] w83 w93∧
              ∃x94 x95p x95n x95c x96p x96n x96c,CellsAt w93 (Addr.mk n1 0 none) 0 [.int .i64 x94,.slice x95p x95n x95c,.slice x96p x96n x96c]∧
              K (.tuple #[.agg #[.int .i64 x94,.slice x95p x95n x95c,.slice x96p x96n x96c],.int .i64 0]) w93)))))
theorem tseitin_Build.calls {a b c d f g w R} (h:tseitin_Build.w a b c d f g w fun v w'=>R (.returned v) w'):Calls prog 7 #[.slice a b c,.slice d f g] w R:=
 calls_of mixed Tryz.func7 (by kernel_rfl) rfl (ann:=(.two .leaf (.two .leaf (.two .leaf (.two .leaf (.two (.two .leaf (.one (.loop [(27,3)] .leaf))) (.two (.two .leaf (.one (.loop [(67,3)] .leaf))) (.two (.two .leaf (.one (.loop [(113,3)] .leaf))) .leaf)))))))) (F:=tseitin_Build.w a b c d f g w) (fun K=>by kernel_rfl) h
def cdcl_Solve.w (f_0:Int) (f1p:Option Addr) (f1n:Nat) (f1c:Nat) (s_0:Int) (s_1:Int) (s_2:Int) (w:World) (K:Value→World→Prop):Prop:=
 ∀n1 w2,New (.cells #[.int .i64 f_0,.slice f1p f1n f1c] 27) w n1 w2→
 ∀n3 w4,New (.cells #[.int .i64 s_0,.int .i64 s_1,.int .i64 s_2] 40) w2 n3 w4→
 ∀n5 w6,New (.cells #[.int .i64 0,.slice none 0 0,.slice none 0 0,.int .i64 0,.int .i64 0,.int .i64 0,.int .i64 0] 36) w4 n5 w6→
 ∃x7 x8p x8n x8c,CellsAt w6 (Addr.mk n1 0 none) 0 [.int .i64 x7,.slice x8p x8n x8c]∧
 Calls prog 19 #[.agg #[.int .i64 x7,.slice x8p x8n x8c]] w6 fun e w9=> ∃r10,e= .returned (.int .i64 r10)∧
 cnd (r10 !=(0:Int))
 (∃w11,StoreAt (Addr.mk n5 0 none) 0 [.int .i64 0,.slice none 0 0,.slice none 0 0,.int .i64 0,.int .i64 0,.int .i64 0,.int .i64 0] w9 w11∧
 ∃x12 x13p x13n x13c x14p x14n x14c x15 x16 x17 x18,CellsAt w11 (Addr.mk n5 0 none) 0 [.int .i64 x12,.slice x13p x13n x13c,.slice x14p x14n x14c,.int .i64 x15,.int .i64 x16,.int .i64 x17,.int .i64 x18]∧
 K (.tuple #[.agg #[.int .i64 x12,.slice x13p x13n x13c,.slice x14p x14n x14c,.int .i64 x15,.int .i64 x16,.int .i64 x17,.int .i64 x18],.int .i64 1]) w11)
 (∃x19 x20 x21,CellsAt w9 (Addr.mk n3 0 none) 0 [.int .i64 x19,.int .i64 x20,.int .i64 x21]∧
 Calls prog 20 #[.agg #[.int .i64 x19,.int .i64 x20,.int .i64 x21]] w9 fun e w22=> ∃r23,e= .returned (.int .i64 r23)∧
 cnd (r23 !=(0:Int))
 (∃w24,StoreAt (Addr.mk n5 0 none) 0 [.int .i64 0,.slice none 0 0,.slice none 0 0,.int .i64 0,.int .i64 0,.int .i64 0,.int .i64 0] w22 w24∧
   ∃x25 x26p x26n x26c x27p x27n x27c x28 x29 x30 x31,CellsAt w24 (Addr.mk n5 0 none) 0 [.int .i64 x25,.slice x26p x26n x26c,.slice x27p x27n x27c,.int .i64 x28,.int .i64 x29,.int .i64 x30,.int .i64 x31]∧
   K (.tuple #[.agg #[.int .i64 x25,.slice x26p x26n x26c,.slice x27p x27n x27c,.int .i64 x28,.int .i64 x29,.int .i64 x30,.int .i64 x31],.int .i64 1]) w24)
 (∃W32:World→Prop,W32 w22.drew∧
   ∃x33 x34p x34n x34c,CellsW W32 (Addr.mk n1 0 none) [.int .i64 x33,.slice x34p x34n x34c]∧
   ∃x35 x36 x37,CellsW W32 (Addr.mk n3 0 none) [.int .i64 x35,.int .i64 x36,.int .i64 x37]∧
   ∃x38,AtW W32 ((Addr.mk n1 0 none).add 0) (.int .i64 x38)∧
   ∃w39 r40p r40n r40c,(Instr.makeSlice 28 (.int .i64 (i64.wrap (x38+ (1:Int)))) (.int .i64 (i64.wrap (x38+ (1:Int))))).run prog w22.drew= .ok (.slice r40p r40n r40c) w39∧
   W32 w39∧∀n41 w42,New (.cells #[.int .i64 x33,.slice x34p x34n x34c,.int .i64 x35,.int .i64 x36,.int .i64 x37,.pointer none,.pointer none,.slice r40p r40n r40c,.int .i64 0,.int .i64 0,.int .i64 0,.slice none 0 0,.slice none 0 0,.int .i64 0,.int .i64 0,.slice none 0 0,.slice none 0 0,.int .i64 0,.int .i64 0,.int .i64 0,.int .i64 0] 66) w39 n41 w42→
   ∃x43 x44p x44n x44c,CellsAt w42 (Addr.mk n1 0 none) 0 [.int .i64 x43,.slice x44p x44n x44c]∧
   Calls prog 21 #[.agg #[.int .i64 x43,.slice x44p x44n x44c]] w42 fun e w45=> ∃r46 r47,e= .returned (.tuple #[.pointer r46,.int .i64 r47])∧
   ∃a48,(some (Addr.mk n41 0 none))=some a48∧∃w49,StoreAt (a48.add 5) 0 [.pointer r46] w45 w49∧
   ∃x50,w49.cell? ((Addr.mk n1 0 none).add 0)=some (.int .i64 x50)∧
   Calls prog 22 #[.int .i64 x50] w49 fun e w51=> ∃r52 r53,e= .returned (.tuple #[.pointer r52,.int .i64 r53])∧
   ∃a54,(some (Addr.mk n41 0 none))=some a54∧∃w55,StoreAt (a54.add 6) 0 [.pointer r52] w51 w55∧
   ∃x56,w55.cell? ((Addr.mk n3 0 none).add 1)=some (.int .i64 x56)∧
   Calls prog 23 #[.int .i64 x56] w55 fun e w57=> ∃r58 r59 r60 r61,e= .returned (.tuple #[.agg #[.int .i64 r58,.int .i64 r59,.int .i64 r60],.int .i64 r61])∧
   ∃a62,(some (Addr.mk n41 0 none))=some a62∧∃w63,StoreAt (a62.add 8) 0 [.int .i64 r58,.int .i64 r59,.int .i64 r60] w57 w63∧
   ∃I64:World→Nat→Prop,(∃k65,I64 w63 k65)∧
   ∀w67 k65 (_:Fr),I64 w67 k65→
   ∃a68,(some (Addr.mk n41 0 none))=some a68∧∃x69,w67.cell? (a68.add 5)=some (.pointer x69)∧
    Calls prog 24 #[.pointer x69] w67 fun e w70=> ∃r71,e= .returned (.int .i64 r71)∧
    ∃J72:Bool→World→Prop,(cnd (decide (r71< (0:Int)))
    (Calls prog 25 #[.pointer (some (Addr.mk n41 0 none))] w70 fun e w73=> ∃r74,e= .returned (.bool r74)∧
    J72 (!r74) w73)
    (J72 false w70))∧
    ∀v75 w76 (_:Fr),J72 v75 w76→
    cnd v75
    (Calls prog 26 #[.pointer (some (Addr.mk n41 0 none))] w76 fun e w77=>e= .returned (.tuple #[])∧
      ∃a78,(some (Addr.mk n41 0 none))=some a78∧∃x79 x80p x80n x80c x81p x81n x81c x82 x83 x84 x85,CellsAt w77 (a78.add 14) 0 [.int .i64 x79,.slice x80p x80n x80c,.slice x81p x81n x81c,.int .i64 x82,.int .i64 x83,.int .i64 x84,.int .i64 x85]∧
      ∃w86,StoreAt (Addr.mk n5 0 none) 0 [.int .i64 x79,.slice x80p x80n x80c,.slice x81p x81n x81c,.int .i64 x82,.int .i64 x83,.int .i64 x84,.int .i64 x85] w77 w86∧
      ∃x87 x88p x88n x88c x89p x89n x89c x90 x91 x92 x93,CellsAt w86 (Addr.mk n5 0 none) 0 [.int .i64 x87,.slice x88p x88n x88c,.slice x89p x89n x89c,.int .i64 x90,.int .i64 x91,.int .i64 x92,.int .i64 x93]∧
      K (.tuple #[.agg #[.int .i64 x87,.slice x88p x88n x88c,.slice x89p x89n x89c,.int .i64 x90,.int .i64 x91,.int .i64 x92,.int .i64 x93],.int .i64 0]) w86)
    (cnd (decide (r71< (0:Int)))
      (∃k66,k66<k65∧I64 w76 k66)
      (∃a94,(some (Addr.mk n41 0 none))=some a94∧∃x95,w76.cell? (a94.add 5)=some (.pointer x95)∧
        Calls prog 27 #[.pointer x95] w76 fun e w96=> ∃r97,e= .returned (.int .i64 r97)∧
        cnd (r97==(0:Int))
        (Calls prog 28 #[.pointer (some (Addr.mk n41 0 none)),.slice none 0 0] w96 fun e w98=>e= .returned (.tuple #[])∧
          ∃a99,(some (Addr.mk n41 0 none))=some a99∧∃w100,StoreAt ((a99.add 14).add 0) 0 [.int .i64 2] w98 w100∧
          ∃a101,(some (Addr.mk n41 0 none))=some a101∧∃x102 x103p x103n x103c x104p x104n x104c x105 x106 x107 x108,CellsAt w100 (a101.add 14) 0 [.int .i64 x102,.slice x103p x103n x103c,.slice x104p x104n x104c,.int .i64 x105,.int .i64 x106,.int .i64 x107,.int .i64 x108]∧
          ∃w109,StoreAt (Addr.mk n5 0 none) 0 [.int .i64 x102,.slice x103p x103n x103c,.slice x104p x104n x104c,.int .i64 x105,.int .i64 x106,.int .i64 x107,.int .i64 x108] w100 w109∧
          ∃x110 x111p x111n x111c x112p x112n x112c x113 x114 x115 x116,CellsAt w109 (Addr.mk n5 0 none) 0 [.int .i64 x110,.slice x111p x111n x111c,.slice x112p x112n x112c,.int .i64 x113,.int .i64 x114,.int .i64 x115,.int .i64 x116]∧
          K (.tuple #[.agg #[.int .i64 x110,.slice x111p x111n x111c,.slice x112p x112n x112c,.int .i64 x113,.int .i64 x114,.int .i64 x115,.int .i64 x116],.int .i64 0]) w109)
        (∃a117,(some (Addr.mk n41 0 none))=some a117∧∃x118,w96.drew.cell? ((a117.add 2).add 0)=some (.int .i64 x118)∧
          cnd (decide (x118≥(0:Int)))
          (∃a119,(some (Addr.mk n41 0 none))=some a119∧∃x120,w96.drew.cell? ((a119.add 14).add 3)=some (.int .i64 x120)∧
          ∃a121,(some (Addr.mk n41 0 none))=some a121∧∃x122,w96.drew.cell? ((a121.add 2).add 0)=some (.int .i64 x122)∧
          cnd (decide (x120≥x122))
          (∃a123,(some (Addr.mk n41 0 none))=some a123∧∃w124,StoreAt ((a123.add 14).add 2) 0 [.slice none 0 0] w96.drew w124∧
            ∃a125,(some (Addr.mk n41 0 none))=some a125∧∃x126 x127p x127n x127c x128p x128n x128c x129 x130 x131 x132,CellsAt w124 (a125.add 14) 0 [.int .i64 x126,.slice x127p x127n x127c,.slice x128p x128n x128c,.int .i64 x129,.int .i64 x130,.int .i64 x131,.int .i64 x132]∧
            ∃w133,StoreAt (Addr.mk n5 0 none) 0 [.int .i64 x126,.slice x127p x127n x127c,.slice x128p x128n x128c,.int .i64 x129,.int .i64 x130,.int .i64 x131,.int .i64 x132] w124 w133∧
            ∃x134 x135p x135n x135c x136p x136n x136c x137 x138 x139 x140,CellsAt w133 (Addr.mk n5 0 none) 0 [.int .i64 x134,.slice x135p x135n x135c,.slice x136p x136n x136c,.int .i64 x137,.int .i64 x138,.int .i64 x139,.int .i64 x140]∧
            K (.tuple #[.agg #[.int .i64 x134,.slice x135p x135n x135c,.slice x136p x136n x136c,.int .i64 x137,.int .i64 x138,.int .i64 x139,.int .i64 x140],.int .i64 6]) w133)
          (Calls prog 29 #[.pointer (some (Addr.mk n41 0 none)),.int .i64 r71] w96.drew fun e w141=>e= .returned (.tuple #[])∧
            ∃k66,k66<k65∧I64 w141 k66))
          (Calls prog 29 #[.pointer (some (Addr.mk n41 0 none)),.int .i64 r71] w96.drew fun e w142=>e= .returned (.tuple #[])∧
          ∃k66,k66<k65∧I64 w142 k66))))))
theorem cdcl_Solve.calls {f_0 f1p f1n f1c s_0 s_1 s_2 w R} (h:cdcl_Solve.w f_0 f1p f1n f1c s_0 s_1 s_2 w fun v w'=>R (.returned v) w'):Calls prog 8 #[.agg #[.int .i64 f_0,.slice f1p f1n f1c],.agg #[.int .i64 s_0,.int .i64 s_1,.int .i64 s_2]] w R:=
 calls_of mixed Tryz.func8 (by kernel_rfl) rfl (ann:=(.two .leaf (.two .leaf (.two .draw (.two .leaf (.two .leaf (.two .leaf (.one (.loop [] (.one (.two .leaf (.one (.cut [(59,4)] .leaf .leaf))))))))))))) (F:=cdcl_Solve.w f_0 f1p f1n f1c s_0 s_1 s_2 w) (fun K=>by kernel_rfl) h
def cdcl_Usual.w (w:World) (K:Value→World→Prop):Prop:=
 ∀n1 w2,New (.cells #[.int .i64 0,.int .i64 0,.int .i64 0] 40) w n1 w2→
 ∃w3,StoreAt (Addr.mk n1 0 none) 0 [.int .i64 (-1),.int .i64 64,.int .i64 200] w2 w3∧
 ∃x4 x5 x6,CellsAt w3 (Addr.mk n1 0 none) 0 [.int .i64 x4,.int .i64 x5,.int .i64 x6]∧
 K (.agg #[.int .i64 x4,.int .i64 x5,.int .i64 x6]) w3
theorem cdcl_Usual.calls {w R} (h:cdcl_Usual.w w fun v w'=>R (.returned v) w'):Calls prog 9 #[] w R:=
 calls_of mixed Tryz.func9 (by kernel_rfl) rfl (ann:= .leaf) (F:=cdcl_Usual.w w) (fun K=>by kernel_rfl) h
def fathomref18_Asked.w (a:Option Addr) (b:Nat) (c:Nat) (d:Option Addr) (f:Nat) (g:Nat) (h:Option Addr) (i:Nat) (j:Nat) (w:World) (K:Value→World→Prop):Prop:=
 ∃I1:Int→World→Nat→Prop,(∃k2,I1 0 w k2)∧
 ∀i_4 w5 k2 (_:Fr),I1 i_4 w5 k2→
 cnd (decide (i_4< (f:Int)))
  (∃I6:Bool→Int→World→Nat→Prop,(∃k7,I6 false 0 w5 k7)∧
    ∀s_9 k_10 w11 k7 (_:Fr),I6 s_9 k_10 w11 k7→
    ixK d f i_4 1 fun a12=>
     ∃x13p x13n x13c,w11.cell? a12=some (.slice x13p x13n x13c)∧
     cnd (decide (k_10< (x13n:Int)))
     (cnd s_9
       (∃k8,k8<k7∧I6 true (i64.wrap (k_10+ (1:Int))) w11 k8)
       (ixK d f i_4 1 fun a14=>
       ∃x15p x15n x15c,w11.cell? a14=some (.slice x15p x15n x15c)∧
       ixK x15p x15n k_10 1 fun a16=>
       ∃x17,w11.cell? a16=some (.int .i64 x17)∧
       Calls prog 30 #[.slice a b c,.slice h i j,.int .i64 x17] w11 fun e w18=> ∃r19,e= .returned (.bool r19)∧
       ∃k8,k8<k7∧I6 r19 (i64.wrap (k_10+ (1:Int))) w18 k8))
     (cnd (!s_9)
       (K (.bool false) w11)
       (∃k3,k3<k2∧I1 (i64.wrap (i_4+ (1:Int))) w11 k3)))
  (K (.bool true) w5)
theorem fathomref18_Asked.calls {a b c d f g i j l w R} (h:fathomref18_Asked.w a b c d f g i j l w fun v w'=>R (.returned v) w'):Calls prog 10 #[.slice a b c,.slice d f g,.slice i j l] w R:=
 calls_of mixed Tryz.func10 (by kernel_rfl) rfl (ann:=(.two .leaf (.two (.two .leaf (.one (.loop [(7,3)] (.two .leaf (.two (.one (.two .leaf (.two (.two .leaf (.one (.loop [(8,4),(9,3)] .leaf))) .leaf))) .leaf))))) .leaf))) (F:=fathomref18_Asked.w a b c d f g i j l w) (fun K=>by kernel_rfl) h
def tseitin_Ins.w (a:Option Addr) (b:Nat) (c:Nat) (c_0:Int) (c1p:Option Addr) (c1n:Nat) (c1c:Nat) (c2p:Option Addr) (c2n:Nat) (c2c:Nat) (d:Option Addr) (f:Nat) (g:Nat) (w:World) (K:Value→World→Prop):Prop:=
 ∀n1 w2,New (.cells #[.int .i64 c_0,.slice c1p c1n c1c,.slice c2p c2n c2c] 30) w n1 w2→
 Calls prog 31 #[.slice a b c] w2 fun e w3=> ∃r4,e= .returned (.int .i64 r4)∧
 cnd (r4 !=(0:Int))
 (K (.slice none 0 0) w3)
 (∃x5p x5n x5c,w3.cell? ((Addr.mk n1 0 none).add 2)=some (.slice x5p x5n x5c)∧
 cnd ((x5n:Int) !=(b:Int))
 (K (.slice none 0 0) w3)
 (∃I6:Option Addr→Nat→Nat→Int→World→Nat→Prop,(∃k7,I6 none 0 0 0 w3 k7)∧
   ∀o9p o9n o9c v10 w11 k7 (_:Fr),I6 o9p o9n o9c v10 w11 k7→
   cnd (decide (v10< (b:Int)))
    (ixK a b v10 2 fun a12=>
      ∃x13 x14,CellsAt w11 a12 0 [.int .i64 x13,.int .i64 x14]∧
      ∀n15 w16,New (.cells #[.int .i64 0,.int .i64 0] 43) w11 n15 w16→
      ∃w17,StoreAt (Addr.mk n15 0 none) 0 [.int .i64 x13,.int .i64 x14] w16 w17∧
      ∃x18 x19,CellsAt w17 (Addr.mk n15 0 none) 0 [.int .i64 x18,.int .i64 x19]∧
      Calls prog 17 #[.agg #[.int .i64 x18,.int .i64 x19]] w17 fun e w20=> ∃r21,e= .returned (.bool r21)∧
      cnd (!r21)
      (∃x22p x22n x22c,w20.cell? ((Addr.mk n1 0 none).add 2)=some (.slice x22p x22n x22c)∧
        ixK x22p x22n v10 1 fun a23=>
        ∃x24,w20.cell? a23=some (.int .i64 x24)∧
        Calls prog 32 #[.slice d f g,.int .i64 x24] w20 fun e w25=> ∃r26,e= .returned (.int .i64 r26)∧
        ∀n27 w28,New (.cells #[.bool (decide (r26> (0:Int)))] 4) w25 n27 w28→
        ∃w29 r30p r30n r30c,(Builtin.append_ #[44,44] 44 #[.slice o9p o9n o9c,.slice (some (Addr.mk n27 0 none)) 1 1]).run prog w28= .ok (.slice r30p r30n r30c) w29∧
        ∃k8,k8<k7∧I6 r30p r30n r30c (i64.wrap (v10+ (1:Int))) w29 k8)
      (∃k8,k8<k7∧I6 o9p o9n o9c (i64.wrap (v10+ (1:Int))) w20 k8))
    (K (.slice o9p o9n o9c) w11)))
theorem tseitin_Ins.calls {a b c c_0 c1p c1n c1c c2p c2n c2c d f g w R} (h:tseitin_Ins.w a b c c_0 c1p c1n c1c c2p c2n c2c d f g w fun v w'=>R (.returned v) w'):Calls prog 11 #[.slice a b c,.agg #[.int .i64 c_0,.slice c1p c1n c1c,.slice c2p c2n c2c],.slice d f g] w R:=
 calls_of mixed Tryz.func11 (by kernel_rfl) rfl (ann:=(.two .leaf (.two .leaf (.two .leaf (.two (.two .leaf (.one (.loop [(7,44),(23,3)] .leaf))) .leaf))))) (F:=tseitin_Ins.w a b c c_0 c1p c1n c1c c2p c2n c2c d f g w) (fun K=>by kernel_rfl) h
def fathomref15_Is.w (a:Option Addr) (b:Nat) (c:Nat) (l_:Int) (w:World) (K:Value→World→Prop):Prop:=
 cnd (decide (l_≥(0:Int)))
 (K (.bool (decide (l_≤(i64.wrap ((i64.wrap ((2:Int)* (b:Int)))+ (1:Int)))))) w)
 (K (.bool false) w)
theorem fathomref15_Is.calls {a b c l_ w R} (h:fathomref15_Is.w a b c l_ w fun v w'=>R (.returned v) w'):Calls prog 12 #[.slice a b c,.int .i64 l_] w R:=
 calls_of mixed Tryz.func12 (by kernel_rfl) rfl (ann:= .leaf) (F:=fathomref15_Is.w a b c l_ w) (fun K=>by kernel_rfl) h
def fathomref15_May.w (a:Option Addr) (b:Nat) (c:Nat) (w:World) (K:Value→World→Prop):Prop:=
 ∃I1:Int→World→Nat→Prop,(∃k2,I1 0 w k2)∧
 ∀i_4 w5 k2 (_:Fr),I1 i_4 w5 k2→
 cnd (decide (i_4< (b:Int)))
  (ixK a b i_4 2 fun a6=>
    ∃x7,w5.cell? (a6.add 0)=some (.int .i64 x7)∧
    cnd (x7==(-1))
    (ixK a b i_4 2 fun a8=>
    ∃x9,w5.cell? (a8.add 1)=some (.int .i64 x9)∧
    cnd (!(x9==(-1)))
    (ixK a b i_4 2 fun a10=>
    ∃x11,w5.cell? (a10.add 0)=some (.int .i64 x11)∧
    cnd (decide (x11< (0:Int)))
    (K (.bool false) w5)
    (ixK a b i_4 2 fun a12=>
    ∃x13,w5.cell? (a12.add 1)=some (.int .i64 x13)∧
    cnd (decide (x13< (0:Int)))
    (K (.bool false) w5)
    (ixK a b i_4 2 fun a14=>
    ∃x15,w5.cell? (a14.add 0)=some (.int .i64 x15)∧
    cnd (decide (x15> (i64.wrap ((i64.wrap ((2:Int)*i_4))+ (1:Int)))))
    (K (.bool false) w5)
    (ixK a b i_4 2 fun a16=>
    ∃x17,w5.cell? (a16.add 1)=some (.int .i64 x17)∧
    cnd (decide (x17> (i64.wrap ((i64.wrap ((2:Int)*i_4))+ (1:Int)))))
    (K (.bool false) w5)
    (∃k3,k3<k2∧I1 (i64.wrap (i_4+ (1:Int))) w5 k3)))))
    (∃k3,k3<k2∧I1 (i64.wrap (i_4+ (1:Int))) w5 k3))
    (ixK a b i_4 2 fun a18=>
    ∃x19,w5.cell? (a18.add 0)=some (.int .i64 x19)∧
    cnd (decide (x19< (0:Int)))
    (K (.bool false) w5)
    (ixK a b i_4 2 fun a20=>
    ∃x21,w5.cell? (a20.add 1)=some (.int .i64 x21)∧
    cnd (decide (x21< (0:Int)))
    (K (.bool false) w5)
    (ixK a b i_4 2 fun a22=>
    ∃x23,w5.cell? (a22.add 0)=some (.int .i64 x23)∧
    cnd (decide (x23> (i64.wrap ((i64.wrap ((2:Int)*i_4))+ (1:Int)))))
    (K (.bool false) w5)
    (ixK a b i_4 2 fun a24=>
    ∃x25,w5.cell? (a24.add 1)=some (.int .i64 x25)∧
    cnd (decide (x25> (i64.wrap ((i64.wrap ((2:Int)*i_4))+ (1:Int)))))
    (K (.bool false) w5)
    (∃k3,k3<k2∧I1 (i64.wrap (i_4+ (1:Int))) w5 k3))))))
  (K (.bool (decide ((b:Int)≤(1048576:Int)))) w5)
theorem fathomref15_May.calls {a b c w R} (h:fathomref15_May.w a b c w fun v w'=>R (.returned v) w'):Calls prog 13 #[.slice a b c] w R:=
 calls_of mixed Tryz.func13 (by kernel_rfl) rfl (ann:=(.two .leaf (.two (.two .leaf (.one (.loop [(3,3)] .leaf))) .leaf))) (F:=fathomref15_May.w a b c w) (fun K=>by kernel_rfl) h
def tseitin_Code.w (c_0:Int) (c1p:Option Addr) (c1n:Nat) (c1c:Nat) (c2p:Option Addr) (c2n:Nat) (c2c:Nat) (l_:Int) (w:World) (K:Value→World→Prop):Prop:=
 ∀n1 w2,New (.cells #[.int .i64 c_0,.slice c1p c1n c1c,.slice c2p c2n c2c] 30) w n1 w2→
 cnd (decide (l_< (2:Int)))
 (K (.int .i64 0) w2)
 ((2:Int)≠0∧∃x3p x3n x3c,w2.cell? ((Addr.mk n1 0 none).add 2)=some (.slice x3p x3n x3c)∧
 cnd (decide ((i64.wrap (l_.tdiv (2:Int)))> (x3n:Int)))
 (K (.int .i64 0) w2)
 (∃x4p x4n x4c,w2.cell? ((Addr.mk n1 0 none).add 2)=some (.slice x4p x4n x4c)∧
   (2:Int)≠0∧ixK x4p x4n (i64.wrap ((i64.wrap (l_.tdiv (2:Int))) - (1:Int))) 1 fun a5=>
   ∃x6,w2.cell? a5=some (.int .i64 x6)∧
   (2:Int)≠0∧cnd ((l_.tmod (2:Int))==(1:Int))
   (K (.int .i64 (i64.wrap (0 - x6))) w2)
   (K (.int .i64 x6) w2)))
theorem tseitin_Code.calls {c_0 c1p c1n c1c c2p c2n c2c l_ w R} (h:tseitin_Code.w c_0 c1p c1n c1c c2p c2n c2c l_ w fun v w'=>R (.returned v) w'):Calls prog 14 #[.agg #[.int .i64 c_0,.slice c1p c1n c1c,.slice c2p c2n c2c],.int .i64 l_] w R:=
 calls_of mixed Tryz.func14 (by kernel_rfl) rfl (ann:= .leaf) (F:=tseitin_Code.w c_0 c1p c1n c1c c2p c2n c2c l_ w) (fun K=>by kernel_rfl) h
def tseitin_may.w (a:Option Addr) (b:Nat) (c:Nat) (d:Option Addr) (f:Nat) (g:Nat) (w:World) (K:Value→World→Prop):Prop:=
 ∀n1 w2,New (.cells #[.slice a b c] 22) w n1 w2→
 ∃x3p x3n x3c,w2.cell? (Addr.mk n1 0 none)=some (.slice x3p x3n x3c)∧
 Calls prog 31 #[.slice x3p x3n x3c] w2 fun e w4=> ∃r5,e= .returned (.int .i64 r5)∧
 cnd (r5 !=(0:Int))
 (K (.bool false) w4)
 (∃I6:Int→World→Nat→Prop,(∃k7,I6 0 w4 k7)∧
   ∀v9 w10 k7 (_:Fr),I6 v9 w10 k7→
   cnd (decide (v9< (f:Int)))
    (ixK d f v9 1 fun a11=>
      ∃x12p x12n x12c,w10.cell? a11=some (.slice x12p x12n x12c)∧
      cnd (decide ((x12n:Int)> (4096:Int)))
      (K (.bool false) w10)
      (Calls prog 33 #[.slice x12p x12n x12c,.func (.func 34) #[] #[.pointer (some (Addr.mk n1 0 none))]] w10 fun e w13=> ∃r14,e= .returned (.bool r14)∧
      cnd r14
      (K (.bool false) w13)
      (∃k8,k8<k7∧I6 (i64.wrap (v9+ (1:Int))) w13 k8)))
    (K (.bool true) w10))
theorem tseitin_may.calls {a b c d f g w R} (h:tseitin_may.w a b c d f g w fun v w'=>R (.returned v) w'):Calls prog 15 #[.slice a b c,.slice d f g] w R:=
 calls_of mixed Tryz.func15 (by kernel_rfl) rfl (ann:=(.two .leaf (.two .leaf (.two (.two .leaf (.one (.loop [(12,3)] .leaf))) .leaf)))) (F:=tseitin_may.w a b c d f g w) (fun K=>by kernel_rfl) h
def tseitin_cone.w (a:Option Addr) (b:Nat) (c:Nat) (d:Option Addr) (f:Nat) (g:Nat) (w:World) (K:Value→World→Prop):Prop:=
 ∃w1 r2p r2n r2c,(Instr.makeSlice 44 (.int .i64 (i64.wrap ((b:Int)+ (1:Int)))) (.int .i64 (i64.wrap ((b:Int)+ (1:Int))))).run prog w= .ok (.slice r2p r2n r2c) w1∧
 ∃I3:Int→World→Nat→Prop,(∃k4,I3 0 w1 k4)∧
 ∀v6 w7 k4 (_:Fr),I3 v6 w7 k4→
 cnd (decide (v6< (f:Int)))
  (ixK d f v6 1 fun a8=>
    ∃x9p x9n x9c,w7.cell? a8=some (.slice x9p x9n x9c)∧
    ∃I10:Int→World→Nat→Prop,(∃k11,I10 0 w7 k11)∧
    ∀v13 w14 k11 (_:Fr),I10 v13 w14 k11→
    cnd (decide (v13< (x9n:Int)))
     (ixK x9p x9n v13 1 fun a15=>
       ∃x16,w14.cell? a15=some (.int .i64 x16)∧
       (2:Int)≠0∧ixK r2p r2n (i64.wrap (x16.tdiv (2:Int))) 1 fun a17=>
       ∃w18,StoreAt a17 0 [.bool true] w14 w18∧
       ∃k12,k12<k11∧I10 (i64.wrap (v13+ (1:Int))) w18 k12)
     (∃k5,k5<k4∧I3 (i64.wrap (v6+ (1:Int))) w14 k5))
  (∃I19:Int→World→Nat→Prop,(∃k20,I19 (b:Int) w7 k20)∧
    ∀i_22 w23 k20 (_:Fr),I19 i_22 w23 k20→
    cnd (decide (i_22≥(1:Int)))
     (ixK a b (i64.wrap (i_22 - (1:Int))) 2 fun a24=>
       ∃x25 x26,CellsAt w23 a24 0 [.int .i64 x25,.int .i64 x26]∧
       ∀n27 w28,New (.cells #[.int .i64 0,.int .i64 0] 43) w23 n27 w28→
       ∃w29,StoreAt (Addr.mk n27 0 none) 0 [.int .i64 x25,.int .i64 x26] w28 w29∧
       ixK r2p r2n i_22 1 fun a30=>
       ∃x31,w29.cell? a30=some (.bool x31)∧
       cnd x31
       (∃x32 x33,CellsAt w29 (Addr.mk n27 0 none) 0 [.int .i64 x32,.int .i64 x33]∧
       Calls prog 17 #[.agg #[.int .i64 x32,.int .i64 x33]] w29 fun e w34=> ∃r35,e= .returned (.bool r35)∧
       cnd r35
       (∃x36,w34.drew.cell? ((Addr.mk n27 0 none).add 0)=some (.int .i64 x36)∧
         (2:Int)≠0∧ixK r2p r2n (i64.wrap (x36.tdiv (2:Int))) 1 fun a37=>
         (∃x38,w34.drew.cell? ((Addr.mk n27 0 none).add 1)=some (.int .i64 x38)∧
         (2:Int)≠0∧∃w39,StoreAt a37 0 [.bool true] w34.drew w39∧
         ixK r2p r2n (i64.wrap (x38.tdiv (2:Int))) 1 fun a40=>
         ∃w41,StoreAt a40 0 [.bool true] w39 w41∧
         ∃k21,k21<k20∧I19 (i64.wrap (i_22 - (1:Int))) w41 k21)∧
       (∃w42,StoreAt a37 0 [.bool true] w34.drew w42∧
         ∃x43,w42.cell? ((Addr.mk n27 0 none).add 1)=some (.int .i64 x43)∧
         (2:Int)≠0∧ixK r2p r2n (i64.wrap (x43.tdiv (2:Int))) 1 fun a44=>
         ∃w45,StoreAt a44 0 [.bool true] w42 w45∧
         ∃k21,k21<k20∧I19 (i64.wrap (i_22 - (1:Int))) w45 k21))
       (∃k21,k21<k20∧I19 (i64.wrap (i_22 - (1:Int))) w34 k21))
       (∃k21,k21<k20∧I19 (i64.wrap (i_22 - (1:Int))) w29 k21))
     (K (.slice r2p r2n r2c) w23))
theorem tseitin_cone.calls {a b c d f g w R} (h:tseitin_cone.w a b c d f g w fun v w'=>R (.returned v) w'):Calls prog 16 #[.slice a b c,.slice d f g] w R:=
 calls_of mixed Tryz.func16 (by kernel_rfl) rfl (ann:=(.two .leaf (.two .leaf (.two (.two .leaf (.one (.loop [(18,3)] (.two .leaf (.two .leaf (.two (.one (.two .leaf (.two .leaf (.one (.loop [(24,3)] .leaf))))) .leaf)))))) (.two (.two .leaf (.one (.loop [(10,3)] .leaf))) .leaf))))) (F:=tseitin_cone.w a b c d f g w) (fun K=>by kernel_rfl) h
def tseitin_and.w (n_0:Int) (n_1:Int) (w:World) (K:Value→World→Prop):Prop:=
 ∀n1 w2,New (.cells #[.int .i64 n_0,.int .i64 n_1] 43) w n1 w2→
 ∃x3,w2.cell? ((Addr.mk n1 0 none).add 0)=some (.int .i64 x3)∧
 K (.bool (decide (x3≥(0:Int)))) w2
theorem tseitin_and.calls {n_0 n_1 w R} (h:tseitin_and.w n_0 n_1 w fun v w'=>R (.returned v) w'):Calls prog 17 #[.agg #[.int .i64 n_0,.int .i64 n_1]] w R:=
 calls_of mixed Tryz.func17 (by kernel_rfl) rfl (ann:= .leaf) (F:=tseitin_and.w n_0 n_1 w) (fun K=>by kernel_rfl) h
def tseitin_builder_add.w (b_:Option Addr) (a:Option Addr) (b:Nat) (c:Nat) (w:World) (K:Value→World→Prop):Prop:=
 ∃I1:Option Addr→Nat→Nat→Int→World→Nat→Prop,(∃k2,I1 none 0 0 0 w k2)∧
 ∀c4p c4n c4c v5 w6 k2 (_:Fr),I1 c4p c4n c4c v5 w6 k2→
 cnd (decide (v5< (b:Int)))
  (ixK a b v5 1 fun a7=>
    ∃x8,w6.cell? a7=some (.int .i64 x8)∧
    cnd (x8==(1:Int))
    (K (.tuple #[]) w6)
    (cnd (x8==(0:Int))
      (∃k3,k3<k2∧I1 c4p c4n c4c (i64.wrap (v5+ (1:Int))) w6 k3)
      (∃a9,b_=some a9∧∃x10 x11p x11n x11c x12p x12n x12c,CellsAt w6 (a9.add 0) 0 [.int .i64 x10,.slice x11p x11n x11c,.slice x12p x12n x12c]∧
        Calls prog 14 #[.agg #[.int .i64 x10,.slice x11p x11n x11c,.slice x12p x12n x12c],.int .i64 x8] w6 fun e w13=> ∃r14,e= .returned (.int .i64 r14)∧
        ∀n15 w16,New (.cells #[.int .i64 r14] 3) w13 n15 w16→
        ∃w17 r18p r18n r18c,(Builtin.append_ #[28,28] 28 #[.slice c4p c4n c4c,.slice (some (Addr.mk n15 0 none)) 1 1]).run prog w16= .ok (.slice r18p r18n r18c) w17∧
        ∃k3,k3<k2∧I1 r18p r18n r18c (i64.wrap (v5+ (1:Int))) w17 k3)))
  (∃a19,b_=some a19∧∃x20p x20n x20c,w6.cell? (((a19.add 0).add 0).add 1)=some (.slice x20p x20n x20c)∧
    ∀n21 w22,New (.cells #[.slice c4p c4n c4c] 28) w6 n21 w22→
    ∃w23 r24p r24n r24c,(Builtin.append_ #[23,23] 23 #[.slice x20p x20n x20c,.slice (some (Addr.mk n21 0 none)) 1 1]).run prog w22= .ok (.slice r24p r24n r24c) w23∧
    ∃a25,b_=some a25∧∃w26,StoreAt (((a25.add 0).add 0).add 1) 0 [.slice r24p r24n r24c] w23 w26∧
    K (.tuple #[]) w26)
theorem tseitin_builder_add.calls {b_ a b c w R} (h:tseitin_builder_add.w b_ a b c w fun v w'=>R (.returned v) w'):Calls prog 18 #[.pointer b_,.slice a b c] w R:=
 calls_of mixed Tryz.func18 (by kernel_rfl) rfl (ann:=(.two .leaf (.two (.two .leaf (.one (.loop [(4,28),(9,3)] .leaf))) .leaf))) (F:=tseitin_builder_add.w b_ a b c w) (fun K=>by kernel_rfl) h
def lit_CheckCnf.w (f_0:Int) (f1p:Option Addr) (f1n:Nat) (f1c:Nat) (w:World) (K:Value→World→Prop):Prop:=
 ∀n1 w2,New (.cells #[.int .i64 f_0,.slice f1p f1n f1c] 27) w n1 w2→
 ∃x3,w2.cell? ((Addr.mk n1 0 none).add 0)=some (.int .i64 x3)∧
 cnd (decide (x3< (0:Int)))
 (K (.int .i64 1) w2)
 (∃x4,w2.cell? ((Addr.mk n1 0 none).add 0)=some (.int .i64 x4)∧
 cnd (decide (x4> (1048576:Int)))
 (K (.int .i64 1) w2)
 (∃x5p x5n x5c,w2.cell? ((Addr.mk n1 0 none).add 1)=some (.slice x5p x5n x5c)∧
 cnd (decide ((x5n:Int)> (262144:Int)))
 (K (.int .i64 1) w2)
 (∃x6p x6n x6c,w2.cell? ((Addr.mk n1 0 none).add 1)=some (.slice x6p x6n x6c)∧
   ∃I7:Int→World→Nat→Prop,(∃k8,I7 0 w2 k8)∧
   ∀v10 w11 k8 (_:Fr),I7 v10 w11 k8→
   cnd (decide (v10< (x6n:Int)))
    (ixK x6p x6n v10 1 fun a12=>
      ∃x13p x13n x13c,w11.cell? a12=some (.slice x13p x13n x13c)∧
      Calls prog 35 #[.slice x13p x13n x13c] w11 fun e w14=> ∃r15,e= .returned (.int .i64 r15)∧
      cnd (r15 !=(0:Int))
      (K (.int .i64 1) w14)
      (Calls prog 33 #[.slice x13p x13n x13c,.func (.func 36) #[] #[.pointer (some (Addr.mk n1 0 none))]] w14 fun e w16=> ∃r17,e= .returned (.bool r17)∧
      cnd r17
      (K (.int .i64 1) w16)
      (∃k9,k9<k8∧I7 (i64.wrap (v10+ (1:Int))) w16 k9)))
    (K (.int .i64 0) w11))))
theorem lit_CheckCnf.calls {f_0 f1p f1n f1c w R} (h:lit_CheckCnf.w f_0 f1p f1n f1c w fun v w'=>R (.returned v) w'):Calls prog 19 #[.agg #[.int .i64 f_0,.slice f1p f1n f1c]] w R:=
 calls_of mixed Tryz.func19 (by kernel_rfl) rfl (ann:=(.two .leaf (.two .leaf (.two (.two .leaf (.one (.loop [(22,3)] .leaf))) .leaf)))) (F:=lit_CheckCnf.w f_0 f1p f1n f1c w) (fun K=>by kernel_rfl) h
def cdcl_Check.w (s_0:Int) (s_1:Int) (s_2:Int) (w:World) (K:Value→World→Prop):Prop:=
 ∀n1 w2,New (.cells #[.int .i64 s_0,.int .i64 s_1,.int .i64 s_2] 40) w n1 w2→
 ∃x3,w2.cell? ((Addr.mk n1 0 none).add 1)=some (.int .i64 x3)∧
 cnd (decide (x3< (1:Int)))
 (K (.int .i64 1) w2)
 (∃x4,w2.cell? ((Addr.mk n1 0 none).add 1)=some (.int .i64 x4)∧
 cnd (decide (x4> (1048576:Int)))
 (K (.int .i64 1) w2)
 (∃x5,w2.cell? ((Addr.mk n1 0 none).add 2)=some (.int .i64 x5)∧
 cnd (decide (x5< (1:Int)))
 (K (.int .i64 1) w2)
 (∃x6,w2.cell? ((Addr.mk n1 0 none).add 2)=some (.int .i64 x6)∧
 cnd (decide (x6> (1048576:Int)))
 (K (.int .i64 1) w2)
 (K (.int .i64 0) w2))))
theorem cdcl_Check.calls {s_0 s_1 s_2 w R} (h:cdcl_Check.w s_0 s_1 s_2 w fun v w'=>R (.returned v) w'):Calls prog 20 #[.agg #[.int .i64 s_0,.int .i64 s_1,.int .i64 s_2]] w R:=
 calls_of mixed Tryz.func20 (by kernel_rfl) rfl (ann:= .leaf) (F:=cdcl_Check.w s_0 s_1 s_2 w) (fun K=>by kernel_rfl) h
def prop_New.w (f_0:Int) (f1p:Option Addr) (f1n:Nat) (f1c:Nat) (w:World) (K:Value→World→Prop):Prop:=
 ∀n1 w2,New (.cells #[.int .i64 f_0,.slice f1p f1n f1c] 27) w n1 w2→
 ∃x3 x4p x4n x4c,CellsAt w2 (Addr.mk n1 0 none) 0 [.int .i64 x3,.slice x4p x4n x4c]∧
 Calls prog 19 #[.agg #[.int .i64 x3,.slice x4p x4n x4c]] w2 fun e w5=> ∃r6,e= .returned (.int .i64 r6)∧
 cnd (r6 !=(0:Int))
 (K (.tuple #[.pointer none,.int .i64 1]) w5)
 (∃x7,w5.cell? ((Addr.mk n1 0 none).add 0)=some (.int .i64 x7)∧
   ∃J8:Addr→World→Prop,(∃W9:World→Prop,W9 w5.drew∧
   ∃x10,AtW W9 ((Addr.mk n1 0 none).add 0) (.int .i64 x10)∧
   (∃w11 r12p r12n r12c,(Instr.makeSlice 23 (.int .i64 (i64.wrap ((2:Int)* (i64.wrap (x7+ (1:Int)))))) (.int .i64 (i64.wrap ((2:Int)* (i64.wrap (x7+ (1:Int))))))).run prog w5.drew= .ok (.slice r12p r12n r12c) w11∧
   W9 w11∧(∃w13 r14p r14n r14c,(Instr.makeSlice 83 (.int .i64 (i64.wrap (x7+ (1:Int)))) (.int .i64 (i64.wrap (x7+ (1:Int))))).run prog w11= .ok (.slice r14p r14n r14c) w13∧
   W9 w13∧(∃w15 r16p r16n r16c,(Instr.makeSlice 28 (.int .i64 (i64.wrap (x7+ (1:Int)))) (.int .i64 (i64.wrap (x7+ (1:Int))))).run prog w13= .ok (.slice r16p r16n r16c) w15∧
   W9 w15∧∃w17 r18p r18n r18c,(Instr.makeSlice 28 (.int .i64 (i64.wrap (x7+ (1:Int)))) (.int .i64 (i64.wrap (x7+ (1:Int))))).run prog w15= .ok (.slice r18p r18n r18c) w17∧
   W9 w17∧∀n19 w20,New (.cells #[.int .i64 x10,.slice none 0 0,.slice r12p r12n r12c,.slice r14p r14n r14c,.slice r16p r16n r16c,.slice r18p r18n r18c,.slice none 0 0,.slice none 0 0,.slice none 0 0,.int .i64 0,.slice none 0 0] 86) w17 n19 w20→
   J8 (Addr.mk n19 0 none) w20)∧
 (∃w21 r22p r22n r22c,(Instr.makeSlice 28 (.int .i64 (i64.wrap (x7+ (1:Int)))) (.int .i64 (i64.wrap (x7+ (1:Int))))).run prog w13= .ok (.slice r22p r22n r22c) w21∧
   W9 w21∧∃w23 r24p r24n r24c,(Instr.makeSlice 28 (.int .i64 (i64.wrap (x7+ (1:Int)))) (.int .i64 (i64.wrap (x7+ (1:Int))))).run prog w21= .ok (.slice r24p r24n r24c) w23∧
   W9 w23∧∀n25 w26,New (.cells #[.int .i64 x10,.slice none 0 0,.slice r12p r12n r12c,.slice r14p r14n r14c,.slice r24p r24n r24c,.slice r22p r22n r22c,.slice none 0 0,.slice none 0 0,.slice none 0 0,.int .i64 0,.slice none 0 0] 86) w23 n25 w26→
   J8 (Addr.mk n25 0 none) w26))∧
 (∃w27 r28p r28n r28c,(Instr.makeSlice 28 (.int .i64 (i64.wrap (x7+ (1:Int)))) (.int .i64 (i64.wrap (x7+ (1:Int))))).run prog w11= .ok (.slice r28p r28n r28c) w27∧
   W9 w27∧(∃w29 r30p r30n r30c,(Instr.makeSlice 83 (.int .i64 (i64.wrap (x7+ (1:Int)))) (.int .i64 (i64.wrap (x7+ (1:Int))))).run prog w27= .ok (.slice r30p r30n r30c) w29∧
   W9 w29∧∃w31 r32p r32n r32c,(Instr.makeSlice 28 (.int .i64 (i64.wrap (x7+ (1:Int)))) (.int .i64 (i64.wrap (x7+ (1:Int))))).run prog w29= .ok (.slice r32p r32n r32c) w31∧
   W9 w31∧∀n33 w34,New (.cells #[.int .i64 x10,.slice none 0 0,.slice r12p r12n r12c,.slice r30p r30n r30c,.slice r28p r28n r28c,.slice r32p r32n r32c,.slice none 0 0,.slice none 0 0,.slice none 0 0,.int .i64 0,.slice none 0 0] 86) w31 n33 w34→
   J8 (Addr.mk n33 0 none) w34)∧
 (∃w35 r36p r36n r36c,(Instr.makeSlice 28 (.int .i64 (i64.wrap (x7+ (1:Int)))) (.int .i64 (i64.wrap (x7+ (1:Int))))).run prog w27= .ok (.slice r36p r36n r36c) w35∧
   W9 w35∧∃w37 r38p r38n r38c,(Instr.makeSlice 83 (.int .i64 (i64.wrap (x7+ (1:Int)))) (.int .i64 (i64.wrap (x7+ (1:Int))))).run prog w35= .ok (.slice r38p r38n r38c) w37∧
   W9 w37∧∀n39 w40,New (.cells #[.int .i64 x10,.slice none 0 0,.slice r12p r12n r12c,.slice r38p r38n r38c,.slice r28p r28n r28c,.slice r36p r36n r36c,.slice none 0 0,.slice none 0 0,.slice none 0 0,.int .i64 0,.slice none 0 0] 86) w37 n39 w40→
   J8 (Addr.mk n39 0 none) w40))∧
 (∃w41 r42p r42n r42c,(Instr.makeSlice 28 (.int .i64 (i64.wrap (x7+ (1:Int)))) (.int .i64 (i64.wrap (x7+ (1:Int))))).run prog w11= .ok (.slice r42p r42n r42c) w41∧
   W9 w41∧(∃w43 r44p r44n r44c,(Instr.makeSlice 83 (.int .i64 (i64.wrap (x7+ (1:Int)))) (.int .i64 (i64.wrap (x7+ (1:Int))))).run prog w41= .ok (.slice r44p r44n r44c) w43∧
   W9 w43∧∃w45 r46p r46n r46c,(Instr.makeSlice 28 (.int .i64 (i64.wrap (x7+ (1:Int)))) (.int .i64 (i64.wrap (x7+ (1:Int))))).run prog w43= .ok (.slice r46p r46n r46c) w45∧
   W9 w45∧∀n47 w48,New (.cells #[.int .i64 x10,.slice none 0 0,.slice r12p r12n r12c,.slice r44p r44n r44c,.slice r46p r46n r46c,.slice r42p r42n r42c,.slice none 0 0,.slice none 0 0,.slice none 0 0,.int .i64 0,.slice none 0 0] 86) w45 n47 w48→
   J8 (Addr.mk n47 0 none) w48)∧
 (∃w49 r50p r50n r50c,(Instr.makeSlice 28 (.int .i64 (i64.wrap (x7+ (1:Int)))) (.int .i64 (i64.wrap (x7+ (1:Int))))).run prog w41= .ok (.slice r50p r50n r50c) w49∧
   W9 w49∧∃w51 r52p r52n r52c,(Instr.makeSlice 83 (.int .i64 (i64.wrap (x7+ (1:Int)))) (.int .i64 (i64.wrap (x7+ (1:Int))))).run prog w49= .ok (.slice r52p r52n r52c) w51∧
   W9 w51∧∀n53 w54,New (.cells #[.int .i64 x10,.slice none 0 0,.slice r12p r12n r12c,.slice r52p r52n r52c,.slice r50p r50n r50c,.slice r42p r42n r42c,.slice none 0 0,.slice none 0 0,.slice none 0 0,.int .i64 0,.slice none 0 0] 86) w51 n53 w54→
   J8 (Addr.mk n53 0 none) w54)))∧
 (∃w55 r56p r56n r56c,(Instr.makeSlice 83 (.int .i64 (i64.wrap (x7+ (1:Int)))) (.int .i64 (i64.wrap (x7+ (1:Int))))).run prog w5.drew= .ok (.slice r56p r56n r56c) w55∧
   W9 w55∧(∃w57 r58p r58n r58c,(Instr.makeSlice 23 (.int .i64 (i64.wrap ((2:Int)* (i64.wrap (x7+ (1:Int)))))) (.int .i64 (i64.wrap ((2:Int)* (i64.wrap (x7+ (1:Int))))))).run prog w55= .ok (.slice r58p r58n r58c) w57∧
   W9 w57∧(∃w59 r60p r60n r60c,(Instr.makeSlice 28 (.int .i64 (i64.wrap (x7+ (1:Int)))) (.int .i64 (i64.wrap (x7+ (1:Int))))).run prog w57= .ok (.slice r60p r60n r60c) w59∧
   W9 w59∧∃w61 r62p r62n r62c,(Instr.makeSlice 28 (.int .i64 (i64.wrap (x7+ (1:Int)))) (.int .i64 (i64.wrap (x7+ (1:Int))))).run prog w59= .ok (.slice r62p r62n r62c) w61∧
   W9 w61∧∀n63 w64,New (.cells #[.int .i64 x10,.slice none 0 0,.slice r58p r58n r58c,.slice r56p r56n r56c,.slice r60p r60n r60c,.slice r62p r62n r62c,.slice none 0 0,.slice none 0 0,.slice none 0 0,.int .i64 0,.slice none 0 0] 86) w61 n63 w64→
   J8 (Addr.mk n63 0 none) w64)∧
 (∃w65 r66p r66n r66c,(Instr.makeSlice 28 (.int .i64 (i64.wrap (x7+ (1:Int)))) (.int .i64 (i64.wrap (x7+ (1:Int))))).run prog w57= .ok (.slice r66p r66n r66c) w65∧
   W9 w65∧∃w67 r68p r68n r68c,(Instr.makeSlice 28 (.int .i64 (i64.wrap (x7+ (1:Int)))) (.int .i64 (i64.wrap (x7+ (1:Int))))).run prog w65= .ok (.slice r68p r68n r68c) w67∧
   W9 w67∧∀n69 w70,New (.cells #[.int .i64 x10,.slice none 0 0,.slice r58p r58n r58c,.slice r56p r56n r56c,.slice r68p r68n r68c,.slice r66p r66n r66c,.slice none 0 0,.slice none 0 0,.slice none 0 0,.int .i64 0,.slice none 0 0] 86) w67 n69 w70→
   J8 (Addr.mk n69 0 none) w70))∧
 (∃w71 r72p r72n r72c,(Instr.makeSlice 28 (.int .i64 (i64.wrap (x7+ (1:Int)))) (.int .i64 (i64.wrap (x7+ (1:Int))))).run prog w55= .ok (.slice r72p r72n r72c) w71∧
   W9 w71∧(∃w73 r74p r74n r74c,(Instr.makeSlice 23 (.int .i64 (i64.wrap ((2:Int)* (i64.wrap (x7+ (1:Int)))))) (.int .i64 (i64.wrap ((2:Int)* (i64.wrap (x7+ (1:Int))))))).run prog w71= .ok (.slice r74p r74n r74c) w73∧
   W9 w73∧∃w75 r76p r76n r76c,(Instr.makeSlice 28 (.int .i64 (i64.wrap (x7+ (1:Int)))) (.int .i64 (i64.wrap (x7+ (1:Int))))).run prog w73= .ok (.slice r76p r76n r76c) w75∧
   W9 w75∧∀n77 w78,New (.cells #[.int .i64 x10,.slice none 0 0,.slice r74p r74n r74c,.slice r56p r56n r56c,.slice r72p r72n r72c,.slice r76p r76n r76c,.slice none 0 0,.slice none 0 0,.slice none 0 0,.int .i64 0,.slice none 0 0] 86) w75 n77 w78→
   J8 (Addr.mk n77 0 none) w78)∧
 (∃w79 r80p r80n r80c,(Instr.makeSlice 28 (.int .i64 (i64.wrap (x7+ (1:Int)))) (.int .i64 (i64.wrap (x7+ (1:Int))))).run prog w71= .ok (.slice r80p r80n r80c) w79∧
   W9 w79∧∃w81 r82p r82n r82c,(Instr.makeSlice 23 (.int .i64 (i64.wrap ((2:Int)* (i64.wrap (x7+ (1:Int)))))) (.int .i64 (i64.wrap ((2:Int)* (i64.wrap (x7+ (1:Int))))))).run prog w79= .ok (.slice r82p r82n r82c) w81∧
   W9 w81∧∀n83 w84,New (.cells #[.int .i64 x10,.slice none 0 0,.slice r82p r82n r82c,.slice r56p r56n r56c,.slice r72p r72n r72c,.slice r80p r80n r80c,.slice none 0 0,.slice none 0 0,.slice none 0 0,.int .i64 0,.slice none 0 0] 86) w81 n83 w84→
   J8 (Addr.mk n83 0 none) w84))∧
 (∃w85 r86p r86n r86c,(Instr.makeSlice 28 (.int .i64 (i64.wrap (x7+ (1:Int)))) (.int .i64 (i64.wrap (x7+ (1:Int))))).run prog w55= .ok (.slice r86p r86n r86c) w85∧
   W9 w85∧(∃w87 r88p r88n r88c,(Instr.makeSlice 23 (.int .i64 (i64.wrap ((2:Int)* (i64.wrap (x7+ (1:Int)))))) (.int .i64 (i64.wrap ((2:Int)* (i64.wrap (x7+ (1:Int))))))).run prog w85= .ok (.slice r88p r88n r88c) w87∧
   W9 w87∧∃w89 r90p r90n r90c,(Instr.makeSlice 28 (.int .i64 (i64.wrap (x7+ (1:Int)))) (.int .i64 (i64.wrap (x7+ (1:Int))))).run prog w87= .ok (.slice r90p r90n r90c) w89∧
   W9 w89∧∀n91 w92,New (.cells #[.int .i64 x10,.slice none 0 0,.slice r88p r88n r88c,.slice r56p r56n r56c,.slice r90p r90n r90c,.slice r86p r86n r86c,.slice none 0 0,.slice none 0 0,.slice none 0 0,.int .i64 0,.slice none 0 0] 86) w89 n91 w92→
   J8 (Addr.mk n91 0 none) w92)∧
 (∃w93 r94p r94n r94c,(Instr.makeSlice 28 (.int .i64 (i64.wrap (x7+ (1:Int)))) (.int .i64 (i64.wrap (x7+ (1:Int))))).run prog w85= .ok (.slice r94p r94n r94c) w93∧
   W9 w93∧∃w95 r96p r96n r96c,(Instr.makeSlice 23 (.int .i64 (i64.wrap ((2:Int)* (i64.wrap (x7+ (1:Int)))))) (.int .i64 (i64.wrap ((2:Int)* (i64.wrap (x7+ (1:Int))))))).run prog w93= .ok (.slice r96p r96n r96c) w95∧
   W9 w95∧∀n97 w98,New (.cells #[.int .i64 x10,.slice none 0 0,.slice r96p r96n r96c,.slice r56p r56n r56c,.slice r94p r94n r94c,.slice r86p r86n r86c,.slice none 0 0,.slice none 0 0,.slice none 0 0,.int .i64 0,.slice none 0 0] 86) w95 n97 w98→
   J8 (Addr.mk n97 0 none) w98)))∧
 (∃w99 r100p r100n r100c,(Instr.makeSlice 28 (.int .i64 (i64.wrap (x7+ (1:Int)))) (.int .i64 (i64.wrap (x7+ (1:Int))))).run prog w5.drew= .ok (.slice r100p r100n r100c) w99∧
   W9 w99∧(∃w101 r102p r102n r102c,(Instr.makeSlice 23 (.int .i64 (i64.wrap ((2:Int)* (i64.wrap (x7+ (1:Int)))))) (.int .i64 (i64.wrap ((2:Int)* (i64.wrap (x7+ (1:Int))))))).run prog w99= .ok (.slice r102p r102n r102c) w101∧
   W9 w101∧(∃w103 r104p r104n r104c,(Instr.makeSlice 83 (.int .i64 (i64.wrap (x7+ (1:Int)))) (.int .i64 (i64.wrap (x7+ (1:Int))))).run prog w101= .ok (.slice r104p r104n r104c) w103∧
   W9 w103∧∃w105 r106p r106n r106c,(Instr.makeSlice 28 (.int .i64 (i64.wrap (x7+ (1:Int)))) (.int .i64 (i64.wrap (x7+ (1:Int))))).run prog w103= .ok (.slice r106p r106n r106c) w105∧
   W9 w105∧∀n107 w108,New (.cells #[.int .i64 x10,.slice none 0 0,.slice r102p r102n r102c,.slice r104p r104n r104c,.slice r100p r100n r100c,.slice r106p r106n r106c,.slice none 0 0,.slice none 0 0,.slice none 0 0,.int .i64 0,.slice none 0 0] 86) w105 n107 w108→
   J8 (Addr.mk n107 0 none) w108)∧
 (∃w109 r110p r110n r110c,(Instr.makeSlice 28 (.int .i64 (i64.wrap (x7+ (1:Int)))) (.int .i64 (i64.wrap (x7+ (1:Int))))).run prog w101= .ok (.slice r110p r110n r110c) w109∧
   W9 w109∧∃w111 r112p r112n r112c,(Instr.makeSlice 83 (.int .i64 (i64.wrap (x7+ (1:Int)))) (.int .i64 (i64.wrap (x7+ (1:Int))))).run prog w109= .ok (.slice r112p r112n r112c) w111∧
   W9 w111∧∀n113 w114,New (.cells #[.int .i64 x10,.slice none 0 0,.slice r102p r102n r102c,.slice r112p r112n r112c,.slice r100p r100n r100c,.slice r110p r110n r110c,.slice none 0 0,.slice none 0 0,.slice none 0 0,.int .i64 0,.slice none 0 0] 86) w111 n113 w114→
   J8 (Addr.mk n113 0 none) w114))∧
 (∃w115 r116p r116n r116c,(Instr.makeSlice 83 (.int .i64 (i64.wrap (x7+ (1:Int)))) (.int .i64 (i64.wrap (x7+ (1:Int))))).run prog w99= .ok (.slice r116p r116n r116c) w115∧
   W9 w115∧(∃w117 r118p r118n r118c,(Instr.makeSlice 23 (.int .i64 (i64.wrap ((2:Int)* (i64.wrap (x7+ (1:Int)))))) (.int .i64 (i64.wrap ((2:Int)* (i64.wrap (x7+ (1:Int))))))).run prog w115= .ok (.slice r118p r118n r118c) w117∧
   W9 w117∧∃w119 r120p r120n r120c,(Instr.makeSlice 28 (.int .i64 (i64.wrap (x7+ (1:Int)))) (.int .i64 (i64.wrap (x7+ (1:Int))))).run prog w117= .ok (.slice r120p r120n r120c) w119∧
   W9 w119∧∀n121 w122,New (.cells #[.int .i64 x10,.slice none 0 0,.slice r118p r118n r118c,.slice r116p r116n r116c,.slice r100p r100n r100c,.slice r120p r120n r120c,.slice none 0 0,.slice none 0 0,.slice none 0 0,.int .i64 0,.slice none 0 0] 86) w119 n121 w122→
   J8 (Addr.mk n121 0 none) w122)∧
 (∃w123 r124p r124n r124c,(Instr.makeSlice 28 (.int .i64 (i64.wrap (x7+ (1:Int)))) (.int .i64 (i64.wrap (x7+ (1:Int))))).run prog w115= .ok (.slice r124p r124n r124c) w123∧
   W9 w123∧∃w125 r126p r126n r126c,(Instr.makeSlice 23 (.int .i64 (i64.wrap ((2:Int)* (i64.wrap (x7+ (1:Int)))))) (.int .i64 (i64.wrap ((2:Int)* (i64.wrap (x7+ (1:Int))))))).run prog w123= .ok (.slice r126p r126n r126c) w125∧
   W9 w125∧∀n127 w128,New (.cells #[.int .i64 x10,.slice none 0 0,.slice r126p r126n r126c,.slice r116p r116n r116c,.slice r100p r100n r100c,.slice r124p r124n r124c,.slice none 0 0,.slice none 0 0,.slice none 0 0,.int .i64 0,.slice none 0 0] 86) w125 n127 w128→
   J8 (Addr.mk n127 0 none) w128))∧
 (∃w129 r130p r130n r130c,(Instr.makeSlice 28 (.int .i64 (i64.wrap (x7+ (1:Int)))) (.int .i64 (i64.wrap (x7+ (1:Int))))).run prog w99= .ok (.slice r130p r130n r130c) w129∧
   W9 w129∧(∃w131 r132p r132n r132c,(Instr.makeSlice 23 (.int .i64 (i64.wrap ((2:Int)* (i64.wrap (x7+ (1:Int)))))) (.int .i64 (i64.wrap ((2:Int)* (i64.wrap (x7+ (1:Int))))))).run prog w129= .ok (.slice r132p r132n r132c) w131∧
   W9 w131∧∃w133 r134p r134n r134c,(Instr.makeSlice 83 (.int .i64 (i64.wrap (x7+ (1:Int)))) (.int .i64 (i64.wrap (x7+ (1:Int))))).run prog w131= .ok (.slice r134p r134n r134c) w133∧
   W9 w133∧∀n135 w136,New (.cells #[.int .i64 x10,.slice none 0 0,.slice r132p r132n r132c,.slice r134p r134n r134c,.slice r100p r100n r100c,.slice r130p r130n r130c,.slice none 0 0,.slice none 0 0,.slice none 0 0,.int .i64 0,.slice none 0 0] 86) w133 n135 w136→
   J8 (Addr.mk n135 0 none) w136)∧
 (∃w137 r138p r138n r138c,(Instr.makeSlice 83 (.int .i64 (i64.wrap (x7+ (1:Int)))) (.int .i64 (i64.wrap (x7+ (1:Int))))).run prog w129= .ok (.slice r138p r138n r138c) w137∧
   W9 w137∧∃w139 r140p r140n r140c,(Instr.makeSlice 23 (.int .i64 (i64.wrap ((2:Int)* (i64.wrap (x7+ (1:Int)))))) (.int .i64 (i64.wrap ((2:Int)* (i64.wrap (x7+ (1:Int))))))).run prog w137= .ok (.slice r140p r140n r140c) w139∧
   W9 w139∧∀n141 w142,New (.cells #[.int .i64 x10,.slice none 0 0,.slice r140p r140n r140c,.slice r138p r138n r138c,.slice r100p r100n r100c,.slice r130p r130n r130c,.slice none 0 0,.slice none 0 0,.slice none 0 0,.int .i64 0,.slice none 0 0] 86) w139 n141 w142→
   J8 (Addr.mk n141 0 none) w142)))∧
 (∃w143 r144p r144n r144c,(Instr.makeSlice 28 (.int .i64 (i64.wrap (x7+ (1:Int)))) (.int .i64 (i64.wrap (x7+ (1:Int))))).run prog w5.drew= .ok (.slice r144p r144n r144c) w143∧
   W9 w143∧(∃w145 r146p r146n r146c,(Instr.makeSlice 23 (.int .i64 (i64.wrap ((2:Int)* (i64.wrap (x7+ (1:Int)))))) (.int .i64 (i64.wrap ((2:Int)* (i64.wrap (x7+ (1:Int))))))).run prog w143= .ok (.slice r146p r146n r146c) w145∧
   W9 w145∧(∃w147 r148p r148n r148c,(Instr.makeSlice 83 (.int .i64 (i64.wrap (x7+ (1:Int)))) (.int .i64 (i64.wrap (x7+ (1:Int))))).run prog w145= .ok (.slice r148p r148n r148c) w147∧
   W9 w147∧∃w149 r150p r150n r150c,(Instr.makeSlice 28 (.int .i64 (i64.wrap (x7+ (1:Int)))) (.int .i64 (i64.wrap (x7+ (1:Int))))).run prog w147= .ok (.slice r150p r150n r150c) w149∧
   W9 w149∧∀n151 w152,New (.cells #[.int .i64 x10,.slice none 0 0,.slice r146p r146n r146c,.slice r148p r148n r148c,.slice r150p r150n r150c,.slice r144p r144n r144c,.slice none 0 0,.slice none 0 0,.slice none 0 0,.int .i64 0,.slice none 0 0] 86) w149 n151 w152→
   J8 (Addr.mk n151 0 none) w152)∧
 (∃w153 r154p r154n r154c,(Instr.makeSlice 28 (.int .i64 (i64.wrap (x7+ (1:Int)))) (.int .i64 (i64.wrap (x7+ (1:Int))))).run prog w145= .ok (.slice r154p r154n r154c) w153∧
   W9 w153∧∃w155 r156p r156n r156c,(Instr.makeSlice 83 (.int .i64 (i64.wrap (x7+ (1:Int)))) (.int .i64 (i64.wrap (x7+ (1:Int))))).run prog w153= .ok (.slice r156p r156n r156c) w155∧
   W9 w155∧∀n157 w158,New (.cells #[.int .i64 x10,.slice none 0 0,.slice r146p r146n r146c,.slice r156p r156n r156c,.slice r154p r154n r154c,.slice r144p r144n r144c,.slice none 0 0,.slice none 0 0,.slice none 0 0,.int .i64 0,.slice none 0 0] 86) w155 n157 w158→
   J8 (Addr.mk n157 0 none) w158))∧
 (∃w159 r160p r160n r160c,(Instr.makeSlice 83 (.int .i64 (i64.wrap (x7+ (1:Int)))) (.int .i64 (i64.wrap (x7+ (1:Int))))).run prog w143= .ok (.slice r160p r160n r160c) w159∧
   W9 w159∧(∃w161 r162p r162n r162c,(Instr.makeSlice 23 (.int .i64 (i64.wrap ((2:Int)* (i64.wrap (x7+ (1:Int)))))) (.int .i64 (i64.wrap ((2:Int)* (i64.wrap (x7+ (1:Int))))))).run prog w159= .ok (.slice r162p r162n r162c) w161∧
   W9 w161∧∃w163 r164p r164n r164c,(Instr.makeSlice 28 (.int .i64 (i64.wrap (x7+ (1:Int)))) (.int .i64 (i64.wrap (x7+ (1:Int))))).run prog w161= .ok (.slice r164p r164n r164c) w163∧
   W9 w163∧∀n165 w166,New (.cells #[.int .i64 x10,.slice none 0 0,.slice r162p r162n r162c,.slice r160p r160n r160c,.slice r164p r164n r164c,.slice r144p r144n r144c,.slice none 0 0,.slice none 0 0,.slice none 0 0,.int .i64 0,.slice none 0 0] 86) w163 n165 w166→
   J8 (Addr.mk n165 0 none) w166)∧
 (∃w167 r168p r168n r168c,(Instr.makeSlice 28 (.int .i64 (i64.wrap (x7+ (1:Int)))) (.int .i64 (i64.wrap (x7+ (1:Int))))).run prog w159= .ok (.slice r168p r168n r168c) w167∧
   W9 w167∧∃w169 r170p r170n r170c,(Instr.makeSlice 23 (.int .i64 (i64.wrap ((2:Int)* (i64.wrap (x7+ (1:Int)))))) (.int .i64 (i64.wrap ((2:Int)* (i64.wrap (x7+ (1:Int))))))).run prog w167= .ok (.slice r170p r170n r170c) w169∧
   W9 w169∧∀n171 w172,New (.cells #[.int .i64 x10,.slice none 0 0,.slice r170p r170n r170c,.slice r160p r160n r160c,.slice r168p r168n r168c,.slice r144p r144n r144c,.slice none 0 0,.slice none 0 0,.slice none 0 0,.int .i64 0,.slice none 0 0] 86) w169 n171 w172→
   J8 (Addr.mk n171 0 none) w172))∧
 (∃w173 r174p r174n r174c,(Instr.makeSlice 28 (.int .i64 (i64.wrap (x7+ (1:Int)))) (.int .i64 (i64.wrap (x7+ (1:Int))))).run prog w143= .ok (.slice r174p r174n r174c) w173∧
   W9 w173∧(∃w175 r176p r176n r176c,(Instr.makeSlice 23 (.int .i64 (i64.wrap ((2:Int)* (i64.wrap (x7+ (1:Int)))))) (.int .i64 (i64.wrap ((2:Int)* (i64.wrap (x7+ (1:Int))))))).run prog w173= .ok (.slice r176p r176n r176c) w175∧
   W9 w175∧∃w177 r178p r178n r178c,(Instr.makeSlice 83 (.int .i64 (i64.wrap (x7+ (1:Int)))) (.int .i64 (i64.wrap (x7+ (1:Int))))).run prog w175= .ok (.slice r178p r178n r178c) w177∧
   W9 w177∧∀n179 w180,New (.cells #[.int .i64 x10,.slice none 0 0,.slice r176p r176n r176c,.slice r178p r178n r178c,.slice r174p r174n r174c,.slice r144p r144n r144c,.slice none 0 0,.slice none 0 0,.slice none 0 0,.int .i64 0,.slice none 0 0] 86) w177 n179 w180→
   J8 (Addr.mk n179 0 none) w180)∧
 (∃w181 r182p r182n r182c,(Instr.makeSlice 83 (.int .i64 (i64.wrap (x7+ (1:Int)))) (.int .i64 (i64.wrap (x7+ (1:Int))))).run prog w173= .ok (.slice r182p r182n r182c) w181∧
   W9 w181∧∃w183 r184p r184n r184c,(Instr.makeSlice 23 (.int .i64 (i64.wrap ((2:Int)* (i64.wrap (x7+ (1:Int)))))) (.int .i64 (i64.wrap ((2:Int)* (i64.wrap (x7+ (1:Int))))))).run prog w181= .ok (.slice r184p r184n r184c) w183∧
   W9 w183∧∀n185 w186,New (.cells #[.int .i64 x10,.slice none 0 0,.slice r184p r184n r184c,.slice r182p r182n r182c,.slice r174p r174n r174c,.slice r144p r144n r144c,.slice none 0 0,.slice none 0 0,.slice none 0 0,.int .i64 0,.slice none 0 0] 86) w183 n185 w186→
   J8 (Addr.mk n185 0 none) w186))))∧
   ∀p_187 w188 (_:Fr),J8 p_187 w188→
   ∃x189p x189n x189c,w188.cell? ((Addr.mk n1 0 none).add 1)=some (.slice x189p x189n x189c)∧
   ∃I190:Int→World→Nat→Prop,(∃k191,I190 0 w188 k191)∧
   ∀v193 w194 k191 (_:Fr),I190 v193 w194 k191→
   cnd (decide (v193< (x189n:Int)))
    (ixK x189p x189n v193 1 fun a195=>
      ∃x196p x196n x196c,w194.cell? a195=some (.slice x196p x196n x196c)∧
      Calls prog 38 #[.pointer (some p_187),.slice x196p x196n x196c] w194 fun e w197=> ∃r198 r199,e= .returned (.tuple #[.int .i64 r198,.int .i64 r199])∧
      ∃k192,k192<k191∧I190 (i64.wrap (v193+ (1:Int))) w197 k192)
    (K (.tuple #[.pointer (some p_187),.int .i64 0]) w194))
theorem prop_New.calls {f_0 f1p f1n f1c w R} (h:prop_New.w f_0 f1p f1n f1c w fun v w'=>R (.returned v) w'):Calls prog 21 #[.agg #[.int .i64 f_0,.slice f1p f1n f1c]] w R:=
 calls_of mixed Tryz.func21 (by kernel_rfl) rfl (ann:=(.two .leaf (.two .leaf (.two .leaf (.cut [(5,1000000)] .draw (.two (.two .leaf (.one (.loop [(30,3)] .leaf))) .leaf)))))) (F:=prop_New.w f_0 f1p f1n f1c w) (fun K=>by kernel_rfl) h
def heap_New.w (n_:Int) (w:World) (K:Value→World→Prop):Prop:=
 cnd (decide (n_< (0:Int)))
 (K (.tuple #[.pointer none,.int .i64 1]) w)
 (cnd (decide (n_> (1048576:Int)))
 (K (.tuple #[.pointer none,.int .i64 1]) w)
 ((∃w1 r2p r2n r2c,(Instr.makeSlice 28 (.int .i64 (i64.wrap (n_+ (1:Int)))) (.int .i64 (i64.wrap (n_+ (1:Int))))).run prog w.drew= .ok (.slice r2p r2n r2c) w1∧
   ∃w3 r4p r4n r4c,(Instr.makeSlice 28 (.int .i64 (i64.wrap (n_+ (1:Int)))) (.int .i64 (i64.wrap (n_+ (1:Int))))).run prog w1= .ok (.slice r4p r4n r4c) w3∧
   ∀n5 w6,New (.cells #[.slice none 0 0,.slice r2p r2n r2c,.slice r4p r4n r4c,.int .i64 64] 90) w3 n5 w6→
   ∃I7:Int→World→Nat→Prop,(∃k8,I7 1 w6 k8)∧
   ∀v_10 w11 k8 (_:Fr),I7 v_10 w11 k8→
   cnd (decide (v_10≤n_))
    (∃a12,(some (Addr.mk n5 0 none))=some a12∧∃x13p x13n x13c,w11.cell? (a12.add 0)=some (.slice x13p x13n x13c)∧
      ∀n14 w15,New (.cells #[.int .i64 v_10] 3) w11 n14 w15→
      ∃w16 r17p r17n r17c,(Builtin.append_ #[28,28] 28 #[.slice x13p x13n x13c,.slice (some (Addr.mk n14 0 none)) 1 1]).run prog w15= .ok (.slice r17p r17n r17c) w16∧
      ∃a18,(some (Addr.mk n5 0 none))=some a18∧∃w19,StoreAt (a18.add 0) 0 [.slice r17p r17n r17c] w16 w19∧
      ∃a20,(some (Addr.mk n5 0 none))=some a20∧∃x21p x21n x21c,w19.cell? (a20.add 1)=some (.slice x21p x21n x21c)∧
      ixK x21p x21n v_10 1 fun a22=>
      ∃w23,StoreAt a22 0 [.int .i64 v_10] w19 w23∧
      ∃k9,k9<k8∧I7 (i64.wrap (v_10+ (1:Int))) w23 k9)
    (K (.tuple #[.pointer (some (Addr.mk n5 0 none)),.int .i64 0]) w11))∧
 (∃w24 r25p r25n r25c,(Instr.makeSlice 28 (.int .i64 (i64.wrap (n_+ (1:Int)))) (.int .i64 (i64.wrap (n_+ (1:Int))))).run prog w.drew= .ok (.slice r25p r25n r25c) w24∧
   ∃w26 r27p r27n r27c,(Instr.makeSlice 28 (.int .i64 (i64.wrap (n_+ (1:Int)))) (.int .i64 (i64.wrap (n_+ (1:Int))))).run prog w24= .ok (.slice r27p r27n r27c) w26∧
   ∀n28 w29,New (.cells #[.slice none 0 0,.slice r27p r27n r27c,.slice r25p r25n r25c,.int .i64 64] 90) w26 n28 w29→
   ∃I30:Int→World→Nat→Prop,(∃k31,I30 1 w29 k31)∧
   ∀v_33 w34 k31 (_:Fr),I30 v_33 w34 k31→
   cnd (decide (v_33≤n_))
    (∃a35,(some (Addr.mk n28 0 none))=some a35∧∃x36p x36n x36c,w34.cell? (a35.add 0)=some (.slice x36p x36n x36c)∧
      ∀n37 w38,New (.cells #[.int .i64 v_33] 3) w34 n37 w38→
      ∃w39 r40p r40n r40c,(Builtin.append_ #[28,28] 28 #[.slice x36p x36n x36c,.slice (some (Addr.mk n37 0 none)) 1 1]).run prog w38= .ok (.slice r40p r40n r40c) w39∧
      ∃a41,(some (Addr.mk n28 0 none))=some a41∧∃w42,StoreAt (a41.add 0) 0 [.slice r40p r40n r40c] w39 w42∧
      ∃a43,(some (Addr.mk n28 0 none))=some a43∧∃x44p x44n x44c,w42.cell? (a43.add 1)=some (.slice x44p x44n x44c)∧
      ixK x44p x44n v_33 1 fun a45=>
      ∃w46,StoreAt a45 0 [.int .i64 v_33] w42 w46∧
      ∃k32,k32<k31∧I30 (i64.wrap (v_33+ (1:Int))) w46 k32)
    (K (.tuple #[.pointer (some (Addr.mk n28 0 none)),.int .i64 0]) w34))))
theorem heap_New.calls {n_ w R} (h:heap_New.w n_ w fun v w'=>R (.returned v) w'):Calls prog 22 #[.int .i64 n_] w R:=
 calls_of mixed Tryz.func22 (by kernel_rfl) rfl (ann:=(.two .leaf (.two .leaf (.two .leaf (.two (.two .leaf (.one (.loop [(5,3)] .leaf))) .leaf))))) (F:=heap_New.w n_ w) (fun K=>by kernel_rfl) h
def luby_Start.w (u_:Int) (w:World) (K:Value→World→Prop):Prop:=
 ∀n1 w2,New (.cells #[.int .i64 0,.int .i64 0,.int .i64 0] 63) w n1 w2→
 cnd (decide (u_< (1:Int)))
 (∃w3,StoreAt (Addr.mk n1 0 none) 0 [.int .i64 0,.int .i64 0,.int .i64 0] w2 w3∧
 ∃x4 x5 x6,CellsAt w3 (Addr.mk n1 0 none) 0 [.int .i64 x4,.int .i64 x5,.int .i64 x6]∧
 K (.tuple #[.agg #[.int .i64 x4,.int .i64 x5,.int .i64 x6],.int .i64 1]) w3)
 (cnd (decide (u_> (1048576:Int)))
 (∃w7,StoreAt (Addr.mk n1 0 none) 0 [.int .i64 0,.int .i64 0,.int .i64 0] w2 w7∧
   ∃x8 x9 x10,CellsAt w7 (Addr.mk n1 0 none) 0 [.int .i64 x8,.int .i64 x9,.int .i64 x10]∧
   K (.tuple #[.agg #[.int .i64 x8,.int .i64 x9,.int .i64 x10],.int .i64 1]) w7)
 (∃w11,StoreAt (Addr.mk n1 0 none) 0 [.int .i64 u_,.int .i64 1,.int .i64 u_] w2 w11∧
   ∃x12 x13 x14,CellsAt w11 (Addr.mk n1 0 none) 0 [.int .i64 x12,.int .i64 x13,.int .i64 x14]∧
   K (.tuple #[.agg #[.int .i64 x12,.int .i64 x13,.int .i64 x14],.int .i64 0]) w11))
theorem luby_Start.calls {u_ w R} (h:luby_Start.w u_ w fun v w'=>R (.returned v) w'):Calls prog 23 #[.int .i64 u_] w R:=
 calls_of mixed Tryz.func23 (by kernel_rfl) rfl (ann:= .leaf) (F:=luby_Start.w u_ w) (fun K=>by kernel_rfl) h
def prop_Prop_Run.w (p_:Option Addr) (w:World) (K:Value→World→Prop):Prop:=
 cnd p_.isNone
 (K (.int .i64 (-1)) w)
 (∃a1,p_=some a1∧∃x2p x2n x2c,w.cell? (a1.add 3)=some (.slice x2p x2n x2c)∧
 cnd x2p.isNone
 (K (.int .i64 (-1)) w)
 (Calls prog 39 #[.pointer p_] w fun e w3=> ∃r4,e= .returned (.int .i64 r4)∧
   cnd (decide (r4≥(0:Int)))
   (K (.int .i64 r4) w3)
   (∃I5:World→Nat→Prop,(∃k6,I5 w3 k6)∧
     ∀w8 k6 (_:Fr),I5 w8 k6→
     ∃a9,p_=some a9∧∃x10,w8.drew.cell? (a9.add 9)=some (.int .i64 x10)∧
      ∃a11,p_=some a11∧∃x12p x12n x12c,w8.drew.cell? (a11.add 6)=some (.slice x12p x12n x12c)∧
      cnd (decide (x10< (x12n:Int)))
      (∃a13,p_=some a13∧∃x14p x14n x14c,w8.drew.drew.cell? (a13.add 6)=some (.slice x14p x14n x14c)∧
        ∃a15,p_=some a15∧∃x16,w8.drew.drew.cell? (a15.add 9)=some (.int .i64 x16)∧
        ixK x14p x14n x16 1 fun a17=>
        ∃x18,w8.drew.drew.cell? a17=some (.int .i64 x18)∧
        ∃W19:World→Prop,W19 w8.drew.drew.drew∧
        ∃a20,p_=some a20∧∃x21p x21n x21c,AtW W19 (a20.add 2) (.slice x21p x21n x21c)∧
        Calls prog 40 #[.int .i64 (i64.wrap (0 - x18))] w8.drew.drew.drew fun e w22=> ∃r23,e= .returned (.int .i64 r23)∧
        W19 w22∧ixK x21p x21n r23 1 fun a24=>
        ∃x25p x25n x25c,AtW W19 a24 (.slice x25p x25n x25c)∧
        ∃I26:Int→Int→World→Nat→Prop,(∃k27,I26 0 0 w22 k27)∧
        ∀k_29 v30 w31 k27 (_:Fr),I26 k_29 v30 w31 k27→
        cnd (decide (v30< (x25n:Int)))
         (ixK x25p x25n v30 1 fun a32=>
           ∃x33,w31.cell? a32=some (.int .i64 x33)∧
           ∃a34,p_=some a34∧∃x35p x35n x35c,w31.cell? (a34.add 1)=some (.slice x35p x35n x35c)∧
           ixK x35p x35n x33 3 fun a36=>
           ∃x37p x37n x37c,w31.cell? (a36.add 1)=some (.slice x37p x37n x37c)∧
           cnd (decide ((x37n:Int)< (2:Int)))
           (ixK x25p x25n k_29 1 fun a38=>
             ∃w39,StoreAt a38 0 [.int .i64 x33] w31 w39∧
             ∃k28,k28<k27∧I26 (i64.wrap (k_29+ (1:Int))) (i64.wrap (v30+ (1:Int))) w39 k28)
           (Calls prog 41 #[.pointer p_,.int .i64 x33,.int .i64 (i64.wrap (0 - x18))] w31 fun e w40=> ∃r41 r42,e= .returned (.tuple #[.bool r41,.bool r42])∧
             cnd r41
             (ixK x25p x25n k_29 1 fun a43=>
               ∃w44,StoreAt a43 0 [.int .i64 x33] w40 w44∧
               cnd r42
               (slK x25p x25n x25c 1 (some (i64.wrap (k_29+ (1:Int)))) none none fun s45p s45n s45c=>
                 slK x25p x25n x25c 1 (some (i64.wrap (v30+ (1:Int)))) none none fun s46p s46n s46c=>
                 ∃w47 r48,(Builtin.copy_ #[28,28] 3 #[.slice s45p s45n s45c,.slice s46p s46n s46c]).run prog w44.drew= .ok (.int .i64 r48) w47∧
                 ∃W49:World→Prop,W49 w47.drew∧
                 ∃a50,p_=some a50∧∃x51p x51n x51c,AtW W49 (a50.add 2) (.slice x51p x51n x51c)∧
                 Calls prog 40 #[.int .i64 (i64.wrap (0 - x18))] w47.drew fun e w52=> ∃r53,e= .returned (.int .i64 r53)∧
                 W49 w52∧slK x25p x25n x25c 1 none (some (i64.wrap ((i64.wrap (k_29+ (1:Int)))+r48))) none fun s54p s54n s54c=>
                 ixK x51p x51n r53 1 fun a55=>
                 ∃w56,StoreAt a55 0 [.slice s54p s54n s54c] w52 w56∧
                 K (.int .i64 x33) w56)
               (∃k28,k28<k27∧I26 (i64.wrap (k_29+ (1:Int))) (i64.wrap (v30+ (1:Int))) w44 k28))
             (cnd r42
               (slK x25p x25n x25c 1 (some k_29) none none fun s57p s57n s57c=>
                 slK x25p x25n x25c 1 (some (i64.wrap (v30+ (1:Int)))) none none fun s58p s58n s58c=>
                 ∃w59 r60,(Builtin.copy_ #[28,28] 3 #[.slice s57p s57n s57c,.slice s58p s58n s58c]).run prog w40.drew= .ok (.int .i64 r60) w59∧
                 ∃W61:World→Prop,W61 w59.drew∧
                 ∃a62,p_=some a62∧∃x63p x63n x63c,AtW W61 (a62.add 2) (.slice x63p x63n x63c)∧
                 Calls prog 40 #[.int .i64 (i64.wrap (0 - x18))] w59.drew fun e w64=> ∃r65,e= .returned (.int .i64 r65)∧
                 W61 w64∧slK x25p x25n x25c 1 none (some (i64.wrap (k_29+r60))) none fun s66p s66n s66c=>
                 ixK x63p x63n r65 1 fun a67=>
                 ∃w68,StoreAt a67 0 [.slice s66p s66n s66c] w64 w68∧
                 K (.int .i64 x33) w68)
               (∃k28,k28<k27∧I26 k_29 (i64.wrap (v30+ (1:Int))) w40 k28))))
         (∃W69:World→Prop,W69 w31.drew∧
           ∃a70,p_=some a70∧∃x71p x71n x71c,AtW W69 (a70.add 2) (.slice x71p x71n x71c)∧
           Calls prog 40 #[.int .i64 (i64.wrap (0 - x18))] w31.drew fun e w72=> ∃r73,e= .returned (.int .i64 r73)∧
           W69 w72∧slK x25p x25n x25c 1 none (some k_29) none fun s74p s74n s74c=>
           ixK x71p x71n r73 1 fun a75=>
           ∃w76,StoreAt a75 0 [.slice s74p s74n s74c] w72 w76∧
           ∃a77,p_=some a77∧∃x78,w76.cell? (a77.add 9)=some (.int .i64 x78)∧
           ∃a79,p_=some a79∧∃w80,StoreAt (a79.add 9) 0 [.int .i64 (i64.wrap (x78+ (1:Int)))] w76 w80∧
           ∃k7,k7<k6∧I5 w80 k7))
      (K (.int .i64 (-1)) w8.drew))))
theorem prop_Prop_Run.calls {p_ w R} (h:prop_Prop_Run.w p_ w fun v w'=>R (.returned v) w'):Calls prog 24 #[.pointer p_] w R:=
 calls_of mixed Tryz.func24 (by kernel_rfl) rfl (ann:=(.two .leaf (.one (.two .leaf (.two .leaf (.two .leaf (.two (.one (.loop [] (.two .leaf (.one (.two .leaf (.two .draw (.two .leaf (.two (.two .leaf (.one (.loop [(6,3),(56,3)] (.two .leaf (.two .leaf (.two (.one (.two .leaf (.two .leaf (.two .leaf (.two .leaf (.two .leaf (.two (.two .leaf (.two .draw .leaf)) .leaf))))))) .leaf)))))) (.two .draw .leaf))))))))) .leaf))))))) (F:=prop_Prop_Run.w p_ w) (fun K=>by kernel_rfl) h
def cdcl_search_decide.w (x0_:Option Addr) (w:World) (K:Value→World→Prop):Prop:=
 ∃I1:World→Nat→Prop,(∃k2,I1 w k2)∧
 ∀w4 k2 (_:Fr),I1 w4 k2→
 ∃a5,x0_=some a5∧∃x6,w4.cell? (a5.add 6)=some (.pointer x6)∧
  Calls prog 42 #[.pointer x6] w4 fun e w7=> ∃r8 r9,e= .returned (.tuple #[.int .i64 r8,.bool r9])∧
  cnd (!r9)
  (K (.bool false) w7)
  (∃a10,x0_=some a10∧∃x11,w7.cell? (a10.add 5)=some (.pointer x11)∧
    Calls prog 43 #[.pointer x11,.int .i64 r8] w7 fun e w12=> ∃r13,e= .returned (.int .i64 r13)∧
    cnd (r13 !=(0:Int))
    (∃k3,k3<k2∧I1 w12 k3)
    (∃a14,x0_=some a14∧∃x15p x15n x15c,w12.cell? (a14.add 7)=some (.slice x15p x15n x15c)∧
      ixK x15p x15n r8 1 fun a16=>
      ∃x17,w12.cell? a16=some (.int .i64 x17)∧
      cnd (decide (x17> (0:Int)))
      (∃a18,x0_=some a18∧∃x19,w12.cell? (a18.add 5)=some (.pointer x19)∧
        Calls prog 44 #[.pointer x19,.int .i64 r8] w12 fun e w20=> ∃r21,e= .returned (.int .i64 r21)∧
        ∃a22,x0_=some a22∧∃x23,w20.cell? ((a22.add 14).add 4)=some (.int .i64 x23)∧
        ∃a24,x0_=some a24∧∃w25,StoreAt ((a24.add 14).add 4) 0 [.int .i64 (i64.wrap (x23+ (1:Int)))] w20 w25∧
        K (.bool true) w25)
      (∃a26,x0_=some a26∧∃x27,w12.cell? (a26.add 5)=some (.pointer x27)∧
        Calls prog 44 #[.pointer x27,.int .i64 (i64.wrap (0 - r8))] w12 fun e w28=> ∃r29,e= .returned (.int .i64 r29)∧
        ∃a30,x0_=some a30∧∃x31,w28.cell? ((a30.add 14).add 4)=some (.int .i64 x31)∧
        ∃a32,x0_=some a32∧∃w33,StoreAt ((a32.add 14).add 4) 0 [.int .i64 (i64.wrap (x31+ (1:Int)))] w28 w33∧
        K (.bool true) w33)))
theorem cdcl_search_decide.calls {x0_ w R} (h:cdcl_search_decide.w x0_ w fun v w'=>R (.returned v) w'):Calls prog 25 #[.pointer x0_] w R:=
 calls_of mixed Tryz.func25 (by kernel_rfl) rfl (ann:=(.two .leaf (.one (.loop [] .leaf)))) (F:=cdcl_search_decide.w x0_ w) (fun K=>by kernel_rfl) h
def cdcl_search_sat.w (x0_:Option Addr) (w:World) (K:Value→World→Prop):Prop:=
 ∃a1,x0_=some a1∧∃w2,StoreAt ((a1.add 14).add 0) 0 [.int .i64 1] w w2∧
 ∃a3,x0_=some a3∧∃w4,StoreAt ((a3.add 14).add 2) 0 [.slice none 0 0] w2 w4∧
 ∃I5:Int→World→Nat→Prop,(∃k6,I5 1 w4 k6)∧
 ∀v_8 w9 k6 (_:Fr),I5 v_8 w9 k6→
 ∃a10,x0_=some a10∧∃x11,w9.cell? ((a10.add 0).add 0)=some (.int .i64 x11)∧
  cnd (decide (v_8≤x11))
  (∃W12:World→Prop,W12 w9.drew∧
    ∃a13,x0_=some a13∧∃x14p x14n x14c,AtW W12 ((a13.add 14).add 1) (.slice x14p x14n x14c)∧
    ∃a15,x0_=some a15∧∃x16,AtW W12 (a15.add 5) (.pointer x16)∧
    Calls prog 43 #[.pointer x16,.int .i64 v_8] w9.drew fun e w17=> ∃r18,e= .returned (.int .i64 r18)∧
    W12 w17∧∀n19 w20,New (.cells #[.int .i64 r18] 3) w17 n19 w20→
    W12 w20∧∃w21 r22p r22n r22c,(Builtin.append_ #[28,28] 28 #[.slice x14p x14n x14c,.slice (some (Addr.mk n19 0 none)) 1 1]).run prog w20= .ok (.slice r22p r22n r22c) w21∧
    ∃a23,x0_=some a23∧∃w24,StoreAt ((a23.add 14).add 1) 0 [.slice r22p r22n r22c] w21 w24∧
    ∃k7,k7<k6∧I5 (i64.wrap (v_8+ (1:Int))) w24 k7)
  (K (.tuple #[]) w9)
theorem cdcl_search_sat.calls {x0_ w R} (h:cdcl_search_sat.w x0_ w fun v w'=>R (.returned v) w'):Calls prog 26 #[.pointer x0_] w R:=
 calls_of mixed Tryz.func26 (by kernel_rfl) rfl (ann:=(.two .leaf (.two .leaf (.one (.loop [(2,3)] (.two .leaf (.two (.one .draw) .leaf))))))) (F:=cdcl_search_sat.w x0_ w) (fun K=>by kernel_rfl) h
def prop_Prop_Levels.w (p_:Option Addr) (w:World) (K:Value→World→Prop):Prop:=
 cnd p_.isNone
 (K (.int .i64 0) w)
 (∃a1,p_=some a1∧∃x2p x2n x2c,w.cell? (a1.add 7)=some (.slice x2p x2n x2c)∧
   K (.int .i64 (x2n:Int)) w)
theorem prop_Prop_Levels.calls {p_ w R} (h:prop_Prop_Levels.w p_ w fun v w'=>R (.returned v) w'):Calls prog 27 #[.pointer p_] w R:=
 calls_of mixed Tryz.func27 (by kernel_rfl) rfl (ann:= .leaf) (F:=prop_Prop_Levels.w p_ w) (fun K=>by kernel_rfl) h
def cdcl_search_told.w (x0_:Option Addr) (a:Option Addr) (b:Nat) (c:Nat) (w:World) (K:Value→World→Prop):Prop:=
 ∃W1:World→Prop,W1 w.drew∧
 ∃a2,x0_=some a2∧∃x3p x3n x3c,AtW W1 ((a2.add 14).add 2) (.slice x3p x3n x3c)∧
 Calls prog 45 #[.slice a b c] w.drew fun e w4=> ∃r5p r5n r5c,e= .returned (.slice r5p r5n r5c)∧
 W1 w4∧∀n6 w7,New (.cells #[.bool false,.slice r5p r5n r5c] 100) w4 n6 w7→
 W1 w7∧∃w8 r9p r9n r9c,(Builtin.append_ #[34,34] 34 #[.slice x3p x3n x3c,.slice (some (Addr.mk n6 0 none)) 1 1]).run prog w7= .ok (.slice r9p r9n r9c) w8∧
 ∃a10,x0_=some a10∧∃w11,StoreAt ((a10.add 14).add 2) 0 [.slice r9p r9n r9c] w8 w11∧
 K (.tuple #[]) w11
theorem cdcl_search_told.calls {x0_ a b c w R} (h:cdcl_search_told.w x0_ a b c w fun v w'=>R (.returned v) w'):Calls prog 28 #[.pointer x0_,.slice a b c] w R:=
 calls_of mixed Tryz.func28 (by kernel_rfl) rfl (ann:= .draw) (F:=cdcl_search_told.w x0_ a b c w) (fun K=>by kernel_rfl) h
def cdcl_search_conflict.w (x0_:Option Addr) (i_:Int) (w:World) (K:Value→World→Prop):Prop:=
 ∃a1,x0_=some a1∧∃x2,w.cell? ((a1.add 14).add 3)=some (.int .i64 x2)∧
 ∃a3,x0_=some a3∧∃w4,StoreAt ((a3.add 14).add 3) 0 [.int .i64 (i64.wrap (x2+ (1:Int)))] w w4∧
 ∃a5,x0_=some a5∧∃x6,w4.cell? (a5.add 5)=some (.pointer x6)∧
 Calls prog 46 #[.pointer x6,.int .i64 i_] w4 fun e w7=> ∃r8p r8n r8c r9,e= .returned (.tuple #[.slice r8p r8n r8c,.bool r9])∧
 Calls prog 47 #[.pointer x0_,.slice r8p r8n r8c] w7 fun e w10=> ∃r11p r11n r11c r12 r13,e= .returned (.tuple #[.slice r11p r11n r11c,.int .i64 r12,.int .i64 r13])∧
 Calls prog 45 #[.slice r8p r8n r8c] w10 fun e w14=> ∃r15p r15n r15c,e= .returned (.slice r15p r15n r15c)∧
 ∃w16 r17p r17n r17c,(Builtin.append_ #[28,28] 28 #[.slice r15p r15n r15c,.slice r11p r11n r11c]).run prog w14= .ok (.slice r17p r17n r17c) w16∧
 ∃I18:Int→World→Nat→Prop,(∃k19,I18 0 w16 k19)∧
 ∀v21 w22 k19 (_:Fr),I18 v21 w22 k19→
 cnd (decide (v21< (r17n:Int)))
  (ixK r17p r17n v21 1 fun a23=>
    ∃x24,w22.cell? a23=some (.int .i64 x24)∧
    ∃a25,x0_=some a25∧∃x26,w22.cell? (a25.add 6)=some (.pointer x26)∧
    Calls prog 48 #[.pointer x26,.int .i64 (imax x24 (i64.wrap (0 - x24)))] w22 fun e w27=> ∃r28,e= .returned (.int .i64 r28)∧
    ∃k20,k20<k19∧I18 (i64.wrap (v21+ (1:Int))) w27 k20)
  (∃a29,x0_=some a29∧∃x30,w22.cell? (a29.add 6)=some (.pointer x30)∧
    Calls prog 49 #[.pointer x30] w22 fun e w31=>e= .returned (.tuple #[])∧
    Calls prog 28 #[.pointer x0_,.slice r11p r11n r11c] w31 fun e w32=>e= .returned (.tuple #[])∧
    Calls prog 50 #[.pointer x0_,.int .i64 (imax 0 r12)] w32 fun e w33=>e= .returned (.tuple #[])∧
    Calls prog 51 #[.pointer x0_,.slice r11p r11n r11c,.int .i64 r13] w33 fun e w34=>e= .returned (.tuple #[])∧
    ∃a35,x0_=some a35∧∃x36 x37 x38,CellsAt w34 (a35.add 8) 0 [.int .i64 x36,.int .i64 x37,.int .i64 x38]∧
    Calls prog 52 #[.agg #[.int .i64 x36,.int .i64 x37,.int .i64 x38]] w34 fun e w39=> ∃r40 r41 r42 r43,e= .returned (.tuple #[.agg #[.int .i64 r40,.int .i64 r41,.int .i64 r42],.bool r43])∧
    ∃a44,x0_=some a44∧∃w45,StoreAt (a44.add 8) 0 [.int .i64 r40,.int .i64 r41,.int .i64 r42] w39 w45∧
    cnd r43
    (∃a46,x0_=some a46∧∃x47,w45.cell? ((a46.add 14).add 5)=some (.int .i64 x47)∧
      ∃a48,x0_=some a48∧∃w49,StoreAt ((a48.add 14).add 5) 0 [.int .i64 (i64.wrap (x47+ (1:Int)))] w45 w49∧
      Calls prog 50 #[.pointer x0_,.int .i64 0] w49 fun e w50=>e= .returned (.tuple #[])∧
      ∃a51,x0_=some a51∧∃x52p x52n x52c,w50.drew.cell? (a51.add 11)=some (.slice x52p x52n x52c)∧
      ∃a53,x0_=some a53∧∃x54,w50.drew.cell? ((a53.add 2).add 2)=some (.int .i64 x54)∧
      ∃a55,x0_=some a55∧∃x56,w50.drew.cell? (a55.add 13)=some (.int .i64 x56)∧
      Calls prog 53 #[.int .i64 (x52n:Int),.int .i64 x54,.int .i64 x56] w50.drew fun e w57=> ∃r58,e= .returned (.bool r58)∧
      cnd r58
      (Calls prog 50 #[.pointer x0_,.int .i64 0] w57 fun e w59=>e= .returned (.tuple #[])∧
        Calls prog 54 #[.pointer x0_] w59 fun e w60=>e= .returned (.tuple #[])∧
        K (.tuple #[]) w60)
      (K (.tuple #[]) w57))
    (∃a61,x0_=some a61∧∃x62p x62n x62c,w45.drew.cell? (a61.add 11)=some (.slice x62p x62n x62c)∧
      ∃a63,x0_=some a63∧∃x64,w45.drew.cell? ((a63.add 2).add 2)=some (.int .i64 x64)∧
      ∃a65,x0_=some a65∧∃x66,w45.drew.cell? (a65.add 13)=some (.int .i64 x66)∧
      Calls prog 53 #[.int .i64 (x62n:Int),.int .i64 x64,.int .i64 x66] w45.drew fun e w67=> ∃r68,e= .returned (.bool r68)∧
      cnd r68
      (Calls prog 50 #[.pointer x0_,.int .i64 0] w67 fun e w69=>e= .returned (.tuple #[])∧
        Calls prog 54 #[.pointer x0_] w69 fun e w70=>e= .returned (.tuple #[])∧
        K (.tuple #[]) w70)
      (K (.tuple #[]) w67)))
theorem cdcl_search_conflict.calls {x0_ i_ w R} (h:cdcl_search_conflict.w x0_ i_ w fun v w'=>R (.returned v) w'):Calls prog 29 #[.pointer x0_,.int .i64 i_] w R:=
 calls_of mixed Tryz.func29 (by kernel_rfl) rfl (ann:=(.two .leaf (.two .leaf (.two .leaf (.two (.two .leaf (.one (.loop [(42,3)] .leaf))) .leaf))))) (F:=cdcl_search_conflict.w x0_ i_ w) (fun K=>by kernel_rfl) h
def fathomref15_True.w (a:Option Addr) (b:Nat) (c:Nat) (d:Option Addr) (f:Nat) (g:Nat) (l_:Int) (w:World) (K:Value→World→Prop):Prop:=
 cnd (decide (l_< (2:Int)))
 (K (.bool (l_==(1:Int))) w)
 ((2:Int)≠0∧ixK a b (i64.wrap ((i64.wrap (l_.tdiv (2:Int))) - (1:Int))) 2 fun a1=>
   ∃x2 x3,CellsAt w a1 0 [.int .i64 x2,.int .i64 x3]∧
   ∀n4 w5,New (.cells #[.int .i64 0,.int .i64 0] 43) w n4 w5→
   ∃w6,StoreAt (Addr.mk n4 0 none) 0 [.int .i64 x2,.int .i64 x3] w5 w6∧
   ∃x7,w6.cell? ((Addr.mk n4 0 none).add 0)=some (.int .i64 x7)∧
   cnd (decide (x7≥(0:Int)))
   (∃x8,w6.cell? ((Addr.mk n4 0 none).add 0)=some (.int .i64 x8)∧
     Calls prog 30 #[.slice a b c,.slice d f g,.int .i64 x8] w6 fun e w9=> ∃r10,e= .returned (.bool r10)∧
     cnd r10
     (∃x11,w9.cell? ((Addr.mk n4 0 none).add 1)=some (.int .i64 x11)∧
     Calls prog 30 #[.slice a b c,.slice d f g,.int .i64 x11] w9 fun e w12=> ∃r13,e= .returned (.bool r13)∧
     (2:Int)≠0∧K (.bool (!(r13==((l_.tmod (2:Int))==(1:Int))))) w12)
     ((2:Int)≠0∧K (.bool (!(false==((l_.tmod (2:Int))==(1:Int))))) w9))
   (∃I14:Int→Int→World→Nat→Prop,(∃k15,I14 0 0 w6 k15)∧
     ∀k_17 i_18 w19 k15 (_:Fr),I14 k_17 i_18 w19 k15→
     (2:Int)≠0∧cnd (decide (i_18< (i64.wrap ((i64.wrap (l_.tdiv (2:Int))) - (1:Int)))))
       (ixK a b i_18 2 fun a20=>
         ∃x21,w19.cell? (a20.add 0)=some (.int .i64 x21)∧
         cnd (decide (x21< (0:Int)))
         (∃k16,k16<k15∧I14 (i64.wrap (k_17+ (1:Int))) (i64.wrap (i_18+ (1:Int))) w19 k16)
         (∃k16,k16<k15∧I14 k_17 (i64.wrap (i_18+ (1:Int))) w19 k16))
       (cnd (decide (k_17< (f:Int)))
         (ixK d f k_17 1 fun a22=>
         ∃x23,w19.cell? a22=some (.bool x23)∧
         (2:Int)≠0∧K (.bool (!(x23==((l_.tmod (2:Int))==(1:Int))))) w19)
         ((2:Int)≠0∧K (.bool (!(false==((l_.tmod (2:Int))==(1:Int))))) w19))))
theorem fathomref15_True.calls {a b c d f g l_ w R} (h:fathomref15_True.w a b c d f g l_ w fun v w'=>R (.returned v) w'):Calls prog 30 #[.slice a b c,.slice d f g,.int .i64 l_] w R:=
 calls_of mixed Tryz.func30 (by kernel_rfl) rfl (ann:=(.two .leaf (.two .leaf (.two .leaf (.two .leaf (.two (.two .leaf (.two .leaf (.two .leaf (.two (.two .leaf (.one (.loop [(9,3),(10,3)] .leaf))) .leaf)))) .leaf)))))) (F:=fathomref15_True.w a b c d f g l_ w) (fun K=>by kernel_rfl) h
def aig_Check.w (a:Option Addr) (b:Nat) (c:Nat) (w:World) (K:Value→World→Prop):Prop:=
 cnd (decide ((b:Int)> (1048576:Int)))
 (K (.int .i64 1) w)
 (∃I1:Int→World→Nat→Prop,(∃k2,I1 0 w k2)∧
   ∀v4 w5 k2 (_:Fr),I1 v4 w5 k2→
   cnd (decide (v4< (b:Int)))
    (ixK a b v4 2 fun a6=>
      ∃x7 x8,CellsAt w5 a6 0 [.int .i64 x7,.int .i64 x8]∧
      ∀n9 w10,New (.cells #[.int .i64 0,.int .i64 0] 43) w5 n9 w10→
      ∃w11,StoreAt (Addr.mk n9 0 none) 0 [.int .i64 x7,.int .i64 x8] w10 w11∧
      (∃x12 x13,CellsAt w11.drew (Addr.mk n9 0 none) 0 [.int .i64 x12,.int .i64 x13]∧
      Calls prog 55 #[] w11.drew fun e w14=> ∃r15 r16,e= .returned (.agg #[.int .i64 r15,.int .i64 r16])∧
      ∃w17 r18,(do eqGuard .neq 43 (.tmp 15) (.tmp 16) (.agg #[.int .i64 x12,.int .i64 x13]) (.agg #[.int .i64 r15,.int .i64 r16]);binOp .neq 43 (.agg #[.int .i64 x12,.int .i64 x13]) (.agg #[.int .i64 r15,.int .i64 r16])).run prog w14= .ok (.bool r18) w17∧
      cnd r18
      (∃x19,w17.cell? ((Addr.mk n9 0 none).add 0)=some (.int .i64 x19)∧
      cnd (decide (x19< (0:Int)))
      (K (.int .i64 1) w17)
      (∃x20,w17.cell? ((Addr.mk n9 0 none).add 1)=some (.int .i64 x20)∧
      cnd (decide (x20< (0:Int)))
      (K (.int .i64 1) w17)
      (∃x21,w17.cell? ((Addr.mk n9 0 none).add 0)=some (.int .i64 x21)∧
      cnd (decide (x21> (i64.wrap ((i64.wrap ((2:Int)*v4))+ (1:Int)))))
      (K (.int .i64 1) w17)
      (∃x22,w17.cell? ((Addr.mk n9 0 none).add 1)=some (.int .i64 x22)∧
      cnd (decide (x22> (i64.wrap ((i64.wrap ((2:Int)*v4))+ (1:Int)))))
      (K (.int .i64 1) w17)
      (∃k3,k3<k2∧I1 (i64.wrap (v4+ (1:Int))) w17 k3)))))
      (∃k3,k3<k2∧I1 (i64.wrap (v4+ (1:Int))) w17 k3))∧
    (Calls prog 55 #[] w11.drew fun e w23=> ∃r24 r25,e= .returned (.agg #[.int .i64 r24,.int .i64 r25])∧
      ∃x26 x27,CellsAt w23 (Addr.mk n9 0 none) 0 [.int .i64 x26,.int .i64 x27]∧
      ∃w28 r29,(do eqGuard .neq 43 (.tmp 15) (.tmp 16) (.agg #[.int .i64 x26,.int .i64 x27]) (.agg #[.int .i64 r24,.int .i64 r25]);binOp .neq 43 (.agg #[.int .i64 x26,.int .i64 x27]) (.agg #[.int .i64 r24,.int .i64 r25])).run prog w23= .ok (.bool r29) w28∧
      cnd r29
      (∃x30,w28.cell? ((Addr.mk n9 0 none).add 0)=some (.int .i64 x30)∧
      cnd (decide (x30< (0:Int)))
      (K (.int .i64 1) w28)
      (∃x31,w28.cell? ((Addr.mk n9 0 none).add 1)=some (.int .i64 x31)∧
      cnd (decide (x31< (0:Int)))
      (K (.int .i64 1) w28)
      (∃x32,w28.cell? ((Addr.mk n9 0 none).add 0)=some (.int .i64 x32)∧
      cnd (decide (x32> (i64.wrap ((i64.wrap ((2:Int)*v4))+ (1:Int)))))
      (K (.int .i64 1) w28)
      (∃x33,w28.cell? ((Addr.mk n9 0 none).add 1)=some (.int .i64 x33)∧
      cnd (decide (x33> (i64.wrap ((i64.wrap ((2:Int)*v4))+ (1:Int)))))
      (K (.int .i64 1) w28)
      (∃k3,k3<k2∧I1 (i64.wrap (v4+ (1:Int))) w28 k3)))))
      (∃k3,k3<k2∧I1 (i64.wrap (v4+ (1:Int))) w28 k3)))
    (K (.int .i64 0) w5))
theorem aig_Check.calls {a b c w R} (h:aig_Check.w a b c w fun v w'=>R (.returned v) w'):Calls prog 31 #[.slice a b c] w R:=
 calls_of mixed Tryz.func31 (by kernel_rfl) rfl (ann:=(.two .leaf (.two .leaf (.two (.two .leaf (.one (.loop [(10,3)] .leaf))) .leaf)))) (F:=aig_Check.w a b c w) (fun K=>by kernel_rfl) h
def lit_Value.w (a:Option Addr) (b:Nat) (c:Nat) (l_:Int) (w:World) (K:Value→World→Prop):Prop:=
 Calls prog 56 #[.int .i64 l_] w fun e w1=> ∃r2,e= .returned (.bool r2)∧
 cnd (!r2)
 (K (.int .i64 0) w1)
 (Calls prog 37 #[.int .i64 l_] w1 fun e w3=> ∃r4,e= .returned (.int .i64 r4)∧
 cnd (decide (r4> (b:Int)))
 (K (.int .i64 0) w3)
 (Calls prog 37 #[.int .i64 l_] w3 fun e w5=> ∃r6,e= .returned (.int .i64 r6)∧
   ixK a b (i64.wrap (r6 - (1:Int))) 1 fun a7=>
   ∃x8,w5.cell? a7=some (.int .i64 x8)∧
   cnd (x8==(0:Int))
   (K (.int .i64 0) w5)
   (cnd ((decide (x8> (0:Int)))==(decide (l_> (0:Int))))
     (K (.int .i64 1) w5)
     (K (.int .i64 (-1)) w5))))
theorem lit_Value.calls {a b c l_ w R} (h:lit_Value.w a b c l_ w fun v w'=>R (.returned v) w'):Calls prog 32 #[.slice a b c,.int .i64 l_] w R:=
 calls_of mixed Tryz.func32 (by kernel_rfl) rfl (ann:= .leaf) (F:=lit_Value.w a b c l_ w) (fun K=>by kernel_rfl) h
def slices_ContainsFunc_int_int.w (a:Option Addr) (b:Nat) (c:Nat) (f_f:FuncId) (f_v:Array Value) (w:World) (K:Value→World→Prop):Prop:=
 Calls prog 57 #[.slice a b c,.func (.func f_f) #[] f_v] w fun e w1=> ∃r2,e= .returned (.int .i64 r2)∧
 K (.bool (decide (r2≥(0:Int)))) w1
theorem slices_ContainsFunc_int_int.calls {a b c f_f f_v w R} (h:slices_ContainsFunc_int_int.w a b c f_f f_v w fun v w'=>R (.returned v) w'):Calls prog 33 #[.slice a b c,.func (.func f_f) #[] f_v] w R:=
 calls_of mixed Tryz.func33 (by kernel_rfl) rfl (ann:= .leaf) (F:=slices_ContainsFunc_int_int.w a b c f_f f_v w) (fun K=>by kernel_rfl) h
def tseitin_may_1.w (l_:Int) (c0_:Addr) (w:World) (K:Value→World→Prop):Prop:=
 cnd (decide (l_< (0:Int)))
 (K (.bool true) w)
 (∃x1p:Option Addr,∃x1n:Nat,∃x1c:Nat,w.cell? c0_=some (.slice x1p x1n x1c)∧
 K (.bool (decide (l_> (i64.wrap ((i64.wrap ((2:Int)* (x1n:Int)))+ (1:Int)))))) w)
theorem tseitin_may_1.calls {l_ c0_ w R} (h:tseitin_may_1.w l_ c0_ w fun v w'=>R (.returned v) w'):Calls prog 34 #[.int .i64 l_,.pointer (some c0_)] w R:=
 calls_of mixed Tryz.func34 (by kernel_rfl) rfl (ann:= .leaf) (F:=tseitin_may_1.w l_ c0_ w) (fun K=>by kernel_rfl) h
def lit_Check.w (a:Option Addr) (b:Nat) (c:Nat) (w:World) (K:Value→World→Prop):Prop:=
 cnd (decide ((b:Int)> (4096:Int)))
 (K (.int .i64 1) w)
 (Calls prog 33 #[.slice a b c,.func (.func 58) #[] #[]] w fun e w1=> ∃r2,e= .returned (.bool r2)∧
 cnd r2
 (K (.int .i64 1) w1)
 (K (.int .i64 0) w1))
theorem lit_Check.calls {a b c w R} (h:lit_Check.w a b c w fun v w'=>R (.returned v) w'):Calls prog 35 #[.slice a b c] w R:=
 calls_of mixed Tryz.func35 (by kernel_rfl) rfl (ann:= .leaf) (F:=lit_Check.w a b c w) (fun K=>by kernel_rfl) h
def lit_CheckCnf_1.w (l_:Int) (c0_:Addr) (w:World) (K:Value→World→Prop):Prop:=
 (Calls prog 37 #[.int .i64 l_] w.drew fun e w1=> ∃r2,e= .returned (.int .i64 r2)∧
 ∃x3,w1.cell? (c0_.add 0)=some (.int .i64 x3)∧
 K (.bool (decide (r2>x3))) w1)∧
(∃x4,w.drew.cell? (c0_.add 0)=some (.int .i64 x4)∧
  Calls prog 37 #[.int .i64 l_] w.drew fun e w5=> ∃r6,e= .returned (.int .i64 r6)∧
  K (.bool (decide (r6>x4))) w5)
theorem lit_CheckCnf_1.calls {l_ c0_ w R} (h:lit_CheckCnf_1.w l_ c0_ w fun v w'=>R (.returned v) w'):Calls prog 36 #[.int .i64 l_,.pointer (some c0_)] w R:=
 calls_of mixed Tryz.func36 (by kernel_rfl) rfl (ann:= .leaf) (F:=lit_CheckCnf_1.w l_ c0_ w) (fun K=>by kernel_rfl) h
def lit_amount.w (l_:Int) (w:World) (K:Value→World→Prop):Prop:=
 K (.int .i64 (imax l_ (i64.wrap (0 - l_)))) w
theorem lit_amount.calls {l_ w R} (h:lit_amount.w l_ w fun v w'=>R (.returned v) w'):Calls prog 37 #[.int .i64 l_] w R:=
 calls_of mixed Tryz.func37 (by kernel_rfl) rfl (ann:= .leaf) (F:=lit_amount.w l_ w) (fun K=>by kernel_rfl) h
def prop_Prop_Add.w (p_:Option Addr) (a:Option Addr) (b:Nat) (c:Nat) (w:World) (K:Value→World→Prop):Prop:=
 ∀n1 w2,New (.cells #[.pointer p_] 60) w n1 w2→
 ∃x3,w2.cell? (Addr.mk n1 0 none)=some (.pointer x3)∧
 cnd x3.isNone
 (K (.tuple #[.int .i64 0,.int .i64 1]) w2)
 (∃x4,w2.cell? (Addr.mk n1 0 none)=some (.pointer x4)∧
 ∃a5,x4=some a5∧∃x6p x6n x6c,w2.cell? (a5.add 3)=some (.slice x6p x6n x6c)∧
 cnd x6p.isNone
 (K (.tuple #[.int .i64 0,.int .i64 1]) w2)
 (Calls prog 35 #[.slice a b c] w2 fun e w7=> ∃r8,e= .returned (.int .i64 r8)∧
 cnd (r8 !=(0:Int))
 (K (.tuple #[.int .i64 0,.int .i64 1]) w7)
 (Calls prog 33 #[.slice a b c,.func (.func 59) #[] #[.pointer (some (Addr.mk n1 0 none))]] w7 fun e w9=> ∃r10,e= .returned (.bool r10)∧
 cnd r10
 (K (.tuple #[.int .i64 0,.int .i64 1]) w9)
 (∃x11,w9.cell? (Addr.mk n1 0 none)=some (.pointer x11)∧
   ∃a12,x11=some a12∧∃x13p x13n x13c,w9.cell? (a12.add 1)=some (.slice x13p x13n x13c)∧
   cnd ((x13n:Int)==(262144:Int))
   (K (.tuple #[.int .i64 0,.int .i64 5]) w9)
   (Calls prog 61 #[.slice a b c] w9 fun e w14=> ∃r15p r15n r15c r16,e= .returned (.tuple #[.slice r15p r15n r15c,.bool r16])∧
     ∃x17,w14.cell? (Addr.mk n1 0 none)=some (.pointer x17)∧
     ∃a18,x17=some a18∧∃x19p x19n x19c,w14.cell? (a18.add 1)=some (.slice x19p x19n x19c)∧
     ∃W20:World→Prop,W20 w14.drew∧
     ∃x21,AtW W20 (Addr.mk n1 0 none) (.pointer x21)∧
     ∃x22,AtW W20 (Addr.mk n1 0 none) (.pointer x22)∧
     ∃a23,x22=some a23∧∃x24p x24n x24c,AtW W20 (a23.add 1) (.slice x24p x24n x24c)∧
     Calls prog 45 #[.slice a b c] w14.drew fun e w25=> ∃r26p r26n r26c,e= .returned (.slice r26p r26n r26c)∧
     W20 w25∧∀n27 w28,New (.cells #[.slice r26p r26n r26c,.slice r15p r15n r15c,.bool false] 92) w25 n27 w28→
     W20 w28∧∃w29 r30p r30n r30c,(Builtin.append_ #[84,84] 84 #[.slice x24p x24n x24c,.slice (some (Addr.mk n27 0 none)) 1 1]).run prog w28= .ok (.slice r30p r30n r30c) w29∧
     W20 w29∧∃a31,x21=some a31∧∃w32,StoreAt (a31.add 1) 0 [.slice r30p r30n r30c] w29 w32∧
     ∃x33,w32.cell? (Addr.mk n1 0 none)=some (.pointer x33)∧
     Calls prog 62 #[.pointer x33,.int .i64 (x19n:Int)] w32 fun e w34=>e= .returned (.tuple #[])∧
     K (.tuple #[.int .i64 (x19n:Int),.int .i64 0]) w34)))))
theorem prop_Prop_Add.calls {p_ a b c w R} (h:prop_Prop_Add.w p_ a b c w fun v w'=>R (.returned v) w'):Calls prog 38 #[.pointer p_,.slice a b c] w R:=
 calls_of mixed Tryz.func38 (by kernel_rfl) rfl (ann:=(.two .leaf (.two .leaf (.two .leaf (.two .leaf (.two .draw .leaf)))))) (F:=prop_Prop_Add.w p_ a b c w) (fun K=>by kernel_rfl) h
def prop_Prop_loosely.w (p_:Option Addr) (w:World) (K:Value→World→Prop):Prop:=
 ∀n1 w2,New (.cells #[.pointer p_] 60) w n1 w2→
 ∃x3,w2.cell? (Addr.mk n1 0 none)=some (.pointer x3)∧
 ∃a4,x3=some a4∧∃x5p x5n x5c,w2.cell? (a4.add 10)=some (.slice x5p x5n x5c)∧
 ∃I6:Option Addr→Nat→Nat→Int→Int→World→Nat→Prop,(∃k7,I6 none 0 0 (-1) 0 w2 k7)∧
 ∀k9p k9n k9c b_10 v11 w12 k7 (_:Fr),I6 k9p k9n k9c b_10 v11 w12 k7→
 cnd (decide (v11< (x5n:Int)))
  (ixK x5p x5n v11 1 fun a13=>
    ∃x14,w12.cell? a13=some (.int .i64 x14)∧
    cnd (decide (b_10≥(0:Int)))
    (∃x15,w12.cell? (Addr.mk n1 0 none)=some (.pointer x15)∧
      ∃a16,x15=some a16∧∃x17p x17n x17c,w12.cell? (a16.add 10)=some (.slice x17p x17n x17c)∧
      ixK x17p x17n v11 1 fun a18=>
      ∃x19,w12.cell? a18=some (.int .i64 x19)∧
      ∀n20 w21,New (.cells #[.int .i64 x19] 3) w12 n20 w21→
      ∃w22 r23p r23n r23c,(Builtin.append_ #[28,28] 28 #[.slice k9p k9n k9c,.slice (some (Addr.mk n20 0 none)) 1 1]).run prog w21= .ok (.slice r23p r23n r23c) w22∧
      ∃k8,k8<k7∧I6 r23p r23n r23c b_10 (i64.wrap (v11+ (1:Int))) w22 k8)
    (∃x24,w12.cell? (Addr.mk n1 0 none)=some (.pointer x24)∧
      ∃a25,x24=some a25∧∃x26p x26n x26c,w12.cell? (a25.add 1)=some (.slice x26p x26n x26c)∧
      ixK x26p x26n x14 3 fun a27=>
      ∃x28p x28n x28c,w12.cell? (a27.add 1)=some (.slice x28p x28n x28c)∧
      Calls prog 45 #[.slice x28p x28n x28c] w12 fun e w29=> ∃r30p r30n r30c,e= .returned (.slice r30p r30n r30c)∧
      Calls prog 63 #[.slice r30p r30n r30c,.func (.func 64) #[] #[.pointer (some (Addr.mk n1 0 none))]] w29 fun e w31=> ∃r32p r32n r32c,e= .returned (.slice r32p r32n r32c)∧
      cnd (decide ((r32n:Int)> (1:Int)))
      (∃x33,w31.cell? (Addr.mk n1 0 none)=some (.pointer x33)∧
        Calls prog 66 #[.pointer x33,.int .i64 x14] w31 fun e w34=>e= .returned (.tuple #[])∧
        ∃x35,w34.cell? (Addr.mk n1 0 none)=some (.pointer x35)∧
        Calls prog 67 #[.pointer x35,.int .i64 x14] w34 fun e w36=>e= .returned (.tuple #[])∧
        ∃k8,k8<k7∧I6 k9p k9n k9c b_10 (i64.wrap (v11+ (1:Int))) w36 k8)
      (∀n37 w38,New (.cells #[.int .i64 x14] 3) w31 n37 w38→
        ∃w39 r40p r40n r40c,(Builtin.append_ #[28,28] 28 #[.slice k9p k9n k9c,.slice (some (Addr.mk n37 0 none)) 1 1]).run prog w38= .ok (.slice r40p r40n r40c) w39∧
        cnd ((r32n:Int)==(0:Int))
        (∃k8,k8<k7∧I6 r40p r40n r40c x14 (i64.wrap (v11+ (1:Int))) w39 k8)
        (∃x41,w39.drew.cell? (Addr.mk n1 0 none)=some (.pointer x41)∧
          ixK r32p r32n 0 1 fun a42=>
          ∃x43,w39.drew.cell? a42=some (.int .i64 x43)∧
          Calls prog 65 #[.pointer x41,.int .i64 x43] w39.drew fun e w44=> ∃r45,e= .returned (.int .i8 r45)∧
          cnd (r45==(0:Int))
          (∃x46,w44.drew.cell? (Addr.mk n1 0 none)=some (.pointer x46)∧
            ixK r32p r32n 0 1 fun a47=>
            ∃x48,w44.drew.cell? a47=some (.int .i64 x48)∧
            Calls prog 68 #[.pointer x46,.int .i64 x48,.int .i64 x14] w44.drew fun e w49=>e= .returned (.tuple #[])∧
            ∃k8,k8<k7∧I6 r40p r40n r40c b_10 (i64.wrap (v11+ (1:Int))) w49 k8)
          (∃k8,k8<k7∧I6 r40p r40n r40c b_10 (i64.wrap (v11+ (1:Int))) w44 k8)))))
  (∃x50,w12.cell? (Addr.mk n1 0 none)=some (.pointer x50)∧
    ∃a51,x50=some a51∧∃w52,StoreAt (a51.add 10) 0 [.slice k9p k9n k9c] w12 w52∧
    K (.int .i64 b_10) w52)
theorem prop_Prop_loosely.calls {p_ w R} (h:prop_Prop_loosely.w p_ w fun v w'=>R (.returned v) w'):Calls prog 39 #[.pointer p_] w R:=
 calls_of mixed Tryz.func39 (by kernel_rfl) rfl (ann:=(.two .leaf (.two .leaf (.two .leaf (.two (.two .leaf (.one (.loop [(3,28),(4,3),(14,3)] .leaf))) .leaf))))) (F:=prop_Prop_loosely.w p_ w) (fun K=>by kernel_rfl) h
def prop_side.w (l_:Int) (w:World) (K:Value→World→Prop):Prop:=
 cnd (decide (l_< (0:Int)))
 (K (.int .i64 (i64.wrap ((i64.wrap ((-2)*l_))+ (1:Int)))) w)
 (K (.int .i64 (i64.wrap ((2:Int)*l_))) w)
theorem prop_side.calls {l_ w R} (h:prop_side.w l_ w fun v w'=>R (.returned v) w'):Calls prog 40 #[.int .i64 l_] w R:=
 calls_of mixed Tryz.func40 (by kernel_rfl) rfl (ann:= .leaf) (F:=prop_side.w l_ w) (fun K=>by kernel_rfl) h
def prop_Prop_visit.w (p_:Option Addr) (i_:Int) (a:Int) (w:World) (K:Value→World→Prop):Prop:=
 ∃a1,p_=some a1∧∃x2p x2n x2c,w.cell? (a1.add 1)=some (.slice x2p x2n x2c)∧
 ixK x2p x2n i_ 3 fun a3=>
 ∃x4p x4n x4c,w.cell? (a3.add 1)=some (.slice x4p x4n x4c)∧
 ∃J5:World→Prop,(ixK x4p x4n 0 1 fun a6=>
 ∃x7,w.cell? a6=some (.int .i64 x7)∧
 cnd (x7==a)
 (cnd (decide ((x4n:Int)> (1:Int)))
 (ixK x4p x4n 1 1 fun a8=>
   ∃x9,w.drew.cell? a8=some (.int .i64 x9)∧
   ixK x4p x4n 0 1 fun a10=>
   ∃x11,w.drew.cell? a10=some (.int .i64 x11)∧
   ixK x4p x4n 0 1 fun a12=>
   ∃w13,StoreAt a12 0 [.int .i64 x9] w.drew w13∧
   ixK x4p x4n 1 1 fun a14=>
   ∃w15,StoreAt a14 0 [.int .i64 x11] w13 w15∧
   J5 w15)
 (J5 w))
 (J5 w))∧
 ∀w16 (_:Fr),J5 w16→
 ixK x4p x4n 0 1 fun a17=>
 ∃x18,w16.cell? a17=some (.int .i64 x18)∧
 Calls prog 65 #[.pointer p_,.int .i64 x18] w16 fun e w19=> ∃r20,e= .returned (.int .i8 r20)∧
 cnd (decide (r20> (0:Int)))
 (K (.tuple #[.bool true,.bool false]) w19)
 (∃I21:Int→World→Nat→Prop,(∃k22,I21 2 w19 k22)∧
   ∀k_24 w25 k22 (_:Fr),I21 k_24 w25 k22→
   cnd (decide (k_24< (x4n:Int)))
    (ixK x4p x4n k_24 1 fun a26=>
      ∃x27,w25.cell? a26=some (.int .i64 x27)∧
      Calls prog 65 #[.pointer p_,.int .i64 x27] w25 fun e w28=> ∃r29,e= .returned (.int .i8 r29)∧
      cnd (decide (r29≥(0:Int)))
      (ixK x4p x4n k_24 1 fun a30=>
        ∃x31,w28.drew.cell? a30=some (.int .i64 x31)∧
        ixK x4p x4n 1 1 fun a32=>
        ∃x33,w28.drew.cell? a32=some (.int .i64 x33)∧
        ixK x4p x4n 1 1 fun a34=>
        ∃w35,StoreAt a34 0 [.int .i64 x31] w28.drew w35∧
        ixK x4p x4n k_24 1 fun a36=>
        ∃w37,StoreAt a36 0 [.int .i64 x33] w35 w37∧
        ∃W38:World→Prop,W38 w37.drew∧
        ∃a39,p_=some a39∧∃x40p x40n x40c,AtW W38 (a39.add 2) (.slice x40p x40n x40c)∧
        ixK x4p x4n 1 1 fun a41=>
        ∃x42,AtW W38 a41 (.int .i64 x42)∧
        ∃a43,p_=some a43∧∃x44p x44n x44c,AtW W38 (a43.add 2) (.slice x44p x44n x44c)∧
        ixK x4p x4n 1 1 fun a45=>
        ∃x46,AtW W38 a45 (.int .i64 x46)∧
        (Calls prog 40 #[.int .i64 x42] w37.drew fun e w47=> ∃r48,e= .returned (.int .i64 r48)∧
        W38 w47∧(Calls prog 40 #[.int .i64 x46] w47 fun e w49=> ∃r50,e= .returned (.int .i64 r50)∧
        W38 w49∧ixK x44p x44n r50 1 fun a51=>
        ∃x52p x52n x52c,AtW W38 a51 (.slice x52p x52n x52c)∧
        ∀n53 w54,New (.cells #[.int .i64 i_] 3) w49 n53 w54→
        W38 w54∧∃w55 r56p r56n r56c,(Builtin.append_ #[28,28] 28 #[.slice x52p x52n x52c,.slice (some (Addr.mk n53 0 none)) 1 1]).run prog w54= .ok (.slice r56p r56n r56c) w55∧
        W38 w55∧ixK x40p x40n r48 1 fun a57=>
        ∃w58,StoreAt a57 0 [.slice r56p r56n r56c] w55 w58∧
        K (.tuple #[.bool false,.bool false]) w58)∧
      (∀n59 w60,New (.cells #[.int .i64 i_] 3) w47 n59 w60→
        W38 w60∧Calls prog 40 #[.int .i64 x46] w60 fun e w61=> ∃r62,e= .returned (.int .i64 r62)∧
        W38 w61∧ixK x44p x44n r62 1 fun a63=>
        ∃x64p x64n x64c,AtW W38 a63 (.slice x64p x64n x64c)∧
        ∃w65 r66p r66n r66c,(Builtin.append_ #[28,28] 28 #[.slice x64p x64n x64c,.slice (some (Addr.mk n59 0 none)) 1 1]).run prog w61= .ok (.slice r66p r66n r66c) w65∧
        W38 w65∧ixK x40p x40n r48 1 fun a67=>
        ∃w68,StoreAt a67 0 [.slice r66p r66n r66c] w65 w68∧
        K (.tuple #[.bool false,.bool false]) w68))∧
      (∀n69 w70,New (.cells #[.int .i64 i_] 3) w37.drew n69 w70→
        W38 w70∧Calls prog 40 #[.int .i64 x42] w70 fun e w71=> ∃r72,e= .returned (.int .i64 r72)∧
        W38 w71∧Calls prog 40 #[.int .i64 x46] w71 fun e w73=> ∃r74,e= .returned (.int .i64 r74)∧
        W38 w73∧ixK x44p x44n r74 1 fun a75=>
        ∃x76p x76n x76c,AtW W38 a75 (.slice x76p x76n x76c)∧
        ∃w77 r78p r78n r78c,(Builtin.append_ #[28,28] 28 #[.slice x76p x76n x76c,.slice (some (Addr.mk n69 0 none)) 1 1]).run prog w73= .ok (.slice r78p r78n r78c) w77∧
        W38 w77∧ixK x40p x40n r72 1 fun a79=>
        ∃w80,StoreAt a79 0 [.slice r78p r78n r78c] w77 w80∧
        K (.tuple #[.bool false,.bool false]) w80))
      (∃k23,k23<k22∧I21 (i64.wrap (k_24+ (1:Int))) w28 k23))
    (ixK x4p x4n 0 1 fun a81=>
      ∃x82,w25.cell? a81=some (.int .i64 x82)∧
      Calls prog 65 #[.pointer p_,.int .i64 x82] w25 fun e w83=> ∃r84,e= .returned (.int .i8 r84)∧
      cnd (decide (r84< (0:Int)))
      (K (.tuple #[.bool true,.bool true]) w83)
      (ixK x4p x4n 0 1 fun a85=>
        ∃x86,w83.cell? a85=some (.int .i64 x86)∧
        Calls prog 68 #[.pointer p_,.int .i64 x86,.int .i64 i_] w83 fun e w87=>e= .returned (.tuple #[])∧
        K (.tuple #[.bool true,.bool false]) w87)))
theorem prop_Prop_visit.calls {p_ i_ a w R} (h:prop_Prop_visit.w p_ i_ a w fun v w'=>R (.returned v) w'):Calls prog 41 #[.pointer p_,.int .i64 i_,.int .i64 a] w R:=
 calls_of mixed Tryz.func41 (by kernel_rfl) rfl (ann:=(.two .leaf (.two .leaf (.cut [] .leaf (.two .leaf (.two (.two .leaf (.one (.loop [(9,3)] (.two .leaf (.two (.one (.two .leaf (.two (.two .leaf (.two .draw .leaf)) .leaf))) .leaf))))) .leaf)))))) (F:=prop_Prop_visit.w p_ i_ a w) (fun K=>by kernel_rfl) h
def heap_Heap_Pop.w (h_:Option Addr) (w:World) (K:Value→World→Prop):Prop:=
 Calls prog 69 #[.pointer h_] w fun e w1=> ∃r2 r3,e= .returned (.tuple #[.int .i64 r2,.bool r3])∧
 cnd (!r3)
 (K (.tuple #[.int .i64 0,.bool false]) w1)
 (∃a4,h_=some a4∧∃x5p x5n x5c,w1.cell? (a4.add 0)=some (.slice x5p x5n x5c)∧
   ∃a6,h_=some a6∧∃x7p x7n x7c,w1.cell? (a6.add 0)=some (.slice x7p x7n x7c)∧
   ixK x7p x7n (i64.wrap ((x5n:Int) - (1:Int))) 1 fun a8=>
   ∃x9,w1.cell? a8=some (.int .i64 x9)∧
   ∃a10,h_=some a10∧∃x11p x11n x11c,w1.cell? (a10.add 0)=some (.slice x11p x11n x11c)∧
   slK x11p x11n x11c 1 none (some (i64.wrap ((x5n:Int) - (1:Int)))) none fun s12p s12n s12c=>
   ∃a13,h_=some a13∧∃w14,StoreAt (a13.add 0) 0 [.slice s12p s12n s12c] w1 w14∧
   ∃a15,h_=some a15∧∃x16p x16n x16c,w14.cell? (a15.add 1)=some (.slice x16p x16n x16c)∧
   ixK x16p x16n r2 1 fun a17=>
   ∃w18,StoreAt a17 0 [.int .i64 0] w14 w18∧
   cnd (decide ((i64.wrap ((x5n:Int) - (1:Int)))> (0:Int)))
   (Calls prog 70 #[.pointer h_,.int .i64 0,.int .i64 x9] w18 fun e w19=>e= .returned (.tuple #[])∧
     Calls prog 71 #[.pointer h_,.int .i64 0] w19 fun e w20=>e= .returned (.tuple #[])∧
     K (.tuple #[.int .i64 r2,.bool true]) w20)
   (K (.tuple #[.int .i64 r2,.bool true]) w18))
theorem heap_Heap_Pop.calls {h_ w R} (h:heap_Heap_Pop.w h_ w fun v w'=>R (.returned v) w'):Calls prog 42 #[.pointer h_] w R:=
 calls_of mixed Tryz.func42 (by kernel_rfl) rfl (ann:= .leaf) (F:=heap_Heap_Pop.w h_ w) (fun K=>by kernel_rfl) h
def prop_Prop_Value.w (p_:Option Addr) (l_:Int) (w:World) (K:Value→World→Prop):Prop:=
 Calls prog 60 #[.pointer p_,.int .i64 l_] w fun e w1=> ∃r2,e= .returned (.bool r2)∧
 cnd (!r2)
 (K (.int .i64 0) w1)
 (Calls prog 65 #[.pointer p_,.int .i64 l_] w1 fun e w3=> ∃r4,e= .returned (.int .i8 r4)∧
   K (.int .i64 (i64.wrap r4)) w3)
theorem prop_Prop_Value.calls {p_ l_ w R} (h:prop_Prop_Value.w p_ l_ w fun v w'=>R (.returned v) w'):Calls prog 43 #[.pointer p_,.int .i64 l_] w R:=
 calls_of mixed Tryz.func43 (by kernel_rfl) rfl (ann:= .leaf) (F:=prop_Prop_Value.w p_ l_ w) (fun K=>by kernel_rfl) h
def prop_Prop_Decide.w (p_:Option Addr) (l_:Int) (w:World) (K:Value→World→Prop):Prop:=
 Calls prog 60 #[.pointer p_,.int .i64 l_] w fun e w1=> ∃r2,e= .returned (.bool r2)∧
 cnd (!r2)
 (K (.int .i64 1) w1)
 (Calls prog 65 #[.pointer p_,.int .i64 l_] w1 fun e w3=> ∃r4,e= .returned (.int .i8 r4)∧
 cnd (r4 !=(0:Int))
 (K (.int .i64 1) w3)
 (∃W5:World→Prop,W5 w3.drew∧
   ∃a6,p_=some a6∧∃x7p x7n x7c,AtW W5 (a6.add 7) (.slice x7p x7n x7c)∧
   ∃a8,p_=some a8∧∃x9p x9n x9c,AtW W5 (a8.add 6) (.slice x9p x9n x9c)∧
   ∃a10,p_=some a10∧∃x11p x11n x11c,AtW W5 (a10.add 8) (.slice x11p x11n x11c)∧
   ∃a12,p_=some a12∧∃x13,AtW W5 (a12.add 9) (.int .i64 x13)∧
   (∀n14 w15,New (.cells #[.int .i64 (x9n:Int)] 3) w3.drew n14 w15→
   W5 w15∧(∃w16 r17p r17n r17c,(Builtin.append_ #[28,28] 28 #[.slice x7p x7n x7c,.slice (some (Addr.mk n14 0 none)) 1 1]).run prog w15= .ok (.slice r17p r17n r17c) w16∧
   W5 w16∧∀n18 w19,New (.cells #[.int .i64 x13] 3) w16 n18 w19→
   W5 w19∧∃w20 r21p r21n r21c,(Builtin.append_ #[28,28] 28 #[.slice x11p x11n x11c,.slice (some (Addr.mk n18 0 none)) 1 1]).run prog w19= .ok (.slice r21p r21n r21c) w20∧
   ∃a22,p_=some a22∧∃w23,StoreAt (a22.add 7) 0 [.slice r17p r17n r17c] w20 w23∧
   ∃a24,p_=some a24∧∃w25,StoreAt (a24.add 8) 0 [.slice r21p r21n r21c] w23 w25∧
   Calls prog 68 #[.pointer p_,.int .i64 l_,.int .i64 (-1)] w25 fun e w26=>e= .returned (.tuple #[])∧
   K (.int .i64 0) w26)∧
 (∀n27 w28,New (.cells #[.int .i64 x13] 3) w15 n27 w28→
   W5 w28∧∃w29 r30p r30n r30c,(Builtin.append_ #[28,28] 28 #[.slice x7p x7n x7c,.slice (some (Addr.mk n14 0 none)) 1 1]).run prog w28= .ok (.slice r30p r30n r30c) w29∧
   W5 w29∧∃w31 r32p r32n r32c,(Builtin.append_ #[28,28] 28 #[.slice x11p x11n x11c,.slice (some (Addr.mk n27 0 none)) 1 1]).run prog w29= .ok (.slice r32p r32n r32c) w31∧
   ∃a33,p_=some a33∧∃w34,StoreAt (a33.add 7) 0 [.slice r30p r30n r30c] w31 w34∧
   ∃a35,p_=some a35∧∃w36,StoreAt (a35.add 8) 0 [.slice r32p r32n r32c] w34 w36∧
   Calls prog 68 #[.pointer p_,.int .i64 l_,.int .i64 (-1)] w36 fun e w37=>e= .returned (.tuple #[])∧
   K (.int .i64 0) w37))∧
 (∀n38 w39,New (.cells #[.int .i64 x13] 3) w3.drew n38 w39→
   W5 w39∧∀n40 w41,New (.cells #[.int .i64 (x9n:Int)] 3) w39 n40 w41→
   W5 w41∧∃w42 r43p r43n r43c,(Builtin.append_ #[28,28] 28 #[.slice x7p x7n x7c,.slice (some (Addr.mk n40 0 none)) 1 1]).run prog w41= .ok (.slice r43p r43n r43c) w42∧
   W5 w42∧∃w44 r45p r45n r45c,(Builtin.append_ #[28,28] 28 #[.slice x11p x11n x11c,.slice (some (Addr.mk n38 0 none)) 1 1]).run prog w42= .ok (.slice r45p r45n r45c) w44∧
   ∃a46,p_=some a46∧∃w47,StoreAt (a46.add 7) 0 [.slice r43p r43n r43c] w44 w47∧
   ∃a48,p_=some a48∧∃w49,StoreAt (a48.add 8) 0 [.slice r45p r45n r45c] w47 w49∧
   Calls prog 68 #[.pointer p_,.int .i64 l_,.int .i64 (-1)] w49 fun e w50=>e= .returned (.tuple #[])∧
   K (.int .i64 0) w50)))
theorem prop_Prop_Decide.calls {p_ l_ w R} (h:prop_Prop_Decide.w p_ l_ w fun v w'=>R (.returned v) w'):Calls prog 44 #[.pointer p_,.int .i64 l_] w R:=
 calls_of mixed Tryz.func44 (by kernel_rfl) rfl (ann:=(.two .leaf (.two .leaf (.two .draw .leaf)))) (F:=prop_Prop_Decide.w p_ l_ w) (fun K=>by kernel_rfl) h
def slices_Clone_int_int.w (a:Option Addr) (b:Nat) (c:Nat) (w:World) (K:Value→World→Prop):Prop:=
 cnd a.isNone
 (K (.slice none 0 0) w)
 (∀n1 w2,New (.cells #[] 3) w n1 w2→
   ∃w3 r4p r4n r4c,(Builtin.append_ #[28,28] 28 #[.slice (some (Addr.mk n1 0 none)) 0 0,.slice a b c]).run prog w2= .ok (.slice r4p r4n r4c) w3∧
   K (.slice r4p r4n r4c) w3)
theorem slices_Clone_int_int.calls {a b c w R} (h:slices_Clone_int_int.w a b c w fun v w'=>R (.returned v) w'):Calls prog 45 #[.slice a b c] w R:=
 calls_of mixed Tryz.func45 (by kernel_rfl) rfl (ann:= .leaf) (F:=slices_Clone_int_int.w a b c w) (fun K=>by kernel_rfl) h
def prop_Prop_Clause.w (p_:Option Addr) (i_:Int) (w:World) (K:Value→World→Prop):Prop:=
 Calls prog 72 #[.pointer p_,.int .i64 i_] w fun e w1=> ∃r2,e= .returned (.bool r2)∧
 cnd (!r2)
 (K (.tuple #[.slice none 0 0,.bool false]) w1)
 (∃a3,p_=some a3∧∃x4p x4n x4c,w1.cell? (a3.add 1)=some (.slice x4p x4n x4c)∧
   ixK x4p x4n i_ 3 fun a5=>
   ∃x6p x6n x6c,w1.cell? (a5.add 0)=some (.slice x6p x6n x6c)∧
   Calls prog 45 #[.slice x6p x6n x6c] w1 fun e w7=> ∃r8p r8n r8c,e= .returned (.slice r8p r8n r8c)∧
   K (.tuple #[.slice r8p r8n r8c,.bool true]) w7)
theorem prop_Prop_Clause.calls {p_ i_ w R} (h:prop_Prop_Clause.w p_ i_ w fun v w'=>R (.returned v) w'):Calls prog 46 #[.pointer p_,.int .i64 i_] w R:=
 calls_of mixed Tryz.func46 (by kernel_rfl) rfl (ann:= .leaf) (F:=prop_Prop_Clause.w p_ i_ w) (fun K=>by kernel_rfl) h
def cdcl_search_study.w (x0_:Option Addr) (a:Option Addr) (b:Nat) (c:Nat) (w:World) (K:Value→World→Prop):Prop:=
 Calls prog 73 #[.pointer x0_,.slice a b c] w fun e w1=> ∃r2p r2n r2c r3p r3n r3c,e= .returned (.tuple #[.slice r2p r2n r2c,.slice r3p r3n r3c])∧
 Calls prog 74 #[.slice r2p r2n r2c,.slice a b c] w1 fun e w4=> ∃r5p r5n r5c r6,e= .returned (.tuple #[.slice r5p r5n r5c,.int .i64 r6])∧
 cnd (r6 !=(0:Int))
 (Calls prog 75 #[.pointer x0_] w4 fun e w7=> ∃r8p r8n r8c r9 r10,e= .returned (.tuple #[.slice r8p r8n r8c,.int .i64 r9,.int .i64 r10])∧
   K (.tuple #[.slice r8p r8n r8c,.int .i64 r9,.int .i64 r10]) w7)
 (Calls prog 76 #[.slice r2p r2n r2c,.slice r5p r5n r5c] w4 fun e w11=> ∃r12p r12n r12c,e= .returned (.slice r12p r12n r12c)∧
   Calls prog 77 #[.slice r2p r2n r2c,.slice r12p r12n r12c] w11 fun e w13=> ∃r14,e= .returned (.int .i64 r14)∧
   cnd (decide (r14< (0:Int)))
   (K (.tuple #[.slice r12p r12n r12c,.int .i64 0,.int .i64 0]) w13)
   (∃W15:World→Prop,W15 w13.drew∧
     ixK r3p r3n r14 1 fun a16=>
     ∃x17,AtW W15 a16 (.int .i64 x17)∧
     Calls prog 78 #[.slice r2p r2n r2c,.slice r12p r12n r12c] w13.drew fun e w18=> ∃r19,e= .returned (.int .i64 r19)∧
     W15 w18∧K (.tuple #[.slice r12p r12n r12c,.int .i64 x17,.int .i64 r19]) w18))
theorem cdcl_search_study.calls {x0_ a b c w R} (h:cdcl_search_study.w x0_ a b c w fun v w'=>R (.returned v) w'):Calls prog 47 #[.pointer x0_,.slice a b c] w R:=
 calls_of mixed Tryz.func47 (by kernel_rfl) rfl (ann:=(.two .leaf (.two .leaf (.two .leaf (.two .leaf (.two .leaf (.two .leaf (.two .leaf (.two .draw .leaf))))))))) (F:=cdcl_search_study.w x0_ a b c w) (fun K=>by kernel_rfl) h
def heap_Heap_Bump.w (h_:Option Addr) (v_:Int) (w:World) (K:Value→World→Prop):Prop:=
 Calls prog 79 #[.pointer h_,.int .i64 v_] w fun e w1=> ∃r2,e= .returned (.bool r2)∧
 cnd (!r2)
 (K (.int .i64 1) w1)
 (∃a3,h_=some a3∧∃x4p x4n x4c,w1.drew.cell? (a3.add 2)=some (.slice x4p x4n x4c)∧
   ixK x4p x4n v_ 1 fun a5=>
   ∃x6,w1.drew.cell? a5=some (.int .i64 x6)∧
   ∃a7,h_=some a7∧∃x8,w1.drew.cell? (a7.add 3)=some (.int .i64 x8)∧
   ixK x4p x4n v_ 1 fun a9=>
   ∃w10,StoreAt a9 0 [.int .i64 (i64.wrap (x6+x8))] w1.drew w10∧
   ∃a11,h_=some a11∧∃x12p x12n x12c,w10.cell? (a11.add 1)=some (.slice x12p x12n x12c)∧
   ixK x12p x12n v_ 1 fun a13=>
   ∃x14,w10.cell? a13=some (.int .i64 x14)∧
   cnd (decide (x14> (0:Int)))
   (∃a15,h_=some a15∧∃x16p x16n x16c,w10.cell? (a15.add 1)=some (.slice x16p x16n x16c)∧
     ixK x16p x16n v_ 1 fun a17=>
     ∃x18,w10.cell? a17=some (.int .i64 x18)∧
     Calls prog 80 #[.pointer h_,.int .i64 (i64.wrap (x18 - (1:Int)))] w10 fun e w19=>e= .returned (.tuple #[])∧
     Calls prog 81 #[.pointer h_,.int .i64 v_] w19 fun e w20=>e= .returned (.tuple #[])∧
     K (.int .i64 0) w20)
   (Calls prog 81 #[.pointer h_,.int .i64 v_] w10 fun e w21=>e= .returned (.tuple #[])∧
     K (.int .i64 0) w21))
theorem heap_Heap_Bump.calls {h_ v_ w R} (h:heap_Heap_Bump.w h_ v_ w fun v w'=>R (.returned v) w'):Calls prog 48 #[.pointer h_,.int .i64 v_] w R:=
 calls_of mixed Tryz.func48 (by kernel_rfl) rfl (ann:= .leaf) (F:=heap_Heap_Bump.w h_ v_ w) (fun K=>by kernel_rfl) h
def heap_Heap_Decay.w (h_:Option Addr) (w:World) (K:Value→World→Prop):Prop:=
 cnd h_.isNone
 (K (.tuple #[]) w)
 (∃a1,h_=some a1∧∃x2p x2n x2c,w.cell? (a1.add 1)=some (.slice x2p x2n x2c)∧
 cnd x2p.isNone
 (K (.tuple #[]) w)
 (∃a3,h_=some a3∧∃x4,w.drew.cell? (a3.add 3)=some (.int .i64 x4)∧
   ∃a5,h_=some a5∧∃x6,w.drew.cell? (a5.add 3)=some (.int .i64 x6)∧
   (16:Int)≠0∧∃a7,h_=some a7∧∃w8,StoreAt (a7.add 3) 0 [.int .i64 (i64.wrap (x4+ (i64.wrap ((i64.wrap (x6.tdiv (16:Int)))+ (1:Int)))))] w.drew w8∧
   Calls prog 81 #[.pointer h_,.int .i64 0] w8 fun e w9=>e= .returned (.tuple #[])∧
   K (.tuple #[]) w9))
theorem heap_Heap_Decay.calls {h_ w R} (h:heap_Heap_Decay.w h_ w fun v w'=>R (.returned v) w'):Calls prog 49 #[.pointer h_] w R:=
 calls_of mixed Tryz.func49 (by kernel_rfl) rfl (ann:= .leaf) (F:=heap_Heap_Decay.w h_ w) (fun K=>by kernel_rfl) h
def cdcl_search_back.w (x0_:Option Addr) (a:Int) (w:World) (K:Value→World→Prop):Prop:=
 ∃a1,x0_=some a1∧∃x2,w.cell? (a1.add 5)=some (.pointer x2)∧
 Calls prog 82 #[.pointer x2] w fun e w3=> ∃r4p r4n r4c,e= .returned (.slice r4p r4n r4c)∧
 ∃a5,x0_=some a5∧∃x6,w3.cell? (a5.add 5)=some (.pointer x6)∧
 Calls prog 83 #[.pointer x6,.int .i64 a] w3 fun e w7=>e= .returned (.tuple #[])∧
 ∃a8,x0_=some a8∧∃x9,w7.cell? (a8.add 5)=some (.pointer x9)∧
 Calls prog 82 #[.pointer x9] w7 fun e w10=> ∃r11p r11n r11c,e= .returned (.slice r11p r11n r11c)∧
 slK r4p r4n r4c 1 (some (r11n:Int)) none none fun s12p s12n s12c=>
 ∃I13:Int→World→Nat→Prop,(∃k14,I13 0 w10 k14)∧
 ∀v16 w17 k14 (_:Fr),I13 v16 w17 k14→
 cnd (decide (v16< (s12n:Int)))
  (ixK s12p s12n v16 1 fun a18=>
    ∃x19,w17.cell? a18=some (.int .i64 x19)∧
    ∃a20,x0_=some a20∧∃x21p x21n x21c,w17.cell? (a20.add 7)=some (.slice x21p x21n x21c)∧
    ixK x21p x21n (imax x19 (i64.wrap (0 - x19))) 1 fun a22=>
    ∃w23,StoreAt a22 0 [.int .i64 x19] w17 w23∧
    ∃a24,x0_=some a24∧∃x25,w23.cell? (a24.add 6)=some (.pointer x25)∧
    Calls prog 84 #[.pointer x25,.int .i64 (imax x19 (i64.wrap (0 - x19)))] w23 fun e w26=> ∃r27,e= .returned (.int .i64 r27)∧
    ∃k15,k15<k14∧I13 (i64.wrap (v16+ (1:Int))) w26 k15)
  (K (.tuple #[]) w17)
theorem cdcl_search_back.calls {x0_ a w R} (h:cdcl_search_back.w x0_ a w fun v w'=>R (.returned v) w'):Calls prog 50 #[.pointer x0_,.int .i64 a] w R:=
 calls_of mixed Tryz.func50 (by kernel_rfl) rfl (ann:=(.two .leaf (.two .leaf (.two .leaf (.one (.loop [(28,3)] .leaf)))))) (F:=cdcl_search_back.w x0_ a w) (fun K=>by kernel_rfl) h
def cdcl_search_add.w (x0_:Option Addr) (a:Option Addr) (b:Nat) (c:Nat) (d:Int) (w:World) (K:Value→World→Prop):Prop:=
 ∃a1,x0_=some a1∧∃x2,w.cell? (a1.add 5)=some (.pointer x2)∧
 Calls prog 38 #[.pointer x2,.slice a b c] w fun e w3=> ∃r4 r5,e= .returned (.tuple #[.int .i64 r4,.int .i64 r5])∧
 cnd (r5 !=(0:Int))
 (Calls prog 85 #[.pointer x0_] w3 fun e w6=>e= .returned (.tuple #[])∧
   ∃a7,x0_=some a7∧∃x8,w6.cell? (a7.add 5)=some (.pointer x8)∧
   Calls prog 38 #[.pointer x8,.slice a b c] w6 fun e w9=> ∃r10 r11,e= .returned (.tuple #[.int .i64 r10,.int .i64 r11])∧
   cnd (decide ((b:Int)> (1:Int)))
   (∃a12,x0_=some a12∧∃x13p x13n x13c,w9.cell? (a12.add 11)=some (.slice x13p x13n x13c)∧
     ∀n14 w15,New (.cells #[.int .i64 r10,.slice a b c,.int .i64 d,.int .i64 (b:Int),.bool false] 128) w9 n14 w15→
     ∃w16 r17p r17n r17c,(Builtin.append_ #[64,64] 64 #[.slice x13p x13n x13c,.slice (some (Addr.mk n14 0 none)) 1 1]).run prog w15= .ok (.slice r17p r17n r17c) w16∧
     ∃a18,x0_=some a18∧∃w19,StoreAt (a18.add 11) 0 [.slice r17p r17n r17c] w16 w19∧
     K (.tuple #[]) w19)
   (∃a20,x0_=some a20∧∃x21p x21n x21c,w9.cell? (a20.add 12)=some (.slice x21p x21n x21c)∧
     ∀n22 w23,New (.cells #[.slice a b c] 28) w9 n22 w23→
     ∃w24 r25p r25n r25c,(Builtin.append_ #[23,23] 23 #[.slice x21p x21n x21c,.slice (some (Addr.mk n22 0 none)) 1 1]).run prog w23= .ok (.slice r25p r25n r25c) w24∧
     ∃a26,x0_=some a26∧∃w27,StoreAt (a26.add 12) 0 [.slice r25p r25n r25c] w24 w27∧
     K (.tuple #[]) w27))
 (cnd (decide ((b:Int)> (1:Int)))
   (∃a28,x0_=some a28∧∃x29p x29n x29c,w3.cell? (a28.add 11)=some (.slice x29p x29n x29c)∧
     ∀n30 w31,New (.cells #[.int .i64 r4,.slice a b c,.int .i64 d,.int .i64 (b:Int),.bool false] 128) w3 n30 w31→
     ∃w32 r33p r33n r33c,(Builtin.append_ #[64,64] 64 #[.slice x29p x29n x29c,.slice (some (Addr.mk n30 0 none)) 1 1]).run prog w31= .ok (.slice r33p r33n r33c) w32∧
     ∃a34,x0_=some a34∧∃w35,StoreAt (a34.add 11) 0 [.slice r33p r33n r33c] w32 w35∧
     K (.tuple #[]) w35)
   (∃a36,x0_=some a36∧∃x37p x37n x37c,w3.cell? (a36.add 12)=some (.slice x37p x37n x37c)∧
     ∀n38 w39,New (.cells #[.slice a b c] 28) w3 n38 w39→
     ∃w40 r41p r41n r41c,(Builtin.append_ #[23,23] 23 #[.slice x37p x37n x37c,.slice (some (Addr.mk n38 0 none)) 1 1]).run prog w39= .ok (.slice r41p r41n r41c) w40∧
     ∃a42,x0_=some a42∧∃w43,StoreAt (a42.add 12) 0 [.slice r41p r41n r41c] w40 w43∧
     K (.tuple #[]) w43))
theorem cdcl_search_add.calls {x0_ a b c d w R} (h:cdcl_search_add.w x0_ a b c d w fun v w'=>R (.returned v) w'):Calls prog 51 #[.pointer x0_,.slice a b c,.int .i64 d] w R:=
 calls_of mixed Tryz.func51 (by kernel_rfl) rfl (ann:= .leaf) (F:=cdcl_search_add.w x0_ a b c d w) (fun K=>by kernel_rfl) h
def luby_Tick.w (p_0:Int) (p_1:Int) (p_2:Int) (w:World) (K:Value→World→Prop):Prop:=
 ∀n1 w2,New (.cells #[.int .i64 p_0,.int .i64 p_1,.int .i64 p_2] 63) w n1 w2→
 ∀n3 w4,New (.cells #[.int .i64 0,.int .i64 0,.int .i64 0] 63) w2 n3 w4→
 ∃x5 x6 x7,CellsAt w4 (Addr.mk n1 0 none) 0 [.int .i64 x5,.int .i64 x6,.int .i64 x7]∧
 Calls prog 86 #[.agg #[.int .i64 x5,.int .i64 x6,.int .i64 x7]] w4 fun e w8=> ∃r9,e= .returned (.int .i64 r9)∧
 cnd (r9 !=(0:Int))
 (∃w10,StoreAt (Addr.mk n3 0 none) 0 [.int .i64 0,.int .i64 0,.int .i64 0] w8 w10∧
   ∃x11 x12 x13,CellsAt w10 (Addr.mk n3 0 none) 0 [.int .i64 x11,.int .i64 x12,.int .i64 x13]∧
   K (.tuple #[.agg #[.int .i64 x11,.int .i64 x12,.int .i64 x13],.bool false]) w10)
 (∃x14,w8.cell? ((Addr.mk n1 0 none).add 2)=some (.int .i64 x14)∧
   ∃w15,StoreAt ((Addr.mk n1 0 none).add 2) 0 [.int .i64 (i64.wrap (x14 - (1:Int)))] w8 w15∧
   ∃x16,w15.cell? ((Addr.mk n1 0 none).add 2)=some (.int .i64 x16)∧
   cnd (decide (x16> (0:Int)))
   (∃x17 x18 x19,CellsAt w15 (Addr.mk n1 0 none) 0 [.int .i64 x17,.int .i64 x18,.int .i64 x19]∧
     ∃w20,StoreAt (Addr.mk n3 0 none) 0 [.int .i64 x17,.int .i64 x18,.int .i64 x19] w15 w20∧
     ∃x21 x22 x23,CellsAt w20 (Addr.mk n3 0 none) 0 [.int .i64 x21,.int .i64 x22,.int .i64 x23]∧
     K (.tuple #[.agg #[.int .i64 x21,.int .i64 x22,.int .i64 x23],.bool false]) w20)
   (∃x24,w15.cell? ((Addr.mk n1 0 none).add 1)=some (.int .i64 x24)∧
     (1073741824:Int)≠0∧∃w25,StoreAt ((Addr.mk n1 0 none).add 1) 0 [.int .i64 (i64.wrap ((x24.tmod (1073741824:Int))+ (1:Int)))] w15 w25∧
     ∃x26,w25.drew.cell? ((Addr.mk n1 0 none).add 1)=some (.int .i64 x26)∧
     (∃x27,w25.drew.cell? ((Addr.mk n1 0 none).add 0)=some (.int .i64 x27)∧
     Calls prog 87 #[.int .i64 x26] w25.drew fun e w28=> ∃r29,e= .returned (.int .i64 r29)∧
     ∃w30,StoreAt ((Addr.mk n1 0 none).add 2) 0 [.int .i64 (i64.wrap (x27*r29))] w28 w30∧
     ∃x31 x32 x33,CellsAt w30 (Addr.mk n1 0 none) 0 [.int .i64 x31,.int .i64 x32,.int .i64 x33]∧
     ∃w34,StoreAt (Addr.mk n3 0 none) 0 [.int .i64 x31,.int .i64 x32,.int .i64 x33] w30 w34∧
     ∃x35 x36 x37,CellsAt w34 (Addr.mk n3 0 none) 0 [.int .i64 x35,.int .i64 x36,.int .i64 x37]∧
     K (.tuple #[.agg #[.int .i64 x35,.int .i64 x36,.int .i64 x37],.bool true]) w34)∧
   (Calls prog 87 #[.int .i64 x26] w25.drew fun e w38=> ∃r39,e= .returned (.int .i64 r39)∧
     ∃x40,w38.cell? ((Addr.mk n1 0 none).add 0)=some (.int .i64 x40)∧
     ∃w41,StoreAt ((Addr.mk n1 0 none).add 2) 0 [.int .i64 (i64.wrap (x40*r39))] w38 w41∧
     ∃x42 x43 x44,CellsAt w41 (Addr.mk n1 0 none) 0 [.int .i64 x42,.int .i64 x43,.int .i64 x44]∧
     ∃w45,StoreAt (Addr.mk n3 0 none) 0 [.int .i64 x42,.int .i64 x43,.int .i64 x44] w41 w45∧
     ∃x46 x47 x48,CellsAt w45 (Addr.mk n3 0 none) 0 [.int .i64 x46,.int .i64 x47,.int .i64 x48]∧
     K (.tuple #[.agg #[.int .i64 x46,.int .i64 x47,.int .i64 x48],.bool true]) w45)))
theorem luby_Tick.calls {p_0 p_1 p_2 w R} (h:luby_Tick.w p_0 p_1 p_2 w fun v w'=>R (.returned v) w'):Calls prog 52 #[.agg #[.int .i64 p_0,.int .i64 p_1,.int .i64 p_2]] w R:=
 calls_of mixed Tryz.func52 (by kernel_rfl) rfl (ann:= .leaf) (F:=luby_Tick.w p_0 p_1 p_2 w) (fun K=>by kernel_rfl) h
end Go.Proofs.YtddffgjagppimaaGreat.W
