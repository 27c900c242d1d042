/- The functions that the statements reach, printed as what the frame asks of them, each checked by the kernel against the loaded text. -/
import Derived.Test.YtbdghpjnifjlmaaGreatGenCert0
namespace Go.Proofs.YtbdghpjnifjlmaaGreat.W
open Go Go.Fw Go.Proofs
open Go.Proofs.Tryz (prog)
open Go.IntKind (i64)
set_option maxRecDepth 100000
def prop_Prop_Levels.w (p_:Option Addr) (w:World) (K:Value→World→Prop):Prop:=
 cnd p_.isNone
 (K (.int .i64 0) w)
 (∃a1,p_=some a1∧∃x2p x2n x2c,w.cell? (a1.add 7)=some (.slice x2p x2n x2c)∧
   K (.int .i64 (x2n:Int)) w)
theorem prop_Prop_Levels.calls {p_ w R} (h:prop_Prop_Levels.w p_ w fun v w'=>R (.returned v) w'):Calls prog 67 #[.pointer p_] w R:=
 calls_of mixed Tryz.func67 (by kernel_rfl) rfl (ann:= .leaf) (F:=prop_Prop_Levels.w p_ w) (fun K=>by kernel_rfl) h
def cdcl_search_told.w (x0_:Option Addr) (a:Option Addr) (b:Nat) (c:Nat) (w:World) (K:Value→World→Prop):Prop:=
 ∃W1:World→Prop,W1 w.drew∧
 ∃a2,x0_=some a2∧∃x3p x3n x3c,AtW W1 ((a2.add 14).add 2) (.slice x3p x3n x3c)∧
 Calls prog 79 #[.slice a b c] w.drew fun e w4=> ∃r5p r5n r5c,e= .returned (.slice r5p r5n r5c)∧
 W1 w4∧∀n6 w7,New (.cells #[.bool false,.slice r5p r5n r5c] 58) w4 n6 w7→
 W1 w7∧∃w8 r9p r9n r9c,(Builtin.append_ #[26,26] 26 #[.slice x3p x3n x3c,.slice (some (Addr.mk n6 0 none)) 1 1]).run prog w7= .ok (.slice r9p r9n r9c) w8∧
 ∃a10,x0_=some a10∧∃w11,StoreAt ((a10.add 14).add 2) 0 [.slice r9p r9n r9c] w8 w11∧
 K (.tuple #[]) w11
theorem cdcl_search_told.calls {x0_ a b c w R} (h:cdcl_search_told.w x0_ a b c w fun v w'=>R (.returned v) w'):Calls prog 68 #[.pointer x0_,.slice a b c] w R:=
 calls_of mixed Tryz.func68 (by kernel_rfl) rfl (ann:= .draw) (F:=cdcl_search_told.w x0_ a b c w) (fun K=>by kernel_rfl) h
def fathomref01_Lit.w (l_:Int) (w:World) (K:Value→World→Prop):Prop:=
 cnd (l_ !=(0:Int))
 (cnd (decide (l_≥(-1048576)))
 (K (.bool (decide (l_≤(1048576:Int)))) w)
 (K (.bool false) w))
 (K (.bool false) w)
theorem fathomref01_Lit.calls {l_ w R} (h:fathomref01_Lit.w l_ w fun v w'=>R (.returned v) w'):Calls prog 70 #[.int .i64 l_] w R:=
 calls_of mixed Tryz.func70 (by kernel_rfl) rfl (ann:= .leaf) (F:=fathomref01_Lit.w l_ w) (fun K=>by kernel_rfl) h
def drat_Plain.w (f_0:Int) (f1p:Option Addr) (f1n:Nat) (f1c:Nat) (a:Option Addr) (b:Nat) (c:Nat) (w:World) (K:Value→World→Prop):Prop:=
 ∀n1 w2,New (.cells #[.int .i64 f_0,.slice f1p f1n f1c] 24) w n1 w2→
 ∃x3 x4p x4n x4c,CellsAt w2 (Addr.mk n1 0 none) 0 [.int .i64 x3,.slice x4p x4n x4c]∧
 Calls prog 25 #[.agg #[.int .i64 x3,.slice x4p x4n x4c]] w2 fun e w5=> ∃r6,e= .returned (.int .i64 r6)∧
 cnd (r6 !=(0:Int))
 (K (.bool false) w5)
 (Calls prog 26 #[.slice a b c] w5 fun e w7=> ∃r8,e= .returned (.int .i64 r8)∧
 cnd (r8 !=(0:Int))
 (K (.bool false) w7)
 (Calls prog 72 #[.slice a b c] w7 fun e w9=> ∃r10,e= .returned (.int .i64 r10)∧
   cnd (decide (r10< (0:Int)))
   (K (.bool false) w9)
   (∃x11 x12p x12n x12c,CellsAt w9 (Addr.mk n1 0 none) 0 [.int .i64 x11,.slice x12p x12n x12c]∧
     Calls prog 119 #[.agg #[.int .i64 x11,.slice x12p x12n x12c],.slice a b c] w9 fun e w13=> ∃r14,e= .returned (.int .i64 r14)∧
     ∃x15 x16p x16n x16c,CellsAt w13 (Addr.mk n1 0 none) 0 [.int .i64 x15,.slice x16p x16n x16c]∧
     Calls prog 73 #[.agg #[.int .i64 x15,.slice x16p x16n x16c]] w13 fun e w17=> ∃r18p r18n r18c,e= .returned (.slice r18p r18n r18c)∧
     slK a b c 2 none (some (i64.wrap (r10+ (1:Int)))) none fun s19p s19n s19c=>
     ∃I20:Option Addr→Nat→Nat→Int→World→Nat→Prop,(∃k21,I20 r18p r18n r18c 0 w17 k21)∧
     ∀h23p h23n h23c v24 w25 k21 (_:Fr),I20 h23p h23n h23c v24 w25 k21→
     cnd (decide (v24< (s19n:Int)))
      (ixK s19p s19n v24 2 fun a26=>
        ∃x27 x28p x28n x28c,CellsAt w25 a26 0 [.bool x27,.slice x28p x28n x28c]∧
        ∀n29 w30,New (.cells #[.bool false,.slice none 0 0] 58) w25 n29 w30→
        ∃w31,StoreAt (Addr.mk n29 0 none) 0 [.bool x27,.slice x28p x28n x28c] w30 w31∧
        ∃x32,w31.cell? ((Addr.mk n29 0 none).add 0)=some (.bool x32)∧
        cnd x32
        (∃x33p x33n x33c,w31.cell? ((Addr.mk n29 0 none).add 1)=some (.slice x33p x33n x33c)∧
          Calls prog 74 #[.slice h23p h23n h23c,.slice x33p x33n x33c] w31 fun e w34=> ∃r35p r35n r35c,e= .returned (.slice r35p r35n r35c)∧
          ∃k22,k22<k21∧I20 r35p r35n r35c (i64.wrap (v24+ (1:Int))) w34 k22)
        (∃W36:World→Prop,W36 w31.drew∧
          cnd (decide ((h23n:Int)≥(262144:Int)))
          (K (.bool false) w31.drew)
          (Calls prog 77 #[.slice h23p h23n h23c] w31.drew fun e w37=> ∃r38p r38n r38c,e= .returned (.slice r38p r38n r38c)∧
          W36 w37∧∃x39p x39n x39c,AtW W36 ((Addr.mk n29 0 none).add 1) (.slice x39p x39n x39c)∧
          Calls prog 120 #[.agg #[.int .i64 r14,.slice r38p r38n r38c],.slice x39p x39n x39c] w37 fun e w40=> ∃r41,e= .returned (.bool r41)∧
          cnd (!r41)
          (K (.bool false) w40)
          (∃x42p x42n x42c,w40.cell? ((Addr.mk n29 0 none).add 1)=some (.slice x42p x42n x42c)∧
            ∀n43 w44,New (.cells #[.slice x42p x42n x42c,.bool true,.int .i64 v24] 126) w40 n43 w44→
            ∃w45 r46p r46n r46c,(Builtin.append_ #[121,121] 121 #[.slice h23p h23n h23c,.slice (some (Addr.mk n43 0 none)) 1 1]).run prog w44= .ok (.slice r46p r46n r46c) w45∧
            ∃k22,k22<k21∧I20 r46p r46n r46c (i64.wrap (v24+ (1:Int))) w45 k22))))
      (K (.bool true) w25))))
theorem drat_Plain.calls {f_0 f1p f1n f1c a b c w R} (h:drat_Plain.w f_0 f1p f1n f1c a b c w fun v w'=>R (.returned v) w'):Calls prog 71 #[.agg #[.int .i64 f_0,.slice f1p f1n f1c],.slice a b c] w R:=
 calls_of mixed Tryz.func71 (by kernel_rfl) rfl (ann:=(.two .leaf (.two .leaf (.two .leaf (.two .leaf (.two .leaf (.two .leaf (.two (.two .leaf (.one (.loop [(7,121),(32,3)] (.two .leaf (.two .leaf (.two (.one (.two .leaf (.two .leaf (.two (.two .draw .leaf) .leaf)))) .leaf)))))) .leaf)))))))) (F:=drat_Plain.w f_0 f1p f1n f1c a b c w) (fun K=>by kernel_rfl) h
def drat_end.w (a:Option Addr) (b:Nat) (c:Nat) (w:World) (K:Value→World→Prop):Prop:=
 Calls prog 94 #[.slice a b c,.func (.func 121) #[] #[]] w fun e w1=> ∃r2,e= .returned (.int .i64 r2)∧
 K (.int .i64 r2) w1
theorem drat_end.calls {a b c w R} (h:drat_end.w a b c w fun v w'=>R (.returned v) w'):Calls prog 72 #[.slice a b c] w R:=
 calls_of mixed Tryz.func72 (by kernel_rfl) rfl (ann:= .leaf) (F:=drat_end.w a b c w) (fun K=>by kernel_rfl) h
def drat_sources.w (f_0:Int) (f1p:Option Addr) (f1n:Nat) (f1c:Nat) (w:World) (K:Value→World→Prop):Prop:=
 ∀n1 w2,New (.cells #[.int .i64 f_0,.slice f1p f1n f1c] 24) w n1 w2→
 ∃x3p x3n x3c,w2.cell? ((Addr.mk n1 0 none).add 1)=some (.slice x3p x3n x3c)∧
 ∃I4:Option Addr→Nat→Nat→Int→World→Nat→Prop,(∃k5,I4 none 0 0 0 w2 k5)∧
 ∀l7p l7n l7c v8 w9 k5 (_:Fr),I4 l7p l7n l7c v8 w9 k5→
 cnd (decide (v8< (x3n:Int)))
  (ixK x3p x3n v8 1 fun a10=>
    ∃x11p x11n x11c,w9.cell? a10=some (.slice x11p x11n x11c)∧
    ∀n12 w13,New (.cells #[.slice x11p x11n x11c,.bool false,.int .i64 v8] 126) w9 n12 w13→
    ∃w14 r15p r15n r15c,(Builtin.append_ #[121,121] 121 #[.slice l7p l7n l7c,.slice (some (Addr.mk n12 0 none)) 1 1]).run prog w13= .ok (.slice r15p r15n r15c) w14∧
    ∃k6,k6<k5∧I4 r15p r15n r15c (i64.wrap (v8+ (1:Int))) w14 k6)
  (K (.slice l7p l7n l7c) w9)
theorem drat_sources.calls {f_0 f1p f1n f1c w R} (h:drat_sources.w f_0 f1p f1n f1c w fun v w'=>R (.returned v) w'):Calls prog 73 #[.agg #[.int .i64 f_0,.slice f1p f1n f1c]] w R:=
 calls_of mixed Tryz.func73 (by kernel_rfl) rfl (ann:=(.two .leaf (.two .leaf (.two (.two .leaf (.one (.loop [(3,121),(9,3)] .leaf))) .leaf)))) (F:=drat_sources.w f_0 f1p f1n f1c w) (fun K=>by kernel_rfl) h
def drat_gone.w (a:Option Addr) (b:Nat) (c:Nat) (d:Option Addr) (f:Nat) (g:Nat) (w:World) (K:Value→World→Prop):Prop:=
 Calls prog 122 #[.slice d f g] w fun e w1=> ∃r2p r2n r2c r3,e= .returned (.tuple #[.slice r2p r2n r2c,.bool r3])∧
 ∀n4 w5,New (.cells #[.slice none 0 0] 25) w1 n4 w5→
 ∃w6,StoreAt (Addr.mk n4 0 none) 0 [.slice r2p r2n r2c] w5 w6∧
 Calls prog 123 #[.slice a b c,.func (.func 124) #[] #[.pointer (some (Addr.mk n4 0 none))]] w6 fun e w7=> ∃r8,e= .returned (.int .i64 r8)∧
 cnd (decide (r8< (0:Int)))
 (K (.slice a b c) w7)
 (Calls prog 75 #[.slice a b c] w7 fun e w9=> ∃r10p r10n r10c,e= .returned (.slice r10p r10n r10c)∧
   Calls prog 126 #[.slice r10p r10n r10c,.int .i64 r8,.int .i64 (i64.wrap (r8+ (1:Int)))] w9 fun e w11=> ∃r12p r12n r12c,e= .returned (.slice r12p r12n r12c)∧
   K (.slice r12p r12n r12c) w11)
theorem drat_gone.calls {a b c d f g w R} (h:drat_gone.w a b c d f g w fun v w'=>R (.returned v) w'):Calls prog 74 #[.slice a b c,.slice d f g] w R:=
 calls_of mixed Tryz.func74 (by kernel_rfl) rfl (ann:= .leaf) (F:=drat_gone.w a b c d f g w) (fun K=>by kernel_rfl) h
def slices_Clone_fathom_drat_source_fathom_drat_source.w (a:Option Addr) (b:Nat) (c:Nat) (w:World) (K:Value→World→Prop):Prop:=
 cnd a.isNone
 (K (.slice none 0 0) w)
 (∀n1 w2,New (.cells #[] 126) w n1 w2→
   ∃w3 r4p r4n r4c,(Builtin.append_ #[121,121] 121 #[.slice (some (Addr.mk n1 0 none)) 0 0,.slice a b c]).run prog w2= .ok (.slice r4p r4n r4c) w3∧
   K (.slice r4p r4n r4c) w3)
theorem slices_Clone_fathom_drat_source_fathom_drat_source.calls {a b c w R} (h:slices_Clone_fathom_drat_source_fathom_drat_source.w a b c w fun v w'=>R (.returned v) w'):Calls prog 75 #[.slice a b c] w R:=
 calls_of mixed Tryz.func75 (by kernel_rfl) rfl (ann:= .leaf) (F:=slices_Clone_fathom_drat_source_fathom_drat_source.w a b c w) (fun K=>by kernel_rfl) h
def drat_needs.w (a:Option Addr) (b:Nat) (c:Nat) (d:Option Addr) (f:Nat) (g:Nat) (w:World) (K:Value→World→Prop):Prop:=
 Calls prog 127 #[.slice d f g] w fun e w1=> ∃r2,e= .returned (.bool r2)∧
 cnd r2
 (K (.tuple #[.slice none 0 0,.bool true]) w1)
 (Calls prog 129 #[.slice a b c] w1 fun e w3=> ∃r4p r4n r4c,e= .returned (.slice r4p r4n r4c)∧
   ∀n5 w6,New (.cells #[.slice d f g] 25) w3 n5 w6→
   ∃w7 r8p r8n r8c,(Builtin.append_ #[22,22] 22 #[.slice r4p r4n r4c,.slice (some (Addr.mk n5 0 none)) 1 1]).run prog w6= .ok (.slice r8p r8n r8c) w7∧
   Calls prog 128 #[.slice r8p r8n r8c] w7 fun e w9=> ∃r10 r11p r11n r11c,e= .returned (.tuple #[.int .i64 r10,.slice r11p r11n r11c])∧
   ∃J12:Int→World→Prop,(cnd ((f:Int)==(0:Int))
   (∀n13 w14,New (.cells #[.int .i64 (i64.wrap (r10+ (1:Int)))] 3) w9 n13 w14→
     ixK r11p r11n (i64.wrap ((r11n:Int) - (1:Int))) 1 fun a15=>
     ∃w16,StoreAt a15 0 [.slice (some (Addr.mk n13 0 none)) 1 1] w14 w16∧
     J12 (i64.wrap (r10+ (1:Int))) w16)
   (J12 r10 w9))∧
   ∀v_17 w18 (_:Fr),J12 v_17 w18→
   slK r11p r11n r11c 1 none (some (i64.wrap ((r11n:Int) - (1:Int)))) none fun s19p s19n s19c=>
   Calls prog 61 #[.agg #[.int .i64 v_17,.slice s19p s19n s19c]] w18 fun e w20=> ∃r21 r22,e= .returned (.tuple #[.pointer r21,.int .i64 r22])∧
   ixK r11p r11n (i64.wrap ((r11n:Int) - (1:Int))) 1 fun a23=>
   ∃x24p x24n x24c,w20.cell? a23=some (.slice x24p x24n x24c)∧
   ∀n25 w26,New (.cells #[.pointer r21,.slice x24p x24n x24c] 183) w20 n25 w26→
   Calls prog 130 #[.pointer (some (Addr.mk n25 0 none))] w26 fun e w27=> ∃r28,e= .returned (.bool r28)∧
   cnd (!r28)
   (K (.tuple #[.slice none 0 0,.bool false]) w27)
   (∀n29 w30,New (.map #[] 0) w27 n29 w30→
     ∃I31:Int→World→Nat→Prop,(∃k32,I31 0 w30 k32)∧
     ∀v34 w35 k32 (_:Fr),I31 v34 w35 k32→
     cnd (decide (v34< (b:Int)))
      (∃w36,(Instr.mapUpdate 147 (.map (some n29)) (.int .i64 v34) (.int .i64 v34)).run prog w35= .ok () w36∧
        ∃k33,k33<k32∧I31 (i64.wrap (v34+ (1:Int))) w36 k33)
      (∃I37:Option Addr→Option Nat→Int→World→Nat→Prop,(∃k38,I37 r21 (some n29) (i64.wrap ((b:Int) - (1:Int))) w35 k38)∧
        ∀p_40 l_41 i_42 w43 k38 (_:Fr),I37 p_40 l_41 i_42 w43 k38→
        cnd (decide (i_42≥(0:Int)))
         (∃w44 r45,(Instr.lookup 147 (.map l_41) (.int .i64 i_42) false).run prog w43= .ok (.int .i64 r45) w44∧
           Calls prog 131 #[.pointer p_40,.int .i64 r45] w44 fun e w46=> ∃r47,e= .returned (.int .i64 r47)∧
           Calls prog 130 #[.pointer (some (Addr.mk n25 0 none))] w46 fun e w48=> ∃r49,e= .returned (.bool r49)∧
           cnd r49
           (∃w50,(Builtin.delete_ #[147,3] 0 #[.map l_41,.int .i64 i_42]).run prog w48= .ok (.tuple #[]) w50∧
             ∃k39,k39<k38∧I37 p_40 l_41 (i64.wrap (i_42 - (1:Int))) w50 k39)
           (ixK r11p r11n i_42 1 fun a51=>
             ∃x52p x52n x52c,w48.cell? a51=some (.slice x52p x52n x52c)∧
             Calls prog 103 #[.pointer p_40,.slice x52p x52n x52c] w48 fun e w53=> ∃r54 r55,e= .returned (.tuple #[.int .i64 r54,.int .i64 r55])∧
             ∃w56,(Instr.mapUpdate 147 (.map l_41) (.int .i64 i_42) (.int .i64 r54)).run prog w53= .ok () w56∧
             cnd (r55 !=(0:Int))
             (Calls prog 132 #[.int .i64 v_17,.slice r11p r11n r11c,.map l_41] w56 fun e w57=> ∃r58,∃r59:Option Nat,e= .returned (.tuple #[.pointer r58,.map r59])∧
               ∃a60,(some (Addr.mk n25 0 none))=some a60∧∃w61,StoreAt (a60.add 0) 0 [.pointer r58] w57 w61∧
               ∃a62,(some (Addr.mk n25 0 none))=some a62∧∃x63,w61.cell? (a62.add 0)=some (.pointer x63)∧
               ∃k39,k39<k38∧I37 x63 r59 (i64.wrap (i_42 - (1:Int))) w61 k39)
             (∃k39,k39<k38∧I37 p_40 l_41 (i64.wrap (i_42 - (1:Int))) w56 k39)))
         (∃I64:Option Addr→Nat→Nat→Int→World→Nat→Prop,(∃k65,I64 none 0 0 0 w43 k65)∧
           ∀o67p o67n o67c v68 w69 k65 (_:Fr),I64 o67p o67n o67c v68 w69 k65→
           cnd (decide (v68< (b:Int)))
            (∃w70 r71 r72,(Instr.lookup 147 (.map l_41) (.int .i64 v68) true).run prog w69= .ok (.tuple #[.int .i64 r71,.bool r72]) w70∧
              cnd r72
              (∀n73 w74,New (.cells #[.int .i64 v68] 3) w70 n73 w74→
                ∃w75 r76p r76n r76c,(Builtin.append_ #[25,25] 25 #[.slice o67p o67n o67c,.slice (some (Addr.mk n73 0 none)) 1 1]).run prog w74= .ok (.slice r76p r76n r76c) w75∧
                ∃k66,k66<k65∧I64 r76p r76n r76c (i64.wrap (v68+ (1:Int))) w75 k66)
              (∃k66,k66<k65∧I64 o67p o67n o67c (i64.wrap (v68+ (1:Int))) w70 k66))
            (K (.tuple #[.slice o67p o67n o67c,.bool true]) w69)))))
theorem drat_needs.calls {a b c d f g w R} (h:drat_needs.w a b c d f g w fun v w'=>R (.returned v) w'):Calls prog 76 #[.slice a b c,.slice d f g] w R:=
 calls_of mixed Tryz.func76 (by kernel_rfl) rfl (ann:=(.two .leaf (.two .leaf (.two .leaf (.cut [(6,3)] .leaf (.two .leaf (.two .leaf (.two .leaf (.two .leaf (.two (.two .leaf (.one (.loop [(70,3)] .leaf))) (.two (.two .leaf (.one (.loop [(8,104),(11,147),(13,3)] .leaf))) (.two .leaf (.two (.two .leaf (.one (.loop [(17,25),(124,3)] .leaf))) .leaf))))))))))))) (F:=drat_needs.w a b c d f g w) (fun K=>by kernel_rfl) h
def drat_clauses.w (a:Option Addr) (b:Nat) (c:Nat) (w:World) (K:Value→World→Prop):Prop:=
 ∃I1:Option Addr→Nat→Nat→Int→World→Nat→Prop,(∃k2,I1 none 0 0 0 w k2)∧
 ∀o4p o4n o4c v5 w6 k2 (_:Fr),I1 o4p o4n o4c v5 w6 k2→
 cnd (decide (v5< (b:Int)))
  (ixK a b v5 3 fun a7=>
    ∃x8p x8n x8c x9 x10,CellsAt w6 a7 0 [.slice x8p x8n x8c,.bool x9,.int .i64 x10]∧
    ∀n11 w12,New (.cells #[.slice none 0 0,.bool false,.int .i64 0] 126) w6 n11 w12→
    ∃w13,StoreAt (Addr.mk n11 0 none) 0 [.slice x8p x8n x8c,.bool x9,.int .i64 x10] w12 w13∧
    ∃x14p x14n x14c,w13.cell? ((Addr.mk n11 0 none).add 0)=some (.slice x14p x14n x14c)∧
    ∀n15 w16,New (.cells #[.slice x14p x14n x14c] 25) w13 n15 w16→
    ∃w17 r18p r18n r18c,(Builtin.append_ #[22,22] 22 #[.slice o4p o4n o4c,.slice (some (Addr.mk n15 0 none)) 1 1]).run prog w16= .ok (.slice r18p r18n r18c) w17∧
    ∃k3,k3<k2∧I1 r18p r18n r18c (i64.wrap (v5+ (1:Int))) w17 k3)
  (K (.slice o4p o4n o4c) w6)
theorem drat_clauses.calls {a b c w R} (h:drat_clauses.w a b c w fun v w'=>R (.returned v) w'):Calls prog 77 #[.slice a b c] w R:=
 calls_of mixed Tryz.func77 (by kernel_rfl) rfl (ann:=(.two .leaf (.two .leaf (.two (.two .leaf (.one (.loop [(3,22),(8,3)] .leaf))) .leaf)))) (F:=drat_clauses.w a b c w) (fun K=>by kernel_rfl) h
def drat_Check.w (f_0:Int) (f1p:Option Addr) (f1n:Nat) (f1c:Nat) (a:Option Addr) (b:Nat) (c:Nat) (c0p:Option Addr) (c0n:Nat) (c0c:Nat) (c1p:Option Addr) (c1n:Nat) (c1c:Nat) (w:World) (K:Value→World→Prop):Prop:=
 ∀n1 w2,New (.cells #[.int .i64 f_0,.slice f1p f1n f1c] 24) w n1 w2→
 ∀n3 w4,New (.cells #[.slice a b c] 26) w2 n3 w4→
 ∀n5 w6,New (.cells #[.slice c0p c0n c0c,.slice c1p c1n c1c] 72) w4 n5 w6→
 ∃x7 x8p x8n x8c,CellsAt w6 (Addr.mk n1 0 none) 0 [.int .i64 x7,.slice x8p x8n x8c]∧
 Calls prog 25 #[.agg #[.int .i64 x7,.slice x8p x8n x8c]] w6 fun e w9=> ∃r10,e= .returned (.int .i64 r10)∧
 cnd (r10 !=(0:Int))
 (K (.int .i64 1) w9)
 (∃x11p x11n x11c,w9.cell? (Addr.mk n3 0 none)=some (.slice x11p x11n x11c)∧
 Calls prog 26 #[.slice x11p x11n x11c] w9 fun e w12=> ∃r13,e= .returned (.int .i64 r13)∧
 cnd (r13 !=(0:Int))
 (K (.int .i64 1) w12)
 (∃x14p x14n x14c,w12.cell? ((Addr.mk n5 0 none).add 0)=some (.slice x14p x14n x14c)∧
 ∃x15p x15n x15c,w12.cell? ((Addr.mk n1 0 none).add 1)=some (.slice x15p x15n x15c)∧
 Calls prog 133 #[.slice x14p x14n x14c,.int .i64 (x15n:Int)] w12 fun e w16=> ∃r17,e= .returned (.bool r17)∧
 cnd (!r17)
 (K (.int .i64 1) w16)
 (∃x18p x18n x18c,w16.cell? ((Addr.mk n5 0 none).add 1)=some (.slice x18p x18n x18c)∧
 ∃x19p x19n x19c,w16.cell? (Addr.mk n3 0 none)=some (.slice x19p x19n x19c)∧
 Calls prog 133 #[.slice x18p x18n x18c,.int .i64 (x19n:Int)] w16 fun e w20=> ∃r21,e= .returned (.bool r21)∧
 cnd (!r21)
 (K (.int .i64 1) w20)
 (∃x22p x22n x22c,w20.cell? ((Addr.mk n5 0 none).add 1)=some (.slice x22p x22n x22c)∧
   Calls prog 50 #[.slice x22p x22n x22c,.func (.func 134) #[] #[.pointer (some (Addr.mk n3 0 none))]] w20 fun e w23=> ∃r24,e= .returned (.bool r24)∧
   cnd r24
   (K (.int .i64 1) w23)
   (∃x25p x25n x25c,w23.cell? ((Addr.mk n5 0 none).add 0)=some (.slice x25p x25n x25c)∧
     ∃I26:Option Addr→Nat→Nat→Int→World→Nat→Prop,(∃k27,I26 none 0 0 0 w23 k27)∧
     ∀h29p h29n h29c v30 w31 k27 (_:Fr),I26 h29p h29n h29c v30 w31 k27→
     cnd (decide (v30< (x25n:Int)))
      (ixK x25p x25n v30 1 fun a32=>
        ∃x33,w31.cell? a32=some (.int .i64 x33)∧
        ∃x34p x34n x34c,w31.cell? ((Addr.mk n1 0 none).add 1)=some (.slice x34p x34n x34c)∧
        ixK x34p x34n x33 1 fun a35=>
        ∃x36p x36n x36c,w31.cell? a35=some (.slice x36p x36n x36c)∧
        ∀n37 w38,New (.cells #[.slice x36p x36n x36c] 25) w31 n37 w38→
        ∃w39 r40p r40n r40c,(Builtin.append_ #[22,22] 22 #[.slice h29p h29n h29c,.slice (some (Addr.mk n37 0 none)) 1 1]).run prog w38= .ok (.slice r40p r40n r40c) w39∧
        ∃k28,k28<k27∧I26 r40p r40n r40c (i64.wrap (v30+ (1:Int))) w39 k28)
      (∃x41 x42p x42n x42c,CellsAt w31 (Addr.mk n1 0 none) 0 [.int .i64 x41,.slice x42p x42n x42c]∧
        ∃x43p x43n x43c,w31.cell? (Addr.mk n3 0 none)=some (.slice x43p x43n x43c)∧
        Calls prog 119 #[.agg #[.int .i64 x41,.slice x42p x42n x42c],.slice x43p x43n x43c] w31 fun e w44=> ∃r45,e= .returned (.int .i64 r45)∧
        ∃x46p x46n x46c,w44.cell? ((Addr.mk n5 0 none).add 1)=some (.slice x46p x46n x46c)∧
        ∃I47:Option Addr→Nat→Nat→Bool→Int→World→Nat→Prop,(∃k48,I47 h29p h29n h29c false 0 w44 k48)∧
        ∀h50p h50n h50c e_51 v52 w53 k48 (_:Fr),I47 h50p h50n h50c e_51 v52 w53 k48→
        cnd (decide (v52< (x46n:Int)))
         (ixK x46p x46n v52 1 fun a54=>
           ∃x55,w53.cell? a54=some (.int .i64 x55)∧
           cnd (decide ((h50n:Int)> (262144:Int)))
           (K (.int .i64 7) w53)
           (∃x56p x56n x56c,w53.cell? (Addr.mk n3 0 none)=some (.slice x56p x56n x56c)∧
           ixK x56p x56n x55 2 fun a57=>
           ∃x58p x58n x58c,w53.cell? (a57.add 1)=some (.slice x58p x58n x58c)∧
           Calls prog 120 #[.agg #[.int .i64 r45,.slice h50p h50n h50c],.slice x58p x58n x58c] w53 fun e w59=> ∃r60,e= .returned (.bool r60)∧
           cnd (!r60)
           (K (.int .i64 7) w59)
           (∃x61p x61n x61c,w59.cell? (Addr.mk n3 0 none)=some (.slice x61p x61n x61c)∧
             ixK x61p x61n x55 2 fun a62=>
             ∃x63p x63n x63c,w59.cell? (a62.add 1)=some (.slice x63p x63n x63c)∧
             ∀n64 w65,New (.cells #[.slice x63p x63n x63c] 25) w59 n64 w65→
             ∃w66 r67p r67n r67c,(Builtin.append_ #[22,22] 22 #[.slice h50p h50n h50c,.slice (some (Addr.mk n64 0 none)) 1 1]).run prog w65= .ok (.slice r67p r67n r67c) w66∧
             cnd e_51
             (∃k49,k49<k48∧I47 r67p r67n r67c true (i64.wrap (v52+ (1:Int))) w66 k49)
             (∃x68p x68n x68c,w66.cell? (Addr.mk n3 0 none)=some (.slice x68p x68n x68c)∧
             ixK x68p x68n x55 2 fun a69=>
             ∃x70p x70n x70c,w66.cell? (a69.add 1)=some (.slice x70p x70n x70c)∧
             ∃k49,k49<k48∧I47 r67p r67n r67c ((x70n:Int)==(0:Int)) (i64.wrap (v52+ (1:Int))) w66 k49))))
         (cnd (!e_51)
           (K (.int .i64 7) w53)
           (K (.int .i64 0) w53))))))))
theorem drat_Check.calls {f_0 f1p f1n f1c a b c c0p c0n c0c c1p c1n c1c w R} (h:drat_Check.w f_0 f1p f1n f1c a b c c0p c0n c0c c1p c1n c1c w fun v w'=>R (.returned v) w'):Calls prog 78 #[.agg #[.int .i64 f_0,.slice f1p f1n f1c],.slice a b c,.agg #[.slice c0p c0n c0c,.slice c1p c1n c1c]] w R:=
 calls_of mixed Tryz.func78 (by kernel_rfl) rfl (ann:=(.two .leaf (.two .leaf (.two .leaf (.two .leaf (.two (.two .leaf (.one (.loop [(7,22),(46,3)] .leaf))) (.two .leaf (.two .leaf (.two (.two .leaf (.one (.loop [(7,22),(11,4),(65,3)] .leaf))) .leaf))))))))) (F:=drat_Check.w f_0 f1p f1n f1c a b c c0p c0n c0c c1p c1n c1c w) (fun K=>by kernel_rfl) h
def slices_Clone_int_int.w (a:Option Addr) (b:Nat) (c:Nat) (w:World) (K:Value→World→Prop):Prop:=
 cnd a.isNone
 (K (.slice none 0 0) w)
 (∀n1 w2,New (.cells #[] 3) w n1 w2→
   ∃w3 r4p r4n r4c,(Builtin.append_ #[25,25] 25 #[.slice (some (Addr.mk n1 0 none)) 0 0,.slice a b c]).run prog w2= .ok (.slice r4p r4n r4c) w3∧
   K (.slice r4p r4n r4c) w3)
theorem slices_Clone_int_int.calls {a b c w R} (h:slices_Clone_int_int.w a b c w fun v w'=>R (.returned v) w'):Calls prog 79 #[.slice a b c] w R:=
 calls_of mixed Tryz.func79 (by kernel_rfl) rfl (ann:= .leaf) (F:=slices_Clone_int_int.w a b c w) (fun K=>by kernel_rfl) h
def fathomref01_Taut.w (a:Option Addr) (b:Nat) (c:Nat) (w:World) (K:Value→World→Prop):Prop:=
 ∃I1:Int→World→Nat→Prop,(∃k2,I1 0 w k2)∧
 ∀i_4 w5 k2 (_:Fr),I1 i_4 w5 k2→
 cnd (decide (i_4< (b:Int)))
  (ixK a b i_4 1 fun a6=>
    ∃x7,w5.cell? a6=some (.int .i64 x7)∧
    Calls prog 135 #[.slice a b c,.int .i64 (i64.wrap (0 - x7))] w5 fun e w8=> ∃r9,e= .returned (.bool r9)∧
    cnd r9
    (K (.bool true) w8)
    (∃k3,k3<k2∧I1 (i64.wrap (i_4+ (1:Int))) w8 k3))
  (K (.bool false) w5)
theorem fathomref01_Taut.calls {a b c w R} (h:fathomref01_Taut.w a b c w fun v w'=>R (.returned v) w'):Calls prog 80 #[.slice a b c] w R:=
 calls_of mixed Tryz.func80 (by kernel_rfl) rfl (ann:=(.two .leaf (.two (.two .leaf (.one (.loop [(3,3)] .leaf))) .leaf))) (F:=fathomref01_Taut.w a b c w) (fun K=>by kernel_rfl) h
def fathomref06_Follows.w (a:Option Addr) (b:Nat) (c:Nat) (d:Option Addr) (f:Nat) (g:Nat) (w:World) (K:Value→World→Prop):Prop:=
 ∀n1 w2,New (.cells #[] 3) w n1 w2→
 ∃w3 r4p r4n r4c,(Builtin.append_ #[25,25] 25 #[.slice (some (Addr.mk n1 0 none)) 0 0,.slice d f g]).run prog w2= .ok (.slice r4p r4n r4c) w3∧
 ∃I5:Option Addr→Nat→Nat→Int→World→Nat→Prop,(∃k6,I5 r4p r4n r4c 0 w3 k6)∧
 ∀t8p t8n t8c n_9 w10 k6 (_:Fr),I5 t8p t8n t8c n_9 w10 k6→
 cnd (decide (n_9≤(100000:Int)))
  (∃I11:Int→Int→World→Nat→Prop,(∃k12,I11 0 0 w10 k12)∧
    ∀n_14 i_15 w16 k12 (_:Fr),I11 n_14 i_15 w16 k12→
    cnd (decide (i_15< (b:Int)))
     (ixK a b i_15 1 fun a17=>
       ∃x18p x18n x18c,w16.cell? a17=some (.slice x18p x18n x18c)∧
       Calls prog 136 #[.slice x18p x18n x18c,.slice t8p t8n t8c] w16 fun e w19=> ∃r20,e= .returned (.bool r20)∧
       cnd r20
       (K (.tuple #[.slice t8p t8n t8c,.bool true]) w19)
       (cnd (n_14==(0:Int))
         (ixK a b i_15 1 fun a21=>
           ∃x22p x22n x22c,w19.cell? a21=some (.slice x22p x22n x22c)∧
           Calls prog 137 #[.slice x22p x22n x22c,.slice t8p t8n t8c] w19 fun e w23=> ∃r24,e= .returned (.int .i64 r24)∧
           ∃k13,k13<k12∧I11 r24 (i64.wrap (i_15+ (1:Int))) w23 k13)
         (∃k13,k13<k12∧I11 n_14 (i64.wrap (i_15+ (1:Int))) w19 k13)))
     (cnd (n_14==(0:Int))
       (K (.tuple #[.slice t8p t8n t8c,.bool false]) w16)
       (∀n25 w26,New (.cells #[.int .i64 n_14] 3) w16 n25 w26→
         ∃w27 r28p r28n r28c,(Builtin.append_ #[25,25] 25 #[.slice t8p t8n t8c,.slice (some (Addr.mk n25 0 none)) 1 1]).run prog w26= .ok (.slice r28p r28n r28c) w27∧
         ∃k7,k7<k6∧I5 r28p r28n r28c (i64.wrap (n_9+ (1:Int))) w27 k7)))
  (K (.tuple #[.slice t8p t8n t8c,.bool false]) w10)
theorem fathomref06_Follows.calls {a b c d f g w R} (h:fathomref06_Follows.w a b c d f g w fun v w'=>R (.returned v) w'):Calls prog 81 #[.slice a b c,.slice d f g] w R:=
 calls_of mixed Tryz.func81 (by kernel_rfl) rfl (ann:=(.two .leaf (.two .leaf (.two (.two .leaf (.one (.loop [(6,25),(7,3)] (.two .leaf (.two (.one (.two .leaf (.two (.two .leaf (.one (.loop [(8,3),(9,3)] .leaf))) .leaf))) .leaf))))) .leaf)))) (F:=fathomref06_Follows.w a b c d f g w) (fun K=>by kernel_rfl) h
def fathomref01_Order.w (a:Option Addr) (b:Nat) (c:Nat) (w:World) (K:Value→World→Prop):Prop:=
 ∀n1 w2,New (.cells #[] 3) w n1 w2→
 ∃I3:Option Addr→Nat→Nat→Int→World→Nat→Prop,(∃k4,I3 (some (Addr.mk n1 0 none)) 0 0 0 w2 k4)∧
 ∀o6p o6n o6c i_7 w8 k4 (_:Fr),I3 o6p o6n o6c i_7 w8 k4→
 cnd (decide (i_7< (b:Int)))
  (ixK a b i_7 1 fun a9=>
    ∃x10,w8.cell? a9=some (.int .i64 x10)∧
    Calls prog 135 #[.slice o6p o6n o6c,.int .i64 x10] w8 fun e w11=> ∃r12,e= .returned (.bool r12)∧
    cnd r12
    (∃k5,k5<k4∧I3 o6p o6n o6c (i64.wrap (i_7+ (1:Int))) w11 k5)
    (∃I13:Int→World→Nat→Prop,(∃k14,I13 0 w11 k14)∧
      ∀a_16 w17 k14 (_:Fr),I13 a_16 w17 k14→
      cnd (decide (a_16< (o6n:Int)))
       (ixK o6p o6n a_16 1 fun a18=>
       ∃x19,w17.drew.cell? a18=some (.int .i64 x19)∧
       ixK a b i_7 1 fun a20=>
       ∃x21,w17.drew.cell? a20=some (.int .i64 x21)∧
       Calls prog 138 #[.int .i64 x19,.int .i64 x21] w17.drew fun e w22=> ∃r23,e= .returned (.bool r23)∧
       cnd r23
       (∃k15,k15<k14∧I13 (i64.wrap (a_16+ (1:Int))) w22 k15)
       (∀n24 w25,New (.cells #[] 3) w22 n24 w25→
         slK o6p o6n o6c 1 none (some a_16) none fun s26p s26n s26c=>
         ∃w27 r28p r28n r28c,(Builtin.append_ #[25,25] 25 #[.slice (some (Addr.mk n24 0 none)) 0 0,.slice s26p s26n s26c]).run prog w25= .ok (.slice r28p r28n r28c) w27∧
         ixK a b i_7 1 fun a29=>
         ∃x30,w27.cell? a29=some (.int .i64 x30)∧
         ∀n31 w32,New (.cells #[.int .i64 x30] 3) w27 n31 w32→
         ∃w33 r34p r34n r34c,(Builtin.append_ #[25,25] 25 #[.slice r28p r28n r28c,.slice (some (Addr.mk n31 0 none)) 1 1]).run prog w32= .ok (.slice r34p r34n r34c) w33∧
         slK o6p o6n o6c 1 (some a_16) none none fun s35p s35n s35c=>
         ∃w36 r37p r37n r37c,(Builtin.append_ #[25,25] 25 #[.slice r34p r34n r34c,.slice s35p s35n s35c]).run prog w33= .ok (.slice r37p r37n r37c) w36∧
         ∃k5,k5<k4∧I3 r37p r37n r37c (i64.wrap (i_7+ (1:Int))) w36 k5))
       (∀n38 w39,New (.cells #[] 3) w17.drew n38 w39→
       slK o6p o6n o6c 1 none (some a_16) none fun s40p s40n s40c=>
       ∃w41 r42p r42n r42c,(Builtin.append_ #[25,25] 25 #[.slice (some (Addr.mk n38 0 none)) 0 0,.slice s40p s40n s40c]).run prog w39= .ok (.slice r42p r42n r42c) w41∧
       ixK a b i_7 1 fun a43=>
       ∃x44,w41.cell? a43=some (.int .i64 x44)∧
       ∀n45 w46,New (.cells #[.int .i64 x44] 3) w41 n45 w46→
       ∃w47 r48p r48n r48c,(Builtin.append_ #[25,25] 25 #[.slice r42p r42n r42c,.slice (some (Addr.mk n45 0 none)) 1 1]).run prog w46= .ok (.slice r48p r48n r48c) w47∧
       slK o6p o6n o6c 1 (some a_16) none none fun s49p s49n s49c=>
       ∃w50 r51p r51n r51c,(Builtin.append_ #[25,25] 25 #[.slice r48p r48n r48c,.slice s49p s49n s49c]).run prog w47= .ok (.slice r51p r51n r51c) w50∧
       ∃k5,k5<k4∧I3 r51p r51n r51c (i64.wrap (i_7+ (1:Int))) w50 k5)))
  (K (.slice o6p o6n o6c) w8)
theorem fathomref01_Order.calls {a b c w R} (h:fathomref01_Order.w a b c w fun v w'=>R (.returned v) w'):Calls prog 82 #[.slice a b c] w R:=
 calls_of mixed Tryz.func82 (by kernel_rfl) rfl (ann:=(.two .leaf (.two .leaf (.two (.two .leaf (.one (.loop [(3,25),(4,3)] (.two .leaf (.two (.one (.two .leaf (.two .leaf (.two (.one (.loop [(5,3)] .leaf)) .leaf)))) .leaf))))) .leaf)))) (F:=fathomref01_Order.w a b c w) (fun K=>by kernel_rfl) h
def lit_Check_1.w (l_:Int) (w:World) (K:Value→World→Prop):Prop:=
 Calls prog 92 #[.int .i64 l_] w fun e w1=> ∃r2,e= .returned (.bool r2)∧
 K (.bool (!r2)) w1
theorem lit_Check_1.calls {l_ w R} (h:lit_Check_1.w l_ w fun v w'=>R (.returned v) w'):Calls prog 91 #[.int .i64 l_] w R:=
 calls_of mixed Tryz.func91 (by kernel_rfl) rfl (ann:= .leaf) (F:=lit_Check_1.w l_ w) (fun K=>by kernel_rfl) h
def lit_is.w (l_:Int) (w:World) (K:Value→World→Prop):Prop:=
 cnd (l_ !=(0:Int))
 (cnd (decide (l_≥(-1048576)))
 (K (.bool (decide (l_≤(1048576:Int)))) w)
 (K (.bool false) w))
 (K (.bool false) w)
theorem lit_is.calls {l_ w R} (h:lit_is.w l_ w fun v w'=>R (.returned v) w'):Calls prog 92 #[.int .i64 l_] w R:=
 calls_of mixed Tryz.func92 (by kernel_rfl) rfl (ann:= .leaf) (F:=lit_is.w l_ w) (fun K=>by kernel_rfl) h
def slices_IndexFunc_int_int.w (a:Option Addr) (b:Nat) (c:Nat) (f_f:FuncId) (f_v:Array Value) (w:World) (K:Value→World→Prop):Prop:=
 ∃I1:Int→World→Nat→Prop,(∃k2,I1 0 w k2)∧
 ∀v4 w5 k2 (_:Fr),I1 v4 w5 k2→
 cnd (decide (v4< (b:Int)))
  (ixK a b v4 1 fun a6=>
    ∃x7,w5.cell? a6=some (.int .i64 x7)∧
    cnd (entB prog f_f) (Calls prog f_f (#[]++ #[.int .i64 x7]++f_v) w5 fun e w8=> ∃r9,e= .returned (.bool r9)∧
    cnd r9
    (K (.int .i64 v4) w8)
    (∃k3,k3<k2∧I1 (i64.wrap (v4+ (1:Int))) w8 k3)) False)
  (K (.int .i64 (-1)) w5)
theorem slices_IndexFunc_int_int.calls {a b c f_f f_v w R} (h:slices_IndexFunc_int_int.w a b c f_f f_v w fun v w'=>R (.returned v) w'):Calls prog 93 #[.slice a b c,.func (.func f_f) #[] f_v] w R:=
 calls_of mixed Tryz.func93 (by kernel_rfl) rfl (ann:=(.two .leaf (.two (.two .leaf (.one (.loop [(8,3)] .leaf))) .leaf))) (F:=slices_IndexFunc_int_int.w a b c f_f f_v w) (fun K=>by kernel_rfl) h
def slices_IndexFunc_fathom_api_Step_fathom_api_Step.w (a:Option Addr) (b:Nat) (c:Nat) (f_f:FuncId) (f_v:Array Value) (w:World) (K:Value→World→Prop):Prop:=
 ∃I1:Int→World→Nat→Prop,(∃k2,I1 0 w k2)∧
 ∀v4 w5 k2 (_:Fr),I1 v4 w5 k2→
 cnd (decide (v4< (b:Int)))
  (ixK a b v4 2 fun a6=>
    ∃x7 x8p x8n x8c,CellsAt w5 a6 0 [.bool x7,.slice x8p x8n x8c]∧
    cnd (entB prog f_f) (Calls prog f_f (#[]++ #[.agg #[.bool x7,.slice x8p x8n x8c]]++f_v) w5 fun e w9=> ∃r10,e= .returned (.bool r10)∧
    cnd r10
    (K (.int .i64 v4) w9)
    (∃k3,k3<k2∧I1 (i64.wrap (v4+ (1:Int))) w9 k3)) False)
  (K (.int .i64 (-1)) w5)
theorem slices_IndexFunc_fathom_api_Step_fathom_api_Step.calls {a b c f_f f_v w R} (h:slices_IndexFunc_fathom_api_Step_fathom_api_Step.w a b c f_f f_v w fun v w'=>R (.returned v) w'):Calls prog 94 #[.slice a b c,.func (.func f_f) #[] f_v] w R:=
 calls_of mixed Tryz.func94 (by kernel_rfl) rfl (ann:=(.two .leaf (.two (.two .leaf (.one (.loop [(8,3)] .leaf))) .leaf))) (F:=slices_IndexFunc_fathom_api_Step_fathom_api_Step.w a b c f_f f_v w) (fun K=>by kernel_rfl) h
def rup_base_note.w (b_:Option Addr) (a:Option Addr) (b:Nat) (c:Nat) (w:World) (K:Value→World→Prop):Prop:=
 ∃I1:Int→World→Nat→Prop,(∃k2,I1 0 w k2)∧
 ∀v4 w5 k2 (_:Fr),I1 v4 w5 k2→
 cnd (decide (v4< (b:Int)))
  (ixK a b v4 1 fun a6=>
    ∃x7,w5.cell? a6=some (.int .i64 x7)∧
    ∃a8,b_=some a8∧∃x9:Option Nat,w5.cell? (a8.add 1)=some (.map x9)∧
    ∃w10 r11,(Instr.lookup 147 (.map x9) (.int .i64 (imax x7 (i64.wrap (0 - x7)))) false).run prog w5= .ok (.int .i64 r11) w10∧
    cnd (r11==(0:Int))
    (∃a12,b_=some a12∧∃x13:Option Nat,w10.drew.cell? (a12.add 1)=some (.map x13)∧
      ∃a14,b_=some a14∧∃x15:Option Nat,w10.drew.cell? (a14.add 1)=some (.map x15)∧
      ∃n16,(Builtin.len_ #[147] 3 #[.map x15]).run prog w10.drew= .ok (.int .i64 n16) w10.drew∧
      ∃w17,(Instr.mapUpdate 147 (.map x13) (.int .i64 (imax x7 (i64.wrap (0 - x7)))) (.int .i64 (i64.wrap (n16+ (1:Int))))).run prog w10.drew= .ok () w17∧
      ∃k3,k3<k2∧I1 (i64.wrap (v4+ (1:Int))) w17 k3)
    (∃k3,k3<k2∧I1 (i64.wrap (v4+ (1:Int))) w10 k3))
  (K (.tuple #[]) w5)
theorem rup_base_note.calls {b_ a b c w R} (h:rup_base_note.w b_ a b c w fun v w'=>R (.returned v) w'):Calls prog 95 #[.pointer b_,.slice a b c] w R:=
 calls_of mixed Tryz.func95 (by kernel_rfl) rfl (ann:=(.two .leaf (.one (.loop [(9,3)] .leaf)))) (F:=rup_base_note.w b_ a b c w) (fun K=>by kernel_rfl) h
def rup_base_anew.w (b_:Option Addr) (a:Option Addr) (b:Nat) (c:Nat) (w:World) (K:Value→World→Prop):Prop:=
 ∃a1,b_=some a1∧∃x2:Option Nat,w.cell? (a1.add 1)=some (.map x2)∧
 ∃n3,(Builtin.len_ #[147] 3 #[.map x2]).run prog w= .ok (.int .i64 n3) w∧
 Calls prog 61 #[.agg #[.int .i64 n3,.slice none 0 0]] w fun e w4=> ∃r5 r6,e= .returned (.tuple #[.pointer r5,.int .i64 r6])∧
 ∃a7,b_=some a7∧∃w8,StoreAt (a7.add 2) 0 [.pointer r5] w4 w8∧
 ∀n9 w10,New (.map #[] 0) w8 n9 w10→
 ∃a11,b_=some a11∧∃w12,StoreAt (a11.add 3) 0 [.slice none 0 0] w10 w12∧
 ∃a13,b_=some a13∧∃w14,StoreAt (a13.add 4) 0 [.map (some n9)] w12 w14∧
 ∃I15:Int→World→Nat→Prop,(∃k16,I15 0 w14 k16)∧
 ∀v18 w19 k16 (_:Fr),I15 v18 w19 k16→
 cnd (decide (v18< (b:Int)))
  (ixK a b v18 1 fun a20=>
    ∃x21p x21n x21c,w19.cell? a20=some (.slice x21p x21n x21c)∧
    Calls prog 100 #[.pointer b_,.slice x21p x21n x21c] w19 fun e w22=>e= .returned (.tuple #[])∧
    ∃k17,k17<k16∧I15 (i64.wrap (v18+ (1:Int))) w22 k17)
  (K (.tuple #[]) w19)
theorem rup_base_anew.calls {b_ a b c w R} (h:rup_base_anew.w b_ a b c w fun v w'=>R (.returned v) w'):Calls prog 96 #[.pointer b_,.slice a b c] w R:=
 calls_of mixed Tryz.func96 (by kernel_rfl) rfl (ann:=(.two .leaf (.two .leaf (.two .leaf (.one (.loop [(28,3)] .leaf)))))) (F:=rup_base_anew.w b_ a b c w) (fun K=>by kernel_rfl) h
def rup_base_drop.w (b_:Option Addr) (a:Option Addr) (b:Nat) (c:Nat) (w:World) (K:Value→World→Prop):Prop:=
 Calls prog 122 #[.slice a b c] w fun e w1=> ∃r2p r2n r2c r3,e= .returned (.tuple #[.slice r2p r2n r2c,.bool r3])∧
 ∃a4,b_=some a4∧∃x5p x5n x5c,w1.cell? (a4.add 3)=some (.slice x5p x5n x5c)∧
 ∃I6:Int→World→Nat→Prop,(∃k7,I6 0 w1 k7)∧
 ∀v9 w10 k7 (_:Fr),I6 v9 w10 k7→
 cnd (decide (v9< (x5n:Int)))
  (ixK x5p x5n v9 1 fun a11=>
    ∃x12,w10.cell? a11=some (.int .i64 x12)∧
    ∃a13,b_=some a13∧∃x14:Option Nat,w10.cell? (a13.add 4)=some (.map x14)∧
    ∃w15 r16p r16n r16c,(Instr.lookup 148 (.map x14) (.int .i64 x12) false).run prog w10= .ok (.slice r16p r16n r16c) w15∧
    Calls prog 122 #[.slice r16p r16n r16c] w15 fun e w17=> ∃r18p r18n r18c r19,e= .returned (.tuple #[.slice r18p r18n r18c,.bool r19])∧
    Calls prog 125 #[.slice r18p r18n r18c,.slice r2p r2n r2c] w17 fun e w20=> ∃r21,e= .returned (.bool r21)∧
    cnd r21
    (∃a22,b_=some a22∧∃x23p x23n x23c,w20.cell? (a22.add 3)=some (.slice x23p x23n x23c)∧
      Calls prog 142 #[.slice x23p x23n x23c,.int .i64 v9,.int .i64 (i64.wrap (v9+ (1:Int)))] w20 fun e w24=> ∃r25p r25n r25c,e= .returned (.slice r25p r25n r25c)∧
      ∃a26,b_=some a26∧∃w27,StoreAt (a26.add 3) 0 [.slice r25p r25n r25c] w24 w27∧
      ∃a28,b_=some a28∧∃x29,w27.cell? (a28.add 2)=some (.pointer x29)∧
      Calls prog 131 #[.pointer x29,.int .i64 x12] w27 fun e w30=> ∃r31,e= .returned (.int .i64 r31)∧
      K (.tuple #[]) w30)
    (∃k8,k8<k7∧I6 (i64.wrap (v9+ (1:Int))) w20 k8))
  (K (.tuple #[]) w10)
theorem rup_base_drop.calls {b_ a b c w R} (h:rup_base_drop.w b_ a b c w fun v w'=>R (.returned v) w'):Calls prog 97 #[.pointer b_,.slice a b c] w R:=
 calls_of mixed Tryz.func97 (by kernel_rfl) rfl (ann:=(.two .leaf (.two .leaf (.one (.loop [(20,3)] .leaf))))) (F:=rup_base_drop.w b_ a b c w) (fun K=>by kernel_rfl) h
def rup_base_unit.w (b_:Option Addr) (a:Option Addr) (b:Nat) (c:Nat) (w:World) (K:Value→World→Prop):Prop:=
 ∃a1,b_=some a1∧∃x2,w.cell? (a1.add 2)=some (.pointer x2)∧
 Calls prog 144 #[.pointer b_,.slice a b c] w fun e w3=> ∃r4p r4n r4c,e= .returned (.slice r4p r4n r4c)∧
 ∃I5:Int→World→Nat→Prop,(∃k6,I5 0 w3 k6)∧
 ∀v8 w9 k6 (_:Fr),I5 v8 w9 k6→
 cnd (decide (v8< (r4n:Int)))
  (ixK r4p r4n v8 1 fun a10=>
    ∃x11,w9.cell? a10=some (.int .i64 x11)∧
    ∃a12,b_=some a12∧∃x13,w9.cell? (a12.add 2)=some (.pointer x13)∧
    Calls prog 108 #[.pointer x13,.int .i64 x11] w9 fun e w14=> ∃r15,e= .returned (.int .i64 r15)∧
    cnd (r15==(1:Int))
    (CallsD prog 143 #[.pointer x2,.int .i64 0] .returning w14 fun e u17 w16=>u17= .returning∧∃v18:Value,e= .returned v18∧
      K (.bool true) w16)
    (cnd (r15==(0:Int))
      (∃a19,b_=some a19∧∃x20,w14.cell? (a19.add 2)=some (.pointer x20)∧
        Calls prog 109 #[.pointer x20,.int .i64 (i64.wrap (0 - x11))] w14 fun e w21=> ∃r22,e= .returned (.int .i64 r22)∧
        ∃k7,k7<k6∧I5 (i64.wrap (v8+ (1:Int))) w21 k7)
      (∃k7,k7<k6∧I5 (i64.wrap (v8+ (1:Int))) w14 k7)))
  (∃a23,b_=some a23∧∃x24,w9.cell? (a23.add 2)=some (.pointer x24)∧
    Calls prog 64 #[.pointer x24] w9 fun e w25=> ∃r26,e= .returned (.int .i64 r26)∧
    CallsD prog 143 #[.pointer x2,.int .i64 0] .returning w25 fun e u28 w27=>u28= .returning∧∃v29:Value,e= .returned v29∧
    K (.bool (decide (r26≥(0:Int)))) w27)
theorem rup_base_unit.calls {b_ a b c w R} (h:rup_base_unit.w b_ a b c w fun v w'=>R (.returned v) w'):Calls prog 98 #[.pointer b_,.slice a b c] w R:=
 calls_ofD mixed Tryz.func98 (by kernel_rfl) rfl (ann:=(.two .leaf (.two .leaf (.two (.two .leaf (.one (.loop [(15,3)] .leaf))) .leaf)))) (F:=rup_base_unit.w b_ a b c w) (fun K=>by kernel_rfl) h
def rup_base_first.w (b_:Option Addr) (a:Option Addr) (b:Nat) (c:Nat) (w:World) (K:Value→World→Prop):Prop:=
 cnd ((b:Int)==(0:Int))
 (K (.bool false) w)
 (∃a1,b_=some a1∧∃x2p x2n x2c,w.cell? (a1.add 3)=some (.slice x2p x2n x2c)∧
   ∃I3:Int→World→Nat→Prop,(∃k4,I3 0 w k4)∧
   ∀v6 w7 k4 (_:Fr),I3 v6 w7 k4→
   cnd (decide (v6< (x2n:Int)))
    (ixK x2p x2n v6 1 fun a8=>
      ∃x9,w7.cell? a8=some (.int .i64 x9)∧
      ∃W10:World→Prop,W10 w7.drew∧
      ∃a11,b_=some a11∧∃x12:Option Nat,AtW W10 (a11.add 4) (.map x12)∧
      ∃w13 r14p r14n r14c,(Instr.lookup 148 (.map x12) (.int .i64 x9) false).run prog w7.drew= .ok (.slice r14p r14n r14c) w13∧
      W10 w13∧ixK a b 0 1 fun a15=>
      ∃x16,AtW W10 a15 (.int .i64 x16)∧
      Calls prog 145 #[.slice r14p r14n r14c,.int .i64 (i64.wrap (0 - x16))] w13 fun e w17=> ∃r18,e= .returned (.bool r18)∧
      cnd (!r18)
      (∃k5,k5<k4∧I3 (i64.wrap (v6+ (1:Int))) w17 k5)
      (Calls prog 79 #[.slice a b c] w17 fun e w19=> ∃r20p r20n r20c,e= .returned (.slice r20p r20n r20c)∧
        ∃a21,b_=some a21∧∃x22:Option Nat,w19.cell? (a21.add 4)=some (.map x22)∧
        ∃w23 r24p r24n r24c,(Instr.lookup 148 (.map x22) (.int .i64 x9) false).run prog w19= .ok (.slice r24p r24n r24c) w23∧
        ∃I25:Option Addr→Nat→Nat→Int→World→Nat→Prop,(∃k26,I25 r20p r20n r20c 0 w23 k26)∧
        ∀a28p a28n a28c v29 w30 k26 (_:Fr),I25 a28p a28n a28c v29 w30 k26→
        cnd (decide (v29< (r24n:Int)))
         (ixK r24p r24n v29 1 fun a31=>
           ∃x32,w30.cell? a31=some (.int .i64 x32)∧
           ixK a b 0 1 fun a33=>
           ∃x34,w30.cell? a33=some (.int .i64 x34)∧
           cnd (x32 !=(i64.wrap (0 - x34)))
           (∀n35 w36,New (.cells #[.int .i64 x32] 3) w30 n35 w36→
             ∃w37 r38p r38n r38c,(Builtin.append_ #[25,25] 25 #[.slice a28p a28n a28c,.slice (some (Addr.mk n35 0 none)) 1 1]).run prog w36= .ok (.slice r38p r38n r38c) w37∧
             ∃k27,k27<k26∧I25 r38p r38n r38c (i64.wrap (v29+ (1:Int))) w37 k27)
           (∃k27,k27<k26∧I25 a28p a28n a28c (i64.wrap (v29+ (1:Int))) w30 k27))
         (cnd (decide ((a28n:Int)> (4096:Int)))
           (K (.bool false) w30)
           (Calls prog 98 #[.pointer b_,.slice a28p a28n a28c] w30 fun e w39=> ∃r40,e= .returned (.bool r40)∧
           cnd (!r40)
           (K (.bool false) w39)
           (∃k5,k5<k4∧I3 (i64.wrap (v6+ (1:Int))) w39 k5)))))
    (K (.bool true) w7))
theorem rup_base_first.calls {b_ a b c w R} (h:rup_base_first.w b_ a b c w fun v w'=>R (.returned v) w'):Calls prog 99 #[.pointer b_,.slice a b c] w R:=
 calls_of mixed Tryz.func99 (by kernel_rfl) rfl (ann:=(.two .leaf (.two .leaf (.two (.two .leaf (.one (.loop [(18,3)] (.two .leaf (.two .leaf (.two (.one (.two .leaf (.two (.two .draw .leaf) (.two .leaf (.two (.two .leaf (.one (.loop [(7,25),(43,3)] .leaf))) .leaf))))) .leaf)))))) .leaf)))) (F:=rup_base_first.w b_ a b c w) (fun K=>by kernel_rfl) h
def rup_base_add.w (b_:Option Addr) (a:Option Addr) (b:Nat) (c:Nat) (w:World) (K:Value→World→Prop):Prop:=
 ∃W1:World→Prop,W1 w.drew∧
 ∃a2,b_=some a2∧∃x3,AtW W1 (a2.add 2) (.pointer x3)∧
 Calls prog 144 #[.pointer b_,.slice a b c] w.drew fun e w4=> ∃r5p r5n r5c,e= .returned (.slice r5p r5n r5c)∧
 W1 w4∧Calls prog 103 #[.pointer x3,.slice r5p r5n r5c] w4 fun e w6=> ∃r7 r8,e= .returned (.tuple #[.int .i64 r7,.int .i64 r8])∧
 cnd (r8 !=(0:Int))
 (Calls prog 146 #[.pointer b_] w6 fun e w9=> ∃r10p r10n r10c,e= .returned (.slice r10p r10n r10c)∧
   Calls prog 96 #[.pointer b_,.slice r10p r10n r10c] w9 fun e w11=>e= .returned (.tuple #[])∧
   ∃W12:World→Prop,W12 w11.drew∧
   ∃a13,b_=some a13∧∃x14,AtW W12 (a13.add 2) (.pointer x14)∧
   Calls prog 144 #[.pointer b_,.slice a b c] w11.drew fun e w15=> ∃r16p r16n r16c,e= .returned (.slice r16p r16n r16c)∧
   W12 w15∧Calls prog 103 #[.pointer x14,.slice r16p r16n r16c] w15 fun e w17=> ∃r18 r19,e= .returned (.tuple #[.int .i64 r18,.int .i64 r19])∧
   ∃a20,b_=some a20∧∃x21p x21n x21c,w17.cell? (a20.add 3)=some (.slice x21p x21n x21c)∧
   ∀n22 w23,New (.cells #[.int .i64 r18] 3) w17 n22 w23→
   ∃w24 r25p r25n r25c,(Builtin.append_ #[25,25] 25 #[.slice x21p x21n x21c,.slice (some (Addr.mk n22 0 none)) 1 1]).run prog w23= .ok (.slice r25p r25n r25c) w24∧
   ∃a26,b_=some a26∧∃w27,StoreAt (a26.add 3) 0 [.slice r25p r25n r25c] w24 w27∧
   ∃W28:World→Prop,W28 w27.drew∧
   ∃a29,b_=some a29∧∃x30:Option Nat,AtW W28 (a29.add 4) (.map x30)∧
   Calls prog 79 #[.slice a b c] w27.drew fun e w31=> ∃r32p r32n r32c,e= .returned (.slice r32p r32n r32c)∧
   W28 w31∧∃w33,(Instr.mapUpdate 148 (.map x30) (.int .i64 r18) (.slice r32p r32n r32c)).run prog w31= .ok () w33∧
   ∃I34:Int→World→Nat→Prop,(∃k35,I34 0 w33 k35)∧
   ∀v37 w38 k35 (_:Fr),I34 v37 w38 k35→
   cnd (decide (v37< (b:Int)))
    (ixK a b v37 1 fun a39=>
      ∃x40,w38.cell? a39=some (.int .i64 x40)∧
      ∃a41,b_=some a41∧∃x42,w38.cell? (a41.add 0)=some (.int .i64 x42)∧
      ∃a43,b_=some a43∧∃w44,StoreAt (a43.add 0) 0 [.int .i64 (imax (imax x42 x40) (i64.wrap (0 - x40)))] w38 w44∧
      ∃k36,k36<k35∧I34 (i64.wrap (v37+ (1:Int))) w44 k36)
    (K (.tuple #[]) w38))
 (∃a45,b_=some a45∧∃x46p x46n x46c,w6.cell? (a45.add 3)=some (.slice x46p x46n x46c)∧
   ∀n47 w48,New (.cells #[.int .i64 r7] 3) w6 n47 w48→
   ∃w49 r50p r50n r50c,(Builtin.append_ #[25,25] 25 #[.slice x46p x46n x46c,.slice (some (Addr.mk n47 0 none)) 1 1]).run prog w48= .ok (.slice r50p r50n r50c) w49∧
   ∃a51,b_=some a51∧∃w52,StoreAt (a51.add 3) 0 [.slice r50p r50n r50c] w49 w52∧
   ∃W53:World→Prop,W53 w52.drew∧
   ∃a54,b_=some a54∧∃x55:Option Nat,AtW W53 (a54.add 4) (.map x55)∧
   Calls prog 79 #[.slice a b c] w52.drew fun e w56=> ∃r57p r57n r57c,e= .returned (.slice r57p r57n r57c)∧
   W53 w56∧∃w58,(Instr.mapUpdate 148 (.map x55) (.int .i64 r7) (.slice r57p r57n r57c)).run prog w56= .ok () w58∧
   ∃I59:Int→World→Nat→Prop,(∃k60,I59 0 w58 k60)∧
   ∀v62 w63 k60 (_:Fr),I59 v62 w63 k60→
   cnd (decide (v62< (b:Int)))
    (ixK a b v62 1 fun a64=>
      ∃x65,w63.cell? a64=some (.int .i64 x65)∧
      ∃a66,b_=some a66∧∃x67,w63.cell? (a66.add 0)=some (.int .i64 x67)∧
      ∃a68,b_=some a68∧∃w69,StoreAt (a68.add 0) 0 [.int .i64 (imax (imax x67 x65) (i64.wrap (0 - x65)))] w63 w69∧
      ∃k61,k61<k60∧I59 (i64.wrap (v62+ (1:Int))) w69 k61)
    (K (.tuple #[]) w63))
theorem rup_base_add.calls {b_ a b c w R} (h:rup_base_add.w b_ a b c w fun v w'=>R (.returned v) w'):Calls prog 100 #[.pointer b_,.slice a b c] w R:=
 calls_of mixed Tryz.func100 (by kernel_rfl) rfl (ann:=(.two .draw (.two (.two .leaf (.two (.two .leaf .draw) .leaf)) (.two .leaf (.two .draw (.two .leaf (.one (.loop [(55,3)] .leaf)))))))) (F:=rup_base_add.w b_ a b c w) (fun K=>by kernel_rfl) h
def fathomref01_Value.w (a:Option Addr) (b:Nat) (c:Nat) (l_:Int) (w:World) (K:Value→World→Prop):Prop:=
 Calls prog 70 #[.int .i64 l_] w fun e w1=> ∃r2,e= .returned (.bool r2)∧
 cnd (!r2)
 (K (.int .i64 0) w1)
 (Calls prog 34 #[.int .i64 l_] w1 fun e w3=> ∃r4,e= .returned (.int .i64 r4)∧
 cnd (decide (r4> (b:Int)))
 (K (.int .i64 0) w3)
 (Calls prog 34 #[.int .i64 l_] w3 fun e w5=> ∃r6,e= .returned (.int .i64 r6)∧
 ixK a b (i64.wrap (r6 - (1:Int))) 1 fun a7=>
 ∃x8,w5.cell? a7=some (.int .i64 x8)∧
 cnd (x8==(0:Int))
 (K (.int .i64 0) w5)
 (Calls prog 34 #[.int .i64 l_] w5 fun e w9=> ∃r10,e= .returned (.int .i64 r10)∧
   ixK a b (i64.wrap (r10 - (1:Int))) 1 fun a11=>
   ∃x12,w9.cell? a11=some (.int .i64 x12)∧
   cnd ((decide (x12> (0:Int)))==(decide (l_> (0:Int))))
   (K (.int .i64 1) w9)
   (K (.int .i64 (-1)) w9))))
theorem fathomref01_Value.calls {a b c l_ w R} (h:fathomref01_Value.w a b c l_ w fun v w'=>R (.returned v) w'):Calls prog 101 #[.slice a b c,.int .i64 l_] w R:=
 calls_of mixed Tryz.func101 (by kernel_rfl) rfl (ann:= .leaf) (F:=fathomref01_Value.w a b c l_ w) (fun K=>by kernel_rfl) h
def fathomref07_First.w (a:Option Addr) (b:Nat) (c:Nat) (d:Option Addr) (f:Nat) (g:Nat) (w:World) (K:Value→World→Prop):Prop:=
 cnd ((f:Int)==(0:Int))
 (K (.bool false) w)
 (∃I1:Int→World→Nat→Prop,(∃k2,I1 0 w k2)∧
   ∀i_4 w5 k2 (_:Fr),I1 i_4 w5 k2→
   cnd (decide (i_4< (b:Int)))
    (ixK a b i_4 1 fun a6=>
      ∃x7p x7n x7c,w5.drew.cell? a6=some (.slice x7p x7n x7c)∧
      ixK d f 0 1 fun a8=>
      ∃x9,w5.drew.cell? a8=some (.int .i64 x9)∧
      Calls prog 135 #[.slice x7p x7n x7c,.int .i64 (i64.wrap (0 - x9))] w5.drew fun e w10=> ∃r11,e= .returned (.bool r11)∧
      cnd (!r11)
      (∃k3,k3<k2∧I1 (i64.wrap (i_4+ (1:Int))) w10 k3)
      (∃W12:World→Prop,W12 w10.drew∧
        ∀n13 w14,New (.cells #[] 3) w10.drew n13 w14→
        W12 w14∧∃w15 r16p r16n r16c,(Builtin.append_ #[25,25] 25 #[.slice (some (Addr.mk n13 0 none)) 0 0,.slice d f g]).run prog w14= .ok (.slice r16p r16n r16c) w15∧
        W12 w15∧ixK a b i_4 1 fun a17=>
        ∃x18p x18n x18c,AtW W12 a17 (.slice x18p x18n x18c)∧
        ixK d f 0 1 fun a19=>
        ∃x20,AtW W12 a19 (.int .i64 x20)∧
        Calls prog 147 #[.slice x18p x18n x18c,.int .i64 (i64.wrap (0 - x20))] w15 fun e w21=> ∃r22p r22n r22c,e= .returned (.slice r22p r22n r22c)∧
        ∃w23 r24p r24n r24c,(Builtin.append_ #[25,25] 25 #[.slice r16p r16n r16c,.slice r22p r22n r22c]).run prog w21= .ok (.slice r24p r24n r24c) w23∧
        cnd (decide ((r24n:Int)> (4096:Int)))
        (K (.bool false) w23)
        (Calls prog 40 #[.slice a b c,.slice r24p r24n r24c] w23 fun e w25=> ∃r26,e= .returned (.bool r26)∧
        cnd (!r26)
        (K (.bool false) w25)
        (∃k3,k3<k2∧I1 (i64.wrap (i_4+ (1:Int))) w25 k3))))
    (K (.bool true) w5))
theorem fathomref07_First.calls {a b c d f g w R} (h:fathomref07_First.w a b c d f g w fun v w'=>R (.returned v) w'):Calls prog 102 #[.slice a b c,.slice d f g] w R:=
 calls_of mixed Tryz.func102 (by kernel_rfl) rfl (ann:=(.two .leaf (.two .leaf (.two (.two .leaf (.one (.loop [(5,3)] (.two .leaf (.two (.one (.two .leaf (.two .draw .leaf))) .leaf))))) .leaf)))) (F:=fathomref07_First.w a b c d f g w) (fun K=>by kernel_rfl) h
def prop_Prop_Add.w (p_:Option Addr) (a:Option Addr) (b:Nat) (c:Nat) (w:World) (K:Value→World→Prop):Prop:=
 ∀n1 w2,New (.cells #[.pointer p_] 104) w n1 w2→
 ∃x3,w2.cell? (Addr.mk n1 0 none)=some (.pointer x3)∧
 cnd x3.isNone
 (K (.tuple #[.int .i64 0,.int .i64 1]) w2)
 (∃x4,w2.cell? (Addr.mk n1 0 none)=some (.pointer x4)∧
 ∃a5,x4=some a5∧∃x6p x6n x6c,w2.cell? (a5.add 3)=some (.slice x6p x6n x6c)∧
 cnd x6p.isNone
 (K (.tuple #[.int .i64 0,.int .i64 1]) w2)
 (Calls prog 49 #[.slice a b c] w2 fun e w7=> ∃r8,e= .returned (.int .i64 r8)∧
 cnd (r8 !=(0:Int))
 (K (.tuple #[.int .i64 0,.int .i64 1]) w7)
 (Calls prog 50 #[.slice a b c,.func (.func 148) #[] #[.pointer (some (Addr.mk n1 0 none))]] w7 fun e w9=> ∃r10,e= .returned (.bool r10)∧
 cnd r10
 (K (.tuple #[.int .i64 0,.int .i64 1]) w9)
 (∃x11,w9.cell? (Addr.mk n1 0 none)=some (.pointer x11)∧
   ∃a12,x11=some a12∧∃x13p x13n x13c,w9.cell? (a12.add 1)=some (.slice x13p x13n x13c)∧
   cnd ((x13n:Int)==(262144:Int))
   (K (.tuple #[.int .i64 0,.int .i64 5]) w9)
   (Calls prog 122 #[.slice a b c] w9 fun e w14=> ∃r15p r15n r15c r16,e= .returned (.tuple #[.slice r15p r15n r15c,.bool r16])∧
     ∃x17,w14.cell? (Addr.mk n1 0 none)=some (.pointer x17)∧
     ∃a18,x17=some a18∧∃x19p x19n x19c,w14.cell? (a18.add 1)=some (.slice x19p x19n x19c)∧
     ∃W20:World→Prop,W20 w14.drew∧
     ∃x21,AtW W20 (Addr.mk n1 0 none) (.pointer x21)∧
     ∃x22,AtW W20 (Addr.mk n1 0 none) (.pointer x22)∧
     ∃a23,x22=some a23∧∃x24p x24n x24c,AtW W20 (a23.add 1) (.slice x24p x24n x24c)∧
     Calls prog 79 #[.slice a b c] w14.drew fun e w25=> ∃r26p r26n r26c,e= .returned (.slice r26p r26n r26c)∧
     W20 w25∧∀n27 w28,New (.cells #[.slice r26p r26n r26c,.slice r15p r15n r15c,.bool false] 160) w25 n27 w28→
     W20 w28∧∃w29 r30p r30n r30c,(Builtin.append_ #[153,153] 153 #[.slice x24p x24n x24c,.slice (some (Addr.mk n27 0 none)) 1 1]).run prog w28= .ok (.slice r30p r30n r30c) w29∧
     W20 w29∧∃a31,x21=some a31∧∃w32,StoreAt (a31.add 1) 0 [.slice r30p r30n r30c] w29 w32∧
     ∃x33,w32.cell? (Addr.mk n1 0 none)=some (.pointer x33)∧
     Calls prog 150 #[.pointer x33,.int .i64 (x19n:Int)] w32 fun e w34=>e= .returned (.tuple #[])∧
     K (.tuple #[.int .i64 (x19n:Int),.int .i64 0]) w34)))))
theorem prop_Prop_Add.calls {p_ a b c w R} (h:prop_Prop_Add.w p_ a b c w fun v w'=>R (.returned v) w'):Calls prog 103 #[.pointer p_,.slice a b c] w R:=
 calls_of mixed Tryz.func103 (by kernel_rfl) rfl (ann:=(.two .leaf (.two .leaf (.two .leaf (.two .leaf (.two .draw .leaf)))))) (F:=prop_Prop_Add.w p_ a b c w) (fun K=>by kernel_rfl) h
def prop_Prop_loosely.w (p_:Option Addr) (w:World) (K:Value→World→Prop):Prop:=
 ∀n1 w2,New (.cells #[.pointer p_] 104) w n1 w2→
 ∃x3,w2.cell? (Addr.mk n1 0 none)=some (.pointer x3)∧
 ∃a4,x3=some a4∧∃x5p x5n x5c,w2.cell? (a4.add 10)=some (.slice x5p x5n x5c)∧
 ∃I6:Option Addr→Nat→Nat→Int→Int→World→Nat→Prop,(∃k7,I6 none 0 0 (-1) 0 w2 k7)∧
 ∀k9p k9n k9c b_10 v11 w12 k7 (_:Fr),I6 k9p k9n k9c b_10 v11 w12 k7→
 cnd (decide (v11< (x5n:Int)))
  (ixK x5p x5n v11 1 fun a13=>
    ∃x14,w12.cell? a13=some (.int .i64 x14)∧
    cnd (decide (b_10≥(0:Int)))
    (∃x15,w12.cell? (Addr.mk n1 0 none)=some (.pointer x15)∧
      ∃a16,x15=some a16∧∃x17p x17n x17c,w12.cell? (a16.add 10)=some (.slice x17p x17n x17c)∧
      ixK x17p x17n v11 1 fun a18=>
      ∃x19,w12.cell? a18=some (.int .i64 x19)∧
      ∀n20 w21,New (.cells #[.int .i64 x19] 3) w12 n20 w21→
      ∃w22 r23p r23n r23c,(Builtin.append_ #[25,25] 25 #[.slice k9p k9n k9c,.slice (some (Addr.mk n20 0 none)) 1 1]).run prog w21= .ok (.slice r23p r23n r23c) w22∧
      ∃k8,k8<k7∧I6 r23p r23n r23c b_10 (i64.wrap (v11+ (1:Int))) w22 k8)
    (∃x24,w12.cell? (Addr.mk n1 0 none)=some (.pointer x24)∧
      ∃a25,x24=some a25∧∃x26p x26n x26c,w12.cell? (a25.add 1)=some (.slice x26p x26n x26c)∧
      ixK x26p x26n x14 3 fun a27=>
      ∃x28p x28n x28c,w12.cell? (a27.add 1)=some (.slice x28p x28n x28c)∧
      Calls prog 79 #[.slice x28p x28n x28c] w12 fun e w29=> ∃r30p r30n r30c,e= .returned (.slice r30p r30n r30c)∧
      Calls prog 151 #[.slice r30p r30n r30c,.func (.func 152) #[] #[.pointer (some (Addr.mk n1 0 none))]] w29 fun e w31=> ∃r32p r32n r32c,e= .returned (.slice r32p r32n r32c)∧
      cnd (decide ((r32n:Int)> (1:Int)))
      (∃x33,w31.cell? (Addr.mk n1 0 none)=some (.pointer x33)∧
        Calls prog 154 #[.pointer x33,.int .i64 x14] w31 fun e w34=>e= .returned (.tuple #[])∧
        ∃x35,w34.cell? (Addr.mk n1 0 none)=some (.pointer x35)∧
        Calls prog 155 #[.pointer x35,.int .i64 x14] w34 fun e w36=>e= .returned (.tuple #[])∧
        ∃k8,k8<k7∧I6 k9p k9n k9c b_10 (i64.wrap (v11+ (1:Int))) w36 k8)
      (∀n37 w38,New (.cells #[.int .i64 x14] 3) w31 n37 w38→
        ∃w39 r40p r40n r40c,(Builtin.append_ #[25,25] 25 #[.slice k9p k9n k9c,.slice (some (Addr.mk n37 0 none)) 1 1]).run prog w38= .ok (.slice r40p r40n r40c) w39∧
        cnd ((r32n:Int)==(0:Int))
        (∃k8,k8<k7∧I6 r40p r40n r40c x14 (i64.wrap (v11+ (1:Int))) w39 k8)
        (∃x41,w39.drew.cell? (Addr.mk n1 0 none)=some (.pointer x41)∧
          ixK r32p r32n 0 1 fun a42=>
          ∃x43,w39.drew.cell? a42=some (.int .i64 x43)∧
          Calls prog 153 #[.pointer x41,.int .i64 x43] w39.drew fun e w44=> ∃r45,e= .returned (.int .i8 r45)∧
          cnd (r45==(0:Int))
          (∃x46,w44.drew.cell? (Addr.mk n1 0 none)=some (.pointer x46)∧
            ixK r32p r32n 0 1 fun a47=>
            ∃x48,w44.drew.cell? a47=some (.int .i64 x48)∧
            Calls prog 156 #[.pointer x46,.int .i64 x48,.int .i64 x14] w44.drew fun e w49=>e= .returned (.tuple #[])∧
            ∃k8,k8<k7∧I6 r40p r40n r40c b_10 (i64.wrap (v11+ (1:Int))) w49 k8)
          (∃k8,k8<k7∧I6 r40p r40n r40c b_10 (i64.wrap (v11+ (1:Int))) w44 k8)))))
  (∃x50,w12.cell? (Addr.mk n1 0 none)=some (.pointer x50)∧
    ∃a51,x50=some a51∧∃w52,StoreAt (a51.add 10) 0 [.slice k9p k9n k9c] w12 w52∧
    K (.int .i64 b_10) w52)
theorem prop_Prop_loosely.calls {p_ w R} (h:prop_Prop_loosely.w p_ w fun v w'=>R (.returned v) w'):Calls prog 104 #[.pointer p_] w R:=
 calls_of mixed Tryz.func104 (by kernel_rfl) rfl (ann:=(.two .leaf (.two .leaf (.two .leaf (.two (.two .leaf (.one (.loop [(3,25),(4,3),(14,3)] .leaf))) .leaf))))) (F:=prop_Prop_loosely.w p_ w) (fun K=>by kernel_rfl) h
def prop_side.w (l_:Int) (w:World) (K:Value→World→Prop):Prop:=
 cnd (decide (l_< (0:Int)))
 (K (.int .i64 (i64.wrap ((i64.wrap ((-2)*l_))+ (1:Int)))) w)
 (K (.int .i64 (i64.wrap ((2:Int)*l_))) w)
theorem prop_side.calls {l_ w R} (h:prop_side.w l_ w fun v w'=>R (.returned v) w'):Calls prog 105 #[.int .i64 l_] w R:=
 calls_of mixed Tryz.func105 (by kernel_rfl) rfl (ann:= .leaf) (F:=prop_side.w l_ w) (fun K=>by kernel_rfl) h
def prop_Prop_visit.w (p_:Option Addr) (i_:Int) (a:Int) (w:World) (K:Value→World→Prop):Prop:=
 ∃a1,p_=some a1∧∃x2p x2n x2c,w.cell? (a1.add 1)=some (.slice x2p x2n x2c)∧
 ixK x2p x2n i_ 3 fun a3=>
 ∃x4p x4n x4c,w.cell? (a3.add 1)=some (.slice x4p x4n x4c)∧
 ∃J5:World→Prop,(ixK x4p x4n 0 1 fun a6=>
 ∃x7,w.cell? a6=some (.int .i64 x7)∧
 cnd (x7==a)
 (cnd (decide ((x4n:Int)> (1:Int)))
 (ixK x4p x4n 1 1 fun a8=>
   ∃x9,w.drew.cell? a8=some (.int .i64 x9)∧
   ixK x4p x4n 0 1 fun a10=>
   ∃x11,w.drew.cell? a10=some (.int .i64 x11)∧
   ixK x4p x4n 0 1 fun a12=>
   ∃w13,StoreAt a12 0 [.int .i64 x9] w.drew w13∧
   ixK x4p x4n 1 1 fun a14=>
   ∃w15,StoreAt a14 0 [.int .i64 x11] w13 w15∧
   J5 w15)
 (J5 w))
 (J5 w))∧
 ∀w16 (_:Fr),J5 w16→
 ixK x4p x4n 0 1 fun a17=>
 ∃x18,w16.cell? a17=some (.int .i64 x18)∧
 Calls prog 153 #[.pointer p_,.int .i64 x18] w16 fun e w19=> ∃r20,e= .returned (.int .i8 r20)∧
 cnd (decide (r20> (0:Int)))
 (K (.tuple #[.bool true,.bool false]) w19)
 (∃I21:Int→World→Nat→Prop,(∃k22,I21 2 w19 k22)∧
   ∀k_24 w25 k22 (_:Fr),I21 k_24 w25 k22→
   cnd (decide (k_24< (x4n:Int)))
    (ixK x4p x4n k_24 1 fun a26=>
      ∃x27,w25.cell? a26=some (.int .i64 x27)∧
      Calls prog 153 #[.pointer p_,.int .i64 x27] w25 fun e w28=> ∃r29,e= .returned (.int .i8 r29)∧
      cnd (decide (r29≥(0:Int)))
      (ixK x4p x4n k_24 1 fun a30=>
        ∃x31,w28.drew.cell? a30=some (.int .i64 x31)∧
        ixK x4p x4n 1 1 fun a32=>
        ∃x33,w28.drew.cell? a32=some (.int .i64 x33)∧
        ixK x4p x4n 1 1 fun a34=>
        ∃w35,StoreAt a34 0 [.int .i64 x31] w28.drew w35∧
        ixK x4p x4n k_24 1 fun a36=>
        ∃w37,StoreAt a36 0 [.int .i64 x33] w35 w37∧
        ∃W38:World→Prop,W38 w37.drew∧
        ∃a39,p_=some a39∧∃x40p x40n x40c,AtW W38 (a39.add 2) (.slice x40p x40n x40c)∧
        ixK x4p x4n 1 1 fun a41=>
        ∃x42,AtW W38 a41 (.int .i64 x42)∧
        ∃a43,p_=some a43∧∃x44p x44n x44c,AtW W38 (a43.add 2) (.slice x44p x44n x44c)∧
        ixK x4p x4n 1 1 fun a45=>
        ∃x46,AtW W38 a45 (.int .i64 x46)∧
        (Calls prog 105 #[.int .i64 x42] w37.drew fun e w47=> ∃r48,e= .returned (.int .i64 r48)∧
        W38 w47∧(Calls prog 105 #[.int .i64 x46] w47 fun e w49=> ∃r50,e= .returned (.int .i64 r50)∧
        W38 w49∧ixK x44p x44n r50 1 fun a51=>
        ∃x52p x52n x52c,AtW W38 a51 (.slice x52p x52n x52c)∧
        ∀n53 w54,New (.cells #[.int .i64 i_] 3) w49 n53 w54→
        W38 w54∧∃w55 r56p r56n r56c,(Builtin.append_ #[25,25] 25 #[.slice x52p x52n x52c,.slice (some (Addr.mk n53 0 none)) 1 1]).run prog w54= .ok (.slice r56p r56n r56c) w55∧
        W38 w55∧ixK x40p x40n r48 1 fun a57=>
        ∃w58,StoreAt a57 0 [.slice r56p r56n r56c] w55 w58∧
        K (.tuple #[.bool false,.bool false]) w58)∧
      (∀n59 w60,New (.cells #[.int .i64 i_] 3) w47 n59 w60→
        W38 w60∧Calls prog 105 #[.int .i64 x46] w60 fun e w61=> ∃r62,e= .returned (.int .i64 r62)∧
        W38 w61∧ixK x44p x44n r62 1 fun a63=>
        ∃x64p x64n x64c,AtW W38 a63 (.slice x64p x64n x64c)∧
        ∃w65 r66p r66n r66c,(Builtin.append_ #[25,25] 25 #[.slice x64p x64n x64c,.slice (some (Addr.mk n59 0 none)) 1 1]).run prog w61= .ok (.slice r66p r66n r66c) w65∧
        W38 w65∧ixK x40p x40n r48 1 fun a67=>
        ∃w68,StoreAt a67 0 [.slice r66p r66n r66c] w65 w68∧
        K (.tuple #[.bool false,.bool false]) w68))∧
      (∀n69 w70,New (.cells #[.int .i64 i_] 3) w37.drew n69 w70→
        W38 w70∧Calls prog 105 #[.int .i64 x42] w70 fun e w71=> ∃r72,e= .returned (.int .i64 r72)∧
        W38 w71∧Calls prog 105 #[.int .i64 x46] w71 fun e w73=> ∃r74,e= .returned (.int .i64 r74)∧
        W38 w73∧ixK x44p x44n r74 1 fun a75=>
        ∃x76p x76n x76c,AtW W38 a75 (.slice x76p x76n x76c)∧
        ∃w77 r78p r78n r78c,(Builtin.append_ #[25,25] 25 #[.slice x76p x76n x76c,.slice (some (Addr.mk n69 0 none)) 1 1]).run prog w73= .ok (.slice r78p r78n r78c) w77∧
        W38 w77∧ixK x40p x40n r72 1 fun a79=>
        ∃w80,StoreAt a79 0 [.slice r78p r78n r78c] w77 w80∧
        K (.tuple #[.bool false,.bool false]) w80))
      (∃k23,k23<k22∧I21 (i64.wrap (k_24+ (1:Int))) w28 k23))
    (ixK x4p x4n 0 1 fun a81=>
      ∃x82,w25.cell? a81=some (.int .i64 x82)∧
      Calls prog 153 #[.pointer p_,.int .i64 x82] w25 fun e w83=> ∃r84,e= .returned (.int .i8 r84)∧
      cnd (decide (r84< (0:Int)))
      (K (.tuple #[.bool true,.bool true]) w83)
      (ixK x4p x4n 0 1 fun a85=>
        ∃x86,w83.cell? a85=some (.int .i64 x86)∧
        Calls prog 156 #[.pointer p_,.int .i64 x86,.int .i64 i_] w83 fun e w87=>e= .returned (.tuple #[])∧
        K (.tuple #[.bool true,.bool false]) w87)))
theorem prop_Prop_visit.calls {p_ i_ a w R} (h:prop_Prop_visit.w p_ i_ a w fun v w'=>R (.returned v) w'):Calls prog 106 #[.pointer p_,.int .i64 i_,.int .i64 a] w R:=
 calls_of mixed Tryz.func106 (by kernel_rfl) rfl (ann:=(.two .leaf (.two .leaf (.cut [] .leaf (.two .leaf (.two (.two .leaf (.one (.loop [(9,3)] (.two .leaf (.two (.one (.two .leaf (.two (.two .leaf (.two .draw .leaf)) .leaf))) .leaf))))) .leaf)))))) (F:=prop_Prop_visit.w p_ i_ a w) (fun K=>by kernel_rfl) h
def prop_Prop_Value.w (p_:Option Addr) (l_:Int) (w:World) (K:Value→World→Prop):Prop:=
 Calls prog 149 #[.pointer p_,.int .i64 l_] w fun e w1=> ∃r2,e= .returned (.bool r2)∧
 cnd (!r2)
 (K (.int .i64 0) w1)
 (Calls prog 153 #[.pointer p_,.int .i64 l_] w1 fun e w3=> ∃r4,e= .returned (.int .i8 r4)∧
   K (.int .i64 (i64.wrap r4)) w3)
theorem prop_Prop_Value.calls {p_ l_ w R} (h:prop_Prop_Value.w p_ l_ w fun v w'=>R (.returned v) w'):Calls prog 108 #[.pointer p_,.int .i64 l_] w R:=
 calls_of mixed Tryz.func108 (by kernel_rfl) rfl (ann:= .leaf) (F:=prop_Prop_Value.w p_ l_ w) (fun K=>by kernel_rfl) h
def prop_Prop_Decide.w (p_:Option Addr) (l_:Int) (w:World) (K:Value→World→Prop):Prop:=
 Calls prog 149 #[.pointer p_,.int .i64 l_] w fun e w1=> ∃r2,e= .returned (.bool r2)∧
 cnd (!r2)
 (K (.int .i64 1) w1)
 (Calls prog 153 #[.pointer p_,.int .i64 l_] w1 fun e w3=> ∃r4,e= .returned (.int .i8 r4)∧
 cnd (r4 !=(0:Int))
 (K (.int .i64 1) w3)
 (∃W5:World→Prop,W5 w3.drew∧
   ∃a6,p_=some a6∧∃x7p x7n x7c,AtW W5 (a6.add 7) (.slice x7p x7n x7c)∧
   ∃a8,p_=some a8∧∃x9p x9n x9c,AtW W5 (a8.add 6) (.slice x9p x9n x9c)∧
   ∃a10,p_=some a10∧∃x11p x11n x11c,AtW W5 (a10.add 8) (.slice x11p x11n x11c)∧
   ∃a12,p_=some a12∧∃x13,AtW W5 (a12.add 9) (.int .i64 x13)∧
   (∀n14 w15,New (.cells #[.int .i64 (x9n:Int)] 3) w3.drew n14 w15→
   W5 w15∧(∃w16 r17p r17n r17c,(Builtin.append_ #[25,25] 25 #[.slice x7p x7n x7c,.slice (some (Addr.mk n14 0 none)) 1 1]).run prog w15= .ok (.slice r17p r17n r17c) w16∧
   W5 w16∧∀n18 w19,New (.cells #[.int .i64 x13] 3) w16 n18 w19→
   W5 w19∧∃w20 r21p r21n r21c,(Builtin.append_ #[25,25] 25 #[.slice x11p x11n x11c,.slice (some (Addr.mk n18 0 none)) 1 1]).run prog w19= .ok (.slice r21p r21n r21c) w20∧
   ∃a22,p_=some a22∧∃w23,StoreAt (a22.add 7) 0 [.slice r17p r17n r17c] w20 w23∧
   ∃a24,p_=some a24∧∃w25,StoreAt (a24.add 8) 0 [.slice r21p r21n r21c] w23 w25∧
   Calls prog 156 #[.pointer p_,.int .i64 l_,.int .i64 (-1)] w25 fun e w26=>e= .returned (.tuple #[])∧
   K (.int .i64 0) w26)∧
 (∀n27 w28,New (.cells #[.int .i64 x13] 3) w15 n27 w28→
   W5 w28∧∃w29 r30p r30n r30c,(Builtin.append_ #[25,25] 25 #[.slice x7p x7n x7c,.slice (some (Addr.mk n14 0 none)) 1 1]).run prog w28= .ok (.slice r30p r30n r30c) w29∧
   W5 w29∧∃w31 r32p r32n r32c,(Builtin.append_ #[25,25] 25 #[.slice x11p x11n x11c,.slice (some (Addr.mk n27 0 none)) 1 1]).run prog w29= .ok (.slice r32p r32n r32c) w31∧
   ∃a33,p_=some a33∧∃w34,StoreAt (a33.add 7) 0 [.slice r30p r30n r30c] w31 w34∧
   ∃a35,p_=some a35∧∃w36,StoreAt (a35.add 8) 0 [.slice r32p r32n r32c] w34 w36∧
   Calls prog 156 #[.pointer p_,.int .i64 l_,.int .i64 (-1)] w36 fun e w37=>e= .returned (.tuple #[])∧
   K (.int .i64 0) w37))∧
 (∀n38 w39,New (.cells #[.int .i64 x13] 3) w3.drew n38 w39→
   W5 w39∧∀n40 w41,New (.cells #[.int .i64 (x9n:Int)] 3) w39 n40 w41→
   W5 w41∧∃w42 r43p r43n r43c,(Builtin.append_ #[25,25] 25 #[.slice x7p x7n x7c,.slice (some (Addr.mk n40 0 none)) 1 1]).run prog w41= .ok (.slice r43p r43n r43c) w42∧
   W5 w42∧∃w44 r45p r45n r45c,(Builtin.append_ #[25,25] 25 #[.slice x11p x11n x11c,.slice (some (Addr.mk n38 0 none)) 1 1]).run prog w42= .ok (.slice r45p r45n r45c) w44∧
   ∃a46,p_=some a46∧∃w47,StoreAt (a46.add 7) 0 [.slice r43p r43n r43c] w44 w47∧
   ∃a48,p_=some a48∧∃w49,StoreAt (a48.add 8) 0 [.slice r45p r45n r45c] w47 w49∧
   Calls prog 156 #[.pointer p_,.int .i64 l_,.int .i64 (-1)] w49 fun e w50=>e= .returned (.tuple #[])∧
   K (.int .i64 0) w50)))
theorem prop_Prop_Decide.calls {p_ l_ w R} (h:prop_Prop_Decide.w p_ l_ w fun v w'=>R (.returned v) w'):Calls prog 109 #[.pointer p_,.int .i64 l_] w R:=
 calls_of mixed Tryz.func109 (by kernel_rfl) rfl (ann:=(.two .leaf (.two .leaf (.two .draw .leaf)))) (F:=prop_Prop_Decide.w p_ l_ w) (fun K=>by kernel_rfl) h
def drat_greatest.w (f_0:Int) (f1p:Option Addr) (f1n:Nat) (f1c:Nat) (a:Option Addr) (b:Nat) (c:Nat) (w:World) (K:Value→World→Prop):Prop:=
 ∀n1 w2,New (.cells #[.int .i64 f_0,.slice f1p f1n f1c] 24) w n1 w2→
 ∃x3,w2.cell? ((Addr.mk n1 0 none).add 0)=some (.int .i64 x3)∧
 ∃I4:Int→Int→World→Nat→Prop,(∃k5,I4 x3 0 w2 k5)∧
 ∀n_7 v8 w9 k5 (_:Fr),I4 n_7 v8 w9 k5→
 cnd (decide (v8< (b:Int)))
  (ixK a b v8 2 fun a10=>
    ∃x11 x12p x12n x12c,CellsAt w9 a10 0 [.bool x11,.slice x12p x12n x12c]∧
    ∀n13 w14,New (.cells #[.bool false,.slice none 0 0] 58) w9 n13 w14→
    ∃w15,StoreAt (Addr.mk n13 0 none) 0 [.bool x11,.slice x12p x12n x12c] w14 w15∧
    ∃x16p x16n x16c,w15.cell? ((Addr.mk n13 0 none).add 1)=some (.slice x16p x16n x16c)∧
    ∃I17:Int→Int→World→Nat→Prop,(∃k18,I17 n_7 0 w15 k18)∧
    ∀n_20 v21 w22 k18 (_:Fr),I17 n_20 v21 w22 k18→
    cnd (decide (v21< (x16n:Int)))
     (ixK x16p x16n v21 1 fun a23=>
       ∃x24,w22.cell? a23=some (.int .i64 x24)∧
       ∃k19,k19<k18∧I17 (imax (imax n_20 x24) (i64.wrap (0 - x24))) (i64.wrap (v21+ (1:Int))) w22 k19)
     (∃k6,k6<k5∧I4 n_20 (i64.wrap (v8+ (1:Int))) w22 k6))
  (K (.int .i64 n_7) w9)
theorem drat_greatest.calls {f_0 f1p f1n f1c a b c w R} (h:drat_greatest.w f_0 f1p f1n f1c a b c w fun v w'=>R (.returned v) w'):Calls prog 119 #[.agg #[.int .i64 f_0,.slice f1p f1n f1c],.slice a b c] w R:=
 calls_of mixed Tryz.func119 (by kernel_rfl) rfl (ann:=(.two .leaf (.two .leaf (.two (.two .leaf (.one (.loop [(5,3),(14,3)] (.two .leaf (.two .leaf (.two (.one (.two .leaf (.two .leaf (.one (.loop [(5,3),(21,3)] .leaf))))) .leaf)))))) .leaf)))) (F:=drat_greatest.w f_0 f1p f1n f1c a b c w) (fun K=>by kernel_rfl) h
def rup_Unit.w (f_0:Int) (f1p:Option Addr) (f1n:Nat) (f1c:Nat) (a:Option Addr) (b:Nat) (c:Nat) (w:World) (K:Value→World→Prop):Prop:=
 ∀n1 w2,New (.cells #[.int .i64 f_0,.slice f1p f1n f1c] 24) w n1 w2→
 ∃x3 x4p x4n x4c,CellsAt w2 (Addr.mk n1 0 none) 0 [.int .i64 x3,.slice x4p x4n x4c]∧
 Calls prog 178 #[.agg #[.int .i64 x3,.slice x4p x4n x4c],.slice a b c] w2 fun e w5=> ∃r6,e= .returned (.bool r6)∧
 cnd r6
 (∃x7 x8p x8n x8c,CellsAt w5 (Addr.mk n1 0 none) 0 [.int .i64 x7,.slice x8p x8n x8c]∧
 ∀n9 w10,New (.cells #[.slice a b c] 25) w5 n9 w10→
 Calls prog 56 #[.agg #[.int .i64 x7,.slice x8p x8n x8c],.slice (some (Addr.mk n9 0 none)) 1 1] w10 fun e w11=> ∃r12,e= .returned (.pointer r12)∧
 Calls prog 98 #[.pointer r12,.slice a b c] w11 fun e w13=> ∃r14,e= .returned (.bool r14)∧
 K (.bool r14) w13)
 (K (.bool false) w5)
theorem rup_Unit.calls {f_0 f1p f1n f1c a b c w R} (h:rup_Unit.w f_0 f1p f1n f1c a b c w fun v w'=>R (.returned v) w'):Calls prog 120 #[.agg #[.int .i64 f_0,.slice f1p f1n f1c],.slice a b c] w R:=
 calls_of mixed Tryz.func120 (by kernel_rfl) rfl (ann:= .leaf) (F:=rup_Unit.w f_0 f1p f1n f1c a b c w) (fun K=>by kernel_rfl) h
def drat_end_1.w (s_0:Bool) (s1p:Option Addr) (s1n:Nat) (s1c:Nat) (w:World) (K:Value→World→Prop):Prop:=
 ∀n1 w2,New (.cells #[.bool s_0,.slice s1p s1n s1c] 58) w n1 w2→
 ∃x3,w2.cell? ((Addr.mk n1 0 none).add 0)=some (.bool x3)∧
 cnd (!x3)
 (∃x4p x4n x4c,w2.cell? ((Addr.mk n1 0 none).add 1)=some (.slice x4p x4n x4c)∧
 K (.bool ((x4n:Int)==(0:Int))) w2)
 (K (.bool false) w2)
theorem drat_end_1.calls {s_0 s1p s1n s1c w R} (h:drat_end_1.w s_0 s1p s1n s1c w fun v w'=>R (.returned v) w'):Calls prog 121 #[.agg #[.bool s_0,.slice s1p s1n s1c]] w R:=
 calls_of mixed Tryz.func121 (by kernel_rfl) rfl (ann:= .leaf) (F:=drat_end_1.w s_0 s1p s1n s1c w) (fun K=>by kernel_rfl) h
def lit_Norm.w (a:Option Addr) (b:Nat) (c:Nat) (w:World) (K:Value→World→Prop):Prop:=
 Calls prog 49 #[.slice a b c] w fun e w1=> ∃r2,e= .returned (.int .i64 r2)∧
 cnd (r2 !=(0:Int))
 (K (.tuple #[.slice none 0 0,.bool false]) w1)
 (Calls prog 79 #[.slice a b c] w1 fun e w3=> ∃r4p r4n r4c,e= .returned (.slice r4p r4n r4c)∧
   Calls prog 179 #[.slice r4p r4n r4c,.func (.func 180) #[] #[]] w3 fun e w5=>e= .returned (.tuple #[])∧
   Calls prog 181 #[.slice r4p r4n r4c] w5 fun e w6=> ∃r7p r7n r7c,e= .returned (.slice r7p r7n r7c)∧
   ∃I8:Int→World→Nat→Prop,(∃k9,I8 1 w6 k9)∧
   ∀i_11 w12 k9 (_:Fr),I8 i_11 w12 k9→
   cnd (decide (i_11< (r7n:Int)))
    (ixK r7p r7n i_11 1 fun a13=>
      ∃x14,w12.drew.cell? a13=some (.int .i64 x14)∧
      ixK r7p r7n (i64.wrap (i_11 - (1:Int))) 1 fun a15=>
      ∃x16,w12.drew.cell? a15=some (.int .i64 x16)∧
      cnd (x14==(i64.wrap (0 - x16)))
      (K (.tuple #[.slice r7p r7n r7c,.bool true]) w12.drew)
      (∃k10,k10<k9∧I8 (i64.wrap (i_11+ (1:Int))) w12.drew k10))
    (K (.tuple #[.slice r7p r7n r7c,.bool false]) w12))
theorem lit_Norm.calls {a b c w R} (h:lit_Norm.w a b c w fun v w'=>R (.returned v) w'):Calls prog 122 #[.slice a b c] w R:=
 calls_of mixed Tryz.func122 (by kernel_rfl) rfl (ann:=(.two .leaf (.two .leaf (.two .leaf (.two .leaf (.two .leaf (.two (.two .leaf (.one (.loop [(5,3)] .leaf))) .leaf))))))) (F:=lit_Norm.w a b c w) (fun K=>by kernel_rfl) h
def slices_IndexFunc_fathom_drat_source_fathom_drat_source.w (a:Option Addr) (b:Nat) (c:Nat) (f_f:FuncId) (f_v:Array Value) (w:World) (K:Value→World→Prop):Prop:=
 ∃I1:Int→World→Nat→Prop,(∃k2,I1 0 w k2)∧
 ∀v4 w5 k2 (_:Fr),I1 v4 w5 k2→
 cnd (decide (v4< (b:Int)))
  (ixK a b v4 3 fun a6=>
    ∃x7p x7n x7c x8 x9,CellsAt w5 a6 0 [.slice x7p x7n x7c,.bool x8,.int .i64 x9]∧
    cnd (entB prog f_f) (Calls prog f_f (#[]++ #[.agg #[.slice x7p x7n x7c,.bool x8,.int .i64 x9]]++f_v) w5 fun e w10=> ∃r11,e= .returned (.bool r11)∧
    cnd r11
    (K (.int .i64 v4) w10)
    (∃k3,k3<k2∧I1 (i64.wrap (v4+ (1:Int))) w10 k3)) False)
  (K (.int .i64 (-1)) w5)
theorem slices_IndexFunc_fathom_drat_source_fathom_drat_source.calls {a b c f_f f_v w R} (h:slices_IndexFunc_fathom_drat_source_fathom_drat_source.w a b c f_f f_v w fun v w'=>R (.returned v) w'):Calls prog 123 #[.slice a b c,.func (.func f_f) #[] f_v] w R:=
 calls_of mixed Tryz.func123 (by kernel_rfl) rfl (ann:=(.two .leaf (.two (.two .leaf (.one (.loop [(8,3)] .leaf))) .leaf))) (F:=slices_IndexFunc_fathom_drat_source_fathom_drat_source.w a b c f_f f_v w) (fun K=>by kernel_rfl) h
def drat_gone_1.w (s0p:Option Addr) (s0n:Nat) (s0c:Nat) (s_1:Bool) (s_2:Int) (c0_:Addr) (w:World) (K:Value→World→Prop):Prop:=
 ∀n1 w2,New (.cells #[.slice s0p s0n s0c,.bool s_1,.int .i64 s_2] 126) w n1 w2→
 ∃x3p x3n x3c,w2.cell? ((Addr.mk n1 0 none).add 0)=some (.slice x3p x3n x3c)∧
 Calls prog 122 #[.slice x3p x3n x3c] w2 fun e w4=> ∃r5p r5n r5c r6,e= .returned (.tuple #[.slice r5p r5n r5c,.bool r6])∧
 ∃x7p x7n x7c,w4.cell? c0_=some (.slice x7p x7n x7c)∧
 Calls prog 125 #[.slice r5p r5n r5c,.slice x7p x7n x7c] w4 fun e w8=> ∃r9,e= .returned (.bool r9)∧
 K (.bool r9) w8
theorem drat_gone_1.calls {s0p s0n s0c s_1 s_2 c0_ w R} (h:drat_gone_1.w s0p s0n s0c s_1 s_2 c0_ w fun v w'=>R (.returned v) w'):Calls prog 124 #[.agg #[.slice s0p s0n s0c,.bool s_1,.int .i64 s_2],.pointer (some c0_)] w R:=
 calls_of mixed Tryz.func124 (by kernel_rfl) rfl (ann:= .leaf) (F:=drat_gone_1.w s0p s0n s0c s_1 s_2 c0_ w) (fun K=>by kernel_rfl) h
def slices_Equal_int_int.w (a:Option Addr) (b:Nat) (c:Nat) (d:Option Addr) (f:Nat) (g:Nat) (w:World) (K:Value→World→Prop):Prop:=
 cnd ((b:Int) !=(f:Int))
 (K (.bool false) w)
 (∃I1:Int→World→Nat→Prop,(∃k2,I1 0 w k2)∧
   ∀v4 w5 k2 (_:Fr),I1 v4 w5 k2→
   cnd (decide (v4< (b:Int)))
    (ixK a b v4 1 fun a6=>
      ∃x7,w5.drew.cell? a6=some (.int .i64 x7)∧
      ixK d f v4 1 fun a8=>
      ∃x9,w5.drew.cell? a8=some (.int .i64 x9)∧
      cnd (x7 !=x9)
      (K (.bool false) w5.drew)
      (∃k3,k3<k2∧I1 (i64.wrap (v4+ (1:Int))) w5.drew k3))
    (K (.bool true) w5))
theorem slices_Equal_int_int.calls {a b c d f g w R} (h:slices_Equal_int_int.w a b c d f g w fun v w'=>R (.returned v) w'):Calls prog 125 #[.slice a b c,.slice d f g] w R:=
 calls_of mixed Tryz.func125 (by kernel_rfl) rfl (ann:=(.two .leaf (.two .leaf (.two (.two .leaf (.one (.loop [(13,3)] .leaf))) .leaf)))) (F:=slices_Equal_int_int.w a b c d f g w) (fun K=>by kernel_rfl) h
def slices_Delete_fathom_drat_source_fathom_drat_source.w (a:Option Addr) (b:Nat) (c:Nat) (i_:Int) (j_:Int) (w:World) (K:Value→World→Prop):Prop:=
 slK a b c 3 (some i_) (some j_) (some (b:Int)) fun s1p s1n s1c=>
 cnd (i_==j_)
 (K (.slice a b c) w)
 (slK a b c 3 none (some i_) none fun s2p s2n s2c=>
   slK a b c 3 (some j_) none none fun s3p s3n s3c=>
   ∃w4 r5p r5n r5c,(Builtin.append_ #[121,121] 121 #[.slice s2p s2n s2c,.slice s3p s3n s3c]).run prog w.drew= .ok (.slice r5p r5n r5c) w4∧
   slK r5p r5n r5c 3 (some (r5n:Int)) (some (b:Int)) none fun s6p s6n s6c=>
   ∃w7,(Builtin.clear_ #[121] 0 #[.slice s6p s6n s6c]).run prog w4= .ok (.tuple #[]) w7∧
   K (.slice r5p r5n r5c) w7)
theorem slices_Delete_fathom_drat_source_fathom_drat_source.calls {a b c i_ j_ w R} (h:slices_Delete_fathom_drat_source_fathom_drat_source.w a b c i_ j_ w fun v w'=>R (.returned v) w'):Calls prog 126 #[.slice a b c,.int .i64 i_,.int .i64 j_] w R:=
 calls_of mixed Tryz.func126 (by kernel_rfl) rfl (ann:= .leaf) (F:=slices_Delete_fathom_drat_source_fathom_drat_source.w a b c i_ j_ w) (fun K=>by kernel_rfl) h
def drat_taut.w (a:Option Addr) (b:Nat) (c:Nat) (w:World) (K:Value→World→Prop):Prop:=
 Calls prog 122 #[.slice a b c] w fun e w1=> ∃r2p r2n r2c r3,e= .returned (.tuple #[.slice r2p r2n r2c,.bool r3])∧
 K (.bool r3) w1
theorem drat_taut.calls {a b c w R} (h:drat_taut.w a b c w fun v w'=>R (.returned v) w'):Calls prog 127 #[.slice a b c] w R:=
 calls_of mixed Tryz.func127 (by kernel_rfl) rfl (ann:= .leaf) (F:=drat_taut.w a b c w) (fun K=>by kernel_rfl) h
def drat_coded.w (a:Option Addr) (b:Nat) (c:Nat) (w:World) (K:Value→World→Prop):Prop:=
 ∀n1 w2,New (.map #[] 0) w n1 w2→
 ∃I3:Option Addr→Nat→Nat→Int→World→Nat→Prop,(∃k4,I3 none 0 0 0 w2 k4)∧
 ∀o6p o6n o6c v7 w8 k4 (_:Fr),I3 o6p o6n o6c v7 w8 k4→
 cnd (decide (v7< (b:Int)))
  (ixK a b v7 1 fun a9=>
    ∃x10p x10n x10c,w8.cell? a9=some (.slice x10p x10n x10c)∧
    ∃I11:Option Addr→Nat→Nat→Int→World→Nat→Prop,(∃k12,I11 none 0 0 0 w8 k12)∧
    ∀d14p d14n d14c v15 w16 k12 (_:Fr),I11 d14p d14n d14c v15 w16 k12→
    cnd (decide (v15< (x10n:Int)))
     (ixK x10p x10n v15 1 fun a17=>
       ∃x18,w16.cell? a17=some (.int .i64 x18)∧
       ∃w19 r20,(Instr.lookup 147 (.map (some n1)) (.int .i64 (imax x18 (i64.wrap (0 - x18)))) false).run prog w16= .ok (.int .i64 r20) w19∧
       cnd (r20==(0:Int))
       (∃n21,(Builtin.len_ #[147] 3 #[.map (some n1)]).run prog w19= .ok (.int .i64 n21) w19∧
         ∃w22,(Instr.mapUpdate 147 (.map (some n1)) (.int .i64 (imax x18 (i64.wrap (0 - x18)))) (.int .i64 (i64.wrap (n21+ (1:Int))))).run prog w19= .ok () w22∧
         cnd (decide (x18< (0:Int)))
         (∃w23 r24,(Instr.lookup 147 (.map (some n1)) (.int .i64 (imax x18 (i64.wrap (0 - x18)))) false).run prog w22= .ok (.int .i64 r24) w23∧
           ∀n25 w26,New (.cells #[.int .i64 (i64.wrap (0 - r24))] 3) w23 n25 w26→
           ∃w27 r28p r28n r28c,(Builtin.append_ #[25,25] 25 #[.slice d14p d14n d14c,.slice (some (Addr.mk n25 0 none)) 1 1]).run prog w26= .ok (.slice r28p r28n r28c) w27∧
           ∃k13,k13<k12∧I11 r28p r28n r28c (i64.wrap (v15+ (1:Int))) w27 k13)
         (∃w29 r30,(Instr.lookup 147 (.map (some n1)) (.int .i64 (imax x18 (i64.wrap (0 - x18)))) false).run prog w22= .ok (.int .i64 r30) w29∧
           ∀n31 w32,New (.cells #[.int .i64 r30] 3) w29 n31 w32→
           ∃w33 r34p r34n r34c,(Builtin.append_ #[25,25] 25 #[.slice d14p d14n d14c,.slice (some (Addr.mk n31 0 none)) 1 1]).run prog w32= .ok (.slice r34p r34n r34c) w33∧
           ∃k13,k13<k12∧I11 r34p r34n r34c (i64.wrap (v15+ (1:Int))) w33 k13))
       (cnd (decide (x18< (0:Int)))
         (∃w35 r36,(Instr.lookup 147 (.map (some n1)) (.int .i64 (imax x18 (i64.wrap (0 - x18)))) false).run prog w19= .ok (.int .i64 r36) w35∧
           ∀n37 w38,New (.cells #[.int .i64 (i64.wrap (0 - r36))] 3) w35 n37 w38→
           ∃w39 r40p r40n r40c,(Builtin.append_ #[25,25] 25 #[.slice d14p d14n d14c,.slice (some (Addr.mk n37 0 none)) 1 1]).run prog w38= .ok (.slice r40p r40n r40c) w39∧
           ∃k13,k13<k12∧I11 r40p r40n r40c (i64.wrap (v15+ (1:Int))) w39 k13)
         (∃w41 r42,(Instr.lookup 147 (.map (some n1)) (.int .i64 (imax x18 (i64.wrap (0 - x18)))) false).run prog w19= .ok (.int .i64 r42) w41∧
           ∀n43 w44,New (.cells #[.int .i64 r42] 3) w41 n43 w44→
           ∃w45 r46p r46n r46c,(Builtin.append_ #[25,25] 25 #[.slice d14p d14n d14c,.slice (some (Addr.mk n43 0 none)) 1 1]).run prog w44= .ok (.slice r46p r46n r46c) w45∧
           ∃k13,k13<k12∧I11 r46p r46n r46c (i64.wrap (v15+ (1:Int))) w45 k13)))
     (∀n47 w48,New (.cells #[.slice d14p d14n d14c] 25) w16 n47 w48→
       ∃w49 r50p r50n r50c,(Builtin.append_ #[22,22] 22 #[.slice o6p o6n o6c,.slice (some (Addr.mk n47 0 none)) 1 1]).run prog w48= .ok (.slice r50p r50n r50c) w49∧
       ∃k5,k5<k4∧I3 r50p r50n r50c (i64.wrap (v7+ (1:Int))) w49 k5))
  (∃n51,(Builtin.len_ #[147] 3 #[.map (some n1)]).run prog w8= .ok (.int .i64 n51) w8∧
    K (.tuple #[.int .i64 n51,.slice o6p o6n o6c]) w8)
theorem drat_coded.calls {a b c w R} (h:drat_coded.w a b c w fun v w'=>R (.returned v) w'):Calls prog 128 #[.slice a b c] w R:=
 calls_of mixed Tryz.func128 (by kernel_rfl) rfl (ann:=(.two .leaf (.two .leaf (.two .leaf (.two (.two .leaf (.one (.loop [(5,22),(15,3)] (.two .leaf (.two .leaf (.two (.one (.two .leaf (.two .leaf (.two (.two .leaf (.one (.loop [(8,25),(21,3)] .leaf))) .leaf)))) .leaf)))))) .leaf))))) (F:=drat_coded.w a b c w) (fun K=>by kernel_rfl) h
def slices_Clone_int_int_85.w (a:Option Addr) (b:Nat) (c:Nat) (w:World) (K:Value→World→Prop):Prop:=
 cnd a.isNone
 (K (.slice none 0 0) w)
 (∀n1 w2,New (.cells #[] 25) w n1 w2→
   ∃w3 r4p r4n r4c,(Builtin.append_ #[22,22] 22 #[.slice (some (Addr.mk n1 0 none)) 0 0,.slice a b c]).run prog w2= .ok (.slice r4p r4n r4c) w3∧
   K (.slice r4p r4n r4c) w3)
theorem slices_Clone_int_int_85.calls {a b c w R} (h:slices_Clone_int_int_85.w a b c w fun v w'=>R (.returned v) w'):Calls prog 129 #[.slice a b c] w R:=
 calls_of mixed Tryz.func129 (by kernel_rfl) rfl (ann:= .leaf) (F:=slices_Clone_int_int_85.w a b c w) (fun K=>by kernel_rfl) h
def drat_tester_at.w (t_:Option Addr) (w:World) (K:Value→World→Prop):Prop:=
 ∃a1,t_=some a1∧∃x2,w.cell? (a1.add 0)=some (.pointer x2)∧
 ∃a3,t_=some a3∧∃x4p x4n x4c,w.cell? (a3.add 1)=some (.slice x4p x4n x4c)∧
 ∃I5:Int→World→Nat→Prop,(∃k6,I5 0 w k6)∧
 ∀v8 w9 k6 (_:Fr),I5 v8 w9 k6→
 cnd (decide (v8< (x4n:Int)))
  (ixK x4p x4n v8 1 fun a10=>
    ∃x11,w9.cell? a10=some (.int .i64 x11)∧
    ∃a12,t_=some a12∧∃x13,w9.cell? (a12.add 0)=some (.pointer x13)∧
    Calls prog 108 #[.pointer x13,.int .i64 x11] w9 fun e w14=> ∃r15,e= .returned (.int .i64 r15)∧
    cnd (r15==(0:Int))
    (∃a16,t_=some a16∧∃x17,w14.cell? (a16.add 0)=some (.pointer x17)∧
      Calls prog 109 #[.pointer x17,.int .i64 (i64.wrap (0 - x11))] w14 fun e w18=> ∃r19,e= .returned (.int .i64 r19)∧
      ∃k7,k7<k6∧I5 (i64.wrap (v8+ (1:Int))) w18 k7)
    (∃k7,k7<k6∧I5 (i64.wrap (v8+ (1:Int))) w14 k7))
  (∃a20,t_=some a20∧∃x21,w9.cell? (a20.add 0)=some (.pointer x21)∧
    Calls prog 64 #[.pointer x21] w9 fun e w22=> ∃r23,e= .returned (.int .i64 r23)∧
    CallsD prog 143 #[.pointer x2,.int .i64 0] .returning w22 fun e u25 w24=>u25= .returning∧∃v26:Value,e= .returned v26∧
    K (.bool (decide (r23≥(0:Int)))) w24)
theorem drat_tester_at.calls {t_ w R} (h:drat_tester_at.w t_ w fun v w'=>R (.returned v) w'):Calls prog 130 #[.pointer t_] w R:=
 calls_ofD mixed Tryz.func130 (by kernel_rfl) rfl (ann:=(.two .leaf (.two .leaf (.two (.two .leaf (.one (.loop [(14,3)] .leaf))) .leaf)))) (F:=drat_tester_at.w t_ w) (fun K=>by kernel_rfl) h
def prop_Prop_Drop.w (p_:Option Addr) (i_:Int) (w:World) (K:Value→World→Prop):Prop:=
 ∀n1 w2,New (.cells #[.int .i64 i_] 3) w n1 w2→
 ∃x3,w2.cell? (Addr.mk n1 0 none)=some (.int .i64 x3)∧
 Calls prog 160 #[.pointer p_,.int .i64 x3] w2 fun e w4=> ∃r5,e= .returned (.bool r5)∧
 cnd (!r5)
 (K (.int .i64 4) w4)
 (∃a6,p_=some a6∧∃x7p x7n x7c,w4.drew.cell? (a6.add 1)=some (.slice x7p x7n x7c)∧
   ∃x8,w4.drew.cell? (Addr.mk n1 0 none)=some (.int .i64 x8)∧
   ixK x7p x7n x8 3 fun a9=>
   ∃x10p x10n x10c,w4.drew.cell? (a9.add 1)=some (.slice x10p x10n x10c)∧
   ∃I11:Int→World→Nat→Prop,(∃k12,I11 0 w4.drew k12)∧
   ∀v14 w15 k12 (_:Fr),I11 v14 w15 k12→
   cnd (decide (v14< (x10n:Int)))
    (ixK x10p x10n v14 1 fun a16=>
      ∃x17,w15.cell? a16=some (.int .i64 x17)∧
      ∃W18:World→Prop,W18 w15.drew∧
      Calls prog 153 #[.pointer p_,.int .i64 x17] w15.drew fun e w19=> ∃r20,e= .returned (.int .i8 r20)∧
      W18 w19∧cnd (decide (r20> (0:Int)))
      (∃a21,p_=some a21∧∃x22p x22n x22c,AtW W18 (a21.add 5) (.slice x22p x22n x22c)∧
      Calls prog 182 #[.int .i64 x17] w19 fun e w23=> ∃r24,e= .returned (.int .i64 r24)∧
      W18 w23∧ixK x22p x22n r24 1 fun a25=>
      ∃x26,AtW W18 a25 (.int .i64 x26)∧
      ∃x27,AtW W18 (Addr.mk n1 0 none) (.int .i64 x27)∧
      cnd (x26==x27)
      (K (.int .i64 7) w23)
      (∃k13,k13<k12∧I11 (i64.wrap (v14+ (1:Int))) w23 k13))
      (∃k13,k13<k12∧I11 (i64.wrap (v14+ (1:Int))) w19 k13))
    (∃x28,w15.cell? (Addr.mk n1 0 none)=some (.int .i64 x28)∧
      Calls prog 154 #[.pointer p_,.int .i64 x28] w15 fun e w29=>e= .returned (.tuple #[])∧
      ∃a30,p_=some a30∧∃x31p x31n x31c,w29.cell? (a30.add 10)=some (.slice x31p x31n x31c)∧
      Calls prog 151 #[.slice x31p x31n x31c,.func (.func 183) #[] #[.pointer (some (Addr.mk n1 0 none))]] w29 fun e w32=> ∃r33p r33n r33c,e= .returned (.slice r33p r33n r33c)∧
      ∃a34,p_=some a34∧∃w35,StoreAt (a34.add 10) 0 [.slice r33p r33n r33c] w32 w35∧
      ∃a36,p_=some a36∧∃x37p x37n x37c,w35.drew.cell? (a36.add 1)=some (.slice x37p x37n x37c)∧
      ∃x38,w35.drew.cell? (Addr.mk n1 0 none)=some (.int .i64 x38)∧
      ixK x37p x37n x38 3 fun a39=>
      ∃w40,StoreAt a39 0 [.slice none 0 0,.slice none 0 0,.bool true] w35.drew w40∧
      K (.int .i64 0) w40))
theorem prop_Prop_Drop.calls {p_ i_ w R} (h:prop_Prop_Drop.w p_ i_ w fun v w'=>R (.returned v) w'):Calls prog 131 #[.pointer p_,.int .i64 i_] w R:=
 calls_of mixed Tryz.func131 (by kernel_rfl) rfl (ann:=(.two .leaf (.two .leaf (.two (.two .leaf (.one (.loop [(20,3)] (.two .leaf (.two .leaf (.two (.one (.two .leaf (.two .draw .leaf))) .leaf)))))) .leaf)))) (F:=prop_Prop_Drop.w p_ i_ w) (fun K=>by kernel_rfl) h
def drat_rising.w (a:Option Addr) (b:Nat) (c:Nat) (n_:Int) (w:World) (K:Value→World→Prop):Prop:=
 ∃I1:Int→World→Nat→Prop,(∃k2,I1 0 w k2)∧
 ∀v4 w5 k2 (_:Fr),I1 v4 w5 k2→
 cnd (decide (v4< (b:Int)))
  (ixK a b v4 1 fun a6=>
    ∃x7,w5.cell? a6=some (.int .i64 x7)∧
    cnd (decide (x7< (0:Int)))
    (K (.bool false) w5)
    (cnd (decide (x7≥n_))
    (K (.bool false) w5)
    (cnd (decide (v4> (0:Int)))
    (ixK a b (i64.wrap (v4 - (1:Int))) 1 fun a8=>
    ∃x9,w5.cell? a8=some (.int .i64 x9)∧
    cnd (decide (x7≤x9))
    (K (.bool false) w5)
    (∃k3,k3<k2∧I1 (i64.wrap (v4+ (1:Int))) w5 k3))
    (∃k3,k3<k2∧I1 (i64.wrap (v4+ (1:Int))) w5 k3))))
  (K (.bool true) w5)
theorem drat_rising.calls {a b c n_ w R} (h:drat_rising.w a b c n_ w fun v w'=>R (.returned v) w'):Calls prog 133 #[.slice a b c,.int .i64 n_] w R:=
 calls_of mixed Tryz.func133 (by kernel_rfl) rfl (ann:=(.two .leaf (.two (.two .leaf (.one (.loop [(9,3)] .leaf))) .leaf))) (F:=drat_rising.w a b c n_ w) (fun K=>by kernel_rfl) h
def drat_Check_1.w (i_:Int) (c0_:Addr) (w:World) (K:Value→World→Prop):Prop:=
 ∃x1p x1n x1c,w.cell? c0_=some (.slice x1p x1n x1c)∧
 ixK x1p x1n i_ 2 fun a2=>
 ∃x3,w.cell? (a2.add 0)=some (.bool x3)∧
 K (.bool x3) w
theorem drat_Check_1.calls {i_ c0_ w R} (h:drat_Check_1.w i_ c0_ w fun v w'=>R (.returned v) w'):Calls prog 134 #[.int .i64 i_,.pointer (some c0_)] w R:=
 calls_of mixed Tryz.func134 (by kernel_rfl) rfl (ann:= .leaf) (F:=drat_Check_1.w i_ c0_ w) (fun K=>by kernel_rfl) h
def fathomref01_Has.w (a:Option Addr) (b:Nat) (c:Nat) (n_:Int) (w:World) (K:Value→World→Prop):Prop:=
 ∃I1:Int→World→Nat→Prop,(∃k2,I1 0 w k2)∧
 ∀i_4 w5 k2 (_:Fr),I1 i_4 w5 k2→
 cnd (decide (i_4< (b:Int)))
  (ixK a b i_4 1 fun a6=>
    ∃x7,w5.cell? a6=some (.int .i64 x7)∧
    cnd (x7==n_)
    (K (.bool true) w5)
    (∃k3,k3<k2∧I1 (i64.wrap (i_4+ (1:Int))) w5 k3))
  (K (.bool false) w5)
theorem fathomref01_Has.calls {a b c n_ w R} (h:fathomref01_Has.w a b c n_ w fun v w'=>R (.returned v) w'):Calls prog 135 #[.slice a b c,.int .i64 n_] w R:=
 calls_of mixed Tryz.func135 (by kernel_rfl) rfl (ann:=(.two .leaf (.two (.two .leaf (.one (.loop [(5,3)] .leaf))) .leaf))) (F:=fathomref01_Has.w a b c n_ w) (fun K=>by kernel_rfl) h
def fathomref06_Broken.w (a:Option Addr) (b:Nat) (c:Nat) (d:Option Addr) (f:Nat) (g:Nat) (w:World) (K:Value→World→Prop):Prop:=
 ∃I1:Int→World→Nat→Prop,(∃k2,I1 0 w k2)∧
 ∀i_4 w5 k2 (_:Fr),I1 i_4 w5 k2→
 cnd (decide (i_4< (b:Int)))
  (ixK a b i_4 1 fun a6=>
    ∃x7,w5.cell? a6=some (.int .i64 x7)∧
    Calls prog 135 #[.slice d f g,.int .i64 (i64.wrap (0 - x7))] w5 fun e w8=> ∃r9,e= .returned (.bool r9)∧
    cnd (!r9)
    (K (.bool false) w8)
    (∃k3,k3<k2∧I1 (i64.wrap (i_4+ (1:Int))) w8 k3))
  (K (.bool true) w5)
theorem fathomref06_Broken.calls {a b c d f g w R} (h:fathomref06_Broken.w a b c d f g w fun v w'=>R (.returned v) w'):Calls prog 136 #[.slice a b c,.slice d f g] w R:=
 calls_of mixed Tryz.func136 (by kernel_rfl) rfl (ann:=(.two .leaf (.two (.two .leaf (.one (.loop [(5,3)] .leaf))) .leaf))) (F:=fathomref06_Broken.w a b c d f g w) (fun K=>by kernel_rfl) h
def fathomref06_Unit.w (a:Option Addr) (b:Nat) (c:Nat) (d:Option Addr) (f:Nat) (g:Nat) (w:World) (K:Value→World→Prop):Prop:=
 ∃I1:Int→Int→World→Nat→Prop,(∃k2,I1 0 0 w k2)∧
 ∀o_4 i_5 w6 k2 (_:Fr),I1 o_4 i_5 w6 k2→
 cnd (decide (i_5< (b:Int)))
  (ixK a b i_5 1 fun a7=>
    ∃x8,w6.cell? a7=some (.int .i64 x8)∧
    Calls prog 135 #[.slice d f g,.int .i64 x8] w6 fun e w9=> ∃r10,e= .returned (.bool r10)∧
    cnd r10
    (K (.int .i64 0) w9)
    (ixK a b i_5 1 fun a11=>
      ∃x12,w9.cell? a11=some (.int .i64 x12)∧
      Calls prog 135 #[.slice d f g,.int .i64 (i64.wrap (0 - x12))] w9 fun e w13=> ∃r14,e= .returned (.bool r14)∧
      cnd r14
      (∃k3,k3<k2∧I1 o_4 (i64.wrap (i_5+ (1:Int))) w13 k3)
      (ixK a b i_5 1 fun a15=>
      ∃x16,w13.cell? a15=some (.int .i64 x16)∧
      cnd (x16==o_4)
      (∃k3,k3<k2∧I1 o_4 (i64.wrap (i_5+ (1:Int))) w13 k3)
      (cnd (o_4 !=(0:Int))
        (K (.int .i64 0) w13)
        (ixK a b i_5 1 fun a17=>
          ∃x18,w13.cell? a17=some (.int .i64 x18)∧
          ∃k3,k3<k2∧I1 x18 (i64.wrap (i_5+ (1:Int))) w13 k3)))))
  (K (.int .i64 o_4) w6)
theorem fathomref06_Unit.calls {a b c d f g w R} (h:fathomref06_Unit.w a b c d f g w fun v w'=>R (.returned v) w'):Calls prog 137 #[.slice a b c,.slice d f g] w R:=
 calls_of mixed Tryz.func137 (by kernel_rfl) rfl (ann:=(.two .leaf (.two .leaf (.two (.two .leaf (.one (.loop [(5,3),(6,3)] .leaf))) .leaf)))) (F:=fathomref06_Unit.w a b c d f g w) (fun K=>by kernel_rfl) h
def fathomref01_Ahead.w (a_:Int) (b_:Int) (w:World) (K:Value→World→Prop):Prop:=
 Calls prog 34 #[.int .i64 a_] w fun e w1=> ∃r2,e= .returned (.int .i64 r2)∧
 Calls prog 34 #[.int .i64 b_] w1 fun e w3=> ∃r4,e= .returned (.int .i64 r4)∧
 cnd (decide (r2<r4))
 (K (.bool true) w3)
 (Calls prog 34 #[.int .i64 a_] w3 fun e w5=> ∃r6,e= .returned (.int .i64 r6)∧
 Calls prog 34 #[.int .i64 b_] w5 fun e w7=> ∃r8,e= .returned (.int .i64 r8)∧
 cnd (r6==r8)
 (K (.bool (decide (a_>b_))) w7)
 (K (.bool false) w7))
theorem fathomref01_Ahead.calls {a_ b_ w R} (h:fathomref01_Ahead.w a_ b_ w fun v w'=>R (.returned v) w'):Calls prog 138 #[.int .i64 a_,.int .i64 b_] w R:=
 calls_of mixed Tryz.func138 (by kernel_rfl) rfl (ann:= .leaf) (F:=fathomref01_Ahead.w a_ b_ w) (fun K=>by kernel_rfl) h
def slices_Delete_int_int.w (a:Option Addr) (b:Nat) (c:Nat) (i_:Int) (j_:Int) (w:World) (K:Value→World→Prop):Prop:=
 slK a b c 1 (some i_) (some j_) (some (b:Int)) fun s1p s1n s1c=>
 cnd (i_==j_)
 (K (.slice a b c) w)
 (slK a b c 1 none (some i_) none fun s2p s2n s2c=>
   slK a b c 1 (some j_) none none fun s3p s3n s3c=>
   ∃w4 r5p r5n r5c,(Builtin.append_ #[25,25] 25 #[.slice s2p s2n s2c,.slice s3p s3n s3c]).run prog w.drew= .ok (.slice r5p r5n r5c) w4∧
   slK r5p r5n r5c 1 (some (r5n:Int)) (some (b:Int)) none fun s6p s6n s6c=>
   ∃w7,(Builtin.clear_ #[25] 0 #[.slice s6p s6n s6c]).run prog w4= .ok (.tuple #[]) w7∧
   K (.slice r5p r5n r5c) w7)
theorem slices_Delete_int_int.calls {a b c i_ j_ w R} (h:slices_Delete_int_int.w a b c i_ j_ w fun v w'=>R (.returned v) w'):Calls prog 142 #[.slice a b c,.int .i64 i_,.int .i64 j_] w R:=
 calls_of mixed Tryz.func142 (by kernel_rfl) rfl (ann:= .leaf) (F:=slices_Delete_int_int.w a b c i_ j_ w) (fun K=>by kernel_rfl) h
def prop_Prop_Back.w (p_:Option Addr) (a:Int) (w:World) (K:Value→World→Prop):Prop:=
 cnd p_.isNone
 (K (.tuple #[]) w)
 (∃a1,p_=some a1∧∃x2p x2n x2c,w.cell? (a1.add 7)=some (.slice x2p x2n x2c)∧
 cnd (decide ((imax 0 a)≥(x2n:Int)))
 (K (.tuple #[]) w)
 (∃a3,p_=some a3∧∃x4p x4n x4c,w.cell? (a3.add 7)=some (.slice x4p x4n x4c)∧
   ixK x4p x4n (imax 0 a) 1 fun a5=>
   ∃x6,w.cell? a5=some (.int .i64 x6)∧
   ∃a7,p_=some a7∧∃x8p x8n x8c,w.cell? (a7.add 6)=some (.slice x8p x8n x8c)∧
   slK x8p x8n x8c 1 (some x6) none none fun s9p s9n s9c=>
   ∃I10:Int→World→Nat→Prop,(∃k11,I10 0 w k11)∧
   ∀v13 w14 k11 (_:Fr),I10 v13 w14 k11→
   cnd (decide (v13< (s9n:Int)))
    (ixK s9p s9n v13 1 fun a15=>
      ∃x16,w14.cell? a15=some (.int .i64 x16)∧
      ∃W17:World→Prop,W17 w14.drew∧
      ∃a18,p_=some a18∧∃x19p x19n x19c,AtW W17 (a18.add 3) (.slice x19p x19n x19c)∧
      Calls prog 182 #[.int .i64 x16] w14.drew fun e w20=> ∃r21,e= .returned (.int .i64 r21)∧
      W17 w20∧ixK x19p x19n r21 1 fun a22=>
      ∃w23,StoreAt a22 0 [.int .i8 0] w20 w23∧
      ∃k12,k12<k11∧I10 (i64.wrap (v13+ (1:Int))) w23 k12)
    (∃a24,p_=some a24∧∃x25,w14.drew.cell? (a24.add 9)=some (.int .i64 x25)∧
      ∃a26,p_=some a26∧∃x27p x27n x27c,w14.drew.cell? (a26.add 8)=some (.slice x27p x27n x27c)∧
      ixK x27p x27n (imax 0 a) 1 fun a28=>
      ∃x29,w14.drew.cell? a28=some (.int .i64 x29)∧
      ∃a30,p_=some a30∧∃w31,StoreAt (a30.add 9) 0 [.int .i64 (imin (imin x25 x6) x29)] w14.drew w31∧
      ∃a32,p_=some a32∧∃x33p x33n x33c,w31.drew.cell? (a32.add 6)=some (.slice x33p x33n x33c)∧
      slK x33p x33n x33c 1 none (some x6) none fun s34p s34n s34c=>
      ∃a35,p_=some a35∧∃x36p x36n x36c,w31.drew.cell? (a35.add 7)=some (.slice x36p x36n x36c)∧
      slK x36p x36n x36c 1 none (some (imax 0 a)) none fun s37p s37n s37c=>
      ∃a38,p_=some a38∧∃x39p x39n x39c,w31.drew.cell? (a38.add 8)=some (.slice x39p x39n x39c)∧
      slK x39p x39n x39c 1 none (some (imax 0 a)) none fun s40p s40n s40c=>
      ∃a41,p_=some a41∧∃w42,StoreAt (a41.add 6) 0 [.slice s34p s34n s34c] w31.drew w42∧
      ∃a43,p_=some a43∧∃w44,StoreAt (a43.add 7) 0 [.slice s37p s37n s37c] w42 w44∧
      ∃a45,p_=some a45∧∃w46,StoreAt (a45.add 8) 0 [.slice s40p s40n s40c] w44 w46∧
      K (.tuple #[]) w46)))
theorem prop_Prop_Back.callsD {p_ a w} {u:FrameMode} {R:Ending→World→Prop} (h:prop_Prop_Back.w p_ a w fun v w'=>R (.returned v) w'):CallsD prog 143 #[.pointer p_,.int .i64 a] u w fun e u' w'=>u'=u∧R e w':=
 callsD_of mixed Tryz.func143 (by kernel_rfl) rfl (ann:=(.two .leaf (.two .leaf (.two .leaf (.two (.two .leaf (.one (.loop [(34,3)] (.two .leaf (.two .leaf (.two (.one (.two .leaf .draw)) .leaf)))))) .leaf))))) (F:=prop_Prop_Back.w p_ a w) (fun K=>by kernel_rfl) h
def rup_base_code.w (b_:Option Addr) (a:Option Addr) (b:Nat) (c:Nat) (w:World) (K:Value→World→Prop):Prop:=
 ∃I1:Option Addr→Nat→Nat→Int→World→Nat→Prop,(∃k2,I1 none 0 0 0 w k2)∧
 ∀o4p o4n o4c v5 w6 k2 (_:Fr),I1 o4p o4n o4c v5 w6 k2→
 cnd (decide (v5< (b:Int)))
  (ixK a b v5 1 fun a7=>
    ∃x8,w6.cell? a7=some (.int .i64 x8)∧
    ∃a9,b_=some a9∧∃x10:Option Nat,w6.cell? (a9.add 1)=some (.map x10)∧
    ∃w11 r12,(Instr.lookup 147 (.map x10) (.int .i64 (imax x8 (i64.wrap (0 - x8)))) false).run prog w6= .ok (.int .i64 r12) w11∧
    cnd (decide (x8< (0:Int)))
    (∀n13 w14,New (.cells #[.int .i64 (i64.wrap (0 - r12))] 3) w11 n13 w14→
      ∃w15 r16p r16n r16c,(Builtin.append_ #[25,25] 25 #[.slice o4p o4n o4c,.slice (some (Addr.mk n13 0 none)) 1 1]).run prog w14= .ok (.slice r16p r16n r16c) w15∧
      ∃k3,k3<k2∧I1 r16p r16n r16c (i64.wrap (v5+ (1:Int))) w15 k3)
    (∀n17 w18,New (.cells #[.int .i64 r12] 3) w11 n17 w18→
      ∃w19 r20p r20n r20c,(Builtin.append_ #[25,25] 25 #[.slice o4p o4n o4c,.slice (some (Addr.mk n17 0 none)) 1 1]).run prog w18= .ok (.slice r20p r20n r20c) w19∧
      ∃k3,k3<k2∧I1 r20p r20n r20c (i64.wrap (v5+ (1:Int))) w19 k3))
  (K (.slice o4p o4n o4c) w6)
theorem rup_base_code.calls {b_ a b c w R} (h:rup_base_code.w b_ a b c w fun v w'=>R (.returned v) w'):Calls prog 144 #[.pointer b_,.slice a b c] w R:=
 calls_of mixed Tryz.func144 (by kernel_rfl) rfl (ann:=(.two .leaf (.two .leaf (.two (.two .leaf (.one (.loop [(5,25),(11,3)] .leaf))) .leaf)))) (F:=rup_base_code.w b_ a b c w) (fun K=>by kernel_rfl) h
def slices_Contains_int_int.w (a:Option Addr) (b:Nat) (c:Nat) (v_:Int) (w:World) (K:Value→World→Prop):Prop:=
 Calls prog 184 #[.slice a b c,.int .i64 v_] w fun e w1=> ∃r2,e= .returned (.int .i64 r2)∧
 K (.bool (decide (r2≥(0:Int)))) w1
theorem slices_Contains_int_int.calls {a b c v_ w R} (h:slices_Contains_int_int.w a b c v_ w fun v w'=>R (.returned v) w'):Calls prog 145 #[.slice a b c,.int .i64 v_] w R:=
 calls_of mixed Tryz.func145 (by kernel_rfl) rfl (ann:= .leaf) (F:=slices_Contains_int_int.w a b c v_ w) (fun K=>by kernel_rfl) h
def fathomref01_Without.w (a:Option Addr) (b:Nat) (c:Nat) (n_:Int) (w:World) (K:Value→World→Prop):Prop:=
 ∀n1 w2,New (.cells #[] 3) w n1 w2→
 ∃I3:Option Addr→Nat→Nat→Int→World→Nat→Prop,(∃k4,I3 (some (Addr.mk n1 0 none)) 0 0 0 w2 k4)∧
 ∀o6p o6n o6c i_7 w8 k4 (_:Fr),I3 o6p o6n o6c i_7 w8 k4→
 cnd (decide (i_7< (b:Int)))
  (ixK a b i_7 1 fun a9=>
    ∃x10,w8.cell? a9=some (.int .i64 x10)∧
    cnd (x10 !=n_)
    (ixK a b i_7 1 fun a11=>
      ∃x12,w8.cell? a11=some (.int .i64 x12)∧
      ∀n13 w14,New (.cells #[.int .i64 x12] 3) w8 n13 w14→
      ∃w15 r16p r16n r16c,(Builtin.append_ #[25,25] 25 #[.slice o6p o6n o6c,.slice (some (Addr.mk n13 0 none)) 1 1]).run prog w14= .ok (.slice r16p r16n r16c) w15∧
      ∃k5,k5<k4∧I3 r16p r16n r16c (i64.wrap (i_7+ (1:Int))) w15 k5)
    (∃k5,k5<k4∧I3 o6p o6n o6c (i64.wrap (i_7+ (1:Int))) w8 k5))
  (K (.slice o6p o6n o6c) w8)
theorem fathomref01_Without.calls {a b c n_ w R} (h:fathomref01_Without.w a b c n_ w fun v w'=>R (.returned v) w'):Calls prog 147 #[.slice a b c,.int .i64 n_] w R:=
 calls_of mixed Tryz.func147 (by kernel_rfl) rfl (ann:=(.two .leaf (.two .leaf (.two (.two .leaf (.one (.loop [(5,25),(6,3)] .leaf))) .leaf)))) (F:=fathomref01_Without.w a b c n_ w) (fun K=>by kernel_rfl) h
def prop_Prop_Add_1.w (l_:Int) (c0_:Addr) (w:World) (K:Value→World→Prop):Prop:=
 ∃x1,w.cell? c0_=some (.pointer x1)∧
 Calls prog 149 #[.pointer x1,.int .i64 l_] w fun e w2=> ∃r3,e= .returned (.bool r3)∧
 K (.bool (!r3)) w2
theorem prop_Prop_Add_1.calls {l_ c0_ w R} (h:prop_Prop_Add_1.w l_ c0_ w fun v w'=>R (.returned v) w'):Calls prog 148 #[.int .i64 l_,.pointer (some c0_)] w R:=
 calls_of mixed Tryz.func148 (by kernel_rfl) rfl (ann:= .leaf) (F:=prop_Prop_Add_1.w l_ c0_ w) (fun K=>by kernel_rfl) h
def prop_Prop_is.w (p_:Option Addr) (l_:Int) (w:World) (K:Value→World→Prop):Prop:=
 ∃W1:World→Prop,W1 w.drew∧
 cnd (!p_.isNone)
 (∃a2,p_=some a2∧∃x3p x3n x3c,AtW W1 (a2.add 3) (.slice x3p x3n x3c)∧
 cnd (!x3p.isNone)
 (∀n4 w5,New (.cells #[.int .i64 l_] 3) w.drew n4 w5→
 W1 w5∧Calls prog 49 #[.slice (some (Addr.mk n4 0 none)) 1 1] w5 fun e w6=> ∃r7,e= .returned (.int .i64 r7)∧
 W1 w6∧cnd (r7==(0:Int))
 (Calls prog 182 #[.int .i64 l_] w6 fun e w8=> ∃r9,e= .returned (.int .i64 r9)∧
 W1 w8∧∃a10,p_=some a10∧∃x11,AtW W1 (a10.add 0) (.int .i64 x11)∧
 K (.bool (decide (r9≤x11))) w8)
 (K (.bool false) w6))
 (K (.bool false) w.drew))
 (K (.bool false) w.drew)
theorem prop_Prop_is.calls {p_ l_ w R} (h:prop_Prop_is.w p_ l_ w fun v w'=>R (.returned v) w'):Calls prog 149 #[.pointer p_,.int .i64 l_] w R:=
 calls_of mixed Tryz.func149 (by kernel_rfl) rfl (ann:=(.two .leaf (.two .draw .leaf))) (F:=prop_Prop_is.w p_ l_ w) (fun K=>by kernel_rfl) h
def prop_Prop_settle.w (p_:Option Addr) (i_:Int) (w:World) (K:Value→World→Prop):Prop:=
 ∃a1,p_=some a1∧∃x2p x2n x2c,w.cell? (a1.add 1)=some (.slice x2p x2n x2c)∧
 ixK x2p x2n i_ 3 fun a3=>
 ∃x4p x4n x4c,w.cell? (a3.add 1)=some (.slice x4p x4n x4c)∧
 ∃I5:Int→World→Nat→Prop,(∃k6,I5 0 w k6)∧
 ∀k_8 w9 k6 (_:Fr),I5 k_8 w9 k6→
 cnd (decide (k_8< (imin 2 (x4n:Int))))
  (∃I10:Int→Int→World→Nat→Prop,(∃k11,I10 k_8 (i64.wrap (k_8+ (1:Int))) w9 k11)∧
    ∀b_13 j_14 w15 k11 (_:Fr),I10 b_13 j_14 w15 k11→
    cnd (decide (j_14< (x4n:Int)))
     (∃W16:World→Prop,W16 w15.drew∧
       ixK x4p x4n j_14 1 fun a17=>
       ∃x18,AtW W16 a17 (.int .i64 x18)∧
       Calls prog 185 #[.pointer p_,.int .i64 x18] w15.drew fun e w19=> ∃r20,e= .returned (.int .i64 r20)∧
       W16 w19∧ixK x4p x4n b_13 1 fun a21=>
       ∃x22,AtW W16 a21 (.int .i64 x22)∧
       Calls prog 185 #[.pointer p_,.int .i64 x22] w19 fun e w23=> ∃r24,e= .returned (.int .i64 r24)∧
       cnd (decide (r20>r24))
       (∃k12,k12<k11∧I10 j_14 (i64.wrap (j_14+ (1:Int))) w23 k12)
       (∃k12,k12<k11∧I10 b_13 (i64.wrap (j_14+ (1:Int))) w23 k12))
     (ixK x4p x4n b_13 1 fun a25=>
       ∃x26,w15.drew.cell? a25=some (.int .i64 x26)∧
       ixK x4p x4n k_8 1 fun a27=>
       ∃x28,w15.drew.cell? a27=some (.int .i64 x28)∧
       ixK x4p x4n k_8 1 fun a29=>
       ∃w30,StoreAt a29 0 [.int .i64 x26] w15.drew w30∧
       ixK x4p x4n b_13 1 fun a31=>
       ∃w32,StoreAt a31 0 [.int .i64 x28] w30 w32∧
       ∃k7,k7<k6∧I5 (i64.wrap (k_8+ (1:Int))) w32 k7))
  (slK x4p x4n x4c 1 none (some (imin 2 (x4n:Int))) none fun s33p s33n s33c=>
    ∃I34:Int→World→Nat→Prop,(∃k35,I34 0 w9 k35)∧
    ∀v37 w38 k35 (_:Fr),I34 v37 w38 k35→
    cnd (decide (v37< (s33n:Int)))
     (ixK s33p s33n v37 1 fun a39=>
       ∃x40,w38.cell? a39=some (.int .i64 x40)∧
       ∃W41:World→Prop,W41 w38.drew∧
       ∃a42,p_=some a42∧∃x43p x43n x43c,AtW W41 (a42.add 2) (.slice x43p x43n x43c)∧
       ∃a44,p_=some a44∧∃x45p x45n x45c,AtW W41 (a44.add 2) (.slice x45p x45n x45c)∧
       (Calls prog 105 #[.int .i64 x40] w38.drew fun e w46=> ∃r47,e= .returned (.int .i64 r47)∧
       W41 w46∧(Calls prog 105 #[.int .i64 x40] w46 fun e w48=> ∃r49,e= .returned (.int .i64 r49)∧
       W41 w48∧ixK x45p x45n r49 1 fun a50=>
       ∃x51p x51n x51c,AtW W41 a50 (.slice x51p x51n x51c)∧
       ∀n52 w53,New (.cells #[.int .i64 i_] 3) w48 n52 w53→
       W41 w53∧∃w54 r55p r55n r55c,(Builtin.append_ #[25,25] 25 #[.slice x51p x51n x51c,.slice (some (Addr.mk n52 0 none)) 1 1]).run prog w53= .ok (.slice r55p r55n r55c) w54∧
       W41 w54∧ixK x43p x43n r47 1 fun a56=>
       ∃w57,StoreAt a56 0 [.slice r55p r55n r55c] w54 w57∧
       ∃k36,k36<k35∧I34 (i64.wrap (v37+ (1:Int))) w57 k36)∧
     (∀n58 w59,New (.cells #[.int .i64 i_] 3) w46 n58 w59→
       W41 w59∧Calls prog 105 #[.int .i64 x40] w59 fun e w60=> ∃r61,e= .returned (.int .i64 r61)∧
       W41 w60∧ixK x45p x45n r61 1 fun a62=>
       ∃x63p x63n x63c,AtW W41 a62 (.slice x63p x63n x63c)∧
       ∃w64 r65p r65n r65c,(Builtin.append_ #[25,25] 25 #[.slice x63p x63n x63c,.slice (some (Addr.mk n58 0 none)) 1 1]).run prog w60= .ok (.slice r65p r65n r65c) w64∧
       W41 w64∧ixK x43p x43n r47 1 fun a66=>
       ∃w67,StoreAt a66 0 [.slice r65p r65n r65c] w64 w67∧
       ∃k36,k36<k35∧I34 (i64.wrap (v37+ (1:Int))) w67 k36))∧
     (∀n68 w69,New (.cells #[.int .i64 i_] 3) w38.drew n68 w69→
       W41 w69∧Calls prog 105 #[.int .i64 x40] w69 fun e w70=> ∃r71,e= .returned (.int .i64 r71)∧
       W41 w70∧Calls prog 105 #[.int .i64 x40] w70 fun e w72=> ∃r73,e= .returned (.int .i64 r73)∧
       W41 w72∧ixK x45p x45n r73 1 fun a74=>
       ∃x75p x75n x75c,AtW W41 a74 (.slice x75p x75n x75c)∧
       ∃w76 r77p r77n r77c,(Builtin.append_ #[25,25] 25 #[.slice x75p x75n x75c,.slice (some (Addr.mk n68 0 none)) 1 1]).run prog w72= .ok (.slice r77p r77n r77c) w76∧
       W41 w76∧ixK x43p x43n r71 1 fun a78=>
       ∃w79,StoreAt a78 0 [.slice r77p r77n r77c] w76 w79∧
       ∃k36,k36<k35∧I34 (i64.wrap (v37+ (1:Int))) w79 k36))
     (cnd (decide ((x4n:Int)< (2:Int)))
       (∃a80,p_=some a80∧∃x81p x81n x81c,w38.cell? (a80.add 10)=some (.slice x81p x81n x81c)∧
       ∀n82 w83,New (.cells #[.int .i64 i_] 3) w38 n82 w83→
       ∃w84 r85p r85n r85c,(Builtin.append_ #[25,25] 25 #[.slice x81p x81n x81c,.slice (some (Addr.mk n82 0 none)) 1 1]).run prog w83= .ok (.slice r85p r85n r85c) w84∧
       ∃a86,p_=some a86∧∃w87,StoreAt (a86.add 10) 0 [.slice r85p r85n r85c] w84 w87∧
       K (.tuple #[]) w87)
       (ixK x4p x4n 1 1 fun a88=>
       ∃x89,w38.cell? a88=some (.int .i64 x89)∧
       Calls prog 153 #[.pointer p_,.int .i64 x89] w38 fun e w90=> ∃r91,e= .returned (.int .i8 r91)∧
       cnd (decide (r91< (0:Int)))
       (∃a92,p_=some a92∧∃x93p x93n x93c,w90.cell? (a92.add 10)=some (.slice x93p x93n x93c)∧
         ∀n94 w95,New (.cells #[.int .i64 i_] 3) w90 n94 w95→
         ∃w96 r97p r97n r97c,(Builtin.append_ #[25,25] 25 #[.slice x93p x93n x93c,.slice (some (Addr.mk n94 0 none)) 1 1]).run prog w95= .ok (.slice r97p r97n r97c) w96∧
         ∃a98,p_=some a98∧∃w99,StoreAt (a98.add 10) 0 [.slice r97p r97n r97c] w96 w99∧
         K (.tuple #[]) w99)
       (K (.tuple #[]) w90))))
theorem prop_Prop_settle.calls {p_ i_ w R} (h:prop_Prop_settle.w p_ i_ w fun v w'=>R (.returned v) w'):Calls prog 150 #[.pointer p_,.int .i64 i_] w R:=
 calls_of mixed Tryz.func150 (by kernel_rfl) rfl (ann:=(.two .leaf (.two (.two .leaf (.one (.loop [(5,3)] (.two .leaf (.two (.one (.two .leaf (.two (.two .leaf (.one (.loop [(6,3),(7,3)] (.two .leaf (.two (.one (.two .draw .leaf)) .leaf))))) .leaf))) .leaf))))) (.two (.two .leaf (.one (.loop [(68,3)] (.two .leaf (.two .leaf (.two (.one (.two .leaf .draw)) .leaf)))))) .leaf)))) (F:=prop_Prop_settle.w p_ i_ w) (fun K=>by kernel_rfl) h
def slices_DeleteFunc_int_int.w (a:Option Addr) (b:Nat) (c:Nat) (d:FuncId) (f:Array Value) (w:World) (K:Value→World→Prop):Prop:=
 Calls prog 93 #[.slice a b c,.func (.func d) #[] f] w fun e w1=> ∃r2,e= .returned (.int .i64 r2)∧
 cnd (r2==(-1))
 (K (.slice a b c) w1)
 (∃I3:Int→Int→World→Nat→Prop,(∃k4,I3 r2 (i64.wrap (r2+ (1:Int))) w1 k4)∧
   ∀i_6 j_7 w8 k4 (_:Fr),I3 i_6 j_7 w8 k4→
   cnd (decide (j_7< (b:Int)))
    (ixK a b j_7 1 fun a9=>
      ∃x10,w8.cell? a9=some (.int .i64 x10)∧
      cnd (entB prog d) (Calls prog d (#[]++ #[.int .i64 x10]++f) w8 fun e w11=> ∃r12,e= .returned (.bool r12)∧
      cnd (!r12)
      (ixK a b i_6 1 fun a13=>
        ∃w14,StoreAt a13 0 [.int .i64 x10] w11 w14∧
        ∃k5,k5<k4∧I3 (i64.wrap (i_6+ (1:Int))) (i64.wrap (j_7+ (1:Int))) w14 k5)
      (∃k5,k5<k4∧I3 i_6 (i64.wrap (j_7+ (1:Int))) w11 k5)) False)
    (slK a b c 1 (some i_6) none none fun s15p s15n s15c=>
      ∃w16,(Builtin.clear_ #[25] 0 #[.slice s15p s15n s15c]).run prog w8= .ok (.tuple #[]) w16∧
      slK a b c 1 none (some i_6) none fun s17p s17n s17c=>
      K (.slice s17p s17n s17c) w16))
theorem slices_DeleteFunc_int_int.calls {a b c d f w R} (h:slices_DeleteFunc_int_int.w a b c d f w fun v w'=>R (.returned v) w'):Calls prog 151 #[.slice a b c,.func (.func d) #[] f] w R:=
 calls_of mixed Tryz.func151 (by kernel_rfl) rfl (ann:=(.two .leaf (.two .leaf (.two .leaf (.two (.two .leaf (.one (.loop [(5,3),(6,3)] .leaf))) .leaf))))) (F:=slices_DeleteFunc_int_int.w a b c d f w) (fun K=>by kernel_rfl) h
def prop_Prop_loosely_1.w (x0_:Int) (c0_:Addr) (w:World) (K:Value→World→Prop):Prop:=
 ∃x1,w.cell? c0_=some (.pointer x1)∧
 Calls prog 153 #[.pointer x1,.int .i64 x0_] w fun e w2=> ∃r3,e= .returned (.int .i8 r3)∧
 K (.bool (decide (r3< (0:Int)))) w2
theorem prop_Prop_loosely_1.calls {x0_ c0_ w R} (h:prop_Prop_loosely_1.w x0_ c0_ w fun v w'=>R (.returned v) w'):Calls prog 152 #[.int .i64 x0_,.pointer (some c0_)] w R:=
 calls_of mixed Tryz.func152 (by kernel_rfl) rfl (ann:= .leaf) (F:=prop_Prop_loosely_1.w x0_ c0_ w) (fun K=>by kernel_rfl) h
def prop_Prop_val.w (p_:Option Addr) (l_:Int) (w:World) (K:Value→World→Prop):Prop:=
 cnd (decide (l_< (0:Int)))
 (∃a1,p_=some a1∧∃x2p x2n x2c,w.cell? (a1.add 3)=some (.slice x2p x2n x2c)∧
   ixK x2p x2n (i64.wrap (0 - l_)) 1 fun a3=>
   ∃x4,w.cell? a3=some (.int .i8 x4)∧
   K (.int .i8 (IntKind.i8.wrap (0 - x4))) w)
 (∃a5,p_=some a5∧∃x6p x6n x6c,w.cell? (a5.add 3)=some (.slice x6p x6n x6c)∧
   ixK x6p x6n l_ 1 fun a7=>
   ∃x8,w.cell? a7=some (.int .i8 x8)∧
   K (.int .i8 x8) w)
theorem prop_Prop_val.calls {p_ l_ w R} (h:prop_Prop_val.w p_ l_ w fun v w'=>R (.returned v) w'):Calls prog 153 #[.pointer p_,.int .i64 l_] w R:=
 calls_of mixed Tryz.func153 (by kernel_rfl) rfl (ann:= .leaf) (F:=prop_Prop_val.w p_ l_ w) (fun K=>by kernel_rfl) h
def prop_Prop_unwatch.w (p_:Option Addr) (i_:Int) (w:World) (K:Value→World→Prop):Prop:=
 ∀n1 w2,New (.cells #[.int .i64 i_] 3) w n1 w2→
 ∃a3,p_=some a3∧∃x4p x4n x4c,w2.drew.cell? (a3.add 1)=some (.slice x4p x4n x4c)∧
 ∃x5,w2.drew.cell? (Addr.mk n1 0 none)=some (.int .i64 x5)∧
 ixK x4p x4n x5 3 fun a6=>
 ∃x7p x7n x7c,w2.drew.cell? (a6.add 1)=some (.slice x7p x7n x7c)∧
 slK x7p x7n x7c 1 none (some (imin 2 (x7n:Int))) none fun s8p s8n s8c=>
 ∃I9:Int→World→Nat→Prop,(∃k10,I9 0 w2.drew k10)∧
 ∀v12 w13 k10 (_:Fr),I9 v12 w13 k10→
 cnd (decide (v12< (s8n:Int)))
  (ixK s8p s8n v12 1 fun a14=>
    ∃x15,w13.cell? a14=some (.int .i64 x15)∧
    ∃W16:World→Prop,W16 w13.drew∧
    ∃a17,p_=some a17∧∃x18p x18n x18c,AtW W16 (a17.add 2) (.slice x18p x18n x18c)∧
    Calls prog 105 #[.int .i64 x15] w13.drew fun e w19=> ∃r20,e= .returned (.int .i64 r20)∧
    W16 w19∧ixK x18p x18n r20 1 fun a21=>
    ∃x22p x22n x22c,AtW W16 a21 (.slice x22p x22n x22c)∧
    ∃W23:World→Prop,W23 w19.drew∧
    ∃a24,p_=some a24∧∃x25p x25n x25c,AtW W23 (a24.add 2) (.slice x25p x25n x25c)∧
    Calls prog 105 #[.int .i64 x15] w19.drew fun e w26=> ∃r27,e= .returned (.int .i64 r27)∧
    W23 w26∧Calls prog 151 #[.slice x22p x22n x22c,.func (.func 186) #[] #[.pointer (some (Addr.mk n1 0 none))]] w26 fun e w28=> ∃r29p r29n r29c,e= .returned (.slice r29p r29n r29c)∧
    W23 w28∧ixK x25p x25n r27 1 fun a30=>
    ∃w31,StoreAt a30 0 [.slice r29p r29n r29c] w28 w31∧
    ∃k11,k11<k10∧I9 (i64.wrap (v12+ (1:Int))) w31 k11)
  (K (.tuple #[]) w13)
theorem prop_Prop_unwatch.calls {p_ i_ w R} (h:prop_Prop_unwatch.w p_ i_ w fun v w'=>R (.returned v) w'):Calls prog 154 #[.pointer p_,.int .i64 i_] w R:=
 calls_of mixed Tryz.func154 (by kernel_rfl) rfl (ann:=(.two .leaf (.two .leaf (.two .leaf (.one (.loop [(22,3)] (.two .leaf (.two .leaf (.two (.one (.two .leaf (.two .draw .draw))) .leaf))))))))) (F:=prop_Prop_unwatch.w p_ i_ w) (fun K=>by kernel_rfl) h
def prop_Prop_again.w (p_:Option Addr) (i_:Int) (w:World) (K:Value→World→Prop):Prop:=
 ∃a1,p_=some a1∧∃x2p x2n x2c,w.cell? (a1.add 10)=some (.slice x2p x2n x2c)∧
 Calls prog 150 #[.pointer p_,.int .i64 i_] w fun e w3=>e= .returned (.tuple #[])∧
 ∃a4,p_=some a4∧∃w5,StoreAt (a4.add 10) 0 [.slice x2p x2n x2c] w3 w5∧
 K (.tuple #[]) w5
theorem prop_Prop_again.calls {p_ i_ w R} (h:prop_Prop_again.w p_ i_ w fun v w'=>R (.returned v) w'):Calls prog 155 #[.pointer p_,.int .i64 i_] w R:=
 calls_of mixed Tryz.func155 (by kernel_rfl) rfl (ann:= .leaf) (F:=prop_Prop_again.w p_ i_ w) (fun K=>by kernel_rfl) h
def prop_Prop_put.w (p_:Option Addr) (l_:Int) (a:Int) (w:World) (K:Value→World→Prop):Prop:=
 ∃W1:World→Prop,W1 w.drew∧
 ∃a2,p_=some a2∧∃x3p x3n x3c,AtW W1 (a2.add 3) (.slice x3p x3n x3c)∧
 Calls prog 182 #[.int .i64 l_] w.drew fun e w4=> ∃r5,e= .returned (.int .i64 r5)∧
 W1 w4∧ixK x3p x3n r5 1 fun a6=>
 ∃w7,StoreAt a6 0 [.int .i8 1] w4 w7∧
 cnd (decide (l_< (0:Int)))
 (∃a8,p_=some a8∧∃x9p x9n x9c,w7.cell? (a8.add 3)=some (.slice x9p x9n x9c)∧
   ixK x9p x9n (i64.wrap (0 - l_)) 1 fun a10=>
   ∃w11,StoreAt a10 0 [.int .i8 (-1)] w7 w11∧
   ∃W12:World→Prop,W12 w11.drew∧
   ∃a13,p_=some a13∧∃x14p x14n x14c,AtW W12 (a13.add 4) (.slice x14p x14n x14c)∧
   Calls prog 182 #[.int .i64 l_] w11.drew fun e w15=> ∃r16,e= .returned (.int .i64 r16)∧
   W12 w15∧∃a17,p_=some a17∧∃x18p x18n x18c,AtW W12 (a17.add 5) (.slice x18p x18n x18c)∧
   Calls prog 182 #[.int .i64 l_] w15 fun e w19=> ∃r20,e= .returned (.int .i64 r20)∧
   W12 w19∧∃a21,p_=some a21∧∃x22p x22n x22c,AtW W12 (a21.add 7) (.slice x22p x22n x22c)∧
   ixK x14p x14n r16 1 fun a23=>
   ∃w24,StoreAt a23 0 [.int .i64 (x22n:Int)] w19 w24∧
   ixK x18p x18n r20 1 fun a25=>
   ∃w26,StoreAt a25 0 [.int .i64 a] w24 w26∧
   ∃a27,p_=some a27∧∃x28p x28n x28c,w26.cell? (a27.add 6)=some (.slice x28p x28n x28c)∧
   ∀n29 w30,New (.cells #[.int .i64 l_] 3) w26 n29 w30→
   ∃w31 r32p r32n r32c,(Builtin.append_ #[25,25] 25 #[.slice x28p x28n x28c,.slice (some (Addr.mk n29 0 none)) 1 1]).run prog w30= .ok (.slice r32p r32n r32c) w31∧
   ∃a33,p_=some a33∧∃w34,StoreAt (a33.add 6) 0 [.slice r32p r32n r32c] w31 w34∧
   K (.tuple #[]) w34)
 (∃W35:World→Prop,W35 w7.drew∧
   ∃a36,p_=some a36∧∃x37p x37n x37c,AtW W35 (a36.add 4) (.slice x37p x37n x37c)∧
   Calls prog 182 #[.int .i64 l_] w7.drew fun e w38=> ∃r39,e= .returned (.int .i64 r39)∧
   W35 w38∧∃a40,p_=some a40∧∃x41p x41n x41c,AtW W35 (a40.add 5) (.slice x41p x41n x41c)∧
   Calls prog 182 #[.int .i64 l_] w38 fun e w42=> ∃r43,e= .returned (.int .i64 r43)∧
   W35 w42∧∃a44,p_=some a44∧∃x45p x45n x45c,AtW W35 (a44.add 7) (.slice x45p x45n x45c)∧
   ixK x37p x37n r39 1 fun a46=>
   ∃w47,StoreAt a46 0 [.int .i64 (x45n:Int)] w42 w47∧
   ixK x41p x41n r43 1 fun a48=>
   ∃w49,StoreAt a48 0 [.int .i64 a] w47 w49∧
   ∃a50,p_=some a50∧∃x51p x51n x51c,w49.cell? (a50.add 6)=some (.slice x51p x51n x51c)∧
   ∀n52 w53,New (.cells #[.int .i64 l_] 3) w49 n52 w53→
   ∃w54 r55p r55n r55c,(Builtin.append_ #[25,25] 25 #[.slice x51p x51n x51c,.slice (some (Addr.mk n52 0 none)) 1 1]).run prog w53= .ok (.slice r55p r55n r55c) w54∧
   ∃a56,p_=some a56∧∃w57,StoreAt (a56.add 6) 0 [.slice r55p r55n r55c] w54 w57∧
   K (.tuple #[]) w57)
theorem prop_Prop_put.calls {p_ l_ a w R} (h:prop_Prop_put.w p_ l_ a w fun v w'=>R (.returned v) w'):Calls prog 156 #[.pointer p_,.int .i64 l_,.int .i64 a] w R:=
 calls_of mixed Tryz.func156 (by kernel_rfl) rfl (ann:=(.two .draw (.two .leaf (.two .draw .leaf)))) (F:=prop_Prop_put.w p_ l_ a w) (fun K=>by kernel_rfl) h
def prop_Prop_there.w (p_:Option Addr) (i_:Int) (w:World) (K:Value→World→Prop):Prop:=
 cnd (!p_.isNone)
 (cnd (decide (i_≥(0:Int)))
 (∃a1,p_=some a1∧∃x2p x2n x2c,w.cell? (a1.add 1)=some (.slice x2p x2n x2c)∧
 cnd (decide (i_< (x2n:Int)))
 (∃a3,p_=some a3∧∃x4p x4n x4c,w.cell? (a3.add 1)=some (.slice x4p x4n x4c)∧
 ixK x4p x4n i_ 3 fun a5=>
 ∃x6,w.cell? (a5.add 2)=some (.bool x6)∧
 K (.bool (!x6)) w)
 (K (.bool false) w))
 (K (.bool false) w))
 (K (.bool false) w)
theorem prop_Prop_there.calls {p_ i_ w R} (h:prop_Prop_there.w p_ i_ w fun v w'=>R (.returned v) w'):Calls prog 160 #[.pointer p_,.int .i64 i_] w R:=
 calls_of mixed Tryz.func160 (by kernel_rfl) rfl (ann:= .leaf) (F:=prop_Prop_there.w p_ i_ w) (fun K=>by kernel_rfl) h
def heap_Heap_is.w (h_:Option Addr) (v_:Int) (w:World) (K:Value→World→Prop):Prop:=
 cnd (!h_.isNone)
 (cnd (decide (v_≥(1:Int)))
 (∃a1,h_=some a1∧∃x2p x2n x2c,w.cell? (a1.add 1)=some (.slice x2p x2n x2c)∧
 K (.bool (decide (v_< (x2n:Int)))) w)
 (K (.bool false) w))
 (K (.bool false) w)
theorem heap_Heap_is.calls {h_ v_ w R} (h:heap_Heap_is.w h_ v_ w fun v w'=>R (.returned v) w'):Calls prog 167 #[.pointer h_,.int .i64 v_] w R:=
 calls_of mixed Tryz.func167 (by kernel_rfl) rfl (ann:= .leaf) (F:=heap_Heap_is.w h_ v_ w) (fun K=>by kernel_rfl) h
def rup_may.w (f_0:Int) (f1p:Option Addr) (f1n:Nat) (f1c:Nat) (a:Option Addr) (b:Nat) (c:Nat) (w:World) (K:Value→World→Prop):Prop:=
 ∀n1 w2,New (.cells #[.int .i64 f_0,.slice f1p f1n f1c] 24) w n1 w2→
 ∃x3 x4p x4n x4c,CellsAt w2 (Addr.mk n1 0 none) 0 [.int .i64 x3,.slice x4p x4n x4c]∧
 Calls prog 25 #[.agg #[.int .i64 x3,.slice x4p x4n x4c]] w2 fun e w5=> ∃r6,e= .returned (.int .i64 r6)∧
 cnd (r6==(0:Int))
 (Calls prog 49 #[.slice a b c] w5 fun e w7=> ∃r8,e= .returned (.int .i64 r8)∧
 K (.bool (r8==(0:Int))) w7)
 (K (.bool false) w5)
theorem rup_may.calls {f_0 f1p f1n f1c a b c w R} (h:rup_may.w f_0 f1p f1n f1c a b c w fun v w'=>R (.returned v) w'):Calls prog 178 #[.agg #[.int .i64 f_0,.slice f1p f1n f1c],.slice a b c] w R:=
 calls_of mixed Tryz.func178 (by kernel_rfl) rfl (ann:= .leaf) (F:=rup_may.w f_0 f1p f1n f1c a b c w) (fun K=>by kernel_rfl) h
def lit_before.w (a_:Int) (b_:Int) (w:World) (K:Value→World→Prop):Prop:=
 Calls prog 52 #[.int .i64 a_] w fun e w1=> ∃r2,e= .returned (.int .i64 r2)∧
 Calls prog 52 #[.int .i64 b_] w1 fun e w3=> ∃r4,e= .returned (.int .i64 r4)∧
 cnd (r2 !=r4)
 (Calls prog 52 #[.int .i64 a_] w3 fun e w5=> ∃r6,e= .returned (.int .i64 r6)∧
   Calls prog 52 #[.int .i64 b_] w5 fun e w7=> ∃r8,e= .returned (.int .i64 r8)∧
   K (.int .i64 (i64.wrap (r6 - r8))) w7)
 (K (.int .i64 (i64.wrap (b_ - a_))) w3)
theorem lit_before.calls {a_ b_ w R} (h:lit_before.w a_ b_ w fun v w'=>R (.returned v) w'):Calls prog 180 #[.int .i64 a_,.int .i64 b_] w R:=
 calls_of mixed Tryz.func180 (by kernel_rfl) rfl (ann:= .leaf) (F:=lit_before.w a_ b_ w) (fun K=>by kernel_rfl) h
def slices_Compact_int_int.w (a:Option Addr) (b:Nat) (c:Nat) (w:World) (K:Value→World→Prop):Prop:=
 cnd (decide ((b:Int)< (2:Int)))
 (K (.slice a b c) w)
 (∃I1:Int→World→Nat→Prop,(∃k2,I1 1 w k2)∧
   ∀k_4 w5 k2 (_:Fr),I1 k_4 w5 k2→
   cnd (decide (k_4< (b:Int)))
    (ixK a b k_4 1 fun a6=>
      ∃x7,w5.drew.cell? a6=some (.int .i64 x7)∧
      ixK a b (i64.wrap (k_4 - (1:Int))) 1 fun a8=>
      ∃x9,w5.drew.cell? a8=some (.int .i64 x9)∧
      cnd (x7==x9)
      (slK a b c 1 (some k_4) none none fun s10p s10n s10c=>
        ∃I11:Int→Int→World→Nat→Prop,(∃k12,I11 k_4 1 w5.drew k12)∧
        ∀k_14 k2_15 w16 k12 (_:Fr),I11 k_14 k2_15 w16 k12→
        cnd (decide (k2_15< (s10n:Int)))
         (ixK s10p s10n k2_15 1 fun a17=>
           ∃x18,w16.drew.cell? a17=some (.int .i64 x18)∧
           ixK s10p s10n (i64.wrap (k2_15 - (1:Int))) 1 fun a19=>
           ∃x20,w16.drew.cell? a19=some (.int .i64 x20)∧
           cnd (x18 !=x20)
           (ixK s10p s10n k2_15 1 fun a21=>
             ∃x22,w16.drew.cell? a21=some (.int .i64 x22)∧
             ixK a b k_14 1 fun a23=>
             ∃w24,StoreAt a23 0 [.int .i64 x22] w16.drew w24∧
             ∃k13,k13<k12∧I11 (i64.wrap (k_14+ (1:Int))) (i64.wrap (k2_15+ (1:Int))) w24 k13)
           (∃k13,k13<k12∧I11 k_14 (i64.wrap (k2_15+ (1:Int))) w16.drew k13))
         (slK a b c 1 (some k_14) none none fun s25p s25n s25c=>
           ∃w26,(Builtin.clear_ #[25] 0 #[.slice s25p s25n s25c]).run prog w16= .ok (.tuple #[]) w26∧
           slK a b c 1 none (some k_14) none fun s27p s27n s27c=>
           K (.slice s27p s27n s27c) w26))
      (∃k3,k3<k2∧I1 (i64.wrap (k_4+ (1:Int))) w5.drew k3))
    (K (.slice a b c) w5))
theorem slices_Compact_int_int.calls {a b c w R} (h:slices_Compact_int_int.w a b c w fun v w'=>R (.returned v) w'):Calls prog 181 #[.slice a b c] w R:=
 calls_of mixed Tryz.func181 (by kernel_rfl) rfl (ann:=(.two .leaf (.two .leaf (.two (.two .leaf (.one (.loop [(3,3)] (.two .leaf (.two (.one (.two .leaf (.two (.two .leaf (.two (.two .leaf (.one (.loop [(3,3),(5,3)] .leaf))) .leaf)) .leaf))) .leaf))))) .leaf)))) (F:=slices_Compact_int_int.w a b c w) (fun K=>by kernel_rfl) h
def prop_amount.w (l_:Int) (w:World) (K:Value→World→Prop):Prop:=
 K (.int .i64 (imax l_ (i64.wrap (0 - l_)))) w
theorem prop_amount.calls {l_ w R} (h:prop_amount.w l_ w fun v w'=>R (.returned v) w'):Calls prog 182 #[.int .i64 l_] w R:=
 calls_of mixed Tryz.func182 (by kernel_rfl) rfl (ann:= .leaf) (F:=prop_amount.w l_ w) (fun K=>by kernel_rfl) h
def prop_Prop_Drop_1.w (k_:Int) (c0_:Addr) (w:World) (K:Value→World→Prop):Prop:=
 ∃x1,w.cell? c0_=some (.int .i64 x1)∧
 K (.bool (k_==x1)) w
theorem prop_Prop_Drop_1.calls {k_ c0_ w R} (h:prop_Prop_Drop_1.w k_ c0_ w fun v w'=>R (.returned v) w'):Calls prog 183 #[.int .i64 k_,.pointer (some c0_)] w R:=
 calls_of mixed Tryz.func183 (by kernel_rfl) rfl (ann:= .leaf) (F:=prop_Prop_Drop_1.w k_ c0_ w) (fun K=>by kernel_rfl) h
def slices_Index_int_int.w (a:Option Addr) (b:Nat) (c:Nat) (v_:Int) (w:World) (K:Value→World→Prop):Prop:=
 ∃I1:Int→World→Nat→Prop,(∃k2,I1 0 w k2)∧
 ∀v4 w5 k2 (_:Fr),I1 v4 w5 k2→
 cnd (decide (v4< (b:Int)))
  (ixK a b v4 1 fun a6=>
    ∃x7,w5.cell? a6=some (.int .i64 x7)∧
    cnd (v_==x7)
    (K (.int .i64 v4) w5)
    (∃k3,k3<k2∧I1 (i64.wrap (v4+ (1:Int))) w5 k3))
  (K (.int .i64 (-1)) w5)
theorem slices_Index_int_int.calls {a b c v_ w R} (h:slices_Index_int_int.w a b c v_ w fun v w'=>R (.returned v) w'):Calls prog 184 #[.slice a b c,.int .i64 v_] w R:=
 calls_of mixed Tryz.func184 (by kernel_rfl) rfl (ann:=(.two .leaf (.two (.two .leaf (.one (.loop [(8,3)] .leaf))) .leaf))) (F:=slices_Index_int_int.w a b c v_ w) (fun K=>by kernel_rfl) h
def prop_Prop_rank.w (p_:Option Addr) (l_:Int) (w:World) (K:Value→World→Prop):Prop:=
 Calls prog 153 #[.pointer p_,.int .i64 l_] w fun e w1=> ∃r2,e= .returned (.int .i8 r2)∧
 cnd (decide (r2≥(0:Int)))
 (K (.int .i64 1048577) w1)
 (∃W3:World→Prop,W3 w1.drew∧
   ∃a4,p_=some a4∧∃x5p x5n x5c,AtW W3 (a4.add 4) (.slice x5p x5n x5c)∧
   Calls prog 182 #[.int .i64 l_] w1.drew fun e w6=> ∃r7,e= .returned (.int .i64 r7)∧
   W3 w6∧ixK x5p x5n r7 1 fun a8=>
   ∃x9,AtW W3 a8 (.int .i64 x9)∧
   K (.int .i64 x9) w6)
theorem prop_Prop_rank.calls {p_ l_ w R} (h:prop_Prop_rank.w p_ l_ w fun v w'=>R (.returned v) w'):Calls prog 185 #[.pointer p_,.int .i64 l_] w R:=
 calls_of mixed Tryz.func185 (by kernel_rfl) rfl (ann:=(.two .leaf (.two .leaf (.two .draw .leaf)))) (F:=prop_Prop_rank.w p_ l_ w) (fun K=>by kernel_rfl) h
def prop_Prop_unwatch_1.w (k_:Int) (c0_:Addr) (w:World) (K:Value→World→Prop):Prop:=
 ∃x1,w.cell? c0_=some (.int .i64 x1)∧
 K (.bool (k_==x1)) w
theorem prop_Prop_unwatch_1.calls {k_ c0_ w R} (h:prop_Prop_unwatch_1.w k_ c0_ w fun v w'=>R (.returned v) w'):Calls prog 186 #[.int .i64 k_,.pointer (some c0_)] w R:=
 calls_of mixed Tryz.func186 (by kernel_rfl) rfl (ann:= .leaf) (F:=prop_Prop_unwatch_1.w k_ c0_ w) (fun K=>by kernel_rfl) h
end Go.Proofs.YtbdghpjnifjlmaaGreat.W
