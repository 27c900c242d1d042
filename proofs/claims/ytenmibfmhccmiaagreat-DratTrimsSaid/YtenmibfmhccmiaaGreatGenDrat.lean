/- The functions that the statements reach, printed as what the frame asks of them, each checked by the kernel against the loaded text. -/
import Derived.Test.YtenmibfmhccmiaaGreatGenDrat0
set_option linter.unusedVariables false
set_option linter.unusedSimpArgs false
namespace Go.Proofs.YtenmibfmhccmiaaGreat.W
open Go Go.Fw Go.Proofs
set_option maxRecDepth 100000
def drat_taut.w (c__p:Option Addr) (c__n:Nat) (c__c:Nat) (w:World) (K:Value→World→Prop):Prop:=
 Calls Tryz.prog 94 #[.slice c__p c__n c__c] w fun e w1=> ∃r2_p r2_n r2_c r3,e= .returned (.tuple #[.slice r2_p r2_n r2_c,.bool r3])∧
 K (.bool r3) w1
theorem drat_taut.calls {c__p c__n c__c w R} (h:drat_taut.w c__p c__n c__c w fun v w'=>R (.returned v) w'):Calls Tryz.prog 102 #[.slice c__p c__n c__c] w R:=
 calls_of mixed Tryz.func102 (by kernel_rfl) rfl (ann:= .leaf) (F:=drat_taut.w c__p c__n c__c w) (fun K=>by kernel_rfl) h
def drat_coded.w (l__p:Option Addr) (l__n:Nat) (l__c:Nat) (w:World) (K:Value→World→Prop):Prop:=
 ∀ (n1:Nat) (w2:World),New (.map #[] 0) w n1 w2→
 ∃I3:Option Addr→Nat→Nat→Int→World→Nat→Prop,(∃k4,I3 none 0 0 0 w2 k4)∧
 ∀ (out_6_p:Option Addr) (out_6_n:Nat) (out_6_c:Nat) (v7:Int) (w8:World) (k4:Nat) (_:Fr),I3 out_6_p out_6_n out_6_c v7 w8 k4→
 cnd (decide (v7< (l__n:Int)))
  (ixK l__p l__n v7 1 fun a9=>
    ∃x10_p x10_n x10_c,w8.cell? a9=some (.slice x10_p x10_n x10_c)∧
    ∃I11:Option Addr→Nat→Nat→Int→World→Nat→Prop,(∃k12,I11 none 0 0 0 w8 k12)∧
    ∀ (d_14_p:Option Addr) (d_14_n:Nat) (d_14_c:Nat) (v15:Int) (w16:World) (k12:Nat) (_:Fr),I11 d_14_p d_14_n d_14_c v15 w16 k12→
    cnd (decide (v15< (x10_n:Int)))
     (ixK x10_p x10_n v15 1 fun a17=>
       ∃x18,w16.cell? a17=some (.int .i64 x18)∧
       ∃w19 r20,(Instr.lookup 133 (.map (some n1)) (.int .i64 (imax x18 (IntKind.i64.wrap (0 - x18)))) false).run Tryz.prog w16= .ok (.int .i64 r20) w19∧
       cnd (r20==(0:Int))
       (∃n21,(Builtin.len_ #[133] 3 #[.map (some n1)]).run Tryz.prog w19= .ok (.int .i64 n21) w19∧
         ∃w22,(Instr.mapUpdate 133 (.map (some n1)) (.int .i64 (imax x18 (IntKind.i64.wrap (0 - x18)))) (.int .i64 (IntKind.i64.wrap (n21+ (1:Int))))).run Tryz.prog w19= .ok () w22∧
         cnd (decide (x18< (0:Int)))
         (∃w23 r24,(Instr.lookup 133 (.map (some n1)) (.int .i64 (imax x18 (IntKind.i64.wrap (0 - x18)))) false).run Tryz.prog w22= .ok (.int .i64 r24) w23∧
           ∀ (n25:Nat) (w26:World),New (.cells #[.int .i64 (IntKind.i64.wrap (0 - r24))] 3) w23 n25 w26→
           ∃w27 r28_p r28_n r28_c,(Builtin.append_ #[28,28] 28 #[.slice d_14_p d_14_n d_14_c,.slice (some (Addr.mk n25 0 none)) 1 1]).run Tryz.prog w26= .ok (.slice r28_p r28_n r28_c) w27∧
           ∃k13,k13<k12∧I11 r28_p r28_n r28_c (IntKind.i64.wrap (v15+ (1:Int))) w27 k13)
         (∃w29 r30,(Instr.lookup 133 (.map (some n1)) (.int .i64 (imax x18 (IntKind.i64.wrap (0 - x18)))) false).run Tryz.prog w22= .ok (.int .i64 r30) w29∧
           ∀ (n31:Nat) (w32:World),New (.cells #[.int .i64 r30] 3) w29 n31 w32→
           ∃w33 r34_p r34_n r34_c,(Builtin.append_ #[28,28] 28 #[.slice d_14_p d_14_n d_14_c,.slice (some (Addr.mk n31 0 none)) 1 1]).run Tryz.prog w32= .ok (.slice r34_p r34_n r34_c) w33∧
           ∃k13,k13<k12∧I11 r34_p r34_n r34_c (IntKind.i64.wrap (v15+ (1:Int))) w33 k13))
       (cnd (decide (x18< (0:Int)))
         (∃w35 r36,(Instr.lookup 133 (.map (some n1)) (.int .i64 (imax x18 (IntKind.i64.wrap (0 - x18)))) false).run Tryz.prog w19= .ok (.int .i64 r36) w35∧
           ∀ (n37:Nat) (w38:World),New (.cells #[.int .i64 (IntKind.i64.wrap (0 - r36))] 3) w35 n37 w38→
           ∃w39 r40_p r40_n r40_c,(Builtin.append_ #[28,28] 28 #[.slice d_14_p d_14_n d_14_c,.slice (some (Addr.mk n37 0 none)) 1 1]).run Tryz.prog w38= .ok (.slice r40_p r40_n r40_c) w39∧
           ∃k13,k13<k12∧I11 r40_p r40_n r40_c (IntKind.i64.wrap (v15+ (1:Int))) w39 k13)
         (∃w41 r42,(Instr.lookup 133 (.map (some n1)) (.int .i64 (imax x18 (IntKind.i64.wrap (0 - x18)))) false).run Tryz.prog w19= .ok (.int .i64 r42) w41∧
           ∀ (n43:Nat) (w44:World),New (.cells #[.int .i64 r42] 3) w41 n43 w44→
           ∃w45 r46_p r46_n r46_c,(Builtin.append_ #[28,28] 28 #[.slice d_14_p d_14_n d_14_c,.slice (some (Addr.mk n43 0 none)) 1 1]).run Tryz.prog w44= .ok (.slice r46_p r46_n r46_c) w45∧
           ∃k13,k13<k12∧I11 r46_p r46_n r46_c (IntKind.i64.wrap (v15+ (1:Int))) w45 k13)))
     (∀ (n47:Nat) (w48:World),New (.cells #[.slice d_14_p d_14_n d_14_c] 28) w16 n47 w48→
       ∃w49 r50_p r50_n r50_c,(Builtin.append_ #[22,22] 22 #[.slice out_6_p out_6_n out_6_c,.slice (some (Addr.mk n47 0 none)) 1 1]).run Tryz.prog w48= .ok (.slice r50_p r50_n r50_c) w49∧
       ∃k5,k5<k4∧I3 r50_p r50_n r50_c (IntKind.i64.wrap (v7+ (1:Int))) w49 k5))
  (∃n51,(Builtin.len_ #[133] 3 #[.map (some n1)]).run Tryz.prog w8= .ok (.int .i64 n51) w8∧
    K (.tuple #[.int .i64 n51,.slice out_6_p out_6_n out_6_c]) w8)
theorem drat_coded.calls {l__p l__n l__c w R} (h:drat_coded.w l__p l__n l__c w fun v w'=>R (.returned v) w'):Calls Tryz.prog 103 #[.slice l__p l__n l__c] w R:=
 calls_of mixed Tryz.func103 (by kernel_rfl) rfl (ann:=(.two .leaf (.two .leaf (.two .leaf (.two (.two .leaf (.one (.loop [(5,22),(15,3)] (.two .leaf (.two .leaf (.two (.one (.two .leaf (.two .leaf (.two (.two .leaf (.one (.loop [(8,28),(21,3)] .leaf))) .leaf)))) .leaf)))))) .leaf))))) (F:=drat_coded.w l__p l__n l__c w) (fun K=>by kernel_rfl) h
def drat_tester_at.w (t_:Option Addr) (w:World) (K:Value→World→Prop):Prop:=
 ∃a1,t_=some a1∧∃x2,w.cell? (a1.add 0)=some (.pointer x2)∧
 ∃a3,t_=some a3∧∃x4_p x4_n x4_c,w.cell? (a3.add 1)=some (.slice x4_p x4_n x4_c)∧
 ∃I5:Int→World→Nat→Prop,(∃k6,I5 0 w k6)∧
 ∀ (v8:Int) (w9:World) (k6:Nat) (_:Fr),I5 v8 w9 k6→
 cnd (decide (v8< (x4_n:Int)))
  (ixK x4_p x4_n v8 1 fun a10=>
    ∃x11,w9.cell? a10=some (.int .i64 x11)∧
    ∃a12,t_=some a12∧∃x13,w9.cell? (a12.add 0)=some (.pointer x13)∧
    Calls Tryz.prog 122 #[.pointer x13,.int .i64 x11] w9 fun e w14=> ∃r15,e= .returned (.int .i64 r15)∧
    cnd (r15==(0:Int))
    (∃a16,t_=some a16∧∃x17,w14.cell? (a16.add 0)=some (.pointer x17)∧
      Calls Tryz.prog 123 #[.pointer x17,.int .i64 (IntKind.i64.wrap (0 - x11))] w14 fun e w18=> ∃r19,e= .returned (.int .i64 r19)∧
      ∃k7,k7<k6∧I5 (IntKind.i64.wrap (v8+ (1:Int))) w18 k7)
    (∃k7,k7<k6∧I5 (IntKind.i64.wrap (v8+ (1:Int))) w14 k7))
  (∃a20,t_=some a20∧∃x21,w9.cell? (a20.add 0)=some (.pointer x21)∧
    Calls Tryz.prog 79 #[.pointer x21] w9 fun e w22=> ∃r23,e= .returned (.int .i64 r23)∧
    CallsD Tryz.prog 138 #[.pointer x2,.int .i64 0] .returning w22 fun e u25 w24=>u25= .returning∧∃v26:Value,e= .returned v26∧
    K (.bool (decide (r23≥(0:Int)))) w24)
theorem drat_tester_at.calls {t_ w R} (h:drat_tester_at.w t_ w fun v w'=>R (.returned v) w'):Calls Tryz.prog 104 #[.pointer t_] w R:=
 calls_ofD mixed Tryz.func104 (by kernel_rfl) rfl (ann:=(.two .leaf (.two .leaf (.two (.two .leaf (.one (.loop [(14,3)] .leaf))) .leaf)))) (F:=drat_tester_at.w t_ w) (fun K=>by kernel_rfl) h
def prop_Prop_Drop.w (p_:Option Addr) (i_:Int) (w:World) (K:Value→World→Prop):Prop:=
 ∀ (n1:Nat) (w2:World),New (.cells #[.int .i64 i_] 3) w n1 w2→
 ∃x3,w2.cell? (Addr.mk n1 0 none)=some (.int .i64 x3)∧
 Calls Tryz.prog 141 #[.pointer p_,.int .i64 x3] w2 fun e w4=> ∃r5,e= .returned (.bool r5)∧
 cnd (!r5)
 (K (.int .i64 4) w4)
 (∃a6,p_=some a6∧∃x7_p x7_n x7_c,w4.drew.cell? (a6.add 1)=some (.slice x7_p x7_n x7_c)∧
   ∃x8,w4.drew.cell? (Addr.mk n1 0 none)=some (.int .i64 x8)∧
   ixK x7_p x7_n x8 3 fun a9=>
   ∃x10_p x10_n x10_c,w4.drew.cell? (a9.add 1)=some (.slice x10_p x10_n x10_c)∧
   ∃I11:Int→World→Nat→Prop,(∃k12,I11 0 w4.drew k12)∧
   ∀ (v14:Int) (w15:World) (k12:Nat) (_:Fr),I11 v14 w15 k12→
   cnd (decide (v14< (x10_n:Int)))
    (ixK x10_p x10_n v14 1 fun a16=>
      ∃x17,w15.cell? a16=some (.int .i64 x17)∧
      ∃W18:World→Prop,W18 w15.drew∧
      Calls Tryz.prog 142 #[.pointer p_,.int .i64 x17] w15.drew fun e w19=> ∃r20,e= .returned (.int .i8 r20)∧
      W18 w19∧cnd (decide (r20> (0:Int)))
      (∃a21,p_=some a21∧∃x22_p x22_n x22_c,AtW W18 (a21.add 5) (.slice x22_p x22_n x22_c)∧
      Calls Tryz.prog 143 #[.int .i64 x17] w19 fun e w23=> ∃r24,e= .returned (.int .i64 r24)∧
      W18 w23∧ixK x22_p x22_n r24 1 fun a25=>
      ∃x26,AtW W18 a25 (.int .i64 x26)∧
      ∃x27,AtW W18 (Addr.mk n1 0 none) (.int .i64 x27)∧
      cnd (x26==x27)
      (K (.int .i64 7) w23)
      (∃k13,k13<k12∧I11 (IntKind.i64.wrap (v14+ (1:Int))) w23 k13))
      (∃k13,k13<k12∧I11 (IntKind.i64.wrap (v14+ (1:Int))) w19 k13))
    (∃x28,w15.cell? (Addr.mk n1 0 none)=some (.int .i64 x28)∧
      Calls Tryz.prog 144 #[.pointer p_,.int .i64 x28] w15 fun e w29=>e= .returned (.tuple #[])∧
      ∃a30,p_=some a30∧∃x31_p x31_n x31_c,w29.cell? (a30.add 10)=some (.slice x31_p x31_n x31_c)∧
      Calls Tryz.prog 145 #[.slice x31_p x31_n x31_c,.func (.func 146) #[] #[.pointer (some (Addr.mk n1 0 none))]] w29 fun e w32=> ∃r33_p r33_n r33_c,e= .returned (.slice r33_p r33_n r33_c)∧
      ∃a34,p_=some a34∧∃w35,StoreAt (a34.add 10) 0 [.slice r33_p r33_n r33_c] w32 w35∧
      ∃a36,p_=some a36∧∃x37_p x37_n x37_c,w35.drew.cell? (a36.add 1)=some (.slice x37_p x37_n x37_c)∧
      ∃x38,w35.drew.cell? (Addr.mk n1 0 none)=some (.int .i64 x38)∧
      ixK x37_p x37_n x38 3 fun a39=>
      ∃w40,StoreAt a39 0 [.slice none 0 0,.slice none 0 0,.bool true] w35.drew w40∧
      K (.int .i64 0) w40))
theorem prop_Prop_Drop.calls {p_ i_ w R} (h:prop_Prop_Drop.w p_ i_ w fun v w'=>R (.returned v) w'):Calls Tryz.prog 105 #[.pointer p_,.int .i64 i_] w R:=
 calls_of mixed Tryz.func105 (by kernel_rfl) rfl (ann:=(.two .leaf (.two .leaf (.two (.two .leaf (.one (.loop [(20,3)] (.two .leaf (.two .leaf (.two (.one (.two .leaf (.two .draw .leaf))) .leaf)))))) .leaf)))) (F:=prop_Prop_Drop.w p_ i_ w) (fun K=>by kernel_rfl) h
def prop_Prop_Add.w (p_:Option Addr) (c__p:Option Addr) (c__n:Nat) (c__c:Nat) (w:World) (K:Value→World→Prop):Prop:=
 ∀ (n1:Nat) (w2:World),New (.cells #[.pointer p_] 101) w n1 w2→
 ∃x3,w2.cell? (Addr.mk n1 0 none)=some (.pointer x3)∧
 cnd x3.isNone
 (K (.tuple #[.int .i64 0,.int .i64 1]) w2)
 (∃x4,w2.cell? (Addr.mk n1 0 none)=some (.pointer x4)∧
 ∃a5,x4=some a5∧∃x6_p x6_n x6_c,w2.cell? (a5.add 3)=some (.slice x6_p x6_n x6_c)∧
 cnd x6_p.isNone
 (K (.tuple #[.int .i64 0,.int .i64 1]) w2)
 (Calls Tryz.prog 62 #[.slice c__p c__n c__c] w2 fun e w7=> ∃r8,e= .returned (.int .i64 r8)∧
 cnd (r8 !=(0:Int))
 (K (.tuple #[.int .i64 0,.int .i64 1]) w7)
 (Calls Tryz.prog 68 #[.slice c__p c__n c__c,.func (.func 147) #[] #[.pointer (some (Addr.mk n1 0 none))]] w7 fun e w9=> ∃r10,e= .returned (.bool r10)∧
 cnd r10
 (K (.tuple #[.int .i64 0,.int .i64 1]) w9)
 (∃x11,w9.cell? (Addr.mk n1 0 none)=some (.pointer x11)∧
   ∃a12,x11=some a12∧∃x13_p x13_n x13_c,w9.cell? (a12.add 1)=some (.slice x13_p x13_n x13_c)∧
   cnd ((x13_n:Int)==(262144:Int))
   (K (.tuple #[.int .i64 0,.int .i64 5]) w9)
   (Calls Tryz.prog 94 #[.slice c__p c__n c__c] w9 fun e w14=> ∃r15_p r15_n r15_c r16,e= .returned (.tuple #[.slice r15_p r15_n r15_c,.bool r16])∧
     ∃x17,w14.cell? (Addr.mk n1 0 none)=some (.pointer x17)∧
     ∃a18,x17=some a18∧∃x19_p x19_n x19_c,w14.cell? (a18.add 1)=some (.slice x19_p x19_n x19_c)∧
     ∃W20:World→Prop,W20 w14.drew∧
     ∃x21,AtW W20 (Addr.mk n1 0 none) (.pointer x21)∧
     ∃x22,AtW W20 (Addr.mk n1 0 none) (.pointer x22)∧
     ∃a23,x22=some a23∧∃x24_p x24_n x24_c,AtW W20 (a23.add 1) (.slice x24_p x24_n x24_c)∧
     Calls Tryz.prog 70 #[.slice c__p c__n c__c] w14.drew fun e w25=> ∃r26_p r26_n r26_c,e= .returned (.slice r26_p r26_n r26_c)∧
     W20 w25∧∀ (n27:Nat) (w28:World),New (.cells #[.slice r26_p r26_n r26_c,.slice r15_p r15_n r15_c,.bool false] 151) w25 n27 w28→
     W20 w28∧∃w29 r30_p r30_n r30_c,(Builtin.append_ #[145,145] 145 #[.slice x24_p x24_n x24_c,.slice (some (Addr.mk n27 0 none)) 1 1]).run Tryz.prog w28= .ok (.slice r30_p r30_n r30_c) w29∧
     W20 w29∧∃a31,x21=some a31∧∃w32,StoreAt (a31.add 1) 0 [.slice r30_p r30_n r30_c] w29 w32∧
     ∃x33,w32.cell? (Addr.mk n1 0 none)=some (.pointer x33)∧
     Calls Tryz.prog 149 #[.pointer x33,.int .i64 (x19_n:Int)] w32 fun e w34=>e= .returned (.tuple #[])∧
     K (.tuple #[.int .i64 (x19_n:Int),.int .i64 0]) w34)))))
theorem prop_Prop_Add.calls {p_ c__p c__n c__c w R} (h:prop_Prop_Add.w p_ c__p c__n c__c w fun v w'=>R (.returned v) w'):Calls Tryz.prog 106 #[.pointer p_,.slice c__p c__n c__c] w R:=
 calls_of mixed Tryz.func106 (by kernel_rfl) rfl (ann:=(.two .leaf (.two .leaf (.two .leaf (.two .leaf (.two .draw .leaf)))))) (F:=prop_Prop_Add.w p_ c__p c__n c__c w) (fun K=>by kernel_rfl) h
def lit_Check_1.w (l_:Int) (w:World) (K:Value→World→Prop):Prop:=
 Calls Tryz.prog 109 #[.int .i64 l_] w fun e w1=> ∃r2,e= .returned (.bool r2)∧
 K (.bool (!r2)) w1
theorem lit_Check_1.calls {l_ w R} (h:lit_Check_1.w l_ w fun v w'=>R (.returned v) w'):Calls Tryz.prog 108 #[.int .i64 l_] w R:=
 calls_of mixed Tryz.func108 (by kernel_rfl) rfl (ann:= .leaf) (F:=lit_Check_1.w l_ w) (fun K=>by kernel_rfl) h
def lit_is.w (l_:Int) (w:World) (K:Value→World→Prop):Prop:=
 cnd (l_ !=(0:Int))
 (cnd (decide (l_≥(-1048576)))
 (K (.bool (decide (l_≤(1048576:Int)))) w)
 (K (.bool false) w))
 (K (.bool false) w)
theorem lit_is.calls {l_ w R} (h:lit_is.w l_ w fun v w'=>R (.returned v) w'):Calls Tryz.prog 109 #[.int .i64 l_] w R:=
 calls_of mixed Tryz.func109 (by kernel_rfl) rfl (ann:= .leaf) (F:=lit_is.w l_ w) (fun K=>by kernel_rfl) h
def slices_IndexFunc_int_int.w (s__p:Option Addr) (s__n:Nat) (s__c:Nat) (f_f:FuncId) (f_v:Array Value) (w:World) (K:Value→World→Prop):Prop:=
 ∃I1:Int→World→Nat→Prop,(∃k2,I1 0 w k2)∧
 ∀ (v4:Int) (w5:World) (k2:Nat) (_:Fr),I1 v4 w5 k2→
 cnd (decide (v4< (s__n:Int)))
  (ixK s__p s__n v4 1 fun a6=>
    ∃x7,w5.cell? a6=some (.int .i64 x7)∧
    cnd (entB Tryz.prog f_f) (Calls Tryz.prog f_f (#[]++ #[.int .i64 x7]++f_v) w5 fun e w8=> ∃r9,e= .returned (.bool r9)∧
    cnd r9
    (K (.int .i64 v4) w8)
    (∃k3,k3<k2∧I1 (IntKind.i64.wrap (v4+ (1:Int))) w8 k3)) False)
  (K (.int .i64 (-1)) w5)
theorem slices_IndexFunc_int_int.calls {s__p s__n s__c f_f f_v w R} (h:slices_IndexFunc_int_int.w s__p s__n s__c f_f f_v w fun v w'=>R (.returned v) w'):Calls Tryz.prog 112 #[.slice s__p s__n s__c,.func (.func f_f) #[] f_v] w R:=
 calls_of mixed Tryz.func112 (by kernel_rfl) rfl (ann:=(.two .leaf (.two (.two .leaf (.one (.loop [(8,3)] .leaf))) .leaf))) (F:=slices_IndexFunc_int_int.w s__p s__n s__c f_f f_v w) (fun K=>by kernel_rfl) h
def rup_base_note.w (b_:Option Addr) (c__p:Option Addr) (c__n:Nat) (c__c:Nat) (w:World) (K:Value→World→Prop):Prop:=
 ∃I1:Int→World→Nat→Prop,(∃k2,I1 0 w k2)∧
 ∀ (v4:Int) (w5:World) (k2:Nat) (_:Fr),I1 v4 w5 k2→
 cnd (decide (v4< (c__n:Int)))
  (ixK c__p c__n v4 1 fun a6=>
    ∃x7,w5.cell? a6=some (.int .i64 x7)∧
    ∃a8,b_=some a8∧∃x9:Option Nat,w5.cell? (a8.add 1)=some (.map x9)∧
    ∃w10 r11,(Instr.lookup 133 (.map x9) (.int .i64 (imax x7 (IntKind.i64.wrap (0 - x7)))) false).run Tryz.prog w5= .ok (.int .i64 r11) w10∧
    cnd (r11==(0:Int))
    (∃a12,b_=some a12∧∃x13:Option Nat,w10.drew.cell? (a12.add 1)=some (.map x13)∧
      ∃a14,b_=some a14∧∃x15:Option Nat,w10.drew.cell? (a14.add 1)=some (.map x15)∧
      ∃n16,(Builtin.len_ #[133] 3 #[.map x15]).run Tryz.prog w10.drew= .ok (.int .i64 n16) w10.drew∧
      ∃w17,(Instr.mapUpdate 133 (.map x13) (.int .i64 (imax x7 (IntKind.i64.wrap (0 - x7)))) (.int .i64 (IntKind.i64.wrap (n16+ (1:Int))))).run Tryz.prog w10.drew= .ok () w17∧
      ∃k3,k3<k2∧I1 (IntKind.i64.wrap (v4+ (1:Int))) w17 k3)
    (∃k3,k3<k2∧I1 (IntKind.i64.wrap (v4+ (1:Int))) w10 k3))
  (K (.tuple #[]) w5)
theorem rup_base_note.calls {b_ c__p c__n c__c w R} (h:rup_base_note.w b_ c__p c__n c__c w fun v w'=>R (.returned v) w'):Calls Tryz.prog 113 #[.pointer b_,.slice c__p c__n c__c] w R:=
 calls_of mixed Tryz.func113 (by kernel_rfl) rfl (ann:=(.two .leaf (.one (.loop [(9,3)] .leaf)))) (F:=rup_base_note.w b_ c__p c__n c__c w) (fun K=>by kernel_rfl) h
def rup_base_anew.w (b_:Option Addr) (l__p:Option Addr) (l__n:Nat) (l__c:Nat) (w:World) (K:Value→World→Prop):Prop:=
 ∃a1,b_=some a1∧∃x2:Option Nat,w.cell? (a1.add 1)=some (.map x2)∧
 ∃n3,(Builtin.len_ #[133] 3 #[.map x2]).run Tryz.prog w= .ok (.int .i64 n3) w∧
 Calls Tryz.prog 76 #[.agg #[.int .i64 n3,.slice none 0 0]] w fun e w4=> ∃r5 r6,e= .returned (.tuple #[.pointer r5,.int .i64 r6])∧
 ∃a7,b_=some a7∧∃w8,StoreAt (a7.add 2) 0 [.pointer r5] w4 w8∧
 ∀ (n9:Nat) (w10:World),New (.map #[] 0) w8 n9 w10→
 ∃a11,b_=some a11∧∃w12,StoreAt (a11.add 3) 0 [.slice none 0 0] w10 w12∧
 ∃a13,b_=some a13∧∃w14,StoreAt (a13.add 4) 0 [.map (some n9)] w12 w14∧
 ∃I15:Int→World→Nat→Prop,(∃k16,I15 0 w14 k16)∧
 ∀ (v18:Int) (w19:World) (k16:Nat) (_:Fr),I15 v18 w19 k16→
 cnd (decide (v18< (l__n:Int)))
  (ixK l__p l__n v18 1 fun a20=>
    ∃x21_p x21_n x21_c,w19.cell? a20=some (.slice x21_p x21_n x21_c)∧
    Calls Tryz.prog 117 #[.pointer b_,.slice x21_p x21_n x21_c] w19 fun e w22=>e= .returned (.tuple #[])∧
    ∃k17,k17<k16∧I15 (IntKind.i64.wrap (v18+ (1:Int))) w22 k17)
  (K (.tuple #[]) w19)
theorem rup_base_anew.calls {b_ l__p l__n l__c w R} (h:rup_base_anew.w b_ l__p l__n l__c w fun v w'=>R (.returned v) w'):Calls Tryz.prog 114 #[.pointer b_,.slice l__p l__n l__c] w R:=
 calls_of mixed Tryz.func114 (by kernel_rfl) rfl (ann:=(.two .leaf (.two .leaf (.two .leaf (.one (.loop [(28,3)] .leaf)))))) (F:=rup_base_anew.w b_ l__p l__n l__c w) (fun K=>by kernel_rfl) h
def rup_base_drop.w (b_:Option Addr) (c__p:Option Addr) (c__n:Nat) (c__c:Nat) (w:World) (K:Value→World→Prop):Prop:=
 Calls Tryz.prog 94 #[.slice c__p c__n c__c] w fun e w1=> ∃r2_p r2_n r2_c r3,e= .returned (.tuple #[.slice r2_p r2_n r2_c,.bool r3])∧
 ∃a4,b_=some a4∧∃x5_p x5_n x5_c,w1.cell? (a4.add 3)=some (.slice x5_p x5_n x5_c)∧
 ∃I6:Int→World→Nat→Prop,(∃k7,I6 0 w1 k7)∧
 ∀ (v9:Int) (w10:World) (k7:Nat) (_:Fr),I6 v9 w10 k7→
 cnd (decide (v9< (x5_n:Int)))
  (ixK x5_p x5_n v9 1 fun a11=>
    ∃x12,w10.cell? a11=some (.int .i64 x12)∧
    ∃a13,b_=some a13∧∃x14:Option Nat,w10.cell? (a13.add 4)=some (.map x14)∧
    ∃w15 r16_p r16_n r16_c,(Instr.lookup 140 (.map x14) (.int .i64 x12) false).run Tryz.prog w10= .ok (.slice r16_p r16_n r16_c) w15∧
    Calls Tryz.prog 94 #[.slice r16_p r16_n r16_c] w15 fun e w17=> ∃r18_p r18_n r18_c r19,e= .returned (.tuple #[.slice r18_p r18_n r18_c,.bool r19])∧
    Calls Tryz.prog 97 #[.slice r18_p r18_n r18_c,.slice r2_p r2_n r2_c] w17 fun e w20=> ∃r21,e= .returned (.bool r21)∧
    cnd r21
    (∃a22,b_=some a22∧∃x23_p x23_n x23_c,w20.cell? (a22.add 3)=some (.slice x23_p x23_n x23_c)∧
      Calls Tryz.prog 150 #[.slice x23_p x23_n x23_c,.int .i64 v9,.int .i64 (IntKind.i64.wrap (v9+ (1:Int)))] w20 fun e w24=> ∃r25_p r25_n r25_c,e= .returned (.slice r25_p r25_n r25_c)∧
      ∃a26,b_=some a26∧∃w27,StoreAt (a26.add 3) 0 [.slice r25_p r25_n r25_c] w24 w27∧
      ∃a28,b_=some a28∧∃x29,w27.cell? (a28.add 2)=some (.pointer x29)∧
      Calls Tryz.prog 105 #[.pointer x29,.int .i64 x12] w27 fun e w30=> ∃r31,e= .returned (.int .i64 r31)∧
      K (.tuple #[]) w30)
    (∃k8,k8<k7∧I6 (IntKind.i64.wrap (v9+ (1:Int))) w20 k8))
  (K (.tuple #[]) w10)
theorem rup_base_drop.calls {b_ c__p c__n c__c w R} (h:rup_base_drop.w b_ c__p c__n c__c w fun v w'=>R (.returned v) w'):Calls Tryz.prog 115 #[.pointer b_,.slice c__p c__n c__c] w R:=
 calls_of mixed Tryz.func115 (by kernel_rfl) rfl (ann:=(.two .leaf (.two .leaf (.one (.loop [(20,3)] .leaf))))) (F:=rup_base_drop.w b_ c__p c__n c__c w) (fun K=>by kernel_rfl) h
def rup_base_first.w (b_:Option Addr) (c__p:Option Addr) (c__n:Nat) (c__c:Nat) (w:World) (K:Value→World→Prop):Prop:=
 cnd ((c__n:Int)==(0:Int))
 (K (.bool false) w)
 (∃a1,b_=some a1∧∃x2_p x2_n x2_c,w.cell? (a1.add 3)=some (.slice x2_p x2_n x2_c)∧
   ∃I3:Int→World→Nat→Prop,(∃k4,I3 0 w k4)∧
   ∀ (v6:Int) (w7:World) (k4:Nat) (_:Fr),I3 v6 w7 k4→
   cnd (decide (v6< (x2_n:Int)))
    (ixK x2_p x2_n v6 1 fun a8=>
      ∃x9,w7.cell? a8=some (.int .i64 x9)∧
      ∃W10:World→Prop,W10 w7.drew∧
      ∃a11,b_=some a11∧∃x12:Option Nat,AtW W10 (a11.add 4) (.map x12)∧
      ∃w13 r14_p r14_n r14_c,(Instr.lookup 140 (.map x12) (.int .i64 x9) false).run Tryz.prog w7.drew= .ok (.slice r14_p r14_n r14_c) w13∧
      W10 w13∧ixK c__p c__n 0 1 fun a15=>
      ∃x16,AtW W10 a15 (.int .i64 x16)∧
      Calls Tryz.prog 151 #[.slice r14_p r14_n r14_c,.int .i64 (IntKind.i64.wrap (0 - x16))] w13 fun e w17=> ∃r18,e= .returned (.bool r18)∧
      cnd (!r18)
      (∃k5,k5<k4∧I3 (IntKind.i64.wrap (v6+ (1:Int))) w17 k5)
      (Calls Tryz.prog 70 #[.slice c__p c__n c__c] w17 fun e w19=> ∃r20_p r20_n r20_c,e= .returned (.slice r20_p r20_n r20_c)∧
        ∃a21,b_=some a21∧∃x22:Option Nat,w19.cell? (a21.add 4)=some (.map x22)∧
        ∃w23 r24_p r24_n r24_c,(Instr.lookup 140 (.map x22) (.int .i64 x9) false).run Tryz.prog w19= .ok (.slice r24_p r24_n r24_c) w23∧
        ∃I25:Option Addr→Nat→Nat→Int→World→Nat→Prop,(∃k26,I25 r20_p r20_n r20_c 0 w23 k26)∧
        ∀ (all_28_p:Option Addr) (all_28_n:Nat) (all_28_c:Nat) (v29:Int) (w30:World) (k26:Nat) (_:Fr),I25 all_28_p all_28_n all_28_c v29 w30 k26→
        cnd (decide (v29< (r24_n:Int)))
         (ixK r24_p r24_n v29 1 fun a31=>
           ∃x32,w30.cell? a31=some (.int .i64 x32)∧
           ixK c__p c__n 0 1 fun a33=>
           ∃x34,w30.cell? a33=some (.int .i64 x34)∧
           cnd (x32 !=(IntKind.i64.wrap (0 - x34)))
           (∀ (n35:Nat) (w36:World),New (.cells #[.int .i64 x32] 3) w30 n35 w36→
             ∃w37 r38_p r38_n r38_c,(Builtin.append_ #[28,28] 28 #[.slice all_28_p all_28_n all_28_c,.slice (some (Addr.mk n35 0 none)) 1 1]).run Tryz.prog w36= .ok (.slice r38_p r38_n r38_c) w37∧
             ∃k27,k27<k26∧I25 r38_p r38_n r38_c (IntKind.i64.wrap (v29+ (1:Int))) w37 k27)
           (∃k27,k27<k26∧I25 all_28_p all_28_n all_28_c (IntKind.i64.wrap (v29+ (1:Int))) w30 k27))
         (cnd (decide ((all_28_n:Int)> (4096:Int)))
           (K (.bool false) w30)
           (Calls Tryz.prog 100 #[.pointer b_,.slice all_28_p all_28_n all_28_c] w30 fun e w39=> ∃r40,e= .returned (.bool r40)∧
           cnd (!r40)
           (K (.bool false) w39)
           (∃k5,k5<k4∧I3 (IntKind.i64.wrap (v6+ (1:Int))) w39 k5)))))
    (K (.bool true) w7))
theorem rup_base_first.calls {b_ c__p c__n c__c w R} (h:rup_base_first.w b_ c__p c__n c__c w fun v w'=>R (.returned v) w'):Calls Tryz.prog 116 #[.pointer b_,.slice c__p c__n c__c] w R:=
 calls_of mixed Tryz.func116 (by kernel_rfl) rfl (ann:=(.two .leaf (.two .leaf (.two (.two .leaf (.one (.loop [(18,3)] (.two .leaf (.two .leaf (.two (.one (.two .leaf (.two (.two .draw .leaf) (.two .leaf (.two (.two .leaf (.one (.loop [(7,28),(43,3)] .leaf))) .leaf))))) .leaf)))))) .leaf)))) (F:=rup_base_first.w b_ c__p c__n c__c w) (fun K=>by kernel_rfl) h
def rup_base_add.w (b_:Option Addr) (c__p:Option Addr) (c__n:Nat) (c__c:Nat) (w:World) (K:Value→World→Prop):Prop:=
 ∃W1:World→Prop,W1 w.drew∧
 ∃a2,b_=some a2∧∃x3,AtW W1 (a2.add 2) (.pointer x3)∧
 Calls Tryz.prog 139 #[.pointer b_,.slice c__p c__n c__c] w.drew fun e w4=> ∃r5_p r5_n r5_c,e= .returned (.slice r5_p r5_n r5_c)∧
 W1 w4∧Calls Tryz.prog 106 #[.pointer x3,.slice r5_p r5_n r5_c] w4 fun e w6=> ∃r7 r8,e= .returned (.tuple #[.int .i64 r7,.int .i64 r8])∧
 cnd (r8 !=(0:Int))
 (Calls Tryz.prog 152 #[.pointer b_] w6 fun e w9=> ∃r10_p r10_n r10_c,e= .returned (.slice r10_p r10_n r10_c)∧
   Calls Tryz.prog 114 #[.pointer b_,.slice r10_p r10_n r10_c] w9 fun e w11=>e= .returned (.tuple #[])∧
   ∃W12:World→Prop,W12 w11.drew∧
   ∃a13,b_=some a13∧∃x14,AtW W12 (a13.add 2) (.pointer x14)∧
   Calls Tryz.prog 139 #[.pointer b_,.slice c__p c__n c__c] w11.drew fun e w15=> ∃r16_p r16_n r16_c,e= .returned (.slice r16_p r16_n r16_c)∧
   W12 w15∧Calls Tryz.prog 106 #[.pointer x14,.slice r16_p r16_n r16_c] w15 fun e w17=> ∃r18 r19,e= .returned (.tuple #[.int .i64 r18,.int .i64 r19])∧
   ∃a20,b_=some a20∧∃x21_p x21_n x21_c,w17.cell? (a20.add 3)=some (.slice x21_p x21_n x21_c)∧
   ∀ (n22:Nat) (w23:World),New (.cells #[.int .i64 r18] 3) w17 n22 w23→
   ∃w24 r25_p r25_n r25_c,(Builtin.append_ #[28,28] 28 #[.slice x21_p x21_n x21_c,.slice (some (Addr.mk n22 0 none)) 1 1]).run Tryz.prog w23= .ok (.slice r25_p r25_n r25_c) w24∧
   ∃a26,b_=some a26∧∃w27,StoreAt (a26.add 3) 0 [.slice r25_p r25_n r25_c] w24 w27∧
   ∃W28:World→Prop,W28 w27.drew∧
   ∃a29,b_=some a29∧∃x30:Option Nat,AtW W28 (a29.add 4) (.map x30)∧
   Calls Tryz.prog 70 #[.slice c__p c__n c__c] w27.drew fun e w31=> ∃r32_p r32_n r32_c,e= .returned (.slice r32_p r32_n r32_c)∧
   W28 w31∧∃w33,(Instr.mapUpdate 140 (.map x30) (.int .i64 r18) (.slice r32_p r32_n r32_c)).run Tryz.prog w31= .ok () w33∧
   ∃I34:Int→World→Nat→Prop,(∃k35,I34 0 w33 k35)∧
   ∀ (v37:Int) (w38:World) (k35:Nat) (_:Fr),I34 v37 w38 k35→
   cnd (decide (v37< (c__n:Int)))
    (ixK c__p c__n v37 1 fun a39=>
      ∃x40,w38.cell? a39=some (.int .i64 x40)∧
      ∃a41,b_=some a41∧∃x42,w38.cell? (a41.add 0)=some (.int .i64 x42)∧
      ∃a43,b_=some a43∧∃w44,StoreAt (a43.add 0) 0 [.int .i64 (imax (imax x42 x40) (IntKind.i64.wrap (0 - x40)))] w38 w44∧
      ∃k36,k36<k35∧I34 (IntKind.i64.wrap (v37+ (1:Int))) w44 k36)
    (K (.tuple #[]) w38))
 (∃a45,b_=some a45∧∃x46_p x46_n x46_c,w6.cell? (a45.add 3)=some (.slice x46_p x46_n x46_c)∧
   ∀ (n47:Nat) (w48:World),New (.cells #[.int .i64 r7] 3) w6 n47 w48→
   ∃w49 r50_p r50_n r50_c,(Builtin.append_ #[28,28] 28 #[.slice x46_p x46_n x46_c,.slice (some (Addr.mk n47 0 none)) 1 1]).run Tryz.prog w48= .ok (.slice r50_p r50_n r50_c) w49∧
   ∃a51,b_=some a51∧∃w52,StoreAt (a51.add 3) 0 [.slice r50_p r50_n r50_c] w49 w52∧
   ∃W53:World→Prop,W53 w52.drew∧
   ∃a54,b_=some a54∧∃x55:Option Nat,AtW W53 (a54.add 4) (.map x55)∧
   Calls Tryz.prog 70 #[.slice c__p c__n c__c] w52.drew fun e w56=> ∃r57_p r57_n r57_c,e= .returned (.slice r57_p r57_n r57_c)∧
   W53 w56∧∃w58,(Instr.mapUpdate 140 (.map x55) (.int .i64 r7) (.slice r57_p r57_n r57_c)).run Tryz.prog w56= .ok () w58∧
   ∃I59:Int→World→Nat→Prop,(∃k60,I59 0 w58 k60)∧
   ∀ (v62:Int) (w63:World) (k60:Nat) (_:Fr),I59 v62 w63 k60→
   cnd (decide (v62< (c__n:Int)))
    (ixK c__p c__n v62 1 fun a64=>
      ∃x65,w63.cell? a64=some (.int .i64 x65)∧
      ∃a66,b_=some a66∧∃x67,w63.cell? (a66.add 0)=some (.int .i64 x67)∧
      ∃a68,b_=some a68∧∃w69,StoreAt (a68.add 0) 0 [.int .i64 (imax (imax x67 x65) (IntKind.i64.wrap (0 - x65)))] w63 w69∧
      ∃k61,k61<k60∧I59 (IntKind.i64.wrap (v62+ (1:Int))) w69 k61)
    (K (.tuple #[]) w63))
theorem rup_base_add.calls {b_ c__p c__n c__c w R} (h:rup_base_add.w b_ c__p c__n c__c w fun v w'=>R (.returned v) w'):Calls Tryz.prog 117 #[.pointer b_,.slice c__p c__n c__c] w R:=
 calls_of mixed Tryz.func117 (by kernel_rfl) rfl (ann:=(.two .draw (.two (.two .leaf (.two (.two .leaf .draw) .leaf)) (.two .leaf (.two .draw (.two .leaf (.one (.loop [(55,3)] .leaf)))))))) (F:=rup_base_add.w b_ c__p c__n c__c w) (fun K=>by kernel_rfl) h
def prop_Prop_loosely.w (p_:Option Addr) (w:World) (K:Value→World→Prop):Prop:=
 ∀ (n1:Nat) (w2:World),New (.cells #[.pointer p_] 101) w n1 w2→
 ∃x3,w2.cell? (Addr.mk n1 0 none)=some (.pointer x3)∧
 ∃a4,x3=some a4∧∃x5_p x5_n x5_c,w2.cell? (a4.add 10)=some (.slice x5_p x5_n x5_c)∧
 ∃I6:Option Addr→Nat→Nat→Int→Int→World→Nat→Prop,(∃k7,I6 none 0 0 (-1) 0 w2 k7)∧
 ∀ (keep_9_p:Option Addr) (keep_9_n:Nat) (keep_9_c:Nat) (broken_10:Int) (v11:Int) (w12:World) (k7:Nat) (_:Fr),I6 keep_9_p keep_9_n keep_9_c broken_10 v11 w12 k7→
 cnd (decide (v11< (x5_n:Int)))
  (ixK x5_p x5_n v11 1 fun a13=>
    ∃x14,w12.cell? a13=some (.int .i64 x14)∧
    cnd (decide (broken_10≥(0:Int)))
    (∃x15,w12.cell? (Addr.mk n1 0 none)=some (.pointer x15)∧
      ∃a16,x15=some a16∧∃x17_p x17_n x17_c,w12.cell? (a16.add 10)=some (.slice x17_p x17_n x17_c)∧
      ixK x17_p x17_n v11 1 fun a18=>
      ∃x19,w12.cell? a18=some (.int .i64 x19)∧
      ∀ (n20:Nat) (w21:World),New (.cells #[.int .i64 x19] 3) w12 n20 w21→
      ∃w22 r23_p r23_n r23_c,(Builtin.append_ #[28,28] 28 #[.slice keep_9_p keep_9_n keep_9_c,.slice (some (Addr.mk n20 0 none)) 1 1]).run Tryz.prog w21= .ok (.slice r23_p r23_n r23_c) w22∧
      ∃k8,k8<k7∧I6 r23_p r23_n r23_c broken_10 (IntKind.i64.wrap (v11+ (1:Int))) w22 k8)
    (∃x24,w12.cell? (Addr.mk n1 0 none)=some (.pointer x24)∧
      ∃a25,x24=some a25∧∃x26_p x26_n x26_c,w12.cell? (a25.add 1)=some (.slice x26_p x26_n x26_c)∧
      ixK x26_p x26_n x14 3 fun a27=>
      ∃x28_p x28_n x28_c,w12.cell? (a27.add 1)=some (.slice x28_p x28_n x28_c)∧
      Calls Tryz.prog 70 #[.slice x28_p x28_n x28_c] w12 fun e w29=> ∃r30_p r30_n r30_c,e= .returned (.slice r30_p r30_n r30_c)∧
      Calls Tryz.prog 145 #[.slice r30_p r30_n r30_c,.func (.func 153) #[] #[.pointer (some (Addr.mk n1 0 none))]] w29 fun e w31=> ∃r32_p r32_n r32_c,e= .returned (.slice r32_p r32_n r32_c)∧
      cnd (decide ((r32_n:Int)> (1:Int)))
      (∃x33,w31.cell? (Addr.mk n1 0 none)=some (.pointer x33)∧
        Calls Tryz.prog 144 #[.pointer x33,.int .i64 x14] w31 fun e w34=>e= .returned (.tuple #[])∧
        ∃x35,w34.cell? (Addr.mk n1 0 none)=some (.pointer x35)∧
        Calls Tryz.prog 154 #[.pointer x35,.int .i64 x14] w34 fun e w36=>e= .returned (.tuple #[])∧
        ∃k8,k8<k7∧I6 keep_9_p keep_9_n keep_9_c broken_10 (IntKind.i64.wrap (v11+ (1:Int))) w36 k8)
      (∀ (n37:Nat) (w38:World),New (.cells #[.int .i64 x14] 3) w31 n37 w38→
        ∃w39 r40_p r40_n r40_c,(Builtin.append_ #[28,28] 28 #[.slice keep_9_p keep_9_n keep_9_c,.slice (some (Addr.mk n37 0 none)) 1 1]).run Tryz.prog w38= .ok (.slice r40_p r40_n r40_c) w39∧
        cnd ((r32_n:Int)==(0:Int))
        (∃k8,k8<k7∧I6 r40_p r40_n r40_c x14 (IntKind.i64.wrap (v11+ (1:Int))) w39 k8)
        (∃x41,w39.drew.cell? (Addr.mk n1 0 none)=some (.pointer x41)∧
          ixK r32_p r32_n 0 1 fun a42=>
          ∃x43,w39.drew.cell? a42=some (.int .i64 x43)∧
          Calls Tryz.prog 142 #[.pointer x41,.int .i64 x43] w39.drew fun e w44=> ∃r45,e= .returned (.int .i8 r45)∧
          cnd (r45==(0:Int))
          (∃x46,w44.drew.cell? (Addr.mk n1 0 none)=some (.pointer x46)∧
            ixK r32_p r32_n 0 1 fun a47=>
            ∃x48,w44.drew.cell? a47=some (.int .i64 x48)∧
            Calls Tryz.prog 155 #[.pointer x46,.int .i64 x48,.int .i64 x14] w44.drew fun e w49=>e= .returned (.tuple #[])∧
            ∃k8,k8<k7∧I6 r40_p r40_n r40_c broken_10 (IntKind.i64.wrap (v11+ (1:Int))) w49 k8)
          (∃k8,k8<k7∧I6 r40_p r40_n r40_c broken_10 (IntKind.i64.wrap (v11+ (1:Int))) w44 k8)))))
  (∃x50,w12.cell? (Addr.mk n1 0 none)=some (.pointer x50)∧
    ∃a51,x50=some a51∧∃w52,StoreAt (a51.add 10) 0 [.slice keep_9_p keep_9_n keep_9_c] w12 w52∧
    K (.int .i64 broken_10) w52)
theorem prop_Prop_loosely.calls {p_ w R} (h:prop_Prop_loosely.w p_ w fun v w'=>R (.returned v) w'):Calls Tryz.prog 118 #[.pointer p_] w R:=
 calls_of mixed Tryz.func118 (by kernel_rfl) rfl (ann:=(.two .leaf (.two .leaf (.two .leaf (.two (.two .leaf (.one (.loop [(3,28),(4,3),(14,3)] .leaf))) .leaf))))) (F:=prop_Prop_loosely.w p_ w) (fun K=>by kernel_rfl) h
def prop_side.w (l_:Int) (w:World) (K:Value→World→Prop):Prop:=
 cnd (decide (l_< (0:Int)))
 (K (.int .i64 (IntKind.i64.wrap ((IntKind.i64.wrap ((-2)*l_))+ (1:Int)))) w)
 (K (.int .i64 (IntKind.i64.wrap ((2:Int)*l_))) w)
theorem prop_side.calls {l_ w R} (h:prop_side.w l_ w fun v w'=>R (.returned v) w'):Calls Tryz.prog 119 #[.int .i64 l_] w R:=
 calls_of mixed Tryz.func119 (by kernel_rfl) rfl (ann:= .leaf) (F:=prop_side.w l_ w) (fun K=>by kernel_rfl) h
def prop_Prop_visit.w (p_:Option Addr) (i_:Int) (falsely_:Int) (w:World) (K:Value→World→Prop):Prop:=
 ∃a1,p_=some a1∧∃x2_p x2_n x2_c,w.cell? (a1.add 1)=some (.slice x2_p x2_n x2_c)∧
 ixK x2_p x2_n i_ 3 fun a3=>
 ∃x4_p x4_n x4_c,w.cell? (a3.add 1)=some (.slice x4_p x4_n x4_c)∧
 ∃J5:World→Prop,(ixK x4_p x4_n 0 1 fun a6=>
 ∃x7,w.cell? a6=some (.int .i64 x7)∧
 cnd (x7==falsely_)
 (cnd (decide ((x4_n:Int)> (1:Int)))
 (ixK x4_p x4_n 1 1 fun a8=>
   ∃x9,w.drew.cell? a8=some (.int .i64 x9)∧
   ixK x4_p x4_n 0 1 fun a10=>
   ∃x11,w.drew.cell? a10=some (.int .i64 x11)∧
   ixK x4_p x4_n 0 1 fun a12=>
   ∃w13,StoreAt a12 0 [.int .i64 x9] w.drew w13∧
   ixK x4_p x4_n 1 1 fun a14=>
   ∃w15,StoreAt a14 0 [.int .i64 x11] w13 w15∧
   J5 w15)
 (J5 w))
 (J5 w))∧
 ∀ (w16:World) (_:Fr),J5 w16→
 ixK x4_p x4_n 0 1 fun a17=>
 ∃x18,w16.cell? a17=some (.int .i64 x18)∧
 Calls Tryz.prog 142 #[.pointer p_,.int .i64 x18] w16 fun e w19=> ∃r20,e= .returned (.int .i8 r20)∧
 cnd (decide (r20> (0:Int)))
 (K (.tuple #[.bool true,.bool false]) w19)
 (∃I21:Int→World→Nat→Prop,(∃k22,I21 2 w19 k22)∧
   ∀ (k_24:Int) (w25:World) (k22:Nat) (_:Fr),I21 k_24 w25 k22→
   cnd (decide (k_24< (x4_n:Int)))
    (ixK x4_p x4_n k_24 1 fun a26=>
      ∃x27,w25.cell? a26=some (.int .i64 x27)∧
      Calls Tryz.prog 142 #[.pointer p_,.int .i64 x27] w25 fun e w28=> ∃r29,e= .returned (.int .i8 r29)∧
      cnd (decide (r29≥(0:Int)))
      (ixK x4_p x4_n k_24 1 fun a30=>
        ∃x31,w28.drew.cell? a30=some (.int .i64 x31)∧
        ixK x4_p x4_n 1 1 fun a32=>
        ∃x33,w28.drew.cell? a32=some (.int .i64 x33)∧
        ixK x4_p x4_n 1 1 fun a34=>
        ∃w35,StoreAt a34 0 [.int .i64 x31] w28.drew w35∧
        ixK x4_p x4_n k_24 1 fun a36=>
        ∃w37,StoreAt a36 0 [.int .i64 x33] w35 w37∧
        ∃W38:World→Prop,W38 w37.drew∧
        ∃a39,p_=some a39∧∃x40_p x40_n x40_c,AtW W38 (a39.add 2) (.slice x40_p x40_n x40_c)∧
        ixK x4_p x4_n 1 1 fun a41=>
        ∃x42,AtW W38 a41 (.int .i64 x42)∧
        ∃a43,p_=some a43∧∃x44_p x44_n x44_c,AtW W38 (a43.add 2) (.slice x44_p x44_n x44_c)∧
        ixK x4_p x4_n 1 1 fun a45=>
        ∃x46,AtW W38 a45 (.int .i64 x46)∧
        (Calls Tryz.prog 119 #[.int .i64 x42] w37.drew fun e w47=> ∃r48,e= .returned (.int .i64 r48)∧
        W38 w47∧(Calls Tryz.prog 119 #[.int .i64 x46] w47 fun e w49=> ∃r50,e= .returned (.int .i64 r50)∧
        W38 w49∧ixK x44_p x44_n r50 1 fun a51=>
        ∃x52_p x52_n x52_c,AtW W38 a51 (.slice x52_p x52_n x52_c)∧
        ∀ (n53:Nat) (w54:World),New (.cells #[.int .i64 i_] 3) w49 n53 w54→
        W38 w54∧∃w55 r56_p r56_n r56_c,(Builtin.append_ #[28,28] 28 #[.slice x52_p x52_n x52_c,.slice (some (Addr.mk n53 0 none)) 1 1]).run Tryz.prog w54= .ok (.slice r56_p r56_n r56_c) w55∧
        W38 w55∧ixK x40_p x40_n r48 1 fun a57=>
        ∃w58,StoreAt a57 0 [.slice r56_p r56_n r56_c] w55 w58∧
        K (.tuple #[.bool false,.bool false]) w58)∧
      (∀ (n59:Nat) (w60:World),New (.cells #[.int .i64 i_] 3) w47 n59 w60→
        W38 w60∧Calls Tryz.prog 119 #[.int .i64 x46] w60 fun e w61=> ∃r62,e= .returned (.int .i64 r62)∧
        W38 w61∧ixK x44_p x44_n r62 1 fun a63=>
        ∃x64_p x64_n x64_c,AtW W38 a63 (.slice x64_p x64_n x64_c)∧
        ∃w65 r66_p r66_n r66_c,(Builtin.append_ #[28,28] 28 #[.slice x64_p x64_n x64_c,.slice (some (Addr.mk n59 0 none)) 1 1]).run Tryz.prog w61= .ok (.slice r66_p r66_n r66_c) w65∧
        W38 w65∧ixK x40_p x40_n r48 1 fun a67=>
        ∃w68,StoreAt a67 0 [.slice r66_p r66_n r66_c] w65 w68∧
        K (.tuple #[.bool false,.bool false]) w68))∧
      (∀ (n69:Nat) (w70:World),New (.cells #[.int .i64 i_] 3) w37.drew n69 w70→
        W38 w70∧Calls Tryz.prog 119 #[.int .i64 x42] w70 fun e w71=> ∃r72,e= .returned (.int .i64 r72)∧
        W38 w71∧Calls Tryz.prog 119 #[.int .i64 x46] w71 fun e w73=> ∃r74,e= .returned (.int .i64 r74)∧
        W38 w73∧ixK x44_p x44_n r74 1 fun a75=>
        ∃x76_p x76_n x76_c,AtW W38 a75 (.slice x76_p x76_n x76_c)∧
        ∃w77 r78_p r78_n r78_c,(Builtin.append_ #[28,28] 28 #[.slice x76_p x76_n x76_c,.slice (some (Addr.mk n69 0 none)) 1 1]).run Tryz.prog w73= .ok (.slice r78_p r78_n r78_c) w77∧
        W38 w77∧ixK x40_p x40_n r72 1 fun a79=>
        ∃w80,StoreAt a79 0 [.slice r78_p r78_n r78_c] w77 w80∧
        K (.tuple #[.bool false,.bool false]) w80))
      (∃k23,k23<k22∧I21 (IntKind.i64.wrap (k_24+ (1:Int))) w28 k23))
    (ixK x4_p x4_n 0 1 fun a81=>
      ∃x82,w25.cell? a81=some (.int .i64 x82)∧
      Calls Tryz.prog 142 #[.pointer p_,.int .i64 x82] w25 fun e w83=> ∃r84,e= .returned (.int .i8 r84)∧
      cnd (decide (r84< (0:Int)))
      (K (.tuple #[.bool true,.bool true]) w83)
      (ixK x4_p x4_n 0 1 fun a85=>
        ∃x86,w83.cell? a85=some (.int .i64 x86)∧
        Calls Tryz.prog 155 #[.pointer p_,.int .i64 x86,.int .i64 i_] w83 fun e w87=>e= .returned (.tuple #[])∧
        K (.tuple #[.bool true,.bool false]) w87)))
theorem prop_Prop_visit.calls {p_ i_ falsely_ w R} (h:prop_Prop_visit.w p_ i_ falsely_ w fun v w'=>R (.returned v) w'):Calls Tryz.prog 120 #[.pointer p_,.int .i64 i_,.int .i64 falsely_] w R:=
 calls_of mixed Tryz.func120 (by kernel_rfl) rfl (ann:=(.two .leaf (.two .leaf (.cut [] .leaf (.two .leaf (.two (.two .leaf (.one (.loop [(9,3)] (.two .leaf (.two (.one (.two .leaf (.two (.two .leaf (.two .draw .leaf)) .leaf))) .leaf))))) .leaf)))))) (F:=prop_Prop_visit.w p_ i_ falsely_ w) (fun K=>by kernel_rfl) h
def prop_Prop_Value.w (p_:Option Addr) (l_:Int) (w:World) (K:Value→World→Prop):Prop:=
 Calls Tryz.prog 148 #[.pointer p_,.int .i64 l_] w fun e w1=> ∃r2,e= .returned (.bool r2)∧
 cnd (!r2)
 (K (.int .i64 0) w1)
 (Calls Tryz.prog 142 #[.pointer p_,.int .i64 l_] w1 fun e w3=> ∃r4,e= .returned (.int .i8 r4)∧
   K (.int .i64 (IntKind.i64.wrap r4)) w3)
theorem prop_Prop_Value.calls {p_ l_ w R} (h:prop_Prop_Value.w p_ l_ w fun v w'=>R (.returned v) w'):Calls Tryz.prog 122 #[.pointer p_,.int .i64 l_] w R:=
 calls_of mixed Tryz.func122 (by kernel_rfl) rfl (ann:= .leaf) (F:=prop_Prop_Value.w p_ l_ w) (fun K=>by kernel_rfl) h
def prop_Prop_Decide.w (p_:Option Addr) (l_:Int) (w:World) (K:Value→World→Prop):Prop:=
 Calls Tryz.prog 148 #[.pointer p_,.int .i64 l_] w fun e w1=> ∃r2,e= .returned (.bool r2)∧
 cnd (!r2)
 (K (.int .i64 1) w1)
 (Calls Tryz.prog 142 #[.pointer p_,.int .i64 l_] w1 fun e w3=> ∃r4,e= .returned (.int .i8 r4)∧
 cnd (r4 !=(0:Int))
 (K (.int .i64 1) w3)
 (∃W5:World→Prop,W5 w3.drew∧
   ∃a6,p_=some a6∧∃x7_p x7_n x7_c,AtW W5 (a6.add 7) (.slice x7_p x7_n x7_c)∧
   ∃a8,p_=some a8∧∃x9_p x9_n x9_c,AtW W5 (a8.add 6) (.slice x9_p x9_n x9_c)∧
   ∃a10,p_=some a10∧∃x11_p x11_n x11_c,AtW W5 (a10.add 8) (.slice x11_p x11_n x11_c)∧
   ∃a12,p_=some a12∧∃x13,AtW W5 (a12.add 9) (.int .i64 x13)∧
   (∀ (n14:Nat) (w15:World),New (.cells #[.int .i64 (x9_n:Int)] 3) w3.drew n14 w15→
   W5 w15∧(∃w16 r17_p r17_n r17_c,(Builtin.append_ #[28,28] 28 #[.slice x7_p x7_n x7_c,.slice (some (Addr.mk n14 0 none)) 1 1]).run Tryz.prog w15= .ok (.slice r17_p r17_n r17_c) w16∧
   W5 w16∧∀ (n18:Nat) (w19:World),New (.cells #[.int .i64 x13] 3) w16 n18 w19→
   W5 w19∧∃w20 r21_p r21_n r21_c,(Builtin.append_ #[28,28] 28 #[.slice x11_p x11_n x11_c,.slice (some (Addr.mk n18 0 none)) 1 1]).run Tryz.prog w19= .ok (.slice r21_p r21_n r21_c) w20∧
   ∃a22,p_=some a22∧∃w23,StoreAt (a22.add 7) 0 [.slice r17_p r17_n r17_c] w20 w23∧
   ∃a24,p_=some a24∧∃w25,StoreAt (a24.add 8) 0 [.slice r21_p r21_n r21_c] w23 w25∧
   Calls Tryz.prog 155 #[.pointer p_,.int .i64 l_,.int .i64 (-1)] w25 fun e w26=>e= .returned (.tuple #[])∧
   K (.int .i64 0) w26)∧
 (∀ (n27:Nat) (w28:World),New (.cells #[.int .i64 x13] 3) w15 n27 w28→
   W5 w28∧∃w29 r30_p r30_n r30_c,(Builtin.append_ #[28,28] 28 #[.slice x7_p x7_n x7_c,.slice (some (Addr.mk n14 0 none)) 1 1]).run Tryz.prog w28= .ok (.slice r30_p r30_n r30_c) w29∧
   W5 w29∧∃w31 r32_p r32_n r32_c,(Builtin.append_ #[28,28] 28 #[.slice x11_p x11_n x11_c,.slice (some (Addr.mk n27 0 none)) 1 1]).run Tryz.prog w29= .ok (.slice r32_p r32_n r32_c) w31∧
   ∃a33,p_=some a33∧∃w34,StoreAt (a33.add 7) 0 [.slice r30_p r30_n r30_c] w31 w34∧
   ∃a35,p_=some a35∧∃w36,StoreAt (a35.add 8) 0 [.slice r32_p r32_n r32_c] w34 w36∧
   Calls Tryz.prog 155 #[.pointer p_,.int .i64 l_,.int .i64 (-1)] w36 fun e w37=>e= .returned (.tuple #[])∧
   K (.int .i64 0) w37))∧
 (∀ (n38:Nat) (w39:World),New (.cells #[.int .i64 x13] 3) w3.drew n38 w39→
   W5 w39∧∀ (n40:Nat) (w41:World),New (.cells #[.int .i64 (x9_n:Int)] 3) w39 n40 w41→
   W5 w41∧∃w42 r43_p r43_n r43_c,(Builtin.append_ #[28,28] 28 #[.slice x7_p x7_n x7_c,.slice (some (Addr.mk n40 0 none)) 1 1]).run Tryz.prog w41= .ok (.slice r43_p r43_n r43_c) w42∧
   W5 w42∧∃w44 r45_p r45_n r45_c,(Builtin.append_ #[28,28] 28 #[.slice x11_p x11_n x11_c,.slice (some (Addr.mk n38 0 none)) 1 1]).run Tryz.prog w42= .ok (.slice r45_p r45_n r45_c) w44∧
   ∃a46,p_=some a46∧∃w47,StoreAt (a46.add 7) 0 [.slice r43_p r43_n r43_c] w44 w47∧
   ∃a48,p_=some a48∧∃w49,StoreAt (a48.add 8) 0 [.slice r45_p r45_n r45_c] w47 w49∧
   Calls Tryz.prog 155 #[.pointer p_,.int .i64 l_,.int .i64 (-1)] w49 fun e w50=>e= .returned (.tuple #[])∧
   K (.int .i64 0) w50)))
theorem prop_Prop_Decide.calls {p_ l_ w R} (h:prop_Prop_Decide.w p_ l_ w fun v w'=>R (.returned v) w'):Calls Tryz.prog 123 #[.pointer p_,.int .i64 l_] w R:=
 calls_of mixed Tryz.func123 (by kernel_rfl) rfl (ann:=(.two .leaf (.two .leaf (.two .draw .leaf)))) (F:=prop_Prop_Decide.w p_ l_ w) (fun K=>by kernel_rfl) h
def fathomref01_Value.w (m__p:Option Addr) (m__n:Nat) (m__c:Nat) (l_:Int) (w:World) (K:Value→World→Prop):Prop:=
 Calls Tryz.prog 64 #[.int .i64 l_] w fun e w1=> ∃r2,e= .returned (.bool r2)∧
 cnd (!r2)
 (K (.int .i64 0) w1)
 (Calls Tryz.prog 63 #[.int .i64 l_] w1 fun e w3=> ∃r4,e= .returned (.int .i64 r4)∧
 cnd (decide (r4> (m__n:Int)))
 (K (.int .i64 0) w3)
 (Calls Tryz.prog 63 #[.int .i64 l_] w3 fun e w5=> ∃r6,e= .returned (.int .i64 r6)∧
 ixK m__p m__n (IntKind.i64.wrap (r6 - (1:Int))) 1 fun a7=>
 ∃x8,w5.cell? a7=some (.int .i64 x8)∧
 cnd (x8==(0:Int))
 (K (.int .i64 0) w5)
 (Calls Tryz.prog 63 #[.int .i64 l_] w5 fun e w9=> ∃r10,e= .returned (.int .i64 r10)∧
   ixK m__p m__n (IntKind.i64.wrap (r10 - (1:Int))) 1 fun a11=>
   ∃x12,w9.cell? a11=some (.int .i64 x12)∧
   cnd ((decide (x12> (0:Int)))==(decide (l_> (0:Int))))
   (K (.int .i64 1) w9)
   (K (.int .i64 (-1)) w9))))
theorem fathomref01_Value.calls {m__p m__n m__c l_ w R} (h:fathomref01_Value.w m__p m__n m__c l_ w fun v w'=>R (.returned v) w'):Calls Tryz.prog 133 #[.slice m__p m__n m__c,.int .i64 l_] w R:=
 calls_of mixed Tryz.func133 (by kernel_rfl) rfl (ann:= .leaf) (F:=fathomref01_Value.w m__p m__n m__c l_ w) (fun K=>by kernel_rfl) h
def slices_SortFunc_int_int.w (x0__p:Option Addr) (x0__n:Nat) (x0__c:Nat) (cmp_f:FuncId) (cmp_v:Array Value) (w:World) (K:Value→World→Prop):Prop:=
 Calls Tryz.prog 178 #[.int .u64 (IntKind.u64.wrap (x0__n:Int))] w fun e w1=> ∃r2,e= .returned (.int .i64 r2)∧
 Calls Tryz.prog 177 #[.slice x0__p x0__n x0__c,.int .i64 0,.int .i64 (x0__n:Int),.int .i64 r2,.func (.func cmp_f) #[] cmp_v] w1 fun e w3=>e= .returned (.tuple #[])∧
 K (.tuple #[]) w3
theorem slices_SortFunc_int_int.calls {x0__p x0__n x0__c cmp_f cmp_v w R} (h:slices_SortFunc_int_int.w x0__p x0__n x0__c cmp_f cmp_v w fun v w'=>R (.returned v) w'):Calls Tryz.prog 135 #[.slice x0__p x0__n x0__c,.func (.func cmp_f) #[] cmp_v] w R:=
 calls_of mixed Tryz.func135 (by kernel_rfl) rfl (ann:= .leaf) (F:=slices_SortFunc_int_int.w x0__p x0__n x0__c cmp_f cmp_v w) (fun K=>by kernel_rfl) h
def lit_before.w (a_:Int) (b_:Int) (w:World) (K:Value→World→Prop):Prop:=
 Calls Tryz.prog 89 #[.int .i64 a_] w fun e w1=> ∃r2,e= .returned (.int .i64 r2)∧
 Calls Tryz.prog 89 #[.int .i64 b_] w1 fun e w3=> ∃r4,e= .returned (.int .i64 r4)∧
 cnd (r2 !=r4)
 (Calls Tryz.prog 89 #[.int .i64 a_] w3 fun e w5=> ∃r6,e= .returned (.int .i64 r6)∧
   Calls Tryz.prog 89 #[.int .i64 b_] w5 fun e w7=> ∃r8,e= .returned (.int .i64 r8)∧
   K (.int .i64 (IntKind.i64.wrap (r6 - r8))) w7)
 (K (.int .i64 (IntKind.i64.wrap (b_ - a_))) w3)
theorem lit_before.calls {a_ b_ w R} (h:lit_before.w a_ b_ w fun v w'=>R (.returned v) w'):Calls Tryz.prog 136 #[.int .i64 a_,.int .i64 b_] w R:=
 calls_of mixed Tryz.func136 (by kernel_rfl) rfl (ann:= .leaf) (F:=lit_before.w a_ b_ w) (fun K=>by kernel_rfl) h
def slices_Compact_int_int.w (s__p:Option Addr) (s__n:Nat) (s__c:Nat) (w:World) (K:Value→World→Prop):Prop:=
 cnd (decide ((s__n:Int)< (2:Int)))
 (K (.slice s__p s__n s__c) w)
 (∃I1:Int→World→Nat→Prop,(∃k2,I1 1 w k2)∧
   ∀ (k_4:Int) (w5:World) (k2:Nat) (_:Fr),I1 k_4 w5 k2→
   cnd (decide (k_4< (s__n:Int)))
    (ixK s__p s__n k_4 1 fun a6=>
      ∃x7,w5.drew.cell? a6=some (.int .i64 x7)∧
      ixK s__p s__n (IntKind.i64.wrap (k_4 - (1:Int))) 1 fun a8=>
      ∃x9,w5.drew.cell? a8=some (.int .i64 x9)∧
      cnd (x7==x9)
      (slK s__p s__n s__c 1 (some k_4) none none fun s10_p s10_n s10_c=>
        ∃I11:Int→Int→World→Nat→Prop,(∃k12,I11 k_4 1 w5.drew k12)∧
        ∀ (k_14:Int) (k2_15:Int) (w16:World) (k12:Nat) (_:Fr),I11 k_14 k2_15 w16 k12→
        cnd (decide (k2_15< (s10_n:Int)))
         (ixK s10_p s10_n k2_15 1 fun a17=>
           ∃x18,w16.drew.cell? a17=some (.int .i64 x18)∧
           ixK s10_p s10_n (IntKind.i64.wrap (k2_15 - (1:Int))) 1 fun a19=>
           ∃x20,w16.drew.cell? a19=some (.int .i64 x20)∧
           cnd (x18 !=x20)
           (ixK s10_p s10_n k2_15 1 fun a21=>
             ∃x22,w16.drew.cell? a21=some (.int .i64 x22)∧
             ixK s__p s__n k_14 1 fun a23=>
             ∃w24,StoreAt a23 0 [.int .i64 x22] w16.drew w24∧
             ∃k13,k13<k12∧I11 (IntKind.i64.wrap (k_14+ (1:Int))) (IntKind.i64.wrap (k2_15+ (1:Int))) w24 k13)
           (∃k13,k13<k12∧I11 k_14 (IntKind.i64.wrap (k2_15+ (1:Int))) w16.drew k13))
         (slK s__p s__n s__c 1 (some k_14) none none fun s25_p s25_n s25_c=>
           ∃w26,(Builtin.clear_ #[28] 0 #[.slice s25_p s25_n s25_c]).run Tryz.prog w16= .ok (.tuple #[]) w26∧
           slK s__p s__n s__c 1 none (some k_14) none fun s27_p s27_n s27_c=>
           K (.slice s27_p s27_n s27_c) w26))
      (∃k3,k3<k2∧I1 (IntKind.i64.wrap (k_4+ (1:Int))) w5.drew k3))
    (K (.slice s__p s__n s__c) w5))
theorem slices_Compact_int_int.calls {s__p s__n s__c w R} (h:slices_Compact_int_int.w s__p s__n s__c w fun v w'=>R (.returned v) w'):Calls Tryz.prog 137 #[.slice s__p s__n s__c] w R:=
 calls_of mixed Tryz.func137 (by kernel_rfl) rfl (ann:=(.two .leaf (.two .leaf (.two (.two .leaf (.one (.loop [(3,3)] (.two .leaf (.two (.one (.two .leaf (.two (.two .leaf (.two (.two .leaf (.one (.loop [(3,3),(5,3)] .leaf))) .leaf)) .leaf))) .leaf))))) .leaf)))) (F:=slices_Compact_int_int.w s__p s__n s__c w) (fun K=>by kernel_rfl) h
def prop_Prop_Back.w (p_:Option Addr) (level_:Int) (w:World) (K:Value→World→Prop):Prop:=
 cnd p_.isNone
 (K (.tuple #[]) w)
 (∃a1,p_=some a1∧∃x2_p x2_n x2_c,w.cell? (a1.add 7)=some (.slice x2_p x2_n x2_c)∧
 cnd (decide ((imax 0 level_)≥(x2_n:Int)))
 (K (.tuple #[]) w)
 (∃a3,p_=some a3∧∃x4_p x4_n x4_c,w.cell? (a3.add 7)=some (.slice x4_p x4_n x4_c)∧
   ixK x4_p x4_n (imax 0 level_) 1 fun a5=>
   ∃x6,w.cell? a5=some (.int .i64 x6)∧
   ∃a7,p_=some a7∧∃x8_p x8_n x8_c,w.cell? (a7.add 6)=some (.slice x8_p x8_n x8_c)∧
   slK x8_p x8_n x8_c 1 (some x6) none none fun s9_p s9_n s9_c=>
   ∃I10:Int→World→Nat→Prop,(∃k11,I10 0 w k11)∧
   ∀ (v13:Int) (w14:World) (k11:Nat) (_:Fr),I10 v13 w14 k11→
   cnd (decide (v13< (s9_n:Int)))
    (ixK s9_p s9_n v13 1 fun a15=>
      ∃x16,w14.cell? a15=some (.int .i64 x16)∧
      ∃W17:World→Prop,W17 w14.drew∧
      ∃a18,p_=some a18∧∃x19_p x19_n x19_c,AtW W17 (a18.add 3) (.slice x19_p x19_n x19_c)∧
      Calls Tryz.prog 143 #[.int .i64 x16] w14.drew fun e w20=> ∃r21,e= .returned (.int .i64 r21)∧
      W17 w20∧ixK x19_p x19_n r21 1 fun a22=>
      ∃w23,StoreAt a22 0 [.int .i8 0] w20 w23∧
      ∃k12,k12<k11∧I10 (IntKind.i64.wrap (v13+ (1:Int))) w23 k12)
    (∃a24,p_=some a24∧∃x25,w14.drew.cell? (a24.add 9)=some (.int .i64 x25)∧
      ∃a26,p_=some a26∧∃x27_p x27_n x27_c,w14.drew.cell? (a26.add 8)=some (.slice x27_p x27_n x27_c)∧
      ixK x27_p x27_n (imax 0 level_) 1 fun a28=>
      ∃x29,w14.drew.cell? a28=some (.int .i64 x29)∧
      ∃a30,p_=some a30∧∃w31,StoreAt (a30.add 9) 0 [.int .i64 (imin (imin x25 x6) x29)] w14.drew w31∧
      ∃a32,p_=some a32∧∃x33_p x33_n x33_c,w31.drew.cell? (a32.add 6)=some (.slice x33_p x33_n x33_c)∧
      slK x33_p x33_n x33_c 1 none (some x6) none fun s34_p s34_n s34_c=>
      ∃a35,p_=some a35∧∃x36_p x36_n x36_c,w31.drew.cell? (a35.add 7)=some (.slice x36_p x36_n x36_c)∧
      slK x36_p x36_n x36_c 1 none (some (imax 0 level_)) none fun s37_p s37_n s37_c=>
      ∃a38,p_=some a38∧∃x39_p x39_n x39_c,w31.drew.cell? (a38.add 8)=some (.slice x39_p x39_n x39_c)∧
      slK x39_p x39_n x39_c 1 none (some (imax 0 level_)) none fun s40_p s40_n s40_c=>
      ∃a41,p_=some a41∧∃w42,StoreAt (a41.add 6) 0 [.slice s34_p s34_n s34_c] w31.drew w42∧
      ∃a43,p_=some a43∧∃w44,StoreAt (a43.add 7) 0 [.slice s37_p s37_n s37_c] w42 w44∧
      ∃a45,p_=some a45∧∃w46,StoreAt (a45.add 8) 0 [.slice s40_p s40_n s40_c] w44 w46∧
      K (.tuple #[]) w46)))
theorem prop_Prop_Back.callsD {p_ level_ w} {u:FrameMode} {R:Ending→World→Prop} (h:prop_Prop_Back.w p_ level_ w fun v w'=>R (.returned v) w'):CallsD Tryz.prog 138 #[.pointer p_,.int .i64 level_] u w fun e u' w'=>u'=u∧R e w':=
 callsD_of mixed Tryz.func138 (by kernel_rfl) rfl (ann:=(.two .leaf (.two .leaf (.two .leaf (.two (.two .leaf (.one (.loop [(34,3)] (.two .leaf (.two .leaf (.two (.one (.two .leaf .draw)) .leaf)))))) .leaf))))) (F:=prop_Prop_Back.w p_ level_ w) (fun K=>by kernel_rfl) h
def rup_base_code.w (b_:Option Addr) (c__p:Option Addr) (c__n:Nat) (c__c:Nat) (w:World) (K:Value→World→Prop):Prop:=
 ∃I1:Option Addr→Nat→Nat→Int→World→Nat→Prop,(∃k2,I1 none 0 0 0 w k2)∧
 ∀ (out_4_p:Option Addr) (out_4_n:Nat) (out_4_c:Nat) (v5:Int) (w6:World) (k2:Nat) (_:Fr),I1 out_4_p out_4_n out_4_c v5 w6 k2→
 cnd (decide (v5< (c__n:Int)))
  (ixK c__p c__n v5 1 fun a7=>
    ∃x8,w6.cell? a7=some (.int .i64 x8)∧
    ∃a9,b_=some a9∧∃x10:Option Nat,w6.cell? (a9.add 1)=some (.map x10)∧
    ∃w11 r12,(Instr.lookup 133 (.map x10) (.int .i64 (imax x8 (IntKind.i64.wrap (0 - x8)))) false).run Tryz.prog w6= .ok (.int .i64 r12) w11∧
    cnd (decide (x8< (0:Int)))
    (∀ (n13:Nat) (w14:World),New (.cells #[.int .i64 (IntKind.i64.wrap (0 - r12))] 3) w11 n13 w14→
      ∃w15 r16_p r16_n r16_c,(Builtin.append_ #[28,28] 28 #[.slice out_4_p out_4_n out_4_c,.slice (some (Addr.mk n13 0 none)) 1 1]).run Tryz.prog w14= .ok (.slice r16_p r16_n r16_c) w15∧
      ∃k3,k3<k2∧I1 r16_p r16_n r16_c (IntKind.i64.wrap (v5+ (1:Int))) w15 k3)
    (∀ (n17:Nat) (w18:World),New (.cells #[.int .i64 r12] 3) w11 n17 w18→
      ∃w19 r20_p r20_n r20_c,(Builtin.append_ #[28,28] 28 #[.slice out_4_p out_4_n out_4_c,.slice (some (Addr.mk n17 0 none)) 1 1]).run Tryz.prog w18= .ok (.slice r20_p r20_n r20_c) w19∧
      ∃k3,k3<k2∧I1 r20_p r20_n r20_c (IntKind.i64.wrap (v5+ (1:Int))) w19 k3))
  (K (.slice out_4_p out_4_n out_4_c) w6)
theorem rup_base_code.calls {b_ c__p c__n c__c w R} (h:rup_base_code.w b_ c__p c__n c__c w fun v w'=>R (.returned v) w'):Calls Tryz.prog 139 #[.pointer b_,.slice c__p c__n c__c] w R:=
 calls_of mixed Tryz.func139 (by kernel_rfl) rfl (ann:=(.two .leaf (.two .leaf (.two (.two .leaf (.one (.loop [(5,28),(11,3)] .leaf))) .leaf)))) (F:=rup_base_code.w b_ c__p c__n c__c w) (fun K=>by kernel_rfl) h
def prop_Prop_there.w (p_:Option Addr) (i_:Int) (w:World) (K:Value→World→Prop):Prop:=
 cnd (!p_.isNone)
 (cnd (decide (i_≥(0:Int)))
 (∃a1,p_=some a1∧∃x2_p x2_n x2_c,w.cell? (a1.add 1)=some (.slice x2_p x2_n x2_c)∧
 cnd (decide (i_< (x2_n:Int)))
 (∃a3,p_=some a3∧∃x4_p x4_n x4_c,w.cell? (a3.add 1)=some (.slice x4_p x4_n x4_c)∧
 ixK x4_p x4_n i_ 3 fun a5=>
 ∃x6,w.cell? (a5.add 2)=some (.bool x6)∧
 K (.bool (!x6)) w)
 (K (.bool false) w))
 (K (.bool false) w))
 (K (.bool false) w)
theorem prop_Prop_there.calls {p_ i_ w R} (h:prop_Prop_there.w p_ i_ w fun v w'=>R (.returned v) w'):Calls Tryz.prog 141 #[.pointer p_,.int .i64 i_] w R:=
 calls_of mixed Tryz.func141 (by kernel_rfl) rfl (ann:= .leaf) (F:=prop_Prop_there.w p_ i_ w) (fun K=>by kernel_rfl) h
def prop_Prop_val.w (p_:Option Addr) (l_:Int) (w:World) (K:Value→World→Prop):Prop:=
 cnd (decide (l_< (0:Int)))
 (∃a1,p_=some a1∧∃x2_p x2_n x2_c,w.cell? (a1.add 3)=some (.slice x2_p x2_n x2_c)∧
   ixK x2_p x2_n (IntKind.i64.wrap (0 - l_)) 1 fun a3=>
   ∃x4,w.cell? a3=some (.int .i8 x4)∧
   K (.int .i8 (IntKind.i8.wrap (0 - x4))) w)
 (∃a5,p_=some a5∧∃x6_p x6_n x6_c,w.cell? (a5.add 3)=some (.slice x6_p x6_n x6_c)∧
   ixK x6_p x6_n l_ 1 fun a7=>
   ∃x8,w.cell? a7=some (.int .i8 x8)∧
   K (.int .i8 x8) w)
theorem prop_Prop_val.calls {p_ l_ w R} (h:prop_Prop_val.w p_ l_ w fun v w'=>R (.returned v) w'):Calls Tryz.prog 142 #[.pointer p_,.int .i64 l_] w R:=
 calls_of mixed Tryz.func142 (by kernel_rfl) rfl (ann:= .leaf) (F:=prop_Prop_val.w p_ l_ w) (fun K=>by kernel_rfl) h
def prop_amount.w (l_:Int) (w:World) (K:Value→World→Prop):Prop:=
 K (.int .i64 (imax l_ (IntKind.i64.wrap (0 - l_)))) w
theorem prop_amount.calls {l_ w R} (h:prop_amount.w l_ w fun v w'=>R (.returned v) w'):Calls Tryz.prog 143 #[.int .i64 l_] w R:=
 calls_of mixed Tryz.func143 (by kernel_rfl) rfl (ann:= .leaf) (F:=prop_amount.w l_ w) (fun K=>by kernel_rfl) h
def prop_Prop_unwatch.w (p_:Option Addr) (i_:Int) (w:World) (K:Value→World→Prop):Prop:=
 ∀ (n1:Nat) (w2:World),New (.cells #[.int .i64 i_] 3) w n1 w2→
 ∃a3,p_=some a3∧∃x4_p x4_n x4_c,w2.drew.cell? (a3.add 1)=some (.slice x4_p x4_n x4_c)∧
 ∃x5,w2.drew.cell? (Addr.mk n1 0 none)=some (.int .i64 x5)∧
 ixK x4_p x4_n x5 3 fun a6=>
 ∃x7_p x7_n x7_c,w2.drew.cell? (a6.add 1)=some (.slice x7_p x7_n x7_c)∧
 slK x7_p x7_n x7_c 1 none (some (imin 2 (x7_n:Int))) none fun s8_p s8_n s8_c=>
 ∃I9:Int→World→Nat→Prop,(∃k10,I9 0 w2.drew k10)∧
 ∀ (v12:Int) (w13:World) (k10:Nat) (_:Fr),I9 v12 w13 k10→
 cnd (decide (v12< (s8_n:Int)))
  (ixK s8_p s8_n v12 1 fun a14=>
    ∃x15,w13.cell? a14=some (.int .i64 x15)∧
    ∃W16:World→Prop,W16 w13.drew∧
    ∃a17,p_=some a17∧∃x18_p x18_n x18_c,AtW W16 (a17.add 2) (.slice x18_p x18_n x18_c)∧
    Calls Tryz.prog 119 #[.int .i64 x15] w13.drew fun e w19=> ∃r20,e= .returned (.int .i64 r20)∧
    W16 w19∧ixK x18_p x18_n r20 1 fun a21=>
    ∃x22_p x22_n x22_c,AtW W16 a21 (.slice x22_p x22_n x22_c)∧
    ∃W23:World→Prop,W23 w19.drew∧
    ∃a24,p_=some a24∧∃x25_p x25_n x25_c,AtW W23 (a24.add 2) (.slice x25_p x25_n x25_c)∧
    Calls Tryz.prog 119 #[.int .i64 x15] w19.drew fun e w26=> ∃r27,e= .returned (.int .i64 r27)∧
    W23 w26∧Calls Tryz.prog 145 #[.slice x22_p x22_n x22_c,.func (.func 179) #[] #[.pointer (some (Addr.mk n1 0 none))]] w26 fun e w28=> ∃r29_p r29_n r29_c,e= .returned (.slice r29_p r29_n r29_c)∧
    W23 w28∧ixK x25_p x25_n r27 1 fun a30=>
    ∃w31,StoreAt a30 0 [.slice r29_p r29_n r29_c] w28 w31∧
    ∃k11,k11<k10∧I9 (IntKind.i64.wrap (v12+ (1:Int))) w31 k11)
  (K (.tuple #[]) w13)
theorem prop_Prop_unwatch.calls {p_ i_ w R} (h:prop_Prop_unwatch.w p_ i_ w fun v w'=>R (.returned v) w'):Calls Tryz.prog 144 #[.pointer p_,.int .i64 i_] w R:=
 calls_of mixed Tryz.func144 (by kernel_rfl) rfl (ann:=(.two .leaf (.two .leaf (.two .leaf (.one (.loop [(22,3)] (.two .leaf (.two .leaf (.two (.one (.two .leaf (.two .draw .draw))) .leaf))))))))) (F:=prop_Prop_unwatch.w p_ i_ w) (fun K=>by kernel_rfl) h
def slices_DeleteFunc_int_int.w (s__p:Option Addr) (s__n:Nat) (s__c:Nat) (del_f:FuncId) (del_v:Array Value) (w:World) (K:Value→World→Prop):Prop:=
 Calls Tryz.prog 112 #[.slice s__p s__n s__c,.func (.func del_f) #[] del_v] w fun e w1=> ∃r2,e= .returned (.int .i64 r2)∧
 cnd (r2==(-1))
 (K (.slice s__p s__n s__c) w1)
 (∃I3:Int→Int→World→Nat→Prop,(∃k4,I3 r2 (IntKind.i64.wrap (r2+ (1:Int))) w1 k4)∧
   ∀ (i_6:Int) (j_7:Int) (w8:World) (k4:Nat) (_:Fr),I3 i_6 j_7 w8 k4→
   cnd (decide (j_7< (s__n:Int)))
    (ixK s__p s__n j_7 1 fun a9=>
      ∃x10,w8.cell? a9=some (.int .i64 x10)∧
      cnd (entB Tryz.prog del_f) (Calls Tryz.prog del_f (#[]++ #[.int .i64 x10]++del_v) w8 fun e w11=> ∃r12,e= .returned (.bool r12)∧
      cnd (!r12)
      (ixK s__p s__n i_6 1 fun a13=>
        ∃w14,StoreAt a13 0 [.int .i64 x10] w11 w14∧
        ∃k5,k5<k4∧I3 (IntKind.i64.wrap (i_6+ (1:Int))) (IntKind.i64.wrap (j_7+ (1:Int))) w14 k5)
      (∃k5,k5<k4∧I3 i_6 (IntKind.i64.wrap (j_7+ (1:Int))) w11 k5)) False)
    (slK s__p s__n s__c 1 (some i_6) none none fun s15_p s15_n s15_c=>
      ∃w16,(Builtin.clear_ #[28] 0 #[.slice s15_p s15_n s15_c]).run Tryz.prog w8= .ok (.tuple #[]) w16∧
      slK s__p s__n s__c 1 none (some i_6) none fun s17_p s17_n s17_c=>
      K (.slice s17_p s17_n s17_c) w16))
theorem slices_DeleteFunc_int_int.calls {s__p s__n s__c del_f del_v w R} (h:slices_DeleteFunc_int_int.w s__p s__n s__c del_f del_v w fun v w'=>R (.returned v) w'):Calls Tryz.prog 145 #[.slice s__p s__n s__c,.func (.func del_f) #[] del_v] w R:=
 calls_of mixed Tryz.func145 (by kernel_rfl) rfl (ann:=(.two .leaf (.two .leaf (.two .leaf (.two (.two .leaf (.one (.loop [(5,3),(6,3)] .leaf))) .leaf))))) (F:=slices_DeleteFunc_int_int.w s__p s__n s__c del_f del_v w) (fun K=>by kernel_rfl) h
def prop_Prop_Drop_1.w (k_:Int) (c0_:Addr) (w:World) (K:Value→World→Prop):Prop:=
 ∃x1,w.cell? c0_=some (.int .i64 x1)∧
 K (.bool (k_==x1)) w
theorem prop_Prop_Drop_1.calls {k_ c0_ w R} (h:prop_Prop_Drop_1.w k_ c0_ w fun v w'=>R (.returned v) w'):Calls Tryz.prog 146 #[.int .i64 k_,.pointer (some c0_)] w R:=
 calls_of mixed Tryz.func146 (by kernel_rfl) rfl (ann:= .leaf) (F:=prop_Prop_Drop_1.w k_ c0_ w) (fun K=>by kernel_rfl) h
def prop_Prop_Add_1.w (l_:Int) (c0_:Addr) (w:World) (K:Value→World→Prop):Prop:=
 ∃x1,w.cell? c0_=some (.pointer x1)∧
 Calls Tryz.prog 148 #[.pointer x1,.int .i64 l_] w fun e w2=> ∃r3,e= .returned (.bool r3)∧
 K (.bool (!r3)) w2
theorem prop_Prop_Add_1.calls {l_ c0_ w R} (h:prop_Prop_Add_1.w l_ c0_ w fun v w'=>R (.returned v) w'):Calls Tryz.prog 147 #[.int .i64 l_,.pointer (some c0_)] w R:=
 calls_of mixed Tryz.func147 (by kernel_rfl) rfl (ann:= .leaf) (F:=prop_Prop_Add_1.w l_ c0_ w) (fun K=>by kernel_rfl) h
def prop_Prop_is.w (p_:Option Addr) (l_:Int) (w:World) (K:Value→World→Prop):Prop:=
 ∃W1:World→Prop,W1 w.drew∧
 cnd (!p_.isNone)
 (∃a2,p_=some a2∧∃x3_p x3_n x3_c,AtW W1 (a2.add 3) (.slice x3_p x3_n x3_c)∧
 cnd (!x3_p.isNone)
 (∀ (n4:Nat) (w5:World),New (.cells #[.int .i64 l_] 3) w.drew n4 w5→
 W1 w5∧Calls Tryz.prog 62 #[.slice (some (Addr.mk n4 0 none)) 1 1] w5 fun e w6=> ∃r7,e= .returned (.int .i64 r7)∧
 W1 w6∧cnd (r7==(0:Int))
 (Calls Tryz.prog 143 #[.int .i64 l_] w6 fun e w8=> ∃r9,e= .returned (.int .i64 r9)∧
 W1 w8∧∃a10,p_=some a10∧∃x11,AtW W1 (a10.add 0) (.int .i64 x11)∧
 K (.bool (decide (r9≤x11))) w8)
 (K (.bool false) w6))
 (K (.bool false) w.drew))
 (K (.bool false) w.drew)
theorem prop_Prop_is.calls {p_ l_ w R} (h:prop_Prop_is.w p_ l_ w fun v w'=>R (.returned v) w'):Calls Tryz.prog 148 #[.pointer p_,.int .i64 l_] w R:=
 calls_of mixed Tryz.func148 (by kernel_rfl) rfl (ann:=(.two .leaf (.two .draw .leaf))) (F:=prop_Prop_is.w p_ l_ w) (fun K=>by kernel_rfl) h
def prop_Prop_settle.w (p_:Option Addr) (i_:Int) (w:World) (K:Value→World→Prop):Prop:=
 ∃a1,p_=some a1∧∃x2_p x2_n x2_c,w.cell? (a1.add 1)=some (.slice x2_p x2_n x2_c)∧
 ixK x2_p x2_n i_ 3 fun a3=>
 ∃x4_p x4_n x4_c,w.cell? (a3.add 1)=some (.slice x4_p x4_n x4_c)∧
 ∃I5:Int→World→Nat→Prop,(∃k6,I5 0 w k6)∧
 ∀ (k_8:Int) (w9:World) (k6:Nat) (_:Fr),I5 k_8 w9 k6→
 cnd (decide (k_8< (imin 2 (x4_n:Int))))
  (∃I10:Int→Int→World→Nat→Prop,(∃k11,I10 k_8 (IntKind.i64.wrap (k_8+ (1:Int))) w9 k11)∧
    ∀ (best_13:Int) (j_14:Int) (w15:World) (k11:Nat) (_:Fr),I10 best_13 j_14 w15 k11→
    cnd (decide (j_14< (x4_n:Int)))
     (∃W16:World→Prop,W16 w15.drew∧
       ixK x4_p x4_n j_14 1 fun a17=>
       ∃x18,AtW W16 a17 (.int .i64 x18)∧
       Calls Tryz.prog 180 #[.pointer p_,.int .i64 x18] w15.drew fun e w19=> ∃r20,e= .returned (.int .i64 r20)∧
       W16 w19∧ixK x4_p x4_n best_13 1 fun a21=>
       ∃x22,AtW W16 a21 (.int .i64 x22)∧
       Calls Tryz.prog 180 #[.pointer p_,.int .i64 x22] w19 fun e w23=> ∃r24,e= .returned (.int .i64 r24)∧
       cnd (decide (r20>r24))
       (∃k12,k12<k11∧I10 j_14 (IntKind.i64.wrap (j_14+ (1:Int))) w23 k12)
       (∃k12,k12<k11∧I10 best_13 (IntKind.i64.wrap (j_14+ (1:Int))) w23 k12))
     (ixK x4_p x4_n best_13 1 fun a25=>
       ∃x26,w15.drew.cell? a25=some (.int .i64 x26)∧
       ixK x4_p x4_n k_8 1 fun a27=>
       ∃x28,w15.drew.cell? a27=some (.int .i64 x28)∧
       ixK x4_p x4_n k_8 1 fun a29=>
       ∃w30,StoreAt a29 0 [.int .i64 x26] w15.drew w30∧
       ixK x4_p x4_n best_13 1 fun a31=>
       ∃w32,StoreAt a31 0 [.int .i64 x28] w30 w32∧
       ∃k7,k7<k6∧I5 (IntKind.i64.wrap (k_8+ (1:Int))) w32 k7))
  (slK x4_p x4_n x4_c 1 none (some (imin 2 (x4_n:Int))) none fun s33_p s33_n s33_c=>
    ∃I34:Int→World→Nat→Prop,(∃k35,I34 0 w9 k35)∧
    ∀ (v37:Int) (w38:World) (k35:Nat) (_:Fr),I34 v37 w38 k35→
    cnd (decide (v37< (s33_n:Int)))
     (ixK s33_p s33_n v37 1 fun a39=>
       ∃x40,w38.cell? a39=some (.int .i64 x40)∧
       ∃W41:World→Prop,W41 w38.drew∧
       ∃a42,p_=some a42∧∃x43_p x43_n x43_c,AtW W41 (a42.add 2) (.slice x43_p x43_n x43_c)∧
       ∃a44,p_=some a44∧∃x45_p x45_n x45_c,AtW W41 (a44.add 2) (.slice x45_p x45_n x45_c)∧
       (Calls Tryz.prog 119 #[.int .i64 x40] w38.drew fun e w46=> ∃r47,e= .returned (.int .i64 r47)∧
       W41 w46∧(Calls Tryz.prog 119 #[.int .i64 x40] w46 fun e w48=> ∃r49,e= .returned (.int .i64 r49)∧
       W41 w48∧ixK x45_p x45_n r49 1 fun a50=>
       ∃x51_p x51_n x51_c,AtW W41 a50 (.slice x51_p x51_n x51_c)∧
       ∀ (n52:Nat) (w53:World),New (.cells #[.int .i64 i_] 3) w48 n52 w53→
       W41 w53∧∃w54 r55_p r55_n r55_c,(Builtin.append_ #[28,28] 28 #[.slice x51_p x51_n x51_c,.slice (some (Addr.mk n52 0 none)) 1 1]).run Tryz.prog w53= .ok (.slice r55_p r55_n r55_c) w54∧
       W41 w54∧ixK x43_p x43_n r47 1 fun a56=>
       ∃w57,StoreAt a56 0 [.slice r55_p r55_n r55_c] w54 w57∧
       ∃k36,k36<k35∧I34 (IntKind.i64.wrap (v37+ (1:Int))) w57 k36)∧
     (∀ (n58:Nat) (w59:World),New (.cells #[.int .i64 i_] 3) w46 n58 w59→
       W41 w59∧Calls Tryz.prog 119 #[.int .i64 x40] w59 fun e w60=> ∃r61,e= .returned (.int .i64 r61)∧
       W41 w60∧ixK x45_p x45_n r61 1 fun a62=>
       ∃x63_p x63_n x63_c,AtW W41 a62 (.slice x63_p x63_n x63_c)∧
       ∃w64 r65_p r65_n r65_c,(Builtin.append_ #[28,28] 28 #[.slice x63_p x63_n x63_c,.slice (some (Addr.mk n58 0 none)) 1 1]).run Tryz.prog w60= .ok (.slice r65_p r65_n r65_c) w64∧
       W41 w64∧ixK x43_p x43_n r47 1 fun a66=>
       ∃w67,StoreAt a66 0 [.slice r65_p r65_n r65_c] w64 w67∧
       ∃k36,k36<k35∧I34 (IntKind.i64.wrap (v37+ (1:Int))) w67 k36))∧
     (∀ (n68:Nat) (w69:World),New (.cells #[.int .i64 i_] 3) w38.drew n68 w69→
       W41 w69∧Calls Tryz.prog 119 #[.int .i64 x40] w69 fun e w70=> ∃r71,e= .returned (.int .i64 r71)∧
       W41 w70∧Calls Tryz.prog 119 #[.int .i64 x40] w70 fun e w72=> ∃r73,e= .returned (.int .i64 r73)∧
       W41 w72∧ixK x45_p x45_n r73 1 fun a74=>
       ∃x75_p x75_n x75_c,AtW W41 a74 (.slice x75_p x75_n x75_c)∧
       ∃w76 r77_p r77_n r77_c,(Builtin.append_ #[28,28] 28 #[.slice x75_p x75_n x75_c,.slice (some (Addr.mk n68 0 none)) 1 1]).run Tryz.prog w72= .ok (.slice r77_p r77_n r77_c) w76∧
       W41 w76∧ixK x43_p x43_n r71 1 fun a78=>
       ∃w79,StoreAt a78 0 [.slice r77_p r77_n r77_c] w76 w79∧
       ∃k36,k36<k35∧I34 (IntKind.i64.wrap (v37+ (1:Int))) w79 k36))
     (cnd (decide ((x4_n:Int)< (2:Int)))
       (∃a80,p_=some a80∧∃x81_p x81_n x81_c,w38.cell? (a80.add 10)=some (.slice x81_p x81_n x81_c)∧
       ∀ (n82:Nat) (w83:World),New (.cells #[.int .i64 i_] 3) w38 n82 w83→
       ∃w84 r85_p r85_n r85_c,(Builtin.append_ #[28,28] 28 #[.slice x81_p x81_n x81_c,.slice (some (Addr.mk n82 0 none)) 1 1]).run Tryz.prog w83= .ok (.slice r85_p r85_n r85_c) w84∧
       ∃a86,p_=some a86∧∃w87,StoreAt (a86.add 10) 0 [.slice r85_p r85_n r85_c] w84 w87∧
       K (.tuple #[]) w87)
       (ixK x4_p x4_n 1 1 fun a88=>
       ∃x89,w38.cell? a88=some (.int .i64 x89)∧
       Calls Tryz.prog 142 #[.pointer p_,.int .i64 x89] w38 fun e w90=> ∃r91,e= .returned (.int .i8 r91)∧
       cnd (decide (r91< (0:Int)))
       (∃a92,p_=some a92∧∃x93_p x93_n x93_c,w90.cell? (a92.add 10)=some (.slice x93_p x93_n x93_c)∧
         ∀ (n94:Nat) (w95:World),New (.cells #[.int .i64 i_] 3) w90 n94 w95→
         ∃w96 r97_p r97_n r97_c,(Builtin.append_ #[28,28] 28 #[.slice x93_p x93_n x93_c,.slice (some (Addr.mk n94 0 none)) 1 1]).run Tryz.prog w95= .ok (.slice r97_p r97_n r97_c) w96∧
         ∃a98,p_=some a98∧∃w99,StoreAt (a98.add 10) 0 [.slice r97_p r97_n r97_c] w96 w99∧
         K (.tuple #[]) w99)
       (K (.tuple #[]) w90))))
theorem prop_Prop_settle.calls {p_ i_ w R} (h:prop_Prop_settle.w p_ i_ w fun v w'=>R (.returned v) w'):Calls Tryz.prog 149 #[.pointer p_,.int .i64 i_] w R:=
 calls_of mixed Tryz.func149 (by kernel_rfl) rfl (ann:=(.two .leaf (.two (.two .leaf (.one (.loop [(5,3)] (.two .leaf (.two (.one (.two .leaf (.two (.two .leaf (.one (.loop [(6,3),(7,3)] (.two .leaf (.two (.one (.two .draw .leaf)) .leaf))))) .leaf))) .leaf))))) (.two (.two .leaf (.one (.loop [(68,3)] (.two .leaf (.two .leaf (.two (.one (.two .leaf .draw)) .leaf)))))) .leaf)))) (F:=prop_Prop_settle.w p_ i_ w) (fun K=>by kernel_rfl) h
def slices_Delete_int_int.w (s__p:Option Addr) (s__n:Nat) (s__c:Nat) (i_:Int) (j_:Int) (w:World) (K:Value→World→Prop):Prop:=
 slK s__p s__n s__c 1 (some i_) (some j_) (some (s__n:Int)) fun s1_p s1_n s1_c=>
 cnd (i_==j_)
 (K (.slice s__p s__n s__c) w)
 (slK s__p s__n s__c 1 none (some i_) none fun s2_p s2_n s2_c=>
   slK s__p s__n s__c 1 (some j_) none none fun s3_p s3_n s3_c=>
   ∃w4 r5_p r5_n r5_c,(Builtin.append_ #[28,28] 28 #[.slice s2_p s2_n s2_c,.slice s3_p s3_n s3_c]).run Tryz.prog w.drew= .ok (.slice r5_p r5_n r5_c) w4∧
   slK r5_p r5_n r5_c 1 (some (r5_n:Int)) (some (s__n:Int)) none fun s6_p s6_n s6_c=>
   ∃w7,(Builtin.clear_ #[28] 0 #[.slice s6_p s6_n s6_c]).run Tryz.prog w4= .ok (.tuple #[]) w7∧
   K (.slice r5_p r5_n r5_c) w7)
theorem slices_Delete_int_int.calls {s__p s__n s__c i_ j_ w R} (h:slices_Delete_int_int.w s__p s__n s__c i_ j_ w fun v w'=>R (.returned v) w'):Calls Tryz.prog 150 #[.slice s__p s__n s__c,.int .i64 i_,.int .i64 j_] w R:=
 calls_of mixed Tryz.func150 (by kernel_rfl) rfl (ann:= .leaf) (F:=slices_Delete_int_int.w s__p s__n s__c i_ j_ w) (fun K=>by kernel_rfl) h
def slices_Contains_int_int.w (s__p:Option Addr) (s__n:Nat) (s__c:Nat) (v_:Int) (w:World) (K:Value→World→Prop):Prop:=
 Calls Tryz.prog 181 #[.slice s__p s__n s__c,.int .i64 v_] w fun e w1=> ∃r2,e= .returned (.int .i64 r2)∧
 K (.bool (decide (r2≥(0:Int)))) w1
theorem slices_Contains_int_int.calls {s__p s__n s__c v_ w R} (h:slices_Contains_int_int.w s__p s__n s__c v_ w fun v w'=>R (.returned v) w'):Calls Tryz.prog 151 #[.slice s__p s__n s__c,.int .i64 v_] w R:=
 calls_of mixed Tryz.func151 (by kernel_rfl) rfl (ann:= .leaf) (F:=slices_Contains_int_int.w s__p s__n s__c v_ w) (fun K=>by kernel_rfl) h
def prop_Prop_loosely_1.w (x0_:Int) (c0_:Addr) (w:World) (K:Value→World→Prop):Prop:=
 ∃x1,w.cell? c0_=some (.pointer x1)∧
 Calls Tryz.prog 142 #[.pointer x1,.int .i64 x0_] w fun e w2=> ∃r3,e= .returned (.int .i8 r3)∧
 K (.bool (decide (r3< (0:Int)))) w2
theorem prop_Prop_loosely_1.calls {x0_ c0_ w R} (h:prop_Prop_loosely_1.w x0_ c0_ w fun v w'=>R (.returned v) w'):Calls Tryz.prog 153 #[.int .i64 x0_,.pointer (some c0_)] w R:=
 calls_of mixed Tryz.func153 (by kernel_rfl) rfl (ann:= .leaf) (F:=prop_Prop_loosely_1.w x0_ c0_ w) (fun K=>by kernel_rfl) h
def prop_Prop_again.w (p_:Option Addr) (i_:Int) (w:World) (K:Value→World→Prop):Prop:=
 ∃a1,p_=some a1∧∃x2_p x2_n x2_c,w.cell? (a1.add 10)=some (.slice x2_p x2_n x2_c)∧
 Calls Tryz.prog 149 #[.pointer p_,.int .i64 i_] w fun e w3=>e= .returned (.tuple #[])∧
 ∃a4,p_=some a4∧∃w5,StoreAt (a4.add 10) 0 [.slice x2_p x2_n x2_c] w3 w5∧
 K (.tuple #[]) w5
theorem prop_Prop_again.calls {p_ i_ w R} (h:prop_Prop_again.w p_ i_ w fun v w'=>R (.returned v) w'):Calls Tryz.prog 154 #[.pointer p_,.int .i64 i_] w R:=
 calls_of mixed Tryz.func154 (by kernel_rfl) rfl (ann:= .leaf) (F:=prop_Prop_again.w p_ i_ w) (fun K=>by kernel_rfl) h
def prop_Prop_put.w (p_:Option Addr) (l_:Int) (reason_:Int) (w:World) (K:Value→World→Prop):Prop:=
 ∃W1:World→Prop,W1 w.drew∧
 ∃a2,p_=some a2∧∃x3_p x3_n x3_c,AtW W1 (a2.add 3) (.slice x3_p x3_n x3_c)∧
 Calls Tryz.prog 143 #[.int .i64 l_] w.drew fun e w4=> ∃r5,e= .returned (.int .i64 r5)∧
 W1 w4∧ixK x3_p x3_n r5 1 fun a6=>
 ∃w7,StoreAt a6 0 [.int .i8 1] w4 w7∧
 cnd (decide (l_< (0:Int)))
 (∃a8,p_=some a8∧∃x9_p x9_n x9_c,w7.cell? (a8.add 3)=some (.slice x9_p x9_n x9_c)∧
   ixK x9_p x9_n (IntKind.i64.wrap (0 - l_)) 1 fun a10=>
   ∃w11,StoreAt a10 0 [.int .i8 (-1)] w7 w11∧
   ∃W12:World→Prop,W12 w11.drew∧
   ∃a13,p_=some a13∧∃x14_p x14_n x14_c,AtW W12 (a13.add 4) (.slice x14_p x14_n x14_c)∧
   Calls Tryz.prog 143 #[.int .i64 l_] w11.drew fun e w15=> ∃r16,e= .returned (.int .i64 r16)∧
   W12 w15∧∃a17,p_=some a17∧∃x18_p x18_n x18_c,AtW W12 (a17.add 5) (.slice x18_p x18_n x18_c)∧
   Calls Tryz.prog 143 #[.int .i64 l_] w15 fun e w19=> ∃r20,e= .returned (.int .i64 r20)∧
   W12 w19∧∃a21,p_=some a21∧∃x22_p x22_n x22_c,AtW W12 (a21.add 7) (.slice x22_p x22_n x22_c)∧
   ixK x14_p x14_n r16 1 fun a23=>
   ∃w24,StoreAt a23 0 [.int .i64 (x22_n:Int)] w19 w24∧
   ixK x18_p x18_n r20 1 fun a25=>
   ∃w26,StoreAt a25 0 [.int .i64 reason_] w24 w26∧
   ∃a27,p_=some a27∧∃x28_p x28_n x28_c,w26.cell? (a27.add 6)=some (.slice x28_p x28_n x28_c)∧
   ∀ (n29:Nat) (w30:World),New (.cells #[.int .i64 l_] 3) w26 n29 w30→
   ∃w31 r32_p r32_n r32_c,(Builtin.append_ #[28,28] 28 #[.slice x28_p x28_n x28_c,.slice (some (Addr.mk n29 0 none)) 1 1]).run Tryz.prog w30= .ok (.slice r32_p r32_n r32_c) w31∧
   ∃a33,p_=some a33∧∃w34,StoreAt (a33.add 6) 0 [.slice r32_p r32_n r32_c] w31 w34∧
   K (.tuple #[]) w34)
 (∃W35:World→Prop,W35 w7.drew∧
   ∃a36,p_=some a36∧∃x37_p x37_n x37_c,AtW W35 (a36.add 4) (.slice x37_p x37_n x37_c)∧
   Calls Tryz.prog 143 #[.int .i64 l_] w7.drew fun e w38=> ∃r39,e= .returned (.int .i64 r39)∧
   W35 w38∧∃a40,p_=some a40∧∃x41_p x41_n x41_c,AtW W35 (a40.add 5) (.slice x41_p x41_n x41_c)∧
   Calls Tryz.prog 143 #[.int .i64 l_] w38 fun e w42=> ∃r43,e= .returned (.int .i64 r43)∧
   W35 w42∧∃a44,p_=some a44∧∃x45_p x45_n x45_c,AtW W35 (a44.add 7) (.slice x45_p x45_n x45_c)∧
   ixK x37_p x37_n r39 1 fun a46=>
   ∃w47,StoreAt a46 0 [.int .i64 (x45_n:Int)] w42 w47∧
   ixK x41_p x41_n r43 1 fun a48=>
   ∃w49,StoreAt a48 0 [.int .i64 reason_] w47 w49∧
   ∃a50,p_=some a50∧∃x51_p x51_n x51_c,w49.cell? (a50.add 6)=some (.slice x51_p x51_n x51_c)∧
   ∀ (n52:Nat) (w53:World),New (.cells #[.int .i64 l_] 3) w49 n52 w53→
   ∃w54 r55_p r55_n r55_c,(Builtin.append_ #[28,28] 28 #[.slice x51_p x51_n x51_c,.slice (some (Addr.mk n52 0 none)) 1 1]).run Tryz.prog w53= .ok (.slice r55_p r55_n r55_c) w54∧
   ∃a56,p_=some a56∧∃w57,StoreAt (a56.add 6) 0 [.slice r55_p r55_n r55_c] w54 w57∧
   K (.tuple #[]) w57)
theorem prop_Prop_put.calls {p_ l_ reason_ w R} (h:prop_Prop_put.w p_ l_ reason_ w fun v w'=>R (.returned v) w'):Calls Tryz.prog 155 #[.pointer p_,.int .i64 l_,.int .i64 reason_] w R:=
 calls_of mixed Tryz.func155 (by kernel_rfl) rfl (ann:=(.two .draw (.two .leaf (.two .draw .leaf)))) (F:=prop_Prop_put.w p_ l_ reason_ w) (fun K=>by kernel_rfl) h
def slices_pdqsortCmpFunc_int.w (data__p:Option Addr) (data__n:Nat) (data__c:Nat) (a_:Int) (b_:Int) (limit_:Int) (cmp_f:FuncId) (cmp_v:Array Value) (w:World) (K:Value→World→Prop):Prop:=
 ∃I1:Int→Int→Int→Bool→Bool→World→Nat→Prop,(∃k2,I1 a_ b_ limit_ true true w k2)∧
 ∀ (a_4:Int) (b_5:Int) (limit_6:Int) (wasBalanced_7:Bool) (wasPartitioned_8:Bool) (w9:World) (k2:Nat) (_:Fr),I1 a_4 b_5 limit_6 wasBalanced_7 wasPartitioned_8 w9 k2→
 cnd (decide ((IntKind.i64.wrap (b_5 - a_4))≤(12:Int)))
  (Calls Tryz.prog 204 #[.slice data__p data__n data__c,.int .i64 a_4,.int .i64 b_5,.func (.func cmp_f) #[] cmp_v] w9 fun e w10=>e= .returned (.tuple #[])∧
    K (.tuple #[]) w10)
  (cnd (limit_6==(0:Int))
    (Calls Tryz.prog 205 #[.slice data__p data__n data__c,.int .i64 a_4,.int .i64 b_5,.func (.func cmp_f) #[] cmp_v] w9 fun e w11=>e= .returned (.tuple #[])∧
      K (.tuple #[]) w11)
    (∃J12:Int→World→Prop,(cnd (!wasBalanced_7)
      (Calls Tryz.prog 206 #[.slice data__p data__n data__c,.int .i64 a_4,.int .i64 b_5,.func (.func cmp_f) #[] cmp_v] w9 fun e w13=>e= .returned (.tuple #[])∧
        J12 (IntKind.i64.wrap (limit_6 - (1:Int))) w13)
      (J12 limit_6 w9))∧
      ∀ (limit_14:Int) (w15:World) (_:Fr),J12 limit_14 w15→
      Calls Tryz.prog 207 #[.slice data__p data__n data__c,.int .i64 a_4,.int .i64 b_5,.func (.func cmp_f) #[] cmp_v] w15 fun e w16=> ∃r17 r18,e= .returned (.tuple #[.int .i64 r17,.int .i64 r18])∧
      ∃J19:Int→Int→World→Prop,(cnd (r18==(2:Int))
      (Calls Tryz.prog 208 #[.slice data__p data__n data__c,.int .i64 a_4,.int .i64 b_5,.func (.func cmp_f) #[] cmp_v] w16 fun e w20=>e= .returned (.tuple #[])∧
        J19 (IntKind.i64.wrap ((IntKind.i64.wrap (b_5 - (1:Int))) - (IntKind.i64.wrap (r17 - a_4)))) 1 w20)
      (J19 r17 r18 w16))∧
      ∀ (pivot_21:Int) (hint_22:Int) (w23:World) (_:Fr),J19 pivot_21 hint_22 w23→
      ∃J24:World→Prop,(cnd wasBalanced_7
      (cnd wasPartitioned_8
      (cnd (hint_22==(1:Int))
      (Calls Tryz.prog 209 #[.slice data__p data__n data__c,.int .i64 a_4,.int .i64 b_5,.func (.func cmp_f) #[] cmp_v] w23 fun e w25=> ∃r26,e= .returned (.bool r26)∧
        cnd r26
        (K (.tuple #[]) w25)
        (J24 w25))
      (J24 w23))
      (J24 w23))
      (J24 w23))∧
      ∀ (w27:World) (_:Fr),J24 w27→
      cnd (decide (a_4> (0:Int)))
      (ixK data__p data__n (IntKind.i64.wrap (a_4 - (1:Int))) 1 fun a28=>
      ∃x29,w27.drew.cell? a28=some (.int .i64 x29)∧
      ixK data__p data__n pivot_21 1 fun a30=>
      ∃x31,w27.drew.cell? a30=some (.int .i64 x31)∧
      cnd (entB Tryz.prog cmp_f) (Calls Tryz.prog cmp_f (#[]++ #[.int .i64 x29,.int .i64 x31]++cmp_v) w27.drew fun e w32=> ∃r33,e= .returned (.int .i64 r33)∧
      cnd (!(decide (r33< (0:Int))))
      (Calls Tryz.prog 210 #[.slice data__p data__n data__c,.int .i64 a_4,.int .i64 b_5,.int .i64 pivot_21,.func (.func cmp_f) #[] cmp_v] w32 fun e w34=> ∃r35,e= .returned (.int .i64 r35)∧
        ∃k3,k3<k2∧I1 r35 b_5 limit_14 wasBalanced_7 wasPartitioned_8 w34 k3)
      (Calls Tryz.prog 211 #[.slice data__p data__n data__c,.int .i64 a_4,.int .i64 b_5,.int .i64 pivot_21,.func (.func cmp_f) #[] cmp_v] w32 fun e w36=> ∃r37 r38,e= .returned (.tuple #[.int .i64 r37,.bool r38])∧
        (8:Int)≠0∧cnd (decide ((IntKind.i64.wrap (r37 - a_4))< (IntKind.i64.wrap (b_5 - r37))))
        (Calls Tryz.prog 177 #[.slice data__p data__n data__c,.int .i64 a_4,.int .i64 r37,.int .i64 limit_14,.func (.func cmp_f) #[] cmp_v] w36 fun e w39=>e= .returned (.tuple #[])∧
          ∃k3,k3<k2∧I1 (IntKind.i64.wrap (r37+ (1:Int))) b_5 limit_14 (decide ((IntKind.i64.wrap (r37 - a_4))≥(IntKind.i64.wrap ((IntKind.i64.wrap (b_5 - a_4)).tdiv (8:Int))))) r38 w39 k3)
        (Calls Tryz.prog 177 #[.slice data__p data__n data__c,.int .i64 (IntKind.i64.wrap (r37+ (1:Int))),.int .i64 b_5,.int .i64 limit_14,.func (.func cmp_f) #[] cmp_v] w36 fun e w40=>e= .returned (.tuple #[])∧
          ∃k3,k3<k2∧I1 a_4 r37 limit_14 (decide ((IntKind.i64.wrap (b_5 - r37))≥(IntKind.i64.wrap ((IntKind.i64.wrap (b_5 - a_4)).tdiv (8:Int))))) r38 w40 k3))) False)
      (Calls Tryz.prog 211 #[.slice data__p data__n data__c,.int .i64 a_4,.int .i64 b_5,.int .i64 pivot_21,.func (.func cmp_f) #[] cmp_v] w27.drew fun e w41=> ∃r42 r43,e= .returned (.tuple #[.int .i64 r42,.bool r43])∧
      (8:Int)≠0∧cnd (decide ((IntKind.i64.wrap (r42 - a_4))< (IntKind.i64.wrap (b_5 - r42))))
      (Calls Tryz.prog 177 #[.slice data__p data__n data__c,.int .i64 a_4,.int .i64 r42,.int .i64 limit_14,.func (.func cmp_f) #[] cmp_v] w41 fun e w44=>e= .returned (.tuple #[])∧
        ∃k3,k3<k2∧I1 (IntKind.i64.wrap (r42+ (1:Int))) b_5 limit_14 (decide ((IntKind.i64.wrap (r42 - a_4))≥(IntKind.i64.wrap ((IntKind.i64.wrap (b_5 - a_4)).tdiv (8:Int))))) r43 w44 k3)
      (Calls Tryz.prog 177 #[.slice data__p data__n data__c,.int .i64 (IntKind.i64.wrap (r42+ (1:Int))),.int .i64 b_5,.int .i64 limit_14,.func (.func cmp_f) #[] cmp_v] w41 fun e w45=>e= .returned (.tuple #[])∧
        ∃k3,k3<k2∧I1 a_4 r42 limit_14 (decide ((IntKind.i64.wrap (b_5 - r42))≥(IntKind.i64.wrap ((IntKind.i64.wrap (b_5 - a_4)).tdiv (8:Int))))) r43 w45 k3))))
theorem slices_pdqsortCmpFunc_int.calls {data__p data__n data__c a_ b_ limit_ cmp_f cmp_v w R} (h:slices_pdqsortCmpFunc_int.w data__p data__n data__c a_ b_ limit_ cmp_f cmp_v w fun v w'=>R (.returned v) w'):Calls Tryz.prog 177 #[.slice data__p data__n data__c,.int .i64 a_,.int .i64 b_,.int .i64 limit_,.func (.func cmp_f) #[] cmp_v] w R:=
 calls_of mixed Tryz.func177 (by kernel_rfl) rfl (ann:=(.two .leaf (.two .leaf (.one (.loop [(1,3),(2,3),(3,3),(10,4),(11,4)] (.one (.two .leaf (.two .leaf (.two .leaf (.cut [(3,3)] .leaf (.two .leaf (.cut [(13,3),(14,215)] .leaf (.cut [] .leaf .leaf))))))))))))) (F:=slices_pdqsortCmpFunc_int.w data__p data__n data__c a_ b_ limit_ cmp_f cmp_v w) (fun K=>by kernel_rfl) h
def bits_Len.w (x0_:Int) (w:World) (K:Value→World→Prop):Prop:=
 Calls Tryz.prog 213 #[.int .u64 x0_] w fun e w1=> ∃r2,e= .returned (.int .i64 r2)∧
 K (.int .i64 r2) w1
theorem bits_Len.calls {x0_ w R} (h:bits_Len.w x0_ w fun v w'=>R (.returned v) w'):Calls Tryz.prog 178 #[.int .u64 x0_] w R:=
 calls_of mixed Tryz.func178 (by kernel_rfl) rfl (ann:= .leaf) (F:=bits_Len.w x0_ w) (fun K=>by kernel_rfl) h
def prop_Prop_unwatch_1.w (k_:Int) (c0_:Addr) (w:World) (K:Value→World→Prop):Prop:=
 ∃x1,w.cell? c0_=some (.int .i64 x1)∧
 K (.bool (k_==x1)) w
theorem prop_Prop_unwatch_1.calls {k_ c0_ w R} (h:prop_Prop_unwatch_1.w k_ c0_ w fun v w'=>R (.returned v) w'):Calls Tryz.prog 179 #[.int .i64 k_,.pointer (some c0_)] w R:=
 calls_of mixed Tryz.func179 (by kernel_rfl) rfl (ann:= .leaf) (F:=prop_Prop_unwatch_1.w k_ c0_ w) (fun K=>by kernel_rfl) h
def prop_Prop_rank.w (p_:Option Addr) (l_:Int) (w:World) (K:Value→World→Prop):Prop:=
 Calls Tryz.prog 142 #[.pointer p_,.int .i64 l_] w fun e w1=> ∃r2,e= .returned (.int .i8 r2)∧
 cnd (decide (r2≥(0:Int)))
 (K (.int .i64 1048577) w1)
 (∃W3:World→Prop,W3 w1.drew∧
   ∃a4,p_=some a4∧∃x5_p x5_n x5_c,AtW W3 (a4.add 4) (.slice x5_p x5_n x5_c)∧
   Calls Tryz.prog 143 #[.int .i64 l_] w1.drew fun e w6=> ∃r7,e= .returned (.int .i64 r7)∧
   W3 w6∧ixK x5_p x5_n r7 1 fun a8=>
   ∃x9,AtW W3 a8 (.int .i64 x9)∧
   K (.int .i64 x9) w6)
theorem prop_Prop_rank.calls {p_ l_ w R} (h:prop_Prop_rank.w p_ l_ w fun v w'=>R (.returned v) w'):Calls Tryz.prog 180 #[.pointer p_,.int .i64 l_] w R:=
 calls_of mixed Tryz.func180 (by kernel_rfl) rfl (ann:=(.two .leaf (.two .leaf (.two .draw .leaf)))) (F:=prop_Prop_rank.w p_ l_ w) (fun K=>by kernel_rfl) h
def slices_Index_int_int.w (s__p:Option Addr) (s__n:Nat) (s__c:Nat) (v_:Int) (w:World) (K:Value→World→Prop):Prop:=
 ∃I1:Int→World→Nat→Prop,(∃k2,I1 0 w k2)∧
 ∀ (v4:Int) (w5:World) (k2:Nat) (_:Fr),I1 v4 w5 k2→
 cnd (decide (v4< (s__n:Int)))
  (ixK s__p s__n v4 1 fun a6=>
    ∃x7,w5.cell? a6=some (.int .i64 x7)∧
    cnd (v_==x7)
    (K (.int .i64 v4) w5)
    (∃k3,k3<k2∧I1 (IntKind.i64.wrap (v4+ (1:Int))) w5 k3))
  (K (.int .i64 (-1)) w5)
theorem slices_Index_int_int.calls {s__p s__n s__c v_ w R} (h:slices_Index_int_int.w s__p s__n s__c v_ w fun v w'=>R (.returned v) w'):Calls Tryz.prog 181 #[.slice s__p s__n s__c,.int .i64 v_] w R:=
 calls_of mixed Tryz.func181 (by kernel_rfl) rfl (ann:=(.two .leaf (.two (.two .leaf (.one (.loop [(8,3)] .leaf))) .leaf))) (F:=slices_Index_int_int.w s__p s__n s__c v_ w) (fun K=>by kernel_rfl) h
def slices_insertionSortCmpFunc_int.w (data__p:Option Addr) (data__n:Nat) (data__c:Nat) (a_:Int) (b_:Int) (cmp_f:FuncId) (cmp_v:Array Value) (w:World) (K:Value→World→Prop):Prop:=
 ∃I1:Int→World→Nat→Prop,(∃k2,I1 (IntKind.i64.wrap (a_+ (1:Int))) w k2)∧
 ∀ (i_4:Int) (w5:World) (k2:Nat) (_:Fr),I1 i_4 w5 k2→
 cnd (decide (i_4<b_))
  (∃I6:Int→World→Nat→Prop,(∃k7,I6 i_4 w5 k7)∧
    ∀ (j_9:Int) (w10:World) (k7:Nat) (_:Fr),I6 j_9 w10 k7→
    cnd (decide (j_9>a_))
     (ixK data__p data__n j_9 1 fun a11=>
     ∃x12,w10.drew.cell? a11=some (.int .i64 x12)∧
     ixK data__p data__n (IntKind.i64.wrap (j_9 - (1:Int))) 1 fun a13=>
     ∃x14,w10.drew.cell? a13=some (.int .i64 x14)∧
     cnd (entB Tryz.prog cmp_f) (Calls Tryz.prog cmp_f (#[]++ #[.int .i64 x12,.int .i64 x14]++cmp_v) w10.drew fun e w15=> ∃r16,e= .returned (.int .i64 r16)∧
     cnd (decide (r16< (0:Int)))
     (ixK data__p data__n (IntKind.i64.wrap (j_9 - (1:Int))) 1 fun a17=>
       ∃x18,w15.drew.cell? a17=some (.int .i64 x18)∧
       ixK data__p data__n j_9 1 fun a19=>
       ∃x20,w15.drew.cell? a19=some (.int .i64 x20)∧
       ixK data__p data__n j_9 1 fun a21=>
       ∃w22,StoreAt a21 0 [.int .i64 x18] w15.drew w22∧
       ixK data__p data__n (IntKind.i64.wrap (j_9 - (1:Int))) 1 fun a23=>
       ∃w24,StoreAt a23 0 [.int .i64 x20] w22 w24∧
       ∃k8,k8<k7∧I6 (IntKind.i64.wrap (j_9 - (1:Int))) w24 k8)
     (∃k3,k3<k2∧I1 (IntKind.i64.wrap (i_4+ (1:Int))) w15 k3)) False)
     (∃k3,k3<k2∧I1 (IntKind.i64.wrap (i_4+ (1:Int))) w10.drew k3))
  (K (.tuple #[]) w5)
theorem slices_insertionSortCmpFunc_int.calls {data__p data__n data__c a_ b_ cmp_f cmp_v w R} (h:slices_insertionSortCmpFunc_int.w data__p data__n data__c a_ b_ cmp_f cmp_v w fun v w'=>R (.returned v) w'):Calls Tryz.prog 204 #[.slice data__p data__n data__c,.int .i64 a_,.int .i64 b_,.func (.func cmp_f) #[] cmp_v] w R:=
 calls_of mixed Tryz.func204 (by kernel_rfl) rfl (ann:=(.two .leaf (.one (.loop [(8,3)] (.two .leaf (.two (.one (.two .leaf (.one (.loop [(9,3)] .leaf)))) .leaf)))))) (F:=slices_insertionSortCmpFunc_int.w data__p data__n data__c a_ b_ cmp_f cmp_v w) (fun K=>by kernel_rfl) h
def slices_heapSortCmpFunc_int.w (data__p:Option Addr) (data__n:Nat) (data__c:Nat) (a_:Int) (b_:Int) (cmp_f:FuncId) (cmp_v:Array Value) (w:World) (K:Value→World→Prop):Prop:=
 (2:Int)≠0∧∃I1:Int→World→Nat→Prop,(∃k2,I1 (IntKind.i64.wrap ((IntKind.i64.wrap ((IntKind.i64.wrap (b_ - a_)) - (1:Int))).tdiv (2:Int))) w k2)∧
 ∀ (i_4:Int) (w5:World) (k2:Nat) (_:Fr),I1 i_4 w5 k2→
 cnd (decide (i_4≥(0:Int)))
  (Calls Tryz.prog 218 #[.slice data__p data__n data__c,.int .i64 i_4,.int .i64 (IntKind.i64.wrap (b_ - a_)),.int .i64 a_,.func (.func cmp_f) #[] cmp_v] w5 fun e w6=>e= .returned (.tuple #[])∧
    ∃k3,k3<k2∧I1 (IntKind.i64.wrap (i_4 - (1:Int))) w6 k3)
  (∃I7:Int→World→Nat→Prop,(∃k8,I7 (IntKind.i64.wrap ((IntKind.i64.wrap (b_ - a_)) - (1:Int))) w5 k8)∧
    ∀ (i_10:Int) (w11:World) (k8:Nat) (_:Fr),I7 i_10 w11 k8→
    cnd (decide (i_10≥(0:Int)))
     (ixK data__p data__n (IntKind.i64.wrap (a_+i_10)) 1 fun a12=>
       ∃x13,w11.drew.cell? a12=some (.int .i64 x13)∧
       ixK data__p data__n a_ 1 fun a14=>
       ∃x15,w11.drew.cell? a14=some (.int .i64 x15)∧
       ixK data__p data__n a_ 1 fun a16=>
       ∃w17,StoreAt a16 0 [.int .i64 x13] w11.drew w17∧
       ixK data__p data__n (IntKind.i64.wrap (a_+i_10)) 1 fun a18=>
       ∃w19,StoreAt a18 0 [.int .i64 x15] w17 w19∧
       Calls Tryz.prog 218 #[.slice data__p data__n data__c,.int .i64 0,.int .i64 i_10,.int .i64 a_,.func (.func cmp_f) #[] cmp_v] w19 fun e w20=>e= .returned (.tuple #[])∧
       ∃k9,k9<k8∧I7 (IntKind.i64.wrap (i_10 - (1:Int))) w20 k9)
     (K (.tuple #[]) w11))
theorem slices_heapSortCmpFunc_int.calls {data__p data__n data__c a_ b_ cmp_f cmp_v w R} (h:slices_heapSortCmpFunc_int.w data__p data__n data__c a_ b_ cmp_f cmp_v w fun v w'=>R (.returned v) w'):Calls Tryz.prog 205 #[.slice data__p data__n data__c,.int .i64 a_,.int .i64 b_,.func (.func cmp_f) #[] cmp_v] w R:=
 calls_of mixed Tryz.func205 (by kernel_rfl) rfl (ann:=(.two .leaf (.two .leaf (.two .leaf (.two (.two .leaf (.one (.loop [(11,3)] .leaf))) (.two .leaf (.one (.loop [(12,3)] .leaf)))))))) (F:=slices_heapSortCmpFunc_int.w data__p data__n data__c a_ b_ cmp_f cmp_v w) (fun K=>by kernel_rfl) h
def slices_breakPatternsCmpFunc_int.w (data__p:Option Addr) (data__n:Nat) (data__c:Nat) (a_:Int) (b_:Int) (cmp_f:FuncId) (cmp_v:Array Value) (w:World) (K:Value→World→Prop):Prop:=
 cnd (decide ((IntKind.i64.wrap (b_ - a_))≥(8:Int)))
 (∀ (n1:Nat) (w2:World),New (.cells #[.int .u64 0] 226) w n1 w2→
   ∃w3,StoreAt (Addr.mk n1 0 none) 0 [.int .u64 (IntKind.u64.wrap (IntKind.i64.wrap (b_ - a_)))] w2 w3∧
   Calls Tryz.prog 219 #[.int .i64 (IntKind.i64.wrap (b_ - a_))] w3 fun e w4=> ∃r5,e= .returned (.int .u64 r5)∧
   (4:Int)≠0∧∃I6:Int→World→Nat→Prop,(∃k7,I6 (IntKind.i64.wrap ((IntKind.i64.wrap (a_+ (IntKind.i64.wrap ((IntKind.i64.wrap ((IntKind.i64.wrap (b_ - a_)).tdiv (4:Int)))* (2:Int))))) - (1:Int))) w4 k7)∧
   ∀ (idx_9:Int) (w10:World) (k7:Nat) (_:Fr),I6 idx_9 w10 k7→
   (4:Int)≠0∧cnd (decide (idx_9≤(IntKind.i64.wrap ((IntKind.i64.wrap (a_+ (IntKind.i64.wrap ((IntKind.i64.wrap ((IntKind.i64.wrap (b_ - a_)).tdiv (4:Int)))* (2:Int)))))+ (1:Int)))))
     (Calls Tryz.prog 220 #[.pointer (some (Addr.mk n1 0 none))] w10 fun e w11=> ∃r12,e= .returned (.int .u64 r12)∧
       cnd (decide ((IntKind.i64.wrap (IntKind.u64.wrap ((BitVec.ofInt (IntKind.bits .u64) r12 &&& BitVec.ofInt (IntKind.bits .u64) (IntKind.u64.wrap (r5 - (1:Int)))).toNat)))≥(IntKind.i64.wrap (b_ - a_))))
       (ixK data__p data__n (IntKind.i64.wrap (a_+ (IntKind.i64.wrap ((IntKind.i64.wrap (IntKind.u64.wrap ((BitVec.ofInt (IntKind.bits .u64) r12 &&& BitVec.ofInt (IntKind.bits .u64) (IntKind.u64.wrap (r5 - (1:Int)))).toNat))) - (IntKind.i64.wrap (b_ - a_)))))) 1 fun a13=>
         ∃x14,w11.drew.cell? a13=some (.int .i64 x14)∧
         ixK data__p data__n idx_9 1 fun a15=>
         ∃x16,w11.drew.cell? a15=some (.int .i64 x16)∧
         ixK data__p data__n idx_9 1 fun a17=>
         ∃w18,StoreAt a17 0 [.int .i64 x14] w11.drew w18∧
         ixK data__p data__n (IntKind.i64.wrap (a_+ (IntKind.i64.wrap ((IntKind.i64.wrap (IntKind.u64.wrap ((BitVec.ofInt (IntKind.bits .u64) r12 &&& BitVec.ofInt (IntKind.bits .u64) (IntKind.u64.wrap (r5 - (1:Int)))).toNat))) - (IntKind.i64.wrap (b_ - a_)))))) 1 fun a19=>
         ∃w20,StoreAt a19 0 [.int .i64 x16] w18 w20∧
         ∃k8,k8<k7∧I6 (IntKind.i64.wrap (idx_9+ (1:Int))) w20 k8)
       (ixK data__p data__n (IntKind.i64.wrap (a_+ (IntKind.i64.wrap (IntKind.u64.wrap ((BitVec.ofInt (IntKind.bits .u64) r12 &&& BitVec.ofInt (IntKind.bits .u64) (IntKind.u64.wrap (r5 - (1:Int)))).toNat))))) 1 fun a21=>
         ∃x22,w11.drew.cell? a21=some (.int .i64 x22)∧
         ixK data__p data__n idx_9 1 fun a23=>
         ∃x24,w11.drew.cell? a23=some (.int .i64 x24)∧
         ixK data__p data__n idx_9 1 fun a25=>
         ∃w26,StoreAt a25 0 [.int .i64 x22] w11.drew w26∧
         ixK data__p data__n (IntKind.i64.wrap (a_+ (IntKind.i64.wrap (IntKind.u64.wrap ((BitVec.ofInt (IntKind.bits .u64) r12 &&& BitVec.ofInt (IntKind.bits .u64) (IntKind.u64.wrap (r5 - (1:Int)))).toNat))))) 1 fun a27=>
         ∃w28,StoreAt a27 0 [.int .i64 x24] w26 w28∧
         ∃k8,k8<k7∧I6 (IntKind.i64.wrap (idx_9+ (1:Int))) w28 k8))
     (K (.tuple #[]) w10))
 (K (.tuple #[]) w)
theorem slices_breakPatternsCmpFunc_int.calls {data__p data__n data__c a_ b_ cmp_f cmp_v w R} (h:slices_breakPatternsCmpFunc_int.w data__p data__n data__c a_ b_ cmp_f cmp_v w fun v w'=>R (.returned v) w'):Calls Tryz.prog 206 #[.slice data__p data__n data__c,.int .i64 a_,.int .i64 b_,.func (.func cmp_f) #[] cmp_v] w R:=
 calls_of mixed Tryz.func206 (by kernel_rfl) rfl (ann:=(.two .leaf (.two .leaf (.two (.two .leaf (.two .leaf (.two .leaf (.one (.loop [(11,3)] .leaf))))) .leaf)))) (F:=slices_breakPatternsCmpFunc_int.w data__p data__n data__c a_ b_ cmp_f cmp_v w) (fun K=>by kernel_rfl) h
def slices_choosePivotCmpFunc_int.w (data__p:Option Addr) (data__n:Nat) (data__c:Nat) (a_:Int) (b_:Int) (cmp_f:FuncId) (cmp_v:Array Value) (w:World) (K:Value→World→Prop):Prop:=
 ∀ (n1:Nat) (w2:World),New (.cells #[.int .i64 0] 3) w n1 w2→
 (4:Int)≠0∧(4:Int)≠0∧(4:Int)≠0∧cnd (decide ((IntKind.i64.wrap (b_ - a_))≥(8:Int)))
 (cnd (decide ((IntKind.i64.wrap (b_ - a_))≥(50:Int)))
   (Calls Tryz.prog 221 #[.slice data__p data__n data__c,.int .i64 (IntKind.i64.wrap (a_+ (IntKind.i64.wrap ((IntKind.i64.wrap ((IntKind.i64.wrap (b_ - a_)).tdiv (4:Int)))* (1:Int))))),.pointer (some (Addr.mk n1 0 none)),.func (.func cmp_f) #[] cmp_v] w2 fun e w3=> ∃r4,e= .returned (.int .i64 r4)∧
     Calls Tryz.prog 221 #[.slice data__p data__n data__c,.int .i64 (IntKind.i64.wrap (a_+ (IntKind.i64.wrap ((IntKind.i64.wrap ((IntKind.i64.wrap (b_ - a_)).tdiv (4:Int)))* (2:Int))))),.pointer (some (Addr.mk n1 0 none)),.func (.func cmp_f) #[] cmp_v] w3 fun e w5=> ∃r6,e= .returned (.int .i64 r6)∧
     Calls Tryz.prog 221 #[.slice data__p data__n data__c,.int .i64 (IntKind.i64.wrap (a_+ (IntKind.i64.wrap ((IntKind.i64.wrap ((IntKind.i64.wrap (b_ - a_)).tdiv (4:Int)))* (3:Int))))),.pointer (some (Addr.mk n1 0 none)),.func (.func cmp_f) #[] cmp_v] w5 fun e w7=> ∃r8,e= .returned (.int .i64 r8)∧
     Calls Tryz.prog 222 #[.slice data__p data__n data__c,.int .i64 r4,.int .i64 r6,.int .i64 r8,.pointer (some (Addr.mk n1 0 none)),.func (.func cmp_f) #[] cmp_v] w7 fun e w9=> ∃r10,e= .returned (.int .i64 r10)∧
     ∃x11,w9.cell? (Addr.mk n1 0 none)=some (.int .i64 x11)∧
     cnd (x11==(0:Int))
     (K (.tuple #[.int .i64 r10,.int .i64 1]) w9)
     (cnd (x11==(12:Int))
       (K (.tuple #[.int .i64 r10,.int .i64 2]) w9)
       (K (.tuple #[.int .i64 r10,.int .i64 0]) w9)))
   (Calls Tryz.prog 222 #[.slice data__p data__n data__c,.int .i64 (IntKind.i64.wrap (a_+ (IntKind.i64.wrap ((IntKind.i64.wrap ((IntKind.i64.wrap (b_ - a_)).tdiv (4:Int)))* (1:Int))))),.int .i64 (IntKind.i64.wrap (a_+ (IntKind.i64.wrap ((IntKind.i64.wrap ((IntKind.i64.wrap (b_ - a_)).tdiv (4:Int)))* (2:Int))))),.int .i64 (IntKind.i64.wrap (a_+ (IntKind.i64.wrap ((IntKind.i64.wrap ((IntKind.i64.wrap (b_ - a_)).tdiv (4:Int)))* (3:Int))))),.pointer (some (Addr.mk n1 0 none)),.func (.func cmp_f) #[] cmp_v] w2 fun e w12=> ∃r13,e= .returned (.int .i64 r13)∧
     ∃x14,w12.cell? (Addr.mk n1 0 none)=some (.int .i64 x14)∧
     cnd (x14==(0:Int))
     (K (.tuple #[.int .i64 r13,.int .i64 1]) w12)
     (cnd (x14==(12:Int))
       (K (.tuple #[.int .i64 r13,.int .i64 2]) w12)
       (K (.tuple #[.int .i64 r13,.int .i64 0]) w12))))
 (∃x15,w2.cell? (Addr.mk n1 0 none)=some (.int .i64 x15)∧
   cnd (x15==(0:Int))
   (K (.tuple #[.int .i64 (IntKind.i64.wrap (a_+ (IntKind.i64.wrap ((IntKind.i64.wrap ((IntKind.i64.wrap (b_ - a_)).tdiv (4:Int)))* (2:Int))))),.int .i64 1]) w2)
   (cnd (x15==(12:Int))
     (K (.tuple #[.int .i64 (IntKind.i64.wrap (a_+ (IntKind.i64.wrap ((IntKind.i64.wrap ((IntKind.i64.wrap (b_ - a_)).tdiv (4:Int)))* (2:Int))))),.int .i64 2]) w2)
     (K (.tuple #[.int .i64 (IntKind.i64.wrap (a_+ (IntKind.i64.wrap ((IntKind.i64.wrap ((IntKind.i64.wrap (b_ - a_)).tdiv (4:Int)))* (2:Int))))),.int .i64 0]) w2)))
theorem slices_choosePivotCmpFunc_int.calls {data__p data__n data__c a_ b_ cmp_f cmp_v w R} (h:slices_choosePivotCmpFunc_int.w data__p data__n data__c a_ b_ cmp_f cmp_v w fun v w'=>R (.returned v) w'):Calls Tryz.prog 207 #[.slice data__p data__n data__c,.int .i64 a_,.int .i64 b_,.func (.func cmp_f) #[] cmp_v] w R:=
 calls_of mixed Tryz.func207 (by kernel_rfl) rfl (ann:= .leaf) (F:=slices_choosePivotCmpFunc_int.w data__p data__n data__c a_ b_ cmp_f cmp_v w) (fun K=>by kernel_rfl) h
def slices_reverseRangeCmpFunc_int.w (data__p:Option Addr) (data__n:Nat) (data__c:Nat) (a_:Int) (b_:Int) (cmp_f:FuncId) (cmp_v:Array Value) (w:World) (K:Value→World→Prop):Prop:=
 ∃I1:Int→Int→World→Nat→Prop,(∃k2,I1 a_ (IntKind.i64.wrap (b_ - (1:Int))) w k2)∧
 ∀ (i_4:Int) (j_5:Int) (w6:World) (k2:Nat) (_:Fr),I1 i_4 j_5 w6 k2→
 cnd (decide (i_4<j_5))
  (ixK data__p data__n j_5 1 fun a7=>
    ∃x8,w6.drew.cell? a7=some (.int .i64 x8)∧
    ixK data__p data__n i_4 1 fun a9=>
    ∃x10,w6.drew.cell? a9=some (.int .i64 x10)∧
    ixK data__p data__n i_4 1 fun a11=>
    ∃w12,StoreAt a11 0 [.int .i64 x8] w6.drew w12∧
    ixK data__p data__n j_5 1 fun a13=>
    ∃w14,StoreAt a13 0 [.int .i64 x10] w12 w14∧
    ∃k3,k3<k2∧I1 (IntKind.i64.wrap (i_4+ (1:Int))) (IntKind.i64.wrap (j_5 - (1:Int))) w14 k3)
  (K (.tuple #[]) w6)
theorem slices_reverseRangeCmpFunc_int.calls {data__p data__n data__c a_ b_ cmp_f cmp_v w R} (h:slices_reverseRangeCmpFunc_int.w data__p data__n data__c a_ b_ cmp_f cmp_v w fun v w'=>R (.returned v) w'):Calls Tryz.prog 208 #[.slice data__p data__n data__c,.int .i64 a_,.int .i64 b_,.func (.func cmp_f) #[] cmp_v] w R:=
 calls_of mixed Tryz.func208 (by kernel_rfl) rfl (ann:=(.two .leaf (.two .leaf (.one (.loop [(8,3),(9,3)] .leaf))))) (F:=slices_reverseRangeCmpFunc_int.w data__p data__n data__c a_ b_ cmp_f cmp_v w) (fun K=>by kernel_rfl) h
def slices_partialInsertionSortCmpFunc_int.w (data__p:Option Addr) (data__n:Nat) (data__c:Nat) (a_:Int) (b_:Int) (cmp_f:FuncId) (cmp_v:Array Value) (w:World) (K:Value→World→Prop):Prop:=
 ∃I1:Int→Int→World→Nat→Prop,(∃k2,I1 (IntKind.i64.wrap (a_+ (1:Int))) 0 w k2)∧
 ∀ (i_4:Int) (j_5:Int) (w6:World) (k2:Nat) (_:Fr),I1 i_4 j_5 w6 k2→
 cnd (decide (j_5< (5:Int)))
  (∃J7:Int→World→Prop,(∃I8:Int→World→Nat→Prop,(∃k9,I8 i_4 w6 k9)∧
    ∀ (i_11:Int) (w12:World) (k9:Nat) (_:Fr),I8 i_11 w12 k9→
    cnd (decide (i_11<b_))
     (ixK data__p data__n i_11 1 fun a13=>
     ∃x14,w12.drew.cell? a13=some (.int .i64 x14)∧
     ixK data__p data__n (IntKind.i64.wrap (i_11 - (1:Int))) 1 fun a15=>
     ∃x16,w12.drew.cell? a15=some (.int .i64 x16)∧
     cnd (entB Tryz.prog cmp_f) (Calls Tryz.prog cmp_f (#[]++ #[.int .i64 x14,.int .i64 x16]++cmp_v) w12.drew fun e w17=> ∃r18,e= .returned (.int .i64 r18)∧
     cnd (!(decide (r18< (0:Int))))
     (∃k10,k10<k9∧I8 (IntKind.i64.wrap (i_11+ (1:Int))) w17 k10)
     (J7 i_11 w17)) False)
     (J7 i_11 w12.drew))∧
    ∀ (i_19:Int) (w20:World) (_:Fr),J7 i_19 w20→
    cnd (i_19==b_)
    (K (.bool true) w20)
    (cnd (decide ((IntKind.i64.wrap (b_ - a_))< (50:Int)))
      (K (.bool false) w20)
      (ixK data__p data__n (IntKind.i64.wrap (i_19 - (1:Int))) 1 fun a21=>
        ∃x22,w20.drew.cell? a21=some (.int .i64 x22)∧
        ixK data__p data__n i_19 1 fun a23=>
        ∃x24,w20.drew.cell? a23=some (.int .i64 x24)∧
        ixK data__p data__n i_19 1 fun a25=>
        ∃w26,StoreAt a25 0 [.int .i64 x22] w20.drew w26∧
        ixK data__p data__n (IntKind.i64.wrap (i_19 - (1:Int))) 1 fun a27=>
        ∃w28,StoreAt a27 0 [.int .i64 x24] w26 w28∧
        ∃J29:World→Prop,(cnd (decide ((IntKind.i64.wrap (i_19 - a_))≥(2:Int)))
        (∃I30:Int→World→Nat→Prop,(∃k31,I30 (IntKind.i64.wrap (i_19 - (1:Int))) w28 k31)∧
          ∀ (j_33:Int) (w34:World) (k31:Nat) (_:Fr),I30 j_33 w34 k31→
          cnd (decide (j_33≥(1:Int)))
           (ixK data__p data__n j_33 1 fun a35=>
             ∃x36,w34.drew.cell? a35=some (.int .i64 x36)∧
             ixK data__p data__n (IntKind.i64.wrap (j_33 - (1:Int))) 1 fun a37=>
             ∃x38,w34.drew.cell? a37=some (.int .i64 x38)∧
             cnd (entB Tryz.prog cmp_f) (Calls Tryz.prog cmp_f (#[]++ #[.int .i64 x36,.int .i64 x38]++cmp_v) w34.drew fun e w39=> ∃r40,e= .returned (.int .i64 r40)∧
             cnd (!(decide (r40< (0:Int))))
             (J29 w39)
             (ixK data__p data__n (IntKind.i64.wrap (j_33 - (1:Int))) 1 fun a41=>
               ∃x42,w39.drew.cell? a41=some (.int .i64 x42)∧
               ixK data__p data__n j_33 1 fun a43=>
               ∃x44,w39.drew.cell? a43=some (.int .i64 x44)∧
               ixK data__p data__n j_33 1 fun a45=>
               ∃w46,StoreAt a45 0 [.int .i64 x42] w39.drew w46∧
               ixK data__p data__n (IntKind.i64.wrap (j_33 - (1:Int))) 1 fun a47=>
               ∃w48,StoreAt a47 0 [.int .i64 x44] w46 w48∧
               ∃k32,k32<k31∧I30 (IntKind.i64.wrap (j_33 - (1:Int))) w48 k32)) False)
           (J29 w34))
        (J29 w28))∧
        ∀ (w49:World) (_:Fr),J29 w49→
        cnd (decide ((IntKind.i64.wrap (b_ - i_19))≥(2:Int)))
        (∃I50:Int→World→Nat→Prop,(∃k51,I50 (IntKind.i64.wrap (i_19+ (1:Int))) w49 k51)∧
          ∀ (j_53:Int) (w54:World) (k51:Nat) (_:Fr),I50 j_53 w54 k51→
          cnd (decide (j_53<b_))
           (ixK data__p data__n j_53 1 fun a55=>
             ∃x56,w54.drew.cell? a55=some (.int .i64 x56)∧
             ixK data__p data__n (IntKind.i64.wrap (j_53 - (1:Int))) 1 fun a57=>
             ∃x58,w54.drew.cell? a57=some (.int .i64 x58)∧
             cnd (entB Tryz.prog cmp_f) (Calls Tryz.prog cmp_f (#[]++ #[.int .i64 x56,.int .i64 x58]++cmp_v) w54.drew fun e w59=> ∃r60,e= .returned (.int .i64 r60)∧
             cnd (!(decide (r60< (0:Int))))
             (∃k3,k3<k2∧I1 i_19 (IntKind.i64.wrap (j_5+ (1:Int))) w59 k3)
             (ixK data__p data__n (IntKind.i64.wrap (j_53 - (1:Int))) 1 fun a61=>
               ∃x62,w59.drew.cell? a61=some (.int .i64 x62)∧
               ixK data__p data__n j_53 1 fun a63=>
               ∃x64,w59.drew.cell? a63=some (.int .i64 x64)∧
               ixK data__p data__n j_53 1 fun a65=>
               ∃w66,StoreAt a65 0 [.int .i64 x62] w59.drew w66∧
               ixK data__p data__n (IntKind.i64.wrap (j_53 - (1:Int))) 1 fun a67=>
               ∃w68,StoreAt a67 0 [.int .i64 x64] w66 w68∧
               ∃k52,k52<k51∧I50 (IntKind.i64.wrap (j_53+ (1:Int))) w68 k52)) False)
           (∃k3,k3<k2∧I1 i_19 (IntKind.i64.wrap (j_5+ (1:Int))) w54 k3))
        (∃k3,k3<k2∧I1 i_19 (IntKind.i64.wrap (j_5+ (1:Int))) w49 k3))))
  (K (.bool false) w6)
theorem slices_partialInsertionSortCmpFunc_int.calls {data__p data__n data__c a_ b_ cmp_f cmp_v w R} (h:slices_partialInsertionSortCmpFunc_int.w data__p data__n data__c a_ b_ cmp_f cmp_v w fun v w'=>R (.returned v) w'):Calls Tryz.prog 209 #[.slice data__p data__n data__c,.int .i64 a_,.int .i64 b_,.func (.func cmp_f) #[] cmp_v] w R:=
 calls_of mixed Tryz.func209 (by kernel_rfl) rfl (ann:=(.two .leaf (.two .leaf (.two (.two .leaf (.one (.loop [(9,3),(10,3)] (.two .leaf (.two (.one (.cut [(9,3)] (.one (.loop [(9,3)] .leaf)) (.two .leaf (.two .leaf (.two .leaf (.cut [] (.two .leaf (.two (.two .leaf (.one (.loop [(11,3)] .leaf))) .leaf)) (.two .leaf (.two (.two .leaf (.one (.loop [(12,3)] .leaf))) .leaf)))))))) .leaf))))) .leaf)))) (F:=slices_partialInsertionSortCmpFunc_int.w data__p data__n data__c a_ b_ cmp_f cmp_v w) (fun K=>by kernel_rfl) h
def slices_partitionEqualCmpFunc_int.w (data__p:Option Addr) (data__n:Nat) (data__c:Nat) (a_:Int) (b_:Int) (pivot_:Int) (cmp_f:FuncId) (cmp_v:Array Value) (w:World) (K:Value→World→Prop):Prop:=
 ixK data__p data__n pivot_ 1 fun a1=>
 ∃x2,w.drew.cell? a1=some (.int .i64 x2)∧
 ixK data__p data__n a_ 1 fun a3=>
 ∃x4,w.drew.cell? a3=some (.int .i64 x4)∧
 ixK data__p data__n a_ 1 fun a5=>
 ∃w6,StoreAt a5 0 [.int .i64 x2] w.drew w6∧
 ixK data__p data__n pivot_ 1 fun a7=>
 ∃w8,StoreAt a7 0 [.int .i64 x4] w6 w8∧
 ∃I9:Int→Int→World→Nat→Prop,(∃k10,I9 (IntKind.i64.wrap (a_+ (1:Int))) (IntKind.i64.wrap (b_ - (1:Int))) w8 k10)∧
 ∀ (i_12:Int) (j_13:Int) (w14:World) (k10:Nat) (_:Fr),I9 i_12 j_13 w14 k10→
 ∃I15:Int→World→Nat→Prop,(∃k16,I15 i_12 w14 k16)∧
  ∀ (i_18:Int) (w19:World) (k16:Nat) (_:Fr),I15 i_18 w19 k16→
  cnd (decide (i_18≤j_13))
   (ixK data__p data__n a_ 1 fun a20=>
   ∃x21,w19.drew.cell? a20=some (.int .i64 x21)∧
   ixK data__p data__n i_18 1 fun a22=>
   ∃x23,w19.drew.cell? a22=some (.int .i64 x23)∧
   cnd (entB Tryz.prog cmp_f) (Calls Tryz.prog cmp_f (#[]++ #[.int .i64 x21,.int .i64 x23]++cmp_v) w19.drew fun e w24=> ∃r25,e= .returned (.int .i64 r25)∧
   cnd (!(decide (r25< (0:Int))))
   (∃k17,k17<k16∧I15 (IntKind.i64.wrap (i_18+ (1:Int))) w24 k17)
   (∃I26:Int→World→Nat→Prop,(∃k27,I26 j_13 w24 k27)∧
     ∀ (j_29:Int) (w30:World) (k27:Nat) (_:Fr),I26 j_29 w30 k27→
     cnd (decide (i_18≤j_29))
      (ixK data__p data__n a_ 1 fun a31=>
      ∃x32,w30.drew.cell? a31=some (.int .i64 x32)∧
      ixK data__p data__n j_29 1 fun a33=>
      ∃x34,w30.drew.cell? a33=some (.int .i64 x34)∧
      cnd (entB Tryz.prog cmp_f) (Calls Tryz.prog cmp_f (#[]++ #[.int .i64 x32,.int .i64 x34]++cmp_v) w30.drew fun e w35=> ∃r36,e= .returned (.int .i64 r36)∧
      cnd (decide (r36< (0:Int)))
      (∃k28,k28<k27∧I26 (IntKind.i64.wrap (j_29 - (1:Int))) w35 k28)
      (cnd (decide (i_18>j_29))
        (K (.int .i64 i_18) w35)
        (ixK data__p data__n j_29 1 fun a37=>
          ∃x38,w35.drew.cell? a37=some (.int .i64 x38)∧
          ixK data__p data__n i_18 1 fun a39=>
          ∃x40,w35.drew.cell? a39=some (.int .i64 x40)∧
          ixK data__p data__n i_18 1 fun a41=>
          ∃w42,StoreAt a41 0 [.int .i64 x38] w35.drew w42∧
          ixK data__p data__n j_29 1 fun a43=>
          ∃w44,StoreAt a43 0 [.int .i64 x40] w42 w44∧
          ∃k11,k11<k10∧I9 (IntKind.i64.wrap (i_18+ (1:Int))) (IntKind.i64.wrap (j_29 - (1:Int))) w44 k11))) False)
      (cnd (decide (i_18>j_29))
      (K (.int .i64 i_18) w30.drew)
      (ixK data__p data__n j_29 1 fun a45=>
        ∃x46,w30.drew.drew.cell? a45=some (.int .i64 x46)∧
        ixK data__p data__n i_18 1 fun a47=>
        ∃x48,w30.drew.drew.cell? a47=some (.int .i64 x48)∧
        ixK data__p data__n i_18 1 fun a49=>
        ∃w50,StoreAt a49 0 [.int .i64 x46] w30.drew.drew w50∧
        ixK data__p data__n j_29 1 fun a51=>
        ∃w52,StoreAt a51 0 [.int .i64 x48] w50 w52∧
        ∃k11,k11<k10∧I9 (IntKind.i64.wrap (i_18+ (1:Int))) (IntKind.i64.wrap (j_29 - (1:Int))) w52 k11)))) False)
   (∃I53:Int→World→Nat→Prop,(∃k54,I53 j_13 w19.drew k54)∧
   ∀ (j_56:Int) (w57:World) (k54:Nat) (_:Fr),I53 j_56 w57 k54→
   cnd (decide (i_18≤j_56))
    (ixK data__p data__n a_ 1 fun a58=>
    ∃x59,w57.drew.cell? a58=some (.int .i64 x59)∧
    ixK data__p data__n j_56 1 fun a60=>
    ∃x61,w57.drew.cell? a60=some (.int .i64 x61)∧
    cnd (entB Tryz.prog cmp_f) (Calls Tryz.prog cmp_f (#[]++ #[.int .i64 x59,.int .i64 x61]++cmp_v) w57.drew fun e w62=> ∃r63,e= .returned (.int .i64 r63)∧
    cnd (decide (r63< (0:Int)))
    (∃k55,k55<k54∧I53 (IntKind.i64.wrap (j_56 - (1:Int))) w62 k55)
    (cnd (decide (i_18>j_56))
      (K (.int .i64 i_18) w62)
      (ixK data__p data__n j_56 1 fun a64=>
        ∃x65,w62.drew.cell? a64=some (.int .i64 x65)∧
        ixK data__p data__n i_18 1 fun a66=>
        ∃x67,w62.drew.cell? a66=some (.int .i64 x67)∧
        ixK data__p data__n i_18 1 fun a68=>
        ∃w69,StoreAt a68 0 [.int .i64 x65] w62.drew w69∧
        ixK data__p data__n j_56 1 fun a70=>
        ∃w71,StoreAt a70 0 [.int .i64 x67] w69 w71∧
        ∃k11,k11<k10∧I9 (IntKind.i64.wrap (i_18+ (1:Int))) (IntKind.i64.wrap (j_56 - (1:Int))) w71 k11))) False)
    (cnd (decide (i_18>j_56))
    (K (.int .i64 i_18) w57.drew)
    (ixK data__p data__n j_56 1 fun a72=>
      ∃x73,w57.drew.drew.cell? a72=some (.int .i64 x73)∧
      ixK data__p data__n i_18 1 fun a74=>
      ∃x75,w57.drew.drew.cell? a74=some (.int .i64 x75)∧
      ixK data__p data__n i_18 1 fun a76=>
      ∃w77,StoreAt a76 0 [.int .i64 x73] w57.drew.drew w77∧
      ixK data__p data__n j_56 1 fun a78=>
      ∃w79,StoreAt a78 0 [.int .i64 x75] w77 w79∧
      ∃k11,k11<k10∧I9 (IntKind.i64.wrap (i_18+ (1:Int))) (IntKind.i64.wrap (j_56 - (1:Int))) w79 k11)))
theorem slices_partitionEqualCmpFunc_int.calls {data__p data__n data__c a_ b_ pivot_ cmp_f cmp_v w R} (h:slices_partitionEqualCmpFunc_int.w data__p data__n data__c a_ b_ pivot_ cmp_f cmp_v w fun v w'=>R (.returned v) w'):Calls Tryz.prog 210 #[.slice data__p data__n data__c,.int .i64 a_,.int .i64 b_,.int .i64 pivot_,.func (.func cmp_f) #[] cmp_v] w R:=
 calls_of mixed Tryz.func210 (by kernel_rfl) rfl (ann:=(.two .leaf (.two .leaf (.two .leaf (.two (.one (.loop [(11,3),(12,3)] (.one (.two (.one (.loop [(11,3)] .leaf)) (.two (.one (.loop [(12,3)] .leaf)) .leaf))))) .leaf))))) (F:=slices_partitionEqualCmpFunc_int.w data__p data__n data__c a_ b_ pivot_ cmp_f cmp_v w) (fun K=>by kernel_rfl) h
def slices_partitionCmpFunc_int.w (data__p:Option Addr) (data__n:Nat) (data__c:Nat) (a_:Int) (b_:Int) (pivot_:Int) (cmp_f:FuncId) (cmp_v:Array Value) (w:World) (K:Value→World→Prop):Prop:=
 ixK data__p data__n pivot_ 1 fun a1=>
 ∃x2,w.drew.cell? a1=some (.int .i64 x2)∧
 ixK data__p data__n a_ 1 fun a3=>
 ∃x4,w.drew.cell? a3=some (.int .i64 x4)∧
 ixK data__p data__n a_ 1 fun a5=>
 ∃w6,StoreAt a5 0 [.int .i64 x2] w.drew w6∧
 ixK data__p data__n pivot_ 1 fun a7=>
 ∃w8,StoreAt a7 0 [.int .i64 x4] w6 w8∧
 ∃J9:Int→World→Prop,(∃I10:Int→World→Nat→Prop,(∃k11,I10 (IntKind.i64.wrap (a_+ (1:Int))) w8 k11)∧
 ∀ (i_13:Int) (w14:World) (k11:Nat) (_:Fr),I10 i_13 w14 k11→
 cnd (decide (i_13≤(IntKind.i64.wrap (b_ - (1:Int)))))
  (ixK data__p data__n i_13 1 fun a15=>
  ∃x16,w14.drew.cell? a15=some (.int .i64 x16)∧
  ixK data__p data__n a_ 1 fun a17=>
  ∃x18,w14.drew.cell? a17=some (.int .i64 x18)∧
  cnd (entB Tryz.prog cmp_f) (Calls Tryz.prog cmp_f (#[]++ #[.int .i64 x16,.int .i64 x18]++cmp_v) w14.drew fun e w19=> ∃r20,e= .returned (.int .i64 r20)∧
  cnd (decide (r20< (0:Int)))
  (∃k12,k12<k11∧I10 (IntKind.i64.wrap (i_13+ (1:Int))) w19 k12)
  (J9 i_13 w19)) False)
  (J9 i_13 w14.drew))∧
 ∀ (i_21:Int) (w22:World) (_:Fr),J9 i_21 w22→
 ∃J23:Int→World→Prop,(∃I24:Int→World→Nat→Prop,(∃k25,I24 (IntKind.i64.wrap (b_ - (1:Int))) w22 k25)∧
 ∀ (j_27:Int) (w28:World) (k25:Nat) (_:Fr),I24 j_27 w28 k25→
 cnd (decide (i_21≤j_27))
  (ixK data__p data__n j_27 1 fun a29=>
  ∃x30,w28.drew.cell? a29=some (.int .i64 x30)∧
  ixK data__p data__n a_ 1 fun a31=>
  ∃x32,w28.drew.cell? a31=some (.int .i64 x32)∧
  cnd (entB Tryz.prog cmp_f) (Calls Tryz.prog cmp_f (#[]++ #[.int .i64 x30,.int .i64 x32]++cmp_v) w28.drew fun e w33=> ∃r34,e= .returned (.int .i64 r34)∧
  cnd (!(decide (r34< (0:Int))))
  (∃k26,k26<k25∧I24 (IntKind.i64.wrap (j_27 - (1:Int))) w33 k26)
  (J23 j_27 w33)) False)
  (J23 j_27 w28.drew))∧
 ∀ (j_35:Int) (w36:World) (_:Fr),J23 j_35 w36→
 cnd (decide (i_21>j_35))
 (ixK data__p data__n a_ 1 fun a37=>
   ∃x38,w36.drew.cell? a37=some (.int .i64 x38)∧
   ixK data__p data__n j_35 1 fun a39=>
   ∃x40,w36.drew.cell? a39=some (.int .i64 x40)∧
   ixK data__p data__n j_35 1 fun a41=>
   ∃w42,StoreAt a41 0 [.int .i64 x38] w36.drew w42∧
   ixK data__p data__n a_ 1 fun a43=>
   ∃w44,StoreAt a43 0 [.int .i64 x40] w42 w44∧
   K (.tuple #[.int .i64 j_35,.bool true]) w44)
 (ixK data__p data__n j_35 1 fun a45=>
   ∃x46,w36.drew.cell? a45=some (.int .i64 x46)∧
   ixK data__p data__n i_21 1 fun a47=>
   ∃x48,w36.drew.cell? a47=some (.int .i64 x48)∧
   ixK data__p data__n i_21 1 fun a49=>
   ∃w50,StoreAt a49 0 [.int .i64 x46] w36.drew w50∧
   ixK data__p data__n j_35 1 fun a51=>
   ∃w52,StoreAt a51 0 [.int .i64 x48] w50 w52∧
   ∃I53:Int→Int→World→Nat→Prop,(∃k54,I53 (IntKind.i64.wrap (i_21+ (1:Int))) (IntKind.i64.wrap (j_35 - (1:Int))) w52 k54)∧
   ∀ (i_56:Int) (j_57:Int) (w58:World) (k54:Nat) (_:Fr),I53 i_56 j_57 w58 k54→
   ∃I59:Int→World→Nat→Prop,(∃k60,I59 i_56 w58 k60)∧
    ∀ (i_62:Int) (w63:World) (k60:Nat) (_:Fr),I59 i_62 w63 k60→
    cnd (decide (i_62≤j_57))
     (ixK data__p data__n i_62 1 fun a64=>
     ∃x65,w63.drew.cell? a64=some (.int .i64 x65)∧
     ixK data__p data__n a_ 1 fun a66=>
     ∃x67,w63.drew.cell? a66=some (.int .i64 x67)∧
     cnd (entB Tryz.prog cmp_f) (Calls Tryz.prog cmp_f (#[]++ #[.int .i64 x65,.int .i64 x67]++cmp_v) w63.drew fun e w68=> ∃r69,e= .returned (.int .i64 r69)∧
     cnd (decide (r69< (0:Int)))
     (∃k61,k61<k60∧I59 (IntKind.i64.wrap (i_62+ (1:Int))) w68 k61)
     (∃I70:Int→World→Nat→Prop,(∃k71,I70 j_57 w68 k71)∧
       ∀ (j_73:Int) (w74:World) (k71:Nat) (_:Fr),I70 j_73 w74 k71→
       cnd (decide (i_62≤j_73))
        (ixK data__p data__n j_73 1 fun a75=>
        ∃x76,w74.drew.cell? a75=some (.int .i64 x76)∧
        ixK data__p data__n a_ 1 fun a77=>
        ∃x78,w74.drew.cell? a77=some (.int .i64 x78)∧
        cnd (entB Tryz.prog cmp_f) (Calls Tryz.prog cmp_f (#[]++ #[.int .i64 x76,.int .i64 x78]++cmp_v) w74.drew fun e w79=> ∃r80,e= .returned (.int .i64 r80)∧
        cnd (!(decide (r80< (0:Int))))
        (∃k72,k72<k71∧I70 (IntKind.i64.wrap (j_73 - (1:Int))) w79 k72)
        (cnd (decide (i_62>j_73))
          (ixK data__p data__n a_ 1 fun a81=>
            ∃x82,w79.drew.cell? a81=some (.int .i64 x82)∧
            ixK data__p data__n j_73 1 fun a83=>
            ∃x84,w79.drew.cell? a83=some (.int .i64 x84)∧
            ixK data__p data__n j_73 1 fun a85=>
            ∃w86,StoreAt a85 0 [.int .i64 x82] w79.drew w86∧
            ixK data__p data__n a_ 1 fun a87=>
            ∃w88,StoreAt a87 0 [.int .i64 x84] w86 w88∧
            K (.tuple #[.int .i64 j_73,.bool false]) w88)
          (ixK data__p data__n j_73 1 fun a89=>
            ∃x90,w79.drew.cell? a89=some (.int .i64 x90)∧
            ixK data__p data__n i_62 1 fun a91=>
            ∃x92,w79.drew.cell? a91=some (.int .i64 x92)∧
            ixK data__p data__n i_62 1 fun a93=>
            ∃w94,StoreAt a93 0 [.int .i64 x90] w79.drew w94∧
            ixK data__p data__n j_73 1 fun a95=>
            ∃w96,StoreAt a95 0 [.int .i64 x92] w94 w96∧
            ∃k55,k55<k54∧I53 (IntKind.i64.wrap (i_62+ (1:Int))) (IntKind.i64.wrap (j_73 - (1:Int))) w96 k55))) False)
        (cnd (decide (i_62>j_73))
        (ixK data__p data__n a_ 1 fun a97=>
          ∃x98,w74.drew.drew.cell? a97=some (.int .i64 x98)∧
          ixK data__p data__n j_73 1 fun a99=>
          ∃x100,w74.drew.drew.cell? a99=some (.int .i64 x100)∧
          ixK data__p data__n j_73 1 fun a101=>
          ∃w102,StoreAt a101 0 [.int .i64 x98] w74.drew.drew w102∧
          ixK data__p data__n a_ 1 fun a103=>
          ∃w104,StoreAt a103 0 [.int .i64 x100] w102 w104∧
          K (.tuple #[.int .i64 j_73,.bool false]) w104)
        (ixK data__p data__n j_73 1 fun a105=>
          ∃x106,w74.drew.drew.cell? a105=some (.int .i64 x106)∧
          ixK data__p data__n i_62 1 fun a107=>
          ∃x108,w74.drew.drew.cell? a107=some (.int .i64 x108)∧
          ixK data__p data__n i_62 1 fun a109=>
          ∃w110,StoreAt a109 0 [.int .i64 x106] w74.drew.drew w110∧
          ixK data__p data__n j_73 1 fun a111=>
          ∃w112,StoreAt a111 0 [.int .i64 x108] w110 w112∧
          ∃k55,k55<k54∧I53 (IntKind.i64.wrap (i_62+ (1:Int))) (IntKind.i64.wrap (j_73 - (1:Int))) w112 k55)))) False)
     (∃I113:Int→World→Nat→Prop,(∃k114,I113 j_57 w63.drew k114)∧
     ∀ (j_116:Int) (w117:World) (k114:Nat) (_:Fr),I113 j_116 w117 k114→
     cnd (decide (i_62≤j_116))
      (ixK data__p data__n j_116 1 fun a118=>
      ∃x119,w117.drew.cell? a118=some (.int .i64 x119)∧
      ixK data__p data__n a_ 1 fun a120=>
      ∃x121,w117.drew.cell? a120=some (.int .i64 x121)∧
      cnd (entB Tryz.prog cmp_f) (Calls Tryz.prog cmp_f (#[]++ #[.int .i64 x119,.int .i64 x121]++cmp_v) w117.drew fun e w122=> ∃r123,e= .returned (.int .i64 r123)∧
      cnd (!(decide (r123< (0:Int))))
      (∃k115,k115<k114∧I113 (IntKind.i64.wrap (j_116 - (1:Int))) w122 k115)
      (cnd (decide (i_62>j_116))
        (ixK data__p data__n a_ 1 fun a124=>
          ∃x125,w122.drew.cell? a124=some (.int .i64 x125)∧
          ixK data__p data__n j_116 1 fun a126=>
          ∃x127,w122.drew.cell? a126=some (.int .i64 x127)∧
          ixK data__p data__n j_116 1 fun a128=>
          ∃w129,StoreAt a128 0 [.int .i64 x125] w122.drew w129∧
          ixK data__p data__n a_ 1 fun a130=>
          ∃w131,StoreAt a130 0 [.int .i64 x127] w129 w131∧
          K (.tuple #[.int .i64 j_116,.bool false]) w131)
        (ixK data__p data__n j_116 1 fun a132=>
          ∃x133,w122.drew.cell? a132=some (.int .i64 x133)∧
          ixK data__p data__n i_62 1 fun a134=>
          ∃x135,w122.drew.cell? a134=some (.int .i64 x135)∧
          ixK data__p data__n i_62 1 fun a136=>
          ∃w137,StoreAt a136 0 [.int .i64 x133] w122.drew w137∧
          ixK data__p data__n j_116 1 fun a138=>
          ∃w139,StoreAt a138 0 [.int .i64 x135] w137 w139∧
          ∃k55,k55<k54∧I53 (IntKind.i64.wrap (i_62+ (1:Int))) (IntKind.i64.wrap (j_116 - (1:Int))) w139 k55))) False)
      (cnd (decide (i_62>j_116))
      (ixK data__p data__n a_ 1 fun a140=>
        ∃x141,w117.drew.drew.cell? a140=some (.int .i64 x141)∧
        ixK data__p data__n j_116 1 fun a142=>
        ∃x143,w117.drew.drew.cell? a142=some (.int .i64 x143)∧
        ixK data__p data__n j_116 1 fun a144=>
        ∃w145,StoreAt a144 0 [.int .i64 x141] w117.drew.drew w145∧
        ixK data__p data__n a_ 1 fun a146=>
        ∃w147,StoreAt a146 0 [.int .i64 x143] w145 w147∧
        K (.tuple #[.int .i64 j_116,.bool false]) w147)
      (ixK data__p data__n j_116 1 fun a148=>
        ∃x149,w117.drew.drew.cell? a148=some (.int .i64 x149)∧
        ixK data__p data__n i_62 1 fun a150=>
        ∃x151,w117.drew.drew.cell? a150=some (.int .i64 x151)∧
        ixK data__p data__n i_62 1 fun a152=>
        ∃w153,StoreAt a152 0 [.int .i64 x149] w117.drew.drew w153∧
        ixK data__p data__n j_116 1 fun a154=>
        ∃w155,StoreAt a154 0 [.int .i64 x151] w153 w155∧
        ∃k55,k55<k54∧I53 (IntKind.i64.wrap (i_62+ (1:Int))) (IntKind.i64.wrap (j_116 - (1:Int))) w155 k55))))
theorem slices_partitionCmpFunc_int.calls {data__p data__n data__c a_ b_ pivot_ cmp_f cmp_v w R} (h:slices_partitionCmpFunc_int.w data__p data__n data__c a_ b_ pivot_ cmp_f cmp_v w fun v w'=>R (.returned v) w'):Calls Tryz.prog 211 #[.slice data__p data__n data__c,.int .i64 a_,.int .i64 b_,.int .i64 pivot_,.func (.func cmp_f) #[] cmp_v] w R:=
 calls_of mixed Tryz.func211 (by kernel_rfl) rfl (ann:=(.two .leaf (.two .leaf (.two .leaf (.cut [(12,3)] (.one (.loop [(12,3)] .leaf)) (.cut [(13,3)] (.one (.loop [(13,3)] .leaf)) (.two .leaf (.two .leaf (.two .leaf (.two .leaf (.two (.one (.loop [(12,3),(13,3)] (.one (.two (.one (.loop [(12,3)] .leaf)) (.two (.one (.loop [(13,3)] .leaf)) .leaf))))) .leaf))))))))))) (F:=slices_partitionCmpFunc_int.w data__p data__n data__c a_ b_ pivot_ cmp_f cmp_v w) (fun K=>by kernel_rfl) h
def bits_Len64.w (x0_:Int) (w:World) (K:Value→World→Prop):Prop:=
 cnd (decide (x0_≥(4294967296:Int)))
 (0≤(32:Int)∧cnd (decide ((x0_.fdiv (2 ^ (min (32:Int).toNat (IntKind.bits .u64))))≥(65536:Int)))
   (0≤(16:Int)∧cnd (decide (((x0_.fdiv (2 ^ (min (32:Int).toNat (IntKind.bits .u64)))).fdiv (2 ^ (min (16:Int).toNat (IntKind.bits .u64))))≥(256:Int)))
     (0≤(8:Int)∧∃b1,0≤(IntKind.u8.wrap (((x0_.fdiv (2 ^ (min (32:Int).toNat (IntKind.bits .u64)))).fdiv (2 ^ (min (16:Int).toNat (IntKind.bits .u64)))).fdiv (2 ^ (min (8:Int).toNat (IntKind.bits .u64)))))∧strtab0[(IntKind.u8.wrap (((x0_.fdiv (2 ^ (min (32:Int).toNat (IntKind.bits .u64)))).fdiv (2 ^ (min (16:Int).toNat (IntKind.bits .u64)))).fdiv (2 ^ (min (8:Int).toNat (IntKind.bits .u64))))).toNat]? =some b1∧
       K (.int .i64 (IntKind.i64.wrap ((IntKind.i64.wrap ((IntKind.i64.wrap ((32:Int)+ (16:Int)))+ (8:Int)))+ (IntKind.i64.wrap (b1.toNat:Int))))) w)
     (∃b2,0≤(IntKind.u8.wrap ((x0_.fdiv (2 ^ (min (32:Int).toNat (IntKind.bits .u64)))).fdiv (2 ^ (min (16:Int).toNat (IntKind.bits .u64)))))∧strtab0[(IntKind.u8.wrap ((x0_.fdiv (2 ^ (min (32:Int).toNat (IntKind.bits .u64)))).fdiv (2 ^ (min (16:Int).toNat (IntKind.bits .u64))))).toNat]? =some b2∧
       K (.int .i64 (IntKind.i64.wrap ((IntKind.i64.wrap ((32:Int)+ (16:Int)))+ (IntKind.i64.wrap (b2.toNat:Int))))) w))
   (cnd (decide ((x0_.fdiv (2 ^ (min (32:Int).toNat (IntKind.bits .u64))))≥(256:Int)))
     (0≤(8:Int)∧∃b3,0≤(IntKind.u8.wrap ((x0_.fdiv (2 ^ (min (32:Int).toNat (IntKind.bits .u64)))).fdiv (2 ^ (min (8:Int).toNat (IntKind.bits .u64)))))∧strtab0[(IntKind.u8.wrap ((x0_.fdiv (2 ^ (min (32:Int).toNat (IntKind.bits .u64)))).fdiv (2 ^ (min (8:Int).toNat (IntKind.bits .u64))))).toNat]? =some b3∧
       K (.int .i64 (IntKind.i64.wrap ((IntKind.i64.wrap ((32:Int)+ (8:Int)))+ (IntKind.i64.wrap (b3.toNat:Int))))) w)
     (∃b4,0≤(IntKind.u8.wrap (x0_.fdiv (2 ^ (min (32:Int).toNat (IntKind.bits .u64)))))∧strtab0[(IntKind.u8.wrap (x0_.fdiv (2 ^ (min (32:Int).toNat (IntKind.bits .u64))))).toNat]? =some b4∧
       K (.int .i64 (IntKind.i64.wrap ((32:Int)+ (IntKind.i64.wrap (b4.toNat:Int))))) w)))
 (cnd (decide (x0_≥(65536:Int)))
   (0≤(16:Int)∧cnd (decide ((x0_.fdiv (2 ^ (min (16:Int).toNat (IntKind.bits .u64))))≥(256:Int)))
     (0≤(8:Int)∧∃b5,0≤(IntKind.u8.wrap ((x0_.fdiv (2 ^ (min (16:Int).toNat (IntKind.bits .u64)))).fdiv (2 ^ (min (8:Int).toNat (IntKind.bits .u64)))))∧strtab0[(IntKind.u8.wrap ((x0_.fdiv (2 ^ (min (16:Int).toNat (IntKind.bits .u64)))).fdiv (2 ^ (min (8:Int).toNat (IntKind.bits .u64))))).toNat]? =some b5∧
       K (.int .i64 (IntKind.i64.wrap ((IntKind.i64.wrap ((IntKind.i64.wrap ((0:Int)+ (16:Int)))+ (8:Int)))+ (IntKind.i64.wrap (b5.toNat:Int))))) w)
     (∃b6,0≤(IntKind.u8.wrap (x0_.fdiv (2 ^ (min (16:Int).toNat (IntKind.bits .u64)))))∧strtab0[(IntKind.u8.wrap (x0_.fdiv (2 ^ (min (16:Int).toNat (IntKind.bits .u64))))).toNat]? =some b6∧
       K (.int .i64 (IntKind.i64.wrap ((IntKind.i64.wrap ((0:Int)+ (16:Int)))+ (IntKind.i64.wrap (b6.toNat:Int))))) w))
   (cnd (decide (x0_≥(256:Int)))
     (0≤(8:Int)∧∃b7,0≤(IntKind.u8.wrap (x0_.fdiv (2 ^ (min (8:Int).toNat (IntKind.bits .u64)))))∧strtab0[(IntKind.u8.wrap (x0_.fdiv (2 ^ (min (8:Int).toNat (IntKind.bits .u64))))).toNat]? =some b7∧
       K (.int .i64 (IntKind.i64.wrap ((IntKind.i64.wrap ((0:Int)+ (8:Int)))+ (IntKind.i64.wrap (b7.toNat:Int))))) w)
     (∃b8,0≤(IntKind.u8.wrap x0_)∧strtab0[(IntKind.u8.wrap x0_).toNat]? =some b8∧
       K (.int .i64 (IntKind.i64.wrap ((0:Int)+ (IntKind.i64.wrap (b8.toNat:Int))))) w)))
theorem bits_Len64.calls {x0_ w R} (h:bits_Len64.w x0_ w fun v w'=>R (.returned v) w'):Calls Tryz.prog 213 #[.int .u64 x0_] w R:=
 calls_of mixed Tryz.func213 (by kernel_rfl) rfl (ann:= .leaf) (F:=bits_Len64.w x0_ w) (fun K=>by kernel_rfl) h
def slices_siftDownCmpFunc_int.w (data__p:Option Addr) (data__n:Nat) (data__c:Nat) (lo_:Int) (hi_:Int) (first_:Int) (cmp_f:FuncId) (cmp_v:Array Value) (w:World) (K:Value→World→Prop):Prop:=
 ∃I1:Int→World→Nat→Prop,(∃k2,I1 lo_ w k2)∧
 ∀ (root_4:Int) (w5:World) (k2:Nat) (_:Fr),I1 root_4 w5 k2→
 cnd (decide ((IntKind.i64.wrap ((IntKind.i64.wrap ((2:Int)*root_4))+ (1:Int)))≥hi_))
  (K (.tuple #[]) w5)
  (∃J6:Int→World→Prop,(cnd (decide ((IntKind.i64.wrap ((IntKind.i64.wrap ((IntKind.i64.wrap ((2:Int)*root_4))+ (1:Int)))+ (1:Int)))<hi_))
    (ixK data__p data__n (IntKind.i64.wrap (first_+ (IntKind.i64.wrap ((IntKind.i64.wrap ((2:Int)*root_4))+ (1:Int))))) 1 fun a7=>
    ∃x8,w5.drew.cell? a7=some (.int .i64 x8)∧
    ixK data__p data__n (IntKind.i64.wrap ((IntKind.i64.wrap (first_+ (IntKind.i64.wrap ((IntKind.i64.wrap ((2:Int)*root_4))+ (1:Int)))))+ (1:Int))) 1 fun a9=>
    ∃x10,w5.drew.cell? a9=some (.int .i64 x10)∧
    cnd (entB Tryz.prog cmp_f) (Calls Tryz.prog cmp_f (#[]++ #[.int .i64 x8,.int .i64 x10]++cmp_v) w5.drew fun e w11=> ∃r12,e= .returned (.int .i64 r12)∧
    cnd (decide (r12< (0:Int)))
    (J6 (IntKind.i64.wrap ((IntKind.i64.wrap ((IntKind.i64.wrap ((2:Int)*root_4))+ (1:Int)))+ (1:Int))) w11)
    (J6 (IntKind.i64.wrap ((IntKind.i64.wrap ((2:Int)*root_4))+ (1:Int))) w11)) False)
    (J6 (IntKind.i64.wrap ((IntKind.i64.wrap ((2:Int)*root_4))+ (1:Int))) w5.drew))∧
    ∀ (child_13:Int) (w14:World) (_:Fr),J6 child_13 w14→
    ixK data__p data__n (IntKind.i64.wrap (first_+root_4)) 1 fun a15=>
    ∃x16,w14.drew.cell? a15=some (.int .i64 x16)∧
    ixK data__p data__n (IntKind.i64.wrap (first_+child_13)) 1 fun a17=>
    ∃x18,w14.drew.cell? a17=some (.int .i64 x18)∧
    cnd (entB Tryz.prog cmp_f) (Calls Tryz.prog cmp_f (#[]++ #[.int .i64 x16,.int .i64 x18]++cmp_v) w14.drew fun e w19=> ∃r20,e= .returned (.int .i64 r20)∧
    cnd (!(decide (r20< (0:Int))))
    (K (.tuple #[]) w19)
    (ixK data__p data__n (IntKind.i64.wrap (first_+child_13)) 1 fun a21=>
      ∃x22,w19.drew.cell? a21=some (.int .i64 x22)∧
      ixK data__p data__n (IntKind.i64.wrap (first_+root_4)) 1 fun a23=>
      ∃x24,w19.drew.cell? a23=some (.int .i64 x24)∧
      ixK data__p data__n (IntKind.i64.wrap (first_+root_4)) 1 fun a25=>
      ∃w26,StoreAt a25 0 [.int .i64 x22] w19.drew w26∧
      ixK data__p data__n (IntKind.i64.wrap (first_+child_13)) 1 fun a27=>
      ∃w28,StoreAt a27 0 [.int .i64 x24] w26 w28∧
      ∃k3,k3<k2∧I1 child_13 w28 k3)) False)
theorem slices_siftDownCmpFunc_int.calls {data__p data__n data__c lo_ hi_ first_ cmp_f cmp_v w R} (h:slices_siftDownCmpFunc_int.w data__p data__n data__c lo_ hi_ first_ cmp_f cmp_v w fun v w'=>R (.returned v) w'):Calls Tryz.prog 218 #[.slice data__p data__n data__c,.int .i64 lo_,.int .i64 hi_,.int .i64 first_,.func (.func cmp_f) #[] cmp_v] w R:=
 calls_of mixed Tryz.func218 (by kernel_rfl) rfl (ann:=(.two .leaf (.one (.loop [(10,3)] (.one (.two .leaf (.two .leaf (.cut [(11,3)] .leaf .leaf)))))))) (F:=slices_siftDownCmpFunc_int.w data__p data__n data__c lo_ hi_ first_ cmp_f cmp_v w) (fun K=>by kernel_rfl) h
def slices_nextPowerOfTwo.w (length_:Int) (w:World) (K:Value→World→Prop):Prop:=
 Calls Tryz.prog 178 #[.int .u64 (IntKind.u64.wrap length_)] w fun e w1=> ∃r2,e= .returned (.int .i64 r2)∧
 0≤r2∧K (.int .u64 (IntKind.u64.wrap ((1:Int)*2 ^ (min r2.toNat (IntKind.bits .u64))))) w1
theorem slices_nextPowerOfTwo.calls {length_ w R} (h:slices_nextPowerOfTwo.w length_ w fun v w'=>R (.returned v) w'):Calls Tryz.prog 219 #[.int .i64 length_] w R:=
 calls_of mixed Tryz.func219 (by kernel_rfl) rfl (ann:= .leaf) (F:=slices_nextPowerOfTwo.w length_ w) (fun K=>by kernel_rfl) h
def slices_xorshift_Next.w (r_:Option Addr) (w:World) (K:Value→World→Prop):Prop:=
 ∃a1,r_=some a1∧∃x2,w.drew.cell? a1=some (.int .u64 x2)∧
 ∃a3,r_=some a3∧∃x4,w.drew.cell? a3=some (.int .u64 x4)∧
 0≤(13:Int)∧∃a5,r_=some a5∧∃w6,StoreAt a5 0 [.int .u64 (IntKind.u64.wrap ((BitVec.ofInt (IntKind.bits .u64) x2 ^^^ BitVec.ofInt (IntKind.bits .u64) (IntKind.u64.wrap (x4*2 ^ (min (13:Int).toNat (IntKind.bits .u64))))).toNat))] w.drew w6∧
 ∃a7,r_=some a7∧∃x8,w6.drew.cell? a7=some (.int .u64 x8)∧
 ∃a9,r_=some a9∧∃x10,w6.drew.cell? a9=some (.int .u64 x10)∧
 0≤(7:Int)∧∃a11,r_=some a11∧∃w12,StoreAt a11 0 [.int .u64 (IntKind.u64.wrap ((BitVec.ofInt (IntKind.bits .u64) x8 ^^^ BitVec.ofInt (IntKind.bits .u64) (x10.fdiv (2 ^ (min (7:Int).toNat (IntKind.bits .u64))))).toNat))] w6.drew w12∧
 ∃a13,r_=some a13∧∃x14,w12.drew.cell? a13=some (.int .u64 x14)∧
 ∃a15,r_=some a15∧∃x16,w12.drew.cell? a15=some (.int .u64 x16)∧
 0≤(17:Int)∧∃a17,r_=some a17∧∃w18,StoreAt a17 0 [.int .u64 (IntKind.u64.wrap ((BitVec.ofInt (IntKind.bits .u64) x14 ^^^ BitVec.ofInt (IntKind.bits .u64) (IntKind.u64.wrap (x16*2 ^ (min (17:Int).toNat (IntKind.bits .u64))))).toNat))] w12.drew w18∧
 ∃a19,r_=some a19∧∃x20,w18.cell? a19=some (.int .u64 x20)∧
 K (.int .u64 x20) w18
theorem slices_xorshift_Next.calls {r_ w R} (h:slices_xorshift_Next.w r_ w fun v w'=>R (.returned v) w'):Calls Tryz.prog 220 #[.pointer r_] w R:=
 calls_of mixed Tryz.func220 (by kernel_rfl) rfl (ann:= .leaf) (F:=slices_xorshift_Next.w r_ w) (fun K=>by kernel_rfl) h
def slices_medianAdjacentCmpFunc_int.w (data__p:Option Addr) (data__n:Nat) (data__c:Nat) (a_:Int) (swaps_:Option Addr) (cmp_f:FuncId) (cmp_v:Array Value) (w:World) (K:Value→World→Prop):Prop:=
 Calls Tryz.prog 222 #[.slice data__p data__n data__c,.int .i64 (IntKind.i64.wrap (a_ - (1:Int))),.int .i64 a_,.int .i64 (IntKind.i64.wrap (a_+ (1:Int))),.pointer swaps_,.func (.func cmp_f) #[] cmp_v] w fun e w1=> ∃r2,e= .returned (.int .i64 r2)∧
 K (.int .i64 r2) w1
theorem slices_medianAdjacentCmpFunc_int.calls {data__p data__n data__c a_ swaps_ cmp_f cmp_v w R} (h:slices_medianAdjacentCmpFunc_int.w data__p data__n data__c a_ swaps_ cmp_f cmp_v w fun v w'=>R (.returned v) w'):Calls Tryz.prog 221 #[.slice data__p data__n data__c,.int .i64 a_,.pointer swaps_,.func (.func cmp_f) #[] cmp_v] w R:=
 calls_of mixed Tryz.func221 (by kernel_rfl) rfl (ann:= .leaf) (F:=slices_medianAdjacentCmpFunc_int.w data__p data__n data__c a_ swaps_ cmp_f cmp_v w) (fun K=>by kernel_rfl) h
def slices_medianCmpFunc_int.w (data__p:Option Addr) (data__n:Nat) (data__c:Nat) (a_:Int) (b_:Int) (c_:Int) (swaps_:Option Addr) (cmp_f:FuncId) (cmp_v:Array Value) (w:World) (K:Value→World→Prop):Prop:=
 Calls Tryz.prog 223 #[.slice data__p data__n data__c,.int .i64 a_,.int .i64 b_,.pointer swaps_,.func (.func cmp_f) #[] cmp_v] w fun e w1=> ∃r2 r3,e= .returned (.tuple #[.int .i64 r2,.int .i64 r3])∧
 Calls Tryz.prog 223 #[.slice data__p data__n data__c,.int .i64 r3,.int .i64 c_,.pointer swaps_,.func (.func cmp_f) #[] cmp_v] w1 fun e w4=> ∃r5 r6,e= .returned (.tuple #[.int .i64 r5,.int .i64 r6])∧
 Calls Tryz.prog 223 #[.slice data__p data__n data__c,.int .i64 r2,.int .i64 r5,.pointer swaps_,.func (.func cmp_f) #[] cmp_v] w4 fun e w7=> ∃r8 r9,e= .returned (.tuple #[.int .i64 r8,.int .i64 r9])∧
 K (.int .i64 r9) w7
theorem slices_medianCmpFunc_int.calls {data__p data__n data__c a_ b_ c_ swaps_ cmp_f cmp_v w R} (h:slices_medianCmpFunc_int.w data__p data__n data__c a_ b_ c_ swaps_ cmp_f cmp_v w fun v w'=>R (.returned v) w'):Calls Tryz.prog 222 #[.slice data__p data__n data__c,.int .i64 a_,.int .i64 b_,.int .i64 c_,.pointer swaps_,.func (.func cmp_f) #[] cmp_v] w R:=
 calls_of mixed Tryz.func222 (by kernel_rfl) rfl (ann:= .leaf) (F:=slices_medianCmpFunc_int.w data__p data__n data__c a_ b_ c_ swaps_ cmp_f cmp_v w) (fun K=>by kernel_rfl) h
def slices_order2CmpFunc_int.w (data__p:Option Addr) (data__n:Nat) (data__c:Nat) (a_:Int) (b_:Int) (swaps_:Option Addr) (cmp_f:FuncId) (cmp_v:Array Value) (w:World) (K:Value→World→Prop):Prop:=
 ixK data__p data__n b_ 1 fun a1=>
 ∃x2,w.drew.cell? a1=some (.int .i64 x2)∧
 ixK data__p data__n a_ 1 fun a3=>
 ∃x4,w.drew.cell? a3=some (.int .i64 x4)∧
 cnd (entB Tryz.prog cmp_f) (Calls Tryz.prog cmp_f (#[]++ #[.int .i64 x2,.int .i64 x4]++cmp_v) w.drew fun e w5=> ∃r6,e= .returned (.int .i64 r6)∧
 cnd (decide (r6< (0:Int)))
 (∃a7,swaps_=some a7∧∃x8,w5.cell? a7=some (.int .i64 x8)∧
   ∃a9,swaps_=some a9∧∃w10,StoreAt a9 0 [.int .i64 (IntKind.i64.wrap (x8+ (1:Int)))] w5 w10∧
   K (.tuple #[.int .i64 b_,.int .i64 a_]) w10)
 (K (.tuple #[.int .i64 a_,.int .i64 b_]) w5)) False
theorem slices_order2CmpFunc_int.calls {data__p data__n data__c a_ b_ swaps_ cmp_f cmp_v w R} (h:slices_order2CmpFunc_int.w data__p data__n data__c a_ b_ swaps_ cmp_f cmp_v w fun v w'=>R (.returned v) w'):Calls Tryz.prog 223 #[.slice data__p data__n data__c,.int .i64 a_,.int .i64 b_,.pointer swaps_,.func (.func cmp_f) #[] cmp_v] w R:=
 calls_of mixed Tryz.func223 (by kernel_rfl) rfl (ann:= .leaf) (F:=slices_order2CmpFunc_int.w data__p data__n data__c a_ b_ swaps_ cmp_f cmp_v w) (fun K=>by kernel_rfl) h
end Go.Proofs.YtenmibfmhccmiaaGreat.W
