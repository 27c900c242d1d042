/- The functions that the statements reach, printed as what the frame asks of them, each checked by the kernel against the loaded text. -/
import Derived.Test.YtddffgjagppimaaGreatGenTs0
namespace Go.Proofs.YtddffgjagppimaaGreat.W
open Go Go.Fw Go.Proofs
open Go.Proofs.Tryz (prog)
open Go.IntKind (i64)
set_option maxRecDepth 100000
def reduce_Due.w (a:Int) (b:Int) (c:Int) (w:World) (K:Value→World→Prop):Prop:=
 Calls prog 88 #[.int .i64 b,.int .i64 c] w fun e w1=> ∃r2,e= .returned (.int .i64 r2)∧
 cnd (decide (r2> (0:Int)))
 (K (.bool (decide (a≥r2))) w1)
 (K (.bool false) w1)
theorem reduce_Due.calls {a b c w R} (h:reduce_Due.w a b c w fun v w'=>R (.returned v) w'):Calls prog 53 #[.int .i64 a,.int .i64 b,.int .i64 c] w R:=
 calls_of mixed Tryz.func53 (by kernel_rfl) rfl (ann:= .leaf) (F:=reduce_Due.w a b c w) (fun K=>by kernel_rfl) h
def cdcl_search_less.w (x0_:Option Addr) (w:World) (K:Value→World→Prop):Prop:=
 ∃a1,x0_=some a1∧∃x2p x2n x2c,w.cell? (a1.add 11)=some (.slice x2p x2n x2c)∧
 ∃I3:Option Addr→Nat→Nat→Int→World→Nat→Prop,(∃k4,I3 none 0 0 0 w k4)∧
 ∀l6p l6n l6c v7 w8 k4 (_:Fr),I3 l6p l6n l6c v7 w8 k4→
 cnd (decide (v7< (x2n:Int)))
  (ixK x2p x2n v7 5 fun a9=>
    ∃x10 x11p x11n x11c x12 x13 x14,CellsAt w8 a9 0 [.int .i64 x10,.slice x11p x11n x11c,.int .i64 x12,.int .i64 x13,.bool x14]∧
    ∀n15 w16,New (.cells #[.int .i64 0,.slice none 0 0,.int .i64 0,.int .i64 0,.bool false] 128) w8 n15 w16→
    ∃w17,StoreAt (Addr.mk n15 0 none) 0 [.int .i64 x10,.slice x11p x11n x11c,.int .i64 x12,.int .i64 x13,.bool x14] w16 w17∧
    ∃W18:World→Prop,W18 w17.drew∧
    ∃a19,x0_=some a19∧∃x20p x20n x20c,AtW W18 (a19.add 11) (.slice x20p x20n x20c)∧
    ∃x21 x22p x22n x22c x23 x24 x25,CellsW W18 (Addr.mk n15 0 none) [.int .i64 x21,.slice x22p x22n x22c,.int .i64 x23,.int .i64 x24,.bool x25]∧
    Calls prog 89 #[.pointer x0_,.agg #[.int .i64 x21,.slice x22p x22n x22c,.int .i64 x23,.int .i64 x24,.bool x25]] w17.drew fun e w26=> ∃r27,e= .returned (.bool r27)∧
    W18 w26∧ixK x20p x20n v7 5 fun a28=>
    ∃w29,StoreAt ((a28.add 2).add 2) 0 [.bool r27] w26 w29∧
    ∃a30,x0_=some a30∧∃x31p x31n x31c,w29.cell? (a30.add 11)=some (.slice x31p x31n x31c)∧
    ixK x31p x31n v7 5 fun a32=>
    ∃x33 x34 x35,CellsAt w29 (a32.add 2) 0 [.int .i64 x33,.int .i64 x34,.bool x35]∧
    ∀n36 w37,New (.cells #[.int .i64 x33,.int .i64 x34,.bool x35] 126) w29 n36 w37→
    ∃w38 r39p r39n r39c,(Builtin.append_ #[131,131] 131 #[.slice l6p l6n l6c,.slice (some (Addr.mk n36 0 none)) 1 1]).run prog w37= .ok (.slice r39p r39n r39c) w38∧
    ∃k5,k5<k4∧I3 r39p r39n r39c (i64.wrap (v7+ (1:Int))) w38 k5)
  (Calls prog 90 #[.slice l6p l6n l6c] w8 fun e w40=> ∃r41p r41n r41c,e= .returned (.slice r41p r41n r41c)∧
    ∃a42,x0_=some a42∧∃x43p x43n x43c,w40.cell? (a42.add 11)=some (.slice x43p x43n x43c)∧
    ∃I44:Option Addr→Nat→Nat→Int→World→Nat→Prop,(∃k45,I44 none 0 0 0 w40 k45)∧
    ∀l47p l47n l47c v48 w49 k45 (_:Fr),I44 l47p l47n l47c v48 w49 k45→
    cnd (decide (v48< (x43n:Int)))
     (ixK x43p x43n v48 5 fun a50=>
       ∃x51 x52p x52n x52c x53 x54 x55,CellsAt w49 a50 0 [.int .i64 x51,.slice x52p x52n x52c,.int .i64 x53,.int .i64 x54,.bool x55]∧
       ∀n56 w57,New (.cells #[.int .i64 0,.slice none 0 0,.int .i64 0,.int .i64 0,.bool false] 128) w49 n56 w57→
       ∃w58,StoreAt (Addr.mk n56 0 none) 0 [.int .i64 x51,.slice x52p x52n x52c,.int .i64 x53,.int .i64 x54,.bool x55] w57 w58∧
       ixK r41p r41n v48 1 fun a59=>
       ∃x60,w58.drew.cell? a59=some (.bool x60)∧
       cnd x60
       (∃x61 x62p x62n x62c x63 x64 x65,CellsAt w58.drew (Addr.mk n56 0 none) 0 [.int .i64 x61,.slice x62p x62n x62c,.int .i64 x63,.int .i64 x64,.bool x65]∧
       ∀n66 w67,New (.cells #[.int .i64 x61,.slice x62p x62n x62c,.int .i64 x63,.int .i64 x64,.bool x65] 128) w58.drew n66 w67→
       ∃w68 r69p r69n r69c,(Builtin.append_ #[64,64] 64 #[.slice l47p l47n l47c,.slice (some (Addr.mk n66 0 none)) 1 1]).run prog w67= .ok (.slice r69p r69n r69c) w68∧
       ∃k46,k46<k45∧I44 r69p r69n r69c (i64.wrap (v48+ (1:Int))) w68 k46)
       (∃a70,x0_=some a70∧∃x71,w58.drew.cell? (a70.add 5)=some (.pointer x71)∧
       ∃x72,w58.drew.cell? ((Addr.mk n56 0 none).add 0)=some (.int .i64 x72)∧
       Calls prog 91 #[.pointer x71,.int .i64 x72] w58.drew fun e w73=> ∃r74,e= .returned (.int .i64 r74)∧
       cnd (r74 !=(0:Int))
       (∃x75 x76p x76n x76c x77 x78 x79,CellsAt w73 (Addr.mk n56 0 none) 0 [.int .i64 x75,.slice x76p x76n x76c,.int .i64 x77,.int .i64 x78,.bool x79]∧
         ∀n80 w81,New (.cells #[.int .i64 x75,.slice x76p x76n x76c,.int .i64 x77,.int .i64 x78,.bool x79] 128) w73 n80 w81→
         ∃w82 r83p r83n r83c,(Builtin.append_ #[64,64] 64 #[.slice l47p l47n l47c,.slice (some (Addr.mk n80 0 none)) 1 1]).run prog w81= .ok (.slice r83p r83n r83c) w82∧
         ∃k46,k46<k45∧I44 r83p r83n r83c (i64.wrap (v48+ (1:Int))) w82 k46)
       (∃W84:World→Prop,W84 w73.drew∧
         ∃a85,x0_=some a85∧∃x86p x86n x86c,AtW W84 ((a85.add 14).add 2) (.slice x86p x86n x86c)∧
         ∃x87p x87n x87c,AtW W84 ((Addr.mk n56 0 none).add 1) (.slice x87p x87n x87c)∧
         Calls prog 45 #[.slice x87p x87n x87c] w73.drew fun e w88=> ∃r89p r89n r89c,e= .returned (.slice r89p r89n r89c)∧
         W84 w88∧∀n90 w91,New (.cells #[.bool true,.slice r89p r89n r89c] 100) w88 n90 w91→
         W84 w91∧∃w92 r93p r93n r93c,(Builtin.append_ #[34,34] 34 #[.slice x86p x86n x86c,.slice (some (Addr.mk n90 0 none)) 1 1]).run prog w91= .ok (.slice r93p r93n r93c) w92∧
         ∃a94,x0_=some a94∧∃w95,StoreAt ((a94.add 14).add 2) 0 [.slice r93p r93n r93c] w92 w95∧
         ∃a96,x0_=some a96∧∃x97,w95.cell? ((a96.add 14).add 6)=some (.int .i64 x97)∧
         ∃a98,x0_=some a98∧∃w99,StoreAt ((a98.add 14).add 6) 0 [.int .i64 (i64.wrap (x97+ (1:Int)))] w95 w99∧
         ∃k46,k46<k45∧I44 l47p l47n l47c (i64.wrap (v48+ (1:Int))) w99 k46)))
     (∃a100,x0_=some a100∧∃w101,StoreAt (a100.add 11) 0 [.slice l47p l47n l47c] w49 w101∧
       ∃a102,x0_=some a102∧∃x103,w101.cell? (a102.add 13)=some (.int .i64 x103)∧
       ∃a104,x0_=some a104∧∃w105,StoreAt (a104.add 13) 0 [.int .i64 (imin (i64.wrap (x103+ (1:Int))) 100)] w101 w105∧
       K (.tuple #[]) w105))
theorem cdcl_search_less.calls {x0_ w R} (h:cdcl_search_less.w x0_ w fun v w'=>R (.returned v) w'):Calls prog 54 #[.pointer x0_] w R:=
 calls_of mixed Tryz.func54 (by kernel_rfl) rfl (ann:=(.two .leaf (.two (.two .leaf (.one (.loop [(2,131),(14,3)] (.two .leaf (.two .leaf (.two (.one (.two .leaf (.two .draw .leaf))) .leaf)))))) (.two .leaf (.two .leaf (.two (.two .leaf (.one (.loop [(6,64),(49,3)] (.two .leaf (.two .leaf (.two (.one (.two .leaf (.two .leaf (.two .draw .leaf)))) .leaf)))))) .leaf)))))) (F:=cdcl_search_less.w x0_ w) (fun K=>by kernel_rfl) h
def aig_input.w (w:World) (K:Value→World→Prop):Prop:=
 ∀n1 w2,New (.cells #[.int .i64 0,.int .i64 0] 43) w n1 w2→
 ∃w3,StoreAt (Addr.mk n1 0 none) 0 [.int .i64 (-1),.int .i64 (-1)] w2 w3∧
 ∃x4 x5,CellsAt w3 (Addr.mk n1 0 none) 0 [.int .i64 x4,.int .i64 x5]∧
 K (.agg #[.int .i64 x4,.int .i64 x5]) w3
theorem aig_input.calls {w R} (h:aig_input.w w fun v w'=>R (.returned v) w'):Calls prog 55 #[] w R:=
 calls_of mixed Tryz.func55 (by kernel_rfl) rfl (ann:= .leaf) (F:=aig_input.w w) (fun K=>by kernel_rfl) h
def lit_is.w (l_:Int) (w:World) (K:Value→World→Prop):Prop:=
 cnd (l_ !=(0:Int))
 (cnd (decide (l_≥(-1048576)))
 (K (.bool (decide (l_≤(1048576:Int)))) w)
 (K (.bool false) w))
 (K (.bool false) w)
theorem lit_is.calls {l_ w R} (h:lit_is.w l_ w fun v w'=>R (.returned v) w'):Calls prog 56 #[.int .i64 l_] w R:=
 calls_of mixed Tryz.func56 (by kernel_rfl) rfl (ann:= .leaf) (F:=lit_is.w l_ w) (fun K=>by kernel_rfl) h
def slices_IndexFunc_int_int.w (a:Option Addr) (b:Nat) (c:Nat) (f_f:FuncId) (f_v:Array Value) (w:World) (K:Value→World→Prop):Prop:=
 ∃I1:Int→World→Nat→Prop,(∃k2,I1 0 w k2)∧
 ∀v4 w5 k2 (_:Fr),I1 v4 w5 k2→
 cnd (decide (v4< (b:Int)))
  (ixK a b v4 1 fun a6=>
    ∃x7,w5.cell? a6=some (.int .i64 x7)∧
    cnd (entB prog f_f) (Calls prog f_f (#[]++ #[.int .i64 x7]++f_v) w5 fun e w8=> ∃r9,e= .returned (.bool r9)∧
    cnd r9
    (K (.int .i64 v4) w8)
    (∃k3,k3<k2∧I1 (i64.wrap (v4+ (1:Int))) w8 k3)) False)
  (K (.int .i64 (-1)) w5)
theorem slices_IndexFunc_int_int.calls {a b c f_f f_v w R} (h:slices_IndexFunc_int_int.w a b c f_f f_v w fun v w'=>R (.returned v) w'):Calls prog 57 #[.slice a b c,.func (.func f_f) #[] f_v] w R:=
 calls_of mixed Tryz.func57 (by kernel_rfl) rfl (ann:=(.two .leaf (.two (.two .leaf (.one (.loop [(8,3)] .leaf))) .leaf))) (F:=slices_IndexFunc_int_int.w a b c f_f f_v w) (fun K=>by kernel_rfl) h
def lit_Check_1.w (l_:Int) (w:World) (K:Value→World→Prop):Prop:=
 Calls prog 56 #[.int .i64 l_] w fun e w1=> ∃r2,e= .returned (.bool r2)∧
 K (.bool (!r2)) w1
theorem lit_Check_1.calls {l_ w R} (h:lit_Check_1.w l_ w fun v w'=>R (.returned v) w'):Calls prog 58 #[.int .i64 l_] w R:=
 calls_of mixed Tryz.func58 (by kernel_rfl) rfl (ann:= .leaf) (F:=lit_Check_1.w l_ w) (fun K=>by kernel_rfl) h
def prop_Prop_Add_1.w (l_:Int) (c0_:Addr) (w:World) (K:Value→World→Prop):Prop:=
 ∃x1,w.cell? c0_=some (.pointer x1)∧
 Calls prog 60 #[.pointer x1,.int .i64 l_] w fun e w2=> ∃r3,e= .returned (.bool r3)∧
 K (.bool (!r3)) w2
theorem prop_Prop_Add_1.calls {l_ c0_ w R} (h:prop_Prop_Add_1.w l_ c0_ w fun v w'=>R (.returned v) w'):Calls prog 59 #[.int .i64 l_,.pointer (some c0_)] w R:=
 calls_of mixed Tryz.func59 (by kernel_rfl) rfl (ann:= .leaf) (F:=prop_Prop_Add_1.w l_ c0_ w) (fun K=>by kernel_rfl) h
def prop_Prop_is.w (p_:Option Addr) (l_:Int) (w:World) (K:Value→World→Prop):Prop:=
 ∃W1:World→Prop,W1 w.drew∧
 cnd (!p_.isNone)
 (∃a2,p_=some a2∧∃x3p x3n x3c,AtW W1 (a2.add 3) (.slice x3p x3n x3c)∧
 cnd (!x3p.isNone)
 (∀n4 w5,New (.cells #[.int .i64 l_] 3) w.drew n4 w5→
 W1 w5∧Calls prog 35 #[.slice (some (Addr.mk n4 0 none)) 1 1] w5 fun e w6=> ∃r7,e= .returned (.int .i64 r7)∧
 W1 w6∧cnd (r7==(0:Int))
 (Calls prog 92 #[.int .i64 l_] w6 fun e w8=> ∃r9,e= .returned (.int .i64 r9)∧
 W1 w8∧∃a10,p_=some a10∧∃x11,AtW W1 (a10.add 0) (.int .i64 x11)∧
 K (.bool (decide (r9≤x11))) w8)
 (K (.bool false) w6))
 (K (.bool false) w.drew))
 (K (.bool false) w.drew)
theorem prop_Prop_is.calls {p_ l_ w R} (h:prop_Prop_is.w p_ l_ w fun v w'=>R (.returned v) w'):Calls prog 60 #[.pointer p_,.int .i64 l_] w R:=
 calls_of mixed Tryz.func60 (by kernel_rfl) rfl (ann:=(.two .leaf (.two .draw .leaf))) (F:=prop_Prop_is.w p_ l_ w) (fun K=>by kernel_rfl) h
def lit_Norm.w (a:Option Addr) (b:Nat) (c:Nat) (w:World) (K:Value→World→Prop):Prop:=
 Calls prog 35 #[.slice a b c] w fun e w1=> ∃r2,e= .returned (.int .i64 r2)∧
 cnd (r2 !=(0:Int))
 (K (.tuple #[.slice none 0 0,.bool false]) w1)
 (Calls prog 45 #[.slice a b c] w1 fun e w3=> ∃r4p r4n r4c,e= .returned (.slice r4p r4n r4c)∧
   Calls prog 93 #[.slice r4p r4n r4c,.func (.func 94) #[] #[]] w3 fun e w5=>e= .returned (.tuple #[])∧
   Calls prog 95 #[.slice r4p r4n r4c] w5 fun e w6=> ∃r7p r7n r7c,e= .returned (.slice r7p r7n r7c)∧
   ∃I8:Int→World→Nat→Prop,(∃k9,I8 1 w6 k9)∧
   ∀i_11 w12 k9 (_:Fr),I8 i_11 w12 k9→
   cnd (decide (i_11< (r7n:Int)))
    (ixK r7p r7n i_11 1 fun a13=>
      ∃x14,w12.drew.cell? a13=some (.int .i64 x14)∧
      ixK r7p r7n (i64.wrap (i_11 - (1:Int))) 1 fun a15=>
      ∃x16,w12.drew.cell? a15=some (.int .i64 x16)∧
      cnd (x14==(i64.wrap (0 - x16)))
      (K (.tuple #[.slice r7p r7n r7c,.bool true]) w12.drew)
      (∃k10,k10<k9∧I8 (i64.wrap (i_11+ (1:Int))) w12.drew k10))
    (K (.tuple #[.slice r7p r7n r7c,.bool false]) w12))
theorem lit_Norm.calls {a b c w R} (h:lit_Norm.w a b c w fun v w'=>R (.returned v) w'):Calls prog 61 #[.slice a b c] w R:=
 calls_of mixed Tryz.func61 (by kernel_rfl) rfl (ann:=(.two .leaf (.two .leaf (.two .leaf (.two .leaf (.two .leaf (.two (.two .leaf (.one (.loop [(5,3)] .leaf))) .leaf))))))) (F:=lit_Norm.w a b c w) (fun K=>by kernel_rfl) h
def prop_Prop_settle.w (p_:Option Addr) (i_:Int) (w:World) (K:Value→World→Prop):Prop:=
 ∃a1,p_=some a1∧∃x2p x2n x2c,w.cell? (a1.add 1)=some (.slice x2p x2n x2c)∧
 ixK x2p x2n i_ 3 fun a3=>
 ∃x4p x4n x4c,w.cell? (a3.add 1)=some (.slice x4p x4n x4c)∧
 ∃I5:Int→World→Nat→Prop,(∃k6,I5 0 w k6)∧
 ∀k_8 w9 k6 (_:Fr),I5 k_8 w9 k6→
 cnd (decide (k_8< (imin 2 (x4n:Int))))
  (∃I10:Int→Int→World→Nat→Prop,(∃k11,I10 k_8 (i64.wrap (k_8+ (1:Int))) w9 k11)∧
    ∀b_13 j_14 w15 k11 (_:Fr),I10 b_13 j_14 w15 k11→
    cnd (decide (j_14< (x4n:Int)))
     (∃W16:World→Prop,W16 w15.drew∧
       ixK x4p x4n j_14 1 fun a17=>
       ∃x18,AtW W16 a17 (.int .i64 x18)∧
       Calls prog 96 #[.pointer p_,.int .i64 x18] w15.drew fun e w19=> ∃r20,e= .returned (.int .i64 r20)∧
       W16 w19∧ixK x4p x4n b_13 1 fun a21=>
       ∃x22,AtW W16 a21 (.int .i64 x22)∧
       Calls prog 96 #[.pointer p_,.int .i64 x22] w19 fun e w23=> ∃r24,e= .returned (.int .i64 r24)∧
       cnd (decide (r20>r24))
       (∃k12,k12<k11∧I10 j_14 (i64.wrap (j_14+ (1:Int))) w23 k12)
       (∃k12,k12<k11∧I10 b_13 (i64.wrap (j_14+ (1:Int))) w23 k12))
     (ixK x4p x4n b_13 1 fun a25=>
       ∃x26,w15.drew.cell? a25=some (.int .i64 x26)∧
       ixK x4p x4n k_8 1 fun a27=>
       ∃x28,w15.drew.cell? a27=some (.int .i64 x28)∧
       ixK x4p x4n k_8 1 fun a29=>
       ∃w30,StoreAt a29 0 [.int .i64 x26] w15.drew w30∧
       ixK x4p x4n b_13 1 fun a31=>
       ∃w32,StoreAt a31 0 [.int .i64 x28] w30 w32∧
       ∃k7,k7<k6∧I5 (i64.wrap (k_8+ (1:Int))) w32 k7))
  (slK x4p x4n x4c 1 none (some (imin 2 (x4n:Int))) none fun s33p s33n s33c=>
    ∃I34:Int→World→Nat→Prop,(∃k35,I34 0 w9 k35)∧
    ∀v37 w38 k35 (_:Fr),I34 v37 w38 k35→
    cnd (decide (v37< (s33n:Int)))
     (ixK s33p s33n v37 1 fun a39=>
       ∃x40,w38.cell? a39=some (.int .i64 x40)∧
       ∃W41:World→Prop,W41 w38.drew∧
       ∃a42,p_=some a42∧∃x43p x43n x43c,AtW W41 (a42.add 2) (.slice x43p x43n x43c)∧
       ∃a44,p_=some a44∧∃x45p x45n x45c,AtW W41 (a44.add 2) (.slice x45p x45n x45c)∧
       (Calls prog 40 #[.int .i64 x40] w38.drew fun e w46=> ∃r47,e= .returned (.int .i64 r47)∧
       W41 w46∧(Calls prog 40 #[.int .i64 x40] w46 fun e w48=> ∃r49,e= .returned (.int .i64 r49)∧
       W41 w48∧ixK x45p x45n r49 1 fun a50=>
       ∃x51p x51n x51c,AtW W41 a50 (.slice x51p x51n x51c)∧
       ∀n52 w53,New (.cells #[.int .i64 i_] 3) w48 n52 w53→
       W41 w53∧∃w54 r55p r55n r55c,(Builtin.append_ #[28,28] 28 #[.slice x51p x51n x51c,.slice (some (Addr.mk n52 0 none)) 1 1]).run prog w53= .ok (.slice r55p r55n r55c) w54∧
       W41 w54∧ixK x43p x43n r47 1 fun a56=>
       ∃w57,StoreAt a56 0 [.slice r55p r55n r55c] w54 w57∧
       ∃k36,k36<k35∧I34 (i64.wrap (v37+ (1:Int))) w57 k36)∧
     (∀n58 w59,New (.cells #[.int .i64 i_] 3) w46 n58 w59→
       W41 w59∧Calls prog 40 #[.int .i64 x40] w59 fun e w60=> ∃r61,e= .returned (.int .i64 r61)∧
       W41 w60∧ixK x45p x45n r61 1 fun a62=>
       ∃x63p x63n x63c,AtW W41 a62 (.slice x63p x63n x63c)∧
       ∃w64 r65p r65n r65c,(Builtin.append_ #[28,28] 28 #[.slice x63p x63n x63c,.slice (some (Addr.mk n58 0 none)) 1 1]).run prog w60= .ok (.slice r65p r65n r65c) w64∧
       W41 w64∧ixK x43p x43n r47 1 fun a66=>
       ∃w67,StoreAt a66 0 [.slice r65p r65n r65c] w64 w67∧
       ∃k36,k36<k35∧I34 (i64.wrap (v37+ (1:Int))) w67 k36))∧
     (∀n68 w69,New (.cells #[.int .i64 i_] 3) w38.drew n68 w69→
       W41 w69∧Calls prog 40 #[.int .i64 x40] w69 fun e w70=> ∃r71,e= .returned (.int .i64 r71)∧
       W41 w70∧Calls prog 40 #[.int .i64 x40] w70 fun e w72=> ∃r73,e= .returned (.int .i64 r73)∧
       W41 w72∧ixK x45p x45n r73 1 fun a74=>
       ∃x75p x75n x75c,AtW W41 a74 (.slice x75p x75n x75c)∧
       ∃w76 r77p r77n r77c,(Builtin.append_ #[28,28] 28 #[.slice x75p x75n x75c,.slice (some (Addr.mk n68 0 none)) 1 1]).run prog w72= .ok (.slice r77p r77n r77c) w76∧
       W41 w76∧ixK x43p x43n r71 1 fun a78=>
       ∃w79,StoreAt a78 0 [.slice r77p r77n r77c] w76 w79∧
       ∃k36,k36<k35∧I34 (i64.wrap (v37+ (1:Int))) w79 k36))
     (cnd (decide ((x4n:Int)< (2:Int)))
       (∃a80,p_=some a80∧∃x81p x81n x81c,w38.cell? (a80.add 10)=some (.slice x81p x81n x81c)∧
       ∀n82 w83,New (.cells #[.int .i64 i_] 3) w38 n82 w83→
       ∃w84 r85p r85n r85c,(Builtin.append_ #[28,28] 28 #[.slice x81p x81n x81c,.slice (some (Addr.mk n82 0 none)) 1 1]).run prog w83= .ok (.slice r85p r85n r85c) w84∧
       ∃a86,p_=some a86∧∃w87,StoreAt (a86.add 10) 0 [.slice r85p r85n r85c] w84 w87∧
       K (.tuple #[]) w87)
       (ixK x4p x4n 1 1 fun a88=>
       ∃x89,w38.cell? a88=some (.int .i64 x89)∧
       Calls prog 65 #[.pointer p_,.int .i64 x89] w38 fun e w90=> ∃r91,e= .returned (.int .i8 r91)∧
       cnd (decide (r91< (0:Int)))
       (∃a92,p_=some a92∧∃x93p x93n x93c,w90.cell? (a92.add 10)=some (.slice x93p x93n x93c)∧
         ∀n94 w95,New (.cells #[.int .i64 i_] 3) w90 n94 w95→
         ∃w96 r97p r97n r97c,(Builtin.append_ #[28,28] 28 #[.slice x93p x93n x93c,.slice (some (Addr.mk n94 0 none)) 1 1]).run prog w95= .ok (.slice r97p r97n r97c) w96∧
         ∃a98,p_=some a98∧∃w99,StoreAt (a98.add 10) 0 [.slice r97p r97n r97c] w96 w99∧
         K (.tuple #[]) w99)
       (K (.tuple #[]) w90))))
theorem prop_Prop_settle.calls {p_ i_ w R} (h:prop_Prop_settle.w p_ i_ w fun v w'=>R (.returned v) w'):Calls prog 62 #[.pointer p_,.int .i64 i_] w R:=
 calls_of mixed Tryz.func62 (by kernel_rfl) rfl (ann:=(.two .leaf (.two (.two .leaf (.one (.loop [(5,3)] (.two .leaf (.two (.one (.two .leaf (.two (.two .leaf (.one (.loop [(6,3),(7,3)] (.two .leaf (.two (.one (.two .draw .leaf)) .leaf))))) .leaf))) .leaf))))) (.two (.two .leaf (.one (.loop [(68,3)] (.two .leaf (.two .leaf (.two (.one (.two .leaf .draw)) .leaf)))))) .leaf)))) (F:=prop_Prop_settle.w p_ i_ w) (fun K=>by kernel_rfl) h
def slices_DeleteFunc_int_int.w (a:Option Addr) (b:Nat) (c:Nat) (d:FuncId) (f:Array Value) (w:World) (K:Value→World→Prop):Prop:=
 Calls prog 57 #[.slice a b c,.func (.func d) #[] f] w fun e w1=> ∃r2,e= .returned (.int .i64 r2)∧
 cnd (r2==(-1))
 (K (.slice a b c) w1)
 (∃I3:Int→Int→World→Nat→Prop,(∃k4,I3 r2 (i64.wrap (r2+ (1:Int))) w1 k4)∧
   ∀i_6 j_7 w8 k4 (_:Fr),I3 i_6 j_7 w8 k4→
   cnd (decide (j_7< (b:Int)))
    (ixK a b j_7 1 fun a9=>
      ∃x10,w8.cell? a9=some (.int .i64 x10)∧
      cnd (entB prog d) (Calls prog d (#[]++ #[.int .i64 x10]++f) w8 fun e w11=> ∃r12,e= .returned (.bool r12)∧
      cnd (!r12)
      (ixK a b i_6 1 fun a13=>
        ∃w14,StoreAt a13 0 [.int .i64 x10] w11 w14∧
        ∃k5,k5<k4∧I3 (i64.wrap (i_6+ (1:Int))) (i64.wrap (j_7+ (1:Int))) w14 k5)
      (∃k5,k5<k4∧I3 i_6 (i64.wrap (j_7+ (1:Int))) w11 k5)) False)
    (slK a b c 1 (some i_6) none none fun s15p s15n s15c=>
      ∃w16,(Builtin.clear_ #[28] 0 #[.slice s15p s15n s15c]).run prog w8= .ok (.tuple #[]) w16∧
      slK a b c 1 none (some i_6) none fun s17p s17n s17c=>
      K (.slice s17p s17n s17c) w16))
theorem slices_DeleteFunc_int_int.calls {a b c d f w R} (h:slices_DeleteFunc_int_int.w a b c d f w fun v w'=>R (.returned v) w'):Calls prog 63 #[.slice a b c,.func (.func d) #[] f] w R:=
 calls_of mixed Tryz.func63 (by kernel_rfl) rfl (ann:=(.two .leaf (.two .leaf (.two .leaf (.two (.two .leaf (.one (.loop [(5,3),(6,3)] .leaf))) .leaf))))) (F:=slices_DeleteFunc_int_int.w a b c d f w) (fun K=>by kernel_rfl) h
def prop_Prop_loosely_1.w (x0_:Int) (c0_:Addr) (w:World) (K:Value→World→Prop):Prop:=
 ∃x1,w.cell? c0_=some (.pointer x1)∧
 Calls prog 65 #[.pointer x1,.int .i64 x0_] w fun e w2=> ∃r3,e= .returned (.int .i8 r3)∧
 K (.bool (decide (r3< (0:Int)))) w2
theorem prop_Prop_loosely_1.calls {x0_ c0_ w R} (h:prop_Prop_loosely_1.w x0_ c0_ w fun v w'=>R (.returned v) w'):Calls prog 64 #[.int .i64 x0_,.pointer (some c0_)] w R:=
 calls_of mixed Tryz.func64 (by kernel_rfl) rfl (ann:= .leaf) (F:=prop_Prop_loosely_1.w x0_ c0_ w) (fun K=>by kernel_rfl) h
def prop_Prop_val.w (p_:Option Addr) (l_:Int) (w:World) (K:Value→World→Prop):Prop:=
 cnd (decide (l_< (0:Int)))
 (∃a1,p_=some a1∧∃x2p x2n x2c,w.cell? (a1.add 3)=some (.slice x2p x2n x2c)∧
   ixK x2p x2n (i64.wrap (0 - l_)) 1 fun a3=>
   ∃x4,w.cell? a3=some (.int .i8 x4)∧
   K (.int .i8 (IntKind.i8.wrap (0 - x4))) w)
 (∃a5,p_=some a5∧∃x6p x6n x6c,w.cell? (a5.add 3)=some (.slice x6p x6n x6c)∧
   ixK x6p x6n l_ 1 fun a7=>
   ∃x8,w.cell? a7=some (.int .i8 x8)∧
   K (.int .i8 x8) w)
theorem prop_Prop_val.calls {p_ l_ w R} (h:prop_Prop_val.w p_ l_ w fun v w'=>R (.returned v) w'):Calls prog 65 #[.pointer p_,.int .i64 l_] w R:=
 calls_of mixed Tryz.func65 (by kernel_rfl) rfl (ann:= .leaf) (F:=prop_Prop_val.w p_ l_ w) (fun K=>by kernel_rfl) h
def prop_Prop_unwatch.w (p_:Option Addr) (i_:Int) (w:World) (K:Value→World→Prop):Prop:=
 ∀n1 w2,New (.cells #[.int .i64 i_] 3) w n1 w2→
 ∃a3,p_=some a3∧∃x4p x4n x4c,w2.drew.cell? (a3.add 1)=some (.slice x4p x4n x4c)∧
 ∃x5,w2.drew.cell? (Addr.mk n1 0 none)=some (.int .i64 x5)∧
 ixK x4p x4n x5 3 fun a6=>
 ∃x7p x7n x7c,w2.drew.cell? (a6.add 1)=some (.slice x7p x7n x7c)∧
 slK x7p x7n x7c 1 none (some (imin 2 (x7n:Int))) none fun s8p s8n s8c=>
 ∃I9:Int→World→Nat→Prop,(∃k10,I9 0 w2.drew k10)∧
 ∀v12 w13 k10 (_:Fr),I9 v12 w13 k10→
 cnd (decide (v12< (s8n:Int)))
  (ixK s8p s8n v12 1 fun a14=>
    ∃x15,w13.cell? a14=some (.int .i64 x15)∧
    ∃W16:World→Prop,W16 w13.drew∧
    ∃a17,p_=some a17∧∃x18p x18n x18c,AtW W16 (a17.add 2) (.slice x18p x18n x18c)∧
    Calls prog 40 #[.int .i64 x15] w13.drew fun e w19=> ∃r20,e= .returned (.int .i64 r20)∧
    W16 w19∧ixK x18p x18n r20 1 fun a21=>
    ∃x22p x22n x22c,AtW W16 a21 (.slice x22p x22n x22c)∧
    ∃W23:World→Prop,W23 w19.drew∧
    ∃a24,p_=some a24∧∃x25p x25n x25c,AtW W23 (a24.add 2) (.slice x25p x25n x25c)∧
    Calls prog 40 #[.int .i64 x15] w19.drew fun e w26=> ∃r27,e= .returned (.int .i64 r27)∧
    W23 w26∧Calls prog 63 #[.slice x22p x22n x22c,.func (.func 97) #[] #[.pointer (some (Addr.mk n1 0 none))]] w26 fun e w28=> ∃r29p r29n r29c,e= .returned (.slice r29p r29n r29c)∧
    W23 w28∧ixK x25p x25n r27 1 fun a30=>
    ∃w31,StoreAt a30 0 [.slice r29p r29n r29c] w28 w31∧
    ∃k11,k11<k10∧I9 (i64.wrap (v12+ (1:Int))) w31 k11)
  (K (.tuple #[]) w13)
theorem prop_Prop_unwatch.calls {p_ i_ w R} (h:prop_Prop_unwatch.w p_ i_ w fun v w'=>R (.returned v) w'):Calls prog 66 #[.pointer p_,.int .i64 i_] w R:=
 calls_of mixed Tryz.func66 (by kernel_rfl) rfl (ann:=(.two .leaf (.two .leaf (.two .leaf (.one (.loop [(22,3)] (.two .leaf (.two .leaf (.two (.one (.two .leaf (.two .draw .draw))) .leaf))))))))) (F:=prop_Prop_unwatch.w p_ i_ w) (fun K=>by kernel_rfl) h
def prop_Prop_again.w (p_:Option Addr) (i_:Int) (w:World) (K:Value→World→Prop):Prop:=
 ∃a1,p_=some a1∧∃x2p x2n x2c,w.cell? (a1.add 10)=some (.slice x2p x2n x2c)∧
 Calls prog 62 #[.pointer p_,.int .i64 i_] w fun e w3=>e= .returned (.tuple #[])∧
 ∃a4,p_=some a4∧∃w5,StoreAt (a4.add 10) 0 [.slice x2p x2n x2c] w3 w5∧
 K (.tuple #[]) w5
theorem prop_Prop_again.calls {p_ i_ w R} (h:prop_Prop_again.w p_ i_ w fun v w'=>R (.returned v) w'):Calls prog 67 #[.pointer p_,.int .i64 i_] w R:=
 calls_of mixed Tryz.func67 (by kernel_rfl) rfl (ann:= .leaf) (F:=prop_Prop_again.w p_ i_ w) (fun K=>by kernel_rfl) h
def prop_Prop_put.w (p_:Option Addr) (l_:Int) (a:Int) (w:World) (K:Value→World→Prop):Prop:=
 ∃W1:World→Prop,W1 w.drew∧
 ∃a2,p_=some a2∧∃x3p x3n x3c,AtW W1 (a2.add 3) (.slice x3p x3n x3c)∧
 Calls prog 92 #[.int .i64 l_] w.drew fun e w4=> ∃r5,e= .returned (.int .i64 r5)∧
 W1 w4∧ixK x3p x3n r5 1 fun a6=>
 ∃w7,StoreAt a6 0 [.int .i8 1] w4 w7∧
 cnd (decide (l_< (0:Int)))
 (∃a8,p_=some a8∧∃x9p x9n x9c,w7.cell? (a8.add 3)=some (.slice x9p x9n x9c)∧
   ixK x9p x9n (i64.wrap (0 - l_)) 1 fun a10=>
   ∃w11,StoreAt a10 0 [.int .i8 (-1)] w7 w11∧
   ∃W12:World→Prop,W12 w11.drew∧
   ∃a13,p_=some a13∧∃x14p x14n x14c,AtW W12 (a13.add 4) (.slice x14p x14n x14c)∧
   Calls prog 92 #[.int .i64 l_] w11.drew fun e w15=> ∃r16,e= .returned (.int .i64 r16)∧
   W12 w15∧∃a17,p_=some a17∧∃x18p x18n x18c,AtW W12 (a17.add 5) (.slice x18p x18n x18c)∧
   Calls prog 92 #[.int .i64 l_] w15 fun e w19=> ∃r20,e= .returned (.int .i64 r20)∧
   W12 w19∧∃a21,p_=some a21∧∃x22p x22n x22c,AtW W12 (a21.add 7) (.slice x22p x22n x22c)∧
   ixK x14p x14n r16 1 fun a23=>
   ∃w24,StoreAt a23 0 [.int .i64 (x22n:Int)] w19 w24∧
   ixK x18p x18n r20 1 fun a25=>
   ∃w26,StoreAt a25 0 [.int .i64 a] w24 w26∧
   ∃a27,p_=some a27∧∃x28p x28n x28c,w26.cell? (a27.add 6)=some (.slice x28p x28n x28c)∧
   ∀n29 w30,New (.cells #[.int .i64 l_] 3) w26 n29 w30→
   ∃w31 r32p r32n r32c,(Builtin.append_ #[28,28] 28 #[.slice x28p x28n x28c,.slice (some (Addr.mk n29 0 none)) 1 1]).run prog w30= .ok (.slice r32p r32n r32c) w31∧
   ∃a33,p_=some a33∧∃w34,StoreAt (a33.add 6) 0 [.slice r32p r32n r32c] w31 w34∧
   K (.tuple #[]) w34)
 (∃W35:World→Prop,W35 w7.drew∧
   ∃a36,p_=some a36∧∃x37p x37n x37c,AtW W35 (a36.add 4) (.slice x37p x37n x37c)∧
   Calls prog 92 #[.int .i64 l_] w7.drew fun e w38=> ∃r39,e= .returned (.int .i64 r39)∧
   W35 w38∧∃a40,p_=some a40∧∃x41p x41n x41c,AtW W35 (a40.add 5) (.slice x41p x41n x41c)∧
   Calls prog 92 #[.int .i64 l_] w38 fun e w42=> ∃r43,e= .returned (.int .i64 r43)∧
   W35 w42∧∃a44,p_=some a44∧∃x45p x45n x45c,AtW W35 (a44.add 7) (.slice x45p x45n x45c)∧
   ixK x37p x37n r39 1 fun a46=>
   ∃w47,StoreAt a46 0 [.int .i64 (x45n:Int)] w42 w47∧
   ixK x41p x41n r43 1 fun a48=>
   ∃w49,StoreAt a48 0 [.int .i64 a] w47 w49∧
   ∃a50,p_=some a50∧∃x51p x51n x51c,w49.cell? (a50.add 6)=some (.slice x51p x51n x51c)∧
   ∀n52 w53,New (.cells #[.int .i64 l_] 3) w49 n52 w53→
   ∃w54 r55p r55n r55c,(Builtin.append_ #[28,28] 28 #[.slice x51p x51n x51c,.slice (some (Addr.mk n52 0 none)) 1 1]).run prog w53= .ok (.slice r55p r55n r55c) w54∧
   ∃a56,p_=some a56∧∃w57,StoreAt (a56.add 6) 0 [.slice r55p r55n r55c] w54 w57∧
   K (.tuple #[]) w57)
theorem prop_Prop_put.calls {p_ l_ a w R} (h:prop_Prop_put.w p_ l_ a w fun v w'=>R (.returned v) w'):Calls prog 68 #[.pointer p_,.int .i64 l_,.int .i64 a] w R:=
 calls_of mixed Tryz.func68 (by kernel_rfl) rfl (ann:=(.two .draw (.two .leaf (.two .draw .leaf)))) (F:=prop_Prop_put.w p_ l_ a w) (fun K=>by kernel_rfl) h
def heap_Heap_Best.w (h_:Option Addr) (w:World) (K:Value→World→Prop):Prop:=
 Calls prog 98 #[.pointer h_] w fun e w1=> ∃r2,e= .returned (.int .i64 r2)∧
 cnd (r2==(0:Int))
 (K (.tuple #[.int .i64 0,.bool false]) w1)
 (∃a3,h_=some a3∧∃x4p x4n x4c,w1.cell? (a3.add 0)=some (.slice x4p x4n x4c)∧
   ixK x4p x4n 0 1 fun a5=>
   ∃x6,w1.cell? a5=some (.int .i64 x6)∧
   K (.tuple #[.int .i64 x6,.bool true]) w1)
theorem heap_Heap_Best.calls {h_ w R} (h:heap_Heap_Best.w h_ w fun v w'=>R (.returned v) w'):Calls prog 69 #[.pointer h_] w R:=
 calls_of mixed Tryz.func69 (by kernel_rfl) rfl (ann:= .leaf) (F:=heap_Heap_Best.w h_ w) (fun K=>by kernel_rfl) h
def heap_Heap_put.w (h_:Option Addr) (i_:Int) (v_:Int) (w:World) (K:Value→World→Prop):Prop:=
 ∃a1,h_=some a1∧∃x2p x2n x2c,w.cell? (a1.add 0)=some (.slice x2p x2n x2c)∧
 ixK x2p x2n i_ 1 fun a3=>
 ∃w4,StoreAt a3 0 [.int .i64 v_] w w4∧
 ∃a5,h_=some a5∧∃x6p x6n x6c,w4.cell? (a5.add 1)=some (.slice x6p x6n x6c)∧
 ixK x6p x6n v_ 1 fun a7=>
 ∃w8,StoreAt a7 0 [.int .i64 (i64.wrap (i_+ (1:Int)))] w4 w8∧
 K (.tuple #[]) w8
theorem heap_Heap_put.calls {h_ i_ v_ w R} (h:heap_Heap_put.w h_ i_ v_ w fun v w'=>R (.returned v) w'):Calls prog 70 #[.pointer h_,.int .i64 i_,.int .i64 v_] w R:=
 calls_of mixed Tryz.func70 (by kernel_rfl) rfl (ann:= .leaf) (F:=heap_Heap_put.w h_ i_ v_ w) (fun K=>by kernel_rfl) h
def heap_Heap_fall.w (h_:Option Addr) (i_:Int) (w:World) (K:Value→World→Prop):Prop:=
 ∃a1,h_=some a1∧∃x2p x2n x2c,w.cell? (a1.add 0)=some (.slice x2p x2n x2c)∧
 ixK x2p x2n i_ 1 fun a3=>
 ∃x4,w.cell? a3=some (.int .i64 x4)∧
 ∃I5:Int→World→Nat→Prop,(∃k6,I5 i_ w k6)∧
 ∀i_8 w9 k6 (_:Fr),I5 i_8 w9 k6→
 ∃a10,h_=some a10∧∃x11p x11n x11c,w9.cell? (a10.add 0)=some (.slice x11p x11n x11c)∧
  cnd (decide ((i64.wrap ((i64.wrap ((2:Int)*i_8))+ (1:Int)))≥(x11n:Int)))
  (Calls prog 70 #[.pointer h_,.int .i64 i_8,.int .i64 x4] w9 fun e w12=>e= .returned (.tuple #[])∧
    K (.tuple #[]) w12)
  (∃a13,h_=some a13∧∃x14p x14n x14c,w9.drew.cell? (a13.add 0)=some (.slice x14p x14n x14c)∧
    cnd (decide ((i64.wrap ((i64.wrap ((i64.wrap ((2:Int)*i_8))+ (1:Int)))+ (1:Int)))< (x14n:Int)))
    (∃a15,h_=some a15∧∃x16p x16n x16c,w9.drew.cell? (a15.add 0)=some (.slice x16p x16n x16c)∧
    ixK x16p x16n (i64.wrap ((i64.wrap ((i64.wrap ((2:Int)*i_8))+ (1:Int)))+ (1:Int))) 1 fun a17=>
    ∃x18,w9.drew.cell? a17=some (.int .i64 x18)∧
    ∃a19,h_=some a19∧∃x20p x20n x20c,w9.drew.cell? (a19.add 0)=some (.slice x20p x20n x20c)∧
    ixK x20p x20n (i64.wrap ((i64.wrap ((2:Int)*i_8))+ (1:Int))) 1 fun a21=>
    ∃x22,w9.drew.cell? a21=some (.int .i64 x22)∧
    Calls prog 99 #[.pointer h_,.int .i64 x18,.int .i64 x22] w9.drew fun e w23=> ∃r24,e= .returned (.bool r24)∧
    cnd r24
    (∃a25,h_=some a25∧∃x26p x26n x26c,w23.cell? (a25.add 0)=some (.slice x26p x26n x26c)∧
      ixK x26p x26n (i64.wrap ((i64.wrap ((i64.wrap ((2:Int)*i_8))+ (1:Int)))+ (1:Int))) 1 fun a27=>
      ∃x28,w23.cell? a27=some (.int .i64 x28)∧
      Calls prog 99 #[.pointer h_,.int .i64 x28,.int .i64 x4] w23 fun e w29=> ∃r30,e= .returned (.bool r30)∧
      cnd (!r30)
      (Calls prog 70 #[.pointer h_,.int .i64 i_8,.int .i64 x4] w29 fun e w31=>e= .returned (.tuple #[])∧
        K (.tuple #[]) w31)
      (∃a32,h_=some a32∧∃x33p x33n x33c,w29.cell? (a32.add 0)=some (.slice x33p x33n x33c)∧
        ixK x33p x33n (i64.wrap ((i64.wrap ((i64.wrap ((2:Int)*i_8))+ (1:Int)))+ (1:Int))) 1 fun a34=>
        ∃x35,w29.cell? a34=some (.int .i64 x35)∧
        Calls prog 70 #[.pointer h_,.int .i64 i_8,.int .i64 x35] w29 fun e w36=>e= .returned (.tuple #[])∧
        ∃k7,k7<k6∧I5 (i64.wrap ((i64.wrap ((i64.wrap ((2:Int)*i_8))+ (1:Int)))+ (1:Int))) w36 k7))
    (∃a37,h_=some a37∧∃x38p x38n x38c,w23.cell? (a37.add 0)=some (.slice x38p x38n x38c)∧
      ixK x38p x38n (i64.wrap ((i64.wrap ((2:Int)*i_8))+ (1:Int))) 1 fun a39=>
      ∃x40,w23.cell? a39=some (.int .i64 x40)∧
      Calls prog 99 #[.pointer h_,.int .i64 x40,.int .i64 x4] w23 fun e w41=> ∃r42,e= .returned (.bool r42)∧
      cnd (!r42)
      (Calls prog 70 #[.pointer h_,.int .i64 i_8,.int .i64 x4] w41 fun e w43=>e= .returned (.tuple #[])∧
        K (.tuple #[]) w43)
      (∃a44,h_=some a44∧∃x45p x45n x45c,w41.cell? (a44.add 0)=some (.slice x45p x45n x45c)∧
        ixK x45p x45n (i64.wrap ((i64.wrap ((2:Int)*i_8))+ (1:Int))) 1 fun a46=>
        ∃x47,w41.cell? a46=some (.int .i64 x47)∧
        Calls prog 70 #[.pointer h_,.int .i64 i_8,.int .i64 x47] w41 fun e w48=>e= .returned (.tuple #[])∧
        ∃k7,k7<k6∧I5 (i64.wrap ((i64.wrap ((2:Int)*i_8))+ (1:Int))) w48 k7)))
    (∃a49,h_=some a49∧∃x50p x50n x50c,w9.drew.cell? (a49.add 0)=some (.slice x50p x50n x50c)∧
    ixK x50p x50n (i64.wrap ((i64.wrap ((2:Int)*i_8))+ (1:Int))) 1 fun a51=>
    ∃x52,w9.drew.cell? a51=some (.int .i64 x52)∧
    Calls prog 99 #[.pointer h_,.int .i64 x52,.int .i64 x4] w9.drew fun e w53=> ∃r54,e= .returned (.bool r54)∧
    cnd (!r54)
    (Calls prog 70 #[.pointer h_,.int .i64 i_8,.int .i64 x4] w53 fun e w55=>e= .returned (.tuple #[])∧
      K (.tuple #[]) w55)
    (∃a56,h_=some a56∧∃x57p x57n x57c,w53.cell? (a56.add 0)=some (.slice x57p x57n x57c)∧
      ixK x57p x57n (i64.wrap ((i64.wrap ((2:Int)*i_8))+ (1:Int))) 1 fun a58=>
      ∃x59,w53.cell? a58=some (.int .i64 x59)∧
      Calls prog 70 #[.pointer h_,.int .i64 i_8,.int .i64 x59] w53 fun e w60=>e= .returned (.tuple #[])∧
      ∃k7,k7<k6∧I5 (i64.wrap ((i64.wrap ((2:Int)*i_8))+ (1:Int))) w60 k7)))
theorem heap_Heap_fall.calls {h_ i_ w R} (h:heap_Heap_fall.w h_ i_ w fun v w'=>R (.returned v) w'):Calls prog 71 #[.pointer h_,.int .i64 i_] w R:=
 calls_of mixed Tryz.func71 (by kernel_rfl) rfl (ann:=(.two .leaf (.two (.one (.loop [(1,3)] .leaf)) .leaf))) (F:=heap_Heap_fall.w h_ i_ w) (fun K=>by kernel_rfl) h
def prop_Prop_there.w (p_:Option Addr) (i_:Int) (w:World) (K:Value→World→Prop):Prop:=
 cnd (!p_.isNone)
 (cnd (decide (i_≥(0:Int)))
 (∃a1,p_=some a1∧∃x2p x2n x2c,w.cell? (a1.add 1)=some (.slice x2p x2n x2c)∧
 cnd (decide (i_< (x2n:Int)))
 (∃a3,p_=some a3∧∃x4p x4n x4c,w.cell? (a3.add 1)=some (.slice x4p x4n x4c)∧
 ixK x4p x4n i_ 3 fun a5=>
 ∃x6,w.cell? (a5.add 2)=some (.bool x6)∧
 K (.bool (!x6)) w)
 (K (.bool false) w))
 (K (.bool false) w))
 (K (.bool false) w)
theorem prop_Prop_there.calls {p_ i_ w R} (h:prop_Prop_there.w p_ i_ w fun v w'=>R (.returned v) w'):Calls prog 72 #[.pointer p_,.int .i64 i_] w R:=
 calls_of mixed Tryz.func72 (by kernel_rfl) rfl (ann:= .leaf) (F:=prop_Prop_there.w p_ i_ w) (fun K=>by kernel_rfl) h
def cdcl_search_cone.w (x0_:Option Addr) (a:Option Addr) (b:Nat) (c:Nat) (w:World) (K:Value→World→Prop):Prop:=
 ∀n1 w2,New (.cells #[.pointer x0_] 59) w n1 w2→
 ∀n3 w4,New (.map #[] 0) w2 n3 w4→
 ∀n5 w6,New (.cells #[.map none] 136) w4 n5 w6→
 ∃w7,StoreAt (Addr.mk n5 0 none) 0 [.map (some n3)] w6 w7∧
 ∀n8 w9,New (.map #[] 0) w7 n8 w9→
 ∀n10 w11,New (.cells #[.map none] 136) w9 n10 w11→
 ∃w12,StoreAt (Addr.mk n10 0 none) 0 [.map (some n8)] w11 w12∧
 ∀n13 w14,New (.cells #[.nilFunc] 74) w12 n13 w14→
 ∃w15,StoreAt (Addr.mk n13 0 none) 0 [.func (.func 100) #[] #[.pointer (some (Addr.mk n5 0 none)),.pointer (some (Addr.mk n10 0 none)),.pointer (some (Addr.mk n1 0 none))]] w14 w15∧
 ∃x16_f:FuncId,∃x16_v:Array Value,w15.cell? (Addr.mk n13 0 none)=some (.func (.func x16_f) #[] x16_v)∧
 cnd (entB prog x16_f) (Calls prog x16_f (#[]++ #[.slice a b c]++x16_v) w15 fun e w17=>e= .returned (.tuple #[])∧
 ∀n18 w19,New (.cells #[.slice none 0 0] 116) w17 n18 w19→
 ∃x20,w19.cell? (Addr.mk n1 0 none)=some (.pointer x20)∧
 ∃a21,x20=some a21∧∃x22,w19.cell? (a21.add 5)=some (.pointer x22)∧
 Calls prog 82 #[.pointer x22] w19 fun e w23=> ∃r24p r24n r24c,e= .returned (.slice r24p r24n r24c)∧
 Calls prog 103 #[.slice r24p r24n r24c] w23 fun e w25=> ∃r26_f:FuncId,∃r26_v:Array Value,e= .returned (.func (.func r26_f) #[] r26_v)∧
 entB prog r26_f=true∧True∧∃xs27:List (Int × Int),∃Pl28:Int × Int→Prop,∃T29:Nat→Prop,SeqB prog r26_f r26_v xs27 Pl28 T29 w25∧(∀k,T29 k→k<w25.heap.size)∧∃I30:List (Int × Int)→World→Prop,I30 [] w25∧StB w25.heap.size I30∧
 (∀ (pre31:List (Int × Int)) (i32 v33:Int) (w34:World),pre31.length<xs27.length→Pl28 (i32,v33)→I30 pre31 w34→
   ∃x37,w34.cell? (Addr.mk n1 0 none)=some (.pointer x37)∧
    ∃a38,x37=some a38∧∃x39,w34.cell? (a38.add 5)=some (.pointer x39)∧
    Calls prog 104 #[.pointer x39,.int .i64 v33] w34 fun e w40=> ∃r41,e= .returned (.int .i64 r41)∧
    ∃x42,w40.cell? (Addr.mk n1 0 none)=some (.pointer x42)∧
    ∃a43,x42=some a43∧∃x44,w40.cell? (a43.add 5)=some (.pointer x44)∧
    Calls prog 102 #[.pointer x44,.int .i64 v33] w40 fun e w45=> ∃r46,e= .returned (.int .i64 r46)∧
    ∃J47:Bool→World→Prop,(cnd (decide (r41< (0:Int)))
    (∃x48:Option Nat,w45.cell? (Addr.mk n10 0 none)=some (.map x48)∧
    ∃w49 r50,(Instr.lookup 136 (.map x48) (.int .i64 r46) false).run prog w45= .ok (.bool r50) w49∧
    J47 r50 w49)
    (J47 false w45))∧
    ∀d_51 w52 (_:Fr),J47 d_51 w52→
    ∃J53:World→Prop,(∃W54:World→Prop,W54 w52.drew∧
    ∃x55:Option Nat,AtW W54 (Addr.mk n5 0 none) (.map x55)∧
    Calls prog 101 #[.int .i64 v33] w52.drew fun e w56=> ∃r57,e= .returned (.int .i64 r57)∧
    W54 w56∧∃w58 r59,(Instr.lookup 136 (.map x55) (.int .i64 r57) false).run prog w56= .ok (.bool r59) w58∧
    cnd (!r59)
    (cnd (!d_51)
    (KB w25.heap.size T29 w34 w58∧I30 (pre31++ [(i32,v33)]) w58)
    (J53 w58))
    (J53 w58))∧
    ∀w60 (_:Fr),J53 w60→
    ∀n61 w62,New (.cells #[.int .i64 0,.int .i64 0,.slice none 0 0] 141) w60 n61 w62→
    ∃w63,StoreAt (Addr.mk n61 0 none) 0 [.int .i64 v33,.int .i64 r46,.slice none 0 0] w62 w63∧
    cnd (decide (r41≥(0:Int)))
    (∃x64,w63.cell? (Addr.mk n1 0 none)=some (.pointer x64)∧
      ∃a65,x64=some a65∧∃x66,w63.cell? (a65.add 5)=some (.pointer x66)∧
      Calls prog 46 #[.pointer x66,.int .i64 r41] w63 fun e w67=> ∃r68p r68n r68c r69,e= .returned (.tuple #[.slice r68p r68n r68c,.bool r69])∧
      ∃w70,StoreAt ((Addr.mk n61 0 none).add 2) 0 [.slice r68p r68n r68c] w67 w70∧
      ∃x71_f:FuncId,∃x71_v:Array Value,w70.cell? (Addr.mk n13 0 none)=some (.func (.func x71_f) #[] x71_v)∧
      ∃x72p x72n x72c,w70.cell? ((Addr.mk n61 0 none).add 2)=some (.slice x72p x72n x72c)∧
      cnd (entB prog x71_f) (Calls prog x71_f (#[]++ #[.slice x72p x72n x72c]++x71_v) w70 fun e w73=>e= .returned (.tuple #[])∧
      ∃x74p x74n x74c,w73.cell? (Addr.mk n18 0 none)=some (.slice x74p x74n x74c)∧
      ∃x75 x76 x77p x77n x77c,CellsAt w73 (Addr.mk n61 0 none) 0 [.int .i64 x75,.int .i64 x76,.slice x77p x77n x77c]∧
      ∀n78 w79,New (.cells #[.int .i64 x75,.int .i64 x76,.slice x77p x77n x77c] 141) w73 n78 w79→
      ∃w80 r81p r81n r81c,(Builtin.append_ #[116,116] 116 #[.slice x74p x74n x74c,.slice (some (Addr.mk n78 0 none)) 1 1]).run prog w79= .ok (.slice r81p r81n r81c) w80∧
      ∃w82,StoreAt (Addr.mk n18 0 none) 0 [.slice r81p r81n r81c] w80 w82∧
      KB w25.heap.size T29 w34 w82∧I30 (pre31++ [(i32,v33)]) w82) False)
    (∃x83p x83n x83c,w63.cell? (Addr.mk n18 0 none)=some (.slice x83p x83n x83c)∧
      ∃x84 x85 x86p x86n x86c,CellsAt w63 (Addr.mk n61 0 none) 0 [.int .i64 x84,.int .i64 x85,.slice x86p x86n x86c]∧
      ∀n87 w88,New (.cells #[.int .i64 x84,.int .i64 x85,.slice x86p x86n x86c] 141) w63 n87 w88→
      ∃w89 r90p r90n r90c,(Builtin.append_ #[116,116] 116 #[.slice x83p x83n x83c,.slice (some (Addr.mk n87 0 none)) 1 1]).run prog w88= .ok (.slice r90p r90n r90c) w89∧
      ∃w91,StoreAt (Addr.mk n18 0 none) 0 [.slice r90p r90n r90c] w89 w91∧
      KB w25.heap.size T29 w34 w91∧I30 (pre31++ [(i32,v33)]) w91))∧
 ∀ (d35:Nat) (w36:World),w25.heap.size≤d35→w36.heap[d35]? =some (.deferred (some []))→I30 xs27 w36→
   ∃x92p x92n x92c,w36.cell? (Addr.mk n18 0 none)=some (.slice x92p x92n x92c)∧
    Calls prog 105 #[.slice x92p x92n x92c] w36 fun e w93=>e= .returned (.tuple #[])∧
    ∃x94p x94n x94c,w93.cell? (Addr.mk n18 0 none)=some (.slice x94p x94n x94c)∧
    ∃I95:Option Addr→Nat→Nat→Int→World→Nat→Prop,(∃k96,I95 none 0 0 0 w93 k96)∧
    ∀r98p r98n r98c v99 w100 k96 (_:Fr),I95 r98p r98n r98c v99 w100 k96→
    cnd (decide (v99< (x94n:Int)))
     (ixK x94p x94n v99 3 fun a101=>
       ∃x102 x103 x104p x104n x104c,CellsAt w100 a101 0 [.int .i64 x102,.int .i64 x103,.slice x104p x104n x104c]∧
       ∀n105 w106,New (.cells #[.int .i64 0,.int .i64 0,.slice none 0 0] 141) w100 n105 w106→
       ∃w107,StoreAt (Addr.mk n105 0 none) 0 [.int .i64 x102,.int .i64 x103,.slice x104p x104n x104c] w106 w107∧
       ∃J108:Option Addr→Nat→Nat→World→Prop,(∃J109:Bool→World→Prop,(cnd ((r98n:Int)==(0:Int))
       (J109 true w107.drew)
       (ixK r98p r98n (i64.wrap ((r98n:Int) - (1:Int))) 1 fun a110=>
       ∃x111,w107.drew.cell? a110=some (.int .i64 x111)∧
       ∃x112,w107.drew.cell? ((Addr.mk n105 0 none).add 1)=some (.int .i64 x112)∧
       J109 (x111 !=x112) w107.drew))∧
       ∀v113 w114 (_:Fr),J109 v113 w114→
       cnd v113
       (cnd ((r98n:Int)==(0:Int))
         (∃x115,w114.cell? ((Addr.mk n105 0 none).add 1)=some (.int .i64 x115)∧
         cnd (decide (x115> (0:Int)))
         (∀n116 w117,New (.cells #[.int .i64 0] 3) w114 n116 w117→
           ∃w118 r119p r119n r119c,(Builtin.append_ #[28,28] 28 #[.slice r98p r98n r98c,.slice (some (Addr.mk n116 0 none)) 1 1]).run prog w117= .ok (.slice r119p r119n r119c) w118∧
           ∃x120,w118.cell? ((Addr.mk n105 0 none).add 1)=some (.int .i64 x120)∧
           ∀n121 w122,New (.cells #[.int .i64 x120] 3) w118 n121 w122→
           ∃w123 r124p r124n r124c,(Builtin.append_ #[28,28] 28 #[.slice r119p r119n r119c,.slice (some (Addr.mk n121 0 none)) 1 1]).run prog w122= .ok (.slice r124p r124n r124c) w123∧
           J108 r124p r124n r124c w123)
         (∃x125,w114.cell? ((Addr.mk n105 0 none).add 1)=some (.int .i64 x125)∧
           ∀n126 w127,New (.cells #[.int .i64 x125] 3) w114 n126 w127→
           ∃w128 r129p r129n r129c,(Builtin.append_ #[28,28] 28 #[.slice r98p r98n r98c,.slice (some (Addr.mk n126 0 none)) 1 1]).run prog w127= .ok (.slice r129p r129n r129c) w128∧
           J108 r129p r129n r129c w128))
         (∃x130,w114.cell? ((Addr.mk n105 0 none).add 1)=some (.int .i64 x130)∧
         ∀n131 w132,New (.cells #[.int .i64 x130] 3) w114 n131 w132→
         ∃w133 r134p r134n r134c,(Builtin.append_ #[28,28] 28 #[.slice r98p r98n r98c,.slice (some (Addr.mk n131 0 none)) 1 1]).run prog w132= .ok (.slice r134p r134n r134c) w133∧
         J108 r134p r134n r134c w133))
       (J108 r98p r98n r98c w114))∧
       ∀r135p r135n r135c w136 (_:Fr),J108 r135p r135n r135c w136→
       ∃x137p x137n x137c,w136.cell? (Addr.mk n18 0 none)=some (.slice x137p x137n x137c)∧
       ixK x137p x137n v99 3 fun a138=>
       ∃w139,StoreAt (a138.add 1) 0 [.int .i64 (i64.wrap ((r135n:Int) - (1:Int)))] w136 w139∧
       ∃k97,k97<k96∧I95 r135p r135n r135c (i64.wrap (v99+ (1:Int))) w139 k97)
     (∃x140p x140n x140c,w100.cell? (Addr.mk n18 0 none)=some (.slice x140p x140n x140c)∧
       w100.heap[d35]? =some (.deferred (some []))∧∀w141,Go.Fw.Mod (·=d35) w100 w141→K (.tuple #[.slice x140p x140n x140c,.slice r98p r98n r98c]) w141)) False
theorem cdcl_search_cone.eq (x0_:Option Addr) (broken__p:Option Addr) (broken__n:Nat) (broken__c:Nat) (w:World) (K:Value→World→Prop):wpFR prog Tryz.f73 .leaf (.one (.two .leaf (.two .leaf (.cut [(15,4)] .leaf (.cut [] (.two .draw .leaf) .leaf))))) (.two .leaf (.two .leaf (.two (.two .leaf (.one (.loop [(17,28),(90,3)] (.two .leaf (.two .leaf (.two (.one (.two .leaf (.cut [(17,28)] (.cut [(108,4)] .leaf .leaf) .leaf))) .leaf)))))) .leaf))) [.pointer x0_,.slice broken__p broken__n broken__c] w K=cdcl_search_cone.w x0_ broken__p broken__n broken__c w K:=by kernel_rfl
theorem cdcl_search_cone.ok:fnOkR prog Tryz.f73 2=true:=by kernel_rfl
theorem cdcl_search_cone.calls {x0_:Option Addr} {broken__p:Option Addr} {broken__n:Nat} {broken__c:Nat} {w:World} {R:Ending→World→Prop} (h:cdcl_search_cone.w x0_ broken__p broken__n broken__c w fun v w'=>R (.returned v) w'):Calls prog 73 #[.pointer x0_,.slice broken__p broken__n broken__c] w R:=
 calls_ofR mixed Tryz.func73 cdcl_search_cone.ok rfl (fun K=>cdcl_search_cone.eq x0_ broken__p broken__n broken__c w K) h
def learn_Learn.w (a:Option Addr) (b:Nat) (c:Nat) (d:Option Addr) (f:Nat) (g:Nat) (w:World) (K:Value→World→Prop):Prop:=
 Calls prog 106 #[.slice a b c,.slice d f g] w fun e w1=> ∃r2,e= .returned (.int .i64 r2)∧
 cnd (r2 !=(0:Int))
 (K (.tuple #[.slice none 0 0,.int .i64 r2]) w1)
 (Calls prog 107 #[.slice a b c] w1 fun e w3=> ∃r4:Option Nat,e= .returned (.map r4)∧
   ∀n5 w6,New (.map #[] 0) w3 n5 w6→
   ∀n7 w8,New (.cells #[.slice a b c,.map r4,.map (some n5)] 148) w6 n7 w8→
   Calls prog 108 #[.pointer (some (Addr.mk n7 0 none)),.slice d f g,.int .i64 0] w8 fun e w9=>e= .returned (.tuple #[])∧
   Calls prog 109 #[.pointer (some (Addr.mk n7 0 none))] w9 fun e w10=> ∃r11 r12 r13,e= .returned (.tuple #[.int .i64 r11,.int .i64 r12,.int .i64 r13])∧
   ∃I14:Int→Int→World→Nat→Prop,(∃k15,I14 r12 r13 w10 k15)∧
   ∀n_17 l_18 w19 k15 (_:Fr),I14 n_17 l_18 w19 k15→
   cnd (decide (n_17> (1:Int)))
    (ixK a b l_18 3 fun a20=>
    ∃x21 x22 x23p x23n x23c,CellsAt w19 a20 0 [.int .i64 x21,.int .i64 x22,.slice x23p x23n x23c]∧
    ∀n24 w25,New (.cells #[.int .i64 0,.int .i64 0,.slice none 0 0] 141) w19 n24 w25→
    ∃w26,StoreAt (Addr.mk n24 0 none) 0 [.int .i64 x21,.int .i64 x22,.slice x23p x23n x23c] w25 w26∧
    ∃a27,(some (Addr.mk n7 0 none))=some a27∧∃x28:Option Nat,w26.drew.cell? (a27.add 2)=some (.map x28)∧
    ∃x29,w26.drew.cell? ((Addr.mk n24 0 none).add 0)=some (.int .i64 x29)∧
    ∃w30,(Builtin.delete_ #[136,3] 0 #[.map x28,.int .i64 (i64.wrap (0 - x29))]).run prog w26.drew= .ok (.tuple #[]) w30∧
    ∃x31p x31n x31c,w30.cell? ((Addr.mk n24 0 none).add 2)=some (.slice x31p x31n x31c)∧
    ∃x32,w30.cell? ((Addr.mk n24 0 none).add 0)=some (.int .i64 x32)∧
    Calls prog 108 #[.pointer (some (Addr.mk n7 0 none)),.slice x31p x31n x31c,.int .i64 x32] w30 fun e w33=>e= .returned (.tuple #[])∧
    Calls prog 109 #[.pointer (some (Addr.mk n7 0 none))] w33 fun e w34=> ∃r35 r36 r37,e= .returned (.tuple #[.int .i64 r35,.int .i64 r36,.int .i64 r37])∧
    ∃k16,k16<k15∧I14 r36 r37 w34 k16)
    (cnd (n_17==(1:Int))
    (cnd (r11==(0:Int))
    (ixK a b l_18 3 fun a38=>
      ∃x39 x40 x41p x41n x41c,CellsAt w19 a38 0 [.int .i64 x39,.int .i64 x40,.slice x41p x41n x41c]∧
      ∀n42 w43,New (.cells #[.int .i64 0,.int .i64 0,.slice none 0 0] 141) w19 n42 w43→
      ∃w44,StoreAt (Addr.mk n42 0 none) 0 [.int .i64 x39,.int .i64 x40,.slice x41p x41n x41c] w43 w44∧
      ∃a45,(some (Addr.mk n7 0 none))=some a45∧∃x46:Option Nat,w44.drew.cell? (a45.add 2)=some (.map x46)∧
      ∃x47,w44.drew.cell? ((Addr.mk n42 0 none).add 0)=some (.int .i64 x47)∧
      ∃w48,(Builtin.delete_ #[136,3] 0 #[.map x46,.int .i64 (i64.wrap (0 - x47))]).run prog w44.drew= .ok (.tuple #[]) w48∧
      ∃x49p x49n x49c,w48.cell? ((Addr.mk n42 0 none).add 2)=some (.slice x49p x49n x49c)∧
      ∃x50,w48.cell? ((Addr.mk n42 0 none).add 0)=some (.int .i64 x50)∧
      Calls prog 108 #[.pointer (some (Addr.mk n7 0 none)),.slice x49p x49n x49c,.int .i64 x50] w48 fun e w51=>e= .returned (.tuple #[])∧
      Calls prog 109 #[.pointer (some (Addr.mk n7 0 none))] w51 fun e w52=> ∃r53 r54 r55,e= .returned (.tuple #[.int .i64 r53,.int .i64 r54,.int .i64 r55])∧
      ∃k16,k16<k15∧I14 r54 r55 w52 k16)
    (Calls prog 110 #[.pointer (some (Addr.mk n7 0 none))] w19 fun e w56=> ∃r57p r57n r57c,e= .returned (.slice r57p r57n r57c)∧
      K (.tuple #[.slice r57p r57n r57c,.int .i64 0]) w56))
    (Calls prog 110 #[.pointer (some (Addr.mk n7 0 none))] w19 fun e w58=> ∃r59p r59n r59c,e= .returned (.slice r59p r59n r59c)∧
    K (.tuple #[.slice r59p r59n r59c,.int .i64 0]) w58)))
theorem learn_Learn.calls {a b c d f g w R} (h:learn_Learn.w a b c d f g w fun v w'=>R (.returned v) w'):Calls prog 74 #[.slice a b c,.slice d f g] w R:=
 calls_of mixed Tryz.func74 (by kernel_rfl) rfl (ann:=(.two .leaf (.two .leaf (.two .leaf (.two .leaf (.two .leaf (.two (.one (.loop [(9,3),(10,3)] .leaf)) .leaf))))))) (F:=learn_Learn.w a b c d f g w) (fun K=>by kernel_rfl) h
def cdcl_search_decisions.w (x0_:Option Addr) (w:World) (K:Value→World→Prop):Prop:=
 ∃a1,x0_=some a1∧∃x2,w.cell? (a1.add 5)=some (.pointer x2)∧
 Calls prog 82 #[.pointer x2] w fun e w3=> ∃r4p r4n r4c,e= .returned (.slice r4p r4n r4c)∧
 ∃I5:Option Addr→Nat→Nat→Int→World→Nat→Prop,(∃k6,I5 none 0 0 0 w3 k6)∧
 ∀l8p l8n l8c v9 w10 k6 (_:Fr),I5 l8p l8n l8c v9 w10 k6→
 cnd (decide (v9< (r4n:Int)))
  (ixK r4p r4n v9 1 fun a11=>
    ∃x12,w10.cell? a11=some (.int .i64 x12)∧
    ∃a13,x0_=some a13∧∃x14,w10.cell? (a13.add 5)=some (.pointer x14)∧
    Calls prog 104 #[.pointer x14,.int .i64 x12] w10 fun e w15=> ∃r16,e= .returned (.int .i64 r16)∧
    cnd (decide (r16< (0:Int)))
    (∀n17 w18,New (.cells #[.int .i64 (i64.wrap (0 - x12))] 3) w15 n17 w18→
      ∃w19 r20p r20n r20c,(Builtin.append_ #[28,28] 28 #[.slice (some (Addr.mk n17 0 none)) 1 1,.slice l8p l8n l8c]).run prog w18= .ok (.slice r20p r20n r20c) w19∧
      ∃k7,k7<k6∧I5 r20p r20n r20c (i64.wrap (v9+ (1:Int))) w19 k7)
    (∃k7,k7<k6∧I5 l8p l8n l8c (i64.wrap (v9+ (1:Int))) w15 k7))
  (K (.tuple #[.slice l8p l8n l8c,.int .i64 (i64.wrap ((l8n:Int) - (1:Int))),.int .i64 (l8n:Int)]) w10)
theorem cdcl_search_decisions.calls {x0_ w R} (h:cdcl_search_decisions.w x0_ w fun v w'=>R (.returned v) w'):Calls prog 75 #[.pointer x0_] w R:=
 calls_of mixed Tryz.func75 (by kernel_rfl) rfl (ann:=(.two .leaf (.two .leaf (.two (.two .leaf (.one (.loop [(5,28),(14,3)] .leaf))) .leaf)))) (F:=cdcl_search_decisions.w x0_ w) (fun K=>by kernel_rfl) h
def learn_Shorten.w (a:Option Addr) (b:Nat) (c:Nat) (d:Option Addr) (f:Nat) (g:Nat) (w:World) (K:Value→World→Prop):Prop:=
 Calls prog 111 #[.slice a b c] w fun e w1=> ∃r2,e= .returned (.bool r2)∧
 cnd (!r2)
 (Calls prog 45 #[.slice d f g] w1 fun e w3=> ∃r4p r4n r4c,e= .returned (.slice r4p r4n r4c)∧
 K (.slice r4p r4n r4c) w3)
 (Calls prog 112 #[.slice a b c,.slice d f g] w1 fun e w5=> ∃r6,e= .returned (.bool r6)∧
 cnd (!r6)
 (Calls prog 45 #[.slice d f g] w5 fun e w7=> ∃r8p r8n r8c,e= .returned (.slice r8p r8n r8c)∧
   K (.slice r8p r8n r8c) w7)
 (Calls prog 107 #[.slice a b c] w5 fun e w9=> ∃r10:Option Nat,e= .returned (.map r10)∧
   ∀n11 w12,New (.map #[] 0) w9 n11 w12→
   ∀n13 w14,New (.cells #[.slice a b c,.map r10,.map (some n11)] 148) w12 n13 w14→
   Calls prog 108 #[.pointer (some (Addr.mk n13 0 none)),.slice d f g,.int .i64 0] w14 fun e w15=>e= .returned (.tuple #[])∧
   ∀n16 w17,New (.map #[] 0) w15 n16 w17→
   ∃I18:Option Addr→Nat→Nat→Int→World→Nat→Prop,(∃k19,I18 none 0 0 0 w17 k19)∧
   ∀o21p o21n o21c v22 w23 k19 (_:Fr),I18 o21p o21n o21c v22 w23 k19→
   cnd (decide (v22< (f:Int)))
    (ixK d f v22 1 fun a24=>
      ∃x25,w23.cell? a24=some (.int .i64 x25)∧
      cnd (v22==(0:Int))
      (∀n26 w27,New (.cells #[.int .i64 x25] 3) w23 n26 w27→
      ∃w28 r29p r29n r29c,(Builtin.append_ #[28,28] 28 #[.slice o21p o21n o21c,.slice (some (Addr.mk n26 0 none)) 1 1]).run prog w27= .ok (.slice r29p r29n r29c) w28∧
      ∃k20,k20<k19∧I18 r29p r29n r29c (i64.wrap (v22+ (1:Int))) w28 k20)
      (Calls prog 113 #[.pointer (some (Addr.mk n13 0 none)),.int .i64 x25] w23 fun e w30=> ∃r31,e= .returned (.int .i64 r31)∧
      cnd (decide (r31> (0:Int)))
      (Calls prog 114 #[.pointer (some (Addr.mk n13 0 none)),.int .i64 x25,.map (some n16)] w30 fun e w32=> ∃r33,e= .returned (.bool r33)∧
      cnd (!r33)
      (∀n34 w35,New (.cells #[.int .i64 x25] 3) w32 n34 w35→
        ∃w36 r37p r37n r37c,(Builtin.append_ #[28,28] 28 #[.slice o21p o21n o21c,.slice (some (Addr.mk n34 0 none)) 1 1]).run prog w35= .ok (.slice r37p r37n r37c) w36∧
        ∃k20,k20<k19∧I18 r37p r37n r37c (i64.wrap (v22+ (1:Int))) w36 k20)
      (∃k20,k20<k19∧I18 o21p o21n o21c (i64.wrap (v22+ (1:Int))) w32 k20))
      (∃k20,k20<k19∧I18 o21p o21n o21c (i64.wrap (v22+ (1:Int))) w30 k20)))
    (K (.slice o21p o21n o21c) w23)))
theorem learn_Shorten.calls {a b c d f g w R} (h:learn_Shorten.w a b c d f g w fun v w'=>R (.returned v) w'):Calls prog 76 #[.slice a b c,.slice d f g] w R:=
 calls_of mixed Tryz.func76 (by kernel_rfl) rfl (ann:=(.two .leaf (.two .leaf (.two .leaf (.two .leaf (.two .leaf (.two .leaf (.two (.two .leaf (.one (.loop [(7,28),(33,3)] .leaf))) .leaf)))))))) (F:=learn_Shorten.w a b c d f g w) (fun K=>by kernel_rfl) h
def learn_Back.w (a:Option Addr) (b:Nat) (c:Nat) (d:Option Addr) (f:Nat) (g:Nat) (w:World) (K:Value→World→Prop):Prop:=
 Calls prog 111 #[.slice a b c] w fun e w1=> ∃r2,e= .returned (.bool r2)∧
 cnd (!r2)
 (K (.int .i64 (-1)) w1)
 (cnd ((f:Int)==(0:Int))
 (K (.int .i64 (-1)) w1)
 (Calls prog 112 #[.slice a b c,.slice d f g] w1 fun e w3=> ∃r4,e= .returned (.bool r4)∧
 cnd (!r4)
 (K (.int .i64 (-1)) w3)
 (Calls prog 107 #[.slice a b c] w3 fun e w5=> ∃r6:Option Nat,e= .returned (.map r6)∧
   slK d f g 1 (some 1) none none fun s7p s7n s7c=>
   ∃I8:Int→Int→World→Nat→Prop,(∃k9,I8 0 0 w5 k9)∧
   ∀l_11 v12 w13 k9 (_:Fr),I8 l_11 v12 w13 k9→
   cnd (decide (v12< (s7n:Int)))
    (ixK s7p s7n v12 1 fun a14=>
      ∃x15,w13.cell? a14=some (.int .i64 x15)∧
      Calls prog 115 #[.int .i64 x15] w13 fun e w16=> ∃r17,e= .returned (.int .i64 r17)∧
      ∃w18 r19,(Instr.lookup 145 (.map r6) (.int .i64 r17) false).run prog w16= .ok (.int .i64 r19) w18∧
      ixK a b (i64.wrap (r19 - (1:Int))) 3 fun a20=>
      ∃x21,w18.cell? (a20.add 1)=some (.int .i64 x21)∧
      ∃k10,k10<k9∧I8 (imax l_11 x21) (i64.wrap (v12+ (1:Int))) w18 k10)
    (K (.int .i64 l_11) w13))))
theorem learn_Back.calls {a b c d f g w R} (h:learn_Back.w a b c d f g w fun v w'=>R (.returned v) w'):Calls prog 77 #[.slice a b c,.slice d f g] w R:=
 calls_of mixed Tryz.func77 (by kernel_rfl) rfl (ann:=(.two .leaf (.two .leaf (.two .leaf (.two .leaf (.two (.two .leaf (.one (.loop [(6,3),(28,3)] .leaf))) .leaf)))))) (F:=learn_Back.w a b c d f g w) (fun K=>by kernel_rfl) h
def learn_Levels.w (a:Option Addr) (b:Nat) (c:Nat) (d:Option Addr) (f:Nat) (g:Nat) (w:World) (K:Value→World→Prop):Prop:=
 Calls prog 111 #[.slice a b c] w fun e w1=> ∃r2,e= .returned (.bool r2)∧
 cnd (!r2)
 (K (.int .i64 0) w1)
 (Calls prog 107 #[.slice a b c] w1 fun e w3=> ∃r4:Option Nat,e= .returned (.map r4)∧
   ∀n5 w6,New (.map #[] 0) w3 n5 w6→
   ∃I7:Int→World→Nat→Prop,(∃k8,I7 0 w6 k8)∧
   ∀v10 w11 k8 (_:Fr),I7 v10 w11 k8→
   cnd (decide (v10< (f:Int)))
    (ixK d f v10 1 fun a12=>
      ∃x13,w11.cell? a12=some (.int .i64 x13)∧
      Calls prog 115 #[.int .i64 x13] w11 fun e w14=> ∃r15,e= .returned (.int .i64 r15)∧
      ∃w16 r17,(Instr.lookup 145 (.map r4) (.int .i64 r15) false).run prog w14= .ok (.int .i64 r17) w16∧
      cnd (decide (r17> (0:Int)))
      (ixK a b (i64.wrap (r17 - (1:Int))) 3 fun a18=>
        ∃x19,w16.cell? (a18.add 1)=some (.int .i64 x19)∧
        ∃w20,(Instr.mapUpdate 136 (.map (some n5)) (.int .i64 x19) (.bool true)).run prog w16= .ok () w20∧
        ∃k9,k9<k8∧I7 (i64.wrap (v10+ (1:Int))) w20 k9)
      (∃k9,k9<k8∧I7 (i64.wrap (v10+ (1:Int))) w16 k9))
    (∃n21,(Builtin.len_ #[136] 3 #[.map (some n5)]).run prog w11= .ok (.int .i64 n21) w11∧
      K (.int .i64 n21) w11))
theorem learn_Levels.calls {a b c d f g w R} (h:learn_Levels.w a b c d f g w fun v w'=>R (.returned v) w'):Calls prog 78 #[.slice a b c,.slice d f g] w R:=
 calls_of mixed Tryz.func78 (by kernel_rfl) rfl (ann:=(.two .leaf (.two .leaf (.two .leaf (.two .leaf (.two (.two .leaf (.one (.loop [(18,3)] .leaf))) .leaf)))))) (F:=learn_Levels.w a b c d f g w) (fun K=>by kernel_rfl) h
def heap_Heap_is.w (h_:Option Addr) (v_:Int) (w:World) (K:Value→World→Prop):Prop:=
 cnd (!h_.isNone)
 (cnd (decide (v_≥(1:Int)))
 (∃a1,h_=some a1∧∃x2p x2n x2c,w.cell? (a1.add 1)=some (.slice x2p x2n x2c)∧
 K (.bool (decide (v_< (x2n:Int)))) w)
 (K (.bool false) w))
 (K (.bool false) w)
theorem heap_Heap_is.calls {h_ v_ w R} (h:heap_Heap_is.w h_ v_ w fun v w'=>R (.returned v) w'):Calls prog 79 #[.pointer h_,.int .i64 v_] w R:=
 calls_of mixed Tryz.func79 (by kernel_rfl) rfl (ann:= .leaf) (F:=heap_Heap_is.w h_ v_ w) (fun K=>by kernel_rfl) h
def heap_Heap_up.w (h_:Option Addr) (i_:Int) (w:World) (K:Value→World→Prop):Prop:=
 ∃a1,h_=some a1∧∃x2p x2n x2c,w.cell? (a1.add 0)=some (.slice x2p x2n x2c)∧
 ixK x2p x2n i_ 1 fun a3=>
 ∃x4,w.cell? a3=some (.int .i64 x4)∧
 ∃I5:Int→World→Nat→Prop,(∃k6,I5 i_ w k6)∧
 ∀i_8 w9 k6 (_:Fr),I5 i_8 w9 k6→
 cnd (decide (i_8> (0:Int)))
  ((2:Int)≠0∧∃a10,h_=some a10∧∃x11p x11n x11c,w9.cell? (a10.add 0)=some (.slice x11p x11n x11c)∧
    ixK x11p x11n (i64.wrap ((i64.wrap (i_8 - (1:Int))).tdiv (2:Int))) 1 fun a12=>
    ∃x13,w9.cell? a12=some (.int .i64 x13)∧
    Calls prog 99 #[.pointer h_,.int .i64 x4,.int .i64 x13] w9 fun e w14=> ∃r15,e= .returned (.bool r15)∧
    cnd (!r15)
    (Calls prog 70 #[.pointer h_,.int .i64 i_8,.int .i64 x4] w14 fun e w16=>e= .returned (.tuple #[])∧
      K (.tuple #[]) w16)
    (∃a17,h_=some a17∧∃x18p x18n x18c,w14.cell? (a17.add 0)=some (.slice x18p x18n x18c)∧
      ixK x18p x18n (i64.wrap ((i64.wrap (i_8 - (1:Int))).tdiv (2:Int))) 1 fun a19=>
      ∃x20,w14.cell? a19=some (.int .i64 x20)∧
      Calls prog 70 #[.pointer h_,.int .i64 i_8,.int .i64 x20] w14 fun e w21=>e= .returned (.tuple #[])∧
      ∃k7,k7<k6∧I5 (i64.wrap ((i64.wrap (i_8 - (1:Int))).tdiv (2:Int))) w21 k7))
  (Calls prog 70 #[.pointer h_,.int .i64 i_8,.int .i64 x4] w9 fun e w22=>e= .returned (.tuple #[])∧
    K (.tuple #[]) w22)
theorem heap_Heap_up.calls {h_ i_ w R} (h:heap_Heap_up.w h_ i_ w fun v w'=>R (.returned v) w'):Calls prog 80 #[.pointer h_,.int .i64 i_] w R:=
 calls_of mixed Tryz.func80 (by kernel_rfl) rfl (ann:=(.two .leaf (.two (.one (.loop [(1,3)] .leaf)) .leaf))) (F:=heap_Heap_up.w h_ i_ w) (fun K=>by kernel_rfl) h
def heap_Heap_scale.w (h_:Option Addr) (v_:Int) (w:World) (K:Value→World→Prop):Prop:=
 ∃a1,h_=some a1∧∃x2,w.cell? (a1.add 3)=some (.int .i64 x2)∧
 cnd (decide (x2≤(1099511627776:Int)))
 (∃a3,h_=some a3∧∃x4p x4n x4c,w.cell? (a3.add 2)=some (.slice x4p x4n x4c)∧
 ixK x4p x4n v_ 1 fun a5=>
 ∃x6,w.cell? a5=some (.int .i64 x6)∧
 cnd (decide (x6≤(1099511627776:Int)))
 (K (.tuple #[]) w)
 (∃a7,h_=some a7∧∃x8p x8n x8c,w.cell? (a7.add 2)=some (.slice x8p x8n x8c)∧
   ∃I9:Int→World→Nat→Prop,(∃k10,I9 0 w k10)∧
   ∀v12 w13 k10 (_:Fr),I9 v12 w13 k10→
   cnd (decide (v12< (x8n:Int)))
    (∃a14,h_=some a14∧∃x15p x15n x15c,w13.cell? (a14.add 2)=some (.slice x15p x15n x15c)∧
      ixK x15p x15n v12 1 fun a16=>
      ∃x17,w13.cell? a16=some (.int .i64 x17)∧
      0≤(20:Int)∧ixK x15p x15n v12 1 fun a18=>
      ∃w19,StoreAt a18 0 [.int .i64 (x17.fdiv (2 ^ (min (20:Int).toNat (IntKind.bits .i64))))] w13 w19∧
      ∃k11,k11<k10∧I9 (i64.wrap (v12+ (1:Int))) w19 k11)
    (∃a20,h_=some a20∧∃x21,w13.cell? (a20.add 3)=some (.int .i64 x21)∧
      0≤(20:Int)∧∃a22,h_=some a22∧∃w23,StoreAt (a22.add 3) 0 [.int .i64 (imax 1 (x21.fdiv (2 ^ (min (20:Int).toNat (IntKind.bits .i64)))))] w13 w23∧
      ∃a24,h_=some a24∧∃x25p x25n x25c,w23.cell? (a24.add 0)=some (.slice x25p x25n x25c)∧
      ∃I26:Int→World→Nat→Prop,(∃k27,I26 (i64.wrap ((x25n:Int) - (1:Int))) w23 k27)∧
      ∀i_29 w30 k27 (_:Fr),I26 i_29 w30 k27→
      cnd (decide (i_29≥(0:Int)))
       (Calls prog 71 #[.pointer h_,.int .i64 i_29] w30 fun e w31=>e= .returned (.tuple #[])∧
         ∃k28,k28<k27∧I26 (i64.wrap (i_29 - (1:Int))) w31 k28)
       (K (.tuple #[]) w30))))
 (∃a32,h_=some a32∧∃x33p x33n x33c,w.cell? (a32.add 2)=some (.slice x33p x33n x33c)∧
 ∃I34:Int→World→Nat→Prop,(∃k35,I34 0 w k35)∧
 ∀v37 w38 k35 (_:Fr),I34 v37 w38 k35→
 cnd (decide (v37< (x33n:Int)))
  (∃a39,h_=some a39∧∃x40p x40n x40c,w38.cell? (a39.add 2)=some (.slice x40p x40n x40c)∧
    ixK x40p x40n v37 1 fun a41=>
    ∃x42,w38.cell? a41=some (.int .i64 x42)∧
    0≤(20:Int)∧ixK x40p x40n v37 1 fun a43=>
    ∃w44,StoreAt a43 0 [.int .i64 (x42.fdiv (2 ^ (min (20:Int).toNat (IntKind.bits .i64))))] w38 w44∧
    ∃k36,k36<k35∧I34 (i64.wrap (v37+ (1:Int))) w44 k36)
  (∃a45,h_=some a45∧∃x46,w38.cell? (a45.add 3)=some (.int .i64 x46)∧
    0≤(20:Int)∧∃a47,h_=some a47∧∃w48,StoreAt (a47.add 3) 0 [.int .i64 (imax 1 (x46.fdiv (2 ^ (min (20:Int).toNat (IntKind.bits .i64)))))] w38 w48∧
    ∃a49,h_=some a49∧∃x50p x50n x50c,w48.cell? (a49.add 0)=some (.slice x50p x50n x50c)∧
    ∃I51:Int→World→Nat→Prop,(∃k52,I51 (i64.wrap ((x50n:Int) - (1:Int))) w48 k52)∧
    ∀i_54 w55 k52 (_:Fr),I51 i_54 w55 k52→
    cnd (decide (i_54≥(0:Int)))
     (Calls prog 71 #[.pointer h_,.int .i64 i_54] w55 fun e w56=>e= .returned (.tuple #[])∧
       ∃k53,k53<k52∧I51 (i64.wrap (i_54 - (1:Int))) w56 k53)
     (K (.tuple #[]) w55)))
theorem heap_Heap_scale.calls {h_ v_ w R} (h:heap_Heap_scale.w h_ v_ w fun v w'=>R (.returned v) w'):Calls prog 81 #[.pointer h_,.int .i64 v_] w R:=
 calls_of mixed Tryz.func81 (by kernel_rfl) rfl (ann:=(.two .leaf (.two (.two .leaf (.one (.loop [(26,3)] .leaf))) (.two .leaf (.two .leaf (.one (.loop [(5,3)] .leaf))))))) (F:=heap_Heap_scale.w h_ v_ w) (fun K=>by kernel_rfl) h
def prop_Prop_Trail.w (p_:Option Addr) (w:World) (K:Value→World→Prop):Prop:=
 cnd p_.isNone
 (K (.slice none 0 0) w)
 (∃a1,p_=some a1∧∃x2p x2n x2c,w.cell? (a1.add 6)=some (.slice x2p x2n x2c)∧
   Calls prog 45 #[.slice x2p x2n x2c] w fun e w3=> ∃r4p r4n r4c,e= .returned (.slice r4p r4n r4c)∧
   K (.slice r4p r4n r4c) w3)
theorem prop_Prop_Trail.calls {p_ w R} (h:prop_Prop_Trail.w p_ w fun v w'=>R (.returned v) w'):Calls prog 82 #[.pointer p_] w R:=
 calls_of mixed Tryz.func82 (by kernel_rfl) rfl (ann:= .leaf) (F:=prop_Prop_Trail.w p_ w) (fun K=>by kernel_rfl) h
def prop_Prop_Back.w (p_:Option Addr) (a:Int) (w:World) (K:Value→World→Prop):Prop:=
 cnd p_.isNone
 (K (.tuple #[]) w)
 (∃a1,p_=some a1∧∃x2p x2n x2c,w.cell? (a1.add 7)=some (.slice x2p x2n x2c)∧
 cnd (decide ((imax 0 a)≥(x2n:Int)))
 (K (.tuple #[]) w)
 (∃a3,p_=some a3∧∃x4p x4n x4c,w.cell? (a3.add 7)=some (.slice x4p x4n x4c)∧
   ixK x4p x4n (imax 0 a) 1 fun a5=>
   ∃x6,w.cell? a5=some (.int .i64 x6)∧
   ∃a7,p_=some a7∧∃x8p x8n x8c,w.cell? (a7.add 6)=some (.slice x8p x8n x8c)∧
   slK x8p x8n x8c 1 (some x6) none none fun s9p s9n s9c=>
   ∃I10:Int→World→Nat→Prop,(∃k11,I10 0 w k11)∧
   ∀v13 w14 k11 (_:Fr),I10 v13 w14 k11→
   cnd (decide (v13< (s9n:Int)))
    (ixK s9p s9n v13 1 fun a15=>
      ∃x16,w14.cell? a15=some (.int .i64 x16)∧
      ∃W17:World→Prop,W17 w14.drew∧
      ∃a18,p_=some a18∧∃x19p x19n x19c,AtW W17 (a18.add 3) (.slice x19p x19n x19c)∧
      Calls prog 92 #[.int .i64 x16] w14.drew fun e w20=> ∃r21,e= .returned (.int .i64 r21)∧
      W17 w20∧ixK x19p x19n r21 1 fun a22=>
      ∃w23,StoreAt a22 0 [.int .i8 0] w20 w23∧
      ∃k12,k12<k11∧I10 (i64.wrap (v13+ (1:Int))) w23 k12)
    (∃a24,p_=some a24∧∃x25,w14.drew.cell? (a24.add 9)=some (.int .i64 x25)∧
      ∃a26,p_=some a26∧∃x27p x27n x27c,w14.drew.cell? (a26.add 8)=some (.slice x27p x27n x27c)∧
      ixK x27p x27n (imax 0 a) 1 fun a28=>
      ∃x29,w14.drew.cell? a28=some (.int .i64 x29)∧
      ∃a30,p_=some a30∧∃w31,StoreAt (a30.add 9) 0 [.int .i64 (imin (imin x25 x6) x29)] w14.drew w31∧
      ∃a32,p_=some a32∧∃x33p x33n x33c,w31.drew.cell? (a32.add 6)=some (.slice x33p x33n x33c)∧
      slK x33p x33n x33c 1 none (some x6) none fun s34p s34n s34c=>
      ∃a35,p_=some a35∧∃x36p x36n x36c,w31.drew.cell? (a35.add 7)=some (.slice x36p x36n x36c)∧
      slK x36p x36n x36c 1 none (some (imax 0 a)) none fun s37p s37n s37c=>
      ∃a38,p_=some a38∧∃x39p x39n x39c,w31.drew.cell? (a38.add 8)=some (.slice x39p x39n x39c)∧
      slK x39p x39n x39c 1 none (some (imax 0 a)) none fun s40p s40n s40c=>
      ∃a41,p_=some a41∧∃w42,StoreAt (a41.add 6) 0 [.slice s34p s34n s34c] w31.drew w42∧
      ∃a43,p_=some a43∧∃w44,StoreAt (a43.add 7) 0 [.slice s37p s37n s37c] w42 w44∧
      ∃a45,p_=some a45∧∃w46,StoreAt (a45.add 8) 0 [.slice s40p s40n s40c] w44 w46∧
      K (.tuple #[]) w46)))
theorem prop_Prop_Back.calls {p_ a w R} (h:prop_Prop_Back.w p_ a w fun v w'=>R (.returned v) w'):Calls prog 83 #[.pointer p_,.int .i64 a] w R:=
 calls_of mixed Tryz.func83 (by kernel_rfl) rfl (ann:=(.two .leaf (.two .leaf (.two .leaf (.two (.two .leaf (.one (.loop [(34,3)] (.two .leaf (.two .leaf (.two (.one (.two .leaf .draw)) .leaf)))))) .leaf))))) (F:=prop_Prop_Back.w p_ a w) (fun K=>by kernel_rfl) h
def heap_Heap_Push.w (h_:Option Addr) (v_:Int) (w:World) (K:Value→World→Prop):Prop:=
 Calls prog 79 #[.pointer h_,.int .i64 v_] w fun e w1=> ∃r2,e= .returned (.bool r2)∧
 cnd (!r2)
 (K (.int .i64 1) w1)
 (∃a3,h_=some a3∧∃x4p x4n x4c,w1.cell? (a3.add 1)=some (.slice x4p x4n x4c)∧
   ixK x4p x4n v_ 1 fun a5=>
   ∃x6,w1.cell? a5=some (.int .i64 x6)∧
   cnd (x6==(0:Int))
   (∃a7,h_=some a7∧∃x8p x8n x8c,w1.cell? (a7.add 0)=some (.slice x8p x8n x8c)∧
     ∀n9 w10,New (.cells #[.int .i64 v_] 3) w1 n9 w10→
     ∃w11 r12p r12n r12c,(Builtin.append_ #[28,28] 28 #[.slice x8p x8n x8c,.slice (some (Addr.mk n9 0 none)) 1 1]).run prog w10= .ok (.slice r12p r12n r12c) w11∧
     ∃a13,h_=some a13∧∃w14,StoreAt (a13.add 0) 0 [.slice r12p r12n r12c] w11 w14∧
     ∃a15,h_=some a15∧∃x16p x16n x16c,w14.drew.cell? (a15.add 1)=some (.slice x16p x16n x16c)∧
     ∃a17,h_=some a17∧∃x18p x18n x18c,w14.drew.cell? (a17.add 0)=some (.slice x18p x18n x18c)∧
     ixK x16p x16n v_ 1 fun a19=>
     ∃w20,StoreAt a19 0 [.int .i64 (x18n:Int)] w14.drew w20∧
     ∃a21,h_=some a21∧∃x22p x22n x22c,w20.cell? (a21.add 0)=some (.slice x22p x22n x22c)∧
     Calls prog 80 #[.pointer h_,.int .i64 (i64.wrap ((x22n:Int) - (1:Int)))] w20 fun e w23=>e= .returned (.tuple #[])∧
     K (.int .i64 0) w23)
   (K (.int .i64 0) w1))
theorem heap_Heap_Push.calls {h_ v_ w R} (h:heap_Heap_Push.w h_ v_ w fun v w'=>R (.returned v) w'):Calls prog 84 #[.pointer h_,.int .i64 v_] w R:=
 calls_of mixed Tryz.func84 (by kernel_rfl) rfl (ann:= .leaf) (F:=heap_Heap_Push.w h_ v_ w) (fun K=>by kernel_rfl) h
def luby_Check.w (p_0:Int) (p_1:Int) (p_2:Int) (w:World) (K:Value→World→Prop):Prop:=
 ∀n1 w2,New (.cells #[.int .i64 p_0,.int .i64 p_1,.int .i64 p_2] 63) w n1 w2→
 ∃x3,w2.drew.cell? ((Addr.mk n1 0 none).add 0)=some (.int .i64 x3)∧
 cnd (decide (x3< (1:Int)))
 (((K (.int .i64 1) w2.drew)∧
(K (.int .i64 1) w2.drew))∧
((K (.int .i64 1) w2.drew)∧
(K (.int .i64 1) w2.drew))∧
(K (.int .i64 1) w2.drew))
  (∃x4,w2.drew.cell? ((Addr.mk n1 0 none).add 0)=some (.int .i64 x4)∧
  cnd (decide (x4> (1048576:Int)))
  (((K (.int .i64 1) w2.drew)∧
(K (.int .i64 1) w2.drew))∧
((K (.int .i64 1) w2.drew)∧
(K (.int .i64 1) w2.drew))∧
(K (.int .i64 1) w2.drew))
  (∃x5,w2.drew.cell? ((Addr.mk n1 0 none).add 1)=some (.int .i64 x5)∧
  cnd (decide (x5< (1:Int)))
  (((K (.int .i64 1) w2.drew)∧
(K (.int .i64 1) w2.drew))∧
((K (.int .i64 1) w2.drew)∧
(K (.int .i64 1) w2.drew))∧
(K (.int .i64 1) w2.drew))
  (∃x6,w2.drew.cell? ((Addr.mk n1 0 none).add 1)=some (.int .i64 x6)∧
  cnd (decide (x6> (1073741824:Int)))
  (((K (.int .i64 1) w2.drew)∧
(K (.int .i64 1) w2.drew))∧
((K (.int .i64 1) w2.drew)∧
(K (.int .i64 1) w2.drew))∧
(K (.int .i64 1) w2.drew))
  (∃x7,w2.drew.cell? ((Addr.mk n1 0 none).add 2)=some (.int .i64 x7)∧
  cnd (decide (x7< (1:Int)))
  (((K (.int .i64 1) w2.drew)∧
(K (.int .i64 1) w2.drew))∧
((K (.int .i64 1) w2.drew)∧
(K (.int .i64 1) w2.drew))∧
(K (.int .i64 1) w2.drew))
  (∃x8,w2.drew.cell? ((Addr.mk n1 0 none).add 1)=some (.int .i64 x8)∧
  (∃x9,w2.drew.cell? ((Addr.mk n1 0 none).add 2)=some (.int .i64 x9)∧
  (∃x10,w2.drew.cell? ((Addr.mk n1 0 none).add 0)=some (.int .i64 x10)∧
  Calls prog 87 #[.int .i64 x8] w2.drew fun e w11=> ∃r12,e= .returned (.int .i64 r12)∧
  cnd (decide (x9> (i64.wrap (x10*r12))))
  (K (.int .i64 1) w11)
  (K (.int .i64 0) w11))∧
(Calls prog 87 #[.int .i64 x8] w2.drew fun e w13=> ∃r14,e= .returned (.int .i64 r14)∧
  ∃x15,w13.cell? ((Addr.mk n1 0 none).add 0)=some (.int .i64 x15)∧
  cnd (decide (x9> (i64.wrap (x15*r14))))
  (K (.int .i64 1) w13)
  (K (.int .i64 0) w13)))∧
(∃x16,w2.drew.cell? ((Addr.mk n1 0 none).add 0)=some (.int .i64 x16)∧
  (∃x17,w2.drew.cell? ((Addr.mk n1 0 none).add 2)=some (.int .i64 x17)∧
  Calls prog 87 #[.int .i64 x8] w2.drew fun e w18=> ∃r19,e= .returned (.int .i64 r19)∧
  cnd (decide (x17> (i64.wrap (x16*r19))))
  (K (.int .i64 1) w18)
  (K (.int .i64 0) w18))∧
(Calls prog 87 #[.int .i64 x8] w2.drew fun e w20=> ∃r21,e= .returned (.int .i64 r21)∧
  ∃x22,w20.cell? ((Addr.mk n1 0 none).add 2)=some (.int .i64 x22)∧
  cnd (decide (x22> (i64.wrap (x16*r21))))
  (K (.int .i64 1) w20)
  (K (.int .i64 0) w20)))∧
(Calls prog 87 #[.int .i64 x8] w2.drew fun e w23=> ∃r24,e= .returned (.int .i64 r24)∧
  ∃x25,w23.cell? ((Addr.mk n1 0 none).add 2)=some (.int .i64 x25)∧
  ∃x26,w23.cell? ((Addr.mk n1 0 none).add 0)=some (.int .i64 x26)∧
  cnd (decide (x25> (i64.wrap (x26*r24))))
  (K (.int .i64 1) w23)
  (K (.int .i64 0) w23)))))))
theorem luby_Check.calls {p_0 p_1 p_2 w R} (h:luby_Check.w p_0 p_1 p_2 w fun v w'=>R (.returned v) w'):Calls prog 86 #[.agg #[.int .i64 p_0,.int .i64 p_1,.int .i64 p_2]] w R:=
 calls_of mixed Tryz.func86 (by kernel_rfl) rfl (ann:= .leaf) (F:=luby_Check.w p_0 p_1 p_2 w) (fun K=>by kernel_rfl) h
def luby_number.w (i_:Int) (w:World) (K:Value→World→Prop):Prop:=
 ∃I1:Int→World→Nat→Prop,(∃k2,I1 i_ w k2)∧
 ∀i_4 w5 k2 (_:Fr),I1 i_4 w5 k2→
 Calls prog 116 #[.int .u64 (IntKind.u64.wrap i_4)] w5 fun e w6=> ∃r7,e= .returned (.int .i64 r7)∧
  0≤r7∧cnd (i_4==(i64.wrap ((i64.wrap ((1:Int)*2 ^ (min r7.toNat (IntKind.bits .i64)))) - (1:Int))))
  (0≤(i64.wrap (r7 - (1:Int)))∧K (.int .i64 (i64.wrap ((1:Int)*2 ^ (min (i64.wrap (r7 - (1:Int))).toNat (IntKind.bits .i64))))) w6)
  (0≤(i64.wrap (r7 - (1:Int)))∧∃k3,k3<k2∧I1 (i64.wrap (i_4 - (i64.wrap ((i64.wrap ((1:Int)*2 ^ (min (i64.wrap (r7 - (1:Int))).toNat (IntKind.bits .i64)))) - (1:Int))))) w6 k3)
theorem luby_number.calls {i_ w R} (h:luby_number.w i_ w fun v w'=>R (.returned v) w'):Calls prog 87 #[.int .i64 i_] w R:=
 calls_of mixed Tryz.func87 (by kernel_rfl) rfl (ann:=(.two .leaf (.one (.loop [(0,3)] .leaf)))) (F:=luby_number.w i_ w) (fun K=>by kernel_rfl) h
def reduce_Quota.w (a:Int) (b:Int) (w:World) (K:Value→World→Prop):Prop:=
 cnd (decide (a< (1:Int)))
 (K (.int .i64 0) w)
 (cnd (decide (a> (1048576:Int)))
 (K (.int .i64 0) w)
 (cnd (decide (b< (0:Int)))
 (K (.int .i64 0) w)
 (cnd (decide (b> (100:Int)))
 (K (.int .i64 0) w)
 (∃I1:Int→Int→World→Nat→Prop,(∃k2,I1 a 0 w k2)∧
   ∀n_4 v5 w6 k2 (_:Fr),I1 n_4 v5 w6 k2→
   cnd (decide (v5<b))
    ((10:Int)≠0∧∃k3,k3<k2∧I1 (i64.wrap (n_4+ (i64.wrap ((i64.wrap (n_4.tdiv (10:Int)))+ (1:Int))))) (i64.wrap (v5+ (1:Int))) w6 k3)
    (K (.int .i64 n_4) w6)))))
theorem reduce_Quota.calls {a b w R} (h:reduce_Quota.w a b w fun v w'=>R (.returned v) w'):Calls prog 88 #[.int .i64 a,.int .i64 b] w R:=
 calls_of mixed Tryz.func88 (by kernel_rfl) rfl (ann:=(.two .leaf (.two .leaf (.two .leaf (.two (.two .leaf (.one (.loop [(5,3),(22,3)] .leaf))) .leaf))))) (F:=reduce_Quota.w a b w) (fun K=>by kernel_rfl) h
def cdcl_search_locked.w (x0_:Option Addr) (c_0:Int) (c1p:Option Addr) (c1n:Nat) (c1c:Nat) (c_2:Int) (c_3:Int) (c_4:Bool) (w:World) (K:Value→World→Prop):Prop:=
 ∀n1 w2,New (.cells #[.pointer x0_] 59) w n1 w2→
 ∀n3 w4,New (.cells #[.int .i64 c_0,.slice c1p c1n c1c,.int .i64 c_2,.int .i64 c_3,.bool c_4] 128) w2 n3 w4→
 ∃x5p x5n x5c,w4.cell? ((Addr.mk n3 0 none).add 1)=some (.slice x5p x5n x5c)∧
 Calls prog 33 #[.slice x5p x5n x5c,.func (.func 117) #[] #[.pointer (some (Addr.mk n1 0 none)),.pointer (some (Addr.mk n3 0 none))]] w4 fun e w6=> ∃r7,e= .returned (.bool r7)∧
 K (.bool r7) w6
theorem cdcl_search_locked.calls {x0_ c_0 c1p c1n c1c c_2 c_3 c_4 w R} (h:cdcl_search_locked.w x0_ c_0 c1p c1n c1c c_2 c_3 c_4 w fun v w'=>R (.returned v) w'):Calls prog 89 #[.pointer x0_,.agg #[.int .i64 c_0,.slice c1p c1n c1c,.int .i64 c_2,.int .i64 c_3,.bool c_4]] w R:=
 calls_of mixed Tryz.func89 (by kernel_rfl) rfl (ann:= .leaf) (F:=cdcl_search_locked.w x0_ c_0 c1p c1n c1c c_2 c_3 c_4 w) (fun K=>by kernel_rfl) h
def reduce_Keep.w (a:Option Addr) (b:Nat) (c:Nat) (w:World) (K:Value→World→Prop):Prop:=
 Calls prog 118 #[.slice a b c] w fun e w1=> ∃r2,e= .returned (.int .i64 r2)∧
 cnd (r2 !=(0:Int))
 (K (.slice none 0 0) w1)
 (∃w3 r4p r4n r4c,(Instr.makeSlice 44 (.int .i64 (b:Int)) (.int .i64 (b:Int))).run prog w1= .ok (.slice r4p r4n r4c) w3∧
   ∃I5:Int→Int→World→Nat→Prop,(∃k6,I5 0 0 w3 k6)∧
   ∀f_8 v9 w10 k6 (_:Fr),I5 f_8 v9 w10 k6→
   cnd (decide (v9< (b:Int)))
    (ixK a b v9 3 fun a11=>
      ∃x12 x13 x14,CellsAt w10 a11 0 [.int .i64 x12,.int .i64 x13,.bool x14]∧
      ∀n15 w16,New (.cells #[.int .i64 0,.int .i64 0,.bool false] 126) w10 n15 w16→
      ∃w17,StoreAt (Addr.mk n15 0 none) 0 [.int .i64 x12,.int .i64 x13,.bool x14] w16 w17∧
      ∃x18 x19 x20,CellsAt w17 (Addr.mk n15 0 none) 0 [.int .i64 x18,.int .i64 x19,.bool x20]∧
      Calls prog 119 #[.agg #[.int .i64 x18,.int .i64 x19,.bool x20]] w17 fun e w21=> ∃r22,e= .returned (.bool r22)∧
      ixK r4p r4n v9 1 fun a23=>
      ∃w24,StoreAt a23 0 [.bool r22] w21 w24∧
      ixK r4p r4n v9 1 fun a25=>
      ∃x26,w24.cell? a25=some (.bool x26)∧
      cnd (!x26)
      (∃k7,k7<k6∧I5 (i64.wrap (f_8+ (1:Int))) (i64.wrap (v9+ (1:Int))) w24 k7)
      (∃k7,k7<k6∧I5 f_8 (i64.wrap (v9+ (1:Int))) w24 k7))
    ((2:Int)≠0∧Calls prog 120 #[.slice a b c] w10 fun e w27=> ∃r28p r28n r28c,e= .returned (.slice r28p r28n r28c)∧
      ∃I29:Int→Int→World→Nat→Prop,(∃k30,I29 (i64.wrap (f_8.tdiv (2:Int))) 0 w27 k30)∧
      ∀l_32 v33 w34 k30 (_:Fr),I29 l_32 v33 w34 k30→
      cnd (decide (v33< (r28n:Int)))
       (ixK r28p r28n v33 1 fun a35=>
         ∃x36,w34.cell? a35=some (.int .i64 x36)∧
         ixK r4p r4n x36 1 fun a37=>
         ∃x38,w34.cell? a37=some (.bool x38)∧
         cnd (!x38)
         (cnd (decide (l_32> (0:Int)))
         (ixK r4p r4n x36 1 fun a39=>
           ∃w40,StoreAt a39 0 [.bool true] w34 w40∧
           ∃k31,k31<k30∧I29 (i64.wrap (l_32 - (1:Int))) (i64.wrap (v33+ (1:Int))) w40 k31)
         (∃k31,k31<k30∧I29 l_32 (i64.wrap (v33+ (1:Int))) w34 k31))
         (∃k31,k31<k30∧I29 l_32 (i64.wrap (v33+ (1:Int))) w34 k31))
       (K (.slice r4p r4n r4c) w34)))
theorem reduce_Keep.calls {a b c w R} (h:reduce_Keep.w a b c w fun v w'=>R (.returned v) w'):Calls prog 90 #[.slice a b c] w R:=
 calls_of mixed Tryz.func90 (by kernel_rfl) rfl (ann:=(.two .leaf (.two .leaf (.two .leaf (.two .leaf (.two (.two .leaf (.one (.loop [(4,3),(18,3)] .leaf))) (.two .leaf (.two (.two .leaf (.one (.loop [(7,3),(41,3)] .leaf))) .leaf)))))))) (F:=reduce_Keep.w a b c w) (fun K=>by kernel_rfl) h
def prop_Prop_Drop.w (p_:Option Addr) (i_:Int) (w:World) (K:Value→World→Prop):Prop:=
 ∀n1 w2,New (.cells #[.int .i64 i_] 3) w n1 w2→
 ∃x3,w2.cell? (Addr.mk n1 0 none)=some (.int .i64 x3)∧
 Calls prog 72 #[.pointer p_,.int .i64 x3] w2 fun e w4=> ∃r5,e= .returned (.bool r5)∧
 cnd (!r5)
 (K (.int .i64 4) w4)
 (∃a6,p_=some a6∧∃x7p x7n x7c,w4.drew.cell? (a6.add 1)=some (.slice x7p x7n x7c)∧
   ∃x8,w4.drew.cell? (Addr.mk n1 0 none)=some (.int .i64 x8)∧
   ixK x7p x7n x8 3 fun a9=>
   ∃x10p x10n x10c,w4.drew.cell? (a9.add 1)=some (.slice x10p x10n x10c)∧
   ∃I11:Int→World→Nat→Prop,(∃k12,I11 0 w4.drew k12)∧
   ∀v14 w15 k12 (_:Fr),I11 v14 w15 k12→
   cnd (decide (v14< (x10n:Int)))
    (ixK x10p x10n v14 1 fun a16=>
      ∃x17,w15.cell? a16=some (.int .i64 x17)∧
      ∃W18:World→Prop,W18 w15.drew∧
      Calls prog 65 #[.pointer p_,.int .i64 x17] w15.drew fun e w19=> ∃r20,e= .returned (.int .i8 r20)∧
      W18 w19∧cnd (decide (r20> (0:Int)))
      (∃a21,p_=some a21∧∃x22p x22n x22c,AtW W18 (a21.add 5) (.slice x22p x22n x22c)∧
      Calls prog 92 #[.int .i64 x17] w19 fun e w23=> ∃r24,e= .returned (.int .i64 r24)∧
      W18 w23∧ixK x22p x22n r24 1 fun a25=>
      ∃x26,AtW W18 a25 (.int .i64 x26)∧
      ∃x27,AtW W18 (Addr.mk n1 0 none) (.int .i64 x27)∧
      cnd (x26==x27)
      (K (.int .i64 7) w23)
      (∃k13,k13<k12∧I11 (i64.wrap (v14+ (1:Int))) w23 k13))
      (∃k13,k13<k12∧I11 (i64.wrap (v14+ (1:Int))) w19 k13))
    (∃x28,w15.cell? (Addr.mk n1 0 none)=some (.int .i64 x28)∧
      Calls prog 66 #[.pointer p_,.int .i64 x28] w15 fun e w29=>e= .returned (.tuple #[])∧
      ∃a30,p_=some a30∧∃x31p x31n x31c,w29.cell? (a30.add 10)=some (.slice x31p x31n x31c)∧
      Calls prog 63 #[.slice x31p x31n x31c,.func (.func 121) #[] #[.pointer (some (Addr.mk n1 0 none))]] w29 fun e w32=> ∃r33p r33n r33c,e= .returned (.slice r33p r33n r33c)∧
      ∃a34,p_=some a34∧∃w35,StoreAt (a34.add 10) 0 [.slice r33p r33n r33c] w32 w35∧
      ∃a36,p_=some a36∧∃x37p x37n x37c,w35.drew.cell? (a36.add 1)=some (.slice x37p x37n x37c)∧
      ∃x38,w35.drew.cell? (Addr.mk n1 0 none)=some (.int .i64 x38)∧
      ixK x37p x37n x38 3 fun a39=>
      ∃w40,StoreAt a39 0 [.slice none 0 0,.slice none 0 0,.bool true] w35.drew w40∧
      K (.int .i64 0) w40))
theorem prop_Prop_Drop.calls {p_ i_ w R} (h:prop_Prop_Drop.w p_ i_ w fun v w'=>R (.returned v) w'):Calls prog 91 #[.pointer p_,.int .i64 i_] w R:=
 calls_of mixed Tryz.func91 (by kernel_rfl) rfl (ann:=(.two .leaf (.two .leaf (.two (.two .leaf (.one (.loop [(20,3)] (.two .leaf (.two .leaf (.two (.one (.two .leaf (.two .draw .leaf))) .leaf)))))) .leaf)))) (F:=prop_Prop_Drop.w p_ i_ w) (fun K=>by kernel_rfl) h
def prop_amount.w (l_:Int) (w:World) (K:Value→World→Prop):Prop:=
 K (.int .i64 (imax l_ (i64.wrap (0 - l_)))) w
theorem prop_amount.calls {l_ w R} (h:prop_amount.w l_ w fun v w'=>R (.returned v) w'):Calls prog 92 #[.int .i64 l_] w R:=
 calls_of mixed Tryz.func92 (by kernel_rfl) rfl (ann:= .leaf) (F:=prop_amount.w l_ w) (fun K=>by kernel_rfl) h
def lit_before.w (a_:Int) (b_:Int) (w:World) (K:Value→World→Prop):Prop:=
 Calls prog 37 #[.int .i64 a_] w fun e w1=> ∃r2,e= .returned (.int .i64 r2)∧
 Calls prog 37 #[.int .i64 b_] w1 fun e w3=> ∃r4,e= .returned (.int .i64 r4)∧
 cnd (r2 !=r4)
 (Calls prog 37 #[.int .i64 a_] w3 fun e w5=> ∃r6,e= .returned (.int .i64 r6)∧
   Calls prog 37 #[.int .i64 b_] w5 fun e w7=> ∃r8,e= .returned (.int .i64 r8)∧
   K (.int .i64 (i64.wrap (r6 - r8))) w7)
 (K (.int .i64 (i64.wrap (b_ - a_))) w3)
theorem lit_before.calls {a_ b_ w R} (h:lit_before.w a_ b_ w fun v w'=>R (.returned v) w'):Calls prog 94 #[.int .i64 a_,.int .i64 b_] w R:=
 calls_of mixed Tryz.func94 (by kernel_rfl) rfl (ann:= .leaf) (F:=lit_before.w a_ b_ w) (fun K=>by kernel_rfl) h
def slices_Compact_int_int.w (a:Option Addr) (b:Nat) (c:Nat) (w:World) (K:Value→World→Prop):Prop:=
 cnd (decide ((b:Int)< (2:Int)))
 (K (.slice a b c) w)
 (∃I1:Int→World→Nat→Prop,(∃k2,I1 1 w k2)∧
   ∀k_4 w5 k2 (_:Fr),I1 k_4 w5 k2→
   cnd (decide (k_4< (b:Int)))
    (ixK a b k_4 1 fun a6=>
      ∃x7,w5.drew.cell? a6=some (.int .i64 x7)∧
      ixK a b (i64.wrap (k_4 - (1:Int))) 1 fun a8=>
      ∃x9,w5.drew.cell? a8=some (.int .i64 x9)∧
      cnd (x7==x9)
      (slK a b c 1 (some k_4) none none fun s10p s10n s10c=>
        ∃I11:Int→Int→World→Nat→Prop,(∃k12,I11 k_4 1 w5.drew k12)∧
        ∀k_14 k2_15 w16 k12 (_:Fr),I11 k_14 k2_15 w16 k12→
        cnd (decide (k2_15< (s10n:Int)))
         (ixK s10p s10n k2_15 1 fun a17=>
           ∃x18,w16.drew.cell? a17=some (.int .i64 x18)∧
           ixK s10p s10n (i64.wrap (k2_15 - (1:Int))) 1 fun a19=>
           ∃x20,w16.drew.cell? a19=some (.int .i64 x20)∧
           cnd (x18 !=x20)
           (ixK s10p s10n k2_15 1 fun a21=>
             ∃x22,w16.drew.cell? a21=some (.int .i64 x22)∧
             ixK a b k_14 1 fun a23=>
             ∃w24,StoreAt a23 0 [.int .i64 x22] w16.drew w24∧
             ∃k13,k13<k12∧I11 (i64.wrap (k_14+ (1:Int))) (i64.wrap (k2_15+ (1:Int))) w24 k13)
           (∃k13,k13<k12∧I11 k_14 (i64.wrap (k2_15+ (1:Int))) w16.drew k13))
         (slK a b c 1 (some k_14) none none fun s25p s25n s25c=>
           ∃w26,(Builtin.clear_ #[28] 0 #[.slice s25p s25n s25c]).run prog w16= .ok (.tuple #[]) w26∧
           slK a b c 1 none (some k_14) none fun s27p s27n s27c=>
           K (.slice s27p s27n s27c) w26))
      (∃k3,k3<k2∧I1 (i64.wrap (k_4+ (1:Int))) w5.drew k3))
    (K (.slice a b c) w5))
theorem slices_Compact_int_int.calls {a b c w R} (h:slices_Compact_int_int.w a b c w fun v w'=>R (.returned v) w'):Calls prog 95 #[.slice a b c] w R:=
 calls_of mixed Tryz.func95 (by kernel_rfl) rfl (ann:=(.two .leaf (.two .leaf (.two (.two .leaf (.one (.loop [(3,3)] (.two .leaf (.two (.one (.two .leaf (.two (.two .leaf (.two (.two .leaf (.one (.loop [(3,3),(5,3)] .leaf))) .leaf)) .leaf))) .leaf))))) .leaf)))) (F:=slices_Compact_int_int.w a b c w) (fun K=>by kernel_rfl) h
def prop_Prop_rank.w (p_:Option Addr) (l_:Int) (w:World) (K:Value→World→Prop):Prop:=
 Calls prog 65 #[.pointer p_,.int .i64 l_] w fun e w1=> ∃r2,e= .returned (.int .i8 r2)∧
 cnd (decide (r2≥(0:Int)))
 (K (.int .i64 1048577) w1)
 (∃W3:World→Prop,W3 w1.drew∧
   ∃a4,p_=some a4∧∃x5p x5n x5c,AtW W3 (a4.add 4) (.slice x5p x5n x5c)∧
   Calls prog 92 #[.int .i64 l_] w1.drew fun e w6=> ∃r7,e= .returned (.int .i64 r7)∧
   W3 w6∧ixK x5p x5n r7 1 fun a8=>
   ∃x9,AtW W3 a8 (.int .i64 x9)∧
   K (.int .i64 x9) w6)
theorem prop_Prop_rank.calls {p_ l_ w R} (h:prop_Prop_rank.w p_ l_ w fun v w'=>R (.returned v) w'):Calls prog 96 #[.pointer p_,.int .i64 l_] w R:=
 calls_of mixed Tryz.func96 (by kernel_rfl) rfl (ann:=(.two .leaf (.two .leaf (.two .draw .leaf)))) (F:=prop_Prop_rank.w p_ l_ w) (fun K=>by kernel_rfl) h
def prop_Prop_unwatch_1.w (k_:Int) (c0_:Addr) (w:World) (K:Value→World→Prop):Prop:=
 ∃x1,w.cell? c0_=some (.int .i64 x1)∧
 K (.bool (k_==x1)) w
theorem prop_Prop_unwatch_1.calls {k_ c0_ w R} (h:prop_Prop_unwatch_1.w k_ c0_ w fun v w'=>R (.returned v) w'):Calls prog 97 #[.int .i64 k_,.pointer (some c0_)] w R:=
 calls_of mixed Tryz.func97 (by kernel_rfl) rfl (ann:= .leaf) (F:=prop_Prop_unwatch_1.w k_ c0_ w) (fun K=>by kernel_rfl) h
def heap_Heap_Len.w (h_:Option Addr) (w:World) (K:Value→World→Prop):Prop:=
 cnd h_.isNone
 (K (.int .i64 0) w)
 (∃a1,h_=some a1∧∃x2p x2n x2c,w.cell? (a1.add 0)=some (.slice x2p x2n x2c)∧
   K (.int .i64 (x2n:Int)) w)
theorem heap_Heap_Len.calls {h_ w R} (h:heap_Heap_Len.w h_ w fun v w'=>R (.returned v) w'):Calls prog 98 #[.pointer h_] w R:=
 calls_of mixed Tryz.func98 (by kernel_rfl) rfl (ann:= .leaf) (F:=heap_Heap_Len.w h_ w) (fun K=>by kernel_rfl) h
def heap_Heap_better.w (h_:Option Addr) (a_:Int) (b_:Int) (w:World) (K:Value→World→Prop):Prop:=
 ∃a1,h_=some a1∧∃x2p x2n x2c,w.drew.cell? (a1.add 2)=some (.slice x2p x2n x2c)∧
 ixK x2p x2n a_ 1 fun a3=>
 ∃x4,w.drew.cell? a3=some (.int .i64 x4)∧
 ∃a5,h_=some a5∧∃x6p x6n x6c,w.drew.cell? (a5.add 2)=some (.slice x6p x6n x6c)∧
 ixK x6p x6n b_ 1 fun a7=>
 ∃x8,w.drew.cell? a7=some (.int .i64 x8)∧
 cnd (x4 !=x8)
 (∃a9,h_=some a9∧∃x10p x10n x10c,w.drew.drew.cell? (a9.add 2)=some (.slice x10p x10n x10c)∧
   ixK x10p x10n a_ 1 fun a11=>
   ∃x12,w.drew.drew.cell? a11=some (.int .i64 x12)∧
   ∃a13,h_=some a13∧∃x14p x14n x14c,w.drew.drew.cell? (a13.add 2)=some (.slice x14p x14n x14c)∧
   ixK x14p x14n b_ 1 fun a15=>
   ∃x16,w.drew.drew.cell? a15=some (.int .i64 x16)∧
   K (.bool (decide (x12>x16))) w.drew.drew)
 (K (.bool (decide (a_<b_))) w.drew)
theorem heap_Heap_better.calls {h_ a_ b_ w R} (h:heap_Heap_better.w h_ a_ b_ w fun v w'=>R (.returned v) w'):Calls prog 99 #[.pointer h_,.int .i64 a_,.int .i64 b_] w R:=
 calls_of mixed Tryz.func99 (by kernel_rfl) rfl (ann:= .leaf) (F:=heap_Heap_better.w h_ a_ b_ w) (fun K=>by kernel_rfl) h
def cdcl_search_cone_1.w (a:Option Addr) (b:Nat) (c:Nat) (c0_:Addr) (c1_:Addr) (c2_:Addr) (w:World) (K:Value→World→Prop):Prop:=
 ∃I1:Int→World→Nat→Prop,(∃k2,I1 0 w k2)∧
 ∀v4 w5 k2 (_:Fr),I1 v4 w5 k2→
 cnd (decide (v4< (b:Int)))
  (ixK a b v4 1 fun a6=>
    ∃x7,w5.cell? a6=some (.int .i64 x7)∧
    ∃W8:World→Prop,W8 w5.drew∧
    ∃x9:Option Nat,AtW W8 c0_ (.map x9)∧
    Calls prog 101 #[.int .i64 x7] w5.drew fun e w10=> ∃r11,e= .returned (.int .i64 r11)∧
    W8 w10∧∃w12,(Instr.mapUpdate 136 (.map x9) (.int .i64 r11) (.bool true)).run prog w10= .ok () w12∧
    ∃W13:World→Prop,W13 w12.drew∧
    ∃x14:Option Nat,AtW W13 c1_ (.map x14)∧
    ∃x15,AtW W13 c2_ (.pointer x15)∧
    ∃a16,x15=some a16∧∃x17,AtW W13 (a16.add 5) (.pointer x17)∧
    Calls prog 102 #[.pointer x17,.int .i64 x7] w12.drew fun e w18=> ∃r19,e= .returned (.int .i64 r19)∧
    W13 w18∧∃w20,(Instr.mapUpdate 136 (.map x14) (.int .i64 r19) (.bool true)).run prog w18= .ok () w20∧
    ∃k3,k3<k2∧I1 (i64.wrap (v4+ (1:Int))) w20 k3)
  (K (.tuple #[]) w5)
theorem cdcl_search_cone_1.calls {a b c c0_ c1_ c2_ w R} (h:cdcl_search_cone_1.w a b c c0_ c1_ c2_ w fun v w'=>R (.returned v) w'):Calls prog 100 #[.slice a b c,.pointer (some c0_),.pointer (some c1_),.pointer (some c2_)] w R:=
 calls_of mixed Tryz.func100 (by kernel_rfl) rfl (ann:=(.two .leaf (.one (.loop [(9,3)] (.two .leaf (.two .leaf (.two (.one (.two .leaf (.two .draw .draw))) .leaf))))))) (F:=cdcl_search_cone_1.w a b c c0_ c1_ c2_ w) (fun K=>by kernel_rfl) h
def cdcl_amount.w (l_:Int) (w:World) (K:Value→World→Prop):Prop:=
 K (.int .i64 (imax l_ (i64.wrap (0 - l_)))) w
theorem cdcl_amount.calls {l_ w R} (h:cdcl_amount.w l_ w fun v w'=>R (.returned v) w'):Calls prog 101 #[.int .i64 l_] w R:=
 calls_of mixed Tryz.func101 (by kernel_rfl) rfl (ann:= .leaf) (F:=cdcl_amount.w l_ w) (fun K=>by kernel_rfl) h
def prop_Prop_Level.w (p_:Option Addr) (l_:Int) (w:World) (K:Value→World→Prop):Prop:=
 Calls prog 60 #[.pointer p_,.int .i64 l_] w fun e w1=> ∃r2,e= .returned (.bool r2)∧
 cnd (!r2)
 (K (.int .i64 (-1)) w1)
 (Calls prog 65 #[.pointer p_,.int .i64 l_] w1 fun e w3=> ∃r4,e= .returned (.int .i8 r4)∧
 cnd (r4==(0:Int))
 (K (.int .i64 (-1)) w3)
 (∃W5:World→Prop,W5 w3.drew∧
   ∃a6,p_=some a6∧∃x7p x7n x7c,AtW W5 (a6.add 4) (.slice x7p x7n x7c)∧
   Calls prog 92 #[.int .i64 l_] w3.drew fun e w8=> ∃r9,e= .returned (.int .i64 r9)∧
   W5 w8∧ixK x7p x7n r9 1 fun a10=>
   ∃x11,AtW W5 a10 (.int .i64 x11)∧
   K (.int .i64 x11) w8))
theorem prop_Prop_Level.calls {p_ l_ w R} (h:prop_Prop_Level.w p_ l_ w fun v w'=>R (.returned v) w'):Calls prog 102 #[.pointer p_,.int .i64 l_] w R:=
 calls_of mixed Tryz.func102 (by kernel_rfl) rfl (ann:=(.two .leaf (.two .leaf (.two .draw .leaf)))) (F:=prop_Prop_Level.w p_ l_ w) (fun K=>by kernel_rfl) h
def slices_Backward_int_int.w (a:Option Addr) (b:Nat) (c:Nat) (w:World) (K:Value→World→Prop):Prop:=
 ∀n1 w2,New (.cells #[.slice a b c] 28) w n1 w2→
 K (.func (.func 123) #[] #[.pointer (some (Addr.mk n1 0 none))]) w2
theorem slices_Backward_int_int.calls {a b c w R} (h:slices_Backward_int_int.w a b c w fun v w'=>R (.returned v) w'):Calls prog 103 #[.slice a b c] w R:=
 calls_of mixed Tryz.func103 (by kernel_rfl) rfl (ann:= .leaf) (F:=slices_Backward_int_int.w a b c w) (fun K=>by kernel_rfl) h
def prop_Prop_Reason.w (p_:Option Addr) (l_:Int) (w:World) (K:Value→World→Prop):Prop:=
 Calls prog 60 #[.pointer p_,.int .i64 l_] w fun e w1=> ∃r2,e= .returned (.bool r2)∧
 cnd (!r2)
 (K (.int .i64 (-1)) w1)
 (Calls prog 65 #[.pointer p_,.int .i64 l_] w1 fun e w3=> ∃r4,e= .returned (.int .i8 r4)∧
 cnd (r4==(0:Int))
 (K (.int .i64 (-1)) w3)
 (∃W5:World→Prop,W5 w3.drew∧
   ∃a6,p_=some a6∧∃x7p x7n x7c,AtW W5 (a6.add 5) (.slice x7p x7n x7c)∧
   Calls prog 92 #[.int .i64 l_] w3.drew fun e w8=> ∃r9,e= .returned (.int .i64 r9)∧
   W5 w8∧ixK x7p x7n r9 1 fun a10=>
   ∃x11,AtW W5 a10 (.int .i64 x11)∧
   K (.int .i64 x11) w8))
theorem prop_Prop_Reason.calls {p_ l_ w R} (h:prop_Prop_Reason.w p_ l_ w fun v w'=>R (.returned v) w'):Calls prog 104 #[.pointer p_,.int .i64 l_] w R:=
 calls_of mixed Tryz.func104 (by kernel_rfl) rfl (ann:=(.two .leaf (.two .leaf (.two .draw .leaf)))) (F:=prop_Prop_Reason.w p_ l_ w) (fun K=>by kernel_rfl) h
def slices_Reverse_fathom_api_Assign_fathom_api_Assign.w (a:Option Addr) (b:Nat) (c:Nat) (w:World) (K:Value→World→Prop):Prop:=
 ∃I1:Int→Int→World→Nat→Prop,(∃k2,I1 0 (i64.wrap ((b:Int) - (1:Int))) w k2)∧
 ∀i_4 j_5 w6 k2 (_:Fr),I1 i_4 j_5 w6 k2→
 cnd (decide (i_4<j_5))
  (ixK a b j_5 3 fun a7=>
    ∃x8 x9 x10p x10n x10c,CellsAt w6.drew a7 0 [.int .i64 x8,.int .i64 x9,.slice x10p x10n x10c]∧
    ixK a b i_4 3 fun a11=>
    ∃x12 x13 x14p x14n x14c,CellsAt w6.drew a11 0 [.int .i64 x12,.int .i64 x13,.slice x14p x14n x14c]∧
    ixK a b i_4 3 fun a15=>
    ∃w16,StoreAt a15 0 [.int .i64 x8,.int .i64 x9,.slice x10p x10n x10c] w6.drew w16∧
    ixK a b j_5 3 fun a17=>
    ∃w18,StoreAt a17 0 [.int .i64 x12,.int .i64 x13,.slice x14p x14n x14c] w16 w18∧
    ∃k3,k3<k2∧I1 (i64.wrap (i_4+ (1:Int))) (i64.wrap (j_5 - (1:Int))) w18 k3)
  (K (.tuple #[]) w6)
theorem slices_Reverse_fathom_api_Assign_fathom_api_Assign.calls {a b c w R} (h:slices_Reverse_fathom_api_Assign_fathom_api_Assign.w a b c w fun v w'=>R (.returned v) w'):Calls prog 105 #[.slice a b c] w R:=
 calls_of mixed Tryz.func105 (by kernel_rfl) rfl (ann:=(.two .leaf (.one (.loop [(2,3),(3,3)] .leaf)))) (F:=slices_Reverse_fathom_api_Assign_fathom_api_Assign.w a b c w) (fun K=>by kernel_rfl) h
def learn_Check.w (a:Option Addr) (b:Nat) (c:Nat) (d:Option Addr) (f:Nat) (g:Nat) (w:World) (K:Value→World→Prop):Prop:=
 Calls prog 111 #[.slice a b c] w fun e w1=> ∃r2,e= .returned (.bool r2)∧
 cnd (!r2)
 (K (.int .i64 1) w1)
 (Calls prog 35 #[.slice d f g] w1 fun e w3=> ∃r4,e= .returned (.int .i64 r4)∧
 cnd (r4 !=(0:Int))
 (K (.int .i64 1) w3)
 (Calls prog 112 #[.slice a b c,.slice d f g] w3 fun e w5=> ∃r6,e= .returned (.bool r6)∧
 cnd (!r6)
 (K (.int .i64 1) w5)
 (K (.int .i64 0) w5)))
theorem learn_Check.calls {a b c d f g w R} (h:learn_Check.w a b c d f g w fun v w'=>R (.returned v) w'):Calls prog 106 #[.slice a b c,.slice d f g] w R:=
 calls_of mixed Tryz.func106 (by kernel_rfl) rfl (ann:= .leaf) (F:=learn_Check.w a b c d f g w) (fun K=>by kernel_rfl) h
def learn_places.w (a:Option Addr) (b:Nat) (c:Nat) (w:World) (K:Value→World→Prop):Prop:=
 ∀n1 w2,New (.map #[] 0) w n1 w2→
 ∃I3:Int→World→Nat→Prop,(∃k4,I3 0 w2 k4)∧
 ∀v6 w7 k4 (_:Fr),I3 v6 w7 k4→
 cnd (decide (v6< (b:Int)))
  (ixK a b v6 3 fun a8=>
    ∃x9 x10 x11p x11n x11c,CellsAt w7 a8 0 [.int .i64 x9,.int .i64 x10,.slice x11p x11n x11c]∧
    ∀n12 w13,New (.cells #[.int .i64 0,.int .i64 0,.slice none 0 0] 141) w7 n12 w13→
    ∃w14,StoreAt (Addr.mk n12 0 none) 0 [.int .i64 x9,.int .i64 x10,.slice x11p x11n x11c] w13 w14∧
    ∃x15,w14.cell? ((Addr.mk n12 0 none).add 0)=some (.int .i64 x15)∧
    Calls prog 115 #[.int .i64 x15] w14 fun e w16=> ∃r17,e= .returned (.int .i64 r17)∧
    ∃w18,(Instr.mapUpdate 145 (.map (some n1)) (.int .i64 r17) (.int .i64 (i64.wrap (v6+ (1:Int))))).run prog w16= .ok () w18∧
    ∃k5,k5<k4∧I3 (i64.wrap (v6+ (1:Int))) w18 k5)
  (K (.map (some n1)) w7)
theorem learn_places.calls {a b c w R} (h:learn_places.w a b c w fun v w'=>R (.returned v) w'):Calls prog 107 #[.slice a b c] w R:=
 calls_of mixed Tryz.func107 (by kernel_rfl) rfl (ann:=(.two .leaf (.two .leaf (.two (.two .leaf (.one (.loop [(9,3)] .leaf))) .leaf)))) (F:=learn_places.w a b c w) (fun K=>by kernel_rfl) h
def learn_study_add.w (s_:Option Addr) (a:Option Addr) (b:Nat) (c:Nat) (d:Int) (w:World) (K:Value→World→Prop):Prop:=
 ∃I1:Int→World→Nat→Prop,(∃k2,I1 0 w k2)∧
 ∀v4 w5 k2 (_:Fr),I1 v4 w5 k2→
 cnd (decide (v4< (b:Int)))
  (ixK a b v4 1 fun a6=>
    ∃x7,w5.cell? a6=some (.int .i64 x7)∧
    cnd (x7 !=d)
    (∃a8,s_=some a8∧∃x9:Option Nat,w5.cell? (a8.add 2)=some (.map x9)∧
      ∃w10,(Instr.mapUpdate 136 (.map x9) (.int .i64 x7) (.bool true)).run prog w5= .ok () w10∧
      ∃k3,k3<k2∧I1 (i64.wrap (v4+ (1:Int))) w10 k3)
    (∃k3,k3<k2∧I1 (i64.wrap (v4+ (1:Int))) w5 k3))
  (K (.tuple #[]) w5)
theorem learn_study_add.calls {s_ a b c d w R} (h:learn_study_add.w s_ a b c d w fun v w'=>R (.returned v) w'):Calls prog 108 #[.pointer s_,.slice a b c,.int .i64 d] w R:=
 calls_of mixed Tryz.func108 (by kernel_rfl) rfl (ann:=(.two .leaf (.one (.loop [(10,3)] .leaf)))) (F:=learn_study_add.w s_ a b c d w) (fun K=>by kernel_rfl) h
def learn_study_top.w (s_:Option Addr) (w:World) (K:Value→World→Prop):Prop:=
 ∃a1,s_=some a1∧∃x2:Option Nat,w.cell? (a1.add 2)=some (.map x2)∧
 ∃w3 r4,(Instr.range 136 (.map x2)).run prog w= .ok (.pointer r4) w3∧
 ∃I5:Int→Int→Int→World→Nat→Prop,(∃k6,I5 0 0 (-1) w3 k6)∧
 ∀l_8 n_9 l_10 w11 k6 (_:Fr),I5 l_8 n_9 l_10 w11 k6→
 (∃w12,(Instr.next (.pointer r4) false 0).run prog w11= .ok (.tuple #[.bool false]) w12∧
   K (.tuple #[.int .i64 l_8,.int .i64 n_9,.int .i64 l_10]) w12)∨
   (∃w13,∃k14 v15:Value,(Instr.next (.pointer r4) false 0).run prog w11= .ok (.tuple #[.bool true,k14,v15]) w13∧
   ∃w16 k17,∃v18:Value,(Instr.entry (.pointer r4)).run prog w13= .ok (.tuple #[.int .i64 k17,v18]) w16∧
   Calls prog 113 #[.pointer s_,.int .i64 k17] w16 fun e w19=> ∃r20,e= .returned (.int .i64 r20)∧
   cnd (n_9==(0:Int))
   (∃a21,s_=some a21∧(∃x22:Option Nat,w19.drew.cell? (a21.add 1)=some (.map x22)∧
   Calls prog 115 #[.int .i64 k17] w19.drew fun e w23=> ∃r24,e= .returned (.int .i64 r24)∧
   ∃w25 r26,(Instr.lookup 145 (.map x22) (.int .i64 r24) false).run prog w23= .ok (.int .i64 r26) w25∧
   ∃k7,k7<k6∧I5 r20 1 (i64.wrap (r26 - (1:Int))) w25 k7)∧
 (Calls prog 115 #[.int .i64 k17] w19.drew fun e w27=> ∃r28,e= .returned (.int .i64 r28)∧
   ∃x29:Option Nat,w27.cell? (a21.add 1)=some (.map x29)∧
   ∃w30 r31,(Instr.lookup 145 (.map x29) (.int .i64 r28) false).run prog w27= .ok (.int .i64 r31) w30∧
   ∃k7,k7<k6∧I5 r20 1 (i64.wrap (r31 - (1:Int))) w30 k7))
   (cnd (decide (r20>l_8))
   (∃a32,s_=some a32∧(∃x33:Option Nat,w19.drew.cell? (a32.add 1)=some (.map x33)∧
     Calls prog 115 #[.int .i64 k17] w19.drew fun e w34=> ∃r35,e= .returned (.int .i64 r35)∧
     ∃w36 r37,(Instr.lookup 145 (.map x33) (.int .i64 r35) false).run prog w34= .ok (.int .i64 r37) w36∧
     ∃k7,k7<k6∧I5 r20 1 (i64.wrap (r37 - (1:Int))) w36 k7)∧
   (Calls prog 115 #[.int .i64 k17] w19.drew fun e w38=> ∃r39,e= .returned (.int .i64 r39)∧
     ∃x40:Option Nat,w38.cell? (a32.add 1)=some (.map x40)∧
     ∃w41 r42,(Instr.lookup 145 (.map x40) (.int .i64 r39) false).run prog w38= .ok (.int .i64 r42) w41∧
     ∃k7,k7<k6∧I5 r20 1 (i64.wrap (r42 - (1:Int))) w41 k7))
   (cnd (r20==l_8)
     (∃a43,s_=some a43∧(∃x44:Option Nat,w19.drew.cell? (a43.add 1)=some (.map x44)∧
       Calls prog 115 #[.int .i64 k17] w19.drew fun e w45=> ∃r46,e= .returned (.int .i64 r46)∧
       ∃w47 r48,(Instr.lookup 145 (.map x44) (.int .i64 r46) false).run prog w45= .ok (.int .i64 r48) w47∧
       ∃k7,k7<k6∧I5 l_8 (i64.wrap (n_9+ (1:Int))) (imax l_10 (i64.wrap (r48 - (1:Int)))) w47 k7)∧
     (Calls prog 115 #[.int .i64 k17] w19.drew fun e w49=> ∃r50,e= .returned (.int .i64 r50)∧
       ∃x51:Option Nat,w49.cell? (a43.add 1)=some (.map x51)∧
       ∃w52 r53,(Instr.lookup 145 (.map x51) (.int .i64 r50) false).run prog w49= .ok (.int .i64 r53) w52∧
       ∃k7,k7<k6∧I5 l_8 (i64.wrap (n_9+ (1:Int))) (imax l_10 (i64.wrap (r53 - (1:Int)))) w52 k7))
     (∃k7,k7<k6∧I5 l_8 n_9 l_10 w19 k7))))
theorem learn_study_top.calls {s_ w R} (h:learn_study_top.w s_ w fun v w'=>R (.returned v) w'):Calls prog 109 #[.pointer s_] w R:=
 calls_of mixed Tryz.func109 (by kernel_rfl) rfl (ann:=(.two .leaf (.two .leaf (.two (.two .leaf (.one (.loop [(5,3),(6,3),(7,3)] .leaf))) .leaf)))) (F:=learn_study_top.w s_ w) (fun K=>by kernel_rfl) h
def learn_study_ordered.w (s_:Option Addr) (w:World) (K:Value→World→Prop):Prop:=
 ∀n1 w2,New (.cells #[.pointer s_] 144) w n1 w2→
 ∃x3,w2.cell? (Addr.mk n1 0 none)=some (.pointer x3)∧
 ∃a4,x3=some a4∧∃x5:Option Nat,w2.cell? (a4.add 2)=some (.map x5)∧
 ∃w6 r7,(Instr.range 136 (.map x5)).run prog w2= .ok (.pointer r7) w6∧
 ∃I8:Option Addr→Nat→Nat→World→Nat→Prop,(∃k9,I8 none 0 0 w6 k9)∧
 ∀o11p o11n o11c w12 k9 (_:Fr),I8 o11p o11n o11c w12 k9→
 (∃w13,(Instr.next (.pointer r7) false 0).run prog w12= .ok (.tuple #[.bool false]) w13∧
   Calls prog 93 #[.slice o11p o11n o11c,.func (.func 124) #[] #[.pointer (some (Addr.mk n1 0 none))]] w13 fun e w17=>e= .returned (.tuple #[])∧
   K (.slice o11p o11n o11c) w17)∨
   (∃w14,∃k15 v16:Value,(Instr.next (.pointer r7) false 0).run prog w12= .ok (.tuple #[.bool true,k15,v16]) w14∧
   ∃w18 k19,∃v20:Value,(Instr.entry (.pointer r7)).run prog w14= .ok (.tuple #[.int .i64 k19,v20]) w18∧
   ∀n21 w22,New (.cells #[.int .i64 k19] 3) w18 n21 w22→
   ∃w23 r24p r24n r24c,(Builtin.append_ #[28,28] 28 #[.slice o11p o11n o11c,.slice (some (Addr.mk n21 0 none)) 1 1]).run prog w22= .ok (.slice r24p r24n r24c) w23∧
   ∃k10,k10<k9∧I8 r24p r24n r24c w23 k10)
theorem learn_study_ordered.calls {s_ w R} (h:learn_study_ordered.w s_ w fun v w'=>R (.returned v) w'):Calls prog 110 #[.pointer s_] w R:=
 calls_of mixed Tryz.func110 (by kernel_rfl) rfl (ann:=(.two .leaf (.two .leaf (.two (.two .leaf (.one (.loop [(3,28)] .leaf))) .leaf)))) (F:=learn_study_ordered.w s_ w) (fun K=>by kernel_rfl) h
def learn_sound.w (a:Option Addr) (b:Nat) (c:Nat) (w:World) (K:Value→World→Prop):Prop:=
 cnd (decide ((b:Int)> (4096:Int)))
 (K (.bool false) w)
 (∀n1 w2,New (.map #[] 0) w n1 w2→
   ∃I3:Int→Int→World→Nat→Prop,(∃k4,I3 0 0 w2 k4)∧
   ∀l_6 v7 w8 k4 (_:Fr),I3 l_6 v7 w8 k4→
   cnd (decide (v7< (b:Int)))
    (ixK a b v7 3 fun a9=>
      ∃x10 x11 x12p x12n x12c,CellsAt w8 a9 0 [.int .i64 x10,.int .i64 x11,.slice x12p x12n x12c]∧
      ∀n13 w14,New (.cells #[.int .i64 0,.int .i64 0,.slice none 0 0] 141) w8 n13 w14→
      ∃w15,StoreAt (Addr.mk n13 0 none) 0 [.int .i64 x10,.int .i64 x11,.slice x12p x12n x12c] w14 w15∧
      ∃x16,w15.cell? ((Addr.mk n13 0 none).add 0)=some (.int .i64 x16)∧
      ∀n17 w18,New (.cells #[.int .i64 x16] 3) w15 n17 w18→
      Calls prog 35 #[.slice (some (Addr.mk n17 0 none)) 1 1] w18 fun e w19=> ∃r20,e= .returned (.int .i64 r20)∧
      cnd (r20 !=(0:Int))
      (K (.bool false) w19)
      (∃x21,w19.cell? ((Addr.mk n13 0 none).add 0)=some (.int .i64 x21)∧
      Calls prog 115 #[.int .i64 x21] w19 fun e w22=> ∃r23,e= .returned (.int .i64 r23)∧
      ∃w24 r25,(Instr.lookup 145 (.map (some n1)) (.int .i64 r23) false).run prog w22= .ok (.int .i64 r25) w24∧
      cnd (decide (r25> (0:Int)))
      (K (.bool false) w24)
      (∃x26,w24.cell? ((Addr.mk n13 0 none).add 1)=some (.int .i64 x26)∧
      cnd (decide (x26<l_6))
      (K (.bool false) w24)
      (∃x27,w24.cell? ((Addr.mk n13 0 none).add 1)=some (.int .i64 x27)∧
      cnd (decide (x27> (i64.wrap (l_6+ (1:Int)))))
      (K (.bool false) w24)
      (∃x28,w24.cell? ((Addr.mk n13 0 none).add 1)=some (.int .i64 x28)∧
        ∃x29p x29n x29c,w24.cell? ((Addr.mk n13 0 none).add 2)=some (.slice x29p x29n x29c)∧
        cnd (!((decide (x28>l_6))==((x29n:Int)==(0:Int))))
        (K (.bool false) w24)
        (cnd (!(decide (x28>l_6)))
        (∃x30 x31 x32p x32n x32c,CellsAt w24 (Addr.mk n13 0 none) 0 [.int .i64 x30,.int .i64 x31,.slice x32p x32n x32c]∧
        Calls prog 125 #[.slice a b c,.map (some n1),.agg #[.int .i64 x30,.int .i64 x31,.slice x32p x32n x32c]] w24 fun e w33=> ∃r34,e= .returned (.bool r34)∧
        cnd (!r34)
        (K (.bool false) w33)
        (∃x35,w33.cell? ((Addr.mk n13 0 none).add 0)=some (.int .i64 x35)∧
          Calls prog 115 #[.int .i64 x35] w33 fun e w36=> ∃r37,e= .returned (.int .i64 r37)∧
          ∃w38,(Instr.mapUpdate 145 (.map (some n1)) (.int .i64 r37) (.int .i64 (i64.wrap (v7+ (1:Int))))).run prog w36= .ok () w38∧
          ∃x39,w38.cell? ((Addr.mk n13 0 none).add 1)=some (.int .i64 x39)∧
          ∃k5,k5<k4∧I3 x39 (i64.wrap (v7+ (1:Int))) w38 k5))
        (∃x40,w24.cell? ((Addr.mk n13 0 none).add 0)=some (.int .i64 x40)∧
        Calls prog 115 #[.int .i64 x40] w24 fun e w41=> ∃r42,e= .returned (.int .i64 r42)∧
        ∃w43,(Instr.mapUpdate 145 (.map (some n1)) (.int .i64 r42) (.int .i64 (i64.wrap (v7+ (1:Int))))).run prog w41= .ok () w43∧
        ∃x44,w43.cell? ((Addr.mk n13 0 none).add 1)=some (.int .i64 x44)∧
        ∃k5,k5<k4∧I3 x44 (i64.wrap (v7+ (1:Int))) w43 k5)))))))
    (K (.bool true) w8))
theorem learn_sound.calls {a b c w R} (h:learn_sound.w a b c w fun v w'=>R (.returned v) w'):Calls prog 111 #[.slice a b c] w R:=
 calls_of mixed Tryz.func111 (by kernel_rfl) rfl (ann:=(.two .leaf (.two .leaf (.two .leaf (.two .leaf (.two (.two .leaf (.one (.loop [(4,3),(14,3)] .leaf))) .leaf)))))) (F:=learn_sound.w a b c w) (fun K=>by kernel_rfl) h
def learn_breaks.w (a:Option Addr) (b:Nat) (c:Nat) (d:Option Addr) (f:Nat) (g:Nat) (w:World) (K:Value→World→Prop):Prop:=
 Calls prog 107 #[.slice a b c] w fun e w1=> ∃r2:Option Nat,e= .returned (.map r2)∧
 ∃I3:Int→World→Nat→Prop,(∃k4,I3 0 w1 k4)∧
 ∀v6 w7 k4 (_:Fr),I3 v6 w7 k4→
 cnd (decide (v6< (f:Int)))
  (ixK d f v6 1 fun a8=>
    ∃x9,w7.cell? a8=some (.int .i64 x9)∧
    Calls prog 115 #[.int .i64 x9] w7 fun e w10=> ∃r11,e= .returned (.int .i64 r11)∧
    ∃w12 r13,(Instr.lookup 145 (.map r2) (.int .i64 r11) false).run prog w10= .ok (.int .i64 r13) w12∧
    cnd (r13==(0:Int))
    (K (.bool false) w12)
    (ixK a b (i64.wrap (r13 - (1:Int))) 3 fun a14=>
    ∃x15,w12.cell? (a14.add 0)=some (.int .i64 x15)∧
    cnd (x15 !=(i64.wrap (0 - x9)))
    (K (.bool false) w12)
    (∃k5,k5<k4∧I3 (i64.wrap (v6+ (1:Int))) w12 k5)))
  (K (.bool true) w7)
theorem learn_breaks.calls {a b c d f g w R} (h:learn_breaks.w a b c d f g w fun v w'=>R (.returned v) w'):Calls prog 112 #[.slice a b c,.slice d f g] w R:=
 calls_of mixed Tryz.func112 (by kernel_rfl) rfl (ann:=(.two .leaf (.two .leaf (.two (.two .leaf (.one (.loop [(13,3)] .leaf))) .leaf)))) (F:=learn_breaks.w a b c d f g w) (fun K=>by kernel_rfl) h
def learn_study_level.w (s_:Option Addr) (l_:Int) (w:World) (K:Value→World→Prop):Prop:=
 ∃a1,s_=some a1∧∃a2,s_=some a2∧(∃x3p x3n x3c,w.drew.cell? (a1.add 0)=some (.slice x3p x3n x3c)∧
 (∃x4:Option Nat,w.drew.cell? (a2.add 1)=some (.map x4)∧
 Calls prog 115 #[.int .i64 l_] w.drew fun e w5=> ∃r6,e= .returned (.int .i64 r6)∧
 ∃w7 r8,(Instr.lookup 145 (.map x4) (.int .i64 r6) false).run prog w5= .ok (.int .i64 r8) w7∧
 ixK x3p x3n (i64.wrap (r8 - (1:Int))) 3 fun a9=>
 ∃x10,w7.cell? (a9.add 1)=some (.int .i64 x10)∧
 K (.int .i64 x10) w7)∧
(Calls prog 115 #[.int .i64 l_] w.drew fun e w11=> ∃r12,e= .returned (.int .i64 r12)∧
  ∃x13:Option Nat,w11.cell? (a2.add 1)=some (.map x13)∧
  ∃w14 r15,(Instr.lookup 145 (.map x13) (.int .i64 r12) false).run prog w11= .ok (.int .i64 r15) w14∧
  ixK x3p x3n (i64.wrap (r15 - (1:Int))) 3 fun a16=>
  ∃x17,w14.cell? (a16.add 1)=some (.int .i64 x17)∧
  K (.int .i64 x17) w14))∧
(∃x18:Option Nat,w.drew.cell? (a2.add 1)=some (.map x18)∧
  (∃x19p x19n x19c,w.drew.cell? (a1.add 0)=some (.slice x19p x19n x19c)∧
  Calls prog 115 #[.int .i64 l_] w.drew fun e w20=> ∃r21,e= .returned (.int .i64 r21)∧
  ∃w22 r23,(Instr.lookup 145 (.map x18) (.int .i64 r21) false).run prog w20= .ok (.int .i64 r23) w22∧
  ixK x19p x19n (i64.wrap (r23 - (1:Int))) 3 fun a24=>
  ∃x25,w22.cell? (a24.add 1)=some (.int .i64 x25)∧
  K (.int .i64 x25) w22)∧
(Calls prog 115 #[.int .i64 l_] w.drew fun e w26=> ∃r27,e= .returned (.int .i64 r27)∧
  (∃x28p x28n x28c,w26.cell? (a1.add 0)=some (.slice x28p x28n x28c)∧
  ∃w29 r30,(Instr.lookup 145 (.map x18) (.int .i64 r27) false).run prog w26= .ok (.int .i64 r30) w29∧
  ixK x28p x28n (i64.wrap (r30 - (1:Int))) 3 fun a31=>
  ∃x32,w29.cell? (a31.add 1)=some (.int .i64 x32)∧
  K (.int .i64 x32) w29)∧
(∃w33 r34,(Instr.lookup 145 (.map x18) (.int .i64 r27) false).run prog w26= .ok (.int .i64 r34) w33∧
  ∃x35p x35n x35c,w33.cell? (a1.add 0)=some (.slice x35p x35n x35c)∧
  ixK x35p x35n (i64.wrap (r34 - (1:Int))) 3 fun a36=>
  ∃x37,w33.cell? (a36.add 1)=some (.int .i64 x37)∧
  K (.int .i64 x37) w33)))∧
(Calls prog 115 #[.int .i64 l_] w.drew fun e w38=> ∃r39,e= .returned (.int .i64 r39)∧
  ∃x40:Option Nat,w38.cell? (a2.add 1)=some (.map x40)∧
  (∃x41p x41n x41c,w38.cell? (a1.add 0)=some (.slice x41p x41n x41c)∧
  ∃w42 r43,(Instr.lookup 145 (.map x40) (.int .i64 r39) false).run prog w38= .ok (.int .i64 r43) w42∧
  ixK x41p x41n (i64.wrap (r43 - (1:Int))) 3 fun a44=>
  ∃x45,w42.cell? (a44.add 1)=some (.int .i64 x45)∧
  K (.int .i64 x45) w42)∧
(∃w46 r47,(Instr.lookup 145 (.map x40) (.int .i64 r39) false).run prog w38= .ok (.int .i64 r47) w46∧
  ∃x48p x48n x48c,w46.cell? (a1.add 0)=some (.slice x48p x48n x48c)∧
  ixK x48p x48n (i64.wrap (r47 - (1:Int))) 3 fun a49=>
  ∃x50,w46.cell? (a49.add 1)=some (.int .i64 x50)∧
  K (.int .i64 x50) w46))
theorem learn_study_level.calls {s_ l_ w R} (h:learn_study_level.w s_ l_ w fun v w'=>R (.returned v) w'):Calls prog 113 #[.pointer s_,.int .i64 l_] w R:=
 calls_of mixed Tryz.func113 (by kernel_rfl) rfl (ann:= .leaf) (F:=learn_study_level.w s_ l_ w) (fun K=>by kernel_rfl) h
def learn_study_idle.w (s_:Option Addr) (l_:Int) (a:Option Nat) (w:World) (K:Value→World→Prop):Prop:=
 Calls prog 115 #[.int .i64 l_] w fun e w1=> ∃r2,e= .returned (.int .i64 r2)∧
 ∃w3 r4 r5,(Instr.lookup 136 (.map a) (.int .i64 r2) true).run prog w1= .ok (.tuple #[.bool r4,.bool r5]) w3∧
 cnd r5
 (K (.bool r4) w3)
 (∃J6:Addr→World→Prop,(∃W7:World→Prop,W7 w3.drew∧
   ∃a8,s_=some a8∧∃x9p x9n x9c,AtW W7 (a8.add 0) (.slice x9p x9n x9c)∧
   ∃a10,s_=some a10∧∃x11:Option Nat,AtW W7 (a10.add 1) (.map x11)∧
   (Calls prog 115 #[.int .i64 l_] w3.drew fun e w12=> ∃r13,e= .returned (.int .i64 r13)∧
   W7 w12∧(∃w14 r15,(Instr.lookup 145 (.map x11) (.int .i64 r13) false).run prog w12= .ok (.int .i64 r15) w14∧
   W7 w14∧ixK x9p x9n (i64.wrap (r15 - (1:Int))) 3 fun a16=>
   ∃x17 x18 x19p x19n x19c,CellsW W7 a16 [.int .i64 x17,.int .i64 x18,.slice x19p x19n x19c]∧
   ∀n20 w21,New (.cells #[.int .i64 0,.int .i64 0,.slice none 0 0] 141) w14 n20 w21→
   W7 w21∧∃w22,StoreAt (Addr.mk n20 0 none) 0 [.int .i64 x17,.int .i64 x18,.slice x19p x19n x19c] w21 w22∧
   J6 (Addr.mk n20 0 none) w22)∧
 (∀n23 w24,New (.cells #[.int .i64 0,.int .i64 0,.slice none 0 0] 141) w12 n23 w24→
   W7 w24∧∃w25 r26,(Instr.lookup 145 (.map x11) (.int .i64 r13) false).run prog w24= .ok (.int .i64 r26) w25∧
   W7 w25∧ixK x9p x9n (i64.wrap (r26 - (1:Int))) 3 fun a27=>
   ∃x28 x29 x30p x30n x30c,CellsW W7 a27 [.int .i64 x28,.int .i64 x29,.slice x30p x30n x30c]∧
   ∃w31,StoreAt (Addr.mk n23 0 none) 0 [.int .i64 x28,.int .i64 x29,.slice x30p x30n x30c] w25 w31∧
   J6 (Addr.mk n23 0 none) w31))∧
 (∀n32 w33,New (.cells #[.int .i64 0,.int .i64 0,.slice none 0 0] 141) w3.drew n32 w33→
   W7 w33∧Calls prog 115 #[.int .i64 l_] w33 fun e w34=> ∃r35,e= .returned (.int .i64 r35)∧
   W7 w34∧∃w36 r37,(Instr.lookup 145 (.map x11) (.int .i64 r35) false).run prog w34= .ok (.int .i64 r37) w36∧
   W7 w36∧ixK x9p x9n (i64.wrap (r37 - (1:Int))) 3 fun a38=>
   ∃x39 x40 x41p x41n x41c,CellsW W7 a38 [.int .i64 x39,.int .i64 x40,.slice x41p x41n x41c]∧
   ∃w42,StoreAt (Addr.mk n32 0 none) 0 [.int .i64 x39,.int .i64 x40,.slice x41p x41n x41c] w36 w42∧
   J6 (Addr.mk n32 0 none) w42))∧
   ∀a_43 w44 (_:Fr),J6 a_43 w44→
   ∃x45p x45n x45c,w44.cell? (a_43.add 2)=some (.slice x45p x45n x45c)∧
   ∃x46p x46n x46c,w44.cell? (a_43.add 2)=some (.slice x46p x46n x46c)∧
   ∃I47:Bool→Int→World→Nat→Prop,(∃k48,I47 (decide ((x45n:Int)> (0:Int))) 0 w44 k48)∧
   ∀i_50 v51 w52 k48 (_:Fr),I47 i_50 v51 w52 k48→
   cnd (decide (v51< (x46n:Int)))
    (ixK x46p x46n v51 1 fun a53=>
      ∃x54,w52.cell? a53=some (.int .i64 x54)∧
      ∃J55:Bool→World→Prop,(cnd i_50
      (∃x56,w52.cell? (a_43.add 0)=some (.int .i64 x56)∧
      J55 (x54 !=x56) w52)
      (J55 false w52))∧
      ∀v57 w58 (_:Fr),J55 v57 w58→
      cnd v57
      (Calls prog 113 #[.pointer s_,.int .i64 x54] w58 fun e w59=> ∃r60,e= .returned (.int .i64 r60)∧
        cnd (r60==(0:Int))
        (∃k49,k49<k48∧I47 true (i64.wrap (v51+ (1:Int))) w59 k49)
        (∃a61,s_=some a61∧∃x62:Option Nat,w59.cell? (a61.add 2)=some (.map x62)∧
        ∃w63 r64,(Instr.lookup 136 (.map x62) (.int .i64 x54) false).run prog w59= .ok (.bool r64) w63∧
        cnd r64
        (∃k49,k49<k48∧I47 true (i64.wrap (v51+ (1:Int))) w63 k49)
        (Calls prog 114 #[.pointer s_,.int .i64 x54,.map a] w63 fun e w65=> ∃r66,e= .returned (.bool r66)∧
        ∃k49,k49<k48∧I47 r66 (i64.wrap (v51+ (1:Int))) w65 k49)))
      (∃k49,k49<k48∧I47 i_50 (i64.wrap (v51+ (1:Int))) w58 k49))
    (Calls prog 115 #[.int .i64 l_] w52 fun e w67=> ∃r68,e= .returned (.int .i64 r68)∧
      ∃w69,(Instr.mapUpdate 136 (.map a) (.int .i64 r68) (.bool i_50)).run prog w67= .ok () w69∧
      K (.bool i_50) w69))
theorem learn_study_idle.calls {s_ l_ a w R} (h:learn_study_idle.w s_ l_ a w fun v w'=>R (.returned v) w'):Calls prog 114 #[.pointer s_,.int .i64 l_,.map a] w R:=
 calls_of mixed Tryz.func114 (by kernel_rfl) rfl (ann:=(.two .leaf (.two .leaf (.cut [(9,1000000)] .draw (.two .leaf (.two (.two .leaf (.one (.loop [(10,4),(43,3)] (.two .leaf (.two .leaf (.two (.one (.two .leaf (.cut [(53,4)] .leaf .leaf))) .leaf)))))) .leaf)))))) (F:=learn_study_idle.w s_ l_ a w) (fun K=>by kernel_rfl) h
def learn_amount.w (l_:Int) (w:World) (K:Value→World→Prop):Prop:=
 K (.int .i64 (imax l_ (i64.wrap (0 - l_)))) w
theorem learn_amount.calls {l_ w R} (h:learn_amount.w l_ w fun v w'=>R (.returned v) w'):Calls prog 115 #[.int .i64 l_] w R:=
 calls_of mixed Tryz.func115 (by kernel_rfl) rfl (ann:= .leaf) (F:=learn_amount.w l_ w) (fun K=>by kernel_rfl) h
def bits_Len.w (x0_:Int) (w:World) (K:Value→World→Prop):Prop:=
 Calls prog 127 #[.int .u64 x0_] w fun e w1=> ∃r2,e= .returned (.int .i64 r2)∧
 K (.int .i64 r2) w1
theorem bits_Len.calls {x0_ w R} (h:bits_Len.w x0_ w fun v w'=>R (.returned v) w'):Calls prog 116 #[.int .u64 x0_] w R:=
 calls_of mixed Tryz.func116 (by kernel_rfl) rfl (ann:= .leaf) (F:=bits_Len.w x0_ w) (fun K=>by kernel_rfl) h
def cdcl_search_locked_1.w (l_:Int) (c0_:Addr) (c1_:Addr) (w:World) (K:Value→World→Prop):Prop:=
 ∃W1:World→Prop,W1 w.drew∧
 ∃x2,AtW W1 c0_ (.pointer x2)∧
 ∃a3,x2=some a3∧∃x4,AtW W1 (a3.add 5) (.pointer x4)∧
 Calls prog 43 #[.pointer x4,.int .i64 l_] w.drew fun e w5=> ∃r6,e= .returned (.int .i64 r6)∧
 W1 w5∧cnd (decide (r6> (0:Int)))
 (∃x7,AtW W1 c0_ (.pointer x7)∧
 ∃a8,x7=some a8∧∃x9,AtW W1 (a8.add 5) (.pointer x9)∧
 Calls prog 104 #[.pointer x9,.int .i64 l_] w5 fun e w10=> ∃r11,e= .returned (.int .i64 r11)∧
 W1 w10∧∃x12,AtW W1 (c1_.add 0) (.int .i64 x12)∧
 K (.bool (r11==x12)) w10)
 (K (.bool false) w5)
theorem cdcl_search_locked_1.calls {l_ c0_ c1_ w R} (h:cdcl_search_locked_1.w l_ c0_ c1_ w fun v w'=>R (.returned v) w'):Calls prog 117 #[.int .i64 l_,.pointer (some c0_),.pointer (some c1_)] w R:=
 calls_of mixed Tryz.func117 (by kernel_rfl) rfl (ann:=(.two .leaf (.two .draw .leaf))) (F:=cdcl_search_locked_1.w l_ c0_ c1_ w) (fun K=>by kernel_rfl) h
def reduce_Check.w (a:Option Addr) (b:Nat) (c:Nat) (w:World) (K:Value→World→Prop):Prop:=
 ∃I1:Int→World→Nat→Prop,(∃k2,I1 0 w k2)∧
 ∀v4 w5 k2 (_:Fr),I1 v4 w5 k2→
 cnd (decide (v4< (b:Int)))
  (ixK a b v4 3 fun a6=>
    ∃x7 x8 x9,CellsAt w5 a6 0 [.int .i64 x7,.int .i64 x8,.bool x9]∧
    ∀n10 w11,New (.cells #[.int .i64 0,.int .i64 0,.bool false] 126) w5 n10 w11→
    ∃w12,StoreAt (Addr.mk n10 0 none) 0 [.int .i64 x7,.int .i64 x8,.bool x9] w11 w12∧
    ∃x13,w12.cell? ((Addr.mk n10 0 none).add 1)=some (.int .i64 x13)∧
    cnd (decide (x13< (0:Int)))
    (K (.int .i64 1) w12)
    (∃x14,w12.cell? ((Addr.mk n10 0 none).add 1)=some (.int .i64 x14)∧
    cnd (decide (x14> (4096:Int)))
    (K (.int .i64 1) w12)
    (∃x15,w12.cell? ((Addr.mk n10 0 none).add 0)=some (.int .i64 x15)∧
    cnd (decide (x15< (0:Int)))
    (K (.int .i64 1) w12)
    (∃x16,w12.cell? ((Addr.mk n10 0 none).add 0)=some (.int .i64 x16)∧
    ∃x17,w12.cell? ((Addr.mk n10 0 none).add 1)=some (.int .i64 x17)∧
    cnd (decide (x16>x17))
    (K (.int .i64 1) w12)
    (∃k3,k3<k2∧I1 (i64.wrap (v4+ (1:Int))) w12 k3)))))
  (K (.int .i64 0) w5)
theorem reduce_Check.calls {a b c w R} (h:reduce_Check.w a b c w fun v w'=>R (.returned v) w'):Calls prog 118 #[.slice a b c] w R:=
 calls_of mixed Tryz.func118 (by kernel_rfl) rfl (ann:=(.two .leaf (.two (.two .leaf (.one (.loop [(7,3)] .leaf))) .leaf))) (F:=reduce_Check.w a b c w) (fun K=>by kernel_rfl) h
def reduce_must.w (c_0:Int) (c_1:Int) (c_2:Bool) (w:World) (K:Value→World→Prop):Prop:=
 ∀n1 w2,New (.cells #[.int .i64 c_0,.int .i64 c_1,.bool c_2] 126) w n1 w2→
 ∃x3,w2.cell? ((Addr.mk n1 0 none).add 2)=some (.bool x3)∧
 cnd x3
 (K (.bool true) w2)
 (∃x4,w2.cell? ((Addr.mk n1 0 none).add 0)=some (.int .i64 x4)∧
 K (.bool (decide (x4≤(2:Int)))) w2)
theorem reduce_must.calls {c_0 c_1 c_2 w R} (h:reduce_must.w c_0 c_1 c_2 w fun v w'=>R (.returned v) w'):Calls prog 119 #[.agg #[.int .i64 c_0,.int .i64 c_1,.bool c_2]] w R:=
 calls_of mixed Tryz.func119 (by kernel_rfl) rfl (ann:= .leaf) (F:=reduce_must.w c_0 c_1 c_2 w) (fun K=>by kernel_rfl) h
def reduce_Order.w (a:Option Addr) (b:Nat) (c:Nat) (w:World) (K:Value→World→Prop):Prop:=
 ∀n1 w2,New (.cells #[.slice a b c] 131) w n1 w2→
 ∃x3p x3n x3c,w2.cell? (Addr.mk n1 0 none)=some (.slice x3p x3n x3c)∧
 Calls prog 118 #[.slice x3p x3n x3c] w2 fun e w4=> ∃r5,e= .returned (.int .i64 r5)∧
 cnd (r5 !=(0:Int))
 (K (.slice none 0 0) w4)
 (∃x6p x6n x6c,w4.cell? (Addr.mk n1 0 none)=some (.slice x6p x6n x6c)∧
   ∃w7 r8p r8n r8c,(Instr.makeSlice 28 (.int .i64 (x6n:Int)) (.int .i64 (x6n:Int))).run prog w4= .ok (.slice r8p r8n r8c) w7∧
   ∃x9p x9n x9c,w7.cell? (Addr.mk n1 0 none)=some (.slice x9p x9n x9c)∧
   ∃I10:Int→World→Nat→Prop,(∃k11,I10 0 w7 k11)∧
   ∀v13 w14 k11 (_:Fr),I10 v13 w14 k11→
   cnd (decide (v13< (x9n:Int)))
    (ixK r8p r8n v13 1 fun a15=>
      ∃w16,StoreAt a15 0 [.int .i64 v13] w14 w16∧
      ∃k12,k12<k11∧I10 (i64.wrap (v13+ (1:Int))) w16 k12)
    (Calls prog 93 #[.slice r8p r8n r8c,.func (.func 128) #[] #[.pointer (some (Addr.mk n1 0 none))]] w14 fun e w17=>e= .returned (.tuple #[])∧
      K (.slice r8p r8n r8c) w17))
theorem reduce_Order.calls {a b c w R} (h:reduce_Order.w a b c w fun v w'=>R (.returned v) w'):Calls prog 120 #[.slice a b c] w R:=
 calls_of mixed Tryz.func120 (by kernel_rfl) rfl (ann:=(.two .leaf (.two .leaf (.two .leaf (.two (.two .leaf (.one (.loop [(13,3)] .leaf))) .leaf))))) (F:=reduce_Order.w a b c w) (fun K=>by kernel_rfl) h
def prop_Prop_Drop_1.w (k_:Int) (c0_:Addr) (w:World) (K:Value→World→Prop):Prop:=
 ∃x1,w.cell? c0_=some (.int .i64 x1)∧
 K (.bool (k_==x1)) w
theorem prop_Prop_Drop_1.calls {k_ c0_ w R} (h:prop_Prop_Drop_1.w k_ c0_ w fun v w'=>R (.returned v) w'):Calls prog 121 #[.int .i64 k_,.pointer (some c0_)] w R:=
 calls_of mixed Tryz.func121 (by kernel_rfl) rfl (ann:= .leaf) (F:=prop_Prop_Drop_1.w k_ c0_ w) (fun K=>by kernel_rfl) h
def learn_study_ordered_1.w (a_:Int) (b_:Int) (c0_:Addr) (w:World) (K:Value→World→Prop):Prop:=
 ∃x1,w.drew.cell? c0_=some (.pointer x1)∧
 (Calls prog 113 #[.pointer x1,.int .i64 a_] w.drew fun e w2=> ∃r3,e= .returned (.int .i64 r3)∧
 ∃x4,w2.cell? c0_=some (.pointer x4)∧
 Calls prog 113 #[.pointer x4,.int .i64 b_] w2 fun e w5=> ∃r6,e= .returned (.int .i64 r6)∧
 cnd (r3 !=r6)
 (∃x7,w5.drew.cell? c0_=some (.pointer x7)∧
   (Calls prog 113 #[.pointer x7,.int .i64 b_] w5.drew fun e w8=> ∃r9,e= .returned (.int .i64 r9)∧
   ∃x10,w8.cell? c0_=some (.pointer x10)∧
   Calls prog 113 #[.pointer x10,.int .i64 a_] w8 fun e w11=> ∃r12,e= .returned (.int .i64 r12)∧
   K (.int .i64 (i64.wrap (r9 - r12))) w11)∧
 (∃x13,w5.drew.cell? c0_=some (.pointer x13)∧
   Calls prog 113 #[.pointer x7,.int .i64 b_] w5.drew fun e w14=> ∃r15,e= .returned (.int .i64 r15)∧
   Calls prog 113 #[.pointer x13,.int .i64 a_] w14 fun e w16=> ∃r17,e= .returned (.int .i64 r17)∧
   K (.int .i64 (i64.wrap (r15 - r17))) w16))
 (Calls prog 115 #[.int .i64 a_] w5 fun e w18=> ∃r19,e= .returned (.int .i64 r19)∧
   Calls prog 115 #[.int .i64 b_] w18 fun e w20=> ∃r21,e= .returned (.int .i64 r21)∧
   K (.int .i64 (i64.wrap (r19 - r21))) w20))∧
(∃x22,w.drew.cell? c0_=some (.pointer x22)∧
  Calls prog 113 #[.pointer x1,.int .i64 a_] w.drew fun e w23=> ∃r24,e= .returned (.int .i64 r24)∧
  Calls prog 113 #[.pointer x22,.int .i64 b_] w23 fun e w25=> ∃r26,e= .returned (.int .i64 r26)∧
  cnd (r24 !=r26)
  (∃x27,w25.drew.cell? c0_=some (.pointer x27)∧
    (Calls prog 113 #[.pointer x27,.int .i64 b_] w25.drew fun e w28=> ∃r29,e= .returned (.int .i64 r29)∧
    ∃x30,w28.cell? c0_=some (.pointer x30)∧
    Calls prog 113 #[.pointer x30,.int .i64 a_] w28 fun e w31=> ∃r32,e= .returned (.int .i64 r32)∧
    K (.int .i64 (i64.wrap (r29 - r32))) w31)∧
  (∃x33,w25.drew.cell? c0_=some (.pointer x33)∧
    Calls prog 113 #[.pointer x27,.int .i64 b_] w25.drew fun e w34=> ∃r35,e= .returned (.int .i64 r35)∧
    Calls prog 113 #[.pointer x33,.int .i64 a_] w34 fun e w36=> ∃r37,e= .returned (.int .i64 r37)∧
    K (.int .i64 (i64.wrap (r35 - r37))) w36))
  (Calls prog 115 #[.int .i64 a_] w25 fun e w38=> ∃r39,e= .returned (.int .i64 r39)∧
    Calls prog 115 #[.int .i64 b_] w38 fun e w40=> ∃r41,e= .returned (.int .i64 r41)∧
    K (.int .i64 (i64.wrap (r39 - r41))) w40))
theorem learn_study_ordered_1.calls {a_ b_ c0_ w R} (h:learn_study_ordered_1.w a_ b_ c0_ w fun v w'=>R (.returned v) w'):Calls prog 124 #[.int .i64 a_,.int .i64 b_,.pointer (some c0_)] w R:=
 calls_of mixed Tryz.func124 (by kernel_rfl) rfl (ann:= .leaf) (F:=learn_study_ordered_1.w a_ b_ c0_ w) (fun K=>by kernel_rfl) h
def learn_reasoned.w (a:Option Addr) (b:Nat) (c:Nat) (at_:Option Nat) (a_0:Int) (a_1:Int) (a2p:Option Addr) (a2n:Nat) (a2c:Nat) (w:World) (K:Value→World→Prop):Prop:=
 ∀n1 w2,New (.cells #[.int .i64 a_0,.int .i64 a_1,.slice a2p a2n a2c] 141) w n1 w2→
 ∃x3p x3n x3c,w2.cell? ((Addr.mk n1 0 none).add 2)=some (.slice x3p x3n x3c)∧
 cnd (decide ((x3n:Int)> (256:Int)))
 (K (.bool false) w2)
 (∃x4p x4n x4c,w2.cell? ((Addr.mk n1 0 none).add 2)=some (.slice x4p x4n x4c)∧
 Calls prog 35 #[.slice x4p x4n x4c] w2 fun e w5=> ∃r6,e= .returned (.int .i64 r6)∧
 cnd (r6 !=(0:Int))
 (K (.bool false) w5)
 (∃x7p x7n x7c,w5.cell? ((Addr.mk n1 0 none).add 2)=some (.slice x7p x7n x7c)∧
 ∃x8,w5.cell? ((Addr.mk n1 0 none).add 0)=some (.int .i64 x8)∧
 Calls prog 137 #[.slice x7p x7n x7c,.int .i64 x8] w5 fun e w9=> ∃r10,e= .returned (.bool r10)∧
 cnd (!r10)
 (K (.bool false) w9)
 (∃x11p x11n x11c,w9.cell? ((Addr.mk n1 0 none).add 2)=some (.slice x11p x11n x11c)∧
   ∃I12:Int→World→Nat→Prop,(∃k13,I12 0 w9 k13)∧
   ∀v15 w16 k13 (_:Fr),I12 v15 w16 k13→
   cnd (decide (v15< (x11n:Int)))
    (ixK x11p x11n v15 1 fun a17=>
      ∃x18,w16.cell? a17=some (.int .i64 x18)∧
      ∃x19,w16.cell? ((Addr.mk n1 0 none).add 0)=some (.int .i64 x19)∧
      cnd (x18==x19)
      (∃k14,k14<k13∧I12 (i64.wrap (v15+ (1:Int))) w16 k14)
      (Calls prog 115 #[.int .i64 x18] w16 fun e w20=> ∃r21,e= .returned (.int .i64 r21)∧
        ∃w22 r23,(Instr.lookup 145 (.map at_) (.int .i64 r21) false).run prog w20= .ok (.int .i64 r23) w22∧
        cnd (r23==(0:Int))
        (K (.bool false) w22)
        (ixK a b (i64.wrap (r23 - (1:Int))) 3 fun a24=>
        ∃x25,w22.cell? (a24.add 0)=some (.int .i64 x25)∧
        cnd (x25 !=(i64.wrap (0 - x18)))
        (K (.bool false) w22)
        (∃k14,k14<k13∧I12 (i64.wrap (v15+ (1:Int))) w22 k14))))
    (K (.bool true) w16))))
theorem learn_reasoned.calls {a b c at_ a_0 a_1 a2p a2n a2c w R} (h:learn_reasoned.w a b c at_ a_0 a_1 a2p a2n a2c w fun v w'=>R (.returned v) w'):Calls prog 125 #[.slice a b c,.map at_,.agg #[.int .i64 a_0,.int .i64 a_1,.slice a2p a2n a2c]] w R:=
 calls_of mixed Tryz.func125 (by kernel_rfl) rfl (ann:=(.two .leaf (.two .leaf (.two (.two .leaf (.one (.loop [(31,3)] .leaf))) .leaf)))) (F:=learn_reasoned.w a b c at_ a_0 a_1 a2p a2n a2c w) (fun K=>by kernel_rfl) h
def bits_Len64.w (x0_:Int) (w:World) (K:Value→World→Prop):Prop:=
 cnd (decide (x0_≥(4294967296:Int)))
 (0≤(32:Int)∧cnd (decide ((x0_.fdiv (2 ^ (min (32:Int).toNat (IntKind.bits .u64))))≥(65536:Int)))
   (0≤(16:Int)∧cnd (decide (((x0_.fdiv (2 ^ (min (32:Int).toNat (IntKind.bits .u64)))).fdiv (2 ^ (min (16:Int).toNat (IntKind.bits .u64))))≥(256:Int)))
     (0≤(8:Int)∧∃b1,0≤(IntKind.u8.wrap (((x0_.fdiv (2 ^ (min (32:Int).toNat (IntKind.bits .u64)))).fdiv (2 ^ (min (16:Int).toNat (IntKind.bits .u64)))).fdiv (2 ^ (min (8:Int).toNat (IntKind.bits .u64)))))∧strtab0[(IntKind.u8.wrap (((x0_.fdiv (2 ^ (min (32:Int).toNat (IntKind.bits .u64)))).fdiv (2 ^ (min (16:Int).toNat (IntKind.bits .u64)))).fdiv (2 ^ (min (8:Int).toNat (IntKind.bits .u64))))).toNat]? =some b1∧
       K (.int .i64 (i64.wrap ((i64.wrap ((i64.wrap ((32:Int)+ (16:Int)))+ (8:Int)))+ (i64.wrap (b1.toNat:Int))))) w)
     (∃b2,0≤(IntKind.u8.wrap ((x0_.fdiv (2 ^ (min (32:Int).toNat (IntKind.bits .u64)))).fdiv (2 ^ (min (16:Int).toNat (IntKind.bits .u64)))))∧strtab0[(IntKind.u8.wrap ((x0_.fdiv (2 ^ (min (32:Int).toNat (IntKind.bits .u64)))).fdiv (2 ^ (min (16:Int).toNat (IntKind.bits .u64))))).toNat]? =some b2∧
       K (.int .i64 (i64.wrap ((i64.wrap ((32:Int)+ (16:Int)))+ (i64.wrap (b2.toNat:Int))))) w))
   (cnd (decide ((x0_.fdiv (2 ^ (min (32:Int).toNat (IntKind.bits .u64))))≥(256:Int)))
     (0≤(8:Int)∧∃b3,0≤(IntKind.u8.wrap ((x0_.fdiv (2 ^ (min (32:Int).toNat (IntKind.bits .u64)))).fdiv (2 ^ (min (8:Int).toNat (IntKind.bits .u64)))))∧strtab0[(IntKind.u8.wrap ((x0_.fdiv (2 ^ (min (32:Int).toNat (IntKind.bits .u64)))).fdiv (2 ^ (min (8:Int).toNat (IntKind.bits .u64))))).toNat]? =some b3∧
       K (.int .i64 (i64.wrap ((i64.wrap ((32:Int)+ (8:Int)))+ (i64.wrap (b3.toNat:Int))))) w)
     (∃b4,0≤(IntKind.u8.wrap (x0_.fdiv (2 ^ (min (32:Int).toNat (IntKind.bits .u64)))))∧strtab0[(IntKind.u8.wrap (x0_.fdiv (2 ^ (min (32:Int).toNat (IntKind.bits .u64))))).toNat]? =some b4∧
       K (.int .i64 (i64.wrap ((32:Int)+ (i64.wrap (b4.toNat:Int))))) w)))
 (cnd (decide (x0_≥(65536:Int)))
   (0≤(16:Int)∧cnd (decide ((x0_.fdiv (2 ^ (min (16:Int).toNat (IntKind.bits .u64))))≥(256:Int)))
     (0≤(8:Int)∧∃b5,0≤(IntKind.u8.wrap ((x0_.fdiv (2 ^ (min (16:Int).toNat (IntKind.bits .u64)))).fdiv (2 ^ (min (8:Int).toNat (IntKind.bits .u64)))))∧strtab0[(IntKind.u8.wrap ((x0_.fdiv (2 ^ (min (16:Int).toNat (IntKind.bits .u64)))).fdiv (2 ^ (min (8:Int).toNat (IntKind.bits .u64))))).toNat]? =some b5∧
       K (.int .i64 (i64.wrap ((i64.wrap ((i64.wrap ((0:Int)+ (16:Int)))+ (8:Int)))+ (i64.wrap (b5.toNat:Int))))) w)
     (∃b6,0≤(IntKind.u8.wrap (x0_.fdiv (2 ^ (min (16:Int).toNat (IntKind.bits .u64)))))∧strtab0[(IntKind.u8.wrap (x0_.fdiv (2 ^ (min (16:Int).toNat (IntKind.bits .u64))))).toNat]? =some b6∧
       K (.int .i64 (i64.wrap ((i64.wrap ((0:Int)+ (16:Int)))+ (i64.wrap (b6.toNat:Int))))) w))
   (cnd (decide (x0_≥(256:Int)))
     (0≤(8:Int)∧∃b7,0≤(IntKind.u8.wrap (x0_.fdiv (2 ^ (min (8:Int).toNat (IntKind.bits .u64)))))∧strtab0[(IntKind.u8.wrap (x0_.fdiv (2 ^ (min (8:Int).toNat (IntKind.bits .u64))))).toNat]? =some b7∧
       K (.int .i64 (i64.wrap ((i64.wrap ((0:Int)+ (8:Int)))+ (i64.wrap (b7.toNat:Int))))) w)
     (∃b8,0≤(IntKind.u8.wrap x0_)∧strtab0[(IntKind.u8.wrap x0_).toNat]? =some b8∧
       K (.int .i64 (i64.wrap ((0:Int)+ (i64.wrap (b8.toNat:Int))))) w)))
theorem bits_Len64.calls {x0_ w R} (h:bits_Len64.w x0_ w fun v w'=>R (.returned v) w'):Calls prog 127 #[.int .u64 x0_] w R:=
 calls_of mixed Tryz.func127 (by kernel_rfl) rfl (ann:= .leaf) (F:=bits_Len64.w x0_ w) (fun K=>by kernel_rfl) h
def reduce_Order_1.w (a_:Int) (b_:Int) (c0_:Addr) (w:World) (K:Value→World→Prop):Prop:=
 ∃x1p x1n x1c,w.drew.cell? c0_=some (.slice x1p x1n x1c)∧
 ixK x1p x1n a_ 3 fun a2=>
 ∃x3,w.drew.cell? (a2.add 0)=some (.int .i64 x3)∧
 ∃x4p x4n x4c,w.drew.cell? c0_=some (.slice x4p x4n x4c)∧
 ixK x4p x4n b_ 3 fun a5=>
 ∃x6,w.drew.cell? (a5.add 0)=some (.int .i64 x6)∧
 cnd (x3 !=x6)
 (∃x7p x7n x7c,w.drew.drew.cell? c0_=some (.slice x7p x7n x7c)∧
   ixK x7p x7n a_ 3 fun a8=>
   ∃x9,w.drew.drew.cell? (a8.add 0)=some (.int .i64 x9)∧
   ∃x10p x10n x10c,w.drew.drew.cell? c0_=some (.slice x10p x10n x10c)∧
   ixK x10p x10n b_ 3 fun a11=>
   ∃x12,w.drew.drew.cell? (a11.add 0)=some (.int .i64 x12)∧
   K (.int .i64 (i64.wrap (x9 - x12))) w.drew.drew)
 (∃x13p x13n x13c,w.drew.drew.cell? c0_=some (.slice x13p x13n x13c)∧
   ixK x13p x13n a_ 3 fun a14=>
   ∃x15,w.drew.drew.cell? (a14.add 1)=some (.int .i64 x15)∧
   ∃x16p x16n x16c,w.drew.drew.cell? c0_=some (.slice x16p x16n x16c)∧
   ixK x16p x16n b_ 3 fun a17=>
   ∃x18,w.drew.drew.cell? (a17.add 1)=some (.int .i64 x18)∧
   cnd (x15 !=x18)
   (∃x19p x19n x19c,w.drew.drew.drew.cell? c0_=some (.slice x19p x19n x19c)∧
     ixK x19p x19n a_ 3 fun a20=>
     ∃x21,w.drew.drew.drew.cell? (a20.add 1)=some (.int .i64 x21)∧
     ∃x22p x22n x22c,w.drew.drew.drew.cell? c0_=some (.slice x22p x22n x22c)∧
     ixK x22p x22n b_ 3 fun a23=>
     ∃x24,w.drew.drew.drew.cell? (a23.add 1)=some (.int .i64 x24)∧
     K (.int .i64 (i64.wrap (x21 - x24))) w.drew.drew.drew)
   (K (.int .i64 (i64.wrap (b_ - a_))) w.drew.drew))
theorem reduce_Order_1.calls {a_ b_ c0_ w R} (h:reduce_Order_1.w a_ b_ c0_ w fun v w'=>R (.returned v) w'):Calls prog 128 #[.int .i64 a_,.int .i64 b_,.pointer (some c0_)] w R:=
 calls_of mixed Tryz.func128 (by kernel_rfl) rfl (ann:= .leaf) (F:=reduce_Order_1.w a_ b_ c0_ w) (fun K=>by kernel_rfl) h
def slices_Contains_int_int.w (a:Option Addr) (b:Nat) (c:Nat) (v_:Int) (w:World) (K:Value→World→Prop):Prop:=
 Calls prog 143 #[.slice a b c,.int .i64 v_] w fun e w1=> ∃r2,e= .returned (.int .i64 r2)∧
 K (.bool (decide (r2≥(0:Int)))) w1
theorem slices_Contains_int_int.calls {a b c v_ w R} (h:slices_Contains_int_int.w a b c v_ w fun v w'=>R (.returned v) w'):Calls prog 137 #[.slice a b c,.int .i64 v_] w R:=
 calls_of mixed Tryz.func137 (by kernel_rfl) rfl (ann:= .leaf) (F:=slices_Contains_int_int.w a b c v_ w) (fun K=>by kernel_rfl) h
def slices_Index_int_int.w (a:Option Addr) (b:Nat) (c:Nat) (v_:Int) (w:World) (K:Value→World→Prop):Prop:=
 ∃I1:Int→World→Nat→Prop,(∃k2,I1 0 w k2)∧
 ∀v4 w5 k2 (_:Fr),I1 v4 w5 k2→
 cnd (decide (v4< (b:Int)))
  (ixK a b v4 1 fun a6=>
    ∃x7,w5.cell? a6=some (.int .i64 x7)∧
    cnd (v_==x7)
    (K (.int .i64 v4) w5)
    (∃k3,k3<k2∧I1 (i64.wrap (v4+ (1:Int))) w5 k3))
  (K (.int .i64 (-1)) w5)
theorem slices_Index_int_int.calls {a b c v_ w R} (h:slices_Index_int_int.w a b c v_ w fun v w'=>R (.returned v) w'):Calls prog 143 #[.slice a b c,.int .i64 v_] w R:=
 calls_of mixed Tryz.func143 (by kernel_rfl) rfl (ann:=(.two .leaf (.two (.two .leaf (.one (.loop [(8,3)] .leaf))) .leaf))) (F:=slices_Index_int_int.w a b c v_ w) (fun K=>by kernel_rfl) h
end Go.Proofs.YtddffgjagppimaaGreat.W
