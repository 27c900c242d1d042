/- The functions that the statements reach, printed as what the frame asks of them, each checked by the kernel against the loaded text. -/
import Derived.Test.YtenmibfmhccmiaaGreatGenCdcl0
namespace Go.Proofs.YtenmibfmhccmiaaGreat.W
open Go Go.Fw Go.Proofs
open Go.Proofs.Tryz (prog)
open Go.IntKind (i64)
set_option maxRecDepth 100000
def dg.w (U:Option Addr) (w:World) (K:Value->World->Prop):Prop:=
 Calls prog 156 #[.pointer U] w fun e w1=> ∃r2 r3,e= .returned (.tuple #[.int .i64 r2,.bool r3])/\
 aH (!r3)
 (K (.tuple #[.int .i64 0,.bool false]) w1)
 (∃a4,U=some a4/\∃a' I aT,w1.cell? (a4.add 0)=some (.slice a' I aT)/\
   ∃a6,U=some a6/\∃aw ar a_,w1.cell? (a6.add 0)=some (.slice aw ar a_)/\
   aV aw ar (i64.wrap ((I:Int) - (1:Int))) 1 fun a8=>
   ∃x9,w1.cell? a8=some (.int .i64 x9)/\
   ∃av,U=some av/\∃X V O,w1.cell? (av.add 0)=some (.slice X V O)/\
   pP X V O 1 none (some (i64.wrap ((I:Int) - (1:Int)))) none fun ag ap an=>
   ∃ax,U=some ax/\∃Y,af (ax.add 0) 0 [.slice ag ap an] w1 Y/\
   ∃aa,U=some aa/\∃Q J ac,Y.cell? (aa.add 1)=some (.slice Q J ac)/\
   aV Q J r2 1 fun a7=>
   ∃Z,af a7 0 [.int .i64 0] Y Z/\
   aH (decide ((i64.wrap ((I:Int) - (1:Int)))> (0:Int)))
   (Calls prog 157 #[.pointer U,.int .i64 0,.int .i64 x9] Z fun e bb=>e= .returned (.tuple #[])/\
     Calls prog 158 #[.pointer U,.int .i64 0] bb fun e az=>e= .returned (.tuple #[])/\
     K (.tuple #[.int .i64 r2,.bool true]) az)
   (K (.tuple #[.int .i64 r2,.bool true]) Z))
theorem dg.ah {h_ w R} (h:dg.w h_ w fun v w'=>R (.returned v) w'):Calls prog 121 #[.pointer h_] w R:=
 aj mixed Tryz.func121 (by kernel_rfl) rfl (ann:= .ae) (F:=dg.w h_ w) (fun K=>by kernel_rfl) h
def dK.w (O:Option Addr) (Q:Int) (w:World) (K:Value->World->Prop):Prop:=
 Calls prog 148 #[.pointer O,.int .i64 Q] w fun e w1=> ∃I,e= .returned (.bool I)/\
 aH (!I)
 (K (.int .i64 0) w1)
 (Calls prog 142 #[.pointer O,.int .i64 Q] w1 fun e w3=> ∃J,e= .returned (.int .i8 J)/\
   K (.int .i64 (i64.wrap J)) w3)
theorem dK.ah {p_ l_ w R} (h:dK.w p_ l_ w fun v w'=>R (.returned v) w'):Calls prog 122 #[.pointer p_,.int .i64 l_] w R:=
 aj mixed Tryz.func122 (by kernel_rfl) rfl (ann:= .ae) (F:=dK.w p_ l_ w) (fun K=>by kernel_rfl) h
def c6.w (I:Option Addr) (l_:Int) (w:World) (K:Value->World->Prop):Prop:=
 Calls prog 148 #[.pointer I,.int .i64 l_] w fun e w1=> ∃r2,e= .returned (.bool r2)/\
 aH (!r2)
 (K (.int .i64 1) w1)
 (Calls prog 142 #[.pointer I,.int .i64 l_] w1 fun e w3=> ∃r4,e= .returned (.int .i8 r4)/\
 aH (r4 !=(0:Int))
 (K (.int .i64 1) w3)
 (∃U:World->Prop,U w3.drew/\
   ∃a6,I=some a6/\∃X Y aa,e_ U (a6.add 7) (.slice X Y aa)/\
   ∃a8,I=some a8/\∃du b3 d5,e_ U (a8.add 6) (.slice du b3 d5)/\
   ∃ce,I=some ce/\∃Q O J,e_ U (ce.add 8) (.slice Q O J)/\
   ∃cg,I=some cg/\∃Z,e_ U (cg.add 9) (.int .i64 Z)/\
   (∀n14 V,bc (.cells #[.int .i64 (b3:Int)] 3) w3.drew n14 V->
   U V/\(∃bY aT ar a',(Builtin.append_ #[28,28] 28 #[.slice X Y aa,.slice (some (Addr.mk n14 0 none)) 1 1]).run prog V= .ok (.slice aT ar a') bY/\
   U bY/\∀cp b5,bc (.cells #[.int .i64 Z] 3) bY cp b5->
   U b5/\∃b_ ax a_ bv,(Builtin.append_ #[28,28] 28 #[.slice Q O J,.slice (some (Addr.mk cp 0 none)) 1 1]).run prog b5= .ok (.slice ax a_ bv) b_/\
   ∃a22,I=some a22/\∃cm,af (a22.add 7) 0 [.slice aT ar a'] b_ cm/\
   ∃dc,I=some dc/\∃dd,af (dc.add 8) 0 [.slice ax a_ bv] cm dd/\
   Calls prog 155 #[.pointer I,.int .i64 l_,.int .i64 (-1)] dd fun e d4=>e= .returned (.tuple #[])/\
   K (.int .i64 0) d4)/\
 (∀n27 b4,bc (.cells #[.int .i64 Z] 3) V n27 b4->
   U b4/\∃b8 bk az bx,(Builtin.append_ #[28,28] 28 #[.slice X Y aa,.slice (some (Addr.mk n14 0 none)) 1 1]).run prog b4= .ok (.slice bk az bx) b8/\
   U b8/\∃dq bb an ap,(Builtin.append_ #[28,28] 28 #[.slice Q O J,.slice (some (Addr.mk n27 0 none)) 1 1]).run prog b8= .ok (.slice bb an ap) dq/\
   ∃c7,I=some c7/\∃cb,af (c7.add 7) 0 [.slice bk az bx] dq cb/\
   ∃c1,I=some c1/\∃c2,af (c1.add 8) 0 [.slice bb an ap] cb c2/\
   Calls prog 155 #[.pointer I,.int .i64 l_,.int .i64 (-1)] c2 fun e d8=>e= .returned (.tuple #[])/\
   K (.int .i64 0) d8))/\
 (∀cc b7,bc (.cells #[.int .i64 Z] 3) w3.drew cc b7->
   U b7/\∀cT b9,bc (.cells #[.int .i64 (b3:Int)] 3) b7 cT b9->
   U b9/\∃b6 a7 av ag,(Builtin.append_ #[28,28] 28 #[.slice X Y aa,.slice (some (Addr.mk cT 0 none)) 1 1]).run prog b9= .ok (.slice a7 av ag) b6/\
   U b6/\∃b' ac ay aw,(Builtin.append_ #[28,28] 28 #[.slice Q O J,.slice (some (Addr.mk cc 0 none)) 1 1]).run prog b6= .ok (.slice ac ay aw) b'/\
   ∃a46,I=some a46/\∃dk,af (a46.add 7) 0 [.slice a7 av ag] b' dk/\
   ∃c3,I=some c3/\∃dp,af (c3.add 8) 0 [.slice ac ay aw] dk dp/\
   Calls prog 155 #[.pointer I,.int .i64 l_,.int .i64 (-1)] dp fun e dT=>e= .returned (.tuple #[])/\
   K (.int .i64 0) dT)))
theorem c6.ah {p_ l_ w R} (h:c6.w p_ l_ w fun v w'=>R (.returned v) w'):Calls prog 123 #[.pointer p_,.int .i64 l_] w R:=
 aj mixed Tryz.func123 (by kernel_rfl) rfl (ann:=(.aF .ae (.aF .ae (.aF .dm .ae)))) (F:=c6.w p_ l_ w) (fun K=>by kernel_rfl) h
def c_.w (p_:Option Addr) (i_:Int) (w:World) (K:Value->World->Prop):Prop:=
 Calls prog 141 #[.pointer p_,.int .i64 i_] w fun e w1=> ∃r2,e= .returned (.bool r2)/\
 aH (!r2)
 (K (.tuple #[.slice none 0 0,.bool false]) w1)
 (∃a3,p_=some a3/\∃U Q Z,w1.cell? (a3.add 1)=some (.slice U Q Z)/\
   aV U Q i_ 3 fun a5=>
   ∃X V I,w1.cell? (a5.add 0)=some (.slice X V I)/\
   Calls prog 70 #[.slice X V I] w1 fun e w7=> ∃J Y O,e= .returned (.slice J Y O)/\
   K (.tuple #[.slice J Y O,.bool true]) w7)
theorem c_.ah {p_ i_ w R} (h:c_.w p_ i_ w fun v w'=>R (.returned v) w'):Calls prog 124 #[.pointer p_,.int .i64 i_] w R:=
 aj mixed Tryz.func124 (by kernel_rfl) rfl (ann:= .ae) (F:=c_.w p_ i_ w) (fun K=>by kernel_rfl) h
def dA.w (a6:Option Addr) (a:Option Addr) (b:Nat) (c:Nat) (w:World) (K:Value->World->Prop):Prop:=
 Calls prog 159 #[.pointer a6,.slice a b c] w fun e w1=> ∃Q U V aa av a7,e= .returned (.tuple #[.slice Q U V,.slice aa av a7])/\
 Calls prog 160 #[.slice Q U V,.slice a b c] w1 fun e w4=> ∃ay an aT r6,e= .returned (.tuple #[.slice ay an aT,.int .i64 r6])/\
 aH (r6 !=(0:Int))
 (Calls prog 161 #[.pointer a6] w4 fun e w7=> ∃ap ag aw r9 ac,e= .returned (.tuple #[.slice ap ag aw,.int .i64 r9,.int .i64 ac])/\
   K (.tuple #[.slice ap ag aw,.int .i64 r9,.int .i64 ac]) w7)
 (Calls prog 162 #[.slice Q U V,.slice ay an aT] w4 fun e a8=> ∃J O I,e= .returned (.slice J O I)/\
   Calls prog 163 #[.slice Q U V,.slice J O I] a8 fun e X=> ∃Y,e= .returned (.int .i64 Y)/\
   aH (decide (Y< (0:Int)))
   (K (.tuple #[.slice J O I,.int .i64 0,.int .i64 0]) X)
   (∃Z:World->Prop,Z X.drew/\
     aV aa av Y 1 fun a_=>
     ∃ar,e_ Z a_ (.int .i64 ar)/\
     Calls prog 164 #[.slice Q U V,.slice J O I] X.drew fun e az=> ∃ax,e= .returned (.int .i64 ax)/\
     Z az/\K (.tuple #[.slice J O I,.int .i64 ar,.int .i64 ax]) az))
theorem dA.ah {x0_ a b c w R} (h:dA.w x0_ a b c w fun v w'=>R (.returned v) w'):Calls prog 125 #[.pointer x0_,.slice a b c] w R:=
 aj mixed Tryz.func125 (by kernel_rfl) rfl (ann:=(.aF .ae (.aF .ae (.aF .ae (.aF .ae (.aF .ae (.aF .ae (.aF .ae (.aF .dm .ae))))))))) (F:=dA.w x0_ a b c w) (fun K=>by kernel_rfl) h
def d_.w (U:Option Addr) (Z:Int) (w:World) (K:Value->World->Prop):Prop:=
 Calls prog 165 #[.pointer U,.int .i64 Z] w fun e w1=> ∃r2,e= .returned (.bool r2)/\
 aH (!r2)
 (K (.int .i64 1) w1)
 (∃a3,U=some a3/\∃Y X aT,w1.drew.cell? (a3.add 2)=some (.slice Y X aT)/\
   aV Y X Z 1 fun a5=>
   ∃x6,w1.drew.cell? a5=some (.int .i64 x6)/\
   ∃a7,U=some a7/\∃x8,w1.drew.cell? (a7.add 3)=some (.int .i64 x8)/\
   aV Y X Z 1 fun a9=>
   ∃I,af a9 0 [.int .i64 (i64.wrap (x6+x8))] w1.drew I/\
   ∃an,U=some an/\∃O V ag,I.cell? (an.add 1)=some (.slice O V ag)/\
   aV O V Z 1 fun ay=>
   ∃aa,I.cell? ay=some (.int .i64 aa)/\
   aH (decide (aa> (0:Int)))
   (∃ac,U=some ac/\∃Q J ap,I.cell? (ac.add 1)=some (.slice Q J ap)/\
     aV Q J Z 1 fun az=>
     ∃ar,I.cell? az=some (.int .i64 ar)/\
     Calls prog 166 #[.pointer U,.int .i64 (i64.wrap (ar - (1:Int)))] I fun e av=>e= .returned (.tuple #[])/\
     Calls prog 167 #[.pointer U,.int .i64 Z] av fun e aw=>e= .returned (.tuple #[])/\
     K (.int .i64 0) aw)
   (Calls prog 167 #[.pointer U,.int .i64 Z] I fun e ax=>e= .returned (.tuple #[])/\
     K (.int .i64 0) ax))
theorem d_.ah {h_ v_ w R} (h:d_.w h_ v_ w fun v w'=>R (.returned v) w'):Calls prog 126 #[.pointer h_,.int .i64 v_] w R:=
 aj mixed Tryz.func126 (by kernel_rfl) rfl (ann:= .ae) (F:=d_.w h_ v_ w) (fun K=>by kernel_rfl) h
def dJ.w (I:Option Addr) (w:World) (K:Value->World->Prop):Prop:=
 aH I.isNone
 (K (.tuple #[]) w)
 (∃a1,I=some a1/\∃J Q O,w.cell? (a1.add 1)=some (.slice J Q O)/\
 aH J.isNone
 (K (.tuple #[]) w)
 (∃a3,I=some a3/\∃X,w.drew.cell? (a3.add 3)=some (.int .i64 X)/\
   ∃a5,I=some a5/\∃Y,w.drew.cell? (a5.add 3)=some (.int .i64 Y)/\
   (16:Int)≠0/\∃V,I=some V/\∃U,af (V.add 3) 0 [.int .i64 (i64.wrap (X+ (i64.wrap ((i64.wrap (Y.tdiv (16:Int)))+ (1:Int)))))] w.drew U/\
   Calls prog 167 #[.pointer I,.int .i64 0] U fun e Z=>e= .returned (.tuple #[])/\
   K (.tuple #[]) Z))
theorem dJ.ah {h_ w R} (h:dJ.w h_ w fun v w'=>R (.returned v) w'):Calls prog 127 #[.pointer h_] w R:=
 aj mixed Tryz.func127 (by kernel_rfl) rfl (ann:= .ae) (F:=dJ.w h_ w) (fun K=>by kernel_rfl) h
def dS.w (O:Option Addr) (a:Int) (w:World) (K:Value->World->Prop):Prop:=
 ∃a1,O=some a1/\∃x2,w.cell? (a1.add 5)=some (.pointer x2)/\
 Calls prog 168 #[.pointer x2] w fun e w3=> ∃ax ay aw,e= .returned (.slice ax ay aw)/\
 ∃a5,O=some a5/\∃x6,w3.cell? (a5.add 5)=some (.pointer x6)/\
 Calls prog 138 #[.pointer x6,.int .i64 a] w3 fun e w7=>e= .returned (.tuple #[])/\
 ∃a8,O=some a8/\∃x9,w7.cell? (a8.add 5)=some (.pointer x9)/\
 Calls prog 168 #[.pointer x9] w7 fun e a'=> ∃a6 V az,e= .returned (.slice a6 V az)/\
 pP ax ay aw 1 (some (V:Int)) none none fun ap Y bv=>
 ∃aa:Int->World->Nat->Prop,(∃Q,aa 0 a' Q)/\
 ∀U J Q (_:Fr),aa U J Q->
 aH (decide (U< (Y:Int)))
  (aV ap Y U 1 fun a_=>
    ∃I,J.cell? a_=some (.int .i64 I)/\
    ∃av,O=some av/\∃Z X aT,J.cell? (av.add 7)=some (.slice Z X aT)/\
    aV Z X (imax I (i64.wrap (0 - I))) 1 fun a22=>
    ∃ac,af a22 0 [.int .i64 I] J ac/\
    ∃ar,O=some ar/\∃an,ac.cell? (ar.add 6)=some (.pointer an)/\
    Calls prog 169 #[.pointer an,.int .i64 (imax I (i64.wrap (0 - I)))] ac fun e a7=> ∃bb,e= .returned (.int .i64 bb)/\
    ∃ag,ag<Q/\aa (i64.wrap (U+ (1:Int))) a7 ag)
  (K (.tuple #[]) J)
theorem dS.ah {x0_ a w R} (h:dS.w x0_ a w fun v w'=>R (.returned v) w'):Calls prog 128 #[.pointer x0_,.int .i64 a] w R:=
 aj mixed Tryz.func128 (by kernel_rfl) rfl (ann:=(.aF .ae (.aF .ae (.aF .ae (.bS (.loop [(28,3)] .ae)))))) (F:=dS.w x0_ a w) (fun K=>by kernel_rfl) h
def eW.w (I:Option Addr) (a:Option Addr) (b:Nat) (c:Nat) (d:Int) (w:World) (K:Value->World->Prop):Prop:=
 ∃a1,I=some a1/\∃x2,w.cell? (a1.add 5)=some (.pointer x2)/\
 Calls prog 106 #[.pointer x2,.slice a b c] w fun e w3=> ∃r4 r5,e= .returned (.tuple #[.int .i64 r4,.int .i64 r5])/\
 aH (r5 !=(0:Int))
 (Calls prog 170 #[.pointer I] w3 fun e w6=>e= .returned (.tuple #[])/\
   ∃a7,I=some a7/\∃x8,w6.cell? (a7.add 5)=some (.pointer x8)/\
   Calls prog 106 #[.pointer x8,.slice a b c] w6 fun e w9=> ∃bY c3,e= .returned (.tuple #[.int .i64 bY,.int .i64 c3])/\
   aH (decide ((b:Int)> (1:Int)))
   (∃b7,I=some b7/\∃a8 a_ J,w9.cell? (b7.add 11)=some (.slice a8 a_ J)/\
     ∀n14 bx,bc (.cells #[.int .i64 bY,.slice a b c,.int .i64 d,.int .i64 (b:Int),.bool false] 184) w9 n14 bx->
     ∃bv an V ar,(Builtin.append_ #[105,105] 105 #[.slice a8 a_ J,.slice (some (Addr.mk n14 0 none)) 1 1]).run prog bx= .ok (.slice an V ar) bv/\
     ∃cb,I=some cb/\∃b_,af (cb.add 11) 0 [.slice an V ar] bv b_/\
     K (.tuple #[]) b_)
   (∃b5,I=some b5/\∃aa ay a',w9.cell? (b5.add 12)=some (.slice aa ay a')/\
     ∀n22 b8,bc (.cells #[.slice a b c] 28) w9 n22 b8->
     ∃b9 ap Q ax,(Builtin.append_ #[22,22] 22 #[.slice aa ay a',.slice (some (Addr.mk n22 0 none)) 1 1]).run prog b8= .ok (.slice ap Q ax) b9/\
     ∃ce,I=some ce/\∃cg,af (ce.add 12) 0 [.slice ap Q ax] b9 cg/\
     K (.tuple #[]) cg))
 (aH (decide ((b:Int)> (1:Int)))
   (∃c1,I=some c1/\∃U O ag,w3.cell? (c1.add 11)=some (.slice U O ag)/\
     ∀b6 cm,bc (.cells #[.int .i64 r4,.slice a b c,.int .i64 d,.int .i64 (b:Int),.bool false] 184) w3 b6 cm->
     ∃bb Y av Z,(Builtin.append_ #[105,105] 105 #[.slice U O ag,.slice (some (Addr.mk b6 0 none)) 1 1]).run prog cm= .ok (.slice Y av Z) bb/\
     ∃bk,I=some bk/\∃b3,af (bk.add 11) 0 [.slice Y av Z] bb b3/\
     K (.tuple #[]) b3)
   (∃cp,I=some cp/\∃aT a6 az,w3.cell? (cp.add 12)=some (.slice aT a6 az)/\
     ∀b4 cc,bc (.cells #[.slice a b c] 28) w3 b4 cc->
     ∃c0 X ac aw,(Builtin.append_ #[22,22] 22 #[.slice aT a6 az,.slice (some (Addr.mk b4 0 none)) 1 1]).run prog cc= .ok (.slice X ac aw) c0/\
     ∃b',I=some b'/\∃cT,af (b'.add 12) 0 [.slice X ac aw] c0 cT/\
     K (.tuple #[]) cT))
theorem eW.ah {x0_ a b c d w R} (h:eW.w x0_ a b c d w fun v w'=>R (.returned v) w'):Calls prog 129 #[.pointer x0_,.slice a b c,.int .i64 d] w R:=
 aj mixed Tryz.func129 (by kernel_rfl) rfl (ann:= .ae) (F:=eW.w x0_ a b c d w) (fun K=>by kernel_rfl) h
def kC.w (cg:Int) (cm:Int) (ce:Int) (w:World) (K:Value->World->Prop):Prop:=
 ∀I w2,bc (.cells #[.int .i64 cg,.int .i64 cm,.int .i64 ce] 104) w I w2->
 ∀Q w4,bc (.cells #[.int .i64 0,.int .i64 0,.int .i64 0] 104) w2 Q w4->
 ∃x5 x6 x7,aD w4 (Addr.mk I 0 none) 0 [.int .i64 x5,.int .i64 x6,.int .i64 x7]/\
 Calls prog 171 #[.agg #[.int .i64 x5,.int .i64 x6,.int .i64 x7]] w4 fun e w8=> ∃r9,e= .returned (.int .i64 r9)/\
 aH (r9 !=(0:Int))
 (∃Z,af (Addr.mk Q 0 none) 0 [.int .i64 0,.int .i64 0,.int .i64 0] w8 Z/\
   ∃ap a_ b3,aD Z (Addr.mk Q 0 none) 0 [.int .i64 ap,.int .i64 a_,.int .i64 b3]/\
   K (.tuple #[.agg #[.int .i64 ap,.int .i64 a_,.int .i64 b3],.bool false]) Z)
 (∃ax,w8.cell? ((Addr.mk I 0 none).add 2)=some (.int .i64 ax)/\
   ∃J,af ((Addr.mk I 0 none).add 2) 0 [.int .i64 (i64.wrap (ax - (1:Int)))] w8 J/\
   ∃bb,J.cell? ((Addr.mk I 0 none).add 2)=some (.int .i64 bb)/\
   aH (decide (bb> (0:Int)))
   (∃av ar b9,aD J (Addr.mk I 0 none) 0 [.int .i64 av,.int .i64 ar,.int .i64 b9]/\
     ∃U,af (Addr.mk Q 0 none) 0 [.int .i64 av,.int .i64 ar,.int .i64 b9] J U/\
     ∃a8 b7 b5,aD U (Addr.mk Q 0 none) 0 [.int .i64 a8,.int .i64 b7,.int .i64 b5]/\
     K (.tuple #[.agg #[.int .i64 a8,.int .i64 b7,.int .i64 b5],.bool false]) U)
   (∃a7,J.cell? ((Addr.mk I 0 none).add 1)=some (.int .i64 a7)/\
     (1073741824:Int)≠0/\∃O,af ((Addr.mk I 0 none).add 1) 0 [.int .i64 (i64.wrap ((a7.tmod (1073741824:Int))+ (1:Int)))] J O/\
     ∃aa,O.drew.cell? ((Addr.mk I 0 none).add 1)=some (.int .i64 aa)/\
     (∃bk,O.drew.cell? ((Addr.mk I 0 none).add 0)=some (.int .i64 bk)/\
     Calls prog 172 #[.int .i64 aa] O.drew fun e cb=> ∃b8,e= .returned (.int .i64 b8)/\
     ∃Y,af ((Addr.mk I 0 none).add 2) 0 [.int .i64 (i64.wrap (bk*b8))] cb Y/\
     ∃bx b' aw,aD Y (Addr.mk I 0 none) 0 [.int .i64 bx,.int .i64 b',.int .i64 aw]/\
     ∃V,af (Addr.mk Q 0 none) 0 [.int .i64 bx,.int .i64 b',.int .i64 aw] Y V/\
     ∃ag a6 b4,aD V (Addr.mk Q 0 none) 0 [.int .i64 ag,.int .i64 a6,.int .i64 b4]/\
     K (.tuple #[.agg #[.int .i64 ag,.int .i64 a6,.int .i64 b4],.bool true]) V)/\
   (Calls prog 172 #[.int .i64 aa] O.drew fun e bv=> ∃an,e= .returned (.int .i64 an)/\
     ∃b6,bv.cell? ((Addr.mk I 0 none).add 0)=some (.int .i64 b6)/\
     ∃ac,af ((Addr.mk I 0 none).add 2) 0 [.int .i64 (i64.wrap (b6*an))] bv ac/\
     ∃ay az b_,aD ac (Addr.mk I 0 none) 0 [.int .i64 ay,.int .i64 az,.int .i64 b_]/\
     ∃X,af (Addr.mk Q 0 none) 0 [.int .i64 ay,.int .i64 az,.int .i64 b_] ac X/\
     ∃bY aT a',aD X (Addr.mk Q 0 none) 0 [.int .i64 bY,.int .i64 aT,.int .i64 a']/\
     K (.tuple #[.agg #[.int .i64 bY,.int .i64 aT,.int .i64 a'],.bool true]) X)))
theorem kC.ah {p_0 p_1 p_2 w R} (h:kC.w p_0 p_1 p_2 w fun v w'=>R (.returned v) w'):Calls prog 130 #[.agg #[.int .i64 p_0,.int .i64 p_1,.int .i64 p_2]] w R:=
 aj mixed Tryz.func130 (by kernel_rfl) rfl (ann:= .ae) (F:=kC.w p_0 p_1 p_2 w) (fun K=>by kernel_rfl) h
def jw.w (a:Int) (b:Int) (c:Int) (w:World) (K:Value->World->Prop):Prop:=
 Calls prog 173 #[.int .i64 b,.int .i64 c] w fun e w1=> ∃I,e= .returned (.int .i64 I)/\
 aH (decide (I> (0:Int)))
 (K (.bool (decide (a>=I))) w1)
 (K (.bool false) w1)
theorem jw.ah {a b c w R} (h:jw.w a b c w fun v w'=>R (.returned v) w'):Calls prog 131 #[.int .i64 a,.int .i64 b,.int .i64 c] w R:=
 aj mixed Tryz.func131 (by kernel_rfl) rfl (ann:= .ae) (F:=jw.w a b c w) (fun K=>by kernel_rfl) h
def dX.w (I:Option Addr) (w:World) (K:Value->World->Prop):Prop:=
 ∃a1,I=some a1/\∃fb ed gA,w.cell? (a1.add 11)=some (.slice fb ed gA)/\
 ∃I3:Option Addr->Nat->Nat->Int->World->Nat->Prop,(∃k4,I3 none 0 0 0 w k4)/\
 ∀eg ec ei v7 w8 k4 (_:Fr),I3 eg ec ei v7 w8 k4->
 aH (decide (v7< (ed:Int)))
  (aV fb ed v7 5 fun a9=>
    ∃gl ea dd ay eN gn fj,aD w8 a9 0 [.int .i64 gl,.slice ea dd ay,.int .i64 eN,.int .i64 gn,.bool fj]/\
    ∀n15 e',bc (.cells #[.int .i64 0,.slice none 0 0,.int .i64 0,.int .i64 0,.bool false] 184) w8 n15 e'->
    ∃ej,af (Addr.mk n15 0 none) 0 [.int .i64 gl,.slice ea dd ay,.int .i64 eN,.int .i64 gn,.bool fj] e' ej/\
    ∃aw:World->Prop,aw ej.drew/\
    ∃gm,I=some gm/\∃c2 aT fo,e_ aw (gm.add 11) (.slice c2 aT fo)/\
    ∃f0 cm b3 a' e6 fL ep,kG aw (Addr.mk n15 0 none) [.int .i64 f0,.slice cm b3 a',.int .i64 e6,.int .i64 fL,.bool ep]/\
    Calls prog 174 #[.pointer I,.agg #[.int .i64 f0,.slice cm b3 a',.int .i64 e6,.int .i64 fL,.bool ep]] ej.drew fun e eR=> ∃fu,e= .returned (.bool fu)/\
    aw eR/\aV c2 aT v7 5 fun gT=>
    ∃ap,af ((gT.add 2).add 2) 0 [.bool fu] eR ap/\
    ∃ez,I=some ez/\∃b' dp ey,ap.cell? (ez.add 11)=some (.slice b' dp ey)/\
    aV b' dp v7 5 fun gJ=>
    ∃fi fs e9,aD ap (gJ.add 2) 0 [.int .i64 fi,.int .i64 fs,.bool e9]/\
    ∀eu gv,bc (.cells #[.int .i64 fi,.int .i64 fs,.bool e9] 182) ap eu gv->
    ∃gd c7 du ax,(Builtin.append_ #[186,186] 186 #[.slice eg ec ei,.slice (some (Addr.mk eu 0 none)) 1 1]).run prog gv= .ok (.slice c7 du ax) gd/\
    ∃k5,k5<k4/\I3 c7 du ax (i64.wrap (v7+ (1:Int))) gd k5)
  (Calls prog 175 #[.slice eg ec ei] w8 fun e e8=> ∃bv dc eT,e= .returned (.slice bv dc eT)/\
    ∃ga,I=some ga/\∃d9 an er,e8.cell? (ga.add 11)=some (.slice d9 an er)/\
    ∃ac:Option Addr->Nat->Nat->Int->World->Nat->Prop,(∃Y,ac none 0 0 0 e8 Y)/\
    ∀Q O U V ar Y (_:Fr),ac Q O U V ar Y->
    aH (decide (V< (an:Int)))
     (aV d9 an V 5 fun a50=>
       ∃fv b7 bx b5 el fk fl,aD ar a50 0 [.int .i64 fv,.slice b7 bx b5,.int .i64 el,.int .i64 fk,.bool fl]/\
       ∀Z e7,bc (.cells #[.int .i64 0,.slice none 0 0,.int .i64 0,.int .i64 0,.bool false] 184) ar Z e7->
       ∃X,af (Addr.mk Z 0 none) 0 [.int .i64 fv,.slice b7 bx b5,.int .i64 el,.int .i64 fk,.bool fl] e7 X/\
       aV bv dc V 1 fun gP=>
       ∃fa,X.drew.cell? gP=some (.bool fa)/\
       aH fa
       (∃fd d' d5 b9 fP gb gf,aD X.drew (Addr.mk Z 0 none) 0 [.int .i64 fd,.slice d' d5 b9,.int .i64 fP,.int .i64 gb,.bool gf]/\
       ∀e3 et,bc (.cells #[.int .i64 fd,.slice d' d5 b9,.int .i64 fP,.int .i64 gb,.bool gf] 184) X.drew e3 et->
       ∃gp b6 b_ ce,(Builtin.append_ #[105,105] 105 #[.slice Q O U,.slice (some (Addr.mk e3 0 none)) 1 1]).run prog et= .ok (.slice b6 b_ ce) gp/\
       ∃J,J<Y/\ac b6 b_ ce (i64.wrap (V+ (1:Int))) gp J)
       (∃a70,I=some a70/\∃gw,X.drew.cell? (a70.add 5)=some (.pointer gw)/\
       ∃eL,X.drew.cell? ((Addr.mk Z 0 none).add 0)=some (.int .i64 eL)/\
       Calls prog 105 #[.pointer gw,.int .i64 eL] X.drew fun e av=> ∃e1,e= .returned (.int .i64 e1)/\
       aH (e1 !=(0:Int))
       (∃en cg a8 cp gu es f1,aD av (Addr.mk Z 0 none) 0 [.int .i64 en,.slice cg a8 cp,.int .i64 gu,.int .i64 es,.bool f1]/\
         ∀eA gc,bc (.cells #[.int .i64 en,.slice cg a8 cp,.int .i64 gu,.int .i64 es,.bool f1] 184) av eA gc->
         ∃eH cc a_ bb,(Builtin.append_ #[105,105] 105 #[.slice Q O U,.slice (some (Addr.mk eA 0 none)) 1 1]).run prog gc= .ok (.slice cc a_ bb) eH/\
         ∃J,J<Y/\ac cc a_ bb (i64.wrap (V+ (1:Int))) eH J)
       (∃aa:World->Prop,aa av.drew/\
         ∃fq,I=some fq/\∃dT bY c3,e_ aa ((fq.add 14).add 2) (.slice dT bY c3)/\
         ∃dk cT az,e_ aa ((Addr.mk Z 0 none).add 1) (.slice dk cT az)/\
         Calls prog 70 #[.slice dk cT az] av.drew fun e gr=> ∃a7 d4 d8,e= .returned (.slice a7 d4 d8)/\
         aa gr/\∀f' eb,bc (.cells #[.bool true,.slice a7 d4 d8] 48) gr f' eb->
         aa eb/\∃e2 dq a6 b4,(Builtin.append_ #[25,25] 25 #[.slice dT bY c3,.slice (some (Addr.mk f' 0 none)) 1 1]).run prog eb= .ok (.slice dq a6 b4) e2/\
         ∃e4,I=some e4/\∃ef,af ((e4.add 14).add 2) 0 [.slice dq a6 b4] e2 ef/\
         ∃gs,I=some gs/\∃ew,ef.cell? ((gs.add 14).add 6)=some (.int .i64 ew)/\
         ∃e5,I=some e5/\∃fA,af ((e5.add 14).add 6) 0 [.int .i64 (i64.wrap (ew+ (1:Int)))] ef fA/\
         ∃J,J<Y/\ac Q O U (i64.wrap (V+ (1:Int))) fA J)))
     (∃bk,I=some bk/\∃ag,af (bk.add 11) 0 [.slice Q O U] ar ag/\
       ∃cb,I=some cb/\∃b8,ag.cell? (cb.add 13)=some (.int .i64 b8)/\
       ∃c0,I=some c0/\∃c1,af (c0.add 13) 0 [.int .i64 (jI (i64.wrap (b8+ (1:Int))) 100)] ag c1/\
       K (.tuple #[]) c1))
theorem dX.ah {x0_ w R} (h:dX.w x0_ w fun v w'=>R (.returned v) w'):Calls prog 132 #[.pointer x0_] w R:=
 aj mixed Tryz.func132 (by kernel_rfl) rfl (ann:=(.aF .ae (.aF (.aF .ae (.bS (.loop [(2,186),(14,3)] (.aF .ae (.aF .ae (.aF (.bS (.aF .ae (.aF .dm .ae))) .ae)))))) (.aF .ae (.aF .ae (.aF (.aF .ae (.bS (.loop [(6,105),(49,3)] (.aF .ae (.aF .ae (.aF (.bS (.aF .ae (.aF .ae (.aF .dm .ae)))) .ae)))))) .ae)))))) (F:=dX.w x0_ w) (fun K=>by kernel_rfl) h
def dC.w (a:Option Addr) (b:Nat) (c:Nat) (O:Int) (w:World) (K:Value->World->Prop):Prop:=
 Calls prog 64 #[.int .i64 O] w fun e w1=> ∃Y,e= .returned (.bool Y)/\
 aH (!Y)
 (K (.int .i64 0) w1)
 (Calls prog 63 #[.int .i64 O] w1 fun e w3=> ∃r4,e= .returned (.int .i64 r4)/\
 aH (decide (r4> (b:Int)))
 (K (.int .i64 0) w3)
 (Calls prog 63 #[.int .i64 O] w3 fun e Q=> ∃Z,e= .returned (.int .i64 Z)/\
 aV a b (i64.wrap (Z - (1:Int))) 1 fun a7=>
 ∃X,Q.cell? a7=some (.int .i64 X)/\
 aH (X==(0:Int))
 (K (.int .i64 0) Q)
 (Calls prog 63 #[.int .i64 O] Q fun e V=> ∃J,e= .returned (.int .i64 J)/\
   aV a b (i64.wrap (J - (1:Int))) 1 fun U=>
   ∃I,V.cell? U=some (.int .i64 I)/\
   aH ((decide (I> (0:Int)))==(decide (O> (0:Int))))
   (K (.int .i64 1) V)
   (K (.int .i64 (-1)) V))))
theorem dC.ah {a b c l_ w R} (h:dC.w a b c l_ w fun v w'=>R (.returned v) w'):Calls prog 133 #[.slice a b c,.int .i64 l_] w R:=
 aj mixed Tryz.func133 (by kernel_rfl) rfl (ann:= .ae) (F:=dC.w a b c l_ w) (fun K=>by kernel_rfl) h
def fV.w (I:Int) (J:Int) (w:World) (K:Value->World->Prop):Prop:=
 Calls prog 89 #[.int .i64 I] w fun e w1=> ∃O,e= .returned (.int .i64 O)/\
 Calls prog 89 #[.int .i64 J] w1 fun e w3=> ∃Q,e= .returned (.int .i64 Q)/\
 aH (O !=Q)
 (Calls prog 89 #[.int .i64 I] w3 fun e X=> ∃V,e= .returned (.int .i64 V)/\
   Calls prog 89 #[.int .i64 J] X fun e Y=> ∃U,e= .returned (.int .i64 U)/\
   K (.int .i64 (i64.wrap (V - U))) Y)
 (K (.int .i64 (i64.wrap (J - I))) w3)
theorem fV.ah {a_ b_ w R} (h:fV.w a_ b_ w fun v w'=>R (.returned v) w'):Calls prog 136 #[.int .i64 a_,.int .i64 b_] w R:=
 aj mixed Tryz.func136 (by kernel_rfl) rfl (ann:= .ae) (F:=fV.w a_ b_ w) (fun K=>by kernel_rfl) h
def bL.w (a:Option Addr) (b:Nat) (c:Nat) (w:World) (K:Value->World->Prop):Prop:=
 aH (decide ((b:Int)< (2:Int)))
 (K (.slice a b c) w)
 (∃I1:Int->World->Nat->Prop,(∃k2,I1 1 w k2)/\
   ∀Q w5 k2 (_:Fr),I1 Q w5 k2->
   aH (decide (Q< (b:Int)))
    (aV a b Q 1 fun a6=>
      ∃x7,w5.drew.cell? a6=some (.int .i64 x7)/\
      aV a b (i64.wrap (Q - (1:Int))) 1 fun a8=>
      ∃x9,w5.drew.cell? a8=some (.int .i64 x9)/\
      aH (x7==x9)
      (pP a b c 1 (some Q) none none fun Y U bY=>
        ∃Z:Int->Int->World->Nat->Prop,(∃X,Z Q 1 w5.drew X)/\
        ∀J I O X (_:Fr),Z J I O X->
        aH (decide (I< (U:Int)))
         (aV Y U I 1 fun a_=>
           ∃ap,O.drew.cell? a_=some (.int .i64 ap)/\
           aV Y U (i64.wrap (I - (1:Int))) 1 fun bk=>
           ∃aw,O.drew.cell? bk=some (.int .i64 aw)/\
           aH (ap !=aw)
           (aV Y U I 1 fun bb=>
             ∃ax,O.drew.cell? bb=some (.int .i64 ax)/\
             aV a b J 1 fun bv=>
             ∃ay,af bv 0 [.int .i64 ax] O.drew ay/\
             ∃V,V<X/\Z (i64.wrap (J+ (1:Int))) (i64.wrap (I+ (1:Int))) ay V)
           (∃V,V<X/\Z J (i64.wrap (I+ (1:Int))) O.drew V))
         (pP a b c 1 (some J) none none fun av ac an=>
           ∃ag,(Builtin.clear_ #[28] 0 #[.slice av ac an]).run prog O= .ok (.tuple #[]) ag/\
           pP a b c 1 none (some J) none fun az ar aT=>
           K (.slice az ar aT) ag))
      (∃k3,k3<k2/\I1 (i64.wrap (Q+ (1:Int))) w5.drew k3))
    (K (.slice a b c) w5))
theorem bL.ah {a b c w R} (h:bL.w a b c w fun v w'=>R (.returned v) w'):Calls prog 137 #[.slice a b c] w R:=
 aj mixed Tryz.func137 (by kernel_rfl) rfl (ann:=(.aF .ae (.aF .ae (.aF (.aF .ae (.bS (.loop [(3,3)] (.aF .ae (.aF (.bS (.aF .ae (.aF (.aF .ae (.aF (.aF .ae (.bS (.loop [(3,3),(5,3)] .ae))) .ae)) .ae))) .ae))))) .ae)))) (F:=bL.w a b c w) (fun K=>by kernel_rfl) h
def bu.w (J:Option Addr) (a:Int) (w:World) (K:Value->World->Prop):Prop:=
 aH J.isNone
 (K (.tuple #[]) w)
 (∃a1,J=some a1/\∃d5 ce d8,w.cell? (a1.add 7)=some (.slice d5 ce d8)/\
 aH (decide ((imax 0 a)>=(ce:Int)))
 (K (.tuple #[]) w)
 (∃a3,J=some a3/\∃bk dd d9,w.cell? (a3.add 7)=some (.slice bk dd d9)/\
   aV bk dd (imax 0 a) 1 fun a5=>
   ∃x6,w.cell? a5=some (.int .i64 x6)/\
   ∃a7,J=some a7/\∃b7 b9 du,w.cell? (a7.add 6)=some (.slice b7 b9 du)/\
   pP b7 b9 du 1 (some x6) none none fun d' cb ec=>
   ∃ay:Int->World->Nat->Prop,(∃U,ay 0 w U)/\
   ∀Q I U (_:Fr),ay Q I U->
   aH (decide (Q< (cb:Int)))
    (aV d' cb Q 1 fun d4=>
      ∃cT,I.cell? d4=some (.int .i64 cT)/\
      ∃az:World->Prop,az I.drew/\
      ∃c0,J=some c0/\∃X Y cg,e_ az (c0.add 3) (.slice X Y cg)/\
      Calls prog 143 #[.int .i64 cT] I.drew fun e aT=> ∃a6,e= .returned (.int .i64 a6)/\
      az aT/\aV X Y a6 1 fun a22=>
      ∃b8,af a22 0 [.int .i8 0] aT b8/\
      ∃bY,bY<U/\ay (i64.wrap (Q+ (1:Int))) b8 bY)
    (∃cm,J=some cm/\∃a_,I.drew.cell? (cm.add 9)=some (.int .i64 a_)/\
      ∃c7,J=some c7/\∃aa ag bv,I.drew.cell? (c7.add 8)=some (.slice aa ag bv)/\
      aV aa ag (imax 0 a) 1 fun ea=>
      ∃bx,I.drew.cell? ea=some (.int .i64 bx)/\
      ∃b',J=some b'/\∃O,af (b'.add 9) 0 [.int .i64 (jI (jI a_ x6) bx)] I.drew O/\
      ∃dc,J=some dc/\∃V Z av,O.drew.cell? (dc.add 6)=some (.slice V Z av)/\
      pP V Z av 1 none (some x6) none fun a8 b4 a'=>
      ∃cc,J=some cc/\∃an aw ac,O.drew.cell? (cc.add 7)=some (.slice an aw ac)/\
      pP an aw ac 1 none (some (imax 0 a)) none fun c1 dq dk=>
      ∃b3,J=some b3/\∃ax ap ar,O.drew.cell? (b3.add 8)=some (.slice ax ap ar)/\
      pP ax ap ar 1 none (some (imax 0 a)) none fun b6 c2 dp=>
      ∃b5,J=some b5/\∃c3,af (b5.add 6) 0 [.slice a8 b4 a'] O.drew c3/\
      ∃b_,J=some b_/\∃bb,af (b_.add 7) 0 [.slice c1 dq dk] c3 bb/\
      ∃a45,J=some a45/\∃cp,af (a45.add 8) 0 [.slice b6 c2 dp] bb cp/\
      K (.tuple #[]) cp)))
theorem bu.ah {p_ a w R} (h:bu.w p_ a w fun v w'=>R (.returned v) w'):Calls prog 138 #[.pointer p_,.int .i64 a] w R:=
 aj mixed Tryz.func138 (by kernel_rfl) rfl (ann:=(.aF .ae (.aF .ae (.aF .ae (.aF (.aF .ae (.bS (.loop [(34,3)] (.aF .ae (.aF .ae (.aF (.bS (.aF .ae .dm)) .ae)))))) .ae))))) (F:=bu.w p_ a w) (fun K=>by kernel_rfl) h
theorem bu.Kq {p_ a w} {u:FrameMode} {R:Ending->World->Prop} (h:bu.w p_ a w fun v w'=>R (.returned v) w'):CallsD prog 138 #[.pointer p_,.int .i64 a] u w fun e I w'=>I=u/\R e w':=
 DI mixed Tryz.func138 (by kernel_rfl) rfl (ann:=(.aF .ae (.aF .ae (.aF .ae (.aF (.aF .ae (.bS (.loop [(34,3)] (.aF .ae (.aF .ae (.aF (.bS (.aF .ae .dm)) .ae)))))) .ae))))) (F:=bu.w p_ a w) (fun K=>by kernel_rfl) h
def fX.w (b_:Option Addr) (a:Option Addr) (b:Nat) (c:Nat) (w:World) (K:Value->World->Prop):Prop:=
 ∃I1:Option Addr->Nat->Nat->Int->World->Nat->Prop,(∃k2,I1 none 0 0 0 w k2)/\
 ∀O I J v5 w6 k2 (_:Fr),I1 O I J v5 w6 k2->
 aH (decide (v5< (b:Int)))
  (aV a b v5 1 fun a7=>
    ∃x8,w6.cell? a7=some (.int .i64 x8)/\
    ∃a9,b_=some a9/\∃av:Option Nat,w6.cell? (a9.add 1)=some (.map av)/\
    ∃ac aa,(Instr.lookup 133 (.map av) (.int .i64 (imax x8 (i64.wrap (0 - x8)))) false).run prog w6= .ok (.int .i64 aa) ac/\
    aH (decide (x8< (0:Int)))
    (∀aw ax,bc (.cells #[.int .i64 (i64.wrap (0 - aa))] 3) ac aw ax->
      ∃ag V Y Z,(Builtin.append_ #[28,28] 28 #[.slice O I J,.slice (some (Addr.mk aw 0 none)) 1 1]).run prog ax= .ok (.slice V Y Z) ag/\
      ∃k3,k3<k2/\I1 V Y Z (i64.wrap (v5+ (1:Int))) ag k3)
    (∀an ay,bc (.cells #[.int .i64 aa] 3) ac an ay->
      ∃aT X U Q,(Builtin.append_ #[28,28] 28 #[.slice O I J,.slice (some (Addr.mk an 0 none)) 1 1]).run prog ay= .ok (.slice X U Q) aT/\
      ∃k3,k3<k2/\I1 X U Q (i64.wrap (v5+ (1:Int))) aT k3))
  (K (.slice O I J) w6)
theorem fX.ah {b_ a b c w R} (h:fX.w b_ a b c w fun v w'=>R (.returned v) w'):Calls prog 139 #[.pointer b_,.slice a b c] w R:=
 aj mixed Tryz.func139 (by kernel_rfl) rfl (ann:=(.aF .ae (.aF .ae (.aF (.aF .ae (.bS (.loop [(5,28),(11,3)] .ae))) .ae)))) (F:=fX.w b_ a b c w) (fun K=>by kernel_rfl) h
def fe.w (V:Option Addr) (U:Int) (w:World) (K:Value->World->Prop):Prop:=
 aH (!V.isNone)
 (aH (decide (U>=(0:Int)))
 (∃a1,V=some a1/\∃Y J Q,w.cell? (a1.add 1)=some (.slice Y J Q)/\
 aH (decide (U< (J:Int)))
 (∃a3,V=some a3/\∃I O X,w.cell? (a3.add 1)=some (.slice I O X)/\
 aV I O U 3 fun a5=>
 ∃Z,w.cell? (a5.add 2)=some (.bool Z)/\
 K (.bool (!Z)) w)
 (K (.bool false) w))
 (K (.bool false) w))
 (K (.bool false) w)
theorem fe.ah {p_ i_ w R} (h:fe.w p_ i_ w fun v w'=>R (.returned v) w'):Calls prog 141 #[.pointer p_,.int .i64 i_] w R:=
 aj mixed Tryz.func141 (by kernel_rfl) rfl (ann:= .ae) (F:=fe.w p_ i_ w) (fun K=>by kernel_rfl) h
def fG.w (Z:Option Addr) (X:Int) (w:World) (K:Value->World->Prop):Prop:=
 aH (decide (X< (0:Int)))
 (∃a1,Z=some a1/\∃O J U,w.cell? (a1.add 3)=some (.slice O J U)/\
   aV O J (i64.wrap (0 - X)) 1 fun a3=>
   ∃x4,w.cell? a3=some (.int .i8 x4)/\
   K (.int .i8 (IntKind.i8.wrap (0 - x4))) w)
 (∃a5,Z=some a5/\∃Q I V,w.cell? (a5.add 3)=some (.slice Q I V)/\
   aV Q I X 1 fun a7=>
   ∃Y,w.cell? a7=some (.int .i8 Y)/\
   K (.int .i8 Y) w)
theorem fG.ah {p_ l_ w R} (h:fG.w p_ l_ w fun v w'=>R (.returned v) w'):Calls prog 142 #[.pointer p_,.int .i64 l_] w R:=
 aj mixed Tryz.func142 (by kernel_rfl) rfl (ann:= .ae) (F:=fG.w p_ l_ w) (fun K=>by kernel_rfl) h
def fR.w (I:Int) (w:World) (K:Value->World->Prop):Prop:=
 K (.int .i64 (imax I (i64.wrap (0 - I)))) w
theorem fR.ah {l_ w R} (h:fR.w l_ w fun v w'=>R (.returned v) w'):Calls prog 143 #[.int .i64 l_] w R:=
 aj mixed Tryz.func143 (by kernel_rfl) rfl (ann:= .ae) (F:=fR.w l_ w) (fun K=>by kernel_rfl) h
def dw.w (p_:Option Addr) (i_:Int) (w:World) (K:Value->World->Prop):Prop:=
 ∀n1 w2,bc (.cells #[.int .i64 i_] 3) w n1 w2->
 ∃a3,p_=some a3/\∃aT bv cb,w2.drew.cell? (a3.add 1)=some (.slice aT bv cb)/\
 ∃x5,w2.drew.cell? (Addr.mk n1 0 none)=some (.int .i64 x5)/\
 aV aT bv x5 3 fun a6=>
 ∃bk aw bY,w2.drew.cell? (a6.add 1)=some (.slice bk aw bY)/\
 pP bk aw bY 1 none (some (jI 2 (aw:Int))) none fun b_ b5 cg=>
 ∃I9:Int->World->Nat->Prop,(∃J,I9 0 w2.drew J)/\
 ∀U I J (_:Fr),I9 U I J->
 aH (decide (U< (b5:Int)))
  (aV b_ b5 U 1 fun b'=>
    ∃ax,I.cell? b'=some (.int .i64 ax)/\
    ∃O:World->Prop,O I.drew/\
    ∃a7,p_=some a7/\∃ac Y a',e_ O (a7.add 2) (.slice ac Y a')/\
    Calls prog 119 #[.int .i64 ax] I.drew fun e av=> ∃a8,e= .returned (.int .i64 a8)/\
    O av/\aV ac Y a8 1 fun b9=>
    ∃ag ap Z,e_ O b9 (.slice ag ap Z)/\
    ∃Q:World->Prop,Q av.drew/\
    ∃az,p_=some az/\∃aa V b3,e_ Q (az.add 2) (.slice aa V b3)/\
    Calls prog 119 #[.int .i64 ax] av.drew fun e ay=> ∃b4,e= .returned (.int .i64 b4)/\
    Q ay/\Calls prog 145 #[.slice ag ap Z,.func (.func 179) #[] #[.pointer (some (Addr.mk n1 0 none))]] ay fun e a_=> ∃ar an X,e= .returned (.slice ar an X)/\
    Q a_/\aV aa V b4 1 fun cc=>
    ∃bx,af cc 0 [.slice ar an X] a_ bx/\
    ∃bb,bb<J/\I9 (i64.wrap (U+ (1:Int))) bx bb)
  (K (.tuple #[]) I)
theorem dw.ah {p_ i_ w R} (h:dw.w p_ i_ w fun v w'=>R (.returned v) w'):Calls prog 144 #[.pointer p_,.int .i64 i_] w R:=
 aj mixed Tryz.func144 (by kernel_rfl) rfl (ann:=(.aF .ae (.aF .ae (.aF .ae (.bS (.loop [(22,3)] (.aF .ae (.aF .ae (.aF (.bS (.aF .ae (.aF .dm .dm))) .ae))))))))) (F:=dw.w p_ i_ w) (fun K=>by kernel_rfl) h
def bJ.w (a:Option Addr) (b:Nat) (c:Nat) (d:FuncId) (f:Array Value) (w:World) (K:Value->World->Prop):Prop:=
 Calls prog 112 #[.slice a b c,.func (.func d) #[] f] w fun e w1=> ∃r2,e= .returned (.int .i64 r2)/\
 aH (r2==(-1))
 (K (.slice a b c) w1)
 (∃I3:Int->Int->World->Nat->Prop,(∃k4,I3 r2 (i64.wrap (r2+ (1:Int))) w1 k4)/\
   ∀I J w8 k4 (_:Fr),I3 I J w8 k4->
   aH (decide (J< (b:Int)))
    (aV a b J 1 fun a9=>
      ∃O,w8.cell? a9=some (.int .i64 O)/\
      aH (fM prog d) (Calls prog d (#[]++ #[.int .i64 O]++f) w8 fun e an=> ∃ag,e= .returned (.bool ag)/\
      aH (!ag)
      (aV a b I 1 fun ay=>
        ∃ac,af ay 0 [.int .i64 O] an ac/\
        ∃V,V<k4/\I3 (i64.wrap (I+ (1:Int))) (i64.wrap (J+ (1:Int))) ac V)
      (∃V,V<k4/\I3 I (i64.wrap (J+ (1:Int))) an V)) False)
    (pP a b c 1 (some I) none none fun X aa U=>
      ∃Y,(Builtin.clear_ #[28] 0 #[.slice X aa U]).run prog w8= .ok (.tuple #[]) Y/\
      pP a b c 1 none (some I) none fun Q Z ap=>
      K (.slice Q Z ap) Y))
theorem bJ.ah {a b c d f w R} (h:bJ.w a b c d f w fun v w'=>R (.returned v) w'):Calls prog 145 #[.slice a b c,.func (.func d) #[] f] w R:=
 aj mixed Tryz.func145 (by kernel_rfl) rfl (ann:=(.aF .ae (.aF .ae (.aF .ae (.aF (.aF .ae (.bS (.loop [(5,3),(6,3)] .ae))) .ae))))) (F:=bJ.w a b c d f w) (fun K=>by kernel_rfl) h
def c8.w (O:Int) (I:Addr) (w:World) (K:Value->World->Prop):Prop:=
 ∃J,w.cell? I=some (.int .i64 J)/\
 K (.bool (O==J)) w
theorem c8.ah {k_ c0_ w R} (h:c8.w k_ c0_ w fun v w'=>R (.returned v) w'):Calls prog 146 #[.int .i64 k_,.pointer (some c0_)] w R:=
 aj mixed Tryz.func146 (by kernel_rfl) rfl (ann:= .ae) (F:=c8.w k_ c0_ w) (fun K=>by kernel_rfl) h
def dE.w (Q:Int) (I:Addr) (w:World) (K:Value->World->Prop):Prop:=
 ∃J,w.cell? I=some (.pointer J)/\
 Calls prog 148 #[.pointer J,.int .i64 Q] w fun e w2=> ∃O,e= .returned (.bool O)/\
 K (.bool (!O)) w2
theorem dE.ah {l_ c0_ w R} (h:dE.w l_ c0_ w fun v w'=>R (.returned v) w'):Calls prog 147 #[.int .i64 l_,.pointer (some c0_)] w R:=
 aj mixed Tryz.func147 (by kernel_rfl) rfl (ann:= .ae) (F:=dE.w l_ c0_ w) (fun K=>by kernel_rfl) h
def hG.w (Q:Option Addr) (l_:Int) (w:World) (K:Value->World->Prop):Prop:=
 ∃W1:World->Prop,W1 w.drew/\
 aH (!Q.isNone)
 (∃a2,Q=some a2/\∃J X Y,e_ W1 (a2.add 3) (.slice J X Y)/\
 aH (!J.isNone)
 (∀n4 U,bc (.cells #[.int .i64 l_] 3) w.drew n4 U->
 W1 U/\Calls prog 62 #[.slice (some (Addr.mk n4 0 none)) 1 1] U fun e V=> ∃r7,e= .returned (.int .i64 r7)/\
 W1 V/\aH (r7==(0:Int))
 (Calls prog 143 #[.int .i64 l_] V fun e Z=> ∃r9,e= .returned (.int .i64 r9)/\
 W1 Z/\∃I,Q=some I/\∃O,e_ W1 (I.add 0) (.int .i64 O)/\
 K (.bool (decide (r9<=O))) Z)
 (K (.bool false) V))
 (K (.bool false) w.drew))
 (K (.bool false) w.drew)
theorem hG.ah {p_ l_ w R} (h:hG.w p_ l_ w fun v w'=>R (.returned v) w'):Calls prog 148 #[.pointer p_,.int .i64 l_] w R:=
 aj mixed Tryz.func148 (by kernel_rfl) rfl (ann:=(.aF .ae (.aF .dm .ae))) (F:=hG.w p_ l_ w) (fun K=>by kernel_rfl) h
def c4.w (p_:Option Addr) (i_:Int) (w:World) (K:Value->World->Prop):Prop:=
 ∃a1,p_=some a1/\∃e4 ep fA,w.cell? (a1.add 1)=some (.slice e4 ep fA)/\
 aV e4 ep i_ 3 fun a3=>
 ∃Q J e9,w.cell? (a3.add 1)=some (.slice Q J e9)/\
 ∃I5:Int->World->Nat->Prop,(∃k6,I5 0 w k6)/\
 ∀Y w9 k6 (_:Fr),I5 Y w9 k6->
 aH (decide (Y< (jI 2 (J:Int))))
  (∃aT:Int->Int->World->Nat->Prop,(∃ay,aT Y (i64.wrap (Y+ (1:Int))) w9 ay)/\
    ∀V O an ay (_:Fr),aT V O an ay->
    aH (decide (O< (J:Int)))
     (∃a6:World->Prop,a6 an.drew/\
       aV Q J O 1 fun gc=>
       ∃ed,e_ a6 gc (.int .i64 ed)/\
       Calls prog 180 #[.pointer p_,.int .i64 ed] an.drew fun e el=> ∃ec,e= .returned (.int .i64 ec)/\
       a6 el/\aV Q J V 1 fun gd=>
       ∃eL,e_ a6 gd (.int .i64 eL)/\
       Calls prog 180 #[.pointer p_,.int .i64 eL] el fun e ei=> ∃eu,e= .returned (.int .i64 eu)/\
       aH (decide (ec>eu))
       (∃ax,ax<ay/\aT O (i64.wrap (O+ (1:Int))) ei ax)
       (∃ax,ax<ay/\aT V (i64.wrap (O+ (1:Int))) ei ax))
     (aV Q J V 1 fun a25=>
       ∃ez,an.drew.cell? a25=some (.int .i64 ez)/\
       aV Q J Y 1 fun gl=>
       ∃eN,an.drew.cell? gl=some (.int .i64 eN)/\
       aV Q J Y 1 fun gf=>
       ∃e5,af gf 0 [.int .i64 ez] an.drew e5/\
       aV Q J V 1 fun fv=>
       ∃d',af fv 0 [.int .i64 eN] e5 d'/\
       ∃k7,k7<k6/\I5 (i64.wrap (Y+ (1:Int))) d' k7))
  (pP Q J e9 1 none (some (jI 2 (J:Int))) none fun fs a' gm=>
    ∃aw:Int->World->Nat->Prop,(∃av,aw 0 w9 av)/\
    ∀ap U av (_:Fr),aw ap U av->
    aH (decide (ap< (a':Int)))
     (aV fs a' ap 1 fun a39=>
       ∃ar,U.cell? a39=some (.int .i64 ar)/\
       ∃I:World->Prop,I U.drew/\
       ∃fb,p_=some fb/\∃ag ac ea,e_ I (fb.add 2) (.slice ag ac ea)/\
       ∃ef,p_=some ef/\∃aa Z fa,e_ I (ef.add 2) (.slice aa Z fa)/\
       (Calls prog 119 #[.int .i64 ar] U.drew fun e d8=> ∃d5,e= .returned (.int .i64 d5)/\
       I d8/\(Calls prog 119 #[.int .i64 ar] d8 fun e eg=> ∃ek,e= .returned (.int .i64 ek)/\
       I eg/\aV aa Z ek 1 fun a50=>
       ∃a7 b' ce,e_ I a50 (.slice a7 b' ce)/\
       ∀e3 dp,bc (.cells #[.int .i64 i_] 3) eg e3 dp->
       I dp/\∃dq c0 bv bb,(Builtin.append_ #[28,28] 28 #[.slice a7 b' ce,.slice (some (Addr.mk e3 0 none)) 1 1]).run prog dp= .ok (.slice c0 bv bb) dq/\
       I dq/\aV ag ac d5 1 fun gb=>
       ∃eR,af gb 0 [.slice c0 bv bb] dq eR/\
       ∃X,X<av/\aw (i64.wrap (ap+ (1:Int))) eR X)/\
     (∀eA d4,bc (.cells #[.int .i64 i_] 3) d8 eA d4->
       I d4/\Calls prog 119 #[.int .i64 ar] d4 fun e ey=> ∃es,e= .returned (.int .i64 es)/\
       I ey/\aV aa Z es 1 fun f0=>
       ∃b8 c3 cg,e_ I f0 (.slice b8 c3 cg)/\
       ∃du cT cp b7,(Builtin.append_ #[28,28] 28 #[.slice b8 c3 cg,.slice (some (Addr.mk eA 0 none)) 1 1]).run prog ey= .ok (.slice cT cp b7) du/\
       I du/\aV ag ac d5 1 fun a66=>
       ∃eb,af a66 0 [.slice cT cp b7] du eb/\
       ∃X,X<av/\aw (i64.wrap (ap+ (1:Int))) eb X))/\
     (∀fj dT,bc (.cells #[.int .i64 i_] 3) U.drew fj dT->
       I dT/\Calls prog 119 #[.int .i64 ar] dT fun e e6=> ∃fi,e= .returned (.int .i64 fi)/\
       I e6/\Calls prog 119 #[.int .i64 ar] e6 fun e fl=> ∃fk,e= .returned (.int .i64 fk)/\
       I fl/\aV aa Z fk 1 fun ga=>
       ∃bx b9 c2,e_ I ga (.slice bx b9 c2)/\
       ∃dd dc b5 a8,(Builtin.append_ #[28,28] 28 #[.slice bx b9 c2,.slice (some (Addr.mk fj 0 none)) 1 1]).run prog fl= .ok (.slice dc b5 a8) dd/\
       I dd/\aV ag ac fi 1 fun f'=>
       ∃ej,af f' 0 [.slice dc b5 a8] dd ej/\
       ∃X,X<av/\aw (i64.wrap (ap+ (1:Int))) ej X))
     (aH (decide ((J:Int)< (2:Int)))
       (∃fq,p_=some fq/\∃b4 c1 b3,U.cell? (fq.add 10)=some (.slice b4 c1 b3)/\
       ∀eT en,bc (.cells #[.int .i64 i_] 3) U eT en->
       ∃e1 cc c7 cb,(Builtin.append_ #[28,28] 28 #[.slice b4 c1 b3,.slice (some (Addr.mk eT 0 none)) 1 1]).run prog en= .ok (.slice cc c7 cb) e1/\
       ∃et,p_=some et/\∃ew,af (et.add 10) 0 [.slice cc c7 cb] e1 ew/\
       K (.tuple #[]) ew)
       (aV Q J 1 1 fun fL=>
       ∃e7,U.cell? fL=some (.int .i64 e7)/\
       Calls prog 142 #[.pointer p_,.int .i64 e7] U fun e dk=> ∃fo,e= .returned (.int .i8 fo)/\
       aH (decide (fo< (0:Int)))
       (∃e8,p_=some e8/\∃bk a_ bY,dk.cell? (e8.add 10)=some (.slice bk a_ bY)/\
         ∀fd er,bc (.cells #[.int .i64 i_] 3) dk fd er->
         ∃e2 cm b_ b6,(Builtin.append_ #[28,28] 28 #[.slice bk a_ bY,.slice (some (Addr.mk fd 0 none)) 1 1]).run prog er= .ok (.slice cm b_ b6) e2/\
         ∃eH,p_=some eH/\∃e',af (eH.add 10) 0 [.slice cm b_ b6] e2 e'/\
         K (.tuple #[]) e')
       (K (.tuple #[]) dk))))
theorem c4.ah {p_ i_ w R} (h:c4.w p_ i_ w fun v w'=>R (.returned v) w'):Calls prog 149 #[.pointer p_,.int .i64 i_] w R:=
 aj mixed Tryz.func149 (by kernel_rfl) rfl (ann:=(.aF .ae (.aF (.aF .ae (.bS (.loop [(5,3)] (.aF .ae (.aF (.bS (.aF .ae (.aF (.aF .ae (.bS (.loop [(6,3),(7,3)] (.aF .ae (.aF (.bS (.aF .dm .ae)) .ae))))) .ae))) .ae))))) (.aF (.aF .ae (.bS (.loop [(68,3)] (.aF .ae (.aF .ae (.aF (.bS (.aF .ae .dm)) .ae)))))) .ae)))) (F:=c4.w p_ i_ w) (fun K=>by kernel_rfl) h
def bV.w (a:Option Addr) (b:Nat) (c:Nat) (J:Int) (w:World) (K:Value->World->Prop):Prop:=
 Calls prog 181 #[.slice a b c,.int .i64 J] w fun e w1=> ∃I,e= .returned (.int .i64 I)/\
 K (.bool (decide (I>=(0:Int)))) w1
theorem bV.ah {a b c v_ w R} (h:bV.w a b c v_ w fun v w'=>R (.returned v) w'):Calls prog 151 #[.slice a b c,.int .i64 v_] w R:=
 aj mixed Tryz.func151 (by kernel_rfl) rfl (ann:= .ae) (F:=bV.w a b c v_ w) (fun K=>by kernel_rfl) h
def cr.w (J:Int) (I:Addr) (w:World) (K:Value->World->Prop):Prop:=
 ∃O,w.cell? I=some (.pointer O)/\
 Calls prog 142 #[.pointer O,.int .i64 J] w fun e w2=> ∃Q,e= .returned (.int .i8 Q)/\
 K (.bool (decide (Q< (0:Int)))) w2
theorem cr.ah {x0_ c0_ w R} (h:cr.w x0_ c0_ w fun v w'=>R (.returned v) w'):Calls prog 153 #[.int .i64 x0_,.pointer (some c0_)] w R:=
 aj mixed Tryz.func153 (by kernel_rfl) rfl (ann:= .ae) (F:=cr.w x0_ c0_ w) (fun K=>by kernel_rfl) h
def eM.w (Q:Option Addr) (V:Int) (w:World) (K:Value->World->Prop):Prop:=
 ∃a1,Q=some a1/\∃O J I,w.cell? (a1.add 10)=some (.slice O J I)/\
 Calls prog 149 #[.pointer Q,.int .i64 V] w fun e w3=>e= .returned (.tuple #[])/\
 ∃a4,Q=some a4/\∃U,af (a4.add 10) 0 [.slice O J I] w3 U/\
 K (.tuple #[]) U
theorem eM.ah {p_ i_ w R} (h:eM.w p_ i_ w fun v w'=>R (.returned v) w'):Calls prog 154 #[.pointer p_,.int .i64 i_] w R:=
 aj mixed Tryz.func154 (by kernel_rfl) rfl (ann:= .ae) (F:=eM.w p_ i_ w) (fun K=>by kernel_rfl) h
def fE.w (O:Option Addr) (Q:Int) (a:Int) (w:World) (K:Value->World->Prop):Prop:=
 ∃W1:World->Prop,W1 w.drew/\
 ∃a2,O=some a2/\∃dk c2 el,e_ W1 (a2.add 3) (.slice dk c2 el)/\
 Calls prog 143 #[.int .i64 Q] w.drew fun e w4=> ∃r5,e= .returned (.int .i64 r5)/\
 W1 w4/\aV dk c2 r5 1 fun a6=>
 ∃w7,af a6 0 [.int .i8 1] w4 w7/\
 aH (decide (Q< (0:Int)))
 (∃a8,O=some a8/\∃b4 b8 en,w7.cell? (a8.add 3)=some (.slice b4 b8 en)/\
   aV b4 b8 (i64.wrap (0 - Q)) 1 fun ei=>
   ∃bx,af ei 0 [.int .i8 (-1)] w7 bx/\
   ∃I:World->Prop,I bx.drew/\
   ∃c1,O=some c1/\∃U ay b3,e_ I (c1.add 4) (.slice U ay b3)/\
   Calls prog 143 #[.int .i64 Q] bx.drew fun e b7=> ∃cm,e= .returned (.int .i64 cm)/\
   I b7/\∃du,O=some du/\∃aT aa c0,e_ I (du.add 5) (.slice aT aa c0)/\
   Calls prog 143 #[.int .i64 Q] b7 fun e c7=> ∃cc,e= .returned (.int .i64 cc)/\
   I c7/\∃d4,O=some d4/\∃ce av b',e_ I (d4.add 7) (.slice ce av b')/\
   aV U ay cm 1 fun ej=>
   ∃c3,af ej 0 [.int .i64 (av:Int)] c7 c3/\
   aV aT aa cc 1 fun a25=>
   ∃bv,af a25 0 [.int .i64 a] c3 bv/\
   ∃eg,O=some eg/\∃a7 ag an,bv.cell? (eg.add 6)=some (.slice a7 ag an)/\
   ∀n29 cg,bc (.cells #[.int .i64 Q] 3) bv n29 cg->
   ∃eb az X Y,(Builtin.append_ #[28,28] 28 #[.slice a7 ag an,.slice (some (Addr.mk n29 0 none)) 1 1]).run prog cg= .ok (.slice az X Y) eb/\
   ∃dd,O=some dd/\∃b_,af (dd.add 6) 0 [.slice az X Y] eb b_/\
   K (.tuple #[]) b_)
 (∃J:World->Prop,J w7.drew/\
   ∃ec,O=some ec/\∃bb a' d8,e_ J (ec.add 4) (.slice bb a' d8)/\
   Calls prog 143 #[.int .i64 Q] w7.drew fun e dT=> ∃b5,e= .returned (.int .i64 b5)/\
   J dT/\∃dp,O=some dp/\∃bk V cb,e_ J (dp.add 5) (.slice bk V cb)/\
   Calls prog 143 #[.int .i64 Q] dT fun e d5=> ∃cp,e= .returned (.int .i64 cp)/\
   J d5/\∃cT,O=some cT/\∃ef ax dc,e_ J (cT.add 7) (.slice ef ax dc)/\
   aV bb a' b5 1 fun a46=>
   ∃dq,af a46 0 [.int .i64 (ax:Int)] d5 dq/\
   aV bk V cp 1 fun ek=>
   ∃bY,af ek 0 [.int .i64 a] dq bY/\
   ∃a50,O=some a50/\∃Z ac aw,bY.cell? (a50.add 6)=some (.slice Z ac aw)/\
   ∀b9 d9,bc (.cells #[.int .i64 Q] 3) bY b9 d9->
   ∃d' a_ ar ap,(Builtin.append_ #[28,28] 28 #[.slice Z ac aw,.slice (some (Addr.mk b9 0 none)) 1 1]).run prog d9= .ok (.slice a_ ar ap) d'/\
   ∃b6,O=some b6/\∃ed,af (b6.add 6) 0 [.slice a_ ar ap] d' ed/\
   K (.tuple #[]) ed)
theorem fE.ah {p_ l_ a w R} (h:fE.w p_ l_ a w fun v w'=>R (.returned v) w'):Calls prog 155 #[.pointer p_,.int .i64 l_,.int .i64 a] w R:=
 aj mixed Tryz.func155 (by kernel_rfl) rfl (ann:=(.aF .dm (.aF .ae (.aF .dm .ae)))) (F:=fE.w p_ l_ a w) (fun K=>by kernel_rfl) h
def fQ.w (V:Option Addr) (w:World) (K:Value->World->Prop):Prop:=
 Calls prog 182 #[.pointer V] w fun e w1=> ∃Q,e= .returned (.int .i64 Q)/\
 aH (Q==(0:Int))
 (K (.tuple #[.int .i64 0,.bool false]) w1)
 (∃a3,V=some a3/\∃I J O,w1.cell? (a3.add 0)=some (.slice I J O)/\
   aV I J 0 1 fun a5=>
   ∃U,w1.cell? a5=some (.int .i64 U)/\
   K (.tuple #[.int .i64 U,.bool true]) w1)
theorem fQ.ah {h_ w R} (h:fQ.w h_ w fun v w'=>R (.returned v) w'):Calls prog 156 #[.pointer h_] w R:=
 aj mixed Tryz.func156 (by kernel_rfl) rfl (ann:= .ae) (F:=fQ.w h_ w) (fun K=>by kernel_rfl) h
def cI.w (h_:Option Addr) (Z:Int) (v_:Int) (w:World) (K:Value->World->Prop):Prop:=
 ∃a1,h_=some a1/\∃O I X,w.cell? (a1.add 0)=some (.slice O I X)/\
 aV O I Z 1 fun a3=>
 ∃V,af a3 0 [.int .i64 v_] w V/\
 ∃a5,h_=some a5/\∃Q J U,V.cell? (a5.add 1)=some (.slice Q J U)/\
 aV Q J v_ 1 fun a7=>
 ∃Y,af a7 0 [.int .i64 (i64.wrap (Z+ (1:Int)))] V Y/\
 K (.tuple #[]) Y
theorem cI.ah {h_ i_ v_ w R} (h:cI.w h_ i_ v_ w fun v w'=>R (.returned v) w'):Calls prog 157 #[.pointer h_,.int .i64 i_,.int .i64 v_] w R:=
 aj mixed Tryz.func157 (by kernel_rfl) rfl (ann:= .ae) (F:=cI.w h_ i_ v_ w) (fun K=>by kernel_rfl) h
def fJ.w (J:Option Addr) (i_:Int) (w:World) (K:Value->World->Prop):Prop:=
 ∃a1,J=some a1/\∃b9 c7 ed,w.cell? (a1.add 0)=some (.slice b9 c7 ed)/\
 aV b9 c7 i_ 1 fun a3=>
 ∃x4,w.cell? a3=some (.int .i64 x4)/\
 ∃I5:Int->World->Nat->Prop,(∃k6,I5 i_ w k6)/\
 ∀I Q k6 (_:Fr),I5 I Q k6->
 ∃cb,J=some cb/\∃d9 ap bY,Q.cell? (cb.add 0)=some (.slice d9 ap bY)/\
  aH (decide ((i64.wrap ((i64.wrap ((2:Int)*I))+ (1:Int)))>=(ap:Int)))
  (Calls prog 157 #[.pointer J,.int .i64 I,.int .i64 x4] Q fun e ef=>e= .returned (.tuple #[])/\
    K (.tuple #[]) ef)
  (∃cT,J=some cT/\∃bv aw b5,Q.drew.cell? (cT.add 0)=some (.slice bv aw b5)/\
    aH (decide ((i64.wrap ((i64.wrap ((i64.wrap ((2:Int)*I))+ (1:Int)))+ (1:Int)))< (aw:Int)))
    (∃bx,J=some bx/\∃ax Y b7,Q.drew.cell? (bx.add 0)=some (.slice ax Y b7)/\
    aV ax Y (i64.wrap ((i64.wrap ((i64.wrap ((2:Int)*I))+ (1:Int)))+ (1:Int))) 1 fun ej=>
    ∃b',Q.drew.cell? ej=some (.int .i64 b')/\
    ∃dT,J=some dT/\∃an aa cm,Q.drew.cell? (dT.add 0)=some (.slice an aa cm)/\
    aV an aa (i64.wrap ((i64.wrap ((2:Int)*I))+ (1:Int))) 1 fun el=>
    ∃d5,Q.drew.cell? el=some (.int .i64 d5)/\
    Calls prog 183 #[.pointer J,.int .i64 b',.int .i64 d5] Q.drew fun e O=> ∃dq,e= .returned (.bool dq)/\
    aH dq
    (∃a25,J=some a25/\∃a_ a6 dk,O.cell? (a25.add 0)=some (.slice a_ a6 dk)/\
      aV a_ a6 (i64.wrap ((i64.wrap ((i64.wrap ((2:Int)*I))+ (1:Int)))+ (1:Int))) 1 fun es=>
      ∃d8,O.cell? es=some (.int .i64 d8)/\
      Calls prog 183 #[.pointer J,.int .i64 d8,.int .i64 x4] O fun e V=> ∃c2,e= .returned (.bool c2)/\
      aH (!c2)
      (Calls prog 157 #[.pointer J,.int .i64 I,.int .i64 x4] V fun e ep=>e= .returned (.tuple #[])/\
        K (.tuple #[]) ep)
      (∃du,J=some du/\∃Z ag dd,V.cell? (du.add 0)=some (.slice Z ag dd)/\
        aV Z ag (i64.wrap ((i64.wrap ((i64.wrap ((2:Int)*I))+ (1:Int)))+ (1:Int))) 1 fun ea=>
        ∃b3,V.cell? ea=some (.int .i64 b3)/\
        Calls prog 157 #[.pointer J,.int .i64 I,.int .i64 b3] V fun e eg=>e= .returned (.tuple #[])/\
        ∃k7,k7<k6/\I5 (i64.wrap ((i64.wrap ((i64.wrap ((2:Int)*I))+ (1:Int)))+ (1:Int))) eg k7))
    (∃c0,J=some c0/\∃ac ay d',O.cell? (c0.add 0)=some (.slice ac ay d')/\
      aV ac ay (i64.wrap ((i64.wrap ((2:Int)*I))+ (1:Int))) 1 fun a39=>
      ∃d4,O.cell? a39=some (.int .i64 d4)/\
      Calls prog 183 #[.pointer J,.int .i64 d4,.int .i64 x4] O fun e X=> ∃dp,e= .returned (.bool dp)/\
      aH (!dp)
      (Calls prog 157 #[.pointer J,.int .i64 I,.int .i64 x4] X fun e er=>e= .returned (.tuple #[])/\
        K (.tuple #[]) er)
      (∃cc,J=some cc/\∃bb av dc,X.cell? (cc.add 0)=some (.slice bb av dc)/\
        aV bb av (i64.wrap ((i64.wrap ((2:Int)*I))+ (1:Int))) 1 fun a46=>
        ∃ce,X.cell? a46=some (.int .i64 ce)/\
        Calls prog 157 #[.pointer J,.int .i64 I,.int .i64 ce] X fun e ec=>e= .returned (.tuple #[])/\
        ∃k7,k7<k6/\I5 (i64.wrap ((i64.wrap ((2:Int)*I))+ (1:Int))) ec k7)))
    (∃cg,J=some cg/\∃ar a8 b_,Q.drew.cell? (cg.add 0)=some (.slice ar a8 b_)/\
    aV ar a8 (i64.wrap ((i64.wrap ((2:Int)*I))+ (1:Int))) 1 fun eb=>
    ∃c1,Q.drew.cell? eb=some (.int .i64 c1)/\
    Calls prog 183 #[.pointer J,.int .i64 c1,.int .i64 x4] Q.drew fun e U=> ∃b4,e= .returned (.bool b4)/\
    aH (!b4)
    (Calls prog 157 #[.pointer J,.int .i64 I,.int .i64 x4] U fun e ei=>e= .returned (.tuple #[])/\
      K (.tuple #[]) ei)
    (∃b6,J=some b6/\∃a7 aT b8,U.cell? (b6.add 0)=some (.slice a7 aT b8)/\
      aV a7 aT (i64.wrap ((i64.wrap ((2:Int)*I))+ (1:Int))) 1 fun ek=>
      ∃cp,U.cell? ek=some (.int .i64 cp)/\
      Calls prog 157 #[.pointer J,.int .i64 I,.int .i64 cp] U fun e en=>e= .returned (.tuple #[])/\
      ∃k7,k7<k6/\I5 (i64.wrap ((i64.wrap ((2:Int)*I))+ (1:Int))) en k7)))
theorem fJ.ah {h_ i_ w R} (h:fJ.w h_ i_ w fun v w'=>R (.returned v) w'):Calls prog 158 #[.pointer h_,.int .i64 i_] w R:=
 aj mixed Tryz.func158 (by kernel_rfl) rfl (ann:=(.aF .ae (.aF (.bS (.loop [(1,3)] .ae)) .ae))) (F:=fJ.w h_ i_ w) (fun K=>by kernel_rfl) h
def bO.w (hM:Option Addr) (a:Option Addr) (b:Nat) (c:Nat) (w:World) (K:Value->World->Prop):Prop:=
 ∀n1 w2,bc (.cells #[.pointer hM] 100) w n1 w2->
 ∀n3 w4,bc (.map #[] 0) w2 n3 w4->
 ∀n5 w6,bc (.cells #[.map none] 194) w4 n5 w6->
 ∃w7,af (Addr.mk n5 0 none) 0 [.map (some n3)] w6 w7/\
 ∀n8 w9,bc (.map #[] 0) w7 n8 w9->
 ∀dp hk,bc (.cells #[.map none] 194) w9 dp hk->
 ∃gP,af (Addr.mk dp 0 none) 0 [.map (some n8)] hk gP/\
 ∀dT hE,bc (.cells #[.nilFunc] 115) gP dT hE->
 ∃f',af (Addr.mk dT 0 none) 0 [.func (.func 184) #[] #[.pointer (some (Addr.mk n5 0 none)),.pointer (some (Addr.mk dp 0 none)),.pointer (some (Addr.mk n1 0 none))]] hE f'/\
 ∃aw:FuncId,∃bk:Array Value,f'.cell? (Addr.mk dT 0 none)=some (.func (.func aw) #[] bk)/\
 aH (fM prog aw) (Calls prog aw (#[]++ #[.slice a b c]++bk) f' fun e hL=>e= .returned (.tuple #[])/\
 ∀X dk,bc (.cells #[.slice none 0 0] 172) hL X dk->
 ∃hx,dk.cell? (Addr.mk n1 0 none)=some (.pointer hx)/\
 ∃hw,hx=some hw/\∃g3,dk.cell? (hw.add 5)=some (.pointer g3)/\
 Calls prog 168 #[.pointer g3] dk fun e hK=> ∃e7 fu d8,e= .returned (.slice e7 fu d8)/\
 Calls prog 187 #[.slice e7 fu d8] hK fun e Y=> ∃ag:FuncId,∃a6:Array Value,e= .returned (.func (.func ag) #[] a6)/\
 fM prog ag=true/\True/\∃aT:List (Int × Int),∃eL:Int × Int->Prop,∃b':Nat->Prop,J_ prog ag a6 aT eL b' Y/\(∀k,b' k->k<Y.heap.size)/\∃ap:List (Int × Int)->World->Prop,ap [] Y/\Nb Y.heap.size ap/\
 (∀ (O:List (Int × Int)) (i32 aa:Int) (ar:World),O.length<aT.length->eL (i32,aa)->ap O ar->
   ∃hz,ar.cell? (Addr.mk n1 0 none)=some (.pointer hz)/\
    ∃gy,hz=some gy/\∃ho,ar.cell? (gy.add 5)=some (.pointer ho)/\
    Calls prog 188 #[.pointer ho,.int .i64 aa] ar fun e f1=> ∃dc,e= .returned (.int .i64 dc)/\
    ∃g6,f1.cell? (Addr.mk n1 0 none)=some (.pointer g6)/\
    ∃hd,g6=some hd/\∃g4,f1.cell? (hd.add 5)=some (.pointer g4)/\
    Calls prog 186 #[.pointer g4,.int .i64 aa] f1 fun e ga=> ∃gb,e= .returned (.int .i64 gb)/\
    ∃gd:Bool->World->Prop,(aH (decide (dc< (0:Int)))
    (∃hg:Option Nat,ga.cell? (Addr.mk dp 0 none)=some (.map hg)/\
    ∃g2 gv,(Instr.lookup 194 (.map hg) (.int .i64 gb) false).run prog ga= .ok (.bool gv) g2/\
    gd gv g2)
    (gd false ga))/\
    ∀fv gc (_:Fr),gd fv gc->
    ∃gf:World->Prop,(∃gm:World->Prop,gm gc.drew/\
    ∃g7:Option Nat,e_ gm (Addr.mk n5 0 none) (.map g7)/\
    Calls prog 185 #[.int .i64 aa] gc.drew fun e g9=> ∃gu,e= .returned (.int .i64 gu)/\
    gm g9/\∃bx gz,(Instr.lookup 194 (.map g7) (.int .i64 gu) false).run prog g9= .ok (.bool gz) bx/\
    aH (!gz)
    (aH (!fv)
    (KB Y.heap.size b' ar bx/\ap (O++ [(i32,aa)]) bx)
    (gf bx))
    (gf bx))/\
    ∀gW (_:Fr),gf gW->
    ∀ay g0,bc (.cells #[.int .i64 0,.int .i64 0,.slice none 0 0] 199) gW ay g0->
    ∃ax,af (Addr.mk ay 0 none) 0 [.int .i64 aa,.int .i64 gb,.slice none 0 0] g0 ax/\
    aH (decide (dc>=(0:Int)))
    (∃hh,ax.cell? (Addr.mk n1 0 none)=some (.pointer hh)/\
      ∃hy,hh=some hy/\∃g',ax.cell? (hy.add 5)=some (.pointer g')/\
      Calls prog 124 #[.pointer g',.int .i64 dc] ax fun e hH=> ∃e4 fj ej hI,e= .returned (.tuple #[.slice e4 fj ej,.bool hI])/\
      ∃du,af ((Addr.mk ay 0 none).add 2) 0 [.slice e4 fj ej] hH du/\
      ∃av:FuncId,∃cc:Array Value,du.cell? (Addr.mk dT 0 none)=some (.func (.func av) #[] cc)/\
      ∃fd fo ew,du.cell? ((Addr.mk ay 0 none).add 2)=some (.slice fd fo ew)/\
      aH (fM prog av) (Calls prog av (#[]++ #[.slice fd fo ew]++cc) du fun e f0=>e= .returned (.tuple #[])/\
      ∃eN e3 e1,f0.cell? (Addr.mk X 0 none)=some (.slice eN e3 e1)/\
      ∃gr gV fs d9 eb,aD f0 (Addr.mk ay 0 none) 0 [.int .i64 gr,.int .i64 gV,.slice fs d9 eb]/\
      ∀hj gS,bc (.cells #[.int .i64 gr,.int .i64 gV,.slice fs d9 eb] 199) f0 hj gS->
      ∃hc fb e2 fk,(Builtin.append_ #[172,172] 172 #[.slice eN e3 e1,.slice (some (Addr.mk hj 0 none)) 1 1]).run prog gS= .ok (.slice fb e2 fk) hc/\
      ∃fP,af (Addr.mk X 0 none) 0 [.slice fb e2 fk] hc fP/\
      KB Y.heap.size b' ar fP/\ap (O++ [(i32,aa)]) fP) False)
    (∃ei ep ef,ax.cell? (Addr.mk X 0 none)=some (.slice ei ep ef)/\
      ∃gT gw fq ek e6,aD ax (Addr.mk ay 0 none) 0 [.int .i64 gT,.int .i64 gw,.slice fq ek e6]/\
      ∀gs hA,bc (.cells #[.int .i64 gT,.int .i64 gw,.slice fq ek e6] 199) ax gs hA->
      ∃gA eR ea fA,(Builtin.append_ #[172,172] 172 #[.slice ei ep ef,.slice (some (Addr.mk gs 0 none)) 1 1]).run prog hA= .ok (.slice eR ea fA) gA/\
      ∃fL,af (Addr.mk X 0 none) 0 [.slice eR ea fA] gA fL/\
      KB Y.heap.size b' ar fL/\ap (O++ [(i32,aa)]) fL))/\
 ∀ (dq:Nat) (d4:World),Y.heap.size<=dq->d4.heap[dq]? =some (.deferred (some []))->ap aT d4->
   ∃er e5 ey,d4.cell? (Addr.mk X 0 none)=some (.slice er e5 ey)/\
    Calls prog 189 #[.slice er e5 ey] d4 fun e g1=>e= .returned (.tuple #[])/\
    ∃e' a8 g8,g1.cell? (Addr.mk X 0 none)=some (.slice e' a8 g8)/\
    ∃gn:Option Addr->Nat->Nat->Int->World->Nat->Prop,(∃dd,gn none 0 0 0 g1 dd)/\
    ∀Q I U bY V dd (_:Fr),gn Q I U bY V dd->
    aH (decide (bY< (a8:Int)))
     (aV e' a8 bY 3 fun gJ=>
       ∃es eu c2 c0 cT,aD V gJ 0 [.int .i64 es,.int .i64 eu,.slice c2 c0 cT]/\
       ∀n105 en,bc (.cells #[.int .i64 0,.int .i64 0,.slice none 0 0] 199) V n105 en->
       ∃Z,af (Addr.mk n105 0 none) 0 [.int .i64 es,.int .i64 eu,.slice c2 c0 cT] en Z/\
       ∃ac:Option Addr->Nat->Nat->World->Prop,(∃a_:Bool->World->Prop,(aH ((I:Int)==(0:Int))
       (a_ true Z.drew)
       (aV Q I (i64.wrap ((I:Int) - (1:Int))) 1 fun g5=>
       ∃eH,Z.drew.cell? g5=some (.int .i64 eH)/\
       ∃et,Z.drew.cell? ((Addr.mk n105 0 none).add 1)=some (.int .i64 et)/\
       a_ (eH !=et) Z.drew))/\
       ∀e9 J (_:Fr),a_ e9 J->
       aH e9
       (aH ((I:Int)==(0:Int))
         (∃eT,J.cell? ((Addr.mk n105 0 none).add 1)=some (.int .i64 eT)/\
         aH (decide (eT> (0:Int)))
         (∀n116 d',bc (.cells #[.int .i64 0] 3) J n116 d'->
           ∃ce c3 c7 cp,(Builtin.append_ #[28,28] 28 #[.slice Q I U,.slice (some (Addr.mk n116 0 none)) 1 1]).run prog d'= .ok (.slice c3 c7 cp) ce/\
           ∃e8,ce.cell? ((Addr.mk n105 0 none).add 1)=some (.int .i64 e8)/\
           ∀n121 ez,bc (.cells #[.int .i64 e8] 3) ce n121 ez->
           ∃el a' cm b3,(Builtin.append_ #[28,28] 28 #[.slice c3 c7 cp,.slice (some (Addr.mk n121 0 none)) 1 1]).run prog ez= .ok (.slice a' cm b3) el/\
           ac a' cm b3 el)
         (∃eg,J.cell? ((Addr.mk n105 0 none).add 1)=some (.int .i64 eg)/\
           ∀n126 fl,bc (.cells #[.int .i64 eg] 3) J n126 fl->
           ∃fi cb b8 az,(Builtin.append_ #[28,28] 28 #[.slice Q I U,.slice (some (Addr.mk n126 0 none)) 1 1]).run prog fl= .ok (.slice cb b8 az) fi/\
           ac cb b8 az fi))
         (∃ec,J.cell? ((Addr.mk n105 0 none).add 1)=some (.int .i64 ec)/\
         ∀n131 d5,bc (.cells #[.int .i64 ec] 3) J n131 d5->
         ∃fa b5 b9 bb,(Builtin.append_ #[28,28] 28 #[.slice Q I U,.slice (some (Addr.mk n131 0 none)) 1 1]).run prog d5= .ok (.slice b5 b9 bb) fa/\
         ac b5 b9 bb fa))
       (ac Q I U J))/\
       ∀b4 an b6 a7 (_:Fr),ac b4 an b6 a7->
       ∃b_ b7 gl,a7.cell? (Addr.mk X 0 none)=some (.slice b_ b7 gl)/\
       aV b_ b7 bY 3 fun a138=>
       ∃ed,af (a138.add 1) 0 [.int .i64 (i64.wrap ((an:Int) - (1:Int)))] a7 ed/\
       ∃hB,hB<dd/\gn b4 an b6 (i64.wrap (bY+ (1:Int))) ed hB)
     (∃c1 bv cg,V.cell? (Addr.mk X 0 none)=some (.slice c1 bv cg)/\
       V.heap[dq]? =some (.deferred (some []))/\∀eA,Go.Fw.aE (·=dq) V eA->K (.tuple #[.slice c1 bv cg,.slice Q I U]) eA)) False
theorem bO.eq (Q:Option Addr) (I:Option Addr) (J:Nat) (O:Nat) (w:World) (K:Value->World->Prop):HI prog Tryz.f159 .ae (.bS (.aF .ae (.aF .ae (.cut [(15,4)] .ae (.cut [] (.aF .dm .ae) .ae))))) (.aF .ae (.aF .ae (.aF (.aF .ae (.bS (.loop [(17,28),(90,3)] (.aF .ae (.aF .ae (.aF (.bS (.aF .ae (.cut [(17,28)] (.cut [(108,4)] .ae .ae) .ae))) .ae)))))) .ae))) [.pointer Q,.slice I J O] w K=bO.w Q I J O w K:=by kernel_rfl
theorem bO.ok:Cb prog Tryz.f159 2=true:=by kernel_rfl
theorem bO.ah {Q:Option Addr} {J:Option Addr} {I:Nat} {O:Nat} {w:World} {R:Ending->World->Prop} (h:bO.w Q J I O w fun v w'=>R (.returned v) w'):Calls prog 159 #[.pointer Q,.slice J I O] w R:=
 DK mixed Tryz.func159 bO.ok rfl (fun K=>bO.eq Q J I O w K) h
def iS.w (a:Option Addr) (b:Nat) (c:Nat) (d:Option Addr) (f:Nat) (g:Nat) (w:World) (K:Value->World->Prop):Prop:=
 Calls prog 190 #[.slice a b c,.slice d f g] w fun e w1=> ∃r2,e= .returned (.int .i64 r2)/\
 aH (r2 !=(0:Int))
 (K (.tuple #[.slice none 0 0,.int .i64 r2]) w1)
 (Calls prog 191 #[.slice a b c] w1 fun e w3=> ∃r4:Option Nat,e= .returned (.map r4)/\
   ∀n5 w6,bc (.map #[] 0) w3 n5 w6->
   ∀U w8,bc (.cells #[.slice a b c,.map r4,.map (some n5)] 205) w6 U w8->
   Calls prog 192 #[.pointer (some (Addr.mk U 0 none)),.slice d f g,.int .i64 0] w8 fun e w9=>e= .returned (.tuple #[])/\
   Calls prog 193 #[.pointer (some (Addr.mk U 0 none))] w9 fun e dd=> ∃b8 b' b5,e= .returned (.tuple #[.int .i64 b8,.int .i64 b',.int .i64 b5])/\
   ∃ac:Int->Int->World->Nat->Prop,(∃J,ac b' b5 dd J)/\
   ∀Q X I J (_:Fr),ac Q X I J->
   aH (decide (Q> (1:Int)))
    (aV a b X 3 fun c7=>
    ∃b9 cp a_ ap a7,aD I c7 0 [.int .i64 b9,.int .i64 cp,.slice a_ ap a7]/\
    ∀n24 b_,bc (.cells #[.int .i64 0,.int .i64 0,.slice none 0 0] 199) I n24 b_->
    ∃ag,af (Addr.mk n24 0 none) 0 [.int .i64 b9,.int .i64 cp,.slice a_ ap a7] b_ ag/\
    ∃c1,(some (Addr.mk U 0 none))=some c1/\∃cT:Option Nat,ag.drew.cell? (c1.add 2)=some (.map cT)/\
    ∃b3,ag.drew.cell? ((Addr.mk n24 0 none).add 0)=some (.int .i64 b3)/\
    ∃Z,(Builtin.delete_ #[194,3] 0 #[.map cT,.int .i64 (i64.wrap (0 - b3))]).run prog ag.drew= .ok (.tuple #[]) Z/\
    ∃bb a8 ax,Z.cell? ((Addr.mk n24 0 none).add 2)=some (.slice bb a8 ax)/\
    ∃c2,Z.cell? ((Addr.mk n24 0 none).add 0)=some (.int .i64 c2)/\
    Calls prog 192 #[.pointer (some (Addr.mk U 0 none)),.slice bb a8 ax,.int .i64 c2] Z fun e dT=>e= .returned (.tuple #[])/\
    Calls prog 193 #[.pointer (some (Addr.mk U 0 none))] dT fun e c3=> ∃d8 b7 b6,e= .returned (.tuple #[.int .i64 d8,.int .i64 b7,.int .i64 b6])/\
    ∃O,O<J/\ac b7 b6 c3 O)
    (aH (Q==(1:Int))
    (aH (b8==(0:Int))
    (aV a b X 3 fun dc=>
      ∃cb cm bv an aw,aD I dc 0 [.int .i64 cb,.int .i64 cm,.slice bv an aw]/\
      ∀V c0,bc (.cells #[.int .i64 0,.int .i64 0,.slice none 0 0] 199) I V c0->
      ∃Y,af (Addr.mk V 0 none) 0 [.int .i64 cb,.int .i64 cm,.slice bv an aw] c0 Y/\
      ∃a45,(some (Addr.mk U 0 none))=some a45/\∃cg:Option Nat,Y.drew.cell? (a45.add 2)=some (.map cg)/\
      ∃b4,Y.drew.cell? ((Addr.mk V 0 none).add 0)=some (.int .i64 b4)/\
      ∃aa,(Builtin.delete_ #[194,3] 0 #[.map cg,.int .i64 (i64.wrap (0 - b4))]).run prog Y.drew= .ok (.tuple #[]) aa/\
      ∃ay bx az,aa.cell? ((Addr.mk V 0 none).add 2)=some (.slice ay bx az)/\
      ∃cc,aa.cell? ((Addr.mk V 0 none).add 0)=some (.int .i64 cc)/\
      Calls prog 192 #[.pointer (some (Addr.mk U 0 none)),.slice ay bx az,.int .i64 cc] aa fun e du=>e= .returned (.tuple #[])/\
      Calls prog 193 #[.pointer (some (Addr.mk U 0 none))] du fun e dq=> ∃d5 bY ce,e= .returned (.tuple #[.int .i64 d5,.int .i64 bY,.int .i64 ce])/\
      ∃O,O<J/\ac bY ce dq O)
    (Calls prog 194 #[.pointer (some (Addr.mk U 0 none))] I fun e dk=> ∃av bk aT,e= .returned (.slice av bk aT)/\
      K (.tuple #[.slice av bk aT,.int .i64 0]) dk))
    (Calls prog 194 #[.pointer (some (Addr.mk U 0 none))] I fun e d4=> ∃a6 ar a',e= .returned (.slice a6 ar a')/\
    K (.tuple #[.slice a6 ar a',.int .i64 0]) d4)))
theorem iS.ah {a b c d f g w R} (h:iS.w a b c d f g w fun v w'=>R (.returned v) w'):Calls prog 160 #[.slice a b c,.slice d f g] w R:=
 aj mixed Tryz.func160 (by kernel_rfl) rfl (ann:=(.aF .ae (.aF .ae (.aF .ae (.aF .ae (.aF .ae (.aF (.bS (.loop [(9,3),(10,3)] .ae)) .ae))))))) (F:=iS.w a b c d f g w) (fun K=>by kernel_rfl) h
def cx.w (az:Option Addr) (w:World) (K:Value->World->Prop):Prop:=
 ∃a1,az=some a1/\∃x2,w.cell? (a1.add 5)=some (.pointer x2)/\
 Calls prog 168 #[.pointer x2] w fun e w3=> ∃av Z a7,e= .returned (.slice av Z a7)/\
 ∃I5:Option Addr->Nat->Nat->Int->World->Nat->Prop,(∃k6,I5 none 0 0 0 w3 k6)/\
 ∀O I Q v9 J k6 (_:Fr),I5 O I Q v9 J k6->
 aH (decide (v9< (Z:Int)))
  (aV av Z v9 1 fun a6=>
    ∃Y,J.cell? a6=some (.int .i64 Y)/\
    ∃aw,az=some aw/\∃ar,J.cell? (aw.add 5)=some (.pointer ar)/\
    Calls prog 188 #[.pointer ar,.int .i64 Y] J fun e ac=> ∃ap,e= .returned (.int .i64 ap)/\
    aH (decide (ap< (0:Int)))
    (∀ag ay,bc (.cells #[.int .i64 (i64.wrap (0 - Y))] 3) ac ag ay->
      ∃aa X V U,(Builtin.append_ #[28,28] 28 #[.slice (some (Addr.mk ag 0 none)) 1 1,.slice O I Q]).run prog ay= .ok (.slice X V U) aa/\
      ∃k7,k7<k6/\I5 X V U (i64.wrap (v9+ (1:Int))) aa k7)
    (∃k7,k7<k6/\I5 O I Q (i64.wrap (v9+ (1:Int))) ac k7))
  (K (.tuple #[.slice O I Q,.int .i64 (i64.wrap ((I:Int) - (1:Int))),.int .i64 (I:Int)]) J)
theorem cx.ah {x0_ w R} (h:cx.w x0_ w fun v w'=>R (.returned v) w'):Calls prog 161 #[.pointer x0_] w R:=
 aj mixed Tryz.func161 (by kernel_rfl) rfl (ann:=(.aF .ae (.aF .ae (.aF (.aF .ae (.bS (.loop [(5,28),(14,3)] .ae))) .ae)))) (F:=cx.w x0_ w) (fun K=>by kernel_rfl) h
def gi.w (a:Option Addr) (b:Nat) (c:Nat) (d:Option Addr) (f:Nat) (g:Nat) (w:World) (K:Value->World->Prop):Prop:=
 Calls prog 195 #[.slice a b c] w fun e w1=> ∃r2,e= .returned (.bool r2)/\
 aH (!r2)
 (Calls prog 70 #[.slice d f g] w1 fun e w3=> ∃bx b7 bb,e= .returned (.slice bx b7 bb)/\
 K (.slice bx b7 bb) w3)
 (Calls prog 196 #[.slice a b c,.slice d f g] w1 fun e w5=> ∃r6,e= .returned (.bool r6)/\
 aH (!r6)
 (Calls prog 70 #[.slice d f g] w5 fun e w7=> ∃a_ aT bY,e= .returned (.slice a_ aT bY)/\
   K (.slice a_ aT bY) w7)
 (Calls prog 191 #[.slice a b c] w5 fun e w9=> ∃ax:Option Nat,e= .returned (.map ax)/\
   ∀b4 b5,bc (.map #[] 0) w9 b4 b5->
   ∀Z b6,bc (.cells #[.slice a b c,.map ax,.map (some b4)] 205) b5 Z b6->
   Calls prog 192 #[.pointer (some (Addr.mk Z 0 none)),.slice d f g,.int .i64 0] b6 fun e b8=>e= .returned (.tuple #[])/\
   ∀a8 b3,bc (.map #[] 0) b8 a8 b3->
   ∃V:Option Addr->Nat->Nat->Int->World->Nat->Prop,(∃U,V none 0 0 0 b3 U)/\
   ∀Q O J v22 Y U (_:Fr),V Q O J v22 Y U->
   aH (decide (v22< (f:Int)))
    (aV d f v22 1 fun b9=>
      ∃X,Y.cell? b9=some (.int .i64 X)/\
      aH (v22==(0:Int))
      (∀n26 bv,bc (.cells #[.int .i64 X] 3) Y n26 bv->
      ∃a6 ar ap aa,(Builtin.append_ #[28,28] 28 #[.slice Q O J,.slice (some (Addr.mk n26 0 none)) 1 1]).run prog bv= .ok (.slice ar ap aa) a6/\
      ∃I,I<U/\V ar ap aa (i64.wrap (v22+ (1:Int))) a6 I)
      (Calls prog 197 #[.pointer (some (Addr.mk Z 0 none)),.int .i64 X] Y fun e a7=> ∃a',e= .returned (.int .i64 a')/\
      aH (decide (a'> (0:Int)))
      (Calls prog 198 #[.pointer (some (Addr.mk Z 0 none)),.int .i64 X,.map (some a8)] a7 fun e av=> ∃bk,e= .returned (.bool bk)/\
      aH (!bk)
      (∀az ay,bc (.cells #[.int .i64 X] 3) av az ay->
        ∃aw ac an ag,(Builtin.append_ #[28,28] 28 #[.slice Q O J,.slice (some (Addr.mk az 0 none)) 1 1]).run prog ay= .ok (.slice ac an ag) aw/\
        ∃I,I<U/\V ac an ag (i64.wrap (v22+ (1:Int))) aw I)
      (∃I,I<U/\V Q O J (i64.wrap (v22+ (1:Int))) av I))
      (∃I,I<U/\V Q O J (i64.wrap (v22+ (1:Int))) a7 I)))
    (K (.slice Q O J) Y)))
theorem gi.ah {a b c d f g w R} (h:gi.w a b c d f g w fun v w'=>R (.returned v) w'):Calls prog 162 #[.slice a b c,.slice d f g] w R:=
 aj mixed Tryz.func162 (by kernel_rfl) rfl (ann:=(.aF .ae (.aF .ae (.aF .ae (.aF .ae (.aF .ae (.aF .ae (.aF (.aF .ae (.bS (.loop [(7,28),(33,3)] .ae))) .ae)))))))) (F:=gi.w a b c d f g w) (fun K=>by kernel_rfl) h
def ju.w (a:Option Addr) (b:Nat) (c:Nat) (d:Option Addr) (f:Nat) (g:Nat) (w:World) (K:Value->World->Prop):Prop:=
 Calls prog 195 #[.slice a b c] w fun e w1=> ∃r2,e= .returned (.bool r2)/\
 aH (!r2)
 (K (.int .i64 (-1)) w1)
 (aH ((f:Int)==(0:Int))
 (K (.int .i64 (-1)) w1)
 (Calls prog 196 #[.slice a b c,.slice d f g] w1 fun e w3=> ∃r4,e= .returned (.bool r4)/\
 aH (!r4)
 (K (.int .i64 (-1)) w3)
 (Calls prog 191 #[.slice a b c] w3 fun e w5=> ∃r6:Option Nat,e= .returned (.map r6)/\
   pP d f g 1 (some 1) none none fun an Y az=>
   ∃I8:Int->Int->World->Nat->Prop,(∃k9,I8 0 0 w5 k9)/\
   ∀I O J k9 (_:Fr),I8 I O J k9->
   aH (decide (O< (Y:Int)))
    (aV an Y O 1 fun av=>
      ∃aa,J.cell? av=some (.int .i64 aa)/\
      Calls prog 199 #[.int .i64 aa] J fun e ag=> ∃X,e= .returned (.int .i64 X)/\
      ∃Q Z,(Instr.lookup 133 (.map r6) (.int .i64 X) false).run prog ag= .ok (.int .i64 Z) Q/\
      aV a b (i64.wrap (Z - (1:Int))) 3 fun ap=>
      ∃V,Q.cell? (ap.add 1)=some (.int .i64 V)/\
      ∃U,U<k9/\I8 (imax I V) (i64.wrap (O+ (1:Int))) Q U)
    (K (.int .i64 I) J))))
theorem ju.ah {a b c d f g w R} (h:ju.w a b c d f g w fun v w'=>R (.returned v) w'):Calls prog 163 #[.slice a b c,.slice d f g] w R:=
 aj mixed Tryz.func163 (by kernel_rfl) rfl (ann:=(.aF .ae (.aF .ae (.aF .ae (.aF .ae (.aF (.aF .ae (.bS (.loop [(6,3),(28,3)] .ae))) .ae)))))) (F:=ju.w a b c d f g w) (fun K=>by kernel_rfl) h
def gL.w (a:Option Addr) (b:Nat) (c:Nat) (d:Option Addr) (f:Nat) (g:Nat) (w:World) (K:Value->World->Prop):Prop:=
 Calls prog 195 #[.slice a b c] w fun e w1=> ∃r2,e= .returned (.bool r2)/\
 aH (!r2)
 (K (.int .i64 0) w1)
 (Calls prog 191 #[.slice a b c] w1 fun e w3=> ∃r4:Option Nat,e= .returned (.map r4)/\
   ∀n5 w6,bc (.map #[] 0) w3 n5 w6->
   ∃I7:Int->World->Nat->Prop,(∃Y,I7 0 w6 Y)/\
   ∀J I Y (_:Fr),I7 J I Y->
   aH (decide (J< (f:Int)))
    (aV d f J 1 fun ap=>
      ∃Z,I.cell? ap=some (.int .i64 Z)/\
      Calls prog 199 #[.int .i64 Z] I fun e ar=> ∃V,e= .returned (.int .i64 V)/\
      ∃O Q,(Instr.lookup 133 (.map r4) (.int .i64 V) false).run prog ar= .ok (.int .i64 Q) O/\
      aH (decide (Q> (0:Int)))
      (aV a b (i64.wrap (Q - (1:Int))) 3 fun ag=>
        ∃aa,O.cell? (ag.add 1)=some (.int .i64 aa)/\
        ∃U,(Instr.mapUpdate 194 (.map (some n5)) (.int .i64 aa) (.bool true)).run prog O= .ok () U/\
        ∃X,X<Y/\I7 (i64.wrap (J+ (1:Int))) U X)
      (∃X,X<Y/\I7 (i64.wrap (J+ (1:Int))) O X))
    (∃n21,(Builtin.len_ #[194] 3 #[.map (some n5)]).run prog I= .ok (.int .i64 n21) I/\
      K (.int .i64 n21) I))
theorem gL.ah {a b c d f g w R} (h:gL.w a b c d f g w fun v w'=>R (.returned v) w'):Calls prog 164 #[.slice a b c,.slice d f g] w R:=
 aj mixed Tryz.func164 (by kernel_rfl) rfl (ann:=(.aF .ae (.aF .ae (.aF .ae (.aF .ae (.aF (.aF .ae (.bS (.loop [(18,3)] .ae))) .ae)))))) (F:=gL.w a b c d f g w) (fun K=>by kernel_rfl) h
def gZ.w (U:Option Addr) (Q:Int) (w:World) (K:Value->World->Prop):Prop:=
 aH (!U.isNone)
 (aH (decide (Q>=(1:Int)))
 (∃a1,U=some a1/\∃O I J,w.cell? (a1.add 1)=some (.slice O I J)/\
 K (.bool (decide (Q< (I:Int)))) w)
 (K (.bool false) w))
 (K (.bool false) w)
theorem gZ.ah {h_ v_ w R} (h:gZ.w h_ v_ w fun v w'=>R (.returned v) w'):Calls prog 165 #[.pointer h_,.int .i64 v_] w R:=
 aj mixed Tryz.func165 (by kernel_rfl) rfl (ann:= .ae) (F:=gZ.w h_ v_ w) (fun K=>by kernel_rfl) h
def hZ.w (X:Option Addr) (i_:Int) (w:World) (K:Value->World->Prop):Prop:=
 ∃a1,X=some a1/\∃aw ac a_,w.cell? (a1.add 0)=some (.slice aw ac a_)/\
 aV aw ac i_ 1 fun a3=>
 ∃x4,w.cell? a3=some (.int .i64 x4)/\
 ∃I5:Int->World->Nat->Prop,(∃k6,I5 i_ w k6)/\
 ∀I w9 k6 (_:Fr),I5 I w9 k6->
 aH (decide (I> (0:Int)))
  ((2:Int)≠0/\∃Y,X=some Y/\∃V U aa,w9.cell? (Y.add 0)=some (.slice V U aa)/\
    aV V U (i64.wrap ((i64.wrap (I - (1:Int))).tdiv (2:Int))) 1 fun a6=>
    ∃ar,w9.cell? a6=some (.int .i64 ar)/\
    Calls prog 183 #[.pointer X,.int .i64 x4,.int .i64 ar] w9 fun e J=> ∃ag,e= .returned (.bool ag)/\
    aH (!ag)
    (Calls prog 157 #[.pointer X,.int .i64 I,.int .i64 x4] J fun e a7=>e= .returned (.tuple #[])/\
      K (.tuple #[]) a7)
    (∃av,X=some av/\∃Q O Z,J.cell? (av.add 0)=some (.slice Q O Z)/\
      aV Q O (i64.wrap ((i64.wrap (I - (1:Int))).tdiv (2:Int))) 1 fun a8=>
      ∃ap,J.cell? a8=some (.int .i64 ap)/\
      Calls prog 157 #[.pointer X,.int .i64 I,.int .i64 ap] J fun e az=>e= .returned (.tuple #[])/\
      ∃k7,k7<k6/\I5 (i64.wrap ((i64.wrap (I - (1:Int))).tdiv (2:Int))) az k7))
  (Calls prog 157 #[.pointer X,.int .i64 I,.int .i64 x4] w9 fun e a'=>e= .returned (.tuple #[])/\
    K (.tuple #[]) a')
theorem hZ.ah {h_ i_ w R} (h:hZ.w h_ i_ w fun v w'=>R (.returned v) w'):Calls prog 166 #[.pointer h_,.int .i64 i_] w R:=
 aj mixed Tryz.func166 (by kernel_rfl) rfl (ann:=(.aF .ae (.aF (.bS (.loop [(1,3)] .ae)) .ae))) (F:=hZ.w h_ i_ w) (fun K=>by kernel_rfl) h
def dG.w (I:Option Addr) (v_:Int) (w:World) (K:Value->World->Prop):Prop:=
 ∃a1,I=some a1/\∃x2,w.cell? (a1.add 3)=some (.int .i64 x2)/\
 aH (decide (x2<=(1099511627776:Int)))
 (∃a3,I=some a3/\∃bx c2 d4,w.cell? (a3.add 2)=some (.slice bx c2 d4)/\
 aV bx c2 v_ 1 fun a5=>
 ∃x6,w.cell? a5=some (.int .i64 x6)/\
 aH (decide (x6<=(1099511627776:Int)))
 (K (.tuple #[]) w)
 (∃a7,I=some a7/\∃du b_ d9,w.cell? (a7.add 2)=some (.slice du b_ d9)/\
   ∃I9:Int->World->Nat->Prop,(∃ag,I9 0 w ag)/\
   ∀Y Q ag (_:Fr),I9 Y Q ag->
   aH (decide (Y< (b_:Int)))
    (∃dc,I=some dc/\∃Z X bv,Q.cell? (dc.add 2)=some (.slice Z X bv)/\
      aV Z X Y 1 fun dq=>
      ∃b5,Q.cell? dq=some (.int .i64 b5)/\
      0<=(20:Int)/\aV Z X Y 1 fun d5=>
      ∃cb,af d5 0 [.int .i64 (b5.fdiv (2 ^ (min (20:Int).toNat (IntKind.bits .i64))))] Q cb/\
      ∃cT,cT<ag/\I9 (i64.wrap (Y+ (1:Int))) cb cT)
    (∃b3,I=some b3/\∃cc,Q.cell? (b3.add 3)=some (.int .i64 cc)/\
      0<=(20:Int)/\∃a22,I=some a22/\∃a6,af (a22.add 3) 0 [.int .i64 (imax 1 (cc.fdiv (2 ^ (min (20:Int).toNat (IntKind.bits .i64)))))] Q a6/\
      ∃ce,I=some ce/\∃cm av b9,a6.cell? (ce.add 0)=some (.slice cm av b9)/\
      ∃a_:Int->World->Nat->Prop,(∃an,a_ (i64.wrap ((av:Int) - (1:Int))) a6 an)/\
      ∀J az an (_:Fr),a_ J az an->
      aH (decide (J>=(0:Int)))
       (Calls prog 158 #[.pointer I,.int .i64 J] az fun e d8=>e= .returned (.tuple #[])/\
         ∃cp,cp<an/\a_ (i64.wrap (J - (1:Int))) d8 cp)
       (K (.tuple #[]) az))))
 (∃c0,I=some c0/\∃bb aw cg,w.cell? (c0.add 2)=some (.slice bb aw cg)/\
 ∃ay:Int->World->Nat->Prop,(∃ar,ay 0 w ar)/\
 ∀ac U ar (_:Fr),ay ac U ar->
 aH (decide (ac< (aw:Int)))
  (∃a39,I=some a39/\∃V aa bY,U.cell? (a39.add 2)=some (.slice V aa bY)/\
    aV V aa ac 1 fun dk=>
    ∃b6,U.cell? dk=some (.int .i64 b6)/\
    0<=(20:Int)/\aV V aa ac 1 fun dT=>
    ∃bk,af dT 0 [.int .i64 (b6.fdiv (2 ^ (min (20:Int).toNat (IntKind.bits .i64))))] U bk/\
    ∃b7,b7<ar/\ay (i64.wrap (ac+ (1:Int))) bk b7)
  (∃a45,I=some a45/\∃c3,U.cell? (a45.add 3)=some (.int .i64 c3)/\
    0<=(20:Int)/\∃c7,I=some c7/\∃aT,af (c7.add 3) 0 [.int .i64 (imax 1 (c3.fdiv (2 ^ (min (20:Int).toNat (IntKind.bits .i64)))))] U aT/\
    ∃b8,I=some b8/\∃b' ax b4,aT.cell? (b8.add 0)=some (.slice b' ax b4)/\
    ∃a8:Int->World->Nat->Prop,(∃ap,a8 (i64.wrap ((ax:Int) - (1:Int))) aT ap)/\
    ∀O a' ap (_:Fr),a8 O a' ap->
    aH (decide (O>=(0:Int)))
     (Calls prog 158 #[.pointer I,.int .i64 O] a' fun e dp=>e= .returned (.tuple #[])/\
       ∃c1,c1<ap/\a8 (i64.wrap (O - (1:Int))) dp c1)
     (K (.tuple #[]) a')))
theorem dG.ah {h_ v_ w R} (h:dG.w h_ v_ w fun v w'=>R (.returned v) w'):Calls prog 167 #[.pointer h_,.int .i64 v_] w R:=
 aj mixed Tryz.func167 (by kernel_rfl) rfl (ann:=(.aF .ae (.aF (.aF .ae (.bS (.loop [(26,3)] .ae))) (.aF .ae (.aF .ae (.bS (.loop [(5,3)] .ae))))))) (F:=dG.w h_ v_ w) (fun K=>by kernel_rfl) h
def dI.w (X:Option Addr) (w:World) (K:Value->World->Prop):Prop:=
 aH X.isNone
 (K (.slice none 0 0) w)
 (∃a1,X=some a1/\∃V U I,w.cell? (a1.add 6)=some (.slice V U I)/\
   Calls prog 70 #[.slice V U I] w fun e w3=> ∃Q J O,e= .returned (.slice Q J O)/\
   K (.slice Q J O) w3)
theorem dI.ah {p_ w R} (h:dI.w p_ w fun v w'=>R (.returned v) w'):Calls prog 168 #[.pointer p_] w R:=
 aj mixed Tryz.func168 (by kernel_rfl) rfl (ann:= .ae) (F:=dI.w p_ w) (fun K=>by kernel_rfl) h
def eo.w (X:Option Addr) (v_:Int) (w:World) (K:Value->World->Prop):Prop:=
 Calls prog 165 #[.pointer X,.int .i64 v_] w fun e w1=> ∃r2,e= .returned (.bool r2)/\
 aH (!r2)
 (K (.int .i64 1) w1)
 (∃a3,X=some a3/\∃ap a6 bY,w1.cell? (a3.add 1)=some (.slice ap a6 bY)/\
   aV ap a6 v_ 1 fun a5=>
   ∃x6,w1.cell? a5=some (.int .i64 x6)/\
   aH (x6==(0:Int))
   (∃a7,X=some a7/\∃a_ a' bb,w1.cell? (a7.add 0)=some (.slice a_ a' bb)/\
     ∀n9 az,bc (.cells #[.int .i64 v_] 3) w1 n9 az->
     ∃ax V Y O,(Builtin.append_ #[28,28] 28 #[.slice a_ a' bb,.slice (some (Addr.mk n9 0 none)) 1 1]).run prog az= .ok (.slice V Y O) ax/\
     ∃a8,X=some a8/\∃I,af (a8.add 0) 0 [.slice V Y O] ax I/\
     ∃ac,X=some ac/\∃U J ag,I.drew.cell? (ac.add 1)=some (.slice U J ag)/\
     ∃ar,X=some ar/\∃av Q aT,I.drew.cell? (ar.add 0)=some (.slice av Q aT)/\
     aV U J v_ 1 fun bv=>
     ∃aa,af bv 0 [.int .i64 (Q:Int)] I.drew aa/\
     ∃ay,X=some ay/\∃aw Z an,aa.cell? (ay.add 0)=some (.slice aw Z an)/\
     Calls prog 166 #[.pointer X,.int .i64 (i64.wrap ((Z:Int) - (1:Int)))] aa fun e bx=>e= .returned (.tuple #[])/\
     K (.int .i64 0) bx)
   (K (.int .i64 0) w1))
theorem eo.ah {h_ v_ w R} (h:eo.w h_ v_ w fun v w'=>R (.returned v) w'):Calls prog 169 #[.pointer h_,.int .i64 v_] w R:=
 aj mixed Tryz.func169 (by kernel_rfl) rfl (ann:= .ae) (F:=eo.w h_ v_ w) (fun K=>by kernel_rfl) h
def iB.w (a6:Int) (a7:Int) (aT:Int) (w:World) (K:Value->World->Prop):Prop:=
 ∀I w2,bc (.cells #[.int .i64 a6,.int .i64 a7,.int .i64 aT] 104) w I w2->
 ∃x3,w2.drew.cell? ((Addr.mk I 0 none).add 0)=some (.int .i64 x3)/\
 aH (decide (x3< (1:Int)))
 (((K (.int .i64 1) w2.drew)/\
(K (.int .i64 1) w2.drew))/\
((K (.int .i64 1) w2.drew)/\
(K (.int .i64 1) w2.drew))/\
(K (.int .i64 1) w2.drew))
  (∃x4,w2.drew.cell? ((Addr.mk I 0 none).add 0)=some (.int .i64 x4)/\
  aH (decide (x4> (1048576:Int)))
  (((K (.int .i64 1) w2.drew)/\
(K (.int .i64 1) w2.drew))/\
((K (.int .i64 1) w2.drew)/\
(K (.int .i64 1) w2.drew))/\
(K (.int .i64 1) w2.drew))
  (∃x5,w2.drew.cell? ((Addr.mk I 0 none).add 1)=some (.int .i64 x5)/\
  aH (decide (x5< (1:Int)))
  (((K (.int .i64 1) w2.drew)/\
(K (.int .i64 1) w2.drew))/\
((K (.int .i64 1) w2.drew)/\
(K (.int .i64 1) w2.drew))/\
(K (.int .i64 1) w2.drew))
  (∃x6,w2.drew.cell? ((Addr.mk I 0 none).add 1)=some (.int .i64 x6)/\
  aH (decide (x6> (1073741824:Int)))
  (((K (.int .i64 1) w2.drew)/\
(K (.int .i64 1) w2.drew))/\
((K (.int .i64 1) w2.drew)/\
(K (.int .i64 1) w2.drew))/\
(K (.int .i64 1) w2.drew))
  (∃x7,w2.drew.cell? ((Addr.mk I 0 none).add 2)=some (.int .i64 x7)/\
  aH (decide (x7< (1:Int)))
  (((K (.int .i64 1) w2.drew)/\
(K (.int .i64 1) w2.drew))/\
((K (.int .i64 1) w2.drew)/\
(K (.int .i64 1) w2.drew))/\
(K (.int .i64 1) w2.drew))
  (∃V,w2.drew.cell? ((Addr.mk I 0 none).add 1)=some (.int .i64 V)/\
  (∃x9,w2.drew.cell? ((Addr.mk I 0 none).add 2)=some (.int .i64 x9)/\
  (∃ap,w2.drew.cell? ((Addr.mk I 0 none).add 0)=some (.int .i64 ap)/\
  Calls prog 172 #[.int .i64 V] w2.drew fun e aa=> ∃Z,e= .returned (.int .i64 Z)/\
  aH (decide (x9> (i64.wrap (ap*Z))))
  (K (.int .i64 1) aa)
  (K (.int .i64 0) aa))/\
(Calls prog 172 #[.int .i64 V] w2.drew fun e Q=> ∃av,e= .returned (.int .i64 av)/\
  ∃ay,Q.cell? ((Addr.mk I 0 none).add 0)=some (.int .i64 ay)/\
  aH (decide (x9> (i64.wrap (ay*av))))
  (K (.int .i64 1) Q)
  (K (.int .i64 0) Q)))/\
(∃U,w2.drew.cell? ((Addr.mk I 0 none).add 0)=some (.int .i64 U)/\
  (∃ag,w2.drew.cell? ((Addr.mk I 0 none).add 2)=some (.int .i64 ag)/\
  Calls prog 172 #[.int .i64 V] w2.drew fun e ax=> ∃ar,e= .returned (.int .i64 ar)/\
  aH (decide (ag> (i64.wrap (U*ar))))
  (K (.int .i64 1) ax)
  (K (.int .i64 0) ax))/\
(Calls prog 172 #[.int .i64 V] w2.drew fun e O=> ∃X,e= .returned (.int .i64 X)/\
  ∃aw,O.cell? ((Addr.mk I 0 none).add 2)=some (.int .i64 aw)/\
  aH (decide (aw> (i64.wrap (U*X))))
  (K (.int .i64 1) O)
  (K (.int .i64 0) O)))/\
(Calls prog 172 #[.int .i64 V] w2.drew fun e J=> ∃ac,e= .returned (.int .i64 ac)/\
  ∃Y,J.cell? ((Addr.mk I 0 none).add 2)=some (.int .i64 Y)/\
  ∃an,J.cell? ((Addr.mk I 0 none).add 0)=some (.int .i64 an)/\
  aH (decide (Y> (i64.wrap (an*ac))))
  (K (.int .i64 1) J)
  (K (.int .i64 0) J)))))))
theorem iB.ah {p_0 p_1 p_2 w R} (h:iB.w p_0 p_1 p_2 w fun v w'=>R (.returned v) w'):Calls prog 171 #[.agg #[.int .i64 p_0,.int .i64 p_1,.int .i64 p_2]] w R:=
 aj mixed Tryz.func171 (by kernel_rfl) rfl (ann:= .ae) (F:=iB.w p_0 p_1 p_2 w) (fun K=>by kernel_rfl) h
def iL.w (Y:Int) (w:World) (K:Value->World->Prop):Prop:=
 ∃Q:Int->World->Nat->Prop,(∃O,Q Y w O)/\
 ∀I V O (_:Fr),Q I V O->
 Calls prog 178 #[.int .u64 (IntKind.u64.wrap I)] V fun e U=> ∃J,e= .returned (.int .i64 J)/\
  0<=J/\aH (I==(i64.wrap ((i64.wrap ((1:Int)*2 ^ (min J.toNat (IntKind.bits .i64)))) - (1:Int))))
  (0<=(i64.wrap (J - (1:Int)))/\K (.int .i64 (i64.wrap ((1:Int)*2 ^ (min (i64.wrap (J - (1:Int))).toNat (IntKind.bits .i64))))) U)
  (0<=(i64.wrap (J - (1:Int)))/\∃X,X<O/\Q (i64.wrap (I - (i64.wrap ((i64.wrap ((1:Int)*2 ^ (min (i64.wrap (J - (1:Int))).toNat (IntKind.bits .i64)))) - (1:Int))))) U X)
theorem iL.ah {i_ w R} (h:iL.w i_ w fun v w'=>R (.returned v) w'):Calls prog 172 #[.int .i64 i_] w R:=
 aj mixed Tryz.func172 (by kernel_rfl) rfl (ann:=(.aF .ae (.bS (.loop [(0,3)] .ae)))) (F:=iL.w i_ w) (fun K=>by kernel_rfl) h
def gK.w (a:Int) (b:Int) (w:World) (K:Value->World->Prop):Prop:=
 aH (decide (a< (1:Int)))
 (K (.int .i64 0) w)
 (aH (decide (a> (1048576:Int)))
 (K (.int .i64 0) w)
 (aH (decide (b< (0:Int)))
 (K (.int .i64 0) w)
 (aH (decide (b> (100:Int)))
 (K (.int .i64 0) w)
 (∃Q:Int->Int->World->Nat->Prop,(∃J,Q a 0 w J)/\
   ∀I v5 O J (_:Fr),Q I v5 O J->
   aH (decide (v5<b))
    ((10:Int)≠0/\∃U,U<J/\Q (i64.wrap (I+ (i64.wrap ((i64.wrap (I.tdiv (10:Int)))+ (1:Int))))) (i64.wrap (v5+ (1:Int))) O U)
    (K (.int .i64 I) O)))))
theorem gK.ah {a b w R} (h:gK.w a b w fun v w'=>R (.returned v) w'):Calls prog 173 #[.int .i64 a,.int .i64 b] w R:=
 aj mixed Tryz.func173 (by kernel_rfl) rfl (ann:=(.aF .ae (.aF .ae (.aF .ae (.aF (.aF .ae (.bS (.loop [(5,3),(22,3)] .ae))) .ae))))) (F:=gK.w a b w) (fun K=>by kernel_rfl) h
def cY.w (ag:Option Addr) (Y:Int) (Q:Option Addr) (ac:Nat) (U:Nat) (Z:Int) (an:Int) (aa:Bool) (w:World) (K:Value->World->Prop):Prop:=
 ∀n1 w2,bc (.cells #[.pointer ag] 100) w n1 w2->
 ∀V X,bc (.cells #[.int .i64 Y,.slice Q ac U,.int .i64 Z,.int .i64 an,.bool aa] 184) w2 V X->
 ∃J O I,X.cell? ((Addr.mk V 0 none).add 1)=some (.slice J O I)/\
 Calls prog 68 #[.slice J O I,.func (.func 200) #[] #[.pointer (some (Addr.mk n1 0 none)),.pointer (some (Addr.mk V 0 none))]] X fun e w6=> ∃r7,e= .returned (.bool r7)/\
 K (.bool r7) w6
theorem cY.ah {x0_ c_0 c1p c1n c1c c_2 c_3 c_4 w R} (h:cY.w x0_ c_0 c1p c1n c1c c_2 c_3 c_4 w fun v w'=>R (.returned v) w'):Calls prog 174 #[.pointer x0_,.agg #[.int .i64 c_0,.slice c1p c1n c1c,.int .i64 c_2,.int .i64 c_3,.bool c_4]] w R:=
 aj mixed Tryz.func174 (by kernel_rfl) rfl (ann:= .ae) (F:=cY.w x0_ c_0 c1p c1n c1c c_2 c_3 c_4 w) (fun K=>by kernel_rfl) h
def iQ.w (a:Option Addr) (b:Nat) (c:Nat) (w:World) (K:Value->World->Prop):Prop:=
 Calls prog 201 #[.slice a b c] w fun e w1=> ∃r2,e= .returned (.int .i64 r2)/\
 aH (r2 !=(0:Int))
 (K (.slice none 0 0) w1)
 (∃w3 U X a7,(Instr.makeSlice 188 (.int .i64 (b:Int)) (.int .i64 (b:Int))).run prog w1= .ok (.slice U X a7) w3/\
   ∃I5:Int->Int->World->Nat->Prop,(∃k6,I5 0 0 w3 k6)/\
   ∀aa v9 ac k6 (_:Fr),I5 aa v9 ac k6->
   aH (decide (v9< (b:Int)))
    (aV a b v9 3 fun b4=>
      ∃ax bb aT,aD ac b4 0 [.int .i64 ax,.int .i64 bb,.bool aT]/\
      ∀n15 aw,bc (.cells #[.int .i64 0,.int .i64 0,.bool false] 182) ac n15 aw->
      ∃ar,af (Addr.mk n15 0 none) 0 [.int .i64 ax,.int .i64 bb,.bool aT] aw ar/\
      ∃az bv a',aD ar (Addr.mk n15 0 none) 0 [.int .i64 az,.int .i64 bv,.bool a']/\
      Calls prog 202 #[.agg #[.int .i64 az,.int .i64 bv,.bool a']] ar fun e b5=> ∃av,e= .returned (.bool av)/\
      aV U X v9 1 fun b8=>
      ∃ag,af b8 0 [.bool av] b5 ag/\
      aV U X v9 1 fun a25=>
      ∃a6,ag.cell? a25=some (.bool a6)/\
      aH (!a6)
      (∃k7,k7<k6/\I5 (i64.wrap (aa+ (1:Int))) (i64.wrap (v9+ (1:Int))) ag k7)
      (∃k7,k7<k6/\I5 aa (i64.wrap (v9+ (1:Int))) ag k7))
    ((2:Int)≠0/\Calls prog 203 #[.slice a b c] ac fun e b6=> ∃an Y a_,e= .returned (.slice an Y a_)/\
      ∃Z:Int->Int->World->Nat->Prop,(∃Q,Z (i64.wrap (aa.tdiv (2:Int))) 0 b6 Q)/\
      ∀J V O Q (_:Fr),Z J V O Q->
      aH (decide (V< (Y:Int)))
       (aV an Y V 1 fun b3=>
         ∃ap,O.cell? b3=some (.int .i64 ap)/\
         aV U X ap 1 fun b7=>
         ∃a8,O.cell? b7=some (.bool a8)/\
         aH (!a8)
         (aH (decide (J> (0:Int)))
         (aV U X ap 1 fun a39=>
           ∃bx,af a39 0 [.bool true] O bx/\
           ∃I,I<Q/\Z (i64.wrap (J - (1:Int))) (i64.wrap (V+ (1:Int))) bx I)
         (∃I,I<Q/\Z J (i64.wrap (V+ (1:Int))) O I))
         (∃I,I<Q/\Z J (i64.wrap (V+ (1:Int))) O I))
       (K (.slice U X a7) O)))
theorem iQ.ah {a b c w R} (h:iQ.w a b c w fun v w'=>R (.returned v) w'):Calls prog 175 #[.slice a b c] w R:=
 aj mixed Tryz.func175 (by kernel_rfl) rfl (ann:=(.aF .ae (.aF .ae (.aF .ae (.aF .ae (.aF (.aF .ae (.bS (.loop [(4,3),(18,3)] .ae))) (.aF .ae (.aF (.aF .ae (.bS (.loop [(7,3),(41,3)] .ae))) .ae)))))))) (F:=iQ.w a b c w) (fun K=>by kernel_rfl) h
def kL.w (I:Int) (w:World) (K:Value->World->Prop):Prop:=
 Calls prog 213 #[.int .u64 I] w fun e w1=> ∃J,e= .returned (.int .i64 J)/\
 K (.int .i64 J) w1
theorem kL.ah {x0_ w R} (h:kL.w x0_ w fun v w'=>R (.returned v) w'):Calls prog 178 #[.int .u64 x0_] w R:=
 aj mixed Tryz.func178 (by kernel_rfl) rfl (ann:= .ae) (F:=kL.w x0_ w) (fun K=>by kernel_rfl) h
def cu.w (O:Int) (I:Addr) (w:World) (K:Value->World->Prop):Prop:=
 ∃J,w.cell? I=some (.int .i64 J)/\
 K (.bool (O==J)) w
theorem cu.ah {k_ c0_ w R} (h:cu.w k_ c0_ w fun v w'=>R (.returned v) w'):Calls prog 179 #[.int .i64 k_,.pointer (some c0_)] w R:=
 aj mixed Tryz.func179 (by kernel_rfl) rfl (ann:= .ae) (F:=cu.w k_ c0_ w) (fun K=>by kernel_rfl) h
def dZ.w (U:Option Addr) (l_:Int) (w:World) (K:Value->World->Prop):Prop:=
 Calls prog 142 #[.pointer U,.int .i64 l_] w fun e w1=> ∃Y,e= .returned (.int .i8 Y)/\
 aH (decide (Y>=(0:Int)))
 (K (.int .i64 1048577) w1)
 (∃O:World->Prop,O w1.drew/\
   ∃a4,U=some a4/\∃I J Q,e_ O (a4.add 4) (.slice I J Q)/\
   Calls prog 143 #[.int .i64 l_] w1.drew fun e X=> ∃Z,e= .returned (.int .i64 Z)/\
   O X/\aV I J Z 1 fun a8=>
   ∃V,e_ O a8 (.int .i64 V)/\
   K (.int .i64 V) X)
theorem dZ.ah {p_ l_ w R} (h:dZ.w p_ l_ w fun v w'=>R (.returned v) w'):Calls prog 180 #[.pointer p_,.int .i64 l_] w R:=
 aj mixed Tryz.func180 (by kernel_rfl) rfl (ann:=(.aF .ae (.aF .ae (.aF .dm .ae)))) (F:=dZ.w p_ l_ w) (fun K=>by kernel_rfl) h
def cB.w (a:Option Addr) (b:Nat) (c:Nat) (X:Int) (w:World) (K:Value->World->Prop):Prop:=
 ∃O:Int->World->Nat->Prop,(∃J,O 0 w J)/\
 ∀v4 I J (_:Fr),O v4 I J->
 aH (decide (v4< (b:Int)))
  (aV a b v4 1 fun V=>
    ∃Q,I.cell? V=some (.int .i64 Q)/\
    aH (X==Q)
    (K (.int .i64 v4) I)
    (∃U,U<J/\O (i64.wrap (v4+ (1:Int))) I U))
  (K (.int .i64 (-1)) I)
theorem cB.ah {a b c v_ w R} (h:cB.w a b c v_ w fun v w'=>R (.returned v) w'):Calls prog 181 #[.slice a b c,.int .i64 v_] w R:=
 aj mixed Tryz.func181 (by kernel_rfl) rfl (ann:=(.aF .ae (.aF (.aF .ae (.bS (.loop [(8,3)] .ae))) .ae))) (F:=cB.w a b c v_ w) (fun K=>by kernel_rfl) h
def gg.w (Q:Option Addr) (w:World) (K:Value->World->Prop):Prop:=
 aH Q.isNone
 (K (.int .i64 0) w)
 (∃a1,Q=some a1/\∃O I J,w.cell? (a1.add 0)=some (.slice O I J)/\
   K (.int .i64 (I:Int)) w)
theorem gg.ah {h_ w R} (h:gg.w h_ w fun v w'=>R (.returned v) w'):Calls prog 182 #[.pointer h_] w R:=
 aj mixed Tryz.func182 (by kernel_rfl) rfl (ann:= .ae) (F:=gg.w h_ w) (fun K=>by kernel_rfl) h
def cW.w (h_:Option Addr) (a_:Int) (b_:Int) (w:World) (K:Value->World->Prop):Prop:=
 ∃a1,h_=some a1/\∃ac V az,w.drew.cell? (a1.add 2)=some (.slice ac V az)/\
 aV ac V a_ 1 fun a3=>
 ∃x4,w.drew.cell? a3=some (.int .i64 x4)/\
 ∃a5,h_=some a5/\∃ag Z ar,w.drew.cell? (a5.add 2)=some (.slice ag Z ar)/\
 aV ag Z b_ 1 fun a7=>
 ∃x8,w.drew.cell? a7=some (.int .i64 x8)/\
 aH (x4 !=x8)
 (∃a9,h_=some a9/\∃J Q an,w.drew.drew.cell? (a9.add 2)=some (.slice J Q an)/\
   aV J Q a_ 1 fun ay=>
   ∃X,w.drew.drew.cell? ay=some (.int .i64 X)/\
   ∃Y,h_=some Y/\∃I O U,w.drew.drew.cell? (Y.add 2)=some (.slice I O U)/\
   aV I O b_ 1 fun aw=>
   ∃aa,w.drew.drew.cell? aw=some (.int .i64 aa)/\
   K (.bool (decide (X>aa))) w.drew.drew)
 (K (.bool (decide (a_<b_))) w.drew)
theorem cW.ah {h_ a_ b_ w R} (h:cW.w h_ a_ b_ w fun v w'=>R (.returned v) w'):Calls prog 183 #[.pointer h_,.int .i64 a_,.int .i64 b_] w R:=
 aj mixed Tryz.func183 (by kernel_rfl) rfl (ann:= .ae) (F:=cW.w h_ a_ b_ w) (fun K=>by kernel_rfl) h
def c5.w (a:Option Addr) (b:Nat) (c:Nat) (ar:Addr) (ax:Addr) (ap:Addr) (w:World) (K:Value->World->Prop):Prop:=
 ∃I1:Int->World->Nat->Prop,(∃k2,I1 0 w k2)/\
 ∀v4 U k2 (_:Fr),I1 v4 U k2->
 aH (decide (v4< (b:Int)))
  (aV a b v4 1 fun a6=>
    ∃x7,U.cell? a6=some (.int .i64 x7)/\
    ∃W8:World->Prop,W8 U.drew/\
    ∃x9:Option Nat,e_ W8 ar (.map x9)/\
    Calls prog 185 #[.int .i64 x7] U.drew fun e V=> ∃Q,e= .returned (.int .i64 Q)/\
    W8 V/\∃J,(Instr.mapUpdate 194 (.map x9) (.int .i64 Q) (.bool true)).run prog V= .ok () J/\
    ∃I:World->Prop,I J.drew/\
    ∃Y:Option Nat,e_ I ax (.map Y)/\
    ∃ag,e_ I ap (.pointer ag)/\
    ∃aa,ag=some aa/\∃X,e_ I (aa.add 5) (.pointer X)/\
    Calls prog 186 #[.pointer X,.int .i64 x7] J.drew fun e ac=> ∃Z,e= .returned (.int .i64 Z)/\
    I ac/\∃O,(Instr.mapUpdate 194 (.map Y) (.int .i64 Z) (.bool true)).run prog ac= .ok () O/\
    ∃k3,k3<k2/\I1 (i64.wrap (v4+ (1:Int))) O k3)
  (K (.tuple #[]) U)
theorem c5.ah {a b c c0_ c1_ c2_ w R} (h:c5.w a b c c0_ c1_ c2_ w fun v w'=>R (.returned v) w'):Calls prog 184 #[.slice a b c,.pointer (some c0_),.pointer (some c1_),.pointer (some c2_)] w R:=
 aj mixed Tryz.func184 (by kernel_rfl) rfl (ann:=(.aF .ae (.bS (.loop [(9,3)] (.aF .ae (.aF .ae (.aF (.bS (.aF .ae (.aF .dm .dm))) .ae))))))) (F:=c5.w a b c c0_ c1_ c2_ w) (fun K=>by kernel_rfl) h
def jH.w (I:Int) (w:World) (K:Value->World->Prop):Prop:=
 K (.int .i64 (imax I (i64.wrap (0 - I)))) w
theorem jH.ah {l_ w R} (h:jH.w l_ w fun v w'=>R (.returned v) w'):Calls prog 185 #[.int .i64 l_] w R:=
 aj mixed Tryz.func185 (by kernel_rfl) rfl (ann:= .ae) (F:=jH.w l_ w) (fun K=>by kernel_rfl) h
def dF.w (V:Option Addr) (Y:Int) (w:World) (K:Value->World->Prop):Prop:=
 Calls prog 148 #[.pointer V,.int .i64 Y] w fun e w1=> ∃r2,e= .returned (.bool r2)/\
 aH (!r2)
 (K (.int .i64 (-1)) w1)
 (Calls prog 142 #[.pointer V,.int .i64 Y] w1 fun e w3=> ∃r4,e= .returned (.int .i8 r4)/\
 aH (r4==(0:Int))
 (K (.int .i64 (-1)) w3)
 (∃Q:World->Prop,Q w3.drew/\
   ∃a6,V=some a6/\∃J I X,e_ Q (a6.add 4) (.slice J I X)/\
   Calls prog 143 #[.int .i64 Y] w3.drew fun e Z=> ∃r9,e= .returned (.int .i64 r9)/\
   Q Z/\aV J I r9 1 fun U=>
   ∃O,e_ Q U (.int .i64 O)/\
   K (.int .i64 O) Z))
theorem dF.ah {p_ l_ w R} (h:dF.w p_ l_ w fun v w'=>R (.returned v) w'):Calls prog 186 #[.pointer p_,.int .i64 l_] w R:=
 aj mixed Tryz.func186 (by kernel_rfl) rfl (ann:=(.aF .ae (.aF .ae (.aF .dm .ae)))) (F:=dF.w p_ l_ w) (fun K=>by kernel_rfl) h
def dB.w (a:Option Addr) (b:Nat) (c:Nat) (w:World) (K:Value->World->Prop):Prop:=
 ∀I w2,bc (.cells #[.slice a b c] 28) w I w2->
 K (.func (.func 214) #[] #[.pointer (some (Addr.mk I 0 none))]) w2
theorem dB.ah {a b c w R} (h:dB.w a b c w fun v w'=>R (.returned v) w'):Calls prog 187 #[.slice a b c] w R:=
 aj mixed Tryz.func187 (by kernel_rfl) rfl (ann:= .ae) (F:=dB.w a b c w) (fun K=>by kernel_rfl) h
def da.w (V:Option Addr) (Y:Int) (w:World) (K:Value->World->Prop):Prop:=
 Calls prog 148 #[.pointer V,.int .i64 Y] w fun e w1=> ∃r2,e= .returned (.bool r2)/\
 aH (!r2)
 (K (.int .i64 (-1)) w1)
 (Calls prog 142 #[.pointer V,.int .i64 Y] w1 fun e w3=> ∃r4,e= .returned (.int .i8 r4)/\
 aH (r4==(0:Int))
 (K (.int .i64 (-1)) w3)
 (∃Q:World->Prop,Q w3.drew/\
   ∃a6,V=some a6/\∃J I X,e_ Q (a6.add 5) (.slice J I X)/\
   Calls prog 143 #[.int .i64 Y] w3.drew fun e Z=> ∃r9,e= .returned (.int .i64 r9)/\
   Q Z/\aV J I r9 1 fun U=>
   ∃O,e_ Q U (.int .i64 O)/\
   K (.int .i64 O) Z))
theorem da.ah {p_ l_ w R} (h:da.w p_ l_ w fun v w'=>R (.returned v) w'):Calls prog 188 #[.pointer p_,.int .i64 l_] w R:=
 aj mixed Tryz.func188 (by kernel_rfl) rfl (ann:=(.aF .ae (.aF .ae (.aF .dm .ae)))) (F:=da.w p_ l_ w) (fun K=>by kernel_rfl) h
def aO.w (a:Option Addr) (b:Nat) (c:Nat) (w:World) (K:Value->World->Prop):Prop:=
 ∃I1:Int->Int->World->Nat->Prop,(∃k2,I1 0 (i64.wrap ((b:Int) - (1:Int))) w k2)/\
 ∀J I w6 k2 (_:Fr),I1 J I w6 k2->
 aH (decide (J<I))
  (aV a b I 3 fun a7=>
    ∃x8 x9 X V Y,aD w6.drew a7 0 [.int .i64 x8,.int .i64 x9,.slice X V Y]/\
    aV a b J 3 fun av=>
    ∃aa ag O U Q,aD w6.drew av 0 [.int .i64 aa,.int .i64 ag,.slice O U Q]/\
    aV a b J 3 fun ar=>
    ∃Z,af ar 0 [.int .i64 x8,.int .i64 x9,.slice X V Y] w6.drew Z/\
    aV a b I 3 fun aw=>
    ∃an,af aw 0 [.int .i64 aa,.int .i64 ag,.slice O U Q] Z an/\
    ∃k3,k3<k2/\I1 (i64.wrap (J+ (1:Int))) (i64.wrap (I - (1:Int))) an k3)
  (K (.tuple #[]) w6)
theorem aO.ah {a b c w R} (h:aO.w a b c w fun v w'=>R (.returned v) w'):Calls prog 189 #[.slice a b c] w R:=
 aj mixed Tryz.func189 (by kernel_rfl) rfl (ann:=(.aF .ae (.bS (.loop [(2,3),(3,3)] .ae)))) (F:=aO.w a b c w) (fun K=>by kernel_rfl) h
def iU.w (a:Option Addr) (b:Nat) (c:Nat) (d:Option Addr) (f:Nat) (g:Nat) (w:World) (K:Value->World->Prop):Prop:=
 Calls prog 195 #[.slice a b c] w fun e w1=> ∃I,e= .returned (.bool I)/\
 aH (!I)
 (K (.int .i64 1) w1)
 (Calls prog 62 #[.slice d f g] w1 fun e w3=> ∃J,e= .returned (.int .i64 J)/\
 aH (J !=(0:Int))
 (K (.int .i64 1) w3)
 (Calls prog 196 #[.slice a b c,.slice d f g] w3 fun e O=> ∃Q,e= .returned (.bool Q)/\
 aH (!Q)
 (K (.int .i64 1) O)
 (K (.int .i64 0) O)))
theorem iU.ah {a b c d f g w R} (h:iU.w a b c d f g w fun v w'=>R (.returned v) w'):Calls prog 190 #[.slice a b c,.slice d f g] w R:=
 aj mixed Tryz.func190 (by kernel_rfl) rfl (ann:= .ae) (F:=iU.w a b c d f g w) (fun K=>by kernel_rfl) h
def ic.w (a:Option Addr) (b:Nat) (c:Nat) (w:World) (K:Value->World->Prop):Prop:=
 ∀n1 w2,bc (.map #[] 0) w n1 w2->
 ∃I3:Int->World->Nat->Prop,(∃k4,I3 0 w2 k4)/\
 ∀X w7 k4 (_:Fr),I3 X w7 k4->
 aH (decide (X< (b:Int)))
  (aV a b X 3 fun a8=>
    ∃x9 V O J I,aD w7 a8 0 [.int .i64 x9,.int .i64 V,.slice O J I]/\
    ∀Q Y,bc (.cells #[.int .i64 0,.int .i64 0,.slice none 0 0] 199) w7 Q Y->
    ∃U,af (Addr.mk Q 0 none) 0 [.int .i64 x9,.int .i64 V,.slice O J I] Y U/\
    ∃ac,U.cell? ((Addr.mk Q 0 none).add 0)=some (.int .i64 ac)/\
    Calls prog 199 #[.int .i64 ac] U fun e ar=> ∃Z,e= .returned (.int .i64 Z)/\
    ∃aa,(Instr.mapUpdate 133 (.map (some n1)) (.int .i64 Z) (.int .i64 (i64.wrap (X+ (1:Int))))).run prog ar= .ok () aa/\
    ∃k5,k5<k4/\I3 (i64.wrap (X+ (1:Int))) aa k5)
  (K (.map (some n1)) w7)
theorem ic.ah {a b c w R} (h:ic.w a b c w fun v w'=>R (.returned v) w'):Calls prog 191 #[.slice a b c] w R:=
 aj mixed Tryz.func191 (by kernel_rfl) rfl (ann:=(.aF .ae (.aF .ae (.aF (.aF .ae (.bS (.loop [(9,3)] .ae))) .ae)))) (F:=ic.w a b c w) (fun K=>by kernel_rfl) h
def eZ.w (s_:Option Addr) (a:Option Addr) (b:Nat) (c:Nat) (d:Int) (w:World) (K:Value->World->Prop):Prop:=
 ∃U:Int->World->Nat->Prop,(∃O,U 0 w O)/\
 ∀v4 I O (_:Fr),U v4 I O->
 aH (decide (v4< (b:Int)))
  (aV a b v4 1 fun Z=>
    ∃V,I.cell? Z=some (.int .i64 V)/\
    aH (V !=d)
    (∃Y,s_=some Y/\∃X:Option Nat,I.cell? (Y.add 2)=some (.map X)/\
      ∃J,(Instr.mapUpdate 194 (.map X) (.int .i64 V) (.bool true)).run prog I= .ok () J/\
      ∃Q,Q<O/\U (i64.wrap (v4+ (1:Int))) J Q)
    (∃Q,Q<O/\U (i64.wrap (v4+ (1:Int))) I Q))
  (K (.tuple #[]) I)
theorem eZ.ah {s_ a b c d w R} (h:eZ.w s_ a b c d w fun v w'=>R (.returned v) w'):Calls prog 192 #[.pointer s_,.slice a b c,.int .i64 d] w R:=
 aj mixed Tryz.func192 (by kernel_rfl) rfl (ann:=(.aF .ae (.bS (.loop [(10,3)] .ae)))) (F:=eZ.w s_ a b c d w) (fun K=>by kernel_rfl) h
def eV.w (s_:Option Addr) (w:World) (K:Value->World->Prop):Prop:=
 ∃a1,s_=some a1/\∃x2:Option Nat,w.cell? (a1.add 2)=some (.map x2)/\
 ∃w3 r4,(Instr.range 194 (.map x2)).run prog w= .ok (.pointer r4) w3/\
 ∃Z:Int->Int->Int->World->Nat->Prop,(∃Y,Z 0 0 (-1) w3 Y)/\
 ∀V X Q aa Y (_:Fr),Z V X Q aa Y->
 (∃b8,(Instr.next (.pointer r4) false 0).run prog aa= .ok (.tuple #[.bool false]) b8/\
   K (.tuple #[.int .i64 V,.int .i64 X,.int .i64 Q]) b8)\/
   (∃ax,∃cT c1:Value,(Instr.next (.pointer r4) false 0).run prog aa= .ok (.tuple #[.bool true,cT,c1]) ax/\
   ∃ap O,∃c2:Value,(Instr.entry (.pointer r4)).run prog ax= .ok (.tuple #[.int .i64 O,c2]) ap/\
   Calls prog 197 #[.pointer s_,.int .i64 O] ap fun e I=> ∃U,e= .returned (.int .i64 U)/\
   aH (X==(0:Int))
   (∃ac,s_=some ac/\(∃b9:Option Nat,I.drew.cell? (ac.add 1)=some (.map b9)/\
   Calls prog 199 #[.int .i64 O] I.drew fun e c3=> ∃bk,e= .returned (.int .i64 bk)/\
   ∃az ar,(Instr.lookup 133 (.map b9) (.int .i64 bk) false).run prog c3= .ok (.int .i64 ar) az/\
   ∃J,J<Y/\Z U 1 (i64.wrap (ar - (1:Int))) az J)/\
 (Calls prog 199 #[.int .i64 O] I.drew fun e b4=> ∃a7,e= .returned (.int .i64 a7)/\
   ∃a8:Option Nat,b4.cell? (ac.add 1)=some (.map a8)/\
   ∃a' bx,(Instr.lookup 133 (.map a8) (.int .i64 a7) false).run prog b4= .ok (.int .i64 bx) a'/\
   ∃J,J<Y/\Z U 1 (i64.wrap (bx - (1:Int))) a' J))
   (aH (decide (U>V))
   (∃ag,s_=some ag/\(∃bY:Option Nat,I.drew.cell? (ag.add 1)=some (.map bY)/\
     Calls prog 199 #[.int .i64 O] I.drew fun e cp=> ∃a_,e= .returned (.int .i64 a_)/\
     ∃aw b',(Instr.lookup 133 (.map bY) (.int .i64 a_) false).run prog cp= .ok (.int .i64 b') aw/\
     ∃J,J<Y/\Z U 1 (i64.wrap (b' - (1:Int))) aw J)/\
   (Calls prog 199 #[.int .i64 O] I.drew fun e bb=> ∃av,e= .returned (.int .i64 av)/\
     ∃b7:Option Nat,bb.cell? (ag.add 1)=some (.map b7)/\
     ∃cb bv,(Instr.lookup 133 (.map b7) (.int .i64 av) false).run prog bb= .ok (.int .i64 bv) cb/\
     ∃J,J<Y/\Z U 1 (i64.wrap (bv - (1:Int))) cb J))
   (aH (U==V)
     (∃an,s_=some an/\(∃ce:Option Nat,I.drew.cell? (an.add 1)=some (.map ce)/\
       Calls prog 199 #[.int .i64 O] I.drew fun e c0=> ∃b6,e= .returned (.int .i64 b6)/\
       ∃aT b3,(Instr.lookup 133 (.map ce) (.int .i64 b6) false).run prog c0= .ok (.int .i64 b3) aT/\
       ∃J,J<Y/\Z V (i64.wrap (X+ (1:Int))) (imax Q (i64.wrap (b3 - (1:Int)))) aT J)/\
     (Calls prog 199 #[.int .i64 O] I.drew fun e b5=> ∃ay,e= .returned (.int .i64 ay)/\
       ∃cc:Option Nat,b5.cell? (an.add 1)=some (.map cc)/\
       ∃b_ a6,(Instr.lookup 133 (.map cc) (.int .i64 ay) false).run prog b5= .ok (.int .i64 a6) b_/\
       ∃J,J<Y/\Z V (i64.wrap (X+ (1:Int))) (imax Q (i64.wrap (a6 - (1:Int)))) b_ J))
     (∃J,J<Y/\Z V X Q I J))))
theorem eV.ah {s_ w R} (h:eV.w s_ w fun v w'=>R (.returned v) w'):Calls prog 193 #[.pointer s_] w R:=
 aj mixed Tryz.func193 (by kernel_rfl) rfl (ann:=(.aF .ae (.aF .ae (.aF (.aF .ae (.bS (.loop [(5,3),(6,3),(7,3)] .ae))) .ae)))) (F:=eV.w s_ w) (fun K=>by kernel_rfl) h
def cM.w (s_:Option Addr) (w:World) (K:Value->World->Prop):Prop:=
 ∀n1 w2,bc (.cells #[.pointer s_] 202) w n1 w2->
 ∃x3,w2.cell? (Addr.mk n1 0 none)=some (.pointer x3)/\
 ∃a4,x3=some a4/\∃x5:Option Nat,w2.cell? (a4.add 2)=some (.map x5)/\
 ∃w6 r7,(Instr.range 194 (.map x5)).run prog w2= .ok (.pointer r7) w6/\
 ∃I8:Option Addr->Nat->Nat->World->Nat->Prop,(∃k9,I8 none 0 0 w6 k9)/\
 ∀I J O X k9 (_:Fr),I8 I J O X k9->
 (∃Z,(Instr.next (.pointer r7) false 0).run prog X= .ok (.tuple #[.bool false]) Z/\
   Calls prog 135 #[.slice I J O,.func (.func 215) #[] #[.pointer (some (Addr.mk n1 0 none))]] Z fun e ay=>e= .returned (.tuple #[])/\
   K (.slice I J O) ay)\/
   (∃an,∃aw a6:Value,(Instr.next (.pointer r7) false 0).run prog X= .ok (.tuple #[.bool true,aw,a6]) an/\
   ∃ap ag,∃aT:Value,(Instr.entry (.pointer r7)).run prog an= .ok (.tuple #[.int .i64 ag,aT]) ap/\
   ∀n21 aa,bc (.cells #[.int .i64 ag] 3) ap n21 aa->
   ∃ac V U Q,(Builtin.append_ #[28,28] 28 #[.slice I J O,.slice (some (Addr.mk n21 0 none)) 1 1]).run prog aa= .ok (.slice V U Q) ac/\
   ∃Y,Y<k9/\I8 V U Q ac Y)
theorem cM.ah {s_ w R} (h:cM.w s_ w fun v w'=>R (.returned v) w'):Calls prog 194 #[.pointer s_] w R:=
 aj mixed Tryz.func194 (by kernel_rfl) rfl (ann:=(.aF .ae (.aF .ae (.aF (.aF .ae (.bS (.loop [(3,28)] .ae))) .ae)))) (F:=cM.w s_ w) (fun K=>by kernel_rfl) h
def iR.w (a:Option Addr) (b:Nat) (c:Nat) (w:World) (K:Value->World->Prop):Prop:=
 aH (decide ((b:Int)> (4096:Int)))
 (K (.bool false) w)
 (∀n1 w2,bc (.map #[] 0) w n1 w2->
   ∃I3:Int->Int->World->Nat->Prop,(∃k4,I3 0 0 w2 k4)/\
   ∀O v7 w8 k4 (_:Fr),I3 O v7 w8 k4->
   aH (decide (v7< (b:Int)))
    (aV a b v7 3 fun a9=>
      ∃b5 a' Z Y aa,aD w8 a9 0 [.int .i64 b5,.int .i64 a',.slice Z Y aa]/\
      ∀I b',bc (.cells #[.int .i64 0,.int .i64 0,.slice none 0 0] 199) w8 I b'->
      ∃ag,af (Addr.mk I 0 none) 0 [.int .i64 b5,.int .i64 a',.slice Z Y aa] b' ag/\
      ∃a8,ag.cell? ((Addr.mk I 0 none).add 0)=some (.int .i64 a8)/\
      ∀a7 cb,bc (.cells #[.int .i64 a8] 3) ag a7 cb->
      Calls prog 62 #[.slice (some (Addr.mk a7 0 none)) 1 1] cb fun e aw=> ∃bv,e= .returned (.int .i64 bv)/\
      aH (bv !=(0:Int))
      (K (.bool false) aw)
      (∃az,aw.cell? ((Addr.mk I 0 none).add 0)=some (.int .i64 az)/\
      Calls prog 199 #[.int .i64 az] aw fun e cT=> ∃b7,e= .returned (.int .i64 b7)/\
      ∃J aT,(Instr.lookup 133 (.map (some n1)) (.int .i64 b7) false).run prog cT= .ok (.int .i64 aT) J/\
      aH (decide (aT> (0:Int)))
      (K (.bool false) J)
      (∃b6,J.cell? ((Addr.mk I 0 none).add 1)=some (.int .i64 b6)/\
      aH (decide (b6<O))
      (K (.bool false) J)
      (∃bb,J.cell? ((Addr.mk I 0 none).add 1)=some (.int .i64 bb)/\
      aH (decide (bb> (i64.wrap (O+ (1:Int)))))
      (K (.bool false) J)
      (∃ar,J.cell? ((Addr.mk I 0 none).add 1)=some (.int .i64 ar)/\
        ∃a6 Q b_,J.cell? ((Addr.mk I 0 none).add 2)=some (.slice a6 Q b_)/\
        aH (!((decide (ar>O))==((Q:Int)==(0:Int))))
        (K (.bool false) J)
        (aH (!(decide (ar>O)))
        (∃a_ b3 U V X,aD J (Addr.mk I 0 none) 0 [.int .i64 a_,.int .i64 b3,.slice U V X]/\
        Calls prog 216 #[.slice a b c,.map (some n1),.agg #[.int .i64 a_,.int .i64 b3,.slice U V X]] J fun e ac=> ∃b8,e= .returned (.bool b8)/\
        aH (!b8)
        (K (.bool false) ac)
        (∃ax,ac.cell? ((Addr.mk I 0 none).add 0)=some (.int .i64 ax)/\
          Calls prog 199 #[.int .i64 ax] ac fun e cp=> ∃cc,e= .returned (.int .i64 cc)/\
          ∃ap,(Instr.mapUpdate 133 (.map (some n1)) (.int .i64 cc) (.int .i64 (i64.wrap (v7+ (1:Int))))).run prog cp= .ok () ap/\
          ∃b4,ap.cell? ((Addr.mk I 0 none).add 1)=some (.int .i64 b4)/\
          ∃k5,k5<k4/\I3 b4 (i64.wrap (v7+ (1:Int))) ap k5))
        (∃b9,J.cell? ((Addr.mk I 0 none).add 0)=some (.int .i64 b9)/\
        Calls prog 199 #[.int .i64 b9] J fun e c0=> ∃bx,e= .returned (.int .i64 bx)/\
        ∃av,(Instr.mapUpdate 133 (.map (some n1)) (.int .i64 bx) (.int .i64 (i64.wrap (v7+ (1:Int))))).run prog c0= .ok () av/\
        ∃ce,av.cell? ((Addr.mk I 0 none).add 1)=some (.int .i64 ce)/\
        ∃k5,k5<k4/\I3 ce (i64.wrap (v7+ (1:Int))) av k5)))))))
    (K (.bool true) w8))
theorem iR.ah {a b c w R} (h:iR.w a b c w fun v w'=>R (.returned v) w'):Calls prog 195 #[.slice a b c] w R:=
 aj mixed Tryz.func195 (by kernel_rfl) rfl (ann:=(.aF .ae (.aF .ae (.aF .ae (.aF .ae (.aF (.aF .ae (.bS (.loop [(4,3),(14,3)] .ae))) .ae)))))) (F:=iR.w a b c w) (fun K=>by kernel_rfl) h
def g_.w (a:Option Addr) (b:Nat) (c:Nat) (d:Option Addr) (f:Nat) (g:Nat) (w:World) (K:Value->World->Prop):Prop:=
 Calls prog 191 #[.slice a b c] w fun e w1=> ∃r2:Option Nat,e= .returned (.map r2)/\
 ∃Z:Int->World->Nat->Prop,(∃X,Z 0 w1 X)/\
 ∀U V X (_:Fr),Z U V X->
 aH (decide (U< (f:Int)))
  (aV d f U 1 fun a8=>
    ∃x9,V.cell? a8=some (.int .i64 x9)/\
    Calls prog 199 #[.int .i64 x9] V fun e Y=> ∃O,e= .returned (.int .i64 O)/\
    ∃I J,(Instr.lookup 133 (.map r2) (.int .i64 O) false).run prog Y= .ok (.int .i64 J) I/\
    aH (J==(0:Int))
    (K (.bool false) I)
    (aV a b (i64.wrap (J - (1:Int))) 3 fun ac=>
    ∃Q,I.cell? (ac.add 0)=some (.int .i64 Q)/\
    aH (Q !=(i64.wrap (0 - x9)))
    (K (.bool false) I)
    (∃k5,k5<X/\Z (i64.wrap (U+ (1:Int))) I k5)))
  (K (.bool true) V)
theorem g_.ah {a b c d f g w R} (h:g_.w a b c d f g w fun v w'=>R (.returned v) w'):Calls prog 196 #[.slice a b c,.slice d f g] w R:=
 aj mixed Tryz.func196 (by kernel_rfl) rfl (ann:=(.aF .ae (.aF .ae (.aF (.aF .ae (.bS (.loop [(13,3)] .ae))) .ae)))) (F:=g_.w a b c d f g w) (fun K=>by kernel_rfl) h
def cw.w (s_:Option Addr) (l_:Int) (w:World) (K:Value->World->Prop):Prop:=
 ∃a1,s_=some a1/\∃a2,s_=some a2/\(∃aw aT c3,w.drew.cell? (a1.add 0)=some (.slice aw aT c3)/\
 (∃x4:Option Nat,w.drew.cell? (a2.add 1)=some (.map x4)/\
 Calls prog 199 #[.int .i64 l_] w.drew fun e w5=> ∃r6,e= .returned (.int .i64 r6)/\
 ∃w7 r8,(Instr.lookup 133 (.map x4) (.int .i64 r6) false).run prog w5= .ok (.int .i64 r8) w7/\
 aV aw aT (i64.wrap (r8 - (1:Int))) 3 fun a9=>
 ∃b6,w7.cell? (a9.add 1)=some (.int .i64 b6)/\
 K (.int .i64 b6) w7)/\
(Calls prog 199 #[.int .i64 l_] w.drew fun e b3=> ∃bk,e= .returned (.int .i64 bk)/\
  ∃cb:Option Nat,b3.cell? (a2.add 1)=some (.map cb)/\
  ∃a7 bY,(Instr.lookup 133 (.map cb) (.int .i64 bk) false).run prog b3= .ok (.int .i64 bY) a7/\
  aV aw aT (i64.wrap (bY - (1:Int))) 3 fun dk=>
  ∃b5,a7.cell? (dk.add 1)=some (.int .i64 b5)/\
  K (.int .i64 b5) a7))/\
(∃Q:Option Nat,w.drew.cell? (a2.add 1)=some (.map Q)/\
  (∃U Z a',w.drew.cell? (a1.add 0)=some (.slice U Z a')/\
  Calls prog 199 #[.int .i64 l_] w.drew fun e c0=> ∃a_,e= .returned (.int .i64 a_)/\
  ∃ax b_,(Instr.lookup 133 (.map Q) (.int .i64 a_) false).run prog c0= .ok (.int .i64 b_) ax/\
  aV U Z (i64.wrap (b_ - (1:Int))) 3 fun c2=>
  ∃bb,ax.cell? (c2.add 1)=some (.int .i64 bb)/\
  K (.int .i64 bb) ax)/\
(Calls prog 199 #[.int .i64 l_] w.drew fun e av=> ∃a8,e= .returned (.int .i64 a8)/\
  (∃Y ac b7,av.cell? (a1.add 0)=some (.slice Y ac b7)/\
  ∃az cT,(Instr.lookup 133 (.map Q) (.int .i64 a8) false).run prog av= .ok (.int .i64 cT) az/\
  aV Y ac (i64.wrap (cT - (1:Int))) 3 fun c1=>
  ∃b9,az.cell? (c1.add 1)=some (.int .i64 b9)/\
  K (.int .i64 b9) az)/\
(∃I ce,(Instr.lookup 133 (.map Q) (.int .i64 a8) false).run prog av= .ok (.int .i64 ce) I/\
  ∃X ag b',I.cell? (a1.add 0)=some (.slice X ag b')/\
  aV X ag (i64.wrap (ce - (1:Int))) 3 fun dp=>
  ∃cc,I.cell? (dp.add 1)=some (.int .i64 cc)/\
  K (.int .i64 cc) I)))/\
(Calls prog 199 #[.int .i64 l_] w.drew fun e O=> ∃ar,e= .returned (.int .i64 ar)/\
  ∃a6:Option Nat,O.cell? (a2.add 1)=some (.map a6)/\
  (∃an V bx,O.cell? (a1.add 0)=some (.slice an V bx)/\
  ∃ay b4,(Instr.lookup 133 (.map a6) (.int .i64 ar) false).run prog O= .ok (.int .i64 b4) ay/\
  aV an V (i64.wrap (b4 - (1:Int))) 3 fun c7=>
  ∃cm,ay.cell? (c7.add 1)=some (.int .i64 cm)/\
  K (.int .i64 cm) ay)/\
(∃J cg,(Instr.lookup 133 (.map a6) (.int .i64 ar) false).run prog O= .ok (.int .i64 cg) J/\
  ∃aa ap cp,J.cell? (a1.add 0)=some (.slice aa ap cp)/\
  aV aa ap (i64.wrap (cg - (1:Int))) 3 fun dc=>
  ∃b8,J.cell? (dc.add 1)=some (.int .i64 b8)/\
  K (.int .i64 b8) J))
theorem cw.ah {s_ l_ w R} (h:cw.w s_ l_ w fun v w'=>R (.returned v) w'):Calls prog 197 #[.pointer s_,.int .i64 l_] w R:=
 aj mixed Tryz.func197 (by kernel_rfl) rfl (ann:= .ae) (F:=cw.w s_ l_ w) (fun K=>by kernel_rfl) h
def dV.w (s_:Option Addr) (l_:Int) (a:Option Nat) (w:World) (K:Value->World->Prop):Prop:=
 Calls prog 199 #[.int .i64 l_] w fun e w1=> ∃r2,e= .returned (.int .i64 r2)/\
 ∃w3 r4 r5,(Instr.lookup 194 (.map a) (.int .i64 r2) true).run prog w1= .ok (.tuple #[.bool r4,.bool r5]) w3/\
 aH r5
 (K (.bool r4) w3)
 (∃J6:Addr->World->Prop,(∃U:World->Prop,U w3.drew/\
   ∃a8,s_=some a8/\∃ac an el,e_ U (a8.add 0) (.slice ac an el)/\
   ∃cT,s_=some cT/\∃ap:Option Nat,e_ U (cT.add 1) (.map ap)/\
   (Calls prog 199 #[.int .i64 l_] w3.drew fun e bY=> ∃bx,e= .returned (.int .i64 bx)/\
   U bY/\(∃b_ cm,(Instr.lookup 133 (.map ap) (.int .i64 bx) false).run prog bY= .ok (.int .i64 cm) b_/\
   U b_/\aV ac an (i64.wrap (cm - (1:Int))) 3 fun ej=>
   ∃c0 cp ar ay a6,kG U ej [.int .i64 c0,.int .i64 cp,.slice ar ay a6]/\
   ∀n20 bk,bc (.cells #[.int .i64 0,.int .i64 0,.slice none 0 0] 199) b_ n20 bk->
   U bk/\∃dk,af (Addr.mk n20 0 none) 0 [.int .i64 c0,.int .i64 cp,.slice ar ay a6] bk dk/\
   J6 (Addr.mk n20 0 none) dk)/\
 (∀n23 b3,bc (.cells #[.int .i64 0,.int .i64 0,.slice none 0 0] 199) bY n23 b3->
   U b3/\∃b7 c7,(Instr.lookup 133 (.map ap) (.int .i64 bx) false).run prog b3= .ok (.int .i64 c7) b7/\
   U b7/\aV ac an (i64.wrap (c7 - (1:Int))) 3 fun en=>
   ∃d9 cg aw a7 a_,kG U en [.int .i64 d9,.int .i64 cg,.slice aw a7 a_]/\
   ∃d5,af (Addr.mk n23 0 none) 0 [.int .i64 d9,.int .i64 cg,.slice aw a7 a_] b7 d5/\
   J6 (Addr.mk n23 0 none) d5))/\
 (∀b9 b4,bc (.cells #[.int .i64 0,.int .i64 0,.slice none 0 0] 199) w3.drew b9 b4->
   U b4/\Calls prog 199 #[.int .i64 l_] b4 fun e cb=> ∃dp,e= .returned (.int .i64 dp)/\
   U cb/\∃b5 c2,(Instr.lookup 133 (.map ap) (.int .i64 dp) false).run prog cb= .ok (.int .i64 c2) b5/\
   U b5/\aV ac an (i64.wrap (c2 - (1:Int))) 3 fun ei=>
   ∃du d8 a' av ax,kG U ei [.int .i64 du,.int .i64 d8,.slice a' av ax]/\
   ∃dT,af (Addr.mk b9 0 none) 0 [.int .i64 du,.int .i64 d8,.slice a' av ax] b5 dT/\
   J6 (Addr.mk b9 0 none) dT))/\
   ∀V ag (_:Fr),J6 V ag->
   ∃eb aT dd,ag.cell? (V.add 2)=some (.slice eb aT dd)/\
   ∃az aa d4,ag.cell? (V.add 2)=some (.slice az aa d4)/\
   ∃Y:Bool->Int->World->Nat->Prop,(∃Q,Y (decide ((aT:Int)> (0:Int))) 0 ag Q)/\
   ∀J O X Q (_:Fr),Y J O X Q->
   aH (decide (O< (aa:Int)))
    (aV az aa O 1 fun a53=>
      ∃Z,X.cell? a53=some (.int .i64 Z)/\
      ∃bv:Bool->World->Prop,(aH J
      (∃c3,X.cell? (V.add 0)=some (.int .i64 c3)/\
      bv (Z !=c3) X)
      (bv false X))/\
      ∀dq b6 (_:Fr),bv dq b6->
      aH dq
      (Calls prog 197 #[.pointer s_,.int .i64 Z] b6 fun e bb=> ∃b',e= .returned (.int .i64 b')/\
        aH (b'==(0:Int))
        (∃I,I<Q/\Y true (i64.wrap (O+ (1:Int))) bb I)
        (∃ea,s_=some ea/\∃d':Option Nat,bb.cell? (ea.add 2)=some (.map d')/\
        ∃b8 c1,(Instr.lookup 194 (.map d') (.int .i64 Z) false).run prog bb= .ok (.bool c1) b8/\
        aH c1
        (∃I,I<Q/\Y true (i64.wrap (O+ (1:Int))) b8 I)
        (Calls prog 198 #[.pointer s_,.int .i64 Z,.map a] b8 fun e ek=> ∃cc,e= .returned (.bool cc)/\
        ∃I,I<Q/\Y cc (i64.wrap (O+ (1:Int))) ek I)))
      (∃I,I<Q/\Y J (i64.wrap (O+ (1:Int))) b6 I))
    (Calls prog 199 #[.int .i64 l_] X fun e eg=> ∃dc,e= .returned (.int .i64 dc)/\
      ∃ce,(Instr.mapUpdate 194 (.map a) (.int .i64 dc) (.bool J)).run prog eg= .ok () ce/\
      K (.bool J) ce))
theorem dV.ah {s_ l_ a w R} (h:dV.w s_ l_ a w fun v w'=>R (.returned v) w'):Calls prog 198 #[.pointer s_,.int .i64 l_,.map a] w R:=
 aj mixed Tryz.func198 (by kernel_rfl) rfl (ann:=(.aF .ae (.aF .ae (.cut [(9,1000000)] .dm (.aF .ae (.aF (.aF .ae (.bS (.loop [(10,4),(43,3)] (.aF .ae (.aF .ae (.aF (.bS (.aF .ae (.cut [(53,4)] .ae .ae))) .ae)))))) .ae)))))) (F:=dV.w s_ l_ a w) (fun K=>by kernel_rfl) h
def bU.w (I:Int) (w:World) (K:Value->World->Prop):Prop:=
 K (.int .i64 (imax I (i64.wrap (0 - I)))) w
theorem bU.ah {l_ w R} (h:bU.w l_ w fun v w'=>R (.returned v) w'):Calls prog 199 #[.int .i64 l_] w R:=
 aj mixed Tryz.func199 (by kernel_rfl) rfl (ann:= .ae) (F:=bU.w l_ w) (fun K=>by kernel_rfl) h
def cD.w (l_:Int) (Q:Addr) (V:Addr) (w:World) (K:Value->World->Prop):Prop:=
 ∃W1:World->Prop,W1 w.drew/\
 ∃X,e_ W1 Q (.pointer X)/\
 ∃a3,X=some a3/\∃x4,e_ W1 (a3.add 5) (.pointer x4)/\
 Calls prog 122 #[.pointer x4,.int .i64 l_] w.drew fun e U=> ∃r6,e= .returned (.int .i64 r6)/\
 W1 U/\aH (decide (r6> (0:Int)))
 (∃Z,e_ W1 Q (.pointer Z)/\
 ∃a8,Z=some a8/\∃Y,e_ W1 (a8.add 5) (.pointer Y)/\
 Calls prog 188 #[.pointer Y,.int .i64 l_] U fun e I=> ∃J,e= .returned (.int .i64 J)/\
 W1 I/\∃O,e_ W1 (V.add 0) (.int .i64 O)/\
 K (.bool (J==O)) I)
 (K (.bool false) U)
theorem cD.ah {l_ c0_ c1_ w R} (h:cD.w l_ c0_ c1_ w fun v w'=>R (.returned v) w'):Calls prog 200 #[.int .i64 l_,.pointer (some c0_),.pointer (some c1_)] w R:=
 aj mixed Tryz.func200 (by kernel_rfl) rfl (ann:=(.aF .ae (.aF .dm .ae))) (F:=cD.w l_ c0_ c1_ w) (fun K=>by kernel_rfl) h
def gU.w (a:Option Addr) (b:Nat) (c:Nat) (w:World) (K:Value->World->Prop):Prop:=
 ∃I1:Int->World->Nat->Prop,(∃k2,I1 0 w k2)/\
 ∀v4 Z k2 (_:Fr),I1 v4 Z k2->
 aH (decide (v4< (b:Int)))
  (aV a b v4 3 fun a6=>
    ∃x7 x8 x9,aD Z a6 0 [.int .i64 x7,.int .i64 x8,.bool x9]/\
    ∀J X,bc (.cells #[.int .i64 0,.int .i64 0,.bool false] 182) Z J X->
    ∃I,af (Addr.mk J 0 none) 0 [.int .i64 x7,.int .i64 x8,.bool x9] X I/\
    ∃U,I.cell? ((Addr.mk J 0 none).add 1)=some (.int .i64 U)/\
    aH (decide (U< (0:Int)))
    (K (.int .i64 1) I)
    (∃Q,I.cell? ((Addr.mk J 0 none).add 1)=some (.int .i64 Q)/\
    aH (decide (Q> (4096:Int)))
    (K (.int .i64 1) I)
    (∃Y,I.cell? ((Addr.mk J 0 none).add 0)=some (.int .i64 Y)/\
    aH (decide (Y< (0:Int)))
    (K (.int .i64 1) I)
    (∃V,I.cell? ((Addr.mk J 0 none).add 0)=some (.int .i64 V)/\
    ∃O,I.cell? ((Addr.mk J 0 none).add 1)=some (.int .i64 O)/\
    aH (decide (V>O))
    (K (.int .i64 1) I)
    (∃k3,k3<k2/\I1 (i64.wrap (v4+ (1:Int))) I k3)))))
  (K (.int .i64 0) Z)
theorem gU.ah {a b c w R} (h:gU.w a b c w fun v w'=>R (.returned v) w'):Calls prog 201 #[.slice a b c] w R:=
 aj mixed Tryz.func201 (by kernel_rfl) rfl (ann:=(.aF .ae (.aF (.aF .ae (.bS (.loop [(7,3)] .ae))) .ae))) (F:=gU.w a b c w) (fun K=>by kernel_rfl) h
def iK.w (O:Int) (I:Int) (Q:Bool) (w:World) (K:Value->World->Prop):Prop:=
 ∀J w2,bc (.cells #[.int .i64 O,.int .i64 I,.bool Q] 182) w J w2->
 ∃V,w2.cell? ((Addr.mk J 0 none).add 2)=some (.bool V)/\
 aH V
 (K (.bool true) w2)
 (∃U,w2.cell? ((Addr.mk J 0 none).add 0)=some (.int .i64 U)/\
 K (.bool (decide (U<=(2:Int)))) w2)
theorem iK.ah {c_0 c_1 c_2 w R} (h:iK.w c_0 c_1 c_2 w fun v w'=>R (.returned v) w'):Calls prog 202 #[.agg #[.int .i64 c_0,.int .i64 c_1,.bool c_2]] w R:=
 aj mixed Tryz.func202 (by kernel_rfl) rfl (ann:= .ae) (F:=iK.w c_0 c_1 c_2 w) (fun K=>by kernel_rfl) h
def gO.w (a:Option Addr) (b:Nat) (c:Nat) (w:World) (K:Value->World->Prop):Prop:=
 ∀n1 w2,bc (.cells #[.slice a b c] 186) w n1 w2->
 ∃ac ar ag,w2.cell? (Addr.mk n1 0 none)=some (.slice ac ar ag)/\
 Calls prog 201 #[.slice ac ar ag] w2 fun e w4=> ∃r5,e= .returned (.int .i64 r5)/\
 aH (r5 !=(0:Int))
 (K (.slice none 0 0) w4)
 (∃ay X av,w4.cell? (Addr.mk n1 0 none)=some (.slice ay X av)/\
   ∃w7 O J V,(Instr.makeSlice 28 (.int .i64 (X:Int)) (.int .i64 (X:Int))).run prog w4= .ok (.slice O J V) w7/\
   ∃ax aa az,w7.cell? (Addr.mk n1 0 none)=some (.slice ax aa az)/\
   ∃U:Int->World->Nat->Prop,(∃Q,U 0 w7 Q)/\
   ∀I Y Q (_:Fr),U I Y Q->
   aH (decide (I< (aa:Int)))
    (aV O J I 1 fun aw=>
      ∃Z,af aw 0 [.int .i64 I] Y Z/\
      ∃ap,ap<Q/\U (i64.wrap (I+ (1:Int))) Z ap)
    (Calls prog 135 #[.slice O J V,.func (.func 217) #[] #[.pointer (some (Addr.mk n1 0 none))]] Y fun e a7=>e= .returned (.tuple #[])/\
      K (.slice O J V) a7))
theorem gO.ah {a b c w R} (h:gO.w a b c w fun v w'=>R (.returned v) w'):Calls prog 203 #[.slice a b c] w R:=
 aj mixed Tryz.func203 (by kernel_rfl) rfl (ann:=(.aF .ae (.aF .ae (.aF .ae (.aF (.aF .ae (.bS (.loop [(13,3)] .ae))) .ae))))) (F:=gO.w a b c w) (fun K=>by kernel_rfl) h
def iD.w (I:Int) (w:World) (K:Value->World->Prop):Prop:=
 aH (decide (I>=(4294967296:Int)))
 (0<=(32:Int)/\aH (decide ((I.fdiv (2 ^ (min (32:Int).toNat (IntKind.bits .u64))))>=(65536:Int)))
   (0<=(16:Int)/\aH (decide (((I.fdiv (2 ^ (min (32:Int).toNat (IntKind.bits .u64)))).fdiv (2 ^ (min (16:Int).toNat (IntKind.bits .u64))))>=(256:Int)))
     (0<=(8:Int)/\∃b1,0<=(IntKind.u8.wrap (((I.fdiv (2 ^ (min (32:Int).toNat (IntKind.bits .u64)))).fdiv (2 ^ (min (16:Int).toNat (IntKind.bits .u64)))).fdiv (2 ^ (min (8:Int).toNat (IntKind.bits .u64)))))/\jB[(IntKind.u8.wrap (((I.fdiv (2 ^ (min (32:Int).toNat (IntKind.bits .u64)))).fdiv (2 ^ (min (16:Int).toNat (IntKind.bits .u64)))).fdiv (2 ^ (min (8:Int).toNat (IntKind.bits .u64))))).toNat]? =some b1/\
       K (.int .i64 (i64.wrap ((i64.wrap ((i64.wrap ((32:Int)+ (16:Int)))+ (8:Int)))+ (i64.wrap (b1.toNat:Int))))) w)
     (∃b2,0<=(IntKind.u8.wrap ((I.fdiv (2 ^ (min (32:Int).toNat (IntKind.bits .u64)))).fdiv (2 ^ (min (16:Int).toNat (IntKind.bits .u64)))))/\jB[(IntKind.u8.wrap ((I.fdiv (2 ^ (min (32:Int).toNat (IntKind.bits .u64)))).fdiv (2 ^ (min (16:Int).toNat (IntKind.bits .u64))))).toNat]? =some b2/\
       K (.int .i64 (i64.wrap ((i64.wrap ((32:Int)+ (16:Int)))+ (i64.wrap (b2.toNat:Int))))) w))
   (aH (decide ((I.fdiv (2 ^ (min (32:Int).toNat (IntKind.bits .u64))))>=(256:Int)))
     (0<=(8:Int)/\∃O,0<=(IntKind.u8.wrap ((I.fdiv (2 ^ (min (32:Int).toNat (IntKind.bits .u64)))).fdiv (2 ^ (min (8:Int).toNat (IntKind.bits .u64)))))/\jB[(IntKind.u8.wrap ((I.fdiv (2 ^ (min (32:Int).toNat (IntKind.bits .u64)))).fdiv (2 ^ (min (8:Int).toNat (IntKind.bits .u64))))).toNat]? =some O/\
       K (.int .i64 (i64.wrap ((i64.wrap ((32:Int)+ (8:Int)))+ (i64.wrap (O.toNat:Int))))) w)
     (∃U,0<=(IntKind.u8.wrap (I.fdiv (2 ^ (min (32:Int).toNat (IntKind.bits .u64)))))/\jB[(IntKind.u8.wrap (I.fdiv (2 ^ (min (32:Int).toNat (IntKind.bits .u64))))).toNat]? =some U/\
       K (.int .i64 (i64.wrap ((32:Int)+ (i64.wrap (U.toNat:Int))))) w)))
 (aH (decide (I>=(65536:Int)))
   (0<=(16:Int)/\aH (decide ((I.fdiv (2 ^ (min (16:Int).toNat (IntKind.bits .u64))))>=(256:Int)))
     (0<=(8:Int)/\∃V,0<=(IntKind.u8.wrap ((I.fdiv (2 ^ (min (16:Int).toNat (IntKind.bits .u64)))).fdiv (2 ^ (min (8:Int).toNat (IntKind.bits .u64)))))/\jB[(IntKind.u8.wrap ((I.fdiv (2 ^ (min (16:Int).toNat (IntKind.bits .u64)))).fdiv (2 ^ (min (8:Int).toNat (IntKind.bits .u64))))).toNat]? =some V/\
       K (.int .i64 (i64.wrap ((i64.wrap ((i64.wrap ((0:Int)+ (16:Int)))+ (8:Int)))+ (i64.wrap (V.toNat:Int))))) w)
     (∃J,0<=(IntKind.u8.wrap (I.fdiv (2 ^ (min (16:Int).toNat (IntKind.bits .u64)))))/\jB[(IntKind.u8.wrap (I.fdiv (2 ^ (min (16:Int).toNat (IntKind.bits .u64))))).toNat]? =some J/\
       K (.int .i64 (i64.wrap ((i64.wrap ((0:Int)+ (16:Int)))+ (i64.wrap (J.toNat:Int))))) w))
   (aH (decide (I>=(256:Int)))
     (0<=(8:Int)/\∃Q,0<=(IntKind.u8.wrap (I.fdiv (2 ^ (min (8:Int).toNat (IntKind.bits .u64)))))/\jB[(IntKind.u8.wrap (I.fdiv (2 ^ (min (8:Int).toNat (IntKind.bits .u64))))).toNat]? =some Q/\
       K (.int .i64 (i64.wrap ((i64.wrap ((0:Int)+ (8:Int)))+ (i64.wrap (Q.toNat:Int))))) w)
     (∃X,0<=(IntKind.u8.wrap I)/\jB[(IntKind.u8.wrap I).toNat]? =some X/\
       K (.int .i64 (i64.wrap ((0:Int)+ (i64.wrap (X.toNat:Int))))) w)))
theorem iD.ah {x0_ w R} (h:iD.w x0_ w fun v w'=>R (.returned v) w'):Calls prog 213 #[.int .u64 x0_] w R:=
 aj mixed Tryz.func213 (by kernel_rfl) rfl (ann:= .ae) (F:=iD.w x0_ w) (fun K=>by kernel_rfl) h
def bG.w (O:Int) (Q:Int) (I:Addr) (w:World) (K:Value->World->Prop):Prop:=
 ∃x1,w.drew.cell? I=some (.pointer x1)/\
 (Calls prog 197 #[.pointer x1,.int .i64 O] w.drew fun e w2=> ∃r3,e= .returned (.int .i64 r3)/\
 ∃x4,w2.cell? I=some (.pointer x4)/\
 Calls prog 197 #[.pointer x4,.int .i64 Q] w2 fun e Z=> ∃r6,e= .returned (.int .i64 r6)/\
 aH (r3 !=r6)
 (∃x7,Z.drew.cell? I=some (.pointer x7)/\
   (Calls prog 197 #[.pointer x7,.int .i64 Q] Z.drew fun e w8=> ∃r9,e= .returned (.int .i64 r9)/\
   ∃az,w8.cell? I=some (.pointer az)/\
   Calls prog 197 #[.pointer az,.int .i64 O] w8 fun e b4=> ∃ag,e= .returned (.int .i64 ag)/\
   K (.int .i64 (i64.wrap (r9 - ag))) b4)/\
 (∃a6,Z.drew.cell? I=some (.pointer a6)/\
   Calls prog 197 #[.pointer x7,.int .i64 Q] Z.drew fun e b7=> ∃av,e= .returned (.int .i64 av)/\
   Calls prog 197 #[.pointer a6,.int .i64 O] b7 fun e bk=> ∃aa,e= .returned (.int .i64 aa)/\
   K (.int .i64 (i64.wrap (av - aa))) bk))
 (Calls prog 199 #[.int .i64 O] Z fun e b8=> ∃aT,e= .returned (.int .i64 aT)/\
   Calls prog 199 #[.int .i64 Q] b8 fun e bb=> ∃V,e= .returned (.int .i64 V)/\
   K (.int .i64 (i64.wrap (aT - V))) bb))/\
(∃a7,w.drew.cell? I=some (.pointer a7)/\
  Calls prog 197 #[.pointer x1,.int .i64 O] w.drew fun e b6=> ∃aw,e= .returned (.int .i64 aw)/\
  Calls prog 197 #[.pointer a7,.int .i64 Q] b6 fun e J=> ∃X,e= .returned (.int .i64 X)/\
  aH (aw !=X)
  (∃U,J.drew.cell? I=some (.pointer U)/\
    (Calls prog 197 #[.pointer U,.int .i64 Q] J.drew fun e ar=> ∃a8,e= .returned (.int .i64 a8)/\
    ∃ac,ar.cell? I=some (.pointer ac)/\
    Calls prog 197 #[.pointer ac,.int .i64 O] ar fun e b5=> ∃an,e= .returned (.int .i64 an)/\
    K (.int .i64 (i64.wrap (a8 - an))) b5)/\
  (∃ay,J.drew.cell? I=some (.pointer ay)/\
    Calls prog 197 #[.pointer U,.int .i64 Q] J.drew fun e bx=> ∃ap,e= .returned (.int .i64 ap)/\
    Calls prog 197 #[.pointer ay,.int .i64 O] bx fun e bv=> ∃a',e= .returned (.int .i64 a')/\
    K (.int .i64 (i64.wrap (ap - a'))) bv))
  (Calls prog 199 #[.int .i64 O] J fun e b3=> ∃Y,e= .returned (.int .i64 Y)/\
    Calls prog 199 #[.int .i64 Q] b3 fun e b'=> ∃ax,e= .returned (.int .i64 ax)/\
    K (.int .i64 (i64.wrap (Y - ax))) b'))
theorem bG.ah {a_ b_ c0_ w R} (h:bG.w a_ b_ c0_ w fun v w'=>R (.returned v) w'):Calls prog 215 #[.int .i64 a_,.int .i64 b_,.pointer (some c0_)] w R:=
 aj mixed Tryz.func215 (by kernel_rfl) rfl (ann:= .ae) (F:=bG.w a_ b_ c0_ w) (fun K=>by kernel_rfl) h
def fK.w (a:Option Addr) (b:Nat) (c:Nat) (at_:Option Nat) (bx:Int) (b4:Int) (b6:Option Addr) (b5:Nat) (bv:Nat) (w:World) (K:Value->World->Prop):Prop:=
 ∀n1 w2,bc (.cells #[.int .i64 bx,.int .i64 b4,.slice b6 b5 bv] 199) w n1 w2->
 ∃bk az bY,w2.cell? ((Addr.mk n1 0 none).add 2)=some (.slice bk az bY)/\
 aH (decide ((az:Int)> (256:Int)))
 (K (.bool false) w2)
 (∃av ay a7,w2.cell? ((Addr.mk n1 0 none).add 2)=some (.slice av ay a7)/\
 Calls prog 62 #[.slice av ay a7] w2 fun e w5=> ∃r6,e= .returned (.int .i64 r6)/\
 aH (r6 !=(0:Int))
 (K (.bool false) w5)
 (∃ax aw aT,w5.cell? ((Addr.mk n1 0 none).add 2)=some (.slice ax aw aT)/\
 ∃x8,w5.cell? ((Addr.mk n1 0 none).add 0)=some (.int .i64 x8)/\
 Calls prog 151 #[.slice ax aw aT,.int .i64 x8] w5 fun e w9=> ∃ar,e= .returned (.bool ar)/\
 aH (!ar)
 (K (.bool false) w9)
 (∃Z V an,w9.cell? ((Addr.mk n1 0 none).add 2)=some (.slice Z V an)/\
   ∃X:Int->World->Nat->Prop,(∃J,X 0 w9 J)/\
   ∀U I J (_:Fr),X U I J->
   aH (decide (U< (V:Int)))
    (aV Z V U 1 fun b3=>
      ∃Y,I.cell? b3=some (.int .i64 Y)/\
      ∃a6,I.cell? ((Addr.mk n1 0 none).add 0)=some (.int .i64 a6)/\
      aH (Y==a6)
      (∃O,O<J/\X (i64.wrap (U+ (1:Int))) I O)
      (Calls prog 199 #[.int .i64 Y] I fun e a_=> ∃ag,e= .returned (.int .i64 ag)/\
        ∃Q ac,(Instr.lookup 133 (.map at_) (.int .i64 ag) false).run prog a_= .ok (.int .i64 ac) Q/\
        aH (ac==(0:Int))
        (K (.bool false) Q)
        (aV a b (i64.wrap (ac - (1:Int))) 3 fun bb=>
        ∃ap,Q.cell? (bb.add 0)=some (.int .i64 ap)/\
        aH (ap !=(i64.wrap (0 - Y)))
        (K (.bool false) Q)
        (∃O,O<J/\X (i64.wrap (U+ (1:Int))) Q O))))
    (K (.bool true) I))))
theorem fK.ah {a b c at_ a_0 a_1 a2p a2n a2c w R} (h:fK.w a b c at_ a_0 a_1 a2p a2n a2c w fun v w'=>R (.returned v) w'):Calls prog 216 #[.slice a b c,.map at_,.agg #[.int .i64 a_0,.int .i64 a_1,.slice a2p a2n a2c]] w R:=
 aj mixed Tryz.func216 (by kernel_rfl) rfl (ann:=(.aF .ae (.aF .ae (.aF (.aF .ae (.bS (.loop [(31,3)] .ae))) .ae)))) (F:=fK.w a b c at_ a_0 a_1 a2p a2n a2c w) (fun K=>by kernel_rfl) h
def dj.w (a_:Int) (b_:Int) (I:Addr) (w:World) (K:Value->World->Prop):Prop:=
 ∃a' bv b7,w.drew.cell? I=some (.slice a' bv b7)/\
 aV a' bv a_ 3 fun a2=>
 ∃x3,w.drew.cell? (a2.add 0)=some (.int .i64 x3)/\
 ∃aT bk b9,w.drew.cell? I=some (.slice aT bk b9)/\
 aV aT bk b_ 3 fun a5=>
 ∃x6,w.drew.cell? (a5.add 0)=some (.int .i64 x6)/\
 aH (x3 !=x6)
 (∃bb a7 b6,w.drew.drew.cell? I=some (.slice bb a7 b6)/\
   aV bb a7 a_ 3 fun a8=>
   ∃x9,w.drew.drew.cell? (a8.add 0)=some (.int .i64 x9)/\
   ∃Z X bx,w.drew.drew.cell? I=some (.slice Z X bx)/\
   aV Z X b_ 3 fun b3=>
   ∃aw,w.drew.drew.cell? (b3.add 0)=some (.int .i64 aw)/\
   K (.int .i64 (i64.wrap (x9 - aw))) w.drew.drew)
 (∃Y ac an,w.drew.drew.cell? I=some (.slice Y ac an)/\
   aV Y ac a_ 3 fun b8=>
   ∃bY,w.drew.drew.cell? (b8.add 1)=some (.int .i64 bY)/\
   ∃Q J ay,w.drew.drew.cell? I=some (.slice Q J ay)/\
   aV Q J b_ 3 fun b4=>
   ∃a6,w.drew.drew.cell? (b4.add 1)=some (.int .i64 a6)/\
   aH (bY !=a6)
   (∃O U ax,w.drew.drew.drew.cell? I=some (.slice O U ax)/\
     aV O U a_ 3 fun b5=>
     ∃av,w.drew.drew.drew.cell? (b5.add 1)=some (.int .i64 av)/\
     ∃V aa az,w.drew.drew.drew.cell? I=some (.slice V aa az)/\
     aV V aa b_ 3 fun b'=>
     ∃ap,w.drew.drew.drew.cell? (b'.add 1)=some (.int .i64 ap)/\
     K (.int .i64 (i64.wrap (av - ap))) w.drew.drew.drew)
   (K (.int .i64 (i64.wrap (b_ - a_))) w.drew.drew))
theorem dj.ah {a_ b_ c0_ w R} (h:dj.w a_ b_ c0_ w fun v w'=>R (.returned v) w'):Calls prog 217 #[.int .i64 a_,.int .i64 b_,.pointer (some c0_)] w R:=
 aj mixed Tryz.func217 (by kernel_rfl) rfl (ann:= .ae) (F:=dj.w a_ b_ c0_ w) (fun K=>by kernel_rfl) h
end Go.Proofs.YtenmibfmhccmiaaGreat.W
