/- The functions that the statements reach, printed as what the frame asks of them, each checked by the kernel against the loaded text. -/
import Derived.Test.YtenmibfmhccmiaaGreatProg
import Derived.Test.YtenmibfmhccmiaaGreatFwRange2
namespace Go.Proofs.YtenmibfmhccmiaaGreat.W
open Go Go.Fw Go.Proofs
open Go.Proofs.Tryz (prog)
open Go.IntKind (i64)
set_option maxRecDepth 100000
theorem mixed:Tryz.prog.follows .mixedOrders=true:=by kernel_rfl
abbrev bQ.id:FuncId:=11
abbrev jo.id:FuncId:=16
abbrev dy.id:FuncId:=21
abbrev eP.id:FuncId:=23
abbrev eQ.id:FuncId:=24
abbrev eX.id:FuncId:=33
abbrev eS.id:FuncId:=34
abbrev eO.id:FuncId:=35
abbrev cL.id:FuncId:=36
abbrev iH.id:FuncId:=37
abbrev jj.id:FuncId:=38
abbrev js.id:FuncId:=39
abbrev jv.id:FuncId:=40
abbrev dU.id:FuncId:=42
abbrev cK.id:FuncId:=43
abbrev ie.id:FuncId:=48
abbrev iN.id:FuncId:=49
abbrev lP.id:FuncId:=50
abbrev fY.id:FuncId:=51
abbrev gM.id:FuncId:=52
abbrev ky.id:FuncId:=53
abbrev lW.id:FuncId:=54
abbrev gN.id:FuncId:=55
abbrev aN.id:FuncId:=59
abbrev dv.id:FuncId:=61
abbrev kw.id:FuncId:=62
abbrev ff.id:FuncId:=63
abbrev eG.id:FuncId:=64
abbrev bD.id:FuncId:=68
abbrev cG.id:FuncId:=70
abbrev jt.id:FuncId:=73
abbrev cJ.id:FuncId:=75
abbrev mr.id:FuncId:=76
abbrev lU.id:FuncId:=77
abbrev ji.id:FuncId:=78
abbrev dQ.id:FuncId:=79
abbrev cA.id:FuncId:=80
abbrev eK.id:FuncId:=81
abbrev dY.id:FuncId:=82
abbrev dW.id:FuncId:=83
abbrev bH.id:FuncId:=84
abbrev bX.id:FuncId:=85
abbrev c9.id:FuncId:=86
abbrev eh.id:FuncId:=88
abbrev fz.id:FuncId:=89
abbrev fB.id:FuncId:=91
abbrev jx.id:FuncId:=93
abbrev kI.id:FuncId:=94
abbrev gB.id:FuncId:=96
abbrev cC.id:FuncId:=97
abbrev aL.id:FuncId:=98
abbrev oC.id:FuncId:=99
abbrev fF.id:FuncId:=100
abbrev ee.id:FuncId:=105
abbrev fC.id:FuncId:=106
abbrev fS.id:FuncId:=108
abbrev qW.id:FuncId:=109
abbrev bn.id:FuncId:=112
abbrev f_.id:FuncId:=113
abbrev fZ.id:FuncId:=114
abbrev fW.id:FuncId:=117
abbrev dz.id:FuncId:=118
abbrev kA.id:FuncId:=119
abbrev eY.id:FuncId:=120
abbrev dg.id:FuncId:=121
abbrev dK.id:FuncId:=122
abbrev c6.id:FuncId:=123
abbrev c_.id:FuncId:=124
abbrev dA.id:FuncId:=125
abbrev d_.id:FuncId:=126
abbrev dJ.id:FuncId:=127
abbrev dS.id:FuncId:=128
abbrev eW.id:FuncId:=129
abbrev kC.id:FuncId:=130
abbrev jw.id:FuncId:=131
abbrev dX.id:FuncId:=132
abbrev dC.id:FuncId:=133
abbrev iJ.id:FuncId:=135
abbrev fV.id:FuncId:=136
abbrev bL.id:FuncId:=137
abbrev bu.id:FuncId:=138
abbrev fX.id:FuncId:=139
abbrev fe.id:FuncId:=141
abbrev fG.id:FuncId:=142
abbrev fR.id:FuncId:=143
abbrev dw.id:FuncId:=144
abbrev bJ.id:FuncId:=145
abbrev c8.id:FuncId:=146
abbrev dE.id:FuncId:=147
abbrev hG.id:FuncId:=148
abbrev c4.id:FuncId:=149
abbrev bV.id:FuncId:=151
abbrev cr.id:FuncId:=153
abbrev eM.id:FuncId:=154
abbrev fE.id:FuncId:=155
abbrev fQ.id:FuncId:=156
abbrev cI.id:FuncId:=157
abbrev fJ.id:FuncId:=158
abbrev bO.id:FuncId:=159
abbrev iS.id:FuncId:=160
abbrev cx.id:FuncId:=161
abbrev gi.id:FuncId:=162
abbrev ju.id:FuncId:=163
abbrev gL.id:FuncId:=164
abbrev gZ.id:FuncId:=165
abbrev hZ.id:FuncId:=166
abbrev dG.id:FuncId:=167
abbrev dI.id:FuncId:=168
abbrev eo.id:FuncId:=169
abbrev iB.id:FuncId:=171
abbrev iL.id:FuncId:=172
abbrev gK.id:FuncId:=173
abbrev cY.id:FuncId:=174
abbrev iQ.id:FuncId:=175
abbrev kL.id:FuncId:=178
abbrev cu.id:FuncId:=179
abbrev dZ.id:FuncId:=180
abbrev cB.id:FuncId:=181
abbrev gg.id:FuncId:=182
abbrev cW.id:FuncId:=183
abbrev c5.id:FuncId:=184
abbrev dF.id:FuncId:=186
abbrev da.id:FuncId:=188
abbrev aO.id:FuncId:=189
abbrev iU.id:FuncId:=190
abbrev ic.id:FuncId:=191
abbrev eZ.id:FuncId:=192
abbrev eV.id:FuncId:=193
abbrev cM.id:FuncId:=194
abbrev iR.id:FuncId:=195
abbrev g_.id:FuncId:=196
abbrev cw.id:FuncId:=197
abbrev dV.id:FuncId:=198
abbrev bU.id:FuncId:=199
abbrev cD.id:FuncId:=200
abbrev gU.id:FuncId:=201
abbrev iK.id:FuncId:=202
abbrev gO.id:FuncId:=203
abbrev iD.id:FuncId:=213
abbrev bG.id:FuncId:=215
abbrev fK.id:FuncId:=216
abbrev dj.id:FuncId:=217
abbrev aC:TypeId:=3
abbrev cV:TypeId:=4
abbrev jX:TypeId:=22
abbrev uO:TypeId:=25
abbrev aJ:TypeId:=28
abbrev lx:TypeId:=48
abbrev ly:TypeId:=74
abbrev bo:TypeId:=79
abbrev qh:TypeId:=105
abbrev gE:TypeId:=133
abbrev qI:TypeId:=140
abbrev uU:TypeId:=144
abbrev gk:TypeId:=145
abbrev qg:TypeId:=147
abbrev i':TypeId:=151
abbrev sI:TypeId:=166
abbrev pe:TypeId:=182
abbrev ck:TypeId:=184
abbrev ra:TypeId:=186
abbrev Br:TypeId:=188
abbrev nh:TypeId:=194
abbrev bP:TypeId:=199
def jB:ByteArray:=(ByteArray.mk #[0,1,2,2,3,3,3,3,4,4,4,4,4,4,4,4,5,5,5,5,5,5,5,5,5,5,5,5,5,5,5,5,6,6,6,6,6,6,6,6,6,6,6,6,6,6,6,6,6,6,6,6,6,6,6,6,6,6,6,6,6,6,6,6,7,7,7,7,7,7,7,7,7,7,7,7,7,7,7,7,7,7,7,7,7,7,7,7,7,7,7,7,7,7,7,7,7,7,7,7,7,7,7,7,7,7,7,7,7,7,7,7,7,7,7,7,7,7,7,7,7,7,7,7,7,7,7,7,8,8,8,8,8,8,8,8,8,8,8,8,8,8,8,8,8,8,8,8,8,8,8,8,8,8,8,8,8,8,8,8,8,8,8,8,8,8,8,8,8,8,8,8,8,8,8,8,8,8,8,8,8,8,8,8,8,8,8,8,8,8,8,8,8,8,8,8,8,8,8,8,8,8,8,8,8,8,8,8,8,8,8,8,8,8,8,8,8,8,8,8,8,8,8,8,8,8,8,8,8,8,8,8,8,8,8,8,8,8,8,8,8,8,8,8,8,8,8,8,8,8,8,8,8,8,8,8])
def bQ.w (eA:Int) (e2:Option Addr) (eL:Nat) (eT:Nat) (eH:Int) (e6:Int) (e3:Int) (w:World) (K:Value->World->Prop):Prop:=
 ∀n1 w2,bc (.cells #[.int .i64 eA,.slice e2 eL eT] 24) w n1 w2->
 ∀n3 w4,bc (.cells #[.int .i64 eH,.int .i64 e6,.int .i64 e3] 55) w2 n3 w4->
 ∃x5 cT ep du,aD w4 (Addr.mk n1 0 none) 0 [.int .i64 x5,.slice cT ep du]/\
 Calls prog 34 #[.agg #[.int .i64 x5,.slice cT ep du]] w4 fun e w7=> ∃r8,e= .returned (.bool r8)/\
 aH (!r8)
 (Calls prog 36 #[] w7 fun e w9=> ∃cb,e= .returned (.bool cb)/\
 K (.bool cb) w9)
 (∃cm d9 ej,aD w7 (Addr.mk n3 0 none) 0 [.int .i64 cm,.int .i64 d9,.int .i64 ej]/\
 Calls prog 35 #[.agg #[.int .i64 cm,.int .i64 d9,.int .i64 ej]] w7 fun e et=> ∃c1,e= .returned (.bool c1)/\
 aH (!c1)
 (Calls prog 36 #[] et fun e ez=> ∃d',e= .returned (.bool d')/\
   K (.bool d') ez)
 (∃V,af ((Addr.mk n3 0 none).add 0) 0 [.int .i64 (-1)] et V/\
   ∃eu aT Y ay,aD V (Addr.mk n1 0 none) 0 [.int .i64 eu,.slice aT Y ay]/\
   ∃d5 er el,aD V (Addr.mk n3 0 none) 0 [.int .i64 d5,.int .i64 er,.int .i64 el]/\
   Calls prog 37 #[.agg #[.int .i64 eu,.slice aT Y ay],.agg #[.int .i64 d5,.int .i64 er,.int .i64 el]] V fun e eR=> ∃b' aw az a6 bY av ar ec es dk c3 cp,e= .returned (.tuple #[.agg #[.int .i64 b',.slice aw az a6,.slice bY av ar,.int .i64 ec,.int .i64 es,.int .i64 dk,.int .i64 c3],.int .i64 cp])/\
   ∀I cc,bc (.cells #[.int .i64 0,.slice none 0 0,.slice none 0 0,.int .i64 0,.int .i64 0,.int .i64 0,.int .i64 0] 58) eR I cc->
   ∃J,af (Addr.mk I 0 none) 0 [.int .i64 b',.slice aw az a6,.slice bY av ar,.int .i64 ec,.int .i64 es,.int .i64 dk,.int .i64 c3] cc J/\
   aH (cp !=(0:Int))
   (K (.bool false) J)
   (∃dT,J.cell? ((Addr.mk I 0 none).add 3)=some (.int .i64 dT)/\
   aH (decide (dT< (0:Int)))
   (K (.bool false) J)
   (∃ek,J.cell? ((Addr.mk I 0 none).add 4)=some (.int .i64 ek)/\
   aH (decide (ek< (0:Int)))
   (K (.bool false) J)
   (∃eg,J.cell? ((Addr.mk I 0 none).add 5)=some (.int .i64 eg)/\
   aH (decide (eg< (0:Int)))
   (K (.bool false) J)
   (∃ed,J.cell? ((Addr.mk I 0 none).add 6)=some (.int .i64 ed)/\
   aH (decide (ed< (0:Int)))
   (K (.bool false) J)
   (∃en b5 Z ap,aD J (Addr.mk n1 0 none) 0 [.int .i64 en,.slice b5 Z ap]/\
     Calls prog 33 #[.agg #[.int .i64 en,.slice b5 Z ap]] J fun e O=> ∃dq c0 b_ eb,e= .returned (.tuple #[.slice dq c0 b_,.bool eb])/\
     aH eb
     (∃dd,O.cell? ((Addr.mk I 0 none).add 0)=some (.int .i64 dd)/\
       aH (dd==(1:Int))
       (∃a' bk b3,O.cell? ((Addr.mk I 0 none).add 1)=some (.slice a' bk b3)/\
       ∃c7,O.cell? ((Addr.mk n1 0 none).add 0)=some (.int .i64 c7)/\
       Calls prog 42 #[.slice a' bk b3,.int .i64 c7] O fun e Q=> ∃dp,e= .returned (.bool dp)/\
       aH dp
       (∃ef ag an a7,aD Q (Addr.mk n1 0 none) 0 [.int .i64 ef,.slice ag an a7]/\
       ∃bb ax a8,Q.cell? ((Addr.mk I 0 none).add 1)=some (.slice bb ax a8)/\
       Calls prog 43 #[.agg #[.int .i64 ef,.slice ag an a7],.slice bb ax a8] Q fun e U=> ∃b8,e= .returned (.bool b8)/\
       aH b8
       (∃ew aa d4,U.cell? ((Addr.mk I 0 none).add 2)=some (.slice ew aa d4)/\
       aH ((aa:Int)==(0:Int))
       (Calls prog 36 #[] U fun e eN=> ∃b9,e= .returned (.bool b9)/\
       K (.bool b9) eN)
       (K (.bool false) U))
       (K (.bool false) U))
       (K (.bool false) Q))
       (K (.bool false) O))
     (∃ei,O.cell? ((Addr.mk I 0 none).add 0)=some (.int .i64 ei)/\
       aH (ei==(2:Int))
       (∃c2 X d8,O.cell? ((Addr.mk I 0 none).add 1)=some (.slice c2 X d8)/\
       aH ((X:Int)==(0:Int))
       (∃ce bx a_ ac,aD O (Addr.mk n1 0 none) 0 [.int .i64 ce,.slice bx a_ ac]/\
       ∃b6 b4 bv,O.cell? ((Addr.mk I 0 none).add 2)=some (.slice b6 b4 bv)/\
       Calls prog 16 #[.agg #[.int .i64 ce,.slice bx a_ ac],.slice b6 b4 bv] O fun e ea=> ∃dc,e= .returned (.bool dc)/\
       aH dc
       (Calls prog 36 #[] ea fun e e1=> ∃cg,e= .returned (.bool cg)/\
       K (.bool cg) e1)
       (K (.bool false) ea))
       (K (.bool false) O))
       (K (.bool false) O)))))))))
theorem bQ.ah {f_0 f1p f1n f1c s_0 s_1 s_2 w R} (h:bQ.w f_0 f1p f1n f1c s_0 s_1 s_2 w fun v w'=>R (.returned v) w'):Calls prog 11 #[.agg #[.int .i64 f_0,.slice f1p f1n f1c],.agg #[.int .i64 s_0,.int .i64 s_1,.int .i64 s_2]] w R:=
 aj mixed Tryz.func11 (by kernel_rfl) rfl (ann:= .ae) (F:=bQ.w f_0 f1p f1n f1c s_0 s_1 s_2 w) (fun K=>by kernel_rfl) h
def jo.w (d5:Int) (ea:Option Addr) (d9:Nat) (d':Nat) (a:Option Addr) (b:Nat) (c:Nat) (w:World) (K:Value->World->Prop):Prop:=
 ∀n1 w2,bc (.cells #[.int .i64 d5,.slice ea d9 d'] 24) w n1 w2->
 ∃x3 cT dp dd,aD w2 (Addr.mk n1 0 none) 0 [.int .i64 x3,.slice cT dp dd]/\
 Calls prog 48 #[.agg #[.int .i64 x3,.slice cT dp dd]] w2 fun e w5=> ∃r6,e= .returned (.int .i64 r6)/\
 aH (r6 !=(0:Int))
 (K (.bool false) w5)
 (Calls prog 49 #[.slice a b c] w5 fun e w7=> ∃r8,e= .returned (.int .i64 r8)/\
 aH (r8 !=(0:Int))
 (K (.bool false) w7)
 (Calls prog 50 #[.slice a b c] w7 fun e w9=> ∃cb,e= .returned (.int .i64 cb)/\
   aH (decide (cb< (0:Int)))
   (K (.bool false) w9)
   (∃c2 aT b6 b8,aD w9 (Addr.mk n1 0 none) 0 [.int .i64 c2,.slice aT b6 b8]/\
     Calls prog 51 #[.agg #[.int .i64 c2,.slice aT b6 b8],.slice a b c] w9 fun e cm=> ∃dc,e= .returned (.int .i64 dc)/\
     ∃du b3 aa an,aD cm (Addr.mk n1 0 none) 0 [.int .i64 du,.slice b3 aa an]/\
     Calls prog 52 #[.agg #[.int .i64 du,.slice b3 aa an]] cm fun e ed=> ∃ay bb a',e= .returned (.slice ay bb a')/\
     pP a b c 2 none (some (i64.wrap (cb+ (1:Int)))) none fun cg a6 ei=>
     ∃Y:Option Addr->Nat->Nat->Int->World->Nat->Prop,(∃X,Y ay bb a' 0 ed X)/\
     ∀O I Q U Z X (_:Fr),Y O I Q U Z X->
     aH (decide (U< (a6:Int)))
      (aV cg a6 U 2 fun ec=>
        ∃dk b4 aw ax,aD Z ec 0 [.bool dk,.slice b4 aw ax]/\
        ∀n29 c3,bc (.cells #[.bool false,.slice none 0 0] 48) Z n29 c3->
        ∃J,af (Addr.mk n29 0 none) 0 [.bool dk,.slice b4 aw ax] c3 J/\
        ∃dT,J.cell? ((Addr.mk n29 0 none).add 0)=some (.bool dT)/\
        aH dT
        (∃ac ar bx,J.cell? ((Addr.mk n29 0 none).add 1)=some (.slice ac ar bx)/\
          Calls prog 53 #[.slice O I Q,.slice ac ar bx] J fun e d8=> ∃ap az bY,e= .returned (.slice ap az bY)/\
          ∃V,V<X/\Y ap az bY (i64.wrap (U+ (1:Int))) d8 V)
        (∃cc:World->Prop,cc J.drew/\
          aH (decide ((I:Int)>=(262144:Int)))
          (K (.bool false) J.drew)
          (Calls prog 55 #[.slice O I Q] J.drew fun e dq=> ∃a7 b' bk,e= .returned (.slice a7 b' bk)/\
          cc dq/\∃b9 a8 bv,e_ cc ((Addr.mk n29 0 none).add 1) (.slice b9 a8 bv)/\
          Calls prog 54 #[.agg #[.int .i64 dc,.slice a7 b' bk],.slice b9 a8 bv] dq fun e ce=> ∃c7,e= .returned (.bool c7)/\
          aH (!c7)
          (K (.bool false) ce)
          (∃a_ b_ av,ce.cell? ((Addr.mk n29 0 none).add 1)=some (.slice a_ b_ av)/\
            ∀c0 cp,bc (.cells #[.slice a_ b_ av,.bool true,.int .i64 U] 79) ce c0 cp->
            ∃c1 ag b7 b5,(Builtin.append_ #[74,74] 74 #[.slice O I Q,.slice (some (Addr.mk c0 0 none)) 1 1]).run prog cp= .ok (.slice ag b7 b5) c1/\
            ∃V,V<X/\Y ag b7 b5 (i64.wrap (U+ (1:Int))) c1 V))))
      (K (.bool true) Z))))
theorem jo.ah {f_0 f1p f1n f1c a b c w R} (h:jo.w f_0 f1p f1n f1c a b c w fun v w'=>R (.returned v) w'):Calls prog 16 #[.agg #[.int .i64 f_0,.slice f1p f1n f1c],.slice a b c] w R:=
 aj mixed Tryz.func16 (by kernel_rfl) rfl (ann:=(.aF .ae (.aF .ae (.aF .ae (.aF .ae (.aF .ae (.aF .ae (.aF (.aF .ae (.bS (.loop [(7,74),(32,3)] (.aF .ae (.aF .ae (.aF (.bS (.aF .ae (.aF .ae (.aF (.aF .dm .ae) .ae)))) .ae)))))) .ae)))))))) (F:=jo.w f_0 f1p f1n f1c a b c w) (fun K=>by kernel_rfl) h
def dy.w (X:Int) (U:Option Addr) (V:Nat) (ac:Nat) (w:World) (K:Value->World->Prop):Prop:=
 ∀n1 w2,bc (.cells #[.int .i64 X,.slice U V ac] 24) w n1 w2->
 ∃x3 O J Q,aD w2 (Addr.mk n1 0 none) 0 [.int .i64 x3,.slice O J Q]/\
 Calls prog 61 #[.agg #[.int .i64 x3,.slice O J Q]] w2 fun e Y=> ∃r6,e= .returned (.bool r6)/\
 aH r6
 (∃Z I aa,Y.cell? ((Addr.mk n1 0 none).add 1)=some (.slice Z I aa)/\
 K (.bool (decide ((I:Int)<=(40:Int)))) Y)
 (K (.bool false) Y)
theorem dy.ah {f_0 f1p f1n f1c w R} (h:dy.w f_0 f1p f1n f1c w fun v w'=>R (.returned v) w'):Calls prog 21 #[.agg #[.int .i64 f_0,.slice f1p f1n f1c]] w R:=
 aj mixed Tryz.func21 (by kernel_rfl) rfl (ann:= .ae) (F:=dy.w f_0 f1p f1n f1c w) (fun K=>by kernel_rfl) h
def eP.w (b':Int) (b_:Option Addr) (cg:Nat) (cT:Nat) (w:World) (K:Value->World->Prop):Prop:=
 ∀V w2,bc (.cells #[.int .i64 b',.slice b_ cg cT] 24) w V w2->
 ∃x3,w2.cell? ((Addr.mk V 0 none).add 0)=some (.int .i64 x3)/\
 aH (decide (x3< (0:Int)))
 (K (.bool false) w2)
 (∃x4,w2.cell? ((Addr.mk V 0 none).add 0)=some (.int .i64 x4)/\
 aH (decide (x4> (1048576:Int)))
 (K (.bool false) w2)
 (∃cp bY cb,w2.cell? ((Addr.mk V 0 none).add 1)=some (.slice cp bY cb)/\
 aH (decide ((bY:Int)> (262144:Int)))
 (K (.bool false) w2)
 (∃I6:Int->World->Nat->Prop,(∃k7,I6 0 w2 k7)/\
   ∀Q O k7 (_:Fr),I6 Q O k7->
   ∃b8 ay a6,O.cell? ((Addr.mk V 0 none).add 1)=some (.slice b8 ay a6)/\
    aH (decide (Q< (ay:Int)))
    (∃av an b5,O.cell? ((Addr.mk V 0 none).add 1)=some (.slice av an b5)/\
      aV av an Q 1 fun cm=>
      ∃Y aa Z,O.cell? cm=some (.slice Y aa Z)/\
      Calls prog 24 #[.slice Y aa Z] O fun e a7=> ∃bv,e= .returned (.bool bv)/\
      aH (!bv)
      (K (.bool false) a7)
      (∃I17:Int->World->Nat->Prop,(∃k18,I17 0 a7 k18)/\
        ∀J I k18 (_:Fr),I17 J I k18->
        ∃ag ax a',I.cell? ((Addr.mk V 0 none).add 1)=some (.slice ag ax a')/\
         aV ag ax Q 1 fun c0=>
         ∃bx aw a8,I.cell? c0=some (.slice bx aw a8)/\
         aH (decide (J< (aw:Int)))
         (∃ac X b6,I.drew.cell? ((Addr.mk V 0 none).add 1)=some (.slice ac X b6)/\
           aV ac X Q 1 fun ce=>
           ∃ap ar bb,I.drew.cell? ce=some (.slice ap ar bb)/\
           aV ap ar J 1 fun c1=>
           ∃az,I.drew.cell? c1=some (.int .i64 az)/\
           (Calls prog 63 #[.int .i64 az] I.drew fun e aT=> ∃b3,e= .returned (.int .i64 b3)/\
           ∃b7,aT.cell? ((Addr.mk V 0 none).add 0)=some (.int .i64 b7)/\
           aH (decide (b3>b7))
           (K (.bool false) aT)
           (∃U,U<k18/\I17 (i64.wrap (J+ (1:Int))) aT U))/\
         (∃b4,I.drew.cell? ((Addr.mk V 0 none).add 0)=some (.int .i64 b4)/\
           Calls prog 63 #[.int .i64 az] I.drew fun e a_=> ∃bk,e= .returned (.int .i64 bk)/\
           aH (decide (bk>b4))
           (K (.bool false) a_)
           (∃U,U<k18/\I17 (i64.wrap (J+ (1:Int))) a_ U)))
         (∃k8,k8<k7/\I6 (i64.wrap (Q+ (1:Int))) I k8)))
    (K (.bool true) O))))
theorem eP.ah {f_0 f1p f1n f1c w R} (h:eP.w f_0 f1p f1n f1c w fun v w'=>R (.returned v) w'):Calls prog 23 #[.agg #[.int .i64 f_0,.slice f1p f1n f1c]] w R:=
 aj mixed Tryz.func23 (by kernel_rfl) rfl (ann:=(.aF .ae (.aF .ae (.aF (.aF .ae (.bS (.loop [(3,3)] (.aF .ae (.aF (.bS (.aF .ae (.aF .ae (.bS (.loop [(4,3)] .ae))))) .ae))))) .ae)))) (F:=eP.w f_0 f1p f1n f1c w) (fun K=>by kernel_rfl) h
def eQ.w (a:Option Addr) (b:Nat) (c:Nat) (w:World) (K:Value->World->Prop):Prop:=
 ∃Q:Int->World->Nat->Prop,(∃J,Q 0 w J)/\
 ∀I O J (_:Fr),Q I O J->
 aH (decide (I< (b:Int)))
  (aV a b I 1 fun Y=>
    ∃V,O.cell? Y=some (.int .i64 V)/\
    Calls prog 64 #[.int .i64 V] O fun e U=> ∃r9,e= .returned (.bool r9)/\
    aH (!r9)
    (K (.bool false) U)
    (∃X,X<J/\Q (i64.wrap (I+ (1:Int))) U X))
  (K (.bool (decide ((b:Int)<=(4096:Int)))) O)
theorem eQ.ah {a b c w R} (h:eQ.w a b c w fun v w'=>R (.returned v) w'):Calls prog 24 #[.slice a b c] w R:=
 aj mixed Tryz.func24 (by kernel_rfl) rfl (ann:=(.aF .ae (.aF (.aF .ae (.bS (.loop [(3,3)] .ae))) .ae))) (F:=eQ.w a b c w) (fun K=>by kernel_rfl) h
def eX.w (b6:Int) (b5:Option Addr) (b_:Nat) (cc:Nat) (w:World) (K:Value->World->Prop):Prop:=
 ∀n1 w2,bc (.cells #[.int .i64 b6,.slice b5 b_ cc] 24) w n1 w2->
 ∃I3:Int->World->Nat->Prop,(∃k4,I3 0 w2 k4)/\
 ∀I w7 k4 (_:Fr),I3 I w7 k4->
 ∃x8,w7.cell? ((Addr.mk n1 0 none).add 0)=some (.int .i64 x8)/\
  0<=x8/\aH (decide (I< (i64.wrap ((1:Int)*2 ^ (min x8.toNat (IntKind.bits .i64))))))
  (∃x9,w7.drew.cell? ((Addr.mk n1 0 none).add 0)=some (.int .i64 x9)/\
    (∃bY ay ax J,aD w7.drew (Addr.mk n1 0 none) 0 [.int .i64 bY,.slice ay ax J]/\
    Calls prog 75 #[.int .i64 x9,.int .i64 I] w7.drew fun e cb=> ∃Q ar av,e= .returned (.slice Q ar av)/\
    Calls prog 43 #[.agg #[.int .i64 bY,.slice ay ax J],.slice Q ar av] cb fun e a7=> ∃bk,e= .returned (.bool bk)/\
    aH bk
    (∃bb,a7.cell? ((Addr.mk n1 0 none).add 0)=some (.int .i64 bb)/\
      Calls prog 75 #[.int .i64 bb,.int .i64 I] a7 fun e b'=> ∃an O U,e= .returned (.slice an O U)/\
      K (.tuple #[.slice an O U,.bool true]) b')
    (∃k5,k5<k4/\I3 (i64.wrap (I+ (1:Int))) a7 k5))/\
  (Calls prog 75 #[.int .i64 x9,.int .i64 I] w7.drew fun e b3=> ∃ap ac X,e= .returned (.slice ap ac X)/\
    ∃a_ Z aw V,aD b3 (Addr.mk n1 0 none) 0 [.int .i64 a_,.slice Z aw V]/\
    Calls prog 43 #[.agg #[.int .i64 a_,.slice Z aw V],.slice ap ac X] b3 fun e a6=> ∃bv,e= .returned (.bool bv)/\
    aH bv
    (∃a',a6.cell? ((Addr.mk n1 0 none).add 0)=some (.int .i64 a')/\
      Calls prog 75 #[.int .i64 a',.int .i64 I] a6 fun e b8=> ∃Y ag aa,e= .returned (.slice Y ag aa)/\
      K (.tuple #[.slice Y ag aa,.bool true]) b8)
    (∃k5,k5<k4/\I3 (i64.wrap (I+ (1:Int))) a6 k5)))
  (K (.tuple #[.slice none 0 0,.bool false]) w7)
theorem eX.ah {f_0 f1p f1n f1c w R} (h:eX.w f_0 f1p f1n f1c w fun v w'=>R (.returned v) w'):Calls prog 33 #[.agg #[.int .i64 f_0,.slice f1p f1n f1c]] w R:=
 aj mixed Tryz.func33 (by kernel_rfl) rfl (ann:=(.aF .ae (.aF (.aF .ae (.bS (.loop [(4,3)] .ae))) .ae))) (F:=eX.w f_0 f1p f1n f1c w) (fun K=>by kernel_rfl) h
def eS.w (ag:Int) (aa:Option Addr) (ac:Nat) (ar:Nat) (w:World) (K:Value->World->Prop):Prop:=
 ∀Z w2,bc (.cells #[.int .i64 ag,.slice aa ac ar] 24) w Z w2->
 ∃x3 Q I X,aD w2 (Addr.mk Z 0 none) 0 [.int .i64 x3,.slice Q I X]/\
 Calls prog 21 #[.agg #[.int .i64 x3,.slice Q I X]] w2 fun e w5=> ∃r6,e= .returned (.bool r6)/\
 aH r6
 (∃x7 O U Y,aD w5 (Addr.mk Z 0 none) 0 [.int .i64 x7,.slice O U Y]/\
 Calls prog 23 #[.agg #[.int .i64 x7,.slice O U Y]] w5 fun e w9=> ∃J,e= .returned (.bool J)/\
 aH J
 (∃V,w9.cell? ((Addr.mk Z 0 none).add 0)=some (.int .i64 V)/\
 K (.bool (decide (V<=(10:Int)))) w9)
 (K (.bool false) w9))
 (K (.bool false) w5)
theorem eS.ah {f_0 f1p f1n f1c w R} (h:eS.w f_0 f1p f1n f1c w fun v w'=>R (.returned v) w'):Calls prog 34 #[.agg #[.int .i64 f_0,.slice f1p f1n f1c]] w R:=
 aj mixed Tryz.func34 (by kernel_rfl) rfl (ann:= .ae) (F:=eS.w f_0 f1p f1n f1c w) (fun K=>by kernel_rfl) h
def eO.w (J:Int) (O:Int) (Q:Int) (w:World) (K:Value->World->Prop):Prop:=
 ∀I w2,bc (.cells #[.int .i64 J,.int .i64 O,.int .i64 Q] 55) w I w2->
 ∃V,w2.cell? ((Addr.mk I 0 none).add 1)=some (.int .i64 V)/\
 aH (decide (V>=(1:Int)))
 (∃U,w2.cell? ((Addr.mk I 0 none).add 1)=some (.int .i64 U)/\
 aH (decide (U<=(1048576:Int)))
 (∃X,w2.cell? ((Addr.mk I 0 none).add 2)=some (.int .i64 X)/\
 aH (decide (X>=(1:Int)))
 (∃Y,w2.cell? ((Addr.mk I 0 none).add 2)=some (.int .i64 Y)/\
 K (.bool (decide (Y<=(1048576:Int)))) w2)
 (K (.bool false) w2))
 (K (.bool false) w2))
 (K (.bool false) w2)
theorem eO.ah {s_0 s_1 s_2 w R} (h:eO.w s_0 s_1 s_2 w fun v w'=>R (.returned v) w'):Calls prog 35 #[.agg #[.int .i64 s_0,.int .i64 s_1,.int .i64 s_2]] w R:=
 aj mixed Tryz.func35 (by kernel_rfl) rfl (ann:= .ae) (F:=eO.w s_0 s_1 s_2 w) (fun K=>by kernel_rfl) h
def cL.w (w:World) (K:Value->World->Prop):Prop:=
 ∀n1 w2,bc (.cells #[.int .i64 1,.int .i64 2] 3) w n1 w2->
 ∀n3 w4,bc (.cells #[.int .i64 (-1),.int .i64 2] 3) w2 n3 w4->
 ∀n5 w6,bc (.cells #[.int .i64 1,.int .i64 (-2)] 3) w4 n5 w6->
 ∀n7 w8,bc (.cells #[.int .i64 (-1),.int .i64 (-2)] 3) w6 n7 w8->
 ∀n9 aT,bc (.cells #[.slice (some (Addr.mk n1 0 none)) 2 2,.slice (some (Addr.mk n3 0 none)) 2 2,.slice (some (Addr.mk n5 0 none)) 2 2,.slice (some (Addr.mk n7 0 none)) 2 2] 28) w8 n9 aT->
 ∀ag bv,bc (.cells #[.int .i64 0,.slice none 0 0] 24) aT ag bv->
 ∃ac,af (Addr.mk ag 0 none) 0 [.int .i64 2,.slice (some (Addr.mk n9 0 none)) 4 4] bv ac/\
 ∃a6 X Y V,aD ac (Addr.mk ag 0 none) 0 [.int .i64 a6,.slice X Y V]/\
 Calls prog 37 #[.agg #[.int .i64 a6,.slice X Y V],.agg #[.int .i64 (-1),.int .i64 4,.int .i64 4]] ac fun e bY=> ∃aw aa U Q Z J O ax an ar a' ay,e= .returned (.tuple #[.agg #[.int .i64 aw,.slice aa U Q,.slice Z J O,.int .i64 ax,.int .i64 an,.int .i64 ar,.int .i64 a'],.int .i64 ay])/\
 ∀n25 av,bc (.cells #[.int .i64 0,.slice none 0 0,.slice none 0 0,.int .i64 0,.int .i64 0,.int .i64 0,.int .i64 0] 58) bY n25 av->
 ∃a7,af (Addr.mk n25 0 none) 0 [.int .i64 aw,.slice aa U Q,.slice Z J O,.int .i64 ax,.int .i64 an,.int .i64 ar,.int .i64 a'] av a7/\
 ∀n28 a_,bc (.cells #[.int .i64 1,.int .i64 2] 3) a7 n28 a_->
 ∀az bk,bc (.cells #[.slice (some (Addr.mk n28 0 none)) 2 2] 28) a_ az bk->
 Calls prog 40 #[.agg #[.int .i64 2,.slice (some (Addr.mk az 0 none)) 1 1],.int .i64 9] bk fun e I=> ∃a8 bb,e= .returned (.tuple #[.int .i64 a8,.int .i64 bb])/\
 aH (ay==(0:Int))
 (∃ap,I.cell? ((Addr.mk n25 0 none).add 0)=some (.int .i64 ap)/\
 aH (ap==(2:Int))
 (aH (bb==(0:Int))
 (aH (a8==(3:Int))
 (Calls prog 39 #[] I fun e b3=> ∃bx b5 b4,e= .returned (.agg #[.int .i64 bx,.int .i64 b5,.int .i64 b4])/\
 K (.bool (decide (bx< (0:Int)))) b3)
 (K (.bool false) I))
 (K (.bool false) I))
 (K (.bool false) I))
 (K (.bool false) I)
theorem cL.ah {w R} (h:cL.w w fun v w'=>R (.returned v) w'):Calls prog 36 #[] w R:=
 aj mixed Tryz.func36 (by kernel_rfl) rfl (ann:= .ae) (F:=cL.w w) (fun K=>by kernel_rfl) h
def iH.w (hU:Int) (hY:Option Addr) (hK:Nat) (hL:Nat) (hI:Int) (h2:Int) (hR:Int) (w:World) (K:Value->World->Prop):Prop:=
 ∀n1 w2,bc (.cells #[.int .i64 hU,.slice hY hK hL] 24) w n1 w2->
 ∀n3 w4,bc (.cells #[.int .i64 hI,.int .i64 h2,.int .i64 hR] 55) w2 n3 w4->
 ∀n5 w6,bc (.cells #[.int .i64 0,.slice none 0 0,.slice none 0 0,.int .i64 0,.int .i64 0,.int .i64 0,.int .i64 0] 58) w4 n5 w6->
 ∃x7 gm gn hE,aD w6 (Addr.mk n1 0 none) 0 [.int .i64 x7,.slice gm gn hE]/\
 Calls prog 48 #[.agg #[.int .i64 x7,.slice gm gn hE]] w6 fun e w9=> ∃fA,e= .returned (.int .i64 fA)/\
 aH (fA !=(0:Int))
 (∃fk,af (Addr.mk n5 0 none) 0 [.int .i64 0,.slice none 0 0,.slice none 0 0,.int .i64 0,.int .i64 0,.int .i64 0,.int .i64 0] w9 fk/\
 ∃gw eT el b_ b9 d9 es g9 gA gb f',aD fk (Addr.mk n5 0 none) 0 [.int .i64 gw,.slice eT el b_,.slice b9 d9 es,.int .i64 g9,.int .i64 gA,.int .i64 gb,.int .i64 f']/\
 K (.tuple #[.agg #[.int .i64 gw,.slice eT el b_,.slice b9 d9 es,.int .i64 g9,.int .i64 gA,.int .i64 gb,.int .i64 f'],.int .i64 1]) fk)
 (∃hB hz hh,aD w9 (Addr.mk n3 0 none) 0 [.int .i64 hB,.int .i64 hz,.int .i64 hh]/\
 Calls prog 38 #[.agg #[.int .i64 hB,.int .i64 hz,.int .i64 hh]] w9 fun e fj=> ∃gW,e= .returned (.int .i64 gW)/\
 aH (gW !=(0:Int))
 (∃e',af (Addr.mk n5 0 none) 0 [.int .i64 0,.slice none 0 0,.slice none 0 0,.int .i64 0,.int .i64 0,.int .i64 0,.int .i64 0] fj e'/\
   ∃fv ej eR ea c7 dc ce g2 g7 fP gP,aD e' (Addr.mk n5 0 none) 0 [.int .i64 fv,.slice ej eR ea,.slice c7 dc ce,.int .i64 g2,.int .i64 g7,.int .i64 fP,.int .i64 gP]/\
   K (.tuple #[.agg #[.int .i64 fv,.slice ej eR ea,.slice c7 dc ce,.int .i64 g2,.int .i64 g7,.int .i64 fP,.int .i64 gP],.int .i64 1]) e')
 (∃a6:World->Prop,a6 fj.drew/\
   ∃g' cm e6 e4,kG a6 (Addr.mk n1 0 none) [.int .i64 g',.slice cm e6 e4]/\
   ∃g5 gu hA,kG a6 (Addr.mk n3 0 none) [.int .i64 g5,.int .i64 gu,.int .i64 hA]/\
   ∃fo,e_ a6 ((Addr.mk n1 0 none).add 0) (.int .i64 fo)/\
   ∃fb cg d8 ei,(Instr.makeSlice 28 (.int .i64 (i64.wrap (fo+ (1:Int)))) (.int .i64 (i64.wrap (fo+ (1:Int))))).run prog fj.drew= .ok (.slice cg d8 ei) fb/\
   a6 fb/\∀I fl,bc (.cells #[.int .i64 g',.slice cm e6 e4,.int .i64 g5,.int .i64 gu,.int .i64 hA,.pointer none,.pointer none,.slice cg d8 ei,.int .i64 0,.int .i64 0,.int .i64 0,.slice none 0 0,.slice none 0 0,.int .i64 0,.int .i64 0,.slice none 0 0,.slice none 0 0,.int .i64 0,.int .i64 0,.int .i64 0,.int .i64 0] 107) fb I fl->
   ∃hc e7 ey ew,aD fl (Addr.mk n1 0 none) 0 [.int .i64 hc,.slice e7 ey ew]/\
   Calls prog 76 #[.agg #[.int .i64 hc,.slice e7 ey ew]] fl fun e hW=> ∃hg hX,e= .returned (.tuple #[.pointer hg,.int .i64 hX])/\
   ∃hk,(some (Addr.mk I 0 none))=some hk/\∃fd,af (hk.add 5) 0 [.pointer hg] hW fd/\
   ∃gT,fd.cell? ((Addr.mk n1 0 none).add 0)=some (.int .i64 gT)/\
   Calls prog 77 #[.int .i64 gT] fd fun e hM=> ∃hx hP,e= .returned (.tuple #[.pointer hx,.int .i64 hP])/\
   ∃g3,(some (Addr.mk I 0 none))=some g3/\∃fa,af (g3.add 6) 0 [.pointer hx] hM fa/\
   ∃gp,fa.cell? ((Addr.mk n3 0 none).add 1)=some (.int .i64 gp)/\
   Calls prog 78 #[.int .i64 gp] fa fun e hT=> ∃fL gd fu hQ,e= .returned (.tuple #[.agg #[.int .i64 fL,.int .i64 gd,.int .i64 fu],.int .i64 hQ])/\
   ∃gv,(some (Addr.mk I 0 none))=some gv/\∃ho,af (gv.add 8) 0 [.int .i64 fL,.int .i64 gd,.int .i64 fu] hT ho/\
   ∃a_:World->Nat->Prop,(∃Q,a_ ho Q)/\
   ∀e9 Q (_:Fr),a_ e9 Q->
   ∃ga,(some (Addr.mk I 0 none))=some ga/\∃g1,e9.cell? (ga.add 5)=some (.pointer g1)/\
    Calls prog 79 #[.pointer g1] e9 fun e g8=> ∃bv,e= .returned (.int .i64 bv)/\
    ∃fi:Bool->World->Prop,(aH (decide (bv< (0:Int)))
    (Calls prog 80 #[.pointer (some (Addr.mk I 0 none))] g8 fun e hS=> ∃gy,e= .returned (.bool gy)/\
    fi (!gy) hS)
    (fi false g8))/\
    ∀gl Y (_:Fr),fi gl Y->
    aH gl
    (Calls prog 81 #[.pointer (some (Addr.mk I 0 none))] Y fun e hF=>e= .returned (.tuple #[])/\
      ∃gJ,(some (Addr.mk I 0 none))=some gJ/\∃hj c0 er dk eg eN ef g0 gc gs f1,aD hF (gJ.add 14) 0 [.int .i64 hj,.slice c0 er dk,.slice eg eN ef,.int .i64 g0,.int .i64 gc,.int .i64 gs,.int .i64 f1]/\
      ∃fq,af (Addr.mk n5 0 none) 0 [.int .i64 hj,.slice c0 er dk,.slice eg eN ef,.int .i64 g0,.int .i64 gc,.int .i64 gs,.int .i64 f1] hF fq/\
      ∃hw d5 ed ec eb e8 e1 gr gf f0 hy,aD fq (Addr.mk n5 0 none) 0 [.int .i64 hw,.slice d5 ed ec,.slice eb e8 e1,.int .i64 gr,.int .i64 gf,.int .i64 f0,.int .i64 hy]/\
      K (.tuple #[.agg #[.int .i64 hw,.slice d5 ed ec,.slice eb e8 e1,.int .i64 gr,.int .i64 gf,.int .i64 f0,.int .i64 hy],.int .i64 0]) fq)
    (aH (decide (bv< (0:Int)))
      (∃J,J<Q/\a_ Y J)
      (∃gV,(some (Addr.mk I 0 none))=some gV/\∃g4,Y.cell? (gV.add 5)=some (.pointer g4)/\
        Calls prog 82 #[.pointer g4] Y fun e O=> ∃g6,e= .returned (.int .i64 g6)/\
        aH (g6==(0:Int))
        (Calls prog 83 #[.pointer (some (Addr.mk I 0 none)),.slice none 0 0] O fun e h0=>e= .returned (.tuple #[])/\
          ∃hd,(some (Addr.mk I 0 none))=some hd/\∃bx,af ((hd.add 14).add 0) 0 [.int .i64 2] h0 bx/\
          ∃dd,(some (Addr.mk I 0 none))=some dd/\∃dT ap ac a7 b7 b3 bY ep eu e3 d',aD bx (dd.add 14) 0 [.int .i64 dT,.slice ap ac a7,.slice b7 b3 bY,.int .i64 ep,.int .i64 eu,.int .i64 e3,.int .i64 d']/\
          ∃X,af (Addr.mk n5 0 none) 0 [.int .i64 dT,.slice ap ac a7,.slice b7 b3 bY,.int .i64 ep,.int .i64 eu,.int .i64 e3,.int .i64 d'] bx X/\
          ∃cc bk az b8 ag aa b6 c1 cp et en,aD X (Addr.mk n5 0 none) 0 [.int .i64 cc,.slice bk az b8,.slice ag aa b6,.int .i64 c1,.int .i64 cp,.int .i64 et,.int .i64 en]/\
          K (.tuple #[.agg #[.int .i64 cc,.slice bk az b8,.slice ag aa b6,.int .i64 c1,.int .i64 cp,.int .i64 et,.int .i64 en],.int .i64 0]) X)
        (∃a117,(some (Addr.mk I 0 none))=some a117/\∃cT,O.drew.cell? ((a117.add 2).add 0)=some (.int .i64 cT)/\
          aH (decide (cT>=(0:Int)))
          (∃a119,(some (Addr.mk I 0 none))=some a119/\∃eA,O.drew.cell? ((a119.add 14).add 3)=some (.int .i64 eA)/\
          ∃e2,(some (Addr.mk I 0 none))=some e2/\∃eL,O.drew.cell? ((e2.add 2).add 0)=some (.int .i64 eL)/\
          aH (decide (eA>=eL))
          (∃ek,(some (Addr.mk I 0 none))=some ek/\∃a',af ((ek.add 14).add 2) 0 [.slice none 0 0] O.drew a'/\
            ∃dp,(some (Addr.mk I 0 none))=some dp/\∃du aw ax b4 av U a8 ez c3 c2 d4,aD a' (dp.add 14) 0 [.int .i64 du,.slice aw ax b4,.slice av U a8,.int .i64 ez,.int .i64 c3,.int .i64 c2,.int .i64 d4]/\
            ∃bb,af (Addr.mk n5 0 none) 0 [.int .i64 du,.slice aw ax b4,.slice av U a8,.int .i64 ez,.int .i64 c3,.int .i64 c2,.int .i64 d4] a' bb/\
            ∃cb b5 aT Z V an ar eH b' e5 dq,aD bb (Addr.mk n5 0 none) 0 [.int .i64 cb,.slice b5 aT Z,.slice V an ar,.int .i64 eH,.int .i64 b',.int .i64 e5,.int .i64 dq]/\
            K (.tuple #[.agg #[.int .i64 cb,.slice b5 aT Z,.slice V an ar,.int .i64 eH,.int .i64 b',.int .i64 e5,.int .i64 dq],.int .i64 6]) bb)
          (Calls prog 84 #[.pointer (some (Addr.mk I 0 none)),.int .i64 bv] O.drew fun e gS=>e= .returned (.tuple #[])/\
            ∃J,J<Q/\a_ gS J))
          (Calls prog 84 #[.pointer (some (Addr.mk I 0 none)),.int .i64 bv] O.drew fun e gz=>e= .returned (.tuple #[])/\
          ∃J,J<Q/\a_ gz J))))))
theorem iH.ah {f_0 f1p f1n f1c s_0 s_1 s_2 w R} (h:iH.w f_0 f1p f1n f1c s_0 s_1 s_2 w fun v w'=>R (.returned v) w'):Calls prog 37 #[.agg #[.int .i64 f_0,.slice f1p f1n f1c],.agg #[.int .i64 s_0,.int .i64 s_1,.int .i64 s_2]] w R:=
 aj mixed Tryz.func37 (by kernel_rfl) rfl (ann:=(.aF .ae (.aF .ae (.aF .dm (.aF .ae (.aF .ae (.aF .ae (.bS (.loop [] (.bS (.aF .ae (.bS (.cut [(59,4)] .ae .ae))))))))))))) (F:=iH.w f_0 f1p f1n f1c s_0 s_1 s_2 w) (fun K=>by kernel_rfl) h
def jj.w (J:Int) (O:Int) (Q:Int) (w:World) (K:Value->World->Prop):Prop:=
 ∀I w2,bc (.cells #[.int .i64 J,.int .i64 O,.int .i64 Q] 55) w I w2->
 ∃V,w2.cell? ((Addr.mk I 0 none).add 1)=some (.int .i64 V)/\
 aH (decide (V< (1:Int)))
 (K (.int .i64 1) w2)
 (∃U,w2.cell? ((Addr.mk I 0 none).add 1)=some (.int .i64 U)/\
 aH (decide (U> (1048576:Int)))
 (K (.int .i64 1) w2)
 (∃X,w2.cell? ((Addr.mk I 0 none).add 2)=some (.int .i64 X)/\
 aH (decide (X< (1:Int)))
 (K (.int .i64 1) w2)
 (∃Y,w2.cell? ((Addr.mk I 0 none).add 2)=some (.int .i64 Y)/\
 aH (decide (Y> (1048576:Int)))
 (K (.int .i64 1) w2)
 (K (.int .i64 0) w2))))
theorem jj.ah {s_0 s_1 s_2 w R} (h:jj.w s_0 s_1 s_2 w fun v w'=>R (.returned v) w'):Calls prog 38 #[.agg #[.int .i64 s_0,.int .i64 s_1,.int .i64 s_2]] w R:=
 aj mixed Tryz.func38 (by kernel_rfl) rfl (ann:= .ae) (F:=jj.w s_0 s_1 s_2 w) (fun K=>by kernel_rfl) h
def js.w (w:World) (K:Value->World->Prop):Prop:=
 ∀I w2,bc (.cells #[.int .i64 0,.int .i64 0,.int .i64 0] 55) w I w2->
 ∃w3,af (Addr.mk I 0 none) 0 [.int .i64 (-1),.int .i64 64,.int .i64 200] w2 w3/\
 ∃J O Q,aD w3 (Addr.mk I 0 none) 0 [.int .i64 J,.int .i64 O,.int .i64 Q]/\
 K (.agg #[.int .i64 J,.int .i64 O,.int .i64 Q]) w3
theorem js.ah {w R} (h:js.w w fun v w'=>R (.returned v) w'):Calls prog 39 #[] w R:=
 aj mixed Tryz.func39 (by kernel_rfl) rfl (ann:= .ae) (F:=js.w w) (fun K=>by kernel_rfl) h
def jv.w (qs:Int) (q3:Option Addr) (p_:Nat) (qb:Nat) (n_:Int) (w:World) (K:Value->World->Prop):Prop:=
 ∀n1 w2,bc (.cells #[.int .i64 qs,.slice q3 p_ qb] 24) w n1 w2->
 ∃x3 oq p7 ox,aD w2 (Addr.mk n1 0 none) 0 [.int .i64 x3,.slice oq p7 ox]/\
 Calls prog 48 #[.agg #[.int .i64 x3,.slice oq p7 ox]] w2 fun e w5=> ∃r6,e= .returned (.int .i64 r6)/\
 aH (r6 !=(0:Int))
 (K (.tuple #[.int .i64 0,.int .i64 1]) w5)
 (aH (decide (n_< (0:Int)))
 (K (.tuple #[.int .i64 0,.int .i64 1]) w5)
 (aH (decide (n_> (4096:Int)))
 (K (.tuple #[.int .i64 0,.int .i64 1]) w5)
 (∃x7,w5.cell? ((Addr.mk n1 0 none).add 0)=some (.int .i64 x7)/\
   aH (decide (x7> (4096:Int)))
   (K (.tuple #[.int .i64 0,.int .i64 6]) w5)
   (∃p' n2 q4,w5.cell? ((Addr.mk n1 0 none).add 1)=some (.slice p' n2 q4)/\
   aH (decide ((i64.wrap ((n2:Int)+n_))> (262144:Int)))
   (K (.tuple #[.int .i64 0,.int .i64 6]) w5)
   (∃W9:World->Prop,W9 w5.drew/\
     ∃m5,e_ W9 ((Addr.mk n1 0 none).add 0) (.int .i64 m5)/\
     ∃g1 gw e8,e_ W9 ((Addr.mk n1 0 none).add 1) (.slice g1 gw e8)/\
     (Calls prog 85 #[.slice g1 gw e8] w5.drew fun e nS=> ∃g' hL ho,e= .returned (.slice g' hL ho)/\
     W9 nS/\∀n14 mv,bc (.cells #[.int .i64 0,.slice none 0 0] 24) nS n14 mv->
     W9 mv/\∃pk,af (Addr.mk n14 0 none) 0 [.int .i64 m5,.slice g' hL ho] mv pk/\
     ∃I17:Int->World->Nat->Prop,(∃k18,I17 0 pk k18)/\
     ∀Q fi k18 (_:Fr),I17 Q fi k18->
     aH (decide (Q<n_))
      (∃b3:World->Prop,b3 fi.drew/\
        ∃g5 cg b_ b9,kG b3 (Addr.mk n14 0 none) [.int .i64 g5,.slice cg b_ b9]/\
        (Calls prog 39 #[] fi.drew fun e mm=> ∃m4 my mn,e= .returned (.agg #[.int .i64 m4,.int .i64 my,.int .i64 mn])/\
        b3 mm/\(Calls prog 37 #[.agg #[.int .i64 g5,.slice cg b_ b9],.agg #[.int .i64 m4,.int .i64 my,.int .i64 mn]] mm fun e qc=> ∃oy hB hH hQ kk hV j4 ob oi n9 p1 p0,e= .returned (.tuple #[.agg #[.int .i64 oy,.slice hB hH hQ,.slice kk hV j4,.int .i64 ob,.int .i64 oi,.int .i64 n9,.int .i64 p1],.int .i64 p0])/\
        ∀g4 l3,bc (.cells #[.int .i64 0,.slice none 0 0,.slice none 0 0,.int .i64 0,.int .i64 0,.int .i64 0,.int .i64 0] 58) qc g4 l3->
        b3 l3/\∃cp,af (Addr.mk g4 0 none) 0 [.int .i64 oy,.slice hB hH hQ,.slice kk hV j4,.int .i64 ob,.int .i64 oi,.int .i64 n9,.int .i64 p1] l3 cp/\
        aH (p0 !=(0:Int))
        (K (.tuple #[.int .i64 Q,.int .i64 0]) cp)
        (∃nA,cp.cell? ((Addr.mk g4 0 none).add 0)=some (.int .i64 nA)/\
        aH (nA !=(1:Int))
        (K (.tuple #[.int .i64 Q,.int .i64 0]) cp)
        (∃hx ef o0,cp.cell? ((Addr.mk g4 0 none).add 1)=some (.slice hx ef o0)/\
          ∃mu:Option Addr->Nat->Nat->Int->World->Nat->Prop,(∃g8,mu none 0 0 0 cp g8)/\
          ∀eu fo d' d4 c7 g8 (_:Fr),mu eu fo d' d4 c7 g8->
          aH (decide (d4< (ef:Int)))
           (aV hx ef d4 1 fun q1=>
             ∃o9,c7.cell? q1=some (.int .i64 o9)/\
             ∀o4 pp,bc (.cells #[.int .i64 (i64.wrap ((i64.wrap (0 - o9))* (i64.wrap (d4+ (1:Int)))))] 3) c7 o4 pp->
             ∃oc hc hd i7,(Builtin.append_ #[28,28] 28 #[.slice eu fo d',.slice (some (Addr.mk o4 0 none)) 1 1]).run prog pp= .ok (.slice hc hd i7) oc/\
             ∃nq,nq<g8/\mu hc hd i7 (i64.wrap (d4+ (1:Int))) oc nq)
           (∃j1 g9 h',c7.cell? ((Addr.mk n14 0 none).add 1)=some (.slice j1 g9 h')/\
             ∀pg o',bc (.cells #[.slice eu fo d'] 28) c7 pg o'->
             ∃n8 hw hg hK,(Builtin.append_ #[22,22] 22 #[.slice j1 g9 h',.slice (some (Addr.mk pg 0 none)) 1 1]).run prog o'= .ok (.slice hw hg hK) n8/\
             ∃o8,af ((Addr.mk n14 0 none).add 1) 0 [.slice hw hg hK] n8 o8/\
             ∃az,az<k18/\I17 (i64.wrap (Q+ (1:Int))) o8 az))))/\
      (∀g7 l5,bc (.cells #[.int .i64 0,.slice none 0 0,.slice none 0 0,.int .i64 0,.int .i64 0,.int .i64 0,.int .i64 0] 58) mm g7 l5->
        b3 l5/\Calls prog 37 #[.agg #[.int .i64 g5,.slice cg b_ b9],.agg #[.int .i64 m4,.int .i64 my,.int .i64 mn]] l5 fun e qw=> ∃ov li lf kz k9 k4 k' nk o6 ny nx p5,e= .returned (.tuple #[.agg #[.int .i64 ov,.slice li lf kz,.slice k9 k4 k',.int .i64 nk,.int .i64 o6,.int .i64 ny,.int .i64 nx],.int .i64 p5])/\
        ∃cT,af (Addr.mk g7 0 none) 0 [.int .i64 ov,.slice li lf kz,.slice k9 k4 k',.int .i64 nk,.int .i64 o6,.int .i64 ny,.int .i64 nx] qw cT/\
        aH (p5 !=(0:Int))
        (K (.tuple #[.int .i64 Q,.int .i64 0]) cT)
        (∃n3,cT.cell? ((Addr.mk g7 0 none).add 0)=some (.int .i64 n3)/\
        aH (n3 !=(1:Int))
        (K (.tuple #[.int .i64 Q,.int .i64 0]) cT)
        (∃hR en ou,cT.cell? ((Addr.mk g7 0 none).add 1)=some (.slice hR en ou)/\
          ∃m6:Option Addr->Nat->Nat->Int->World->Nat->Prop,(∃g3,m6 none 0 0 0 cT g3)/\
          ∀ey gV e9 es gv g3 (_:Fr),m6 ey gV e9 es gv g3->
          aH (decide (es< (en:Int)))
           (aV hR en es 1 fun q0=>
             ∃oj,gv.cell? q0=some (.int .i64 oj)/\
             ∀p4 pn,bc (.cells #[.int .i64 (i64.wrap ((i64.wrap (0 - oj))* (i64.wrap (es+ (1:Int)))))] 3) gv p4 pn->
             ∃p3 h_ ki j0,(Builtin.append_ #[28,28] 28 #[.slice ey gV e9,.slice (some (Addr.mk p4 0 none)) 1 1]).run prog pn= .ok (.slice h_ ki j0) p3/\
             ∃oL,oL<g3/\m6 h_ ki j0 (i64.wrap (es+ (1:Int))) p3 oL)
           (∃k8 k5 j3,gv.cell? ((Addr.mk n14 0 none).add 1)=some (.slice k8 k5 j3)/\
             ∀ol nL,bc (.cells #[.slice ey gV e9] 28) gv ol nL->
             ∃n7 kl hW lr,(Builtin.append_ #[22,22] 22 #[.slice k8 k5 j3,.slice (some (Addr.mk ol 0 none)) 1 1]).run prog nL= .ok (.slice kl hW lr) n7/\
             ∃o7,af ((Addr.mk n14 0 none).add 1) 0 [.slice kl hW lr] n7 o7/\
             ∃az,az<k18/\I17 (i64.wrap (Q+ (1:Int))) o7 az)))))/\
      (∀g6 l8,bc (.cells #[.int .i64 0,.slice none 0 0,.slice none 0 0,.int .i64 0,.int .i64 0,.int .i64 0,.int .i64 0] 58) fi.drew g6 l8->
        b3 l8/\Calls prog 39 #[] l8 fun e o5=> ∃nm oo n4,e= .returned (.agg #[.int .i64 nm,.int .i64 oo,.int .i64 n4])/\
        b3 o5/\Calls prog 37 #[.agg #[.int .i64 g5,.slice cg b_ b9],.agg #[.int .i64 nm,.int .i64 oo,.int .i64 n4]] o5 fun e q2=> ∃j5 d9 du eL gu gl eR i0 k3 hy h4 hI,e= .returned (.tuple #[.agg #[.int .i64 j5,.slice d9 du eL,.slice gu gl eR,.int .i64 i0,.int .i64 k3,.int .i64 hy,.int .i64 h4],.int .i64 hI])/\
        ∃Y,af (Addr.mk g6 0 none) 0 [.int .i64 j5,.slice d9 du eL,.slice gu gl eR,.int .i64 i0,.int .i64 k3,.int .i64 hy,.int .i64 h4] q2 Y/\
        aH (hI !=(0:Int))
        (K (.tuple #[.int .i64 Q,.int .i64 0]) Y)
        (∃h7,Y.cell? ((Addr.mk g6 0 none).add 0)=some (.int .i64 h7)/\
        aH (h7 !=(1:Int))
        (K (.tuple #[.int .i64 Q,.int .i64 0]) Y)
        (∃fk b4 ma,Y.cell? ((Addr.mk g6 0 none).add 1)=some (.slice fk b4 ma)/\
          ∃ep:Option Addr->Nat->Nat->Int->World->Nat->Prop,(∃cm,ep none 0 0 0 Y cm)/\
          ∀bx bv b7 ar aw cm (_:Fr),ep bx bv b7 ar aw cm->
          aH (decide (ar< (b4:Int)))
           (aV fk b4 ar 1 fun a117=>
             ∃j_,aw.cell? a117=some (.int .i64 j_)/\
             ∀n119 kf,bc (.cells #[.int .i64 (i64.wrap ((i64.wrap (0 - j_))* (i64.wrap (ar+ (1:Int)))))] 3) aw n119 kf->
             ∃kh gP fd gp,(Builtin.append_ #[28,28] 28 #[.slice bx bv b7,.slice (some (Addr.mk n119 0 none)) 1 1]).run prog kf= .ok (.slice gP fd gp) kh/\
             ∃hT,hT<cm/\ep gP fd gp (i64.wrap (ar+ (1:Int))) kh hT)
           (∃er ga ek,aw.cell? ((Addr.mk n14 0 none).add 1)=some (.slice er ga ek)/\
             ∀n124 hk,bc (.cells #[.slice bx bv b7] 28) aw n124 hk->
             ∃i_ dc gc gz,(Builtin.append_ #[22,22] 22 #[.slice er ga ek,.slice (some (Addr.mk n124 0 none)) 1 1]).run prog hk= .ok (.slice dc gc gz) i_/\
             ∃i1,af ((Addr.mk n14 0 none).add 1) 0 [.slice dc gc gz] i_ i1/\
             ∃az,az<k18/\I17 (i64.wrap (Q+ (1:Int))) i1 az)))))
      (K (.tuple #[.int .i64 n_,.int .i64 0]) fi))/\
   (∀n129 c3,bc (.cells #[.int .i64 0,.slice none 0 0] 24) w5.drew n129 c3->
     W9 c3/\Calls prog 85 #[.slice g1 gw e8] c3 fun e lz=> ∃c0 e' g0,e= .returned (.slice c0 e' g0)/\
     W9 lz/\∃k_,af (Addr.mk n129 0 none) 0 [.int .i64 m5,.slice c0 e' g0] lz k_/\
     ∃an:Int->World->Nat->Prop,(∃X,an 0 k_ X)/\
     ∀I ax X (_:Fr),an I ax X->
     aH (decide (I<n_))
      (∃O:World->Prop,O ax.drew/\
        ∃b' ac aa ag,kG O (Addr.mk n129 0 none) [.int .i64 b',.slice ac aa ag]/\
        (Calls prog 39 #[] ax.drew fun e f0=> ∃gf fa e6,e= .returned (.agg #[.int .i64 gf,.int .i64 fa,.int .i64 e6])/\
        O f0/\(Calls prog 37 #[.agg #[.int .i64 b',.slice ac aa ag],.agg #[.int .i64 gf,.int .i64 fa,.int .i64 e6]] f0 fun e oa=> ∃kn fl gb eT eg f1 gT j2 lm i6 i3 jN,e= .returned (.tuple #[.agg #[.int .i64 kn,.slice fl gb eT,.slice eg f1 gT,.int .i64 j2,.int .i64 lm,.int .i64 i6,.int .i64 i3],.int .i64 jN])/\
        ∀n155 c1,bc (.cells #[.int .i64 0,.slice none 0 0,.slice none 0 0,.int .i64 0,.int .i64 0,.int .i64 0,.int .i64 0] 58) oa n155 c1->
        O c1/\∃V,af (Addr.mk n155 0 none) 0 [.int .i64 kn,.slice fl gb eT,.slice eg f1 gT,.int .i64 j2,.int .i64 lm,.int .i64 i6,.int .i64 i3] c1 V/\
        aH (jN !=(0:Int))
        (K (.tuple #[.int .i64 I,.int .i64 0]) V)
        (∃h2,V.cell? ((Addr.mk n155 0 none).add 0)=some (.int .i64 h2)/\
        aH (h2 !=(1:Int))
        (K (.tuple #[.int .i64 I,.int .i64 0]) V)
        (∃el bk mq,V.cell? ((Addr.mk n155 0 none).add 1)=some (.slice el bk mq)/\
          ∃e7:Option Addr->Nat->Nat->Int->World->Nat->Prop,(∃cc,e7 none 0 0 0 V cc)/\
          ∀a8 b6 bb v164 ap cc (_:Fr),e7 a8 b6 bb v164 ap cc->
          aH (decide (v164< (bk:Int)))
           (aV el bk v164 1 fun oz=>
             ∃hY,ap.cell? oz=some (.int .i64 hY)/\
             ∀n168 hX,bc (.cells #[.int .i64 (i64.wrap ((i64.wrap (0 - hY))* (i64.wrap (v164+ (1:Int)))))] 3) ap n168 hX->
             ∃kd gs d5 e1,(Builtin.append_ #[28,28] 28 #[.slice a8 b6 bb,.slice (some (Addr.mk n168 0 none)) 1 1]).run prog hX= .ok (.slice gs d5 e1) kd/\
             ∃h6,h6<cc/\e7 gs d5 e1 (i64.wrap (v164+ (1:Int))) kd h6)
           (∃c2 fs et,ap.cell? ((Addr.mk n129 0 none).add 1)=some (.slice c2 fs et)/\
             ∀n173 lu,bc (.cells #[.slice a8 b6 bb] 28) ap n173 lu->
             ∃kq dd f' dT,(Builtin.append_ #[22,22] 22 #[.slice c2 fs et,.slice (some (Addr.mk n173 0 none)) 1 1]).run prog lu= .ok (.slice dd f' dT) kq/\
             ∃kb,af ((Addr.mk n129 0 none).add 1) 0 [.slice dd f' dT] kq kb/\
             ∃J,J<X/\an (i64.wrap (I+ (1:Int))) kb J))))/\
      (∀n178 dp,bc (.cells #[.int .i64 0,.slice none 0 0,.slice none 0 0,.int .i64 0,.int .i64 0,.int .i64 0,.int .i64 0] 58) f0 n178 dp->
        O dp/\Calls prog 37 #[.agg #[.int .i64 b',.slice ac aa ag],.agg #[.int .i64 gf,.int .i64 fa,.int .i64 e6]] dp fun e n5=> ∃k0 gW eN ew fb ed gJ h9 kT hE hA hh,e= .returned (.tuple #[.agg #[.int .i64 k0,.slice gW eN ew,.slice fb ed gJ,.int .i64 h9,.int .i64 kT,.int .i64 hE,.int .i64 hA],.int .i64 hh])/\
        ∃U,af (Addr.mk n178 0 none) 0 [.int .i64 k0,.slice gW eN ew,.slice fb ed gJ,.int .i64 h9,.int .i64 kT,.int .i64 hE,.int .i64 hA] n5 U/\
        aH (hh !=(0:Int))
        (K (.tuple #[.int .i64 I,.int .i64 0]) U)
        (∃i2,U.cell? ((Addr.mk n178 0 none).add 0)=some (.int .i64 i2)/\
        aH (i2 !=(1:Int))
        (K (.tuple #[.int .i64 I,.int .i64 0]) U)
        (∃e3 b8 mc,U.cell? ((Addr.mk n178 0 none).add 1)=some (.slice e3 b8 mc)/\
          ∃fj:Option Addr->Nat->Nat->Int->World->Nat->Prop,(∃cb,fj none 0 0 0 U cb)/\
          ∀aT a7 a6 v196 av cb (_:Fr),fj aT a7 a6 v196 av cb->
          aH (decide (v196< (b8:Int)))
           (aV e3 b8 v196 1 fun a198=>
             ∃kt,av.cell? a198=some (.int .i64 kt)/\
             ∀n200 hF,bc (.cells #[.int .i64 (i64.wrap ((i64.wrap (0 - kt))* (i64.wrap (v196+ (1:Int)))))] 3) av n200 hF->
             ∃ku fL gn ej,(Builtin.append_ #[28,28] 28 #[.slice aT a7 a6,.slice (some (Addr.mk n200 0 none)) 1 1]).run prog hF= .ok (.slice fL gn ej) ku/\
             ∃hP,hP<cb/\fj fL gn ej (i64.wrap (v196+ (1:Int))) ku hP)
           (∃gd e4 e2,av.cell? ((Addr.mk n129 0 none).add 1)=some (.slice gd e4 e2)/\
             ∀n205 hz,bc (.cells #[.slice aT a7 a6] 28) av n205 hz->
             ∃k1 d8 fq gy,(Builtin.append_ #[22,22] 22 #[.slice gd e4 e2,.slice (some (Addr.mk n205 0 none)) 1 1]).run prog hz= .ok (.slice d8 fq gy) k1/\
             ∃kr,af ((Addr.mk n129 0 none).add 1) 0 [.slice d8 fq gy] k1 kr/\
             ∃J,J<X/\an (i64.wrap (I+ (1:Int))) kr J)))))/\
      (∀n210 eb,bc (.cells #[.int .i64 0,.slice none 0 0,.slice none 0 0,.int .i64 0,.int .i64 0,.int .i64 0,.int .i64 0] 58) ax.drew n210 eb->
        O eb/\Calls prog 39 #[] eb fun e h8=> ∃kU hS ih,e= .returned (.agg #[.int .i64 kU,.int .i64 hS,.int .i64 ih])/\
        O h8/\Calls prog 37 #[.agg #[.int .i64 b',.slice ac aa ag],.agg #[.int .i64 kU,.int .i64 hS,.int .i64 ih]] h8 fun e oA=> ∃hj gr ez fv fP dq ei h3 lq hO hM lD,e= .returned (.tuple #[.agg #[.int .i64 hj,.slice gr ez fv,.slice fP dq ei,.int .i64 h3,.int .i64 lq,.int .i64 hO,.int .i64 hM],.int .i64 lD])/\
        ∃Z,af (Addr.mk n210 0 none) 0 [.int .i64 hj,.slice gr ez fv,.slice fP dq ei,.int .i64 h3,.int .i64 lq,.int .i64 hO,.int .i64 hM] oA Z/\
        aH (lD !=(0:Int))
        (K (.tuple #[.int .i64 I,.int .i64 0]) Z)
        (∃kB,Z.cell? ((Addr.mk n210 0 none).add 0)=some (.int .i64 kB)/\
        aH (kB !=(1:Int))
        (K (.tuple #[.int .i64 I,.int .i64 0]) Z)
        (∃dk b5 mz,Z.cell? ((Addr.mk n210 0 none).add 1)=some (.slice dk b5 mz)/\
          ∃eH:Option Addr->Nat->Nat->Int->World->Nat->Prop,(∃ce,eH none 0 0 0 Z ce)/\
          ∀bY a_ a' v232 ay ce (_:Fr),eH bY a_ a' v232 ay ce->
          aH (decide (v232< (b5:Int)))
           (aV dk b5 v232 1 fun a234=>
             ∃k6,ay.cell? a234=some (.int .i64 k6)/\
             ∀n236 k7,bc (.cells #[.int .i64 (i64.wrap ((i64.wrap (0 - k6))* (i64.wrap (v232+ (1:Int)))))] 3) ay n236 k7->
             ∃k2 gA gS gm,(Builtin.append_ #[28,28] 28 #[.slice bY a_ a',.slice (some (Addr.mk n236 0 none)) 1 1]).run prog k7= .ok (.slice gA gS gm) k2/\
             ∃h0,h0<ce/\eH gA gS gm (i64.wrap (v232+ (1:Int))) k2 h0)
           (∃eA e5 ec,ay.cell? ((Addr.mk n129 0 none).add 1)=some (.slice eA e5 ec)/\
             ∀n241 j',bc (.cells #[.slice bY a_ a'] 28) ay n241 j'->
             ∃hU ea fA fu,(Builtin.append_ #[22,22] 22 #[.slice eA e5 ec,.slice (some (Addr.mk n241 0 none)) 1 1]).run prog j'= .ok (.slice ea fA fu) hU/\
             ∃kv,af ((Addr.mk n129 0 none).add 1) 0 [.slice ea fA fu] hU kv/\
             ∃J,J<X/\an (i64.wrap (I+ (1:Int))) kv J)))))
      (K (.tuple #[.int .i64 n_,.int .i64 0]) ax)))))))
theorem jv.ah {f_0 f1p f1n f1c n_ w R} (h:jv.w f_0 f1p f1n f1c n_ w fun v w'=>R (.returned v) w'):Calls prog 40 #[.agg #[.int .i64 f_0,.slice f1p f1n f1c],.int .i64 n_] w R:=
 aj mixed Tryz.func40 (by kernel_rfl) rfl (ann:=(.aF .ae (.aF .ae (.aF .dm (.aF (.aF .ae (.bS (.loop [(44,3)] (.aF .ae (.aF .ae (.aF (.bS (.aF .ae (.aF .dm (.aF .ae (.aF .ae (.aF (.aF .ae (.bS (.loop [(10,28),(64,3)] .ae))) .ae)))))) .ae)))))) .ae))))) (F:=jv.w f_0 f1p f1n f1c n_ w) (fun K=>by kernel_rfl) h
def dU.w (a:Option Addr) (b:Nat) (c:Nat) (d:Int) (w:World) (K:Value->World->Prop):Prop:=
 ∃U:Int->World->Nat->Prop,(∃O,U 0 w O)/\
 ∀I J O (_:Fr),U I J O->
 aH (decide (I< (b:Int)))
  (aV a b I 1 fun Y=>
    ∃V,J.cell? Y=some (.int .i64 V)/\
    aH (V !=(1:Int))
    (aV a b I 1 fun Z=>
    ∃X,J.cell? Z=some (.int .i64 X)/\
    aH (X !=(-1))
    (K (.bool false) J)
    (∃Q,Q<O/\U (i64.wrap (I+ (1:Int))) J Q))
    (∃Q,Q<O/\U (i64.wrap (I+ (1:Int))) J Q))
  (K (.bool ((b:Int)==d)) J)
theorem dU.ah {a b c d w R} (h:dU.w a b c d w fun v w'=>R (.returned v) w'):Calls prog 42 #[.slice a b c,.int .i64 d] w R:=
 aj mixed Tryz.func42 (by kernel_rfl) rfl (ann:=(.aF .ae (.aF (.aF .ae (.bS (.loop [(5,3)] .ae))) .ae))) (F:=dU.w a b c d w) (fun K=>by kernel_rfl) h
def cK.w (av:Int) (ap:Option Addr) (ar:Nat) (ay:Nat) (a:Option Addr) (b:Nat) (c:Nat) (w:World) (K:Value->World->Prop):Prop:=
 ∀n1 w2,bc (.cells #[.int .i64 av,.slice ap ar ay] 24) w n1 w2->
 ∃I3:Int->World->Nat->Prop,(∃k4,I3 0 w2 k4)/\
 ∀I U k4 (_:Fr),I3 I U k4->
 ∃aw aa ax,U.cell? ((Addr.mk n1 0 none).add 1)=some (.slice aw aa ax)/\
  aH (decide (I< (aa:Int)))
  (∃V X az,U.cell? ((Addr.mk n1 0 none).add 1)=some (.slice V X az)/\
    aV V X I 1 fun ag=>
    ∃Q O J,U.cell? ag=some (.slice Q O J)/\
    Calls prog 86 #[.slice a b c,.slice Q O J] U fun e Z=> ∃Y,e= .returned (.int .i64 Y)/\
    aH (Y !=(1:Int))
    (K (.bool false) Z)
    (∃k5,k5<k4/\I3 (i64.wrap (I+ (1:Int))) Z k5))
  (K (.bool true) U)
theorem cK.ah {f_0 f1p f1n f1c a b c w R} (h:cK.w f_0 f1p f1n f1c a b c w fun v w'=>R (.returned v) w'):Calls prog 43 #[.agg #[.int .i64 f_0,.slice f1p f1n f1c],.slice a b c] w R:=
 aj mixed Tryz.func43 (by kernel_rfl) rfl (ann:=(.aF .ae (.aF (.aF .ae (.bS (.loop [(5,3)] .ae))) .ae))) (F:=cK.w f_0 f1p f1n f1c a b c w) (fun K=>by kernel_rfl) h
def ie.w (ay:Int) (aw:Option Addr) (ax:Nat) (a7:Nat) (w:World) (K:Value->World->Prop):Prop:=
 ∀X w2,bc (.cells #[.int .i64 ay,.slice aw ax a7] 24) w X w2->
 ∃x3,w2.cell? ((Addr.mk X 0 none).add 0)=some (.int .i64 x3)/\
 aH (decide (x3< (0:Int)))
 (K (.int .i64 1) w2)
 (∃x4,w2.cell? ((Addr.mk X 0 none).add 0)=some (.int .i64 x4)/\
 aH (decide (x4> (1048576:Int)))
 (K (.int .i64 1) w2)
 (∃a6 an az,w2.cell? ((Addr.mk X 0 none).add 1)=some (.slice a6 an az)/\
 aH (decide ((an:Int)> (262144:Int)))
 (K (.int .i64 1) w2)
 (∃ac V ar,w2.cell? ((Addr.mk X 0 none).add 1)=some (.slice ac V ar)/\
   ∃I7:Int->World->Nat->Prop,(∃k8,I7 0 w2 k8)/\
   ∀Q U k8 (_:Fr),I7 Q U k8->
   aH (decide (Q< (V:Int)))
    (aV ac V Q 1 fun av=>
      ∃J O I,U.cell? av=some (.slice J O I)/\
      Calls prog 62 #[.slice J O I] U fun e aa=> ∃ag,e= .returned (.int .i64 ag)/\
      aH (ag !=(0:Int))
      (K (.int .i64 1) aa)
      (Calls prog 68 #[.slice J O I,.func (.func 88) #[] #[.pointer (some (Addr.mk X 0 none))]] aa fun e Y=> ∃Z,e= .returned (.bool Z)/\
      aH Z
      (K (.int .i64 1) Y)
      (∃k9,k9<k8/\I7 (i64.wrap (Q+ (1:Int))) Y k9)))
    (K (.int .i64 0) U))))
theorem ie.ah {f_0 f1p f1n f1c w R} (h:ie.w f_0 f1p f1n f1c w fun v w'=>R (.returned v) w'):Calls prog 48 #[.agg #[.int .i64 f_0,.slice f1p f1n f1c]] w R:=
 aj mixed Tryz.func48 (by kernel_rfl) rfl (ann:=(.aF .ae (.aF .ae (.aF (.aF .ae (.bS (.loop [(22,3)] .ae))) .ae)))) (F:=ie.w f_0 f1p f1n f1c w) (fun K=>by kernel_rfl) h
def iN.w (a:Option Addr) (b:Nat) (c:Nat) (w:World) (K:Value->World->Prop):Prop:=
 aH (decide ((b:Int)> (262144:Int)))
 (K (.int .i64 1) w)
 (Calls prog 90 #[.slice a b c,.func (.func 91) #[] #[]] w fun e w1=> ∃I,e= .returned (.bool I)/\
 aH I
 (K (.int .i64 1) w1)
 (K (.int .i64 0) w1))
theorem iN.ah {a b c w R} (h:iN.w a b c w fun v w'=>R (.returned v) w'):Calls prog 49 #[.slice a b c] w R:=
 aj mixed Tryz.func49 (by kernel_rfl) rfl (ann:= .ae) (F:=iN.w a b c w) (fun K=>by kernel_rfl) h
def lP.w (a:Option Addr) (b:Nat) (c:Nat) (w:World) (K:Value->World->Prop):Prop:=
 Calls prog 92 #[.slice a b c,.func (.func 93) #[] #[]] w fun e w1=> ∃I,e= .returned (.int .i64 I)/\
 K (.int .i64 I) w1
theorem lP.ah {a b c w R} (h:lP.w a b c w fun v w'=>R (.returned v) w'):Calls prog 50 #[.slice a b c] w R:=
 aj mixed Tryz.func50 (by kernel_rfl) rfl (ann:= .ae) (F:=lP.w a b c w) (fun K=>by kernel_rfl) h
def fY.w (aT:Int) (az:Option Addr) (a8:Nat) (a_:Nat) (a:Option Addr) (b:Nat) (c:Nat) (w:World) (K:Value->World->Prop):Prop:=
 ∀n1 w2,bc (.cells #[.int .i64 aT,.slice az a8 a_] 24) w n1 w2->
 ∃x3,w2.cell? ((Addr.mk n1 0 none).add 0)=some (.int .i64 x3)/\
 ∃I4:Int->Int->World->Nat->Prop,(∃k5,I4 x3 0 w2 k5)/\
 ∀ac v8 w9 k5 (_:Fr),I4 ac v8 w9 k5->
 aH (decide (v8< (b:Int)))
  (aV a b v8 2 fun a6=>
    ∃ap X V Y,aD w9 a6 0 [.bool ap,.slice X V Y]/\
    ∀ag av,bc (.cells #[.bool false,.slice none 0 0] 48) w9 ag av->
    ∃aa,af (Addr.mk ag 0 none) 0 [.bool ap,.slice X V Y] av aa/\
    ∃U I an,aa.cell? ((Addr.mk ag 0 none).add 1)=some (.slice U I an)/\
    ∃I17:Int->Int->World->Nat->Prop,(∃k18,I17 ac 0 aa k18)/\
    ∀J O Q k18 (_:Fr),I17 J O Q k18->
    aH (decide (O< (I:Int)))
     (aV U I O 1 fun a'=>
       ∃Z,Q.cell? a'=some (.int .i64 Z)/\
       ∃ar,ar<k18/\I17 (imax (imax J Z) (i64.wrap (0 - Z))) (i64.wrap (O+ (1:Int))) Q ar)
     (∃k6,k6<k5/\I4 J (i64.wrap (v8+ (1:Int))) Q k6))
  (K (.int .i64 ac) w9)
theorem fY.ah {f_0 f1p f1n f1c a b c w R} (h:fY.w f_0 f1p f1n f1c a b c w fun v w'=>R (.returned v) w'):Calls prog 51 #[.agg #[.int .i64 f_0,.slice f1p f1n f1c],.slice a b c] w R:=
 aj mixed Tryz.func51 (by kernel_rfl) rfl (ann:=(.aF .ae (.aF .ae (.aF (.aF .ae (.bS (.loop [(5,3),(14,3)] (.aF .ae (.aF .ae (.aF (.bS (.aF .ae (.aF .ae (.bS (.loop [(5,3),(21,3)] .ae))))) .ae)))))) .ae)))) (F:=fY.w f_0 f1p f1n f1c a b c w) (fun K=>by kernel_rfl) h
def gM.w (ay:Int) (ax:Option Addr) (a7:Nat) (a8:Nat) (w:World) (K:Value->World->Prop):Prop:=
 ∀n1 w2,bc (.cells #[.int .i64 ay,.slice ax a7 a8] 24) w n1 w2->
 ∃an Z az,w2.cell? ((Addr.mk n1 0 none).add 1)=some (.slice an Z az)/\
 ∃I4:Option Addr->Nat->Nat->Int->World->Nat->Prop,(∃k5,I4 none 0 0 0 w2 k5)/\
 ∀X aa Y v8 w9 k5 (_:Fr),I4 X aa Y v8 w9 k5->
 aH (decide (v8< (Z:Int)))
  (aV an Z v8 1 fun aT=>
    ∃V U I,w9.cell? aT=some (.slice V U I)/\
    ∀ap ag,bc (.cells #[.slice V U I,.bool false,.int .i64 v8] 79) w9 ap ag->
    ∃ar J Q O,(Builtin.append_ #[74,74] 74 #[.slice X aa Y,.slice (some (Addr.mk ap 0 none)) 1 1]).run prog ag= .ok (.slice J Q O) ar/\
    ∃k6,k6<k5/\I4 J Q O (i64.wrap (v8+ (1:Int))) ar k6)
  (K (.slice X aa Y) w9)
theorem gM.ah {f_0 f1p f1n f1c w R} (h:gM.w f_0 f1p f1n f1c w fun v w'=>R (.returned v) w'):Calls prog 52 #[.agg #[.int .i64 f_0,.slice f1p f1n f1c]] w R:=
 aj mixed Tryz.func52 (by kernel_rfl) rfl (ann:=(.aF .ae (.aF .ae (.aF (.aF .ae (.bS (.loop [(3,74),(9,3)] .ae))) .ae)))) (F:=gM.w f_0 f1p f1n f1c w) (fun K=>by kernel_rfl) h
def ky.w (a:Option Addr) (b:Nat) (c:Nat) (d:Option Addr) (f:Nat) (g:Nat) (w:World) (K:Value->World->Prop):Prop:=
 Calls prog 94 #[.slice d f g] w fun e w1=> ∃X Y Z r3,e= .returned (.tuple #[.slice X Y Z,.bool r3])/\
 ∀n4 w5,bc (.cells #[.slice none 0 0] 28) w1 n4 w5->
 ∃w6,af (Addr.mk n4 0 none) 0 [.slice X Y Z] w5 w6/\
 Calls prog 95 #[.slice a b c,.func (.func 96) #[] #[.pointer (some (Addr.mk n4 0 none))]] w6 fun e w7=> ∃r8,e= .returned (.int .i64 r8)/\
 aH (decide (r8< (0:Int)))
 (K (.slice a b c) w7)
 (Calls prog 59 #[.slice a b c] w7 fun e w9=> ∃U V O,e= .returned (.slice U V O)/\
   Calls prog 98 #[.slice U V O,.int .i64 r8,.int .i64 (i64.wrap (r8+ (1:Int)))] w9 fun e ac=> ∃Q I J,e= .returned (.slice Q I J)/\
   K (.slice Q I J) ac)
theorem ky.ah {a b c d f g w R} (h:ky.w a b c d f g w fun v w'=>R (.returned v) w'):Calls prog 53 #[.slice a b c,.slice d f g] w R:=
 aj mixed Tryz.func53 (by kernel_rfl) rfl (ann:= .ae) (F:=ky.w a b c d f g w) (fun K=>by kernel_rfl) h
def lW.w (ac:Int) (aa:Option Addr) (av:Nat) (aw:Nat) (a:Option Addr) (b:Nat) (c:Nat) (w:World) (K:Value->World->Prop):Prop:=
 ∀n1 w2,bc (.cells #[.int .i64 ac,.slice aa av aw] 24) w n1 w2->
 ∃x3 I Q Y,aD w2 (Addr.mk n1 0 none) 0 [.int .i64 x3,.slice I Q Y]/\
 Calls prog 99 #[.agg #[.int .i64 x3,.slice I Q Y],.slice a b c] w2 fun e w5=> ∃r6,e= .returned (.bool r6)/\
 aH r6
 (∃x7 U X Z,aD w5 (Addr.mk n1 0 none) 0 [.int .i64 x7,.slice U X Z]/\
 ∀n9 O,bc (.cells #[.slice a b c] 28) w5 n9 O->
 Calls prog 73 #[.agg #[.int .i64 x7,.slice U X Z],.slice (some (Addr.mk n9 0 none)) 1 1] O fun e ar=> ∃J,e= .returned (.pointer J)/\
 Calls prog 100 #[.pointer J,.slice a b c] ar fun e an=> ∃V,e= .returned (.bool V)/\
 K (.bool V) an)
 (K (.bool false) w5)
theorem lW.ah {f_0 f1p f1n f1c a b c w R} (h:lW.w f_0 f1p f1n f1c a b c w fun v w'=>R (.returned v) w'):Calls prog 54 #[.agg #[.int .i64 f_0,.slice f1p f1n f1c],.slice a b c] w R:=
 aj mixed Tryz.func54 (by kernel_rfl) rfl (ann:= .ae) (F:=lW.w f_0 f1p f1n f1c a b c w) (fun K=>by kernel_rfl) h
def gN.w (a:Option Addr) (b:Nat) (c:Nat) (w:World) (K:Value->World->Prop):Prop:=
 ∃I1:Option Addr->Nat->Nat->Int->World->Nat->Prop,(∃k2,I1 none 0 0 0 w k2)/\
 ∀ac X Y v5 w6 k2 (_:Fr),I1 ac X Y v5 w6 k2->
 aH (decide (v5< (b:Int)))
  (aV a b v5 3 fun a7=>
    ∃ar aw ax x9 an,aD w6 a7 0 [.slice ar aw ax,.bool x9,.int .i64 an]/\
    ∀aa av,bc (.cells #[.slice none 0 0,.bool false,.int .i64 0] 79) w6 aa av->
    ∃Z,af (Addr.mk aa 0 none) 0 [.slice ar aw ax,.bool x9,.int .i64 an] av Z/\
    ∃I U J,Z.cell? ((Addr.mk aa 0 none).add 0)=some (.slice I U J)/\
    ∀n15 ag,bc (.cells #[.slice I U J] 28) Z n15 ag->
    ∃ap V Q O,(Builtin.append_ #[22,22] 22 #[.slice ac X Y,.slice (some (Addr.mk n15 0 none)) 1 1]).run prog ag= .ok (.slice V Q O) ap/\
    ∃k3,k3<k2/\I1 V Q O (i64.wrap (v5+ (1:Int))) ap k3)
  (K (.slice ac X Y) w6)
theorem gN.ah {a b c w R} (h:gN.w a b c w fun v w'=>R (.returned v) w'):Calls prog 55 #[.slice a b c] w R:=
 aj mixed Tryz.func55 (by kernel_rfl) rfl (ann:=(.aF .ae (.aF .ae (.aF (.aF .ae (.bS (.loop [(3,22),(8,3)] .ae))) .ae)))) (F:=gN.w a b c w) (fun K=>by kernel_rfl) h
def aN.w (a:Option Addr) (b:Nat) (c:Nat) (w:World) (K:Value->World->Prop):Prop:=
 aH a.isNone
 (K (.slice none 0 0) w)
 (∀Q w2,bc (.cells #[] 79) w Q w2->
   ∃w3 J O I,(Builtin.append_ #[74,74] 74 #[.slice (some (Addr.mk Q 0 none)) 0 0,.slice a b c]).run prog w2= .ok (.slice J O I) w3/\
   K (.slice J O I) w3)
theorem aN.ah {a b c w R} (h:aN.w a b c w fun v w'=>R (.returned v) w'):Calls prog 59 #[.slice a b c] w R:=
 aj mixed Tryz.func59 (by kernel_rfl) rfl (ann:= .ae) (F:=aN.w a b c w) (fun K=>by kernel_rfl) h
def dv.w (bb:Int) (a':Option Addr) (bY:Nat) (b4:Nat) (w:World) (K:Value->World->Prop):Prop:=
 ∀n1 w2,bc (.cells #[.int .i64 bb,.slice a' bY b4] 24) w n1 w2->
 ∃I3:Int->Int->World->Nat->Prop,(∃k4,I3 0 0 w2 k4)/\
 ∀O J I k4 (_:Fr),I3 O J I k4->
 ∃bk ar bx,I.cell? ((Addr.mk n1 0 none).add 1)=some (.slice bk ar bx)/\
  aH (decide (J< (ar:Int)))
  (aH (decide (J<=(300:Int)))
  (∃aa X a6,I.cell? ((Addr.mk n1 0 none).add 1)=some (.slice aa X a6)/\
    aV aa X J 1 fun bv=>
    ∃ay Y az,I.cell? bv=some (.slice ay Y az)/\
    aH (decide ((Y:Int)> (5000:Int)))
    (K (.bool false) I)
    (∃Z ac an,I.cell? ((Addr.mk n1 0 none).add 1)=some (.slice Z ac an)/\
      aV Z ac J 1 fun b3=>
      ∃aw:Option Addr,∃V:Nat,∃av:Nat,I.cell? b3=some (.slice aw V av)/\
      ∃k5,k5<k4/\I3 (i64.wrap (O+ (V:Int))) (i64.wrap (J+ (1:Int))) I k5))
  (∃ax Q ap,I.cell? ((Addr.mk n1 0 none).add 1)=some (.slice ax Q ap)/\
    aH (decide ((Q:Int)<=(300:Int)))
    (K (.bool (decide (O<=(6000:Int)))) I)
    (K (.bool false) I)))
  (∃aT U a7,I.cell? ((Addr.mk n1 0 none).add 1)=some (.slice aT U a7)/\
  aH (decide ((U:Int)<=(300:Int)))
  (K (.bool (decide (O<=(6000:Int)))) I)
  (K (.bool false) I))
theorem dv.ah {f_0 f1p f1n f1c w R} (h:dv.w f_0 f1p f1n f1c w fun v w'=>R (.returned v) w'):Calls prog 61 #[.agg #[.int .i64 f_0,.slice f1p f1n f1c]] w R:=
 aj mixed Tryz.func61 (by kernel_rfl) rfl (ann:=(.aF .ae (.aF .ae (.aF (.aF .ae (.bS (.loop [(3,3),(4,3)] .ae))) .ae)))) (F:=dv.w f_0 f1p f1n f1c w) (fun K=>by kernel_rfl) h
def kw.w (a:Option Addr) (b:Nat) (c:Nat) (w:World) (K:Value->World->Prop):Prop:=
 aH (decide ((b:Int)> (4096:Int)))
 (K (.int .i64 1) w)
 (Calls prog 68 #[.slice a b c,.func (.func 108) #[] #[]] w fun e w1=> ∃I,e= .returned (.bool I)/\
 aH I
 (K (.int .i64 1) w1)
 (K (.int .i64 0) w1))
theorem kw.ah {a b c w R} (h:kw.w a b c w fun v w'=>R (.returned v) w'):Calls prog 62 #[.slice a b c] w R:=
 aj mixed Tryz.func62 (by kernel_rfl) rfl (ann:= .ae) (F:=kw.w a b c w) (fun K=>by kernel_rfl) h
def ff.w (I:Int) (w:World) (K:Value->World->Prop):Prop:=
 aH (decide (I< (0:Int)))
 (K (.int .i64 (i64.wrap (0 - I))) w)
 (K (.int .i64 I) w)
theorem ff.ah {l_ w R} (h:ff.w l_ w fun v w'=>R (.returned v) w'):Calls prog 63 #[.int .i64 l_] w R:=
 aj mixed Tryz.func63 (by kernel_rfl) rfl (ann:= .ae) (F:=ff.w l_ w) (fun K=>by kernel_rfl) h
def eG.w (I:Int) (w:World) (K:Value->World->Prop):Prop:=
 aH (I !=(0:Int))
 (aH (decide (I>=(-1048576)))
 (K (.bool (decide (I<=(1048576:Int)))) w)
 (K (.bool false) w))
 (K (.bool false) w)
theorem eG.ah {l_ w R} (h:eG.w l_ w fun v w'=>R (.returned v) w'):Calls prog 64 #[.int .i64 l_] w R:=
 aj mixed Tryz.func64 (by kernel_rfl) rfl (ann:= .ae) (F:=eG.w l_ w) (fun K=>by kernel_rfl) h
def bD.w (a:Option Addr) (b:Nat) (c:Nat) (I:FuncId) (J:Array Value) (w:World) (K:Value->World->Prop):Prop:=
 Calls prog 112 #[.slice a b c,.func (.func I) #[] J] w fun e w1=> ∃O,e= .returned (.int .i64 O)/\
 K (.bool (decide (O>=(0:Int)))) w1
theorem bD.ah {a b c f_f f_v w R} (h:bD.w a b c f_f f_v w fun v w'=>R (.returned v) w'):Calls prog 68 #[.slice a b c,.func (.func f_f) #[] f_v] w R:=
 aj mixed Tryz.func68 (by kernel_rfl) rfl (ann:= .ae) (F:=bD.w a b c f_f f_v w) (fun K=>by kernel_rfl) h
def cG.w (a:Option Addr) (b:Nat) (c:Nat) (w:World) (K:Value->World->Prop):Prop:=
 aH a.isNone
 (K (.slice none 0 0) w)
 (∀Q w2,bc (.cells #[] 3) w Q w2->
   ∃w3 J O I,(Builtin.append_ #[28,28] 28 #[.slice (some (Addr.mk Q 0 none)) 0 0,.slice a b c]).run prog w2= .ok (.slice J O I) w3/\
   K (.slice J O I) w3)
theorem cG.ah {a b c w R} (h:cG.w a b c w fun v w'=>R (.returned v) w'):Calls prog 70 #[.slice a b c] w R:=
 aj mixed Tryz.func70 (by kernel_rfl) rfl (ann:= .ae) (F:=cG.w a b c w) (fun K=>by kernel_rfl) h
def jt.w (a6:Int) (az:Option Addr) (a_:Nat) (bx:Nat) (a:Option Addr) (b:Nat) (c:Nat) (w:World) (K:Value->World->Prop):Prop:=
 ∀n1 w2,bc (.cells #[.int .i64 a6,.slice az a_ bx] 24) w n1 w2->
 ∃x3,w2.cell? ((Addr.mk n1 0 none).add 0)=some (.int .i64 x3)/\
 ∀n4 w5,bc (.map #[] 0) w2 n4 w5->
 ∀n6 w7,bc (.cells #[.int .i64 x3,.map (some n4),.pointer none,.slice none 0 0,.map none] 142) w5 n6 w7->
 ∃aw ar bv,w7.cell? ((Addr.mk n1 0 none).add 1)=some (.slice aw ar bv)/\
 ∃I9:Int->World->Nat->Prop,(∃J,I9 0 w7 J)/\
 ∀Q O J (_:Fr),I9 Q O J->
 aH (decide (Q< (ar:Int)))
  (aV aw ar Q 1 fun bk=>
    ∃aa ag Z,O.cell? bk=some (.slice aa ag Z)/\
    Calls prog 113 #[.pointer (some (Addr.mk n6 0 none)),.slice aa ag Z] O fun e aT=>e= .returned (.tuple #[])/\
    ∃av,av<J/\I9 (i64.wrap (Q+ (1:Int))) aT av)
  (∃I17:Int->World->Nat->Prop,(∃k18,I17 0 O k18)/\
    ∀U I k18 (_:Fr),I17 U I k18->
    aH (decide (U< (b:Int)))
     (aV a b U 1 fun a22=>
       ∃an Y V,I.cell? a22=some (.slice an Y V)/\
       Calls prog 113 #[.pointer (some (Addr.mk n6 0 none)),.slice an Y V] I fun e bb=>e= .returned (.tuple #[])/\
       ∃ax,ax<k18/\I17 (i64.wrap (U+ (1:Int))) bb ax)
     (∃ac X ap,I.cell? ((Addr.mk n1 0 none).add 1)=some (.slice ac X ap)/\
       Calls prog 114 #[.pointer (some (Addr.mk n6 0 none)),.slice ac X ap] I fun e a7=>e= .returned (.tuple #[])/\
       K (.pointer (some (Addr.mk n6 0 none))) a7))
theorem jt.ah {f_0 f1p f1n f1c a b c w R} (h:jt.w f_0 f1p f1n f1c a b c w fun v w'=>R (.returned v) w'):Calls prog 73 #[.agg #[.int .i64 f_0,.slice f1p f1n f1c],.slice a b c] w R:=
 aj mixed Tryz.func73 (by kernel_rfl) rfl (ann:=(.aF .ae (.aF .ae (.aF (.aF .ae (.bS (.loop [(18,3)] .ae))) (.aF (.aF .ae (.bS (.loop [(28,3)] .ae))) .ae))))) (F:=jt.w f_0 f1p f1n f1c a b c w) (fun K=>by kernel_rfl) h
def cJ.w (a:Int) (n_:Int) (w:World) (K:Value->World->Prop):Prop:=
 ∀n1 w2,bc (.cells #[] 3) w n1 w2->
 ∃I3:Int->Option Addr->Nat->Nat->Int->World->Nat->Prop,(∃k4,I3 n_ (some (Addr.mk n1 0 none)) 0 0 0 w2 k4)/\
 ∀U Q O J I w9 k4 (_:Fr),I3 U Q O J I w9 k4->
 aH (decide (I<a))
  ((2:Int)≠0/\aH ((U.tmod (2:Int))==(1:Int))
    (∀ap av,bc (.cells #[.int .i64 1] 3) w9 ap av->
      ∃ax V Z aa,(Builtin.append_ #[28,28] 28 #[.slice Q O J,.slice (some (Addr.mk ap 0 none)) 1 1]).run prog av= .ok (.slice V Z aa) ax/\
      (2:Int)≠0/\∃k5,k5<k4/\I3 (i64.wrap (U.tdiv (2:Int))) V Z aa (i64.wrap (I+ (1:Int))) ax k5)
    (∀n14 ar,bc (.cells #[.int .i64 (-1)] 3) w9 n14 ar->
      ∃an ac Y X,(Builtin.append_ #[28,28] 28 #[.slice Q O J,.slice (some (Addr.mk n14 0 none)) 1 1]).run prog ar= .ok (.slice ac Y X) an/\
      (2:Int)≠0/\∃k5,k5<k4/\I3 (i64.wrap (U.tdiv (2:Int))) ac Y X (i64.wrap (I+ (1:Int))) an k5))
  (K (.slice Q O J) w9)
theorem cJ.ah {a n_ w R} (h:cJ.w a n_ w fun v w'=>R (.returned v) w'):Calls prog 75 #[.int .i64 a,.int .i64 n_] w R:=
 aj mixed Tryz.func75 (by kernel_rfl) rfl (ann:=(.aF .ae (.aF .ae (.aF (.aF .ae (.bS (.loop [(1,3),(5,28),(6,3)] .ae))) .ae)))) (F:=cJ.w a n_ w) (fun K=>by kernel_rfl) h
def mr.w (qs:Int) (qw:Option Addr) (qb:Nat) (qc:Nat) (w:World) (K:Value->World->Prop):Prop:=
 ∀n1 w2,bc (.cells #[.int .i64 qs,.slice qw qb qc] 24) w n1 w2->
 ∃x3 o0 p' o4,aD w2 (Addr.mk n1 0 none) 0 [.int .i64 x3,.slice o0 p' o4]/\
 Calls prog 48 #[.agg #[.int .i64 x3,.slice o0 p' o4]] w2 fun e w5=> ∃r6,e= .returned (.int .i64 r6)/\
 aH (r6 !=(0:Int))
 (K (.tuple #[.pointer none,.int .i64 1]) w5)
 (∃I,w5.cell? ((Addr.mk n1 0 none).add 0)=some (.int .i64 I)/\
   ∃J8:Addr->World->Prop,(∃J:World->Prop,J w5.drew/\
   ∃O,e_ J ((Addr.mk n1 0 none).add 0) (.int .i64 O)/\
   (∃fb ap ar av,(Instr.makeSlice 22 (.int .i64 (i64.wrap ((2:Int)* (i64.wrap (I+ (1:Int)))))) (.int .i64 (i64.wrap ((2:Int)* (i64.wrap (I+ (1:Int))))))).run prog w5.drew= .ok (.slice ap ar av) fb/\
   J fb/\(∃hL d9 c1 ek,(Instr.makeSlice 144 (.int .i64 (i64.wrap (I+ (1:Int)))) (.int .i64 (i64.wrap (I+ (1:Int))))).run prog fb= .ok (.slice d9 c1 ek) hL/\
   J hL/\(∃ob ku h' k6,(Instr.makeSlice 28 (.int .i64 (i64.wrap (I+ (1:Int)))) (.int .i64 (i64.wrap (I+ (1:Int))))).run prog hL= .ok (.slice ku h' k6) ob/\
   J ob/\∃n2 i6 k0 kU,(Instr.makeSlice 28 (.int .i64 (i64.wrap (I+ (1:Int)))) (.int .i64 (i64.wrap (I+ (1:Int))))).run prog ob= .ok (.slice i6 k0 kU) n2/\
   J n2/\∀p0 o',bc (.cells #[.int .i64 O,.slice none 0 0,.slice ap ar av,.slice d9 c1 ek,.slice ku h' k6,.slice i6 k0 kU,.slice none 0 0,.slice none 0 0,.slice none 0 0,.int .i64 0,.slice none 0 0] 147) n2 p0 o'->
   J8 (Addr.mk p0 0 none) o')/\
 (∃n7 k8 h4 ih,(Instr.makeSlice 28 (.int .i64 (i64.wrap (I+ (1:Int)))) (.int .i64 (i64.wrap (I+ (1:Int))))).run prog hL= .ok (.slice k8 h4 ih) n7/\
   J n7/\∃m5 i_ kh hS,(Instr.makeSlice 28 (.int .i64 (i64.wrap (I+ (1:Int)))) (.int .i64 (i64.wrap (I+ (1:Int))))).run prog n7= .ok (.slice i_ kh hS) m5/\
   J m5/\∀n25 pk,bc (.cells #[.int .i64 O,.slice none 0 0,.slice ap ar av,.slice d9 c1 ek,.slice i_ kh hS,.slice k8 h4 ih,.slice none 0 0,.slice none 0 0,.slice none 0 0,.int .i64 0,.slice none 0 0] 147) m5 n25 pk->
   J8 (Addr.mk n25 0 none) pk))/\
 (∃hQ c3 gf ef,(Instr.makeSlice 28 (.int .i64 (i64.wrap (I+ (1:Int)))) (.int .i64 (i64.wrap (I+ (1:Int))))).run prog fb= .ok (.slice c3 gf ef) hQ/\
   J hQ/\(∃nm l5 kv my,(Instr.makeSlice 144 (.int .i64 (i64.wrap (I+ (1:Int)))) (.int .i64 (i64.wrap (I+ (1:Int))))).run prog hQ= .ok (.slice l5 kv my) nm/\
   J nm/\∃nx k3 i2 kq,(Instr.makeSlice 28 (.int .i64 (i64.wrap (I+ (1:Int)))) (.int .i64 (i64.wrap (I+ (1:Int))))).run prog nm= .ok (.slice k3 i2 kq) nx/\
   J nx/\∀ov oL,bc (.cells #[.int .i64 O,.slice none 0 0,.slice ap ar av,.slice l5 kv my,.slice c3 gf ef,.slice k3 i2 kq,.slice none 0 0,.slice none 0 0,.slice none 0 0,.int .i64 0,.slice none 0 0] 147) nx ov oL->
   J8 (Addr.mk ov 0 none) oL)/\
 (∃n4 hX h_ k2,(Instr.makeSlice 28 (.int .i64 (i64.wrap (I+ (1:Int)))) (.int .i64 (i64.wrap (I+ (1:Int))))).run prog hQ= .ok (.slice hX h_ k2) n4/\
   J n4/\∃n3 kz k7 lT,(Instr.makeSlice 144 (.int .i64 (i64.wrap (I+ (1:Int)))) (.int .i64 (i64.wrap (I+ (1:Int))))).run prog n4= .ok (.slice kz k7 lT) n3/\
   J n3/\∀o9 p1,bc (.cells #[.int .i64 O,.slice none 0 0,.slice ap ar av,.slice kz k7 lT,.slice c3 gf ef,.slice hX h_ k2,.slice none 0 0,.slice none 0 0,.slice none 0 0,.int .i64 0,.slice none 0 0] 147) n3 o9 p1->
   J8 (Addr.mk o9 0 none) p1))/\
 (∃hK gA eT d4,(Instr.makeSlice 28 (.int .i64 (i64.wrap (I+ (1:Int)))) (.int .i64 (i64.wrap (I+ (1:Int))))).run prog fb= .ok (.slice gA eT d4) hK/\
   J hK/\(∃ny hV mu jN,(Instr.makeSlice 144 (.int .i64 (i64.wrap (I+ (1:Int)))) (.int .i64 (i64.wrap (I+ (1:Int))))).run prog hK= .ok (.slice hV mu jN) ny/\
   J ny/\∃oc kn mm j_,(Instr.makeSlice 28 (.int .i64 (i64.wrap (I+ (1:Int)))) (.int .i64 (i64.wrap (I+ (1:Int))))).run prog ny= .ok (.slice kn mm j_) oc/\
   J oc/\∀n47 oq,bc (.cells #[.int .i64 O,.slice none 0 0,.slice ap ar av,.slice hV mu jN,.slice kn mm j_,.slice gA eT d4,.slice none 0 0,.slice none 0 0,.slice none 0 0,.int .i64 0,.slice none 0 0] 147) oc n47 oq->
   J8 (Addr.mk n47 0 none) oq)/\
 (∃n_ k' lq j4,(Instr.makeSlice 28 (.int .i64 (i64.wrap (I+ (1:Int)))) (.int .i64 (i64.wrap (I+ (1:Int))))).run prog hK= .ok (.slice k' lq j4) n_/\
   J n_/\∃n8 h8 j' k1,(Instr.makeSlice 144 (.int .i64 (i64.wrap (I+ (1:Int)))) (.int .i64 (i64.wrap (I+ (1:Int))))).run prog n_= .ok (.slice h8 j' k1) n8/\
   J n8/\∀oz oy,bc (.cells #[.int .i64 O,.slice none 0 0,.slice ap ar av,.slice h8 j' k1,.slice k' lq j4,.slice gA eT d4,.slice none 0 0,.slice none 0 0,.slice none 0 0,.int .i64 0,.slice none 0 0] 147) n8 oz oy->
   J8 (Addr.mk oz 0 none) oy)))/\
 (∃gm an ag ac,(Instr.makeSlice 144 (.int .i64 (i64.wrap (I+ (1:Int)))) (.int .i64 (i64.wrap (I+ (1:Int))))).run prog w5.drew= .ok (.slice an ag ac) gm/\
   J gm/\(∃hO eN ed g2,(Instr.makeSlice 22 (.int .i64 (i64.wrap ((2:Int)* (i64.wrap (I+ (1:Int)))))) (.int .i64 (i64.wrap ((2:Int)* (i64.wrap (I+ (1:Int))))))).run prog gm= .ok (.slice eN ed g2) hO/\
   J hO/\(∃oi hW i7 ma,(Instr.makeSlice 28 (.int .i64 (i64.wrap (I+ (1:Int)))) (.int .i64 (i64.wrap (I+ (1:Int))))).run prog hO= .ok (.slice hW i7 ma) oi/\
   J oi/\∃nk hY kT h0,(Instr.makeSlice 28 (.int .i64 (i64.wrap (I+ (1:Int)))) (.int .i64 (i64.wrap (I+ (1:Int))))).run prog oi= .ok (.slice hY kT h0) nk/\
   J nk/\∀ox oA,bc (.cells #[.int .i64 O,.slice none 0 0,.slice eN ed g2,.slice an ag ac,.slice hW i7 ma,.slice hY kT h0,.slice none 0 0,.slice none 0 0,.slice none 0 0,.int .i64 0,.slice none 0 0] 147) nk ox oA->
   J8 (Addr.mk ox 0 none) oA)/\
 (∃oj lr li lu,(Instr.makeSlice 28 (.int .i64 (i64.wrap (I+ (1:Int)))) (.int .i64 (i64.wrap (I+ (1:Int))))).run prog hO= .ok (.slice lr li lu) oj/\
   J oj/\∃n5 i3 j5 h2,(Instr.makeSlice 28 (.int .i64 (i64.wrap (I+ (1:Int)))) (.int .i64 (i64.wrap (I+ (1:Int))))).run prog oj= .ok (.slice i3 j5 h2) n5/\
   J n5/\∀o6 p5,bc (.cells #[.int .i64 O,.slice none 0 0,.slice eN ed g2,.slice an ag ac,.slice i3 j5 h2,.slice lr li lu,.slice none 0 0,.slice none 0 0,.slice none 0 0,.int .i64 0,.slice none 0 0] 147) n5 o6 p5->
   J8 (Addr.mk o6 0 none) p5))/\
 (∃hM ho fL ec,(Instr.makeSlice 28 (.int .i64 (i64.wrap (I+ (1:Int)))) (.int .i64 (i64.wrap (I+ (1:Int))))).run prog gm= .ok (.slice ho fL ec) hM/\
   J hM/\(∃oa lz l_ h6,(Instr.makeSlice 22 (.int .i64 (i64.wrap ((2:Int)* (i64.wrap (I+ (1:Int)))))) (.int .i64 (i64.wrap ((2:Int)* (i64.wrap (I+ (1:Int))))))).run prog hM= .ok (.slice lz l_ h6) oa/\
   J oa/\∃nA mv kb ki,(Instr.makeSlice 28 (.int .i64 (i64.wrap (I+ (1:Int)))) (.int .i64 (i64.wrap (I+ (1:Int))))).run prog oa= .ok (.slice mv kb ki) nA/\
   J nA/\∀ol pg,bc (.cells #[.int .i64 O,.slice none 0 0,.slice lz l_ h6,.slice an ag ac,.slice ho fL ec,.slice mv kb ki,.slice none 0 0,.slice none 0 0,.slice none 0 0,.int .i64 0,.slice none 0 0] 147) nA ol pg->
   J8 (Addr.mk ol 0 none) pg)/\
 (∃m6 lD lm j2,(Instr.makeSlice 28 (.int .i64 (i64.wrap (I+ (1:Int)))) (.int .i64 (i64.wrap (I+ (1:Int))))).run prog hM= .ok (.slice lD lm j2) m6/\
   J m6/\∃nS i1 kd l8,(Instr.makeSlice 22 (.int .i64 (i64.wrap ((2:Int)* (i64.wrap (I+ (1:Int)))))) (.int .i64 (i64.wrap ((2:Int)* (i64.wrap (I+ (1:Int))))))).run prog m6= .ok (.slice i1 kd l8) nS/\
   J nS/\∀p7 p4,bc (.cells #[.int .i64 O,.slice none 0 0,.slice i1 kd l8,.slice an ag ac,.slice ho fL ec,.slice lD lm j2,.slice none 0 0,.slice none 0 0,.slice none 0 0,.int .i64 0,.slice none 0 0] 147) nS p7 p4->
   J8 (Addr.mk p7 0 none) p4))/\
 (∃hP e5 gl fk,(Instr.makeSlice 28 (.int .i64 (i64.wrap (I+ (1:Int)))) (.int .i64 (i64.wrap (I+ (1:Int))))).run prog gm= .ok (.slice e5 gl fk) hP/\
   J hP/\(∃m7 j1 h9 mq,(Instr.makeSlice 22 (.int .i64 (i64.wrap ((2:Int)* (i64.wrap (I+ (1:Int)))))) (.int .i64 (i64.wrap ((2:Int)* (i64.wrap (I+ (1:Int))))))).run prog hP= .ok (.slice j1 h9 mq) m7/\
   J m7/\∃m4 i0 kt kk,(Instr.makeSlice 28 (.int .i64 (i64.wrap (I+ (1:Int)))) (.int .i64 (i64.wrap (I+ (1:Int))))).run prog m7= .ok (.slice i0 kt kk) m4/\
   J m4/\∀ou pp,bc (.cells #[.int .i64 O,.slice none 0 0,.slice j1 h9 mq,.slice an ag ac,.slice i0 kt kk,.slice e5 gl fk,.slice none 0 0,.slice none 0 0,.slice none 0 0,.int .i64 0,.slice none 0 0] 147) m4 ou pp->
   J8 (Addr.mk ou 0 none) pp)/\
 (∃nq kf k9 kr,(Instr.makeSlice 28 (.int .i64 (i64.wrap (I+ (1:Int)))) (.int .i64 (i64.wrap (I+ (1:Int))))).run prog hP= .ok (.slice kf k9 kr) nq/\
   J nq/\∃n9 j0 kl kB,(Instr.makeSlice 22 (.int .i64 (i64.wrap ((2:Int)* (i64.wrap (I+ (1:Int)))))) (.int .i64 (i64.wrap ((2:Int)* (i64.wrap (I+ (1:Int))))))).run prog nq= .ok (.slice j0 kl kB) n9/\
   J n9/\∀o8 p_,bc (.cells #[.int .i64 O,.slice none 0 0,.slice j0 kl kB,.slice an ag ac,.slice kf k9 kr,.slice e5 gl fk,.slice none 0 0,.slice none 0 0,.slice none 0 0,.int .i64 0,.slice none 0 0] 147) n9 o8 p_->
   J8 (Addr.mk o8 0 none) p_)))/\
 (∃hc Z V X,(Instr.makeSlice 28 (.int .i64 (i64.wrap (I+ (1:Int)))) (.int .i64 (i64.wrap (I+ (1:Int))))).run prog w5.drew= .ok (.slice Z V X) hc/\
   J hc/\(∃b_ b4 bx a7,(Instr.makeSlice 22 (.int .i64 (i64.wrap ((2:Int)* (i64.wrap (I+ (1:Int)))))) (.int .i64 (i64.wrap ((2:Int)* (i64.wrap (I+ (1:Int))))))).run prog hc= .ok (.slice b4 bx a7) b_/\
   J b_/\(∃du gr ey fi,(Instr.makeSlice 144 (.int .i64 (i64.wrap (I+ (1:Int)))) (.int .i64 (i64.wrap (I+ (1:Int))))).run prog b_= .ok (.slice gr ey fi) du/\
   J du/\∃eL ep e3 fs,(Instr.makeSlice 28 (.int .i64 (i64.wrap (I+ (1:Int)))) (.int .i64 (i64.wrap (I+ (1:Int))))).run prog du= .ok (.slice ep e3 fs) eL/\
   J eL/\∀n107 lf,bc (.cells #[.int .i64 O,.slice none 0 0,.slice b4 bx a7,.slice gr ey fi,.slice Z V X,.slice ep e3 fs,.slice none 0 0,.slice none 0 0,.slice none 0 0,.int .i64 0,.slice none 0 0] 147) eL n107 lf->
   J8 (Addr.mk n107 0 none) lf)/\
 (∃fP f1 et d5,(Instr.makeSlice 28 (.int .i64 (i64.wrap (I+ (1:Int)))) (.int .i64 (i64.wrap (I+ (1:Int))))).run prog b_= .ok (.slice f1 et d5) fP/\
   J fP/\∃el eH ej gP,(Instr.makeSlice 144 (.int .i64 (i64.wrap (I+ (1:Int)))) (.int .i64 (i64.wrap (I+ (1:Int))))).run prog fP= .ok (.slice eH ej gP) el/\
   J el/\∀n113 hT,bc (.cells #[.int .i64 O,.slice none 0 0,.slice b4 bx a7,.slice eH ej gP,.slice Z V X,.slice f1 et d5,.slice none 0 0,.slice none 0 0,.slice none 0 0,.int .i64 0,.slice none 0 0] 147) el n113 hT->
   J8 (Addr.mk n113 0 none) hT))/\
 (∃b' bk az ay,(Instr.makeSlice 144 (.int .i64 (i64.wrap (I+ (1:Int)))) (.int .i64 (i64.wrap (I+ (1:Int))))).run prog hc= .ok (.slice bk az ay) b'/\
   J b'/\(∃fu d' g6 gV,(Instr.makeSlice 22 (.int .i64 (i64.wrap ((2:Int)* (i64.wrap (I+ (1:Int)))))) (.int .i64 (i64.wrap ((2:Int)* (i64.wrap (I+ (1:Int))))))).run prog b'= .ok (.slice d' g6 gV) fu/\
   J fu/\∃dq gv ez hA,(Instr.makeSlice 28 (.int .i64 (i64.wrap (I+ (1:Int)))) (.int .i64 (i64.wrap (I+ (1:Int))))).run prog fu= .ok (.slice gv ez hA) dq/\
   J dq/\∀n121 k5,bc (.cells #[.int .i64 O,.slice none 0 0,.slice d' g6 gV,.slice bk az ay,.slice Z V X,.slice gv ez hA,.slice none 0 0,.slice none 0 0,.slice none 0 0,.int .i64 0,.slice none 0 0] 147) dq n121 k5->
   J8 (Addr.mk n121 0 none) k5)/\
 (∃d8 f0 hh gw,(Instr.makeSlice 28 (.int .i64 (i64.wrap (I+ (1:Int)))) (.int .i64 (i64.wrap (I+ (1:Int))))).run prog b'= .ok (.slice f0 hh gw) d8/\
   J d8/\∃dk e8 hk g3,(Instr.makeSlice 22 (.int .i64 (i64.wrap ((2:Int)* (i64.wrap (I+ (1:Int)))))) (.int .i64 (i64.wrap ((2:Int)* (i64.wrap (I+ (1:Int))))))).run prog d8= .ok (.slice e8 hk g3) dk/\
   J dk/\∀n127 j3,bc (.cells #[.int .i64 O,.slice none 0 0,.slice e8 hk g3,.slice bk az ay,.slice Z V X,.slice f0 hh gw,.slice none 0 0,.slice none 0 0,.slice none 0 0,.int .i64 0,.slice none 0 0] 147) dk n127 j3->
   J8 (Addr.mk n127 0 none) j3))/\
 (∃cg bv a6 b7,(Instr.makeSlice 28 (.int .i64 (i64.wrap (I+ (1:Int)))) (.int .i64 (i64.wrap (I+ (1:Int))))).run prog hc= .ok (.slice bv a6 b7) cg/\
   J cg/\(∃hB c0 fv hH,(Instr.makeSlice 22 (.int .i64 (i64.wrap ((2:Int)* (i64.wrap (I+ (1:Int)))))) (.int .i64 (i64.wrap ((2:Int)* (i64.wrap (I+ (1:Int))))))).run prog cg= .ok (.slice c0 fv hH) hB/\
   J hB/\∃hd eg g1 c7,(Instr.makeSlice 144 (.int .i64 (i64.wrap (I+ (1:Int)))) (.int .i64 (i64.wrap (I+ (1:Int))))).run prog hB= .ok (.slice eg g1 c7) hd/\
   J hd/\∀n135 hU,bc (.cells #[.int .i64 O,.slice none 0 0,.slice c0 fv hH,.slice eg g1 c7,.slice Z V X,.slice bv a6 b7,.slice none 0 0,.slice none 0 0,.slice none 0 0,.int .i64 0,.slice none 0 0] 147) hd n135 hU->
   J8 (Addr.mk n135 0 none) hU)/\
 (∃ei er gn cp,(Instr.makeSlice 144 (.int .i64 (i64.wrap (I+ (1:Int)))) (.int .i64 (i64.wrap (I+ (1:Int))))).run prog cg= .ok (.slice er gn cp) ei/\
   J ei/\∃f' gy ew en,(Instr.makeSlice 22 (.int .i64 (i64.wrap ((2:Int)* (i64.wrap (I+ (1:Int)))))) (.int .i64 (i64.wrap ((2:Int)* (i64.wrap (I+ (1:Int))))))).run prog ei= .ok (.slice gy ew en) f'/\
   J f'/\∀n141 k4,bc (.cells #[.int .i64 O,.slice none 0 0,.slice gy ew en,.slice er gn cp,.slice Z V X,.slice bv a6 b7,.slice none 0 0,.slice none 0 0,.slice none 0 0,.int .i64 0,.slice none 0 0] 147) f' n141 k4->
   J8 (Addr.mk n141 0 none) k4)))/\
 (∃aw Y Q U,(Instr.makeSlice 28 (.int .i64 (i64.wrap (I+ (1:Int)))) (.int .i64 (i64.wrap (I+ (1:Int))))).run prog w5.drew= .ok (.slice Y Q U) aw/\
   J aw/\(∃cc bb a' b3,(Instr.makeSlice 22 (.int .i64 (i64.wrap ((2:Int)* (i64.wrap (I+ (1:Int)))))) (.int .i64 (i64.wrap ((2:Int)* (i64.wrap (I+ (1:Int))))))).run prog aw= .ok (.slice bb a' b3) cc/\
   J cc/\(∃hI gd gz fd,(Instr.makeSlice 144 (.int .i64 (i64.wrap (I+ (1:Int)))) (.int .i64 (i64.wrap (I+ (1:Int))))).run prog cc= .ok (.slice gd gz fd) hI/\
   J hI/\∃hz hw e1 dc,(Instr.makeSlice 28 (.int .i64 (i64.wrap (I+ (1:Int)))) (.int .i64 (i64.wrap (I+ (1:Int))))).run prog hI= .ok (.slice hw e1 dc) hz/\
   J hz/\∀n151 h7,bc (.cells #[.int .i64 O,.slice none 0 0,.slice bb a' b3,.slice gd gz fd,.slice hw e1 dc,.slice Y Q U,.slice none 0 0,.slice none 0 0,.slice none 0 0,.int .i64 0,.slice none 0 0] 147) hz n151 h7->
   J8 (Addr.mk n151 0 none) h7)/\
 (∃fa fj gb c2,(Instr.makeSlice 28 (.int .i64 (i64.wrap (I+ (1:Int)))) (.int .i64 (i64.wrap (I+ (1:Int))))).run prog cc= .ok (.slice fj gb c2) fa/\
   J fa/\∃gT gc es g7,(Instr.makeSlice 144 (.int .i64 (i64.wrap (I+ (1:Int)))) (.int .i64 (i64.wrap (I+ (1:Int))))).run prog fa= .ok (.slice gc es g7) gT/\
   J gT/\∀n157 mc,bc (.cells #[.int .i64 O,.slice none 0 0,.slice bb a' b3,.slice gc es g7,.slice fj gb c2,.slice Y Q U,.slice none 0 0,.slice none 0 0,.slice none 0 0,.int .i64 0,.slice none 0 0] 147) gT n157 mc->
   J8 (Addr.mk n157 0 none) mc))/\
 (∃cb a8 b8 bY,(Instr.makeSlice 144 (.int .i64 (i64.wrap (I+ (1:Int)))) (.int .i64 (i64.wrap (I+ (1:Int))))).run prog aw= .ok (.slice a8 b8 bY) cb/\
   J cb/\(∃hF fo fq e',(Instr.makeSlice 22 (.int .i64 (i64.wrap ((2:Int)* (i64.wrap (I+ (1:Int)))))) (.int .i64 (i64.wrap ((2:Int)* (i64.wrap (I+ (1:Int))))))).run prog cb= .ok (.slice fo fq e') hF/\
   J hF/\∃hy eA hj gS,(Instr.makeSlice 28 (.int .i64 (i64.wrap (I+ (1:Int)))) (.int .i64 (i64.wrap (I+ (1:Int))))).run prog hF= .ok (.slice eA hj gS) hy/\
   J hy/\∀n165 hR,bc (.cells #[.int .i64 O,.slice none 0 0,.slice fo fq e',.slice a8 b8 bY,.slice eA hj gS,.slice Y Q U,.slice none 0 0,.slice none 0 0,.slice none 0 0,.int .i64 0,.slice none 0 0] 147) hy n165 hR->
   J8 (Addr.mk n165 0 none) hR)/\
 (∃g5 g9 gs hx,(Instr.makeSlice 28 (.int .i64 (i64.wrap (I+ (1:Int)))) (.int .i64 (i64.wrap (I+ (1:Int))))).run prog cb= .ok (.slice g9 gs hx) g5/\
   J g5/\∃eu g' eR ga,(Instr.makeSlice 22 (.int .i64 (i64.wrap ((2:Int)* (i64.wrap (I+ (1:Int)))))) (.int .i64 (i64.wrap ((2:Int)* (i64.wrap (I+ (1:Int))))))).run prog g5= .ok (.slice g' eR ga) eu/\
   J eu/\∀n171 k_,bc (.cells #[.int .i64 O,.slice none 0 0,.slice g' eR ga,.slice a8 b8 bY,.slice g9 gs hx,.slice Y Q U,.slice none 0 0,.slice none 0 0,.slice none 0 0,.int .i64 0,.slice none 0 0] 147) eu n171 k_->
   J8 (Addr.mk n171 0 none) k_))/\
 (∃ce a_ b5 b6,(Instr.makeSlice 28 (.int .i64 (i64.wrap (I+ (1:Int)))) (.int .i64 (i64.wrap (I+ (1:Int))))).run prog aw= .ok (.slice a_ b5 b6) ce/\
   J ce/\(∃gp dp gu eb,(Instr.makeSlice 22 (.int .i64 (i64.wrap ((2:Int)* (i64.wrap (I+ (1:Int)))))) (.int .i64 (i64.wrap ((2:Int)* (i64.wrap (I+ (1:Int))))))).run prog ce= .ok (.slice dp gu eb) gp/\
   J gp/\∃fA e6 hg dd,(Instr.makeSlice 144 (.int .i64 (i64.wrap (I+ (1:Int)))) (.int .i64 (i64.wrap (I+ (1:Int))))).run prog gp= .ok (.slice e6 hg dd) fA/\
   J fA/\∀n179 h3,bc (.cells #[.int .i64 O,.slice none 0 0,.slice dp gu eb,.slice e6 hg dd,.slice a_ b5 b6,.slice Y Q U,.slice none 0 0,.slice none 0 0,.slice none 0 0,.int .i64 0,.slice none 0 0] 147) fA n179 h3->
   J8 (Addr.mk n179 0 none) h3)/\
 (∃hE e7 e9 e4,(Instr.makeSlice 144 (.int .i64 (i64.wrap (I+ (1:Int)))) (.int .i64 (i64.wrap (I+ (1:Int))))).run prog ce= .ok (.slice e7 e9 e4) hE/\
   J hE/\∃g4 gW gJ g8,(Instr.makeSlice 22 (.int .i64 (i64.wrap ((2:Int)* (i64.wrap (I+ (1:Int)))))) (.int .i64 (i64.wrap ((2:Int)* (i64.wrap (I+ (1:Int))))))).run prog hE= .ok (.slice gW gJ g8) g4/\
   J g4/\∀n185 mn,bc (.cells #[.int .i64 O,.slice none 0 0,.slice gW gJ g8,.slice e7 e9 e4,.slice a_ b5 b6,.slice Y Q U,.slice none 0 0,.slice none 0 0,.slice none 0 0,.int .i64 0,.slice none 0 0] 147) g4 n185 mn->
   J8 (Addr.mk n185 0 none) mn))))/\
   ∀aT g0 (_:Fr),J8 aT g0->
   ∃dT ax mz,g0.cell? ((Addr.mk n1 0 none).add 1)=some (.slice dT ax mz)/\
   ∃e2:Int->World->Nat->Prop,(∃cm,e2 0 g0 cm)/\
   ∀v193 b9 cm (_:Fr),e2 v193 b9 cm->
   aH (decide (v193< (ax:Int)))
    (aV dT ax v193 1 fun pn=>
      ∃cT fl ea,b9.cell? pn=some (.slice cT fl ea)/\
      Calls prog 106 #[.pointer (some aT),.slice cT fl ea] b9 fun e o7=> ∃p3 oo,e= .returned (.tuple #[.int .i64 p3,.int .i64 oo])/\
      ∃l3,l3<cm/\e2 (i64.wrap (v193+ (1:Int))) o7 l3)
    (K (.tuple #[.pointer (some aT),.int .i64 0]) b9))
theorem mr.ah {f_0 f1p f1n f1c w R} (h:mr.w f_0 f1p f1n f1c w fun v w'=>R (.returned v) w'):Calls prog 76 #[.agg #[.int .i64 f_0,.slice f1p f1n f1c]] w R:=
 aj mixed Tryz.func76 (by kernel_rfl) rfl (ann:=(.aF .ae (.aF .ae (.aF .ae (.cut [(5,1000000)] .dm (.aF (.aF .ae (.bS (.loop [(30,3)] .ae))) .ae)))))) (F:=mr.w f_0 f1p f1n f1c w) (fun K=>by kernel_rfl) h
def lU.w (O:Int) (w:World) (K:Value->World->Prop):Prop:=
 aH (decide (O< (0:Int)))
 (K (.tuple #[.pointer none,.int .i64 1]) w)
 (aH (decide (O> (1048576:Int)))
 (K (.tuple #[.pointer none,.int .i64 1]) w)
 ((∃w1 b6 b7 ce,(Instr.makeSlice 28 (.int .i64 (i64.wrap (O+ (1:Int)))) (.int .i64 (i64.wrap (O+ (1:Int))))).run prog w.drew= .ok (.slice b6 b7 ce) w1/\
   ∃w3 b' cp b_,(Instr.makeSlice 28 (.int .i64 (i64.wrap (O+ (1:Int)))) (.int .i64 (i64.wrap (O+ (1:Int))))).run prog w1= .ok (.slice b' cp b_) w3/\
   ∀n5 w6,bc (.cells #[.slice none 0 0,.slice b6 b7 ce,.slice b' cp b_,.int .i64 64] 149) w3 n5 w6->
   ∃I7:Int->World->Nat->Prop,(∃k8,I7 1 w6 k8)/\
   ∀J V k8 (_:Fr),I7 J V k8->
   aH (decide (J<=O))
    (∃b9,(some (Addr.mk n5 0 none))=some b9/\∃a_ bb X,V.cell? (b9.add 0)=some (.slice a_ bb X)/\
      ∀n14 b4,bc (.cells #[.int .i64 J] 3) V n14 b4->
      ∃b3 aw aa ay,(Builtin.append_ #[28,28] 28 #[.slice a_ bb X,.slice (some (Addr.mk n14 0 none)) 1 1]).run prog b4= .ok (.slice aw aa ay) b3/\
      ∃c3,(some (Addr.mk n5 0 none))=some c3/\∃bv,af (c3.add 0) 0 [.slice aw aa ay] b3 bv/\
      ∃b5,(some (Addr.mk n5 0 none))=some b5/\∃ar a7 dq,bv.cell? (b5.add 1)=some (.slice ar a7 dq)/\
      aV ar a7 J 1 fun a22=>
      ∃cc,af a22 0 [.int .i64 J] bv cc/\
      ∃k9,k9<k8/\I7 (i64.wrap (J+ (1:Int))) cc k9)
    (K (.tuple #[.pointer (some (Addr.mk n5 0 none)),.int .i64 0]) V))/\
 (∃cg ax Y a6,(Instr.makeSlice 28 (.int .i64 (i64.wrap (O+ (1:Int)))) (.int .i64 (i64.wrap (O+ (1:Int))))).run prog w.drew= .ok (.slice ax Y a6) cg/\
   ∃c1 a8 ag ac,(Instr.makeSlice 28 (.int .i64 (i64.wrap (O+ (1:Int)))) (.int .i64 (i64.wrap (O+ (1:Int))))).run prog cg= .ok (.slice a8 ag ac) c1/\
   ∀n28 dp,bc (.cells #[.slice none 0 0,.slice a8 ag ac,.slice ax Y a6,.int .i64 64] 149) c1 n28 dp->
   ∃bY:Int->World->Nat->Prop,(∃U,bY 1 dp U)/\
   ∀I Q U (_:Fr),bY I Q U->
   aH (decide (I<=O))
    (∃cT,(some (Addr.mk n28 0 none))=some cT/\∃av aT an,Q.cell? (cT.add 0)=some (.slice av aT an)/\
      ∀c0 c7,bc (.cells #[.int .i64 I] 3) Q c0 c7->
      ∃dd Z az a',(Builtin.append_ #[28,28] 28 #[.slice av aT an,.slice (some (Addr.mk c0 0 none)) 1 1]).run prog c7= .ok (.slice Z az a') dd/\
      ∃cb,(some (Addr.mk n28 0 none))=some cb/\∃bx,af (cb.add 0) 0 [.slice Z az a'] dd bx/\
      ∃cm,(some (Addr.mk n28 0 none))=some cm/\∃bk ap b8,bx.cell? (cm.add 1)=some (.slice bk ap b8)/\
      aV bk ap I 1 fun a45=>
      ∃c2,af a45 0 [.int .i64 I] bx c2/\
      ∃dk,dk<U/\bY (i64.wrap (I+ (1:Int))) c2 dk)
    (K (.tuple #[.pointer (some (Addr.mk n28 0 none)),.int .i64 0]) Q))))
theorem lU.ah {n_ w R} (h:lU.w n_ w fun v w'=>R (.returned v) w'):Calls prog 77 #[.int .i64 n_] w R:=
 aj mixed Tryz.func77 (by kernel_rfl) rfl (ann:=(.aF .ae (.aF .ae (.aF .ae (.aF (.aF .ae (.bS (.loop [(5,3)] .ae))) .ae))))) (F:=lU.w n_ w) (fun K=>by kernel_rfl) h
def ji.w (X:Int) (w:World) (K:Value->World->Prop):Prop:=
 ∀I w2,bc (.cells #[.int .i64 0,.int .i64 0,.int .i64 0] 104) w I w2->
 aH (decide (X< (1:Int)))
 (∃w3,af (Addr.mk I 0 none) 0 [.int .i64 0,.int .i64 0,.int .i64 0] w2 w3/\
 ∃x4 x5 x6,aD w3 (Addr.mk I 0 none) 0 [.int .i64 x4,.int .i64 x5,.int .i64 x6]/\
 K (.tuple #[.agg #[.int .i64 x4,.int .i64 x5,.int .i64 x6],.int .i64 1]) w3)
 (aH (decide (X> (1048576:Int)))
 (∃Y,af (Addr.mk I 0 none) 0 [.int .i64 0,.int .i64 0,.int .i64 0] w2 Y/\
   ∃x8 Z O,aD Y (Addr.mk I 0 none) 0 [.int .i64 x8,.int .i64 Z,.int .i64 O]/\
   K (.tuple #[.agg #[.int .i64 x8,.int .i64 Z,.int .i64 O],.int .i64 1]) Y)
 (∃J,af (Addr.mk I 0 none) 0 [.int .i64 X,.int .i64 1,.int .i64 X] w2 J/\
   ∃U V Q,aD J (Addr.mk I 0 none) 0 [.int .i64 U,.int .i64 V,.int .i64 Q]/\
   K (.tuple #[.agg #[.int .i64 U,.int .i64 V,.int .i64 Q],.int .i64 0]) J))
theorem ji.ah {u_ w R} (h:ji.w u_ w fun v w'=>R (.returned v) w'):Calls prog 78 #[.int .i64 u_] w R:=
 aj mixed Tryz.func78 (by kernel_rfl) rfl (ann:= .ae) (F:=ji.w u_ w) (fun K=>by kernel_rfl) h
def dQ.w (Z:Option Addr) (w:World) (K:Value->World->Prop):Prop:=
 aH Z.isNone
 (K (.int .i64 (-1)) w)
 (∃a1,Z=some a1/\∃c0 fb e8,w.cell? (a1.add 3)=some (.slice c0 fb e8)/\
 aH c0.isNone
 (K (.int .i64 (-1)) w)
 (Calls prog 118 #[.pointer Z] w fun e w3=> ∃r4,e= .returned (.int .i64 r4)/\
   aH (decide (r4>=(0:Int)))
   (K (.int .i64 r4) w3)
   (∃I5:World->Nat->Prop,(∃k6,I5 w3 k6)/\
     ∀w8 k6 (_:Fr),I5 w8 k6->
     ∃a9,Z=some a9/\∃er,w8.drew.cell? (a9.add 9)=some (.int .i64 er)/\
      ∃eg,Z=some eg/\∃dd a_ eH,w8.drew.cell? (eg.add 6)=some (.slice dd a_ eH)/\
      aH (decide (er< (a_:Int)))
      (∃du,Z=some du/\∃ar a7 ce,w8.drew.drew.cell? (du.add 6)=some (.slice ar a7 ce)/\
        ∃b_,Z=some b_/\∃ej,w8.drew.drew.cell? (b_.add 9)=some (.int .i64 ej)/\
        aV ar a7 ej 1 fun fj=>
        ∃aa,w8.drew.drew.cell? fj=some (.int .i64 aa)/\
        ∃an:World->Prop,an w8.drew.drew.drew/\
        ∃c1,Z=some c1/\∃a6 a8 e3,e_ an (c1.add 2) (.slice a6 a8 e3)/\
        Calls prog 119 #[.int .i64 (i64.wrap (0 - aa))] w8.drew.drew.drew fun e ek=> ∃eA,e= .returned (.int .i64 eA)/\
        an ek/\aV a6 a8 eA 1 fun fd=>
        ∃J I Q,e_ an fd (.slice J I Q)/\
        ∃ag:Int->Int->World->Nat->Prop,(∃ac,ag 0 0 ek ac)/\
        ∀O U X ac (_:Fr),ag O U X ac->
        aH (decide (U< (I:Int)))
         (aV J I U 1 fun fk=>
           ∃Y,X.cell? fk=some (.int .i64 Y)/\
           ∃cb,Z=some cb/\∃ay aT eL,X.cell? (cb.add 1)=some (.slice ay aT eL)/\
           aV ay aT Y 3 fun fl=>
           ∃ew bb eu,X.cell? (fl.add 1)=some (.slice ew bb eu)/\
           aH (decide ((bb:Int)< (2:Int)))
           (aV J I O 1 fun e7=>
             ∃es,af e7 0 [.int .i64 Y] X es/\
             ∃V,V<ac/\ag (i64.wrap (O+ (1:Int))) (i64.wrap (U+ (1:Int))) es V)
           (Calls prog 120 #[.pointer Z,.int .i64 Y,.int .i64 (i64.wrap (0 - aa))] X fun e b8=> ∃c2 b7,e= .returned (.tuple #[.bool c2,.bool b7])/\
             aH c2
             (aV J I O 1 fun e9=>
               ∃bv,af e9 0 [.int .i64 Y] b8 bv/\
               aH b7
               (pP J I Q 1 (some (i64.wrap (O+ (1:Int)))) none none fun eb ez d'=>
                 pP J I Q 1 (some (i64.wrap (U+ (1:Int)))) none none fun dq cg eR=>
                 ∃b6 c7,(Builtin.copy_ #[28,28] 3 #[.slice eb ez d',.slice dq cg eR]).run prog bv.drew= .ok (.int .i64 c7) b6/\
                 ∃b5:World->Prop,b5 b6.drew/\
                 ∃a50,Z=some a50/\∃ax az d5,e_ b5 (a50.add 2) (.slice ax az d5)/\
                 Calls prog 119 #[.int .i64 (i64.wrap (0 - aa))] b6.drew fun e d9=> ∃ei,e= .returned (.int .i64 ei)/\
                 b5 d9/\pP J I Q 1 none (some (i64.wrap ((i64.wrap (O+ (1:Int)))+c7))) none fun cT e2 ey=>
                 aV ax az ei 1 fun a55=>
                 ∃dT,af a55 0 [.slice cT e2 ey] d9 dT/\
                 K (.int .i64 Y) dT)
               (∃V,V<ac/\ag (i64.wrap (O+ (1:Int))) (i64.wrap (U+ (1:Int))) bv V))
             (aH b7
               (pP J I Q 1 (some O) none none fun dc dp el=>
                 pP J I Q 1 (some (i64.wrap (U+ (1:Int)))) none none fun b' dk eT=>
                 ∃bx b9,(Builtin.copy_ #[28,28] 3 #[.slice dc dp el,.slice b' dk eT]).run prog b8.drew= .ok (.int .i64 b9) bx/\
                 ∃b3:World->Prop,b3 bx.drew/\
                 ∃ed,Z=some ed/\∃av bk d8,e_ b3 (ed.add 2) (.slice av bk d8)/\
                 Calls prog 119 #[.int .i64 (i64.wrap (0 - aa))] bx.drew fun e e4=> ∃cp,e= .returned (.int .i64 cp)/\
                 b3 e4/\pP J I Q 1 none (some (i64.wrap (O+b9))) none fun ea ef ec=>
                 aV av bk cp 1 fun e'=>
                 ∃eN,af e' 0 [.slice ea ef ec] e4 eN/\
                 K (.int .i64 Y) eN)
               (∃V,V<ac/\ag O (i64.wrap (U+ (1:Int))) b8 V))))
         (∃bY:World->Prop,bY X.drew/\
           ∃a70,Z=some a70/\∃aw a' c3,e_ bY (a70.add 2) (.slice aw a' c3)/\
           Calls prog 119 #[.int .i64 (i64.wrap (0 - aa))] X.drew fun e en=> ∃ep,e= .returned (.int .i64 ep)/\
           bY en/\pP J I Q 1 none (some O) none fun e5 e1 cc=>
           aV aw a' ep 1 fun fi=>
           ∃b4,af fi 0 [.slice e5 e1 cc] en b4/\
           ∃a77,Z=some a77/\∃cm,b4.cell? (a77.add 9)=some (.int .i64 cm)/\
           ∃et,Z=some et/\∃d4,af (et.add 9) 0 [.int .i64 (i64.wrap (cm+ (1:Int)))] b4 d4/\
           ∃k7,k7<k6/\I5 d4 k7))
      (K (.int .i64 (-1)) w8.drew))))
theorem dQ.ah {p_ w R} (h:dQ.w p_ w fun v w'=>R (.returned v) w'):Calls prog 79 #[.pointer p_] w R:=
 aj mixed Tryz.func79 (by kernel_rfl) rfl (ann:=(.aF .ae (.bS (.aF .ae (.aF .ae (.aF .ae (.aF (.bS (.loop [] (.aF .ae (.bS (.aF .ae (.aF .dm (.aF .ae (.aF (.aF .ae (.bS (.loop [(6,3),(56,3)] (.aF .ae (.aF .ae (.aF (.bS (.aF .ae (.aF .ae (.aF .ae (.aF .ae (.aF .ae (.aF (.aF .ae (.aF .dm .ae)) .ae))))))) .ae)))))) (.aF .dm .ae))))))))) .ae))))))) (F:=dQ.w p_ w) (fun K=>by kernel_rfl) h
def cA.w (I:Option Addr) (w:World) (K:Value->World->Prop):Prop:=
 ∃I1:World->Nat->Prop,(∃k2,I1 w k2)/\
 ∀w4 k2 (_:Fr),I1 w4 k2->
 ∃a5,I=some a5/\∃x6,w4.cell? (a5.add 6)=some (.pointer x6)/\
  Calls prog 121 #[.pointer x6] w4 fun e w7=> ∃r8 r9,e= .returned (.tuple #[.int .i64 r8,.bool r9])/\
  aH (!r9)
  (K (.bool false) w7)
  (∃av,I=some av/\∃ag,w7.cell? (av.add 5)=some (.pointer ag)/\
    Calls prog 122 #[.pointer ag,.int .i64 r8] w7 fun e J=> ∃aT,e= .returned (.int .i64 aT)/\
    aH (aT !=(0:Int))
    (∃k3,k3<k2/\I1 J k3)
    (∃a6,I=some a6/\∃O Q Y,J.cell? (a6.add 7)=some (.slice O Q Y)/\
      aV O Q r8 1 fun bx=>
      ∃aw,J.cell? bx=some (.int .i64 aw)/\
      aH (decide (aw> (0:Int)))
      (∃aa,I=some aa/\∃a7,J.cell? (aa.add 5)=some (.pointer a7)/\
        Calls prog 123 #[.pointer a7,.int .i64 r8] J fun e U=> ∃a',e= .returned (.int .i64 a')/\
        ∃a22,I=some a22/\∃az,U.cell? ((a22.add 14).add 4)=some (.int .i64 az)/\
        ∃X,I=some X/\∃Z,af ((X.add 14).add 4) 0 [.int .i64 (i64.wrap (az+ (1:Int)))] U Z/\
        K (.bool true) Z)
      (∃ax,I=some ax/\∃an,J.cell? (ax.add 5)=some (.pointer an)/\
        Calls prog 123 #[.pointer an,.int .i64 (i64.wrap (0 - r8))] J fun e ap=> ∃bY,e= .returned (.int .i64 bY)/\
        ∃a8,I=some a8/\∃ar,ap.cell? ((a8.add 14).add 4)=some (.int .i64 ar)/\
        ∃ay,I=some ay/\∃V,af ((ay.add 14).add 4) 0 [.int .i64 (i64.wrap (ar+ (1:Int)))] ap V/\
        K (.bool true) V)))
theorem cA.ah {x0_ w R} (h:cA.w x0_ w fun v w'=>R (.returned v) w'):Calls prog 80 #[.pointer x0_] w R:=
 aj mixed Tryz.func80 (by kernel_rfl) rfl (ann:=(.aF .ae (.bS (.loop [] .ae)))) (F:=cA.w x0_ w) (fun K=>by kernel_rfl) h
def eK.w (I:Option Addr) (w:World) (K:Value->World->Prop):Prop:=
 ∃a1,I=some a1/\∃w2,af ((a1.add 14).add 0) 0 [.int .i64 1] w w2/\
 ∃a3,I=some a3/\∃w4,af ((a3.add 14).add 2) 0 [.slice none 0 0] w2 w4/\
 ∃I5:Int->World->Nat->Prop,(∃k6,I5 1 w4 k6)/\
 ∀O w9 k6 (_:Fr),I5 O w9 k6->
 ∃ax,I=some ax/\∃ar,w9.cell? ((ax.add 0).add 0)=some (.int .i64 ar)/\
  aH (decide (O<=ar))
  (∃J:World->Prop,J w9.drew/\
    ∃az,I=some az/\∃U X V,e_ J ((az.add 14).add 1) (.slice U X V)/\
    ∃ac,I=some ac/\∃ap,e_ J (ac.add 5) (.pointer ap)/\
    Calls prog 122 #[.pointer ap,.int .i64 O] w9.drew fun e ay=> ∃ag,e= .returned (.int .i64 ag)/\
    J ay/\∀av aa,bc (.cells #[.int .i64 ag] 3) ay av aa->
    J aa/\∃aw Z Q Y,(Builtin.append_ #[28,28] 28 #[.slice U X V,.slice (some (Addr.mk av 0 none)) 1 1]).run prog aa= .ok (.slice Z Q Y) aw/\
    ∃a6,I=some a6/\∃aT,af ((a6.add 14).add 1) 0 [.slice Z Q Y] aw aT/\
    ∃k7,k7<k6/\I5 (i64.wrap (O+ (1:Int))) aT k7)
  (K (.tuple #[]) w9)
theorem eK.ah {x0_ w R} (h:eK.w x0_ w fun v w'=>R (.returned v) w'):Calls prog 81 #[.pointer x0_] w R:=
 aj mixed Tryz.func81 (by kernel_rfl) rfl (ann:=(.aF .ae (.aF .ae (.bS (.loop [(2,3)] (.aF .ae (.aF (.bS .dm) .ae))))))) (F:=eK.w x0_ w) (fun K=>by kernel_rfl) h
def dY.w (Q:Option Addr) (w:World) (K:Value->World->Prop):Prop:=
 aH Q.isNone
 (K (.int .i64 0) w)
 (∃a1,Q=some a1/\∃O I J,w.cell? (a1.add 7)=some (.slice O I J)/\
   K (.int .i64 (I:Int)) w)
theorem dY.ah {p_ w R} (h:dY.w p_ w fun v w'=>R (.returned v) w'):Calls prog 82 #[.pointer p_] w R:=
 aj mixed Tryz.func82 (by kernel_rfl) rfl (ann:= .ae) (F:=dY.w p_ w) (fun K=>by kernel_rfl) h
def dW.w (ag:Option Addr) (a:Option Addr) (b:Nat) (c:Nat) (w:World) (K:Value->World->Prop):Prop:=
 ∃W1:World->Prop,W1 w.drew/\
 ∃a2,ag=some a2/\∃I Z J,e_ W1 ((a2.add 14).add 2) (.slice I Z J)/\
 Calls prog 70 #[.slice a b c] w.drew fun e w4=> ∃aa O ac,e= .returned (.slice aa O ac)/\
 W1 w4/\∀n6 w7,bc (.cells #[.bool false,.slice aa O ac] 48) w4 n6 w7->
 W1 w7/\∃w8 X Y V,(Builtin.append_ #[25,25] 25 #[.slice I Z J,.slice (some (Addr.mk n6 0 none)) 1 1]).run prog w7= .ok (.slice X Y V) w8/\
 ∃U,ag=some U/\∃Q,af ((U.add 14).add 2) 0 [.slice X Y V] w8 Q/\
 K (.tuple #[]) Q
theorem dW.ah {x0_ a b c w R} (h:dW.w x0_ a b c w fun v w'=>R (.returned v) w'):Calls prog 83 #[.pointer x0_,.slice a b c] w R:=
 aj mixed Tryz.func83 (by kernel_rfl) rfl (ann:= .dm) (F:=dW.w x0_ a b c w) (fun K=>by kernel_rfl) h
def bH.w (I:Option Addr) (i_:Int) (w:World) (K:Value->World->Prop):Prop:=
 ∃a1,I=some a1/\∃x2,w.cell? ((a1.add 14).add 3)=some (.int .i64 x2)/\
 ∃a3,I=some a3/\∃w4,af ((a3.add 14).add 3) 0 [.int .i64 (i64.wrap (x2+ (1:Int)))] w w4/\
 ∃a5,I=some a5/\∃x6,w4.cell? (a5.add 5)=some (.pointer x6)/\
 Calls prog 124 #[.pointer x6,.int .i64 i_] w4 fun e w7=> ∃ax aw ay r9,e= .returned (.tuple #[.slice ax aw ay,.bool r9])/\
 Calls prog 125 #[.pointer I,.slice ax aw ay] w7 fun e d9=> ∃O U Q cp b6,e= .returned (.tuple #[.slice O U Q,.int .i64 cp,.int .i64 b6])/\
 Calls prog 70 #[.slice ax aw ay] d9 fun e ej=> ∃ar an ac,e= .returned (.slice ar an ac)/\
 ∃a6 ap X cg,(Builtin.append_ #[28,28] 28 #[.slice ar an ac,.slice O U Q]).run prog ej= .ok (.slice ap X cg) a6/\
 ∃aT:Int->World->Nat->Prop,(∃aa,aT 0 a6 aa)/\
 ∀Y V aa (_:Fr),aT Y V aa->
 aH (decide (Y< (X:Int)))
  (aV ap X Y 1 fun d'=>
    ∃az,V.cell? d'=some (.int .i64 az)/\
    ∃a25,I=some a25/\∃c0,V.cell? (a25.add 6)=some (.pointer c0)/\
    Calls prog 126 #[.pointer c0,.int .i64 (imax az (i64.wrap (0 - az)))] V fun e ef=> ∃eb,e= .returned (.int .i64 eb)/\
    ∃dc,dc<aa/\aT (i64.wrap (Y+ (1:Int))) ef dc)
  (∃c1,I=some c1/\∃a',V.cell? (c1.add 6)=some (.pointer a')/\
    Calls prog 127 #[.pointer a'] V fun e ei=>e= .returned (.tuple #[])/\
    Calls prog 83 #[.pointer I,.slice O U Q] ei fun e dT=>e= .returned (.tuple #[])/\
    Calls prog 128 #[.pointer I,.int .i64 (imax 0 cp)] dT fun e ea=>e= .returned (.tuple #[])/\
    Calls prog 129 #[.pointer I,.slice O U Q,.int .i64 b6] ea fun e a8=>e= .returned (.tuple #[])/\
    ∃b',I=some b'/\∃b_ c7 c2,aD a8 (b'.add 8) 0 [.int .i64 b_,.int .i64 c7,.int .i64 c2]/\
    Calls prog 130 #[.agg #[.int .i64 b_,.int .i64 c7,.int .i64 c2]] a8 fun e ed=> ∃bb bx cT bv,e= .returned (.tuple #[.agg #[.int .i64 bb,.int .i64 bx,.int .i64 cT],.bool bv])/\
    ∃b3,I=some b3/\∃J,af (b3.add 8) 0 [.int .i64 bb,.int .i64 bx,.int .i64 cT] ed J/\
    aH bv
    (∃a46,I=some a46/\∃b4,J.cell? ((a46.add 14).add 5)=some (.int .i64 b4)/\
      ∃cc,I=some cc/\∃c3,af ((cc.add 14).add 5) 0 [.int .i64 (i64.wrap (b4+ (1:Int)))] J c3/\
      Calls prog 128 #[.pointer I,.int .i64 0] c3 fun e Z=>e= .returned (.tuple #[])/\
      ∃bY,I=some bY/\∃b9 ag b7,Z.drew.cell? (bY.add 11)=some (.slice b9 ag b7)/\
      ∃a53,I=some a53/\∃du,Z.drew.cell? ((a53.add 2).add 2)=some (.int .i64 du)/\
      ∃a55,I=some a55/\∃b8,Z.drew.cell? (a55.add 13)=some (.int .i64 b8)/\
      Calls prog 131 #[.int .i64 (ag:Int),.int .i64 du,.int .i64 b8] Z.drew fun e dk=> ∃a_,e= .returned (.bool a_)/\
      aH a_
      (Calls prog 128 #[.pointer I,.int .i64 0] dk fun e d8=>e= .returned (.tuple #[])/\
        Calls prog 132 #[.pointer I] d8 fun e ec=>e= .returned (.tuple #[])/\
        K (.tuple #[]) ec)
      (K (.tuple #[]) dk))
    (∃dp,I=some dp/\∃dq av ce,J.drew.cell? (dp.add 11)=some (.slice dq av ce)/\
      ∃a7,I=some a7/\∃cm,J.drew.cell? ((a7.add 2).add 2)=some (.int .i64 cm)/\
      ∃dd,I=some dd/\∃b5,J.drew.cell? (dd.add 13)=some (.int .i64 b5)/\
      Calls prog 131 #[.int .i64 (av:Int),.int .i64 cm,.int .i64 b5] J.drew fun e bk=> ∃cb,e= .returned (.bool cb)/\
      aH cb
      (Calls prog 128 #[.pointer I,.int .i64 0] bk fun e d4=>e= .returned (.tuple #[])/\
        Calls prog 132 #[.pointer I] d4 fun e d5=>e= .returned (.tuple #[])/\
        K (.tuple #[]) d5)
      (K (.tuple #[]) bk)))
theorem bH.ah {x0_ i_ w R} (h:bH.w x0_ i_ w fun v w'=>R (.returned v) w'):Calls prog 84 #[.pointer x0_,.int .i64 i_] w R:=
 aj mixed Tryz.func84 (by kernel_rfl) rfl (ann:=(.aF .ae (.aF .ae (.aF .ae (.aF (.aF .ae (.bS (.loop [(42,3)] .ae))) .ae))))) (F:=bH.w x0_ i_ w) (fun K=>by kernel_rfl) h
def bX.w (a:Option Addr) (b:Nat) (c:Nat) (w:World) (K:Value->World->Prop):Prop:=
 aH a.isNone
 (K (.slice none 0 0) w)
 (∀Q w2,bc (.cells #[] 28) w Q w2->
   ∃w3 J O I,(Builtin.append_ #[22,22] 22 #[.slice (some (Addr.mk Q 0 none)) 0 0,.slice a b c]).run prog w2= .ok (.slice J O I) w3/\
   K (.slice J O I) w3)
theorem bX.ah {a b c w R} (h:bX.w a b c w fun v w'=>R (.returned v) w'):Calls prog 85 #[.slice a b c] w R:=
 aj mixed Tryz.func85 (by kernel_rfl) rfl (ann:= .ae) (F:=bX.w a b c w) (fun K=>by kernel_rfl) h
def c9.w (a:Option Addr) (b:Nat) (c:Nat) (d:Option Addr) (f:Nat) (g:Nat) (w:World) (K:Value->World->Prop):Prop:=
 ∃I1:Bool->Int->World->Nat->Prop,(∃X,I1 false 0 w X)/\
 ∀J I U X (_:Fr),I1 J I U X->
 aH (decide (I< (f:Int)))
  (aV d f I 1 fun a7=>
    ∃x8,U.cell? a7=some (.int .i64 x8)/\
    Calls prog 133 #[.slice a b c,.int .i64 x8] U fun e Z=> ∃Q,e= .returned (.int .i64 Q)/\
    aH (Q==(1:Int))
    (K (.int .i64 1) Z)
    (aH J
      (∃Y,Y<X/\I1 true (i64.wrap (I+ (1:Int))) Z Y)
      (aV d f I 1 fun ag=>
      ∃O,Z.cell? ag=some (.int .i64 O)/\
      Calls prog 133 #[.slice a b c,.int .i64 O] Z fun e ac=> ∃V,e= .returned (.int .i64 V)/\
      ∃Y,Y<X/\I1 (V==(0:Int)) (i64.wrap (I+ (1:Int))) ac Y)))
  (aH J
    (K (.int .i64 0) U)
    (K (.int .i64 (-1)) U))
theorem c9.ah {a b c d f g w R} (h:c9.w a b c d f g w fun v w'=>R (.returned v) w'):Calls prog 86 #[.slice a b c,.slice d f g] w R:=
 aj mixed Tryz.func86 (by kernel_rfl) rfl (ann:=(.aF .ae (.aF .ae (.aF (.aF .ae (.bS (.loop [(5,4),(6,3)] .ae))) .ae)))) (F:=c9.w a b c d f g w) (fun K=>by kernel_rfl) h
def eh.w (U:Int) (I:Addr) (w:World) (K:Value->World->Prop):Prop:=
 (Calls prog 89 #[.int .i64 U] w.drew fun e w1=> ∃J,e= .returned (.int .i64 J)/\
 ∃Q,w1.cell? (I.add 0)=some (.int .i64 Q)/\
 K (.bool (decide (J>Q))) w1)/\
(∃O,w.drew.cell? (I.add 0)=some (.int .i64 O)/\
  Calls prog 89 #[.int .i64 U] w.drew fun e X=> ∃V,e= .returned (.int .i64 V)/\
  K (.bool (decide (V>O))) X)
theorem eh.ah {l_ c0_ w R} (h:eh.w l_ c0_ w fun v w'=>R (.returned v) w'):Calls prog 88 #[.int .i64 l_,.pointer (some c0_)] w R:=
 aj mixed Tryz.func88 (by kernel_rfl) rfl (ann:= .ae) (F:=eh.w l_ c0_ w) (fun K=>by kernel_rfl) h
def fz.w (I:Int) (w:World) (K:Value->World->Prop):Prop:=
 K (.int .i64 (imax I (i64.wrap (0 - I)))) w
theorem fz.ah {l_ w R} (h:fz.w l_ w fun v w'=>R (.returned v) w'):Calls prog 89 #[.int .i64 l_] w R:=
 aj mixed Tryz.func89 (by kernel_rfl) rfl (ann:= .ae) (F:=fz.w l_ w) (fun K=>by kernel_rfl) h
def bf.w (a:Option Addr) (b:Nat) (c:Nat) (I:FuncId) (J:Array Value) (w:World) (K:Value->World->Prop):Prop:=
 Calls prog 92 #[.slice a b c,.func (.func I) #[] J] w fun e w1=> ∃O,e= .returned (.int .i64 O)/\
 K (.bool (decide (O>=(0:Int)))) w1
theorem bf.ah {a b c f_f f_v w R} (h:bf.w a b c f_f f_v w fun v w'=>R (.returned v) w'):Calls prog 90 #[.slice a b c,.func (.func f_f) #[] f_v] w R:=
 aj mixed Tryz.func90 (by kernel_rfl) rfl (ann:= .ae) (F:=bf.w a b c f_f f_v w) (fun K=>by kernel_rfl) h
def fB.w (Q:Bool) (X:Option Addr) (U:Nat) (V:Nat) (w:World) (K:Value->World->Prop):Prop:=
 ∀Z w2,bc (.cells #[.bool Q,.slice X U V] 48) w Z w2->
 ∃I J O,w2.cell? ((Addr.mk Z 0 none).add 1)=some (.slice I J O)/\
 Calls prog 62 #[.slice I J O] w2 fun e w4=> ∃Y,e= .returned (.int .i64 Y)/\
 K (.bool (Y !=(0:Int))) w4
theorem fB.ah {s_0 s1p s1n s1c w R} (h:fB.w s_0 s1p s1n s1c w fun v w'=>R (.returned v) w'):Calls prog 91 #[.agg #[.bool s_0,.slice s1p s1n s1c]] w R:=
 aj mixed Tryz.func91 (by kernel_rfl) rfl (ann:= .ae) (F:=fB.w s_0 s1p s1n s1c w) (fun K=>by kernel_rfl) h
def aU.w (a:Option Addr) (b:Nat) (c:Nat) (O:FuncId) (Z:Array Value) (w:World) (K:Value->World->Prop):Prop:=
 ∃Y:Int->World->Nat->Prop,(∃X,Y 0 w X)/\
 ∀v4 V X (_:Fr),Y v4 V X->
 aH (decide (v4< (b:Int)))
  (aV a b v4 2 fun a6=>
    ∃x7 J Q U,aD V a6 0 [.bool x7,.slice J Q U]/\
    aH (fM prog O) (Calls prog O (#[]++ #[.agg #[.bool x7,.slice J Q U]]++Z) V fun e w9=> ∃I,e= .returned (.bool I)/\
    aH I
    (K (.int .i64 v4) w9)
    (∃k3,k3<X/\Y (i64.wrap (v4+ (1:Int))) w9 k3)) False)
  (K (.int .i64 (-1)) V)
theorem aU.ah {a b c f_f f_v w R} (h:aU.w a b c f_f f_v w fun v w'=>R (.returned v) w'):Calls prog 92 #[.slice a b c,.func (.func f_f) #[] f_v] w R:=
 aj mixed Tryz.func92 (by kernel_rfl) rfl (ann:=(.aF .ae (.aF (.aF .ae (.bS (.loop [(8,3)] .ae))) .ae))) (F:=aU.w a b c f_f f_v w) (fun K=>by kernel_rfl) h
def jx.w (J:Bool) (V:Option Addr) (O:Nat) (U:Nat) (w:World) (K:Value->World->Prop):Prop:=
 ∀Y w2,bc (.cells #[.bool J,.slice V O U] 48) w Y w2->
 ∃Z,w2.cell? ((Addr.mk Y 0 none).add 0)=some (.bool Z)/\
 aH (!Z)
 (∃Q I X,w2.cell? ((Addr.mk Y 0 none).add 1)=some (.slice Q I X)/\
 K (.bool ((I:Int)==(0:Int))) w2)
 (K (.bool false) w2)
theorem jx.ah {s_0 s1p s1n s1c w R} (h:jx.w s_0 s1p s1n s1c w fun v w'=>R (.returned v) w'):Calls prog 93 #[.agg #[.bool s_0,.slice s1p s1n s1c]] w R:=
 aj mixed Tryz.func93 (by kernel_rfl) rfl (ann:= .ae) (F:=jx.w s_0 s1p s1n s1c w) (fun K=>by kernel_rfl) h
def kI.w (a:Option Addr) (b:Nat) (c:Nat) (w:World) (K:Value->World->Prop):Prop:=
 Calls prog 62 #[.slice a b c] w fun e w1=> ∃r2,e= .returned (.int .i64 r2)/\
 aH (r2 !=(0:Int))
 (K (.tuple #[.slice none 0 0,.bool false]) w1)
 (Calls prog 70 #[.slice a b c] w1 fun e w3=> ∃V Y U,e= .returned (.slice V Y U)/\
   Calls prog 135 #[.slice V Y U,.func (.func 136) #[] #[]] w3 fun e w5=>e= .returned (.tuple #[])/\
   Calls prog 137 #[.slice V Y U] w5 fun e w6=> ∃Q J X,e= .returned (.slice Q J X)/\
   ∃I8:Int->World->Nat->Prop,(∃k9,I8 1 w6 k9)/\
   ∀I O k9 (_:Fr),I8 I O k9->
   aH (decide (I< (J:Int)))
    (aV Q J I 1 fun ap=>
      ∃Z,O.drew.cell? ap=some (.int .i64 Z)/\
      aV Q J (i64.wrap (I - (1:Int))) 1 fun an=>
      ∃ac,O.drew.cell? an=some (.int .i64 ac)/\
      aH (Z==(i64.wrap (0 - ac)))
      (K (.tuple #[.slice Q J X,.bool true]) O.drew)
      (∃aa,aa<k9/\I8 (i64.wrap (I+ (1:Int))) O.drew aa))
    (K (.tuple #[.slice Q J X,.bool false]) O))
theorem kI.ah {a b c w R} (h:kI.w a b c w fun v w'=>R (.returned v) w'):Calls prog 94 #[.slice a b c] w R:=
 aj mixed Tryz.func94 (by kernel_rfl) rfl (ann:=(.aF .ae (.aF .ae (.aF .ae (.aF .ae (.aF .ae (.aF (.aF .ae (.bS (.loop [(5,3)] .ae))) .ae))))))) (F:=kI.w a b c w) (fun K=>by kernel_rfl) h
def aY.w (a:Option Addr) (b:Nat) (c:Nat) (V:FuncId) (aa:Array Value) (w:World) (K:Value->World->Prop):Prop:=
 ∃Z:Int->World->Nat->Prop,(∃Y,Z 0 w Y)/\
 ∀v4 X Y (_:Fr),Z v4 X Y->
 aH (decide (v4< (b:Int)))
  (aV a b v4 3 fun a6=>
    ∃Q I U x8 x9,aD X a6 0 [.slice Q I U,.bool x8,.int .i64 x9]/\
    aH (fM prog V) (Calls prog V (#[]++ #[.agg #[.slice Q I U,.bool x8,.int .i64 x9]]++aa) X fun e J=> ∃O,e= .returned (.bool O)/\
    aH O
    (K (.int .i64 v4) J)
    (∃k3,k3<Y/\Z (i64.wrap (v4+ (1:Int))) J k3)) False)
  (K (.int .i64 (-1)) X)
theorem aY.ah {a b c f_f f_v w R} (h:aY.w a b c f_f f_v w fun v w'=>R (.returned v) w'):Calls prog 95 #[.slice a b c,.func (.func f_f) #[] f_v] w R:=
 aj mixed Tryz.func95 (by kernel_rfl) rfl (ann:=(.aF .ae (.aF (.aF .ae (.bS (.loop [(8,3)] .ae))) .ae))) (F:=aY.w a b c f_f f_v w) (fun K=>by kernel_rfl) h
def gB.w (ar:Option Addr) (ap:Nat) (ac:Nat) (an:Bool) (aa:Int) (ag:Addr) (w:World) (K:Value->World->Prop):Prop:=
 ∀n1 w2,bc (.cells #[.slice ar ap ac,.bool an,.int .i64 aa] 79) w n1 w2->
 ∃O U Y,w2.cell? ((Addr.mk n1 0 none).add 0)=some (.slice O U Y)/\
 Calls prog 94 #[.slice O U Y] w2 fun e w4=> ∃V Q Z r6,e= .returned (.tuple #[.slice V Q Z,.bool r6])/\
 ∃J I X,w4.cell? ag=some (.slice J I X)/\
 Calls prog 97 #[.slice V Q Z,.slice J I X] w4 fun e w8=> ∃r9,e= .returned (.bool r9)/\
 K (.bool r9) w8
theorem gB.ah {s0p s0n s0c s_1 s_2 c0_ w R} (h:gB.w s0p s0n s0c s_1 s_2 c0_ w fun v w'=>R (.returned v) w'):Calls prog 96 #[.agg #[.slice s0p s0n s0c,.bool s_1,.int .i64 s_2],.pointer (some c0_)] w R:=
 aj mixed Tryz.func96 (by kernel_rfl) rfl (ann:= .ae) (F:=gB.w s0p s0n s0c s_1 s_2 c0_ w) (fun K=>by kernel_rfl) h
def cC.w (a:Option Addr) (b:Nat) (c:Nat) (d:Option Addr) (f:Nat) (g:Nat) (w:World) (K:Value->World->Prop):Prop:=
 aH ((b:Int) !=(f:Int))
 (K (.bool false) w)
 (∃O:Int->World->Nat->Prop,(∃J,O 0 w J)/\
   ∀v4 I J (_:Fr),O v4 I J->
   aH (decide (v4< (b:Int)))
    (aV a b v4 1 fun X=>
      ∃U,I.drew.cell? X=some (.int .i64 U)/\
      aV d f v4 1 fun Y=>
      ∃Q,I.drew.cell? Y=some (.int .i64 Q)/\
      aH (U !=Q)
      (K (.bool false) I.drew)
      (∃V,V<J/\O (i64.wrap (v4+ (1:Int))) I.drew V))
    (K (.bool true) I))
theorem cC.ah {a b c d f g w R} (h:cC.w a b c d f g w fun v w'=>R (.returned v) w'):Calls prog 97 #[.slice a b c,.slice d f g] w R:=
 aj mixed Tryz.func97 (by kernel_rfl) rfl (ann:=(.aF .ae (.aF .ae (.aF (.aF .ae (.bS (.loop [(13,3)] .ae))) .ae)))) (F:=cC.w a b c d f g w) (fun K=>by kernel_rfl) h
def aL.w (a:Option Addr) (b:Nat) (c:Nat) (V:Int) (j_:Int) (w:World) (K:Value->World->Prop):Prop:=
 pP a b c 3 (some V) (some j_) (some (b:Int)) fun ax aw ay=>
 aH (V==j_)
 (K (.slice a b c) w)
 (pP a b c 3 none (some V) none fun aa U X=>
   pP a b c 3 (some j_) none none fun ag Y Q=>
   ∃w4 J I O,(Builtin.append_ #[74,74] 74 #[.slice aa U X,.slice ag Y Q]).run prog w.drew= .ok (.slice J I O) w4/\
   pP J I O 3 (some (I:Int)) (some (b:Int)) none fun an ap Z=>
   ∃w7,(Builtin.clear_ #[74] 0 #[.slice an ap Z]).run prog w4= .ok (.tuple #[]) w7/\
   K (.slice J I O) w7)
theorem aL.ah {a b c i_ j_ w R} (h:aL.w a b c i_ j_ w fun v w'=>R (.returned v) w'):Calls prog 98 #[.slice a b c,.int .i64 i_,.int .i64 j_] w R:=
 aj mixed Tryz.func98 (by kernel_rfl) rfl (ann:= .ae) (F:=aL.w a b c i_ j_ w) (fun K=>by kernel_rfl) h
def oC.w (V:Int) (Q:Option Addr) (U:Nat) (X:Nat) (a:Option Addr) (b:Nat) (c:Nat) (w:World) (K:Value->World->Prop):Prop:=
 ∀n1 w2,bc (.cells #[.int .i64 V,.slice Q U X] 24) w n1 w2->
 ∃Z J I O,aD w2 (Addr.mk n1 0 none) 0 [.int .i64 Z,.slice J I O]/\
 Calls prog 48 #[.agg #[.int .i64 Z,.slice J I O]] w2 fun e Y=> ∃r6,e= .returned (.int .i64 r6)/\
 aH (r6==(0:Int))
 (Calls prog 62 #[.slice a b c] Y fun e w7=> ∃r8,e= .returned (.int .i64 r8)/\
 K (.bool (r8==(0:Int))) w7)
 (K (.bool false) Y)
theorem oC.ah {f_0 f1p f1n f1c a b c w R} (h:oC.w f_0 f1p f1n f1c a b c w fun v w'=>R (.returned v) w'):Calls prog 99 #[.agg #[.int .i64 f_0,.slice f1p f1n f1c],.slice a b c] w R:=
 aj mixed Tryz.func99 (by kernel_rfl) rfl (ann:= .ae) (F:=oC.w f_0 f1p f1n f1c a b c w) (fun K=>by kernel_rfl) h
def fF.w (X:Option Addr) (a:Option Addr) (b:Nat) (c:Nat) (w:World) (K:Value->World->Prop):Prop:=
 ∃a1,X=some a1/\∃x2,w.cell? (a1.add 2)=some (.pointer x2)/\
 Calls prog 139 #[.pointer X,.slice a b c] w fun e w3=> ∃ag Q a',e= .returned (.slice ag Q a')/\
 ∃I5:Int->World->Nat->Prop,(∃k6,I5 0 w3 k6)/\
 ∀Y U k6 (_:Fr),I5 Y U k6->
 aH (decide (Y< (Q:Int)))
  (aV ag Q Y 1 fun a_=>
    ∃J,U.cell? a_=some (.int .i64 J)/\
    ∃ac,X=some ac/\∃ar,U.cell? (ac.add 2)=some (.pointer ar)/\
    Calls prog 122 #[.pointer ar,.int .i64 J] U fun e I=> ∃O,e= .returned (.int .i64 O)/\
    aH (O==(1:Int))
    (CallsD prog 138 #[.pointer x2,.int .i64 0] .returning I fun e bb az=>bb= .returning/\∃bv:Value,e= .returned bv/\
      K (.bool true) az)
    (aH (O==(0:Int))
      (∃ap,X=some ap/\∃an,I.cell? (ap.add 2)=some (.pointer an)/\
        Calls prog 123 #[.pointer an,.int .i64 (i64.wrap (0 - J))] I fun e a8=> ∃ay,e= .returned (.int .i64 ay)/\
        ∃k7,k7<k6/\I5 (i64.wrap (Y+ (1:Int))) a8 k7)
      (∃k7,k7<k6/\I5 (i64.wrap (Y+ (1:Int))) I k7)))
  (∃aw,X=some aw/\∃V,U.cell? (aw.add 2)=some (.pointer V)/\
    Calls prog 79 #[.pointer V] U fun e aT=> ∃Z,e= .returned (.int .i64 Z)/\
    CallsD prog 138 #[.pointer x2,.int .i64 0] .returning aT fun e a6 bk=>a6= .returning/\∃a7:Value,e= .returned a7/\
    K (.bool (decide (Z>=(0:Int)))) bk)
theorem fF.ah {b_ a b c w R} (h:fF.w b_ a b c w fun v w'=>R (.returned v) w'):Calls prog 100 #[.pointer b_,.slice a b c] w R:=
 DJ mixed Tryz.func100 (by kernel_rfl) rfl (ann:=(.aF .ae (.aF .ae (.aF (.aF .ae (.bS (.loop [(15,3)] .ae))) .ae)))) (F:=fF.w b_ a b c w) (fun K=>by kernel_rfl) h
def ee.w (p_:Option Addr) (i_:Int) (w:World) (K:Value->World->Prop):Prop:=
 ∀n1 w2,bc (.cells #[.int .i64 i_] 3) w n1 w2->
 ∃x3,w2.cell? (Addr.mk n1 0 none)=some (.int .i64 x3)/\
 Calls prog 141 #[.pointer p_,.int .i64 x3] w2 fun e w4=> ∃r5,e= .returned (.bool r5)/\
 aH (!r5)
 (K (.int .i64 4) w4)
 (∃a6,p_=some a6/\∃b7 b3 cm,w4.drew.cell? (a6.add 1)=some (.slice b7 b3 cm)/\
   ∃x8,w4.drew.cell? (Addr.mk n1 0 none)=some (.int .i64 x8)/\
   aV b7 b3 x8 3 fun a9=>
   ∃ay V cc,w4.drew.cell? (a9.add 1)=some (.slice ay V cc)/\
   ∃Y:Int->World->Nat->Prop,(∃U,Y 0 w4.drew U)/\
   ∀Q J U (_:Fr),Y Q J U->
   aH (decide (Q< (V:Int)))
    (aV ay V Q 1 fun cp=>
      ∃a7,J.cell? cp=some (.int .i64 a7)/\
      ∃I:World->Prop,I J.drew/\
      Calls prog 142 #[.pointer p_,.int .i64 a7] J.drew fun e a_=> ∃bv,e= .returned (.int .i8 bv)/\
      I a_/\aH (decide (bv> (0:Int)))
      (∃bY,p_=some bY/\∃ag az bb,e_ I (bY.add 5) (.slice ag az bb)/\
      Calls prog 143 #[.int .i64 a7] a_ fun e a8=> ∃bx,e= .returned (.int .i64 bx)/\
      I a8/\aV ag az bx 1 fun a25=>
      ∃b4,e_ I a25 (.int .i64 b4)/\
      ∃bk,e_ I (Addr.mk n1 0 none) (.int .i64 bk)/\
      aH (b4==bk)
      (K (.int .i64 7) a8)
      (∃O,O<U/\Y (i64.wrap (Q+ (1:Int))) a8 O))
      (∃O,O<U/\Y (i64.wrap (Q+ (1:Int))) a_ O))
    (∃b_,J.cell? (Addr.mk n1 0 none)=some (.int .i64 b_)/\
      Calls prog 144 #[.pointer p_,.int .i64 b_] J fun e b8=>e= .returned (.tuple #[])/\
      ∃cb,p_=some cb/\∃an Z ap,b8.cell? (cb.add 10)=some (.slice an Z ap)/\
      Calls prog 145 #[.slice an Z ap,.func (.func 146) #[] #[.pointer (some (Addr.mk n1 0 none))]] b8 fun e cg=> ∃ar ac ax,e= .returned (.slice ar ac ax)/\
      ∃a',p_=some a'/\∃X,af (a'.add 10) 0 [.slice ar ac ax] cg X/\
      ∃b',p_=some b'/\∃aw av b5,X.drew.cell? (b'.add 1)=some (.slice aw av b5)/\
      ∃b6,X.drew.cell? (Addr.mk n1 0 none)=some (.int .i64 b6)/\
      aV aw av b6 3 fun a39=>
      ∃ce,af a39 0 [.slice none 0 0,.slice none 0 0,.bool true] X.drew ce/\
      K (.int .i64 0) ce))
theorem ee.ah {p_ i_ w R} (h:ee.w p_ i_ w fun v w'=>R (.returned v) w'):Calls prog 105 #[.pointer p_,.int .i64 i_] w R:=
 aj mixed Tryz.func105 (by kernel_rfl) rfl (ann:=(.aF .ae (.aF .ae (.aF (.aF .ae (.bS (.loop [(20,3)] (.aF .ae (.aF .ae (.aF (.bS (.aF .ae (.aF .dm .ae))) .ae)))))) .ae)))) (F:=ee.w p_ i_ w) (fun K=>by kernel_rfl) h
def fC.w (p_:Option Addr) (a:Option Addr) (b:Nat) (c:Nat) (w:World) (K:Value->World->Prop):Prop:=
 ∀O w2,bc (.cells #[.pointer p_] 101) w O w2->
 ∃x3,w2.cell? (Addr.mk O 0 none)=some (.pointer x3)/\
 aH x3.isNone
 (K (.tuple #[.int .i64 0,.int .i64 1]) w2)
 (∃x4,w2.cell? (Addr.mk O 0 none)=some (.pointer x4)/\
 ∃a5,x4=some a5/\∃bY cb b9,w2.cell? (a5.add 3)=some (.slice bY cb b9)/\
 aH bY.isNone
 (K (.tuple #[.int .i64 0,.int .i64 1]) w2)
 (Calls prog 62 #[.slice a b c] w2 fun e w7=> ∃r8,e= .returned (.int .i64 r8)/\
 aH (r8 !=(0:Int))
 (K (.tuple #[.int .i64 0,.int .i64 1]) w7)
 (Calls prog 68 #[.slice a b c,.func (.func 147) #[] #[.pointer (some (Addr.mk O 0 none))]] w7 fun e w9=> ∃bk,e= .returned (.bool bk)/\
 aH bk
 (K (.tuple #[.int .i64 0,.int .i64 1]) w9)
 (∃bx,w9.cell? (Addr.mk O 0 none)=some (.pointer bx)/\
   ∃b5,bx=some b5/\∃b6 ar aT,w9.cell? (b5.add 1)=some (.slice b6 ar aT)/\
   aH ((ar:Int)==(262144:Int))
   (K (.tuple #[.int .i64 0,.int .i64 5]) w9)
   (Calls prog 94 #[.slice a b c] w9 fun e Q=> ∃X av aa b',e= .returned (.tuple #[.slice X av aa,.bool b'])/\
     ∃b3,Q.cell? (Addr.mk O 0 none)=some (.pointer b3)/\
     ∃bv,b3=some bv/\∃a6 J a8,Q.cell? (bv.add 1)=some (.slice a6 J a8)/\
     ∃I:World->Prop,I Q.drew/\
     ∃a7,e_ I (Addr.mk O 0 none) (.pointer a7)/\
     ∃b7,e_ I (Addr.mk O 0 none) (.pointer b7)/\
     ∃b8,b7=some b8/\∃Y an U,e_ I (b8.add 1) (.slice Y an U)/\
     Calls prog 70 #[.slice a b c] Q.drew fun e bb=> ∃Z ac ag,e= .returned (.slice Z ac ag)/\
     I bb/\∀n27 ay,bc (.cells #[.slice Z ac ag,.slice X av aa,.bool false] 151) bb n27 ay->
     I ay/\∃az V ap aw,(Builtin.append_ #[145,145] 145 #[.slice Y an U,.slice (some (Addr.mk n27 0 none)) 1 1]).run prog ay= .ok (.slice V ap aw) az/\
     I az/\∃a_,a7=some a_/\∃ax,af (a_.add 1) 0 [.slice V ap aw] az ax/\
     ∃b4,ax.cell? (Addr.mk O 0 none)=some (.pointer b4)/\
     Calls prog 149 #[.pointer b4,.int .i64 (J:Int)] ax fun e b_=>e= .returned (.tuple #[])/\
     K (.tuple #[.int .i64 (J:Int),.int .i64 0]) b_)))))
theorem fC.ah {p_ a b c w R} (h:fC.w p_ a b c w fun v w'=>R (.returned v) w'):Calls prog 106 #[.pointer p_,.slice a b c] w R:=
 aj mixed Tryz.func106 (by kernel_rfl) rfl (ann:=(.aF .ae (.aF .ae (.aF .ae (.aF .ae (.aF .dm .ae)))))) (F:=fC.w p_ a b c w) (fun K=>by kernel_rfl) h
def fS.w (J:Int) (w:World) (K:Value->World->Prop):Prop:=
 Calls prog 109 #[.int .i64 J] w fun e w1=> ∃I,e= .returned (.bool I)/\
 K (.bool (!I)) w1
theorem fS.ah {l_ w R} (h:fS.w l_ w fun v w'=>R (.returned v) w'):Calls prog 108 #[.int .i64 l_] w R:=
 aj mixed Tryz.func108 (by kernel_rfl) rfl (ann:= .ae) (F:=fS.w l_ w) (fun K=>by kernel_rfl) h
def qW.w (I:Int) (w:World) (K:Value->World->Prop):Prop:=
 aH (I !=(0:Int))
 (aH (decide (I>=(-1048576)))
 (K (.bool (decide (I<=(1048576:Int)))) w)
 (K (.bool false) w))
 (K (.bool false) w)
theorem qW.ah {l_ w R} (h:qW.w l_ w fun v w'=>R (.returned v) w'):Calls prog 109 #[.int .i64 l_] w R:=
 aj mixed Tryz.func109 (by kernel_rfl) rfl (ann:= .ae) (F:=qW.w l_ w) (fun K=>by kernel_rfl) h
def bn.w (a:Option Addr) (b:Nat) (c:Nat) (I:FuncId) (U:Array Value) (w:World) (K:Value->World->Prop):Prop:=
 ∃Q:Int->World->Nat->Prop,(∃O,Q 0 w O)/\
 ∀v4 J O (_:Fr),Q v4 J O->
 aH (decide (v4< (b:Int)))
  (aV a b v4 1 fun Z=>
    ∃X,J.cell? Z=some (.int .i64 X)/\
    aH (fM prog I) (Calls prog I (#[]++ #[.int .i64 X]++U) J fun e V=> ∃r9,e= .returned (.bool r9)/\
    aH r9
    (K (.int .i64 v4) V)
    (∃Y,Y<O/\Q (i64.wrap (v4+ (1:Int))) V Y)) False)
  (K (.int .i64 (-1)) J)
theorem bn.ah {a b c f_f f_v w R} (h:bn.w a b c f_f f_v w fun v w'=>R (.returned v) w'):Calls prog 112 #[.slice a b c,.func (.func f_f) #[] f_v] w R:=
 aj mixed Tryz.func112 (by kernel_rfl) rfl (ann:=(.aF .ae (.aF (.aF .ae (.bS (.loop [(8,3)] .ae))) .ae))) (F:=bn.w a b c f_f f_v w) (fun K=>by kernel_rfl) h
def f_.w (b_:Option Addr) (a:Option Addr) (b:Nat) (c:Nat) (w:World) (K:Value->World->Prop):Prop:=
 ∃I1:Int->World->Nat->Prop,(∃k2,I1 0 w k2)/\
 ∀v4 U k2 (_:Fr),I1 v4 U k2->
 aH (decide (v4< (b:Int)))
  (aV a b v4 1 fun a6=>
    ∃Y,U.cell? a6=some (.int .i64 Y)/\
    ∃a8,b_=some a8/\∃x9:Option Nat,U.cell? (a8.add 1)=some (.map x9)/\
    ∃I Q,(Instr.lookup 133 (.map x9) (.int .i64 (imax Y (i64.wrap (0 - Y)))) false).run prog U= .ok (.int .i64 Q) I/\
    aH (Q==(0:Int))
    (∃O,b_=some O/\∃X:Option Nat,I.drew.cell? (O.add 1)=some (.map X)/\
      ∃Z,b_=some Z/\∃ag:Option Nat,I.drew.cell? (Z.add 1)=some (.map ag)/\
      ∃J,(Builtin.len_ #[133] 3 #[.map ag]).run prog I.drew= .ok (.int .i64 J) I.drew/\
      ∃V,(Instr.mapUpdate 133 (.map X) (.int .i64 (imax Y (i64.wrap (0 - Y)))) (.int .i64 (i64.wrap (J+ (1:Int))))).run prog I.drew= .ok () V/\
      ∃k3,k3<k2/\I1 (i64.wrap (v4+ (1:Int))) V k3)
    (∃k3,k3<k2/\I1 (i64.wrap (v4+ (1:Int))) I k3))
  (K (.tuple #[]) U)
theorem f_.ah {b_ a b c w R} (h:f_.w b_ a b c w fun v w'=>R (.returned v) w'):Calls prog 113 #[.pointer b_,.slice a b c] w R:=
 aj mixed Tryz.func113 (by kernel_rfl) rfl (ann:=(.aF .ae (.bS (.loop [(9,3)] .ae)))) (F:=f_.w b_ a b c w) (fun K=>by kernel_rfl) h
def fZ.w (Y:Option Addr) (a:Option Addr) (b:Nat) (c:Nat) (w:World) (K:Value->World->Prop):Prop:=
 ∃a1,Y=some a1/\∃x2:Option Nat,w.cell? (a1.add 1)=some (.map x2)/\
 ∃n3,(Builtin.len_ #[133] 3 #[.map x2]).run prog w= .ok (.int .i64 n3) w/\
 Calls prog 76 #[.agg #[.int .i64 n3,.slice none 0 0]] w fun e w4=> ∃r5 r6,e= .returned (.tuple #[.pointer r5,.int .i64 r6])/\
 ∃a7,Y=some a7/\∃w8,af (a7.add 2) 0 [.pointer r5] w4 w8/\
 ∀n9 ac,bc (.map #[] 0) w8 n9 ac->
 ∃Z,Y=some Z/\∃an,af (Z.add 3) 0 [.slice none 0 0] ac an/\
 ∃ag,Y=some ag/\∃ap,af (ag.add 4) 0 [.map (some n9)] an ap/\
 ∃X:Int->World->Nat->Prop,(∃J,X 0 ap J)/\
 ∀O I J (_:Fr),X O I J->
 aH (decide (O< (b:Int)))
  (aV a b O 1 fun av=>
    ∃U Q V,I.cell? av=some (.slice U Q V)/\
    Calls prog 117 #[.pointer Y,.slice U Q V] I fun e ar=>e= .returned (.tuple #[])/\
    ∃aa,aa<J/\X (i64.wrap (O+ (1:Int))) ar aa)
  (K (.tuple #[]) I)
theorem fZ.ah {b_ a b c w R} (h:fZ.w b_ a b c w fun v w'=>R (.returned v) w'):Calls prog 114 #[.pointer b_,.slice a b c] w R:=
 aj mixed Tryz.func114 (by kernel_rfl) rfl (ann:=(.aF .ae (.aF .ae (.aF .ae (.bS (.loop [(28,3)] .ae)))))) (F:=fZ.w b_ a b c w) (fun K=>by kernel_rfl) h
def fW.w (I:Option Addr) (a:Option Addr) (b:Nat) (c:Nat) (w:World) (K:Value->World->Prop):Prop:=
 ∃W1:World->Prop,W1 w.drew/\
 ∃a2,I=some a2/\∃x3,e_ W1 (a2.add 2) (.pointer x3)/\
 Calls prog 139 #[.pointer I,.slice a b c] w.drew fun e w4=> ∃ej c0 d9,e= .returned (.slice ej c0 d9)/\
 W1 w4/\Calls prog 106 #[.pointer x3,.slice ej c0 d9] w4 fun e w6=> ∃r7 r8,e= .returned (.tuple #[.int .i64 r7,.int .i64 r8])/\
 aH (r8 !=(0:Int))
 (Calls prog 152 #[.pointer I] w6 fun e w9=> ∃an bx bv,e= .returned (.slice an bx bv)/\
   Calls prog 114 #[.pointer I,.slice an bx bv] w9 fun e eb=>e= .returned (.tuple #[])/\
   ∃b4:World->Prop,b4 eb.drew/\
   ∃du,I=some du/\∃dc,e_ b4 (du.add 2) (.pointer dc)/\
   Calls prog 139 #[.pointer I,.slice a b c] eb.drew fun e ce=> ∃ap bb bk,e= .returned (.slice ap bb bk)/\
   b4 ce/\Calls prog 106 #[.pointer dc,.slice ap bb bk] ce fun e ef=> ∃b8 ep,e= .returned (.tuple #[.int .i64 b8,.int .i64 ep])/\
   ∃cT,I=some cT/\∃av a8 bY,ef.cell? (cT.add 3)=some (.slice av a8 bY)/\
   ∀n22 d4,bc (.cells #[.int .i64 b8] 3) ef n22 d4->
   ∃d5 az Y a6,(Builtin.append_ #[28,28] 28 #[.slice av a8 bY,.slice (some (Addr.mk n22 0 none)) 1 1]).run prog d4= .ok (.slice az Y a6) d5/\
   ∃ed,I=some ed/\∃b',af (ed.add 3) 0 [.slice az Y a6] d5 b'/\
   ∃b6:World->Prop,b6 b'.drew/\
   ∃ec,I=some ec/\∃cp:Option Nat,e_ b6 (ec.add 4) (.map cp)/\
   Calls prog 70 #[.slice a b c] b'.drew fun e ei=> ∃aT Z aa,e= .returned (.slice aT Z aa)/\
   b6 ei/\∃d',(Instr.mapUpdate 140 (.map cp) (.int .i64 b8) (.slice aT Z aa)).run prog ei= .ok () d'/\
   ∃b3:Int->World->Nat->Prop,(∃X,b3 0 d' X)/\
   ∀V O X (_:Fr),b3 V O X->
   aH (decide (V< (b:Int)))
    (aV a b V 1 fun a39=>
      ∃cb,O.cell? a39=some (.int .i64 cb)/\
      ∃dq,I=some dq/\∃c7,O.cell? (dq.add 0)=some (.int .i64 c7)/\
      ∃d8,I=some d8/\∃cg,af (d8.add 0) 0 [.int .i64 (imax (imax c7 cb) (i64.wrap (0 - cb)))] O cg/\
      ∃dk,dk<X/\b3 (i64.wrap (V+ (1:Int))) cg dk)
    (K (.tuple #[]) O))
 (∃a45,I=some a45/\∃ax ay a_,w6.cell? (a45.add 3)=some (.slice ax ay a_)/\
   ∀n47 dd,bc (.cells #[.int .i64 r7] 3) w6 n47 dd->
   ∃eg ac aw a7,(Builtin.append_ #[28,28] 28 #[.slice ax ay a_,.slice (some (Addr.mk n47 0 none)) 1 1]).run prog dd= .ok (.slice ac aw a7) eg/\
   ∃c3,I=some c3/\∃b7,af (c3.add 3) 0 [.slice ac aw a7] eg b7/\
   ∃b5:World->Prop,b5 b7.drew/\
   ∃el,I=some el/\∃dp:Option Nat,e_ b5 (el.add 4) (.map dp)/\
   Calls prog 70 #[.slice a b c] b7.drew fun e dT=> ∃ag a' ar,e= .returned (.slice ag a' ar)/\
   b5 dT/\∃ea,(Instr.mapUpdate 140 (.map dp) (.int .i64 r7) (.slice ag a' ar)).run prog dT= .ok () ea/\
   ∃cc:Int->World->Nat->Prop,(∃Q,cc 0 ea Q)/\
   ∀U J Q (_:Fr),cc U J Q->
   aH (decide (U< (b:Int)))
    (aV a b U 1 fun es=>
      ∃b9,J.cell? es=some (.int .i64 b9)/\
      ∃a66,I=some a66/\∃ek,J.cell? (a66.add 0)=some (.int .i64 ek)/\
      ∃c2,I=some c2/\∃cm,af (c2.add 0) 0 [.int .i64 (imax (imax ek b9) (i64.wrap (0 - b9)))] J cm/\
      ∃c1,c1<Q/\cc (i64.wrap (U+ (1:Int))) cm c1)
    (K (.tuple #[]) J))
theorem fW.ah {b_ a b c w R} (h:fW.w b_ a b c w fun v w'=>R (.returned v) w'):Calls prog 117 #[.pointer b_,.slice a b c] w R:=
 aj mixed Tryz.func117 (by kernel_rfl) rfl (ann:=(.aF .dm (.aF (.aF .ae (.aF (.aF .ae .dm) .ae)) (.aF .ae (.aF .dm (.aF .ae (.bS (.loop [(55,3)] .ae)))))))) (F:=fW.w b_ a b c w) (fun K=>by kernel_rfl) h
def dz.w (p_:Option Addr) (w:World) (K:Value->World->Prop):Prop:=
 ∀n1 w2,bc (.cells #[.pointer p_] 101) w n1 w2->
 ∃x3,w2.cell? (Addr.mk n1 0 none)=some (.pointer x3)/\
 ∃a4,x3=some a4/\∃cm b3 dq,w2.cell? (a4.add 10)=some (.slice cm b3 dq)/\
 ∃I6:Option Addr->Nat->Nat->Int->Int->World->Nat->Prop,(∃k7,I6 none 0 0 (-1) 0 w2 k7)/\
 ∀an ap aa J O I k7 (_:Fr),I6 an ap aa J O I k7->
 aH (decide (O< (b3:Int)))
  (aV cm b3 O 1 fun du=>
    ∃U,I.cell? du=some (.int .i64 U)/\
    aH (decide (J>=(0:Int)))
    (∃b9,I.cell? (Addr.mk n1 0 none)=some (.pointer b9)/\
      ∃cg,b9=some cg/\∃bb az dp,I.cell? (cg.add 10)=some (.slice bb az dp)/\
      aV bb az O 1 fun d8=>
      ∃dk,I.cell? d8=some (.int .i64 dk)/\
      ∀n20 b_,bc (.cells #[.int .i64 dk] 3) I n20 b_->
      ∃c3 aT a6 a_,(Builtin.append_ #[28,28] 28 #[.slice an ap aa,.slice (some (Addr.mk n20 0 none)) 1 1]).run prog b_= .ok (.slice aT a6 a_) c3/\
      ∃Y,Y<k7/\I6 aT a6 a_ J (i64.wrap (O+ (1:Int))) c3 Y)
    (∃cT,I.cell? (Addr.mk n1 0 none)=some (.pointer cT)/\
      ∃a25,cT=some a25/\∃bk a' c2,I.cell? (a25.add 1)=some (.slice bk a' c2)/\
      aV bk a' U 3 fun dT=>
      ∃a8 aw ax,I.cell? (dT.add 1)=some (.slice a8 aw ax)/\
      Calls prog 70 #[.slice a8 aw ax] I fun e d9=> ∃a7 ay bx,e= .returned (.slice a7 ay bx)/\
      Calls prog 145 #[.slice a7 ay bx,.func (.func 153) #[] #[.pointer (some (Addr.mk n1 0 none))]] d9 fun e b4=> ∃ac Q b6,e= .returned (.slice ac Q b6)/\
      aH (decide ((Q:Int)> (1:Int)))
      (∃cb,b4.cell? (Addr.mk n1 0 none)=some (.pointer cb)/\
        Calls prog 144 #[.pointer cb,.int .i64 U] b4 fun e b7=>e= .returned (.tuple #[])/\
        ∃b5,b7.cell? (Addr.mk n1 0 none)=some (.pointer b5)/\
        Calls prog 154 #[.pointer b5,.int .i64 U] b7 fun e d4=>e= .returned (.tuple #[])/\
        ∃Y,Y<k7/\I6 an ap aa J (i64.wrap (O+ (1:Int))) d4 Y)
      (∀c0 c7,bc (.cells #[.int .i64 U] 3) b4 c0 c7->
        ∃ag V X Z,(Builtin.append_ #[28,28] 28 #[.slice an ap aa,.slice (some (Addr.mk c0 0 none)) 1 1]).run prog c7= .ok (.slice V X Z) ag/\
        aH ((Q:Int)==(0:Int))
        (∃Y,Y<k7/\I6 V X Z U (i64.wrap (O+ (1:Int))) ag Y)
        (∃b8,ag.drew.cell? (Addr.mk n1 0 none)=some (.pointer b8)/\
          aV ac Q 0 1 fun d5=>
          ∃cc,ag.drew.cell? d5=some (.int .i64 cc)/\
          Calls prog 142 #[.pointer b8,.int .i64 cc] ag.drew fun e av=> ∃ce,e= .returned (.int .i8 ce)/\
          aH (ce==(0:Int))
          (∃dd,av.drew.cell? (Addr.mk n1 0 none)=some (.pointer dd)/\
            aV ac Q 0 1 fun ea=>
            ∃c1,av.drew.cell? ea=some (.int .i64 c1)/\
            Calls prog 155 #[.pointer dd,.int .i64 c1,.int .i64 U] av.drew fun e d'=>e= .returned (.tuple #[])/\
            ∃Y,Y<k7/\I6 V X Z J (i64.wrap (O+ (1:Int))) d' Y)
          (∃Y,Y<k7/\I6 V X Z J (i64.wrap (O+ (1:Int))) av Y)))))
  (∃dc,I.cell? (Addr.mk n1 0 none)=some (.pointer dc)/\
    ∃b',dc=some b'/\∃cp,af (b'.add 10) 0 [.slice an ap aa] I cp/\
    K (.int .i64 J) cp)
theorem dz.ah {p_ w R} (h:dz.w p_ w fun v w'=>R (.returned v) w'):Calls prog 118 #[.pointer p_] w R:=
 aj mixed Tryz.func118 (by kernel_rfl) rfl (ann:=(.aF .ae (.aF .ae (.aF .ae (.aF (.aF .ae (.bS (.loop [(3,28),(4,3),(14,3)] .ae))) .ae))))) (F:=dz.w p_ w) (fun K=>by kernel_rfl) h
def kA.w (I:Int) (w:World) (K:Value->World->Prop):Prop:=
 aH (decide (I< (0:Int)))
 (K (.int .i64 (i64.wrap ((i64.wrap ((-2)*I))+ (1:Int)))) w)
 (K (.int .i64 (i64.wrap ((2:Int)*I))) w)
theorem kA.ah {l_ w R} (h:kA.w l_ w fun v w'=>R (.returned v) w'):Calls prog 119 #[.int .i64 l_] w R:=
 aj mixed Tryz.func119 (by kernel_rfl) rfl (ann:= .ae) (F:=kA.w l_ w) (fun K=>by kernel_rfl) h
def eY.w (p_:Option Addr) (i_:Int) (a:Int) (w:World) (K:Value->World->Prop):Prop:=
 ∃a1,p_=some a1/\∃dk ea e1,w.cell? (a1.add 1)=some (.slice dk ea e1)/\
 aV dk ea i_ 3 fun a3=>
 ∃O J e3,w.cell? (a3.add 1)=some (.slice O J e3)/\
 ∃J5:World->Prop,(aV O J 0 1 fun a6=>
 ∃x7,w.cell? a6=some (.int .i64 x7)/\
 aH (x7==a)
 (aH (decide ((J:Int)> (1:Int)))
 (aV O J 1 1 fun a8=>
   ∃x9,w.drew.cell? a8=some (.int .i64 x9)/\
   aV O J 0 1 fun eL=>
   ∃dd,w.drew.cell? eL=some (.int .i64 dd)/\
   aV O J 0 1 fun eN=>
   ∃c1,af eN 0 [.int .i64 x9] w.drew c1/\
   aV O J 1 1 fun fd=>
   ∃c2,af fd 0 [.int .i64 dd] c1 c2/\
   J5 c2)
 (J5 w))
 (J5 w))/\
 ∀b5 (_:Fr),J5 b5->
 aV O J 0 1 fun e7=>
 ∃dq,b5.cell? e7=some (.int .i64 dq)/\
 Calls prog 142 #[.pointer p_,.int .i64 dq] b5 fun e d'=> ∃dp,e= .returned (.int .i8 dp)/\
 aH (decide (dp> (0:Int)))
 (K (.tuple #[.bool true,.bool false]) d')
 (∃b6:Int->World->Nat->Prop,(∃aa,b6 2 d' aa)/\
   ∀Q Z aa (_:Fr),b6 Q Z aa->
   aH (decide (Q< (J:Int)))
    (aV O J Q 1 fun e'=>
      ∃ef,Z.cell? e'=some (.int .i64 ef)/\
      Calls prog 142 #[.pointer p_,.int .i64 ef] Z fun e ac=> ∃et,e= .returned (.int .i8 et)/\
      aH (decide (et>=(0:Int)))
      (aV O J Q 1 fun e4=>
        ∃ei,ac.drew.cell? e4=some (.int .i64 ei)/\
        aV O J 1 1 fun fa=>
        ∃dT,ac.drew.cell? fa=some (.int .i64 dT)/\
        aV O J 1 1 fun ez=>
        ∃c7,af ez 0 [.int .i64 ei] ac.drew c7/\
        aV O J Q 1 fun fb=>
        ∃an,af fb 0 [.int .i64 dT] c7 an/\
        ∃I:World->Prop,I an.drew/\
        ∃a39,p_=some a39/\∃U X dc,e_ I (a39.add 2) (.slice U X dc)/\
        aV O J 1 1 fun eT=>
        ∃b8,e_ I eT (.int .i64 b8)/\
        ∃d9,p_=some d9/\∃Y V d4,e_ I (d9.add 2) (.slice Y V d4)/\
        aV O J 1 1 fun a45=>
        ∃ag,e_ I a45 (.int .i64 ag)/\
        (Calls prog 119 #[.int .i64 b8] an.drew fun e cc=> ∃b9,e= .returned (.int .i64 b9)/\
        I cc/\(Calls prog 119 #[.int .i64 ag] cc fun e en=> ∃c3,e= .returned (.int .i64 c3)/\
        I en/\aV Y V c3 1 fun eH=>
        ∃bx a_ bb,e_ I eH (.slice bx a_ bb)/\
        ∀el cm,bc (.cells #[.int .i64 i_] 3) en el cm->
        I cm/\∃ce bk b3 a',(Builtin.append_ #[28,28] 28 #[.slice bx a_ bb,.slice (some (Addr.mk el 0 none)) 1 1]).run prog cm= .ok (.slice bk b3 a') ce/\
        I ce/\aV U X b9 1 fun e5=>
        ∃ec,af e5 0 [.slice bk b3 a'] ce ec/\
        K (.tuple #[.bool false,.bool false]) ec)/\
      (∀ej cg,bc (.cells #[.int .i64 i_] 3) cc ej cg->
        I cg/\Calls prog 119 #[.int .i64 ag] cg fun e ek=> ∃eb,e= .returned (.int .i64 eb)/\
        I ek/\aV Y V eb 1 fun eA=>
        ∃av b4 ap,e_ I eA (.slice av b4 ap)/\
        ∃b_ bv az bY,(Builtin.append_ #[28,28] 28 #[.slice av b4 ap,.slice (some (Addr.mk ej 0 none)) 1 1]).run prog ek= .ok (.slice bv az bY) b_/\
        I b_/\aV U X b9 1 fun e2=>
        ∃ep,af e2 0 [.slice bv az bY] b_ ep/\
        K (.tuple #[.bool false,.bool false]) ep))/\
      (∀eg b7,bc (.cells #[.int .i64 i_] 3) an.drew eg b7->
        I b7/\Calls prog 119 #[.int .i64 b8] b7 fun e ew=> ∃d5,e= .returned (.int .i64 d5)/\
        I ew/\Calls prog 119 #[.int .i64 ag] ew fun e er=> ∃ed,e= .returned (.int .i64 ed)/\
        I er/\aV Y V ed 1 fun e6=>
        ∃aw ay aT,e_ I e6 (.slice aw ay aT)/\
        ∃cp ax ar a7,(Builtin.append_ #[28,28] 28 #[.slice aw ay aT,.slice (some (Addr.mk eg 0 none)) 1 1]).run prog er= .ok (.slice ax ar a7) cp/\
        I cp/\aV U X d5 1 fun e9=>
        ∃d8,af e9 0 [.slice ax ar a7] cp d8/\
        K (.tuple #[.bool false,.bool false]) d8))
      (∃du,du<aa/\b6 (i64.wrap (Q+ (1:Int))) ac du))
    (aV O J 0 1 fun fi=>
      ∃es,Z.cell? fi=some (.int .i64 es)/\
      Calls prog 142 #[.pointer p_,.int .i64 es] Z fun e b'=> ∃c0,e= .returned (.int .i8 c0)/\
      aH (decide (c0< (0:Int)))
      (K (.tuple #[.bool true,.bool true]) b')
      (aV O J 0 1 fun eR=>
        ∃eu,b'.cell? eR=some (.int .i64 eu)/\
        Calls prog 155 #[.pointer p_,.int .i64 eu,.int .i64 i_] b' fun e e8=>e= .returned (.tuple #[])/\
        K (.tuple #[.bool true,.bool false]) e8)))
theorem eY.ah {p_ i_ a w R} (h:eY.w p_ i_ a w fun v w'=>R (.returned v) w'):Calls prog 120 #[.pointer p_,.int .i64 i_,.int .i64 a] w R:=
 aj mixed Tryz.func120 (by kernel_rfl) rfl (ann:=(.aF .ae (.aF .ae (.cut [] .ae (.aF .ae (.aF (.aF .ae (.bS (.loop [(9,3)] (.aF .ae (.aF (.bS (.aF .ae (.aF (.aF .ae (.aF .dm .ae)) .ae))) .ae))))) .ae)))))) (F:=eY.w p_ i_ a w) (fun K=>by kernel_rfl) h
end Go.Proofs.YtenmibfmhccmiaaGreat.W
