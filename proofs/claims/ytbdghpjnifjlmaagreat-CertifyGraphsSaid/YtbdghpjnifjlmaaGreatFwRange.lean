/- The frame within a round of a range over a function; such a range within a function. -/
import Derived.Test.YtbdghpjnifjlmaaGreatFwDefer
import Derived.RangeFuncNested
import Derived.Sort.LoopGhostIn
import Derived.OrdersIn
import Derived.TacticsIn
set_option linter.all false
namespace Go.Fw
open Go
variable{P:Program}{D:List Deferred}{ops:Array Oper}{rm l:Nat}
def U5(o:Oper):Bool:=match o.op with| .defer _=>false|_=>true
theorem N7{o:Oper}(h:U5 o=true):∀c,o.op≠ .defer c:=λc e=>by unfold U5 at h;rw[e]at h;cases h
def GI(ops:Array Oper):Prop:=∀ (j:Nat) (o:Oper),ops[j]? =some o->U5 o=true
def rZ:Code->Bool
 | .skip| .label _| .exit _| .ret=>true
 | .region _ ops _=>ops.toList.all U5
 | .seq a b| .cond _ a b=>rZ a && rZ b
 | .block _ a| .loop a=>rZ a
 |_=>false
theorem sF{Q:Exit->Act->World->Prop}{i:Nat}{K:Act->World->Prop}{a:Act}{w:World}(hr:GI ops)(h:xB P ops i K a w):wpOpIn (Fence.wide.inRound l) rm P ops Q i K a w:=by
 unfold xB at h;unfold wpOpIn;split
 .rename_i J;simpa only[J]using h
 .rename_i o J;simp only[J]at h;unfold tS at h;by_cases O:Region.wanted o (yielded ops a.tmps)=true
  .rw [v8 O]at h;rw[v8 O];unfold Oper.wpIn;refine⟨λ_ _=>trivial,?_⟩;have V:o.semAt (Fence.wide.inRound l).round a.eval=execOp a.eval o:=Oper.semAt_some l a.eval o (N7 (hr i o J));rw[V];have val:∀v w',(execOp a.eval o).run P w=.ok (.value v) w'->K (a.put o.dst v) w'->Oper.uponIn (Fence.wide.inRound l) rm P o a K Q ((execOp a.eval o).run P w):=λv w' hr I=>by
    rw[hr];exact I
   match I:bF P o with
   |0=>rw[I]at h;obtain⟨v,hr,h⟩:=h;exact val v w (hr w) h
   |1=>rw[I]at h;obtain⟨v,hr,h⟩:=h;exact val v w hr h
   |_+2=>
    rw[I]at h;change lK P _ _ at h;generalize (execOp a.eval o).run P w=r at*
    cases r with
    |halt=>exact h.elim
    |ok n w'=>
     cases n<;>simp only[lK]at h<;>simp only[Oper.uponIn]
     case value=>exact h
     case skip=>exact h
     case enter=>exact⟨λe=> (by cases e),CallsIn.inRound l (CallsIn.mono (callsIn_wide.2 h) λe U ⟨v,he,I⟩=>by subst he;exact I)⟩
  .rw [r8 O]at h;rw[r8 O];exact⟨λ_ _=>trivial,h⟩
theorem wq{Q:Exit->Act->World->Prop}{K:Act->World->Prop}(hr:GI ops)(J:∀a w,K a w->Q .normal a w):∀ (fuel:Nat) (I:Array Bool) (a:Act) (w:World),
 jK P ops K fuel I a w->wpAnyIn (Fence.wide.inRound l) rm P .any ops Q fuel I a w
 |0,_,_,_,h=>⟨h.1,J _ _ h.2⟩
 |fuel+1,_,_,_,h=>⟨λO=>J _ _ (h.1 O),λi hi=>sF hr (fx (λa w=>wq hr J fuel _ a w) (h.2 i hi))⟩
theorem sZ{id:Nat}{Q:Exit->Act->World->Prop}{a:Act}{w:World}(hr:GI ops)(hm:P.follows .mixedOrders=true)
 (h:jK P ops (λa w=>Q .normal a w) ops.size (Array.replicate ops.size false) a w.drew):(Code.region id ops true).wpIn (Fence.wide.inRound l) rm P Q a w:=
 wpIn_region_any hm (wq hr (K:=λa w=>Q .normal a w) (λ_ _ h=>h) _ _ _ _ h)
theorem Dw{id:Nat}{Q:Exit->Act->World->Prop}{a:Act}{w:World}(hr:GI ops)(hm:P.follows .mixedOrders=true)(I:qT P ops=true)
 (h:rS P ops (λa w=>Q .normal a w) (List.range' 0 ops.size) a w.drew):(Code.region id ops true).wpIn (Fence.wide.inRound l) rm P Q a w:=
 sZ hr hm (uk I ops.size 0 _ a _ (by omega) (by simp) (λj J=>by simp[J]) h)
theorem zC{Q:Exit->Act->World->Prop}(hr:GI ops):∀ (I:List Nat) (a:Act) (w:World),rS P ops (λa w=>Q .normal a w) I a w->wpOpsIn (Fence.wide.inRound l) rm P ops Q I a w
 | [],_,_,h=>h
 |i::I,a,w,h=>by
  rw[wpOpsIn_cons];exact sF hr (fx (λa w=>zC hr I a w) h)
theorem BU{id:Nat}{Q:Exit->Act->World->Prop}{a:Act}{w:World}(hr:GI ops)
 (h:rS P ops (λa w=>Q .normal a w) (List.range' 0 ops.size) a w):(Code.region id ops false).wpIn (Fence.wide.inRound l) rm P Q a w:=by
 refine wpIn_region ?_;rw[Za];exact zC hr _ a w h
theorem Bj(hm:P.follows .mixedOrders=true){n rm l:Nat}(c:Code):∀ {ann:te} {f:Fr} {w:World} {Q:MF} {a:Act},eB P n c=true->rZ c=true->Ag D n a f->ux P c ann f w Q->
 c.wpIn (Fence.wide.inRound l) rm P (λe a' w'=>∃V,Ag D n a' V/\Q e V w'/\nE c f V) a w:=by
 induction c with
 |skip=>intro ann f w Q a _ _ ha h;exact wpIn_skip ⟨f,ha,h,λ_ _=>rfl⟩
 |label l=>intro ann f w Q a _ _ ha h;exact wpIn_label ⟨f,ha,h,λ_ _=>rfl⟩
 |exit id=>intro ann f w Q a _ _ ha h;exact wpIn_exit ⟨f,ha,h,λ_ _=>rfl⟩
 |ret=>intro ann f w Q a _ _ ha h;exact wpIn_ret ⟨f,ha,h,λ_ _=>rfl⟩
 |goto l=>intro ann f w Q a h h2;cases h2
 |refuse y=>intro ann f w Q a h h2;cases h2
 |rangeFunc g ps x y=>intro ann f w Q a h h2;cases h2
 |region id ops dL=>
  intro ann f w Q a Y U ha h;simp only[eB,ts]at Y;have hr:GI ops:=λj o ho=>by
   simp only[rZ]at U;rw[K']at U;exact U o (YH.2 (Y9 ho))
  have av:∀ (j:Nat) (o:Oper) (d:Nat),ops[j]? =some o->o.dst=some d->(d,o.type)∈uE (.region id ops dL):=λj o d ho hd=>by
   simp only[uE,Yw];refine⟨o,?_,by rw[hd];rfl⟩;exact YH.2 (Y9 ho)
  have eh:∀a' w',((∃V,Ag D n a' V/\Q .normal V w')/\∀i,jH (uE (.region id ops dL)) i=none->a'.tmps.getD i undef=a.tmps.getD i undef)->
   ∃V,Ag D n a' V/\Q .normal V w'/\nE (.region id ops dL) f V:=by
   rintro a' w'⟨⟨V,O,hq⟩,hi⟩;exact⟨V,O,hq,λi bY=>by rw[<- O.2.2,hi i bY,ha.2.2]⟩
  cases dL with
  |false=>
   have ar:=u5 Y.1 ops.toList 0 f a _ (by simp) ha h;have X:=mj av _ _ _ ar;rw[X7]at X;exact BU hr (nW _ _ _ eh X)
  |true=>
   have aw:dG ops=true:=by simpa using Y.2
   simp only[ux,I6]at h;cases bf:ann.drawn with
   |true=>
    rw[bf,I6]at h;exact sZ hr hm (nP _ _ _ _ eh (mB av _ _ _ _ (CP aw Y.1 ha h)))
   |false=>
   simp only[bf,J6,GX]at h;cases an:qT P ops with
   |true=>
    rw[an,I6]at h;have ar:=u5 Y.1 ops.toList 0 f a _ (by simp) ha h;have X:=mj av _ _ _ ar;rw[X7]at X;exact Dw hr hm an (nW _ _ _ eh X)
   |false=>
    rw[an,J6]at h;have a8:=ze aw Y.1 ops.size (Array.replicate ops.size false) f a _ (by simp) (λj o ho hl=>by
     have bu:j<ops.size:=by
      rcases Wp j ops.size with h'|h'
      .exact h'
      .simp [Wm h']at ho
     simp[bu]at hl) (by simp[Y_]) ha h
    have X:=mB av _ _ _ _ a8;exact sZ hr hm (nP _ _ _ _ eh X)
 |seq x y ihx ihy=>
  intro ann f w Q a Y U ha h;simp only[eB,ts]at Y;simp only[rZ,ts]at U;simp only[ux]at h;refine wpIn_seq ?_;cases ax:ann.Mx with
  |none=>
   simp only[ax]at h;refine wpIn_mono (ihx Y.1 U.1 ha h) λe a' w' ⟨V,O,hq,X⟩=>?_;cases e with
   |normal=>exact wpIn_mono (ihy Y.2 U.2 O hq) λe a_ ay ⟨aa,Z,aT,az⟩=>⟨aa,Z,aT,X.seq az⟩
   |_=>exact⟨V,O,hq,X.left⟩
  |some as=>
   simp only[ax]at h;obtain⟨J,h1,h2⟩:=h;refine wpIn_mono (ihx Y.1 U.1 ha h1) λe a' w' ⟨V,O,hq,X⟩=>?_;cases e with
   |normal=>
    obtain⟨r,hr,ac⟩:=p8 _ hq h2;have:=ac w' V hr;rw[nS X]at this;exact wpIn_mono (ihy Y.2 U.2 O this) λe a_ ay ⟨aa,Z,aT,az⟩=>⟨aa,Z,aT,X.seq az⟩
   |_=>exact⟨V,O,hq,X.left⟩
 |cond o x y ihx ihy=>
  intro ann f w Q a Y U ha h;simp only[eB,ts]at Y;simp only[rZ,ts]at U;simp only[ux]at h;split at h
  .rename_i t ht;have bk:a.eval o=.bool t:=by rw[ha.eval];exact ht
   cases t with
   |true=>
    refine wpIn_cond_true bk (wpIn_mono (ihx Y.1 U.1 ha h) λe a' w' ⟨V,O,hq,X⟩=>⟨V,O,hq,λi hi=>X i ((gC _ _ _).1 hi).1⟩)
   |false=>
    refine wpIn_cond_false bk (wpIn_mono (ihy Y.2 U.2 ha h) λe a' w' ⟨V,O,hq,X⟩=>⟨V,O,hq,λi hi=>X i ((gC _ _ _).1 hi).2⟩)
  .exact h.elim
 |block id x ih=>
  intro ann f w Q a Y U ha h;refine wpIn_block (wpIn_mono (ih Y U ha h) λe a' w' ⟨V,O,hq,X⟩=>?_);cases e with
  |exit i=>
   simp only[Exit.inBlock];simp only at hq;cases hb:Nat.beq i id with
   |true=>
    obtain rfl:=V_ hb;rw[hb,I6]at hq;rw[v8 rfl];exact⟨V,O,hq,X⟩
   |false=>
    rw[hb,J6]at hq;rw[r8 (λhe=>by rw[he,Zi]at hb;cases hb)];exact⟨V,O,hq,X⟩
  |_=>exact⟨V,O,hq,X⟩
 |scope x ih=>intro ann f w Q a _ h2;cases h2
 |loop x ih=>
  intro ann f w Q a Y U ha h;simp only[ux]at h;obtain⟨I,h1,h2⟩:=h;have b4:=qZ _ h1;obtain⟨r0,⟨k0,b3⟩,a6⟩:=b4;refine wpIn_loop_ghost (λk a' w'=>∃V:Fr,Ag D n a' V/\nE x f V/\ui (mH P ann.zx) I (qX V ann.zx) λr=>r w' k) k0 ⟨f,ha,λ_ _=>rfl,a6 (λr=>r w k0) b3⟩ ?_;intro k a' w' ⟨V,O,bg,hI⟩;obtain⟨r,hr,ac⟩:=p8 _ hI h2;have hb:=ac w' k V hr;rw[nS bg]at hb;refine wpIn_mono (ih Y U O hb) λe a_ ay ⟨aa,Z,hq,X⟩=>?_;have a7:nE x f aa:=λi hi=> (X i hi).trans (bg i hi);cases e with
  |normal=>
   obtain⟨r',⟨k',bx,b5⟩,bb⟩:=qZ _ hq;exact⟨k',bx,aa,Z,a7,bb (λr=>r ay k') b5⟩
  |_=>exact⟨aa,Z,hq,a7⟩
