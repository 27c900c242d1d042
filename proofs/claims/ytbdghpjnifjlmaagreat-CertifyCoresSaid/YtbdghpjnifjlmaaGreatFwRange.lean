/- The frame within a round of a range over a function; such a range within a function. -/
import Derived.Test.YtbdghpjnifjlmaaGreatFwDefer
import Derived.RangeFuncNested
import Derived.Sort.LoopGhostIn
import Derived.OrdersIn
import Derived.TacticsIn
namespace Go.Fw
open Go
variable {P:Program} {D:List Deferred} {ops:Array Oper} {rm l:Nat}
def TN (o:Oper):Bool:=match o.op with| .defer _=>false|_=>true
theorem Nb {o:Oper} (h:TN o=true):∀c,o.op≠ .defer c:=λc e=>by unfold TN at h;rw [e] at h;cases h
def Gf (ops:Array Oper):Prop:=∀ (j:Nat) (o:Oper),ops[j]? =some o->TN o=true
def rY:Code->Bool
 | .skip| .label _| .exit _| .ret=>true
 | .region _ ops _=>ops.toList.all TN
 | .seq a b| .cond _ a b=>rY a && rY b
 | .block _ a| .loop a=>rY a
 |_=>false
theorem sC {Q:Exit->Act->World->Prop} {i:Nat} {K:Act->World->Prop} {a:Act} {w:World} (hr:Gf ops) (h:wH P ops i K a w):wpOpIn (Fence.wide.inRound l) rm P ops Q i K a w:=by
 unfold wH at h;unfold wpOpIn;split
 . rename_i O;simpa only [O] using h
 . rename_i o O;simp only [O] at h;unfold tA at h;by_cases J:Region.wanted o (yielded ops a.tmps)=true
   . rw [if_pos J] at h;rw [if_pos J];unfold Oper.wpIn;refine ⟨λ_ _=>trivial,?_⟩;have V:o.semAt (Fence.wide.inRound l).round a.eval=execOp a.eval o:=Oper.semAt_some l a.eval o (Nb (hr i o O));rw [V];have val:∀v w',(execOp a.eval o).run P w=.ok (.value v) w'->K (a.put o.dst v) w'->Oper.uponIn (Fence.wide.inRound l) rm P o a K Q ((execOp a.eval o).run P w):=λv w' hr I=>by
      rw [hr];exact I
     match I:bC P o with
     |0=>rw [I] at h;obtain ⟨v,hr,h⟩:=h;exact val v w (hr w) h
     |1=>rw [I] at h;obtain ⟨v,hr,h⟩:=h;exact val v w hr h
     |_+2=>
      rw [I] at h;change kV P _ _ at h;generalize (execOp a.eval o).run P w=r at*
      cases r with
      |halt=>exact h.elim
      |ok n w'=>
       cases n<;>simp only [kV] at h<;>simp only [Oper.uponIn]
       case value=>exact h
       case skip=>exact h
       case enter=>exact ⟨λe=> (by cases e),CallsIn.inRound l (CallsIn.mono (callsIn_wide.2 h) λe U ⟨v,he,I⟩=>by subst he;exact I)⟩
   . rw [if_neg J] at h;rw [if_neg J];exact ⟨λ_ _=>trivial,h⟩
theorem uW {Q:Exit->Act->World->Prop} {K:Act->World->Prop} (hr:Gf ops) (J:∀a w,K a w->Q .normal a w):∀ (fuel:Nat) (I:Array Bool) (a:Act) (w:World),
 jQ P ops K fuel I a w->wpAnyIn (Fence.wide.inRound l) rm P .any ops Q fuel I a w
 |0,_,_,_,h=>⟨h.1,J _ _ h.2⟩
 |fuel+1,_,_,_,h=>⟨λO=>J _ _ (h.1 O),λi hi=>sC hr (fx (λa w=>uW hr J fuel _ a w) (h.2 i hi))⟩
theorem rS {id:Nat} {Q:Exit->Act->World->Prop} {a:Act} {w:World} (hr:Gf ops) (hm:P.follows .mixedOrders=true)
 (h:jQ P ops (λa w=>Q .normal a w) ops.size (Array.replicate ops.size false) a w.drew):(Code.region id ops true).wpIn (Fence.wide.inRound l) rm P Q a w:=
 wpIn_region_any hm (uW hr (K:=λa w=>Q .normal a w) (λ_ _ h=>h) _ _ _ _ h)
theorem CS {id:Nat} {Q:Exit->Act->World->Prop} {a:Act} {w:World} (hr:Gf ops) (hm:P.follows .mixedOrders=true) (I:qS P ops=true)
 (h:rF P ops (λa w=>Q .normal a w) (List.range' 0 ops.size) a w.drew):(Code.region id ops true).wpIn (Fence.wide.inRound l) rm P Q a w:=
 rS hr hm (tV I ops.size 0 _ a _ (by omega) (by simp) (λj J=>by simp [J]) h)
theorem zH {Q:Exit->Act->World->Prop} (hr:Gf ops):∀ (I:List Nat) (a:Act) (w:World),rF P ops (λa w=>Q .normal a w) I a w->wpOpsIn (Fence.wide.inRound l) rm P ops Q I a w
 | [],_,_,h=>h
 |i::I,a,w,h=>by
  rw [wpOpsIn_cons];exact sC hr (fx (λa w=>zH hr I a w) h)
theorem Ba {id:Nat} {Q:Exit->Act->World->Prop} {a:Act} {w:World} (hr:Gf ops)
 (h:rF P ops (λa w=>Q .normal a w) (List.range' 0 ops.size) a w):(Code.region id ops false).wpIn (Fence.wide.inRound l) rm P Q a w:=by
 refine wpIn_region ?_;rw [XN];exact zH hr _ a w h
theorem zh (hm:P.follows .mixedOrders=true) {n rm l:Nat} (c:Code):∀ {ann:sM} {f:Fr} {w:World} {Q:Np} {a:Act},ee P n c=true->rY c=true->Ag D n a f->uf P c ann f w Q->
 c.wpIn (Fence.wide.inRound l) rm P (λe a' w'=>∃V,Ag D n a' V/\Q e V w'/\nh c f V) a w:=by
 induction c with
 |skip=>intro ann f w Q a _ _ ha h;exact wpIn_skip ⟨f,ha,h,λ_ _=>rfl⟩
 |label l=>intro ann f w Q a _ _ ha h;exact wpIn_label ⟨f,ha,h,λ_ _=>rfl⟩
 |exit id=>intro ann f w Q a _ _ ha h;exact wpIn_exit ⟨f,ha,h,λ_ _=>rfl⟩
 |ret=>intro ann f w Q a _ _ ha h;exact wpIn_ret ⟨f,ha,h,λ_ _=>rfl⟩
 |goto l=>intro ann f w Q a h h2;cases h2
 |refuse y=>intro ann f w Q a h h2;cases h2
 |rangeFunc g ps x y=>intro ann f w Q a h h2;cases h2
 |region id ops dB=>
  intro ann f w Q a Z U ha h;simp only [ee,ts] at Z;have hr:Gf ops:=λj o ho=>by
   simp only [rY] at U;rw [UK] at U;exact U o (Xg.2 (XJ ho))
  have av:∀ (j:Nat) (o:Oper) (d:Nat),ops[j]? =some o->o.dst=some d->(d,o.type)∈tQ (.region id ops dB):=λj o d ho hd=>by
   simp only [tQ,List.mem_filterMap];refine ⟨o,?_,by rw [hd];rfl⟩;exact Xg.2 (XJ ho)
  have dG:∀a' w',((∃V,Ag D n a' V/\Q .normal V w')/\∀i,jR (tQ (.region id ops dB)) i=none->a'.tmps.getD i undef=a.tmps.getD i undef)->
   ∃V,Ag D n a' V/\Q .normal V w'/\nh (.region id ops dB) f V:=by
   rintro a' w' ⟨⟨V,O,hq⟩,hi⟩;exact ⟨V,O,hq,λi b3=>by rw [<- O.2.2,hi i b3,ha.2.2]⟩
  cases dB with
  |false=>
   have ap:=uV Z.1 ops.toList 0 f a _ (by simp) ha h;have X:=lY av _ _ _ ap;rw [WB] at X;exact Ba hr (nN _ _ _ dG X)
  |true=>
   have aw:dC ops=true:=by simpa using Z.2
   simp only [uf,cond_true] at h;cases bc:ann.drawn with
   |true=>
    rw [bc,cond_true] at h;exact rS hr hm (nG _ _ _ _ dG (lZ av _ _ _ _ (B0 aw Z.1 ha h)))
   |false=>
   simp only [bc,cond_false,Gt] at h;cases an:qS P ops with
   |true=>
    rw [an,cond_true] at h;have ap:=uV Z.1 ops.toList 0 f a _ (by simp) ha h;have X:=lY av _ _ _ ap;rw [WB] at X;exact CS hr hm an (nN _ _ _ dG X)
   |false=>
    rw [an,cond_false] at h;have bf:=yj aw Z.1 ops.size (Array.replicate ops.size false) f a _ (by simp) (λj o ho hl=>by
     have bu:j<ops.size:=by
      rcases UU j ops.size with h'|h'
      . exact h'
      . simp [UQ h'] at ho
     simp [bu] at hl) (by simp [XK]) ha h
    have X:=lZ av _ _ _ _ bf;exact rS hr hm (nG _ _ _ _ dG X)
 |seq x y ihx ihy=>
  intro ann f w Q a Z U ha h;simp only [ee,ts] at Z;simp only [rY,ts] at U;simp only [uf] at h;refine wpIn_seq ?_;cases ax:ann.Lv with
  |none=>
   simp only [ax] at h;refine wpIn_mono (ihx Z.1 U.1 ha h) λe a' w' ⟨V,O,hq,X⟩=>?_;cases e with
   |normal=>exact wpIn_mono (ihy Z.2 U.2 O hq) λe bb aT ⟨aa,Y,az,ay⟩=>⟨aa,Y,az,X.seq ay⟩
   |_=>exact ⟨V,O,hq,X.left⟩
  |some as=>
   simp only [ax] at h;obtain ⟨J,h1,h2⟩:=h;refine wpIn_mono (ihx Z.1 U.1 ha h1) λe a' w' ⟨V,O,hq,X⟩=>?_;cases e with
   |normal=>
    obtain ⟨r,hr,ac⟩:=qy _ hq h2;have:=ac w' V hr;rw [nJ X] at this;exact wpIn_mono (ihy Z.2 U.2 O this) λe bb aT ⟨aa,Y,az,ay⟩=>⟨aa,Y,az,X.seq ay⟩
   |_=>exact ⟨V,O,hq,X.left⟩
 |cond o x y ihx ihy=>
  intro ann f w Q a Z U ha h;simp only [ee,ts] at Z;simp only [rY,ts] at U;simp only [uf] at h;split at h
  . rename_i t ht;have bg:a.eval o=.bool t:=by rw [ha.eval];exact ht
    cases t with
    |true=>
     refine wpIn_cond_true bg (wpIn_mono (ihx Z.1 U.1 ha h) λe a' w' ⟨V,O,hq,X⟩=>⟨V,O,hq,λi hi=>X i ((gC _ _ _).1 hi).1⟩)
    |false=>
     refine wpIn_cond_false bg (wpIn_mono (ihy Z.2 U.2 ha h) λe a' w' ⟨V,O,hq,X⟩=>⟨V,O,hq,λi hi=>X i ((gC _ _ _).1 hi).2⟩)
  . exact h.elim
 |block id x ih=>
  intro ann f w Q a Z U ha h;refine wpIn_block (wpIn_mono (ih Z U ha h) λe a' w' ⟨V,O,hq,X⟩=>?_);cases e with
  |exit i=>
   simp only [Exit.inBlock];simp only at hq;cases hb:Nat.beq i id with
   |true=>
    obtain rfl:=UG hb;rw [hb,cond_true] at hq;rw [if_pos rfl];exact ⟨V,O,hq,X⟩
   |false=>
    rw [hb,cond_false] at hq;rw [if_neg (λhe=>by rw [he,XW] at hb;cases hb)];exact ⟨V,O,hq,X⟩
  |_=>exact ⟨V,O,hq,X⟩
 |scope x ih=>intro ann f w Q a _ h2;cases h2
 |loop x ih=>
  intro ann f w Q a Z U ha h;simp only [uf] at h;obtain ⟨I,h1,h2⟩:=h;have bn:=qO _ h1;obtain ⟨r0,⟨k0,b4⟩,a6⟩:=bn;refine wpIn_loop_ghost (λk a' w'=>∃V:Fr,Ag D n a' V/\nh x f V/\tO (mE P ann.yO) I (qN V ann.yO) λr=>r w' k) k0 ⟨f,ha,λ_ _=>rfl,a6 (λr=>r w k0) b4⟩ ?_;intro k a' w' ⟨V,O,bi,hI⟩;obtain ⟨r,hr,ac⟩:=qy _ hI h2;have hb:=ac w' k V hr;rw [nJ bi] at hb;refine wpIn_mono (ih Z U O hb) λe bb aT ⟨aa,Y,hq,X⟩=>?_;have a8:nh x f aa:=λi hi=> (X i hi).trans (bi i hi);cases e with
  |normal=>
   obtain ⟨r',⟨k',bv,bY⟩,a7⟩:=qO _ hq;exact ⟨k',bv,aa,Y,a8,a7 (λr=>r aT k') bY⟩
  |_=>exact ⟨aa,Y,hq,a8⟩
end Go.Fw
