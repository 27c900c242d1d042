/- The frame within a round of a range over a function; such a range within a function. -/
import Derived.Test.YtenmibfmhccmiaaGreatFwDefer
import Derived.RangeFuncNested
import Derived.Sort.LoopGhostIn
import Derived.OrdersIn
import Derived.TacticsIn
namespace Go.Fw
open Go
variable {P:Program} {D:List Deferred} {ops:Array Oper} {rm l:Nat}
def NO (o:Oper):Bool:=match o.op with| .defer _=>false|_=>true
theorem GS {o:Oper} (h:NO o=true): ∀c,o.op≠ .defer c:=fun c e=>by unfold NO at h;rw [e] at h;cases h
def CW (ops:Array Oper):Prop:= ∀ (j:Nat) (o:Oper),ops[j]? =some o->NO o=true
def pF:Code->Bool
 | .skip| .label _| .exit _| .ret=>true
 | .region _ ops _=>ops.toList.all NO
 | .seq a b| .cond _ a b=>pF a && pF b
 | .block _ a| .loop a=>pF a
 |_=>false
theorem pd {Q:Exit->Act->World->Prop} {i:Nat} {K:Act->World->Prop} {a:Act} {w:World} (hr:CW ops) (h:sP P ops i K a w):wpOpIn (Fence.wide.inRound l) rm P ops Q i K a w:=by
 unfold sP at h;unfold wpOpIn;split
 . rename_i J;simpa only [J] using h
 . rename_i o J;simp only [J] at h;unfold qj at h;by_cases O:Region.wanted o (yielded ops a.tmps)=true
   . rw [if_pos O] at h;rw [if_pos O];unfold Oper.wpIn;refine ⟨fun _ _=>trivial,?_⟩;have V:o.semAt (Fence.wide.inRound l).round a.eval=execOp a.eval o:=Oper.semAt_some l a.eval o (GS (hr i o J));rw [V];have val: ∀v w',(execOp a.eval o).run P w= .ok (.value v) w'->K (a.put o.dst v) w'->Oper.uponIn (Fence.wide.inRound l) rm P o a K Q ((execOp a.eval o).run P w):=fun v w' hr I=>by
      rw [hr];exact I
     match I:aZ P o with
     |0=>rw [I] at h;obtain ⟨v,hr,h⟩:=h;exact val v w (hr w) h
     |1=>rw [I] at h;obtain ⟨v,hr,h⟩:=h;exact val v w hr h
     |_+2=>
      rw [I] at h;change jA P _ _ at h;generalize (execOp a.eval o).run P w=r at*
      cases r with
      |halt=>exact h.elim
      |ok n w'=>
       cases n<;>simp only [jA] at h<;>simp only [Oper.uponIn]
       case value=>exact h
       case skip=>exact h
       case enter=>exact ⟨fun e=> (by cases e),CallsIn.inRound l (CallsIn.mono (callsIn_wide.2 h) fun e U ⟨v,he,I⟩=>by subst he;exact I)⟩
   . rw [if_neg O] at h;rw [if_neg O];exact ⟨fun _ _=>trivial,h⟩
theorem rG {Q:Exit->Act->World->Prop} {K:Act->World->Prop} (hr:CW ops) (J: ∀a w,K a w->Q .normal a w): ∀ (fuel:Nat) (I:Array Bool) (a:Act) (w:World),
 iE P ops K fuel I a w->wpAnyIn (Fence.wide.inRound l) rm P .any ops Q fuel I a w
 |0,_,_,_,h=> ⟨h.1,J _ _ h.2⟩
 |fuel+1,_,_,_,h=> ⟨fun O=>J _ _ (h.1 O),fun i hi=>pd hr (dQ (fun a w=>rG hr J fuel _ a w) (h.2 i hi))⟩
theorem pK {id:Nat} {Q:Exit->Act->World->Prop} {a:Act} {w:World} (hr:CW ops) (hm:P.follows .mixedOrders=true)
 (h:iE P ops (fun a w=>Q .normal a w) ops.size (Array.replicate ops.size false) a w.drew):(Code.region id ops true).wpIn (Fence.wide.inRound l) rm P Q a w:=
 wpIn_region_any hm (rG hr (K:=fun a w=>Q .normal a w) (fun _ _ h=>h) _ _ _ _ h)
theorem yY {id:Nat} {Q:Exit->Act->World->Prop} {a:Act} {w:World} (hr:CW ops) (hm:P.follows .mixedOrders=true) (I:oH P ops=true)
 (h:oS P ops (fun a w=>Q .normal a w) (List.range' 0 ops.size) a w.drew):(Code.region id ops true).wpIn (Fence.wide.inRound l) rm P Q a w:=
 pK hr hm (qL I ops.size 0 _ a _ (by omega) (by simp) (fun j J=>by simp [J]) h)
theorem vQ {Q:Exit->Act->World->Prop} (hr:CW ops): ∀ (I:List Nat) (a:Act) (w:World),oS P ops (fun a w=>Q .normal a w) I a w->wpOpsIn (Fence.wide.inRound l) rm P ops Q I a w
 | [],_,_,h=>h
 |i::I,a,w,h=>by
  rw [wpOpsIn_cons];exact pd hr (dQ (fun a w=>vQ hr I a w) h)
theorem xf {id:Nat} {Q:Exit->Act->World->Prop} {a:Act} {w:World} (hr:CW ops)
 (h:oS P ops (fun a w=>Q .normal a w) (List.range' 0 ops.size) a w):(Code.region id ops false).wpIn (Fence.wide.inRound l) rm P Q a w:=by
 refine wpIn_region ?_;rw [List.range_eq_range'];exact vQ hr _ a w h
theorem wk (hm:P.follows .mixedOrders=true) {n rm l:Nat} (c:Code): ∀ {ann:qf} {f:Fr} {w:World} {Q:H8} {a:Act},dg P n c=true->pF c=true->Ag D n a f->qN P c ann f w Q->
 c.wpIn (Fence.wide.inRound l) rm P (fun e a' w'=> ∃V,Ag D n a' V/\Q e V w'/\kJ c f V) a w:=by
 induction c with
 |skip=>intro ann f w Q a _ _ ha h;exact wpIn_skip ⟨f,ha,h,fun _ _=>rfl⟩
 |label l=>intro ann f w Q a _ _ ha h;exact wpIn_label ⟨f,ha,h,fun _ _=>rfl⟩
 |exit id=>intro ann f w Q a _ _ ha h;exact wpIn_exit ⟨f,ha,h,fun _ _=>rfl⟩
 |ret=>intro ann f w Q a _ _ ha h;exact wpIn_ret ⟨f,ha,h,fun _ _=>rfl⟩
 |goto l=>intro ann f w Q a h h2;cases h2
 |refuse y=>intro ann f w Q a h h2;cases h2
 |rangeFunc g ps x y=>intro ann f w Q a h h2;cases h2
 |region id ops cJ=>
  intro ann f w Q a Z U ha h;simp only [dg,Bool.and_eq_true] at Z;have hr:CW ops:=fun j o ho=>by
   simp only [pF] at U;rw [List.all_eq_true] at U;exact U o (Array.mem_toList_iff.2 (Array.mem_of_getElem? ho))
  have ar: ∀ (j:Nat) (o:Oper) (d:Nat),ops[j]? =some o->o.dst=some d->(d,o.type)∈qF (.region id ops cJ):=fun j o d ho hd=>by
   simp only [qF,List.mem_filterMap];refine ⟨o,?_,by rw [hd];rfl⟩;exact Array.mem_toList_iff.2 (Array.mem_of_getElem? ho)
  have dV: ∀a' w',((∃V,Ag D n a' V/\Q .normal V w')/\∀i,iG (qF (.region id ops cJ)) i=none->a'.tmps.getD i undef=a.tmps.getD i undef)->
   ∃V,Ag D n a' V/\Q .normal V w'/\kJ (.region id ops cJ) f V:=by
   rintro a' w' ⟨⟨V,O,hq⟩,hi⟩;exact ⟨V,O,hq,fun i b7=>by rw [<- O.2.2,hi i b7,ha.2.2]⟩
  cases cJ with
  |false=>
   have an:=qY Z.1 ops.toList 0 f a _ (by simp) ha h;have X:=jT ar _ _ _ an;rw [Array.length_toList] at X;exact xf hr (kV _ _ _ dV X)
  |true=>
   have av:cP ops=true:=by simpa using Z.2
   simp only [qN,cond_true] at h;cases bu:ann.drawn with
   |true=>
    rw [bu,cond_true] at h;exact pK hr hm (lg _ _ _ _ dV (jQ ar _ _ _ _ (yC av Z.1 ha h)))
   |false=>
   simp only [bu,cond_false,Dk] at h;cases ag:oH P ops with
   |true=>
    rw [ag,cond_true] at h;have an:=qY Z.1 ops.toList 0 f a _ (by simp) ha h;have X:=jT ar _ _ _ an;rw [Array.length_toList] at X;exact yY hr hm ag (kV _ _ _ dV X)
   |false=>
    rw [ag,cond_false] at h;have bc:=ud av Z.1 ops.size (Array.replicate ops.size false) f a _ (by simp) (fun j o ho hl=>by
     have b3:j<ops.size:=by
      rcases Nat.lt_or_ge j ops.size with h'|h'
      . exact h'
      . simp [Array.getElem?_eq_none h'] at ho
     simp [b3] at hl) (by simp [List.filter_replicate]) ha h
    have X:=jQ ar _ _ _ _ bc;exact pK hr hm (lg _ _ _ _ dV X)
 |seq x y ihx ihy=>
  intro ann f w Q a Z U ha h;simp only [dg,Bool.and_eq_true] at Z;simp only [pF,Bool.and_eq_true] at U;simp only [qN] at h;refine wpIn_seq ?_;cases aw:ann.Ha with
  |none=>
   simp only [aw] at h;refine wpIn_mono (ihx Z.1 U.1 ha h) fun e a' w' ⟨V,O,hq,X⟩=> ?_;cases e with
   |normal=>exact wpIn_mono (ihy Z.2 U.2 O hq) fun e bk ay ⟨aa,Y,aT,ax⟩=> ⟨aa,Y,aT,X.seq ax⟩
   |_=>exact ⟨V,O,hq,X.left⟩
  |some as=>
   simp only [aw] at h;obtain ⟨J,h1,h2⟩:=h;refine wpIn_mono (ihx Z.1 U.1 ha h1) fun e a' w' ⟨V,O,hq,X⟩=> ?_;cases e with
   |normal=>
    obtain ⟨r,hr,ac⟩:=nh _ hq h2;have:=ac w' V hr;rw [kQ X] at this;exact wpIn_mono (ihy Z.2 U.2 O this) fun e bk ay ⟨aa,Y,aT,ax⟩=> ⟨aa,Y,aT,X.seq ax⟩
   |_=>exact ⟨V,O,hq,X.left⟩
 |cond o x y ihx ihy=>
  intro ann f w Q a Z U ha h;simp only [dg,Bool.and_eq_true] at Z;simp only [pF,Bool.and_eq_true] at U;simp only [qN] at h;split at h
  . rename_i t ht;have a8:a.eval o= .bool t:=by rw [ha.eval];exact ht
    cases t with
    |true=>
     refine wpIn_cond_true a8 (wpIn_mono (ihx Z.1 U.1 ha h) fun e a' w' ⟨V,O,hq,X⟩=> ⟨V,O,hq,fun i hi=>X i ((eW _ _ _).1 hi).1⟩)
    |false=>
     refine wpIn_cond_false a8 (wpIn_mono (ihy Z.2 U.2 ha h) fun e a' w' ⟨V,O,hq,X⟩=> ⟨V,O,hq,fun i hi=>X i ((eW _ _ _).1 hi).2⟩)
  . exact h.elim
 |block id x ih=>
  intro ann f w Q a Z U ha h;refine wpIn_block (wpIn_mono (ih Z U ha h) fun e a' w' ⟨V,O,hq,X⟩=> ?_);cases e with
  |exit i=>
   simp only [Exit.inBlock];simp only at hq;cases hb:Nat.beq i id with
   |true=>
    obtain rfl:=Nat.eq_of_beq_eq_true hb;rw [hb,cond_true] at hq;rw [if_pos rfl];exact ⟨V,O,hq,X⟩
   |false=>
    rw [hb,cond_false] at hq;rw [if_neg (fun he=>by rw [he,Nat.beq_refl] at hb;cases hb)];exact ⟨V,O,hq,X⟩
  |_=>exact ⟨V,O,hq,X⟩
 |scope x ih=>intro ann f w Q a _ h2;cases h2
 |loop x ih=>
  intro ann f w Q a Z U ha h;simp only [qN] at h;obtain ⟨I,h1,h2⟩:=h;have b4:=oh _ h1;obtain ⟨r0,⟨k0,bx⟩,az⟩:=b4;refine wpIn_loop_ghost (fun k a' w'=> ∃V:Fr,Ag D n a' V/\kJ x f V/\ql (j8 P ann.vp) I (nU V ann.vp) fun r=>r w' k) k0 ⟨f,ha,fun _ _=>rfl,az (fun r=>r w k0) bx⟩ ?_;intro k a' w' ⟨V,O,a6,hI⟩;obtain ⟨r,hr,ac⟩:=nh _ hI h2;have hb:=ac w' k V hr;rw [kQ a6] at hb;refine wpIn_mono (ih Z U O hb) fun e bk ay ⟨aa,Y,hq,X⟩=> ?_;have a_:kJ x f aa:=fun i hi=> (X i hi).trans (a6 i hi);cases e with
  |normal=>
   obtain ⟨r',⟨k',bY,b6⟩,a7⟩:=oh _ hq;exact ⟨k',bY,aa,Y,a_,a7 (fun r=>r ay k') b6⟩
  |_=>exact ⟨aa,Y,hq,a_⟩
end Go.Fw
