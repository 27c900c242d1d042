/- The frame within a round of a range over a function; such a range within a function. -/
import Derived.Test.YtenmibfmhccmiaaGreatFwDefer
import Derived.RangeFuncNested
import Derived.Sort.LoopGhostIn
import Derived.OrdersIn
import Derived.TacticsIn
namespace Go.Fw
open Go
variable {P:Program} {D:List Deferred} {ops:Array Oper} {rm l:Nat}
def L_ (o:Oper):Bool:=match o.op with| .defer _=>false|_=>true
theorem GL {o:Oper} (h:L_ o=true): ∀c,o.op≠ .defer c:=fun c e=>by unfold L_ at h;rw [e] at h;cases h
def Bu (ops:Array Oper):Prop:= ∀ (j:Nat) (o:Oper),ops[j]? =some o->L_ o=true
def og:Code->Bool
 | .skip| .label _| .exit _| .ret=>true
 | .region _ ops _=>ops.toList.all L_
 | .seq a b| .cond _ a b=>og a && og b
 | .block _ a| .loop a=>og a
 |_=>false
theorem nD {Q:Exit->Act->World->Prop} {i:Nat} {K:Act->World->Prop} {a:Act} {w:World} (hr:Bu ops) (h:rz P ops i K a w):wpOpIn (Fence.wide.inRound l) rm P ops Q i K a w:=by
 unfold rz at h;unfold wpOpIn;split
 . rename_i J;simpa only [J] using h
 . rename_i o J;simp only [J] at h;unfold oU at h;by_cases O:Region.wanted o (yielded ops a.tmps)=true
   . rw [if_pos O] at h;rw [if_pos O];unfold Oper.wpIn;refine ⟨fun _ _=>trivial,?_⟩;have U:o.semAt (Fence.wide.inRound l).round a.eval=execOp a.eval o:=Oper.semAt_some l a.eval o (GL (hr i o J));rw [U];have val: ∀v w',(execOp a.eval o).run P w= .ok (.value v) w'->K (a.put o.dst v) w'->Oper.uponIn (Fence.wide.inRound l) rm P o a K Q ((execOp a.eval o).run P w):=fun v w' hr I=>by
      rw [hr];exact I
     match I:aZ P o with
     |0=>rw [I] at h;obtain ⟨v,hr,h⟩:=h;exact val v w (hr w) h
     |1=>rw [I] at h;obtain ⟨v,hr,h⟩:=h;exact val v w hr h
     |_+2=>
      rw [I] at h;change i4 P _ _ at h;generalize (execOp a.eval o).run P w=r at*
      cases r with
      |halt=>exact h.elim
      |ok n w'=>
       cases n<;>simp only [i4] at h<;>simp only [Oper.uponIn]
       case value=>exact h
       case skip=>exact h
       case enter=>exact ⟨fun e=> (by cases e),CallsIn.inRound l (CallsIn.mono (callsIn_wide.2 h) fun e V ⟨v,he,I⟩=>by subst he;exact I)⟩
   . rw [if_neg O] at h;rw [if_neg O];exact ⟨fun _ _=>trivial,h⟩
theorem qE {Q:Exit->Act->World->Prop} {K:Act->World->Prop} (hr:Bu ops) (J: ∀a w,K a w->Q .normal a w): ∀ (fuel:Nat) (I:Array Bool) (a:Act) (w:World),
 io P ops K fuel I a w->wpAnyIn (Fence.wide.inRound l) rm P .any ops Q fuel I a w
 |0,_,_,_,h=> ⟨h.1,J _ _ h.2⟩
 |fuel+1,_,_,_,h=> ⟨fun O=>J _ _ (h.1 O),fun i hi=>nD hr (d6 (fun a w=>qE hr J fuel _ a w) (h.2 i hi))⟩
theorem nR {id:Nat} {Q:Exit->Act->World->Prop} {a:Act} {w:World} (hr:Bu ops) (hm:P.follows .mixedOrders=true)
 (h:io P ops (fun a w=>Q .normal a w) ops.size (Array.replicate ops.size false) a w.drew):(Code.region id ops true).wpIn (Fence.wide.inRound l) rm P Q a w:=
 wpIn_region_any hm (qE hr (K:=fun a w=>Q .normal a w) (fun _ _ h=>h) _ _ _ _ h)
theorem xU {id:Nat} {Q:Exit->Act->World->Prop} {a:Act} {w:World} (hr:Bu ops) (hm:P.follows .mixedOrders=true) (I:mK P ops=true)
 (h:nu P ops (fun a w=>Q .normal a w) (List.range' 0 ops.size) a w.drew):(Code.region id ops true).wpIn (Fence.wide.inRound l) rm P Q a w:=
 nR hr hm (pD I ops.size 0 _ a _ (by omega) (by simp) (fun j J=>by simp [J]) h)
theorem tF {Q:Exit->Act->World->Prop} (hr:Bu ops): ∀ (I:List Nat) (a:Act) (w:World),nu P ops (fun a w=>Q .normal a w) I a w->wpOpsIn (Fence.wide.inRound l) rm P ops Q I a w
 | [],_,_,h=>h
 |i::I,a,w,h=>by
  rw [wpOpsIn_cons];exact nD hr (d6 (fun a w=>tF hr I a w) h)
theorem vi {id:Nat} {Q:Exit->Act->World->Prop} {a:Act} {w:World} (hr:Bu ops)
 (h:nu P ops (fun a w=>Q .normal a w) (List.range' 0 ops.size) a w):(Code.region id ops false).wpIn (Fence.wide.inRound l) rm P Q a w:=by
 refine wpIn_region ?_;rw [List.range_eq_range'];exact tF hr _ a w h
theorem tP (hm:P.follows .mixedOrders=true) {n rm l:Nat} (c:Code): ∀ {ann:oW} {f:Fr} {w:World} {Q:Gg} {a:Act},dD P n c=true->og c=true->Ag D n a f->pA P c ann f w Q->
 c.wpIn (Fence.wide.inRound l) rm P (fun e a' w'=> ∃V,Ag D n a' V/\Q e V w'/\jS c f V) a w:=by
 induction c with
 |skip=>intro ann f w Q a _ _ ha h;exact wpIn_skip ⟨f,ha,h,fun _ _=>rfl⟩
 |label l=>intro ann f w Q a _ _ ha h;exact wpIn_label ⟨f,ha,h,fun _ _=>rfl⟩
 |exit id=>intro ann f w Q a _ _ ha h;exact wpIn_exit ⟨f,ha,h,fun _ _=>rfl⟩
 |ret=>intro ann f w Q a _ _ ha h;exact wpIn_ret ⟨f,ha,h,fun _ _=>rfl⟩
 |goto l=>intro ann f w Q a h h2;cases h2
 |refuse y=>intro ann f w Q a h h2;cases h2
 |rangeFunc g ps x y=>intro ann f w Q a h h2;cases h2
 |region id ops dm=>
  intro ann f w Q a Z U ha h;simp only [dD,Bool.and_eq_true] at Z;have hr:Bu ops:=fun j o ho=>by
   simp only [og] at U;rw [List.all_eq_true] at U;exact U o (Array.mem_toList_iff.2 (Array.mem_of_getElem? ho))
  have av: ∀ (j:Nat) (o:Oper) (d:Nat),ops[j]? =some o->o.dst=some d->(d,o.type)∈pK (.region id ops dm):=fun j o d ho hd=>by
   simp only [pK,List.mem_filterMap];refine ⟨o,?_,by rw [hd];rfl⟩;exact Array.mem_toList_iff.2 (Array.mem_of_getElem? ho)
  have fI: ∀a' w',((∃V,Ag D n a' V/\Q .normal V w')/\∀i,ik (pK (.region id ops dm)) i=none->a'.tmps.getD i undef=a.tmps.getD i undef)->
   ∃V,Ag D n a' V/\Q .normal V w'/\jS (.region id ops dm) f V:=by
   rintro a' w' ⟨⟨V,O,hq⟩,hi⟩;exact ⟨V,O,hq,fun i b_=>by rw [<- O.2.2,hi i b_,ha.2.2]⟩
  cases dm with
  |false=>
   have ar:=qd Z.1 ops.toList 0 f a _ (by simp) ha h;have X:=jp av _ _ _ ar;rw [Array.length_toList] at X;exact vi hr (ko _ _ _ fI X)
  |true=>
   have ax:cS ops=true:=by simpa using Z.2
   simp only [pA,cond_true] at h;cases bv:ann.drawn with
   |true=>
    rw [bv,cond_true] at h;exact nR hr hm (ka _ _ _ _ fI (jr av _ _ _ _ (vX ax Z.1 ha h)))
   |false=>
   simp only [bv,cond_false,AK] at h;cases ap:mK P ops with
   |true=>
    rw [ap,cond_true] at h;have ar:=qd Z.1 ops.toList 0 f a _ (by simp) ha h;have X:=jp av _ _ _ ar;rw [Array.length_toList] at X;exact xU hr hm ap (ko _ _ _ fI X)
   |false=>
    rw [ap,cond_false] at h;have bb:=sV ax Z.1 ops.size (Array.replicate ops.size false) f a _ (by simp) (fun j o ho hl=>by
     have b5:j<ops.size:=by
      rcases Nat.lt_or_ge j ops.size with h'|h'
      . exact h'
      . simp [Array.getElem?_eq_none h'] at ho
     simp [b5] at hl) (by simp [List.filter_replicate]) ha h
    have X:=jr av _ _ _ _ bb;exact nR hr hm (ka _ _ _ _ fI X)
 |seq x y ihx ihy=>
  intro ann f w Q a Z U ha h;simp only [dD,Bool.and_eq_true] at Z;simp only [og,Bool.and_eq_true] at U;simp only [pA] at h;refine wpIn_seq ?_;cases aw:ann.Fo with
  |none=>
   simp only [aw] at h;refine wpIn_mono (ihx Z.1 U.1 ha h) fun e a' w' ⟨V,O,hq,X⟩=> ?_;cases e with
   |normal=>exact wpIn_mono (ihy Z.2 U.2 O hq) fun e bk az ⟨ac,Y,aT,ay⟩=> ⟨ac,Y,aT,X.seq ay⟩
   |_=>exact ⟨V,O,hq,X.left⟩
  |some as=>
   simp only [aw] at h;obtain ⟨J,h1,h2⟩:=h;refine wpIn_mono (ihx Z.1 U.1 ha h1) fun e a' w' ⟨V,O,hq,X⟩=> ?_;cases e with
   |normal=>
    obtain ⟨r,hr,aa⟩:=l6 _ hq h2;have:=aa w' V hr;rw [j9 X] at this;exact wpIn_mono (ihy Z.2 U.2 O this) fun e bk az ⟨ac,Y,aT,ay⟩=> ⟨ac,Y,aT,X.seq ay⟩
   |_=>exact ⟨V,O,hq,X.left⟩
 |cond o x y ihx ihy=>
  intro ann f w Q a Z U ha h;simp only [dD,Bool.and_eq_true] at Z;simp only [og,Bool.and_eq_true] at U;simp only [pA] at h;split at h
  . rename_i t ht;have a8:a.eval o= .bool t:=by rw [ha.eval];exact ht
    cases t with
    |true=>
     refine wpIn_cond_true a8 (wpIn_mono (ihx Z.1 U.1 ha h) fun e a' w' ⟨V,O,hq,X⟩=> ⟨V,O,hq,fun i hi=>X i ((fx _ _ _).1 hi).1⟩)
    |false=>
     refine wpIn_cond_false a8 (wpIn_mono (ihy Z.2 U.2 ha h) fun e a' w' ⟨V,O,hq,X⟩=> ⟨V,O,hq,fun i hi=>X i ((fx _ _ _).1 hi).2⟩)
  . exact h.elim
 |block id x ih=>
  intro ann f w Q a Z U ha h;refine wpIn_block (wpIn_mono (ih Z U ha h) fun e a' w' ⟨V,O,hq,X⟩=> ?_);cases e with
  |exit i=>
   simp only [Exit.inBlock];simp only at hq;cases hb:Nat.beq i id with
   |true=>
    obtain rfl:=Nat.eq_of_beq_eq_true hb;rw [hb,cond_true] at hq;rw [if_pos rfl];exact ⟨V,O,hq,X⟩
   |false=>
    rw [hb,cond_false] at hq;rw [if_neg (fun he=>by rw [he,Nat.beq_refl] at hb;cases hb)];exact ⟨V,O,hq,X⟩
  |_=>exact ⟨V,O,hq,X⟩
 |scope x ih=>intro ann f w Q a _ h2;cases h2
 |loop x ih=>
  intro ann f w Q a Z U ha h;simp only [pA] at h;obtain ⟨I,h1,h2⟩:=h;have b9:=mJ _ h1;obtain ⟨r0,⟨k0,b6⟩,a6⟩:=b9;refine wpIn_loop_ghost (fun k a' w'=> ∃V:Fr,Ag D n a' V/\jS x f V/\oZ (jC P ann.tM) I (mM V ann.tM) fun r=>r w' k) k0 ⟨f,ha,fun _ _=>rfl,a6 (fun r=>r w k0) b6⟩ ?_;intro k a' w' ⟨V,O,a7,hI⟩;obtain ⟨r,hr,aa⟩:=l6 _ hI h2;have hb:=aa w' k V hr;rw [j9 a7] at hb;refine wpIn_mono (ih Z U O hb) fun e bk az ⟨ac,Y,hq,X⟩=> ?_;have bx:jS x f ac:=fun i hi=> (X i hi).trans (a7 i hi);cases e with
  |normal=>
   obtain ⟨r',⟨k',b7,b4⟩,bY⟩:=mJ _ hq;exact ⟨k',b7,ac,Y,bx,bY (fun r=>r az k') b4⟩
  |_=>exact ⟨ac,Y,hq,bx⟩
end Go.Fw
