/- A statement whose order is open: the walk of the text's order, and the test that it serves. -/
import Derived.Test.YtenmibfmhccmiaaGreatFwOrder
namespace Go.Fw
open Go
variable {P:Program} {ops:Array Oper}
def io (P:Program) (ops:Array Oper) (K:Act->World->Prop):Nat->Array Bool->Act->World->Prop
 |0,I,a,w=>Region.ready .any ops I= []/\K a w
 |fuel+1,I,a,w=>
  (Region.ready .any ops I= []->K a w)/\
  ∀i∈Region.ready .any ops I,rz P ops i (io P ops K fuel (I.setIfInBounds i true)) a w
theorem mO {Q:Exit->Act->World->Prop} {i:Nat} {K:Act->World->Prop} {a:Act} {w:World} (h:rz P ops i K a w):wpOp P ops Q i K a w:=by
 unfold rz at h;unfold wpOp;split
 . rename_i O;simpa only [O] using h
 . rename_i o O;simp only [O] at h;unfold oU at h;by_cases J:Region.wanted o (yielded ops a.tmps)=true
   . rw [if_pos J] at h;rw [if_pos J];refine .inl ?_;unfold Oper.wp;have val: ∀v w',(execOp a.eval o).run P w= .ok (.value v) w'->K (a.put o.dst v) w'->Oper.upon P o a K Q ((execOp a.eval o).run P w):=fun v w' hr I=>by
      rw [hr];exact I
     match I:aZ P o with
     |0=>rw [I] at h;obtain ⟨v,hr,h⟩:=h;exact val v w (hr w) h
     |1=>rw [I] at h;obtain ⟨v,hr,h⟩:=h;exact val v w hr h
     |_+2=>
      rw [I] at h;change i4 P _ _ at h;generalize (execOp a.eval o).run P w=r at*
      cases r with
      |halt=>exact h.elim
      |ok n w'=>
       cases n<;>simp only [i4] at h<;>simp only [Oper.upon]
       case value=>exact h
       case skip=>exact h
       case enter=>exact h.mono fun e U ⟨v,he,I⟩=>by subst he;exact I
   . rw [if_neg J] at h;rw [if_neg J];exact h
theorem pB {Q:Exit->Act->World->Prop} {K:Act->World->Prop} (J: ∀a w,K a w->Q .normal a w): ∀ (fuel:Nat) (I:Array Bool) (a:Act) (w:World),
 io P ops K fuel I a w->wpAny P .any ops Q fuel I a w
 |0,_,_,_,h=> ⟨h.1,J _ _ h.2⟩
 |fuel+1,_,_,_,h=> ⟨fun O=>J _ _ (h.1 O),fun i hi=>mO (d6 (fun a w=>pB J fuel _ a w) (h.2 i hi))⟩
theorem rJ (a b i:Nat):(a|||b).testBit i=(a.testBit i||b.testBit i):=Nat.testBit_or a b i
theorem pN {B:List Nat} {i:Nat}: ∀ (l:List Edge),(vK.go B l).testBit i=true->∃e∈l,Region.binds .any e=true/\(e.on=i\/(B.getD e.on 0).testBit i=true)
 | [],h=>by simp [vK.go] at h
 |e::l,h=>by
  simp only [vK.go] at h;cases hb:Region.binds .any e with
  |false=>
   rw [hb,cond_false] at h;obtain ⟨J,he,h1,I⟩:=pN l h;exact ⟨J,List.mem_cons_of_mem _ he,h1,I⟩
  |true=>
   rw [hb,cond_true,rJ,rJ,Bool.or_eq_true,Bool.or_eq_true] at h;rcases h with (h|h)|h
   . refine ⟨e,List.mem_cons_self ..,hb,.inl ?_⟩;rw [Nat.testBit_two_pow] at h;simpa using h
   . exact ⟨e,List.mem_cons_self ..,hb,.inr h⟩
   . obtain ⟨J,he,h1,I⟩:=pN l h;exact ⟨J,List.mem_cons_of_mem _ he,h1,I⟩
theorem eU {k:Nat}: ∀ (l:List Edge),kH k l=true->∀e∈l,Region.binds .any e=true->e.on<k
 | [],_,_,he,_=>by cases he
 |e::l,h,e',he,hb=>by
  simp only [kH,Bool.and_eq_true,Bool.or_eq_true,Bool.not_eq_true'] at h;cases he with
  |head=>
   rcases h.1 with h1|h1
   . rw [hb] at h1;cases h1
   . simpa using h1
  |tail _ he=>exact eU l h.2 e' he hb
theorem iT {B:List Nat}: ∀ (l:List Oper) (k:Nat),tH B k l=true->∀j o,l[j]? =some o->B.getD (k+j) 0=vK B o/\kH (k+j) o.after.toList=true
 | [],_,_,j,o,h=>by simp at h
 |x::l,k,h,j,o,ho=>by
  simp only [tH,Bool.and_eq_true] at h;cases j with
  |zero=>
   simp only [List.getElem?_cons_zero,Option.some.injEq] at ho;subst ho;exact ⟨Nat.eq_of_beq_eq_true h.1.1,h.1.2⟩
  |succ j=>
   simp only [List.getElem?_cons_succ] at ho;have:=iT l (k+1) h.2 j o ho;rw [show k+ (j+1)=k+1+j from by omega];exact this
theorem rP {x:Oper} {i:Nat} {B:List Nat}: ∀ (l:List Oper) (k:Nat),ye P ops x i B k l=true->∀j y,l[j]? =some y->
 (B.getD (k+j) 0).testBit i=true\/(x.apart ops y=true/\lB P x y=true)
 | [],_,_,j,y,h=>by simp at h
 |z::l,k,h,j,y,hy=>by
  simp only [ye,Bool.and_eq_true,Bool.or_eq_true] at h;cases j with
  |zero=>
   simp only [List.getElem?_cons_zero,Option.some.injEq] at hy;subst hy;exact h.1
  |succ j=>
   simp only [List.getElem?_cons_succ] at hy;rw [show k+ (j+1)=k+1+j from by omega];exact rP l (k+1) h.2 j y hy
theorem qm {B:List Nat}: ∀ (l:List Oper) (k:Nat),sR P ops B k l=true->∀i j x y,l[i]? =some x->l[j]? =some y->i<j->
 (B.getD (k+j) 0).testBit (k+i)=true\/(x.apart ops y=true/\lB P x y=true)
 | [],_,_,i,j,x,y,h,_,_=>by simp at h
 |z::l,k,h,i,j,x,y,hx,hy,hij=>by
  simp only [sR,Bool.and_eq_true] at h;cases j with
  |zero=>omega
  |succ j=>
   simp only [List.getElem?_cons_succ] at hy;cases i with
   |zero=>
    simp only [List.getElem?_cons_zero,Option.some.injEq] at hx;subst hx;have:=rP l (k+1) h.1 j y hy;rw [show k+ (j+1)=k+1+j from by omega];exact this
   |succ i=>
    simp only [List.getElem?_cons_succ] at hx;have:=qm l (k+1) h.2 i j x y hx hy (by omega);rw [show k+ (j+1)=k+1+j from by omega,show k+ (i+1)=k+1+i from by omega];exact this
def sb (ops:Array Oper) (I:Array Bool):Prop:= ∀j o,ops[j]? =some o->I.getD j true=true->∀e∈o.after.toList,Region.binds .any e=true->I.getD e.on false=true
theorem jR {B:List Nat} (hB:tH B 0 ops.toList=true) {I:Array Bool} (hs:sb ops I) (aa:I.size=ops.size) {i:Nat}: ∀ (j:Nat) (o:Oper),ops[j]? =some o->
 (∀e∈o.after.toList,Region.binds .any e=true->I.getD e.on false=true)->(B.getD j 0).testBit i=true->I.getD i false=true:=by
 intro j
 induction j using Nat.strongRecOn with
 |_ j ih=>
  intro o Y U hb;have J:=iT ops.toList 0 hB j o (by simpa using Y);rw [Nat.zero_add] at J;rw [J.1] at hb;obtain ⟨e,he,Q,h⟩:=pN _ hb;have hl:=U e he Q;rcases h with rfl|h
  . exact hl
  . have V:=eU _ J.2 e he Q;have Z:j<ops.size:=by
     rcases Nat.lt_or_ge j ops.size with X|X
     . exact X
     . simp [Array.getElem?_eq_none X] at Y
    have O:e.on<ops.size:=by omega
    refine ih e.on V ops[e.on] (by simp [O]) ?_ h;refine hs e.on ops[e.on] (by simp [O]) ?_;have:e.on<I.size:=by omega
    simpa [this] using hl
theorem jE {I:Array Bool} {i:Nat} {d:Bool} (h:i<I.size):(I.setIfInBounds i true).getD i d=true:=by
 simp [h]
theorem sb.set {I:Array Bool} (hs:sb ops I) (Z:I.size=ops.size) {i:Nat} (hi:i∈Region.ready .any ops I):sb ops (I.setIfInBounds i true):=by
 obtain ⟨_,oi,Q,U⟩:=mem_ready.1 hi;intro j o O hl e he hb;have key:I.getD e.on false=true:=by
  by_cases X:j=i
  . subst X;rw [Q] at O;injection O with O;subst O;exact U e (by simpa using he) hb
  . rw [getD_set_ne true (Ne.symm X)] at hl;exact hs j o O hl e he hb
 by_cases V:e.on=i
 . rw [V];have:i<I.size:=by
    rcases Nat.lt_or_ge i I.size with Y|Y
    . exact Y
    . have aa:i<ops.size:=by
       rcases Nat.lt_or_ge i ops.size with J|J
       . exact J
       . simp [Array.getElem?_eq_none J] at Q
      omega
   exact jE this
 . rw [getD_set_ne false (Ne.symm V)];exact key
theorem wJ (a6:cS ops=true) {K:Act->World->Prop} {i:Nat}:
 ∀ (fuel:Nat) (I:Array Bool) (a:Act) (w:World),I.size=ops.size->sb ops I->i∈Region.ready .any ops I->
   (∀ (oi:Oper) (j:Nat) (oj:Oper),ops[i]? =some oi->ops[j]? =some oj->I.getD j true=false->j≠i->((jL ops.toList []).getD j 0).testBit i=false->oi.apart ops oj=true/\lB P oi oj=true)->
   rz P ops i (io P ops K fuel (I.setIfInBounds i true)) a w->io P ops K (fuel+1) I a w:=by
 simp only [cS,Bool.and_eq_true] at a6;obtain ⟨bb,ag⟩:=a6;have Y:=Region.noSelect_spec bb;intro fuel
 induction fuel with
 |zero=>
  intro I a w V hs hr hp H;refine ⟨fun h=> (by rw [h] at hr;cases hr),fun j hj=> ?_⟩;by_cases J:j=i
  . subst J;exact H
  . obtain ⟨a',w',h,_⟩:=GK H;have:=ready_mono hj J;rw [h] at this;cases this
 |succ fuel ih=>
  intro I a w V hs hr hp H;refine ⟨fun h=> (by rw [h] at hr;cases hr),fun j hj=> ?_⟩;by_cases J:j=i
  . subst J;exact H
  . obtain ⟨ay,oi,U,bk⟩:=mem_ready.1 hr;obtain ⟨aa,oj,Q,an⟩:=mem_ready.1 hj;have a7: ∀ {x:Nat} {o:Oper},ops[x]? =some o->x<I.size:=fun {x o} h=>by
     rcases Nat.lt_or_ge x ops.size with h'|h'
     . omega
     . simp [Array.getElem?_eq_none h'] at h
    have a_:I.getD i false=false:=by have:=a7 U;simpa [this] using ay
    have bv:((jL ops.toList []).getD j 0).testBit i=false:=by
     cases hb:((jL ops.toList []).getD j 0).testBit i with
     |false=>rfl
     |true=>
      have:=jR ag hs V j oj Q (fun e he a8=>an e (by simpa using he) a8) hb;rw [a_] at this;cases this
    have O:=hp oi j oj U Q aa J bv;have h1:rz P ops i (rz P ops j (io P ops K fuel ((I.setIfInBounds i true).setIfInBounds j true))) a w:=
     d6 (fun a w h=>h.2 j (ready_mono hj J)) H
    have h2:=comm U Q O.1 O.2 (fun cs b=>Y i oi cs b U) (fun cs b=>Y j oj cs b Q) h1;refine d6 (fun a' w' h3=>ih (I.setIfInBounds j true) a' w' (by simpa using V) (hs.set V hj) (ready_mono hr (Ne.symm J)) ?_ ?_) h2
    . intro ax k ok Z X az ar aw;by_cases av:k=j
      . subst av;exact hp ax k ok Z X aa ar aw
      . rw [getD_set_ne true (Ne.symm av)] at az;exact hp ax k ok Z X az ar aw
    . rw [Array.setIfInBounds_comm _ _ J];exact h3
def nu (P:Program) (ops:Array Oper) (K:Act->World->Prop):List Nat->Act->World->Prop
 | []=>K
 |i::l=>rz P ops i (nu P ops K l)
theorem pD (ax:mK P ops=true) {K:Act->World->Prop}: ∀ (n k:Nat) (I:Array Bool) (a:Act) (w:World),k+n=ops.size->I.size=ops.size->
 (∀j,j<ops.size->I.getD j true=decide (j<k))->nu P ops K (List.range' k n) a w->io P ops K n I a w
 |0,k,I,a,w,hk,Z,hl,h=>by
  refine ⟨?_,by simpa [nu] using h⟩;cases hr:Region.ready .any ops I with
  |nil=>rfl
  |cons x xs=>
   have hx:x∈Region.ready .any ops I:=by rw [hr];exact List.mem_cons_self ..
   obtain ⟨Q,o,ho,_⟩:=mem_ready.1 hx;have a8:x<ops.size:=by
    rcases Nat.lt_or_ge x ops.size with J|J
    . exact J
    . simp [Array.getElem?_eq_none J] at ho
   rw [hl x a8] at Q;simp at Q;omega
 |n+1,k,I,a,w,hk,Z,hl,h=>by
  have ac:k<ops.size:=by omega
  have X:=ax;simp only [mK,cS,Bool.and_eq_true] at X;obtain ⟨⟨a6,O⟩,U⟩:=X;have av:cS ops=true:=by simp only [cS,Bool.and_eq_true];exact ⟨a6,O⟩
  have an: ∀j,j<ops.size->I.getD j false=decide (j<k):=fun j hj=>by
   have:=hl j hj;have az:j<I.size:=by omega
   simpa [az] using this
  have below: ∀j o,ops[j]? =some o->∀e∈o.after.toList,Region.binds .any e=true->e.on<j:=fun j o ho e he hb=>by
   have:=(iT ops.toList 0 O j o (by simpa using ho)).2;rw [Nat.zero_add] at this;exact eU _ this e he hb
  have hs:sb ops I:=by
   intro j o ho ar e he hb;have aa:j<ops.size:=by
    rcases Nat.lt_or_ge j ops.size with J|J
    . exact J
    . simp [Array.getElem?_eq_none J] at ho
   rw [hl j aa] at ar;have:=below j o ho e he hb;rw [an e.on (by omega)];simp at ar ⊢;omega
  have V:k∈Region.ready .any ops I:=by
   refine mem_ready.2 ⟨by rw [hl k ac];simp,ops[k],by simp [ac],fun e he hb=> ?_⟩;have:=below k ops[k] (by simp [ac]) e (by simpa using he) hb;rw [an e.on (by omega)];simpa using this
  refine wJ av n I a w Z hs V ?_ ?_
  . intro oi j oj aT ap Q Y aw;have aa:j<ops.size:=by
     rcases Nat.lt_or_ge j ops.size with J|J
     . exact J
     . simp [Array.getElem?_eq_none J] at ap
    have ay:k<j:=by
     rw [hl j aa] at Q;simp at Q;omega
    have:=qm ops.toList 0 U k j oi oj (by simpa using aT) (by simpa using ap) ay;rw [Nat.zero_add,Nat.zero_add] at this;rcases this with hb|h
    . rw [hb] at aw;cases aw
    . exact h
  rw [List.range'_succ] at h;refine d6 (fun a' w' J=>pD ax n (k+1) (I.setIfInBounds k true) a' w' (by omega) (by simpa using Z) (fun j hj=> ?_) J) h;by_cases Y:j=k
  . subst Y;rw [jE (by omega)];simp
  . rw [getD_set_ne true (Ne.symm Y),hl j hj];simp;omega
theorem zT {id:Nat} {Q:Exit->Act->World->Prop} {a:Act} {w:World} (hm:P.follows .mixedOrders=true) (I:mK P ops=true)
 (h:nu P ops (fun a w=>Q .normal a w) (List.range' 0 ops.size) a w.drew):(Code.region id ops true).wp P Q a w:=by
 refine wp_region_any hm (pB (K:=fun a w=>Q .normal a w) (fun _ _ h=>h) _ _ _ _ ?_);exact pD I ops.size 0 _ a _ (by omega) (by simp) (fun j J=>by simp [J]) h
theorem zx {Q:Exit->Act->World->Prop}: ∀ (l:List Nat) (a:Act) (w:World),nu P ops (fun a w=>Q .normal a w) l a w->wpOps P ops Q l a w
 | [],_,_,h=>h
 |i::l,a,w,h=>by
  rw [wpOps_cons];exact mO (d6 (fun a w=>zx l a w) h)
theorem xC {id:Nat} {Q:Exit->Act->World->Prop} {a:Act} {w:World}
 (h:nu P ops (fun a w=>Q .normal a w) (List.range' 0 ops.size) a w):(Code.region id ops false).wp P Q a w:=by
 refine wp_region ?_;rw [List.range_eq_range'];exact zx _ a w h
end Go.Fw
