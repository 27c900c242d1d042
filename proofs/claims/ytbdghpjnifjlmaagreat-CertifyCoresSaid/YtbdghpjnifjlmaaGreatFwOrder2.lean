/- A statement whose order is open: the walk of the text's order, and the test that it serves. -/
import Derived.Test.YtbdghpjnifjlmaaGreatFwOrder
namespace Go.Fw
open Go
variable {P:Program} {ops:Array Oper}
def jQ (P:Program) (ops:Array Oper) (K:Act->World->Prop):Nat->Array Bool->Act->World->Prop
 |0,I,a,w=>Region.ready .any ops I= []/\K a w
 |fuel+1,I,a,w=>
  (Region.ready .any ops I= []->K a w)/\
  ∀i∈Region.ready .any ops I,wH P ops i (jQ P ops K fuel (I.setIfInBounds i true)) a w
theorem rn {Q:Exit->Act->World->Prop} {i:Nat} {K:Act->World->Prop} {a:Act} {w:World} (h:wH P ops i K a w):wpOp P ops Q i K a w:=by
 unfold wH at h;unfold wpOp;split
 . rename_i O;simpa only [O] using h
 . rename_i o O;simp only [O] at h;unfold tA at h;by_cases J:Region.wanted o (yielded ops a.tmps)=true
   . rw [if_pos J] at h;rw [if_pos J];refine .inl ?_;unfold Oper.wp;have val:∀v w',(execOp a.eval o).run P w=.ok (.value v) w'->K (a.put o.dst v) w'->Oper.upon P o a K Q ((execOp a.eval o).run P w):=λv w' hr I=>by
      rw [hr];exact I
     match I:bC P o with
     |0=>rw [I] at h;obtain ⟨v,hr,h⟩:=h;exact val v w (hr w) h
     |1=>rw [I] at h;obtain ⟨v,hr,h⟩:=h;exact val v w hr h
     |_+2=>
      rw [I] at h;change kV P _ _ at h;generalize (execOp a.eval o).run P w=r at*
      cases r with
      |halt=>exact h.elim
      |ok n w'=>
       cases n<;>simp only [kV] at h<;>simp only [Oper.upon]
       case value=>exact h
       case skip=>exact h
       case enter=>exact h.mono λe U ⟨v,he,I⟩=>by subst he;exact I
   . rw [if_neg J] at h;rw [if_neg J];exact h
theorem ug {Q:Exit->Act->World->Prop} {K:Act->World->Prop} (J:∀a w,K a w->Q .normal a w):∀ (fuel:Nat) (I:Array Bool) (a:Act) (w:World),
 jQ P ops K fuel I a w->wpAny P .any ops Q fuel I a w
 |0,_,_,_,h=>⟨h.1,J _ _ h.2⟩
 |fuel+1,_,_,_,h=>⟨λO=>J _ _ (h.1 O),λi hi=>rn (fx (λa w=>ug J fuel _ a w) (h.2 i hi))⟩
theorem xA (a b i:Nat):(a|||b).testBit i=(a.testBit i||b.testBit i):=Nat.testBit_or a b i
theorem ub {B:List Nat} {i:Nat}:∀ (l:List Edge),(Br.go B l).testBit i=true->∃e∈l,Region.binds .any e=true/\(e.on=i\/(B.getD e.on 0).testBit i=true)
 | [],h=>by simp [Br.go] at h
 |e::l,h=>by
  simp only [Br.go] at h;cases hb:Region.binds .any e with
  |false=>
   rw [hb,cond_false] at h;obtain ⟨I,he,h1,J⟩:=ub l h;exact ⟨I,vy _ he,h1,J⟩
  |true=>
   rw [hb,cond_true,xA,xA,VM,VM] at h;rcases h with (h|h)|h
   . refine ⟨e,UJ ..,hb,.inl ?_⟩;rw [Nat.testBit_two_pow] at h;simpa using h
   . exact ⟨e,UJ ..,hb,.inr h⟩
   . obtain ⟨I,he,h1,J⟩:=ub l h;exact ⟨I,vy _ he,h1,J⟩
theorem fQ {k:Nat}:∀ (l:List Edge),od k l=true->∀e∈l,Region.binds .any e=true->e.on<k
 | [],_,_,he,_=>by cases he
 |e::l,h,e',he,hb=>by
  simp only [od,ts,VM,Wc] at h;cases he with
  |head=>
   rcases h.1 with h1|h1
   . rw [hb] at h1;cases h1
   . simpa using h1
  |tail _ he=>exact fQ l h.2 e' he hb
theorem kC {B:List Nat}:∀ (l:List Oper) (k:Nat),zP B k l=true->∀j o,l[j]? =some o->B.getD (k+j) 0=Br B o/\od (k+j) o.after.toList=true
 | [],_,_,j,o,h=>by simp at h
 |x::l,k,h,j,o,ho=>by
  simp only [zP,ts] at h;cases j with
  |zero=>
   simp only [Ww,U4] at ho;subst ho;exact ⟨UG h.1.1,h.1.2⟩
  |succ j=>
   simp only [Vp] at ho;have:=kC l (k+1) h.2 j o ho;rw [show k+ (j+1)=k+1+j from by omega];exact this
theorem xj {x:Oper} {i:Nat} {B:List Nat}:∀ (l:List Oper) (k:Nat),Dc P ops x i B k l=true->∀j y,l[j]? =some y->
 (B.getD (k+j) 0).testBit i=true\/(x.apart ops y=true/\oY P x y=true)
 | [],_,_,j,y,h=>by simp at h
 |z::l,k,h,j,y,hy=>by
  simp only [Dc,ts,VM] at h;cases j with
  |zero=>
   simp only [Ww,U4] at hy;subst hy;exact h.1
  |succ j=>
   simp only [Vp] at hy;rw [show k+ (j+1)=k+1+j from by omega];exact xj l (k+1) h.2 j y hy
theorem uL {B:List Nat}:∀ (l:List Oper) (k:Nat),yk P ops B k l=true->∀i j x y,l[i]? =some x->l[j]? =some y->i<j->
 (B.getD (k+j) 0).testBit (k+i)=true\/(x.apart ops y=true/\oY P x y=true)
 | [],_,_,i,j,x,y,h,_,_=>by simp at h
 |z::l,k,h,i,j,x,y,hx,hy,hij=>by
  simp only [yk,ts] at h;cases j with
  |zero=>omega
  |succ j=>
   simp only [Vp] at hy;cases i with
   |zero=>
    simp only [Ww,U4] at hx;subst hx;have:=xj l (k+1) h.1 j y hy;rw [show k+ (j+1)=k+1+j from by omega];exact this
   |succ i=>
    simp only [Vp] at hx;have:=uL l (k+1) h.2 i j x y hx hy (by omega);rw [show k+ (j+1)=k+1+j from by omega,show k+ (i+1)=k+1+i from by omega];exact this
def xO (ops:Array Oper) (I:Array Bool):Prop:=∀j o,ops[j]? =some o->I.getD j true=true->∀e∈o.after.toList,Region.binds .any e=true->I.getD e.on false=true
theorem mY {B:List Nat} (hB:zP B 0 ops.toList=true) {I:Array Bool} (hs:xO ops I) (ag:I.size=ops.size) {i:Nat}:∀ (j:Nat) (o:Oper),ops[j]? =some o->
 (∀e∈o.after.toList,Region.binds .any e=true->I.getD e.on false=true)->(B.getD j 0).testBit i=true->I.getD i false=true:=by
 intro j
 induction j using Nat.strongRecOn with
 |_ j Z=>
  intro o Y Q hb;have J:=kC ops.toList 0 hB j o (by simpa using Y);rw [UX] at J;rw [J.1] at hb;obtain ⟨e,he,O,h⟩:=ub _ hb;have hl:=Q e he O;rcases h with rfl|h
  . exact hl
  . have X:=fQ _ J.2 e he O;have ac:j<ops.size:=by
     rcases UU j ops.size with V|V
     . exact V
     . simp [UQ V] at Y
    have U:e.on<ops.size:=by omega
    refine Z e.on X ops[e.on] (by simp [U]) ?_ h;refine hs e.on ops[e.on] (by simp [U]) ?_;have:e.on<I.size:=by omega
    simpa [this] using hl
theorem mF {I:Array Bool} {i:Nat} {d:Bool} (h:i<I.size):(I.setIfInBounds i true).getD i d=true:=by
 simp [h]
theorem xO.set {I:Array Bool} (hs:xO ops I) (aa:I.size=ops.size) {i:Nat} (hi:i∈Region.ready .any ops I):xO ops (I.setIfInBounds i true):=by
 obtain ⟨_,oi,V,O⟩:=mem_ready.1 hi;intro j o X hl e he hb;have key:I.getD e.on false=true:=by
  by_cases Q:j=i
  . subst Q;rw [V] at X;injection X with X;subst X;exact O e (by simpa using he) hb
  . rw [getD_set_ne true (Vc Q)] at hl;exact hs j o X hl e he hb
 by_cases U:e.on=i
 . rw [U];have:i<I.size:=by
    rcases UU i I.size with Y|Y
    . exact Y
    . have Z:i<ops.size:=by
       rcases UU i ops.size with J|J
       . exact J
       . simp [UQ J] at V
      omega
   exact mF this
 . rw [getD_set_ne false (Vc U)];exact key
theorem Cr (a6:dC ops=true) {K:Act->World->Prop} {i:Nat}:
 ∀ (fuel:Nat) (I:Array Bool) (a:Act) (w:World),I.size=ops.size->xO ops I->i∈Region.ready .any ops I->
   (∀ (oi:Oper) (j:Nat) (oj:Oper),ops[i]? =some oi->ops[j]? =some oj->I.getD j true=false->j≠i->((mT ops.toList []).getD j 0).testBit i=false->oi.apart ops oj=true/\oY P oi oj=true)->
   wH P ops i (jQ P ops K fuel (I.setIfInBounds i true)) a w->jQ P ops K (fuel+1) I a w:=by
 simp only [dC,ts] at a6;obtain ⟨a_,ac⟩:=a6;have Z:=Region.noSelect_spec a_;intro fuel
 induction fuel with
 |zero=>
  intro I a w V hs hr hp H;refine ⟨λh=> (by rw [h] at hr;cases hr),λj hj=>?_⟩;by_cases J:j=i
  . subst J;exact H
  . obtain ⟨a',w',h,_⟩:=KM H;have:=ready_mono hj J;rw [h] at this;cases this
 |succ fuel ih=>
  intro I a w V hs hr hp H;refine ⟨λh=> (by rw [h] at hr;cases hr),λj hj=>?_⟩;by_cases J:j=i
  . subst J;exact H
  . obtain ⟨ar,oi,U,a7⟩:=mem_ready.1 hr;obtain ⟨Y,oj,Q,an⟩:=mem_ready.1 hj;have bf:∀ {x:Nat} {o:Oper},ops[x]? =some o->x<I.size:=λ{x o} h=>by
     rcases UU x ops.size with h'|h'
     . omega
     . simp [UQ h'] at h
    have bc:I.getD i false=false:=by have:=bf U;simpa [this] using ar
    have bb:((mT ops.toList []).getD j 0).testBit i=false:=by
     cases hb:((mT ops.toList []).getD j 0).testBit i with
     |false=>rfl
     |true=>
      have:=mY ac hs V j oj Q (λe he a8=>an e (by simpa using he) a8) hb;rw [bc] at this;cases this
    have O:=hp oi j oj U Q Y J bb;have h1:wH P ops i (wH P ops j (jQ P ops K fuel ((I.setIfInBounds i true).setIfInBounds j true))) a w:=
     fx (λa w h=>h.2 j (ready_mono hj J)) H
    have h2:=comm U Q O.1 O.2 (λcs b=>Z i oi cs b U) (λcs b=>Z j oj cs b Q) h1;refine fx (λa' w' h3=>ih (I.setIfInBounds j true) a' w' (by simpa using V) (hs.set V hj) (ready_mono hr (Vc J)) ?_ ?_) h2
    . intro aT k ok X aa az ay aw;by_cases av:k=j
      . subst av;exact hp aT k ok X aa Y ay aw
      . rw [getD_set_ne true (Vc av)] at az;exact hp aT k ok X aa az ay aw
    . rw [X7 _ _ J];exact h3
def rF (P:Program) (ops:Array Oper) (K:Act->World->Prop):List Nat->Act->World->Prop
 | []=>K
 |i::l=>wH P ops i (rF P ops K l)
theorem tV (av:qS P ops=true) {K:Act->World->Prop}:∀ (n k:Nat) (I:Array Bool) (a:Act) (w:World),k+n=ops.size->I.size=ops.size->
 (∀j,j<ops.size->I.getD j true=decide (j<k))->rF P ops K (List.range' k n) a w->jQ P ops K n I a w
 |0,k,I,a,w,hk,ac,hl,h=>by
  refine ⟨?_,by simpa [rF] using h⟩;cases hr:Region.ready .any ops I with
  |nil=>rfl
  |cons x xs=>
   have hx:x∈Region.ready .any ops I:=by rw [hr];exact UJ ..
   obtain ⟨Q,o,ho,_⟩:=mem_ready.1 hx;have ay:x<ops.size:=by
    rcases UU x ops.size with J|J
    . exact J
    . simp [UQ J] at ho
   rw [hl x ay] at Q;simp at Q;omega
 |n+1,k,I,a,w,hk,ac,hl,h=>by
  have Z:k<ops.size:=by omega
  have X:=av;simp only [qS,dC,ts] at X;obtain ⟨⟨a6,O⟩,U⟩:=X;have ax:dC ops=true:=by simp only [dC,ts];exact ⟨a6,O⟩
  have an:∀j,j<ops.size->I.getD j false=decide (j<k):=λj hj=>by
   have:=hl j hj;have a8:j<I.size:=by omega
   simpa [a8] using this
  have below:∀j o,ops[j]? =some o->∀e∈o.after.toList,Region.binds .any e=true->e.on<j:=λj o ho e he hb=>by
   have:=(kC ops.toList 0 O j o (by simpa using ho)).2;rw [UX] at this;exact fQ _ this e he hb
  have hs:xO ops I:=by
   intro j o ho aw e he hb;have aa:j<ops.size:=by
    rcases UU j ops.size with J|J
    . exact J
    . simp [UQ J] at ho
   rw [hl j aa] at aw;have:=below j o ho e he hb;rw [an e.on (by omega)];simp at aw ⊢;omega
  have V:k∈Region.ready .any ops I:=by
   refine mem_ready.2 ⟨by rw [hl k Z];simp,ops[k],by simp [Z],λe he hb=>?_⟩;have:=below k ops[k] (by simp [Z]) e (by simpa using he) hb;rw [an e.on (by omega)];simpa using this
  refine Cr ax n I a w ac hs V ?_ ?_
  . intro oi j oj a7 ar Q Y ap;have aa:j<ops.size:=by
     rcases UU j ops.size with J|J
     . exact J
     . simp [UQ J] at ar
    have az:k<j:=by
     rw [hl j aa] at Q;simp at Q;omega
    have:=uL ops.toList 0 U k j oi oj (by simpa using a7) (by simpa using ar) az;rw [UX,UX] at this;rcases this with hb|h
    . rw [hb] at ap;cases ap
    . exact h
  rw [XL] at h;refine fx (λa' w' J=>tV av n (k+1) (I.setIfInBounds k true) a' w' (by omega) (by simpa using ac) (λj hj=>?_) J) h;by_cases Y:j=k
  . subst Y;rw [mF (by omega)];simp
  . rw [getD_set_ne true (Vc Y),hl j hj];simp;omega
theorem EX {id:Nat} {Q:Exit->Act->World->Prop} {a:Act} {w:World} (hm:P.follows .mixedOrders=true) (I:qS P ops=true)
 (h:rF P ops (λa w=>Q .normal a w) (List.range' 0 ops.size) a w.drew):(Code.region id ops true).wp P Q a w:=by
 refine wp_region_any hm (ug (K:=λa w=>Q .normal a w) (λ_ _ h=>h) _ _ _ _ ?_);exact tV I ops.size 0 _ a _ (by omega) (by simp) (λj J=>by simp [J]) h
theorem EP {Q:Exit->Act->World->Prop}:∀ (l:List Nat) (a:Act) (w:World),rF P ops (λa w=>Q .normal a w) l a w->wpOps P ops Q l a w
 | [],_,_,h=>h
 |i::l,a,w,h=>by
  rw [wpOps_cons];exact rn (fx (λa w=>EP l a w) h)
theorem Dh {id:Nat} {Q:Exit->Act->World->Prop} {a:Act} {w:World}
 (h:rF P ops (λa w=>Q .normal a w) (List.range' 0 ops.size) a w):(Code.region id ops false).wp P Q a w:=by
 refine wp_region ?_;rw [XN];exact EP _ a w h
end Go.Fw
