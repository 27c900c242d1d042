/- A statement whose order is open: the walk of the text's order, and the test that it serves. -/
import Derived.Test.YtbdghpjnifjlmaaGreatFwOrder
set_option linter.all false
namespace Go.Fw
open Go
variable{P:Program}{ops:Array Oper}
def jK(P:Program)(ops:Array Oper)(K:Act->World->Prop):Nat->Array Bool->Act->World->Prop
 |0,I,a,w=>Region.ready .any ops I= []/\K a w
 |fuel+1,I,a,w=>
  (Region.ready .any ops I= []->K a w)/\
  ∀i∈Region.ready .any ops I,xB P ops i (jK P ops K fuel (I.setIfInBounds i true)) a w
theorem rE{Q:Exit->Act->World->Prop}{i:Nat}{K:Act->World->Prop}{a:Act}{w:World}(h:xB P ops i K a w):wpOp P ops Q i K a w:=by
 unfold xB at h;unfold wpOp;split
 .rename_i O;simpa only[O]using h
 .rename_i o O;simp only[O]at h;unfold tS at h;by_cases J:Region.wanted o (yielded ops a.tmps)=true
  .rw [v8 J]at h;rw[v8 J];refine .inl ?_;unfold Oper.wp;have val:∀v w',(execOp a.eval o).run P w=.ok (.value v) w'->K (a.put o.dst v) w'->Oper.upon P o a K Q ((execOp a.eval o).run P w):=λv w' hr I=>by
    rw[hr];exact I
   match I:bF P o with
   |0=>rw[I]at h;obtain⟨v,hr,h⟩:=h;exact val v w (hr w) h
   |1=>rw[I]at h;obtain⟨v,hr,h⟩:=h;exact val v w hr h
   |_+2=>
    rw[I]at h;change lK P _ _ at h;generalize (execOp a.eval o).run P w=r at*
    cases r with
    |halt=>exact h.elim
    |ok n w'=>
     cases n<;>simp only[lK]at h<;>simp only[Oper.upon]
     case value=>exact h
     case skip=>exact h
     case enter=>exact h.mono λe U ⟨v,he,I⟩=>by subst he;exact I
  .rw [r8 J]at h;rw[r8 J];exact h
theorem uJ{Q:Exit->Act->World->Prop}{K:Act->World->Prop}(J:∀a w,K a w->Q .normal a w):∀ (fuel:Nat) (I:Array Bool) (a:Act) (w:World),
 jK P ops K fuel I a w->wpAny P .any ops Q fuel I a w
 |0,_,_,_,h=>⟨h.1,J _ _ h.2⟩
 |fuel+1,_,_,_,h=>⟨λO=>J _ _ (h.1 O),λi hi=>rE (fx (λa w=>uJ J fuel _ a w) (h.2 i hi))⟩
theorem yd(a b i:Nat):(a|||b).testBit i=(a.testBit i||b.testBit i):=Nat.testBit_or a b i
theorem uD{B:List Nat}{i:Nat}:∀ (l:List Edge),(Cw.go B l).testBit i=true->∃e∈l,Region.binds .any e=true/\(e.on=i\/(B.getD e.on 0).testBit i=true)
 | [],h=>by simp[Cw.go]at h
 |e::l,h=>by
  simp only[Cw.go]at h;cases hb:Region.binds .any e with
  |false=>
   rw[hb,J6]at h;obtain⟨J,he,h1,I⟩:=uD l h;exact⟨J,xk _ he,h1,I⟩
  |true=>
   rw[hb,I6,yd,yd,W7,W7]at h;rcases h with(h|h)|h
   .refine ⟨e,Wb ..,hb,.inl ?_⟩;rw[Nat.testBit_two_pow]at h;simpa using h
   .exact ⟨e,Wb ..,hb,.inr h⟩
   .obtain ⟨J,he,h1,I⟩:=uD l h;exact⟨J,xk _ he,h1,I⟩
theorem fQ{k:Nat}:∀ (l:List Edge),oC k l=true->∀e∈l,Region.binds .any e=true->e.on<k
 | [],_,_,he,_=>by cases he
 |e::l,h,e',he,hb=>by
  simp only[oC,ts,W7,WU]at h;cases he with
  |head=>
   rcases h.1 with h1|h1
   .rw [hb]at h1;cases h1
   .simpa using h1
  |tail _ he=>exact fQ l h.2 e' he hb
theorem kJ{B:List Nat}:∀ (l:List Oper) (k:Nat),AI B k l=true->∀j o,l[j]? =some o->B.getD (k+j) 0=Cw B o/\oC (k+j) o.after.toList=true
 | [],_,_,j,o,h=>by simp at h
 |x::l,k,h,j,o,ho=>by
  simp only[AI,ts]at h;cases j with
  |zero=>
   simp only[X3,Wu]at ho;subst ho;exact⟨V_ h.1.1,h.1.2⟩
  |succ j=>
   simp only[WV]at ho;have:=kJ l (k+1) h.2 j o ho;rw[show k+ (j+1)=k+1+j from by omega];exact this
theorem xV{x:Oper}{i:Nat}{B:List Nat}:∀ (l:List Oper) (k:Nat),D7 P ops x i B k l=true->∀j y,l[j]? =some y->
 (B.getD (k+j) 0).testBit i=true\/(x.apart ops y=true/\pG P x y=true)
 | [],_,_,j,y,h=>by simp at h
 |z::l,k,h,j,y,hy=>by
  simp only[D7,ts,W7]at h;cases j with
  |zero=>
   simp only[X3,Wu]at hy;subst hy;exact h.1
  |succ j=>
   simp only[WV]at hy;rw[show k+ (j+1)=k+1+j from by omega];exact xV l (k+1) h.2 j y hy
theorem vE{B:List Nat}:∀ (l:List Oper) (k:Nat),yP P ops B k l=true->∀i j x y,l[i]? =some x->l[j]? =some y->i<j->
 (B.getD (k+j) 0).testBit (k+i)=true\/(x.apart ops y=true/\pG P x y=true)
 | [],_,_,i,j,x,y,h,_,_=>by simp at h
 |z::l,k,h,i,j,x,y,hx,hy,hij=>by
  simp only[yP,ts]at h;cases j with
  |zero=>omega
  |succ j=>
   simp only[WV]at hy;cases i with
   |zero=>
    simp only[X3,Wu]at hx;subst hx;have:=xV l (k+1) h.1 j y hy;rw[show k+ (j+1)=k+1+j from by omega];exact this
   |succ i=>
    simp only[WV]at hx;have:=vE l (k+1) h.2 i j x y hx hy (by omega);rw[show k+ (j+1)=k+1+j from by omega,show k+ (i+1)=k+1+i from by omega];exact this
def yF(ops:Array Oper)(I:Array Bool):Prop:=∀j o,ops[j]? =some o->I.getD j true=true->∀e∈o.after.toList,Region.binds .any e=true->I.getD e.on false=true
theorem nj{B:List Nat}(hB:AI B 0 ops.toList=true){I:Array Bool}(hs:yF ops I)(ag:I.size=ops.size){i:Nat}:∀ (j:Nat) (o:Oper),ops[j]? =some o->
 (∀e∈o.after.toList,Region.binds .any e=true->I.getD e.on false=true)->(B.getD j 0).testBit i=true->I.getD i false=true:=by
 intro j
 induction j using Nat.strongRecOn with
 |_ j Z=>
  intro o Y U hb;have J:=kJ ops.toList 0 hB j o (by simpa using Y);rw[Wr]at J;rw[J.1]at hb;obtain⟨e,he,O,h⟩:=uD _ hb;have hl:=U e he O;rcases h with rfl|h
  .exact hl
  .have V:=fQ _ J.2 e he O;have aa:j<ops.size:=by
    rcases Wp j ops.size with X|X
    .exact X
    .simp [Wm X]at Y
   have Q:e.on<ops.size:=by omega
   refine Z e.on V ops[e.on] (by simp[Q]) ?_ h;refine hs e.on ops[e.on] (by simp[Q]) ?_;have:e.on<I.size:=by omega
   simpa[this]using hl
theorem mG{I:Array Bool}{i:Nat}{d:Bool}(h:i<I.size):(I.setIfInBounds i true).getD i d=true:=by
 simp[h]
theorem yF.set{I:Array Bool}(hs:yF ops I)(aa:I.size=ops.size){i:Nat}(hi:i∈Region.ready .any ops I):yF ops (I.setIfInBounds i true):=by
 obtain⟨_,oi,Q,V⟩:=mem_ready.1 hi;intro j o U hl e he hb;have key:I.getD e.on false=true:=by
  by_cases X:j=i
  .subst X;rw[Q]at U;injection U with U;subst U;exact V e (by simpa using he) hb
  .rw [getD_set_ne true (WL X)]at hl;exact hs j o U hl e he hb
 by_cases O:e.on=i
 .rw [O];have:i<I.size:=by
   rcases Wp i I.size with Y|Y
   .exact Y
   .have Z:i<ops.size:=by
     rcases Wp i ops.size with J|J
     .exact J
     .simp [Wm J]at Q
    omega
  exact mG this
 .rw [getD_set_ne false (WL O)];exact key
theorem Cy(aw:dG ops=true){K:Act->World->Prop}{i:Nat}:
 ∀ (fuel:Nat) (I:Array Bool) (a:Act) (w:World),I.size=ops.size->yF ops I->i∈Region.ready .any ops I->
   (∀ (oi:Oper) (j:Nat) (oj:Oper),ops[i]? =some oi->ops[j]? =some oj->I.getD j true=false->j≠i->((mV ops.toList []).getD j 0).testBit i=false->oi.apart ops oj=true/\pG P oi oj=true)->
   xB P ops i (jK P ops K fuel (I.setIfInBounds i true)) a w->jK P ops K (fuel+1) I a w:=by
 simp only[dG,ts]at aw;obtain⟨a7,ac⟩:=aw;have Y:=Region.noSelect_spec a7;intro fuel
 induction fuel with
 |zero=>
  intro I a w V hs hr hp H;refine⟨λh=> (by rw[h]at hr;cases hr),λj hj=>?_⟩;by_cases J:j=i
  .subst J;exact H
  .obtain ⟨a',w',h,_⟩:=LA H;have:=ready_mono hj J;rw[h]at this;cases this
 |succ fuel ih=>
  intro I a w V hs hr hp H;refine⟨λh=> (by rw[h]at hr;cases hr),λj hj=>?_⟩;by_cases J:j=i
  .subst J;exact H
  .obtain ⟨a6,oi,Q,bg⟩:=mem_ready.1 hr;obtain⟨X,oj,U,ag⟩:=mem_ready.1 hj;have a8:∀ {x:Nat} {o:Oper},ops[x]? =some o->x<I.size:=λ{x o} h=>by
    rcases Wp x ops.size with h'|h'
    .omega
    .simp [Wm h']at h
   have a_:I.getD i false=false:=by have:=a8 Q;simpa[this]using a6
   have bf:((mV ops.toList []).getD j 0).testBit i=false:=by
    cases hb:((mV ops.toList []).getD j 0).testBit i with
    |false=>rfl
    |true=>
     have:=nj ac hs V j oj U (λe he bb=>ag e (by simpa using he) bb) hb;rw[a_]at this;cases this
   have O:=hp oi j oj Q U X J bf;have h1:xB P ops i (xB P ops j (jK P ops K fuel ((I.setIfInBounds i true).setIfInBounds j true))) a w:=
    fx (λa w h=>h.2 j (ready_mono hj J)) H
   have h2:=comm Q U O.1 O.2 (λcs b=>Y i oi cs b Q) (λcs b=>Y j oj cs b U) h1;refine fx (λa' w' h3=>ih (I.setIfInBounds j true) a' w' (by simpa using V) (hs.set V hj) (ready_mono hr (WL J)) ?_ ?_) h2
   .intro ay k ok aa Z az ar av;by_cases aT:k=j
    .subst aT;exact hp ay k ok aa Z X ar av
    .rw [getD_set_ne true (WL aT)]at az;exact hp ay k ok aa Z az ar av
   .rw [Zt _ _ J];exact h3
def rS(P:Program)(ops:Array Oper)(K:Act->World->Prop):List Nat->Act->World->Prop
 | []=>K
 |i::l=>xB P ops i (rS P ops K l)
theorem uk(ar:qT P ops=true){K:Act->World->Prop}:∀ (n k:Nat) (I:Array Bool) (a:Act) (w:World),k+n=ops.size->I.size=ops.size->
 (∀j,j<ops.size->I.getD j true=decide (j<k))->rS P ops K (List.range' k n) a w->jK P ops K n I a w
 |0,k,I,a,w,hk,aa,hl,h=>by
  refine⟨?_,by simpa[rS]using h⟩;cases hr:Region.ready .any ops I with
  |nil=>rfl
  |cons x xs=>
   have hx:x∈Region.ready .any ops I:=by rw[hr];exact Wb ..
   obtain⟨Q,o,ho,_⟩:=mem_ready.1 hx;have ay:x<ops.size:=by
    rcases Wp x ops.size with J|J
    .exact J
    .simp [Wm J]at ho
   rw[hl x ay]at Q;simp at Q;omega
 |n+1,k,I,a,w,hk,aa,hl,h=>by
  have Z:k<ops.size:=by omega
  have X:=ar;simp only[qT,dG,ts]at X;obtain⟨⟨aT,O⟩,U⟩:=X;have ap:dG ops=true:=by simp only[dG,ts];exact⟨aT,O⟩
  have aw:∀j,j<ops.size->I.getD j false=decide (j<k):=λj hj=>by
   have:=hl j hj;have a8:j<I.size:=by omega
   simpa[a8]using this
  have below:∀j o,ops[j]? =some o->∀e∈o.after.toList,Region.binds .any e=true->e.on<j:=λj o ho e he hb=>by
   have:=(kJ ops.toList 0 O j o (by simpa using ho)).2;rw[Wr]at this;exact fQ _ this e he hb
  have hs:yF ops I:=by
   intro j o ho ax e he hb;have Y:j<ops.size:=by
    rcases Wp j ops.size with J|J
    .exact J
    .simp [Wm J]at ho
   rw[hl j Y]at ax;have:=below j o ho e he hb;rw[aw e.on (by omega)];simp at ax ⊢;omega
  have V:k∈Region.ready .any ops I:=by
   refine mem_ready.2 ⟨by rw[hl k Z];simp,ops[k],by simp[Z],λe he hb=>?_⟩;have:=below k ops[k] (by simp[Z]) e (by simpa using he) hb;rw[aw e.on (by omega)];simpa using this
  refine Cy ap n I a w aa hs V ?_ ?_
  .intro oi j oj az an Q ac av;have Y:j<ops.size:=by
    rcases Wp j ops.size with J|J
    .exact J
    .simp [Wm J]at an
   have a7:k<j:=by
    rw[hl j Y]at Q;simp at Q;omega
   have:=vE ops.toList 0 U k j oi oj (by simpa using az) (by simpa using an) a7;rw[Wr,Wr]at this;rcases this with hb|h
   .rw [hb]at av;cases av
   .exact h
  rw[Y']at h;refine fx (λa' w' J=>uk ar n (k+1) (I.setIfInBounds k true) a' w' (by omega) (by simpa using aa) (λj hj=>?_) J) h;by_cases ac:j=k
  .subst ac;rw[mG (by omega)];simp
  .rw [getD_set_ne true (WL ac),hl j hj];simp;omega
theorem Fy{id:Nat}{Q:Exit->Act->World->Prop}{a:Act}{w:World}(hm:P.follows .mixedOrders=true)(I:qT P ops=true)
 (h:rS P ops (λa w=>Q .normal a w) (List.range' 0 ops.size) a w.drew):(Code.region id ops true).wp P Q a w:=by
 refine wp_region_any hm (uJ (K:=λa w=>Q .normal a w) (λ_ _ h=>h) _ _ _ _ ?_);exact uk I ops.size 0 _ a _ (by omega) (by simp) (λj J=>by simp[J]) h
theorem E6{Q:Exit->Act->World->Prop}:∀ (l:List Nat) (a:Act) (w:World),rS P ops (λa w=>Q .normal a w) l a w->wpOps P ops Q l a w
 | [],_,_,h=>h
 |i::l,a,w,h=>by
  rw[wpOps_cons];exact rE (fx (λa w=>E6 l a w) h)
theorem Ds{id:Nat}{Q:Exit->Act->World->Prop}{a:Act}{w:World}
 (h:rS P ops (λa w=>Q .normal a w) (List.range' 0 ops.size) a w):(Code.region id ops false).wp P Q a w:=by
 refine wp_region ?_;rw[Za];exact E6 _ a w h
