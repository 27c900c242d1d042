/- A statement whose order is open: the walk of the text's order, and the test that it serves. -/
import Derived.Test.YtenmibfmhccmiaaGreatFwOrder
namespace Go.Fw
open Go
variable {P:Program} {ops:Array Oper}
def iE (P:Program) (ops:Array Oper) (K:Act->World->Prop):Nat->Array Bool->Act->World->Prop
 |0,I,a,w=>Region.ready .any ops I= []/\K a w
 |fuel+1,I,a,w=>
  (Region.ready .any ops I= []->K a w)/\
  ∀i∈Region.ready .any ops I,sP P ops i (iE P ops K fuel (I.setIfInBounds i true)) a w
theorem ot {Q:Exit->Act->World->Prop} {i:Nat} {K:Act->World->Prop} {a:Act} {w:World} (h:sP P ops i K a w):wpOp P ops Q i K a w:=by
 unfold sP at h;unfold wpOp;split
 . rename_i O;simpa only [O] using h
 . rename_i o O;simp only [O] at h;unfold qj at h;by_cases J:Region.wanted o (yielded ops a.tmps)=true
   . rw [if_pos J] at h;rw [if_pos J];refine .inl ?_;unfold Oper.wp;have val: ∀v w',(execOp a.eval o).run P w= .ok (.value v) w'->K (a.put o.dst v) w'->Oper.upon P o a K Q ((execOp a.eval o).run P w):=fun v w' hr I=>by
      rw [hr];exact I
     match I:aZ P o with
     |0=>rw [I] at h;obtain ⟨v,hr,h⟩:=h;exact val v w (hr w) h
     |1=>rw [I] at h;obtain ⟨v,hr,h⟩:=h;exact val v w hr h
     |_+2=>
      rw [I] at h;change jA P _ _ at h;generalize (execOp a.eval o).run P w=r at*
      cases r with
      |halt=>exact h.elim
      |ok n w'=>
       cases n<;>simp only [jA] at h<;>simp only [Oper.upon]
       case value=>exact h
       case skip=>exact h
       case enter=>exact h.mono fun e U ⟨v,he,I⟩=>by subst he;exact I
   . rw [if_neg J] at h;rw [if_neg J];exact h
theorem qC {Q:Exit->Act->World->Prop} {K:Act->World->Prop} (J: ∀a w,K a w->Q .normal a w): ∀ (fuel:Nat) (I:Array Bool) (a:Act) (w:World),
 iE P ops K fuel I a w->wpAny P .any ops Q fuel I a w
 |0,_,_,_,h=> ⟨h.1,J _ _ h.2⟩
 |fuel+1,_,_,_,h=> ⟨fun O=>J _ _ (h.1 O),fun i hi=>ot (dQ (fun a w=>qC J fuel _ a w) (h.2 i hi))⟩
theorem tA (a b i:Nat):(a|||b).testBit i=(a.testBit i||b.testBit i):=Nat.testBit_or a b i
theorem qO {B:List Nat} {i:Nat}: ∀ (l:List Edge),(yb.go B l).testBit i=true->∃e∈l,Region.binds .any e=true/\(e.on=i\/(B.getD e.on 0).testBit i=true)
 | [],h=>by simp [yb.go] at h
 |e::l,h=>by
  simp only [yb.go] at h;cases hb:Region.binds .any e with
  |false=>
   rw [hb,cond_false] at h;obtain ⟨I,he,h1,J⟩:=qO l h;exact ⟨I,List.mem_cons_of_mem _ he,h1,J⟩
  |true=>
   rw [hb,cond_true,tA,tA,Bool.or_eq_true,Bool.or_eq_true] at h;rcases h with (h|h)|h
   . refine ⟨e,List.mem_cons_self ..,hb,.inl ?_⟩;rw [Nat.testBit_two_pow] at h;simpa using h
   . exact ⟨e,List.mem_cons_self ..,hb,.inr h⟩
   . obtain ⟨I,he,h1,J⟩:=qO l h;exact ⟨I,List.mem_cons_of_mem _ he,h1,J⟩
theorem ee {k:Nat}: ∀ (l:List Edge),lE k l=true->∀e∈l,Region.binds .any e=true->e.on<k
 | [],_,_,he,_=>by cases he
 |e::l,h,e',he,hb=>by
  simp only [lE,Bool.and_eq_true,Bool.or_eq_true,Bool.not_eq_true'] at h;cases he with
  |head=>
   rcases h.1 with h1|h1
   . rw [hb] at h1;cases h1
   . simpa using h1
  |tail _ he=>exact ee l h.2 e' he hb
theorem i4 {B:List Nat}: ∀ (l:List Oper) (k:Nat),vI B k l=true->∀j o,l[j]? =some o->B.getD (k+j) 0=yb B o/\lE (k+j) o.after.toList=true
 | [],_,_,j,o,h=>by simp at h
 |x::l,k,h,j,o,ho=>by
  simp only [vI,Bool.and_eq_true] at h;cases j with
  |zero=>
   simp only [List.getElem?_cons_zero,Option.some.injEq] at ho;subst ho;exact ⟨Nat.eq_of_beq_eq_true h.1.1,h.1.2⟩
  |succ j=>
   simp only [List.getElem?_cons_succ] at ho;have:=i4 l (k+1) h.2 j o ho;rw [show k+ (j+1)=k+1+j from by omega];exact this
theorem tf {x:Oper} {i:Nat} {B:List Nat}: ∀ (l:List Oper) (k:Nat),yU P ops x i B k l=true->∀j y,l[j]? =some y->
 (B.getD (k+j) 0).testBit i=true\/(x.apart ops y=true/\md P x y=true)
 | [],_,_,j,y,h=>by simp at h
 |z::l,k,h,j,y,hy=>by
  simp only [yU,Bool.and_eq_true,Bool.or_eq_true] at h;cases j with
  |zero=>
   simp only [List.getElem?_cons_zero,Option.some.injEq] at hy;subst hy;exact h.1
  |succ j=>
   simp only [List.getElem?_cons_succ] at hy;rw [show k+ (j+1)=k+1+j from by omega];exact tf l (k+1) h.2 j y hy
theorem rY {B:List Nat}: ∀ (l:List Oper) (k:Nat),tT P ops B k l=true->∀i j x y,l[i]? =some x->l[j]? =some y->i<j->
 (B.getD (k+j) 0).testBit (k+i)=true\/(x.apart ops y=true/\md P x y=true)
 | [],_,_,i,j,x,y,h,_,_=>by simp at h
 |z::l,k,h,i,j,x,y,hx,hy,hij=>by
  simp only [tT,Bool.and_eq_true] at h;cases j with
  |zero=>omega
  |succ j=>
   simp only [List.getElem?_cons_succ] at hy;cases i with
   |zero=>
    simp only [List.getElem?_cons_zero,Option.some.injEq] at hx;subst hx;have:=tf l (k+1) h.1 j y hy;rw [show k+ (j+1)=k+1+j from by omega];exact this
   |succ i=>
    simp only [List.getElem?_cons_succ] at hx;have:=rY l (k+1) h.2 i j x y hx hy (by omega);rw [show k+ (j+1)=k+1+j from by omega,show k+ (i+1)=k+1+i from by omega];exact this
def tO (ops:Array Oper) (I:Array Bool):Prop:= ∀j o,ops[j]? =some o->I.getD j true=true->∀e∈o.after.toList,Region.binds .any e=true->I.getD e.on false=true
theorem kF {B:List Nat} (hB:vI B 0 ops.toList=true) {I:Array Bool} (hs:tO ops I) (aa:I.size=ops.size) {i:Nat}: ∀ (j:Nat) (o:Oper),ops[j]? =some o->
 (∀e∈o.after.toList,Region.binds .any e=true->I.getD e.on false=true)->(B.getD j 0).testBit i=true->I.getD i false=true:=by
 intro j
 induction j using Nat.strongRecOn with
 |_ j ih=>
  intro o Y O hb;have J:=i4 ops.toList 0 hB j o (by simpa using Y);rw [Nat.zero_add] at J;rw [J.1] at hb;obtain ⟨e,he,U,h⟩:=qO _ hb;have hl:=O e he U;rcases h with rfl|h
  . exact hl
  . have V:=ee _ J.2 e he U;have Z:j<ops.size:=by
     rcases Nat.lt_or_ge j ops.size with X|X
     . exact X
     . simp [Array.getElem?_eq_none X] at Y
    have Q:e.on<ops.size:=by omega
    refine ih e.on V ops[e.on] (by simp [Q]) ?_ h;refine hs e.on ops[e.on] (by simp [Q]) ?_;have:e.on<I.size:=by omega
    simpa [this] using hl
theorem j6 {I:Array Bool} {i:Nat} {d:Bool} (h:i<I.size):(I.setIfInBounds i true).getD i d=true:=by
 simp [h]
theorem tO.set {I:Array Bool} (hs:tO ops I) (Z:I.size=ops.size) {i:Nat} (hi:i∈Region.ready .any ops I):tO ops (I.setIfInBounds i true):=by
 obtain ⟨_,oi,X,U⟩:=mem_ready.1 hi;intro j o V hl e he hb;have key:I.getD e.on false=true:=by
  by_cases Q:j=i
  . subst Q;rw [X] at V;injection V with V;subst V;exact U e (by simpa using he) hb
  . rw [getD_set_ne true (Ne.symm Q)] at hl;exact hs j o V hl e he hb
 by_cases O:e.on=i
 . rw [O];have:i<I.size:=by
    rcases Nat.lt_or_ge i I.size with Y|Y
    . exact Y
    . have aa:i<ops.size:=by
       rcases Nat.lt_or_ge i ops.size with J|J
       . exact J
       . simp [Array.getElem?_eq_none J] at X
      omega
   exact j6 this
 . rw [getD_set_ne false (Ne.symm O)];exact key
theorem yv (ap:cP ops=true) {K:Act->World->Prop} {i:Nat}:
 ∀ (fuel:Nat) (I:Array Bool) (a:Act) (w:World),I.size=ops.size->tO ops I->i∈Region.ready .any ops I->
   (∀ (oi:Oper) (j:Nat) (oj:Oper),ops[i]? =some oi->ops[j]? =some oj->I.getD j true=false->j≠i->((kg ops.toList []).getD j 0).testBit i=false->oi.apart ops oj=true/\md P oi oj=true)->
   sP P ops i (iE P ops K fuel (I.setIfInBounds i true)) a w->iE P ops K (fuel+1) I a w:=by
 simp only [cP,Bool.and_eq_true] at ap;obtain ⟨a7,ag⟩:=ap;have aa:=Region.noSelect_spec a7;intro fuel
 induction fuel with
 |zero=>
  intro I a w U hs hr hp H;refine ⟨fun h=> (by rw [h] at hr;cases hr),fun j hj=> ?_⟩;by_cases J:j=i
  . subst J;exact H
  . obtain ⟨a',w',h,_⟩:=HK H;have:=ready_mono hj J;rw [h] at this;cases this
 |succ fuel ih=>
  intro I a w U hs hr hp H;refine ⟨fun h=> (by rw [h] at hr;cases hr),fun j hj=> ?_⟩;by_cases J:j=i
  . subst J;exact H
  . obtain ⟨av,oi,V,a8⟩:=mem_ready.1 hr;obtain ⟨X,oj,Q,ac⟩:=mem_ready.1 hj;have a_: ∀ {x:Nat} {o:Oper},ops[x]? =some o->x<I.size:=fun {x o} h=>by
     rcases Nat.lt_or_ge x ops.size with h'|h'
     . omega
     . simp [Array.getElem?_eq_none h'] at h
    have a6:I.getD i false=false:=by have:=a_ V;simpa [this] using av
    have bb:((kg ops.toList []).getD j 0).testBit i=false:=by
     cases hb:((kg ops.toList []).getD j 0).testBit i with
     |false=>rfl
     |true=>
      have:=kF ag hs U j oj Q (fun e he bc=>ac e (by simpa using he) bc) hb;rw [a6] at this;cases this
    have O:=hp oi j oj V Q X J bb;have h1:sP P ops i (sP P ops j (iE P ops K fuel ((I.setIfInBounds i true).setIfInBounds j true))) a w:=
     dQ (fun a w h=>h.2 j (ready_mono hj J)) H
    have h2:=comm V Q O.1 O.2 (fun cs b=>aa i oi cs b V) (fun cs b=>aa j oj cs b Q) h1;refine dQ (fun a' w' h3=>ih (I.setIfInBounds j true) a' w' (by simpa using U) (hs.set U hj) (ready_mono hr (Ne.symm J)) ?_ ?_) h2
    . intro ax k ok Z Y az ar ay;by_cases aw:k=j
      . subst aw;exact hp ax k ok Z Y X ar ay
      . rw [getD_set_ne true (Ne.symm aw)] at az;exact hp ax k ok Z Y az ar ay
    . rw [Array.setIfInBounds_comm _ _ J];exact h3
def oS (P:Program) (ops:Array Oper) (K:Act->World->Prop):List Nat->Act->World->Prop
 | []=>K
 |i::l=>sP P ops i (oS P ops K l)
theorem qL (ag:oH P ops=true) {K:Act->World->Prop}: ∀ (n k:Nat) (I:Array Bool) (a:Act) (w:World),k+n=ops.size->I.size=ops.size->
 (∀j,j<ops.size->I.getD j true=decide (j<k))->oS P ops K (List.range' k n) a w->iE P ops K n I a w
 |0,k,I,a,w,hk,ac,hl,h=>by
  refine ⟨?_,by simpa [oS] using h⟩;cases hr:Region.ready .any ops I with
  |nil=>rfl
  |cons x xs=>
   have hx:x∈Region.ready .any ops I:=by rw [hr];exact List.mem_cons_self ..
   obtain ⟨O,o,ho,_⟩:=mem_ready.1 hx;have aT:x<ops.size:=by
    rcases Nat.lt_or_ge x ops.size with J|J
    . exact J
    . simp [Array.getElem?_eq_none J] at ho
   rw [hl x aT] at O;simp at O;omega
 |n+1,k,I,a,w,hk,ac,hl,h=>by
  have Z:k<ops.size:=by omega
  have X:=ag;simp only [oH,cP,Bool.and_eq_true] at X;obtain ⟨⟨ay,Q⟩,U⟩:=X;have aw:cP ops=true:=by simp only [cP,Bool.and_eq_true];exact ⟨ay,Q⟩
  have ar: ∀j,j<ops.size->I.getD j false=decide (j<k):=fun j hj=>by
   have:=hl j hj;have ax:j<I.size:=by omega
   simpa [ax] using this
  have below: ∀j o,ops[j]? =some o->∀e∈o.after.toList,Region.binds .any e=true->e.on<j:=fun j o ho e he hb=>by
   have:=(i4 ops.toList 0 Q j o (by simpa using ho)).2;rw [Nat.zero_add] at this;exact ee _ this e he hb
  have hs:tO ops I:=by
   intro j o ho ap e he hb;have aa:j<ops.size:=by
    rcases Nat.lt_or_ge j ops.size with J|J
    . exact J
    . simp [Array.getElem?_eq_none J] at ho
   rw [hl j aa] at ap;have:=below j o ho e he hb;rw [ar e.on (by omega)];simp at ap ⊢;omega
  have V:k∈Region.ready .any ops I:=by
   refine mem_ready.2 ⟨by rw [hl k Z];simp,ops[k],by simp [Z],fun e he hb=> ?_⟩;have:=below k ops[k] (by simp [Z]) e (by simpa using he) hb;rw [ar e.on (by omega)];simpa using this
  refine yv aw n I a w ac hs V ?_ ?_
  . intro oi j oj a6 an O Y av;have aa:j<ops.size:=by
     rcases Nat.lt_or_ge j ops.size with J|J
     . exact J
     . simp [Array.getElem?_eq_none J] at an
    have az:k<j:=by
     rw [hl j aa] at O;simp at O;omega
    have:=rY ops.toList 0 U k j oi oj (by simpa using a6) (by simpa using an) az;rw [Nat.zero_add,Nat.zero_add] at this;rcases this with hb|h
    . rw [hb] at av;cases av
    . exact h
  rw [List.range'_succ] at h;refine dQ (fun a' w' J=>qL ag n (k+1) (I.setIfInBounds k true) a' w' (by omega) (by simpa using ac) (fun j hj=> ?_) J) h;by_cases Y:j=k
  . subst Y;rw [j6 (by omega)];simp
  . rw [getD_set_ne true (Ne.symm Y),hl j hj];simp;omega
theorem AK {id:Nat} {Q:Exit->Act->World->Prop} {a:Act} {w:World} (hm:P.follows .mixedOrders=true) (I:oH P ops=true)
 (h:oS P ops (fun a w=>Q .normal a w) (List.range' 0 ops.size) a w.drew):(Code.region id ops true).wp P Q a w:=by
 refine wp_region_any hm (qC (K:=fun a w=>Q .normal a w) (fun _ _ h=>h) _ _ _ _ ?_);exact qL I ops.size 0 _ a _ (by omega) (by simp) (fun j J=>by simp [J]) h
theorem Ar {Q:Exit->Act->World->Prop}: ∀ (l:List Nat) (a:Act) (w:World),oS P ops (fun a w=>Q .normal a w) l a w->wpOps P ops Q l a w
 | [],_,_,h=>h
 |i::l,a,w,h=>by
  rw [wpOps_cons];exact ot (dQ (fun a w=>Ar l a w) h)
theorem zo {id:Nat} {Q:Exit->Act->World->Prop} {a:Act} {w:World}
 (h:oS P ops (fun a w=>Q .normal a w) (List.range' 0 ops.size) a w):(Code.region id ops false).wp P Q a w:=by
 refine wp_region ?_;rw [List.range_eq_range'];exact Ar _ a w h
end Go.Fw
