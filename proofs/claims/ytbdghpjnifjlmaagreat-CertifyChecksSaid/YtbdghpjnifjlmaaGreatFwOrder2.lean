/- A statement whose order is open: the walk of the text's order, and the test that it serves. -/
import Derived.Test.YtbdghpjnifjlmaaGreatFwOrder
namespace Go.Fw
open Go
variable {P:Program} {ops:Array Oper}
def wpAnyE (P:Program) (ops:Array Oper) (K:Act→World→Prop):Nat→Array Bool→Act→World→Prop
 |0,listed,a,w=>Region.ready .any ops listed= []∧K a w
 |fuel+1,listed,a,w=>
  (Region.ready .any ops listed= []→K a w)∧
  ∀i∈Region.ready .any ops listed,wpE P ops i (wpAnyE P ops K fuel (listed.setIfInBounds i true)) a w
theorem wpOp_of_evid {Q:Exit→Act→World→Prop} {i:Nat} {K:Act→World→Prop} {a:Act} {w:World} (h:wpE P ops i K a w):wpOp P ops Q i K a w:=by
 unfold wpE at h
 unfold wpOp
 split
 · rename_i ho;simpa only [ho] using h
 · rename_i o ho
   simp only [ho] at h
   unfold sev at h
   by_cases hw:Region.wanted o (yielded ops a.tmps)=true
   · rw [if_pos hw] at h
     rw [if_pos hw]
     refine .inl ?_
     unfold Oper.wp
     have val: ∀v w',(execOp a.eval o).run P w= .ok (.value v) w'→K (a.put o.dst v) w'→Oper.upon P o a K Q ((execOp a.eval o).run P w):=fun v w' hr hk=>by
      rw [hr];exact hk
     match hk:opKind P o with
     |0=>rw [hk] at h;obtain ⟨v,hr,h⟩:=h;exact val v w (hr w) h
     |1=>rw [hk] at h;obtain ⟨v,hr,h⟩:=h;exact val v w hr h
     |_+2=>
      rw [hk] at h
      change uponK P _ _ at h
      generalize (execOp a.eval o).run P w=r at*
      cases r with
      |halt=>exact h.elim
      |ok n w'=>
       cases n<;>simp only [uponK] at h<;>simp only [Oper.upon]
       case value=>exact h
       case skip=>exact h
       case enter=>exact h.mono fun e w'' ⟨v,he,hk⟩=>by subst he;exact hk
   · rw [if_neg hw] at h
     rw [if_neg hw]
     exact h
theorem wpAny_of_E {Q:Exit→Act→World→Prop} {K:Act→World→Prop} (hQ: ∀a w,K a w→Q .normal a w): ∀ (fuel:Nat) (listed:Array Bool) (a:Act) (w:World),
 wpAnyE P ops K fuel listed a w→wpAny P .any ops Q fuel listed a w
 |0,_,_,_,h=> ⟨h.1,hQ _ _ h.2⟩
 |fuel+1,_,_,_,h=> ⟨fun h0=>hQ _ _ (h.1 h0),fun i hi=>wpOp_of_evid (wpE_mono (fun a w=>wpAny_of_E hQ fuel _ a w) (h.2 i hi))⟩
theorem testBit_or' (a b i:Nat):(a|||b).testBit i=(a.testBit i||b.testBit i):=Nat.testBit_or a b i
theorem hangs_spec {B:List Nat} {i:Nat}: ∀ (l:List Edge),(hangs.go B l).testBit i=true→∃e∈l,Region.binds .any e=true∧(e.on=i∨(B.getD e.on 0).testBit i=true)
 | [],h=>by simp [hangs.go] at h
 |e::l,h=>by
  simp only [hangs.go] at h
  cases hb:Region.binds .any e with
  |false=>
   rw [hb,cond_false] at h
   obtain ⟨e',he,h1,h2⟩:=hangs_spec l h
   exact ⟨e',List.mem_cons_of_mem _ he,h1,h2⟩
  |true=>
   rw [hb,cond_true,testBit_or',testBit_or',Bool.or_eq_true,Bool.or_eq_true] at h
   rcases h with (h|h)|h
   · refine ⟨e,List.mem_cons_self ..,hb,.inl ?_⟩
     rw [Nat.testBit_two_pow] at h
     simpa using h
   · exact ⟨e,List.mem_cons_self ..,hb,.inr h⟩
   · obtain ⟨e',he,h1,h2⟩:=hangs_spec l h
     exact ⟨e',List.mem_cons_of_mem _ he,h1,h2⟩
theorem edgesBelow_spec {k:Nat}: ∀ (l:List Edge),edgesBelow k l=true→∀e∈l,Region.binds .any e=true→e.on<k
 | [],_,_,he,_=>by cases he
 |e::l,h,e',he,hb=>by
  simp only [edgesBelow,Bool.and_eq_true,Bool.or_eq_true,Bool.not_eq_true'] at h
  cases he with
  |head=>
   rcases h.1 with h1|h1
   · rw [hb] at h1;cases h1
   · simpa using h1
  |tail _ he=>exact edgesBelow_spec l h.2 e' he hb
theorem rowsOk_spec {B:List Nat}: ∀ (l:List Oper) (k:Nat),rowsOk B k l=true→∀j o,l[j]? =some o→B.getD (k+j) 0=hangs B o∧edgesBelow (k+j) o.after.toList=true
 | [],_,_,j,o,h=>by simp at h
 |x::l,k,h,j,o,ho=>by
  simp only [rowsOk,Bool.and_eq_true] at h
  cases j with
  |zero=>
   simp only [List.getElem?_cons_zero,Option.some.injEq] at ho
   subst ho
   exact ⟨Nat.eq_of_beq_eq_true h.1.1,h.1.2⟩
  |succ j=>
   simp only [List.getElem?_cons_succ] at ho
   have:=rowsOk_spec l (k+1) h.2 j o ho
   rw [show k+ (j+1)=k+1+j from by omega]
   exact this
theorem pairOk_spec {x:Oper} {i:Nat} {B:List Nat}: ∀ (l:List Oper) (k:Nat),pairOk P ops x i B k l=true→∀j y,l[j]? =some y→
 (B.getD (k+j) 0).testBit i=true∨(x.apart ops y=true∧kindsOk P x y=true)
 | [],_,_,j,y,h=>by simp at h
 |z::l,k,h,j,y,hy=>by
  simp only [pairOk,Bool.and_eq_true,Bool.or_eq_true] at h
  cases j with
  |zero=>
   simp only [List.getElem?_cons_zero,Option.some.injEq] at hy
   subst hy
   exact h.1
  |succ j=>
   simp only [List.getElem?_cons_succ] at hy
   rw [show k+ (j+1)=k+1+j from by omega]
   exact pairOk_spec l (k+1) h.2 j y hy
theorem pairsOk_spec {B:List Nat}: ∀ (l:List Oper) (k:Nat),pairsOk P ops B k l=true→∀i j x y,l[i]? =some x→l[j]? =some y→i<j→
 (B.getD (k+j) 0).testBit (k+i)=true∨(x.apart ops y=true∧kindsOk P x y=true)
 | [],_,_,i,j,x,y,h,_,_=>by simp at h
 |z::l,k,h,i,j,x,y,hx,hy,hij=>by
  simp only [pairsOk,Bool.and_eq_true] at h
  cases j with
  |zero=>omega
  |succ j=>
   simp only [List.getElem?_cons_succ] at hy
   cases i with
   |zero=>
    simp only [List.getElem?_cons_zero,Option.some.injEq] at hx
    subst hx
    have:=pairOk_spec l (k+1) h.1 j y hy
    rw [show k+ (j+1)=k+1+j from by omega]
    exact this
   |succ i=>
    simp only [List.getElem?_cons_succ] at hx
    have:=pairsOk_spec l (k+1) h.2 i j x y hx hy (by omega)
    rw [show k+ (j+1)=k+1+j from by omega,show k+ (i+1)=k+1+i from by omega]
    exact this
def Shut (ops:Array Oper) (listed:Array Bool):Prop:= ∀j o,ops[j]? =some o→listed.getD j true=true→∀e∈o.after.toList,Region.binds .any e=true→listed.getD e.on false=true
theorem listed_of_hangs {B:List Nat} (hB:rowsOk B 0 ops.toList=true) {listed:Array Bool} (hs:Shut ops listed) (hsz:listed.size=ops.size) {i:Nat}: ∀ (j:Nat) (o:Oper),ops[j]? =some o→
 (∀e∈o.after.toList,Region.binds .any e=true→listed.getD e.on false=true)→(B.getD j 0).testBit i=true→listed.getD i false=true:=by
 intro j
 induction j using Nat.strongRecOn with
 |_ j ih=>
  intro o ho hall hb
  have hrow:=rowsOk_spec ops.toList 0 hB j o (by simpa using ho)
  rw [Nat.zero_add] at hrow
  rw [hrow.1] at hb
  obtain ⟨e,he,hbe,h⟩:=hangs_spec _ hb
  have hl:=hall e he hbe
  rcases h with rfl|h
  · exact hl
  · have hlt:=edgesBelow_spec _ hrow.2 e he hbe
    have hjs:j<ops.size:=by
     rcases Nat.lt_or_ge j ops.size with h'|h'
     · exact h'
     · simp [Array.getElem?_eq_none h'] at ho
    have hon:e.on<ops.size:=by omega
    refine ih e.on hlt ops[e.on] (by simp [hon]) ?_ h
    refine hs e.on ops[e.on] (by simp [hon]) ?_
    have:e.on<listed.size:=by omega
    simpa [this] using hl
theorem getD_set_same {listed:Array Bool} {i:Nat} {d:Bool} (h:i<listed.size):(listed.setIfInBounds i true).getD i d=true:=by
 simp [h]
theorem Shut.set {listed:Array Bool} (hs:Shut ops listed) (hsz:listed.size=ops.size) {i:Nat} (hi:i∈Region.ready .any ops listed):Shut ops (listed.setIfInBounds i true):=by
 obtain ⟨_,oi,hoi,hall⟩:=mem_ready.1 hi
 intro j o ho hl e he hb
 have key:listed.getD e.on false=true:=by
  by_cases hji:j=i
  · subst hji
    rw [hoi] at ho
    injection ho with ho
    subst ho
    exact hall e (by simpa using he) hb
  · rw [getD_set_ne true (Ne.symm hji)] at hl
    exact hs j o ho hl e he hb
 by_cases hei:e.on=i
 · rw [hei]
   have:i<listed.size:=by
    rcases Nat.lt_or_ge i listed.size with h'|h'
    · exact h'
    · have hio:i<ops.size:=by
       rcases Nat.lt_or_ge i ops.size with h''|h''
       · exact h''
       · simp [Array.getElem?_eq_none h''] at hoi
      omega
   exact getD_set_same this
 · rw [getD_set_ne false (Ne.symm hei)]
   exact key
theorem any_first (hok:tableOk ops=true) {K:Act→World→Prop} {i:Nat}:
 ∀ (fuel:Nat) (listed:Array Bool) (a:Act) (w:World),listed.size=ops.size→Shut ops listed→i∈Region.ready .any ops listed→
   (∀ (oi:Oper) (j:Nat) (oj:Oper),ops[i]? =some oi→ops[j]? =some oj→listed.getD j true=false→j≠i→((table ops.toList []).getD j 0).testBit i=false→oi.apart ops oj=true∧kindsOk P oi oj=true)→
   wpE P ops i (wpAnyE P ops K fuel (listed.setIfInBounds i true)) a w→wpAnyE P ops K (fuel+1) listed a w:=by
 simp only [tableOk,Bool.and_eq_true] at hok
 obtain ⟨hns,hrows⟩:=hok
 have hsel:=Region.noSelect_spec hns
 intro fuel
 induction fuel with
 |zero=>
  intro listed a w hsz hs hr hp H
  refine ⟨fun h=> (by rw [h] at hr;cases hr),fun j hj=> ?_⟩
  by_cases hji:j=i
  · subst hji;exact H
  · obtain ⟨a',w',h,_⟩:=wpE_some H
    have:=ready_mono hj hji
    rw [h] at this
    cases this
 |succ fuel ih=>
  intro listed a w hsz hs hr hp H
  refine ⟨fun h=> (by rw [h] at hr;cases hr),fun j hj=> ?_⟩
  by_cases hji:j=i
  · subst hji;exact H
  · obtain ⟨hiun,oi,hoi,hiall⟩:=mem_ready.1 hr
    obtain ⟨hjun,oj,hoj,hjall⟩:=mem_ready.1 hj
    have hlt: ∀ {x:Nat} {o:Oper},ops[x]? =some o→x<listed.size:=fun {x o} h=>by
     rcases Nat.lt_or_ge x ops.size with h'|h'
     · omega
     · simp [Array.getElem?_eq_none h'] at h
    have hi':listed.getD i false=false:=by have:=hlt hoi;simpa [this] using hiun
    have hnb:((table ops.toList []).getD j 0).testBit i=false:=by
     cases hb:((table ops.toList []).getD j 0).testBit i with
     |false=>rfl
     |true=>
      have:=listed_of_hangs hrows hs hsz j oj hoj (fun e he hb'=>hjall e (by simpa using he) hb') hb
      rw [hi'] at this;cases this
    have hpair:=hp oi j oj hoi hoj hjun hji hnb
    have h1:wpE P ops i (wpE P ops j (wpAnyE P ops K fuel ((listed.setIfInBounds i true).setIfInBounds j true))) a w:=
     wpE_mono (fun a w h=>h.2 j (ready_mono hj hji)) H
    have h2:=comm hoi hoj hpair.1 hpair.2 (fun cs b=>hsel i oi cs b hoi) (fun cs b=>hsel j oj cs b hoj) h1
    refine wpE_mono (fun a' w' h3=>ih (listed.setIfInBounds j true) a' w' (by simpa using hsz) (hs.set hsz hj) (ready_mono hr (Ne.symm hji)) ?_ ?_) h2
    · intro oi' k ok hoi' hok' hun hki hnk
      by_cases hkj:k=j
      · subst hkj
        exact hp oi' k ok hoi' hok' hjun hki hnk
      · rw [getD_set_ne true (Ne.symm hkj)] at hun
        exact hp oi' k ok hoi' hok' hun hki hnk
    · rw [Array.setIfInBounds_comm _ _ hji]
      exact h3
def lexE (P:Program) (ops:Array Oper) (K:Act→World→Prop):List Nat→Act→World→Prop
 | []=>K
 |i::l=>wpE P ops i (lexE P ops K l)
theorem any_of_lex (hok:orderOk P ops=true) {K:Act→World→Prop}: ∀ (n k:Nat) (listed:Array Bool) (a:Act) (w:World),k+n=ops.size→listed.size=ops.size→
 (∀j,j<ops.size→listed.getD j true=decide (j<k))→lexE P ops K (List.range' k n) a w→wpAnyE P ops K n listed a w
 |0,k,listed,a,w,hk,hsz,hl,h=>by
  refine ⟨?_,by simpa [lexE] using h⟩
  cases hr:Region.ready .any ops listed with
  |nil=>rfl
  |cons x xs=>
   have hx:x∈Region.ready .any ops listed:=by rw [hr];exact List.mem_cons_self ..
   obtain ⟨hun,o,ho,_⟩:=mem_ready.1 hx
   have hxs:x<ops.size:=by
    rcases Nat.lt_or_ge x ops.size with h'|h'
    · exact h'
    · simp [Array.getElem?_eq_none h'] at ho
   rw [hl x hxs] at hun
   simp at hun
   omega
 |n+1,k,listed,a,w,hk,hsz,hl,h=>by
  have hks:k<ops.size:=by omega
  have hok':=hok
  simp only [orderOk,tableOk,Bool.and_eq_true] at hok'
  obtain ⟨⟨hns,hrows⟩,hpairs⟩:=hok'
  have htab:tableOk ops=true:=by simp only [tableOk,Bool.and_eq_true];exact ⟨hns,hrows⟩
  have hlf: ∀j,j<ops.size→listed.getD j false=decide (j<k):=fun j hj=>by
   have:=hl j hj
   have hjl:j<listed.size:=by omega
   simpa [hjl] using this
  have below: ∀j o,ops[j]? =some o→∀e∈o.after.toList,Region.binds .any e=true→e.on<j:=fun j o ho e he hb=>by
   have:=(rowsOk_spec ops.toList 0 hrows j o (by simpa using ho)).2
   rw [Nat.zero_add] at this
   exact edgesBelow_spec _ this e he hb
  have hs:Shut ops listed:=by
   intro j o ho hlj e he hb
   have hjs:j<ops.size:=by
    rcases Nat.lt_or_ge j ops.size with h'|h'
    · exact h'
    · simp [Array.getElem?_eq_none h'] at ho
   rw [hl j hjs] at hlj
   have:=below j o ho e he hb
   rw [hlf e.on (by omega)]
   simp at hlj ⊢
   omega
  have hready:k∈Region.ready .any ops listed:=by
   refine mem_ready.2 ⟨by rw [hl k hks];simp,ops[k],by simp [hks],fun e he hb=> ?_⟩
   have:=below k ops[k] (by simp [hks]) e (by simpa using he) hb
   rw [hlf e.on (by omega)]
   simpa using this
  refine any_first htab n listed a w hsz hs hready ?_ ?_
  · intro oi j oj hoi hoj hun hjk hnb
    have hjs:j<ops.size:=by
     rcases Nat.lt_or_ge j ops.size with h'|h'
     · exact h'
     · simp [Array.getElem?_eq_none h'] at hoj
    have hkj:k<j:=by
     rw [hl j hjs] at hun
     simp at hun
     omega
    have:=pairsOk_spec ops.toList 0 hpairs k j oi oj (by simpa using hoi) (by simpa using hoj) hkj
    rw [Nat.zero_add,Nat.zero_add] at this
    rcases this with hb|h
    · rw [hb] at hnb;cases hnb
    · exact h
  rw [List.range'_succ] at h
  refine wpE_mono (fun a' w' h'=>any_of_lex hok n (k+1) (listed.setIfInBounds k true) a' w' (by omega) (by simpa using hsz) (fun j hj=> ?_) h') h
  by_cases hjk:j=k
  · subst hjk
    rw [getD_set_same (by omega)]
    simp
  · rw [getD_set_ne true (Ne.symm hjk),hl j hj]
    simp
    omega
theorem region_draw {id:Nat} {Q:Exit→Act→World→Prop} {a:Act} {w:World} (hm:P.follows .mixedOrders=true) (hok:orderOk P ops=true)
 (h:lexE P ops (fun a w=>Q .normal a w) (List.range' 0 ops.size) a w.drew):(Code.region id ops true).wp P Q a w:=by
 refine wp_region_any hm (wpAny_of_E (K:=fun a w=>Q .normal a w) (fun _ _ h=>h) _ _ _ _ ?_)
 exact any_of_lex hok ops.size 0 _ a _ (by omega) (by simp) (fun j hj=>by simp [hj]) h
theorem lexE_ops {Q:Exit→Act→World→Prop}: ∀ (l:List Nat) (a:Act) (w:World),lexE P ops (fun a w=>Q .normal a w) l a w→wpOps P ops Q l a w
 | [],_,_,h=>h
 |i::l,a,w,h=>by
  rw [wpOps_cons]
  exact wpOp_of_evid (wpE_mono (fun a w=>lexE_ops l a w) h)
theorem region_plain {id:Nat} {Q:Exit→Act→World→Prop} {a:Act} {w:World}
 (h:lexE P ops (fun a w=>Q .normal a w) (List.range' 0 ops.size) a w):(Code.region id ops false).wp P Q a w:=by
 refine wp_region ?_
 rw [List.range_eq_range']
 exact lexE_ops _ a w h
end Go.Fw
