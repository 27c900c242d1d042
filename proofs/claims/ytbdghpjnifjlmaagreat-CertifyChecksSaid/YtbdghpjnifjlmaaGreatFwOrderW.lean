/- A statement whose order is open, where reads hold in all worlds of a kind: only the orders of acts count. -/
import Derived.Test.YtbdghpjnifjlmaaGreatFwOrder2
namespace Go.Fw
open Go
variable {P:Program} {ops:Array Oper} {W:World→Prop} {B:List Nat}
def evidW (P:Program) (W:World→Prop) (keep:Bool) (k:Nat) (s:Sem Next) (w:World) (K:Value→World→Prop):Prop:=
 match k with
 |0=> ∃v,(∀u,s.run P u= .ok (.value v) u)∧K v w
 |1=> ∃v,(∀u,W u→s.run P u= .ok (.value v) u)∧K v w
 |_+2=>uponK P (fun v w'=> (keep=true→W w')∧K v w') (s.run P w)
theorem evidW_mono {keep:Bool} {k:Nat} {s:Sem Next} {w:World} {K K':Value→World→Prop} (h: ∀v w,K v w→K' v w) (hh:evidW P W keep k s w K):evidW P W keep k s w K':=by
 match k with
 |0=>obtain ⟨v,h1,h2⟩:=hh;exact ⟨v,h1,h _ _ h2⟩
 |1=>obtain ⟨v,h1,h2⟩:=hh;exact ⟨v,h1,h _ _ h2⟩
 |_+2=>exact uponK_mono (fun v w' ⟨a,b⟩=> ⟨a,h _ _ b⟩) hh
def sevW (P:Program) (ops:Array Oper) (W:World→Prop) (keep:Bool) (o:Oper) (a:Act) (w:World) (K:Value→World→Prop):Prop:=
 if Region.wanted o (yielded ops a.tmps)=true then evidW P W keep (opKind P o) (execOp a.eval o) w K else K undef w
theorem sevW_of {keep:Bool} {o:Oper} {a:Act} {w:World} {K:Value→World→Prop} (hw:Region.wanted o (yielded ops a.tmps)=true) (h:evidW P W keep (opKind P o) (execOp a.eval o) w K):sevW P ops W keep o a w K:=by
 unfold sevW
 rw [if_pos hw]
 exact h
theorem sevW_mono {keep:Bool} {o:Oper} {a:Act} {w:World} {K K':Value→World→Prop} (h: ∀v w,K v w→K' v w) (hh:sevW P ops W keep o a w K):sevW P ops W keep o a w K':=by
 unfold sevW at*
 split
 · rename_i hw;rw [if_pos hw] at hh;exact evidW_mono h hh
 · rename_i hw;rw [if_neg hw] at hh;exact h _ _ hh
def StillAt (P:Program) (ops:Array Oper) (W:World→Prop) (o:Oper) (a:Act) (v:Value):Prop:=
 (Region.wanted o (yielded ops a.tmps)=true∧opKind P o≤1∧∀u,(opKind P o=1→W u)→(execOp a.eval o).run P u= .ok (.value v) u)∨
 (Region.wanted o (yielded ops a.tmps)=false∧v=undef)
theorem StillAt.one (hne: ∃u,W u) {o:Oper} {a:Act} {u v:Value} (h:StillAt P ops W o a u) (g:StillAt P ops W o a v):u=v:=by
 obtain ⟨w0,hw0⟩:=hne
 rcases h with ⟨h1,h2,h3⟩| ⟨h1,h2⟩<;>rcases g with ⟨g1,g2,g3⟩| ⟨g1,g2⟩
 · have:=(h3 w0 fun _=>hw0).symm.trans (g3 w0 fun _=>hw0)
   injection this with this
   injection this
 · rw [h1] at g1;cases g1
 · rw [h1] at g1;cases g1
 · rw [h2,g2]
theorem StillAt.sev {keep:Bool} {o:Oper} {a:Act} {v:Value} {w:World} {K:Value→World→Prop} (h:StillAt P ops W o a v) (hk:K v w):sevW P ops W keep o a w K:=by
 unfold sevW
 rcases h with ⟨h1,h2,h3⟩| ⟨h1,rfl⟩
 · rw [if_pos h1]
   match hq:opKind P o with
   |0=>exact ⟨v,fun u=>h3 u (fun he=>by rw [hq] at he;cases he),hk⟩
   |1=>exact ⟨v,fun u hu=>h3 u (fun _=>hu),hk⟩
   |n+2=>omega
 · rw [if_neg (by simp [h1])];exact hk
theorem StillAt.of_same {o:Oper} {v:Value} {a a':Act} (hy:StillAt P ops W o a v) (he:execOp a'.eval o=execOp a.eval o)
 (hw:Region.wanted o (yielded ops a'.tmps)=Region.wanted o (yielded ops a.tmps)):StillAt P ops W o a' v:=by
 unfold StillAt at*
 rw [he,hw]
 exact hy
theorem sevW_cases {keep:Bool} {o:Oper} {a:Act} {w:World} {K:Value→World→Prop} (h:sevW P ops W keep o a w K):
 (∃v,StillAt P ops W o a v∧K v w)∨
 (Region.wanted o (yielded ops a.tmps)=true∧2≤opKind P o∧uponK P (fun v w'=> (keep=true→W w')∧K v w') ((execOp a.eval o).run P w)):=by
 unfold sevW at h
 by_cases hw:Region.wanted o (yielded ops a.tmps)=true
 · rw [if_pos hw] at h
   match hk:opKind P o with
   |0=>rw [hk] at h;obtain ⟨v,h1,h2⟩:=h;exact .inl ⟨v,.inl ⟨hw,by omega,fun u _=>h1 u⟩,h2⟩
   |1=>rw [hk] at h;obtain ⟨v,h1,h2⟩:=h;exact .inl ⟨v,.inl ⟨hw,by omega,fun u hu=>h1 u (hu hk)⟩,h2⟩
   |k+2=>rw [hk] at h;exact .inr ⟨hw,by omega,h⟩
 · rw [if_neg hw] at h
   exact .inl ⟨undef,.inr ⟨by simpa using hw,rfl⟩,h⟩
theorem sevW_some {keep:Bool} {o:Oper} {a:Act} {w:World} {K:Value→World→Prop} (h:sevW P ops W keep o a w K): ∃v w,K v w:=by
 rcases sevW_cases h with ⟨v,_,h⟩| ⟨_,_,h⟩
 · exact ⟨_,_,h⟩
 · obtain ⟨v,w,_,h⟩:=uponK_some h;exact ⟨v,w,h⟩
def wpEW (P:Program) (ops:Array Oper) (W:World→Prop) (B:List Nat) (i:Nat) (K:Act→World→Prop) (a:Act) (w:World):Prop:=
 match ops[i]? with
 |none=>K a w
 |some o=>sevW P ops W (keepB P ops B i) o a w fun v w'=>K (a.put o.dst v) w'
theorem wpEW_mono {i:Nat} {K K':Act→World→Prop} {a:Act} {w:World} (h: ∀a w,K a w→K' a w) (hh:wpEW P ops W B i K a w):wpEW P ops W B i K' a w:=by
 unfold wpEW at*
 split
 · rename_i ho;rw [ho] at hh;exact h _ _ hh
 · rename_i o ho;rw [ho] at hh;exact sevW_mono (fun v w=>h _ _) hh
theorem wpEW_some {i:Nat} {K:Act→World→Prop} {a:Act} {w:World} (hh:wpEW P ops W B i K a w): ∃a' w',K a' w':=by
 unfold wpEW at hh
 split at hh
 · exact ⟨_,_,hh⟩
 · obtain ⟨v,w,h⟩:=sevW_some hh;exact ⟨_,_,h⟩
theorem commW (hne: ∃u,W u) {i j:Nat} {oi oj:Oper} (hi:ops[i]? =some oi) (hj:ops[j]? =some oj) (hap:oi.apart ops oj=true) (hk:kindsOkW P oi oj=true)
 (hsi: ∀cs b,oi.op≠ .select cs b) (hsj: ∀cs b,oj.op≠ .select cs b) {K:Act→World→Prop} {a:Act} {w:World}
 (h:wpEW P ops W B i (wpEW P ops W B j K) a w):wpEW P ops W B j (wpEW P ops W B i K) a w:=by
 obtain ⟨h1,h2,h3⟩:=Oper.apart_spec hap
 have ei: ∀ (a:Act) u,execOp (a.put oj.dst u).eval oi=execOp a.eval oi:=fun a u=>execOp_put oi hsi a oj.dst u h3
 have ej: ∀ (a:Act) u,execOp (a.put oi.dst u).eval oj=execOp a.eval oj:=fun a u=>execOp_put oj hsj a oi.dst u h1
 have wi: ∀ (a:Act) u,Region.wanted oi (yielded ops (a.put oj.dst u).tmps)=Region.wanted oi (yielded ops a.tmps):=fun a u=>wanted_put oi a oj.dst u h3
 have wj: ∀ (a:Act) u,Region.wanted oj (yielded ops (a.put oi.dst u).tmps)=Region.wanted oj (yielded ops a.tmps):=fun a u=>wanted_put oj a oi.dst u h1
 have cm: ∀ (v u:Value),(a.put oi.dst v).put oj.dst u=(a.put oj.dst u).put oi.dst v:=fun v u=>Act.put_comm a v u h2
 unfold wpEW at*
 simp only [hi,hj] at*
 have jback: ∀ {kp:Bool} {v:Value} {w:World} {L:Value→World→Prop},sevW P ops W kp oj (a.put oi.dst v) w L→sevW P ops W kp oj a w L:=by
  intro kp v w L hh
  unfold sevW at*
  rw [ej,wj] at hh
  exact hh
 have iforth: ∀ {kp:Bool} {u:Value} {w:World} {L:Value→World→Prop},sevW P ops W kp oi a w L→sevW P ops W kp oi (a.put oj.dst u) w L:=by
  intro kp u w L hh
  unfold sevW at*
  rw [ei,wi]
  exact hh
 rcases sevW_cases h with ⟨v,hp,hK⟩| ⟨hwi,hki,hU⟩
 ·
  refine sevW_mono (fun u w' hk=> ?_) (jback hK)
  refine (hp.of_same (ei a u) (wi a u)).sev ?_
  rw [← cm]
  exact hk
 ·
  have jstill: ∀ {v:Value} {w:World} {kp:Bool} {L:Value→World→Prop},sevW P ops W kp oj (a.put oi.dst v) w L→∃u,StillAt P ops W oj a u∧L u w:=by
   intro v w kp L hh
   rcases sevW_cases hh with ⟨u,hpj,hL⟩| ⟨hwj,hkj,_⟩
   · exact ⟨u,hpj.of_same (ej a v).symm (wj a v).symm,hL⟩
   · exfalso
     simp only [kindsOkW,Bool.or_eq_true,Nat.ble_eq] at hk
     omega
  obtain ⟨v0,w0,_,hh0⟩:=uponK_some hU
  obtain ⟨u0,hp0,_⟩:=jstill hh0
  refine hp0.sev ?_
  refine iforth ?_
  unfold sevW
  rw [if_pos hwi]
  have hgoal:uponK P (fun v w'=> (keepB P ops B i=true→W w')∧K ((a.put oj.dst u0).put oi.dst v) w') ((execOp a.eval oi).run P w):=by
   refine uponK_mono (fun v w' hh=> ?_) hU
   obtain ⟨u,hp,hK⟩:=jstill hh.2
   rw [← hp0.one hne hp,cm] at hK
   exact ⟨hh.1,hK⟩
  match hq:opKind P oi with
  |0=>omega
  |1=>omega
  |_+2=>exact hgoal
def wpAnyW (P:Program) (ops:Array Oper) (W:World→Prop) (B:List Nat) (K:Act→World→Prop):Nat→Array Bool→Act→World→Prop
 |0,listed,a,w=>Region.ready .any ops listed= []∧K a w
 |fuel+1,listed,a,w=>
  (Region.ready .any ops listed= []→K a w)∧
  ∀i∈Region.ready .any ops listed,wpEW P ops W B i (wpAnyW P ops W B K fuel (listed.setIfInBounds i true)) a w
theorem wpEW_E {i:Nat} {o:Oper} (ho:ops[i]? =some o) {K:Act→World→Prop} {a:Act} {w:World} (hW:opKind P o=1→W w) (h:wpEW P ops W B i K a w):
 wpE P ops i (fun a' w'=> (w'=w∨(2≤opKind P o∧(keepB P ops B i=true→W w')))∧K a' w') a w:=by
 unfold wpEW at h
 unfold wpE
 simp only [ho] at h ⊢
 unfold sevW at h
 unfold sev
 by_cases hw:Region.wanted o (yielded ops a.tmps)=true
 · rw [if_pos hw] at h ⊢
   match hk:opKind P o with
   |0=>rw [hk] at h;obtain ⟨v,h1,h2⟩:=h;exact ⟨v,h1,.inl rfl,h2⟩
   |1=>rw [hk] at h;obtain ⟨v,h1,h2⟩:=h;exact ⟨v,h1 w (hW hk),.inl rfl,h2⟩
   |k+2=>
    rw [hk] at h
    exact uponK_mono (fun v w' hh=> ⟨.inr ⟨by omega,hh.1⟩,hh.2⟩) h
 · rw [if_neg hw] at h ⊢
   exact ⟨.inl rfl,h⟩
theorem anyW_E (hok:tableOk ops=true) (hB:B=table ops.toList []) {K:Act→World→Prop}: ∀ (fuel:Nat) (listed:Array Bool) (a:Act) (w:World),listed.size=ops.size→Shut ops listed→
 ((∃ (k:Nat) (o:Oper),ops[k]? =some o∧opKind P o=1∧listed.getD k true=false)→W w)→
 wpAnyW P ops W B K fuel listed a w→wpAnyE P ops K fuel listed a w
 |0,_,_,_,_,_,_,h=>h
 |fuel+1,listed,a,w,hsz,hs,hW,h=>by
  have hok':=hok
  simp only [tableOk,Bool.and_eq_true] at hok'
  obtain ⟨hns,hrows⟩:=hok'
  refine ⟨h.1,fun i hi=> ?_⟩
  obtain ⟨hun,o,ho,hall⟩:=mem_ready.1 hi
  refine wpE_mono (fun a' w' hh=>anyW_E hok hB fuel _ a' w' (by simpa using hsz) (hs.set hsz hi) ?_ hh.2) (wpEW_E ho (fun hk=>hW ⟨i,o,ho,hk,hun⟩) (h.2 i hi))
  rintro ⟨k,ok,hok,hkk,hkun⟩
  have hki:k≠i:=by
   rintro rfl
   have hlt:k<listed.size:=by
    rcases Nat.lt_or_ge k ops.size with h'|h'
    · omega
    · simp [Array.getElem?_eq_none h'] at hok
   rw [getD_set_same hlt] at hkun
   cases hkun
  rw [getD_set_ne true (Ne.symm hki)] at hkun
  rcases hh.1 with he| ⟨h2,hkeep⟩
  · rw [he];exact hW ⟨k,ok,hok,hkk,hkun⟩
  · refine hkeep ?_
    have hks:k<ops.size:=by
     rcases Nat.lt_or_ge k ops.size with h'|h'
     · exact h'
     · simp [Array.getElem?_eq_none h'] at hok
    have hnb:(B.getD i 0).testBit k=false:=by
     cases hb:(B.getD i 0).testBit k with
     |false=>rfl
     |true=>
      rw [hB] at hb
      have:=listed_of_hangs hrows hs hsz i o ho (fun e he hb'=>hall e (by simpa using he) hb') hb
      have hkl:k<listed.size:=by omega
      simp [hkl] at this hkun
      rw [this] at hkun;cases hkun
    unfold keepB
    refine List.any_eq_true.2 ⟨k,List.mem_range.2 hks,?_⟩
    simp only [hok,hnb,Bool.not_false,Bool.and_true]
    rw [hkk]
    rfl
theorem pairOkW_spec {x:Oper} {i:Nat}: ∀ (l:List Oper) (k:Nat),pairOkW P ops x i B k l=true→∀j y,l[j]? =some y→
 (B.getD (k+j) 0).testBit i=true∨(x.apart ops y=true∧kindsOkW P x y=true)
 | [],_,_,j,y,h=>by simp at h
 |z::l,k,h,j,y,hy=>by
  simp only [pairOkW,Bool.and_eq_true,Bool.or_eq_true] at h
  cases j with
  |zero=>
   simp only [List.getElem?_cons_zero,Option.some.injEq] at hy
   subst hy
   exact h.1
  |succ j=>
   simp only [List.getElem?_cons_succ] at hy
   rw [show k+ (j+1)=k+1+j from by omega]
   exact pairOkW_spec l (k+1) h.2 j y hy
theorem pairsOkW_spec: ∀ (l:List Oper) (k:Nat),pairsOkW P ops B k l=true→∀i j x y,l[i]? =some x→l[j]? =some y→i<j→
 (B.getD (k+j) 0).testBit (k+i)=true∨(x.apart ops y=true∧kindsOkW P x y=true)
 | [],_,_,i,j,x,y,h,_,_=>by simp at h
 |z::l,k,h,i,j,x,y,hx,hy,hij=>by
  simp only [pairsOkW,Bool.and_eq_true] at h
  cases j with
  |zero=>omega
  |succ j=>
   simp only [List.getElem?_cons_succ] at hy
   cases i with
   |zero=>
    simp only [List.getElem?_cons_zero,Option.some.injEq] at hx
    subst hx
    have:=pairOkW_spec l (k+1) h.1 j y hy
    rw [show k+ (j+1)=k+1+j from by omega]
    exact this
   |succ i=>
    simp only [List.getElem?_cons_succ] at hx
    have:=pairsOkW_spec l (k+1) h.2 i j x y hx hy (by omega)
    rw [show k+ (j+1)=k+1+j from by omega,show k+ (i+1)=k+1+i from by omega]
    exact this
theorem anyW_first (hne: ∃u,W u) (hok:tableOk ops=true) {K:Act→World→Prop} {i:Nat}:
 ∀ (fuel:Nat) (listed:Array Bool) (a:Act) (w:World),listed.size=ops.size→Shut ops listed→i∈Region.ready .any ops listed→
   (∀ (oi:Oper) (j:Nat) (oj:Oper),ops[i]? =some oi→ops[j]? =some oj→listed.getD j true=false→j≠i→((table ops.toList []).getD j 0).testBit i=false→oi.apart ops oj=true∧kindsOkW P oi oj=true)→
   wpEW P ops W B i (wpAnyW P ops W B K fuel (listed.setIfInBounds i true)) a w→wpAnyW P ops W B K (fuel+1) listed a w:=by
 simp only [tableOk,Bool.and_eq_true] at hok
 obtain ⟨hns,hrows⟩:=hok
 have hsel:=Region.noSelect_spec hns
 intro fuel
 induction fuel with
 |zero=>
  intro listed a w hsz hs hr hp H
  refine ⟨fun h=> (by rw [h] at hr;cases hr),fun j hj=> ?_⟩
  by_cases hji:j=i
  · subst hji;exact H
  · obtain ⟨a',w',h,_⟩:=wpEW_some H
    have:=ready_mono hj hji
    rw [h] at this
    cases this
 |succ fuel ih=>
  intro listed a w hsz hs hr hp H
  refine ⟨fun h=> (by rw [h] at hr;cases hr),fun j hj=> ?_⟩
  by_cases hji:j=i
  · subst hji;exact H
  · obtain ⟨hiun,oi,hoi,hiall⟩:=mem_ready.1 hr
    obtain ⟨hjun,oj,hoj,hjall⟩:=mem_ready.1 hj
    have hlt: ∀ {x:Nat} {o:Oper},ops[x]? =some o→x<listed.size:=fun {x o} h=>by
     rcases Nat.lt_or_ge x ops.size with h'|h'
     · omega
     · simp [Array.getElem?_eq_none h'] at h
    have hi':listed.getD i false=false:=by have:=hlt hoi;simpa [this] using hiun
    have hnb:((table ops.toList []).getD j 0).testBit i=false:=by
     cases hb:((table ops.toList []).getD j 0).testBit i with
     |false=>rfl
     |true=>
      have:=listed_of_hangs hrows hs hsz j oj hoj (fun e he hb'=>hjall e (by simpa using he) hb') hb
      rw [hi'] at this;cases this
    have hpair:=hp oi j oj hoi hoj hjun hji hnb
    have h1:wpEW P ops W B i (wpEW P ops W B j (wpAnyW P ops W B K fuel ((listed.setIfInBounds i true).setIfInBounds j true))) a w:=
     wpEW_mono (fun a w h=>h.2 j (ready_mono hj hji)) H
    have h2:=commW hne hoi hoj hpair.1 hpair.2 (fun cs b=>hsel i oi cs b hoi) (fun cs b=>hsel j oj cs b hoj) h1
    refine wpEW_mono (fun a' w' h3=>ih (listed.setIfInBounds j true) a' w' (by simpa using hsz) (hs.set hsz hj) (ready_mono hr (Ne.symm hji)) ?_ ?_) h2
    · intro oi' k ok hoi' hok' hun hki hnk
      by_cases hkj:k=j
      · subst hkj
        exact hp oi' k ok hoi' hok' hjun hki hnk
      · rw [getD_set_ne true (Ne.symm hkj)] at hun
        exact hp oi' k ok hoi' hok' hun hki hnk
    · rw [Array.setIfInBounds_comm _ _ hji]
      exact h3
def lexW (P:Program) (ops:Array Oper) (W:World→Prop) (B:List Nat) (K:Act→World→Prop):List Nat→Act→World→Prop
 | []=>K
 |i::l=>wpEW P ops W B i (lexW P ops W B K l)
theorem anyW_of_lex (hne: ∃u,W u) (hok:orderOkW P ops=true) {K:Act→World→Prop}: ∀ (n k:Nat) (listed:Array Bool) (a:Act) (w:World),k+n=ops.size→listed.size=ops.size→
 (∀j,j<ops.size→listed.getD j true=decide (j<k))→lexW P ops W B K (List.range' k n) a w→wpAnyW P ops W B K n listed a w
 |0,k,listed,a,w,hk,hsz,hl,h=>by
  refine ⟨?_,by simpa [lexW] using h⟩
  cases hr:Region.ready .any ops listed with
  |nil=>rfl
  |cons x xs=>
   have hx:x∈Region.ready .any ops listed:=by rw [hr];exact List.mem_cons_self ..
   obtain ⟨hun,o,ho,_⟩:=mem_ready.1 hx
   have hxs:x<ops.size:=by
    rcases Nat.lt_or_ge x ops.size with h'|h'
    · exact h'
    · simp [Array.getElem?_eq_none h'] at ho
   rw [hl x hxs] at hun
   simp at hun
   omega
 |n+1,k,listed,a,w,hk,hsz,hl,h=>by
  have hks:k<ops.size:=by omega
  have hok':=hok
  simp only [orderOkW,tableOk,Bool.and_eq_true] at hok'
  obtain ⟨⟨hns,hrows⟩,hpairs⟩:=hok'
  have htab:tableOk ops=true:=by simp only [tableOk,Bool.and_eq_true];exact ⟨hns,hrows⟩
  have hlf: ∀j,j<ops.size→listed.getD j false=decide (j<k):=fun j hj=>by
   have:=hl j hj
   have hjl:j<listed.size:=by omega
   simpa [hjl] using this
  have below: ∀j o,ops[j]? =some o→∀e∈o.after.toList,Region.binds .any e=true→e.on<j:=fun j o ho e he hb=>by
   have:=(rowsOk_spec ops.toList 0 hrows j o (by simpa using ho)).2
   rw [Nat.zero_add] at this
   exact edgesBelow_spec _ this e he hb
  have hs:Shut ops listed:=by
   intro j o ho hlj e he hb
   have hjs:j<ops.size:=by
    rcases Nat.lt_or_ge j ops.size with h'|h'
    · exact h'
    · simp [Array.getElem?_eq_none h'] at ho
   rw [hl j hjs] at hlj
   have:=below j o ho e he hb
   rw [hlf e.on (by omega)]
   simp at hlj ⊢
   omega
  have hready:k∈Region.ready .any ops listed:=by
   refine mem_ready.2 ⟨by rw [hl k hks];simp,ops[k],by simp [hks],fun e he hb=> ?_⟩
   have:=below k ops[k] (by simp [hks]) e (by simpa using he) hb
   rw [hlf e.on (by omega)]
   simpa using this
  refine anyW_first hne htab n listed a w hsz hs hready ?_ ?_
  · intro oi j oj hoi hoj hun hjk hnb
    have hjs:j<ops.size:=by
     rcases Nat.lt_or_ge j ops.size with h'|h'
     · exact h'
     · simp [Array.getElem?_eq_none h'] at hoj
    have hkj:k<j:=by
     rw [hl j hjs] at hun
     simp at hun
     omega
    have:=pairsOkW_spec ops.toList 0 hpairs k j oi oj (by simpa using hoi) (by simpa using hoj) hkj
    rw [Nat.zero_add,Nat.zero_add] at this
    rcases this with hb|h
    · rw [hb] at hnb;cases hnb
    · exact h
  change wpEW P ops W B _ _ a w at h
  refine wpEW_mono (fun a' w' h'=>anyW_of_lex hne hok n (k+1) (listed.setIfInBounds k true) a' w' (by omega) (by simpa using hsz) (fun j hj=> ?_) h') h
  by_cases hjk:j=k
  · subst hjk
    rw [getD_set_same (by omega)]
    simp
  · rw [getD_set_ne true (Ne.symm hjk),hl j hj]
    simp
    omega
end Go.Fw
