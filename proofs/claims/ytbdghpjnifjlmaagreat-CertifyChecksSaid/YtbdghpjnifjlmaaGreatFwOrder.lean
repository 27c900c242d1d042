/- A statement whose order is open: one walk of the text's order serves every order. -/
import Derived.Test.YtbdghpjnifjlmaaGreatFwOps4
namespace Go.Fw
open Go
variable {P:Program} {ops:Array Oper}
theorem uponK_mono {K K':Value→World→Prop} {r:Result Next} (h: ∀v w,K v w→K' v w) (hh:uponK P K r):uponK P K' r:=by
 cases r with
 |halt=>exact hh
 |ok n w=>
  cases n<;>simp only [uponK] at hh ⊢
  case value=>exact h _ _ hh
  case skip=>exact h _ _ hh
  case enter=>exact hh.mono fun e w'' ⟨v,he,hk⟩=> ⟨v,he,h _ _ hk⟩
theorem Calls.some {f:FuncId} {args:Array Value} {w:World} {R:Ending→World→Prop} (h:Calls P f args w R): ∃e w',R e w':=
 let ⟨e,w',_,r,_⟩:=h [];⟨e,w',r⟩
theorem uponK_some {K:Value→World→Prop} {r:Result Next} (hh:uponK P K r): ∃v w,K v w:=by
 cases r with
 |halt=>exact hh.elim
 |ok n w=>
  cases n<;>simp only [uponK] at hh
  case value=>exact ⟨_,_,hh⟩
  case skip=>exact ⟨_,_,hh⟩
  case enter=>obtain ⟨e,w',v,_,hk⟩:=Calls.some hh;exact ⟨v,w',hk⟩
theorem evid_mono {k:Nat} {s:Sem Next} {w:World} {K K':Value→World→Prop} (h: ∀v w,K v w→K' v w) (hh:evid P k s w K):evid P k s w K':=by
 match k with
 |0=>obtain ⟨v,h1,h2⟩:=hh;exact ⟨v,h1,h _ _ h2⟩
 |1=>obtain ⟨v,h1,h2⟩:=hh;exact ⟨v,h1,h _ _ h2⟩
 |_+2=>exact uponK_mono h hh
def sev (P:Program) (ops:Array Oper) (o:Oper) (a:Act) (w:World) (K:Value→World→Prop):Prop:=
 if Region.wanted o (yielded ops a.tmps)=true then evid P (opKind P o) (execOp a.eval o) w K else K undef w
theorem sev_of {o:Oper} {a:Act} {w:World} {K:Value→World→Prop} (hw:Region.wanted o (yielded ops a.tmps)=true) (h:evid P (opKind P o) (execOp a.eval o) w K):sev P ops o a w K:=by
 unfold sev
 rw [if_pos hw]
 exact h
theorem sev_mono {o:Oper} {a:Act} {w:World} {K K':Value→World→Prop} (h: ∀v w,K v w→K' v w) (hh:sev P ops o a w K):sev P ops o a w K':=by
 unfold sev at*
 split
 · rename_i hw;rw [if_pos hw] at hh;exact evid_mono h hh
 · rename_i hw;rw [if_neg hw] at hh;exact h _ _ hh
def PureAt (P:Program) (ops:Array Oper) (o:Oper) (a:Act) (v:Value):Prop:=
 (Region.wanted o (yielded ops a.tmps)=true∧opKind P o=0∧∀w,(execOp a.eval o).run P w= .ok (.value v) w)∨
 (Region.wanted o (yielded ops a.tmps)=false∧v=undef)
theorem PureAt.one {o:Oper} {a:Act} {u v:Value} (h:PureAt P ops o a u) (g:PureAt P ops o a v):u=v:=by
 rcases h with ⟨h1,h2,h3⟩| ⟨h1,h2⟩<;>rcases g with ⟨g1,g2,g3⟩| ⟨g1,g2⟩
 · have:=(h3 default).symm.trans (g3 default)
   injection this with this
   injection this
 · rw [h1] at g1;cases g1
 · rw [h1] at g1;cases g1
 · rw [h2,g2]
theorem PureAt.sev {o:Oper} {a:Act} {v:Value} {w:World} {K:Value→World→Prop} (h:PureAt P ops o a v) (hk:K v w):sev P ops o a w K:=by
 unfold Go.Fw.sev
 rcases h with ⟨h1,h2,h3⟩| ⟨h1,rfl⟩
 · rw [if_pos h1,h2];exact ⟨v,h3,hk⟩
 · rw [if_neg (by simp [h1])];exact hk
theorem PureAt.of_same {o:Oper} {v:Value} {a a':Act} (hy:PureAt P ops o a v) (he:execOp a'.eval o=execOp a.eval o)
 (hw:Region.wanted o (yielded ops a'.tmps)=Region.wanted o (yielded ops a.tmps)):PureAt P ops o a' v:=by
 unfold PureAt at*
 rw [he,hw]
 exact hy
theorem sev_cases {o:Oper} {a:Act} {w:World} {K:Value→World→Prop} (h:sev P ops o a w K):
 (∃v,PureAt P ops o a v∧K v w)∨
 (Region.wanted o (yielded ops a.tmps)=true∧opKind P o=1∧∃v,(execOp a.eval o).run P w= .ok (.value v) w∧K v w)∨
 (Region.wanted o (yielded ops a.tmps)=true∧2≤opKind P o∧uponK P K ((execOp a.eval o).run P w)):=by
 unfold sev at h
 by_cases hw:Region.wanted o (yielded ops a.tmps)=true
 · rw [if_pos hw] at h
   cases hk:opKind P o with
   |zero=>rw [hk] at h;obtain ⟨v,h1,h2⟩:=h;exact .inl ⟨v,.inl ⟨hw,hk,h1⟩,h2⟩
   |succ k=>
    cases k with
    |zero=>rw [hk] at h;exact .inr (.inl ⟨hw,rfl,h⟩)
    |succ k=>rw [hk] at h;exact .inr (.inr ⟨hw,by omega,h⟩)
 · rw [if_neg hw] at h
   exact .inl ⟨undef,.inr ⟨by simpa using hw,rfl⟩,h⟩
theorem sev_some {o:Oper} {a:Act} {w:World} {K:Value→World→Prop} (h:sev P ops o a w K): ∃v w,K v w:=by
 rcases sev_cases h with ⟨v,_,h⟩| ⟨_,_,v,_,h⟩| ⟨_,_,h⟩
 · exact ⟨_,_,h⟩
 · exact ⟨_,_,h⟩
 · exact uponK_some h
def wpE (P:Program) (ops:Array Oper) (i:Nat) (K:Act→World→Prop) (a:Act) (w:World):Prop:=
 match ops[i]? with
 |none=>K a w
 |some o=>sev P ops o a w fun v w'=>K (a.put o.dst v) w'
theorem wpE_mono {i:Nat} {K K':Act→World→Prop} {a:Act} {w:World} (h: ∀a w,K a w→K' a w) (hh:wpE P ops i K a w):wpE P ops i K' a w:=by
 unfold wpE at*
 split
 · rename_i ho;rw [ho] at hh;exact h _ _ hh
 · rename_i o ho;rw [ho] at hh;exact sev_mono (fun v w=>h _ _) hh
theorem wpE_some {i:Nat} {K:Act→World→Prop} {a:Act} {w:World} (hh:wpE P ops i K a w): ∃a' w',K a' w':=by
 unfold wpE at hh
 split at hh
 · exact ⟨_,_,hh⟩
 · obtain ⟨v,w,h⟩:=sev_some hh;exact ⟨_,_,h⟩
theorem comm {i j:Nat} {oi oj:Oper} (hi:ops[i]? =some oi) (hj:ops[j]? =some oj) (hap:oi.apart ops oj=true) (hk:kindsOk P oi oj=true)
 (hsi: ∀cs b,oi.op≠ .select cs b) (hsj: ∀cs b,oj.op≠ .select cs b) {K:Act→World→Prop} {a:Act} {w:World}
 (h:wpE P ops i (wpE P ops j K) a w):wpE P ops j (wpE P ops i K) a w:=by
 obtain ⟨h1,h2,h3⟩:=Oper.apart_spec hap
 have ei: ∀ (a:Act) u,execOp (a.put oj.dst u).eval oi=execOp a.eval oi:=fun a u=>execOp_put oi hsi a oj.dst u h3
 have ej: ∀ (a:Act) u,execOp (a.put oi.dst u).eval oj=execOp a.eval oj:=fun a u=>execOp_put oj hsj a oi.dst u h1
 have wi: ∀ (a:Act) u,Region.wanted oi (yielded ops (a.put oj.dst u).tmps)=Region.wanted oi (yielded ops a.tmps):=fun a u=>wanted_put oi a oj.dst u h3
 have wj: ∀ (a:Act) u,Region.wanted oj (yielded ops (a.put oi.dst u).tmps)=Region.wanted oj (yielded ops a.tmps):=fun a u=>wanted_put oj a oi.dst u h1
 have cm: ∀ (v u:Value),(a.put oi.dst v).put oj.dst u=(a.put oj.dst u).put oi.dst v:=fun v u=>Act.put_comm a v u h2
 unfold wpE at*
 simp only [hi,hj] at*
 have jback: ∀ {v:Value} {w:World} {L:Value→World→Prop},sev P ops oj (a.put oi.dst v) w L→sev P ops oj a w L:=by
  intro v w L hh
  unfold sev at*
  rw [ej,wj] at hh
  exact hh
 have iforth: ∀ {u:Value} {w:World} {L:Value→World→Prop},sev P ops oi a w L→sev P ops oi (a.put oj.dst u) w L:=by
  intro u w L hh
  unfold sev at*
  rw [ei,wi]
  exact hh
 rcases sev_cases h with ⟨v,hp,hK⟩| ⟨hwi,hki,v,hr,hK⟩| ⟨hwi,hki,hU⟩
 ·
  refine sev_mono (fun u w' hk=> ?_) (jback hK)
  refine (hp.of_same (ei a u) (wi a u)).sev ?_
  rw [← cm]
  exact hk
 · rcases sev_cases hK with ⟨u,hpj,hK'⟩| ⟨hwj,hkj,u,hrj,hK'⟩| ⟨hwj,hkj,_⟩
   · refine (hpj.of_same (ej a v).symm (wj a v).symm).sev ?_
     refine iforth ?_
     unfold sev
     rw [if_pos hwi,hki]
     exact ⟨v,hr,by rw [cm] at hK';exact hK'⟩
   · rw [wj] at hwj
     rw [ej] at hrj
     refine sev_of hwj ?_
     rw [hkj]
     refine ⟨u,hrj,sev_of ((wi a u).trans hwi) ?_⟩
     rw [hki,ei]
     exact ⟨v,hr,by rw [cm] at hK';exact hK'⟩
   · exfalso
     have hi0:Nat.beq (opKind P oi) 0=false:=by rw [hki];rfl
     have hj0:Nat.beq (opKind P oj) 0=false:=by
      cases hb:Nat.beq (opKind P oj) 0 with
      |false=>rfl
      |true=>have:=Nat.eq_of_beq_eq_true hb;omega
     have hj1:Nat.beq (opKind P oj) 1=false:=by
      cases hb:Nat.beq (opKind P oj) 1 with
      |false=>rfl
      |true=>have:=Nat.eq_of_beq_eq_true hb;omega
     simp only [kindsOk,hi0,hj0,hj1,Bool.and_false,Bool.or_false,Bool.false_or] at hk
     cases hk
 ·
  have jpure: ∀ {v:Value} {w:World} {L:Value→World→Prop},sev P ops oj (a.put oi.dst v) w L→∃u,PureAt P ops oj a u∧L u w:=by
   intro v w L hh
   rcases sev_cases hh with ⟨u,hpj,hL⟩| ⟨hwj,hkj,_⟩| ⟨hwj,hkj,_⟩
   · exact ⟨u,hpj.of_same (ej a v).symm (wj a v).symm,hL⟩
   all_goals
    exfalso
    have hi0:Nat.beq (opKind P oi) 0=false:=by
     cases hb:Nat.beq (opKind P oi) 0 with
     |false=>rfl
     |true=>have:=Nat.eq_of_beq_eq_true hb;omega
    have hi1:Nat.beq (opKind P oi) 1=false:=by
     cases hb:Nat.beq (opKind P oi) 1 with
     |false=>rfl
     |true=>have:=Nat.eq_of_beq_eq_true hb;omega
    have hj0:Nat.beq (opKind P oj) 0=false:=by
     cases hb:Nat.beq (opKind P oj) 0 with
     |false=>rfl
     |true=>have:=Nat.eq_of_beq_eq_true hb;omega
    simp only [kindsOk,hi0,hi1,hj0,Bool.false_and,Bool.or_false] at hk
    cases hk
  obtain ⟨v0,w0,hh0⟩:=uponK_some hU
  obtain ⟨u0,hp0,_⟩:=jpure hh0
  refine hp0.sev ?_
  refine iforth ?_
  unfold sev
  rw [if_pos hwi]
  have hgoal:uponK P (fun v w'=>K ((a.put oj.dst u0).put oi.dst v) w') ((execOp a.eval oi).run P w):=by
   refine uponK_mono (fun v w' hh=> ?_) hU
   obtain ⟨u,hp,hK⟩:=jpure hh
   rw [← hp0.one hp,cm] at hK
   exact hK
  match hq:opKind P oi with
  |0=>omega
  |1=>omega
  |_+2=>exact hgoal
end Go.Fw
