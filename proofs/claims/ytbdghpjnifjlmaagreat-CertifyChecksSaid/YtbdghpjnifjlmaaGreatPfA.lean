/- Layer 14: what a search's proof is. -/
import Derived.Test.YtbdghpjnifjlmaaGreatRupA
import Derived.RangeFuncBox
import Derived.RangeFuncLeaves
import Derived.Shelf.Abstract
import Derived.WalkKit
import Derived.OwnWalkIn
import Derived.TacticsInMore
import Derived.LoopNIn
import Derived.LoopIn
import Derived.Test.YtbdghpjnifjlmaaGreatPropC
import Derived.Test.YtbdghpjnifjlmaaGreatRedA
import Derived.Test.YtbdghpjnifjlmaaGreatLubyA
namespace Go.Proofs.YtbdghpjnifjlmaaGreat.W
open Go Go.Fw Go.RowKit Go.SoP Go.LiP
open Go.Proofs.Tryz (prog)
section
open Go.LeP
end
section
open Go.LeP
variable {w0 w w' w1 w2 u:World} {B N i:Nat} {L L' L1:Nat→Nat} {x:Xs} {l:List Int} {cs:List (List Int)} {hv:List (Nat × List Int)} {un:List (List Int)}
def ppr (p:Ps):Bool × List Int:=(p.1,p.2.2)
end
section
variable {w w':World}
structure PrV (z:Nat) (w:World) (p:Option Addr) (pr:List Ps):Prop where
 v:Vr 2 psE w p pr
 r: ∀u∈pr,u.2.1.n=u.2.2.length∧Vw (Value.int .i64) w u.2.1.p u.2.2
 f:pr≠[]→∀j,blk p=some j→z≤j
 g: ∀u∈pr,∀j,blk u.2.1.p=some j→z≤j
theorem PrV.keep {z:Nat} {p:Option Addr} {pr:List Ps} {S:Nat→Prop} (h:PrV z w p pr) (m:Mod S w w') (hS: ∀j,z≤j→¬S j):PrV z w' p pr:=by
 refine ⟨?_,fun u hu=> ⟨(h.r u hu).1,(h.r u hu).2.keep m fun j hj=>hS j (h.g u hu j hj)⟩,h.f,h.g⟩
 by_cases e:pr= []
 · subst e;exact fun j hj=>by simp at hj
 · exact h.v.keep m fun j hj=>hS j (h.f e j hj)
theorem PrV.grow {z:Nat} {p:Option Addr} {pr:List Ps} (h:PrV z w p pr) (m:Grow w w'):PrV z w' p pr:=h.keep m fun _ _=>id
theorem PrV.sv {z:Nat} {p:Option Addr} {pr:List Ps} (h:PrV z w p pr) (hl: ∀u∈pr,u.2.2.length≤maxLen):SV w p (pr.map ppr):=by
 intro i hi
 have hi':i<pr.length:=by simpa using hi
 obtain ⟨a,e,hc⟩:=h.v i hi'
 have hm:pr[i]∈pr:=List.getElem_mem hi'
 have ex:(pr.map ppr).getD i st0=ppr pr[i]:=by simp [List.getD,hi']
 rw [ex]
 exact ⟨a,pr[i].2.1,e,hc,(h.r _ hm).1,by rw [(h.r _ hm).1];exact hl _ hm,(h.r _ hm).2⟩
end
section
variable {w:World} {p q:Option Addr} {n c:Nat} {l:List Int}
theorem litHolds_ok {k:Int} {hs:List Sl} {cs:List (List Int)} {m:List Int} {j d:Nat} (hc:V2 (Value.int .i64) w q hs cs) (hj:j=cs.length) (h:Vw (Value.int .i64) w p m) (hn:n=m.length) (hm:n≤maxLen):
 Calls prog lit_Holds.id #[.agg #[.int .i64 k,.slice q j d],.slice p n c] w fun e w'=>e= .returned (.bool (cnfB k cs && holdsP m cs))∧Grow w w':=by
 refine lit_Holds.calls ?_
 intro n1 w1 h1
 have g1:=h1.mod
 refine ⟨_,_,_,_,⟨cell_add h1.has rfl,cell_add h1.has rfl,trivial⟩,(checkCnf_ok (hc.grow g1) hj).mono ?_⟩
 rintro e w2 ⟨rfl,g2⟩
 have G2:=g1.trans g2
 have H2:=h1.has.grow g2
 cases hcn:cnfB k cs with
 |false=>exact ⟨_,rfl,cnd_t rfl ⟨rfl,G2⟩⟩
 |true=>
 have hcl:cs.length≤262144:=by
  unfold cnfB at hcn
  simp only [Bool.and_eq_true,decide_eq_true_eq] at hcn
  omega
 refine ⟨_,rfl,cnd_f rfl ⟨_,_,_,cell_add H2 rfl,?_⟩⟩
 refine ⟨fun I w' k2=> ∃t:Nat,I=t∧t≤cs.length∧k2=cs.length - t∧((cs.take t).all fun c=>c.any fun l=>decide (valP m l=1))=true∧Grow w w',⟨_,0,rfl,Nat.zero_le _,rfl,rfl,G2⟩,?_⟩
 rintro I w3 k3 _ ⟨t,rfl,ht,rfl,ha,G3⟩
 refine cnd_i (fun s=> ?_) (fun s=> ⟨?_,G3⟩)
 · have s:t<cs.length:=by simp at s;omega
   refine row_ix (hc.grow G3) hj s fun a x e e1 e2 v ex=> ⟨_,_,_,e,?_⟩
   unfold maxLen at e2
   refine ⟨fun J w' k4=> ∃i:Nat,J=i∧i≤(cs.getD t []).length∧k4=(cs.getD t []).length - i∧(((cs.getD t []).take i).any fun l=>decide (valP m l=1))=false∧Grow w3 w',⟨_,0,rfl,Nat.zero_le _,rfl,rfl,Mod.refl w3⟩,?_⟩
   rintro J w4 k4 _ ⟨i,rfl,hi,rfl,hb,g4⟩
   have G4:=G3.trans g4
   refine cnd_i (fun r=> ?_) (fun r=> ⟨?_,G4⟩)
   · have r:i< (cs.getD t []).length:=by simp at r;omega
     refine (v.grow g4).ix 0 (by omega) e1 (by omega) fun a e=> ⟨_,e,?_⟩
     rw [Int.toNat_natCast]
     refine (litValue_ok (h.grow G4) hn hm _).mono ?_
     rintro e w5 ⟨rfl,g5⟩
     refine ⟨_,rfl,?_⟩
     have hv:=valP_cases m ((cs.getD t []).getD i 0)
     refine cnd_i (fun r2=> ?_) (fun r2=> ?_)
     · have r2:valP m ((cs.getD t []).getD i 0)=1:=by
        have:=of_decide_eq_true r2
        omega
       refine ⟨_,?_,t+1,wN (by omega) (by omega),by omega,rfl,allTakeS (d:= []) s ha ?_,G4.trans g5⟩
       · omega
       · exact List.any_eq_true.2 ⟨_,mem_getD r,decide_eq_true r2⟩
     · refine ⟨_,?_,i+1,wN (by omega) (by omega),by omega,rfl,?_,g4.trans g5⟩
       · omega
       · rw [any_take_succ r (d:=0),hb,Bool.false_or]
         simp at r2 ⊢;omega
   · have r:i=(cs.getD t []).length:=by simp at r;omega
     subst r
     rw [List.take_length] at hb
     have:holdsP m cs=false:=by unfold holdsP;exact allFalse (d:= []) s hb
     rw [this];rfl
 · have s:t=cs.length:=by simp at s;omega
   subst s
   rw [List.take_length] at ha
   have:holdsP m cs=true:=ha
   rw [this];rfl
end
section
variable {w w' w0 w2 w3:World} {p q:Option Addr} {n m c d:Nat} {k:Int} {hs ks:List Sl} {cs:List (List Int)} {l:List Int}
theorem tot_le {B:Nat}: ∀ {cs:List (List Int)},(∀c∈cs,c.length≤B)→tot cs≤cs.length*B
 | [],_=>by simp [tot]
 |x::cs,h=>by
  have:=tot_le (cs:=cs) fun c hc=>h c (List.mem_cons_of_mem _ hc)
  have h0:=h x (List.mem_cons_self ..)
  have e:tot (x::cs)=x.length+tot cs:=by simp [tot]
  rw [e,List.length_cons,Nat.succ_mul]
  omega
theorem cnf_lits (h:cnfB k cs=true): ∀c∈cs,c.length≤4096∧∀x∈c,litB x=true∧amt x≤k:=by
 unfold cnfB at h
 rw [Bool.and_eq_true,List.all_eq_true] at h
 intro c hc
 have:=h.2 c hc
 rw [Bool.and_eq_true,List.all_eq_true] at this
 have h2:=clB_all this.1
 exact ⟨h2.2,fun x hx=> ⟨h2.1 x hx,by simpa using this.2 x hx⟩⟩
theorem vmx_same {v:Int} {c:List Int} (h: ∀x∈c,amt x≤v):vmx v c=v:=by
 unfold vmx
 induction c with
 |nil=>rfl
 |cons x c ih=>
  rw [List.foldl_cons]
  have h0:=h x (List.mem_cons_self ..)
  have e:imax (imax v x) (-x)=v:=by
   unfold amt at h0;unfold imax
   split at h0<;>split<;>split<;>omega
  rw [e]
  exact ih fun y hy=>h y (List.mem_cons_of_mem _ hy)
theorem fold_same {v:Int}: ∀ {cs:List (List Int)},(∀c∈cs,∀x∈c,amt x≤v)→cs.foldl vmx v=v
 | [],_=>rfl
 |x::cs,h=>by
  rw [List.foldl_cons,vmx_same (h x (List.mem_cons_self ..))]
  exact fold_same fun c hc=>h c (List.mem_cons_of_mem _ hc)
theorem V2.one {b:Nat} (h:Has w b #[.slice q m c]) (hl:Vw (Value.int .i64) w q l) (hm:m=l.length) (hm2:m≤maxLen):V2 (Value.int .i64) w (some ⟨b,0,none⟩) [⟨q,m,c⟩] [l]:=by
 refine ⟨fun j hj=> ?_,rfl,fun j hj=> ?_⟩
 · have:j=0:=by simpa using hj
   subst this
   exact ⟨_,rfl,cell_add h rfl⟩
 · have:j=0:=by simpa using hj
   subst this
   exact ⟨hm,hm2,hl⟩
theorem begin1B_ok {b:Nat} (hcn:cnfB k cs=true) (hlt:cs.length<262144) (hc:V2 (Value.int .i64) w p hs cs) (hb:Has w b #[.slice q m c]) (hl:Vw (Value.int .i64) w q l) (hm:m=l.length) (hcl:clB l=true):
 Calls prog rup_begin.id #[.agg #[.int .i64 k,.slice p cs.length d],.slice (some ⟨b,0,none⟩) 1 1] w fun e w'=> ∃ (nb:Nat) (id:List (Int × Int)),e= .returned (ptrV nb)∧Wk true (fun _=>False) w w' nb k id cs cs.length∧(∀x∈l,litB x=true∧Nt id x):=by
 have hL:=cnf_lits hcn
 have hcl':=clB_all hcl
 refine (begin_ok hc rfl (V2.one hb hl hm (by rw [hm];unfold maxLen;omega)) rfl (fun c hc=> ⟨(hL c hc).1,fun x hx=> ((hL c hc).2 x hx).1⟩) (fun c hc=>by rw [List.mem_singleton] at hc;subst hc;exact ⟨by have:=hcl'.2;omega,hcl'.1⟩) (by omega) (by simp)).mono ?_
 rintro e w' ⟨nb,id,rfl,hW,hN⟩
 rw [fold_same fun c hc x hx=> ((hL c hc).2 x hx).2] at hW
 exact ⟨nb,id,rfl,hW,fun x hx=> ⟨hcl'.1 x hx,hN l (by simp) x hx⟩⟩
theorem rupUnitB_ok (hc:V2 (Value.int .i64) w p hs cs) (hn:n=cs.length) (hB:cnfB k cs=true→clB l=true→cs.length<262144) (hl:Vw (Value.int .i64) w q l) (hm:m=l.length) (hm2:m≤maxLen):
 Calls prog rup_Unit.id #[.agg #[.int .i64 k,.slice p n d],.slice q m c] w fun e w'=> ∃r:Bool,e= .returned (.bool r)∧(r=true↔cnfB k cs=true∧clB l=true∧uB cs l)∧Grow w w':=by
 subst hn
 refine rup_Unit.calls ?_
 intro n1 w2 h2
 refine ⟨_,_,_,_,cells2 h2.has,(rupMay_ok (hc.grow h2.mod) rfl (hl.grow h2.mod) hm hm2).mono ?_⟩
 rintro e w5 ⟨rfl,g5⟩
 have G5:=h2.mod.trans g5
 refine ⟨_,rfl,cnd_i (fun r=> ?_) (fun r=> ⟨false,rfl,⟨fun e=> (by cases e),fun h=>by rw [h.1,h.2.1] at r;cases r⟩,G5⟩)⟩
 rw [Bool.and_eq_true] at r
 refine ⟨_,_,_,_,cells2 (h2.has.grow g5),?_⟩
 intro n9 w10 h10
 have G10:=G5.trans h10.mod
 refine (begin1B_ok r.1 (hB r.1 r.2) (hc.grow G10) h10.has (hl.grow G10) hm r.2).mono ?_
 rintro e w11 ⟨nb,id,rfl,hW,hN⟩
 have hcl':=clB_all r.2
 refine ⟨_,rfl,(hW.unit (hl.grow G10) hm (by omega) hN).mono ?_⟩
 rintro e w13 ⟨b,rfl,hr,hW2,_⟩
 exact ⟨b,rfl,b,rfl,hr.trans ⟨fun h=> ⟨r.1,r.2,h⟩,fun h=>h.2.2⟩,G10.trans hW2.wg⟩
open Classical in
noncomputable def stepE (cs:List (List Int)) (s:Stp):Int:=if s.1=true∨uB cs s.2∨fB cs s.2 then 0 else 7
open Classical in
noncomputable def stepC (cs:List (List Int)) (s:Stp):List (List Int):=if s.1=true then delP s.2 cs else if uB cs s.2∨fB cs s.2 then cs++ [s.2] else cs
open Classical in
noncomputable def stepV (k:Int) (cs:List (List Int)) (s:Stp):Int:=if s.1=false∧(uB cs s.2∨fB cs s.2) then vmx k s.2 else k
theorem step_del {s:Stp} (h:s.1=true):stepE cs s=0∧stepC cs s=delP s.2 cs∧stepV k cs s=k:=by
 unfold stepE stepC stepV
 exact ⟨if_pos (.inl h),if_pos h,if_neg fun e=>by rw [h] at e;cases e.1⟩
theorem step_add {s:Stp} (h:s.1=false) (h2:uB cs s.2∨fB cs s.2):stepE cs s=0∧stepC cs s=cs++ [s.2]∧stepV k cs s=vmx k s.2:=by
 unfold stepE stepC stepV
 exact ⟨if_pos (.inr h2),by rw [if_neg (by rw [h];simp),if_pos h2],if_pos ⟨h,h2⟩⟩
theorem step_bad {s:Stp} (h:s.1=false) (h2: ¬(uB cs s.2∨fB cs s.2)):stepE cs s=7∧stepC cs s=cs∧stepV k cs s=k:=by
 unfold stepE stepC stepV
 exact ⟨if_neg fun e=>e.elim (fun e=>by rw [h] at e;cases e) h2,by rw [if_neg (by rw [h];simp),if_neg h2],if_neg fun e=>h2 e.2⟩
theorem Wk.step {A:Nat→Prop} {W:World} {nb:Nat} {vars:Int} {id:List (Int × Int)} {kk:Nat} {s:Stp} (h:Wk true A W w nb vars id cs kk) (hc:Vw (Value.int .i64) W q s.2) (hn:n=s.2.length) (hlen:s.2.length≤4096) (hl: ∀x∈s.2,litB x=true∧Nt id x) (hk:kk<262144):
 Calls prog rup_base_do.id #[ptrV nb,.agg #[.bool s.1,.slice q n c]] w fun e w'=>e= .returned (.int .i64 (stepE cs s))∧Mod (fun j=> ¬A j) w w'∧∃t:Bool,(stepE cs s=0→(s.1=true∨s.2≠[])→t=true)∧Wk t A W w' nb (stepV vars cs s) id (stepC cs s) (kk+1):=by
 refine (h.do' hc hn hlen hl hk).mono ?_
 rintro e w' ⟨r,rfl,m,h⟩
 rcases h with ⟨h1,rfl,h3⟩| ⟨h1,h2,rfl,h3⟩| ⟨h1,h2,rfl,h3⟩
 · obtain ⟨e1,e2,e3⟩:=step_del (cs:=cs) (k:=vars) h1
   rw [e1,e2,e3]
   exact ⟨rfl,m,true,fun _ _=>rfl,h3.up⟩
 · obtain ⟨e1,e2,e3⟩:=step_add (k:=vars) h1 h2
   rw [e1,e2,e3]
   exact ⟨rfl,m,_,fun _ hh=> (by rcases hh with hh|hh;(rw [h1] at hh;cases hh);simpa using hh),h3⟩
 · obtain ⟨e1,e2,e3⟩:=step_bad (k:=vars) h1 h2
   rw [e1,e2,e3]
   exact ⟨rfl,m,_,fun hh=>absurd hh (by decide),h3.up⟩
end
section
variable {W w w' w0 w2 w3 u:World} {p q:Option Addr} {n m d i c:Nat} {k:Int} {hs:List Sl} {cs:List (List Int)} {l:List Int} {ss:List So} {al:List Stp}
theorem vmx_ge (v:Int): ∀ (c:List Int),v≤vmx v c∧∀x∈c,amt x≤vmx v c:=by
 intro c
 unfold vmx
 induction c generalizing v with
 |nil=>exact ⟨Int.le_refl _,fun x hx=>by simp at hx⟩
 |cons y c ih=>
  rw [List.foldl_cons]
  obtain ⟨h1,h2⟩:=ih (imax (imax v y) (-y))
  have e:v≤imax (imax v y) (-y)∧amt y≤imax (imax v y) (-y):=by
   unfold imax amt
   repeat' split
   all_goals omega
  refine ⟨by omega,fun x hx=> ?_⟩
  rcases List.mem_cons.1 hx with rfl|hx
  · omega
  · exact h2 x hx
theorem vmx_le {v B:Int} (hv:v≤B): ∀ {c:List Int},(∀x∈c,amt x≤B)→vmx v c≤B:=by
 intro c
 unfold vmx
 induction c generalizing v with
 |nil=>exact fun _=>hv
 |cons y c ih=>
  intro h
  rw [List.foldl_cons]
  refine ih ?_ fun x hx=>h x (List.mem_cons_of_mem _ hx)
  have:=h y (List.mem_cons_self ..)
  unfold imax;unfold amt at this
  repeat' split
  all_goals (first|omega| (split at this<;>omega))
theorem fold_ge (v:Int): ∀ (cs:List (List Int)),v≤cs.foldl vmx v∧∀c∈cs,∀x∈c,amt x≤cs.foldl vmx v:=by
 intro cs
 induction cs generalizing v with
 |nil=>exact ⟨Int.le_refl _,fun c hc=>by simp at hc⟩
 |cons y cs ih=>
  rw [List.foldl_cons]
  obtain ⟨h1,h2⟩:=ih (vmx v y)
  obtain ⟨g1,g2⟩:=vmx_ge v y
  refine ⟨by omega,fun c hc x hx=> ?_⟩
  rcases List.mem_cons.1 hc with rfl|hc
  · have:=g2 x hx;omega
  · exact h2 c hc x hx
theorem fold_le {v B:Int} (hv:v≤B): ∀ {cs:List (List Int)},(∀c∈cs,∀x∈c,amt x≤B)→cs.foldl vmx v≤B:=by
 intro cs
 induction cs generalizing v with
 |nil=>exact fun _=>hv
 |cons y cs ih=>
  intro h
  rw [List.foldl_cons]
  exact ih (vmx_le hv (h y (List.mem_cons_self ..))) fun c hc=>h c (List.mem_cons_of_mem _ hc)
theorem litB_amt {x:Int} (h:litB x=true):amt x≤1048576:=by
 have:=litB_b2 h
 unfold amt;split<;>omega
def isEnd (s:Stp):Prop:=s.1=false∧s.2= []
def EndAt (al:List Stp) (t:Nat):Prop:=t<al.length∧isEnd (al.getD t st0)∧∀j,j<t→¬isEnd (al.getD j st0)
def NoEnd (al:List Stp):Prop:= ∀j,j<al.length→¬isEnd (al.getD j st0)
theorem EndAt.uniq {t t':Nat} (h:EndAt al t) (h':EndAt al t'):t=t':=by
 rcases Nat.lt_trichotomy t t' with e|e|e
 · exact absurd h.2.1 (h'.2.2 t e)
 · exact e
 · exact absurd h'.2.1 (h.2.2 t' e)
theorem end1_ent:entB prog drat_end_1.id=true:=by kernel_rfl
theorem end_ok (hl:SV w q al) (hm:m=al.length) (hm2:m≤1000000) {e:Nat}:Calls prog drat_end.id #[.slice q m e] w fun e w'=>Grow w w'∧((NoEnd al∧e= .returned (.int .i64 (-1)))∨∃t:Nat,EndAt al t∧e= .returned (.int .i64 (t:Int))):=by
 subst hm
 refine drat_end.calls ((slices_IndexFunc_fathom_api_Step_fathom_api_Step.calls (R:=fun e w'=>Grow w w'∧((NoEnd al∧e= .returned (.int .i64 (-1)))∨∃t:Nat,EndAt al t∧e= .returned (.int .i64 (t:Int)))) ?_).mono ?_)
 · refine ⟨fun I u z=> ∃t:Nat,I=t∧t≤al.length∧z=al.length - t∧Grow w u∧∀j,j<t→¬isEnd (al.getD j st0),⟨_,0,rfl,Nat.zero_le _,rfl,Mod.refl _,fun j hj=>by omega⟩,?_⟩
   rintro I u z _ ⟨t,rfl,ht,rfl,gu,hno⟩
   refine cnd_i (fun r=> ?_) (fun r=> ⟨gu,.inl ⟨fun j hj=>hno j (by simp at r;omega),rfl⟩⟩)
   have r:t<al.length:=by simpa using r
   refine hl.ix gu rfl r fun a s hcA h1 h2 h3=> ⟨_,_,_,_,hcA u gu,?_⟩
   rw [end1_ent]
   show Calls _ _ _ _ _
   rw [args1]
   refine (drat_end_1.calls (R:=fun e w'=> ∃b:Bool,e= .returned (.bool b)∧(b=true↔isEnd (al.getD t st0))∧Grow u w') ?_).mono ?_
   · intro n1 w2 h2'
     refine ⟨_,cell_add h2'.has rfl,cnd_i (fun r1=> ⟨_,_,_,cell_add h2'.has rfl,_,rfl,?_,h2'.mod⟩) (fun r1=> ⟨false,rfl,⟨fun e=> (by cases e),fun e=>by rw [e.1] at r1;cases r1⟩,h2'.mod⟩)⟩
     have r1:(al.getD t st0).1=false:=by simpa using r1
     rw [beq_iff_eq]
     unfold isEnd
     rw [h1]
     constructor
     · intro e;exact ⟨r1,List.eq_nil_of_length_eq_zero (by omega)⟩
     · intro e;rw [e.2];rfl
   · rintro e10 w10 ⟨b,rfl,hb,g10⟩
     refine ⟨_,rfl,cnd_i (fun r2=> ⟨gu.trans g10,.inr ⟨t,⟨r,hb.1 r2,hno⟩,rfl⟩⟩) (fun r2=> ⟨_,by omega,t+1,wN (by omega) (by omega),r,rfl,gu.trans g10,fun j hj=> ?_⟩)⟩
     by_cases e:j<t
     · exact hno j e
     · obtain rfl:j=t:=by omega
       exact fun e=>by rw [hb.2 e] at r2;cases r2
 · rintro e1 w1 ⟨g,⟨h,rfl⟩| ⟨t,h,rfl⟩⟩
   · exact ⟨_,rfl,g,.inl ⟨h,rfl⟩⟩
   · exact ⟨_,rfl,g,.inr ⟨t,h,rfl⟩⟩
def stepS (ha:List Sr) (i:Nat) (s:Stp):List Sr:=if s.1=true then goneP s.2 ha else ha++ [(s.2,true,(i:Int))]
def ahd (cs:List (List Int)) (al:List Stp):Nat→List Sr
 |0=>srcF cs cs.length
 |i+1=>stepS (ahd cs al i) i (al.getD i st0)
def plainP (cs:List (List Int)) (al:List Stp):Prop:= ∃t,EndAt al t∧∀i,i≤t→(al.getD i st0).1=true∨uB ((ahd cs al i).map (·.1)) (al.getD i st0).2
theorem goneP_sub {x:List Int} {y:Sr}: ∀ {ha:List Sr},y∈goneP x ha→y∈ha
 | [],h=>h
 |a::l,h=>by
  unfold goneP at h
  split at h
  · exact List.mem_cons_of_mem _ h
  · rcases List.mem_cons.1 h with h|h
    · exact h▸List.mem_cons_self ..
    · exact List.mem_cons_of_mem _ (goneP_sub h)
theorem goneP_len {x:List Int}: ∀ {ha:List Sr},(goneP x ha).length≤ha.length
 | []=>Nat.le_refl _
 |a::l=>by
  unfold goneP
  split
  · simp
  · simpa using goneP_len (ha:=l)
theorem ahd_in {P:List Int→Prop} (h1: ∀c∈cs,P c) (h2: ∀s∈al,P s.2): ∀ {i:Nat},i≤al.length→∀x∈ahd cs al i,P x.1
 |0,_,x,hx=>by
  unfold ahd srcF at hx
  obtain ⟨j,hj,rfl⟩:=List.mem_map.1 hx
  exact h1 _ (getD_mem2 (List.mem_range.1 hj))
 |i+1,hi,x,hx=>by
  unfold ahd stepS at hx
  split at hx
  · exact ahd_in h1 h2 (by omega) x (goneP_sub hx)
  · rcases List.mem_append.1 hx with hx|hx
    · exact ahd_in h1 h2 (by omega) x hx
    · rw [List.mem_singleton] at hx;rw [hx]
      exact h2 _ (by simp [List.getD,show i<al.length by omega])
theorem ahd_len: ∀ {i:Nat},(ahd cs al i).length≤cs.length+i
 |0=>by unfold ahd;rw [srcF_len];omega
 |i+1=>by
  have ih:=ahd_len (i:=i)
  unfold ahd stepS
  split
  · have:=goneP_len (x:=(al.getD i st0).2) (ha:=ahd cs al i);omega
  · rw [List.length_append,List.length_singleton];omega
end
section
variable {W w w' w0 w2 w3 u:World} {p q:Option Addr} {n m d i c:Nat} {k:Int} {cs:List (List Int)} {l:List Int} {al:List Stp} {S s:Bool × Int→Prop}
theorem getD_map1 {α β:Type} (f:α→β) (l:List α) (k:Nat) (d:β) (d':α) (h:k<l.length):(l.map f).getD k d=f (l.getD k d'):=by simp [List.getD,h]
theorem ndK_uB: ∀ {i:Nat} {K:List Nat},uB (cs.take i++K.map fun j=>cs.getD j []) l→uB ((ndK cs l i K).map fun j=>cs.getD j []) l
 |0,K,h=>by rw [List.take_zero,List.nil_append] at h;exact h
 |i+1,K,h=>by
  by_cases hu:uB (cs.take i++K.map fun j=>cs.getD j []) l
  · rw [ndK_in hu];exact ndK_uB hu
  · rw [ndK_out hu]
    refine ndK_uB (uB_mono (fun x hx=> ?_) h)
    rcases List.mem_append.1 hx with hx|hx
    · rw [List.mem_take_iff_getElem] at hx
      obtain ⟨j,hj,rfl⟩:=hx
      by_cases e:j<i
      · exact List.mem_append_left _ (by rw [List.mem_take_iff_getElem];exact ⟨j,by omega,rfl⟩)
      · obtain rfl:j=i:=by omega
        refine List.mem_append_right _ ?_
        rw [List.map_cons]
        exact List.mem_cons.2 (.inl (by simp [List.getD,show j<cs.length by omega]))
    · exact List.mem_append_right _ (by rw [List.map_cons];exact List.mem_cons_of_mem _ hx)
theorem ahd_org: ∀ {i:Nat},∀x∈ahd cs al i,(∃j:Nat,j<cs.length∧x=(cs.getD j [],false,(j:Int)))∨∃j:Nat,j<i∧(al.getD j st0).1=false∧x=((al.getD j st0).2,true,(j:Int))
 |0,x,hx=>by
  unfold ahd srcF at hx
  obtain ⟨j,hj,rfl⟩:=List.mem_map.1 hx
  exact .inl ⟨j,List.mem_range.1 hj,rfl⟩
 |i+1,x,hx=>by
  have up: ∀x∈ahd cs al i,(∃j:Nat,j<cs.length∧x=(cs.getD j [],false,(j:Int)))∨∃j:Nat,j<i+1∧(al.getD j st0).1=false∧x=((al.getD j st0).2,true,(j:Int)):=fun x hx=>by
   rcases ahd_org x hx with h| ⟨j,h1,h2⟩
   · exact .inl h
   · exact .inr ⟨j,by omega,h2⟩
  unfold ahd stepS at hx
  split at hx
  · exact up x (goneP_sub hx)
  · rename_i h
    rcases List.mem_append.1 hx with hx|hx
    · exact up x hx
    · rw [List.mem_singleton] at hx
      exact .inr ⟨i,by omega,by simpa using h,hx⟩
noncomputable def ndA (cs:List (List Int)) (al:List Stp) (i:Nat):List Nat:=ndK ((ahd cs al i).map (·.1)) (al.getD i st0).2 (ahd cs al i).length []
theorem ndA_lt {j:Nat} (h:j∈ndA cs al i):j< (ahd cs al i).length:=by
 have:=(ndK_ris (cs:=(ahd cs al i).map (·.1)) (c:=(al.getD i st0).2) (n:=(ahd cs al i).length) (by simp) (i:=(ahd cs al i).length) (K:= []) (Nat.le_refl _) ⟨fun j hj=>by simp at hj,.nil⟩).1
 exact (this.1 j h).2
def ndN (cs:List (List Int)) (al:List Stp) (i:Nat) (s:Bool × Int→Prop) (x:Bool × Int):Prop:=s x∨(s (true,(i:Int))∧∃j∈ndA cs al i,((ahd cs al i).getD j sr0).2=x)
def ndS (cs:List (List Int)) (al:List Stp):Nat→(Bool × Int→Prop)→(Bool × Int→Prop)
 |0,s=>s
 |i+1,s=>ndS cs al i (ndN cs al i s)
def ndF (cs:List (List Int)) (al:List Stp) (t:Nat):Bool × Int→Prop:=ndS cs al (t+1) fun x=>x=(true,(t:Int))
theorem ndS_up: ∀ {n:Nat} {s:Bool × Int→Prop} {x:Bool × Int},s x→ndS cs al n s x
 |0,_,_,h=>h
 |n+1,s,x,h=>by
  rw [ndS]
  exact ndS_up (.inl h)
theorem ndA_org {j:Nat} (h:j∈ndA cs al i):(∃a:Nat,a<cs.length∧(ahd cs al i).getD j sr0=(cs.getD a [],false,(a:Int)))∨∃a:Nat,a<i∧(al.getD a st0).1=false∧(ahd cs al i).getD j sr0=((al.getD a st0).2,true,(a:Int)):=
 ahd_org _ (by simp [List.getD,ndA_lt h])
theorem ndN_high {n j:Nat} (hj:n≤j) (h:ndN cs al n s (true,(j:Int))):s (true,(j:Int)):=by
 rcases h with h| ⟨_,k,hk,e⟩
 · exact h
 · rcases ndA_org hk with ⟨a,_,e2⟩| ⟨a,ha,_,e2⟩
   · rw [e2] at e;cases e
   · rw [e2] at e
     injection e with _ e
     omega
theorem ndS_high: ∀ {n:Nat} {s:Bool × Int→Prop} {j:Nat},n≤j+1→ndS cs al n s (true,(j:Int))→s (true,(j:Int))
 |0,_,_,_,h=>h
 |n+1,s,j,hj,h=>by
  rw [ndS] at h
  exact ndN_high (by omega) (ndS_high (by omega) h)
theorem ndS_shut: ∀ {n:Nat} {s:Bool × Int→Prop} {i:Nat},i<n→ndS cs al n s (true,(i:Int))→∀j∈ndA cs al i,ndS cs al n s ((ahd cs al i).getD j sr0).2
 |0,_,_,h,_=>by omega
 |n+1,s,i,hi,h=>by
  rw [ndS] at h ⊢
  by_cases e:i=n
  · subst e
    have h1:=ndN_high (Nat.le_refl _) (ndS_high (by omega) h)
    exact fun j hj=>ndS_up (.inr ⟨h1,j,hj,rfl⟩)
  · exact ndS_shut (by omega) h
def orgOk (cs:List (List Int)) (al:List Stp) (t:Nat) (x:Bool × Int):Prop:=(∃a:Nat,a<cs.length∧x=(false,(a:Int)))∨∃a:Nat,a≤t∧(al.getD a st0).1=false∧x=(true,(a:Int))
theorem ndN_ok {t:Nat} (hi:i≤t) (h: ∀x,s x→orgOk cs al t x): ∀x,ndN cs al i s x→orgOk cs al t x:=by
 rintro x (hx| ⟨_,j,hj,rfl⟩)
 · exact h x hx
 · rcases ndA_org hj with ⟨a,ha,e⟩| ⟨a,ha,hd,e⟩
   · rw [e];exact .inl ⟨a,ha,rfl⟩
   · rw [e];exact .inr ⟨a,by omega,hd,rfl⟩
theorem ndS_ok {t:Nat}: ∀ {n:Nat} {s:Bool × Int→Prop},n≤t+1→(∀x,s x→orgOk cs al t x)→∀x,ndS cs al n s x→orgOk cs al t x
 |0,_,_,h=>h
 |n+1,s,hn,h=>by
  rw [ndS]
  exact ndS_ok (by omega) (ndN_ok (by omega) h)
theorem ndF_ok {t:Nat} (ht:EndAt al t): ∀x,ndF cs al t x→orgOk cs al t x:=
 ndS_ok (Nat.le_refl _) fun x hx=> .inr ⟨t,Nat.le_refl _,ht.2.1.1,hx⟩
theorem ndF_end {t:Nat}:ndF cs al t (true,(t:Int)):=ndS_up rfl
open Classical in
noncomputable def corC (cs:List (List Int)) (al:List Stp) (t:Nat):List Nat:=(List.range cs.length).filter fun i=>decide (ndF cs al t (false,(i:Int)))
open Classical in
noncomputable def corS (cs:List (List Int)) (al:List Stp) (t:Nat):List Nat:=(List.range (t+1)).filter fun i=>decide (ndF cs al t (true,(i:Int)))
theorem mem_corC {t j:Nat}:j∈corC cs al t↔j<cs.length∧ndF cs al t (false,(j:Int)):=by unfold corC;simp
theorem mem_corS {t j:Nat}:j∈corS cs al t↔j≤t∧ndF cs al t (true,(j:Int)):=by unfold corS;simp;omega
theorem corC_ris {t:Nat}:(corC cs al t).Pairwise (·< ·):=List.Pairwise.filter _ List.pairwise_lt_range
theorem corS_ris {t:Nat}:(corS cs al t).Pairwise (·< ·):=List.Pairwise.filter _ List.pairwise_lt_range
theorem corC_len {t:Nat}:(corC cs al t).length≤cs.length:=by
 have:=List.length_filter_le (fun i:Nat=> @decide (ndF cs al t (false,(i:Int))) (Classical.propDecidable _)) (List.range cs.length)
 rw [List.length_range] at this
 exact this
theorem corS_len {t:Nat}:(corS cs al t).length≤t+1:=by
 have:=List.length_filter_le (fun i:Nat=> @decide (ndF cs al t (true,(i:Int))) (Classical.propDecidable _)) (List.range (t+1))
 rw [List.length_range] at this
 exact this
theorem corS_end {t:Nat}:t∈corS cs al t:=mem_corS.2 ⟨Nat.le_refl _,ndF_end⟩
def corH (cs:List (List Int)) (al:List Stp) (C T:List Nat) (j:Nat):List (List Int):=(C.map fun i=>cs.getD i [])++ (T.take j).map fun i=> (al.getD i st0).2
theorem mem_take_ris {T:List Nat} (hr:T.Pairwise (·< ·)) {j a:Nat} (hj:j<T.length) (ha:a∈T) (h:a<T.getD j 0):a∈T.take j:=by
 obtain ⟨i,hi,rfl⟩:=List.mem_iff_getElem.1 ha
 rw [List.mem_take_iff_getElem]
 refine ⟨i,?_,rfl⟩
 rw [List.pairwise_iff_getElem] at hr
 by_cases e:i<j
 · omega
 · exfalso
   by_cases e2:i=j
   · subst e2
     simp [List.getD,hi] at h
   · have:=hr j i hj hi (by omega)
     simp [List.getD,hj] at h
     omega
theorem cor_uB {t:Nat} (ht:EndAt al t) (hp: ∀i,i≤t→(al.getD i st0).1=true∨uB ((ahd cs al i).map (·.1)) (al.getD i st0).2) {j:Nat} (hj:j< (corS cs al t).length):
 uB (corH cs al (corC cs al t) (corS cs al t) j) (al.getD ((corS cs al t).getD j 0) st0).2:=by
 have hm:(corS cs al t).getD j 0∈corS cs al t:=by simp [List.getD,hj]
 obtain ⟨hle,hnd⟩:=mem_corS.1 hm
 have hdel:(al.getD ((corS cs al t).getD j 0) st0).1=false:=by
  rcases ndF_ok ht _ hnd with ⟨a,_,e⟩| ⟨a,_,hd,e⟩
  · cases e
  · injection e with _ e
    have:(corS cs al t).getD j 0=a:=by omega
    rw [this];exact hd
 have hu:=(hp _ hle).resolve_left (by rw [hdel];decide)
 have h2:=ndK_uB (cs:=(ahd cs al ((corS cs al t).getD j 0)).map (·.1)) (i:=(ahd cs al ((corS cs al t).getD j 0)).length) (K:= []) (l:=(al.getD ((corS cs al t).getD j 0) st0).2) (by rw [List.take_of_length_le (by rw [List.length_map];exact Nat.le_refl _),List.map_nil,List.append_nil];exact hu)
 refine uB_mono (fun x hx=> ?_) h2
 obtain ⟨k,hk,rfl⟩:=List.mem_map.1 hx
 have hk:k∈ndA cs al ((corS cs al t).getD j 0):=hk
 have hsh:=ndS_shut (by omega) hnd k hk
 have e1:((ahd cs al ((corS cs al t).getD j 0)).map (·.1)).getD k []=((ahd cs al ((corS cs al t).getD j 0)).getD k sr0).1:=by
  exact getD_map1 _ _ _ _ _ (ndA_lt hk)
 rw [e1]
 unfold corH
 rcases ndA_org hk with ⟨a,ha,e⟩| ⟨a,ha,hd,e⟩
 · rw [e] at hsh ⊢
   exact List.mem_append_left _ (List.mem_map.2 ⟨a,mem_corC.2 ⟨ha,hsh⟩,rfl⟩)
 · rw [e] at hsh ⊢
   exact List.mem_append_right _ (List.mem_map.2 ⟨a,mem_take_ris corS_ris hj (mem_corS.2 ⟨by omega,hsh⟩) ha,rfl⟩)
end
section
variable {W w w' w0 w2 w3 u:World} {p q:Option Addr} {n m d i c:Nat} {k:Int} {hs:List Sl} {cs:List (List Int)} {l:List Int} {ss:List So} {al:List Stp}
theorem SV.take (h:SV w p al) (k:Nat):SV w p (al.take k):=by
 intro i hi
 rw [List.length_take] at hi
 have e:(al.take k).getD i st0=al.getD i st0:=by
  simp only [List.getD_eq_getElem?_getD,List.getElem?_take];rw [if_pos (by omega)]
 rw [e]
 exact h i (by omega)
theorem ep2 (p:Option Addr):p.map (·.add (0*2))=p:=by cases p<;>simp [Addr.add]
theorem mayP_all (h:mayP al=true): ∀s∈al,clB s.2=true:=by
 unfold mayP at h
 rw [List.all_eq_true] at h
 exact h
theorem mem_st {j:Nat} (h:j<al.length):al.getD j st0∈al:=by simp [List.getD,h]
theorem cnf_cl (h:cnfB k cs=true): ∀c∈cs,clB c=true:=by
 unfold cnfB at h
 rw [Bool.and_eq_true,List.all_eq_true] at h
 intro c hc
 have:=h.2 c hc
 rw [Bool.and_eq_true] at this
 exact this.1
theorem cnf_k (h:cnfB k cs=true):0≤k∧k≤1048576:=by
 unfold cnfB at h
 rw [Bool.and_eq_true,decide_eq_true_eq] at h
 exact ⟨h.1.1,h.1.2.1⟩
def gtV (k:Int) (al:List Stp):Int:=(al.map (·.2)).foldl vmx k
theorem cnf_any {cs':List (List Int)} (h1:cnfB k cs=true) (h2:mayP al=true) (hn:cs'.length≤262144) (hc: ∀c∈cs',c∈cs∨c∈al.map (·.2)):cnfB (gtV k al) cs'=true:=by
 have hk:=cnf_k h1
 have hL:=cnf_lits h1
 have ge:=fold_ge k (al.map (·.2))
 have le:=fold_le (v:=k) (B:=1048576) hk.2 (cs:=al.map (·.2)) fun c hc x hx=>by
  obtain ⟨s,hs,rfl⟩:=List.mem_map.1 hc
  exact litB_amt ((clB_all (mayP_all h2 s hs)).1 x hx)
 unfold cnfB
 rw [Bool.and_eq_true,decide_eq_true_eq,List.all_eq_true]
 refine ⟨⟨by unfold gtV;omega,by unfold gtV;omega,hn⟩,fun c hc'=> ?_⟩
 rw [Bool.and_eq_true,List.all_eq_true]
 rcases hc c hc' with h|h
 · exact ⟨cnf_cl h1 c h,fun x hx=>by rw [decide_eq_true_eq];have:=((hL c h).2 x hx).2;unfold gtV;omega⟩
 · refine ⟨?_,fun x hx=>by rw [decide_eq_true_eq];exact ge.2 c h x hx⟩
   obtain ⟨s,hs,rfl⟩:=List.mem_map.1 h
   exact mayP_all h2 s hs
theorem ahd_all (h1: ∀c∈cs,clB c=true) (h2:mayP al=true) (hi:i≤al.length): ∀y∈ahd cs al i,clB y.1=true:=ahd_in (P:=fun c=>clB c=true) h1 (mayP_all h2) hi
theorem ahd_cls (hi:i≤al.length): ∀c∈(ahd cs al i).map (·.1),c∈cs∨c∈al.map (·.2):=by
 intro c hc
 obtain ⟨x,hx,rfl⟩:=List.mem_map.1 hc
 exact ahd_in (P:=fun c=>c∈cs∨c∈al.map (·.2)) (fun c h=> .inl h) (fun s h=> .inr (List.mem_map_of_mem h)) hi x hx
theorem ahd_succ:ahd cs al (i+1)=stepS (ahd cs al i) i (al.getD i st0):=rfl
theorem ahd_del (h:(al.getD i st0).1=true):ahd cs al (i+1)=goneP (al.getD i st0).2 (ahd cs al i):=by rw [ahd_succ,stepS,if_pos h]
theorem ahd_add (h:(al.getD i st0).1=false):ahd cs al (i+1)=ahd cs al i++ [((al.getD i st0).2,true,(i:Int))]:=by rw [ahd_succ,stepS,if_neg (by rw [h];decide)]
theorem plainB_ok {e:Nat} (hc:V2 (Value.int .i64) w p hs cs) (hn:n=cs.length) (hx:cs.length+m<262144) (hl:SV w q al) (hm:m=al.length) (hme:m≤e):
 Calls prog drat_Plain.id #[.agg #[.int .i64 k,.slice p n d],.slice q m e] w fun e w'=> ∃r:Bool,e= .returned (.bool r)∧(r=true↔cnfB k cs=true∧mayP al=true∧plainP cs al)∧Grow w w':=by
 subst hn hm
 have no: ∀ {u:World},¬(cnfB k cs=true∧mayP al=true∧plainP cs al)→Grow w u→∃r:Bool,Ending.returned (Value.bool false)= .returned (.bool r)∧(r=true↔cnfB k cs=true∧mayP al=true∧plainP cs al)∧Grow w u:=fun h g=> ⟨false,rfl,⟨fun e=> (by cases e),fun e=>absurd e h⟩,g⟩
 refine drat_Plain.calls ?_
 intro n1 w2 h2
 refine ⟨_,_,_,_,cells2 h2.has,(checkCnf_ok (hc.grow h2.mod) rfl).mono ?_⟩
 rintro e5 w5 ⟨rfl,g5⟩
 have G5:=h2.mod.trans g5
 refine ⟨_,rfl,?_⟩
 cases hcn:cnfB k cs with
 |false=>exact cnd_t rfl (by have:= @no w5 (fun h=>by rw [hcn] at h;cases h.1) G5;rwa [hcn] at this)
 |true=>
 refine cnd_f rfl ((traceCheck_ok (hl.grow G5) rfl (by omega)).mono ?_)
 rintro e7 w7 ⟨rfl,g7⟩
 have G7:=G5.trans g7
 refine ⟨_,rfl,?_⟩
 cases hmy:mayP al with
 |false=>exact cnd_t rfl (by have:= @no w7 (fun h=>by rw [hmy] at h;cases h.2.1) G7;rwa [hmy,hcn] at this)
 |true=>
 rw [hcn,hmy] at no
 refine cnd_f rfl ((end_ok (hl.grow G7) rfl (by omega)).mono ?_)
 rintro e9 w9 ⟨g9,⟨hno,rfl⟩| ⟨t,ht,rfl⟩⟩
 · exact ⟨_,rfl,cnd_t rfl (no (fun ⟨_,_,t,ht,_⟩=>hno t ht.1 ht.2.1) (G7.trans g9))⟩
 have G9:=G7.trans g9
 have b9:=(h2.has.grow (g5.trans g7)).grow g9
 have htl:=ht.1
 refine ⟨_,rfl,cnd_f (by simp) ⟨_,_,_,_,cells2 b9,(greatest_ok (p:=p) (n:=cs.length) (d:=d) (hl.grow G9) rfl (by omega) (mayP_all hmy)).mono ?_⟩⟩
 rintro e13 w13 ⟨rfl,g13⟩
 have G13:=G9.trans g13
 have b13:=b9.grow g13
 refine ⟨_,rfl,_,_,_,_,cells2 b13,(sources_ok (k:=k) (hc.grow G13) rfl (by omega)).mono ?_⟩
 rintro e17 w17 ⟨q0,d0,ss0,rfl,o0,sw0,g17,f0⟩
 refine ⟨_,_,_,rfl,?_⟩
 rw [wN (x:=(t:Int)+1) (i:=t+1) (by omega) (by omega)]
 refine slK_i 0 (t+1) e rfl rfl rfl (by omega) (by omega) (by omega) ?_
 have ei:(if e=0 then q else q.map (·.add (0*2)))=q:=by split;rfl;exact ep2 q
 rw [ei,Nat.sub_zero]
 have hl13:=hl.grow G13
 have hcl:=cnf_cl hcn
 refine ⟨fun P N C I u z=> ∃ (i:Nat) (ss:List So),I=i∧i≤t+1∧z=t+1 - i∧N=(ahd cs al i).length∧Grow w13 u∧Row 3 soE ty_drat_source u P C ss∧SW w13 ss (ahd cs al i)∧(∀j,blk P=some j→w13.heap.size≤j)∧∀j,j<i→(al.getD j st0).1=true∨uB ((ahd cs al j).map (·.1)) (al.getD j st0).2,
  ⟨_,0,ss0,rfl,Nat.zero_le _,rfl,by show _=(srcF cs cs.length).length;rw [srcF_len],g17,o0,sw0,f0,fun j hj=>by omega⟩,?_⟩
 rintro P N C I u z _ ⟨i,ss,rfl,hi,rfl,rfl,gu,o,sw,fo,hall⟩
 have Gu:=G13.trans gu
 have hal:=ahd_len (cs:=cs) (al:=al) (i:=i)
 refine cnd_i (fun r=> ?_) (fun r=> ?_)
 · have r:i<t+1:=by rw [decide_eq_true_eq] at r;omega
   have hmem:=mem_st (al:=al) (j:=i) (by omega)
   have hcl2:=mayP_all hmy _ hmem
   have hcl4:=clB_all hcl2
   have et:(al.take (t+1)).getD i st0=al.getD i st0:=by
    simp only [List.getD_eq_getElem?_getD,List.getElem?_take];rw [if_pos (by omega)]
   refine (hl13.take (t+1)).ix gu (by rw [List.length_take];omega) (by rw [List.length_take];omega) fun a s hcA h1 h2' h3=> ⟨_,_,_,_,hcA u gu,?_⟩
   rw [et] at h1 h3 ⊢
   intro n29 w30 h30
   have e29:=h30.num
   refine store_i h30.has rfl rfl fun w31 b31 m31=> ⟨_,cell_add b31 rfl,?_⟩
   have g31:Grow u w31:=h30.mod.then m31 fun j hj e=>by omega
   have z13:=gu.size
   refine cnd_i (fun r2=> ⟨_,_,_,cell_add b31 rfl,?_⟩) (fun r2=> ?_)
   · have hd:(al.getD i st0).1=true:=by simpa using r2
     refine (gone_ok (o.grow g31) sw (gu.trans g31) rfl (by omega) (ahd_all hcl hmy (by omega)) h3 h1 hcl2 (by have:=o.cap;have:=sw.n;omega)).mono ?_
     rintro e34 w34 ⟨q',d',tt,rfl,o34,sw34,g34,hc34,f34⟩
     refine ⟨_,_,_,rfl,_,by omega,i+1,tt,wN (by omega) (by omega),r,rfl,by rw [ahd_del hd],(gu.trans g31).trans g34,o34,by rw [ahd_del hd];exact sw34,fun j hj=> ?_,fun j hj=> ?_⟩
     · have:=g31.size
       rcases f34 j hj with h|h
       · exact fo j h
       · omega
     · by_cases e:j<i
       · exact hall j e
       · obtain rfl:j=i:=by omega
         exact .inl hd
   · have hd:(al.getD i st0).1=false:=by simpa using r2
     have gd:Grow w31 w31.drew:=(Mod.refl w31).drew
     refine ⟨Grow w31,gd,cnd_f (by simp;omega) ((clauses8_ok (o.grow (g31.trans gd)) sw ((gu.trans g31).trans gd) rfl (by omega)).mono ?_)⟩
     rintro e37 w37 ⟨q37,d37,ks,rfl,v37,g37⟩
     have g37:=gd.trans g37
     refine ⟨_,_,_,rfl,g37,_,_,_,fun v g=>cell_add (b31.grow g) rfl,?_⟩
     have G37:Grow w13 w37:=(gu.trans g31).trans g37
     refine (rupUnitB_ok (k:=gtV k al) v37 (by rw [List.length_map]) (fun _ _=>by rw [List.length_map];omega) (h3.grow G37) h1 h2').mono ?_
     rintro e40 w40 ⟨rr,rfl,hr,g40⟩
     have hcnf:cnfB (gtV k al) ((ahd cs al i).map (·.1))=true:=cnf_any hcn hmy (by rw [List.length_map];omega) (ahd_cls (by omega))
     refine ⟨_,rfl,cnd_i (fun r3=> ?_) (fun r3=> ?_)⟩
     · refine no (fun ⟨_,_,t',ht',hp⟩=> ?_) ((G13.trans G37).trans g40)
       obtain rfl:=ht.uniq ht'
       have hu:=(hp i (by omega)).resolve_left (by rw [hd];decide)
       rw [hr.2 ⟨hcnf,hcl2,hu⟩] at r3
       cases r3
     · obtain ⟨_,_,hu⟩:=hr.1 (by simpa using r3)
       have b40:=(b31.grow g37).grow g40
       refine ⟨_,_,_,cell_add b40 rfl,?_⟩
       intro n43 w44 h44
       have e43:=h44.num
       have G44:Grow u w44:=((g31.trans g37).trans g40).trans h44.mod
       have zu:=G44.size
       have z40:=((g31.trans g37).trans g40).size
       refine Row.app soEnc sl_src (o.grow G44) (has_vr (s:=(s,true,(i:Int))) h44.has) sw.n.symm rfl (by have:=sw.n;simp;omega) fun w45 p' c' o45 m45 hp' hz'=> ?_
       refine ⟨_,by omega,i+1,_,wN (by omega) (by omega),r,rfl,by rw [ahd_add hd];simp [sw.n],(gu.trans G44).then m45 fun j hj e=>by have:=fo j e;omega,o45,by rw [ahd_add hd];exact sw.app (SW.one rfl h1 h2' h3),fun j hj=> ?_,fun j hj=> ?_⟩
       · rcases hp' with rfl|rfl
         · exact fo j hj
         · have:=blk_some hj;omega
       · by_cases e:j<i
         · exact hall j e
         · obtain rfl:j=i:=by omega
           exact .inr hu
 · have r:i=t+1:=by simp at r;omega
   subst r
   exact ⟨true,rfl,⟨fun _=> ⟨rfl,rfl,t,ht,fun i hi=>hall i (by omega)⟩,fun _=>rfl⟩,Gu⟩
end
end Go.Proofs.YtbdghpjnifjlmaaGreat.W
