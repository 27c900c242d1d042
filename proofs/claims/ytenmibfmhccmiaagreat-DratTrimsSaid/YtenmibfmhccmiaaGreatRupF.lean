/- Layer 7: a short proof proves; which clauses are at hand; what a step does; where a proof ends. -/
import Derived.Test.YtenmibfmhccmiaaGreatRupE
import Derived.Test.YtenmibfmhccmiaaGreatRupD
import Derived.Test.YtenmibfmhccmiaaGreatLitA
import Derived.Test.YtenmibfmhccmiaaGreatLitB
set_option linter.unusedVariables false
set_option linter.unusedSimpArgs false
namespace Go.Proofs.YtenmibfmhccmiaaGreat.W
open Go Go.Fw Go.RowKit Go.SoP Go.LiP
variable {W w w' w0 w2 w3 u0 u u':World} {p q:Option Addr} {n m c d:Nat} {k:Int} {hs ks:List Sl} {cs:List (List Int)} {l:List Int}
theorem has_vw {α:Type} {f:α→Value} {b:Nat} {a:Array Value} {l:List α} (h:Has w b a) (hc:a.toList=l.map f):Vw f w (some ⟨b,0,none⟩) l:=by
 intro j hj
 refine ⟨_,rfl,cell_add h ?_⟩
 rw [Nat.zero_add,← Array.getElem?_toList,hc,List.getElem?_map,List.getElem?_eq_getElem hj]
 rfl
end Go.Proofs.YtenmibfmhccmiaaGreat.W
namespace Go.Proofs.YtenmibfmhccmiaaGreat.W
open Go Go.Fw Go.RowKit Go.SoP Go.LiP
variable {cs:List (List Int)} {c d T:List Int} {P:Int→Prop}
def Hol (P:Int→Prop) (cs:List (List Int)):Prop:= ∀c∈cs,∃x∈c,P x
structure Asg (P:Int→Prop):Prop where
 con: ∀x,P (-x)→¬P x
 tot: ∀x,x≠0→P x∨P (-x)
theorem fol_true (hz:NZ cs) (hP: ∀x,P (-x)→¬P x) (hcs:Hol P cs) (hd: ∀x∈d,P x) (h:Fol cs d T): ∀x∈T,P x:=by
 induction h with
 |refl=>exact hd
 |step h1 h2 h3 ih=>
  rename_i t c
  intro x hx
  rcases List.mem_append.1 hx with hx|hx
  · exact ih x hx
  · rw [List.mem_singleton] at hx
    obtain ⟨a1,a2,a3,a4⟩:=unitF_ne (hz _ h2) h3
    obtain ⟨y,hy,hPy⟩:=hcs _ h2
    rcases a4 y hy with e|e
    · rw [hx,← e];exact hPy
    · exact absurd hPy (hP y (ih _ e))
theorem uB_true (hz:NZ cs) (hP: ∀x,P (-x)→¬P x) (hcs:Hol P cs) (hd: ∀x∈c,P x∨P (-x)) (hu:uB cs c): ∃x∈c,P x:=by
 rcases hu with ht| ⟨T,hF,y,hy,hb⟩
 · obtain ⟨x,hx,hx'⟩:=taut_iff.1 ht
   exact (hd x hx).elim (fun h=> ⟨x,hx,h⟩) fun h=> ⟨-x,hx',h⟩
 · refine Classical.byContradiction fun hno=> ?_
   have hn: ∀x∈negs c,P x:=fun x hx=>by
    rw [mem_negs] at hx
    have:=(hd _ hx).resolve_left fun h=>hno ⟨_,hx,h⟩
    rwa [Int.neg_neg] at this
   have hT:=fol_true hz hP hcs hn hF
   obtain ⟨z,hz',hPz⟩:=hcs y hy
   exact hP z (hT _ (brokenP_iff.1 hb z hz')) hPz
def turn (P:Int→Prop) (l:Int) (x:Int):Prop:=(amt x≠amt l∧P x)∨x=l
theorem turn_asg (h:Asg P) {l:Int} (hl:l≠0):Asg (turn P l):=by
 refine ⟨fun x hx hx'=> ?_,fun x hx=> ?_⟩
 · rcases hx with ⟨a,b⟩|e
   · rcases hx' with ⟨_,b'⟩|e'
     · exact h.con x b b'
     · rw [e',amt_neg] at a;exact a rfl
   · rcases hx' with ⟨a,_⟩|e'
     · rw [← e,amt_neg] at a;exact a rfl
     · omega
 · by_cases e:amt x=amt l
   · rcases amt_eq e with e|e
     · exact .inl (.inr e)
     · exact .inr (.inr (by omega))
   · rcases h.tot x hx with h|h
     · exact .inl (.inl ⟨e,h⟩)
     · exact .inr (.inl ⟨by rw [amt_neg];exact e,h⟩)
theorem fB_true {k:List Int} (hz:NZ cs) (hk: ∀x∈k,x≠0) (h:Asg P) (hcs:Hol P cs) (hf:fB cs k): ∃P',Asg P'∧Hol P' cs∧∃x∈k,P' x:=by
 by_cases hs: ∃x∈k,P x
 · exact ⟨P,h,hcs,hs⟩
 obtain ⟨hne,hall⟩:=hf
 have h0:0<k.length:=List.length_pos_iff.2 hne
 have hm:=getD_mem' h0
 have hl:=hk _ hm
 have hno: ¬P (k.getD 0 0):=fun e=>hs ⟨_,hm,e⟩
 refine ⟨turn P (k.getD 0 0),turn_asg h hl,fun c hc=> ?_,_,hm,.inr rfl⟩
 have ok: ∀x∈c,x≠ -(k.getD 0 0)→P x→∃x∈c,turn P (k.getD 0 0) x:=fun x hx hne hp=> ⟨x,hx,.inl ⟨fun e=> (amt_eq e).elim (fun e=>hno (e▸hp)) hne,hp⟩⟩
 by_cases hin: -(k.getD 0 0)∈c
 · obtain ⟨_,hu⟩:=hall c hc hin
   have hnz: ∀x∈resF k c,x≠0:=fun x hx=>by
    unfold resF at hx
    rcases List.mem_append.1 hx with h|h
    · exact hk x h
    · exact hz c hc x (mem_wo.1 h).1
   obtain ⟨x,hx,hp⟩:=uB_true hz h.con hcs (fun x hx=>h.tot x (hnz x hx)) hu
   unfold resF at hx
   rcases List.mem_append.1 hx with h|h
   · exact absurd ⟨x,h,hp⟩ hs
   · exact ok x (mem_wo.1 h).1 (mem_wo.1 h).2 hp
 · obtain ⟨x,hx,hp⟩:=hcs c hc
   exact ok x hx (fun e=>hin (e▸hx)) hp
theorem delP_sub {k:List Int}: ∀ {cs:List (List Int)},c∈delP k cs→c∈cs
 | [],h=>h
 |x::l,h=>by
  unfold delP at h
  split at h
  · exact List.mem_cons_of_mem _ h
  · rcases List.mem_cons.1 h with h|h
    · exact h▸List.mem_cons_self ..
    · exact List.mem_cons_of_mem _ (delP_sub h)
theorem step_nz {s:Stp} (hz:NZ cs) (hs: ∀x∈s.2,x≠0):NZ (stepC cs s):=by
 intro c hc
 cases h:s.1 with
 |true=>rw [(step_del (k:=0) h).2.1] at hc;exact hz c (delP_sub hc)
 |false=>
  by_cases h2:uB cs s.2∨fB cs s.2
  · rw [(step_add (k:=0) h h2).2.1] at hc
    rcases List.mem_append.1 hc with hc|hc
    · exact hz c hc
    · rw [List.mem_singleton] at hc;subst hc;exact hs
  · rw [(step_bad (k:=0) h h2).2.1] at hc;exact hz c hc
theorem step_true {s:Stp} (hz:NZ cs) (hs: ∀x∈s.2,x≠0) (h:Asg P) (hcs:Hol P cs) (he:stepE cs s=0): ∃P',Asg P'∧Hol P' (stepC cs s):=by
 cases h1:s.1 with
 |true=>rw [(step_del (k:=0) h1).2.1];exact ⟨P,h,fun c hc=>hcs c (delP_sub hc)⟩
 |false=>
  by_cases h2:uB cs s.2∨fB cs s.2
  · rw [(step_add (k:=0) h1 h2).2.1]
    have fin: ∀ {P'},Hol P' cs→(∃x∈s.2,P' x)→Hol P' (cs++ [s.2]):=fun a b c hc=>by
     rcases List.mem_append.1 hc with hc|hc
     · exact a c hc
     · rw [List.mem_singleton] at hc;subst hc;exact b
    rcases h2 with h2|h2
    · exact ⟨P,h,fin hcs (uB_true hz h.con hcs (fun x hx=>h.tot x (hs x hx)) h2)⟩
    · obtain ⟨P',a,b,c⟩:=fB_true hz hs h hcs h2
      exact ⟨P',a,fin b c⟩
  · rw [(step_bad (k:=0) h1 h2).1] at he;exact absurd he (by decide)
theorem pv_true: ∀ {al:List Stp} {cs:List (List Int)} {P:Int→Prop},NZ cs→(∀s∈al,∀x∈s.2,x≠0)→Asg P→Hol P cs→(pvP cs al).2≠0
 | [],cs,P,_,_,_,_=>by rw [pvP];decide
 |s::l,cs,P,hz,hs,h,hcs=>by
  have hs0:=hs s (List.mem_cons_self ..)
  rw [pvP]
  by_cases he:stepE cs s≠0
  · rw [if_pos he];exact he
  · rw [if_neg he]
    have he:stepE cs s=0:=by omega
    by_cases h1:s.1=false∧s.2= []
    · exfalso
      have hu:uB cs s.2∨fB cs s.2:=Classical.byContradiction fun h2=>by
       rw [(step_bad (k:=0) h1.1 h2).1] at he;exact absurd he (by decide)
      rcases hu with hu|hu
      · obtain ⟨x,hx,_⟩:=uB_true hz h.con hcs (fun x hx=>h.tot x (hs0 x hx)) hu
        rw [h1.2] at hx;simp at hx
      · exact hu.1 h1.2
    · rw [if_neg h1]
      obtain ⟨P',a,b⟩:=step_true hz hs0 h hcs he
      exact pv_true (step_nz hz hs0) (fun s hs'=>hs s (List.mem_cons_of_mem _ hs')) a b
def mdl (m:List Int) (x:Int):Prop:=x≠0∧(decide (m.getD (amt x - 1).toNat 0>0)=decide (x>0))
theorem mdl_asg (m:List Int):Asg (mdl m):=by
 refine ⟨fun x hx hx'=> ?_,fun x hx=> ?_⟩
 · have h1:=hx.2
   have h2:=hx'.2
   have h3:=hx'.1
   rw [amt_neg] at h1
   rw [h1] at h2
   rcases Int.lt_trichotomy x 0 with h|h|h
   · rw [decide_eq_true (by omega),decide_eq_false (by omega)] at h2;cases h2
   · omega
   · rw [decide_eq_false (by omega),decide_eq_true (by omega)] at h2;cases h2
 · unfold mdl
   rw [amt_neg]
   cases hd:decide (m.getD (amt x - 1).toNat 0>0) with
   |true=>
    rcases Int.lt_trichotomy x 0 with h|h|h
    · exact .inr ⟨by omega,by rw [decide_eq_true (by omega)]⟩
    · omega
    · exact .inl ⟨hx,by rw [decide_eq_true (by omega)]⟩
   |false=>
    rcases Int.lt_trichotomy x 0 with h|h|h
    · exact .inl ⟨hx,by rw [decide_eq_false (by omega)]⟩
    · omega
    · exact .inr ⟨by omega,by rw [decide_eq_false (by omega)]⟩
theorem val_mdl {m:List Int} {x:Int} (h:valP m x=1):mdl m x:=by
 unfold valP at h
 split at h
 · omega
 · rename_i h1
   split at h
   · omega
   · split at h
     · rename_i h3
       have hl:litB x=true:=by
        cases hh:litB x with
        |true=>rfl
        |false=>exact absurd (.inl hh) h1
       exact ⟨litB_nz hl,h3⟩
     · omega
theorem holds_hol {m:List Int} (h:holdsP m cs=true):Hol (mdl m) cs:=by
 unfold holdsP at h
 rw [List.all_eq_true] at h
 intro c hc
 obtain ⟨x,hx,e⟩:=List.any_eq_true.1 (h c hc)
 exact ⟨x,hx,val_mdl (by simpa using e)⟩
end Go.Proofs.YtenmibfmhccmiaaGreat.W
namespace Go.Proofs.YtenmibfmhccmiaaGreat.W
open Go Go.Fw Go.RowKit Go.SoP Go.LiP
variable {W w w' w0 w2 w3 u0 u u':World} {p q r:Option Addr} {n m c d:Nat} {k:Int} {hs ks:List Sl} {cs:List (List Int)} {l:List Int}
theorem refSat7_ok {k:Nat} (hk:k≤10) (hc:V2 (Value.int .i64) w p hs cs) (hn:n=cs.length) (hx:n≤maxLen):
 Calls Tryz.prog fathomref01_Sat.id #[.agg #[.int .i64 (k:Int),.slice p n d]] w fun e w'=> ∃ (q:Option Addr) (m c:Nat) (r:Bool),e= .returned (.tuple #[.slice q m c,.bool r])∧(r=true↔∃i,i<2 ^ k∧holdsP (modelP k i) cs=true)∧Grow w w':=by
 refine fathomref01_Sat.calls ?_
 intro n1 w2 h2
 have hp:2 ^ k≤1024:=Nat.pow_le_pow_right (by omega:0<2) hk
 have e2:IntKind.i64.wrap ((1:Int)*2 ^ (min ((k:Int).toNat) (IntKind.bits .i64)))=((2 ^ k:Nat):Int):=by
  have:min ((k:Int).toNat) (IntKind.bits .i64)=k:=by rw [Int.toNat_natCast];exact Nat.min_eq_left (by show k≤64;omega)
  rw [this,Int.one_mul]
  exact wN (by simp) (by omega)
 refine ⟨fun I u z=> ∃i:Nat,I=i∧i≤2 ^ k∧z=2 ^ k - i∧Grow w2 u∧∀j,j<i→holdsP (modelP k j) cs=false,⟨_,0,rfl,Nat.zero_le _,rfl,Mod.refl _,fun j hj=>by omega⟩,?_⟩
 rintro I u z _ ⟨i,rfl,hi,rfl,g,hno⟩
 have bu:=h2.has.grow g
 refine ⟨_,cell_add bu rfl,by omega,?_⟩
 rw [e2]
 refine cnd_i (fun r=> ?_) (fun r=> ?_)
 · have r:i<2 ^ k:=by rw [decide_eq_true_eq] at r;omega
   have gd:Grow w2 u.drew:=g.drew
   have fin: ∀ {v:World},Grow w2 v→∃x16:Int,v.cell? ((Addr.mk n1 0 none).add 0)=some (.int .i64 x16)∧
    Calls Tryz.prog fathomref01_Model.id #[.int .i64 x16,.int .i64 (i:Int)] v fun e w17=> ∃r18_p:Option Addr,∃r18_n:Nat,∃r18_c:Nat,e= .returned (.slice r18_p r18_n r18_c)∧
    (∀_:holdsP (modelP k i) cs=true,∃ (q:Option Addr) (m c:Nat) (r:Bool),Ending.returned (Value.tuple #[.slice r18_p r18_n r18_c,.bool true])= .returned (.tuple #[.slice q m c,.bool r])∧(r=true↔∃i,i<2 ^ k∧holdsP (modelP k i) cs=true)∧Grow w w17):=fun {v} gv=>by
    refine ⟨_,cell_add (h2.has.grow gv) rfl,(refModel_ok (by omega) (by omega) v).mono ?_⟩
    rintro e w17 ⟨⟨p',c',rfl,_,_⟩,g17⟩
    exact ⟨_,_,_,rfl,fun hh=> ⟨_,_,_,true,rfl,⟨fun _=> ⟨i,r,hh⟩,fun _=>rfl⟩,h2.mod.trans (gv.trans g17)⟩⟩
   have next: ∀ {v:World},Grow w2 v→holdsP (modelP k i) cs=false→∃k5,k5<2 ^ k - i∧∃i':Nat,IntKind.i64.wrap ((i:Int)+1)=i'∧i'≤2 ^ k∧k5=2 ^ k - i'∧Grow w2 v∧∀j,j<i'→holdsP (modelP k j) cs=false:=fun {v} gv hh=>by
    refine ⟨_,by omega,i+1,wN (by omega) (by omega),r,rfl,gv,fun j hj=> ?_⟩
    by_cases e:j<i
    · exact hno j e
    · obtain rfl:j=i:=by omega
      exact hh
   refine ⟨_,cell_add (h2.has.grow gd) rfl,⟨_,_,_,_,cells2 (h2.has.grow gd),(refModel_ok (by omega) (by omega) _).mono ?_⟩,(refModel_ok (by omega) (by omega) _).mono ?_⟩
   · rintro e w12 ⟨⟨p',c',rfl,o,_⟩,g12⟩
     refine ⟨_,_,_,rfl,(refHolds_ok (hc.grow (h2.mod.trans (gd.trans g12))) hn hx o.vw (modelP_len k i).symm (by unfold maxLen;omega)).mono ?_⟩
     rintro e w14 ⟨rfl,g14⟩
     refine ⟨_,rfl,cnd_i (fun hh=> ?_) (fun hh=>next ((gd.trans g12).trans g14) hh)⟩
     obtain ⟨x,hx',hcall⟩:=fin ((gd.trans g12).trans g14)
     refine ⟨x,hx',hcall.mono ?_⟩
     rintro e w17 ⟨p2,n2,c2,rfl,hK⟩
     exact ⟨p2,n2,c2,rfl,hK hh⟩
   · rintro e w12 ⟨⟨p',c',rfl,o,_⟩,g12⟩
     refine ⟨_,_,_,rfl,_,_,_,_,cells2 (h2.has.grow (gd.trans g12)),(refHolds_ok (hc.grow (h2.mod.trans (gd.trans g12))) hn hx o.vw (modelP_len k i).symm (by unfold maxLen;omega)).mono ?_⟩
     rintro e w14 ⟨rfl,g14⟩
     refine ⟨_,rfl,cnd_i (fun hh=> ?_) (fun hh=>next ((gd.trans g12).trans g14) hh)⟩
     obtain ⟨x,hx',hcall⟩:=fin ((gd.trans g12).trans g14)
     refine ⟨x,hx',hcall.mono ?_⟩
     rintro e w17 ⟨p2,n2,c2,rfl,hK⟩
     exact ⟨p2,n2,c2,rfl,hK hh⟩
 · have r:i=2 ^ k:=by rw [decide_eq_false_iff_not] at r;omega
   subst r
   exact ⟨_,_,_,false,rfl,⟨fun e=> (by cases e),fun ⟨j,hj,hh⟩=>by rw [hno j hj] at hh;cases hh⟩,h2.mod.trans g⟩
theorem nz_of (h: ∀c∈cs,c.length≤4096∧∀x∈c,litB x=true∧amt x≤k):NZ cs:=fun c hc x hx=>litB_nz ((h c hc).2 x hx).1
end Go.Proofs.YtenmibfmhccmiaaGreat.W
