/- Layer 7: what is at hand by units, plain. -/
import Derived.Test.YtenmibfmhccmiaaGreatPropG
set_option linter.unusedVariables false
set_option linter.unusedSimpArgs false
namespace Go.Proofs.YtenmibfmhccmiaaGreat.W
open Go Go.Fw Go.RowKit Go.SoP Go.LiP
variable {cs:List (List Int)} {c d T T':List Int} {κ:Int→Int}
def Con (T:List Int):Prop:= ∀x∈T,-x ∉ T
def End (cs:List (List Int)) (T:List Int):Prop:= ∀c∈cs,brokenP c T=false∧unitF c T=0
def NZ (cs:List (List Int)):Prop:= ∀c∈cs,∀x∈c,x≠0
def negs (c:List Int):List Int:=c.map fun x=> -x
theorem mem_negs {x:Int}:x∈negs c↔ -x∈c:=by
 unfold negs
 rw [List.mem_map]
 exact ⟨fun ⟨y,hy,e⟩=>by rw [← e,Int.neg_neg];exact hy,fun h=> ⟨-x,h,Int.neg_neg x⟩⟩
theorem fol_pre (h:Fol cs d T): ∀x∈d,x∈T:=by
 induction h with
 |refl=>exact fun _ h=>h
 |step _ _ _ ih=>exact fun x hx=>List.mem_append_left _ (ih x hx)
theorem broken_mono (h: ∀x∈T,x∈T') (hb:brokenP c T=true):brokenP c T'=true:=brokenP_iff.2 fun x hx=>h _ (brokenP_iff.1 hb x hx)
theorem end_unit (hz: ∀x∈c,x≠0) (h1:brokenP c T'=false) (h2:unitF c T'=0) (hc:Con T') (hs: ∀x∈T,x∈T') (hu:unitF c T≠0):unitF c T∈T':=by
 obtain ⟨a1,a2,a3,a4⟩:=unitF_ne hz hu
 rcases Classical.em (unitF c T∈T') with h|h
 · exact h
 · exfalso
   have hn: -(unitF c T) ∉ T':=fun e=>by
    rw [← Bool.not_eq_true,brokenP_iff] at h1
    exact h1 fun y hy=> (a4 y hy).elim (fun e2=>by rw [e2];exact e) fun e2=>hs _ e2
   have:=unitG_is (t:=T') (l:=unitF c T) hu hn c 0 (fun y hy=>by
    rcases a4 y hy with e|e
    · exact ⟨by rw [e];exact h,.inl e⟩
    · exact ⟨fun e2=>hc y e2 (hs _ e),.inr (hs _ e)⟩) (.inr ⟨rfl,a1⟩)
   unfold unitF at h2
   rw [h2] at this
   exact hu this.symm
theorem fol_sub (hz:NZ cs) (hE:End cs T') (hc:Con T') (hd: ∀x∈d,x∈T') (h:Fol cs d T): ∀x∈T,x∈T':=by
 induction h with
 |refl=>exact hd
 |step h1 h2 h3 ih=>
  intro x hx
  rcases List.mem_append.1 hx with hx|hx
  · exact ih x hx
  · rw [List.mem_singleton] at hx
    rw [hx]
    exact end_unit (hz _ h2) (hE _ h2).1 (hE _ h2).2 hc ih h3
theorem fol_con (hz:NZ cs) (hd:Con d) (h:Fol cs d T):Con T:=by
 induction h with
 |refl=>exact hd
 |step h1 h2 h3 ih=>
  rename_i t c
  obtain ⟨_,a2,a3,_⟩:=unitF_ne (hz _ h2) h3
  intro x hx e
  rcases List.mem_append.1 hx with hx|hx
  · rcases List.mem_append.1 e with e|e
    · exact ih x hx e
    · rw [List.mem_singleton] at e
      exact a3 (by rw [← e,Int.neg_neg];exact hx)
  · rw [List.mem_singleton] at hx
    rcases List.mem_append.1 e with e|e
    · rw [hx] at e;exact a3 e
    · rw [List.mem_singleton] at e
      omega
def openN (cs:List (List Int)) (T:List Int):Nat:=(cs.filter fun c=> !c.any fun x=>decide (x∈T)).length
theorem openN_step (hz:NZ cs) (hc:c∈cs) (hu:unitF c T≠0):openN cs (T++ [unitF c T])<openN cs T:=by
 obtain ⟨a1,a2,a3,a4⟩:=unitF_ne (hz _ hc) hu
 unfold openN
 have hsub:(cs.filter fun c'=> !c'.any fun x=>decide (x∈T++ [unitF c T])).length< (cs.filter fun c'=> !c'.any fun x=>decide (x∈T)).length:=by
  rw [← List.countP_eq_length_filter,← List.countP_eq_length_filter]
  have key: ∀l:List (List Int),c∈l→l.countP (fun c'=> !c'.any fun x=>decide (x∈T++ [unitF c T]))<l.countP (fun c'=> !c'.any fun x=>decide (x∈T)):=by
   intro l
   have le: ∀l:List (List Int),l.countP (fun c'=> !c'.any fun x=>decide (x∈T++ [unitF c T]))≤l.countP (fun c'=> !c'.any fun x=>decide (x∈T)):=fun l=>by
    refine List.countP_mono_left fun x _ h=> ?_
    simp only [Bool.not_eq_true',List.any_eq_false,decide_eq_true_eq] at h ⊢
    exact fun y hy e=>h y hy (List.mem_append_left _ e)
   induction l with
   |nil=>intro h;simp at h
   |cons y l ih=>
    intro h
    rw [List.countP_cons,List.countP_cons]
    rcases List.mem_cons.1 h with h|h
    · subst h
      have e1:(!c.any fun x=>decide (x∈T++ [unitF c T]))=false:=by
       simp only [Bool.not_eq_false',List.any_eq_true,decide_eq_true_eq]
       exact ⟨_,a1,by simp⟩
      have e2:(!c.any fun x=>decide (x∈T))=true:=by
       simp only [Bool.not_eq_true',List.any_eq_false,decide_eq_true_eq]
       intro y hy e
       obtain ⟨a,b⟩:=unitG_ne c 0 (hz _ hc) hu
       exact (a y hy).1 e
      have:=le l
      rw [e1,e2,if_neg (by simp),if_pos rfl];omega
    · have:=ih h
      have hm:(if (!y.any fun x=>decide (x∈T++ [unitF c T]))=true then 1 else 0)≤if (!y.any fun x=>decide (x∈T))=true then 1 else 0:=by
       have:=le [y]
       simpa [List.countP_cons] using this
      omega
  exact key cs hc
 exact hsub
theorem fol_end (hz:NZ cs): ∀ (n:Nat) (T:List Int),openN cs T≤n→Fol cs d T→∃T',Fol cs d T'∧((∃x∈cs,brokenP x T'=true)∨End cs T'):=by
 intro n
 induction n with
 |zero=>
  intro T h hF
  rcases Classical.em (∃x∈cs,brokenP x T=true) with hb|hb
  · exact ⟨T,hF,.inl hb⟩
  · refine ⟨T,hF,.inr fun c hc=> ⟨by rw [← Bool.not_eq_true];exact fun e=>hb ⟨c,hc,e⟩,?_⟩⟩
    rcases Classical.em (unitF c T=0) with e|e
    · exact e
    · have:=openN_step hz hc e;omega
 |succ n ih=>
  intro T h hF
  rcases Classical.em (∃x∈cs,brokenP x T=true) with hb|hb
  · exact ⟨T,hF,.inl hb⟩
  rcases Classical.em (∃c∈cs,unitF c T≠0) with ⟨c,hc,e⟩|hn
  · have:=openN_step hz hc e
    exact ih _ (by omega) (.step hF hc e)
  · exact ⟨T,hF,.inr fun c hc=> ⟨by rw [← Bool.not_eq_true];exact fun e=>hb ⟨c,hc,e⟩,Classical.byContradiction fun e=>hn ⟨c,hc,e⟩⟩⟩
def uB (cs:List (List Int)) (c:List Int):Prop:=taut c=true∨∃T,Fol cs (negs c) T∧∃x∈cs,brokenP x T=true
theorem taut_iff:taut c=true↔∃x∈c,-x∈c:=by unfold taut;simp
theorem con_negs (h:taut c=false):Con (negs c):=by
 intro x hx e
 rw [← Bool.not_eq_true,taut_iff] at h
 rw [mem_negs] at hx e
 rw [Int.neg_neg] at e
 exact h ⟨x,e,hx⟩
theorem not_uB (hz:NZ cs) (h:taut c=false) (hF:Fol cs (negs c) T) (hE:End cs T): ¬uB cs c:=by
 rintro (h2| ⟨T',hF',x,hx,hb⟩)
 · rw [h] at h2;cases h2
 · have:=broken_mono (fol_sub hz hE (fol_con hz (con_negs h) hF) (fol_pre hF) hF') hb
   rw [(hE x hx).1] at this
   cases this
theorem uB_end (hz:NZ cs) (h:taut c=false) (hF:Fol cs (negs c) T) (hT:(∃x∈cs,brokenP x T=true)∨End cs T):uB cs c↔∃x∈cs,brokenP x T=true:=by
 rcases hT with hb|hE
 · exact ⟨fun _=>hb,fun _=> .inr ⟨T,hF,hb⟩⟩
 · refine ⟨fun h2=>absurd h2 (not_uB hz h hF hE),fun ⟨x,hx,hb⟩=> ?_⟩
   rw [(hE x hx).1] at hb;cases hb
theorem told_uB {s:PSt} (g:Good s) {r:Int} (ht:Told s r) (hcs: ∀x,x∈cs↔s.cls x) (hnt:taut c=false) (h1: ∀x∈c,-x∈s.R .tr) (h2: ∀x∈s.dec,-x∈c):r≥0↔uB cs c:=by
 have hz:NZ cs:=fun x hx y hy=> (g.clv ((hcs x).1 hx) y hy).1
 obtain ⟨T,hF,hT⟩:=fol_end (cs:=cs) (d:=negs c) hz _ _ (Nat.le_refl _) .refl
 rw [uB_end hz hnt hF hT]
 have hcon:=fol_con hz (con_negs hnt) hF
 have hpre:=fol_pre hF
 rcases ht with ⟨rfl,hC⟩| ⟨i,rfl,hB⟩
 · have hs:=hC.fol g (fun x hx=> (hcs x).1 hx) (fun x hx=>by rw [mem_negs] at hx;have:=h1 _ hx;rwa [Int.neg_neg] at this) hF
   refine ⟨fun h=>by omega,fun ⟨x,hx,hb⟩=> ?_⟩
   rw [hC.notBroken g hs ((hcs x).1 hx)] at hb
   cases hb
 · refine ⟨fun _=> ?_,fun _=>by omega⟩
   rcases hT with hb|hE
   · exact hb
   · exfalso
     have hs:=g.trail_sub (T:=T) (fun x hx=>hpre x (mem_negs.2 (h2 x hx))) hcon fun c hc=>hE c ((hcs c).2 hc)
     have:=(hE _ ((hcs _).2 ⟨i,hB.1,rfl⟩)).1
     rw [← Bool.not_eq_true,brokenP_iff] at this
     exact this fun x hx=>hs _ (hB.2 x hx)
structure Cod (N:Int→Prop) (κ:Int→Int):Prop where
 neg: ∀x,κ (-x)= -κ x
 inj: ∀x y,N x→N y→κ x=κ y→x=y
 nz: ∀x,N x→κ x≠0
 sym: ∀x,N x→N (-x)
 n0: ¬N 0
theorem Cod.z {N:Int→Prop} (h:Cod N κ):κ 0=0:=by have:=h.neg 0;simp at this;omega
theorem Cod.mem {N:Int→Prop} (h:Cod N κ) {x:Int} (hx:N x) (hT: ∀y∈T,N y):κ x∈T.map κ↔x∈T:=by
 rw [List.mem_map]
 exact ⟨fun ⟨y,hy,e⟩=>by rw [← h.inj y x (hT y hy) hx e];exact hy,fun hx=> ⟨x,hx,rfl⟩⟩
theorem Cod.negmem {N:Int→Prop} (h:Cod N κ) {x:Int} (hx:N x) (hT: ∀y∈T,N y): -κ x∈T.map κ↔ -x∈T:=by rw [← h.neg];exact h.mem (h.sym x hx) hT
theorem Cod.unitGE {N:Int→Prop} (h:Cod N κ) (hT: ∀y∈T,N y): ∀ (c:List Int) (o:Int),(∀x∈c,N x)→(o=0∨N o)→unitG (T.map κ) (c.map κ) (κ o)=κ (unitG T c o)
 | [],o,_,_=>rfl
 |x::c,o,hc,ho=>by
  have hx:=hc x (List.mem_cons_self ..)
  have hc': ∀y∈c,N y:=fun y hy=>hc y (List.mem_cons_of_mem _ hy)
  rw [List.map_cons]
  unfold unitG
  have e1:κ x∈T.map κ↔x∈T:=h.mem hx hT
  have e2:(-κ x∈T.map κ∨κ x=κ o)↔(-x∈T∨x=o):=by
   rw [h.negmem hx hT]
   refine or_congr Iff.rfl ⟨fun e=> ?_,fun e=>by rw [e]⟩
   rcases ho with rfl|ho
   · rw [h.z] at e;exact absurd e (h.nz x hx)
   · exact h.inj x o hx ho e
  have e3:κ o≠0↔o≠0:=by
   rcases ho with rfl|ho
   · rw [h.z]
   · exact ⟨fun _ e=>h.n0 (e▸ho),fun _=>h.nz o ho⟩
  by_cases a1:x∈T
  · rw [if_pos (e1.2 a1),if_pos a1,h.z]
  · rw [if_neg (fun e=>a1 (e1.1 e)),if_neg a1]
    by_cases a2: -x∈T∨x=o
    · rw [if_pos (e2.2 a2),if_pos a2];exact h.unitGE hT c o hc' ho
    · rw [if_neg (fun e=>a2 (e2.1 e)),if_neg a2]
      by_cases a3:o≠0
      · rw [if_pos (e3.2 a3),if_pos a3,h.z]
      · rw [if_neg (fun e=>a3 (e3.1 e)),if_neg a3];exact h.unitGE hT c x hc' (.inr hx)
theorem Cod.unitFE {N:Int→Prop} (h:Cod N κ) (hT: ∀y∈T,N y) (hc: ∀x∈c,N x):unitF (c.map κ) (T.map κ)=κ (unitF c T):=by
 have:=h.unitGE hT c 0 hc (.inl rfl)
 rw [h.z] at this
 exact this
theorem Cod.broken {N:Int→Prop} (h:Cod N κ) (hT: ∀y∈T,N y) (hc: ∀x∈c,N x):brokenP (c.map κ) (T.map κ)=brokenP c T:=by
 rw [Bool.eq_iff_iff,brokenP_iff,brokenP_iff]
 constructor
 · intro hb x hx
   exact (h.negmem (hc x hx) hT).1 (hb _ (List.mem_map_of_mem hx))
 · intro hb y hy
   obtain ⟨x,hx,rfl⟩:=List.mem_map.1 hy
   exact (h.negmem (hc x hx) hT).2 (hb x hx)
theorem Cod.tautE {N:Int→Prop} (h:Cod N κ) (hc: ∀x∈c,N x):taut (c.map κ)=taut c:=by
 rw [Bool.eq_iff_iff,taut_iff,taut_iff]
 constructor
 · rintro ⟨y,hy,h2⟩
   obtain ⟨x,hx,rfl⟩:=List.mem_map.1 hy
   exact ⟨x,hx,(h.negmem (hc x hx) hc).1 h2⟩
 · rintro ⟨x,hx,h2⟩
   exact ⟨κ x,List.mem_map_of_mem hx,(h.negmem (hc x hx) hc).2 h2⟩
theorem fol_in {N:Int→Prop} (hz:NZ cs) (hcs: ∀c∈cs,∀x∈c,N x) (hd: ∀x∈d,N x) (h:Fol cs d T): ∀x∈T,N x:=by
 induction h with
 |refl=>exact hd
 |step h1 h2 h3 ih=>
  intro x hx
  rcases List.mem_append.1 hx with hx|hx
  · exact ih x hx
  · rw [List.mem_singleton] at hx;rw [hx];exact hcs _ h2 _ (unitF_ne (hz _ h2) h3).1
theorem Cod.fol {N:Int→Prop} (h:Cod N κ) (hz:NZ cs) (hcs: ∀c∈cs,∀x∈c,N x) (hd: ∀x∈d,N x) (hF:Fol cs d T):Fol (cs.map (List.map κ)) (d.map κ) (T.map κ):=by
 induction hF with
 |refl=>exact .refl
 |step h1 h2 h3 ih=>
  rename_i t c
  have hin:=fol_in hz hcs hd h1
  rw [List.map_append,List.map_singleton,← h.unitFE hin (hcs _ h2)]
  refine .step ih (List.mem_map_of_mem h2) ?_
  rw [h.unitFE hin (hcs _ h2)]
  exact h.nz _ (hcs _ h2 _ (unitF_ne (hz _ h2) h3).1)
theorem Cod.negsE {N:Int→Prop} (h:Cod N κ) (c:List Int):negs (c.map κ)=(negs c).map κ:=by
 unfold negs
 rw [List.map_map,List.map_map]
 exact List.map_congr_left fun x _=> (h.neg x).symm
theorem Cod.uBE {N:Int→Prop} (h:Cod N κ) (hcs: ∀c∈cs,∀x∈c,N x) (hc: ∀x∈c,N x):uB (cs.map (List.map κ)) (c.map κ)↔uB cs c:=by
 have hz:NZ cs:=fun x hx y hy e=>h.n0 (e▸hcs x hx y hy)
 have hn: ∀x∈negs c,N x:=fun x hx=>by rw [mem_negs] at hx;have:=h.sym _ (hc _ hx);rwa [Int.neg_neg] at this
 cases ht:taut c with
 |true=>exact ⟨fun _=> .inl ht,fun _=> .inl (by rw [h.tautE hc];exact ht)⟩
 |false=>
  have hz':NZ (cs.map (List.map κ)):=fun x hx y hy=>by
   obtain ⟨x',hx',rfl⟩:=List.mem_map.1 hx
   obtain ⟨y',hy',rfl⟩:=List.mem_map.1 hy
   exact h.nz _ (hcs _ hx' _ hy')
  obtain ⟨T,hF,hT⟩:=fol_end (cs:=cs) (d:=negs c) hz _ _ (Nat.le_refl _) .refl
  have hin:=fol_in hz hcs hn hF
  have hF':=h.fol hz hcs hn hF
  rw [← h.negsE] at hF'
  rw [uB_end hz ht hF hT]
  have hbr:(∃x∈cs.map (List.map κ),brokenP x (T.map κ)=true)↔∃x∈cs,brokenP x T=true:=by
   constructor
   · rintro ⟨x,hx,hb⟩
     obtain ⟨x',hx',rfl⟩:=List.mem_map.1 hx
     exact ⟨x',hx',by rwa [h.broken hin (hcs _ hx')] at hb⟩
   · rintro ⟨x,hx,hb⟩
     exact ⟨_,List.mem_map_of_mem hx,by rwa [h.broken hin (hcs _ hx)]⟩
  rw [uB_end hz' (by rw [h.tautE hc];exact ht) hF' (hT.imp (fun e=>hbr.2 e) fun hE x hx=> ?_),hbr]
  obtain ⟨x',hx',rfl⟩:=List.mem_map.1 hx
  rw [h.broken hin (hcs _ hx'),h.unitFE hin (hcs _ hx'),(hE _ hx').2,h.z]
  exact ⟨(hE _ hx').1,rfl⟩
end Go.Proofs.YtenmibfmhccmiaaGreat.W
namespace Go.Proofs.YtenmibfmhccmiaaGreat.W
open Go Go.Fw Go.RowKit Go.SoP Go.LiP
variable {w w' w0 w2 w3:World} {p q:Option Addr} {n m c d:Nat} {l t T:List Int} {hs:List Sl} {cs:List (List Int)}
theorem litB_b2 {x:Int} (h:litB x=true): -1048576≤x∧x≤1048576:=by
 unfold litB at h
 simp only [decide_eq_true_eq] at h
 exact ⟨h.2.1,h.2.2⟩
theorem litB_nz {x:Int} (h:litB x=true):x≠0:=by
 unfold litB at h
 simp only [decide_eq_true_eq] at h
 exact h.1
def resF (k c:List Int):List Int:=k++wo c (-(k.getD 0 0))
def fB (cs:List (List Int)) (k:List Int):Prop:=k≠[]∧∀c∈cs,-(k.getD 0 0)∈c→(resF k c).length≤4096∧uB cs (resF k c)
end Go.Proofs.YtenmibfmhccmiaaGreat.W
