/- Layer 6: the statement PropOnce. -/
import Derived.Test.YtbdghpjnifjlmaaGreatPropB
import Derived.Test.YtbdghpjnifjlmaaGreatFwRead
import Derived.Test.YtbdghpjnifjlmaaGreatFwMem
import Derived.Maps.OwnSet
import Derived.Test.YtbdghpjnifjlmaaGreatLubyA
import Derived.Test.YtbdghpjnifjlmaaGreatRedA
namespace Go.Proofs.YtbdghpjnifjlmaaGreat.W
open Go Go.Fw Go.RowKit Go.SoP Go.LiP
section
variable {w w' w0 w2 w3:World} {b:Nat} {H H' H2:Pt→Sl} {s t u s' T:PSt} {p cp gp dp ap:Option Addr} {hs:List Sl} {cs:List (List Int)} {gl:List Bool} {dl c m:List Int} {cn cc gn gc dn dc an ac:Nat} {v:Int}
theorem tr_decide (l:Int):(s.decide l).R .tr=s.R .tr++ [l]:=by
 unfold PSt.decide;rw [put_tr];unfold PSt.begin;rw [set_ne (by simp),set_ne (by simp)]
end
section
variable {cs:List (List Int)} {c d T T':List Int} {κ:Int→Int}
def Con (T:List Int):Prop:= ∀x∈T,-x ∉ T
def End (cs:List (List Int)) (T:List Int):Prop:= ∀c∈cs,brokenP c T=false∧unitF c T=0
def NZ (cs:List (List Int)):Prop:= ∀c∈cs,∀x∈c,x≠0
def negs (c:List Int):List Int:=c.map fun x=> -x
theorem mem_negs {x:Int}:x∈negs c↔ -x∈c:=by
 unfold negs
 rw [List.mem_map]
 exact ⟨fun ⟨y,hy,e⟩=>by rw [← e,Int.neg_neg];exact hy,fun h=> ⟨-x,h,Int.neg_neg x⟩⟩
theorem fol_pre (h:Fol cs d T): ∀x∈d,x∈T:=by
 induction h with
 |refl=>exact fun _ h=>h
 |step _ _ _ ih=>exact fun x hx=>List.mem_append_left _ (ih x hx)
theorem broken_mono (h: ∀x∈T,x∈T') (hb:brokenP c T=true):brokenP c T'=true:=brokenP_iff.2 fun x hx=>h _ (brokenP_iff.1 hb x hx)
theorem end_unit (hz: ∀x∈c,x≠0) (h1:brokenP c T'=false) (h2:unitF c T'=0) (hc:Con T') (hs: ∀x∈T,x∈T') (hu:unitF c T≠0):unitF c T∈T':=by
 obtain ⟨a1,a2,a3,a4⟩:=unitF_ne hz hu
 rcases Classical.em (unitF c T∈T') with h|h
 · exact h
 · exfalso
   have hn: -(unitF c T) ∉ T':=fun e=>by
    rw [← Bool.not_eq_true,brokenP_iff] at h1
    exact h1 fun y hy=> (a4 y hy).elim (fun e2=>by rw [e2];exact e) fun e2=>hs _ e2
   have:=unitG_is (t:=T') (l:=unitF c T) hu hn c 0 (fun y hy=>by
    rcases a4 y hy with e|e
    · exact ⟨by rw [e];exact h,.inl e⟩
    · exact ⟨fun e2=>hc y e2 (hs _ e),.inr (hs _ e)⟩) (.inr ⟨rfl,a1⟩)
   unfold unitF at h2
   rw [h2] at this
   exact hu this.symm
theorem fol_sub (hz:NZ cs) (hE:End cs T') (hc:Con T') (hd: ∀x∈d,x∈T') (h:Fol cs d T): ∀x∈T,x∈T':=by
 induction h with
 |refl=>exact hd
 |step h1 h2 h3 ih=>
  intro x hx
  rcases List.mem_append.1 hx with hx|hx
  · exact ih x hx
  · rw [List.mem_singleton] at hx
    rw [hx]
    exact end_unit (hz _ h2) (hE _ h2).1 (hE _ h2).2 hc ih h3
theorem fol_con (hz:NZ cs) (hd:Con d) (h:Fol cs d T):Con T:=by
 induction h with
 |refl=>exact hd
 |step h1 h2 h3 ih=>
  rename_i t c
  obtain ⟨_,a2,a3,_⟩:=unitF_ne (hz _ h2) h3
  intro x hx e
  rcases List.mem_append.1 hx with hx|hx
  · rcases List.mem_append.1 e with e|e
    · exact ih x hx e
    · rw [List.mem_singleton] at e
      exact a3 (by rw [← e,Int.neg_neg];exact hx)
  · rw [List.mem_singleton] at hx
    rcases List.mem_append.1 e with e|e
    · rw [hx] at e;exact a3 e
    · rw [List.mem_singleton] at e
      omega
def openN (cs:List (List Int)) (T:List Int):Nat:=(cs.filter fun c=> !c.any fun x=>decide (x∈T)).length
theorem openN_step (hz:NZ cs) (hc:c∈cs) (hu:unitF c T≠0):openN cs (T++ [unitF c T])<openN cs T:=by
 obtain ⟨a1,a2,a3,a4⟩:=unitF_ne (hz _ hc) hu
 unfold openN
 have hsub:(cs.filter fun c'=> !c'.any fun x=>decide (x∈T++ [unitF c T])).length< (cs.filter fun c'=> !c'.any fun x=>decide (x∈T)).length:=by
  rw [← List.countP_eq_length_filter,← List.countP_eq_length_filter]
  have key: ∀l:List (List Int),c∈l→l.countP (fun c'=> !c'.any fun x=>decide (x∈T++ [unitF c T]))<l.countP (fun c'=> !c'.any fun x=>decide (x∈T)):=by
   intro l
   have le: ∀l:List (List Int),l.countP (fun c'=> !c'.any fun x=>decide (x∈T++ [unitF c T]))≤l.countP (fun c'=> !c'.any fun x=>decide (x∈T)):=fun l=>by
    refine List.countP_mono_left fun x _ h=> ?_
    simp only [Bool.not_eq_true',List.any_eq_false,decide_eq_true_eq] at h ⊢
    exact fun y hy e=>h y hy (List.mem_append_left _ e)
   induction l with
   |nil=>intro h;simp at h
   |cons y l ih=>
    intro h
    rw [List.countP_cons,List.countP_cons]
    rcases List.mem_cons.1 h with h|h
    · subst h
      have e1:(!c.any fun x=>decide (x∈T++ [unitF c T]))=false:=by
       simp only [Bool.not_eq_false',List.any_eq_true,decide_eq_true_eq]
       exact ⟨_,a1,by simp⟩
      have e2:(!c.any fun x=>decide (x∈T))=true:=by
       simp only [Bool.not_eq_true',List.any_eq_false,decide_eq_true_eq]
       intro y hy e
       obtain ⟨a,b⟩:=unitG_ne c 0 (hz _ hc) hu
       exact (a y hy).1 e
      have:=le l
      rw [e1,e2,if_neg (by simp),if_pos rfl];omega
    · have:=ih h
      have hm:(if (!y.any fun x=>decide (x∈T++ [unitF c T]))=true then 1 else 0)≤if (!y.any fun x=>decide (x∈T))=true then 1 else 0:=by
       have:=le [y]
       simpa [List.countP_cons] using this
      omega
  exact key cs hc
 exact hsub
theorem openN_le (cs:List (List Int)) (T:List Int):openN cs T≤cs.length:=List.length_filter_le _ _
theorem fol_end (hz:NZ cs): ∀ (n:Nat) (T:List Int),openN cs T≤n→Fol cs d T→∃T',Fol cs d T'∧((∃x∈cs,brokenP x T'=true)∨End cs T'):=by
 intro n
 induction n with
 |zero=>
  intro T h hF
  rcases Classical.em (∃x∈cs,brokenP x T=true) with hb|hb
  · exact ⟨T,hF,.inl hb⟩
  · refine ⟨T,hF,.inr fun c hc=> ⟨by rw [← Bool.not_eq_true];exact fun e=>hb ⟨c,hc,e⟩,?_⟩⟩
    rcases Classical.em (unitF c T=0) with e|e
    · exact e
    · have:=openN_step hz hc e;omega
 |succ n ih=>
  intro T h hF
  rcases Classical.em (∃x∈cs,brokenP x T=true) with hb|hb
  · exact ⟨T,hF,.inl hb⟩
  rcases Classical.em (∃c∈cs,unitF c T≠0) with ⟨c,hc,e⟩|hn
  · have:=openN_step hz hc e
    exact ih _ (by omega) (.step hF hc e)
  · exact ⟨T,hF,.inr fun c hc=> ⟨by rw [← Bool.not_eq_true];exact fun e=>hb ⟨c,hc,e⟩,Classical.byContradiction fun e=>hn ⟨c,hc,e⟩⟩⟩
def uB (cs:List (List Int)) (c:List Int):Prop:=taut c=true∨∃T,Fol cs (negs c) T∧∃x∈cs,brokenP x T=true
theorem taut_iff:taut c=true↔∃x∈c,-x∈c:=by unfold taut;simp
theorem con_negs (h:taut c=false):Con (negs c):=by
 intro x hx e
 rw [← Bool.not_eq_true,taut_iff] at h
 rw [mem_negs] at hx e
 rw [Int.neg_neg] at e
 exact h ⟨x,e,hx⟩
theorem not_uB (hz:NZ cs) (h:taut c=false) (hF:Fol cs (negs c) T) (hE:End cs T): ¬uB cs c:=by
 rintro (h2| ⟨T',hF',x,hx,hb⟩)
 · rw [h] at h2;cases h2
 · have:=broken_mono (fol_sub hz hE (fol_con hz (con_negs h) hF) (fol_pre hF) hF') hb
   rw [(hE x hx).1] at this
   cases this
theorem uB_end (hz:NZ cs) (h:taut c=false) (hF:Fol cs (negs c) T) (hT:(∃x∈cs,brokenP x T=true)∨End cs T):uB cs c↔∃x∈cs,brokenP x T=true:=by
 rcases hT with hb|hE
 · exact ⟨fun _=>hb,fun _=> .inr ⟨T,hF,hb⟩⟩
 · refine ⟨fun h2=>absurd h2 (not_uB hz h hF hE),fun ⟨x,hx,hb⟩=> ?_⟩
   rw [(hE x hx).1] at hb;cases hb
theorem told_uB {s:PSt} (g:Good s) {r:Int} (ht:Told s r) (hcs: ∀x,x∈cs↔s.cls x) (hnt:taut c=false) (h1: ∀x∈c,-x∈s.R .tr) (h2: ∀x∈s.dec,-x∈c):r≥0↔uB cs c:=by
 have hz:NZ cs:=fun x hx y hy=> (g.clv ((hcs x).1 hx) y hy).1
 obtain ⟨T,hF,hT⟩:=fol_end (cs:=cs) (d:=negs c) hz _ _ (Nat.le_refl _) .refl
 rw [uB_end hz hnt hF hT]
 have hcon:=fol_con hz (con_negs hnt) hF
 have hpre:=fol_pre hF
 rcases ht with ⟨rfl,hC⟩| ⟨i,rfl,hB⟩
 · have hs:=hC.fol g (fun x hx=> (hcs x).1 hx) (fun x hx=>by rw [mem_negs] at hx;have:=h1 _ hx;rwa [Int.neg_neg] at this) hF
   refine ⟨fun h=>by omega,fun ⟨x,hx,hb⟩=> ?_⟩
   rw [hC.notBroken g hs ((hcs x).1 hx)] at hb
   cases hb
 · refine ⟨fun _=> ?_,fun _=>by omega⟩
   rcases hT with hb|hE
   · exact hb
   · exfalso
     have hs:=g.trail_sub (T:=T) (fun x hx=>hpre x (mem_negs.2 (h2 x hx))) hcon fun c hc=>hE c ((hcs c).2 hc)
     have:=(hE _ ((hcs _).2 ⟨i,hB.1,rfl⟩)).1
     rw [← Bool.not_eq_true,brokenP_iff] at this
     exact this fun x hx=>hs _ (hB.2 x hx)
structure Cod (N:Int→Prop) (κ:Int→Int):Prop where
 neg: ∀x,κ (-x)= -κ x
 inj: ∀x y,N x→N y→κ x=κ y→x=y
 nz: ∀x,N x→κ x≠0
 sym: ∀x,N x→N (-x)
 n0: ¬N 0
theorem Cod.z {N:Int→Prop} (h:Cod N κ):κ 0=0:=by have:=h.neg 0;simp at this;omega
theorem Cod.mem {N:Int→Prop} (h:Cod N κ) {x:Int} (hx:N x) (hT: ∀y∈T,N y):κ x∈T.map κ↔x∈T:=by
 rw [List.mem_map]
 exact ⟨fun ⟨y,hy,e⟩=>by rw [← h.inj y x (hT y hy) hx e];exact hy,fun hx=> ⟨x,hx,rfl⟩⟩
theorem Cod.negmem {N:Int→Prop} (h:Cod N κ) {x:Int} (hx:N x) (hT: ∀y∈T,N y): -κ x∈T.map κ↔ -x∈T:=by rw [← h.neg];exact h.mem (h.sym x hx) hT
theorem Cod.unitGE {N:Int→Prop} (h:Cod N κ) (hT: ∀y∈T,N y): ∀ (c:List Int) (o:Int),(∀x∈c,N x)→(o=0∨N o)→unitG (T.map κ) (c.map κ) (κ o)=κ (unitG T c o)
 | [],o,_,_=>rfl
 |x::c,o,hc,ho=>by
  have hx:=hc x (List.mem_cons_self ..)
  have hc': ∀y∈c,N y:=fun y hy=>hc y (List.mem_cons_of_mem _ hy)
  rw [List.map_cons]
  unfold unitG
  have e1:κ x∈T.map κ↔x∈T:=h.mem hx hT
  have e2:(-κ x∈T.map κ∨κ x=κ o)↔(-x∈T∨x=o):=by
   rw [h.negmem hx hT]
   refine or_congr Iff.rfl ⟨fun e=> ?_,fun e=>by rw [e]⟩
   rcases ho with rfl|ho
   · rw [h.z] at e;exact absurd e (h.nz x hx)
   · exact h.inj x o hx ho e
  have e3:κ o≠0↔o≠0:=by
   rcases ho with rfl|ho
   · rw [h.z]
   · exact ⟨fun _ e=>h.n0 (e▸ho),fun _=>h.nz o ho⟩
  by_cases a1:x∈T
  · rw [if_pos (e1.2 a1),if_pos a1,h.z]
  · rw [if_neg (fun e=>a1 (e1.1 e)),if_neg a1]
    by_cases a2: -x∈T∨x=o
    · rw [if_pos (e2.2 a2),if_pos a2];exact h.unitGE hT c o hc' ho
    · rw [if_neg (fun e=>a2 (e2.1 e)),if_neg a2]
      by_cases a3:o≠0
      · rw [if_pos (e3.2 a3),if_pos a3,h.z]
      · rw [if_neg (fun e=>a3 (e3.1 e)),if_neg a3];exact h.unitGE hT c x hc' (.inr hx)
theorem Cod.unitFE {N:Int→Prop} (h:Cod N κ) (hT: ∀y∈T,N y) (hc: ∀x∈c,N x):unitF (c.map κ) (T.map κ)=κ (unitF c T):=by
 have:=h.unitGE hT c 0 hc (.inl rfl)
 rw [h.z] at this
 exact this
theorem Cod.broken {N:Int→Prop} (h:Cod N κ) (hT: ∀y∈T,N y) (hc: ∀x∈c,N x):brokenP (c.map κ) (T.map κ)=brokenP c T:=by
 rw [Bool.eq_iff_iff,brokenP_iff,brokenP_iff]
 constructor
 · intro hb x hx
   exact (h.negmem (hc x hx) hT).1 (hb _ (List.mem_map_of_mem hx))
 · intro hb y hy
   obtain ⟨x,hx,rfl⟩:=List.mem_map.1 hy
   exact (h.negmem (hc x hx) hT).2 (hb x hx)
theorem Cod.tautE {N:Int→Prop} (h:Cod N κ) (hc: ∀x∈c,N x):taut (c.map κ)=taut c:=by
 rw [Bool.eq_iff_iff,taut_iff,taut_iff]
 constructor
 · rintro ⟨y,hy,h2⟩
   obtain ⟨x,hx,rfl⟩:=List.mem_map.1 hy
   exact ⟨x,hx,(h.negmem (hc x hx) hc).1 h2⟩
 · rintro ⟨x,hx,h2⟩
   exact ⟨κ x,List.mem_map_of_mem hx,(h.negmem (hc x hx) hc).2 h2⟩
theorem fol_in {N:Int→Prop} (hz:NZ cs) (hcs: ∀c∈cs,∀x∈c,N x) (hd: ∀x∈d,N x) (h:Fol cs d T): ∀x∈T,N x:=by
 induction h with
 |refl=>exact hd
 |step h1 h2 h3 ih=>
  intro x hx
  rcases List.mem_append.1 hx with hx|hx
  · exact ih x hx
  · rw [List.mem_singleton] at hx;rw [hx];exact hcs _ h2 _ (unitF_ne (hz _ h2) h3).1
theorem Cod.fol {N:Int→Prop} (h:Cod N κ) (hz:NZ cs) (hcs: ∀c∈cs,∀x∈c,N x) (hd: ∀x∈d,N x) (hF:Fol cs d T):Fol (cs.map (List.map κ)) (d.map κ) (T.map κ):=by
 induction hF with
 |refl=>exact .refl
 |step h1 h2 h3 ih=>
  rename_i t c
  have hin:=fol_in hz hcs hd h1
  rw [List.map_append,List.map_singleton,← h.unitFE hin (hcs _ h2)]
  refine .step ih (List.mem_map_of_mem h2) ?_
  rw [h.unitFE hin (hcs _ h2)]
  exact h.nz _ (hcs _ h2 _ (unitF_ne (hz _ h2) h3).1)
theorem Cod.negsE {N:Int→Prop} (h:Cod N κ) (c:List Int):negs (c.map κ)=(negs c).map κ:=by
 unfold negs
 rw [List.map_map,List.map_map]
 exact List.map_congr_left fun x _=> (h.neg x).symm
theorem Cod.uBE {N:Int→Prop} (h:Cod N κ) (hcs: ∀c∈cs,∀x∈c,N x) (hc: ∀x∈c,N x):uB (cs.map (List.map κ)) (c.map κ)↔uB cs c:=by
 have hz:NZ cs:=fun x hx y hy e=>h.n0 (e▸hcs x hx y hy)
 have hn: ∀x∈negs c,N x:=fun x hx=>by rw [mem_negs] at hx;have:=h.sym _ (hc _ hx);rwa [Int.neg_neg] at this
 cases ht:taut c with
 |true=>exact ⟨fun _=> .inl ht,fun _=> .inl (by rw [h.tautE hc];exact ht)⟩
 |false=>
  have hz':NZ (cs.map (List.map κ)):=fun x hx y hy=>by
   obtain ⟨x',hx',rfl⟩:=List.mem_map.1 hx
   obtain ⟨y',hy',rfl⟩:=List.mem_map.1 hy
   exact h.nz _ (hcs _ hx' _ hy')
  obtain ⟨T,hF,hT⟩:=fol_end (cs:=cs) (d:=negs c) hz _ _ (Nat.le_refl _) .refl
  have hin:=fol_in hz hcs hn hF
  have hF':=h.fol hz hcs hn hF
  rw [← h.negsE] at hF'
  rw [uB_end hz ht hF hT]
  have hbr:(∃x∈cs.map (List.map κ),brokenP x (T.map κ)=true)↔∃x∈cs,brokenP x T=true:=by
   constructor
   · rintro ⟨x,hx,hb⟩
     obtain ⟨x',hx',rfl⟩:=List.mem_map.1 hx
     exact ⟨x',hx',by rwa [h.broken hin (hcs _ hx')] at hb⟩
   · rintro ⟨x,hx,hb⟩
     exact ⟨_,List.mem_map_of_mem hx,by rwa [h.broken hin (hcs _ hx)]⟩
  rw [uB_end hz' (by rw [h.tautE hc];exact ht) hF' (hT.imp (fun e=>hbr.2 e) fun hE x hx=> ?_),hbr]
  obtain ⟨x',hx',rfl⟩:=List.mem_map.1 hx
  rw [h.broken hin (hcs _ hx'),h.unitFE hin (hcs _ hx'),(hE _ hx').2,h.z]
  exact ⟨(hE _ hx').1,rfl⟩
end
section
variable {w w' w0 w2 w3:World} {p q:Option Addr} {n m c d:Nat} {l t T:List Int} {hs:List Sl} {cs:List (List Int)}
theorem litB_b2 {x:Int} (h:litB x=true): -1048576≤x∧x≤1048576:=by
 unfold litB at h
 simp only [decide_eq_true_eq] at h
 exact ⟨h.2.1,h.2.2⟩
theorem litB_nz {x:Int} (h:litB x=true):x≠0:=by
 unfold litB at h
 simp only [decide_eq_true_eq] at h
 exact h.1
theorem refFollows2_ok (hc:V2 (Value.int .i64) w p hs cs) (hn:n=cs.length) (hx:n≤90000) (ht:Vw (Value.int .i64) w q t) (hm:m=t.length) (hm2:m≤100000) (hcs: ∀c∈cs,∀x∈c,litB x=true):
 Calls Tryz.prog fathomref06_Follows.id #[.slice p n c,.slice q m d] w fun e w'=> ∃ (T:List Int) (br:Bool) (q2:Option Addr) (d2:Nat),e= .returned (.tuple #[.slice q2 T.length d2,.bool br])∧OwI ty_int w' q2 d2 T∧Fol cs t T∧
  (br=true→∃c∈cs,brokenP c T=true)∧(br=false→∀c∈cs,brokenP c T=false∧unitF c T=0)∧Grow w w'∧∀b,blk q2=some b→w.heap.size≤b:=by
 have hz:NZ cs:=fun c hc x hx=>litB_nz (hcs c hc x hx)
 refine fathomref06_Follows.calls ?_
 intro n1 w2 h2
 have e1:=h2.num
 have ov:OwI ty_int w2 (some ⟨n1,0,none⟩) 0 []:=New.empty h2
 refine app_fresh (W0:=w) ov h2.mod (fun b hb=>by have:=blk_some hb;omega) (ht.grow h2.mod) rfl hm (by simp;omega) fun w3 p3 c3 o3 g3 f3=> ?_
 rw [List.nil_append] at o3 ⊢
 refine ⟨fun P N C J u z=> ∃ (j:Nat) (T:List Int),J=j∧N=T.length∧z=cs.length - j∧T.length=t.length+j∧j+openN cs T≤cs.length∧Fol cs t T∧OwI ty_int u P C T∧(∀b,blk P=some b→w.heap.size≤b)∧Grow w u,⟨_,0,t,rfl,rfl,rfl,rfl,by have:=openN_le cs t;omega,.refl,o3,f3,g3⟩,?_⟩
 rintro P N C J w10 z _ ⟨j,T,rfl,rfl,rfl,hTl,hop,hF,oT,fT,gT⟩
 have hTv:=oT.vw
 have hTm:T.length≤maxLen:=by unfold maxLen;omega
 refine cnd_t (by rw [decide_eq_true_eq];omega) ?_
 refine ⟨fun X I u z=> ∃i:Nat,I=i∧i≤cs.length∧z=cs.length - i∧Grow w10 u∧(∀c∈cs.take i,brokenP c T=false)∧((X=0∧∀c∈cs.take i,unitF c T=0)∨(X≠0∧∃c∈cs,X=unitF c T)),
  ⟨_,0,rfl,Nat.zero_le _,rfl,Mod.refl _,fun c hc=>by simp at hc,.inl ⟨rfl,fun c hc=>by simp at hc⟩⟩,?_⟩
 rintro X I w16 z _ ⟨i,rfl,hi,rfl,g16,hbr,hX⟩
 have hcg:=hc.grow (gT.trans g16)
 refine cnd_i (fun r=> ?_) (fun r=> ?_)
 · have r:i<cs.length:=by rw [hn] at r;simpa using r
   have hmem:cs.getD i []∈cs:=by simp [List.getD,r]
   have hbd: ∀x∈cs.getD i [],-1048576≤x∧x≤1048576:=fun x hx=>litB_b2 (hcs _ hmem x hx)
   have tk: ∀c,c∈cs.take (i+1)↔c∈cs.take i∨c=cs.getD i []:=fun c=>by
    rw [List.take_add_one,List.mem_append]
    simp [List.getD,r]
   refine hcg.ix (by omega) hn (by omega) fun a sl k1 k0 k2 k3 k4=> ⟨_,_,_,k1,?_⟩
   rw [Int.toNat_natCast] at k2 k4
   refine (refBroken_ok k4 k2 k3 (hTv.grow g16) rfl hTm hbd).mono ?_
   rintro e w19 ⟨rfl,g19⟩
   refine ⟨_,rfl,?_⟩
   cases hb:brokenP (cs.getD i []) T with
   |true=>
    refine cnd_t rfl ⟨T,true,_,_,rfl,oT.grow (g16.trans g19),hF,fun _=> ⟨_,hmem,hb⟩,fun h=> (by cases h),gT.trans (g16.trans g19),fT⟩
   |false=>
    refine cnd_f rfl (cnd_i (fun r2=> ?_) (fun r2=> ?_))
    · have r2:X=0:=by simpa using r2
      refine (hcg.grow g19).ix (by omega) hn (by omega) fun a sl k1 k0 k2 k3 k4=> ⟨_,_,_,k1,?_⟩
      rw [Int.toNat_natCast] at k2 k4
      refine (refUnit_ok k4 k2 k3 (hTv.grow (g16.trans g19)) rfl hTm hbd).mono ?_
      rintro e w23 ⟨rfl,g23⟩
      refine ⟨_,rfl,_,?_,i+1,wN (by omega) (by omega),r,rfl,g16.trans (g19.trans g23),fun c hc=> ?_,?_⟩
      · omega
      · rcases (tk c).1 hc with h|h
        · exact hbr c h
        · rw [h];exact hb
      · by_cases e0:unitF (cs.getD i []) T=0
        · refine .inl ⟨e0,fun c hc=> ?_⟩
          rcases (tk c).1 hc with h|h
          · rcases hX with hX|hX
            · exact hX.2 c h
            · exact absurd r2 hX.1
          · rw [h];exact e0
        · exact .inr ⟨e0,_,hmem,rfl⟩
    · have r2:X≠0:=by simpa using r2
      refine ⟨_,?_,i+1,wN (by omega) (by omega),r,rfl,g16.trans g19,fun c hc=> ?_,?_⟩
      · omega
      · rcases (tk c).1 hc with h|h
        · exact hbr c h
        · rw [h];exact hb
      · rcases hX with hX|hX
        · exact absurd hX.1 r2
        · exact .inr hX
 · have r:i=cs.length:=by rw [hn] at r;simp at r;omega
   subst r
   rw [List.take_length] at hbr
   refine cnd_i (fun r2=> ?_) (fun r2=> ?_)
   · have r2:X=0:=by simpa using r2
     refine ⟨T,false,_,_,rfl,oT.grow g16,hF,fun h=> (by cases h),fun _ c hc=> ⟨hbr c hc,?_⟩,gT.trans g16,fT⟩
     rcases hX with hX|hX
     · rw [List.take_length] at hX;exact hX.2 c hc
     · exact absurd r2 hX.1
   · have r2:X≠0:=by simpa using r2
     obtain ⟨_,c,hcm,hXe⟩:=hX.resolve_left fun h=>r2 h.1
     have hF':Fol cs t (T++ [X]):=by rw [hXe];exact .step hF hcm (by rw [← hXe];exact r2)
     have hstep:=openN_step (T:=T) hz hcm (by rw [← hXe];exact r2)
     rw [← hXe] at hstep
     intro n25 w26 h26
     have g26:=(gT.trans g16).trans h26.mod
     refine app_fresh (W0:=w) ((oT.grow g16).grow h26.mod) g26 fT (box1 h26) rfl rfl (by simp;omega) fun w27 p27 c27 o27 g27 f27=> ?_
     refine ⟨_,?_,j+1,T++ [X],wN (by omega) (by omega),rfl,rfl,by simp;omega,by omega,hF',o27,f27,g27⟩
     omega
theorem refUnit7_ok {k:List Int} (hc:V2 (Value.int .i64) w p hs cs) (hn:n=cs.length) (hx:n≤90000) (hcs: ∀c∈cs,∀x∈c,litB x=true) (hk:Vw (Value.int .i64) w q k) (hm:m=k.length) (hm2:m≤100000) (hkl: ∀x∈k,litB x=true):
 Calls Tryz.prog fathomref07_Unit.id #[.slice p n c,.slice q m d] w fun e w'=> ∃r:Bool,e= .returned (.bool r)∧(r=true↔uB cs k)∧Grow w w':=by
 have hz:NZ cs:=fun c hc x hx=>litB_nz (hcs c hc x hx)
 refine fathomref07_Unit.calls ((refTaut_ok hk hm (by unfold maxLen;omega) hkl).mono ?_)
 rintro e w1 ⟨rfl,g1⟩
 refine ⟨_,rfl,cnd_i (fun r=> ⟨true,rfl,⟨fun _=> .inl r,fun _=>rfl⟩,g1⟩) (fun hnt=> ?_)⟩
 intro n3 w4 h4
 have e3:=h4.num
 have g4:=g1.trans h4.mod
 have s1:=g1.size
 refine ⟨fun P N C I u z=> ∃i:Nat,I=i∧i≤k.length∧z=k.length - i∧N=i∧OwI ty_int u P C (negs (k.take i))∧(∀b,blk P=some b→w.heap.size≤b)∧Grow w u,⟨_,0,rfl,Nat.zero_le _,rfl,rfl,New.empty h4,fun b hb=>by have:=blk_some hb;omega,g4⟩,?_⟩
 rintro P N C I u z _ ⟨i,rfl,hi,rfl,hN,o,f,g⟩
 have hlen:(negs (k.take i)).length=i:=by unfold negs;simp;omega
 refine cnd_i (fun r=> ?_) (fun r=> ?_)
 · have r:i<k.length:=by rw [hm] at r;simpa using r
   refine (hk.grow g).ix 0 (by omega) hm (by omega) fun a e=> ⟨_,e,?_⟩
   rw [Int.toNat_natCast]
   have hb:=litB_b2 (hkl _ (getD_mem' r))
   try dsimp only
   rw [nw _ hb]
   intro n13 w14 h14
   refine app_fresh (W0:=w) (o.grow h14.mod) (g.trans h14.mod) f (box1 h14) (hN.trans hlen.symm) rfl (by rw [hlen];simp;omega) fun w15 p15 c15 o15 g15 f15=> ?_
   have etk:negs (k.take (i+1))=negs (k.take i)++ [-(k.getD i 0)]:=by
    unfold negs
    rw [List.take_add_one,List.map_append]
    simp [List.getD,r]
   refine ⟨_,by omega,i+1,wN (by omega) (by omega),r,rfl,by rw [List.length_append,hlen];rfl,by rw [etk];exact o15,f15,g15⟩
 · have r:i=k.length:=by rw [hm] at r;simp at r;omega
   subst r
   rw [List.take_length] at o hlen
   refine (refFollows2_ok (hc.grow g) hn hx o.vw (hN.trans hlen.symm) (by omega) hcs).mono ?_
   rintro e w17 ⟨T,br,q2,d2,rfl,oT,hF,h1,h2,g17,_⟩
   refine ⟨_,_,_,_,rfl,br,rfl,?_,g.trans g17⟩
   rw [uB_end hz hnt hF (by
    cases br with
    |true=>exact .inl (h1 rfl)
    |false=>exact .inr (h2 rfl))]
   cases br with
   |true=>exact ⟨fun _=>h1 rfl,fun _=>rfl⟩
   |false=>exact ⟨fun e=> (by cases e),fun ⟨x,hx,hb⟩=>by rw [(h2 rfl x hx).1] at hb;cases hb⟩
def resF (k c:List Int):List Int:=k++wo c (-(k.getD 0 0))
def fB (cs:List (List Int)) (k:List Int):Prop:=k≠[]∧∀c∈cs,-(k.getD 0 0)∈c→(resF k c).length≤4096∧uB cs (resF k c)
theorem refFirst7_ok {k:List Int} (hc:V2 (Value.int .i64) w p hs cs) (hn:n=cs.length) (hx:n≤90000) (hcs: ∀c∈cs,∀x∈c,litB x=true) (hcl: ∀c∈cs,c.length≤4096) (hk:Vw (Value.int .i64) w q k) (hm:m=k.length) (hm2:m≤90000) (hkl: ∀x∈k,litB x=true):
 Calls Tryz.prog fathomref07_First.id #[.slice p n c,.slice q m d] w fun e w'=> ∃r:Bool,e= .returned (.bool r)∧(r=true↔fB cs k)∧Grow w w':=by
 refine fathomref07_First.calls (cnd_i (fun r=> ?_) (fun r=> ?_))
 · have r:k= []:=by
    have:(m:Int)=0:=by simpa using r
    exact List.eq_nil_of_length_eq_zero (by omega)
   exact ⟨false,rfl,⟨fun e=> (by cases e),fun h=>absurd r h.1⟩,Mod.refl w⟩
 have hne:0<k.length:=by
  have:(m:Int)≠0:=by simpa using r
  omega
 have hne':k≠[]:=List.length_pos_iff.1 hne
 have hx0:=hkl _ (getD_mem' hne)
 have hb0:=litB_b2 hx0
 refine ⟨fun I u z=> ∃i:Nat,I=i∧i≤cs.length∧z=cs.length - i∧Grow w u∧∀c∈cs.take i,-(k.getD 0 0)∈c→(resF k c).length≤4096∧uB cs (resF k c),⟨_,0,rfl,Nat.zero_le _,rfl,Mod.refl w,fun c hc=>by simp at hc⟩,?_⟩
 rintro I u z _ ⟨i,rfl,hi,rfl,g,hall⟩
 refine cnd_i (fun r=> ?_) (fun r=> ?_)
 · have r:i<cs.length:=by rw [hn] at r;simpa using r
   have hmem:cs.getD i []∈cs:=by simp [List.getD,r]
   have tk: ∀c,c∈cs.take (i+1)↔c∈cs.take i∨c=cs.getD i []:=fun c=>by
    rw [List.take_add_one,List.mem_append]
    simp [List.getD,r]
   have gd:=g.drew
   have kx: ∀ {u:World},Grow w u→∀ {K:Addr→Prop},(∀a,u.cell? a=some (.int .i64 (k.getD 0 0))→K a)→ixK q m 0 1 K:=fun {u} g {K} hK=>by
    refine (hk.grow g).ix 0 (by omega) hm (by omega) fun a e=>hK a ?_
    simpa using e
   have hcx: ∀ {u:World},Grow w u→∀ {K:Addr→Prop},(∀a (s:Sl),u.cell? a=some (.slice s.p s.n s.c)→s=hs.getD i Sl.nil→s.n=(cs.getD i []).length→s.n≤maxLen→Vw (Value.int .i64) u s.p (cs.getD i [])→K a)→ixK p n (i:Int) 1 K:=fun {u} g {K} hK=>by
    refine (hc.grow g).ix (by omega) hn (by omega) fun a sl k1 k0 k2 k3 k4=>hK a sl k1 ?_ ?_ k3 ?_
    · simpa using k0
    · simpa using k2
    · simpa using k4
   refine hcx gd fun a sl k1 k0 k2 k3 k4=> ⟨_,_,_,k1,kx gd fun a2 e2=> ⟨_,e2,?_⟩⟩
   try dsimp only
   rw [nw _ hb0]
   refine (has_ok k4 k2 k3 _).mono ?_
   rintro e w10 ⟨rfl,g10⟩
   have G10:=gd.trans g10
   refine ⟨_,rfl,cnd_i (fun r2=> ?_) (fun r2=> ?_)⟩
   · have r2: -(k.getD 0 0) ∉ cs.getD i []:=by simpa using r2
     refine ⟨_,by omega,i+1,wN (by omega) (by omega),r,rfl,G10,fun c hc h=> ?_⟩
     rcases (tk c).1 hc with h3|h3
     · exact hall c h3 h
     · rw [h3] at h;exact absurd h r2
   · have r2: -(k.getD 0 0)∈cs.getD i []:=by simpa using r2
     have G0:=G10.drew
     refine ⟨Grow w10,(Mod.refl w10).drew,?_⟩
     intro n13 w14 h14
     have g14:Grow w10 w14:=(Mod.refl w10).drew.trans h14.mod
     have e13:=h14.num
     have z10:=G10.size
     have zd:w10.drew.heap.size=w10.heap.size:=rfl
     refine ⟨g14,?_⟩
     refine app_fresh (W0:=w10) (New.empty h14) g14 (fun b hb=>by have:=blk_some hb;omega) (hk.grow (G10.trans g14)) rfl hm (by simp;omega) fun w15 p15 c15 o15 g15 f15=> ?_
     rw [List.nil_append] at o15 ⊢
     refine ⟨g15,hcx G10 fun a sl2 k1' k0' k2' k3' k4'=> ⟨_,_,_,fun u hu=>cell_keep hu k1' id,kx G10 fun a2 e2=> ⟨_,fun u hu=>cell_keep hu e2 id,?_⟩⟩⟩
     rw [nw _ hb0]
     have hcl':=hcl _ hmem
     refine (without_ok (k4'.grow g15) k2' (by rw [k2'];omega) _).mono ?_
     rintro e w21 ⟨q2,d2,rfl,o21,g21,f21⟩
     have hwl:=wo_len (l:=cs.getD i []) (x:= -(k.getD 0 0))
     refine ⟨_,_,_,rfl,?_⟩
     refine app_fresh (W0:=w10) (o15.grow g21) (g15.trans g21) f15 o21.vw rfl rfl (by omega) fun w23 p23 c23 o23 g23 f23=> ?_
     have hlit: ∀x∈k++wo (cs.getD i []) (-(k.getD 0 0)),litB x=true:=fun x hx=>by
      rcases List.mem_append.1 hx with h|h
      · exact hkl x h
      · exact hcs _ hmem x (mem_wo.1 h).1
     have G23:=G10.trans g23
     refine cnd_i (fun r3=> ?_) (fun r3=> ?_)
     · have r3:(k++wo (cs.getD i []) (-(k.getD 0 0))).length>4096:=by rw [decide_eq_true_eq] at r3;omega
       refine ⟨false,rfl,⟨fun e=> (by cases e),fun h=> ?_⟩,G23⟩
       have:=(h.2 _ hmem r2).1
       unfold resF at this
       omega
     · have r3:(k++wo (cs.getD i []) (-(k.getD 0 0))).length≤4096:=by rw [decide_eq_false_iff_not] at r3;omega
       refine (refUnit7_ok (hc.grow G23) hn hx hcs o23.vw rfl (by omega) hlit).mono ?_
       rintro e w25 ⟨r,rfl,hr,g25⟩
       refine ⟨_,rfl,cnd_i (fun r4=> ⟨false,rfl,⟨fun e=> (by cases e),fun h=> ?_⟩,G23.trans g25⟩) (fun r4=> ⟨_,by omega,i+1,wN (by omega) (by omega),by omega,rfl,G23.trans g25,fun c hc h=> ?_⟩)⟩
       · have:=hr.2 (h.2 _ hmem r2).2
         rw [this] at r4;cases r4
       · rcases (tk c).1 hc with h3|h3
         · exact hall c h3 h
         · rw [h3]
           exact ⟨r3,hr.1 (by simpa using r4)⟩
 · have r:i=cs.length:=by rw [hn] at r;simp at r;omega
   subst r
   rw [List.take_length] at hall
   exact ⟨true,rfl,⟨fun _=> ⟨hne',hall⟩,fun _=>rfl⟩,g⟩
end
end Go.Proofs.YtbdghpjnifjlmaaGreat.W
namespace Go.Fw
open Go Go.RowKit Go.MapKept
variable {P:Program} {α:Type} {g:α→Value} {t k e:TypeId} {w w':World} {b:Nat} {m:List (Int × α)}
def mapV (P:Program) (t k e:TypeId):Bool:=
 (match P.underlying t with|some (.map k' e')=>Nat.beq k' k && Nat.beq e' e|_=>false) && (match P.underlying k with|some (.int .i64)=>true|_=>false)
theorem mapV_spec (h:mapV P t k e=true):P.underlying t=some (.map k e)∧P.underlying k=some (.int .i64):=by
 simp only [mapV,Bool.and_eq_true] at h
 obtain ⟨h1,h2⟩:=h
 constructor
 · split at h1
   · rename_i k' e' hu
     simp only [Bool.and_eq_true] at h1
     rw [hu,Nat.eq_of_beq_eq_true h1.1,Nat.eq_of_beq_eq_true h1.2]
   · simp at h1
 · split at h2
   · assumption
   · simp at h2
def al (m:List (Int × α)) (a:Int):Option α:=(m.find? fun x=>x.1==a).map (·.2)
def ai (m:List (Int × α)) (a:Int) (v:α):List (Int × α):=if (al m a).isSome then m.map (fun x=>if x.1=a then (a,v) else x) else m++ [(a,v)]
def ad (m:List (Int × α)) (a:Int):List (Int × α):=m.filter fun x=> !(x.1==a)
theorem al_none {a:Int}:al m a=none↔∀x∈m,x.1≠a:=by
 unfold al
 rw [Option.map_eq_none_iff,List.find?_eq_none]
 simp
theorem al_mem {a:Int} {x:α} (h:al m a=some x):(a,x)∈m:=by
 unfold al at h
 rw [Option.map_eq_some_iff] at h
 obtain ⟨y,h1,rfl⟩:=h
 have h2:=List.find?_some h1
 have h3:=List.mem_of_find?_eq_some h1
 have:y.1=a:=by simpa using h2
 rw [← this];exact h3
theorem al_of (nd:(m.map (·.1)).Nodup) {a:Int} {x:α} (h:(a,x)∈m):al m a=some x:=by
 cases ha:al m a with
 |none=>exact absurd rfl (al_none.1 ha (a,x) h)
 |some y=>
  have h2:=al_mem ha
  obtain ⟨i,hi,e1⟩:=List.mem_iff_getElem.1 h
  obtain ⟨j,hj,e2⟩:=List.mem_iff_getElem.1 h2
  have:=(List.getElem_inj (h₀:=show i< (m.map (·.1)).length by simpa using hi) (h₁:=show j< (m.map (·.1)).length by simpa using hj) nd).1 (by rw [List.getElem_map,List.getElem_map,e1,e2])
  subst this
  rw [e1] at e2
  rw [(Prod.mk.inj e2).2]
theorem ai_keys (m:List (Int × α)) (a:Int) (v:α):(ai m a v).map (·.1)=if (al m a).isSome then m.map (·.1) else m.map (·.1)++ [a]:=by
 unfold ai
 split
 · rw [List.map_map]
   refine List.map_congr_left fun x _=> ?_
   simp only [Function.comp]
   split
   · rename_i h;exact h.symm
   · rfl
 · simp
theorem ai_nodup (nd:(m.map (·.1)).Nodup) (a:Int) (v:α):((ai m a v).map (·.1)).Nodup:=by
 rw [ai_keys]
 split
 · exact nd
 · rename_i h
   have h:al m a=none:=by simpa using h
   rw [List.nodup_append]
   refine ⟨nd,by simp,fun x hx y hy e=> ?_⟩
   rw [List.mem_singleton] at hy
   obtain ⟨z,hz,rfl⟩:=List.mem_map.1 hx
   exact al_none.1 h z hz (e.trans hy)
theorem al_ai (m:List (Int × α)) (a u:Int) (v:α):al (ai m a v) u=if u=a then some v else al m u:=by
 unfold ai
 split
 · rename_i h
   unfold al
   rw [List.find?_map]
   by_cases e:u=a
   · subst e
     rw [if_pos rfl]
     have hf:m.find? ((fun x:Int × α=>x.1==u) ∘ fun x=>if x.1=u then (u,v) else x)=m.find? fun x=>x.1==u:=by
      congr 1;funext x;simp only [Function.comp];split<;>simp_all
     rw [hf]
     unfold al at h
     cases hh:m.find? fun x=>x.1==u with
     |none=>rw [hh] at h;simp at h
     |some y=>have:=List.find?_some hh;simp at this;simp [this]
   · rw [if_neg e]
     have hf:m.find? ((fun x:Int × α=>x.1==u) ∘ fun x=>if x.1=a then (a,v) else x)=m.find? fun x=>x.1==u:=by
      congr 1;funext x;simp only [Function.comp]
      by_cases e2:x.1=a
      · rw [if_pos e2,e2]
      · rw [if_neg e2]
     rw [hf]
     cases hh:m.find? fun x=>x.1==u with
     |none=>rfl
     |some y=>
      have h1:=List.find?_some hh
      have h1:y.1=u:=by simpa using h1
      have: ¬y.1=a:=fun e2=>e (h1.symm.trans e2)
      simp [this]
 · rename_i h
   have h:al m a=none:=by simpa using h
   unfold al
   rw [List.find?_append]
   by_cases e:u=a
   · subst e
     rw [if_pos rfl]
     unfold al at h
     rw [Option.map_eq_none_iff] at h
     rw [h];simp
   · rw [if_neg e]
     cases hh:m.find? fun x=>x.1==u with
     |some y=>simp
     |none=>simp [Ne.symm e]
theorem al_ad (m:List (Int × α)) (a u:Int):al (ad m a) u=if u=a then none else al m u:=by
 by_cases e:u=a
 · subst e
   rw [if_pos rfl,al_none]
   intro x hx
   unfold ad at hx
   rw [List.mem_filter] at hx
   simpa using hx.2
 · rw [if_neg e]
   unfold al ad
   rw [List.find?_filter]
   congr 1
   congr 1
   funext x
   by_cases h:x.1=u
   · rw [h];simp [e]
   · simp [h]
theorem ad_nodup (nd:(m.map (·.1)).Nodup) (a:Int):((ad m a).map (·.1)).Nodup:=nd.sublist (List.filter_sublist.map _)
def MV (g:α→Value) (w:World) (b:Nat) (m:List (Int × α)):Prop:=
 (∃es clock,w.heap[b]? =some (.map es clock)∧es.toList.map (fun e=> (e.key,e.val))=m.map fun x=> (Value.int .i64 x.1,g x.2))∧(m.map (·.1)).Nodup
theorem MV.lt (h:MV g w b m):b<w.heap.size:=by obtain ⟨⟨es,c,h,_⟩,_⟩:=h;exact (Array.getElem?_eq_some_iff.1 h).1
theorem MV.keep {S:Nat→Prop} (h:MV g w b m) (m':Mod S w w') (hs: ¬S b):MV g w' b m:=by
 have hl:=h.lt
 obtain ⟨⟨es,c,h,he⟩,nd⟩:=h
 exact ⟨⟨es,c,(m'.block b hl hs).trans h,he⟩,nd⟩
theorem MV.grow (h:MV g w b m) (m':Grow w w'):MV g w' b m:=h.keep m' id
theorem MV.drew (h:MV g w b m):MV g w.drew b m:=h
theorem MV.new {b:Nat} (h:New (.map #[] 0) w b w'):MV g w' b []:=⟨⟨#[],0,h.at,rfl⟩,by simp⟩
theorem MV.len (hm:mapV P t k e=true) (h:MV g w b m) (ty:TypeId):(Builtin.len_ #[t] ty #[.map (some b)]).run P w= .ok (.int .i64 m.length) w:=by
 obtain ⟨ht,_⟩:=mapV_spec hm
 obtain ⟨⟨es,c,hb,he⟩,_⟩:=h
 have:es.size=m.length:=by have:=congrArg List.length he;simpa using this
 simp [Builtin.len_,run_underlying ht,MapKept.run_getObj_map hb,Result.andThen,goInt,this]
theorem MV.find (h:MV g w b m) (a:Int): ∃es c,w.heap[b]? =some (.map es c)∧es.toList.map (fun e=> (e.key,e.val))=(m.map fun x=> (Value.int .i64 x.1,g x.2))∧
 ((Instr.findNow (.int .i64) (.int .i64 a) es.toList 0=some none∧al m a=none)∨∃j x e,Instr.findNow (.int .i64) (.int .i64 a) es.toList 0=some (some (j,g x))∧es[j]? =some e∧e.key= .int .i64 a∧m[j]? =some (a,x)∧al m a=some x):=by
 obtain ⟨⟨es,c,hb,he⟩,nd⟩:=h
 refine ⟨es,c,hb,he,?_⟩
 have get: ∀ (j:Nat) (e:MapEntry),es.toList[j]? =some e→∃x:Int × α,m[j]? =some x∧e.key= .int .i64 x.1∧e.val=g x.2:=by
  intro j e hj
  have:=congrArg (·[j]?) he
  simp only [List.getElem?_map,hj,Option.map_some] at this
  cases hm:m[j]? with
  |none=>rw [hm] at this;simp at this
  |some x=>
   rw [hm] at this
   simp at this
   exact ⟨x,rfl,this⟩
 have hks: ∀x∈es.toList,IsKey (.int .i64) x.key:=by
  intro x hx
  obtain ⟨j,hj,e⟩:=List.mem_iff_getElem.1 hx
  obtain ⟨y,_,h1,_⟩:=get j x (by rw [List.getElem?_eq_getElem hj,e])
  rw [h1];rfl
 rcases findNow_spec (d:= .int .i64) (show IsKey (.int .i64) (.int .i64 a) from rfl) es.toList 0 hks with ⟨h1,h2⟩| ⟨j,e,h1,h2,h3⟩
 · refine .inl ⟨h1,al_none.2 fun x hx=> ?_⟩
   obtain ⟨j,hj,e⟩:=List.mem_iff_getElem.1 hx
   have hlen:es.toList.length=m.length:=by have:=congrArg List.length he;simpa using this
   obtain ⟨y,h4,h5,_⟩:=get j es.toList[j] (by rw [List.getElem?_eq_getElem (by omega)])
   rw [List.getElem?_eq_getElem hj,e] at h4
   have h4:=Option.some.inj h4
   have:=h2 _ (List.getElem_mem (show j<es.toList.length by omega))
   rw [h5,← h4] at this
   exact fun e2=>this (by rw [e2])
 · obtain ⟨x,h4,h5,h6⟩:=get j e h2
   have hx:x.1=a:=by rw [h5] at h3;injection h3
   refine .inr ⟨j,x.2,e,by rw [h1,← h6,Nat.zero_add],by simpa using h2,h3,by rw [h4,← hx],al_of nd ?_⟩
   rw [← hx]
   exact List.mem_of_getElem? h4
theorem MV.look (hm:mapV P t k e=true) (h:MV g w b m) (a:Int) {z:Value} (hz:(zeroValue e).run P w= .ok z w):
 (Instr.lookup t (.map (some b)) (.int .i64 a) false).run P w= .ok (((al m a).map g).getD z) w:=by
 obtain ⟨ht,hk⟩:=mapV_spec hm
 obtain ⟨es,c,hb,he,hf⟩:=h.find a
 have hkey:IsKey (.int .i64) (.int .i64 a):=rfl
 rcases hf with ⟨h1,h2⟩| ⟨j,x,e,h1,h2,h3,h4,h5⟩
 · simp [Instr.lookup,run_underlying ht,MapKept.run_getObj_map hb,MapKept.run_checkKey hk hkey,MapKept.run_findKey hk h1,hz,Result.andThen,h2]
 · simp [Instr.lookup,run_underlying ht,MapKept.run_getObj_map hb,MapKept.run_checkKey hk hkey,MapKept.run_findKey hk h1,Result.andThen,h5]
theorem MV.lookOk (hm:mapV P t k e=true) (h:MV g w b m) (a:Int) {z:Value} (hz:(zeroValue e).run P w= .ok z w):
 (Instr.lookup t (.map (some b)) (.int .i64 a) true).run P w= .ok (.tuple #[((al m a).map g).getD z,.bool (al m a).isSome]) w:=by
 obtain ⟨ht,hk⟩:=mapV_spec hm
 obtain ⟨es,c,hb,he,hf⟩:=h.find a
 have hkey:IsKey (.int .i64) (.int .i64 a):=rfl
 rcases hf with ⟨h1,h2⟩| ⟨j,x,e,h1,h2,h3,h4,h5⟩
 · simp [Instr.lookup,run_underlying ht,MapKept.run_getObj_map hb,MapKept.run_checkKey hk hkey,MapKept.run_findKey hk h1,hz,Result.andThen,h2]
 · simp [Instr.lookup,run_underlying ht,MapKept.run_getObj_map hb,MapKept.run_checkKey hk hkey,MapKept.run_findKey hk h1,Result.andThen,h5]
theorem setMod {w:World} {b:Nat} (o:Obj):Mod (·=b) w {w with heap:=w.heap.setIfInBounds b o}:=
 ⟨rfl,rfl,rfl,by simp,fun x _ hx=>by simp [Array.getElem?_setIfInBounds_ne (Ne.symm hx)]⟩
theorem MV.put (hm:mapV P t k e=true) (h:MV g w b m) (a:Int) (v:α):
 ∃w',(Instr.mapUpdate t (.map (some b)) (.int .i64 a) (g v)).run P w= .ok () w'∧MV g w' b (ai m a v)∧Mod (·=b) w w'∧w'.heap.size=w.heap.size:=by
 obtain ⟨ht,hk⟩:=mapV_spec hm
 have nd:=h.2
 have hlt:=h.lt
 obtain ⟨es,c,hb,he,hf⟩:=h.find a
 have hkey:IsKey (.int .i64) (.int .i64 a):=rfl
 rcases hf with ⟨h1,h2⟩| ⟨j,x,e,h1,h2,h3,h4,h5⟩
 · refine ⟨_,?_,⟨⟨es.push {key:= .int .i64 a,val:=g v,born:=c},c+1,(MapKept.heap_set hb).1,?_⟩,ai_nodup nd a v⟩,setMod _,by simp⟩
   · simp [Instr.mapUpdate,run_underlying ht,MapKept.run_getObj_map hb,MapKept.run_checkKey hk hkey,MapKept.run_findKey hk h1,MapKept.run_setObj_map _ hb,Result.andThen]
   · unfold ai
     rw [h2]
     simp only [Option.isSome_none,Bool.false_eq_true,if_false,Array.toList_push,List.map_append,he,List.map_cons,List.map_nil]
 · refine ⟨_,?_,⟨⟨es.modify j fun e=> {e with key:= .int .i64 a,val:=g v},c,(MapKept.heap_set hb).1,?_⟩,ai_nodup nd a v⟩,setMod _,by simp⟩
   · simp [Instr.mapUpdate,run_underlying ht,MapKept.run_getObj_map hb,MapKept.run_checkKey hk hkey,MapKept.run_findKey hk h1,h2,h3,run_keyThatStays hkey,MapKept.run_setObj_map _ hb,Result.andThen]
   · unfold ai
     rw [h5]
     simp only [Option.isSome_some,if_true,Array.toList_modify]
     apply List.ext_getElem?
     intro i
     have hi:=congrArg (·[i]?) he
     simp only [List.getElem?_map] at hi
     simp only [List.getElem?_map,List.getElem?_modify]
     by_cases e2:j=i
     · subst e2
       rw [h4] at hi ⊢
       have:es.toList[j]? =some e:=by simpa using h2
       rw [this]
       simp
     · cases hmi:m[i]? with
       |none=>rw [hmi] at hi;cases hes:es.toList[i]? with
        |none=>simp
        |some z=>rw [hes] at hi;simp at hi
       |some y=>
        rw [hmi] at hi
        cases hes:es.toList[i]? with
        |none=>rw [hes] at hi;simp at hi
        |some z=>
         rw [hes] at hi
         simp at hi
         have:y.1≠a:=fun e3=>by
          have hil:i<m.length:=(List.getElem?_eq_some_iff.1 hmi).1
          have hjl:j<m.length:=(List.getElem?_eq_some_iff.1 h4).1
          have:=(List.getElem_inj (h₀:=show i< (m.map (·.1)).length by simpa using hil) (h₁:=show j< (m.map (·.1)).length by simpa using hjl) nd).1 (by
           rw [List.getElem_map,List.getElem_map]
           rw [List.getElem?_eq_getElem hil] at hmi
           rw [List.getElem?_eq_getElem hjl] at h4
           rw [Option.some.inj hmi,Option.some.inj h4]
           exact e3)
          omega
         simp [e2,this,hi]
theorem MV.del (hm:mapV P t k e=true) (h:MV g w b m) (a:Int) (ty:TypeId):
 ∃w',(Builtin.delete_ #[t,k] ty #[.map (some b),.int .i64 a]).run P w= .ok (.tuple #[]) w'∧MV g w' b (ad m a)∧Mod (·=b) w w'∧w'.heap.size=w.heap.size:=by
 obtain ⟨ht,hk⟩:=mapV_spec hm
 have nd:=h.2
 obtain ⟨es,c,hb,he,hf⟩:=h.find a
 have hkey:IsKey (.int .i64) (.int .i64 a):=rfl
 rcases hf with ⟨h1,h2⟩| ⟨j,x,e,h1,h2,h3,h4,h5⟩
 · refine ⟨_,?_,⟨⟨es,c,(MapKept.heap_set hb).1,?_⟩,ad_nodup nd a⟩,setMod _,by simp⟩
   · simp [Builtin.delete_,run_underlying ht,MapKept.run_getObj_map hb,MapKept.run_checkKey hk hkey,MapKept.run_findKey hk h1,MapKept.run_setObj_map _ hb,Result.andThen]
   · have:ad m a=m:=by
      unfold ad
      rw [List.filter_eq_self]
      intro x hx
      have:=al_none.1 h2 x hx
      simpa using this
     rw [this,he]
 · have hjs:j<es.size:=(Array.getElem?_eq_some_iff.1 h2).1
   have hsub:(es.eraseIdxIfInBounds j).toList=es.toList.eraseIdx j:=by
    unfold Array.eraseIdxIfInBounds
    rw [dif_pos hjs]
    simp
   refine ⟨_,?_,⟨⟨es.eraseIdxIfInBounds j,c,(MapKept.heap_set hb).1,?_⟩,ad_nodup nd a⟩,setMod _,by simp⟩
   · simp [Builtin.delete_,run_underlying ht,MapKept.run_getObj_map hb,MapKept.run_checkKey hk hkey,MapKept.run_findKey hk h1,MapKept.run_setObj_map _ hb,Result.andThen]
   · rw [hsub,Go.ChangeMaps.map_eraseIdx,he]
     have key: ∀ (m:List (Int × α)) (j:Nat) (x:α),(m.map (·.1)).Nodup→m[j]? =some (a,x)→m.eraseIdx j=ad m a:=by
      intro m
      induction m with
      |nil=>intro j x _ h;simp at h
      |cons y m ih=>
       intro j x nd h
       rw [List.map_cons,List.nodup_cons] at nd
       cases j with
       |zero=>
        simp at h
        subst h
        simp only [List.eraseIdx_zero,List.tail_cons]
        unfold ad
        rw [List.filter_cons]
        simp only [BEq.rfl,Bool.not_true,Bool.false_eq_true,if_false]
        symm
        rw [List.filter_eq_self]
        intro z hz
        have:z.1≠a:=fun e=>nd.1 (List.mem_map.2 ⟨z,hz,e⟩)
        simpa using this
       |succ j=>
        simp only [List.getElem?_cons_succ] at h
        have hne:y.1≠a:=fun e=>nd.1 (List.mem_map.2 ⟨_,List.mem_of_getElem? h,e.symm⟩)
        rw [List.eraseIdx_cons_succ,ih j x nd.2 h]
        unfold ad
        rw [List.filter_cons]
        simp [hne]
     rw [← Go.ChangeMaps.map_eraseIdx,key m j x nd h4]
end Go.Fw
namespace Go.Proofs.YtbdghpjnifjlmaaGreat.W
open Go Go.Fw Go.RowKit Go.SoP Go.LiP
open Go.Proofs.Tryz (prog)
section
variable {W w w' w0 w2 w3:World} {nb b ib ab:Nat} {vars:Int} {id:List (Int × Int)} {H H' H2:Pt→Sl} {s t u s':PSt} {lp:Option Addr} {lc:Nat} {ls:List Int} {sm:List (Int × Sl)} {cl:Int→List Int} {cp:Option Addr} {n cc:Nat} {c:List Int}
def cod (id:List (Int × Int)) (x:Int):Int:=if x<0 then -((al id (amt x)).getD 0) else (al id (amt x)).getD 0
structure Idn (id:List (Int × Int)):Prop where
 nd:(id.map (·.1)).Nodup
 idn: ∀j,j<id.length→(id.getD j (0,0)).2=((j+1:Nat):Int)
 idk: ∀x∈id,1≤x.1∧x.1≤1048576
theorem keys_le {l:List Int} {B:Nat} (nd:l.Nodup) (h: ∀x∈l,1≤x∧x≤B):l.length≤B:=by
 have hs:=List.Nodup.length_le_of_subset nd (l₂:=(List.range B).map fun j:Nat=> (j:Int)+1) fun y hy=>by
  have:=h y hy
  exact List.mem_map.2 ⟨(y - 1).toNat,List.mem_range.2 (by omega),by show (((y - 1).toNat:Nat):Int)+1=_;omega⟩
 rwa [List.length_map,List.length_range] at hs
theorem Idn.le {id:List (Int × Int)} (h:Idn id):id.length≤1048576:=by
 have:=keys_le (l:=id.map (·.1)) (B:=1048576) h.nd fun x hx=>by
  obtain ⟨y,hy,rfl⟩:=List.mem_map.1 hx
  exact h.idk y hy
 rwa [List.length_map] at this
def Nt (id:List (Int × Int)) (x:Int):Prop:=x≠0∧(al id (amt x)).isSome
theorem Idn.get (h:Idn id) {x:Int} {v:Int} (hv:al id x=some v): ∃j,j<id.length∧id.getD j (0,0)=(x,v)∧v=((j+1:Nat):Int):=by
 obtain ⟨j,hj,e⟩:=List.mem_iff_getElem.1 (al_mem hv)
 have e:id.getD j (0,0)=(x,v):=by simp [List.getD,hj,e]
 have:=h.idn j hj
 rw [e] at this
 exact ⟨j,hj,e,this⟩
theorem cod_neg {x:Int} (hx:x≠0):cod id (-x)= -cod id x:=by
 unfold cod
 rw [amt_neg]
 by_cases h:x<0
 · rw [if_neg (by omega),if_pos h];omega
 · rw [if_pos (by omega),if_neg h]
theorem Idn.cod (h:Idn id):Cod (Nt id) (cod id):=by
 have al0:al id 0=none:=al_none.2 fun x hx=>by have:=h.idk x hx;omega
 have val: ∀x,Nt id x→∃v j:Nat,al id (amt x)=some (v:Int)∧v=j+1∧j<id.length∧id.getD j (0,0)=(amt x,(v:Int)):=fun x hx=>by
  obtain ⟨v,hv⟩:=Option.isSome_iff_exists.1 hx.2
  obtain ⟨j,hj,e,rfl⟩:=h.get hv
  exact ⟨j+1,j,hv,rfl,hj,e⟩
 refine ⟨fun x=> ?_,fun x y hx hy e=> ?_,fun x hx=> ?_,fun x hx=> ⟨by have:=hx.1;omega,by rw [amt_neg];exact hx.2⟩,fun h=>h.1 rfl⟩
 · by_cases hx:x=0
   · subst hx
     unfold Go.Proofs.YtbdghpjnifjlmaaGreat.W.cod
     have:amt 0=0:=by decide
     simp [this,al0]
   · exact cod_neg hx
 · obtain ⟨v,j,h1,h2,h3,h4⟩:=val x hx
   obtain ⟨v',j',h1',h2',h3',h4'⟩:=val y hy
   unfold Go.Proofs.YtbdghpjnifjlmaaGreat.W.cod at e
   rw [h1,h1'] at e
   simp only [Option.getD_some] at e
   have hj:j=j'∧(x<0↔y<0):=by
    split at e<;>split at e<;>omega
   have ha:amt x=amt y:=by
    rw [hj.1] at h4
    rw [h4] at h4'
    exact (Prod.mk.inj h4').1
   have:=hx.1
   rcases amt_eq ha with e2|e2<;>omega
 · obtain ⟨v,j,h1,h2,_,_⟩:=val x hx
   unfold Go.Proofs.YtbdghpjnifjlmaaGreat.W.cod
   rw [h1]
   simp only [Option.getD_some]
   split<;>omega
theorem Idn.inv (h:Idn id) {x:Int} (hx:Nt id x):InV id.length (Go.Proofs.YtbdghpjnifjlmaaGreat.W.cod id x):=by
 obtain ⟨v,hv⟩:=Option.isSome_iff_exists.1 hx.2
 obtain ⟨j,hj,e,rfl⟩:=h.get hv
 unfold Go.Proofs.YtbdghpjnifjlmaaGreat.W.cod InV
 rw [hv]
 simp only [Option.getD_some]
 split<;>omega
structure RB (W w:World) (nb b ib ab:Nat) (vars:Int) (id:List (Int × Int)) (H:Pt→Sl) (s:PSt) (lp:Option Addr) (lc:Nat) (ls:List Int) (sm:List (Int × Sl)) (cl:Int→List Int):Prop where
 st:Has w nb #[.int .i64 vars,.map (some ib),ptrV b,.slice lp ls.length lc,.map (some ab)]
 pm:PM w b H s
 g:Good s
 im:MV (Value.int .i64) w ib id
 am:MV Sl.v w ab sm
 lo:OwI ty_int w lp lc ls
 rw: ∀x∈sm,x.2.n=(cl x.1).length∧x.2.n≤maxLen∧Vw (Value.int .i64) w x.2.p (cl x.1)
 d1: ∀x k,own b H x=some k→k≠nb∧k≠ib∧k≠ab∧blk lp≠some k
 d2:nb≠ib∧nb≠ab∧ib≠ab∧blk lp≠some nb∧blk lp≠some ib∧blk lp≠some ab
 d3: ∀x∈sm,0<x.2.n→∀k,blk x.2.p=some k→k≠nb∧k≠ib∧k≠ab∧blk lp≠some k∧∀y,own b H y≠some k
 wg:Grow W w
 wy:W.heap.size≤nb∧W.heap.size≤ib∧W.heap.size≤ab∧(∀k,blk lp=some k→W.heap.size≤k)∧∀x k,own b H x=some k→W.heap.size≤k
 be:s.R .be= []
 idn:Idn id
 sv:s.vars=id.length
 nd:ls.Nodup
 th: ∀i:Nat,s.There i↔(i:Int)∈ls
 l0: ∀i∈ls,0≤i
 lk: ∀i∈ls,(al sm i).isSome
 cd: ∀i:Nat,s.There i→s.R (.a i)=(cl i).map (cod id)
 lt: ∀i∈ls,∀x∈cl i,litB x=true∧Nt id x
 ln: ∀i∈ls,(cl i).length≤4096
 ask: ∀x∈sm,0≤x.1∧x.1<s.nc
 ll:ls.length≤s.nc
theorem RB.grow (h:RB W w nb b ib ab vars id H s lp lc ls sm cl) (m:Grow w w'):RB W w' nb b ib ab vars id H s lp lc ls sm cl:=
 ⟨h.st.grow m,h.pm.grow m,h.g,h.im.grow m,h.am.grow m,h.lo.grow m,fun x hx=> ⟨(h.rw x hx).1,(h.rw x hx).2.1,(h.rw x hx).2.2.grow m⟩,h.d1,h.d2,h.d3,h.wg.trans m,h.wy,h.be,h.idn,h.sv,h.nd,h.th,h.l0,h.lk,h.cd,h.lt,h.ln,h.ask,h.ll⟩
theorem RB.drew (h:RB W w nb b ib ab vars id H s lp lc ls sm cl):RB W w.drew nb b ib ab vars id H s lp lc ls sm cl:=h.grow (Mod.refl w).drew
theorem RB.prop (h:RB W w nb b ib ab vars id H s lp lc ls sm cl) (P:Pw w w' b H H' s') (g:Good s') (hv:s'.vars=s.vars) (hn:s'.nc=s.nc) (hg:s'.gone=s.gone) (ha: ∀i,s'.R (.a i)=s.R (.a i)) (hb:s'.R .be= []):
 RB W w' nb b ib ab vars id H' s' lp lc ls sm cl:=by
 have no: ∀ {k:Nat},(∀x,own b H x≠some k)→¬∃x,own b H x=some k:=fun h ⟨x,e⟩=>h x e
 have n1: ∀x,own b H x≠some nb:=fun x e=> (h.d1 x _ e).1 rfl
 have n2: ∀x,own b H x≠some ib:=fun x e=> (h.d1 x _ e).2.1 rfl
 have n3: ∀x,own b H x≠some ab:=fun x e=> (h.d1 x _ e).2.2.1 rfl
 have hth: ∀i,s'.There i↔s.There i:=fun i=>by unfold PSt.There;rw [hn,hg]
 have hll:=h.st.lt
 refine ⟨h.st.keep P.mod (no n1),P.pm,g,h.im.keep P.mod (no n2),h.am.keep P.mod (no n3),h.lo.keep P.mod fun k hk ⟨x,e⟩=> (h.d1 x k e).2.2.2 hk,fun x hx=> ?_,fun x k hk=> ?_,h.d2,fun x hx h0 k hk=> ?_,h.wg.then P.mod fun k hk ⟨x,e⟩=> ?_,⟨h.wy.1,h.wy.2.1,h.wy.2.2.1,h.wy.2.2.2.1,fun x k hk=> ?_⟩,hb,h.idn,hv.trans h.sv,h.nd,fun i=> (hth i).trans (h.th i),h.l0,h.lk,fun i hi=>by rw [ha];exact h.cd i ((hth i).1 hi),h.lt,h.ln,fun x hx=>by rw [hn];exact h.ask x hx,by rw [hn];exact h.ll⟩
 · obtain ⟨r1,r2,r3⟩:=h.rw x hx
   refine ⟨r1,r2,r3.keepN P.mod fun hne k hk ⟨y,e⟩=> (h.d3 x hx (by rw [r1];exact List.length_pos_iff.2 hne) k hk).2.2.2.2 y e⟩
 · rcases P.ft x k hk with ⟨y,e⟩|e
   · exact h.d1 y k e
   · have l1:=h.st.lt;have l2:=h.im.lt;have l3:=h.am.lt
     exact ⟨by omega,by omega,by omega,fun e2=>by have:=h.lo.lt k e2;omega⟩
 · obtain ⟨a1,a2,a3,a4,a5⟩:=h.d3 x hx h0 k hk
   refine ⟨a1,a2,a3,a4,fun y e=> ?_⟩
   rcases P.ft y k e with ⟨z,e2⟩|e2
   · exact a5 z e2
   · obtain ⟨r1,_,r3⟩:=h.rw x hx
     have:=r3.lt (fun e3=>by rw [e3] at r1;simp at r1;omega) k hk
     omega
 · have:=h.wy.2.2.2.2 x k e;omega
 · rcases P.ft x k hk with ⟨y,e⟩|e
   · exact h.wy.2.2.2.2 y k e
   · have:=h.wg.size;omega
theorem map_ii:mapV prog ty_map_int_int ty_int ty_int=true:=by kernel_rfl
theorem map_is:mapV prog ty_map_int_sl_int ty_int ty_sl_int=true:=by kernel_rfl
theorem zero_of {e:TypeId} {z:Value} (h:(Tryz.prog.info? e).bind (·.zero)=some z) (w:World):(zeroValue e).run prog w= .ok z w:=by
 cases hi:Tryz.prog.info? e with
 |none=>rw [hi] at h;simp at h
 |some i=>
  rw [hi] at h
  simp at h
  unfold zeroValue
  simp only [Sem.run_bind,run_info_some hi,Result.andThen_ok,h,Sem.run_pure]
theorem zero_int (w:World):(zeroValue ty_int).run prog w= .ok (.int .i64 0) w:=zero_of int_zero w
theorem zero_sl (w:World):(zeroValue ty_sl_int).run prog w= .ok (.slice none 0 0) w:=zero_of sl_zero w
theorem code_ok (h:RB W w nb b ib ab vars id H s lp lc ls sm cl) (hc:Vw (Value.int .i64) w cp c) (hn:n=c.length) (hx:n≤100000) (hl: ∀x∈c,litB x=true):
 Calls prog rup_base_code.id #[ptrV nb,.slice cp n cc] w fun e w'=> ∃ (q:Option Addr) (d:Nat),e= .returned (.slice q c.length d)∧OwI ty_int w' q d (c.map (cod id))∧Grow w w'∧∀k,blk q=some k→w.heap.size≤k:=by
 subst hn
 refine rup_base_code.calls ?_
 refine ⟨fun P N C I u z=> ∃i:Nat,I=i∧i≤c.length∧z=c.length - i∧N=((c.take i).map (cod id)).length∧OwI ty_int u P C ((c.take i).map (cod id))∧(∀k,blk P=some k→w.heap.size≤k)∧Grow w u,
  ⟨_,0,rfl,Nat.zero_le _,rfl,by simp,Ow.nil _ _ _,fun k hk=>by simp [blk] at hk,Mod.refl w⟩,?_⟩
 rintro P N C I u z _ ⟨i,rfl,hi,rfl,rfl,o,fP,gu⟩
 have hlen:((c.take i).map (cod id)).length=i:=by simp;omega
 refine cnd_i (fun r=> ?_) (fun r=> ?_)
 · have r:i<c.length:=by simpa using r
   refine (hc.grow gu).ix 0 (by omega) rfl (by omega) fun a e=> ⟨_,e,_,rfl,_,cell_add (h.st.grow gu) rfl,?_⟩
   rw [Int.toNat_natCast]
   have hlb:=hl _ (getD_mem' r)
   have hb:=litB_b2 hlb
   have hs:(c.take (i+1)).map (cod id)=(c.take i).map (cod id)++ [cod id (c.getD i 0)]:=by
    rw [List.take_add_one,List.map_append];simp [List.getD,r]
   generalize c.getD i 0=X at*
   have ea:imax X (IntKind.i64.wrap (0 - X))=amt X:=by
    rw [nw X hb];unfold imax amt;split<;>split<;>omega
   rw [ea]
   have hlk:=(h.im.grow gu).look map_ii (amt X) (zero_int u)
   have hval:((al id (amt X)).map (Value.int .i64)).getD (.int .i64 0)= .int .i64 ((al id (amt X)).getD 0):=by cases al id (amt X)<;>rfl
   rw [hval] at hlk
   have hbd:0≤(al id (amt X)).getD 0∧(al id (amt X)).getD 0≤1048576:=by
    cases hv:al id (amt X) with
    |none=>simp
    |some v=>
     obtain ⟨j,hj,_,rfl⟩:=h.idn.get hv
     have:=h.sv;have:=h.g.vmax
     simp only [Option.getD_some]
     omega
   refine ⟨_,_,hlk,cnd_i (fun r2=> ?_) (fun r2=> ?_)⟩
   · have r2:X<0:=by simpa using r2
     intro n13 w14 h14
     rw [nw _ (by omega)] at h14
     refine app_fresh (W0:=w) (o.grow h14.mod) (gu.trans h14.mod) fP (box1 h14) rfl rfl (by rw [hlen];simp;omega) fun w15 p15 c15 o15 g15 f15=> ?_
     have hc2:cod id X= -((al id (amt X)).getD 0):=by unfold cod;rw [if_pos r2]
     rw [← hc2] at o15
     refine ⟨_,by omega,i+1,wN (by omega) (by omega),r,rfl,by rw [hs];simp,by rw [hs];exact o15,f15,g15⟩
   · have r2: ¬X<0:=by simpa using r2
     intro n13 w14 h14
     refine app_fresh (W0:=w) (o.grow h14.mod) (gu.trans h14.mod) fP (box1 h14) rfl rfl (by rw [hlen];simp;omega) fun w15 p15 c15 o15 g15 f15=> ?_
     have hc2:cod id X=(al id (amt X)).getD 0:=by unfold cod;rw [if_neg r2]
     rw [← hc2] at o15
     refine ⟨_,by omega,i+1,wN (by omega) (by omega),r,rfl,by rw [hs];simp,by rw [hs];exact o15,f15,g15⟩
 · have r:i=c.length:=by simp at r;omega
   subst r
   rw [List.take_length] at o hlen
   exact ⟨P,C,by rw [List.take_length,hlen],o,gu,fP⟩
end
section
variable {W w w' w0 w2 w3:World} {nb b ib ab:Nat} {vars:Int} {id:List (Int × Int)} {H H' H2:Pt→Sl} {s t u s':PSt} {lp:Option Addr} {lc:Nat} {ls:List Int} {sm:List (Int × Sl)} {cl:Int→List Int} {cp:Option Addr} {n cc:Nat} {c:List Int}
structure Kep (s s':PSt):Prop where
 v:s'.vars=s.vars
 n:s'.nc=s.nc
 g:s'.gone=s.gone
 a: ∀i,s'.R (.a i)=s.R (.a i)
theorem Kep.refl (s:PSt):Kep s s:=⟨rfl,rfl,rfl,fun _=>rfl⟩
theorem Kep.trans (h:Kep s t) (k:Kep t u):Kep s u:=⟨k.v.trans h.v,k.n.trans h.n,k.g.trans h.g,fun i=> (k.a i).trans (h.a i)⟩
theorem Kep.decide (s:PSt) (l:Int):Kep s (s.decide l):=by
 obtain ⟨s1,s2,s3,s4⟩:=decide_same (s:=s) l
 exact ⟨s1,s2,s3,s4⟩
theorem Kep.ext (h:Ext s t):Kep s t:=⟨h.v,h.n,h.g,h.a⟩
theorem Kep.back (s:PSt) (L:Nat):Kep s (s.back L):=by
 obtain ⟨s1,s2,s3,s4,_⟩:=back_same (s:=s) L
 exact ⟨s1,s2,s3,s4⟩
theorem Kep.there (h:Kep s t) {i:Nat}:t.There i↔s.There i:=by unfold PSt.There;rw [h.n,h.g]
theorem be_decide (s:PSt) (l:Int):(s.decide l).R .be=s.R .be++ [((s.R .tr).length:Int)]:=by
 unfold PSt.decide;rw [put_R (by simp) (by simp) (by simp) (by simp)];unfold PSt.begin;rw [set_ne (by simp),set_eq]
theorem RB.cls (h:RB W w nb b ib ab vars id H s lp lc ls sm cl) (k:Kep s t) (x:List Int):x∈(ls.map cl).map (List.map (cod id))↔t.cls x:=by
 unfold PSt.cls
 rw [List.map_map,List.mem_map]
 constructor
 · rintro ⟨i,hi,rfl⟩
   have h0:=h.l0 i hi
   have hth:s.There i.toNat:=(h.th _).2 (by rw [Int.toNat_of_nonneg h0];exact hi)
   refine ⟨i.toNat,k.there.2 hth,?_⟩
   rw [k.a,h.cd _ hth,Int.toNat_of_nonneg h0]
   rfl
 · rintro ⟨i,hi,rfl⟩
   have hth:=k.there.1 hi
   exact ⟨(i:Int),(h.th i).1 hth,by rw [k.a,h.cd _ hth];rfl⟩
structure Rd (s s':PSt) (id:List (Int × Int)) (c:List Int) (j:Nat):Prop where
 g:Good s'
 k:Kep s s'
 dt:s'.dec=s'.R .tr
 bt:(s'.R .be).length=(s'.R .tr).length
 b0:s'.R .be≠[]→(s'.R .be).getD 0 0=0
 fw: ∀x∈c.take j,-cod id x∈s'.R .tr
 bw: ∀y∈s'.R .tr,∃x∈c.take j,y= -cod id x
theorem backD_ok {u:FrameMode} (h:PM w b H s) (g:Good s) (lev:Int):CallsD prog prop_Prop_Back.id #[ptrV b,.int .i64 lev] u w fun e u' w'=>u'=u∧e= .returned (.tuple #[])∧∃H',Pw w w' b H H' (if (max 0 lev).toNat< (s.R .be).length then s.back (max 0 lev).toNat else s):=
 prop_Prop_Back.callsD (R:=fun e w'=>e= .returned (.tuple #[])∧∃H',Pw w w' b H H' (if (max 0 lev).toNat< (s.R .be).length then s.back (max 0 lev).toNat else s)) (back_w h g lev)
theorem RB.backs (h:RB W w nb b ib ab vars id H s lp lc ls sm cl) (P:Pw w w2 b H H2 t) (g:Good t) (k:Kep s t) (hb0:t.R .be≠[]→(t.R .be).getD 0 0=0) {R:World→Prop}
 (hR: ∀w' H' s',RB W w' nb b ib ab vars id H' s' lp lc ls sm cl→Pw w w' b H H' s'→s'.nc=s.nc→(t.R .be≠[]→s'.R .tr= [])→R w'):
 CallsD prog prop_Prop_Back.id #[ptrV b,.int .i64 0] .returning w2 fun e u w'=>u= .returning∧∃v:Value,e= .returned v∧R w':=by
 refine (backD_ok P.pm g 0).mono ?_
 rintro e u w' ⟨rfl,rfl,H',P'⟩
 refine ⟨rfl,_,rfl,?_⟩
 have hz:(max (0:Int) 0).toNat=0:=rfl
 rw [hz] at P'
 have PP:=P.trans P'
 by_cases hb:0< (t.R .be).length
 · rw [if_pos hb] at PP
   have hbe:=hb0 (List.length_pos_iff.1 hb)
   obtain ⟨_,_,_,_,e1,e2⟩:=back_same (s:=t) 0
   have kk:=k.trans (Kep.back t 0)
   refine hR _ _ _ (h.prop PP (back_good g hb) kk.v kk.n kk.g kk.a (by rw [e1];rfl)) PP kk.n fun _=> ?_
   rw [e2,hbe];rfl
 · rw [if_neg hb] at PP
   have hbe:t.R .be= []:=List.eq_nil_of_length_eq_zero (by omega)
   exact hR _ _ _ (h.prop PP g k.v k.n k.g k.a hbe) PP k.n fun e=>absurd hbe e
theorem unit_ok (h:RB W w nb b ib ab vars id H s lp lc ls sm cl) (htr:s.R .tr= []) (hc:Vw (Value.int .i64) w cp c) (hn:n=c.length) (hx:n≤100000) (hl: ∀x∈c,litB x=true) (hN: ∀x∈c,Nt id x):
 Calls prog rup_base_unit.id #[ptrV nb,.slice cp n cc] w fun e w'=> ∃r:Bool,e= .returned (.bool r)∧(r=true↔uB (ls.map cl) c)∧∃H' s',RB W w' nb b ib ab vars id H' s' lp lc ls sm cl∧Pw w w' b H H' s'∧s'.nc=s.nc∧(c≠[]→s'.R .tr= []):=by
 have C:=h.idn.cod
 refine rup_base_unit.calls ⟨_,rfl,_,cell_add h.st rfl,(code_ok h hc hn hx hl).mono ?_⟩
 rintro e w3 ⟨q,d,rfl,o3,g3,f3⟩
 have h3:=h.grow g3
 have sv:=h.sv
 have hinv: ∀x∈c,InV s.vars (cod id x):=fun x hx=>by rw [sv];exact h.idn.inv (hN x hx)
 have noq: ∀ {k:Nat},blk q=some k→∀x,own b H x≠some k:=fun hk x e=>by have:=f3 _ hk;have:=h.pm.lt x _ e;omega
 have hncl: ∀i,i∈ls→∀x∈cl i,Nt id x:=fun i hi x hx=> (h.lt i hi x hx).2
 have uBe:uB ((ls.map cl).map (List.map (cod id))) (c.map (cod id))↔uB (ls.map cl) c:=C.uBE (fun x hx y hy=>by
  obtain ⟨i,hi,rfl⟩:=List.mem_map.1 hx
  exact hncl i hi y hy) hN
 refine ⟨_,_,_,rfl,?_⟩
 refine ⟨fun I u z=> ∃j:Nat,I=j∧j≤c.length∧z=c.length - j∧∃H' s',Pw w3 u b H H' s'∧Rd s s' id c j,⟨_,0,rfl,Nat.zero_le _,rfl,H,s,Pw.refl h3.pm (Mod.refl _),
  ⟨h.g,.refl s,by unfold PSt.dec;rw [h.be,htr];rfl,by rw [h.be,htr],fun e=>absurd h.be e,fun x hx=>by simp at hx,fun y hy=>by rw [htr] at hy;simp at hy⟩⟩,?_⟩
 rintro I u z _ ⟨j,rfl,hj,rfl,H1,s1,P1,R⟩
 have hvq:Vw (Value.int .i64) u q (c.map (cod id)):=o3.vw.keepN P1.mod fun _ k hk ⟨x,e⟩=>noq hk x e
 have stu:Has u nb _:=h3.st.keep P1.mod fun ⟨x,e⟩=> (h.d1 x _ e).1 rfl
 have k1:=R.g.wf
 refine cnd_i (fun r=> ?_) (fun r=> ?_)
 · have r:j<c.length:=by simpa using r
   have hm:=getD_mem' r
   have egd:(c.map (cod id)).getD j 0=cod id (c.getD j 0):=by simp [List.getD,r]
   have tk: ∀x,x∈c.take (j+1)↔x∈c.take j∨x=c.getD j 0:=fun x=>mem_take_succ' r
   refine hvq.ix 0 (by omega) (by simp) (by omega) fun a e=> ⟨_,e,_,rfl,_,cell_add stu rfl,?_⟩
   rw [Int.toNat_natCast,egd]
   generalize hX:c.getD j 0=X at*
   have hv:InV s1.vars (cod id X):=by rw [R.k.v];exact hinv X hm
   refine (value_ok P1.pm k1 _).mono ?_
   rintro e w14 ⟨rfl,g14⟩
   have P14:=P1.grow g14
   have hval:s1.value (cod id X)=s1.val (cod id X):=by
    unfold PSt.value;rw [(isB_iff R.g.vmax).2 hv];rfl
   rw [hval]
   refine ⟨_,rfl,cnd_i (fun r1=> ?_) (fun r1=>cnd_i (fun r2=> ?_) (fun r2=> ?_))⟩
   · have r1:s1.val (cod id X)=1:=by simpa using r1
     have hin:=(R.g.v1 _ hv).1 r1
     obtain ⟨x',hx',e⟩:=R.bw _ hin
     have hx'c:=List.mem_of_mem_take hx'
     have ex:X= -x':=C.inj _ _ (hN X hm) (C.sym _ (hN x' hx'c)) (by rw [C.neg];exact e)
     have hbe:s1.R .be≠[]:=fun e2=>by
      have:=R.bt
      rw [e2] at this
      have:=List.eq_nil_of_length_eq_zero this.symm
      rw [this] at hin;simp at hin
     refine h3.backs P14 R.g R.k R.b0 fun w' H' s' hB hP hn ht=> ⟨true,rfl,⟨fun _=> .inl (taut_iff.2 ⟨x',hx'c,ex▸hm⟩),fun _=>rfl⟩,H',s',hB,hP.pre g3,hn,fun _=>ht hbe⟩
   · have r2:s1.val (cod id X)=0:=by simpa using r2
     refine ⟨_,rfl,_,cell_add (stu.grow g14) rfl,?_⟩
     rw [nw _ (hv.bd R.g.vmax)]
     have hv0:s1.val (-cod id X)=0:=by rw [val_neg hv,r2];rfl
     refine (decide_ok P14.pm R.g (-cod id X)).mono ?_
     rintro e w21 ⟨r,rfl,H',hd⟩
     obtain ⟨rfl,P⟩:r=0∧Pw w14 w21 b H1 H' (s1.decide (-cod id X)):=hd.elim (fun h=> ⟨h.1,h.2.2.2⟩) fun h=>absurd ⟨hv.neg,hv0⟩ h.2.1
     have etr:=tr_decide (s:=s1) (-cod id X)
     have ebe:=be_decide s1 (-cod id X)
     refine ⟨_,rfl,_,by omega,j+1,wN (by omega) (by omega),r,rfl,H',_,P14.trans P,⟨decide_good R.g hv.neg hv0,R.k.trans (.decide s1 _),by rw [dec_decide R.g,R.dt,etr],by rw [ebe,etr];simp [R.bt],fun _=> ?_,fun x hx=> ?_,fun y hy=> ?_⟩⟩
     · rw [ebe]
       cases hbe:s1.R .be with
       |nil=>
        have:=R.bt
        rw [hbe] at this
        rw [← this];rfl
       |cons y l=>
        have:=R.b0 (by rw [hbe];simp)
        rw [hbe] at this
        simpa using this
     · rw [etr]
       rcases (tk x).1 hx with hx|rfl
       · exact List.mem_append_left _ (R.fw x hx)
       · simp
     · rw [etr] at hy
       rcases List.mem_append.1 hy with hy|hy
       · obtain ⟨x,hx,e⟩:=R.bw y hy
         exact ⟨x,(tk x).2 (.inl hx),e⟩
       · rw [List.mem_singleton] at hy
         exact ⟨X,(tk X).2 (.inr rfl),hy⟩
   · have r1: ¬s1.val (cod id X)=1:=by simpa using r1
     have r2: ¬s1.val (cod id X)=0:=by simpa using r2
     have hm1:s1.val (cod id X)= -1:=by
      rcases PSt.val_bd k1 (cod id X) with e|e|e
      · exact absurd e r2
      · exact absurd e r1
      · exact e
     have hin:=(R.g.vm hv).1 hm1
     refine ⟨_,by omega,j+1,wN (by omega) (by omega),r,rfl,H1,s1,P14,⟨R.g,R.k,R.dt,R.bt,R.b0,fun x hx=> ?_,fun y hy=> ?_⟩⟩
     · rcases (tk x).1 hx with hx|rfl
       · exact R.fw x hx
       · exact hin
     · obtain ⟨x,hx,e⟩:=R.bw y hy
       exact ⟨x,(tk x).2 (.inl hx),e⟩
 · have r:j=c.length:=by simp at r;omega
   subst r
   refine ⟨_,rfl,_,cell_add stu rfl,(run_ok P1.pm R.g).mono ?_⟩
   rintro e w25 ⟨r,rfl,s2,H2,P2,g2,x,ht⟩
   have PP:=P1.trans P2
   have kk:=R.k.trans (.ext x)
   have fw: ∀x∈c,-cod id x∈s1.R .tr:=fun x hx=>R.fw x (by rw [List.take_length];exact hx)
   have bw: ∀y∈s1.R .tr,∃x∈c,y= -cod id x:=fun y hy=>by
    obtain ⟨x,hx,e⟩:=R.bw y hy
    exact ⟨x,List.mem_of_mem_take hx,e⟩
   have hnt:taut (c.map (cod id))=false:=by
    rw [← Bool.not_eq_true,C.tautE hN,taut_iff]
    rintro ⟨x,hx,hx'⟩
    have a1:=fw x hx
    have a2:=fw _ hx'
    rw [C.neg,Int.neg_neg] at a2
    exact R.g.cons a2 a1
   have hdec:s2.dec=s1.R .tr:=by rw [dec_ext R.g x,R.dt]
   have key:=told_uB (cs:=(ls.map cl).map (List.map (cod id))) g2 ht (fun x=>h.cls kk x) hnt (fun y hy=>by
    obtain ⟨z,hz,rfl⟩:=List.mem_map.1 hy
    exact x.mem (fw z hz)) (fun y hy=>by
    rw [hdec] at hy
    obtain ⟨z,hz,rfl⟩:=bw y hy
    rw [Int.neg_neg]
    exact List.mem_map_of_mem hz)
   refine ⟨_,rfl,h3.backs PP g2 kk (by rw [x.be];exact R.b0) fun w' H' s' hB hP hn ht=> ⟨_,rfl,?_,H',s',hB,hP.pre g3,hn,fun hne=>ht ?_⟩⟩
   · rw [decide_eq_true_eq,key,uBe]
   · rw [x.be]
     intro e2
     have:=R.bt
     rw [e2] at this
     have hnil:=List.eq_nil_of_length_eq_zero this.symm
     have:=fw _ (List.head_mem hne)
     rw [hnil] at this;simp at this
end
section
variable {W w w' w0 w2 w3:World} {nb b ib ab:Nat} {vars:Int} {id:List (Int × Int)} {H H' H2:Pt→Sl} {s t u s':PSt} {lp:Option Addr} {lc:Nat} {ls:List Int} {sm:List (Int × Sl)} {cl:Int→List Int} {cp:Option Addr} {n cc:Nat} {c:List Int}
theorem RB.look (h:RB W w nb b ib ab vars id H s lp lc ls sm cl) {J:Int} (hJ:J∈ls): ∃sl:Sl,al sm J=some sl∧(Instr.lookup ty_map_int_sl_int (.map (some ab)) (.int .i64 J) false).run prog w= .ok (.slice sl.p sl.n sl.c) w∧(J,sl)∈sm∧sl.n=(cl J).length∧Vw (Value.int .i64) w sl.p (cl J):=by
 obtain ⟨sl,hsl⟩:=Option.isSome_iff_exists.1 (h.lk J hJ)
 obtain ⟨r1,r2,r3⟩:=h.rw (J,sl) (al_mem hsl)
 have hlk:=h.am.look map_is J (zero_sl w)
 rw [hsl] at hlk
 exact ⟨sl,hsl,hlk,al_mem hsl,r1,r3⟩
theorem wo_snoc (l:List Int) (y x:Int):wo (l++ [y]) x=wo l x++ (if y=x then [] else [y]):=by
 unfold wo
 rw [List.filter_append,List.filter_cons,List.filter_nil]
 by_cases e:y=x
 · subst e;simp
 · simp [e]
theorem first_ok (h:RB W w nb b ib ab vars id H s lp lc ls sm cl) (htr:s.R .tr= []) (hc:Vw (Value.int .i64) w cp c) (hn:n=c.length) (hx:n≤90000) (hl: ∀x∈c,litB x=true) (hN: ∀x∈c,Nt id x) (ho:c≠[]→∀k,blk cp=some k→∀x,own b H x≠some k):
 Calls prog rup_base_first.id #[ptrV nb,.slice cp n cc] w fun e w'=> ∃r:Bool,e= .returned (.bool r)∧(r=true↔fB (ls.map cl) c)∧∃H' s',RB W w' nb b ib ab vars id H' s' lp lc ls sm cl∧Pw w w' b H H' s'∧s'.nc=s.nc∧s'.R .tr= []:=by
 subst hn
 refine rup_base_first.calls (cnd_i (fun r=> ?_) (fun r=> ?_))
 · have r:c= []:=by
    have:(c.length:Int)=0:=by simpa using r
    exact List.eq_nil_of_length_eq_zero (by omega)
   exact ⟨false,rfl,⟨fun e=> (by cases e),fun h=>absurd r h.1⟩,H,s,h,Pw.refl h.pm (Mod.refl w),rfl,htr⟩
 have hne:0<c.length:=by
  have:(c.length:Int)≠0:=by simpa using r
  omega
 have hne':c≠[]:=List.length_pos_iff.1 hne
 have hb0:=litB_b2 (hl _ (getD_mem' hne))
 refine ⟨_,rfl,_,_,_,cell_add h.st rfl,?_⟩
 refine ⟨fun I u z=> ∃i:Nat,I=i∧i≤ls.length∧z=ls.length - i∧(∃H1 s1,RB W u nb b ib ab vars id H1 s1 lp lc ls sm cl∧Pw w u b H H1 s1∧s1.nc=s.nc∧s1.R .tr= [])∧
  ∀j∈ls.take i,-(c.getD 0 0)∈cl j→(resF c (cl j)).length≤4096∧uB (ls.map cl) (resF c (cl j)),
  ⟨_,0,rfl,Nat.zero_le _,rfl,⟨H,s,h,Pw.refl h.pm (Mod.refl w),rfl,htr⟩,fun j hj=>by simp at hj⟩,?_⟩
 rintro I u z _ ⟨i,rfl,hi,rfl,⟨H1,s1,h1,P1,n1,t1⟩,hall⟩
 have hcu:Vw (Value.int .i64) u cp c:=hc.keepN P1.mod fun hne k hk ⟨x,e⟩=>ho hne k hk x e
 refine cnd_i (fun r=> ?_) (fun r=> ?_)
 · have r:i<ls.length:=by simpa using r
   have hm:=getD_mem' r
   have tk: ∀x,x∈ls.take (i+1)↔x∈ls.take i∨x=ls.getD i 0:=fun x=>mem_take_succ' r
   refine h1.lo.vw.ix 0 (by omega) rfl (by omega) fun a e=> ⟨_,e,?_⟩
   rw [Int.toNat_natCast]
   generalize hJ:ls.getD i 0=J at*
   have hd:=h1.drew
   obtain ⟨sl,hsl,hlk,hsm,hsn,hsv⟩:=hd.look hm
   have hll:=h1.ll;have hnc:=h1.g.ncm
   have hcl':=h1.ln J hm
   refine ⟨fun v=>v=u.drew,rfl,_,rfl,_,fun v e=>e▸cell_add hd.st rfl,_,_,_,_,hlk,rfl,hcu.ix 0 (by omega) rfl (by omega) fun a2 e2=> ⟨_,fun v e=>by subst e;exact e2,?_⟩⟩
   try dsimp only
   rw [show ((0:Int).toNat)=0 from rfl,nw _ hb0]
   refine (contains_ok hsv hsn (by rw [hsn];unfold maxLen;omega) _).mono ?_
   rintro e w10 ⟨rfl,g10⟩
   have P10:=P1.grow (((Mod.refl u).drew:Grow u u.drew).trans g10)
   have h10:=hd.grow g10
   refine ⟨_,rfl,cnd_i (fun r2=> ?_) (fun r2=> ?_)⟩
   · have r2: -(c.getD 0 0) ∉ cl J:=by simpa using r2
     refine ⟨_,by omega,i+1,wN (by omega) (by omega),r,rfl,⟨H1,s1,h10,P10,n1,t1⟩,fun j hj h2=> ?_⟩
     rcases (tk j).1 hj with h3|rfl
     · exact hall j h3 h2
     · exact absurd h2 r2
   · have r2: -(c.getD 0 0)∈cl J:=by simpa using r2
     have hc10:Vw (Value.int .i64) w10 cp c:=hc.keepN P10.mod fun hne k hk ⟨x,e⟩=>ho hne k hk x e
     refine (clone_ok hc10 rfl (by omega)).mono ?_
     rintro e w19 ⟨q,d,rfl,o19,g19,f19⟩
     have h19:=h10.grow g19
     have P19:=P10.grow g19
     obtain ⟨sl2,hsl2,hlk2,_,hsn2,_⟩:=h19.look hm
     obtain rfl:sl=sl2:=Option.some.inj (hsl.symm.trans hsl2)
     have hsv2:=hsv.grow g10
     refine ⟨q,_,d,rfl,_,rfl,_,cell_add h19.st rfl,_,_,_,_,hlk2,?_⟩
     refine ⟨fun P N C I u z=> ∃k:Nat,I=k∧k≤(cl J).length∧z=(cl J).length - k∧N=(c++wo ((cl J).take k) (-(c.getD 0 0))).length∧OwI ty_int u P C (c++wo ((cl J).take k) (-(c.getD 0 0)))∧(∀y,blk P=some y→w10.heap.size≤y)∧Grow w10 u,
      ⟨_,0,rfl,Nat.zero_le _,rfl,by simp [wo],by simpa [wo] using o19,f19,g19⟩,?_⟩
     rintro P N C I v z _ ⟨k,rfl,hk,rfl,rfl,o,f,g⟩
     have hv:=h10.grow g
     have hcv:=hc10.grow g
     refine cnd_i (fun r3=> ?_) (fun r3=> ?_)
     · have r3:k< (cl J).length:=by rw [hsn2] at r3;simpa using r3
       have hwl:=wo_len (l:=(cl J).take k) (x:= -(c.getD 0 0))
       rw [List.length_take] at hwl
       refine (hsv2.grow g).ix 0 (by omega) hsn2 (by omega) fun a3 e3=> ⟨_,e3,hcv.ix 0 (by omega) rfl (by omega) fun a4 e4=> ⟨_,e4,?_⟩⟩
       rw [show ((0:Int).toNat)=0 from rfl,nw _ hb0,Int.toNat_natCast]
       have etk:(cl J).take (k+1)=(cl J).take k++ [(cl J).getD k 0]:=by
        rw [List.take_add_one];simp [List.getD,r3]
       have ew:wo ((cl J).take (k+1)) (-(c.getD 0 0))=wo ((cl J).take k) (-(c.getD 0 0))++ (if (cl J).getD k 0= -(c.getD 0 0) then [] else [(cl J).getD k 0]):=by
        rw [etk];exact wo_snoc _ _ _
       refine cnd_i (fun r4=> ?_) (fun r4=> ?_)
       · have r4: ¬(cl J).getD k 0= -(c.getD 0 0):=by simpa using r4
         intro n35 w36 h36
         rw [if_neg r4] at ew
         refine app_fresh (W0:=w10) (o.grow h36.mod) (g.trans h36.mod) f (box1 h36) rfl rfl (by simp only [List.length_append,List.length_singleton];omega) fun w37 p37 c37 o37 g37 f37=> ?_
         rw [List.append_assoc,← ew] at o37
         refine ⟨_,by omega,k+1,wN (by omega) (by omega),r3,rfl,by rw [ew,List.append_assoc],o37,f37,g37⟩
       · have r4:(cl J).getD k 0= -(c.getD 0 0):=by simpa using r4
         rw [if_pos r4,List.append_nil] at ew
         exact ⟨_,by omega,k+1,wN (by omega) (by omega),r3,rfl,by rw [ew],by rw [ew];exact o,f,g⟩
     · have r3:k=(cl J).length:=by rw [hsn2] at r3;simp at r3;omega
       subst r3
       rw [List.take_length] at o ⊢
       have Pv:=P10.grow g
       have er:c++wo (cl J) (-(c.getD 0 0))=resF c (cl J):=rfl
       rw [er] at o ⊢
       refine cnd_i (fun r4=> ?_) (fun r4=> ?_)
       · have r4:(resF c (cl J)).length>4096:=by rw [decide_eq_true_eq] at r4;omega
         refine ⟨false,rfl,⟨fun e=> (by cases e),fun h=> ?_⟩,H1,s1,hv,Pv,n1,t1⟩
         have:=(h.2 _ (List.mem_map_of_mem hm) r2).1
         omega
       · have r4:(resF c (cl J)).length≤4096:=by rw [decide_eq_false_iff_not] at r4;omega
         have hmem: ∀x∈resF c (cl J),litB x=true∧Nt id x:=fun x hx=>by
          unfold resF at hx
          rcases List.mem_append.1 hx with h|h
          · exact ⟨hl x h,hN x h⟩
          · exact h1.lt J hm x (mem_wo.1 h).1
         refine (unit_ok hv t1 o.vw rfl (by omega) (fun x hx=> (hmem x hx).1) (fun x hx=> (hmem x hx).2)).mono ?_
         rintro e w39 ⟨r,rfl,hr,H2,s2,h2,P2,n2,t2⟩
         have t2:=t2 (by unfold resF;simp [hne'])
         have PP:=Pv.trans P2
         refine ⟨_,rfl,cnd_i (fun r5=> ⟨false,rfl,⟨fun e=> (by cases e),fun h=> ?_⟩,H2,s2,h2,PP,n2.trans n1,t2⟩) (fun r5=> ⟨_,by omega,i+1,wN (by omega) (by omega),by omega,rfl,⟨H2,s2,h2,PP,n2.trans n1,t2⟩,fun j hj h3=> ?_⟩)⟩
         · have:=hr.2 (h.2 _ (List.mem_map_of_mem hm) r2).2
           rw [this] at r5;cases r5
         · rcases (tk j).1 hj with h4|rfl
           · exact hall j h4 h3
           · exact ⟨r4,hr.1 (by simpa using r5)⟩
 · have r:i=ls.length:=by simp at r;omega
   subst r
   rw [List.take_length] at hall
   exact ⟨true,rfl,⟨fun _=> ⟨hne',fun x hx=>by
    obtain ⟨j,hj,rfl⟩:=List.mem_map.1 hx
    exact hall j hj⟩,fun _=>rfl⟩,H1,s1,h1,P1,n1,t1⟩
end
section
variable {W w w' w0 w2 w3:World} {nb b ib ab:Nat} {vars:Int} {id id':List (Int × Int)} {H H' H2:Pt→Sl} {s t u s':PSt} {lp:Option Addr} {lc:Nat} {ls:List Int} {sm:List (Int × Sl)} {cl:Int→List Int} {cp:Option Addr} {n cc:Nat} {c:List Int}
structure RM (W w:World) (nb b ib ab:Nat) (vars:Int) (id:List (Int × Int)) (H:Pt→Sl) (s:PSt) (lp:Option Addr) (lc:Nat) (ls:List Int) (sm:List (Int × Sl)) (cl:Int→List Int):Prop where
 st:Has w nb #[.int .i64 vars,.map (some ib),ptrV b,.slice lp ls.length lc,.map (some ab)]
 pm:PM w b H s
 im:MV (Value.int .i64) w ib id
 am:MV Sl.v w ab sm
 lo:OwI ty_int w lp lc ls
 rw: ∀x∈sm,x.2.n=(cl x.1).length∧x.2.n≤maxLen∧Vw (Value.int .i64) w x.2.p (cl x.1)
 d1: ∀x k,own b H x=some k→k≠nb∧k≠ib∧k≠ab∧blk lp≠some k
 d2:nb≠ib∧nb≠ab∧ib≠ab∧blk lp≠some nb∧blk lp≠some ib∧blk lp≠some ab
 d3: ∀x∈sm,0<x.2.n→∀k,blk x.2.p=some k→k≠nb∧k≠ib∧k≠ab∧blk lp≠some k∧∀y,own b H y≠some k
 wg:Grow W w
 wy:W.heap.size≤nb∧W.heap.size≤ib∧W.heap.size≤ab∧(∀k,blk lp=some k→W.heap.size≤k)∧∀x k,own b H x=some k→W.heap.size≤k
def FP (nb ib ab b:Nat) (H:Pt→Sl) (lp:Option Addr) (k:Nat):Prop:=k=nb∨k=ib∨k=ab∨blk lp=some k∨∃x,own b H x=some k
structure RL (id:List (Int × Int)) (s:PSt) (ls:List Int) (sm:List (Int × Sl)) (cl:Int→List Int):Prop where
 g:Good s
 be:s.R .be= []
 idn:Idn id
 sv:s.vars=id.length
 nd:ls.Nodup
 th: ∀i:Nat,s.There i↔(i:Int)∈ls
 l0: ∀i∈ls,0≤i
 lk: ∀i∈ls,(al sm i).isSome
 cd: ∀i:Nat,s.There i→s.R (.a i)=(cl i).map (cod id)
 lt: ∀i∈ls,∀x∈cl i,litB x=true∧Nt id x
 ln: ∀i∈ls,(cl i).length≤4096
 ask: ∀x∈sm,0≤x.1∧x.1<s.nc
 ll:ls.length≤s.nc
theorem RB.of (m:RM W w nb b ib ab vars id H s lp lc ls sm cl) (l:RL id s ls sm cl):RB W w nb b ib ab vars id H s lp lc ls sm cl:=
 ⟨m.st,m.pm,l.g,m.im,m.am,m.lo,m.rw,m.d1,m.d2,m.d3,m.wg,m.wy,l.be,l.idn,l.sv,l.nd,l.th,l.l0,l.lk,l.cd,l.lt,l.ln,l.ask,l.ll⟩
theorem RB.rm (h:RB W w nb b ib ab vars id H s lp lc ls sm cl):RM W w nb b ib ab vars id H s lp lc ls sm cl:=
 ⟨h.st,h.pm,h.im,h.am,h.lo,h.rw,h.d1,h.d2,h.d3,h.wg,h.wy⟩
theorem RB.rl (h:RB W w nb b ib ab vars id H s lp lc ls sm cl):RL id s ls sm cl:=
 ⟨h.g,h.be,h.idn,h.sv,h.nd,h.th,h.l0,h.lk,h.cd,h.lt,h.ln,h.ask,h.ll⟩
theorem RM.prop (h:RM W w nb b ib ab vars id H s lp lc ls sm cl) (P:Pw w w' b H H' s'):RM W w' nb b ib ab vars id H' s' lp lc ls sm cl:=by
 have no: ∀ {k:Nat},(∀x,own b H x≠some k)→¬∃x,own b H x=some k:=fun h ⟨x,e⟩=>h x e
 have n1: ∀x,own b H x≠some nb:=fun x e=> (h.d1 x _ e).1 rfl
 have n2: ∀x,own b H x≠some ib:=fun x e=> (h.d1 x _ e).2.1 rfl
 have n3: ∀x,own b H x≠some ab:=fun x e=> (h.d1 x _ e).2.2.1 rfl
 refine ⟨h.st.keep P.mod (no n1),P.pm,h.im.keep P.mod (no n2),h.am.keep P.mod (no n3),h.lo.keep P.mod fun k hk ⟨x,e⟩=> (h.d1 x k e).2.2.2 hk,fun x hx=> ?_,fun x k hk=> ?_,h.d2,fun x hx h0 k hk=> ?_,h.wg.then P.mod fun k hk ⟨x,e⟩=> ?_,⟨h.wy.1,h.wy.2.1,h.wy.2.2.1,h.wy.2.2.2.1,fun x k hk=> ?_⟩⟩
 · obtain ⟨r1,r2,r3⟩:=h.rw x hx
   refine ⟨r1,r2,r3.keepN P.mod fun hne k hk ⟨y,e⟩=> (h.d3 x hx (by rw [r1];exact List.length_pos_iff.2 hne) k hk).2.2.2.2 y e⟩
 · rcases P.ft x k hk with ⟨y,e⟩|e
   · exact h.d1 y k e
   · have l1:=h.st.lt;have l2:=h.im.lt;have l3:=h.am.lt
     exact ⟨by omega,by omega,by omega,fun e2=>by have:=h.lo.lt k e2;omega⟩
 · obtain ⟨a1,a2,a3,a4,a5⟩:=h.d3 x hx h0 k hk
   refine ⟨a1,a2,a3,a4,fun y e=> ?_⟩
   rcases P.ft y k e with ⟨z,e2⟩|e2
   · exact a5 z e2
   · obtain ⟨r1,_,r3⟩:=h.rw x hx
     have:=r3.lt (fun e3=>by rw [e3] at r1;simp at r1;omega) k hk
     omega
 · have:=h.wy.2.2.2.2 x k e;omega
 · rcases P.ft x k hk with ⟨y,e⟩|e
   · exact h.wy.2.2.2.2 y k e
   · have:=h.wg.size;omega
structure Nted (id id':List (Int × Int)) (c:List Int):Prop where
 idn:Idn id'
 kp: ∀x,Nt id x→Nt id' x
 all: ∀x∈c,Nt id' x
 len:id'.length≤id.length+c.length
theorem note_ok {p0 p2 p3 p4:Value} (hst:Has w nb #[p0,.map (some ib),p2,p3,p4]) (him:MV (Value.int .i64) w ib id) (hid:Idn id) (hnb:nb≠ib) (hc:Vw (Value.int .i64) w cp c) (hcb:c≠[]→blk cp≠some ib) (hn:n=c.length) (hl: ∀x∈c,litB x=true) (hlen:id.length+c.length≤1100000):
 Calls prog rup_base_note.id #[ptrV nb,.slice cp n cc] w fun e w'=>e= .returned (.tuple #[])∧∃id',Mod (·=ib) w w'∧MV (Value.int .i64) w' ib id'∧Nted id id' c:=by
 subst hn
 refine rup_base_note.calls ?_
 refine ⟨fun I u z=> ∃i:Nat,I=i∧i≤c.length∧z=c.length - i∧∃id',Mod (·=ib) w u∧MV (Value.int .i64) u ib id'∧Nted id id' (c.take i),
  ⟨_,0,rfl,Nat.zero_le _,rfl,id,Mod.refl w,him,hid,fun _ h=>h,fun x hx=>by simp at hx,by simp⟩,?_⟩
 rintro I u z _ ⟨i,rfl,hi,rfl,id',gu,mu,nt⟩
 refine cnd_i (fun r=> ?_) (fun r=> ?_)
 · have r:i<c.length:=by simpa using r
   have tk: ∀x,x∈c.take (i+1)↔x∈c.take i∨x=c.getD i 0:=fun x=>mem_take_succ' r
   refine (hc.keepN gu fun hne k hk e=>hcb hne (by rw [← e];exact hk)).ix 0 (by omega) rfl (by omega) fun a e=> ⟨_,e,_,rfl,_,cell_add (hst.keep gu hnb) rfl,?_⟩
   rw [Int.toNat_natCast]
   have hlx:=hl _ (getD_mem' r)
   have hb:=litB_b2 hlx
   have hz:=litB_nz hlx
   generalize c.getD i 0=X at*
   have ea:imax X (IntKind.i64.wrap (0 - X))=amt X:=by
    rw [nw X hb];unfold imax amt;split<;>split<;>omega
   rw [ea]
   have ha:1≤amt X∧amt X≤1048576:=by unfold amt;split<;>omega
   have hlk:=mu.look map_ii (amt X) (zero_int u)
   have hval:((al id' (amt X)).map (Value.int .i64)).getD (.int .i64 0)= .int .i64 ((al id' (amt X)).getD 0):=by cases al id' (amt X)<;>rfl
   rw [hval] at hlk
   refine ⟨_,_,hlk,cnd_i (fun r2=> ?_) (fun r2=> ?_)⟩
   · have r2:(al id' (amt X)).getD 0=0:=by simpa using r2
     have hno:al id' (amt X)=none:=by
      cases hv:al id' (amt X) with
      |none=>rfl
      |some v=>
       obtain ⟨j,_,_,rfl⟩:=nt.idn.get hv
       rw [hv] at r2
       simp only [Option.getD_some] at r2
       omega
     have hd:=mu.drew
     have hsd:=(hst.keep gu hnb).drew
     have hl2:=nt.len
     rw [List.length_take] at hl2
     refine ⟨_,rfl,_,cell_add hsd rfl,_,rfl,_,cell_add hsd rfl,_,hd.len map_ii _,?_⟩
     rw [wN (i:=id'.length+1) (by omega) (by omega)]
     obtain ⟨w17,hr,mv,mm,_⟩:=hd.put map_ii (amt X) ((id'.length+1:Nat):Int)
     have hai:ai id' (amt X) ((id'.length+1:Nat):Int)=id'++ [(amt X,((id'.length+1:Nat):Int))]:=by unfold ai;rw [hno];rfl
     have hal: ∀y,al (ai id' (amt X) ((id'.length+1:Nat):Int)) y=if y=amt X then some ((id'.length+1:Nat):Int) else al id' y:=fun y=>al_ai _ _ _ _
     refine ⟨w17,hr,_,by omega,i+1,wN (by omega) (by omega),r,rfl,_,(gu.grow (Mod.refl u).drew).trans mm,mv,⟨ai_nodup nt.idn.nd _ _,fun j hj=> ?_,fun x hx=> ?_⟩,fun x hx=> ⟨(nt.kp x hx).1,?_⟩,fun x hx=> ?_,?_⟩
     · rw [hai] at hj ⊢
       rw [List.length_append,List.length_singleton] at hj
       by_cases e:j<id'.length
       · have:=nt.idn.idn j e
         simp only [List.getD,List.getElem?_append_left e] at this ⊢
         exact this
       · have:j=id'.length:=by omega
         subst this
         simp [List.getD]
     · rw [hai] at hx
       rcases List.mem_append.1 hx with hx|hx
       · exact nt.idn.idk x hx
       · rw [List.mem_singleton] at hx;rw [hx];exact ha
     · rw [hal];split
       · rfl
       · exact (nt.kp x hx).2
     · rcases (tk x).1 hx with hx|rfl
       · refine ⟨(nt.all x hx).1,?_⟩
         rw [hal];split
         · rfl
         · exact (nt.all x hx).2
       · exact ⟨hz,by rw [hal,if_pos rfl];rfl⟩
     · rw [hai,List.length_append,List.length_singleton,List.length_take];omega
   · have r2:(al id' (amt X)).getD 0≠0:=by simpa using r2
     have hso:(al id' (amt X)).isSome:=by
      cases hv:al id' (amt X) with
      |none=>rw [hv] at r2;simp at r2
      |some v=>rfl
     have hl2:=nt.len
     rw [List.length_take] at hl2
     refine ⟨_,by omega,i+1,wN (by omega) (by omega),r,rfl,id',gu,mu,nt.idn,nt.kp,fun x hx=> ?_,by rw [List.length_take];omega⟩
     rcases (tk x).1 hx with hx|rfl
     · exact nt.all x hx
     · exact ⟨hz,hso⟩
 · have r:i=c.length:=by simp at r;omega
   subst r
   rw [List.take_length] at nt
   exact ⟨rfl,id',gu,mu,nt⟩
def vmx (v:Int) (c:List Int):Int:=c.foldl (fun a x=>imax (imax a x) (-x)) v
theorem vmx_succ {v:Int} {j:Nat} (r:j<c.length):vmx v (c.take (j+1))=imax (imax (vmx v (c.take j)) (c.getD j 0)) (-(c.getD j 0)):=by
 unfold vmx
 rw [List.take_add_one,List.foldl_append]
 simp [List.getD,r]
end
section
variable {W w w' w0 w2 w3:World} {nb b ib ab:Nat} {vars:Int} {id id':List (Int × Int)} {H H' H2:Pt→Sl} {s t u s':PSt} {lp:Option Addr} {lc:Nat} {ls:List Int} {sm:List (Int × Sl)} {cl:Int→List Int} {cp:Option Addr} {n cc:Nat} {c:List Int}
theorem add_okC (hv: ∀x∈c,InV n (cod id x)) (hm:n≤1048576) (hlen:c.length≤4096):okC n (c.map (cod id))=true:=by
 unfold okC
 rw [Bool.and_eq_true,List.all_eq_true]
 constructor
 · unfold clB
   rw [Bool.and_eq_true,List.all_eq_true]
   first
   |refine ⟨by simpa using hlen,fun y hy=> ?_⟩
    obtain ⟨x,hx,rfl⟩:=List.mem_map.1 hy
    have:=hv x hx
    have:=this.bd hm
    have h0:=this
    unfold litB
    simp only [decide_eq_true_eq]
    have hz:=(hv x hx).1
    exact ⟨hz,this.1,this.2⟩
   |refine ⟨fun y hy=> ?_,by simpa using hlen⟩
    obtain ⟨x,hx,rfl⟩:=List.mem_map.1 hy
    have:=(hv x hx).bd hm
    unfold litB
    simp only [decide_eq_true_eq]
    have hz:=(hv x hx).1
    exact ⟨hz,this.1,this.2⟩
 · intro y hy
   obtain ⟨x,hx,rfl⟩:=List.mem_map.1 hy
   exact (isB_iff hm).2 (hv x hx)
theorem RL.add (h:RL id s ls sm cl) (g:Good s') (A:Added s (c.map (cod id)) s') (hl: ∀x∈c,litB x=true∧Nt id x) (hlen:c.length≤4096) (sl:Sl):
 RL id s' (ls++ [(s.nc:Int)]) (ai sm (s.nc:Int) sl) (fun j=>if j=(s.nc:Int) then c else cl j)∧(ls++ [(s.nc:Int)]).map (fun j=>if j=(s.nc:Int) then c else cl j)=ls.map cl++ [c]∧ai sm (s.nc:Int) sl=sm++ [((s.nc:Int),sl)]:=by
 have hlt: ∀j∈ls,j< (s.nc:Int):=fun j hj=>by
  have h0:=h.l0 j hj
  have:=((h.th j.toNat).2 (by rw [Int.toNat_of_nonneg h0];exact hj)).1
  omega
 have hno:al sm (s.nc:Int)=none:=al_none.2 fun x hx=>by have:=(h.ask x hx).2;omega
 have hai:ai sm (s.nc:Int) sl=sm++ [((s.nc:Int),sl)]:=by unfold ai;rw [hno];rfl
 have hmem: ∀i,i∈ls++ [(s.nc:Int)]↔i∈ls∨i=(s.nc:Int):=fun i=>by simp
 have hcl: ∀i∈ls,(if i=(s.nc:Int) then c else cl i)=cl i:=fun i hi=>if_neg (by have:=hlt i hi;omega)
 have hth: ∀i:Nat,s'.There i↔s.There i∨i=s.nc:=fun i=>by
  unfold PSt.There
  rw [A.n,A.g]
  by_cases e:i=s.nc
  · subst e;simp
  · rw [if_neg e]
    exact ⟨fun ⟨h1,h2⟩=> .inl ⟨by omega,h2⟩,fun h=>h.elim (fun ⟨h1,h2⟩=> ⟨by omega,h2⟩) fun h=>absurd h e⟩
 refine ⟨⟨g,A.be.trans h.be,h.idn,A.v.trans h.sv,?_,fun i=> ?_,fun i hi=> ?_,fun i hi=> ?_,fun i hi=> ?_,fun i hi=> ?_,fun i hi=> ?_,fun x hx=> ?_,?_⟩,?_,hai⟩
 · rw [List.nodup_append]
   refine ⟨h.nd,by simp,fun x hx y hy e=> ?_⟩
   rw [List.mem_singleton] at hy
   have:=hlt x hx
   omega
 · rw [hth,hmem,h.th]
   refine or_congr Iff.rfl (by omega)
 · rcases (hmem i).1 hi with hi|rfl
   · exact h.l0 i hi
   · omega
 · rw [al_ai]
   split
   · rfl
   · rename_i e
     exact h.lk i (((hmem i).1 hi).resolve_right e)
 · rw [A.a]
   by_cases e:i=s.nc
   · subst e;simp
   · rw [if_neg e,if_neg (by omega)]
     exact h.cd i (((hth i).1 hi).resolve_right e)
 · rcases (hmem i).1 hi with hi|rfl
   · rw [hcl i hi];exact h.lt i hi
   · rw [if_pos rfl];exact hl
 · rcases (hmem i).1 hi with hi|rfl
   · rw [hcl i hi];exact h.ln i hi
   · rw [if_pos rfl];exact hlen
 · rw [hai] at hx
   rw [A.n]
   rcases List.mem_append.1 hx with hx|hx
   · have:=h.ask x hx;omega
   · rw [List.mem_singleton] at hx;rw [hx];show 0≤(s.nc:Int)∧(s.nc:Int)<_;omega
 · rw [List.length_append,List.length_singleton,A.n];have:=h.ll;omega
 · rw [List.map_append,List.map_singleton,if_pos rfl]
   refine congrArg (·++ [c]) (List.map_congr_left hcl)
theorem add_ok7 (h:RB W w nb b ib ab vars id H s lp lc ls sm cl) (hc:Vw (Value.int .i64) W cp c) (hn:n=c.length) (hlen:c.length≤4096) (hl: ∀x∈c,litB x=true∧Nt id x) (hnc:s.nc<262144):
 Calls prog rup_base_add.id #[ptrV nb,.slice cp n cc] w fun e w'=>e= .returned (.tuple #[])∧∃H' s' lp' lc' ls' sm' cl',RB W w' nb b ib ab (vmx vars c) id H' s' lp' lc' ls' sm' cl'∧ls'.map cl'=ls.map cl++ [c]∧s'.nc=s.nc+1∧s'.R .tr=s.R .tr∧Mod (FP nb ib ab b H lp) w w'∧(∀k,FP nb ib ab b H' lp' k→FP nb ib ab b H lp k∨w.heap.size≤k):=by
 subst hn
 have C:=h.idn.cod
 have sv:=h.sv
 have hinv: ∀x∈c,InV s.vars (cod id x):=fun x hx=>by rw [sv];exact h.idn.inv (hl x hx).2
 have hd:=h.drew
 refine rup_base_add.calls ⟨Grow w.drew,Mod.refl _,_,rfl,_,fun u g=>cell_add (hd.st.grow g) rfl,(code_ok hd (hc.grow hd.wg) rfl (by omega) fun x hx=> (hl x hx).1).mono ?_⟩
 rintro e w4 ⟨q,d,rfl,o4,g4,f4⟩
 have h4:=hd.grow g4
 refine ⟨_,_,_,rfl,g4,(add_ok h4.pm h4.g o4.vw (by simp) (by unfold maxLen;omega)).mono ?_⟩
 rintro e w6 ⟨r1,r2,rfl,s',H2,P,g',hr⟩
 have hok:=add_okC hinv h.g.vmax hlen
 have ⟨e1,e2,A⟩:r1=s.nc∧r2=0∧Added s (c.map (cod id)) s':=by
  rcases hr with ⟨_,_,hb,_⟩| ⟨_,_,_,hb,_⟩| ⟨a,a2,_,_,a3⟩
  · rw [hok] at hb;cases hb
  · omega
  · exact ⟨a,a2,a3⟩
 subst e1 e2
 have m6:=h4.rm.prop P
 have ll:=h.ll
 refine ⟨_,_,rfl,cnd_f rfl ⟨_,rfl,_,_,_,cell_add m6.st rfl,?_⟩⟩
 intro n47 w48 h48
 have z6:=m6.wg.size
 have e48:=h48.num
 have s48:=h48.mod.size
 have i6:=m6.st.lt;have i7:=m6.im.lt;have i8:=m6.am.lt
 refine Ow.app1 sl_int (m6.lo.grow h48.mod) ((s.nc:Int)) h48.has rfl rfl oneInt (by omega) fun w49 p' c' o49 M49 hp' hs49=> ?_
 have hp6: ∀k,blk p'=some k→blk lp=some k∨w6.heap.size≤k:=fun k hk=>by
  rcases hp' with rfl|rfl
  · exact .inl hk
  · right;have:=blk_some hk;omega
 have st49:=(m6.st.grow h48.mod).keep M49 fun e=>m6.d2.2.2.2.1 e
 refine ⟨_,rfl,store_f st49 rfl rfl fun w52 st52 M52=> ?_⟩
 have z52:=M52.size
 have st52d:=st52.drew
 have g52:Grow W w52:=((m6.wg.trans h48.mod).then M49 fun k hk e=>by have:=m6.wy.2.2.2.1 k e;omega).then M52 fun k hk e=>by have:=m6.wy.1;omega
 refine ⟨Grow w52.drew,Mod.refl _,_,rfl,_,fun u g=>cell_add (st52d.grow g) rfl,(clone_ok (hc.grow g52.drew) rfl (by omega)).mono ?_⟩
 rintro e w56 ⟨q2,d2,rfl,o56,g56,f56⟩
 have f56: ∀k,blk q2=some k→w52.heap.size≤k:=f56
 have am49:MV Sl.v w49 ab sm:=(m6.am.grow h48.mod).keep M49 fun e=>m6.d2.2.2.2.2.2 e
 have am56:MV Sl.v w56 ab sm:=((am49.keep M52 fun e=>m6.d2.2.1 e.symm).drew).grow g56
 obtain ⟨w58,hr58,am58,M58,_⟩:=am56.put map_is (s.nc:Int) (⟨q2,c.length,d2⟩:Sl)
 refine ⟨_,_,_,rfl,g56,w58,hr58,?_⟩
 have g56':Grow w52 w56:=((Mod.refl w52).drew:Grow w52 w52.drew).trans g56
 have G58:Grow W w58:=(g52.trans g56').then M58 fun k hk e=>by have:=m6.wy.2.2.1;omega
 have st58:=(st52.grow g56').keep M58 fun e=>m6.d2.2.1 e
 refine ⟨fun I u z=> ∃j:Nat,I=j∧j≤c.length∧z=c.length - j∧Mod (·=nb) w58 u∧Has u nb #[.int .i64 (vmx vars (c.take j)),.map (some ib),ptrV b,.slice p' (ls.length+1) c',.map (some ab)],⟨_,0,rfl,Nat.zero_le _,rfl,Mod.refl _,st58⟩,?_⟩
 rintro I u z _ ⟨j,rfl,hj,rfl,gu,su⟩
 have Gu:Grow W u:=G58.then gu fun k hk e=>by have:=m6.wy.1;omega
 refine cnd_i (fun r=> ?_) (fun r=> ?_)
 · have r:j<c.length:=by simpa using r
   refine (hc.grow Gu).ix 0 (by omega) rfl (by omega) fun a e=> ⟨_,e,_,rfl,_,cell_add su rfl,_,rfl,?_⟩
   rw [Int.toNat_natCast,nw _ (litB_b2 (hl _ (getD_mem' r)).1),← vmx_succ r]
   refine store_f su rfl rfl fun w44 st44 M44=> ⟨_,by omega,j+1,wN (by omega) (by omega),r,rfl,gu.trans M44,st44⟩
 · have r:j=c.length:=by simp at r;omega
   subst r
   rw [List.take_length] at su
   obtain ⟨L,hmap,hai⟩:=h.rl.add g' A hl hlen ⟨q2,c.length,d2⟩
   have MM:Mod (fun k=>blk lp=some k∨k=nb∨k=ab) w6 u:=by
    have a1:Mod (fun k=>blk lp=some k∨k=nb∨k=ab) w6 w49:=(h48.mod.mono fun _ _ e=>e.elim).then M49 fun k _ e=> .inl e
    have a2:=a1.then M52 fun k _ e=> .inr (.inl e)
    have a3:=(a2.then g56' fun k _ e=>e.elim).then M58 fun k _ e=> .inr (.inr e)
    exact a3.then gu fun k _ e=> .inr (.inl e)
   have z4:=g4.size
   have z46:=P.mod.size
   have zd:w.drew.heap.size=w.heap.size:=rfl
   refine ⟨rfl,H2,s',p',c',_,_,_,RB.of ?_ L,hmap,A.n,A.tr,(((((Mod.refl w).drew.grow g4:Grow w w4)).mono fun _ _ e=>e.elim).then P.mod fun k _ e=> .inr (.inr (.inr (.inr e)))).then MM fun k _ e=> ?_,fun k hk=> ?_⟩
   rotate_left
   · rcases e with e|e|e
     · exact .inr (.inr (.inr (.inl e)))
     · exact .inl e
     · exact .inr (.inr (.inl e))
   · rcases hk with e|e|e|e| ⟨x,e⟩
     · exact .inl (.inl e)
     · exact .inl (.inr (.inl e))
     · exact .inl (.inr (.inr (.inl e)))
     · rcases hp6 k e with e|e
       · exact .inl (.inr (.inr (.inr (.inl e))))
       · right;omega
     · rcases P.ft x k e with ⟨y,e⟩|e
       · exact .inl (.inr (.inr (.inr (.inr ⟨y,e⟩))))
       · right;omega
   have G6:=m6.wg.size
   have hz: ∀k,k<w6.heap.size→blk lp≠some k→blk p'≠some k:=fun k hk hn e=>by
    rcases hp6 k e with e|e
    · exact hn e
    · omega
   have o49lt:=o49.lt
   refine ⟨by simpa using su,m6.pm.keep MM fun x k hk e=> ?_,m6.im.keep MM fun e=> ?_,am58.keep gu fun e=>m6.d2.2.1 e.symm,?_,fun x hx=> ?_,fun x k hk=> ?_,?_,fun x hx h0 k hk=> ?_,Gu,?_⟩
   · obtain ⟨a1,a2,a3,a4⟩:=m6.d1 x k hk
     rcases e with e|e|e
     · exact a4 e
     · exact a1 e
     · exact a3 e
   · obtain ⟨a1,a2,a3,a4,a5,a6⟩:=m6.d2
     rcases e with e|e|e
     · exact a5 e
     · exact a1 e.symm
     · exact a3 e
   · have nn: ∀k,blk p'=some k→k≠nb∧k≠ab:=fun k hk=> ⟨fun e=>hz nb i6 m6.d2.2.2.2.1 (e▸hk),fun e=>hz ab i8 m6.d2.2.2.2.2.2 (e▸hk)⟩
     exact (((o49.keep M52 fun k hk e=> (nn k hk).1 e).grow g56').keep M58 fun k hk e=> (nn k hk).2 e).keep gu fun k hk e=> (nn k hk).1 e
   · rw [hai] at hx
     rcases List.mem_append.1 hx with hx|hx
     · obtain ⟨r1,r2,r3⟩:=m6.rw x hx
       have hne:x.1≠(s.nc:Int):=by have:=(h.ask x hx).2;omega
       rw [if_neg hne]
       refine ⟨r1,r2,r3.keepN MM fun hne k hk e=> ?_⟩
       obtain ⟨a1,a2,a3,a4,a5⟩:=m6.d3 x hx (by rw [r1];exact List.length_pos_iff.2 hne) k hk
       rcases e with e|e|e
       · exact a4 e
       · exact a1 e
       · exact a3 e
     · rw [List.mem_singleton] at hx
       subst hx
       rw [if_pos rfl]
       refine ⟨rfl,by show c.length≤maxLen;unfold maxLen;omega,(o56.vw.keep M58 fun k hk e=> ?_).keep gu fun k hk e=> ?_⟩
       · have:=f56 k hk;omega
       · have:=f56 k hk;omega
   · obtain ⟨a1,a2,a3,a4⟩:=m6.d1 x k hk
     exact ⟨a1,a2,a3,hz k (m6.pm.lt x k hk) a4⟩
   · obtain ⟨a1,a2,a3,a4,a5,a6⟩:=m6.d2
     exact ⟨a1,a2,a3,hz _ i6 a4,hz _ i7 a5,hz _ i8 a6⟩
   · rw [hai] at hx
     rcases List.mem_append.1 hx with hx|hx
     · obtain ⟨r1,r2,r3⟩:=m6.rw x hx
       obtain ⟨a1,a2,a3,a4,a5⟩:=m6.d3 x hx h0 k hk
       exact ⟨a1,a2,a3,hz k (r3.lt (fun e3=>by rw [e3] at r1;simp at r1;omega) k hk) a4,a5⟩
     · rw [List.mem_singleton] at hx
       subst hx
       have fk:=f56 k hk
       refine ⟨by omega,by omega,by omega,fun e=> ?_,fun y e=> ?_⟩
       · have:=o49lt k e;omega
       · have:=m6.pm.lt y k e;omega
   · obtain ⟨a1,a2,a3,a4,a5⟩:=m6.wy
     refine ⟨a1,a2,a3,fun k hk=> ?_,a5⟩
     rcases hp6 k hk with e|e
     · exact a4 k e
     · omega
end
end Go.Proofs.YtbdghpjnifjlmaaGreat.W
namespace Go.Fw
open Go Go.RowKit
variable {P:Program} {α:Type} {f:α→Value} {T:TypeId} {w w':World} {p q:Option Addr} {c:Nat} {l:List α}
theorem Ow.appRoom {t ty e bytes:Nat} (hs:slOk P t e bytes=true) (h:Ow f e w p c l) {k m d:Nat} {news:List α} (h2:Vw f w q news) (hm:m=news.length) (hfit:k+m≤l.length) (ho: ∀x,(f x).oneCell'=true) {K:World→Prop}
 (hk: ∀w',Ow f e w' p c (l.take k++news++l.drop (k+m))→Mod (fun b=>blk p=some b) w w'→K w'):
 ∃w',(Builtin.append_ #[t,t] ty #[.slice p k c,.slice q m d]).run P w= .ok (.slice p (k+m) c) w'∧K w':=by
 obtain ⟨ht,i,z,hi,hz,h1,hb,h3⟩:=slOk_spec hs
 subst hm
 rcases Nat.eq_zero_or_pos news.length with h0|h0
 · have hn:news= []:=List.eq_nil_of_length_eq_zero h0
   subst hn
   have hr:=(h.take (k:=k) (by omega)).app0 hs (q:=q) (k:=d) (n:=k) (ty:=ty) (by rw [List.length_take];omega)
   exact ⟨w,hr,hk w (by simpa using h) (Mod.refl w)⟩
 · obtain ⟨a,rfl,_⟩:=h2 0 h0
   rcases h.un with ⟨rfl,rfl,rfl⟩| ⟨g,cur,rfl,hg,g1,g2,g3,g4⟩
   · rw [List.length_nil] at hfit;omega
   · have hr:=run_append_room (P:=P) w t ty e i ht hi g k c cur hg a news.length d (news.map f) (by simp [h1]) (fun j v hj=>by
      have hj':j<news.length:=by have:=(List.getElem?_eq_some_iff.1 hj).1;simpa using this
      obtain ⟨a',ha,hc⟩:=h2 j hj'
      simp only [Option.some.injEq] at ha
      subst ha
      rw [hc]
      simpa [hj'] using hj) (fun u hu=>by obtain ⟨x,_,rfl⟩:=List.mem_map.1 hu;exact ho x) (by omega) (by simp [h1];omega)
     rw [h1,Nat.mul_one] at hr
     refine ⟨_,hr,hk _ (Ow.of_some (setRow_heap w g cur _ e _ hg) (by simp;omega) g2 (by simp;omega) ?_) ⟨rfl,rfl,rfl,by simp,fun k _ hk=>setRow_other w g k _ fun he=>hk (by simp [blk,he])⟩⟩
     have hl:(l.take k++news++l.drop (k+news.length)).length=l.length:=by simp;omega
     rw [hl,List.map_append,List.map_append,List.map_take,List.map_drop,← g4]
     have hc:cur.toList.length=c:=by simpa using g3
     apply List.ext_getElem?
     intro j
     simp only [List.length_map,List.getElem?_take,List.getElem?_append,List.length_append,List.length_take,List.getElem?_drop,hc]
     repeat' split
     all_goals first
      |rfl
      |omega
      | (congr 1;omega)
end Go.Fw
namespace Go.Proofs.YtbdghpjnifjlmaaGreat.W
open Go Go.Fw Go.RowKit Go.SoP Go.LiP
open Go.Proofs.Tryz (prog)
section
variable {w w':World} {p q:Option Addr} {n c:Nat} {l:List Int}
theorem sdel_ok (o:OwI ty_int w p c l) (hn:n=l.length) (hm:n≤1000000) {i:Nat} (hi:i<n):
 Calls prog slices_Delete_int_int.id #[.slice p n c,.int .i64 (i:Int),.int .i64 ((i+1:Nat):Int)] w fun e w'=>e= .returned (.slice p (l.eraseIdx i).length c)∧OwI ty_int w' p c (l.eraseIdx i)∧Mod (Bk p) w w':=by
 subst hn
 have hcl:l.length≤c:=by
  rcases o.un with ⟨_,_,rfl⟩| ⟨_,_,_,_,h,_⟩
  · simp at hi
  · exact h
 refine slices_Delete_int_int.calls ?_
 refine slK_i i (i+1) l.length rfl rfl rfl (by omega) (by omega) (by omega) ?_
 refine cnd_f (by simp;omega) ?_
 refine slK_i 0 i c rfl rfl rfl (by omega) (by omega) (by omega) ?_
 refine slK_i (i+1) l.length c rfl rfl rfl (by omega) (by omega) (by omega) ?_
 rw [if_neg (by omega),ep0,Nat.sub_zero,Nat.sub_zero]
 have hv:Vw (Value.int .i64) w.drew (if c=i+1 then p else p.map (·.add ((i+1)*1))) (l.drop (i+1)):=by
  by_cases e:c=i+1
  · rw [List.drop_eq_nil_of_le (by omega)];exact Vw.nil
  · rw [if_neg e]
    have:=(o.drew.vw).part (i:=i+1) (m:=l.length - (i+1)) (by omega)
    rwa [List.take_of_length_le (by rw [List.length_drop];omega)] at this
 obtain ⟨w4,hr,o4,m4⟩:=o.drew.appRoom sl_int (ty:=31) (d:=c - (i+1)) (k:=i) hv (m:=l.length - (i+1)) (by rw [List.length_drop]) (by omega) oneInt (K:=fun w4=>OwI ty_int w4 p c (l.take i++l.drop (i+1)++l.drop (i+ (l.length - (i+1))))∧Mod (fun b=>blk p=some b) w.drew w4) fun w' a b=> ⟨a,b⟩
 have he:(l.take i++l.drop (i+1))=l.eraseIdx i:=(List.eraseIdx_eq_take_drop_succ ..).symm
 have hlen:(l.eraseIdx i).length=l.length - 1:=by rw [List.length_eraseIdx,if_pos hi]
 rw [he] at o4
 have hll:(l.eraseIdx i++l.drop (i+ (l.length - (i+1)))).length=l.length:=by rw [List.length_append,hlen,List.length_drop];omega
 have hn1:i+ (l.length - (i+1))=l.length - 1:=by omega
 rw [hn1] at hr o4 hll
 refine ⟨w4,_,_,_,hr,?_⟩
 refine slK_i (l.length - 1) l.length c rfl rfl rfl (by omega) (by omega) (by omega) ?_
 rw [if_neg (by omega)]
 refine o4.clear sl_int int_zero (x:=(0:Int)) rfl rfl (by rw [hll];omega) (by omega) fun w7 o7 m7=> ?_
 rw [List.take_append_of_le_length (by omega),List.take_of_length_le (by omega)] at o7
 rw [hlen]
 exact ⟨rfl,o7,(Mod.mono ((Mod.refl w).drew:Grow w w.drew) fun _ _ e=>e.elim).trans (m4.trans m7)⟩
end
section
variable {W w w' w0 w2 w3:World} {nb b ib ab:Nat} {vars:Int} {id id':List (Int × Int)} {H H' H2:Pt→Sl} {s t u s':PSt} {lp:Option Addr} {lc:Nat} {ls:List Int} {sm:List (Int × Sl)} {cl:Int→List Int} {cp:Option Addr} {n cc:Nat} {c:List Int}
def delP (c:List Int):List (List Int)→List (List Int)
 | []=> []
 |x::l=>if norm x=norm c then l else x::delP c l
theorem delP_at: ∀ {cs:List (List Int)} {i:Nat},i<cs.length→(∀j,j<i→norm (cs.getD j [])≠norm c)→norm (cs.getD i [])=norm c→delP c cs=cs.eraseIdx i
 | [],_,h,_,_=>by simp at h
 |x::l,0,_,_,h=>by
  have h:norm x=norm c:=h
  show (if norm x=norm c then l else _)=_
  rw [if_pos h];rfl
 |x::l,i+1,hi,hj,h=>by
  have h0:norm x≠norm c:=hj 0 (by omega)
  show (if norm x=norm c then l else x::delP c l)=_
  rw [if_neg h0,List.eraseIdx_cons_succ]
  exact congrArg _ (delP_at (by simpa using hi) (fun j h=>hj (j+1) (by omega)) h)
theorem delP_no: ∀ {cs:List (List Int)},(∀j,j<cs.length→norm (cs.getD j [])≠norm c)→delP c cs=cs
 | [],_=>rfl
 |x::l,h=>by
  have h0:norm x≠norm c:=h 0 (by simp)
  show (if norm x=norm c then l else x::delP c l)=_
  rw [if_neg h0]
  exact congrArg _ (delP_no fun j hj=>h (j+1) (by simpa using hj))
theorem getD_map' {α β:Type} {f:α→β} {l:List α} {i:Nat} (h:i<l.length) (d:α) (e:β):(l.map f).getD i e=f (l.getD i d):=by simp [List.getD,h]
theorem clB_of (h1: ∀x∈c,litB x=true) (h2:c.length≤4096):clB c=true:=by
 unfold clB;rw [Bool.and_eq_true,List.all_eq_true,decide_eq_true_eq];exact ⟨h1,h2⟩
theorem Good.val0 (g:Good s) (ht:s.R .tr= []) {x:Int} (hx:InV s.vars x): ¬0<s.val x:=by
 rcases PSt.val_bd g.wf x with e|e|e
 · omega
 · have:=(g.v1 x hx).1 e;rw [ht] at this;simp at this
 · omega
theorem drop_vars (i:Nat):(s.drop i).vars=s.vars∧(s.drop i).nc=s.nc:=by
 obtain ⟨u1,u2,u3,u4⟩:=unF_vars i ((s.R (.l i)).take 2) s
 exact ⟨u1,u2⟩
theorem RL.drop (h:RL id s ls sm cl) {i:Nat} (hi:i<ls.length) (g:Good (s.drop (ls.getD i 0).toNat)):RL id (s.drop (ls.getD i 0).toNat) (ls.eraseIdx i) sm cl:=by
 have hm:=getD_mem' hi
 have h0:=h.l0 _ hm
 obtain ⟨v1,v2⟩:=drop_vars (s:=s) (ls.getD i 0).toNat
 have hsub: ∀x∈ls.eraseIdx i,x∈ls:=fun x hx=>List.mem_of_mem_eraseIdx hx
 have hmem: ∀x,x∈ls.eraseIdx i↔x∈ls∧x≠ls.getD i 0:=fun x=>by
  rw [List.mem_eraseIdx_iff_getElem]
  have eg:ls.getD i 0=ls[i]:=by simp [List.getD,hi]
  rw [eg]
  constructor
  · rintro ⟨j,hj,hne,rfl⟩
    exact ⟨List.getElem_mem _,fun e=>hne ((List.getElem_inj h.nd).1 e)⟩
  · rintro ⟨hx,hne⟩
    obtain ⟨j,hj,rfl⟩:=List.mem_iff_getElem.1 hx
    exact ⟨j,hj,fun e=>hne (by subst e;rfl),rfl⟩
 have hth: ∀k:Nat,(s.drop (ls.getD i 0).toNat).There k↔(k:Int)∈ls.eraseIdx i:=fun k=>by
  rw [drop_there,hmem,h.th]
  refine and_congr Iff.rfl ?_
  omega
 refine ⟨g,?_,h.idn,v1.trans h.sv,h.nd.sublist (List.eraseIdx_sublist ..),hth,fun x hx=>h.l0 x (hsub x hx),fun x hx=>h.lk x (hsub x hx),fun k hk=> ?_,fun x hx=>h.lt x (hsub x hx),fun x hx=>h.ln x (hsub x hx),fun x hx=>by rw [v2];exact h.ask x hx,?_⟩
 · rw [drop_R _ _ (by simp) (by simp) (by simp) (by simp)];exact h.be
 · have hk2:=drop_there.1 hk
   rw [drop_R _ _ (by simp) (by simp) (by simpa using hk2.2) (by simp)]
   exact h.cd k hk2.1
 · rw [v2];have:=h.ll;have:=List.length_eraseIdx_le ls i;omega
theorem drop_ok7 (h:RB W w nb b ib ab vars id H s lp lc ls sm cl) (htr:s.R .tr= []) (hc:Vw (Value.int .i64) w cp c) (hn:n=c.length) (hcl:clB c=true):
 Calls prog rup_base_drop.id #[ptrV nb,.slice cp n cc] w fun e w'=>e= .returned (.tuple #[])∧∃H' s' ls',RB W w' nb b ib ab vars id H' s' lp lc ls' sm cl∧ls'.map cl=delP c (ls.map cl)∧s'.nc=s.nc∧s'.R .tr= []∧Mod (FP nb ib ab b H lp) w w'∧(∀k,FP nb ib ab b H' lp k→FP nb ib ab b H lp k∨w.heap.size≤k):=by
 subst hn
 have hcl4:=(clB_all hcl).2
 have hll:=h.ll;have hnc:=h.g.ncm
 refine rup_base_drop.calls ((norm_ok hc rfl (by unfold maxLen;omega)).mono ?_)
 rintro e w1 ⟨q,d,m,hm,rfl,o1,g1⟩
 rw [hcl] at hm
 simp only [if_true] at hm
 subst hm
 have h1:=h.grow g1
 refine ⟨_,_,_,_,rfl,_,rfl,_,_,_,cell_add h1.st rfl,?_⟩
 refine ⟨fun I u z=> ∃i:Nat,I=i∧i≤ls.length∧z=ls.length - i∧Grow w1 u∧∀j,j<i→norm (cl (ls.getD j 0))≠norm c,⟨_,0,rfl,Nat.zero_le _,rfl,Mod.refl _,fun j hj=>by omega⟩,?_⟩
 rintro I u z _ ⟨i,rfl,hi,rfl,gu,hno⟩
 have hu:=h1.grow gu
 refine cnd_i (fun r=> ?_) (fun r=> ?_)
 · have r:i<ls.length:=by simpa using r
   have hm:=getD_mem' r
   refine hu.lo.vw.ix 0 (by omega) rfl (by omega) fun a e=> ⟨_,e,?_⟩
   rw [Int.toNat_natCast]
   obtain ⟨sl,hsl,hlk,hsm,hsn,hsv⟩:=hu.look hm
   have hcJ:clB (cl (ls.getD i 0))=true:=clB_of (fun x hx=> (h.lt _ hm x hx).1) (h.ln _ hm)
   have hlJ:=h.ln _ hm
   refine ⟨_,rfl,_,cell_add hu.st rfl,_,_,_,_,hlk,(norm_ok hsv hsn (by rw [hsn];unfold maxLen;omega)).mono ?_⟩
   rintro e w17 ⟨q2,d2,m2,hm2,rfl,o17,g17⟩
   rw [hcJ] at hm2
   simp only [if_true] at hm2
   subst hm2
   have nl:=norm_len (cl (ls.getD i 0))
   refine ⟨_,_,_,_,rfl,(equal_ok o17.vw rfl (by unfold maxLen;omega) ((o1.grow gu).grow g17).vw rfl).mono ?_⟩
   rintro e w20 ⟨rfl,g20⟩
   have G20:=(gu.trans g17).trans g20
   have h20:=h1.grow G20
   refine ⟨_,rfl,cnd_i (fun r2=> ?_) (fun r2=> ?_)⟩
   · have r2:norm (cl (ls.getD i 0))=norm c:=by simpa using r2
     refine ⟨_,rfl,_,_,_,cell_add h20.st rfl,?_⟩
     rw [wN (i:=i+1) (by omega) (by omega)]
     refine (sdel_ok h20.lo rfl (by omega) r).mono ?_
     rintro e w24 ⟨rfl,o24,m24⟩
     obtain ⟨a1,a2,a3,a4,a5,a6⟩:=h20.d2
     have m24':Mod (fun k=>blk lp=some k) w20 w24:=m24
     have st24:=h20.st.keep m24' fun e=>a4 e
     refine ⟨_,_,_,rfl,_,rfl,store_f st24 rfl rfl fun w27 st27 M27=> ?_⟩
     have MM:Mod (fun k=>blk lp=some k∨k=nb) w20 w27:=(m24'.mono fun k _ e=> .inl e).then M27 fun k _ e=> .inr e
     have r27:RM W w27 nb b ib ab vars id H s lp lc (ls.eraseIdx i) sm cl:=by
      refine ⟨st27,h20.pm.keep MM fun x k hk e=> ?_,h20.im.keep MM fun e=> ?_,h20.am.keep MM fun e=> ?_,o24.keep M27 fun k hk e=>a4 (e▸hk),fun x hx=> ?_,h20.d1,h20.d2,h20.d3,h20.wg.then MM fun k hk e=> ?_,h20.wy⟩
      · obtain ⟨b1,b2,b3,b4⟩:=h20.d1 x k hk
        exact e.elim b4 b1
      · exact e.elim a5 fun e=>a1 e.symm
      · exact e.elim a6 fun e=>a2 e.symm
      · obtain ⟨r1,r2,r3⟩:=h20.rw x hx
        refine ⟨r1,r2,r3.keepN MM fun hne k hk e=> ?_⟩
        obtain ⟨b1,b2,b3,b4,b5⟩:=h20.d3 x hx (by rw [r1];exact List.length_pos_iff.2 hne) k hk
        exact e.elim b4 b1
      · rcases e with e|e
        · have:=h20.wy.2.2.2.1 k e;omega
        · have:=h20.wy.1;omega
     have h0:=h.l0 _ hm
     have hJ:(((ls.getD i 0).toNat:Nat):Int)=ls.getD i 0:=Int.toNat_of_nonneg h0
     have hth:s.There (ls.getD i 0).toNat:=(h.th _).2 (by rw [hJ];exact hm)
     have hrs: ∀x∈s.R (.l (ls.getD i 0).toNat),¬(0<s.val x∧s.rea x=(((ls.getD i 0).toNat:Nat):Int)):=fun x hx e=>h.g.val0 htr (h.g.cv _ hth x hx) e.1
     have his:s.is (ls.getD i 0)=true:=by
      unfold PSt.is
      have:=hth.1
      rw [hth.2]
      simp only [Bool.not_false,Bool.and_true,decide_eq_true_eq]
      omega
     refine ⟨_,rfl,_,cell_add r27.st rfl,(drop_ok r27.pm h.g (ls.getD i 0)).mono ?_⟩
     rintro e w30 ⟨r30,rfl,H',hr⟩
     have P:Pw w27 w30 b H H' (s.drop (ls.getD i 0).toNat):=by
      rcases hr with ⟨_,hf,_⟩| ⟨_,_,⟨x,hx,h1,h2⟩,_⟩| ⟨_,_,_,hP⟩
      · rw [his] at hf;cases hf
      · exact absurd ⟨h1,h2⟩ (hrs x hx)
      · exact hP
     refine ⟨_,rfl,rfl,H',_,_,RB.of (r27.prop P) (h.rl.drop r (drop_good h.g hth hrs)),?_,(drop_vars _).2,?_,(((g1.trans G20).mono fun _ _ e=>e.elim).then MM fun k _ e=>e.elim (fun e=> .inr (.inr (.inr (.inl e)))) fun e=> .inl e).then P.mod fun k _ e=> .inr (.inr (.inr (.inr e))),fun k hk=> ?_⟩
     · rw [delP_at (i:=i) (by simpa using r) (fun j hj=>by rw [getD_map' (by omega) 0];exact hno j hj) (by rw [getD_map' r 0];exact r2)]
       exact Go.ChangeMaps.map_eraseIdx _ _ _
     · rw [drop_R _ _ (by simp) (by simp) (by simp) (by simp)];exact htr
     · rcases hk with e|e|e|e| ⟨x,e⟩
       · exact .inl (.inl e)
       · exact .inl (.inr (.inl e))
       · exact .inl (.inr (.inr (.inl e)))
       · exact .inl (.inr (.inr (.inr (.inl e))))
       · rcases P.ft x k e with ⟨y,e⟩|e
         · exact .inl (.inr (.inr (.inr (.inr ⟨y,e⟩))))
         · right
           have a1:=(g1.trans G20).size
           have a2:=MM.size
           omega
   · have r2:norm (cl (ls.getD i 0))≠norm c:=by simpa using r2
     refine ⟨_,by omega,i+1,wN (by omega) (by omega),r,rfl,G20,fun j hj=> ?_⟩
     by_cases e:j<i
     · exact hno j e
     · obtain rfl:j=i:=by omega
       exact r2
 · have r:i=ls.length:=by simp at r;omega
   subst r
   exact ⟨rfl,H,s,ls,hu,(delP_no fun j hj=>by rw [getD_map' (by simpa using hj) 0];exact hno j (by simpa using hj)).symm,rfl,htr,(g1.trans gu).mono fun _ _ e=>e.elim,fun k hk=> .inl hk⟩
end
section
variable {W w w' w0 w2 w3:World} {nb b ib ab k:Nat} {vars:Int} {id id':List (Int × Int)} {cs:List (List Int)} {t:Bool} {A A':Nat→Prop} {cp lp lp':Option Addr} {n cc:Nat} {c:List Int} {H H':Pt→Sl} {s s':PSt} {lc:Nat} {ls:List Int} {sm:List (Int × Sl)} {cl:Int→List Int}
theorem RB.fplt (h:RB W w nb b ib ab vars id H s lp lc ls sm cl): ∀k,FP nb ib ab b H lp k→k<w.heap.size:=by
 rintro k (rfl|rfl|rfl|e| ⟨x,e⟩)
 · exact h.st.lt
 · exact h.im.lt
 · exact h.am.lt
 · exact h.lo.lt k e
 · exact h.pm.lt x k e
theorem Pw.fp (P:Pw w w' b H H' s'):Mod (FP nb ib ab b H lp) w w'∧∀k,FP nb ib ab b H' lp k→FP nb ib ab b H lp k∨w.heap.size≤k:=by
 refine ⟨P.mod.mono fun k _ e=> .inr (.inr (.inr (.inr e))),fun k hk=> ?_⟩
 rcases hk with e|e|e|e| ⟨x,e⟩
 · exact .inl (.inl e)
 · exact .inl (.inr (.inl e))
 · exact .inl (.inr (.inr (.inl e)))
 · exact .inl (.inr (.inr (.inr (.inl e))))
 · rcases P.ft x k e with ⟨y,e⟩|e
   · exact .inl (.inr (.inr (.inr (.inr ⟨y,e⟩))))
   · exact .inr e
def Aw (A:Nat→Prop) (w:World) (F:Nat→Prop):Prop:= ∀j,A j→j<w.heap.size∧¬F j
theorem Aw.go {F F':Nat→Prop} (h:Aw A w F) (M:Mod F w w') (f: ∀k,F' k→F k∨w.heap.size≤k):Aw A w' F'∧Mod (fun j=> ¬A j) w w':=by
 refine ⟨fun j hj=> ⟨by have:=(h j hj).1;have:=M.size;omega,fun e=> ?_⟩,M.mono fun k _ e e2=> (h k e2).2 e⟩
 rcases f j e with e|e
 · exact (h j hj).2 e
 · have:=(h j hj).1;omega
def Wk (t:Bool) (A:Nat→Prop) (W w:World) (nb:Nat) (vars:Int) (id:List (Int × Int)) (cs:List (List Int)) (k:Nat):Prop:=
 ∃b ib ab H s lp lc ls sm cl,RB W w nb b ib ab vars id H s lp lc ls sm cl∧ls.map cl=cs∧s.nc≤k∧(t=true→s.R .tr= [])∧Aw A w (FP nb ib ab b H lp)
theorem Wk.less (h:Wk t A W w nb vars id cs k) (hA: ∀j,A' j→A j):Wk t A' W w nb vars id cs k:=by
 obtain ⟨b,ib,ab,H,s,lp,lc,ls,sm,cl,h,h1,h2,h3,h4⟩:=h
 exact ⟨b,ib,ab,H,s,lp,lc,ls,sm,cl,h,h1,h2,h3,fun j hj=>h4 j (hA j hj)⟩
theorem Wk.enter (h:Wk t A W w nb vars id cs k) (g:Grow w w'):Wk t (fun j=>A j∨(w.heap.size≤j∧j<w'.heap.size)) W w' nb vars id cs k:=by
 obtain ⟨b,ib,ab,H,s,lp,lc,ls,sm,cl,h,h1,h2,h3,h4⟩:=h
 refine ⟨b,ib,ab,H,s,lp,lc,ls,sm,cl,h.grow g,h1,h2,h3,fun j hj=> ?_⟩
 have gs:=g.size
 rcases hj with hj|hj
 · exact ⟨by have:=(h4 j hj).1;omega,(h4 j hj).2⟩
 · exact ⟨hj.2,fun e=>by have:=h.fplt j e;omega⟩
theorem Wk.wg (h:Wk t A W w nb vars id cs k):Grow W w:=by
 obtain ⟨b,ib,ab,H,s,lp,lc,ls,sm,cl,h,h1,h2,h3⟩:=h
 exact h.wg
theorem Wk.len (h:Wk t A W w nb vars id cs k):cs.length≤k:=by
 obtain ⟨b,ib,ab,H,s,lp,lc,ls,sm,cl,h,rfl,h2,h3⟩:=h
 rw [List.length_map];have:=h.ll;omega
theorem Wk.has (h:Wk t A W w nb vars id cs k): ∃p2 p3 p4:Value,∃ (lp:Option Addr) (lc:Nat),Has w nb #[.int .i64 vars,p2,p3,.slice lp cs.length lc,p4]:=by
 obtain ⟨b,ib,ab,H,s,lp,lc,ls,sm,cl,h,rfl,h2,h3⟩:=h
 rw [List.length_map]
 exact ⟨_,_,_,_,_,h.st⟩
theorem Wk.up (h:Wk t A W w nb vars id cs k):Wk t A W w nb vars id cs (k+1):=by
 obtain ⟨b,ib,ab,H,s,lp,lc,ls,sm,cl,h,h1,h2,h3,h4⟩:=h
 exact ⟨b,ib,ab,H,s,lp,lc,ls,sm,cl,h,h1,by omega,h3,h4⟩
theorem Wk.unit (h:Wk true A W w nb vars id cs k) (hc:Vw (Value.int .i64) W cp c) (hn:n=c.length) (hx:n≤100000) (hl: ∀x∈c,litB x=true∧Nt id x):
 Calls prog rup_base_unit.id #[ptrV nb,.slice cp n cc] w fun e w'=> ∃r:Bool,e= .returned (.bool r)∧(r=true↔uB cs c)∧Wk (!c.isEmpty) A W w' nb vars id cs k∧Mod (fun j=> ¬A j) w w':=by
 obtain ⟨b,ib,ab,H,s,lp,lc,ls,sm,cl,h,rfl,h2,h3,h4⟩:=h
 refine (unit_ok h (h3 rfl) (hc.grow h.wg) hn hx (fun x hx=> (hl x hx).1) (fun x hx=> (hl x hx).2)).mono ?_
 rintro e w' ⟨r,rfl,hr,H',s',h',P,hn',ht⟩
 obtain ⟨p1,p2⟩:=P.fp (nb:=nb) (ib:=ib) (ab:=ab) (lp:=lp)
 obtain ⟨a1,a2⟩:=h4.go p1 p2
 exact ⟨r,rfl,hr,⟨b,ib,ab,H',s',lp,lc,ls,sm,cl,h',rfl,by omega,fun e=>ht fun e2=>by subst e2;simp at e,a1⟩,a2⟩
theorem Wk.first (h:Wk (!c.isEmpty) A W w nb vars id cs k) (hc:Vw (Value.int .i64) W cp c) (hn:n=c.length) (hx:n≤90000) (hl: ∀x∈c,litB x=true∧Nt id x):
 Calls prog rup_base_first.id #[ptrV nb,.slice cp n cc] w fun e w'=> ∃r:Bool,e= .returned (.bool r)∧(r=true↔fB cs c)∧Wk (!c.isEmpty) A W w' nb vars id cs k∧Mod (fun j=> ¬A j) w w':=by
 by_cases hne:c= []
 · subst hne
   subst hn
   exact rup_base_first.calls (cnd_t rfl ⟨false,rfl,⟨fun e=> (by cases e),fun h=>absurd rfl h.1⟩,h,Mod.refl w⟩)
 · obtain ⟨b,ib,ab,H,s,lp,lc,ls,sm,cl,h,rfl,h2,h3,h4⟩:=h
   refine (first_ok h (h3 (by simpa using hne)) (hc.grow h.wg) hn hx (fun x hx=> (hl x hx).1) (fun x hx=> (hl x hx).2) fun _ k hk x e=> ?_).mono ?_
   · have:=hc.lt hne k hk;have:=h.wy.2.2.2.2 x k e;omega
   · rintro e w' ⟨r,rfl,hr,H',s',h',P,hn',ht⟩
     obtain ⟨p1,p2⟩:=P.fp (nb:=nb) (ib:=ib) (ab:=ab) (lp:=lp)
     obtain ⟨a1,a2⟩:=h4.go p1 p2
     exact ⟨r,rfl,hr,⟨b,ib,ab,H',s',lp,lc,ls,sm,cl,h',rfl,by omega,fun _=>ht,a1⟩,a2⟩
theorem Wk.add (h:Wk t A W w nb vars id cs k) (hc:Vw (Value.int .i64) W cp c) (hn:n=c.length) (hlen:c.length≤4096) (hl: ∀x∈c,litB x=true∧Nt id x) (hk:k<262144):
 Calls prog rup_base_add.id #[ptrV nb,.slice cp n cc] w fun e w'=>e= .returned (.tuple #[])∧Wk t A W w' nb (vmx vars c) id (cs++ [c]) (k+1)∧Mod (fun j=> ¬A j) w w':=by
 obtain ⟨b,ib,ab,H,s,lp,lc,ls,sm,cl,h,rfl,h2,h3,h4⟩:=h
 refine (add_ok7 h hc hn hlen hl (by omega)).mono ?_
 rintro e w' ⟨rfl,H',s',lp',lc',ls',sm',cl',h',hm,hn',ht,p1,p2⟩
 obtain ⟨a1,a2⟩:=h4.go p1 p2
 exact ⟨rfl,⟨b,ib,ab,H',s',lp',lc',ls',sm',cl',h',hm,by omega,fun e=>ht.trans (h3 e),a1⟩,a2⟩
theorem Wk.drop (h:Wk true A W w nb vars id cs k) (hc:Vw (Value.int .i64) W cp c) (hn:n=c.length) (hcl:clB c=true):
 Calls prog rup_base_drop.id #[ptrV nb,.slice cp n cc] w fun e w'=>e= .returned (.tuple #[])∧Wk true A W w' nb vars id (delP c cs) k∧Mod (fun j=> ¬A j) w w':=by
 obtain ⟨b,ib,ab,H,s,lp,lc,ls,sm,cl,h,rfl,h2,h3,h4⟩:=h
 refine (drop_ok7 h (h3 rfl) (hc.grow h.wg) hn hcl).mono ?_
 rintro e w' ⟨rfl,H',s',ls',h',hm,hn',ht,p1,p2⟩
 obtain ⟨a1,a2⟩:=h4.go p1 p2
 exact ⟨rfl,⟨b,ib,ab,H',s',lp,lc,ls',sm,cl,h',hm,by omega,fun _=>ht,a1⟩,a2⟩
theorem Wk.do' {del:Bool} (h:Wk true A W w nb vars id cs k) (hc:Vw (Value.int .i64) W cp c) (hn:n=c.length) (hlen:c.length≤4096) (hl: ∀x∈c,litB x=true∧Nt id x) (hk:k<262144):
 Calls prog rup_base_do.id #[ptrV nb,.agg #[.bool del,.slice cp n cc]] w fun e w'=> ∃r:Int,e= .returned (.int .i64 r)∧Mod (fun j=> ¬A j) w w'∧
  ((del=true∧r=0∧Wk true A W w' nb vars id (delP c cs) k)∨(del=false∧(uB cs c∨fB cs c)∧r=0∧Wk (!c.isEmpty) A W w' nb (vmx vars c) id (cs++ [c]) (k+1))∨(del=false∧¬(uB cs c∨fB cs c)∧r=7∧Wk (!c.isEmpty) A W w' nb vars id cs k)):=by
 subst hn
 have hcl:clB c=true:=clB_of (fun x hx=> (hl x hx).1) hlen
 refine rup_base_do.calls ?_
 intro n1 w2 h2
 have e2:=h2.num
 have i1:=h2.has.lt
 have hh:=h.enter h2.mod
 have lt: ∀j,A j→j<w.heap.size:=by
  obtain ⟨b,ib,ab,H,s,lp,lc,ls,sm,cl,_,_,_,_,h4⟩:=h
  exact fun j hj=> (h4 j hj).1
 have fin: ∀ {t v cs' kk u},Wk t (fun j=>A j∨(w.heap.size≤j∧j<w2.heap.size)) W u nb v id cs' kk→Wk t A W u nb v id cs' kk:=fun h=>h.less fun j hj=> .inl hj
 have fm: ∀ {u:World},Mod (fun j=> ¬(A j∨(w.heap.size≤j∧j<w2.heap.size))) w2 u→Mod (fun j=> ¬A j) w u:=fun m=> (h2.mod.mono fun _ _ e=>e.elim).then m fun k _ e e2=>e (.inl e2)
 have hn1:A n1∨(w.heap.size≤n1∧n1<w2.heap.size):= .inr ⟨by omega,i1⟩
 refine ⟨_,cell_add h2.has rfl,?_⟩
 cases del with
 |true=>
  refine cnd_t rfl ⟨_,_,_,cell_add h2.has rfl,(hh.drop hc rfl hcl).mono ?_⟩
  rintro e w5 ⟨rfl,h5,m5⟩
  exact ⟨rfl,0,rfl,fm m5,.inl ⟨rfl,rfl,fin h5⟩⟩
 |false=>
  obtain ⟨_,_,_,_,_,hs⟩:=hh.has
  have hl':=hh.len
  refine cnd_f rfl ⟨_,rfl,_,_,_,cell_add hs rfl,cnd_f (by simp;omega) ⟨_,_,_,cell_add h2.has rfl,(hh.unit hc rfl (by omega) hl).mono ?_⟩⟩
  rintro e w9 ⟨r,rfl,hr,k9,m9⟩
  have n9:Has w9 n1 _:=h2.has.keep m9 fun e=>e hn1
  refine ⟨r,rfl,cnd_i (fun r1=> ?_) (fun r1=> ?_)⟩
  · have r1: ¬uB cs c:=fun e=>by rw [hr.2 e] at r1;cases r1
    refine ⟨_,_,_,cell_add n9 rfl,(k9.first hc rfl (by omega) hl).mono ?_⟩
    rintro e w12 ⟨r2,rfl,hr2,k12,m12⟩
    have n12:Has w12 n1 _:=n9.keep m12 fun e=>e hn1
    refine ⟨_,rfl,cnd_i (fun r3=> ?_) (fun r3=> ?_)⟩
    · exact ⟨7,rfl,fm (m9.trans m12),.inr (.inr ⟨rfl,fun e=>e.elim r1 fun e=> (by rw [hr2.2 e] at r3;cases r3),rfl,fin k12⟩)⟩
    · have hf:fB cs c:=hr2.1 (by simpa using r3)
      refine ⟨_,_,_,cell_add n12 rfl,(k12.add hc rfl hlen hl hk).mono ?_⟩
      rintro e w15 ⟨rfl,k15,m15⟩
      exact ⟨rfl,0,rfl,fm ((m9.trans m12).trans m15),.inr (.inl ⟨rfl,.inr hf,rfl,fin k15⟩)⟩
  · have r1:uB cs c:=hr.1 (by simpa using r1)
    refine ⟨_,_,_,cell_add n9 rfl,(k9.add hc rfl hlen hl hk).mono ?_⟩
    rintro e w17 ⟨rfl,k17,m17⟩
    exact ⟨rfl,0,rfl,fm (m9.trans m17),.inr (.inl ⟨rfl,.inl r1,rfl,fin k17⟩)⟩
end
section
variable {W w w' w0 w2 w3:World} {nb b ib ab k:Nat} {vars:Int} {id id':List (Int × Int)} {cs ms:List (List Int)} {t:Bool} {cp:Option Addr} {n cc:Nat} {c:List Int}
theorem getD_mem2 {l:List (List Int)} {i:Nat} (h:i<l.length):l.getD i []∈l:=by simp [List.getD,h]
theorem take_snoc {α:Type} {l:List α} {i:Nat} (h:i<l.length) (d:α):l.take (i+1)=l.take i++ [l.getD i d]:=by
 rw [List.take_add_one];simp [List.getD,h]
theorem anew_ok {p2 p3 p4:Value} {q:Option Addr} {m d:Nat} {hs:List Sl} (hst:Has w nb #[.int .i64 vars,.map (some ib),p2,p3,p4]) (him:MV (Value.int .i64) w ib id) (hid:Idn id) (hnb:nb≠ib) (hW:Grow W w) (y1:W.heap.size≤nb) (y2:W.heap.size≤ib)
 (hv:V2 (Value.int .i64) W q hs cs) (hm:m=cs.length) (hcs: ∀c∈cs,c.length≤4096∧∀x∈c,litB x=true∧Nt id x) (hlen:cs.length<262144) (hil:id.length≤1048576):
 Calls prog rup_base_anew.id #[ptrV nb,.slice q m d] w fun e w'=>e= .returned (.tuple #[])∧Wk true (fun _=>False) W w' nb (cs.foldl vmx vars) id cs cs.length:=by
 subst hm
 refine rup_base_anew.calls ⟨_,rfl,_,cell_add hst rfl,_,him.len map_ii _,?_⟩
 refine (new_ok (k:=(id.length:Int)) (cs:= []) (hs:= []) (q:=none) (m:=0) (d:=0) V2.nil rfl).mono ?_
 have hcn:cnfB (id.length:Int) []=true:=by unfold cnfB;simp;omega
 rintro e w4 (⟨hf,_⟩| ⟨_,b,s,H,rfl,pm,g,N,gw,fo⟩)
 · rw [hcn] at hf;cases hf
 have st4:=hst.grow gw
 have im4:=him.grow gw
 have zw:=hW.size
 have z4:=gw.size
 have i1:=hst.lt
 have i2:=him.lt
 refine ⟨_,_,rfl,_,rfl,store_f st4 rfl rfl fun w8 st8 M8=> ?_⟩
 intro n9 w10 h10
 have e10:=h10.num
 have z8:=M8.size
 have st10:Has w10 nb _:=st8.grow h10.mod
 refine ⟨_,rfl,store_f st10 rfl rfl fun w12 st12 M12=> ⟨_,rfl,store_f st12 rfl rfl fun w14 st14 M14=> ?_⟩⟩
 have M48:Mod (·=nb) w4 w14:=((M8.grow h10.mod).trans M12).trans M14
 have M10:Mod (·=nb) w10 w14:=M12.trans M14
 have ne9:n9≠nb:=by omega
 have hvn:s.vars=id.length:=by have:=N.v;simpa using this
 have hnc:s.nc=0:=N.n
 have fo': ∀x k,own b H x=some k→W.heap.size≤k∧w.heap.size≤k∧k<w4.heap.size:=fun x k e=> ⟨by have:=fo x k e;omega,fo x k e,pm.lt x k e⟩
 have nth: ∀i,¬s.There i:=fun i h=>by have:=h.1;omega
 have hB:RB W w14 nb b ib n9 vars id H s none 0 [] [] fun _=> []:=by
  refine ⟨st14,pm.keep M48 fun x k hk e=> ?_,g,im4.keep M48 fun e=>hnb e.symm,(MV.new h10).keep M10 ne9,Ow.nil _ _ _,fun x hx=>by simp at hx,fun x k hk=> ?_,?_,fun x hx=>by simp at hx,?_,?_,N.be,hid,hvn,by simp,fun i=>by simp [nth],fun i hi=>by simp at hi,fun i hi=>by simp at hi,fun i hi=>absurd hi (nth i),fun i hi=>by simp at hi,fun i hi=>by simp at hi,fun x hx=>by simp at hx,by simp⟩
  · have:=fo' x k hk;omega
  · have:=fo' x k hk
    exact ⟨by omega,by omega,by omega,by simp [blk]⟩
  · exact ⟨hnb,by omega,by omega,by simp [blk],by simp [blk],by simp [blk]⟩
  · exact (hW.trans gw).then M48 fun k hk e=>by omega
  · exact ⟨y1,y2,by omega,by simp [blk],fun x k hk=> (fo' x k hk).1⟩
 have k14:Wk true (fun _=>False) W w14 nb vars id [] 0:=⟨b,ib,n9,H,s,none,0,[],[],_,hB,rfl,by omega,fun _=>N.tr,fun j hj=>hj.elim⟩
 refine ⟨fun I u z=> ∃v:Nat,I=v∧v≤cs.length∧z=cs.length - v∧Wk true (fun _=>False) W u nb ((cs.take v).foldl vmx vars) id (cs.take v) v,⟨_,0,rfl,Nat.zero_le _,rfl,k14⟩,?_⟩
 rintro I u z _ ⟨v,rfl,hvl,rfl,ku⟩
 refine cnd_i (fun r=> ?_) (fun r=> ?_)
 · have r:v<cs.length:=by simpa using r
   have hmem:=getD_mem2 r
   refine (hv.grow ku.wg).ix (by omega) rfl (by omega) fun a sl k1 k0 k2 k3 k4=> ⟨_,_,_,k1,?_⟩
   rw [Int.toNat_natCast] at k0 k2
   obtain ⟨r1,r2,r3⟩:=hv.r v r
   rw [← k0] at r3
   refine (ku.add r3 k2 (hcs _ hmem).1 (hcs _ hmem).2 (by omega)).mono ?_
   rintro e w22 ⟨rfl,k22,_⟩
   refine ⟨rfl,_,?_,v+1,wN (by omega) (by omega),r,rfl,?_⟩
   · omega
   · rw [take_snoc r [],List.foldl_append];exact k22
 · have r:v=cs.length:=by simp at r;omega
   subst r
   rw [List.take_length] at ku
   exact ⟨rfl,ku⟩
def tot (cs:List (List Int)):Nat:=(cs.map List.length).sum
theorem tot_snoc (cs:List (List Int)) (c:List Int):tot (cs++ [c])=tot cs+c.length:=by unfold tot;simp
theorem tot_take {i:Nat} (h:i<cs.length):tot (cs.take (i+1))=tot (cs.take i)+ (cs.getD i []).length:=by rw [take_snoc h [],tot_snoc]
theorem tot_take_le (i:Nat):tot (cs.take i)≤tot cs:=by
 have h:=congrArg tot (List.take_append_drop i cs)
 have e: ∀a b:List (List Int),tot (a++b)=tot a+tot b:=fun a b=>by unfold tot;simp
 rw [e] at h
 omega
theorem begin_ok {v:Int} {p q:Option Addr} {n d m e:Nat} {hs ks:List Sl} (hv:V2 (Value.int .i64) w p hs cs) (hn:n=cs.length) (hw:V2 (Value.int .i64) w q ks ms) (hm:m=ms.length)
 (hcs: ∀c∈cs,c.length≤4096∧∀x∈c,litB x=true) (hms: ∀c∈ms,c.length≤50000∧∀x∈c,litB x=true) (hlen:cs.length<262144) (hml:ms.length≤1000000):
 Calls prog rup_begin.id #[.agg #[.int .i64 v,.slice p n d],.slice q m e] w fun e w'=> ∃ (nb:Nat) (id:List (Int × Int)),e= .returned (ptrV nb)∧Wk true (fun _=>False) w w' nb (cs.foldl vmx v) id cs cs.length∧(∀c∈cs++ms,∀x∈c,Nt id x):=by
 subst hn hm
 refine rup_begin.calls ?_
 intro n1 w2 h2
 have e2:=h2.num
 refine ⟨_,cell_add h2.has rfl,?_⟩
 intro n4 w5 h5
 have e5:=h5.num
 have z2:=h2.mod.size
 have s2:=h2.size
 intro n6 w7 h7
 have e7:=h7.num
 have s5:=h5.size
 have G7:Grow w w7:=(h2.mod.trans h5.mod).trans h7.mod
 have hb7:Has w7 n1 _:=(h2.has.grow h5.mod).grow h7.mod
 refine ⟨_,_,_,cell_add hb7 rfl,?_⟩
 have hid0:Idn []:=⟨by simp,fun j hj=>by simp at hj,fun x hx=>by simp at hx⟩
 refine ⟨fun I u z=> ∃ (i:Nat) (id:List (Int × Int)),I=i∧i≤cs.length∧z=cs.length - i∧Mod (·=n4) w7 u∧MV (Value.int .i64) u n4 id∧Idn id∧∀c∈cs.take i,∀x∈c,Nt id x,
  ⟨_,0,[],rfl,Nat.zero_le _,rfl,Mod.refl _,(MV.new h5).grow h7.mod,hid0,fun c hc=>by simp at hc⟩,?_⟩
 rintro I u z _ ⟨i,id,rfl,hi,rfl,Mu,mu,idu,hN⟩
 have ltN:=hv.ltN
 have ltM:=hw.ltN
 have hvu: ∀ {u:World},Mod (·=n4) w7 u→V2 (Value.int .i64) u p hs cs:=fun Mu=> (hv.grow G7).keepN Mu fun k hk e=>by have:=ltN k hk;omega
 have hwu: ∀ {u:World},Mod (·=n4) w7 u→V2 (Value.int .i64) u q ks ms:=fun Mu=> (hw.grow G7).keepN Mu fun k hk e=>by have:=ltM k hk;omega
 have hst: ∀ {u:World},Mod (·=n4) w7 u→Has u n6 #[.int .i64 v,.map (some n4),.pointer none,.slice none 0 0,.map none]:=fun Mu=>h7.has.keep Mu (by omega)
 have hb1: ∀ {u:World},Mod (·=n4) w7 u→Has u n1 #[.int .i64 v,.slice p cs.length d]:=fun Mu=>hb7.keep Mu (by omega)
 refine cnd_i (fun r=> ?_) (fun r=> ?_)
 · have r:i<cs.length:=by simpa using r
   have hmem:=getD_mem2 r
   have ile:=idu.le
   have mle:=(hcs _ hmem).1
   refine (hvu Mu).ix (by omega) rfl (by omega) fun a sl k1 k0 k2 k3 k4=> ⟨_,_,_,k1,?_⟩
   rw [Int.toNat_natCast] at k2 k4 k0
   obtain ⟨r1,r2,r3⟩:=hv.r i r
   rw [← k0] at r3
   refine (note_ok (hst Mu) mu idu (by omega) k4 (fun hne e=>by have:=r3.lt hne n4 e;omega) k2 (hcs _ hmem).2 (by omega)).mono ?_
   rintro e w16 ⟨rfl,id',M16,m16,nt⟩
   refine ⟨rfl,_,?_,i+1,id',wN (by omega) (by omega),r,rfl,Mu.trans M16,m16,nt.idn,fun c hc x hx=> ?_⟩
   · omega
   · rw [take_snoc r []] at hc
     rcases List.mem_append.1 hc with hc|hc
     · exact nt.kp x (hN c hc x hx)
     · rw [List.mem_singleton] at hc;subst hc;exact nt.all x hx
 have r:i=cs.length:=by simp at r;omega
 subst r
 rw [List.take_length] at hN
 refine ⟨fun I u z=> ∃ (i:Nat) (id:List (Int × Int)),I=i∧i≤ms.length∧z=ms.length - i∧Mod (·=n4) w7 u∧MV (Value.int .i64) u n4 id∧Idn id∧∀c∈cs++ms.take i,∀x∈c,Nt id x,
  ⟨_,0,id,rfl,Nat.zero_le _,rfl,Mu,mu,idu,fun c hc=>by simp at hc;exact hN c hc⟩,?_⟩
 clear Mu mu idu hN
 rintro I u z _ ⟨i,id,rfl,hi,rfl,Mu,mu,idu,hN⟩
 refine cnd_i (fun r=> ?_) (fun r=> ?_)
 · have r:i<ms.length:=by simpa using r
   have hmem:=getD_mem2 r
   have ile:=idu.le
   have mle:=(hms _ hmem).1
   refine (hwu Mu).ix (by omega) rfl (by omega) fun a sl k1 k0 k2 k3 k4=> ⟨_,_,_,k1,?_⟩
   rw [Int.toNat_natCast] at k2 k4 k0
   obtain ⟨r1,r2,r3⟩:=hw.r i r
   rw [← k0] at r3
   refine (note_ok (hst Mu) mu idu (by omega) k4 (fun hne e=>by have:=r3.lt hne n4 e;omega) k2 (hms _ hmem).2 (by omega)).mono ?_
   rintro e w16 ⟨rfl,id',M16,m16,nt⟩
   refine ⟨rfl,_,?_,i+1,id',wN (by omega) (by omega),r,rfl,Mu.trans M16,m16,nt.idn,fun c hc x hx=> ?_⟩
   · omega
   · rw [take_snoc r [],← List.append_assoc] at hc
     rcases List.mem_append.1 hc with hc|hc
     · exact nt.kp x (hN c hc x hx)
     · rw [List.mem_singleton] at hc;subst hc;exact nt.all x hx
 have r:i=ms.length:=by simp at r;omega
 subst r
 rw [List.take_length] at hN
 refine ⟨_,_,_,cell_add (hb1 Mu) rfl,?_⟩
 have Gu:Grow w u:=G7.then Mu fun k hk e=>by omega
 refine (anew_ok (hst Mu) mu idu (by omega) Gu (by omega) (by omega) hv rfl (fun c hc=> ⟨(hcs c hc).1,fun x hx=> ⟨(hcs c hc).2 x hx,hN c (List.mem_append_left _ hc) x hx⟩⟩) hlen idu.le).mono ?_
 rintro e w26 ⟨rfl,k26⟩
 exact ⟨rfl,n6,id,rfl,k26,hN⟩
end
end Go.Proofs.YtbdghpjnifjlmaaGreat.W
