/- Layer 7: where a proof ends, by the document; a short proof proves. -/
import Derived.Test.YtbdghpjnifjlmaaGreatRupB
import Derived.Test.YtbdghpjnifjlmaaGreatLubyA
import Derived.Test.YtbdghpjnifjlmaaGreatLitA
import Derived.Test.YtbdghpjnifjlmaaGreatFwRead
namespace Go.Proofs.YtbdghpjnifjlmaaGreat.W
open Go Go.Fw Go.RowKit Go.SoP Go.LiP
section
variable {w w' w0 w2 w3 u0 u u':World} {p q:Option Addr} {n m c d:Nat} {k:Int} {hs ks:List Sl} {cs:List (List Int)} {l:List Int}
theorem stepC_lits {s:Stp} (hcs: ∀c∈cs,c.length≤4096∧∀x∈c,litB x=true) (hs:clB s.2=true): ∀c∈stepC cs s,c.length≤4096∧∀x∈c,litB x=true:=by
 intro c hc
 cases h:s.1 with
 |true=>
  rw [(step_del (k:=0) h).2.1] at hc
  have: ∀ {cs:List (List Int)},c∈delP s.2 cs→c∈cs:=by
   intro cs
   induction cs with
   |nil=>exact fun h=>h
   |cons x l ih=>
    intro h
    unfold delP at h
    split at h
    · exact List.mem_cons_of_mem _ h
    · rcases List.mem_cons.1 h with h|h
      · exact h▸List.mem_cons_self ..
      · exact List.mem_cons_of_mem _ (ih h)
  exact hcs c (this hc)
 |false=>
  by_cases h2:uB cs s.2∨fB cs s.2
  · rw [(step_add (k:=0) h h2).2.1] at hc
    rcases List.mem_append.1 hc with hc|hc
    · exact hcs c hc
    · rw [List.mem_singleton] at hc
      subst hc
      exact ⟨(clB_all hs).2,(clB_all hs).1⟩
  · rw [(step_bad (k:=0) h h2).2.1] at hc
    exact hcs c hc
theorem stepC_len {s:Stp}:(stepC cs s).length≤cs.length+1:=by
 cases h:s.1 with
 |true=>
  rw [(step_del (k:=0) h).2.1]
  have: ∀ {cs:List (List Int)},(delP s.2 cs).length≤cs.length:=by
   intro cs
   induction cs with
   |nil=>exact Nat.le_refl _
   |cons x l ih=>
    unfold delP
    split
    · simp
    · simpa using ih
  have:=this (cs:=cs)
  omega
 |false=>
  by_cases h2:uB cs s.2∨fB cs s.2
  · rw [(step_add (k:=0) h h2).2.1];simp
  · rw [(step_bad (k:=0) h h2).2.1];omega
def PI (w:World) (n1:Nat) (cs:List (List Int)) (al:List Stp) (I:Int) (u:World) (z:Nat):Prop:=
 ∃ (i:Nat) (ci:List (List Int)) (vi:Int) (pi:Option Addr) (di:Nat) (hi:List Sl),I=i∧i≤al.length∧z=al.length - i∧Grow w u∧Has u n1 #[.int .i64 vi,.slice pi ci.length di]∧V2 (Value.int .i64) u pi hi ci∧ci.length≤di∧(∀j,footN pi hi j→j≠n1)∧(∀c∈ci,c.length≤4096∧∀x∈c,litB x=true)∧ci.length≤40+i∧Way cs al i ci
theorem refProves7_ok {al:List Stp} (hc:V2 (Value.int .i64) w p hs cs) (hn:n=cs.length) (h40:cs.length≤40) (hd:n≤d) (hcn:cnfB k cs=true) (hl:SV w q al) (hm:m=al.length) (hm2:m≤60) (hmy:mayP al=true):
 Calls Tryz.prog fathomref07_Proves.id #[.agg #[.int .i64 k,.slice p n d],.slice q m c] w fun e w'=>e= .returned (.tuple #[.int .i64 (pvP cs al).1,.int .i64 (pvP cs al).2])∧Grow w w':=by
 subst hn hm
 have hmy': ∀x∈al,clB x.2=true:=by unfold mayP at hmy;rwa [List.all_eq_true] at hmy
 have gm: ∀i,i<al.length→al.getD i st0∈al:=fun i hi=>by simp [List.getD,hi]
 have hL:=cnf_lits hcn
 refine fathomref07_Proves.calls ?_
 intro n1 w2 h2
 have e1:=h2.num
 refine ⟨PI w n1 cs al,⟨_,0,cs,k,p,d,hs,rfl,Nat.zero_le _,rfl,h2.mod,h2.has,hc.grow h2.mod,hd,fun j hj e=>by have:=hc.ltN j hj;omega,fun c hc=> ⟨(hL c hc).1,fun x hx=> ((hL c hc).2 x hx).1⟩,by omega,Way.zero cs al⟩,?_⟩
 rintro I u z _ ⟨i,ci,vi,pi,di,hi,rfl,hil,rfl,gu,bu,vu,hdi,fo,li,hln,way⟩
 refine cnd_i (fun r=> ?_) (fun r=> ?_)
 · have r:i<al.length:=by simpa using r
   have hmem:=gm i r
   have hcl:=hmy' _ hmem
   have hsz:=gu.size
   have iu:=bu.lt
   have gd:Grow u u.drew:=(Mod.refl u).drew
   have tail: ∀ (w20:World) (n18:Nat) (p':Option Addr) (d':Nat) (hs':List Sl) (sl:Sl),Grow u w20→u.heap.size≤n18→Has w20 n18 #[.int .i64 (stepV vi ci (al.getD i st0)),.slice p' (stepC ci (al.getD i st0)).length d']→V2 (Value.int .i64) w20 p' hs' (stepC ci (al.getD i st0))→(stepC ci (al.getD i st0)).length≤d'→
    (∀j,footN p' hs' j→j≠n1)→
    cnd (stepE ci (al.getD i st0) !=(0:Int))
    ((fun (v:Value) (w':World)=>Ending.returned v= .returned (.tuple #[.int .i64 (pvP cs al).1,.int .i64 (pvP cs al).2])∧Grow w w') (.tuple #[.int .i64 i,.int .i64 (stepE ci (al.getD i st0))]) w20)
    (ixK q al.length i 2 fun a21=>
      ∃x22,w20.cell? (a21.add 0)=some (.bool x22)∧
      cnd (!x22)
      (ixK q al.length i 2 fun a23=>
      ∃x24p x24n x24c,w20.cell? (a23.add 1)=some (.slice x24p x24n x24c)∧
      cnd ((x24n:Int)==(0:Int))
      ((fun (v:Value) (w':World)=>Ending.returned v= .returned (.tuple #[.int .i64 (pvP cs al).1,.int .i64 (pvP cs al).2])∧Grow w w') (.tuple #[.int .i64 i,.int .i64 0]) w20)
      (∃x25 x26p x26n x26c,CellsAt w20 (Addr.mk n18 0 none) 0 [.int .i64 x25,.slice x26p x26n x26c]∧
        ∃w27,StoreAt (Addr.mk n1 0 none) 0 [.int .i64 x25,.slice x26p x26n x26c] w20 w27∧
        ∃k5,k5<al.length - i∧PI w n1 cs al (IntKind.i64.wrap (i+ (1:Int))) w27 k5))
      (∃x28 x29p x29n x29c,CellsAt w20 (Addr.mk n18 0 none) 0 [.int .i64 x28,.slice x29p x29n x29c]∧
      ∃w30,StoreAt (Addr.mk n1 0 none) 0 [.int .i64 x28,.slice x29p x29n x29c] w20 w30∧
      ∃k5,k5<al.length - i∧PI w n1 cs al (IntKind.i64.wrap (i+ (1:Int))) w30 k5)):=by
    intro w20 n18 p' d' hs' sl g20 hn18 b18 hv hdl hf
    have Gw:=gu.trans g20
    have next:stepE ci (al.getD i st0)=0→¬((al.getD i st0).1=false∧(al.getD i st0).2= [])→∃x28 x29p x29n x29c,CellsAt w20 (Addr.mk n18 0 none) 0 [.int .i64 x28,.slice x29p x29n x29c]∧
     ∃w30,StoreAt (Addr.mk n1 0 none) 0 [.int .i64 x28,.slice x29p x29n x29c] w20 w30∧
     ∃k5,k5<al.length - i∧PI w n1 cs al (IntKind.i64.wrap (i+ (1:Int))) w30 k5:=fun he hne=>by
     have hlen:=stepC_len (cs:=ci) (s:=al.getD i st0)
     exact ⟨_,_,_,_,cells2 b18,store_i (bu.grow g20) rfl rfl fun w30 b30 m30=> ⟨_,by omega,i+1,_,_,_,_,_,wN (by omega) (by omega),r,rfl,Gw.then m30 fun j hj e=>by omega,b30,hv.keepN m30 hf,hdl,hf,stepC_lits li hcl,by omega,way.next r he hne⟩⟩
    refine cnd_i (fun r2=> ?_) (fun r2=> ?_)
    · have r2:stepE ci (al.getD i st0)≠0:=by simpa using r2
      rw [way.bad r r2]
      exact ⟨rfl,Gw⟩
    · have r2:stepE ci (al.getD i st0)=0:=by simpa using r2
      refine hl.ix Gw rfl r fun a s hcA h1 h2' h3=> ⟨_,CellsAt.get (hcA w20 Gw) 0 _ rfl,cnd_i (fun r3=> ?_) (fun r3=>next r2 fun e=>by rw [e.1] at r3;cases r3)⟩
      have r3:(al.getD i st0).1=false:=by simpa using r3
      refine hl.ix Gw rfl r fun a s hcA h1 h2' h3=> ⟨_,_,_,CellsAt.get (hcA w20 Gw) 1 _ rfl,cnd_i (fun r4=> ?_) (fun r4=>next r2 fun e=> ?_)⟩
      · have r4:(al.getD i st0).2= []:=by
         have:(s.n:Int)=0:=by simpa using r4
         exact List.eq_nil_of_length_eq_zero (by omega)
        rw [way.fin r r2 ⟨r3,r4⟩]
        exact ⟨rfl,Gw⟩
      · have:(s.n:Int)≠0:=by simpa using r4
        rw [e.2] at h1
        simp at h1
        omega
   refine ⟨Grow u,gd,_,_,_,_,fun v g=>cells2 (bu.grow g),hl.ix (gu.trans gd) rfl r fun a s hcA h1 h2' h3=> ⟨_,_,_,_,fun v g=>hcA v (gu.trans g),?_,?_⟩⟩
   · have G:=gu.trans gd
     refine (refDo7_ok (b:=(al.getD i st0).1) (vu.grow gd) rfl (by omega) hdi li (h3.grow G) h1 hcl).mono ?_
     rintro e w14 ⟨p',d',hs',rfl,hv,hdl,g14,f14⟩
     refine ⟨_,_,_,_,_,rfl,?_⟩
     intro n18 w19 h19
     have G19:=(gd.trans g14).trans h19.mod
     have e18:=h19.num
     have zz:u.drew.heap.size=u.heap.size:=rfl
     have z14:=g14.size
     refine ⟨G19,store_i h19.has rfl rfl fun w20 b20 m20=>tail w20 n18 p' d' hs' s (G19.then m20 fun j hj e=>by omega) (by omega) b20 ((hv.grow h19.mod).keepN m20 fun j hj e=>by have:=hv.ltN j hj;omega) hdl fun j hj e=> ?_⟩
     rcases f14 j hj with hj| ⟨x,hx,h0,hj⟩|hj
     · exact fo j hj e
     · rw [List.mem_singleton] at hx
       subst hx
       have:=h3.lt (fun e3=>by have h0:0< (al.getD i st0).2.length:=h0;rw [e3] at h0;simp at h0) j hj
       omega
     · omega
   · intro n18 w19 h19
     have G19:Grow u w19:=gd.trans h19.mod
     have e18:=h19.num
     have zz:u.drew.heap.size=u.heap.size:=rfl
     have G:=gu.trans G19
     have z19:=G19.size
     have i18:=h19.has.lt
     refine ⟨G19,(refDo7_ok (b:=(al.getD i st0).1) (vu.grow G19) rfl (by omega) hdi li (h3.grow G) h1 hcl).mono ?_⟩
     rintro e w14 ⟨p',d',hs',rfl,hv,hdl,g14,f14⟩
     have key: ∀j,footN p' hs' j→j<u.heap.size∧j≠n1∨w19.heap.size≤j:=fun j hj=>by
      rcases f14 j hj with hj| ⟨x,hx,h0,hj⟩|hj
      · exact .inl ⟨vu.ltN j hj,fo j hj⟩
      · rw [List.mem_singleton] at hx
        subst hx
        have:=h3.lt (fun e3=>by have h0:0< (al.getD i st0).2.length:=h0;rw [e3] at h0;simp at h0) j hj
        exact .inl ⟨by omega,by omega⟩
      · exact .inr hj
     refine ⟨_,_,_,_,_,rfl,store_i (h19.has.grow g14) rfl rfl fun w20 b20 m20=>tail w20 n18 p' d' hs' s ((G19.trans g14).then m20 fun j hj e=>by omega) (by omega) b20 (hv.keepN m20 fun j hj e=>by have:=key j hj;omega) hdl fun j hj e=>by have:=key j hj;omega⟩
 · have r:i=al.length:=by simp at r;omega
   subst r
   rw [way.all]
   exact ⟨rfl,gu⟩
end
section
variable {W w w' w0 w2 w3 u0 u u':World} {p q:Option Addr} {n m c d:Nat} {k:Int} {hs ks:List Sl} {cs:List (List Int)} {l:List Int}
theorem has_vw {α:Type} {f:α→Value} {b:Nat} {a:Array Value} {l:List α} (h:Has w b a) (hc:a.toList=l.map f):Vw f w (some ⟨b,0,none⟩) l:=by
 intro j hj
 refine ⟨_,rfl,cell_add h ?_⟩
 rw [Nat.zero_add,← Array.getElem?_toList,hc,List.getElem?_map,List.getElem?_eq_getElem hj]
 rfl
end
section
variable {W w w' w0 w2 w3 u:World} {p q:Option Addr} {n m d i c:Nat} {k:Int} {hs tl:List Sl} {cs:List (List Int)} {l:List Int} {ss:List So} {al:List Stp}
def F8:List (List Int):= [[1,2],[-1,2],[-2],[3]]
end
section
variable {W w w' w0 w2 w3 u:World} {p q:Option Addr} {n m d i c:Nat} {k:Int} {cs:List (List Int)} {l:List Int} {al:List Stp}
def P9:List Stp:= [(false,[])]
theorem F9_end:uB F8 []:= .inr ⟨[-2,1],.step (t:= [-2]) (c:= [1,2]) (.step (t:= []) (c:= [-2]) .refl (by decide) (by decide)) (by decide) (by decide),[-1,2],by decide,by decide⟩
theorem end9:EndAt P9 0:=⟨by decide,⟨rfl,rfl⟩,fun j hj=>by omega⟩
theorem plain9: ∀i,i≤0→(P9.getD i st0).1=true∨uB ((ahd F8 P9 i).map (·.1)) (P9.getD i st0).2:=by
 intro i hi
 have:i=0:=by omega
 subst this
 exact .inr F9_end
theorem nd9_4:uB (F8.take 3++ ([]:List Nat).map fun j=>F8.getD j []) []:=
 .inr ⟨[-2,1],.step (t:= [-2]) (c:= [1,2]) (.step (t:= []) (c:= [-2]) .refl (by decide) (by decide)) (by decide) (by decide),[-1,2],by decide,by decide⟩
theorem nd9_3: ¬uB (F8.take 2++ ([]:List Nat).map fun j=>F8.getD j []) []:=not_uB (T:= []) (by unfold NZ;decide) (by decide) .refl (by unfold End;decide)
theorem nd9_2: ¬uB (F8.take 1++ ([2]:List Nat).map fun j=>F8.getD j []) []:=
 not_uB (T:= [-2,1]) (by unfold NZ;decide) (by decide) (.step (t:= [-2]) (c:= [1,2]) (.step (t:= []) (c:= [-2]) .refl (by decide) (by decide)) (by decide) (by decide)) (by unfold End;decide)
theorem nd9_1: ¬uB (F8.take 0++ ([1,2]:List Nat).map fun j=>F8.getD j []) []:=
 not_uB (T:= [-2,-1]) (by unfold NZ;decide) (by decide) (.step (t:= [-2]) (c:= [-1,2]) (.step (t:= []) (c:= [-2]) .refl (by decide) (by decide)) (by decide) (by decide)) (by unfold End;decide)
theorem ndA9:ndA F8 P9 0= [0,1,2]:=by
 have:ndA F8 P9 0=ndK F8 [] 4 []:=rfl
 rw [this,ndK_in nd9_4,ndK_out nd9_3,ndK_out nd9_2,ndK_out nd9_1]
 rfl
theorem cor9_mem {j:Nat}:j∈corC F8 P9 0↔j<3:=by
 rw [mem_corC]
 have key: ∀j:Nat,j<4→((ahd F8 P9 0).getD j sr0).2=(false,(j:Int)):=fun j hj=>by
  match j,hj with
  |0,_=>rfl
  |1,_=>rfl
  |2,_=>rfl
  |3,_=>rfl
 have e0:ndF F8 P9 0=ndN F8 P9 0 (fun x=>x=(true,((0:Nat):Int))):=rfl
 rw [e0]
 unfold ndN
 rw [ndA9]
 constructor
 · rintro ⟨_,h| ⟨_,a,ha,e⟩⟩
   · cases h
   · have h3:a<3:=by
      simp at ha;omega
     rw [key a (by omega)] at e
     have e:=(Prod.mk.inj e).2
     omega
 · intro h
   refine ⟨by show j<4;omega,.inr ⟨rfl,j,?_,key j (by omega)⟩⟩
   simp;omega
theorem cor9_len:(corC F8 P9 0).length=3:=by
 have h1:=List.Nodup.length_le_of_subset ((corC_ris (cs:=F8) (al:=P9) (t:=0)).imp fun h=>Nat.ne_of_lt h) (l₂:= [0,1,2]) fun j hj=>by
  have:=cor9_mem.1 hj
  simp;omega
 have h2:=List.Nodup.length_le_of_subset (l₁:= [0,1,2]) (by decide) (l₂:=corC F8 P9 0) fun j hj=>by
  refine cor9_mem.2 ?_
  simp at hj;omega
 simp at h1 h2
 omega
end
section
variable {W w w' w0 w2 w3 u:World} {p q p1 p2:Option Addr} {n m d i c t n1 n2 d1 d2:Nat} {k:Int} {hs tl:List Sl} {cs:List (List Int)} {l c1 c2:List Int} {ss:List So} {al bl:List Stp}
theorem natI_getD {K:List Nat} {j:Nat}:(natI K).getD j 0=((K.getD j 0:Nat):Int):=nat_map_get
theorem rs_nat {K:List Nat} {n:Nat} (h1:K.Pairwise (·< ·)) (h2: ∀j∈K,j<n):rsP n (natI K):=by
 intro i hi
 rw [natI_len] at hi
 rw [natI_getD,natI_getD]
 have hm:K.getD i 0∈K:=by simp [List.getD,hi]
 have:=h2 _ hm
 refine ⟨by omega,by omega,fun h0=> ?_⟩
 have hp:=List.pairwise_iff_getElem.1 h1 (i - 1) i (by omega) hi (by omega)
 have e1:K.getD i 0=K[i]:=by simp [List.getD,hi]
 have e2:K.getD (i - 1) 0=K[i - 1]'(by omega):=by simp [List.getD,show i - 1<K.length by omega]
 rw [e1,e2];omega
theorem cor_nat {C T:List Nat} {j:Nat}:corHI cs al (natI C) (natI T) j=corH cs al C T j:=by
 unfold corHI corH natI
 rw [← List.map_take,List.map_map,List.map_map]
 rfl
theorem found_ok {t:Nat} (hcn:cnfB k cs=true) (hmy:mayP al=true) (ht:EndAt al t) (hp: ∀i,i≤t→(al.getD i st0).1=true∨uB ((ahd cs al i).map (·.1)) (al.getD i st0).2):
 MayC k cs al (natI (corC cs al t)) (natI (corS cs al t))∧CorOk cs al (natI (corC cs al t)) (natI (corS cs al t)):=by
 have htl:=ht.1
 refine ⟨⟨⟨hcn,hmy⟩,rs_nat corC_ris fun j hj=> (mem_corC.1 hj).1,rs_nat corS_ris fun j hj=>by have:=(mem_corS.1 hj).1;omega,fun j hj=> ?_⟩,fun j hj=> ?_,?_⟩
 · rw [natI_len] at hj
   have hm:(corS cs al t).getD j 0∈corS cs al t:=by simp [List.getD,hj]
   rw [natI_getD]
   unfold stA
   rw [Int.toNat_natCast]
   rcases ndF_ok ht _ (mem_corS.1 hm).2 with ⟨a,_,e⟩| ⟨a,_,hd,e⟩
   · cases e
   · have e:=(Prod.mk.inj e).2
     have:(corS cs al t).getD j 0=a:=by omega
     rw [this];exact hd
 · rw [natI_len] at hj
   rw [cor_nat,natI_getD]
   unfold stA
   rw [Int.toNat_natCast]
   exact cor_uB ht hp hj
 · obtain ⟨j,hj,e⟩:=List.mem_iff_getElem.1 (corS_end (cs:=cs) (al:=al) (t:=t))
   refine ⟨j,by rw [natI_len];exact hj,?_⟩
   rw [natI_getD]
   unfold stA
   rw [Int.toNat_natCast]
   have:(corS cs al t).getD j 0=t:=by simp [List.getD,hj,e]
   rw [this];exact ht.2.1.2
end
end Go.Proofs.YtbdghpjnifjlmaaGreat.W
