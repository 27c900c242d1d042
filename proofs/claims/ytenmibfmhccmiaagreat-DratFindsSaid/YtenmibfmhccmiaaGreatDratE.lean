/- Layer 8: the laws of plain proofs, and of which clauses one is at hand. -/
import Derived.Test.YtenmibfmhccmiaaGreatDratD
import Derived.Test.YtenmibfmhccmiaaGreatRupF
set_option linter.unusedVariables false
set_option linter.unusedSimpArgs false
namespace Go.Proofs.YtenmibfmhccmiaaGreat.W
open Go Go.Fw Go.RowKit Go.SoP Go.LiP
variable {W w w' w0 w2 w3 u:World} {p q:Option Addr} {n m d i c:Nat} {k:Int} {hs tl:List Sl} {cs:List (List Int)} {l:List Int} {ss:List So} {al:List Stp}
def F8:List (List Int):= [[1,2],[-1,2],[-2],[3]]
def P8:List Stp:= [(false,[2]),(false,[])]
theorem F8_two:uB F8 [2]:= .inr ⟨[-2,1],.step (t:= [-2]) (c:= [1,2]) .refl (by decide) (by decide),[-1,2],by decide,by decide⟩
theorem ahd8_0:(ahd F8 P8 0).map (·.1)=F8:=rfl
theorem ahd8_1:(ahd F8 P8 1).map (·.1)=F8++ [[2]]:=rfl
theorem F8_end:uB (F8++ [[2]]) []:= .inr ⟨[2],.step (t:= []) (c:= [2]) .refl (by decide) (by decide),[-2],by decide,by decide⟩
theorem end8:EndAt P8 1:=⟨by decide,⟨rfl,rfl⟩,fun j hj=>by
 have:j=0:=by omega
 subst this
 unfold isEnd
 decide⟩
theorem plain8: ∀i,i≤1→(P8.getD i st0).1=true∨uB ((ahd F8 P8 i).map (·.1)) (P8.getD i st0).2:=by
 intro i hi
 match i,hi with
 |0,_=>exact .inr (by rw [ahd8_0];exact F8_two)
 |1,_=>exact .inr (by rw [ahd8_1];exact F8_end)
theorem nd8_4:uB ((F8++ [[2]]).take 4++ ([]:List Nat).map fun j=> (F8++ [[2]]).getD j []) []:=
 .inr ⟨[-2,1],.step (t:= [-2]) (c:= [1,2]) (.step (t:= []) (c:= [-2]) .refl (by decide) (by decide)) (by decide) (by decide),[-1,2],by decide,by decide⟩
theorem nd8_3:uB ((F8++ [[2]]).take 3++ ([]:List Nat).map fun j=> (F8++ [[2]]).getD j []) []:=
 .inr ⟨[-2,1],.step (t:= [-2]) (c:= [1,2]) (.step (t:= []) (c:= [-2]) .refl (by decide) (by decide)) (by decide) (by decide),[-1,2],by decide,by decide⟩
theorem nd8_2: ¬uB ((F8++ [[2]]).take 2++ ([]:List Nat).map fun j=> (F8++ [[2]]).getD j []) []:=not_uB (T:= []) (by unfold NZ;decide) (by decide) .refl (by unfold End;decide)
theorem ndA8:ndA F8 P8 1=ndK (F8++ [[2]]) [] 2 [2]:=by
 have:ndA F8 P8 1=ndK (F8++ [[2]]) [] 5 []:=rfl
 rw [this,ndK_in nd8_4,ndK_in nd8_3,ndK_out nd8_2]
theorem ndA8_ris:(∀j∈[2],j∈ndA F8 P8 1)∧∀j∈ndA F8 P8 1,j<2∨j∈[2]:=by
 rw [ndA8]
 exact (ndK_ris (n:=5) rfl (i:=2) (K:= [2]) (by decide) ⟨by decide,by decide⟩).2
theorem cor8:3 ∉ corC F8 P8 1∧2∈corC F8 P8 1:=by
 have key: ∀j:Nat,j<3→((ahd F8 P8 1).getD j sr0).2=(false,(j:Int)):=fun j hj=>by
  match j,hj with
  |0,_=>rfl
  |1,_=>rfl
  |2,_=>rfl
 have e0:ndF F8 P8 1=ndN F8 P8 0 (ndN F8 P8 1 fun x=>x=(true,((1:Nat):Int))):=rfl
 have hS: ∀x,ndN F8 P8 1 (fun x=>x=(true,((1:Nat):Int))) x→x=(true,1)∨∃j:Nat,j<3∧x=(false,(j:Int)):=by
  rintro x (h| ⟨_,j,hj,rfl⟩)
  · exact .inl h
  · have hlt:j<3:=by
     rcases ndA8_ris.2 j hj with h|h
     · omega
     · rw [List.mem_singleton] at h;omega
    rw [key j hlt]
    exact .inr ⟨j,hlt,rfl⟩
 have hn0: ¬ndN F8 P8 1 (fun x=>x=(true,((1:Nat):Int))) (true,((0:Nat):Int)):=fun h=>by
  rcases hS _ h with e| ⟨j,_,e⟩
  · exact absurd e (by decide)
  · cases e
 rw [ndN_no hn0] at e0
 constructor
 · intro h
   have:=(mem_corC.1 h).2
   rw [e0] at this
   rcases hS _ this with e| ⟨j,hj,e⟩
   · cases e
   · have e:=(Prod.mk.inj e).2
     omega
 · refine mem_corC.2 ⟨by decide,?_⟩
   rw [e0]
   exact .inr ⟨rfl,2,ndA8_ris.1 2 (by simp),key 2 (by omega)⟩
theorem mem_natI {K:List Nat} {j:Nat}:((j:Nat):Int)∈natI K↔j∈K:=by
 unfold natI
 rw [List.mem_map]
 exact ⟨fun ⟨a,h,e⟩=>by have:a=j:=by omega
                        exact this▸h,fun h=> ⟨j,h,rfl⟩⟩
theorem awake8_ok:Calls Tryz.prog fathomlaw08_awake.id #[] w fun e w'=>e= .returned (.bool true)∧Grow w w':=by
 refine fathomlaw08_awake.calls ?_
 intro n1 w2 h2 n3 w4 h4 n5 w6 h6 n7 w8 h8 n9 w10 h10 n11 w12 h12
 have e11:=h12.num
 have G10:Grow w w10:=(((h2.mod.trans h4.mod).trans h6.mod).trans h8.mod).trans h10.mod
 have s10:=G10.size
 refine store_i h12.has rfl rfl fun w13 b13 m13=> ⟨_,_,_,_,cells2 b13,?_⟩
 have g13:Grow w10 w13:=h12.mod.then m13 fun j hj e=>by omega
 intro n16 w17 h17 n18 w19 h19
 have g19:Grow w10 w19:=(g13.trans h17.mod).trans h19.mod
 have v1:Vw (Value.int .i64) w10 (some ⟨n1,0,none⟩) [1,2]:=has_vw ((((h2.has.grow h4.mod).grow h6.mod).grow h8.mod).grow h10.mod) rfl
 have v3:Vw (Value.int .i64) w10 (some ⟨n3,0,none⟩) [-1,2]:=has_vw (((h4.has.grow h6.mod).grow h8.mod).grow h10.mod) rfl
 have v5:Vw (Value.int .i64) w10 (some ⟨n5,0,none⟩) [-2]:=has_vw ((h6.has.grow h8.mod).grow h10.mod) rfl
 have v7:Vw (Value.int .i64) w10 (some ⟨n7,0,none⟩) [3]:=has_vw (h8.has.grow h10.mod) rfl
 have V:V2 (Value.int .i64) w10 (some ⟨n9,0,none⟩) [⟨some ⟨n1,0,none⟩,2,2⟩,⟨some ⟨n3,0,none⟩,2,2⟩,⟨some ⟨n5,0,none⟩,1,1⟩,⟨some ⟨n7,0,none⟩,1,1⟩] F8:=by
  refine ⟨has_vw h10.has rfl,rfl,fun j hj=> ?_⟩
  match j,hj with
  |0,_=>exact ⟨rfl,by show 2≤maxLen;decide,v1⟩
  |1,_=>exact ⟨rfl,by show 2≤maxLen;decide,v3⟩
  |2,_=>exact ⟨rfl,by show 1≤maxLen;decide,v5⟩
  |3,_=>exact ⟨rfl,by show 1≤maxLen;decide,v7⟩
  |j+4,h=>exact absurd h (by unfold F8;simp)
 have S:SV w19 (some ⟨n18,0,none⟩) P8:=by
  intro i hi
  match i,hi with
  |0,_=>exact ⟨_,⟨some ⟨n16,0,none⟩,1,1⟩,rfl,⟨cell_add2 h19.has rfl,cell_add2 h19.has rfl,trivial⟩,rfl,by show 1≤maxLen;decide,has_vw (h17.has.grow h19.mod) rfl⟩
  |1,_=>exact ⟨_,⟨none,0,0⟩,rfl,⟨cell_add2 h19.has rfl,cell_add2 h19.has rfl,trivial⟩,rfl,by show 0≤maxLen;decide,Vw.nil⟩
  |i+2,h=>exact absurd h (by unfold P8;simp)
 refine (find_ok (V.grow g19) rfl (by decide) S rfl (by decide) (by decide)).mono ?_
 rintro e w20 ⟨p1,p2,c1,c2,E,A,B,rfl,hR,o1,o2,g20⟩
 obtain ⟨rfl,hA,hB⟩:E=0∧A=corC F8 P8 1∧B=corS F8 P8 1:=by
  rcases hR with ⟨h,_⟩| ⟨_,h,_⟩| ⟨_,t,ht,_,h1,h2,h3⟩
  · exact absurd (by decide) h
  · exact absurd ⟨1,end8,plain8⟩ h
  · obtain rfl:=ht.uniq end8
    exact ⟨h1,h2,h3⟩
 have hlA:A.length≤4:=by rw [hA];exact corC_len
 have hlB:B.length≤2:=by rw [hB];exact corS_len
 refine ⟨_,_,_,_,_,_,_,rfl,?_⟩
 intro n24 w25 h25
 have e24:=h25.num
 refine store_i h25.has rfl rfl fun w26 b26 m26=>cnd_t rfl ⟨_,_,_,cell_add b26 rfl,?_⟩
 have i1:=o1.lt
 have i2:=o2.lt
 have v1:=((o1.grow h25.mod).keep m26 fun j hj e=>by have:=i1 j hj;omega).vw
 have v2:=((o2.grow h25.mod).keep m26 fun j hj e=>by have:=i2 j hj;omega).vw
 have g26:Grow w20 w26:=h25.mod.then m26 fun j hj e=>by omega
 have G26:=((G10.trans g19).trans g20).trans g26
 refine (has_ok v1 (natI_len _).symm (by unfold maxLen;omega) 3).mono ?_
 rintro e w28 ⟨rfl,g28⟩
 refine ⟨_,rfl,cnd_t ?_ ⟨_,_,_,cell_add (b26.grow g28) rfl,(has_ok (v1.grow g28) (natI_len _).symm (by unfold maxLen;omega) 2).mono ?_⟩⟩
 · have h3: ¬(3:Int)∈natI A:=fun h=>cor8.1 (hA▸ (mem_natI (j:=3)).1 h)
   rw [decide_eq_false h3];rfl
 rintro e w31 ⟨rfl,g31⟩
 have g31':=g28.trans g31
 refine ⟨_,rfl,cnd_t ?_ ⟨_,_,_,cell_add (b26.grow g31') rfl,(has_ok (v2.grow g31') (natI_len _).symm (by unfold maxLen;omega) 1).mono ?_⟩⟩
 · have h3:(2:Int)∈natI A:=(mem_natI (j:=2)).2 (hA▸cor8.2)
   exact decide_eq_true h3
 rintro e w34 ⟨rfl,g34⟩
 refine ⟨_,rfl,?_,G26.trans (g31'.trans g34)⟩
 have h3:(1:Int)∈natI B:=(mem_natI (j:=1)).2 (by rw [hB];exact corS_end)
 rw [decide_eq_true h3]
theorem awk8 (g:Grow W w):Calls Tryz.prog fathomlaw08_awake.id #[] w fun e w'=> ∃r:Bool,e= .returned (.bool r)∧(Ending.returned (Value.bool r)= .returned (.bool true)∧Grow W w'):=by
 refine awake8_ok.mono ?_
 rintro e w' ⟨rfl,g'⟩
 exact ⟨true,rfl,rfl,g.trans g'⟩
theorem small8_ok {e:Nat} (hc:V2 (Value.int .i64) w p hs cs) (hn:n=cs.length) (hl:SV w q al) (hm:m=al.length):Calls Tryz.prog fathomlaw08_small.id #[.agg #[.int .i64 k,.slice p n d],.slice q m e] w fun e w'=> ∃r:Bool,e= .returned (.bool r)∧(r=true→cs.length≤40∧al.length≤20)∧Grow w w':=by
 subst hn hm
 refine fathomlaw08_small.calls ?_
 intro n1 w2 h2
 refine ⟨_,_,_,_,cells2 h2.has,(small_ok (hc.grow h2.mod) rfl).mono ?_⟩
 rintro e w5 ⟨r,rfl,h40,g5⟩
 have G5:=h2.mod.trans g5
 refine ⟨_,rfl,cnd_i (fun rs=> (light04_ok (hl.grow G5) rfl).mono ?_) (fun _=> ⟨false,rfl,fun e=> (by cases e),G5⟩)⟩
 rintro e w7 ⟨r7,rfl,g7⟩
 refine ⟨_,rfl,cnd_i (fun _=> ⟨_,rfl,fun e=> ⟨h40 (by simpa using rs),?_⟩,G5.trans g7⟩) (fun _=> ⟨false,rfl,fun e=> (by cases e),G5.trans g7⟩)⟩
 rw [decide_eq_true_eq] at e;omega
theorem may8_ok {e:Nat} (hc:V2 (Value.int .i64) w p hs cs) (hn:n=cs.length) (hl:SV w q al) (hm:m=al.length) (hm2:m≤1000):Calls Tryz.prog fathomlaw08_may.id #[.agg #[.int .i64 k,.slice p n d],.slice q m e] w fun e w'=>e= .returned (.bool (cnfB k cs && mayP al))∧Grow w w':=by
 subst hn hm
 refine fathomlaw08_may.calls ?_
 intro n1 w2 h2
 refine ⟨_,_,_,_,cells2 h2.has,(refCnf_ok (hc.grow h2.mod) rfl).mono ?_⟩
 rintro e w5 ⟨rfl,g5⟩
 have G5:=h2.mod.trans g5
 refine ⟨_,rfl,?_⟩
 cases hcn:cnfB k cs with
 |false=>exact cnd_f rfl ⟨rfl,G5⟩
 |true=>
  refine cnd_t rfl ((may04_ok (hl.grow G5) rfl hm2).mono ?_)
  rintro e w7 ⟨rfl,g7⟩
  exact ⟨_,rfl,by rw [Bool.true_and],G5.trans g7⟩
end Go.Proofs.YtenmibfmhccmiaaGreat.W
namespace Go.Proofs.YtenmibfmhccmiaaGreat.W
open Go Go.Fw Go.RowKit Go.SoP Go.LiP
variable {W w w' w0 w2 w3 u:World} {p q:Option Addr} {n m d i c t:Nat} {k:Int} {hs tl:List Sl} {cs:List (List Int)} {l L:List Int} {ss:List So} {al:List Stp} {S:Bool × Int→Prop}
def CdL (S:Bool × Int→Prop) (L:List Int):Prop:= ∀v,v∈L↔∃x,S x∧v=cdA x
theorem CdL.yes {L:List Int} (h:CdL S L) (hok: ∀x,S x→orgOk cs al t x) (h1:cs.length≤1000):(1000000+ (i:Int))∈L↔S (true,(i:Int)):=by
 rw [h]
 constructor
 · rintro ⟨x,hx,e⟩
   rcases hok x hx with ⟨a,ha,rfl⟩| ⟨a,ha,_,rfl⟩
   · unfold cdA at e;simp at e;omega
   · unfold cdA at e
     have:i=a:=by simp at e;omega
     rw [this];exact hx
 · exact fun hx=> ⟨_,hx,by unfold cdA;simp⟩
theorem CdL.no {L:List Int} (h:CdL S L) (hok: ∀x,S x→orgOk cs al t x) (hi:i<1000000):(i:Int)∈L↔S (false,(i:Int)):=by
 rw [h]
 constructor
 · rintro ⟨x,hx,e⟩
   rcases hok x hx with ⟨a,ha,rfl⟩| ⟨a,ha,_,rfl⟩
   · unfold cdA at e
     have:i=a:=by simp at e;omega
     rw [this];exact hx
   · unfold cdA at e;simp at e;omega
 · exact fun hx=> ⟨_,hx,by unfold cdA;simp⟩
theorem refFind8_ok {e:Nat} (hc:V2 (Value.int .i64) w p hs cs) (hn:n=cs.length) (hx:cs.length≤40) (hl:SV w q al) (hm:m=al.length) (hm2:m≤60) (hcl: ∀c∈cs,clB c=true) (hmy:mayP al=true)
 (ht:EndAt al t) (hpl: ∀i,i≤t→(al.getD i st0).1=true∨uB ((ahd cs al i).map (·.1)) (al.getD i st0).2):
 Calls Tryz.prog fathomref08_Find.id #[.agg #[.int .i64 k,.slice p n d],.slice q m e] w fun e w'=> ∃ (p1 p2:Option Addr) (c1 c2:Nat),e= .returned (.agg #[.slice p1 (corC cs al t).length c1,.slice p2 (corS cs al t).length c2])∧OwI ty_int w' p1 c1 (natI (corC cs al t))∧OwI ty_int w' p2 c2 (natI (corS cs al t))∧Grow w w':=by
 subst hn hm
 refine fathomref08_Find.calls ?_
 intro n1 w2 h2 n3 w4 h4
 have e1:=h2.num
 have e3:=h4.num
 have z2:=h2.mod.size
 have G4:=h2.mod.trans h4.mod
 have b4:=h2.has.grow h4.mod
 have htl:=ht.1
 refine (refEnd8_ok (hl.grow G4) rfl (by omega)).mono ?_
 rintro e5 w5 ⟨g5,⟨hno,rfl⟩| ⟨t',ht',rfl⟩⟩
 · exact absurd ht.2.1 (hno t ht.1)
 obtain rfl:=ht.uniq ht'
 have G5:=G4.trans g5
 have b5:=b4.grow g5
 have z5:=G5.size
 refine ⟨_,rfl,?_⟩
 intro n7 w8 h8
 have e7:=h8.num
 rw [wrap64_of (x:=(1000000:Int)+t) (by omega) (by omega)] at h8
 have o8:OwI ty_int w8 (some ⟨n7,0,none⟩) 1 [1000000+ (t:Int)]:=Ow.of_some h8.at (Nat.le_refl _) (by unfold maxLen;omega) rfl rfl
 refine ⟨fun P N C I u j=> ∃ (S:Bool × Int→Prop) (L:List Int),I=(j:Int) - 1∧j≤t+1∧N=L.length∧Grow w5 u∧OwI ty_int u P C L∧CdL S L∧L.length≤1+ (t+1 - j)*200∧(∀x,S x→orgOk cs al t x)∧ndS cs al j S=ndF cs al t∧∀b,blk P=some b→w5.heap.size≤b,
  ⟨t+1,fun x=>x=(true,(t:Int)),[1000000+ (t:Int)],by omega,Nat.le_refl _,rfl,h8.mod,o8,fun v=>by unfold cdA;simp,by simp,fun x hx=> .inr ⟨t,Nat.le_refl _,ht.2.1.1,hx⟩,rfl,fun b hb=>by have:=blk_some hb;omega⟩,?_⟩
 rintro P N C I u j _ ⟨S,L,rfl,hj,rfl,gu,o,hL,hLl,hok,hnd,fo⟩
 have Gu:=G5.trans gu
 refine cnd_i (fun r=> ?_) (fun r=> ?_)
 · obtain ⟨j',rfl⟩: ∃j',j=j'+1:=⟨j - 1,by rw [decide_eq_true_eq] at r;omega⟩
   have ej:((j'+1:Nat):Int) - 1=(j':Int):=by omega
   rw [ej,wrap64_of (x:=(1000000:Int)+j') (by omega) (by omega)]
   refine (has_ok o.vw rfl (by unfold maxLen;omega) _).mono ?_
   rintro e15 w15 ⟨rfl,g15⟩
   have next': ∀ {v':World} {S':Bool × Int→Prop} {L':List Int} {P':Option Addr} {C':Nat},Grow w5 v'→OwI ty_int v' P' C' L'→CdL S' L'→L'.length≤L.length+200→S'=ndN cs al j' S→(∀b,blk P'=some b→w5.heap.size≤b)→∃k71,k71<j'+1∧
    ∃ (S:Bool × Int→Prop) (L:List Int),IntKind.i64.wrap ((j':Int) - 1)=(k71:Int) - 1∧k71≤t+1∧L'.length=L.length∧Grow w5 v'∧OwI ty_int v' P' C' L∧CdL S L∧L.length≤1+ (t+1 - k71)*200∧(∀x,S x→orgOk cs al t x)∧ndS cs al k71 S=ndF cs al t∧∀b,blk P'=some b→w5.heap.size≤b:=
    fun {v' S' L' P' C'} a b c d e f=> ⟨j',by omega,S',L',wrap64_of (by omega) (by omega),by omega,rfl,a,b,c,by omega,by rw [e];exact ndN_ok (by omega) hok,by rw [e];exact hnd,f⟩
   refine ⟨_,rfl,cnd_i (fun r2=> ?_) (fun r2=> ?_)⟩
   · have r2: ¬S (true,(j':Int)):=fun e=>by
      rw [decide_eq_true ((hL.yes hok (by omega)).2 e)] at r2;cases r2
     exact next' (gu.trans g15) (o.grow g15) hL (by omega) (ndN_no r2).symm fo
   · have hS:S (true,(j':Int)):=(hL.yes hok (by omega)).1 (by simpa using r2)
     have hd:(al.getD j' st0).1=false:=by
      rcases hok _ hS with ⟨a,_,e⟩| ⟨a,_,hd,e⟩
      · cases e
      · have e:=(Prod.mk.inj e).2
        have:j'=a:=by omega
        rw [this];exact hd
     have hu:=(hpl j' (by omega)).resolve_left (by rw [hd];decide)
     have hmem:=mem_st (al:=al) (j:=j') (by omega)
     have hcl2:=mayP_all hmy _ hmem
     have hcl4:=clB_all hcl2
     have halj:=ahd_len (cs:=cs) (al:=al) (i:=j')
     have G15:=Gu.trans g15
     refine ⟨_,_,_,_,cells2 ((b5.grow gu).grow g15),(refAhead_ok (hc.grow G15) rfl (by omega) (hl.grow G15) rfl (by omega) hcl hmy (by omega)).mono ?_⟩
     rintro e19 w19 ⟨qa,da,ssa,rfl,oa,swa,g19,fa⟩
     have G19:=G15.trans g19
     have gd:=dropG w19
     refine ⟨_,_,_,rfl,Grow w19,gd,(refClauses8_ok (oa.grow gd) swa (g19.trans gd) rfl (by omega)).mono ?_⟩
     rintro e22 w22 ⟨q22,d22,ks,rfl,v22,hd22,g22⟩
     have g22:=gd.trans g22
     refine ⟨_,_,_,rfl,g22,hl.ix G19 rfl (by omega) fun a s hcA h1 h2 h3=> ⟨_,_,_,fun v g=>CellsAt.get (hcA v (G19.trans g)) 1 _ rfl,?_⟩⟩
     have hlm:((ahd cs al j').map (·.1)).length=(ahd cs al j').length:=List.length_map _
     refine (refNeeds8_ok v22 hlm.symm hd22 (by omega) (fun c hc'=>by
      obtain ⟨y,hy,rfl⟩:=List.mem_map.1 hc'
      exact (clB_all (ahd_all hcl hmy (by omega) y hy)).1) (h3.grow (G19.trans g22)) h1 (by omega) hcl4.1).mono ?_
     rw [hlm]
     rintro e26 w26 (⟨hnu,_⟩| ⟨_,q',d',rfl,v26,g26,f26⟩)
     · exact absurd hu hnu
     have eK:ndK ((ahd cs al j').map (·.1)) (al.getD j' st0).2 (ahd cs al j').length []=ndA cs al j':=rfl
     rw [eK] at v26
     have g26:=g22.trans g26
     refine ⟨_,_,_,_,rfl,?_⟩
     rw [eK]
     have hK:(ndA cs al j').length≤200:=by
      have:=ris_len (ndK_ris (cs:=(ahd cs al j').map (·.1)) (c:=(al.getD j' st0).2) (n:=(ahd cs al j').length) (by simp) (i:=(ahd cs al j').length) (K:= []) (Nat.le_refl _) ⟨fun j hj=>by simp at hj,.nil⟩).1 (Nat.zero_le _)
      rw [eK] at this;omega
     have gb:Grow u w26:=(g15.trans g19).trans g26
     have z15:=g15.size
     have z19:=g19.size
     have z22:=g22.size
     have z26:=gb.size
     have zu:=gu.size
     have fq: ∀b,blk q'=some b→¬b<u.heap.size:=fun b hb e=>by have:=f26 b hb;omega
     have fqa: ∀b,blk qa=some b→¬b<u.heap.size:=fun b hb e=>by have:=fa b hb;omega
     have oa26:=oa.grow g26
     have hoP:=o.lt
     refine ⟨fun P' N' C' V v' z=> ∃ (x:Nat) (L':List Int),V=x∧x≤(ndA cs al j').length∧z=(ndA cs al j').length - x∧N'=L'.length∧L'.length≤L.length+x∧Mod (fun b=>b<u.heap.size∧w5.heap.size≤b) w26 v'∧OwI ty_int v' P' C' L'∧CdL (fun y=>S y∨∃jj∈(ndA cs al j').take x,((ahd cs al j').getD jj sr0).2=y) L'∧∀b,blk P'=some b→w5.heap.size≤b∧(b<u.heap.size∨w26.heap.size≤b),
      ⟨_,0,L,rfl,Nat.zero_le _,rfl,rfl,Nat.le_refl _,Mod.refl _,o.grow gb,fun v=>by rw [hL];simp,fun b hb=> ⟨fo b hb,.inl (hoP b hb)⟩⟩,?_⟩
     rintro P' N' C' V v' z _ ⟨x,L',rfl,hx',rfl,rfl,hLl',m',o',hL',fo'⟩
     have gg:Grow w5 v':=(gu.trans gb).then m' fun b hb e=>by omega
     have z':=m'.size
     refine cnd_i (fun r3=> ?_) (fun r3=> ?_)
     · have r3:x< (ndA cs al j').length:=by simpa using r3
       refine (v26.keep m' fun b hb e=>fq b hb e.1).ix 0 (by omega) (natI_len _).symm (by omega) fun a ha=> ⟨_,ha,?_⟩
       rw [Int.toNat_natCast,show (natI (ndA cs al j')).getD x 0=(((ndA cs al j').getD x 0:Nat):Int) from nat_map_get]
       have hin:(ndA cs al j').getD x 0∈ndA cs al j':=by simp [List.getD,r3]
       have hlt:=ndA_lt hin
       refine swa.ix2 (oa26.keep m' fun b hb e=>fqa b hb e.1) rfl hlt fun a2 s2 hcA2 _ _ _=> ⟨_,CellsAt.get hcA2 1 _ rfl,?_⟩
       intro n39 w40 h40
       have e39:=h40.num
       refine Ow.app1 sl_int (o'.grow h40.mod) (cdA ((ahd cs al j').getD ((ndA cs al j').getD x 0) sr0).2) h40.has rfl rfl (fun _=>rfl) (by omega) fun w41 p41 c41 o41 m41 hp41 hz41=> ?_
       have z40:=h40.mod.size
       have hol:=o'.lt
       refine ⟨_,by omega,x+1,_,wN (by omega) (by omega),r3,rfl,by simp,by simp;omega,(m'.then h40.mod fun _ _ h=>h.elim).then m41 fun b hb e=> ?_,o41,fun v=> ?_,fun b hb=> ?_⟩
       · have:=fo' b e;omega
       · rw [List.mem_append,List.mem_singleton,hL' v,take_snoc r3 0]
         constructor
         · rintro (⟨y,hy,e⟩|rfl)
           · exact ⟨y,hy.imp id fun ⟨jj,h1,h2⟩=> ⟨jj,List.mem_append_left _ h1,h2⟩,e⟩
           · exact ⟨_,.inr ⟨_,List.mem_append_right _ (List.mem_singleton.2 rfl),rfl⟩,rfl⟩
         · rintro ⟨y,h| ⟨jj,h1,h2⟩,e⟩
           · exact .inl ⟨y,.inl h,e⟩
           · rcases List.mem_append.1 h1 with h1|h1
             · exact .inl ⟨y,.inr ⟨jj,h1,h2⟩,e⟩
             · rw [List.mem_singleton] at h1
               rw [h1] at h2
               exact .inr (by rw [e,h2])
       · rcases hp41 with rfl|rfl
         · exact fo' b hb
         · have:=blk_some hb;omega
     · have r3:x=(ndA cs al j').length:=by simp at r3;omega
       subst r3
       rw [List.take_length] at hL'
       exact next' gg o' hL' (by omega) (by
        funext y
        exact propext ⟨fun h=>h.imp id fun h=> ⟨hS,h⟩,fun h=>h.imp id fun h=>h.2⟩) fun b hb=> (fo' b hb).1
 · have hj0:j=0:=by rw [decide_eq_false_iff_not] at r;omega
   subst hj0
   have hnd:S=ndF cs al t:=hnd
   subst hnd
   intro n43 w44 h44
   have e43:=h44.num
   refine store_i h44.has rfl rfl fun w45 b45 m45=> ?_
   have g45:Grow u w45:=h44.mod.then m45 fun b hb e=>by omega
   have o45:=o.grow g45
   have z45:=g45.size
   have zu:=gu.size
   have i45:=b45.lt
   have b1:Has w45 n1 _:=(b5.grow gu).grow g45
   have i1:=b5.lt
   have b3:Has w45 n3 _:=((h4.has.grow g5).grow gu).grow g45
   have i3:=(h4.has.grow g5).lt
   have hoP:=o45.lt
   obtain ⟨s,hs,eC,eS⟩: ∃s:Bool × Int→Bool,(∀x,s x=true↔ndF cs al t x)∧corC cs al t=((List.range cs.length).filter fun i:Nat=>s (false,(i:Int)))∧corS cs al t=((List.range (t+1)).filter fun i:Nat=>s (true,(i:Int))):=
    ⟨fun x=> @decide (ndF cs al t x) (Classical.propDecidable _),fun x=> @decide_eq_true_iff _ (Classical.propDecidable _),rfl,rfl⟩
   rw [eC,eS]
   refine ⟨fun V y z=> ∃ (x:Nat) (P':Option Addr) (C':Nat),V=x∧x≤cs.length∧z=cs.length - x∧Mod (·=n43) w45 y∧Has y n43 #[.slice P' ((List.range x).filter fun i:Nat=>s (false,(i:Int))).length C',.slice none 0 0]∧OwI ty_int y P' C' (natI ((List.range x).filter fun i:Nat=>s (false,(i:Int))))∧∀b,blk P'=some b→w45.heap.size≤b,
    ⟨_,0,none,0,rfl,Nat.zero_le _,rfl,Mod.refl _,b45,Ow.nil _ _ _,fun b hb=>by simp [blk] at hb⟩,?_⟩
   rintro V y z _ ⟨x,P',C',rfl,hxl,rfl,my,by',oy,fy⟩
   have zy:=my.size
   have by1:Has y n1 _:=b1.keep my (by omega)
   have oy0:=o45.keep my fun b hb e=>by have:=hoP b hb;have:=o.lt b hb;omega
   refine ⟨_,_,_,cell_add by1 rfl,cnd_i (fun r3=> ?_) (fun r3=> ?_)⟩
   · have r3:x<cs.length:=by simpa using r3
     refine (has_ok oy0.vw rfl (by unfold maxLen;omega) _).mono ?_
     rintro e52 w52 ⟨rfl,g52⟩
     refine ⟨_,rfl,cnd_i (fun r4=> ?_) (fun r4=> ?_)⟩
     · have r4:s (false,(x:Int))=true:=(hs _).2 ((hL.no hok (by omega)).1 (by simpa using r4))
       have eF:(List.range (x+1)).filter (fun i:Nat=>s (false,(i:Int)))=(List.range x).filter (fun i:Nat=>s (false,(i:Int)))++ [x]:=filt_pos r4
       refine ⟨_,_,_,cell_add (by'.grow g52) rfl,?_⟩
       intro n113 w114 h114
       have e113:=h114.num
       have hll:=List.length_filter_le (fun i:Nat=>s (false,(i:Int))) (List.range x)
       rw [List.length_range] at hll
       have g114:=g52.trans h114.mod
       refine Ow.app1 sl_int (oy.grow g114) (x:Int) h114.has rfl (natI_len _).symm (fun _=>rfl) (by rw [natI_len];omega) fun w115 p' c' o115 m115 hp' hz'=> ?_
       have b115:Has w115 n43 _:=(by'.grow g114).keep m115 fun e=>by have:=fy _ e;omega
       refine store_f b115 rfl rfl fun w117 b117 m117=> ?_
       have fp': ∀j,blk p'=some j→w45.heap.size≤j:=fun j hj=>by
        have:=g114.size
        rcases hp' with rfl|rfl
        · exact fy j hj
        · have:=blk_some hj;omega
       refine ⟨_,by omega,x+1,p',c',wN (by omega) (by omega),r3,rfl,?_,?_,?_,fp'⟩
       · exact ((my.then g114 fun _ _ h=>h.elim).then m115 fun j hj e=>by have:=fy j e;omega).trans m117
       · rw [eF,List.length_append,List.length_singleton,← natI_len];exact b117
       · rw [eF]
         have:=o115.keep m117 fun j hj e=>by have:=fp' j hj;omega
         unfold natI at this ⊢
         rw [List.map_append];exact this
     · have r4: ¬s (false,(x:Int))=true:=fun e=>by
        rw [decide_eq_true ((hL.no hok (by omega)).2 ((hs _).1 e))] at r4;cases r4
       have eF:(List.range (x+1)).filter (fun i:Nat=>s (false,(i:Int)))=(List.range x).filter (fun i:Nat=>s (false,(i:Int))):=filt_neg r4
       exact ⟨_,by omega,x+1,P',C',wN (by omega) (by omega),r3,rfl,my.then g52 fun _ _ h=>h.elim,by rw [eF];exact by'.grow g52,by rw [eF];exact oy.grow g52,fy⟩
   · have r3:x=cs.length:=by simp at r3;omega
     subst r3
     refine ⟨fun V v2 z=> ∃ (x:Nat) (P2:Option Addr) (C2:Nat),V=x∧x≤t+1∧z=t+1 - x∧Mod (·=n43) w45 v2∧Has v2 n43 #[.slice P' ((List.range cs.length).filter fun i:Nat=>s (false,(i:Int))).length C',.slice P2 ((List.range x).filter fun i:Nat=>s (true,(i:Int))).length C2]∧
      OwI ty_int v2 P' C' (natI ((List.range cs.length).filter fun i:Nat=>s (false,(i:Int))))∧OwI ty_int v2 P2 C2 (natI ((List.range x).filter fun i:Nat=>s (true,(i:Int))))∧∀j,blk P2=some j→w45.heap.size≤j∧blk P'≠some j,
      ⟨_,0,none,0,rfl,Nat.zero_le _,rfl,my,by',oy,Ow.nil _ _ _,fun j hj=>by simp [blk] at hj⟩,?_⟩
     rintro V v2 z _ ⟨x,P2,C2,rfl,hx2,rfl,mv,bv,ov1,ov2,fv⟩
     have zv2:=mv.size
     have ov0:=o45.keep mv fun b hb e=>by have:=hoP b hb;have:=o.lt b hb;omega
     refine cnd_i (fun r3=> ?_) (fun r3=> ?_)
     · have r3:x<t+1:=by rw [decide_eq_true_eq] at r3;omega
       rw [wrap64_of (x:=(1000000:Int)+x) (by omega) (by omega)]
       refine (has_ok ov0.vw rfl (by unfold maxLen;omega) _).mono ?_
       rintro e65 w65 ⟨rfl,g65⟩
       refine ⟨_,rfl,cnd_i (fun r4=> ?_) (fun r4=> ?_)⟩
       · have r4:s (true,(x:Int))=true:=(hs _).2 ((hL.yes hok (by omega)).1 (by simpa using r4))
         have eF:(List.range (x+1)).filter (fun i:Nat=>s (true,(i:Int)))=(List.range x).filter (fun i:Nat=>s (true,(i:Int)))++ [x]:=filt_pos r4
         refine ⟨_,_,_,cell_add (bv.grow g65) rfl,?_⟩
         intro n126 w127 h127
         have e126:=h127.num
         have hll:=List.length_filter_le (fun i:Nat=>s (true,(i:Int))) (List.range x)
         rw [List.length_range] at hll
         have g127:=g65.trans h127.mod
         refine Ow.app1 sl_int (ov2.grow g127) (x:Int) h127.has rfl (natI_len _).symm (fun _=>rfl) (by rw [natI_len];omega) fun w128 p' c' o128 m128 hp' hz'=> ?_
         have b128:Has w128 n43 _:=(bv.grow g127).keep m128 fun e=>by have:=(fv _ e).1;omega
         have z127:=g127.size
         have hPlt:=ov1.lt
         refine store_f b128 rfl rfl fun w130 b130 m130=> ?_
         have fp': ∀j,blk p'=some j→w45.heap.size≤j∧blk P'≠some j:=fun j hj=>by
          rcases hp' with rfl|rfl
          · exact fv j hj
          · have:=blk_some hj;exact ⟨by omega,fun e=>by have:=hPlt j e;omega⟩
         refine ⟨_,by omega,x+1,p',c',wN (by omega) (by omega),r3,rfl,?_,?_,?_,?_,fp'⟩
         · exact ((mv.then g127 fun _ _ h=>h.elim).then m128 fun j hj e=>by have:=(fv j e).1;omega).trans m130
         · rw [eF,List.length_append,List.length_singleton,← natI_len ((List.range x).filter fun i:Nat=>s (true,(i:Int)))];exact b130
         · exact ((ov1.grow g127).keep m128 fun j hj e=> (fv j e).2 hj).keep m130 fun j hj e=>by have:=fy j hj;omega
         · rw [eF]
           have:=o128.keep m130 fun j hj e=>by have:=(fp' j hj).1;omega
           unfold natI at this ⊢
           rw [List.map_append];exact this
       · have r4: ¬s (true,(x:Int))=true:=fun e=>by
          rw [decide_eq_true ((hL.yes hok (by omega)).2 ((hs _).1 e))] at r4;cases r4
         have eF:(List.range (x+1)).filter (fun i:Nat=>s (true,(i:Int)))=(List.range x).filter (fun i:Nat=>s (true,(i:Int))):=filt_neg r4
         exact ⟨_,by omega,x+1,P2,C2,wN (by omega) (by omega),r3,rfl,mv.then g65 fun _ _ h=>h.elim,by rw [eF];exact bv.grow g65,ov1.grow g65,by rw [eF];exact ov2.grow g65,fv⟩
     · have r3:x=t+1:=by rw [decide_eq_false_iff_not] at r3;omega
       subst r3
       refine ⟨_,_,_,_,_,_,cells2 bv,?_⟩
       have gv2:Grow w5 v2:=(gu.trans g45).then mv fun j hj e=>by omega
       have b3':Has v2 n3 _:=b3.keep mv (by omega)
       exact store_i b3' rfl rfl fun w75 b75 m75=> ⟨_,_,_,_,_,_,cells2 b75,P',P2,C',C2,rfl,ov1.keep m75 fun j hj e=>by have:=fy j hj;omega,ov2.keep m75 fun j hj e=>by have:=(fv j hj).1;omega,(G5.trans gv2).then m75 fun j hj e=>by omega⟩
theorem DratFinds_calls {e:Nat} (hc:V2 (Value.int .i64) w p hs cs) (hn:n=cs.length) (hl:SV w q al) (hm:m=al.length) (hme:m≤e):
 Calls Tryz.prog fathomlaw08_DratFinds.id #[.agg #[.int .i64 k,.slice p n d],.slice q m e] w fun e w'=>e= .returned (.bool true)∧Grow w w':=by
 subst hn hm
 refine fathomlaw08_DratFinds.calls ?_
 intro n1 w2 h2
 refine ⟨_,_,_,_,cells2 h2.has,(small8_ok (hc.grow h2.mod) rfl (hl.grow h2.mod) rfl).mono ?_⟩
 rintro e5 w5 ⟨r,rfl,hsm,g5⟩
 have G5:=h2.mod.trans g5
 have b5:=h2.has.grow g5
 refine ⟨_,rfl,cnd_i (fun _=>awk8 G5) (fun rs=> ?_)⟩
 obtain ⟨h40,h20⟩:=hsm (by simpa using rs)
 refine ⟨_,_,_,cell_add b5 rfl,cnd_i (fun _=>awk8 G5) (fun _=>cnd_i (fun _=>awk8 G5) (fun _=> ?_))⟩
 refine ⟨_,_,_,_,cells2 b5,(find_ok (hc.grow G5) rfl h40 (hl.grow G5) rfl (by omega) hme).mono ?_⟩
 rintro e16 w16 ⟨p1,p2,c1,c2,E,A,B,rfl,hR,o1,o2,g16⟩
 have G16:=G5.trans g16
 have b16:=b5.grow g16
 refine ⟨_,_,_,_,_,_,_,rfl,?_⟩
 intro n20 w21 h21
 have e20:=h21.num
 refine store_i h21.has rfl rfl fun w22 b22 m22=> ?_
 have g22:Grow w16 w22:=h21.mod.then m22 fun j hj e=>by omega
 have G22:=G16.trans g22
 have b1:=b16.grow g22
 have i1:=o1.lt
 have i2:=o2.lt
 have v1:=((o1.grow h21.mod).keep m22 fun j hj e=>by have:=i1 j hj;omega).vw
 have v2:=((o2.grow h21.mod).keep m22 fun j hj e=>by have:=i2 j hj;omega).vw
 rcases hR with ⟨h,rfl,rfl,rfl⟩| ⟨h,hnp,rfl,rfl,rfl⟩| ⟨h,t,ht,hpl,rfl,hA,hB⟩
 · refine cnd_t rfl ⟨_,_,_,cell_add b22 rfl,cnd_f rfl ⟨_,_,_,cell_add b22 rfl,cnd_f rfl ⟨_,_,_,_,cells2 b1,(may8_ok (hc.grow G22) rfl (hl.grow G22) rfl (by omega)).mono ?_⟩⟩⟩
   rintro e27 w27 ⟨rfl,g27⟩
   have:(cnfB k cs && mayP al)=false:=by rw [← Bool.not_eq_true,Bool.and_eq_true];exact h
   rw [this]
   exact ⟨_,rfl,cnd_t rfl (cnd_t rfl (awk8 (G22.trans g27)))⟩
 · refine cnd_t rfl ⟨_,_,_,cell_add b22 rfl,cnd_f rfl ⟨_,_,_,cell_add b22 rfl,cnd_f rfl ⟨_,_,_,_,cells2 b1,(may8_ok (hc.grow G22) rfl (hl.grow G22) rfl (by omega)).mono ?_⟩⟩⟩
   rintro e27 w27 ⟨rfl,g27⟩
   rw [h.1,h.2]
   have G27:=G22.trans g27
   refine ⟨_,rfl,cnd_f rfl ⟨_,_,_,_,cells2 (b1.grow g27),(refPlain8_ok (hc.grow G27) rfl h40 (hl.grow G27) rfl (by omega) (cnf_cl h.1) h.2).mono ?_⟩⟩
   rintro e33 w33 ⟨r33,rfl,hr,g33⟩
   have:r33=false:=by rw [← Bool.not_eq_true];exact fun e=>hnp (hr.1 e)
   subst this
   exact ⟨_,rfl,cnd_t rfl (cnd_t rfl (awk8 (G27.trans g33)))⟩
 · refine cnd_f rfl ⟨_,_,_,_,cells2 b1,(may8_ok (hc.grow G22) rfl (hl.grow G22) rfl (by omega)).mono ?_⟩
   rintro e27 w57 ⟨rfl,g57⟩
   rw [h.1,h.2]
   have G57:=G22.trans g57
   refine ⟨_,rfl,cnd_f rfl ⟨_,_,_,_,cells2 (b1.grow g57),(refPlain8_ok (hc.grow G57) rfl h40 (hl.grow G57) rfl (by omega) (cnf_cl h.1) h.2).mono ?_⟩⟩
   rintro e33 w63 ⟨r33,rfl,hr,g63⟩
   have:r33=true:=hr.2 ⟨t,ht,hpl⟩
   subst this
   have G63:=G57.trans g63
   have b63:=(b1.grow g57).grow g63
   refine ⟨_,rfl,cnd_f rfl ⟨_,_,_,_,cells2 b63,(refFind8_ok (hc.grow G63) rfl h40 (hl.grow G63) rfl (by omega) (cnf_cl h.1) h.2 ht hpl).mono ?_⟩⟩
   rintro e69 w69 ⟨r1,r2,d1,d2,rfl,u1,u2,g69⟩
   refine ⟨_,_,_,_,_,_,rfl,?_⟩
   intro n72 w73 h73
   have e72:=h73.num
   refine store_i h73.has rfl rfl fun w74 b74 m74=>cnd_t rfl ?_
   have g74:Grow w69 w74:=h73.mod.then m74 fun j hj e=>by omega
   have j1:=u1.lt
   have j2:=u2.lt
   have y1:=((u1.grow h73.mod).keep m74 fun j hj e=>by have:=j1 j hj;omega).vw
   have y2:=((u2.grow h73.mod).keep m74 fun j hj e=>by have:=j2 j hj;omega).vw
   have gg:=((g57.trans g63).trans g69).trans g74
   have hlA:(corC cs al t).length≤40:=Nat.le_trans corC_len h40
   have hlB:(corS cs al t).length≤60:=Nat.le_trans corS_len (by have:=ht.1;omega)
   refine ⟨_,_,_,cell_add (b22.grow gg) rfl,_,_,_,cell_add b74 rfl,(refInts_ok (v1.grow gg) y1 (natI_len _).symm (natI_len _).symm (by rw [hA];unfold maxLen;omega)).mono ?_⟩
   rintro e77 w77 ⟨rfl,g77⟩
   have gg2:=gg.trans g77
   refine ⟨_,rfl,cnd_t (by rw [hA];simp) ⟨_,_,_,cell_add (b22.grow gg2) rfl,_,_,_,cell_add (b74.grow g77) rfl,(refInts_ok (v2.grow gg2) (y2.grow g77) (natI_len _).symm (natI_len _).symm (by rw [hB];unfold maxLen;omega)).mono ?_⟩⟩
   rintro e81 w81 ⟨rfl,g81⟩
   exact ⟨_,rfl,cnd_t (by rw [hB];simp) (awk8 (G22.trans (gg2.trans g81)))⟩
end Go.Proofs.YtenmibfmhccmiaaGreat.W
