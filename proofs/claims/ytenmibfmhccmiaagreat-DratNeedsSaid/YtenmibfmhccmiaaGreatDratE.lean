/- Layer 8: the laws of plain proofs, and of which clauses one is at hand. -/
import Derived.Test.YtenmibfmhccmiaaGreatDratD
import Derived.Test.YtenmibfmhccmiaaGreatRupF
set_option linter.unusedVariables false
set_option linter.unusedSimpArgs false
namespace Go.Proofs.YtenmibfmhccmiaaGreat.W
open Go Go.Fw Go.RowKit Go.SoP Go.LiP
variable {W w w' w0 w2 w3 u:World} {p q:Option Addr} {n m d i c:Nat} {k:Int} {hs tl:List Sl} {cs:List (List Int)} {l:List Int} {ss:List So} {al:List Stp}
def F8:List (List Int):= [[1,2],[-1,2],[-2],[3]]
def P8:List Stp:= [(false,[2]),(false,[])]
theorem F8_two:uB F8 [2]:= .inr ⟨[-2,1],.step (t:= [-2]) (c:= [1,2]) .refl (by decide) (by decide),[-1,2],by decide,by decide⟩
theorem ahd8_0:(ahd F8 P8 0).map (·.1)=F8:=rfl
theorem ahd8_1:(ahd F8 P8 1).map (·.1)=F8++ [[2]]:=rfl
theorem F8_end:uB (F8++ [[2]]) []:= .inr ⟨[2],.step (t:= []) (c:= [2]) .refl (by decide) (by decide),[-2],by decide,by decide⟩
theorem end8:EndAt P8 1:=⟨by decide,⟨rfl,rfl⟩,fun j hj=>by
 have:j=0:=by omega
 subst this
 unfold isEnd
 decide⟩
theorem plain8: ∀i,i≤1→(P8.getD i st0).1=true∨uB ((ahd F8 P8 i).map (·.1)) (P8.getD i st0).2:=by
 intro i hi
 match i,hi with
 |0,_=>exact .inr (by rw [ahd8_0];exact F8_two)
 |1,_=>exact .inr (by rw [ahd8_1];exact F8_end)
theorem nd8_4:uB ((F8++ [[2]]).take 4++ ([]:List Nat).map fun j=> (F8++ [[2]]).getD j []) []:=
 .inr ⟨[-2,1],.step (t:= [-2]) (c:= [1,2]) (.step (t:= []) (c:= [-2]) .refl (by decide) (by decide)) (by decide) (by decide),[-1,2],by decide,by decide⟩
theorem nd8_3:uB ((F8++ [[2]]).take 3++ ([]:List Nat).map fun j=> (F8++ [[2]]).getD j []) []:=
 .inr ⟨[-2,1],.step (t:= [-2]) (c:= [1,2]) (.step (t:= []) (c:= [-2]) .refl (by decide) (by decide)) (by decide) (by decide),[-1,2],by decide,by decide⟩
theorem nd8_2: ¬uB ((F8++ [[2]]).take 2++ ([]:List Nat).map fun j=> (F8++ [[2]]).getD j []) []:=not_uB (T:= []) (by unfold NZ;decide) (by decide) .refl (by unfold End;decide)
theorem ndA8:ndA F8 P8 1=ndK (F8++ [[2]]) [] 2 [2]:=by
 have:ndA F8 P8 1=ndK (F8++ [[2]]) [] 5 []:=rfl
 rw [this,ndK_in nd8_4,ndK_in nd8_3,ndK_out nd8_2]
theorem ndA8_ris:(∀j∈[2],j∈ndA F8 P8 1)∧∀j∈ndA F8 P8 1,j<2∨j∈[2]:=by
 rw [ndA8]
 exact (ndK_ris (n:=5) rfl (i:=2) (K:= [2]) (by decide) ⟨by decide,by decide⟩).2
theorem cor8:3 ∉ corC F8 P8 1∧2∈corC F8 P8 1:=by
 have key: ∀j:Nat,j<3→((ahd F8 P8 1).getD j sr0).2=(false,(j:Int)):=fun j hj=>by
  match j,hj with
  |0,_=>rfl
  |1,_=>rfl
  |2,_=>rfl
 have e0:ndF F8 P8 1=ndN F8 P8 0 (ndN F8 P8 1 fun x=>x=(true,((1:Nat):Int))):=rfl
 have hS: ∀x,ndN F8 P8 1 (fun x=>x=(true,((1:Nat):Int))) x→x=(true,1)∨∃j:Nat,j<3∧x=(false,(j:Int)):=by
  rintro x (h| ⟨_,j,hj,rfl⟩)
  · exact .inl h
  · have hlt:j<3:=by
     rcases ndA8_ris.2 j hj with h|h
     · omega
     · rw [List.mem_singleton] at h;omega
    rw [key j hlt]
    exact .inr ⟨j,hlt,rfl⟩
 have hn0: ¬ndN F8 P8 1 (fun x=>x=(true,((1:Nat):Int))) (true,((0:Nat):Int)):=fun h=>by
  rcases hS _ h with e| ⟨j,_,e⟩
  · exact absurd e (by decide)
  · cases e
 rw [ndN_no hn0] at e0
 constructor
 · intro h
   have:=(mem_corC.1 h).2
   rw [e0] at this
   rcases hS _ this with e| ⟨j,hj,e⟩
   · cases e
   · have e:=(Prod.mk.inj e).2
     omega
 · refine mem_corC.2 ⟨by decide,?_⟩
   rw [e0]
   exact .inr ⟨rfl,2,ndA8_ris.1 2 (by simp),key 2 (by omega)⟩
theorem mem_natI {K:List Nat} {j:Nat}:((j:Nat):Int)∈natI K↔j∈K:=by
 unfold natI
 rw [List.mem_map]
 exact ⟨fun ⟨a,h,e⟩=>by have:a=j:=by omega
                        exact this▸h,fun h=> ⟨j,h,rfl⟩⟩
theorem awake8_ok:Calls Tryz.prog fathomlaw08_awake.id #[] w fun e w'=>e= .returned (.bool true)∧Grow w w':=by
 refine fathomlaw08_awake.calls ?_
 intro n1 w2 h2 n3 w4 h4 n5 w6 h6 n7 w8 h8 n9 w10 h10 n11 w12 h12
 have e11:=h12.num
 have G10:Grow w w10:=(((h2.mod.trans h4.mod).trans h6.mod).trans h8.mod).trans h10.mod
 have s10:=G10.size
 refine store_i h12.has rfl rfl fun w13 b13 m13=> ⟨_,_,_,_,cells2 b13,?_⟩
 have g13:Grow w10 w13:=h12.mod.then m13 fun j hj e=>by omega
 intro n16 w17 h17 n18 w19 h19
 have g19:Grow w10 w19:=(g13.trans h17.mod).trans h19.mod
 have v1:Vw (Value.int .i64) w10 (some ⟨n1,0,none⟩) [1,2]:=has_vw ((((h2.has.grow h4.mod).grow h6.mod).grow h8.mod).grow h10.mod) rfl
 have v3:Vw (Value.int .i64) w10 (some ⟨n3,0,none⟩) [-1,2]:=has_vw (((h4.has.grow h6.mod).grow h8.mod).grow h10.mod) rfl
 have v5:Vw (Value.int .i64) w10 (some ⟨n5,0,none⟩) [-2]:=has_vw ((h6.has.grow h8.mod).grow h10.mod) rfl
 have v7:Vw (Value.int .i64) w10 (some ⟨n7,0,none⟩) [3]:=has_vw (h8.has.grow h10.mod) rfl
 have V:V2 (Value.int .i64) w10 (some ⟨n9,0,none⟩) [⟨some ⟨n1,0,none⟩,2,2⟩,⟨some ⟨n3,0,none⟩,2,2⟩,⟨some ⟨n5,0,none⟩,1,1⟩,⟨some ⟨n7,0,none⟩,1,1⟩] F8:=by
  refine ⟨has_vw h10.has rfl,rfl,fun j hj=> ?_⟩
  match j,hj with
  |0,_=>exact ⟨rfl,by show 2≤maxLen;decide,v1⟩
  |1,_=>exact ⟨rfl,by show 2≤maxLen;decide,v3⟩
  |2,_=>exact ⟨rfl,by show 1≤maxLen;decide,v5⟩
  |3,_=>exact ⟨rfl,by show 1≤maxLen;decide,v7⟩
  |j+4,h=>exact absurd h (by unfold F8;simp)
 have S:SV w19 (some ⟨n18,0,none⟩) P8:=by
  intro i hi
  match i,hi with
  |0,_=>exact ⟨_,⟨some ⟨n16,0,none⟩,1,1⟩,rfl,⟨cell_add2 h19.has rfl,cell_add2 h19.has rfl,trivial⟩,rfl,by show 1≤maxLen;decide,has_vw (h17.has.grow h19.mod) rfl⟩
  |1,_=>exact ⟨_,⟨none,0,0⟩,rfl,⟨cell_add2 h19.has rfl,cell_add2 h19.has rfl,trivial⟩,rfl,by show 0≤maxLen;decide,Vw.nil⟩
  |i+2,h=>exact absurd h (by unfold P8;simp)
 refine (find_ok (V.grow g19) rfl (by decide) S rfl (by decide) (by decide)).mono ?_
 rintro e w20 ⟨p1,p2,c1,c2,E,A,B,rfl,hR,o1,o2,g20⟩
 obtain ⟨rfl,hA,hB⟩:E=0∧A=corC F8 P8 1∧B=corS F8 P8 1:=by
  rcases hR with ⟨h,_⟩| ⟨_,h,_⟩| ⟨_,t,ht,_,h1,h2,h3⟩
  · exact absurd (by decide) h
  · exact absurd ⟨1,end8,plain8⟩ h
  · obtain rfl:=ht.uniq end8
    exact ⟨h1,h2,h3⟩
 have hlA:A.length≤4:=by rw [hA];exact corC_len
 have hlB:B.length≤2:=by rw [hB];exact corS_len
 refine ⟨_,_,_,_,_,_,_,rfl,?_⟩
 intro n24 w25 h25
 have e24:=h25.num
 refine store_i h25.has rfl rfl fun w26 b26 m26=>cnd_t rfl ⟨_,_,_,cell_add b26 rfl,?_⟩
 have i1:=o1.lt
 have i2:=o2.lt
 have v1:=((o1.grow h25.mod).keep m26 fun j hj e=>by have:=i1 j hj;omega).vw
 have v2:=((o2.grow h25.mod).keep m26 fun j hj e=>by have:=i2 j hj;omega).vw
 have g26:Grow w20 w26:=h25.mod.then m26 fun j hj e=>by omega
 have G26:=((G10.trans g19).trans g20).trans g26
 refine (has_ok v1 (natI_len _).symm (by unfold maxLen;omega) 3).mono ?_
 rintro e w28 ⟨rfl,g28⟩
 refine ⟨_,rfl,cnd_t ?_ ⟨_,_,_,cell_add (b26.grow g28) rfl,(has_ok (v1.grow g28) (natI_len _).symm (by unfold maxLen;omega) 2).mono ?_⟩⟩
 · have h3: ¬(3:Int)∈natI A:=fun h=>cor8.1 (hA▸ (mem_natI (j:=3)).1 h)
   rw [decide_eq_false h3];rfl
 rintro e w31 ⟨rfl,g31⟩
 have g31':=g28.trans g31
 refine ⟨_,rfl,cnd_t ?_ ⟨_,_,_,cell_add (b26.grow g31') rfl,(has_ok (v2.grow g31') (natI_len _).symm (by unfold maxLen;omega) 1).mono ?_⟩⟩
 · have h3:(2:Int)∈natI A:=(mem_natI (j:=2)).2 (hA▸cor8.2)
   exact decide_eq_true h3
 rintro e w34 ⟨rfl,g34⟩
 refine ⟨_,rfl,?_,G26.trans (g31'.trans g34)⟩
 have h3:(1:Int)∈natI B:=(mem_natI (j:=1)).2 (by rw [hB];exact corS_end)
 rw [decide_eq_true h3]
theorem awk8 (g:Grow W w):Calls Tryz.prog fathomlaw08_awake.id #[] w fun e w'=> ∃r:Bool,e= .returned (.bool r)∧(Ending.returned (Value.bool r)= .returned (.bool true)∧Grow W w'):=by
 refine awake8_ok.mono ?_
 rintro e w' ⟨rfl,g'⟩
 exact ⟨true,rfl,rfl,g.trans g'⟩
theorem DratNeeds_calls {e:Nat} (hc:V2 (Value.int .i64) w p hs cs) (hn:n=cs.length) (hd:n≤d) (hl:Vw (Value.int .i64) w q l) (hm:m=l.length) (hm2:m≤maxLen):
 Calls Tryz.prog fathomlaw08_DratNeeds.id #[.agg #[.int .i64 k,.slice p n d],.slice q m e] w fun e w'=>e= .returned (.bool true)∧Grow w w':=by
 subst hn hm
 refine fathomlaw08_DratNeeds.calls ?_
 intro n1 w2 h2
 refine ⟨_,_,_,_,cells2 h2.has,(small_ok (hc.grow h2.mod) rfl).mono ?_⟩
 rintro e5 w5 ⟨r,rfl,h40,g5⟩
 have G5:=h2.mod.trans g5
 have b5:=h2.has.grow g5
 refine ⟨_,rfl,cnd_i (fun _=>awk8 G5) (fun rs=> ⟨_,_,_,cell_add b5 rfl,cnd_i (fun _=>awk8 G5) (fun r15=>cnd_i (fun _=>awk8 G5) (fun r60=> ?_))⟩)⟩
 have h15:cs.length≤15:=by rw [decide_eq_false_iff_not] at r15;omega
 have h60:l.length≤60:=by rw [decide_eq_false_iff_not] at r60;omega
 refine ⟨_,_,_,_,cells2 b5,(Needs_ok (hc.grow G5) rfl (hl.grow G5) rfl hm2 (by omega)).mono ?_⟩
 rintro e16 w16 hN
 obtain ⟨q1,c1,K,b,rfl,o1,g16,hb,hK⟩: ∃ (q1:Option Addr) (c1:Nat) (K:List Nat) (b:Bool),e16= .returned (.tuple #[.slice q1 K.length c1,.bool b])∧OwI ty_int w16 q1 c1 (natI K)∧Grow w5 w16∧(b=true↔cnfB k cs=true∧clB l=true∧uB cs l)∧K=if b=true then ndK cs l cs.length [] else []:=by
  rcases hN with ⟨h,rfl,g⟩| ⟨h,q',d',rfl,o,g⟩
  · exact ⟨none,0,[],false,rfl,Ow.nil _ _ _,g,⟨fun e=> (by cases e),fun e=>absurd e h⟩,rfl⟩
  · exact ⟨q',d',_,true,rfl,o,g,⟨fun _=>h,fun _=>rfl⟩,rfl⟩
 have G16:=G5.trans g16
 have b16:=b5.grow g16
 refine ⟨_,_,_,_,rfl,_,_,_,_,cells2 b16,(refCnf_ok (hc.grow G16) rfl).mono ?_⟩
 rintro e21 w21 ⟨rfl,g21⟩
 have G21:=G16.trans g21
 refine ⟨_,rfl,?_⟩
 cases hcn:cnfB k cs with
 |false=>
  have:b=false:=by rw [← Bool.not_eq_true];exact fun e=>by have:=(hb.1 e).1;rw [hcn] at this;cases this
  subst this
  rw [if_neg (by decide)] at hK
  subst hK
  exact cnd_t rfl (cnd_t rfl (cnd_t rfl (awk8 G21)))
 |true=>
 refine cnd_f rfl ((refMay_ok (hl.grow G21) rfl hm2).mono ?_)
 rintro e25 w25 ⟨rfl,g25⟩
 have G25:=G21.trans g25
 refine ⟨_,rfl,?_⟩
 cases hcl:clB l with
 |false=>
  have:b=false:=by rw [← Bool.not_eq_true];exact fun e=>by have:=(hb.1 e).2.1;rw [hcl] at this;cases this
  subst this
  rw [if_neg (by decide)] at hK
  subst hK
  exact cnd_t rfl (cnd_t rfl (cnd_t rfl (awk8 G25)))
 |true=>
 have hL:=cnf_lits hcn
 have hl4:=clB_all hcl
 have hlit: ∀c∈cs,∀x∈c,litB x=true:=fun c hc x hx=> ((hL c hc).2 x hx).1
 have b25:=(b16.grow g21).grow g25
 refine cnd_f rfl ⟨_,_,_,cell_add b25 rfl,(refNeeds8_ok (hc.grow G25) rfl hd (by omega) hlit (hl.grow G25) rfl (by omega) hl4.1).mono ?_⟩
 rintro e30 w30 hR
 obtain ⟨q2,c2,rfl,v2,g30⟩: ∃ (q2:Option Addr) (c2:Nat),e30= .returned (.tuple #[.slice q2 K.length c2,.bool b])∧Vw (Value.int .i64) w30 q2 (natI K)∧Grow w25 w30:=by
  rcases hR with ⟨h,rfl,g⟩| ⟨h,q',d',rfl,v,g,_⟩
  · have:b=false:=by rw [← Bool.not_eq_true];exact fun e=>h (hb.1 e).2.2
    subst this
    rw [if_neg (by decide)] at hK
    subst hK
    exact ⟨none,0,rfl,Vw.nil,g⟩
  · have:b=true:=hb.2 ⟨hcn,hcl,h⟩
    subst this
    rw [if_pos rfl] at hK
    subst hK
    exact ⟨q',d',rfl,v,g⟩
 have G30:=G25.trans g30
 have b30:=b25.grow g30
 have hKl:K.length≤15:=by
  rw [hK]
  split
  · have:=ris_len (ndK_ris (cs:=cs) (c:=l) rfl (i:=cs.length) (K:= []) (Nat.le_refl _) ⟨fun j hj=>by simp at hj,.nil⟩).1 (Nat.zero_le _)
    omega
  · simp
 have o30:=(o1.grow (g21.trans g25)).grow g30
 refine ⟨_,_,_,_,rfl,cnd_f (by cases b<;>rfl) ((refInts_ok o30.vw v2 (natI_len _).symm (natI_len _).symm (by unfold maxLen;omega)).mono ?_)⟩
 rintro e33 w33 ⟨rfl,g33⟩
 have G33:=G30.trans g33
 have b33:=b30.grow g33
 have v33:=o30.vw.grow g33
 refine ⟨_,rfl,cnd_f (by simp) ?_⟩
 refine ⟨fun I u z=> ∃i:Nat,I=i∧i≤K.length∧z=K.length - i∧Grow w33 u,⟨_,0,rfl,Nat.zero_le _,rfl,Mod.refl _⟩,?_⟩
 rintro I u z _ ⟨i,rfl,hi,rfl,gu⟩
 refine cnd_i (fun r=> ?_) (fun r=>awk8 (G33.trans gu))
 have r:i<K.length:=by simpa using r
 have hbt:b=true:=by
  cases b with
  |true=>rfl
  |false=>rw [if_neg (by decide)] at hK;rw [hK] at r;simp at r
 subst hbt
 rw [if_pos rfl] at hK
 have hris:=ndK_ris (cs:=cs) (c:=l) rfl (i:=cs.length) (K:= []) (Nat.le_refl _) ⟨fun j hj=>by simp at hj,.nil⟩
 rw [← hK] at hris
 have hmin:=ndK_min (cs:=cs) (c:=l) rfl (i:=cs.length) (K:= []) (Nat.le_refl _) ⟨fun j hj=>by simp at hj,.nil⟩ (fun j hj=>by simp at hj)
 rw [← hK] at hmin
 have hpw:=hris.1.2
 rw [List.pairwise_iff_getElem] at hpw
 intro n40 w41 h41
 have e40:=h41.num
 have zu:=gu.size
 refine ⟨fun P N C V v z=> ∃ (x:Nat) (Q:List Nat) (ks:List Sl),V=x∧x≤K.length∧z=K.length - x∧N=Q.length∧Q.length≤x∧(∀y∈Q,y≠K.getD i 0∧y∈K)∧Grow u v∧Ow Sl.v ty_sl_int v P C ks∧VR (Value.int .i64) w ks (Q.map fun j=>cs.getD j [])∧∀j,blk P=some j→u.heap.size≤j,
  ⟨_,0,[],[],rfl,Nat.zero_le _,rfl,rfl,Nat.le_refl _,fun y hy=>by simp at hy,h41.mod,New.empty h41,VR.nil,fun j hj=>by have:=blk_some hj;omega⟩,?_⟩
 rintro P N C V v z _ ⟨x,Q,ks,rfl,hx,rfl,rfl,hQx,hQ,gv,ok,vr,fo⟩
 have gg:=gu.trans gv
 have hkl:=vr.n
 rw [List.length_map] at hkl
 refine cnd_i (fun r1=> ?_) (fun r1=> ?_)
 · have r1:x<K.length:=by simpa using r1
   refine cnd_i (fun r2=> ?_) (fun r2=> ?_)
   · have hne:x≠i:=fun e=>by subst e;simp at r2
     have hin:K.getD x 0∈K:=by simp [List.getD,r1]
     have hlt:=(hris.1.1 _ hin).2
     have gd:=gg.trans (dropG v)
     refine ⟨_,_,_,cell_add (b33.grow gd) rfl,(v33.grow gd).ix 0 (by omega) (natI_len _).symm (by omega) fun a ha=> ⟨_,ha,?_⟩⟩
     rw [Int.toNat_natCast,show (natI K).getD x 0=((K.getD x 0:Nat):Int) from nat_map_get]
     refine (hc.grow (G33.trans gd)).ix (by omega) rfl (by omega) fun ad sl k1 k0 k2 k3 k4=> ⟨_,_,_,k1,?_⟩
     rw [Int.toNat_natCast] at k0 k2
     obtain ⟨_,_,r3⟩:=hc.r _ hlt
     rw [← k0] at r3
     intro n53 w54 h54
     have e53:n53=v.heap.size:=h54.num
     have g54:Grow v w54:=(dropG v).trans h54.mod
     have zv:=gv.size
     have z54:=h54.mod.size
     have z54':v.drew.heap.size=v.heap.size:=rfl
     refine Ow.appV sl_sl_int (ok.grow g54) (has_vw8 (sl:=sl) h54.has) hkl.symm rfl (fun _=>rfl) (by simp;omega) fun w55 p' c' o55 m55 hp' hz'=> ?_
     refine ⟨_,by omega,x+1,Q++ [K.getD x 0],_,wN (by omega) (by omega),r1,rfl,by simp [hkl],by simp;omega,fun y hy=> ?_,(gv.trans g54).then m55 fun j hj e=>by have:=fo j e;omega,o55,by rw [List.map_append];exact vr.app (VR.one (s:=sl) r3 k2 k3),fun j hj=> ?_⟩
     · rcases List.mem_append.1 hy with hy|hy
       · exact hQ y hy
       · rw [List.mem_singleton] at hy
         subst hy
         refine ⟨fun e=> ?_,hin⟩
         simp only [List.getD_eq_getElem?_getD,List.getElem?_eq_getElem r1,List.getElem?_eq_getElem r,Option.getD_some] at e
         rcases Nat.lt_or_gt_of_ne hne with h|h
         · have:=hpw x i r1 r h;omega
         · have:=hpw i x r r1 h;omega
     · rcases hp' with rfl|rfl
       · exact fo j hj
       · have:=blk_some hj;omega
   · exact ⟨_,by omega,x+1,Q,ks,wN (by omega) (by omega),r1,rfl,rfl,by omega,hQ,gv,ok,vr,fo⟩
 · refine (refUnit7_ok ((vr.grow (G33.trans gg)).v2 ok.vw) (by rw [List.length_map]) (by omega) (fun c hc'=>by
    obtain ⟨y,hy,rfl⟩:=List.mem_map.1 hc'
    exact hlit _ (getD_mem2 (hris.1.1 y (hQ y hy).2).2)) (hl.grow (G33.trans gg)) rfl (by omega) hl4.1).mono ?_
   rintro e57 w57 ⟨r57,rfl,hr57,g57⟩
   have:r57=false:=by
    rw [← Bool.not_eq_true]
    exact fun e=>hmin (K.getD i 0) (by simp [List.getD,r]) Q hQ (hr57.1 e)
   subst this
   exact ⟨_,rfl,cnd_f rfl ⟨_,by omega,i+1,wN (by omega) (by omega),r,rfl,(gg.trans g57)⟩⟩
end Go.Proofs.YtenmibfmhccmiaaGreat.W
namespace Go.Proofs.YtenmibfmhccmiaaGreat.W
open Go Go.Fw Go.RowKit Go.SoP Go.LiP
variable {W w w' w0 w2 w3 u:World} {p q:Option Addr} {n m d i c t:Nat} {k:Int} {hs tl:List Sl} {cs:List (List Int)} {l L:List Int} {ss:List So} {al:List Stp} {S:Bool × Int→Prop}
def CdL (S:Bool × Int→Prop) (L:List Int):Prop:= ∀v,v∈L↔∃x,S x∧v=cdA x
theorem CdL.yes {L:List Int} (h:CdL S L) (hok: ∀x,S x→orgOk cs al t x) (h1:cs.length≤1000):(1000000+ (i:Int))∈L↔S (true,(i:Int)):=by
 rw [h]
 constructor
 · rintro ⟨x,hx,e⟩
   rcases hok x hx with ⟨a,ha,rfl⟩| ⟨a,ha,_,rfl⟩
   · unfold cdA at e;simp at e;omega
   · unfold cdA at e
     have:i=a:=by simp at e;omega
     rw [this];exact hx
 · exact fun hx=> ⟨_,hx,by unfold cdA;simp⟩
theorem CdL.no {L:List Int} (h:CdL S L) (hok: ∀x,S x→orgOk cs al t x) (hi:i<1000000):(i:Int)∈L↔S (false,(i:Int)):=by
 rw [h]
 constructor
 · rintro ⟨x,hx,e⟩
   rcases hok x hx with ⟨a,ha,rfl⟩| ⟨a,ha,_,rfl⟩
   · unfold cdA at e
     have:i=a:=by simp at e;omega
     rw [this];exact hx
   · unfold cdA at e;simp at e;omega
 · exact fun hx=> ⟨_,hx,by unfold cdA;simp⟩
end Go.Proofs.YtenmibfmhccmiaaGreat.W
