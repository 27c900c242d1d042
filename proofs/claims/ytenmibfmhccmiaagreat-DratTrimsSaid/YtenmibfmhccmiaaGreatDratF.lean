/- Layer 8: why places are no core. -/
import Derived.Test.YtenmibfmhccmiaaGreatDratE
set_option linter.unusedVariables false
set_option linter.unusedSimpArgs false
namespace Go.Proofs.YtenmibfmhccmiaaGreat.W
open Go Go.Fw Go.RowKit Go.SoP Go.LiP
variable {W w w' w0 w2 w3 u:World} {p q p1 p2:Option Addr} {n m d i c t n1 n2 d1 d2:Nat} {k:Int} {hs tl:List Sl} {cs:List (List Int)} {l c1 c2:List Int} {ss:List So} {al:List Stp}
def rsP (n:Nat) (l:List Int):Prop:= ∀i,i<l.length→0≤l.getD i 0∧l.getD i 0<n∧(0<i→l.getD (i - 1) 0<l.getD i 0)
theorem rising_ok {e:Nat} (hl:Vw (Value.int .i64) w q l) (hm:m=l.length) (hx:l.length≤1000) (hn:n≤1000000):Calls Tryz.prog drat_rising.id #[.slice q m e,.int .i64 (n:Int)] w fun e w'=> ∃r:Bool,e= .returned (.bool r)∧(r=true↔rsP n l)∧Grow w w':=by
 subst hm
 refine drat_rising.calls ?_
 refine ⟨fun I u z=> ∃i:Nat,I=i∧i≤l.length∧z=l.length - i∧Grow w u∧∀j,j<i→0≤l.getD j 0∧l.getD j 0<n∧(0<j→l.getD (j - 1) 0<l.getD j 0),⟨_,0,rfl,Nat.zero_le _,rfl,Mod.refl _,fun j hj=>by omega⟩,?_⟩
 rintro I u z _ ⟨i,rfl,hi,rfl,gu,hall⟩
 refine cnd_i (fun r=> ?_) (fun r=> ?_)
 · have r:i<l.length:=by simpa using r
   refine (hl.grow gu).ix 0 (by omega) rfl (by omega) fun a ha=> ⟨_,ha,?_⟩
   rw [Int.toNat_natCast]
   have no: ¬(0≤l.getD i 0∧l.getD i 0<n∧(0<i→l.getD (i - 1) 0<l.getD i 0))→∃r:Bool,Ending.returned (Value.bool false)= .returned (.bool r)∧(r=true↔rsP n l)∧Grow w u:=fun h=> ⟨false,rfl,⟨fun e=> (by cases e),fun e=>absurd (e i r) h⟩,gu⟩
   have next:(0≤l.getD i 0∧l.getD i 0<n∧(0<i→l.getD (i - 1) 0<l.getD i 0))→∃k3,k3<l.length - i∧∃i':Nat,IntKind.i64.wrap ((i:Int)+1)=i'∧i'≤l.length∧k3=l.length - i'∧Grow w u∧∀j,j<i'→0≤l.getD j 0∧l.getD j 0<n∧(0<j→l.getD (j - 1) 0<l.getD j 0):=fun h=>
    ⟨_,by omega,i+1,wN (by omega) (by omega),r,rfl,gu,fun j hj=>by
      by_cases e:j<i
      · exact hall j e
      · obtain rfl:j=i:=by omega
        exact h⟩
   refine cnd_i (fun r1=>no fun h=>by rw [decide_eq_true_eq] at r1;omega) (fun r1=>cnd_i (fun r2=>no fun h=>by rw [decide_eq_true_eq] at r2;omega) (fun r2=>cnd_i (fun r3=> ?_) (fun r3=> ?_)))
   · rw [decide_eq_true_eq] at r3
     rw [wrap64_of (x:=(i:Int) - 1) (by omega) (by omega)]
     refine (hl.grow gu).ix 0 (by omega) rfl (by omega) fun a2 ha2=> ⟨_,ha2,?_⟩
     rw [show ((i:Int) - 1).toNat=i - 1 by omega]
     refine cnd_i (fun r4=>no fun h=> ?_) (fun r4=>next ?_)
     · rw [decide_eq_true_eq] at r4;have:=h.2.2 (by omega);omega
     · rw [decide_eq_false_iff_not] at r1 r2 r4
       exact ⟨by omega,by omega,fun _=>by omega⟩
   · rw [decide_eq_false_iff_not] at r1 r2 r3
     exact next ⟨by omega,by omega,fun _=>by omega⟩
 · have r:i=l.length:=by simp at r;omega
   subst r
   exact ⟨true,rfl,⟨fun _=>hall,fun _=>rfl⟩,gu⟩
abbrev clA (cs:List (List Int)) (v:Int):List Int:=cs.getD v.toNat []
abbrev stA (al:List Stp) (v:Int):Stp:=al.getD v.toNat st0
def corHI (cs:List (List Int)) (al:List Stp) (c1 c2:List Int) (j:Nat):List (List Int):=c1.map (clA cs)++ (c2.take j).map fun v=> (stA al v).2
def CorOk (cs:List (List Int)) (al:List Stp) (c1 c2:List Int):Prop:=(∀j,j<c2.length→uB (corHI cs al c1 c2 j) (stA al (c2.getD j 0)).2)∧∃j,j<c2.length∧(stA al (c2.getD j 0)).2= []
def NoDel (al:List Stp) (c2:List Int):Prop:= ∀j,j<c2.length→(stA al (c2.getD j 0)).1=false
def MayC (k:Int) (cs:List (List Int)) (al:List Stp) (c1 c2:List Int):Prop:=(cnfB k cs=true∧mayP al=true)∧rsP cs.length c1∧rsP al.length c2∧NoDel al c2
def ChkR (k:Int) (cs:List (List Int)) (al:List Stp) (c1 c2:List Int) (E:Int):Prop:=(¬MayC k cs al c1 c2∧E=1)∨(MayC k cs al c1 c2∧¬CorOk cs al c1 c2∧E=7)∨(MayC k cs al c1 c2∧CorOk cs al c1 c2∧E=0)
theorem ChkR.uniq {E E':Int} (h:ChkR k cs al c1 c2 E) (h':ChkR k cs al c1 c2 E'):E=E':=by
 rcases h with ⟨a,rfl⟩| ⟨a,b,rfl⟩| ⟨a,b,rfl⟩<;>rcases h' with ⟨a',rfl⟩| ⟨a',b',rfl⟩| ⟨a',b',rfl⟩<;>first|rfl|exact absurd ‹_› ‹_›|exact absurd a' a|exact absurd a a'|exact absurd b' b|exact absurd b b'
theorem rs_lt (h:rsP n l) (hi:i<l.length):(l.getD i 0).toNat<n∧((l.getD i 0).toNat:Int)=l.getD i 0:=by
 have:=h i hi
 omega
theorem dcheck1_ent:entB Tryz.prog drat_Check_1.id=true:=by kernel_rfl
theorem nodel_ok {b e:Nat} {q2:Option Addr} {m2 e2:Nat} (hb:Has w b #[.slice q2 m2 e2]) (ha:SV w q2 al) (hm2:m2=al.length) (hl:Vw (Value.int .i64) w q l) (hm:m=l.length) (hx:l.length≤1000) (hr:rsP al.length l):
 Calls Tryz.prog slices_ContainsFunc_int_int.id #[.slice q m e,.func (.func drat_Check_1.id) #[] #[.pointer (some ⟨b,0,none⟩)]] w fun e w'=> ∃r:Bool,e= .returned (.bool r)∧(r=false↔NoDel al l)∧Grow w w':=by
 subst hm hm2
 refine slices_ContainsFunc_int_int.calls ((slices_IndexFunc_int_int.calls (R:=fun e w'=> ∃r:Int,e= .returned (.int .i64 r)∧(r<0↔NoDel al l)∧Grow w w') ?_).mono ?_)
 · refine ⟨fun I u z=> ∃i:Nat,I=i∧z=l.length - i∧i≤l.length∧Grow w u∧∀j,j<i→(stA al (l.getD j 0)).1=false,⟨_,0,rfl,rfl,by omega,Mod.refl w,fun j hj=>by omega⟩,?_⟩
   rintro I u z _ ⟨i,rfl,rfl,hi,g,hall⟩
   refine cnd_i (fun r=> ?_) (fun r=> ?_)
   · have r:i<l.length:=by simpa using r
     refine (hl.grow g).ix 0 (by omega) rfl (by omega) fun a ha'=> ⟨_,ha',?_⟩
     rw [Int.toNat_natCast,dcheck1_ent]
     show Calls _ _ _ _ _
     rw [args2w]
     obtain ⟨h1,h2⟩:=rs_lt hr r
     refine (drat_Check_1.calls (R:=fun e w'=>e= .returned (.bool (stA al (l.getD i 0)).1)∧w'=u) ?_).mono ?_
     · refine ⟨_,_,_,cell_of (hb.grow g) rfl,?_⟩
       rw [← h2]
       refine ha.ix g rfl h1 fun a s hc h1 h2' h3=> ⟨_,CellsAt.get (hc u g) 0 _ rfl,rfl,rfl⟩
     · rintro e9 _ ⟨rfl,rfl⟩
       refine ⟨_,rfl,cnd_i (fun r2=> ⟨_,rfl,⟨fun h=>by omega,fun h=>by rw [h i r] at r2;cases r2⟩,g⟩) (fun r2=> ⟨_,by omega,i+1,wN (by omega) (by omega),rfl,r,g,fun j hj=> ?_⟩)⟩
       by_cases e:j<i
       · exact hall j e
       · obtain rfl:j=i:=by omega
         exact r2
   · have r:i=l.length:=by simp at r;omega
     subst r
     exact ⟨_,rfl,⟨fun _=>hall,fun _=>by decide⟩,g⟩
 · rintro e1 w1 ⟨r,rfl,hr',g⟩
   refine ⟨_,rfl,_,rfl,?_,g⟩
   rw [decide_eq_false_iff_not,← hr']
   omega
theorem cells1 {b:Nat} {x:Value} (h:Has w b #[x]):w.cell? ⟨b,0,none⟩=some x:=cell_of h rfl
theorem check_ok {e:Nat} (hc:V2 (Value.int .i64) w p hs cs) (hn:n=cs.length) (hx:cs.length≤40) (hl:SV w q al) (hm:m=al.length) (hm2:m≤60) (v1:Vw (Value.int .i64) w p1 c1) (hn1:n1=c1.length) (hx1:n1≤60) (v2:Vw (Value.int .i64) w p2 c2) (hn2:n2=c2.length) (hx2:n2≤60):
 Calls Tryz.prog drat_Check.id #[.agg #[.int .i64 k,.slice p n d],.slice q m e,.agg #[.slice p1 n1 d1,.slice p2 n2 d2]] w fun e w'=> ∃E:Int,e= .returned (.int .i64 E)∧ChkR k cs al c1 c2 E∧Grow w w':=by
 subst hn hm hn1 hn2
 have no: ∀ {u:World},¬MayC k cs al c1 c2→Grow w u→∃E:Int,Ending.returned (Value.int .i64 1)= .returned (.int .i64 E)∧ChkR k cs al c1 c2 E∧Grow w u:=fun h g=> ⟨1,rfl,.inl ⟨h,rfl⟩,g⟩
 refine drat_Check.calls ?_
 intro nf w2 h2 nl w4 h4 nc w6 h6
 have ef:=h2.num
 have G6:=(h2.mod.trans h4.mod).trans h6.mod
 have bf:=(h2.has.grow h4.mod).grow h6.mod
 have bl:=h4.has.grow h6.mod
 have bc:=h6.has
 refine ⟨_,_,_,_,cells2 bf,(checkCnf_ok (hc.grow G6) rfl).mono ?_⟩
 rintro e9 w9 ⟨rfl,g9⟩
 have G9:=G6.trans g9
 refine ⟨_,rfl,?_⟩
 cases hcn:cnfB k cs with
 |false=>exact cnd_t rfl (no (fun h=>by have:=h.1.1;rw [hcn] at this;cases this) G9)
 |true=>
 refine cnd_f rfl ⟨_,_,_,cells1 (bl.grow g9),(traceCheck_ok (hl.grow G9) rfl (by omega)).mono ?_⟩
 rintro e12 w12 ⟨rfl,g12⟩
 have g12:=g9.trans g12
 have G12:=G6.trans g12
 refine ⟨_,rfl,?_⟩
 cases hmy:mayP al with
 |false=>exact cnd_t rfl (no (fun h=>by have:=h.1.2;rw [hmy] at this;cases this) G12)
 |true=>
 refine cnd_f rfl ⟨_,_,_,cell_add (bc.grow g12) rfl,_,_,_,cell_add (bf.grow g12) rfl,(rising_ok (v1.grow G12) rfl (by omega) (by omega)).mono ?_⟩
 rintro e16 w16 ⟨r16,rfl,hr16,g16⟩
 have g16:=g12.trans g16
 have G16:=G6.trans g16
 refine ⟨_,rfl,?_⟩
 cases r16 with
 |false=>exact cnd_t rfl (no (fun h=>by have:=hr16.2 h.2.1;cases this) G16)
 |true=>
 have hr1:=hr16.1 rfl
 refine cnd_f rfl ⟨_,_,_,cell_add (bc.grow g16) rfl,_,_,_,cells1 (bl.grow g16),(rising_ok (v2.grow G16) rfl (by omega) (by omega)).mono ?_⟩
 rintro e20 w20 ⟨r20,rfl,hr20,g20⟩
 have g20:=g16.trans g20
 have G20:=G6.trans g20
 refine ⟨_,rfl,?_⟩
 cases r20 with
 |false=>exact cnd_t rfl (no (fun h=>by have:=hr20.2 h.2.2.1;cases this) G20)
 |true=>
 have hr2:=hr20.1 rfl
 refine cnd_f rfl ⟨_,_,_,cell_add (bc.grow g20) rfl,(nodel_ok (bl.grow g20) (hl.grow G20) rfl (v2.grow G20) rfl (by omega) hr2).mono ?_⟩
 rintro e23 w23 ⟨r23,rfl,hr23,g23⟩
 have g23:=g20.trans g23
 have G23:=G6.trans g23
 refine ⟨_,rfl,?_⟩
 cases r23 with
 |true=>exact cnd_t rfl (no (fun h=>by have:=hr23.2 h.2.2.2;cases this) G23)
 |false=>
 have hnd:=hr23.1 rfl
 have hmay:MayC k cs al c1 c2:=⟨⟨hcn,hmy⟩,hr1,hr2,hnd⟩
 have bf23:=bf.grow g23
 have bl23:=bl.grow g23
 have bc23:=bc.grow g23
 have z23:=G23.size
 refine cnd_f rfl ⟨_,_,_,cell_add bc23 rfl,?_⟩
 refine ⟨fun P N C I u z=> ∃ (i:Nat) (ks:List Sl),I=i∧i≤c1.length∧z=c1.length - i∧i=N∧Grow w23 u∧Ow Sl.v ty_sl_int u P C ks∧VR (Value.int .i64) w ks ((c1.take i).map (clA cs))∧∀j,blk P=some j→w23.heap.size≤j,
  ⟨_,0,[],rfl,Nat.zero_le _,rfl,rfl,Mod.refl _,Ow.nil _ _ _,VR.nil,fun j hj=>by simp [blk] at hj⟩,?_⟩
 rintro P N C I u z _ ⟨i,ks,rfl,hi,rfl,rfl,gu,ok,vr,fo⟩
 have Gu:=G23.trans gu
 have hkl:=vr.n
 rw [List.length_map,List.length_take,Nat.min_eq_left hi] at hkl
 refine cnd_i (fun r=> ?_) (fun r=> ?_)
 · have r:i<c1.length:=by simpa using r
   obtain ⟨q1,q2⟩:=rs_lt hr1 r
   refine (v1.grow Gu).ix 0 (by omega) rfl (by omega) fun a ha=> ⟨_,ha,_,_,_,cell_add (bf23.grow gu) rfl,?_⟩
   rw [Int.toNat_natCast,← q2]
   refine (hc.grow Gu).ix (by omega) rfl (by omega) fun ad sl k1 k0 k2 k3 k4=> ⟨_,_,_,k1,?_⟩
   rw [Int.toNat_natCast] at k0 k2
   obtain ⟨_,_,r3⟩:=hc.r _ q1
   rw [← k0] at r3
   intro n37 w38 h38
   have e37:=h38.num
   have zu:=gu.size
   have z38:=h38.mod.size
   refine Ow.appV sl_sl_int (ok.grow h38.mod) (has_vw8 (sl:=sl) h38.has) hkl.symm rfl (fun _=>rfl) (by simp;omega) fun w39 p' c' o39 m39 hp' hz'=> ?_
   refine ⟨_,by omega,i+1,_,wN (by omega) (by omega),r,rfl,by simp [hkl],(gu.trans h38.mod).then m39 fun j hj e=>by have:=fo j e;omega,o39,?_,fun j hj=> ?_⟩
   · rw [take_snoc r 0,List.map_append]
     exact vr.app (VR.one (s:=sl) r3 k2 k3)
   · rcases hp' with rfl|rfl
     · exact fo j hj
     · have:=blk_some hj;omega
 have r:i=c1.length:=by simp at r;omega
 subst r
 rw [List.take_length] at vr
 refine ⟨_,_,_,_,cells2 (bf23.grow gu),_,_,_,cells1 (bl23.grow gu),(greatest_ok (p:=p) (n:=cs.length) (d:=d) (hl.grow Gu) rfl (by omega) (mayP_all hmy)).mono ?_⟩
 rintro e44 w44 ⟨rfl,g44⟩
 have g44':=gu.trans g44
 refine ⟨_,rfl,_,_,_,cell_add (bc23.grow g44') rfl,?_⟩
 refine ⟨fun P N C ends I u z=> ∃ (i:Nat) (ks:List Sl),I=i∧i≤c2.length∧z=c2.length - i∧N=(corHI cs al c1 c2 i).length∧Grow w23 u∧Ow Sl.v ty_sl_int u P C ks∧VR (Value.int .i64) w ks (corHI cs al c1 c2 i)∧(∀j,blk P=some j→w23.heap.size≤j)∧
  (∀j,j<i→uB (corHI cs al c1 c2 j) (stA al (c2.getD j 0)).2)∧(ends=true↔∃j,j<i∧(stA al (c2.getD j 0)).2= []),
  ⟨_,0,ks,rfl,Nat.zero_le _,rfl,by simp [corHI],g44',ok.grow g44,by simpa [corHI] using vr,fo,fun j hj=>by omega,⟨fun e=> (by cases e),fun ⟨j,hj,_⟩=>by omega⟩⟩,?_⟩
 clear vr ok fo hkl Gu hi
 rintro P N C ends I v z _ ⟨i,ks,rfl,hi,rfl,rfl,gv,ok,vr,fo,hall,hends⟩
 have Gv:=G23.trans gv
 have hkl:=vr.n
 have hhl:(corHI cs al c1 c2 i).length=c1.length+i:=by unfold corHI;rw [List.length_append,List.length_map,List.length_map,List.length_take];omega
 refine cnd_i (fun r=> ?_) (fun r=> ?_)
 · have r:i<c2.length:=by simpa using r
   obtain ⟨q1,q2⟩:=rs_lt hr2 r
   have hmem:=mem_st q1
   have hcl2:=mayP_all hmy _ hmem
   refine (v2.grow Gv).ix 0 (by omega) rfl (by omega) fun a ha=> ⟨_,ha,cnd_f (by simp;omega) ⟨_,_,_,cells1 (bl23.grow gv),?_⟩⟩
   rw [Int.toNat_natCast,← q2]
   refine hl.ix Gv rfl q1 fun a1 s1 hcA1 h11 h12 h13=> ⟨_,_,_,CellsAt.get (hcA1 v Gv) 1 _ rfl,?_⟩
   refine (rupUnit_ok (k:=gtV k al) ((vr.grow Gv).v2 ok.vw) rfl (by omega) (h13.grow Gv) h11 h12).mono ?_
   rintro e59 w59 ⟨r59,rfl,hr59,g59⟩
   have hcnf:cnfB (gtV k al) (corHI cs al c1 c2 i)=true:=cnf_any hcn hmy (by omega) (fun c hc'=>by
    unfold corHI at hc'
    rcases List.mem_append.1 hc' with h|h
    · obtain ⟨y,hy,rfl⟩:=List.mem_map.1 h
      obtain ⟨j,hj,rfl⟩:=List.mem_iff_getElem.1 hy
      have:=(rs_lt hr1 hj).1
      simp only [List.getD_eq_getElem?_getD,List.getElem?_eq_getElem hj,Option.getD_some] at this
      exact .inl (getD_mem2 this)
    · obtain ⟨y,hy,rfl⟩:=List.mem_map.1 h
      obtain ⟨j,hj,rfl⟩:=List.mem_iff_getElem.1 (List.mem_of_mem_take hy)
      have:=(rs_lt hr2 hj).1
      simp only [List.getD_eq_getElem?_getD,List.getElem?_eq_getElem hj,Option.getD_some] at this
      exact .inr (List.mem_map_of_mem (mem_st this)))
   refine ⟨_,rfl,cnd_i (fun r3=> ?_) (fun r3=> ?_)⟩
   · refine ⟨7,rfl,.inr (.inl ⟨hmay,fun h=> ?_,rfl⟩),Gv.trans g59⟩
     rw [hr59.2 ⟨hcnf,hcl2,h.1 i r⟩] at r3
     cases r3
   · have hu:=(hr59.1 (by simpa using r3)).2.2
     have gv59:=gv.trans g59
     refine ⟨_,_,_,cells1 (bl23.grow gv59),hl.ix (Gv.trans g59) rfl q1 fun a2 s2 hcA2 h21 h22 h23=> ⟨_,_,_,CellsAt.get (hcA2 w59 (Gv.trans g59)) 1 _ rfl,?_⟩⟩
     intro n64 w65 h65
     have e64:=h65.num
     have z59:=gv59.size
     have z65:=h65.mod.size
     refine Ow.appV sl_sl_int (ok.grow (g59.trans h65.mod)) (has_vw8 (sl:=s2) h65.has) hkl.symm rfl (fun _=>rfl) (by simp;omega) fun w66 p' c' o66 m66 hp' hz'=> ?_
     have g66:Grow w23 w66:=(gv59.trans h65.mod).then m66 fun j hj e=>by have:=fo j e;omega
     have eH:corHI cs al c1 c2 (i+1)=corHI cs al c1 c2 i++ [(stA al (c2.getD i 0)).2]:=by
      unfold corHI
      rw [take_snoc r 0,List.map_append,List.append_assoc];rfl
     have vr':VR (Value.int .i64) w (ks++ [s2]) (corHI cs al c1 c2 (i+1)):=by rw [eH];exact vr.app (VR.one (s:=s2) h23 h21 h22)
     have fo': ∀j,blk p'=some j→w23.heap.size≤j:=fun j hj=>by
      rcases hp' with rfl|rfl
      · exact fo j hj
      · have:=blk_some hj;omega
     have hall': ∀j,j<i+1→uB (corHI cs al c1 c2 j) (stA al (c2.getD j 0)).2:=fun j hj=>by
      by_cases e:j<i
      · exact hall j e
      · obtain rfl:j=i:=by omega
        exact hu
     have hN:(ks++ [s2]).length=(corHI cs al c1 c2 (i+1)).length:=vr'.n
     refine cnd_i (fun r4=> ?_) (fun r4=> ?_)
     · subst r4
       exact ⟨_,by omega,i+1,_,wN (by omega) (by omega),r,rfl,hN,g66,o66,vr',fo',hall',⟨fun _=> (hends.1 rfl).imp fun j h=> ⟨by omega,h.2⟩,fun _=>rfl⟩⟩
     · refine ⟨_,_,_,cells1 (bl23.grow g66),hl.ix (G23.trans g66) rfl q1 fun a3 s3 hcA3 h31 h32 h33=> ⟨_,_,_,CellsAt.get (hcA3 w66 (G23.trans g66)) 1 _ rfl,?_⟩⟩
       refine ⟨_,by omega,i+1,_,wN (by omega) (by omega),r,rfl,hN,g66,o66,vr',fo',hall',?_⟩
       rw [h31]
       constructor
       · intro h
         exact ⟨i,by omega,List.eq_nil_of_length_eq_zero (by have h:(((stA al (c2.getD i 0)).2.length:Nat):Int)=0:=by simpa using h
                                                             omega)⟩
       · rintro ⟨j,hj,h⟩
         by_cases e:j<i
         · rw [hends.2 ⟨j,e,h⟩] at r4;cases r4
         · obtain rfl:j=i:=by omega
           rw [h];rfl
 · have r:i=c2.length:=by simp at r;omega
   subst r
   refine cnd_i (fun r=> ⟨7,rfl,.inr (.inl ⟨hmay,fun h=> ?_,rfl⟩),Gv⟩) (fun r=> ⟨0,rfl,.inr (.inr ⟨hmay,⟨hall,hends.1 (by simpa using r)⟩,rfl⟩),Gv⟩)
   rw [hends.2 h.2] at r;cases r
end Go.Proofs.YtenmibfmhccmiaaGreat.W
namespace Go.Proofs.YtenmibfmhccmiaaGreat.W
open Go Go.Fw Go.RowKit Go.SoP Go.LiP
variable {W w w' w0 w2 w3 u:World} {p q p1 p2:Option Addr} {n m d i c t n1 n2 d1 d2:Nat} {k:Int} {hs tl:List Sl} {cs:List (List Int)} {l c1 c2:List Int} {ss:List So} {al:List Stp}
def stH (x:Bool × Sl):List Value:= [.bool x.1,.slice x.2.p x.2.n x.2.c]
theorem stHenc:Enc 2 stH:=⟨fun _=>rfl,by omega,fun x v hv=>by
 simp only [stH,List.mem_cons,List.not_mem_nil,or_false] at hv
 rcases hv with rfl|rfl<;>rfl⟩
theorem sl_step:slOkN Tryz.prog ty_sl_api_Step ty_api_Step 2 32=true:=by kernel_rfl
structure StV (w:World) (hh:List (Bool × Sl)) (al:List Stp):Prop where
 b:hh.map (·.1)=al.map (·.1)
 v:VR (Value.int .i64) w (hh.map (·.2)) (al.map (·.2))
theorem StV.nil:StV w [] []:=⟨rfl,VR.nil⟩
theorem StV.len {hh:List (Bool × Sl)} (h:StV w hh al):hh.length=al.length:=by have:=congrArg List.length h.b;simpa using this
theorem StV.app {hh gg:List (Bool × Sl)} {bl:List Stp} (h:StV w hh al) (g:StV w gg bl):StV w (hh++gg) (al++bl):=⟨by rw [List.map_append,List.map_append,h.b,g.b],by rw [List.map_append,List.map_append];exact h.v.app g.v⟩
theorem StV.one {s:Sl} {x:Stp} (h:Vw (Value.int .i64) w s.p x.2) (hn:s.n=x.2.length) (hm:s.n≤maxLen):StV w [(x.1,s)] [x]:=⟨rfl,VR.one h hn hm⟩
theorem StV.keep {S:Nat→Prop} {hh:List (Bool × Sl)} (h:StV w hh al) (m:Mod S w w') (hS: ∀k,rfoot (hh.map (·.2)) k→¬S k):StV w' hh al:=⟨h.b,h.v.keep m hS⟩
theorem StV.grow {hh:List (Bool × Sl)} (h:StV w hh al) (m:Grow w w'):StV w' hh al:=h.keep m fun _ _=>id
theorem StV.sv {hh:List (Bool × Sl)} (h:StV w hh al) (o:Vr 2 stH w p hh):SV w p al:=by
 intro i hi
 have hn:=h.len
 obtain ⟨a,rfl,hc⟩:=o i (by omega)
 obtain ⟨h1,h2,h3⟩:=h.v.r i (by simpa using hi)
 rw [getD_map1 _ _ _ _ (false,Sl.nil) (by omega),getD_map1 _ _ _ _ st0 hi] at h1 h3
 rw [getD_map1 _ _ _ _ (false,Sl.nil) (by omega)] at h2
 have e1:hh.getD i (false,Sl.nil)=hh[i]:=by simp [List.getD,show i<hh.length by omega]
 have eb:(hh[i]'(by omega)).1=(al.getD i st0).1:=by
  have:=congrArg (fun l:List Bool=>l.getD i false) h.b
  rw [getD_map1 _ _ _ _ (false,Sl.nil) (by omega),getD_map1 _ _ _ _ st0 hi,e1] at this
  exact this
 rw [e1] at h1 h2 h3
 refine ⟨a,hh[i].2,rfl,?_,h1,h2,h3⟩
 rw [← eb]
 exact hc
theorem has_vrS {b:Nat} {x:Bool × Sl} (h:Has u b #[.bool x.1,.slice x.2.p x.2.n x.2.c]):Vr 2 stH u (some ⟨b,0,none⟩) [x]:=by
 intro j hj
 have:j=0:=by simpa using hj
 subst this
 exact ⟨_,rfl,cell_add2 h rfl,cell_add2 h rfl,trivial⟩
def trS (al:List Stp) (c2:List Int):List Stp:=c2.map fun v=> (false,(stA al v).2)
theorem trS_snoc {i:Nat} (h:i<c2.length):trS al (c2.take (i+1))=trS al (c2.take i)++ [(false,(stA al (c2.getD i 0)).2)]:=by unfold trS;rw [take_snoc h 0,List.map_append];rfl
theorem trim_ok {e:Nat} (hc:V2 (Value.int .i64) w p hs cs) (hn:n=cs.length) (hx:cs.length≤40) (hl:SV w q al) (hm:m=al.length) (hm2:m≤60) (v1:Vw (Value.int .i64) w p1 c1) (hn1:n1=c1.length) (hx1:n1≤60) (v2:Vw (Value.int .i64) w p2 c2) (hn2:n2=c2.length) (hx2:n2≤60):
 Calls Tryz.prog drat_Trim.id #[.agg #[.int .i64 k,.slice p n d],.slice q m e,.agg #[.slice p1 n1 d1,.slice p2 n2 d2]] w fun e w'=> ∃ (g0:Int) (P:Option Addr) (C:Nat) (P2:Option Addr) (C2:Nat) (E:Int) (ks:List Sl) (rows:List (List Int)) (bl:List Stp),
  e= .returned (.tuple #[.agg #[.int .i64 g0,.slice P rows.length C],.slice P2 bl.length C2,.int .i64 E])∧ChkR k cs al c1 c2 E∧V2 (Value.int .i64) w' P ks rows∧SV w' P2 bl∧Grow w w'∧(E≠0→g0=0∧rows= []∧bl= [])∧(E=0→g0=k∧rows=c1.map (clA cs)∧bl=trS al c2):=by
 subst hn hm hn1 hn2
 refine drat_Trim.calls ?_
 intro nf w2 h2 nc w4 h4 ng w6 h6
 have ef:=h2.num
 have ec:=h4.num
 have eg:=h6.num
 have z2:=h2.mod.size
 have z4:=h4.mod.size
 have G6:=(h2.mod.trans h4.mod).trans h6.mod
 have bf:=(h2.has.grow h4.mod).grow h6.mod
 have bc:=h4.has.grow h6.mod
 have bg:=h6.has
 refine ⟨_,_,_,_,cells2 bf,_,_,_,_,_,_,cells2 bc,(check_ok (hc.grow G6) rfl hx (hl.grow G6) rfl hm2 (v1.grow G6) rfl hx1 (v2.grow G6) rfl hx2).mono ?_⟩
 rintro e11 w11 ⟨E,rfl,hE,g11⟩
 have G11:=G6.trans g11
 refine ⟨_,rfl,cnd_i (fun r=> ?_) (fun r=> ?_)⟩
 · have r:E≠0:=by simpa using r
   refine store_i (bg.grow g11) rfl rfl fun w13 b13 m13=> ⟨_,_,_,_,cells2 b13,0,none,0,none,0,E,[],[],[],rfl,hE,V2.nil,fun i hi=>by simp at hi,G11.then m13 fun j hj e=>by omega,fun _=> ⟨rfl,rfl,rfl⟩,fun h=>absurd h r⟩
 have r:E=0:=by simpa using r
 subst r
 obtain ⟨hmay,hco⟩:MayC k cs al c1 c2∧CorOk cs al c1 c2:=by
  rcases hE with ⟨_,h⟩| ⟨_,_,h⟩| ⟨a,b,_⟩
  · cases h
  · cases h
  · exact ⟨a,b⟩
 obtain ⟨⟨hcn,hmy⟩,hr1,hr2,hnd⟩:=hmay
 have hL:=cnf_lits hcn
 have bf11:=bf.grow g11
 have bc11:=bc.grow g11
 have bg11:=bg.grow g11
 have z11:=G11.size
 have zg:=bg11.lt
 refine ⟨_,cell_add bf11 rfl,?_⟩
 intro n17 w18 h18
 have e17:=h18.num
 refine store_i h18.has rfl rfl fun w19 b19 m19=> ?_
 have g19:Grow w11 w19:=h18.mod.then m19 fun j hj e=>by omega
 have G19:=G11.trans g19
 have z19:=g19.size
 have i19:=b19.lt
 have bf19:=bf11.grow g19
 have bc19:=bc11.grow g19
 have bg19:=bg11.grow g19
 refine ⟨_,_,_,cell_add bc19 rfl,?_⟩
 refine ⟨fun I u z=> ∃ (i:Nat) (P:Option Addr) (C:Nat) (ks:List Sl),I=i∧i≤c1.length∧z=c1.length - i∧Mod (·=n17) w19 u∧Has u n17 #[.int .i64 k,.slice P ((c1.take i).map (clA cs)).length C]∧OV (Value.int .i64) ty_sl_int u P C ks ((c1.take i).map (clA cs))∧∀j,OV.foot P ks j→w19.heap.size≤j,
  ⟨_,0,none,0,[],rfl,Nat.zero_le _,rfl,Mod.refl _,b19,OV.nil,fun j hj=>by rcases hj with hj| ⟨s,hs,_⟩;simp [blk] at hj;simp at hs⟩,?_⟩
 rintro I u z _ ⟨i,P,C,ks,rfl,hi,rfl,mu,bu,ov,fo⟩
 have gu:Grow w11 u:=g19.then mu fun j hj e=>by omega
 have Gu:=G11.trans gu
 have hkl:=ov.v.n
 have hl1:((c1.take i).map (clA cs)).length=i:=by rw [List.length_map,List.length_take];omega
 have zu:=mu.size
 refine cnd_i (fun r=> ?_) (fun r=> ?_)
 · have r:i<c1.length:=by simpa using r
   obtain ⟨q1,q2⟩:=rs_lt hr1 r
   have gd:=dropG u
   refine (v1.grow Gu).ix 0 (by omega) rfl (by omega) fun a ha=> ⟨_,ha,Grow u,gd,_,_,_,fun v g=>cell_add (bu.grow g) rfl,_,_,_,fun v g=>cell_add ((bf11.grow gu).grow g) rfl,?_⟩
   rw [Int.toNat_natCast,← q2]
   refine (hc.grow Gu).ix (by omega) rfl (by omega) fun ad sl k1 k0 k2 k3 k4=> ⟨_,_,_,fun v g=>cell_keep (S:=fun _=>False) g k1 id,?_⟩
   rw [Int.toNat_natCast] at k0 k2 k4
   have hci:=hL _ (getD_mem2 q1)
   refine (clone_ok (k4.grow gd) k2 (by have:=hci.1;omega)).mono ?_
   rintro e33 w33 ⟨q33,d33,rfl,o33,g33,f33⟩
   have g33':=gd.trans g33
   refine ⟨_,_,_,rfl,g33',?_⟩
   intro n35 w36 h36
   have e35:=h36.num
   have g36:=g33'.trans h36.mod
   have z33:=g33'.size
   have zd:u.drew.heap.size=u.heap.size:=rfl
   have z36:=h36.mod.size
   have o36:=o33.grow h36.mod
   refine ⟨g36,OV.app sl_sl_int (ov.grow g36) (ns:= [⟨q33,(clA cs (c1.getD i 0)).length,d33⟩]) (nrows:= [clA cs (c1.getD i 0)]) (has_vw8 (sl:=⟨q33,(clA cs (c1.getD i 0)).length,d33⟩) h36.has) (VR.one o36.vw rfl (Nat.le_trans hci.1 (by unfold maxLen;omega))) hkl.symm rfl (fun j hj e=> ?_) (by simp;omega) fun w37 p' c' o37 m37 hp' hz'=> ?_⟩
   · obtain ⟨s,hs,_,hb⟩:=hj
     rw [List.mem_singleton] at hs
     subst hs
     have:=f33 j hb
     have:=ov.h.lt j e
     omega
   have b37:Has w37 n17 _:=(bu.grow g36).keep m37 fun e=>by have:=fo _ (.inl e);omega
   refine store_f b37 rfl rfl fun w39 b39 m39=> ?_
   have eL:(c1.take (i+1)).map (clA cs)=(c1.take i).map (clA cs)++ [clA cs (c1.getD i 0)]:=by rw [take_snoc r 0,List.map_append];rfl
   have fo': ∀j,OV.foot p' (ks++ [⟨q33,(clA cs (c1.getD i 0)).length,d33⟩]) j→w19.heap.size≤j:=fun j hj=>by
    rcases hj with hj|hj
    · rcases hp' with rfl|rfl
      · exact fo j (.inl hj)
      · have:=blk_some hj;omega
    · rcases rfoot_app.1 hj with hj| ⟨s,hs,_,hb⟩
      · exact fo j (.inr hj)
      · rw [List.mem_singleton] at hs
        subst hs
        have:=f33 j hb
        omega
   refine ⟨_,by omega,i+1,p',c',_,wN (by omega) (by omega),r,rfl,((mu.then g36 fun _ _ h=>h.elim).then m37 fun j hj e=>by have:=fo j (.inl e);omega).trans m39,?_,?_,fo'⟩
   · have:=o37.v.n
     rw [eL,← this];exact b39
   · rw [eL]
     exact o37.keep m39 fun j hj e=>by have:=fo' j hj;omega
 have r:i=c1.length:=by simp at r;omega
 subst r
 rw [List.take_length] at bu ov hl1
 have bfu:=bf11.grow gu
 have bcu:=bc11.grow gu
 have bgu:=bg11.grow gu
 refine ⟨_,_,_,cell_add bcu rfl,?_⟩
 refine ⟨fun P2 N2 C2 I v z=> ∃ (i:Nat) (hh:List (Bool × Sl)),I=i∧i≤c2.length∧z=c2.length - i∧N2=(trS al (c2.take i)).length∧Grow u v∧Row 2 stH ty_api_Step v P2 C2 hh∧StV v hh (trS al (c2.take i))∧(∀j,blk P2=some j→u.heap.size≤j)∧∀j,rfoot (hh.map (·.2)) j→u.heap.size≤j∧blk P2≠some j,
  ⟨_,0,[],rfl,Nat.zero_le _,rfl,rfl,Mod.refl _,Row.nil _ _ _ _,StV.nil,fun j hj=>by simp [blk] at hj,fun j ⟨s,hs,_⟩=>by simp at hs⟩,?_⟩
 rintro P2 N2 C2 I v z _ ⟨i,hh,rfl,hi2,rfl,rfl,gv,o2,sv,fp,fr⟩
 have Gv:=Gu.trans gv
 have hl2:(trS al (c2.take i)).length=i:=by unfold trS;rw [List.length_map,List.length_take];omega
 have hhl:=sv.len
 have zv:=gv.size
 refine cnd_i (fun r=> ?_) (fun r=> ?_)
 · have r:i<c2.length:=by simpa using r
   obtain ⟨q1,q2⟩:=rs_lt hr2 r
   have hmem:=mem_st q1
   have hcl4:=clB_all (mayP_all hmy _ hmem)
   refine (v2.grow Gv).ix 0 (by omega) rfl (by omega) fun a ha=> ⟨_,ha,?_⟩
   rw [Int.toNat_natCast,← q2]
   refine hl.ix Gv rfl q1 fun a1 s1 hcA1 h11 h12 h13=> ⟨_,_,_,CellsAt.get (hcA1 v Gv) 1 _ rfl,?_⟩
   refine (clone_ok (h13.grow Gv) h11 (by omega)).mono ?_
   rintro e51 w51 ⟨q51,d51,rfl,o51,g51,f51⟩
   refine ⟨_,_,_,rfl,?_⟩
   intro n53 w54 h54
   have e53:=h54.num
   have g54:=g51.trans h54.mod
   have z51:=g51.size
   have z54:=h54.mod.size
   have o54:=o51.grow h54.mod
   have hP2:=o2.lt
   refine Row.app stHenc sl_step (o2.grow g54) (has_vrS (x:=(false,⟨q51,(stA al (c2.getD i 0)).2.length,d51⟩)) h54.has) (by omega) rfl (by simp;omega) fun w55 p' c' o55 m55 hp' hz'=> ?_
   have fr': ∀j,rfoot ((hh++ [((false,⟨q51,(stA al (c2.getD i 0)).2.length,d51⟩):Bool × Sl)]).map (·.2)) j→u.heap.size≤j∧blk P2≠some j∧j<w54.heap.size:=fun j hj=>by
    rw [List.map_append] at hj
    rcases rfoot_app.1 hj with hj| ⟨s,hs,_,hb⟩
    · have:=(sv.grow g54).v.lt j hj
      exact ⟨(fr j hj).1,(fr j hj).2,this⟩
    · have hs:s=⟨q51,(stA al (c2.getD i 0)).2.length,d51⟩:=by simpa using hs
      subst hs
      have:=f51 j hb
      have:=o54.lt j hb
      exact ⟨by omega,fun e=>by have:=hP2 j e;omega,by omega⟩
   refine ⟨_,by omega,i+1,_,wN (by omega) (by omega),r,rfl,?_,(gv.trans g54).then m55 fun j hj e=>by have:=fp j e;omega,o55,?_,fun j hj=> ?_,fun j hj=> ?_⟩
   · rw [trS_snoc r,List.length_append,List.length_append,hhl];rfl
   · rw [trS_snoc r]
     exact ((sv.grow g54).app (StV.one (x:=(false,(stA al (c2.getD i 0)).2)) (s:=⟨q51,(stA al (c2.getD i 0)).2.length,d51⟩) o54.vw rfl (Nat.le_trans hcl4.2 (by unfold maxLen;omega)))).keep m55 fun j hj e=> (fr' j hj).2.1 e
   · rcases hp' with rfl|rfl
     · exact fp j hj
     · have:=blk_some hj;omega
   · obtain ⟨a1,a2,a3⟩:=fr' j hj
     refine ⟨a1,fun e=> ?_⟩
     rcases hp' with rfl|rfl
     · exact a2 e
     · have:=blk_some e;omega
 · have r:i=c2.length:=by simp at r;omega
   subst r
   rw [List.take_length] at sv hl2
   refine ⟨_,_,_,_,cells2 (bu.grow gv),?_⟩
   refine store_i (bgu.grow gv) rfl rfl fun w59 b59 m59=> ⟨_,_,_,_,cells2 b59,k,P,C,P2,C2,0,ks,c1.map (clA cs),trS al c2,by rw [List.take_length],hE,((ov.grow gv).keep m59 fun j hj e=>by have:=fo j hj;omega).v2,(sv.keep m59 fun j hj e=>by have:=(fr j hj).1;omega).sv ((o2.keep m59 fun j hj e=>by have:=fp j hj;omega).vr stHenc),Gv.then m59 fun j hj e=>by omega,fun h=>absurd rfl h,fun _=> ⟨rfl,rfl,rfl⟩⟩
end Go.Proofs.YtenmibfmhccmiaaGreat.W
namespace Go.Proofs.YtenmibfmhccmiaaGreat.W
open Go Go.Fw Go.RowKit Go.SoP Go.LiP
variable {W w w' w0 w2 w3 u:World} {p q p1 p2:Option Addr} {n m d i c t n1 n2 d1 d2:Nat} {k:Int} {hs tl:List Sl} {cs:List (List Int)} {l c1 c2:List Int} {ss:List So} {al bl:List Stp}
theorem pv_core: ∀ {bl:List Stp} {cs:List (List Int)},(∀j,j<bl.length→(bl.getD j st0).1=false∧uB (cs++ (bl.take j).map (·.2)) (bl.getD j st0).2)→(∃j,j<bl.length∧(bl.getD j st0).2= [])→(pvP cs bl).2=0∧(pvP cs bl).1<bl.length
 | [],_,_,⟨j,hj,_⟩=>by simp at hj
 |s::l,cs,h,⟨j,hj,hj2⟩=>by
  obtain ⟨h1,h2⟩:=h 0 (by simp)
  have h1:s.1=false:=h1
  have h2:uB cs s.2:=by simpa using h2
  obtain ⟨a1,a2,_⟩:=step_add (k:=0) h1 (.inl h2)
  rw [pvP,if_neg (by rw [a1];simp)]
  by_cases e:s.1=false∧s.2= []
  · rw [if_pos e];exact ⟨rfl,by simp⟩
  · rw [if_neg e,a2]
    have hj0:j≠0:=fun e2=>by subst e2;exact e ⟨h1,hj2⟩
    obtain ⟨j',rfl⟩: ∃j',j=j'+1:=⟨j - 1,by omega⟩
    have ih:=pv_core (bl:=l) (cs:=cs++ [s.2]) (fun i hi=>by
     obtain ⟨b1,b2⟩:=h (i+1) (by simp;omega)
     rw [List.getD_cons_succ] at b1 b2
     rw [List.take_succ_cons,List.map_cons] at b2
     exact ⟨b1,by rw [List.append_assoc];exact b2⟩) ⟨j',by simpa using hj,by simpa using hj2⟩
    refine ⟨ih.1,?_⟩
    rw [List.length_cons]
    have:=ih.2
    show (pvP (cs++ [s.2]) l).1+1<_
    omega
theorem natI_getD {K:List Nat} {j:Nat}:(natI K).getD j 0=((K.getD j 0:Nat):Int):=nat_map_get
theorem rs_nat {K:List Nat} {n:Nat} (h1:K.Pairwise (·< ·)) (h2: ∀j∈K,j<n):rsP n (natI K):=by
 intro i hi
 rw [natI_len] at hi
 rw [natI_getD,natI_getD]
 have hm:K.getD i 0∈K:=by simp [List.getD,hi]
 have:=h2 _ hm
 refine ⟨by omega,by omega,fun h0=> ?_⟩
 have hp:=List.pairwise_iff_getElem.1 h1 (i - 1) i (by omega) hi (by omega)
 have e1:K.getD i 0=K[i]:=by simp [List.getD,hi]
 have e2:K.getD (i - 1) 0=K[i - 1]'(by omega):=by simp [List.getD,show i - 1<K.length by omega]
 rw [e1,e2];omega
theorem cor_nat {C T:List Nat} {j:Nat}:corHI cs al (natI C) (natI T) j=corH cs al C T j:=by
 unfold corHI corH natI
 rw [← List.map_take,List.map_map,List.map_map]
 rfl
theorem found_ok {t:Nat} (hcn:cnfB k cs=true) (hmy:mayP al=true) (ht:EndAt al t) (hp: ∀i,i≤t→(al.getD i st0).1=true∨uB ((ahd cs al i).map (·.1)) (al.getD i st0).2):
 MayC k cs al (natI (corC cs al t)) (natI (corS cs al t))∧CorOk cs al (natI (corC cs al t)) (natI (corS cs al t)):=by
 have htl:=ht.1
 refine ⟨⟨⟨hcn,hmy⟩,rs_nat corC_ris fun j hj=> (mem_corC.1 hj).1,rs_nat corS_ris fun j hj=>by have:=(mem_corS.1 hj).1;omega,fun j hj=> ?_⟩,fun j hj=> ?_,?_⟩
 · rw [natI_len] at hj
   have hm:(corS cs al t).getD j 0∈corS cs al t:=by simp [List.getD,hj]
   rw [natI_getD]
   unfold stA
   rw [Int.toNat_natCast]
   rcases ndF_ok ht _ (mem_corS.1 hm).2 with ⟨a,_,e⟩| ⟨a,_,hd,e⟩
   · cases e
   · have e:=(Prod.mk.inj e).2
     have:(corS cs al t).getD j 0=a:=by omega
     rw [this];exact hd
 · rw [natI_len] at hj
   rw [cor_nat,natI_getD]
   unfold stA
   rw [Int.toNat_natCast]
   exact cor_uB ht hp hj
 · obtain ⟨j,hj,e⟩:=List.mem_iff_getElem.1 (corS_end (cs:=cs) (al:=al) (t:=t))
   refine ⟨j,by rw [natI_len];exact hj,?_⟩
   rw [natI_getD]
   unfold stA
   rw [Int.toNat_natCast]
   have:(corS cs al t).getD j 0=t:=by simp [List.getD,hj,e]
   rw [this];exact ht.2.1.2
theorem trS_len:(trS al c2).length=c2.length:=by unfold trS;rw [List.length_map]
theorem trS_get {j:Nat} (h:j<c2.length):(trS al c2).getD j st0=(false,(stA al (c2.getD j 0)).2):=getD_map1 _ _ _ _ _ h
theorem core_pv (h:CorOk cs al c1 c2):(pvP (c1.map (clA cs)) (trS al c2)).2=0∧(pvP (c1.map (clA cs)) (trS al c2)).1< (trS al c2).length:=by
 refine pv_core (fun j hj=> ?_) ?_
 · rw [trS_len] at hj
   rw [trS_get hj]
   refine ⟨rfl,?_⟩
   have e:((trS al c2).take j).map (·.2)=(c2.take j).map fun v=> (stA al v).2:=by
    unfold trS
    rw [← List.map_take,List.map_map];rfl
   rw [e]
   exact h.1 j hj
 · obtain ⟨j,hj,e⟩:=h.2
   exact ⟨j,by rw [trS_len];exact hj,by rw [trS_get hj];exact e⟩
theorem DratTrims_calls {e:Nat} (hc:V2 (Value.int .i64) w p hs cs) (hn:n=cs.length) (hl:SV w q al) (hm:m=al.length) (hme:m≤e):
 Calls Tryz.prog fathomlaw08_DratTrims.id #[.agg #[.int .i64 k,.slice p n d],.slice q m e] w fun e w'=>e= .returned (.bool true)∧Grow w w':=by
 subst hn hm
 refine fathomlaw08_DratTrims.calls ?_
 intro n1 w2 h2
 refine ⟨_,_,_,_,cells2 h2.has,(small8_ok (hc.grow h2.mod) rfl (hl.grow h2.mod) rfl).mono ?_⟩
 rintro e5 w5 ⟨r,rfl,hsm,g5⟩
 have G5:=h2.mod.trans g5
 have b5:=h2.has.grow g5
 refine ⟨_,rfl,cnd_i (fun _=>awk8 G5) (fun rs=> ?_)⟩
 obtain ⟨h40,h20⟩:=hsm (by simpa using rs)
 refine ⟨_,_,_,_,cells2 b5,(may8_ok (hc.grow G5) rfl (hl.grow G5) rfl (by omega)).mono ?_⟩
 rintro e11 w11 ⟨rfl,g11⟩
 have G11:=G5.trans g11
 have b11:=b5.grow g11
 refine ⟨_,rfl,?_⟩
 cases hmm:(cnfB k cs && mayP al) with
 |false=>exact cnd_t rfl (awk8 G11)
 |true=>
 rw [Bool.and_eq_true] at hmm
 obtain ⟨hcn,hmy⟩:=hmm
 have hk:=cnf_k hcn
 have hL:=cnf_lits hcn
 refine cnd_f rfl ⟨_,cell_add b11 rfl,cnd_i (fun _=>awk8 G11) (fun r8=> ?_)⟩
 have h8:k≤8:=by rw [decide_eq_false_iff_not] at r8;omega
 obtain ⟨kn,rfl⟩: ∃kn:Nat,k=kn:=⟨k.toNat,by omega⟩
 refine ⟨_,_,_,_,cells2 b11,(find_ok (hc.grow G11) rfl h40 (hl.grow G11) rfl (by omega) hme).mono ?_⟩
 rintro e20 w20 ⟨p1,p2,c1,c2,E,A,B,rfl,hR,o1,o2,g20⟩
 have G20:=G11.trans g20
 have b20:=b11.grow g20
 refine ⟨_,_,_,_,_,_,_,rfl,?_⟩
 intro n24 w25 h25
 have e24:=h25.num
 refine store_i h25.has rfl rfl fun w26 b26 m26=> ?_
 have g26:Grow w20 w26:=h25.mod.then m26 fun j hj e=>by omega
 have G26:=G20.trans g26
 have b1:=b20.grow g26
 have i1:=o1.lt
 have i2:=o2.lt
 have v1:=((o1.grow h25.mod).keep m26 fun j hj e=>by have:=i1 j hj;omega).vw
 have v2:=((o2.grow h25.mod).keep m26 fun j hj e=>by have:=i2 j hj;omega).vw
 refine cnd_i (fun _=>awk8 G26) (fun rE=> ?_)
 have rE:E=0:=by simpa using rE
 subst rE
 rcases hR with ⟨_,h,_⟩| ⟨_,_,h,_⟩| ⟨_,t,ht,hpl,_,hA,hB⟩
 · cases h
 · cases h
 have hlA:A.length≤40:=by rw [hA];exact Nat.le_trans corC_len h40
 have hlB:B.length≤20:=by rw [hB];exact Nat.le_trans corS_len (by have:=ht.1;omega)
 refine ⟨_,_,_,_,cells2 b1,_,_,_,_,_,_,cells2 b26,(trim_ok (hc.grow G26) rfl h40 (hl.grow G26) rfl (by omega) v1 (natI_len _).symm (by omega) v2 (natI_len _).symm (by omega)).mono ?_⟩
 rintro e33 w33 ⟨g0,P,C,P2,C2,E',ks,rows,bl,rfl,hE',vg,sg,g33,hbad,hgood⟩
 obtain ⟨hmay,hco⟩:=found_ok (k:=(kn:Int)) hcn hmy ht hpl
 rw [← hA,← hB] at hmay hco
 have hE0:ChkR (kn:Int) cs al (natI A) (natI B) 0:= .inr (.inr ⟨hmay,hco,rfl⟩)
 obtain rfl:=hE'.uniq hE0
 obtain ⟨rfl,rfl,rfl⟩:=hgood rfl
 have G33:=G26.trans g33
 have b33:=b1.grow g33
 refine ⟨_,_,_,_,_,_,_,_,rfl,?_⟩
 intro n38 w39 h39
 have e38:=h39.num
 refine store_i h39.has rfl rfl fun w40 b40 m40=> ?_
 have g40:Grow w33 w40:=h39.mod.then m40 fun j hj e=>by omega
 have G40:=G33.trans g40
 have vg40:=vg.grow g40
 have sg40:=sg.grow g40
 have hlr:((natI A).map (clA cs)).length=A.length:=by rw [List.length_map,natI_len]
 have hlb:(trS al (natI B)).length=B.length:=by rw [trS_len,natI_len]
 have hsub: ∀c∈(natI A).map (clA cs),c∈cs:=fun c hc'=>by
  obtain ⟨y,hy,rfl⟩:=List.mem_map.1 hc'
  obtain ⟨j,hj,rfl⟩:=List.mem_iff_getElem.1 hy
  have:=(rs_lt hmay.2.1 hj).1
  simp only [List.getD_eq_getElem?_getD,List.getElem?_eq_getElem hj,Option.getD_some] at this
  exact getD_mem2 this
 have hcn2:cnfB (kn:Int) ((natI A).map (clA cs))=true:=by
  unfold cnfB
  rw [Bool.and_eq_true,decide_eq_true_eq,List.all_eq_true]
  refine ⟨⟨hk.1,hk.2,by omega⟩,fun c hc'=> ?_⟩
  rw [Bool.and_eq_true,List.all_eq_true]
  exact ⟨cnf_cl hcn c (hsub c hc'),fun x hx=>decide_eq_true ((hL c (hsub c hc')).2 x hx).2⟩
 have hmy2:mayP (trS al (natI B))=true:=by
  unfold mayP
  rw [List.all_eq_true]
  intro s hs
  unfold trS at hs
  obtain ⟨y,hy,rfl⟩:=List.mem_map.1 hs
  obtain ⟨j,hj,rfl⟩:=List.mem_iff_getElem.1 hy
  have:=(rs_lt hmay.2.2.1 hj).1
  simp only [List.getD_eq_getElem?_getD,List.getElem?_eq_getElem hj,Option.getD_some] at this
  exact mayP_all hmy (stA al (natI B)[j]) (mem_st this)
 have hpv:=core_pv hco
 refine ⟨_,_,_,_,cells2 b40,(rupProves_ok vg40 rfl (by omega) sg40 rfl (by omega)).mono ?_⟩
 rintro e43 w43 ⟨rfl,g43⟩
 rw [hcn2,hmy2]
 have g43':=g40.trans g43
 have vg43:=vg.grow g43'
 refine ⟨_,_,rfl,_,_,_,_,cells2 (b40.grow g43),(refSat7_ok (k:=kn) (by omega) vg43 rfl (by unfold maxLen;omega)).mono ?_⟩
 rintro e48 w48 ⟨q',m',c',r,rfl,hr,g48⟩
 have g48':=g43.trans g48
 have hrf:r=false:=by
  rw [← Bool.not_eq_true]
  intro e
  obtain ⟨i,_,hh⟩:=hr.1 e
  refine pv_true (nz_of fun c hc'=>hL c (hsub c hc')) (fun s hs x hx=> ?_) (mdl_asg _) (holds_hol hh) hpv.1
  exact litB_nz ((clB_all (mayP_all hmy2 s hs)).1 x hx)
 subst hrf
 simp only [Bool.and_self,if_true]
 refine ⟨_,_,_,_,rfl,cnd_t rfl (cnd_t (by rw [hpv.1];rfl) (cnd_t (decide_eq_true hpv.2) (cnd_t rfl ⟨_,_,_,cell_add (b40.grow g48') rfl,_,_,_,cell_add (b33.grow (g40.trans g48')) rfl,cnd_t ?_ (awk8 (G40.trans g48'))⟩)))⟩
 have:=corC_len (cs:=cs) (al:=al) (t:=t)
 rw [← hA] at this
 exact decide_eq_true (by omega)
theorem steps_of_rdc {v:Value} (h:RdV w (.sl (.cons .bool (.cons (.sl (.int .i64)) .nil))) v): ∃p n c al,v= .slice p n c∧n=al.length∧n≤c∧SV w p al:=by
 have h0:=h
 obtain ⟨p,n,c,al,rfl,hn,_,hs⟩:=steps_of_rd h
 refine ⟨p,n,c,al,rfl,hn,?_,hs⟩
 rcases h0 with e| ⟨a,len,cap,e,h1,h2,h3⟩
 · injection e with e1 e2 e3;omega
 · injection e with e1 e2 e3;omega
theorem DratTrims_law (v0 v1:Value) (W:World) (h0:RdV W (.cons (.int .i64) (.cons (.sl (.sl (.int .i64))) .nil)) v0) (h1:RdV W (.sl (.cons .bool (.cons (.sl (.int .i64)) .nil))) v1):Calls Tryz.prog fathomlaw08_DratTrims.id #[v0,v1] W fun e W'=>e= .returned (.bool true)∧Grow W W':=by
 obtain ⟨k,q,j,d,hs,cs,rfl,hj,_,hc,_⟩:=cnf_of_rd h0
 obtain ⟨p,n,c,al,rfl,hn,hx,ha⟩:=steps_of_rdc h1
 exact DratTrims_calls hc hj ha hn hx
end Go.Proofs.YtenmibfmhccmiaaGreat.W
