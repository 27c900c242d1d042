/- Layer 8: why places are no core. -/
import Derived.Test.YtenmibfmhccmiaaGreatDratE
set_option linter.unusedVariables false
set_option linter.unusedSimpArgs false
namespace Go.Proofs.YtenmibfmhccmiaaGreat.W
open Go Go.Fw Go.RowKit Go.SoP Go.LiP
variable {W w w' w0 w2 w3 u:World} {p q p1 p2:Option Addr} {n m d i c t n1 n2 d1 d2:Nat} {k:Int} {hs tl:List Sl} {cs:List (List Int)} {l c1 c2:List Int} {ss:List So} {al:List Stp}
def rsP (n:Nat) (l:List Int):Prop:= ∀i,i<l.length→0≤l.getD i 0∧l.getD i 0<n∧(0<i→l.getD (i - 1) 0<l.getD i 0)
theorem rising_ok {e:Nat} (hl:Vw (Value.int .i64) w q l) (hm:m=l.length) (hx:l.length≤1000) (hn:n≤1000000):Calls Tryz.prog drat_rising.id #[.slice q m e,.int .i64 (n:Int)] w fun e w'=> ∃r:Bool,e= .returned (.bool r)∧(r=true↔rsP n l)∧Grow w w':=by
 subst hm
 refine drat_rising.calls ?_
 refine ⟨fun I u z=> ∃i:Nat,I=i∧i≤l.length∧z=l.length - i∧Grow w u∧∀j,j<i→0≤l.getD j 0∧l.getD j 0<n∧(0<j→l.getD (j - 1) 0<l.getD j 0),⟨_,0,rfl,Nat.zero_le _,rfl,Mod.refl _,fun j hj=>by omega⟩,?_⟩
 rintro I u z _ ⟨i,rfl,hi,rfl,gu,hall⟩
 refine cnd_i (fun r=> ?_) (fun r=> ?_)
 · have r:i<l.length:=by simpa using r
   refine (hl.grow gu).ix 0 (by omega) rfl (by omega) fun a ha=> ⟨_,ha,?_⟩
   rw [Int.toNat_natCast]
   have no: ¬(0≤l.getD i 0∧l.getD i 0<n∧(0<i→l.getD (i - 1) 0<l.getD i 0))→∃r:Bool,Ending.returned (Value.bool false)= .returned (.bool r)∧(r=true↔rsP n l)∧Grow w u:=fun h=> ⟨false,rfl,⟨fun e=> (by cases e),fun e=>absurd (e i r) h⟩,gu⟩
   have next:(0≤l.getD i 0∧l.getD i 0<n∧(0<i→l.getD (i - 1) 0<l.getD i 0))→∃k3,k3<l.length - i∧∃i':Nat,IntKind.i64.wrap ((i:Int)+1)=i'∧i'≤l.length∧k3=l.length - i'∧Grow w u∧∀j,j<i'→0≤l.getD j 0∧l.getD j 0<n∧(0<j→l.getD (j - 1) 0<l.getD j 0):=fun h=>
    ⟨_,by omega,i+1,wN (by omega) (by omega),r,rfl,gu,fun j hj=>by
      by_cases e:j<i
      · exact hall j e
      · obtain rfl:j=i:=by omega
        exact h⟩
   refine cnd_i (fun r1=>no fun h=>by rw [decide_eq_true_eq] at r1;omega) (fun r1=>cnd_i (fun r2=>no fun h=>by rw [decide_eq_true_eq] at r2;omega) (fun r2=>cnd_i (fun r3=> ?_) (fun r3=> ?_)))
   · rw [decide_eq_true_eq] at r3
     rw [wrap64_of (x:=(i:Int) - 1) (by omega) (by omega)]
     refine (hl.grow gu).ix 0 (by omega) rfl (by omega) fun a2 ha2=> ⟨_,ha2,?_⟩
     rw [show ((i:Int) - 1).toNat=i - 1 by omega]
     refine cnd_i (fun r4=>no fun h=> ?_) (fun r4=>next ?_)
     · rw [decide_eq_true_eq] at r4;have:=h.2.2 (by omega);omega
     · rw [decide_eq_false_iff_not] at r1 r2 r4
       exact ⟨by omega,by omega,fun _=>by omega⟩
   · rw [decide_eq_false_iff_not] at r1 r2 r3
     exact next ⟨by omega,by omega,fun _=>by omega⟩
 · have r:i=l.length:=by simp at r;omega
   subst r
   exact ⟨true,rfl,⟨fun _=>hall,fun _=>rfl⟩,gu⟩
theorem refRising_ok {e:Nat} (hl:Vw (Value.int .i64) w q l) (hm:m=l.length) (hx:l.length≤1000) (hn:n≤1000000):Calls Tryz.prog fathomref08_rising.id #[.slice q m e,.int .i64 (n:Int)] w fun e w'=> ∃r:Bool,e= .returned (.bool r)∧(r=true↔rsP n l)∧Grow w w':=by
 subst hm
 refine fathomref08_rising.calls ?_
 refine ⟨fun I u z=> ∃i:Nat,I=i∧i≤l.length∧z=l.length - i∧Grow w u∧∀j,j<i→0≤l.getD j 0∧l.getD j 0<n∧(0<j→l.getD (j - 1) 0<l.getD j 0),⟨_,0,rfl,Nat.zero_le _,rfl,Mod.refl _,fun j hj=>by omega⟩,?_⟩
 rintro I u z _ ⟨i,rfl,hi,rfl,gu0,hall⟩
 refine cnd_i (fun r=> ?_) (fun r=> ?_)
 · have r:i<l.length:=by simpa using r
   have gu:=gu0.trans (dropG u)
   refine (hl.grow gu).ix 0 (by omega) rfl (by omega) fun a ha=> ⟨_,ha,?_⟩
   rw [Int.toNat_natCast]
   have no: ¬(0≤l.getD i 0∧l.getD i 0<n∧(0<i→l.getD (i - 1) 0<l.getD i 0))→∃r:Bool,Ending.returned (Value.bool false)= .returned (.bool r)∧(r=true↔rsP n l)∧Grow w u.drew:=fun h=> ⟨false,rfl,⟨fun e=> (by cases e),fun e=>absurd (e i r) h⟩,gu⟩
   have next:(0≤l.getD i 0∧l.getD i 0<n∧(0<i→l.getD (i - 1) 0<l.getD i 0))→∃k3,k3<l.length - i∧∃i':Nat,IntKind.i64.wrap ((i:Int)+1)=i'∧i'≤l.length∧k3=l.length - i'∧Grow w u.drew∧∀j,j<i'→0≤l.getD j 0∧l.getD j 0<n∧(0<j→l.getD (j - 1) 0<l.getD j 0):=fun h=>
    ⟨_,by omega,i+1,wN (by omega) (by omega),r,rfl,gu,fun j hj=>by
      by_cases e:j<i
      · exact hall j e
      · obtain rfl:j=i:=by omega
        exact h⟩
   refine cnd_i (fun r1=>no fun h=>by rw [decide_eq_true_eq] at r1;omega) (fun r1=> ?_)
   refine (hl.grow gu).ix 0 (by omega) rfl (by omega) fun a ha=> ⟨_,ha,?_⟩
   rw [Int.toNat_natCast]
   refine cnd_i (fun r2=>no fun h=>by rw [decide_eq_true_eq] at r2;omega) (fun r2=>cnd_i (fun r3=> ?_) (fun r3=> ?_))
   · rw [decide_eq_true_eq] at r3
     rw [wrap64_of (x:=(i:Int) - 1) (by omega) (by omega)]
     refine (hl.grow gu).ix 0 (by omega) rfl (by omega) fun a2 ha2=> ⟨_,ha2,?_⟩
     rw [show ((i:Int) - 1).toNat=i - 1 by omega]
     refine (hl.grow gu).ix 0 (by omega) rfl (by omega) fun a3 ha3=> ⟨_,ha3,?_⟩
     rw [Int.toNat_natCast]
     refine cnd_i (fun r4=>no fun h=> ?_) (fun r4=>next ?_)
     · rw [decide_eq_true_eq] at r4;have:=h.2.2 (by omega);omega
     · rw [decide_eq_false_iff_not] at r1 r2 r4
       exact ⟨by omega,by omega,fun _=>by omega⟩
   · rw [decide_eq_false_iff_not] at r1 r2 r3
     exact next ⟨by omega,by omega,fun _=>by omega⟩
 · have r:i=l.length:=by simp at r;omega
   subst r
   exact ⟨true,rfl,⟨fun _=>hall,fun _=>rfl⟩,gu0⟩
abbrev clA (cs:List (List Int)) (v:Int):List Int:=cs.getD v.toNat []
abbrev stA (al:List Stp) (v:Int):Stp:=al.getD v.toNat st0
def corHI (cs:List (List Int)) (al:List Stp) (c1 c2:List Int) (j:Nat):List (List Int):=c1.map (clA cs)++ (c2.take j).map fun v=> (stA al v).2
def CorOk (cs:List (List Int)) (al:List Stp) (c1 c2:List Int):Prop:=(∀j,j<c2.length→uB (corHI cs al c1 c2 j) (stA al (c2.getD j 0)).2)∧∃j,j<c2.length∧(stA al (c2.getD j 0)).2= []
def NoDel (al:List Stp) (c2:List Int):Prop:= ∀j,j<c2.length→(stA al (c2.getD j 0)).1=false
def MayC (k:Int) (cs:List (List Int)) (al:List Stp) (c1 c2:List Int):Prop:=(cnfB k cs=true∧mayP al=true)∧rsP cs.length c1∧rsP al.length c2∧NoDel al c2
def ChkR (k:Int) (cs:List (List Int)) (al:List Stp) (c1 c2:List Int) (E:Int):Prop:=(¬MayC k cs al c1 c2∧E=1)∨(MayC k cs al c1 c2∧¬CorOk cs al c1 c2∧E=7)∨(MayC k cs al c1 c2∧CorOk cs al c1 c2∧E=0)
theorem ChkR.uniq {E E':Int} (h:ChkR k cs al c1 c2 E) (h':ChkR k cs al c1 c2 E'):E=E':=by
 rcases h with ⟨a,rfl⟩| ⟨a,b,rfl⟩| ⟨a,b,rfl⟩<;>rcases h' with ⟨a',rfl⟩| ⟨a',b',rfl⟩| ⟨a',b',rfl⟩<;>first|rfl|exact absurd ‹_› ‹_›|exact absurd a' a|exact absurd a a'|exact absurd b' b|exact absurd b b'
theorem rs_lt (h:rsP n l) (hi:i<l.length):(l.getD i 0).toNat<n∧((l.getD i 0).toNat:Int)=l.getD i 0:=by
 have:=h i hi
 omega
theorem dcheck1_ent:entB Tryz.prog drat_Check_1.id=true:=by kernel_rfl
theorem nodel_ok {b e:Nat} {q2:Option Addr} {m2 e2:Nat} (hb:Has w b #[.slice q2 m2 e2]) (ha:SV w q2 al) (hm2:m2=al.length) (hl:Vw (Value.int .i64) w q l) (hm:m=l.length) (hx:l.length≤1000) (hr:rsP al.length l):
 Calls Tryz.prog slices_ContainsFunc_int_int.id #[.slice q m e,.func (.func drat_Check_1.id) #[] #[.pointer (some ⟨b,0,none⟩)]] w fun e w'=> ∃r:Bool,e= .returned (.bool r)∧(r=false↔NoDel al l)∧Grow w w':=by
 subst hm hm2
 refine slices_ContainsFunc_int_int.calls ((slices_IndexFunc_int_int.calls (R:=fun e w'=> ∃r:Int,e= .returned (.int .i64 r)∧(r<0↔NoDel al l)∧Grow w w') ?_).mono ?_)
 · refine ⟨fun I u z=> ∃i:Nat,I=i∧z=l.length - i∧i≤l.length∧Grow w u∧∀j,j<i→(stA al (l.getD j 0)).1=false,⟨_,0,rfl,rfl,by omega,Mod.refl w,fun j hj=>by omega⟩,?_⟩
   rintro I u z _ ⟨i,rfl,rfl,hi,g,hall⟩
   refine cnd_i (fun r=> ?_) (fun r=> ?_)
   · have r:i<l.length:=by simpa using r
     refine (hl.grow g).ix 0 (by omega) rfl (by omega) fun a ha'=> ⟨_,ha',?_⟩
     rw [Int.toNat_natCast,dcheck1_ent]
     show Calls _ _ _ _ _
     rw [args2w]
     obtain ⟨h1,h2⟩:=rs_lt hr r
     refine (drat_Check_1.calls (R:=fun e w'=>e= .returned (.bool (stA al (l.getD i 0)).1)∧w'=u) ?_).mono ?_
     · refine ⟨_,_,_,cell_of (hb.grow g) rfl,?_⟩
       rw [← h2]
       refine ha.ix g rfl h1 fun a s hc h1 h2' h3=> ⟨_,CellsAt.get (hc u g) 0 _ rfl,rfl,rfl⟩
     · rintro e9 _ ⟨rfl,rfl⟩
       refine ⟨_,rfl,cnd_i (fun r2=> ⟨_,rfl,⟨fun h=>by omega,fun h=>by rw [h i r] at r2;cases r2⟩,g⟩) (fun r2=> ⟨_,by omega,i+1,wN (by omega) (by omega),rfl,r,g,fun j hj=> ?_⟩)⟩
       by_cases e:j<i
       · exact hall j e
       · obtain rfl:j=i:=by omega
         exact r2
   · have r:i=l.length:=by simp at r;omega
     subst r
     exact ⟨_,rfl,⟨fun _=>hall,fun _=>by decide⟩,g⟩
 · rintro e1 w1 ⟨r,rfl,hr',g⟩
   refine ⟨_,rfl,_,rfl,?_,g⟩
   rw [decide_eq_false_iff_not,← hr']
   omega
theorem cells1 {b:Nat} {x:Value} (h:Has w b #[x]):w.cell? ⟨b,0,none⟩=some x:=cell_of h rfl
theorem check_ok {e:Nat} (hc:V2 (Value.int .i64) w p hs cs) (hn:n=cs.length) (hx:cs.length≤40) (hl:SV w q al) (hm:m=al.length) (hm2:m≤60) (v1:Vw (Value.int .i64) w p1 c1) (hn1:n1=c1.length) (hx1:n1≤60) (v2:Vw (Value.int .i64) w p2 c2) (hn2:n2=c2.length) (hx2:n2≤60):
 Calls Tryz.prog drat_Check.id #[.agg #[.int .i64 k,.slice p n d],.slice q m e,.agg #[.slice p1 n1 d1,.slice p2 n2 d2]] w fun e w'=> ∃E:Int,e= .returned (.int .i64 E)∧ChkR k cs al c1 c2 E∧Grow w w':=by
 subst hn hm hn1 hn2
 have no: ∀ {u:World},¬MayC k cs al c1 c2→Grow w u→∃E:Int,Ending.returned (Value.int .i64 1)= .returned (.int .i64 E)∧ChkR k cs al c1 c2 E∧Grow w u:=fun h g=> ⟨1,rfl,.inl ⟨h,rfl⟩,g⟩
 refine drat_Check.calls ?_
 intro nf w2 h2 nl w4 h4 nc w6 h6
 have ef:=h2.num
 have G6:=(h2.mod.trans h4.mod).trans h6.mod
 have bf:=(h2.has.grow h4.mod).grow h6.mod
 have bl:=h4.has.grow h6.mod
 have bc:=h6.has
 refine ⟨_,_,_,_,cells2 bf,(checkCnf_ok (hc.grow G6) rfl).mono ?_⟩
 rintro e9 w9 ⟨rfl,g9⟩
 have G9:=G6.trans g9
 refine ⟨_,rfl,?_⟩
 cases hcn:cnfB k cs with
 |false=>exact cnd_t rfl (no (fun h=>by have:=h.1.1;rw [hcn] at this;cases this) G9)
 |true=>
 refine cnd_f rfl ⟨_,_,_,cells1 (bl.grow g9),(traceCheck_ok (hl.grow G9) rfl (by omega)).mono ?_⟩
 rintro e12 w12 ⟨rfl,g12⟩
 have g12:=g9.trans g12
 have G12:=G6.trans g12
 refine ⟨_,rfl,?_⟩
 cases hmy:mayP al with
 |false=>exact cnd_t rfl (no (fun h=>by have:=h.1.2;rw [hmy] at this;cases this) G12)
 |true=>
 refine cnd_f rfl ⟨_,_,_,cell_add (bc.grow g12) rfl,_,_,_,cell_add (bf.grow g12) rfl,(rising_ok (v1.grow G12) rfl (by omega) (by omega)).mono ?_⟩
 rintro e16 w16 ⟨r16,rfl,hr16,g16⟩
 have g16:=g12.trans g16
 have G16:=G6.trans g16
 refine ⟨_,rfl,?_⟩
 cases r16 with
 |false=>exact cnd_t rfl (no (fun h=>by have:=hr16.2 h.2.1;cases this) G16)
 |true=>
 have hr1:=hr16.1 rfl
 refine cnd_f rfl ⟨_,_,_,cell_add (bc.grow g16) rfl,_,_,_,cells1 (bl.grow g16),(rising_ok (v2.grow G16) rfl (by omega) (by omega)).mono ?_⟩
 rintro e20 w20 ⟨r20,rfl,hr20,g20⟩
 have g20:=g16.trans g20
 have G20:=G6.trans g20
 refine ⟨_,rfl,?_⟩
 cases r20 with
 |false=>exact cnd_t rfl (no (fun h=>by have:=hr20.2 h.2.2.1;cases this) G20)
 |true=>
 have hr2:=hr20.1 rfl
 refine cnd_f rfl ⟨_,_,_,cell_add (bc.grow g20) rfl,(nodel_ok (bl.grow g20) (hl.grow G20) rfl (v2.grow G20) rfl (by omega) hr2).mono ?_⟩
 rintro e23 w23 ⟨r23,rfl,hr23,g23⟩
 have g23:=g20.trans g23
 have G23:=G6.trans g23
 refine ⟨_,rfl,?_⟩
 cases r23 with
 |true=>exact cnd_t rfl (no (fun h=>by have:=hr23.2 h.2.2.2;cases this) G23)
 |false=>
 have hnd:=hr23.1 rfl
 have hmay:MayC k cs al c1 c2:=⟨⟨hcn,hmy⟩,hr1,hr2,hnd⟩
 have bf23:=bf.grow g23
 have bl23:=bl.grow g23
 have bc23:=bc.grow g23
 have z23:=G23.size
 refine cnd_f rfl ⟨_,_,_,cell_add bc23 rfl,?_⟩
 refine ⟨fun P N C I u z=> ∃ (i:Nat) (ks:List Sl),I=i∧i≤c1.length∧z=c1.length - i∧i=N∧Grow w23 u∧Ow Sl.v ty_sl_int u P C ks∧VR (Value.int .i64) w ks ((c1.take i).map (clA cs))∧∀j,blk P=some j→w23.heap.size≤j,
  ⟨_,0,[],rfl,Nat.zero_le _,rfl,rfl,Mod.refl _,Ow.nil _ _ _,VR.nil,fun j hj=>by simp [blk] at hj⟩,?_⟩
 rintro P N C I u z _ ⟨i,ks,rfl,hi,rfl,rfl,gu,ok,vr,fo⟩
 have Gu:=G23.trans gu
 have hkl:=vr.n
 rw [List.length_map,List.length_take,Nat.min_eq_left hi] at hkl
 refine cnd_i (fun r=> ?_) (fun r=> ?_)
 · have r:i<c1.length:=by simpa using r
   obtain ⟨q1,q2⟩:=rs_lt hr1 r
   refine (v1.grow Gu).ix 0 (by omega) rfl (by omega) fun a ha=> ⟨_,ha,_,_,_,cell_add (bf23.grow gu) rfl,?_⟩
   rw [Int.toNat_natCast,← q2]
   refine (hc.grow Gu).ix (by omega) rfl (by omega) fun ad sl k1 k0 k2 k3 k4=> ⟨_,_,_,k1,?_⟩
   rw [Int.toNat_natCast] at k0 k2
   obtain ⟨_,_,r3⟩:=hc.r _ q1
   rw [← k0] at r3
   intro n37 w38 h38
   have e37:=h38.num
   have zu:=gu.size
   have z38:=h38.mod.size
   refine Ow.appV sl_sl_int (ok.grow h38.mod) (has_vw8 (sl:=sl) h38.has) hkl.symm rfl (fun _=>rfl) (by simp;omega) fun w39 p' c' o39 m39 hp' hz'=> ?_
   refine ⟨_,by omega,i+1,_,wN (by omega) (by omega),r,rfl,by simp [hkl],(gu.trans h38.mod).then m39 fun j hj e=>by have:=fo j e;omega,o39,?_,fun j hj=> ?_⟩
   · rw [take_snoc r 0,List.map_append]
     exact vr.app (VR.one (s:=sl) r3 k2 k3)
   · rcases hp' with rfl|rfl
     · exact fo j hj
     · have:=blk_some hj;omega
 have r:i=c1.length:=by simp at r;omega
 subst r
 rw [List.take_length] at vr
 refine ⟨_,_,_,_,cells2 (bf23.grow gu),_,_,_,cells1 (bl23.grow gu),(greatest_ok (p:=p) (n:=cs.length) (d:=d) (hl.grow Gu) rfl (by omega) (mayP_all hmy)).mono ?_⟩
 rintro e44 w44 ⟨rfl,g44⟩
 have g44':=gu.trans g44
 refine ⟨_,rfl,_,_,_,cell_add (bc23.grow g44') rfl,?_⟩
 refine ⟨fun P N C ends I u z=> ∃ (i:Nat) (ks:List Sl),I=i∧i≤c2.length∧z=c2.length - i∧N=(corHI cs al c1 c2 i).length∧Grow w23 u∧Ow Sl.v ty_sl_int u P C ks∧VR (Value.int .i64) w ks (corHI cs al c1 c2 i)∧(∀j,blk P=some j→w23.heap.size≤j)∧
  (∀j,j<i→uB (corHI cs al c1 c2 j) (stA al (c2.getD j 0)).2)∧(ends=true↔∃j,j<i∧(stA al (c2.getD j 0)).2= []),
  ⟨_,0,ks,rfl,Nat.zero_le _,rfl,by simp [corHI],g44',ok.grow g44,by simpa [corHI] using vr,fo,fun j hj=>by omega,⟨fun e=> (by cases e),fun ⟨j,hj,_⟩=>by omega⟩⟩,?_⟩
 clear vr ok fo hkl Gu hi
 rintro P N C ends I v z _ ⟨i,ks,rfl,hi,rfl,rfl,gv,ok,vr,fo,hall,hends⟩
 have Gv:=G23.trans gv
 have hkl:=vr.n
 have hhl:(corHI cs al c1 c2 i).length=c1.length+i:=by unfold corHI;rw [List.length_append,List.length_map,List.length_map,List.length_take];omega
 refine cnd_i (fun r=> ?_) (fun r=> ?_)
 · have r:i<c2.length:=by simpa using r
   obtain ⟨q1,q2⟩:=rs_lt hr2 r
   have hmem:=mem_st q1
   have hcl2:=mayP_all hmy _ hmem
   refine (v2.grow Gv).ix 0 (by omega) rfl (by omega) fun a ha=> ⟨_,ha,cnd_f (by simp;omega) ⟨_,_,_,cells1 (bl23.grow gv),?_⟩⟩
   rw [Int.toNat_natCast,← q2]
   refine hl.ix Gv rfl q1 fun a1 s1 hcA1 h11 h12 h13=> ⟨_,_,_,CellsAt.get (hcA1 v Gv) 1 _ rfl,?_⟩
   refine (rupUnit_ok (k:=gtV k al) ((vr.grow Gv).v2 ok.vw) rfl (by omega) (h13.grow Gv) h11 h12).mono ?_
   rintro e59 w59 ⟨r59,rfl,hr59,g59⟩
   have hcnf:cnfB (gtV k al) (corHI cs al c1 c2 i)=true:=cnf_any hcn hmy (by omega) (fun c hc'=>by
    unfold corHI at hc'
    rcases List.mem_append.1 hc' with h|h
    · obtain ⟨y,hy,rfl⟩:=List.mem_map.1 h
      obtain ⟨j,hj,rfl⟩:=List.mem_iff_getElem.1 hy
      have:=(rs_lt hr1 hj).1
      simp only [List.getD_eq_getElem?_getD,List.getElem?_eq_getElem hj,Option.getD_some] at this
      exact .inl (getD_mem2 this)
    · obtain ⟨y,hy,rfl⟩:=List.mem_map.1 h
      obtain ⟨j,hj,rfl⟩:=List.mem_iff_getElem.1 (List.mem_of_mem_take hy)
      have:=(rs_lt hr2 hj).1
      simp only [List.getD_eq_getElem?_getD,List.getElem?_eq_getElem hj,Option.getD_some] at this
      exact .inr (List.mem_map_of_mem (mem_st this)))
   refine ⟨_,rfl,cnd_i (fun r3=> ?_) (fun r3=> ?_)⟩
   · refine ⟨7,rfl,.inr (.inl ⟨hmay,fun h=> ?_,rfl⟩),Gv.trans g59⟩
     rw [hr59.2 ⟨hcnf,hcl2,h.1 i r⟩] at r3
     cases r3
   · have hu:=(hr59.1 (by simpa using r3)).2.2
     have gv59:=gv.trans g59
     refine ⟨_,_,_,cells1 (bl23.grow gv59),hl.ix (Gv.trans g59) rfl q1 fun a2 s2 hcA2 h21 h22 h23=> ⟨_,_,_,CellsAt.get (hcA2 w59 (Gv.trans g59)) 1 _ rfl,?_⟩⟩
     intro n64 w65 h65
     have e64:=h65.num
     have z59:=gv59.size
     have z65:=h65.mod.size
     refine Ow.appV sl_sl_int (ok.grow (g59.trans h65.mod)) (has_vw8 (sl:=s2) h65.has) hkl.symm rfl (fun _=>rfl) (by simp;omega) fun w66 p' c' o66 m66 hp' hz'=> ?_
     have g66:Grow w23 w66:=(gv59.trans h65.mod).then m66 fun j hj e=>by have:=fo j e;omega
     have eH:corHI cs al c1 c2 (i+1)=corHI cs al c1 c2 i++ [(stA al (c2.getD i 0)).2]:=by
      unfold corHI
      rw [take_snoc r 0,List.map_append,List.append_assoc];rfl
     have vr':VR (Value.int .i64) w (ks++ [s2]) (corHI cs al c1 c2 (i+1)):=by rw [eH];exact vr.app (VR.one (s:=s2) h23 h21 h22)
     have fo': ∀j,blk p'=some j→w23.heap.size≤j:=fun j hj=>by
      rcases hp' with rfl|rfl
      · exact fo j hj
      · have:=blk_some hj;omega
     have hall': ∀j,j<i+1→uB (corHI cs al c1 c2 j) (stA al (c2.getD j 0)).2:=fun j hj=>by
      by_cases e:j<i
      · exact hall j e
      · obtain rfl:j=i:=by omega
        exact hu
     have hN:(ks++ [s2]).length=(corHI cs al c1 c2 (i+1)).length:=vr'.n
     refine cnd_i (fun r4=> ?_) (fun r4=> ?_)
     · subst r4
       exact ⟨_,by omega,i+1,_,wN (by omega) (by omega),r,rfl,hN,g66,o66,vr',fo',hall',⟨fun _=> (hends.1 rfl).imp fun j h=> ⟨by omega,h.2⟩,fun _=>rfl⟩⟩
     · refine ⟨_,_,_,cells1 (bl23.grow g66),hl.ix (G23.trans g66) rfl q1 fun a3 s3 hcA3 h31 h32 h33=> ⟨_,_,_,CellsAt.get (hcA3 w66 (G23.trans g66)) 1 _ rfl,?_⟩⟩
       refine ⟨_,by omega,i+1,_,wN (by omega) (by omega),r,rfl,hN,g66,o66,vr',fo',hall',?_⟩
       rw [h31]
       constructor
       · intro h
         exact ⟨i,by omega,List.eq_nil_of_length_eq_zero (by have h:(((stA al (c2.getD i 0)).2.length:Nat):Int)=0:=by simpa using h
                                                             omega)⟩
       · rintro ⟨j,hj,h⟩
         by_cases e:j<i
         · rw [hends.2 ⟨j,e,h⟩] at r4;cases r4
         · obtain rfl:j=i:=by omega
           rw [h];rfl
 · have r:i=c2.length:=by simp at r;omega
   subst r
   refine cnd_i (fun r=> ⟨7,rfl,.inr (.inl ⟨hmay,fun h=> ?_,rfl⟩),Gv⟩) (fun r=> ⟨0,rfl,.inr (.inr ⟨hmay,⟨hall,hends.1 (by simpa using r)⟩,rfl⟩),Gv⟩)
   rw [hends.2 h.2] at r;cases r
end Go.Proofs.YtenmibfmhccmiaaGreat.W
namespace Go.Proofs.YtenmibfmhccmiaaGreat.W
open Go Go.Fw Go.RowKit Go.SoP Go.LiP
variable {W w w' w0 w2 w3 u:World} {p q p1 p2:Option Addr} {n m d i c t n1 n2 d1 d2:Nat} {k:Int} {hs tl:List Sl} {cs:List (List Int)} {l c1 c2:List Int} {ss:List So} {al:List Stp}
theorem refCheck8_ok {e:Nat} (hc:V2 (Value.int .i64) w p hs cs) (hn:n=cs.length) (hx:cs.length≤40) (hl:SV w q al) (hm:m=al.length) (hm2:m≤60) (v1:Vw (Value.int .i64) w p1 c1) (hn1:n1=c1.length) (hx1:n1≤60) (v2:Vw (Value.int .i64) w p2 c2) (hn2:n2=c2.length) (hx2:n2≤60)
 (hcn:cnfB k cs=true) (hmy:mayP al=true):
 Calls Tryz.prog fathomref08_Check.id #[.agg #[.int .i64 k,.slice p n d],.slice q m e,.agg #[.slice p1 n1 d1,.slice p2 n2 d2]] w fun e w'=> ∃E:Int,e= .returned (.int .i64 E)∧ChkR k cs al c1 c2 E∧Grow w w':=by
 subst hn hm hn1 hn2
 have no: ∀ {u:World},¬MayC k cs al c1 c2→Grow w u→∃E:Int,Ending.returned (Value.int .i64 1)= .returned (.int .i64 E)∧ChkR k cs al c1 c2 E∧Grow w u:=fun h g=> ⟨1,rfl,.inl ⟨h,rfl⟩,g⟩
 have hL:=cnf_lits hcn
 refine fathomref08_Check.calls ?_
 intro nf w2 h2 nc w4 h4
 have ef:=h2.num
 have G4:=h2.mod.trans h4.mod
 have bf:=h2.has.grow h4.mod
 have bc:=h4.has
 refine ⟨_,_,_,cell_add bc rfl,_,_,_,cell_add bf rfl,(refRising_ok (v1.grow G4) rfl (by omega) (by omega)).mono ?_⟩
 rintro e7 w7 ⟨r7,rfl,hr7,g7⟩
 have G7:=G4.trans g7
 refine ⟨_,rfl,?_⟩
 cases r7 with
 |false=>exact cnd_t rfl (no (fun h=>by have:=hr7.2 h.2.1;cases this) G7)
 |true=>
 have hr1:=hr7.1 rfl
 refine cnd_f rfl ⟨_,_,_,cell_add (bc.grow g7) rfl,(refRising_ok (v2.grow G7) rfl (by omega) (by omega)).mono ?_⟩
 rintro e10 w10 ⟨r10,rfl,hr10,g10⟩
 have g10:=g7.trans g10
 have G10:=G4.trans g10
 refine ⟨_,rfl,?_⟩
 cases r10 with
 |false=>exact cnd_t rfl (no (fun h=>by have:=hr10.2 h.2.2.1;cases this) G10)
 |true=>
 have hr2:=hr10.1 rfl
 refine cnd_f rfl ?_
 intro n12 w13 h13
 have e12:=h13.num
 have bf10:=bf.grow g10
 have bc10:=bc.grow g10
 have z10:=G10.size
 refine ⟨fun P N C I u z=> ∃ (i:Nat) (ks:List Sl),I=i∧i≤c1.length∧z=c1.length - i∧i=N∧Grow w10 u∧Ow Sl.v ty_sl_int u P C ks∧VR (Value.int .i64) w ks ((c1.take i).map (clA cs))∧∀j,blk P=some j→w10.heap.size≤j,
  ⟨_,0,[],rfl,Nat.zero_le _,rfl,rfl,h13.mod,New.empty h13,VR.nil,fun j hj=>by have:=blk_some hj;omega⟩,?_⟩
 rintro P N C I u z _ ⟨i,ks,rfl,hi,rfl,rfl,gu,ok,vr,fo⟩
 have hkl:=vr.n
 rw [List.length_map,List.length_take,Nat.min_eq_left hi] at hkl
 refine ⟨_,_,_,cell_add (bc10.grow gu) rfl,cnd_i (fun r=> ?_) (fun r=> ?_)⟩
 · have r:i<c1.length:=by simpa using r
   obtain ⟨q1,q2⟩:=rs_lt hr1 r
   have gd:=gu.trans (dropG u)
   have Gd:=G10.trans gd
   refine ⟨_,_,_,cell_add (bf10.grow gd) rfl,_,_,_,cell_add (bc10.grow gd) rfl,(v1.grow Gd).ix 0 (by omega) rfl (by omega) fun a ha=> ⟨_,ha,?_⟩⟩
   rw [Int.toNat_natCast,← q2]
   refine (hc.grow Gd).ix (by omega) rfl (by omega) fun ad sl k1 k0 k2 k3 k4=> ⟨_,_,_,k1,?_⟩
   rw [Int.toNat_natCast] at k0 k2
   obtain ⟨_,_,r3⟩:=hc.r _ q1
   rw [← k0] at r3
   intro n37 w38 h38
   have e37:n37=u.heap.size:=h38.num
   have zu:=gu.size
   have g38:Grow u w38:=(dropG u).trans h38.mod
   have z38:=g38.size
   refine Ow.appV sl_sl_int (ok.grow g38) (has_vw8 (sl:=sl) h38.has) hkl.symm rfl (fun _=>rfl) (by simp;omega) fun w39 p' c' o39 m39 hp' hz'=> ?_
   refine ⟨_,by omega,i+1,_,wN (by omega) (by omega),r,rfl,by simp [hkl],(gu.trans g38).then m39 fun j hj e=>by have:=fo j e;omega,o39,?_,fun j hj=> ?_⟩
   · rw [take_snoc r 0,List.map_append]
     exact vr.app (VR.one (s:=sl) r3 k2 k3)
   · rcases hp' with rfl|rfl
     · exact fo j hj
     · have:=blk_some hj;omega
 have r:i=c1.length:=by simp at r;omega
 subst r
 rw [List.take_length] at vr
 refine ⟨fun P N C fine ends I u z=> ∃ (i:Nat) (ks:List Sl),I=i∧i≤c2.length∧z=c2.length - i∧N=(corHI cs al c1 c2 i).length∧Grow w10 u∧Ow Sl.v ty_sl_int u P C ks∧VR (Value.int .i64) w ks (corHI cs al c1 c2 i)∧(∀j,blk P=some j→w10.heap.size≤j)∧
  (fine=true↔∀j,j<i→uB (corHI cs al c1 c2 j) (stA al (c2.getD j 0)).2)∧(ends=true↔∃j,j<i∧(stA al (c2.getD j 0)).2= [])∧∀j,j<i→(stA al (c2.getD j 0)).1=false,
  ⟨_,0,ks,rfl,Nat.zero_le _,rfl,by simp [corHI],gu,ok,by simpa [corHI] using vr,fo,⟨fun _ j hj=>by omega,fun _=>rfl⟩,⟨fun e=> (by cases e),fun ⟨j,hj,_⟩=>by omega⟩,fun j hj=>by omega⟩,?_⟩
 clear vr ok fo hkl hi
 rintro P N C fine ends I v z _ ⟨i,ks,rfl,hi,rfl,rfl,gv,ok,vr,fo,hfine,hends,hnd⟩
 have Gv:=G10.trans gv
 have hkl:=vr.n
 have hhl:(corHI cs al c1 c2 i).length=c1.length+i:=by unfold corHI;rw [List.length_append,List.length_map,List.length_map,List.length_take];omega
 refine ⟨_,_,_,cell_add (bc10.grow gv) rfl,cnd_i (fun r=> ?_) (fun r=> ?_)⟩
 · have r:i<c2.length:=by simpa using r
   obtain ⟨q1,q2⟩:=rs_lt hr2 r
   have hmem:=mem_st q1
   have hcl2:=mayP_all hmy _ hmem
   have hcl4:=clB_all hcl2
   refine ⟨_,_,_,cell_add (bc10.grow gv) rfl,(v2.grow Gv).ix 0 (by omega) rfl (by omega) fun a ha=> ⟨_,ha,?_⟩⟩
   rw [Int.toNat_natCast,← q2]
   refine hl.ix Gv rfl q1 fun a1 s1 hcA1 h11 h12 h13'=> ⟨_,_,_,_,hcA1 v Gv,?_⟩
   intro n46 w47 h47
   have e46:=h47.num
   refine store_i h47.has rfl rfl fun w48 b48 m48=> ⟨_,cell_add b48 rfl,?_⟩
   have g48:Grow v w48:=h47.mod.then m48 fun j hj e=>by omega
   have G48:=Gv.trans g48
   refine cnd_i (fun r2=>no (fun h=> ?_) G48) (fun r2=> ?_)
   · have:=h.2.2.2 i r
     rw [this] at r2;cases r2
   have hnd': ∀j,j<i+1→(stA al (c2.getD j 0)).1=false:=fun j hj=>by
    by_cases e:j<i
    · exact hnd j e
    · obtain rfl:j=i:=by omega
      exact r2
   have eH:corHI cs al c1 c2 (i+1)=corHI cs al c1 c2 i++ [(stA al (c2.getD i 0)).2]:=by
    unfold corHI
    rw [take_snoc r 0,List.map_append,List.append_assoc];rfl
   have vr':VR (Value.int .i64) w (ks++ [s1]) (corHI cs al c1 c2 (i+1)):=by rw [eH];exact vr.app (VR.one (s:=s1) h13' h11 h12)
   have hN:(ks++ [s1]).length=(corHI cs al c1 c2 (i+1)).length:=vr'.n
   have zv:=gv.size
   have hb1: ∀x,((x:Nat):Int)=0↔x=0:=fun x=>by omega
   have hempty:(((s1.n:Nat):Int)==0)=true↔(stA al (c2.getD i 0)).2= []:=by
    rw [beq_iff_eq,h11,hb1,List.length_eq_zero_iff]
   have more: ∀ {u:World} {f en:Bool},Grow w48 u→(f=true↔∀j,j<i+1→uB (corHI cs al c1 c2 j) (stA al (c2.getD j 0)).2)→(en=true↔∃j,j<i+1∧(stA al (c2.getD j 0)).2= [])→
    ∀ (n54:Nat) (w55:World),New (.cells #[.slice s1.p s1.n s1.c] 28) u n54 w55→∃w56:World,∃p' n' c',(Builtin.append_ #[22,22] 22 #[.slice P (corHI cs al c1 c2 i).length C,.slice (some (Addr.mk n54 0 none)) 1 1]).run Tryz.prog w55= .ok (.slice p' n' c') w56∧
      ∃k33,k33<c2.length - i∧∃ (i':Nat) (ks:List Sl),IntKind.i64.wrap ((i:Int)+1)=i'∧i'≤c2.length∧k33=c2.length - i'∧n'=(corHI cs al c1 c2 i').length∧Grow w10 w56∧Ow Sl.v ty_sl_int w56 p' c' ks∧VR (Value.int .i64) w ks (corHI cs al c1 c2 i')∧(∀j,blk p'=some j→w10.heap.size≤j)∧
      (f=true↔∀j,j<i'→uB (corHI cs al c1 c2 j) (stA al (c2.getD j 0)).2)∧(en=true↔∃j,j<i'∧(stA al (c2.getD j 0)).2= [])∧∀j,j<i'→(stA al (c2.getD j 0)).1=false:=by
    intro u f en gu hf he n54 w55 h55
    have e54:=h55.num
    have g55:=(g48.trans gu).trans h55.mod
    have z55:=g55.size
    have z48:=(g48.trans gu).size
    refine Ow.appV sl_sl_int (ok.grow g55) (has_vw8 (sl:=s1) h55.has) hkl.symm rfl (fun _=>rfl) (by simp;omega) fun w66 p' c' o66 m66 hp' hz'=> ?_
    refine ⟨_,by omega,i+1,_,wN (by omega) (by omega),r,rfl,hN,(gv.trans g55).then m66 fun j hj e=>by have:=fo j e;omega,o66,vr',fun j hj=> ?_,hf,he,hnd'⟩
    rcases hp' with rfl|rfl
    · exact fo j hj
    · have:=blk_some hj;omega
   have hendT:ends=true→(true=true↔∃j,j<i+1∧(stA al (c2.getD j 0)).2= []):=fun h=> ⟨fun _=> (hends.1 h).imp fun j h=> ⟨by omega,h.2⟩,fun _=>rfl⟩
   have hendF:ends=false→((((s1.n:Nat):Int)==0)=true↔∃j,j<i+1∧(stA al (c2.getD j 0)).2= []):=fun h=>by
    rw [hempty]
    constructor
    · exact fun h=> ⟨i,by omega,h⟩
    · rintro ⟨j,hj,h'⟩
      by_cases e:j<i
      · rw [hends.2 ⟨j,e,h'⟩] at h;cases h
      · obtain rfl:j=i:=by omega
        exact h'
   refine cnd_i (fun r3=> ?_) (fun r3=> ?_)
   · refine ⟨_,_,_,cell_add b48 rfl,?_⟩
     refine (refUnit7_ok ((vr.grow G48).v2 (ok.grow g48).vw) rfl (by omega) (fun c hc'=>by
      unfold corHI at hc'
      rcases List.mem_append.1 hc' with h|h
      · obtain ⟨y,hy,rfl⟩:=List.mem_map.1 h
        obtain ⟨j,hj,rfl⟩:=List.mem_iff_getElem.1 hy
        have:=(rs_lt hr1 hj).1
        simp only [List.getD_eq_getElem?_getD,List.getElem?_eq_getElem hj,Option.getD_some] at this
        exact fun x hx=> ((hL _ (getD_mem2 this)).2 x hx).1
      · obtain ⟨y,hy,rfl⟩:=List.mem_map.1 h
        obtain ⟨j,hj,rfl⟩:=List.mem_iff_getElem.1 (List.mem_of_mem_take hy)
        have:=(rs_lt hr2 hj).1
        simp only [List.getD_eq_getElem?_getD,List.getElem?_eq_getElem hj,Option.getD_some] at this
        exact (clB_all (mayP_all hmy _ (mem_st this))).1) (h13'.grow G48) h11 (by omega) hcl4.1).mono ?_
     rintro e51 w51 ⟨r51,rfl,hr51,g51⟩
     have hf:r51=true↔∀j,j<i+1→uB (corHI cs al c1 c2 j) (stA al (c2.getD j 0)).2:=by
      rw [hr51]
      constructor
      · intro h j hj
        by_cases e:j<i
        · exact hfine.1 r3 j e
        · obtain rfl:j=i:=by omega
          exact h
      · exact fun h=>h i (by omega)
     refine ⟨_,rfl,cnd_i (fun r4=> ⟨_,_,_,cell_add (b48.grow g51) rfl,more g51 hf (hendT r4)⟩) (fun r4=> ⟨_,_,_,cell_add (b48.grow g51) rfl,_,_,_,cell_add (b48.grow g51) rfl,more g51 hf (hendF r4)⟩)⟩
   · have hf:false=true↔∀j,j<i+1→uB (corHI cs al c1 c2 j) (stA al (c2.getD j 0)).2:=⟨fun e=> (by cases e),fun h=>by
      rw [hfine.2 fun j hj=>h j (by omega)] at r3;cases r3⟩
     exact cnd_i (fun r4=> ⟨_,_,_,cell_add b48 rfl,more (Mod.refl _) hf (hendT r4)⟩) (fun r4=> ⟨_,_,_,cell_add b48 rfl,_,_,_,cell_add b48 rfl,more (Mod.refl _) hf (hendF r4)⟩)
 · have r:i=c2.length:=by simp at r;omega
   subst r
   have hmay:MayC k cs al c1 c2:=⟨⟨hcn,hmy⟩,hr1,hr2,hnd⟩
   refine cnd_i (fun r=> ⟨7,rfl,.inr (.inl ⟨hmay,fun h=> ?_,rfl⟩),Gv⟩) (fun r=>cnd_i (fun r2=> ⟨7,rfl,.inr (.inl ⟨hmay,fun h=> ?_,rfl⟩),Gv⟩) (fun r2=> ⟨0,rfl,.inr (.inr ⟨hmay,⟨hfine.1 (by simpa using r),hends.1 (by simpa using r2)⟩,rfl⟩),Gv⟩))
   · rw [hfine.2 h.1] at r;cases r
   · rw [hends.2 h.2] at r2;cases r2
end Go.Proofs.YtenmibfmhccmiaaGreat.W
namespace Go.Proofs.YtenmibfmhccmiaaGreat.W
open Go Go.Fw Go.RowKit Go.SoP Go.LiP
variable {W w w' w0 w2 w3 u:World} {p q p1 p2:Option Addr} {n m d i c t n1 n2 d1 d2:Nat} {k:Int} {hs tl:List Sl} {cs:List (List Int)} {l c1 c2:List Int} {ss:List So} {al:List Stp}
def stH (x:Bool × Sl):List Value:= [.bool x.1,.slice x.2.p x.2.n x.2.c]
theorem stHenc:Enc 2 stH:=⟨fun _=>rfl,by omega,fun x v hv=>by
 simp only [stH,List.mem_cons,List.not_mem_nil,or_false] at hv
 rcases hv with rfl|rfl<;>rfl⟩
theorem sl_step:slOkN Tryz.prog ty_sl_api_Step ty_api_Step 2 32=true:=by kernel_rfl
structure StV (w:World) (hh:List (Bool × Sl)) (al:List Stp):Prop where
 b:hh.map (·.1)=al.map (·.1)
 v:VR (Value.int .i64) w (hh.map (·.2)) (al.map (·.2))
theorem StV.nil:StV w [] []:=⟨rfl,VR.nil⟩
theorem StV.len {hh:List (Bool × Sl)} (h:StV w hh al):hh.length=al.length:=by have:=congrArg List.length h.b;simpa using this
theorem StV.app {hh gg:List (Bool × Sl)} {bl:List Stp} (h:StV w hh al) (g:StV w gg bl):StV w (hh++gg) (al++bl):=⟨by rw [List.map_append,List.map_append,h.b,g.b],by rw [List.map_append,List.map_append];exact h.v.app g.v⟩
theorem StV.one {s:Sl} {x:Stp} (h:Vw (Value.int .i64) w s.p x.2) (hn:s.n=x.2.length) (hm:s.n≤maxLen):StV w [(x.1,s)] [x]:=⟨rfl,VR.one h hn hm⟩
theorem StV.keep {S:Nat→Prop} {hh:List (Bool × Sl)} (h:StV w hh al) (m:Mod S w w') (hS: ∀k,rfoot (hh.map (·.2)) k→¬S k):StV w' hh al:=⟨h.b,h.v.keep m hS⟩
theorem StV.grow {hh:List (Bool × Sl)} (h:StV w hh al) (m:Grow w w'):StV w' hh al:=h.keep m fun _ _=>id
theorem StV.sv {hh:List (Bool × Sl)} (h:StV w hh al) (o:Vr 2 stH w p hh):SV w p al:=by
 intro i hi
 have hn:=h.len
 obtain ⟨a,rfl,hc⟩:=o i (by omega)
 obtain ⟨h1,h2,h3⟩:=h.v.r i (by simpa using hi)
 rw [getD_map1 _ _ _ _ (false,Sl.nil) (by omega),getD_map1 _ _ _ _ st0 hi] at h1 h3
 rw [getD_map1 _ _ _ _ (false,Sl.nil) (by omega)] at h2
 have e1:hh.getD i (false,Sl.nil)=hh[i]:=by simp [List.getD,show i<hh.length by omega]
 have eb:(hh[i]'(by omega)).1=(al.getD i st0).1:=by
  have:=congrArg (fun l:List Bool=>l.getD i false) h.b
  rw [getD_map1 _ _ _ _ (false,Sl.nil) (by omega),getD_map1 _ _ _ _ st0 hi,e1] at this
  exact this
 rw [e1] at h1 h2 h3
 refine ⟨a,hh[i].2,rfl,?_,h1,h2,h3⟩
 rw [← eb]
 exact hc
theorem has_vrS {b:Nat} {x:Bool × Sl} (h:Has u b #[.bool x.1,.slice x.2.p x.2.n x.2.c]):Vr 2 stH u (some ⟨b,0,none⟩) [x]:=by
 intro j hj
 have:j=0:=by simpa using hj
 subst this
 exact ⟨_,rfl,cell_add2 h rfl,cell_add2 h rfl,trivial⟩
def trS (al:List Stp) (c2:List Int):List Stp:=c2.map fun v=> (false,(stA al v).2)
theorem trS_snoc {i:Nat} (h:i<c2.length):trS al (c2.take (i+1))=trS al (c2.take i)++ [(false,(stA al (c2.getD i 0)).2)]:=by unfold trS;rw [take_snoc h 0,List.map_append];rfl
theorem trim_ok {e:Nat} (hc:V2 (Value.int .i64) w p hs cs) (hn:n=cs.length) (hx:cs.length≤40) (hl:SV w q al) (hm:m=al.length) (hm2:m≤60) (v1:Vw (Value.int .i64) w p1 c1) (hn1:n1=c1.length) (hx1:n1≤60) (v2:Vw (Value.int .i64) w p2 c2) (hn2:n2=c2.length) (hx2:n2≤60):
 Calls Tryz.prog drat_Trim.id #[.agg #[.int .i64 k,.slice p n d],.slice q m e,.agg #[.slice p1 n1 d1,.slice p2 n2 d2]] w fun e w'=> ∃ (g0:Int) (P:Option Addr) (C:Nat) (P2:Option Addr) (C2:Nat) (E:Int) (ks:List Sl) (rows:List (List Int)) (bl:List Stp),
  e= .returned (.tuple #[.agg #[.int .i64 g0,.slice P rows.length C],.slice P2 bl.length C2,.int .i64 E])∧ChkR k cs al c1 c2 E∧V2 (Value.int .i64) w' P ks rows∧SV w' P2 bl∧Grow w w'∧(E≠0→g0=0∧rows= []∧bl= [])∧(E=0→g0=k∧rows=c1.map (clA cs)∧bl=trS al c2):=by
 subst hn hm hn1 hn2
 refine drat_Trim.calls ?_
 intro nf w2 h2 nc w4 h4 ng w6 h6
 have ef:=h2.num
 have ec:=h4.num
 have eg:=h6.num
 have z2:=h2.mod.size
 have z4:=h4.mod.size
 have G6:=(h2.mod.trans h4.mod).trans h6.mod
 have bf:=(h2.has.grow h4.mod).grow h6.mod
 have bc:=h4.has.grow h6.mod
 have bg:=h6.has
 refine ⟨_,_,_,_,cells2 bf,_,_,_,_,_,_,cells2 bc,(check_ok (hc.grow G6) rfl hx (hl.grow G6) rfl hm2 (v1.grow G6) rfl hx1 (v2.grow G6) rfl hx2).mono ?_⟩
 rintro e11 w11 ⟨E,rfl,hE,g11⟩
 have G11:=G6.trans g11
 refine ⟨_,rfl,cnd_i (fun r=> ?_) (fun r=> ?_)⟩
 · have r:E≠0:=by simpa using r
   refine store_i (bg.grow g11) rfl rfl fun w13 b13 m13=> ⟨_,_,_,_,cells2 b13,0,none,0,none,0,E,[],[],[],rfl,hE,V2.nil,fun i hi=>by simp at hi,G11.then m13 fun j hj e=>by omega,fun _=> ⟨rfl,rfl,rfl⟩,fun h=>absurd h r⟩
 have r:E=0:=by simpa using r
 subst r
 obtain ⟨hmay,hco⟩:MayC k cs al c1 c2∧CorOk cs al c1 c2:=by
  rcases hE with ⟨_,h⟩| ⟨_,_,h⟩| ⟨a,b,_⟩
  · cases h
  · cases h
  · exact ⟨a,b⟩
 obtain ⟨⟨hcn,hmy⟩,hr1,hr2,hnd⟩:=hmay
 have hL:=cnf_lits hcn
 have bf11:=bf.grow g11
 have bc11:=bc.grow g11
 have bg11:=bg.grow g11
 have z11:=G11.size
 have zg:=bg11.lt
 refine ⟨_,cell_add bf11 rfl,?_⟩
 intro n17 w18 h18
 have e17:=h18.num
 refine store_i h18.has rfl rfl fun w19 b19 m19=> ?_
 have g19:Grow w11 w19:=h18.mod.then m19 fun j hj e=>by omega
 have G19:=G11.trans g19
 have z19:=g19.size
 have i19:=b19.lt
 have bf19:=bf11.grow g19
 have bc19:=bc11.grow g19
 have bg19:=bg11.grow g19
 refine ⟨_,_,_,cell_add bc19 rfl,?_⟩
 refine ⟨fun I u z=> ∃ (i:Nat) (P:Option Addr) (C:Nat) (ks:List Sl),I=i∧i≤c1.length∧z=c1.length - i∧Mod (·=n17) w19 u∧Has u n17 #[.int .i64 k,.slice P ((c1.take i).map (clA cs)).length C]∧OV (Value.int .i64) ty_sl_int u P C ks ((c1.take i).map (clA cs))∧∀j,OV.foot P ks j→w19.heap.size≤j,
  ⟨_,0,none,0,[],rfl,Nat.zero_le _,rfl,Mod.refl _,b19,OV.nil,fun j hj=>by rcases hj with hj| ⟨s,hs,_⟩;simp [blk] at hj;simp at hs⟩,?_⟩
 rintro I u z _ ⟨i,P,C,ks,rfl,hi,rfl,mu,bu,ov,fo⟩
 have gu:Grow w11 u:=g19.then mu fun j hj e=>by omega
 have Gu:=G11.trans gu
 have hkl:=ov.v.n
 have hl1:((c1.take i).map (clA cs)).length=i:=by rw [List.length_map,List.length_take];omega
 have zu:=mu.size
 refine cnd_i (fun r=> ?_) (fun r=> ?_)
 · have r:i<c1.length:=by simpa using r
   obtain ⟨q1,q2⟩:=rs_lt hr1 r
   have gd:=dropG u
   refine (v1.grow Gu).ix 0 (by omega) rfl (by omega) fun a ha=> ⟨_,ha,Grow u,gd,_,_,_,fun v g=>cell_add (bu.grow g) rfl,_,_,_,fun v g=>cell_add ((bf11.grow gu).grow g) rfl,?_⟩
   rw [Int.toNat_natCast,← q2]
   refine (hc.grow Gu).ix (by omega) rfl (by omega) fun ad sl k1 k0 k2 k3 k4=> ⟨_,_,_,fun v g=>cell_keep (S:=fun _=>False) g k1 id,?_⟩
   rw [Int.toNat_natCast] at k0 k2 k4
   have hci:=hL _ (getD_mem2 q1)
   refine (clone_ok (k4.grow gd) k2 (by have:=hci.1;omega)).mono ?_
   rintro e33 w33 ⟨q33,d33,rfl,o33,g33,f33⟩
   have g33':=gd.trans g33
   refine ⟨_,_,_,rfl,g33',?_⟩
   intro n35 w36 h36
   have e35:=h36.num
   have g36:=g33'.trans h36.mod
   have z33:=g33'.size
   have zd:u.drew.heap.size=u.heap.size:=rfl
   have z36:=h36.mod.size
   have o36:=o33.grow h36.mod
   refine ⟨g36,OV.app sl_sl_int (ov.grow g36) (ns:= [⟨q33,(clA cs (c1.getD i 0)).length,d33⟩]) (nrows:= [clA cs (c1.getD i 0)]) (has_vw8 (sl:=⟨q33,(clA cs (c1.getD i 0)).length,d33⟩) h36.has) (VR.one o36.vw rfl (Nat.le_trans hci.1 (by unfold maxLen;omega))) hkl.symm rfl (fun j hj e=> ?_) (by simp;omega) fun w37 p' c' o37 m37 hp' hz'=> ?_⟩
   · obtain ⟨s,hs,_,hb⟩:=hj
     rw [List.mem_singleton] at hs
     subst hs
     have:=f33 j hb
     have:=ov.h.lt j e
     omega
   have b37:Has w37 n17 _:=(bu.grow g36).keep m37 fun e=>by have:=fo _ (.inl e);omega
   refine store_f b37 rfl rfl fun w39 b39 m39=> ?_
   have eL:(c1.take (i+1)).map (clA cs)=(c1.take i).map (clA cs)++ [clA cs (c1.getD i 0)]:=by rw [take_snoc r 0,List.map_append];rfl
   have fo': ∀j,OV.foot p' (ks++ [⟨q33,(clA cs (c1.getD i 0)).length,d33⟩]) j→w19.heap.size≤j:=fun j hj=>by
    rcases hj with hj|hj
    · rcases hp' with rfl|rfl
      · exact fo j (.inl hj)
      · have:=blk_some hj;omega
    · rcases rfoot_app.1 hj with hj| ⟨s,hs,_,hb⟩
      · exact fo j (.inr hj)
      · rw [List.mem_singleton] at hs
        subst hs
        have:=f33 j hb
        omega
   refine ⟨_,by omega,i+1,p',c',_,wN (by omega) (by omega),r,rfl,((mu.then g36 fun _ _ h=>h.elim).then m37 fun j hj e=>by have:=fo j (.inl e);omega).trans m39,?_,?_,fo'⟩
   · have:=o37.v.n
     rw [eL,← this];exact b39
   · rw [eL]
     exact o37.keep m39 fun j hj e=>by have:=fo' j hj;omega
 have r:i=c1.length:=by simp at r;omega
 subst r
 rw [List.take_length] at bu ov hl1
 have bfu:=bf11.grow gu
 have bcu:=bc11.grow gu
 have bgu:=bg11.grow gu
 refine ⟨_,_,_,cell_add bcu rfl,?_⟩
 refine ⟨fun P2 N2 C2 I v z=> ∃ (i:Nat) (hh:List (Bool × Sl)),I=i∧i≤c2.length∧z=c2.length - i∧N2=(trS al (c2.take i)).length∧Grow u v∧Row 2 stH ty_api_Step v P2 C2 hh∧StV v hh (trS al (c2.take i))∧(∀j,blk P2=some j→u.heap.size≤j)∧∀j,rfoot (hh.map (·.2)) j→u.heap.size≤j∧blk P2≠some j,
  ⟨_,0,[],rfl,Nat.zero_le _,rfl,rfl,Mod.refl _,Row.nil _ _ _ _,StV.nil,fun j hj=>by simp [blk] at hj,fun j ⟨s,hs,_⟩=>by simp at hs⟩,?_⟩
 rintro P2 N2 C2 I v z _ ⟨i,hh,rfl,hi2,rfl,rfl,gv,o2,sv,fp,fr⟩
 have Gv:=Gu.trans gv
 have hl2:(trS al (c2.take i)).length=i:=by unfold trS;rw [List.length_map,List.length_take];omega
 have hhl:=sv.len
 have zv:=gv.size
 refine cnd_i (fun r=> ?_) (fun r=> ?_)
 · have r:i<c2.length:=by simpa using r
   obtain ⟨q1,q2⟩:=rs_lt hr2 r
   have hmem:=mem_st q1
   have hcl4:=clB_all (mayP_all hmy _ hmem)
   refine (v2.grow Gv).ix 0 (by omega) rfl (by omega) fun a ha=> ⟨_,ha,?_⟩
   rw [Int.toNat_natCast,← q2]
   refine hl.ix Gv rfl q1 fun a1 s1 hcA1 h11 h12 h13=> ⟨_,_,_,CellsAt.get (hcA1 v Gv) 1 _ rfl,?_⟩
   refine (clone_ok (h13.grow Gv) h11 (by omega)).mono ?_
   rintro e51 w51 ⟨q51,d51,rfl,o51,g51,f51⟩
   refine ⟨_,_,_,rfl,?_⟩
   intro n53 w54 h54
   have e53:=h54.num
   have g54:=g51.trans h54.mod
   have z51:=g51.size
   have z54:=h54.mod.size
   have o54:=o51.grow h54.mod
   have hP2:=o2.lt
   refine Row.app stHenc sl_step (o2.grow g54) (has_vrS (x:=(false,⟨q51,(stA al (c2.getD i 0)).2.length,d51⟩)) h54.has) (by omega) rfl (by simp;omega) fun w55 p' c' o55 m55 hp' hz'=> ?_
   have fr': ∀j,rfoot ((hh++ [((false,⟨q51,(stA al (c2.getD i 0)).2.length,d51⟩):Bool × Sl)]).map (·.2)) j→u.heap.size≤j∧blk P2≠some j∧j<w54.heap.size:=fun j hj=>by
    rw [List.map_append] at hj
    rcases rfoot_app.1 hj with hj| ⟨s,hs,_,hb⟩
    · have:=(sv.grow g54).v.lt j hj
      exact ⟨(fr j hj).1,(fr j hj).2,this⟩
    · have hs:s=⟨q51,(stA al (c2.getD i 0)).2.length,d51⟩:=by simpa using hs
      subst hs
      have:=f51 j hb
      have:=o54.lt j hb
      exact ⟨by omega,fun e=>by have:=hP2 j e;omega,by omega⟩
   refine ⟨_,by omega,i+1,_,wN (by omega) (by omega),r,rfl,?_,(gv.trans g54).then m55 fun j hj e=>by have:=fp j e;omega,o55,?_,fun j hj=> ?_,fun j hj=> ?_⟩
   · rw [trS_snoc r,List.length_append,List.length_append,hhl];rfl
   · rw [trS_snoc r]
     exact ((sv.grow g54).app (StV.one (x:=(false,(stA al (c2.getD i 0)).2)) (s:=⟨q51,(stA al (c2.getD i 0)).2.length,d51⟩) o54.vw rfl (Nat.le_trans hcl4.2 (by unfold maxLen;omega)))).keep m55 fun j hj e=> (fr' j hj).2.1 e
   · rcases hp' with rfl|rfl
     · exact fp j hj
     · have:=blk_some hj;omega
   · obtain ⟨a1,a2,a3⟩:=fr' j hj
     refine ⟨a1,fun e=> ?_⟩
     rcases hp' with rfl|rfl
     · exact a2 e
     · have:=blk_some e;omega
 · have r:i=c2.length:=by simp at r;omega
   subst r
   rw [List.take_length] at sv hl2
   refine ⟨_,_,_,_,cells2 (bu.grow gv),?_⟩
   refine store_i (bgu.grow gv) rfl rfl fun w59 b59 m59=> ⟨_,_,_,_,cells2 b59,k,P,C,P2,C2,0,ks,c1.map (clA cs),trS al c2,by rw [List.take_length],hE,((ov.grow gv).keep m59 fun j hj e=>by have:=fo j hj;omega).v2,(sv.keep m59 fun j hj e=>by have:=(fr j hj).1;omega).sv ((o2.keep m59 fun j hj e=>by have:=fp j hj;omega).vr stHenc),Gv.then m59 fun j hj e=>by omega,fun h=>absurd rfl h,fun _=> ⟨rfl,rfl,rfl⟩⟩
end Go.Proofs.YtenmibfmhccmiaaGreat.W
namespace Go.Proofs.YtenmibfmhccmiaaGreat.W
open Go Go.Fw Go.RowKit Go.SoP Go.LiP
variable {W w w' w0 w2 w3 u:World} {p q p1 p2:Option Addr} {n m d i c t n1 n2 d1 d2:Nat} {k:Int} {hs tl:List Sl} {cs:List (List Int)} {l c1 c2:List Int} {ss:List So} {al bl:List Stp}
theorem refSame4_ok {e:Nat} (ha:SV w p al) (hn:n=al.length) (hb:SV w q bl) (hm:m=bl.length) (hx:n≤1000):Calls Tryz.prog fathomref04_Same.id #[.slice p n d,.slice q m e] w fun e w'=> ∃r:Bool,e= .returned (.bool r)∧(al=bl→r=true)∧Grow w w':=by
 subst hn hm
 refine fathomref04_Same.calls (cnd_i (fun r=> ⟨false,rfl,fun h=> ?_,Mod.refl _⟩) (fun r=> ?_))
 · subst h;simp at r
 have hlen:al.length=bl.length:=by have:((al.length:Nat):Int)=bl.length:=by simpa using r
                                   omega
 refine ⟨fun I u z=> ∃i:Nat,I=i∧i≤al.length∧z=al.length - i∧Grow w u,⟨_,0,rfl,Nat.zero_le _,rfl,Mod.refl _⟩,?_⟩
 rintro I u z _ ⟨i,rfl,hi,rfl,gu0⟩
 refine cnd_i (fun r=> ?_) (fun r=> ⟨true,rfl,fun _=>rfl,gu0⟩)
 have r:i<al.length:=by simpa using r
 have gu:=gu0.trans (dropG u)
 refine ha.ix gu rfl r fun a1 s1 k1 h11 h12 h13=> ⟨_,CellsAt.get (k1 _ gu) 0 _ rfl,?_⟩
 refine hb.ix gu rfl (by omega) fun a2 s2 k2 h21 h22 h23=> ⟨_,CellsAt.get (k2 _ gu) 0 _ rfl,cnd_i (fun r1=> ⟨false,rfl,fun h=> ?_,gu⟩) (fun r1=> ?_)⟩
 · subst h;simp at r1
 refine ha.ix gu rfl r fun a3 s3 k3 h31 h32 h33=> ⟨_,_,_,CellsAt.get (k3 _ gu) 1 _ rfl,?_⟩
 refine hb.ix gu rfl (by omega) fun a4 s4 k4 h41 h42 h43=> ⟨_,_,_,CellsAt.get (k4 _ gu) 1 _ rfl,(refInts_ok (h33.grow gu) (h43.grow gu) h31 h41 h32).mono ?_⟩
 rintro e14 w14 ⟨rfl,g14⟩
 refine ⟨_,rfl,cnd_i (fun r2=> ⟨false,rfl,fun h=> ?_,gu.trans g14⟩) (fun r2=> ⟨_,by omega,i+1,wN (by omega) (by omega),r,rfl,gu.trans g14⟩)⟩
 subst h;simp at r2
theorem DratChecks_calls {e:Nat} (hc:V2 (Value.int .i64) w p hs cs) (hn:n=cs.length) (hl:SV w q al) (hm:m=al.length) (v1:Vw (Value.int .i64) w p1 c1) (hn1:n1=c1.length) (v2:Vw (Value.int .i64) w p2 c2) (hn2:n2=c2.length):
 Calls Tryz.prog fathomlaw08_DratChecks.id #[.agg #[.int .i64 k,.slice p n d],.slice q m e,.agg #[.slice p1 n1 d1,.slice p2 n2 d2]] w fun e w'=>e= .returned (.bool true)∧Grow w w':=by
 subst hn hm hn1 hn2
 refine fathomlaw08_DratChecks.calls ?_
 intro nf w2 h2 nc w4 h4
 have G4:=h2.mod.trans h4.mod
 have bf4:=h2.has.grow h4.mod
 refine ⟨_,_,_,_,cells2 bf4,(small8_ok (hc.grow G4) rfl (hl.grow G4) rfl).mono ?_⟩
 rintro e7 w7 ⟨r,rfl,hsm,g7⟩
 have G7:=G4.trans g7
 have bf7:=bf4.grow g7
 have bc7:=h4.has.grow g7
 refine ⟨_,rfl,cnd_i (fun _=>awk8 G7) (fun rs=> ⟨_,_,_,cell_add bc7 rfl,cnd_i (fun _=>awk8 G7) (fun r1=> ⟨_,_,_,cell_add bc7 rfl,cnd_i (fun _=>awk8 G7) (fun r2=> ?_)⟩)⟩)⟩
 obtain ⟨h40,h20⟩:=hsm (by simpa using rs)
 have hx1:c1.length≤60:=by rw [decide_eq_false_iff_not] at r1;omega
 have hx2:c2.length≤60:=by rw [decide_eq_false_iff_not] at r2;omega
 refine ⟨_,_,_,_,cells2 bf7,_,_,_,_,_,_,cells2 bc7,(check_ok (hc.grow G7) rfl h40 (hl.grow G7) rfl (by omega) (v1.grow G7) rfl hx1 (v2.grow G7) rfl hx2).mono ?_⟩
 rintro e21 w21 ⟨E,rfl,hE,g21⟩
 have G21:=G7.trans g21
 refine ⟨_,rfl,_,_,_,_,cells2 (bf7.grow g21),_,_,_,_,_,_,cells2 (bc7.grow g21),(trim_ok (hc.grow G21) rfl h40 (hl.grow G21) rfl (by omega) (v1.grow G21) rfl hx1 (v2.grow G21) rfl hx2).mono ?_⟩
 rintro e27 w27 ⟨g0,P,C,P2,C2,E',ks,rows,bl,rfl,hE',vg,sg,g27,hbad,hgood⟩
 obtain rfl:=hE.uniq hE'
 have G27:=G21.trans g27
 refine ⟨_,_,_,_,_,_,_,_,rfl,?_⟩
 intro n32 w33 h33
 have e32:=h33.num
 refine store_i h33.has rfl rfl fun w34 b34 m34=> ?_
 have g34:Grow w27 w34:=h33.mod.then m34 fun j hj e=>by omega
 have G34:=G27.trans g34
 have bf34:=((bf7.grow g21).grow g27).grow g34
 have bc34:=((bc7.grow g21).grow g27).grow g34
 have vg34:=vg.grow g34
 have sg34:=sg.grow g34
 refine ⟨fun u=>Grow w34 u,cnd_f (by simp) (cnd_i (fun r=> ?_) (fun r=>Mod.refl _)),?_⟩
 · have r:E≠0:=by simpa using r
   obtain ⟨rfl,rfl,rfl⟩:=hbad r
   refine ⟨_,_,_,_,cells2 b34,(refSame_ok vg34 (V2.nil (p:=none)) rfl rfl (Nat.zero_le _)).mono ?_⟩
   rintro e38 w38 ⟨rfl,g38⟩
   exact ⟨_,rfl,cnd_f (by simp) (cnd_f rfl g38)⟩
 intro w40 _ g40
 have G40:=G34.trans g40
 refine ⟨_,_,_,_,cells2 (bf34.grow g40),(may8_ok (hc.grow G40) rfl (hl.grow G40) rfl (by omega)).mono ?_⟩
 rintro e43 w43 ⟨rfl,g43⟩
 have g43:=g40.trans g43
 have G43:=G34.trans g43
 refine ⟨_,rfl,?_⟩
 cases hmm:(cnfB k cs && mayP al) with
 |false=>
  have:E=1:=by
   rcases hE with ⟨_,h⟩| ⟨a,_⟩| ⟨a,_⟩
   · exact h
   · rw [a.1.1,a.1.2] at hmm;cases hmm
   · rw [a.1.1,a.1.2] at hmm;cases hmm
  subst this
  exact cnd_t rfl (cnd_t rfl (awk8 G43))
 |true=>
 rw [Bool.and_eq_true] at hmm
 refine cnd_f rfl ⟨_,_,_,_,cells2 (bf34.grow g43),_,_,_,_,_,_,cells2 (bc34.grow g43),(refCheck8_ok (hc.grow G43) rfl h40 (hl.grow G43) rfl (by omega) (v1.grow G43) rfl hx1 (v2.grow G43) rfl hx2 hmm.1 hmm.2).mono ?_⟩
 rintro e51 w51 ⟨E2,rfl,hE2,g51⟩
 obtain rfl:=hE.uniq hE2
 have g51:=g43.trans g51
 have G51:=G34.trans g51
 refine ⟨_,rfl,cnd_f (by simp) (cnd_i (fun _=>awk8 G51) (fun r=> ?_))⟩
 have r:E=0:=by simpa using r
 subst r
 obtain ⟨rfl,rfl,rfl⟩:=hgood rfl
 obtain ⟨hmay,hco⟩:MayC g0 cs al c1 c2∧CorOk cs al c1 c2:=by
  rcases hE with ⟨_,h⟩| ⟨_,_,h⟩| ⟨a,b,_⟩
  · cases h
  · cases h
  · exact ⟨a,b⟩
 obtain ⟨_,hr1,hr2,hnd⟩:=hmay
 have bf51:=bf34.grow g51
 have bc51:=bc34.grow g51
 have b51:=b34.grow g51
 have z51:=G51.size
 refine ⟨_,cell_add bf51 rfl,?_⟩
 intro n56 w57 h57
 have e56:=h57.num
 refine store_i h57.has rfl rfl fun w58 b58 m58=> ?_
 have g58:Grow w51 w58:=h57.mod.then m58 fun j hj e=>by omega
 have i51:=b51.lt
 have z58:=g58.size
 have i58:=b58.lt
 refine ⟨fun I u z=> ∃ (i:Nat) (P:Option Addr) (C:Nat) (ks:List Sl),I=i∧i≤c1.length∧z=c1.length - i∧Mod (·=n56) w58 u∧Has u n56 #[.int .i64 g0,.slice P ((c1.take i).map (clA cs)).length C]∧Ow Sl.v ty_sl_int u P C ks∧VR (Value.int .i64) w ks ((c1.take i).map (clA cs))∧∀j,blk P=some j→w58.heap.size≤j,
  ⟨_,0,none,0,[],rfl,Nat.zero_le _,rfl,Mod.refl _,b58,Ow.nil _ _ _,VR.nil,fun j hj=>by simp [blk] at hj⟩,?_⟩
 rintro I u z _ ⟨i,P3,C3,ks3,rfl,hi,rfl,mu,bu,ow,vr,fo⟩
 have gu:Grow w51 u:=g58.then mu fun j hj e=>by omega
 have Gu:=G51.trans gu
 have hkl:=vr.n
 have hl1:((c1.take i).map (clA cs)).length=i:=by rw [List.length_map,List.length_take];omega
 have zu:=mu.size
 refine ⟨_,_,_,cell_add (bc51.grow gu) rfl,cnd_i (fun r=> ?_) (fun r=> ?_)⟩
 · have r:i<c1.length:=by simpa using r
   obtain ⟨q1,q2⟩:=rs_lt hr1 r
   have gd:=dropG u
   refine ⟨Grow u,gd,_,_,_,fun v g=>cell_add (bu.grow g) rfl,_,_,_,fun v g=>cell_add ((bf51.grow gu).grow g) rfl,_,_,_,fun v g=>cell_add ((bc51.grow gu).grow g) rfl,?_⟩
   refine (v1.grow Gu).ix 0 (by omega) rfl (by omega) fun a ha=> ⟨_,fun v g=>cell_keep (S:=fun _=>False) g ha id,?_⟩
   rw [Int.toNat_natCast,← q2]
   refine (hc.grow Gu).ix (by omega) rfl (by omega) fun ad sl k1 k0 k2 k3 k4=> ⟨_,_,_,fun v g=>cell_keep (S:=fun _=>False) g k1 id,?_⟩
   rw [Int.toNat_natCast] at k0 k2 k4
   obtain ⟨_,_,r3⟩:=hc.r _ q1
   rw [← k0] at r3
   intro n73 w74 h74
   have e73:n73=u.heap.size:=h74.num
   have g74:Grow u w74:=gd.trans h74.mod
   have z74:=g74.size
   refine ⟨g74,Ow.appV sl_sl_int (ow.grow g74) (has_vw8 (sl:=sl) h74.has) hkl.symm rfl (fun _=>rfl) (by simp;omega) fun w75 p' c' o75 m75 hp' hz'=> ?_⟩
   have b75:Has w75 n56 _:=(bu.grow g74).keep m75 fun e=>by have:=fo _ e;omega
   refine store_f b75 rfl rfl fun w77 b77 m77=> ?_
   have eL:(c1.take (i+1)).map (clA cs)=(c1.take i).map (clA cs)++ [clA cs (c1.getD i 0)]:=by rw [take_snoc r 0,List.map_append];rfl
   have fo': ∀j,blk p'=some j→w58.heap.size≤j:=fun j hj=>by
    rcases hp' with rfl|rfl
    · exact fo j hj
    · have:=blk_some hj;omega
   have vr':VR (Value.int .i64) w (ks3++ [sl]) ((c1.take (i+1)).map (clA cs)):=by rw [eL];exact vr.app (VR.one (s:=sl) r3 k2 k3)
   refine ⟨_,by omega,i+1,p',c',_,wN (by omega) (by omega),r,rfl,((mu.then g74 fun _ _ h=>h.elim).then m75 fun j hj e=>by have:=fo j e;omega).trans m77,?_,o75.keep m77 fun j hj e=>by have:=fo' j hj;omega,vr',fo'⟩
   rw [← vr'.n];exact b77
 have r:i=c1.length:=by simp at r;omega
 subst r
 rw [List.take_length] at bu vr hl1
 intro n78 w79 h79
 have e78:=h79.num
 have o79:Row 2 stH ty_api_Step w79 (some ⟨n78,0,none⟩) 0 []:=Row.of_some stHenc.len h79.at (Nat.le_refl _) (Nat.zero_le _) rfl rfl
 refine ⟨fun P2 N2 C2 I v z=> ∃ (i:Nat) (hh:List (Bool × Sl)),I=i∧i≤c2.length∧z=c2.length - i∧N2=(trS al (c2.take i)).length∧Grow u v∧Row 2 stH ty_api_Step v P2 C2 hh∧StV w hh (trS al (c2.take i))∧∀j,blk P2=some j→u.heap.size≤j,
  ⟨_,0,[],rfl,Nat.zero_le _,rfl,rfl,h79.mod,o79,StV.nil,fun j hj=>by have:=blk_some hj;omega⟩,?_⟩
 rintro P4 N4 C4 I v z _ ⟨i,hh,rfl,hi2,rfl,rfl,gv,o2,sv,fp⟩
 have Gv:=Gu.trans gv
 have hl2:(trS al (c2.take i)).length=i:=by unfold trS;rw [List.length_map,List.length_take];omega
 have hhl:=sv.len
 have zv:=gv.size
 have gv51:=gu.trans gv
 refine ⟨_,_,_,cell_add (bc51.grow gv51) rfl,cnd_i (fun r=> ?_) (fun r=> ?_)⟩
 · have r:i<c2.length:=by simpa using r
   obtain ⟨q1,q2⟩:=rs_lt hr2 r
   refine ⟨_,_,_,cell_add (bc51.grow gv51) rfl,(v2.grow Gv).ix 0 (by omega) rfl (by omega) fun a ha=> ⟨_,ha,?_⟩⟩
   rw [Int.toNat_natCast,← q2]
   refine hl.ix Gv rfl q1 fun a1 s1 hcA1 h11 h12 h13=> ⟨_,_,_,CellsAt.get (hcA1 v Gv) 1 _ rfl,?_⟩
   intro n92 w93 h93
   have e92:=h93.num
   have z93:=h93.mod.size
   refine Row.app stHenc sl_step (o2.grow h93.mod) (has_vrS (x:=(false,s1)) h93.has) (by omega) rfl (by simp;omega) fun w94 p' c' o94 m94 hp' hz'=> ?_
   refine ⟨_,by omega,i+1,_,wN (by omega) (by omega),r,rfl,?_,(gv.trans h93.mod).then m94 fun j hj e=>by have:=fp j e;omega,o94,?_,fun j hj=> ?_⟩
   · rw [trS_snoc r,List.length_append,List.length_append,hhl];rfl
   · rw [trS_snoc r]
     exact sv.app (StV.one (x:=(false,(stA al (c2.getD i 0)).2)) (s:=s1) h13 h11 h12)
   · rcases hp' with rfl|rfl
     · exact fp j hj
     · have:=blk_some hj;omega
 have r:i=c2.length:=by simp at r;omega
 subst r
 rw [List.take_length] at sv hl2 ⊢
 have gv34:=g51.trans gv51
 refine ⟨_,_,_,_,cells2 (b51.grow gv51),_,_,_,_,cells2 (bu.grow gv),(refSame_ok (vg34.grow gv34) ((vr.grow Gv).v2 (ow.grow gv).vw) rfl rfl (by rw [List.length_map];unfold maxLen;omega)).mono ?_⟩
 rintro e100 w100 ⟨rfl,g100⟩
 have g100':=gv34.trans g100
 refine ⟨_,rfl,cnd_t (by simp) ((refSame4_ok (sg34.grow g100') rfl (((sv.grow Gv).sv (o2.vr stHenc)).grow g100) rfl (by omega)).mono ?_)⟩
 rintro e102 w102 ⟨r102,rfl,hr,g102⟩
 obtain rfl:=hr rfl
 exact ⟨_,rfl,cnd_t rfl (awk8 (G34.trans (g100'.trans g102)))⟩
theorem steps_of_rdc {v:Value} (h:RdV w (.sl (.cons .bool (.cons (.sl (.int .i64)) .nil))) v): ∃p n c al,v= .slice p n c∧n=al.length∧n≤c∧SV w p al:=by
 have h0:=h
 obtain ⟨p,n,c,al,rfl,hn,_,hs⟩:=steps_of_rd h
 refine ⟨p,n,c,al,rfl,hn,?_,hs⟩
 rcases h0 with e| ⟨a,len,cap,e,h1,h2,h3⟩
 · injection e with e1 e2 e3;omega
 · injection e with e1 e2 e3;omega
theorem core_of_rd {v:Value} (h:RdV w (.cons (.sl (.int .i64)) (.cons (.sl (.int .i64)) .nil)) v): ∃p1 n1 d1 c1 p2 n2 d2 c2,v= .agg #[.slice p1 n1 d1,.slice p2 n2 d2]∧n1=c1.length∧Vw (Value.int .i64) w p1 c1∧n2=c2.length∧Vw (Value.int .i64) w p2 c2:=by
 obtain ⟨cs,rfl,x,y,rfl,hx,z,u,rfl,hz,rfl⟩:=h
 have hv: ∀ {z:List Value},Fw.Rd w (.sl (.int .i64)) z→∃s,z= [s]∧RdV w (.sl (.int .i64)) s:=fun hz=>by
  rcases hz with rfl| ⟨a',len',cap',rfl,g⟩
  · exact ⟨_,rfl,.inl rfl⟩
  · exact ⟨_,rfl,.inr ⟨a',len',cap',rfl,g⟩⟩
 obtain ⟨s,rfl,hs⟩:=hv hx
 obtain ⟨s2,rfl,hs2⟩:=hv hz
 obtain ⟨p1,n1,d1,c1,rfl,a1,_,_,a2⟩:=ints_of_rd' hs
 obtain ⟨p2,n2,d2,c2,rfl,b1,_,_,b2⟩:=ints_of_rd' hs2
 exact ⟨p1,n1,d1,c1,p2,n2,d2,c2,rfl,a1,a2,b1,b2⟩
theorem DratChecks_law (v0 v1 v2:Value) (W:World) (h0:RdV W (.cons (.int .i64) (.cons (.sl (.sl (.int .i64))) .nil)) v0) (h1:RdV W (.sl (.cons .bool (.cons (.sl (.int .i64)) .nil))) v1) (h2:RdV W (.cons (.sl (.int .i64)) (.cons (.sl (.int .i64)) .nil)) v2):Calls Tryz.prog fathomlaw08_DratChecks.id #[v0,v1,v2] W fun e W'=>e= .returned (.bool true)∧Grow W W':=by
 obtain ⟨k,q,j,d,hs,cs,rfl,hj,_,hc,_⟩:=cnf_of_rd h0
 obtain ⟨p,n,c,al,rfl,hn,hx,ha⟩:=steps_of_rdc h1
 obtain ⟨p1,n1,d1,c1,p2,n2,d2,c2,rfl,a1,a2,b1,b2⟩:=core_of_rd h2
 exact DratChecks_calls hc hj ha hn a2 a1 b2 b1
end Go.Proofs.YtenmibfmhccmiaaGreat.W
