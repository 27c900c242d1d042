/- Layer 37: cores, walked; the small formula's core. -/
import Derived.Test.YtbdghpjnifjlmaaGreatSolveA
import Derived.Test.YtbdghpjnifjlmaaGreatPfA
import Derived.Test.YtbdghpjnifjlmaaGreatLubyA
import Derived.Test.YtbdghpjnifjlmaaGreatRupC
import Derived.Test.YtbdghpjnifjlmaaGreatRupB
namespace Go.Proofs.YtbdghpjnifjlmaaGreat.W
open Go Go.Fw Go.RowKit Go.SoP Go.LiP
open Go.Proofs.Tryz (prog)
section
variable {W w w' w1 w2 u:World} {p q p1 p2:Option Addr} {n m d n1 n2 d1 d2:Nat} {k ver cf:Int} {hs:List Sl} {cs:List (List Int)} {mo:List Int} {al:List Stp}
theorem certCore_ok {b uni lrn:Int} {A:Int→Prop} {B:List Ps→Prop} (hc:V2 (Value.int .i64) w p hs cs) (hn:n=cs.length) (hx:cs.length≤40) (hcn:cnfB k cs=true)
 (hS: ∀u,Grow w u→Calls prog certify_Solve.id #[.agg #[.int .i64 k,.slice p n d],.agg #[.int .i64 b,.int .i64 uni,.int .i64 lrn]] u fun e v=> ∃ (ver:Int) (mp:Option Addr) (mn mc:Nat) (pp:Option Addr) (pn pc:Nat) (cf er:Int),e= .returned (.tuple #[.agg #[.int .i64 ver,.slice mp mn mc,.slice pp pn pc,.int .i64 cf],.int .i64 er])∧Grow u v∧
   ((er≠0∧A er)∨(er=0∧ver≠2∧A 4)∨(er=0∧ver=2∧∃pr:List Ps,PrV u.heap.size v pp pr∧pn=pr.length∧pn≤pc∧pn≤20000∧(∀x∈pr,x.2.2.length≤40)∧mayP (pr.map ppr)=true∧plainP cs (pr.map ppr)∧B pr))):
 Calls prog certify_Core.id #[.agg #[.int .i64 k,.slice p n d],.agg #[.int .i64 b,.int .i64 uni,.int .i64 lrn]] w fun e v=> ∃ (g0:Int) (P:Option Addr) (gn C:Nat) (P2:Option Addr) (bn C2:Nat) (E:Int),e= .returned (.tuple #[.agg #[.int .i64 g0,.slice P gn C],.slice P2 bn C2,.int .i64 E])∧Grow w v∧
  ((E≠0∧A E∧gn=0∧bn=0)∨(E=0∧g0=k∧∃ (pr:List Ps) (t:Nat) (ks:List Sl),EndAt (pr.map ppr) t∧B pr∧(∀i,i≤t→((pr.map ppr).getD i st0).1=true∨uB ((ahd cs (pr.map ppr) i).map (·.1)) ((pr.map ppr).getD i st0).2)∧
    gn=((natI (corC cs (pr.map ppr) t)).map (clA cs)).length∧bn=(trS (pr.map ppr) (natI (corS cs (pr.map ppr) t))).length∧V2 (Value.int .i64) v P ks ((natI (corC cs (pr.map ppr) t)).map (clA cs))∧SV v P2 (trS (pr.map ppr) (natI (corS cs (pr.map ppr) t)))∧
    CorOk cs (pr.map ppr) (natI (corC cs (pr.map ppr) t)) (natI (corS cs (pr.map ppr) t))∧mayP (pr.map ppr)=true)):=by
 refine certify_Core.calls ?_
 intro nf w2 h2 ns w4 h4 nr w6 h6
 have er0:=h6.num
 have z2:=h2.mod.size
 have z4:=h4.mod.size
 have z6:=h6.mod.size
 have G6:=(h2.mod.trans h4.mod).trans h6.mod
 have bf:=(h2.has.grow h4.mod).grow h6.mod
 have bs:=h4.has.grow h6.mod
 have br:=h6.has
 have ir:=br.lt
 refine ⟨_,_,_,_,cells2 bf,_,_,_,cells3 bs,(hS w6 G6).mono ?_⟩
 rintro e w12 ⟨ver,mp,mn,mc,pp,pn,pc,cf,er,rfl,g12,hP⟩
 refine ⟨_,_,_,_,_,_,_,_,_,rfl,fun n18 w19 h19=> ?_⟩
 have e18:=h19.num
 have z12:=g12.size
 refine store_i h19.has rfl rfl fun w20 b20 m20=> ?_
 have b20:Has w20 n18 #[.int .i64 ver,.slice mp mn mc,.slice pp pn pc,.int .i64 cf]:=b20
 have g20:Grow w12 w20:=h19.mod.then m20 fun j hj e=>by omega
 have k20:=g12.trans g20
 have G20:=G6.trans k20
 have bad: ∀ {E:Int},E≠0→A E→∃w21,StoreAt (Addr.mk nr 0 none) 0 [.int .i64 0,.slice none 0 0] w20 w21∧
  ∃x22 x23p x23n x23c,CellsAt w21 (Addr.mk nr 0 none) 0 [.int .i64 x22,.slice x23p x23n x23c]∧
  ∃ (g0:Int) (P:Option Addr) (gn C:Nat) (P2:Option Addr) (bn C2:Nat) (E':Int),Ending.returned (.tuple #[.agg #[.int .i64 x22,.slice x23p x23n x23c],.slice none 0 0,.int .i64 E])= .returned (.tuple #[.agg #[.int .i64 g0,.slice P gn C],.slice P2 bn C2,.int .i64 E'])∧Grow w w21∧
    ((E'≠0∧A E'∧gn=0∧bn=0)∨(E'=0∧g0=k∧∃ (pr:List Ps) (t:Nat) (ks:List Sl),EndAt (pr.map ppr) t∧B pr∧(∀i,i≤t→((pr.map ppr).getD i st0).1=true∨uB ((ahd cs (pr.map ppr) i).map (·.1)) ((pr.map ppr).getD i st0).2)∧
      gn=((natI (corC cs (pr.map ppr) t)).map (clA cs)).length∧bn=(trS (pr.map ppr) (natI (corS cs (pr.map ppr) t))).length∧V2 (Value.int .i64) w21 P ks ((natI (corC cs (pr.map ppr) t)).map (clA cs))∧SV w21 P2 (trS (pr.map ppr) (natI (corS cs (pr.map ppr) t)))∧
      CorOk cs (pr.map ppr) (natI (corC cs (pr.map ppr) t)) (natI (corS cs (pr.map ppr) t))∧mayP (pr.map ppr)=true)):=by
  intro E h0 hA
  refine store_i (br.grow k20) rfl rfl fun w21 b21 m21=> ⟨_,_,_,_,cells2 b21,_,_,_,_,_,_,_,_,rfl,G20.then m21 fun j hj e=>by omega,.inl ⟨h0,hA,rfl,rfl⟩⟩
 rcases hP with ⟨hne,hA⟩| ⟨rfl,hne,hA⟩| ⟨rfl,rfl,pr,hl,hpn,hpc,hp2,h40,hmy,hpl,hB⟩
 · exact cnd_t (by simpa using hne) (bad hne hA)
 · exact cnd_f rfl ⟨_,cell_add b20 rfl,cnd_t (by simpa using hne) (bad (by decide) hA)⟩
 have hlx: ∀u∈pr,u.2.2.length≤maxLen:=fun u hu=>by have:=h40 u hu;unfold maxLen;omega
 have hsv:=(hl.sv hlx).grow g20
 have h40': ∀x∈pr.map ppr,x.2.length≤40:=fun x hx=>by
  obtain ⟨u,hu,rfl⟩:=List.mem_map.1 hx
  exact h40 u hu
 have hml:pn=(pr.map ppr).length:=by rw [List.length_map];exact hpn
 refine cnd_f rfl ⟨_,cell_add b20 rfl,cnd_f rfl ⟨_,_,_,_,cells2 (bf.grow k20),_,_,_,cell_add b20 rfl,(find_ok (hc.grow G20) hn hx hsv hml hp2 h40' hpc).mono ?_⟩⟩
 rintro e w31 ⟨p1,p2,c1,c2,E,A1,B1,rfl,hR,o1,o2,g31⟩
 obtain ⟨t,ht,hup,rfl,rfl,rfl⟩: ∃t,EndAt (pr.map ppr) t∧(∀i,i≤t→((pr.map ppr).getD i st0).1=true∨uB ((ahd cs (pr.map ppr) i).map (·.1)) ((pr.map ppr).getD i st0).2)∧E=0∧A1=corC cs (pr.map ppr) t∧B1=corS cs (pr.map ppr) t:=by
  rcases hR with ⟨h,_⟩| ⟨_,h,_⟩| ⟨_,h⟩
  · exact absurd ⟨hcn,hmy⟩ h
  · exact absurd hpl h
  · exact h
 have htl:=ht.1
 rw [List.length_map] at htl
 obtain ⟨fo1,fo2⟩:=found_ok (k:=k) hcn hmy ht hup
 refine ⟨_,_,_,_,_,_,_,rfl,fun n35 w36 h36=> ?_⟩
 have e35:=h36.num
 refine store_i h36.has rfl rfl fun w37 b37 m37=> ?_
 have g37:Grow w31 w37:=h36.mod.then m37 fun j hj e=>by omega
 have k37:=g31.trans g37
 have G37:=G20.trans k37
 have i1:=o1.lt
 have i2:=o2.lt
 have v1:=((o1.grow h36.mod).keep m37 fun j hj e=>by have:=i1 j hj;omega).vw
 have v2:=((o2.grow h36.mod).keep m37 fun j hj e=>by have:=i2 j hj;omega).vw
 have l1:=corC_len (cs:=cs) (al:=pr.map ppr) (t:=t)
 have l2:=corS_len (cs:=cs) (al:=pr.map ppr) (t:=t)
 have l3:(corS cs (pr.map ppr) t).length≤20000:=by omega
 refine cnd_f rfl ⟨_,_,_,_,cells2 (bf.grow (k20.trans k37)),_,_,_,cell_add (b20.grow k37) rfl,_,_,_,_,_,_,cells2 b37,(trim_ok (k:=k) (hc.grow G37) hn hx (hsv.grow k37) hml hp2 v1 (natI_len _).symm (by omega) v2 (natI_len _).symm l3).mono ?_⟩
 rintro e w46 ⟨g0,P,C,P2,C2,E',ks,rows,bl,rfl,hE',hv,g46,hbad,hgood⟩
 obtain rfl:E'=0:=hE'.uniq (.inr (.inr ⟨fo1,fo2,rfl⟩))
 obtain ⟨rfl,rfl,rfl⟩:=hgood rfl
 have G46:=(k20.trans k37).trans g46
 refine ⟨_,_,_,_,_,_,_,_,rfl,store_i (br.grow G46) rfl rfl fun w51 b51 m51=> ⟨_,_,_,_,cells2 b51,_,_,_,_,_,_,_,_,rfl,(G6.trans G46).then m51 fun j hj e=>by omega,.inr ⟨rfl,rfl,pr,t,ks,ht,hB,hup,rfl,rfl,?_,?_,fo2,hmy⟩⟩⟩
 all_goals have z37:=(k20.trans k37).size
 · exact (hv _ _ m51 fun j hj=>by omega).1
 · exact (hv _ _ m51 fun j hj=>by omega).2
def SolF8:Prop:= ∀ {w:World} {q:Option Addr} {m d:Nat} {hs:List Sl},V2 (Value.int .i64) w q hs F8→m=F8.length→
 Calls prog cdcl_Solve.id #[.agg #[.int .i64 3,.slice q m d],.agg #[.int .i64 (-1),.int .i64 64,.int .i64 200]] w fun e w'=> ∃ (mp:Option Addr) (mc:Nat) (pp:Option Addr) (pc:Nat) (pr:List Ps) (cf de re dr:Int),e= .returned (.tuple #[.agg #[.int .i64 2,.slice mp 0 mc,.slice pp pr.length pc,.int .i64 cf,.int .i64 de,.int .i64 re,.int .i64 dr],.int .i64 0])∧pr.map ppr= [(false,[])]∧PrV w.heap.size w' pp pr∧pr.length≤pc∧Grow w w'
theorem awake37_of (H0:SolF8):Calls prog fathomlaw37_awake.id #[] w fun e w'=>e= .returned (.bool true)∧Grow w w':=by
 refine fathomlaw37_awake.calls ?_
 intro n1 w2 h2 n3 w4 h4 n5 w6 h6 n7 w8 h8 n9 w10 h10 n11 w12 h12
 have e11:=h12.num
 have G10:Grow w w10:=(((h2.mod.trans h4.mod).trans h6.mod).trans h8.mod).trans h10.mod
 refine store_i h12.has rfl rfl fun w13 b13 m13=> ?_
 have b13:Has w13 n11 #[.int .i64 3,.slice (some ⟨n9,0,none⟩) 4 4]:=b13
 have g13:Grow w10 w13:=h12.mod.then m13 fun j hj e=>by omega
 have v1:Vw (Value.int .i64) w10 (some ⟨n1,0,none⟩) [1,2]:=has_vw ((((h2.has.grow h4.mod).grow h6.mod).grow h8.mod).grow h10.mod) rfl
 have v3:Vw (Value.int .i64) w10 (some ⟨n3,0,none⟩) [-1,2]:=has_vw (((h4.has.grow h6.mod).grow h8.mod).grow h10.mod) rfl
 have v5:Vw (Value.int .i64) w10 (some ⟨n5,0,none⟩) [-2]:=has_vw ((h6.has.grow h8.mod).grow h10.mod) rfl
 have v7:Vw (Value.int .i64) w10 (some ⟨n7,0,none⟩) [3]:=has_vw (h8.has.grow h10.mod) rfl
 have V:V2 (Value.int .i64) w10 (some ⟨n9,0,none⟩) [⟨some ⟨n1,0,none⟩,2,2⟩,⟨some ⟨n3,0,none⟩,2,2⟩,⟨some ⟨n5,0,none⟩,1,1⟩,⟨some ⟨n7,0,none⟩,1,1⟩] F8:=by
  refine ⟨has_vw h10.has rfl,rfl,fun j hj=> ?_⟩
  match j,hj with
  |0,_=>exact ⟨rfl,by show 2≤maxLen;decide,v1⟩
  |1,_=>exact ⟨rfl,by show 2≤maxLen;decide,v3⟩
  |2,_=>exact ⟨rfl,by show 1≤maxLen;decide,v5⟩
  |3,_=>exact ⟨rfl,by show 1≤maxLen;decide,v7⟩
  |j+4,h=>exact absurd h (by unfold F8;simp)
 have gd:=dropG w13
 have hcn:cnfB 3 F8=true:=by decide
 have core: ∀ {v:World},Grow w13 v→Calls prog certify_Core.id #[.agg #[.int .i64 3,.slice (some ⟨n9,0,none⟩) 4 4],.agg #[.int .i64 (-1),.int .i64 64,.int .i64 200]] v fun e v'=> ∃ (g0:Int) (P:Option Addr) (C:Nat) (P2:Option Addr) (bn C2:Nat),e= .returned (.tuple #[.agg #[.int .i64 g0,.slice P 3 C],.slice P2 bn C2,.int .i64 0])∧0<bn∧Grow v v':=by
  intro v gv
  have Vv:=V.grow (g13.trans gv)
  refine (certCore_ok (A:=fun _=>False) (B:=fun pr=>pr.map ppr=P9) Vv rfl (by decide) hcn fun u gu=> (certSolve_ok (A:=fun _ _ _ _ _=>False) (B:=fun ver _ pr _=>ver=2∧pr.map ppr=P9) (Vv.grow gu) rfl fun x gx=> (H0 ((Vv.grow gu).grow gx) rfl).mono ?_).mono ?_).mono ?_
  · rintro e y ⟨mp,mc,pp,pc,pr,cf,de,re,dr,rfl,hpr,hpv,hpc,gy⟩
    have h1:pr.length=1:=by have:=congrArg List.length hpr;simpa using this
    refine ⟨_,_,_,_,_,_,_,_,_,_,_,_,rfl,gy,.inr ⟨rfl,[],pr,Vw.nil,.inl rfl,rfl,Nat.zero_le _,hpv,fun u hu=> ?_,rfl,hpc,?_,?_,rfl,hpr⟩⟩
    · have:=List.mem_map_of_mem (f:=ppr) hu
      rw [hpr,List.mem_singleton] at this
      have h2:u.2.2= []:=congrArg Prod.snd this
      rw [h2];exact Nat.zero_le _
    · rw [h1];decide
    · rw [hpr]
      exact (ceR_ok ⟨hcn,by decide,by decide,by decide⟩ (.inr ⟨rfl,by
       rw [pvP,if_neg (by unfold stepE;rw [if_pos (.inr (.inl F9_end))];decide),if_pos ⟨rfl,rfl⟩]⟩)).symm
  · rintro e y ⟨ver,mp,mn,mc,pp,pn,pc,cf,er,rfl,gy,⟨_,h⟩| ⟨rfl,mo,pr,_,_,_,_,hpv,_,hpn,hpc,_,_,rfl,hpr⟩⟩
    · exact h.elim
    have h1:pr.length=1:=by have:=congrArg List.length hpr;simpa [P9] using this
    refine ⟨_,_,_,_,_,_,_,_,_,rfl,gy,.inr (.inr ⟨rfl,rfl,pr,hpv,hpn,hpc,by omega,fun u hu=> ?_,by rw [hpr];decide,by rw [hpr];exact ⟨0,end9,plain9⟩,hpr⟩)⟩
    have:=List.mem_map_of_mem (f:=ppr) hu
    rw [hpr] at this
    have this:=List.mem_singleton.1 this
    have h2:u.2.2= []:=congrArg Prod.snd this
    rw [h2];decide
  · rintro e y ⟨g0,P,gn,C,P2,bn,C2,E,rfl,gy,⟨_,h,_⟩| ⟨rfl,_,pr,t,ks,ht,hpr,_,hgn,hbn,_⟩⟩
    · exact h.elim
    rw [hpr] at ht hgn hbn
    obtain rfl:=ht.uniq end9
    rw [List.length_map,natI_len,cor9_len] at hgn
    subst hgn
    refine ⟨_,_,_,_,_,_,rfl,?_,gy⟩
    rw [hbn]
    unfold trS
    rw [List.length_map,natI_len]
    exact List.length_pos_of_mem (corS_end (cs:=F8) (al:=P9) (t:=0))
 have fin: ∀ {v:World} {nn bn:Nat} {g0:Int} {P:Option Addr} {C:Nat},Grow w v→0<bn→Has v nn #[.int .i64 g0,.slice P 3 C]→∃x29p x29n x29c,v.cell? ((Addr.mk nn 0 none).add 1)=some (.slice x29p x29n x29c)∧
  cnd ((x29n:Int)==(3:Int)) (Ending.returned (Value.bool (decide ((bn:Int)> (0:Int))))= .returned (.bool true)∧Grow w v) (Ending.returned (Value.bool false)= .returned (.bool true)∧Grow w v):=
  fun g hb h=> ⟨_,_,_,cell_add h rfl,cnd_t rfl ⟨by rw [decide_eq_true (by omega)],g⟩⟩
 have G13:=G10.trans g13
 refine ⟨Grow w13,gd,_,_,_,_,fun v g=>cells2 (b13.grow g),⟨(usual_ok _).mono ?_,?_⟩⟩
 · rintro e w17 ⟨rfl,g17⟩
   have g17:=gd.trans g17
   refine ⟨_,_,_,rfl,g17,(core g17).mono ?_,fun n30 w31 h31=> ?_⟩
   · rintro e w21 ⟨g0,P,C,P2,bn,C2,rfl,hb,g21⟩
     refine ⟨_,_,_,_,_,_,_,_,rfl,fun n26 w27 h27=> ?_⟩
     have e26:=h27.num
     have g27:=(g17.trans g21).trans h27.mod
     refine ⟨g27,store_i h27.has rfl rfl fun w28 b28 m28=>cnd_t rfl (fin ((G13.trans (g17.trans g21)).trans (h27.mod.then m28 fun j hj e=>by omega)) hb b28)⟩
   · have g31:=g17.trans h31.mod
     have e30:=h31.num
     refine ⟨g31,(core g31).mono ?_⟩
     rintro e w32 ⟨g0,P,C,P2,bn,C2,rfl,hb,g32⟩
     have z17:=(G13.trans g17).size
     have zw:w17.heap.size<w31.heap.size:=by have:=h31.has.lt;omega
     refine ⟨_,_,_,_,_,_,_,_,rfl,store_i (h31.has.grow g32) rfl rfl fun w37 b37 m37=>cnd_t rfl (fin (((G13.trans g17).trans (h31.mod.trans g32)).then m37 fun j hj e=> ?_) hb b37)⟩
     omega
 · intro n39 w40 h40
   have e39:=h40.num
   have g40:=gd.trans h40.mod
   refine ⟨g40,(usual_ok _).mono ?_⟩
   rintro e w41 ⟨rfl,g41⟩
   refine ⟨_,_,_,rfl,g40.trans g41,(core (g40.trans g41)).mono ?_⟩
   rintro e w45 ⟨g0,P,C,P2,bn,C2,rfl,hb,g45⟩
   have z13:=(G13.trans gd).size
   refine ⟨_,_,_,_,_,_,_,_,rfl,store_i (h40.has.grow (g41.trans g45)) rfl rfl fun w50 b50 m50=>cnd_t rfl (fin ((G13.trans ((g40.trans g41).trans g45)).then m50 fun j hj e=> ?_) hb b50)⟩
   omega
theorem awk37_of (H0:SolF8) (g:Grow W w):Calls prog fathomlaw37_awake.id #[] w fun e w'=> ∃r:Bool,e= .returned (.bool r)∧(Ending.returned (Value.bool r)= .returned (.bool true)∧Grow W w'):=by
 refine (awake37_of H0).mono ?_
 rintro e w' ⟨rfl,g'⟩
 exact ⟨true,rfl,rfl,g.trans g'⟩
end
section
open Go.LeP
variable {w0 w w' w1 w2 u:World} {B N i:Nat} {L L' L1:Nat→Nat} {x:Xs} {l:List Int} {cs:List (List Int)} {hv:List (Nat × List Int)} {un:List (List Int)}
theorem sr_begin0 {b uni lrn:Int} {q:Option Addr} {m d n41 pb hb n49:Nat} {s:PSt} {H:Pt→Sl} {z:Hp.HS} (G:Grow w0 w) (e41:n41=w0.heap.size+1) (hN:N≤1000)
 (h:Has w n41 (Xs.cells {m:=⟨N,⟨q,m,d⟩,b,uni,lrn,uni,1,uni,0,0,0,0,0,0⟩,pb:=pb,hb:=hb,php:=⟨some ⟨w0.heap.size,0,none⟩,N+1,N+1⟩,hs:=Sl.nil,us:=Sl.nil,ps:=Sl.nil,ms:=Sl.nil,s:=s,S:=fun _=>True,ph:=List.replicate (N+1) 0,hv:= [],un:= [],pr:= [],mo:= []}))
 (pm:PM w pb H s) (hH: ∀y k,own pb H y=some k→n41<k∧k<n49) (hr:Hp.HRep w hb z) (hf:Hp.Fresh z N N) (hfo: ∀k,z.foot hb k→n49≤k) (hn:n41<n49) (o:OwI ty_int w (some ⟨w0.heap.size,0,none⟩) (N+1) (List.replicate (N+1) 0)):
 SR w0 w n41 (fun k=>if k<n41 then 4 else if k=n41 then 1 else if k<n49 then 2 else 3) N {m:=⟨N,⟨q,m,d⟩,b,uni,lrn,uni,1,uni,0,0,0,0,0,0⟩,pb:=pb,hb:=hb,php:=⟨some ⟨w0.heap.size,0,none⟩,N+1,N+1⟩,hs:=Sl.nil,us:=Sl.nil,ps:=Sl.nil,ms:=Sl.nil,s:=s,S:=fun _=>True,ph:=List.replicate (N+1) 0,hv:= [],un:= [],pr:= [],mo:= []}:=by
 have nn: ∀k,blk (none:Option Addr)≠some k:=fun k hk=>by simp [blk] at hk
 have hl:=h.lt
 refine ⟨G,fun _=>h,⟨?_,by omega,hl⟩,fun _=> ⟨H,pm,fun y k hk=> ⟨?_,?_⟩⟩,fun _=> ⟨z,hr,hf.good (by omega),fun v v1 v2=> ?_,fun k hk=> ⟨?_,?_⟩⟩,fun _=> ⟨o,by simp,fun k hk=> ?_⟩,fun _=> ⟨Row.nil _ _ _ _,rfl,fun k hk=>absurd hk (nn k)⟩,fun _ u hu=>by simp at hu,fun _=> ⟨Ow.nil _ _ _,rfl,fun k hk=>absurd hk (nn k)⟩,fun _ u hu=>by simp at hu,fun _=> ⟨Row.nil _ _ _ _,rfl,fun k hk=>absurd hk (nn k)⟩,fun _ u hu=>by simp at hu,fun _=> ⟨Ow.nil _ _ _,rfl,fun k hk=>absurd hk (nn k)⟩⟩
 · show (if n41<n41 then 4 else if n41=n41 then 1 else _)=1
   rw [if_neg (by omega),if_pos rfl]
 · have h1:=hH y k hk
   show (if k<n41 then 4 else if k=n41 then 1 else if k<n49 then 2 else 3)=2
   rw [if_neg (by omega),if_neg (by omega),if_pos (by omega)]
 · have h1:=hH y k hk;omega
 · rw [hf.au v (by omega) (by omega),if_pos v2]
   exact ⟨fun _=>trivial,fun _=>by omega⟩
 · have h1:=hfo k hk
   show (if k<n41 then 4 else if k=n41 then 1 else if k<n49 then 2 else 3)=3
   rw [if_neg (by omega),if_neg (by omega),if_neg (by omega)]
 · have h1:=hfo k hk;omega
 · have h1:=blk_some hk
   subst h1
   refine ⟨?_,Nat.le_refl _⟩
   show (if w0.heap.size<n41 then 4 else _)=4
   rw [if_pos (by omega)]
theorem out0_w {n5:Nat} (h:Has w B x.cells) (h5:Has w n5 #[.int .i64 0,.slice none 0 0,.slice none 0 0,.int .i64 0,.int .i64 0,.int .i64 0,.int .i64 0]) {K:Value→World→Prop}
 (hk: ∀w',Mod (·=n5) w w'→K (.agg #[.int .i64 x.m.ver,.slice x.ms.p x.ms.n x.ms.c,.slice x.ps.p x.ps.n x.ps.c,.int .i64 x.m.cf,.int .i64 x.m.de,.int .i64 x.m.re,.int .i64 x.m.dr]) w'):
 ∃a78,(some (Addr.mk B 0 none))=some a78∧∃x79 x80p x80n x80c x81p x81n x81c x82 x83 x84 x85,CellsAt w (a78.add 14) 0 [.int .i64 x79,.slice x80p x80n x80c,.slice x81p x81n x81c,.int .i64 x82,.int .i64 x83,.int .i64 x84,.int .i64 x85]∧
   ∃w86,StoreAt (Addr.mk n5 0 none) 0 [.int .i64 x79,.slice x80p x80n x80c,.slice x81p x81n x81c,.int .i64 x82,.int .i64 x83,.int .i64 x84,.int .i64 x85] w w86∧
   ∃x87 x88p x88n x88c x89p x89n x89c x90 x91 x92 x93,CellsAt w86 (Addr.mk n5 0 none) 0 [.int .i64 x87,.slice x88p x88n x88c,.slice x89p x89n x89c,.int .i64 x90,.int .i64 x91,.int .i64 x92,.int .i64 x93]∧
   K (.agg #[.int .i64 x87,.slice x88p x88n x88c,.slice x89p x89n x89c,.int .i64 x90,.int .i64 x91,.int .i64 x92,.int .i64 x93]) w86:=by
 refine ⟨_,rfl,_,_,_,_,_,_,_,_,_,_,_,⟨cell_add2 h rfl,cell_add2 h rfl,cell_add2 h rfl,cell_add2 h rfl,cell_add2 h rfl,cell_add2 h rfl,cell_add2 h rfl,trivial⟩,?_⟩
 refine store_i h5 rfl rfl fun w86 H86 m86=> ?_
 have H86:Has w86 n5 #[.int .i64 x.m.ver,x.ms.v,x.ps.v,.int .i64 x.m.cf,.int .i64 x.m.de,.int .i64 x.m.re,.int .i64 x.m.dr]:=H86
 exact ⟨_,_,_,_,_,_,_,_,_,_,_,⟨cell_add H86 rfl,cell_add H86 rfl,cell_add H86 rfl,cell_add H86 rfl,cell_add H86 rfl,cell_add H86 rfl,cell_add H86 rfl,trivial⟩,hk w86 m86⟩
theorem solve0_ok {k b uni lrn:Int} {q:Option Addr} {m d:Nat} {hs:List Sl} (hc:V2 (Value.int .i64) w q hs cs) (hm:m=cs.length) (hcn:cnfB k cs=true) (hset:setB uni lrn=true) (hk:k=N) (hN:N≤1000) (hu:uB cs []):
 Calls prog cdcl_Solve.id #[.agg #[.int .i64 k,.slice q m d],.agg #[.int .i64 b,.int .i64 uni,.int .i64 lrn]] w fun e w'=> ∃ (mp:Option Addr) (mc:Nat) (pp:Option Addr) (pc:Nat) (pr:List Ps),e= .returned (.tuple #[.agg #[.int .i64 2,.slice mp 0 mc,.slice pp pr.length pc,.int .i64 0,.int .i64 0,.int .i64 0,.int .i64 0],.int .i64 0])∧pr.map ppr= [(false,[])]∧PrV w.heap.size w' pp pr∧pr.length≤pc∧Grow w w':=by
 subst hk
 refine cdcl_Solve.calls ?_
 intro n1 w2 h2 n3 w4 h4 n5 w6 h6
 have G6:=(h2.mod.trans h4.mod).trans h6.mod
 have A1:=(h2.has.grow h4.mod).grow h6.mod
 have A3:=h4.has.grow h6.mod
 have e1:=h2.num;have e3:=h4.num;have e5:=h6.num
 have s2:=h2.size;have s4:=h4.size;have s6:=h6.size
 refine ⟨_,_,_,_,⟨cell_add A1 rfl,cell_add A1 rfl,trivial⟩,(checkCnf_ok (hc.grow G6) hm).mono ?_⟩
 rintro e w9 ⟨rfl,g9⟩
 rw [hcn]
 refine ⟨_,rfl,cnd_f rfl ⟨_,_,_,⟨cell_add (A3.grow g9) rfl,cell_add (A3.grow g9) rfl,cell_add (A3.grow g9) rfl,trivial⟩,(ccheck_ok _ _ _ _).mono ?_⟩⟩
 rintro e w22 ⟨rfl,g22⟩
 rw [hset]
 have gd:Grow w22 w22.drew:=(Mod.refl w22).drew
 have G22:=(g9.trans g22).trans gd
 have V0:=(hc.grow G6).grow G22
 have B1:=A1.grow G22
 have B3:=A3.grow G22
 have B5:=h6.has.grow G22
 have s22:=G22.size
 obtain ⟨w0,hw0⟩: ∃w0,w0=w22.drew:=⟨_,rfl⟩
 have Gw:Grow w w0:=by rw [hw0];exact G6.trans G22
 rw [← hw0] at B1 B3 B5 V0 s22 ⊢
 refine ⟨_,rfl,cnd_f rfl ⟨Grow w0,Mod.refl _,_,_,_,_,fun v gv=> ⟨cell_add (B1.grow gv) rfl,cell_add (B1.grow gv) rfl,trivial⟩,_,_,_,fun v gv=> ⟨cell_add (B3.grow gv) rfl,cell_add (B3.grow gv) rfl,cell_add (B3.grow gv) rfl,trivial⟩,_,fun v gv=>cell_add (B1.grow gv) rfl,?_⟩⟩
 have e0:IntKind.i64.wrap ((N:Int)+1)=((N+1:Nat):Int):=by rw [wrap64_of (by omega) (by omega)];omega
 rw [e0]
 refine make_i sl_intC Re.int_zero (x:=(0:Int)) rfl (N+1) rfl (by omega) fun w39 o39 g39 z39=> ⟨g39,fun n41 w42 h42=> ?_⟩
 have e41:=h42.num
 have s42:=h42.size
 have G42:=g39.trans h42.mod
 refine ⟨_,_,_,_,⟨cell_add (B1.grow G42) rfl,cell_add (B1.grow G42) rfl,trivial⟩,(new_ok (V0.grow G42) hm).mono ?_⟩
 rintro e w45 (⟨hno,_,_⟩| ⟨_,pb,s,H,rfl,pm,gs,nd,g45,hH⟩)
 · rw [hcn] at hno;exact absurd hno (by decide)
 rw [Int.toNat_natCast] at nd
 have s45:=g45.size
 have l41:=h42.has.lt
 refine ⟨_,_,rfl,_,rfl,?_⟩
 refine store_f (h42.has.grow g45) rfl rfl fun w49 H49 m49=> ?_
 have s49:=m49.size
 have pm49:=pm.keep m49 fun y k hk (e:k=n41)=>by have:=hH y k hk;omega
 have M49:Grow w0 w49:=(G42.trans g45).then m49 fun k hk e=>by omega
 refine ⟨_,cell_add (B1.grow M49) rfl,(Hp.new_ok N (by omega)).mono ?_⟩
 rintro e w51 ⟨hb,z,rfl,hr,hf,hfo,g51⟩
 have s51:=g51.size
 refine ⟨_,_,rfl,_,rfl,?_⟩
 refine store_f (H49.grow g51) rfl rfl fun w55 H55 m55=> ?_
 have s55:=m55.size
 have pm55:=(pm49.grow g51).keep m55 fun y k hk (e:k=n41)=>by have:=hH y k hk;omega
 have hr55:=hr.keep m55 fun k hk (e:k=n41)=>by have:=hfo k hk;omega
 have M55:Grow w0 w55:=(M49.trans g51).then m55 fun k hk e=>by omega
 refine ⟨_,cell_add (B3.grow M55) rfl,(Lu.start_spec _ _).mono ?_⟩
 rintro e w57 ⟨rfl,g57⟩
 have s57:=g57.size
 have hsu:1≤uni∧uni≤1048576:=by
  unfold setB at hset
  simp only [decide_eq_true_eq] at hset
  omega
 rw [if_pos hsu]
 refine ⟨_,_,_,_,rfl,_,rfl,?_⟩
 refine store_f (H55.grow g57) rfl rfl fun w63 H63 m63=> ?_
 have pm63:=(pm55.grow g57).keep m63 fun y k hk (e:k=n41)=>by have:=hH y k hk;omega
 have hr63:=(hr55.grow g57).keep m63 fun k hk (e:k=n41)=>by have:=hfo k hk;omega
 have M63:Grow w0 w63:=(M55.trans g57).then m63 fun k hk e=>by omega
 have s63:=m63.size
 have o63:OwI ty_int w63 (some ⟨w0.heap.size,0,none⟩) (N+1) (List.replicate (N+1) 0):=((((((o39.grow h42.mod).grow g45).keep m49 fun k hk (e:k=n41)=>by have:=blk_some hk;omega).grow g51).keep m55 fun k hk (e:k=n41)=>by have:=blk_some hk;omega).grow g57).keep m63 fun k hk (e:k=n41)=>by have:=blk_some hk;omega
 have I:=sr_begin0 (b:=b) (lrn:=lrn) (q:=q) (m:=m) (d:=d) (n49:=w49.heap.size) M63 (by omega) hN H63 pm63 (fun y k hk=>by have:=hH y k hk;have:=pm.lt y k hk;omega) hr63 hf hfo (by omega) o63
 clear H63 pm63 hr63 o63 H55 pm55 hr55 H49 pm49 hr hf
 obtain ⟨x,hx,x1,x2,x3,x5⟩: ∃x:Xs,x= {m:=⟨N,⟨q,m,d⟩,b,uni,lrn,uni,1,uni,0,0,0,0,0,0⟩,pb:=pb,hb:=hb,php:=⟨some ⟨w0.heap.size,0,none⟩,N+1,N+1⟩,hs:=Sl.nil,us:=Sl.nil,ps:=Sl.nil,ms:=Sl.nil,s:=s,S:=fun _=>True,ph:=List.replicate (N+1) 0,hv:= [],un:= [],pr:= [],mo:= []}∧x.s=s∧x.pr= []∧x.mo= []∧x.m=⟨N,⟨q,m,d⟩,b,uni,lrn,uni,1,uni,0,0,0,0,0,0⟩:=⟨_,rfl,rfl,rfl,rfl,rfl⟩
 rw [← hx] at I
 have k0:CSI N cs x.s [] []:=by rw [x1];exact csi_new nd gs
 have gx:Good x.s:=k0.g
 rw [← x1] at nd
 clear hx
 refine ⟨fun u z=>u=w63∧z=0,⟨_,rfl,rfl⟩,?_⟩
 have l5:n5<w0.heap.size:=B5.lt
 rintro w67 z67 _ ⟨rfl,rfl⟩
 refine ⟨_,rfl,_,cell_add I.at rfl,(I.run gx).mono ?_⟩
 rintro e w70 ⟨r71,rfl,s',L70,S70,k70,g',ex,hh⟩
 have k1:CSI N cs s' [] []:=k0.run ex g'
 have hbe:s'.R .be= []:=by rw [ex.be];exact nd.be
 have hnb: ¬Closed s':=fun c=>u0_brk k1 (by rw [ex.n];exact nd.n) hbe c hu
 obtain ⟨i,rfl,hB⟩: ∃i:Nat,r71=i∧Brk s' i:=by
  rcases hh with ⟨_,c⟩|h
  · exact absurd c hnb
  · exact h
 refine ⟨_,rfl,fun v u=>v=false∧u=w70,cnd_f (decide_eq_false (by omega)) ⟨rfl,rfl⟩,?_⟩
 rintro v75 w76 _ ⟨rfl,rfl⟩
 obtain ⟨H1,pm1,_⟩:=S70.pm id
 refine cnd_f rfl (cnd_f (decide_eq_false (by omega)) ⟨_,rfl,_,cell_add S70.at rfl,(levels_ok pm1).mono ?_⟩)
 rintro e w96 ⟨rfl,rfl⟩
 refine ⟨_,rfl,cnd_t (by show (((s'.R .be).length:Int)==0)=true;rw [hbe];rfl) ?_⟩
 refine (told_ok S70 (by show x.pr.length≤_;rw [x2];decide) (l:= []) (p:=none) (n:=0) (c:=0) Vw.nil rfl (by omega)).mono ?_
 rintro e w98 ⟨rfl,L98,q98,sl98,S98,k98⟩
 refine ⟨rfl,_,rfl,?_⟩
 refine store_f2 S98.at rfl rfl fun w100 h100 m100=> ?_
 obtain ⟨S100,k100⟩:=S98.own (m':= {x.m with ver:=2}) h100 m100
 refine out0_w (K:=fun v w'=> ∃ (mp:Option Addr) (mc:Nat) (pp:Option Addr) (pc:Nat) (pr:List Ps),Ending.returned (.tuple #[v,.int .i64 0])= .returned (.tuple #[.agg #[.int .i64 2,.slice mp 0 mc,.slice pp pr.length pc,.int .i64 0,.int .i64 0,.int .i64 0,.int .i64 0],.int .i64 0])∧pr.map ppr= [(false,[])]∧PrV w.heap.size w' pp pr∧pr.length≤pc∧Grow w w') S100.at (B5.grow S100.g) fun w' m'=> ?_
 obtain ⟨o1,o2,o3⟩:=S100.mo id
 obtain ⟨p1,p2,p3⟩:=S100.pr id
 have p2:q98.n=(x.pr++ [(false,sl98,[])]).length:=p2
 have p1:Row 2 psE ty_api_Step w100 q98.p q98.c (x.pr++ [(false,sl98,[])]):=p1
 have o2:x.ms.n=x.mo.length:=o2
 rw [x2,List.nil_append] at p1 p2
 have hro:=S100.rr id
 have h4: ∀j,j<w0.heap.size→L98 j=4:=fun j hj=>by
  rw [k98.lab j (Nat.lt_of_lt_of_le hj S70.g.size),k70.lab j (Nat.lt_of_lt_of_le hj M63.size)]
  show (if j<n41 then 4 else _)=4
  rw [if_pos (by omega)]
 have fr: ∀j,w0.heap.size≤j→w.heap.size≤j∧j≠n5:=fun j hj=>by have:=Gw.size;omega
 refine ⟨x.ms.p,x.ms.c,q98.p,q98.c,[(false,sl98,[])],?_,rfl,⟨(p1.vr psEnc).keep m' fun k hk=> (fr k (p3 k hk).2).2,fun v hv=> ?_,fun _ j hj=> (fr j (p3 j hj).2).1,fun v hv j hj=> ?_⟩,p1.cap,Mod.fresh (Gw.trans S100.g) m' (by omega)⟩
 · show Ending.returned (.tuple #[.agg #[.int .i64 2,.slice x.ms.p x.ms.n x.ms.c,.slice q98.p q98.n q98.c,.int .i64 x.m.cf,.int .i64 x.m.de,.int .i64 x.m.re,.int .i64 x.m.dr],.int .i64 0])=_
   rw [o2,x3,p2,x5];rfl
 · have ro:=hro v (by show v∈x.pr++ [(false,sl98,[])];rw [x2];exact hv)
   refine ⟨ro.n,ro.v.keep m' fun k hk=> (fr k (Nat.le_of_not_lt fun hlt=> ?_)).2⟩
   have h1:=(ro.l k hk).1
   rw [h4 k hlt] at h1;exact absurd h1 (by decide)
 · have ro:=hro v (by show v∈x.pr++ [(false,sl98,[])];rw [x2];exact hv)
   refine (fr j (Nat.le_of_not_lt fun hlt=> ?_)).1
   have h1:=(ro.l j hj).1
   rw [h4 j hlt] at h1;exact absurd h1 (by decide)
end
section
open Go.LeP
variable {w w' w1 w2 u:World} {N m d:Nat} {cs:List (List Int)} {hs:List Sl} {q p:Option Addr} {k:Int} {n c:Nat} {pr:List (Bool × List Int)}
theorem cnf_of_rdd {v:Value} (h:RdV w (.cons (.int .i64) (.cons (.sl (.sl (.int .i64))) .nil)) v): ∃k q j d hs cs,v= .agg #[.int .i64 k,.slice q j d]∧j=cs.length∧j≤d∧V2 (Value.int .i64) w q hs cs:=by
 obtain ⟨cs,rfl,x,y,rfl,⟨k,rfl,hk⟩,z,u,rfl,hz,rfl⟩:=h
 have hv: ∃s,z= [s]∧RdV w (.sl (.sl (.int .i64))) s:=by
  rcases hz with rfl| ⟨a',len',cap',rfl,g⟩
  · exact ⟨_,rfl,.inl rfl⟩
  · exact ⟨_,rfl,.inr ⟨a',len',cap',rfl,g⟩⟩
 obtain ⟨s,rfl,hs'⟩:=hv
 obtain ⟨q,m,d,ss,rows,rfl,hm,hm1,hm2,hc⟩:=rows_of_rd (fun v=>ints_of_rd') hs'
 exact ⟨k,q,m,d,ss,rows,rfl,hm,hm1,hc⟩
end
section
variable {W w w' w1 w2 u:World} {p q p1 p2:Option Addr} {n m d n1 n2 d1 d2:Nat} {k ver cf:Int} {hs:List Sl} {cs:List (List Int)} {mo:List Int} {al:List Stp}
theorem sol0F8:SolF8:=fun hc hm=> (solve0_ok (N:=3) hc hm (by decide) (by decide) rfl (by decide) F9_end).mono fun e v ⟨mp,mc,pp,pc,pr,h1,h2,h3,h4,h5⟩=> ⟨mp,mc,pp,pc,pr,0,0,0,0,h1,h2,h3,h4,h5⟩
theorem awk37 (g:Grow W w):Calls prog fathomlaw37_awake.id #[] w fun e w'=> ∃r:Bool,e= .returned (.bool r)∧(Ending.returned (Value.bool r)= .returned (.bool true)∧Grow W w'):=awk37_of sol0F8 g
theorem refCheck37_ok (hc:V2 (Value.int .i64) w p hs cs) (hn:n=cs.length) (hd:n≤d) (h40:cs.length≤40) (v1:Vw (Value.int .i64) w p1 mo) (hn1:n1=mo.length) (hm1:n1≤maxLen) (hl:SV w p2 al) (hn2:n2=al.length) (h30:n2≤30):
 Calls prog fathomref37_Check.id #[.agg #[.int .i64 k,.slice p n d],.agg #[.int .i64 ver,.slice p1 n1 d1,.slice p2 n2 d2,.int .i64 cf]] w fun e w'=>e= .returned (.int .i64 (ceR k cs ver mo al))∧Grow w w':=by
 refine fathomref37_Check.calls ?_
 intro nf w2 h2 nc w4 h4
 have G4:=h2.mod.trans h4.mod
 have bf:=h2.has.grow h4.mod
 have bc:=h4.has
 have R: ∀ {u:World} {r:Int},Grow w u→r=ceR k cs ver mo al→Ending.returned (Value.int .i64 r)= .returned (.int .i64 (ceR k cs ver mo al))∧Grow w u:=fun g e=> ⟨by rw [e],g⟩
 refine ⟨_,_,_,_,cells2 bf,(refCnf_ok (hc.grow G4) hn).mono ?_⟩
 rintro e w7 ⟨rfl,g7⟩
 have G7:=G4.trans g7
 refine ⟨_,rfl,?_⟩
 cases hcn:cnfB k cs with
 |false=>exact cnd_t rfl (R G7 (ceR_no fun h=>by rw [hcn] at h;cases h.1))
 |true=>
 refine cnd_f rfl ⟨_,_,_,cell_add (bc.grow g7) rfl,(may04_ok (hl.grow G7) hn2 (by omega)).mono ?_⟩
 rintro e w10 ⟨rfl,g10⟩
 have G10:=G7.trans g10
 refine ⟨_,rfl,?_⟩
 cases hmy:mayP al with
 |false=>exact cnd_t rfl (R G10 (ceR_no fun h=>by rw [hmy] at h;cases h.2.1))
 |true=>
 have b:=bc.grow (g7.trans g10)
 have bf:=bf.grow (g7.trans g10)
 refine cnd_f rfl ⟨_,cell_add b rfl,cnd_i (fun r=>R G10 (ceR_no fun h=> ?_)) (fun r=> ⟨_,cell_add b rfl,cnd_i (fun r2=>R G10 (ceR_no fun h=> ?_)) (fun r2=> ?_)⟩)⟩
 · rw [decide_eq_true_eq] at r;omega
 · rw [decide_eq_true_eq] at r2;omega
 rw [decide_eq_false_iff_not] at r r2
 have hv:cnfB k cs=true∧mayP al=true∧0≤ver∧ver≤2:=⟨hcn,hmy,by omega,by omega⟩
 have T: ∀ {u:World},Grow w10 u→¬(ver=1∧(mo.length:Int)=k∧holdsP mo cs=true)→∃x29,u.cell? ((Addr.mk nc 0 none).add 0)=some (.int .i64 x29)∧
  cnd (x29==(2:Int))
  (∃x30 x31p x31n x31c,CellsAt u (Addr.mk nf 0 none) 0 [.int .i64 x30,.slice x31p x31n x31c]∧
    ∃x32p x32n x32c,u.cell? ((Addr.mk nc 0 none).add 2)=some (.slice x32p x32n x32c)∧
    Calls prog fathomref07_Proves.id #[.agg #[.int .i64 x30,.slice x31p x31n x31c],.slice x32p x32n x32c] u fun e w33=> ∃r34 r35,e= .returned (.tuple #[.int .i64 r34,.int .i64 r35])∧
    cnd (r35==(0:Int))
    (Ending.returned (Value.int .i64 0)= .returned (.int .i64 (ceR k cs ver mo al))∧Grow w w33)
    (Ending.returned (Value.int .i64 7)= .returned (.int .i64 (ceR k cs ver mo al))∧Grow w w33))
  (Ending.returned (Value.int .i64 7)= .returned (.int .i64 (ceR k cs ver mo al))∧Grow w u):=by
  intro u g hno
  refine ⟨_,cell_add (b.grow g) rfl,cnd_i (fun r4=> ⟨_,_,_,_,cells2 (bf.grow g),_,_,_,cell_add (b.grow g) rfl,(refProves7_ok (hc.grow (G10.trans g)) hn h40 hd hcn (hl.grow (G10.trans g)) hn2 (by omega) hmy).mono ?_⟩) (fun r4=>R (G10.trans g) (ceR_bad hv ?_))⟩
  · have r4:ver=2:=by simpa using r4
    rintro e w33 ⟨rfl,g33⟩
    refine ⟨_,_,rfl,cnd_i (fun r6=>R ((G10.trans g).trans g33) (ceR_ok hv (.inr ⟨r4,?_⟩))) (fun r6=>R ((G10.trans g).trans g33) (ceR_bad hv ?_))⟩
    · simpa using r6
    · have r6:(pvP cs al).2≠0:=by simpa using r6
      rintro (h| ⟨_,h⟩)
      · exact hno h
      · exact r6 h
  · have r4:ver≠2:=by simpa using r4
    rintro (h| ⟨h,_⟩)
    · exact hno h
    · exact r4 h
 refine ⟨_,cell_add b rfl,cnd_i (fun r3=> ⟨_,_,_,cell_add b rfl,_,cell_add bf rfl,cnd_i (fun r5=> ⟨_,_,_,_,cells2 bf,_,_,_,cell_add b rfl,(refHolds_ok (hc.grow G10) hn (by unfold maxLen;omega) (v1.grow G10) hn1 hm1).mono ?_⟩) (fun r5=>T (Mod.refl _) ?_)⟩) (fun r3=>T (Mod.refl _) ?_)⟩
 · have r3:ver=1:=by simpa using r3
   have r5:(n1:Int)=k:=by simpa using r5
   rintro e w20 ⟨rfl,g20⟩
   refine ⟨_,rfl,cnd_i (fun r6=>R (G10.trans g20) (ceR_ok hv (.inl ⟨r3,by omega,r6⟩))) (fun r6=>T g20 fun h=> ?_)⟩
   rw [h.2.2] at r6;cases r6
 · have r5:(n1:Int)≠k:=by simpa using r5
   rintro ⟨_,h,_⟩
   omega
 · have r3:ver≠1:=by simpa using r3
   exact fun h=>r3 h.1
theorem CertifyChecks_calls (hc:V2 (Value.int .i64) w p hs cs) (hn:n=cs.length) (hd:n≤d) (v1:Vw (Value.int .i64) w p1 mo) (hn1:n1=mo.length) (hm1:n1≤maxLen) (hl:SV w p2 al) (hn2:n2=al.length):
 Calls prog fathomlaw37_CertifyChecks.id #[.agg #[.int .i64 k,.slice p n d],.agg #[.int .i64 ver,.slice p1 n1 d1,.slice p2 n2 d2,.int .i64 cf]] w fun e w'=>e= .returned (.bool true)∧Grow w w':=by
 refine fathomlaw37_CertifyChecks.calls ?_
 intro nf w2 h2 nc w4 h4
 have G4:=h2.mod.trans h4.mod
 have bf:=h2.has.grow h4.mod
 have bc:=h4.has
 refine ⟨_,_,_,_,cells2 bf,(small_ok (hc.grow G4) hn).mono ?_⟩
 rintro e w7 ⟨r8,rfl,hsm,g7⟩
 have G7:=G4.trans g7
 refine ⟨_,rfl,cnd_i (fun _=>awk37 G7) (fun r=> ?_)⟩
 have h40:cs.length≤40:=hsm (by simpa using r)
 refine ⟨_,_,_,cell_add (bc.grow g7) rfl,(light04_ok (hl.grow G7) hn2).mono ?_⟩
 rintro e w12 ⟨r13,rfl,g12⟩
 have G12:=G7.trans g12
 have bc:=bc.grow (g7.trans g12)
 have bf:=bf.grow (g7.trans g12)
 refine ⟨_,rfl,cnd_i (fun _=>awk37 G12) (fun _=> ⟨_,_,_,cell_add bc rfl,cnd_i (fun _=>awk37 G12) (fun r3=> ?_)⟩)⟩
 rw [decide_eq_false_iff_not] at r3
 have gd:=dropG w12
 have G:=G12.trans gd
 refine ⟨Grow w12,gd,_,_,_,_,fun v g=>cells2 (bf.grow g),_,_,_,_,_,_,_,_,fun v g=> ⟨cell_add (bc.grow g) rfl,cell_add (bc.grow g) rfl,cell_add (bc.grow g) rfl,cell_add (bc.grow g) rfl,trivial⟩,(certCheck_ok (hc.grow G) hn (v1.grow G) hn1 hm1 (hl.grow G) hn2 (by omega)).mono ?_⟩
 rintro e w26 ⟨rfl,g26⟩
 have g26:=gd.trans g26
 have G:=G12.trans g26
 refine ⟨_,rfl,g26,_,_,_,_,fun v g=>cells2 (bf.grow g),_,_,_,_,_,_,_,_,fun v g=> ⟨cell_add (bc.grow g) rfl,cell_add (bc.grow g) rfl,cell_add (bc.grow g) rfl,cell_add (bc.grow g) rfl,trivial⟩,(refCheck37_ok (hc.grow G) hn hd h40 (v1.grow G) hn1 hm1 (hl.grow G) hn2 (by omega)).mono ?_⟩
 rintro e w34 ⟨rfl,g34⟩
 exact ⟨_,rfl,cnd_t (by simp) (awk37 (G.trans g34))⟩
theorem cert_of_rd {v:Value} (h:RdV w (.cons (.int .i64) (.cons (.sl (.int .i64)) (.cons (.sl (.cons .bool (.cons (.sl (.int .i64)) .nil))) (.cons (.int .i64) .nil)))) v): ∃ver p1 n1 d1 mo p2 n2 d2 al cf,v= .agg #[.int .i64 ver,.slice p1 n1 d1,.slice p2 n2 d2,.int .i64 cf]∧n1=mo.length∧n1≤maxLen∧Vw (Value.int .i64) w p1 mo∧n2=al.length∧SV w p2 al:=by
 obtain ⟨cs,rfl,x,y,rfl,⟨ver,rfl,_⟩,z,u,rfl,hz,z2,u2,rfl,hz2,x2,y2,rfl,⟨cf,rfl,_⟩,rfl⟩:=h
 have h1: ∃s,z= [s]∧RdV w (.sl (.int .i64)) s:=by
  rcases hz with rfl| ⟨a',len',cap',rfl,g⟩
  · exact ⟨_,rfl,.inl rfl⟩
  · exact ⟨_,rfl,.inr ⟨a',len',cap',rfl,g⟩⟩
 have h2: ∃s,z2= [s]∧RdV w (.sl (.cons .bool (.cons (.sl (.int .i64)) .nil))) s:=by
  rcases hz2 with rfl| ⟨a',len',cap',rfl,g⟩
  · exact ⟨_,rfl,.inl rfl⟩
  · exact ⟨_,rfl,.inr ⟨a',len',cap',rfl,g⟩⟩
 obtain ⟨s,rfl,hs⟩:=h1
 obtain ⟨s2,rfl,hs2⟩:=h2
 obtain ⟨p1,n1,d1,c1,rfl,a1,a2,a3,a4⟩:=ints_of_rd' hs
 obtain ⟨p2,n2,d2,al,rfl,b1,b2,b3⟩:=steps_of_rd hs2
 exact ⟨ver,p1,n1,d1,c1,p2,n2,d2,al,cf,rfl,a1,Nat.le_trans a2 a3,a4,b1,b3⟩
theorem CertifyChecks_law (v0 v1:Value) (W:World) (h0:RdV W (.cons (.int .i64) (.cons (.sl (.sl (.int .i64))) .nil)) v0) (h1:RdV W (.cons (.int .i64) (.cons (.sl (.int .i64)) (.cons (.sl (.cons .bool (.cons (.sl (.int .i64)) .nil))) (.cons (.int .i64) .nil)))) v1):Calls prog fathomlaw37_CertifyChecks.id #[v0,v1] W fun e W'=>e= .returned (.bool true)∧Grow W W':=by
 obtain ⟨k,q,j,d,hs,cs,rfl,hj,hd,hc⟩:=cnf_of_rdd h0
 obtain ⟨ver,p1,n1,d1,mo,p2,n2,d2,al,cf,rfl,a1,a2,a3,b1,b2⟩:=cert_of_rd h1
 exact CertifyChecks_calls hc hj hd a3 a1 a2 b2 b1
end
end Go.Proofs.YtbdghpjnifjlmaaGreat.W
