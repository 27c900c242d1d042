/- Layer 8: of which clauses a clause is at hand, walked. -/
import Derived.Test.YtenmibfmhccmiaaGreatDratA
import Derived.Test.YtenmibfmhccmiaaGreatFwMore
import Derived.Test.YtenmibfmhccmiaaGreatRupD
set_option linter.unusedVariables false
set_option linter.unusedSimpArgs false
namespace Go.Proofs.YtenmibfmhccmiaaGreat.W
open Go Go.Fw Go.RowKit Go.SoP Go.LiP
variable {W w w' w0 w2 w3 u:World} {p q:Option Addr} {n m d b nl i:Nat} {id:List (Int × Int)} {hs ks:List Sl} {cs R:List (List Int)} {c l:List Int} {H H' H2:Pt→Sl} {s t s' s2:PSt} {K:List Nat} {vars:Nat} {mp:List (Int × Int)} {num:Nat→Nat}
theorem ris_len {n:Nat}: ∀ {K:List Nat} {i:Nat},Ris n i K→i≤n→K.length+i≤n
 | [],_,_,h=>by simpa using h
 |a::K,i,h,hi=>by
  have hp:=List.pairwise_cons.1 h.2
  have ha:=h.1 a (List.mem_cons_self ..)
  have:=ris_len (K:=K) (i:=a+1) ⟨fun j hj=> ⟨hp.1 j hj,(h.1 j (List.mem_cons_of_mem _ hj)).2⟩,hp.2⟩ (by omega)
  rw [List.length_cons];omega
theorem ndK_taut (h:taut c=true): ∀i,ndK cs c i []= []
 |0=>rfl
 |i+1=>by rw [ndK_in (.inl h)];exact ndK_taut h i
theorem has_vwG {α:Type} {f:α→Value} {b:Nat} {a:Array Value} {l:List α} (h:Has w b a) (hc:a.toList=l.map f):Vw f w (some ⟨b,0,none⟩) l:=by
 intro j hj
 refine ⟨_,rfl,cell_add h ?_⟩
 rw [Nat.zero_add,← Array.getElem?_toList,hc,List.getElem?_map,List.getElem?_eq_getElem hj]
 rfl
theorem has_vw8 {b:Nat} {sl:Sl} (h:Has w b #[.slice sl.p sl.n sl.c]):Vw Sl.v w (some ⟨b,0,none⟩) [sl]:=fun j hj=>by
 have:j=0:=by simpa using hj
 subst this
 exact ⟨_,rfl,cell_add h rfl⟩
theorem V2.takeK {α:Type} {f:α→Value} {rows:List (List α)} (h:V2 f w p hs rows) (k:Nat):V2 f w p (hs.take k) (rows.take k):=by
 have e: ∀ {β:Type} (l:List β) (d:β) (j:Nat),j<k→(l.take k).getD j d=l.getD j d:=fun l d j hj=>by
  simp only [List.getD_eq_getElem?_getD,List.getElem?_take];rw [if_pos hj]
 refine ⟨fun j hj=> ?_,by simp [h.n],fun j hj=> ?_⟩
 · rw [List.length_take] at hj
   obtain ⟨a,h1,h2⟩:=h.h j (by omega)
   exact ⟨a,h1,by rw [List.getElem_take];exact h2⟩
 · rw [List.length_take] at hj
   rw [e _ _ _ (by omega),e _ _ _ (by omega)]
   exact h.r j (by omega)
structure LI (w30 u:World) (b nl:Nat) (H:Pt→Sl) (vars:Nat) (R cs:List (List Int)) (c:List Int) (i:Nat) (K:List Nat) (H':Pt→Sl) (s:PSt) (mp:List (Int × Int)) (num:Nat→Nat):Prop where
 pm:PM u b H' s
 lf:Lf (vars:=vars) s R i K mp num
 mv:MV (Value.int .i64) u nl mp
 md:Mod (fun k=>k=nl∨∃x,own b H x=some k) w30 u
 ow: ∀x k,own b H' x=some k→(∃y,own b H y=some k)∨w30.heap.size≤k
 rs:Ris cs.length i K
 nd:ndK cs c cs.length []=ndK cs c i K
theorem needs_ok {e:Nat} (hv:V2 (Value.int .i64) w p hs cs) (hn:n=cs.length) (hl: ∀c∈cs,c.length≤4096∧∀x∈c,litB x=true) (hc:Vw (Value.int .i64) w q c) (hm:m=c.length) (hcl:clB c=true) (hx:cs.length≤1000) (htot:tot cs+c.length≤1000000):
 Calls Tryz.prog drat_needs.id #[.slice p n d,.slice q m e] w fun e w'=> (¬uB cs c∧e= .returned (.tuple #[.slice none 0 0,.bool false])∧Grow w w')∨(uB cs c∧∃ (q':Option Addr) (d':Nat),e= .returned (.tuple #[.slice q' (ndK cs c cs.length []).length d',.bool true])∧OwI ty_int w' q' d' ((ndK cs c cs.length []).map fun j:Nat=> (j:Int))∧Grow w w'):=by
 subst hn hm
 have hcl4:=clB_all hcl
 have hlit: ∀x∈cs++ [c],∀y∈x,litB y=true:=fun x hx=>by
  rcases List.mem_append.1 hx with h|h
  · exact (hl x h).2
  · rw [List.mem_singleton] at h;subst h;exact hcl4.1
 refine drat_needs.calls (Calls.mono (R:=fun e w'=>e= .returned (.bool (taut c))∧Grow w w') (drat_taut.calls ((norm_ok hc rfl (by unfold maxLen;omega)).mono ?_)) ?_)
 · rintro e w1 ⟨qn,dn,mn,_,rfl,_,g1⟩
   rw [hcl,Bool.true_and]
   exact ⟨_,_,_,_,rfl,rfl,g1⟩
 rintro e w1 ⟨rfl,g1⟩
 refine ⟨_,rfl,cnd_i (fun ht=> .inr ⟨.inl ht,none,0,by rw [ndK_taut ht];rfl,by rw [ndK_taut ht];exact Ow.nil _ _ _,g1⟩) (fun ht=> ?_)⟩
 refine (clone2_ok (hv.h.grow g1) (by rw [hv.n]) (by omega)).mono ?_
 rintro e w3 ⟨qh,dh,rfl,oh,g3,fh⟩
 have G3:=g1.trans g3
 have z1:=g1.size
 refine ⟨_,_,_,rfl,?_⟩
 intro n5 w6 h6
 have hlen:=hv.n
 refine Ow.appV sl_sl_int (oh.grow h6.mod) (has_vw8 (sl:=⟨q,c.length,e⟩) h6.has) rfl rfl (fun _=>rfl) (by simp;omega) fun w7 p7 c7 o7 m7 hp7 hz7=> ?_
 have e5:=h6.num
 have z3:=g3.size
 have s6:=h6.size
 have G6:=G3.trans h6.mod
 have G7:Grow w w7:=G6.then m7 fun k hk e=>by have:=fh k e;omega
 have V7:V2 (Value.int .i64) w7 p7 (hs++ [⟨q,c.length,e⟩]) (cs++ [c]):=((hv.vr.app (VR.one (s:=⟨q,c.length,e⟩) hc rfl (by show c.length≤maxLen;unfold maxLen;omega))).grow G7).v2 o7.vw
 have el:(hs++ [(⟨q,c.length,e⟩:Sl)]).length=(cs++ [c]).length:=by simp [hlen]
 rw [el]
 refine (coded_ok V7 rfl hlit (by simp;omega) (by rw [tot_snoc];exact htot)).mono ?_
 rintro e9 w9 ⟨id,q11,d11,ks,rfl,idn,hN,ow9,g9,f9,hil⟩
 have hNc: ∀x∈c,Nt id x:=hN c (by simp)
 have hNcs: ∀x∈cs,∀y∈x,Nt id y:=fun x hx=>hN x (List.mem_append_left _ hx)
 have G9:=G7.trans g9
 have z7:=G7.size
 have lrow:((cs++ [c]).map (List.map (cod id))).length=cs.length+1:=by simp
 rw [tot_snoc] at hil
 have hR:(cs++ [c]).map (List.map (cod id))=cs.map (List.map (cod id))++ [c.map (cod id)]:=by simp
 have hvb:vars8 id c≤1048576:=by
  have:=idn.nd
  unfold vars8
  split<;>omega
 refine ⟨_,_,_,_,rfl,?_⟩
 have hd11:cs.length+1≤d11:=by
  have:=ow9.n
  rw [lrow] at this
  rcases ow9.h.un with ⟨_,_,e⟩| ⟨_,_,_,_,h,_⟩
  · rw [e] at this;simp at this
  · omega
 rw [wN (x:=((cs++ [c]).length:Int) - 1) (i:=cs.length) (by simp) (by omega)]
 refine ⟨fun v u=>v=(vars8 id c:Int)∧Grow w7 u∧∃kF,V2 (Value.int .i64) u q11 kF (cs.map (List.map (cod id))++ [ask8 id c]),?_,?_⟩
 · have z9:=g9.size
   have hks:=ow9.n
   rw [lrow] at hks
   refine cnd_i (fun r=> ?_) (fun r=> ?_)
   · have r:c= []:=by
      have:(c.length:Int)=0:=by simpa using r
      exact List.eq_nil_of_length_eq_zero (by omega)
     subst r
     intro n13 w14 h14
     have e13:=h14.num
     have e0:IntKind.i64.wrap ((id.length:Int)+1)=((id.length+1:Nat):Int):=wN (by omega) (by simp at hil;omega)
     rw [e0] at h14 ⊢
     refine (ow9.h.grow h14.mod).st (⟨some ⟨n13,0,none⟩,1,1⟩:Sl) rfl rfl (by omega) (by simp;omega) (by simp;omega) fun w16 o16 m16=> ?_
     rw [Int.toNat_natCast] at o16
     have nblk: ∀k,blk q11=some k→w7.heap.size≤k∧k<w9.heap.size:=fun k hk=> ⟨f9 k (.inl hk),ow9.h.lt k hk⟩
     have hn13:blk q11≠some n13:=fun e=>by have:=nblk _ e;omega
     refine ⟨rfl,(g9.trans h14.mod).then m16 fun k hk e=> ?_,ks.set cs.length ⟨some ⟨n13,0,none⟩,1,1⟩,o16.vw,by simp [hks],fun j hj=> ?_⟩
     · have:=nblk k e;omega
     · have hj:j<cs.length+1:=by simpa using hj
       rw [getD_set (by omega)]
       by_cases e:j=cs.length
       · subst e
         rw [if_pos rfl]
         have eg:(cs.map (List.map (cod id))++ [ask8 id []]).getD cs.length []= [((id.length+1:Nat):Int)]:=by
          simp [List.getD,ask8]
         rw [eg]
         exact ⟨rfl,by show 1≤maxLen;decide,(has_vwG h14.has rfl).keep m16 fun k hk e=>hn13 (by have:=blk_some hk;rw [← this];exact e)⟩
       · rw [if_neg e]
         have hj2:j<cs.length:=by omega
         obtain ⟨r1,r2⟩:=ow9.r j (by rw [lrow];omega)
         have eg:(cs.map (List.map (cod id))++ [ask8 id []]).getD j []=((cs++ [[]]).map (List.map (cod id))).getD j []:=by
          rw [hR];simp only [List.getD_eq_getElem?_getD]
          rw [List.getElem?_append_left (by simp;omega),List.getElem?_append_left (by simp;omega)]
         rw [eg]
         exact ⟨r1,by rw [r1];exact r2.cap,(r2.vw.grow h14.mod).keep m16 fun k hk e=>ow9.d0 j k (by rw [lrow];omega) hk e⟩
   · have r:c≠[]:=fun e=>by subst e;simp at r
     refine ⟨by unfold vars8;rw [if_neg r],g9,ks,?_⟩
     have:ask8 id c=c.map (cod id):=by unfold ask8;rw [if_neg r]
     rw [this,← hR]
     exact ow9.v2
 · rintro _ w18 _ ⟨rfl,g18,kF,V18⟩
   have ltF:=V18.ltN
   have lR:(cs.map (List.map (cod id))).length=cs.length:=by simp
   have htk:(cs.map (List.map (cod id))++ [ask8 id c]).take cs.length=cs.map (List.map (cod id)):=by rw [List.take_append_of_le_length (by simp),List.take_of_length_le (by simp)]
   have hcnf:cnfB (vars8 id c:Int) (cs.map (List.map (cod id)))=true:=by
    unfold cnfB
    rw [Bool.and_eq_true,decide_eq_true_eq,List.all_eq_true]
    refine ⟨⟨by omega,by omega,by simp;omega⟩,fun x hx=> ?_⟩
    obtain ⟨x',hx',rfl⟩:=List.mem_map.1 hx
    have hin: ∀y∈x',InV (vars8 id c) (cod id y):=fun y hy=>inv_mono (idn.inv (hNcs x' hx' y hy)) (by unfold vars8;split<;>omega)
    have hok:=add_okC hin hvb (hl x' hx').1
    unfold okC at hok
    rw [Bool.and_eq_true] at hok ⊢
    refine ⟨hok.1,?_⟩
    rw [List.all_eq_true]
    intro y hy
    obtain ⟨y',hy',rfl⟩:=List.mem_map.1 hy
    have:=hin y' hy'
    unfold InV at this
    rw [decide_eq_true_eq]
    unfold amt
    split<;>omega
   refine slK_i 0 cs.length d11 rfl rfl rfl (by omega) (by omega) (by omega) ?_
   have ei:(if d11=0 then q11 else q11.map (·.add (0*1)))=q11:=by split;rfl;exact ep0 q11
   rw [ei,Nat.sub_zero,Nat.sub_zero]
   refine (new_ok (k:=(vars8 id c:Int)) (V2.takeK V18 cs.length) (by rw [htk,lR])).mono ?_
   rintro e20 w20 (⟨hf,_⟩| ⟨_,b,s,H,rfl,pm,g,N,g20,fo⟩)
   · rw [htk,hcnf] at hf;cases hf
   rw [htk] at N
   have G18:=G7.trans g18
   have G20:=G18.trans g20
   have V20:=V18.grow g20
   refine ⟨_,_,rfl,V20.ix (by omega) (by simp) (by simp;omega) fun a sl k1 k0 k2 k3 k4=> ⟨_,_,_,k1,?_⟩⟩
   rw [Int.toNat_natCast] at k2 k4 k0
   have eg:(cs.map (List.map (cod id))++ [ask8 id c]).getD cs.length []=ask8 id c:=by simp [List.getD]
   rw [eg] at k2 k4
   intro n25 w26 h26
   have e25:=h26.num
   have hsv:s.vars=vars8 id c:=by have:=N.v;simpa using this
   have hnc:s.nc=cs.length:=by have:=N.n;simpa using this
   have hthN: ∀t,s.There t↔t<cs.length:=fun t=>by
    unfold PSt.There
    rw [hnc]
    exact ⟨fun h=>h.1,fun h=> ⟨h,N.g t (by simpa using h)⟩⟩
   have hclsN: ∀x,x∈cs.map (List.map (cod id))↔s.cls x:=fun x=>by
    unfold PSt.cls
    constructor
    · intro hx
      obtain ⟨j,hj,rfl⟩:=List.mem_iff_getElem.1 hx
      have hj':j<cs.length:=by simpa using hj
      exact ⟨j,(hthN j).2 hj',by rw [N.a j (by simpa using hj')];simp [List.getD,hj']⟩
    · rintro ⟨j,hj,rfl⟩
      have hj':=(hthN j).1 hj
      rw [N.a j (by simpa using hj')]
      exact getD_mem2 (by simpa using hj')
   have i20:w20.heap.size<w26.heap.size:=by have:=h26.size;omega
   have hown: ∀x k,own b H x=some k→w18.heap.size≤k∧k<w20.heap.size:=fun x k e=> ⟨fo x k e,pm.lt x k e⟩
   have hask: ∀k,blk sl.p=some k→k<w18.heap.size:=fun k hk=>by
    obtain ⟨_,_,r3⟩:=V18.r cs.length (by simp)
    rw [eg,← k0] at r3
    exact r3.lt ask8_ne k hk
   have ltask:=ask8_ne (id:=id) (c:=c)
   have hlen8:(ask8 id c).length≤100000:=by
    unfold ask8
    split
    · simp
    · rw [List.length_map];omega
   refine (at_ok (pm.grow h26.mod) g N.be N.tr h26.has (fun x e=>by have:=hown x _ e;omega) (k4.grow h26.mod) (fun k hk x e=>by have:=hask k hk;have:=hown x k e;omega) k2 ltask (by rw [k2];exact hlen8) (fun x hx=>by rw [hsv];exact ask8_in idn hNc x hx) (ask8_taut idn hNc (by simpa using ht)) hclsN).mono ?_
   rintro e27 w27 ⟨r,rfl,hr,H1,s1,P1,g1',kp1,be1,tr1⟩
   have hr':r=true↔uB cs c:=hr.trans (ask8_uB idn hNcs hNc)
   have z20:=G20.size
   have z18:=G18.size
   have G26:=G20.trans h26.mod
   have G27:Grow w w27:=G26.then P1.mod fun k hk ⟨x,e⟩=>by have:=hown x k e;omega
   refine ⟨_,rfl,cnd_i (fun r1=> .inl ⟨fun e=> (by rw [hr'.2 e] at r1;cases r1),rfl,G27⟩) (fun r1=> ?_)⟩
   have hu:uB cs c:=hr'.1 (by simpa using r1)
   intro n29 w30 h30
   have e29:=h30.num
   have z2018:=g20.size
   have hown1: ∀x k,own b H1 x=some k→w18.heap.size≤k∧k<w27.heap.size∧k≠n25:=fun x k e=>by
    have hlt:=P1.pm.lt x k e
    rcases P1.ft x k e with ⟨y,e⟩|e
    · have:=hown y k e;have:=P1.mod.size;omega
    · omega
   have z27:=P1.mod.size
   have hno29: ∀ {u:World} {Hc:Pt→Sl} {sc:PSt},(∀x k,own b Hc x=some k→(∃y,own b H1 y=some k)∨w30.heap.size≤k)→∀x,own b Hc x≠some n29:=fun ow x e=>by
    have:=h30.size
    rcases ow x _ e with ⟨y,e⟩|e
    · have:=hown1 y _ e;omega
    · omega
   refine ⟨fun I u z=> ∃ (v:Nat) (mp:List (Int × Int)),I=v∧v≤cs.length∧z=cs.length - v∧Mod (·=n29) w30 u∧MV (Value.int .i64) u n29 mp∧∀j:Nat,al mp (j:Int)=if j<v then some (j:Int) else none,⟨_,0,[],rfl,Nat.zero_le _,rfl,Mod.refl _,MV.new h30,fun j=>by rw [if_neg (by omega)];rfl⟩,?_⟩
   rintro I u z _ ⟨v,mp,rfl,hvl,rfl,Mu,mu,hal⟩
   refine cnd_i (fun r2=> ?_) (fun r2=> ?_)
   · have r2:v<cs.length:=by simpa using r2
     obtain ⟨w36,hr36,mv36,mm36,_⟩:=mu.put map_ii (v:Int) (v:Int)
     refine ⟨w36,hr36,_,?_,v+1,_,wN (by omega) (by omega),r2,rfl,Mu.trans mm36,mv36,fun j=> ?_⟩
     · omega
     · rw [al_ai]
       by_cases e:j=v
       · subst e;rw [if_pos rfl,if_pos (by omega)]
       · rw [if_neg (by omega),hal]
         by_cases e2:j<v
         · rw [if_pos e2,if_pos (by omega)]
         · rw [if_neg e2,if_neg (by omega)]
   have r2:v=cs.length:=by simp at r2;omega
   subst r2
   have LI0:LI w30 u b n29 H1 (vars8 id c) (cs.map (List.map (cod id))) cs c cs.length [] H1 s1 mp fun j=>j:=by
    refine ⟨(P1.pm.grow h30.mod).keep Mu fun x k hk e=>by have:=hown1 x k hk;omega,⟨g1',tr1,be1,fun j=>by rw [hal];simp,fun t=> ?_,fun j hj=> ?_,fun j j' _ _ e=>e,?_,(kp1.v).trans hsv⟩,mu,Mu.mono fun k _ e=> .inl e,fun x k hk=> .inl ⟨x,hk⟩,⟨fun j hj=>by simp at hj,List.Pairwise.nil⟩,rfl⟩
    · rw [kp1.there,hthN]
      constructor
      · intro h;exact ⟨t,.inl h,rfl⟩
      · rintro ⟨j,hj,rfl⟩;simpa using hj
    · have hj:j<cs.length:=by simpa using hj
      rw [kp1.a,N.a j (by simpa using hj)]
    · rw [kp1.n,hnc,lR];omega
   refine ⟨fun p left I u z=> ∃ (i:Nat) (K:List Nat) (Hc:Pt→Sl) (sc:PSt) (mp:List (Int × Int)) (num:Nat→Nat),p=some ⟨b,0,none⟩∧left=some n29∧I=(i:Int) - 1∧i=z∧i≤cs.length∧LI w30 u b n29 H1 (vars8 id c) (cs.map (List.map (cod id))) cs c i K Hc sc mp num,
    ⟨_,cs.length,[],H1,s1,mp,_,rfl,rfl,by rw [wrap64_of (by omega) (by omega)],rfl,Nat.le_refl _,LI0⟩,?_⟩
   clear LI0 mu hal Mu
   rintro _ _ I u z _ ⟨i,K,Hc,sc,mp,num,rfl,rfl,rfl,rfl,hile,L⟩
   have G30:Grow w w30:=G27.trans h30.mod
   have z30:=h30.mod.size
   have Gu: ∀ {y:World},Mod (fun k=>k=n29∨∃x,own b H1 x=some k) w30 y→Grow w y:=fun m=>G30.then m fun k hk e=>by
    rcases e with e| ⟨x,e⟩
    · omega
    · have:=hown1 x k e;omega
   have V30:V2 (Value.int .i64) w30 q11 kF (cs.map (List.map (cod id))++ [ask8 id c]):=((V20.grow h26.mod).keepN P1.mod fun k hk ⟨x,e⟩=>by have:=ltF k hk;have:=hown x k e;omega).grow h30.mod
   have Vu: ∀ {y:World},Mod (fun k=>k=n29∨∃x,own b H1 x=some k) w30 y→V2 (Value.int .i64) y q11 kF (cs.map (List.map (cod id))++ [ask8 id c]):=fun m=>V30.keepN m fun k hk e=>by
    have:=ltF k hk
    rcases e with e| ⟨x,e⟩
    · omega
    · have:=hown1 x k e;omega
   have own_lt: ∀ {Hc:Pt→Sl} {k:Nat},(∀x k,own b Hc x=some k→(∃y,own b H1 y=some k)∨w30.heap.size≤k)→∀x,own b Hc x=some k→w18.heap.size≤k∧k≠n25∧k≠n29:=fun {Hc k} ow x e=>by
    rcases ow x k e with ⟨y,e⟩|e
    · have:=hown1 y k e;omega
    · have:=h30.size;omega
   refine cnd_i (fun r3=> ?_) (fun r3=> ?_)
   · obtain ⟨i,rfl⟩: ∃i',i=i'+1:=⟨i - 1,by simp at r3;omega⟩
     have hI:(((i+1:Nat):Int) - 1)=(i:Int):=by omega
     rw [hI]
     have hlk:=L.mv.look map_ii (i:Int) (zero_int u)
     rw [L.lf.al,if_pos (.inl (by omega))] at hlk
     have hKi: ∀j∈K,i<j:=fun j hj=>by have:=(L.rs.1 j hj).1;omega
     obtain ⟨d1,d2,d3,d4,d5,d6⟩:=L.lf.drop hKi
     have his:sc.is ((num i:Nat):Int)=true:=by
      unfold PSt.is
      rw [Int.toNat_natCast,d1.2]
      have:=d1.1
      simp only [Bool.not_false,Bool.and_true,decide_eq_true_eq]
      omega
     refine ⟨u,((num i:Nat):Int),hlk,(drop_ok L.pm L.lf.g ((num i:Nat):Int)).mono ?_⟩
     rintro e46 w46 ⟨r47,rfl,Hd,hd⟩
     have Pd:Pw u w46 b Hc Hd (sc.drop (num i)):=by
      rcases hd with ⟨_,hf,_⟩| ⟨_,_,⟨x,hx,h1,h2⟩,_⟩| ⟨_,_,_,hP⟩
      · rw [his] at hf;cases hf
      · rw [Int.toNat_natCast] at hx
        exact absurd h1 (L.lf.g.val0 L.lf.tr (L.lf.g.cv _ d1 x hx))
      · rw [Int.toNat_natCast] at hP;exact hP
     have zu:=L.md.size
     have ow46: ∀x k,own b Hd x=some k→(∃y,own b H1 y=some k)∨w30.heap.size≤k:=fun x k e=>by
      rcases Pd.ft x k e with ⟨y,e⟩|e
      · exact L.ow y k e
      · exact .inr (by omega)
     have md46:Mod (fun k=>k=n29∨∃x,own b H1 x=some k) w30 w46:=L.md.then Pd.mod fun k hk ⟨x,e⟩=>by
      rcases L.ow x k e with h|h
      · exact .inr h
      · omega
     have t30:Has w30 n25 _:=(h26.has.keep P1.mod fun ⟨x,e⟩=>by have:=hown x _ e;omega).grow h30.mod
     have tk: ∀ {y:World},Mod (fun k=>k=n29∨∃x,own b H1 x=some k) w30 y→Has y n25 #[ptrV b,.slice sl.p sl.n sl.c]:=fun m=>t30.keep m fun e=>by
      rcases e with e| ⟨x,e⟩
      · omega
      · exact (hown1 x _ e).2.2 rfl
     have cv: ∀ {y:World},Mod (fun k=>k=n29∨∃x,own b H1 x=some k) w30 y→Vw (Value.int .i64) y sl.p (ask8 id c):=fun m=>by
      obtain ⟨_,_,r3⟩:=(Vu m).r cs.length (by simp)
      rw [eg,← k0] at r3
      exact r3
     have hclsD:=cls_of (R:=cs.map (List.map (cod id))) (i:=i) (K:=K) d5 d6 (by rw [lR];omega)
     refine ⟨_,rfl,(at_ok Pd.pm (drop_good L.lf.g d1 fun x hx e=>L.lf.g.val0 L.lf.tr (L.lf.g.cv _ d1 x hx) e.1) d4 d3 (tk md46) (fun x e=> (own_lt ow46 x e).2.1 rfl) (cv md46) (fun k hk x e=>by have:=hask k hk;have:=own_lt ow46 x e;omega) k2 ltask (by rw [k2];exact hlen8) (fun x hx=>by rw [(drop_vars _).1,L.lf.v];exact ask8_in idn hNc x hx) (ask8_taut idn hNc (by simpa using ht)) hclsD).mono ?_⟩
     rintro e48 w48 ⟨r49,rfl,hr49,He,se,Pe,ge,ke,bee,tre⟩
     have hKl: ∀j∈K,j<cs.length:=fun j hj=> (L.rs.1 j hj).2
     have hrest:r49=true↔uB (rest8 cs i K) c:=by
      rw [hr49,rest8_map _ (by omega) hKl]
      refine ask8_uB idn (fun x hx y hy=> ?_) hNc
      obtain ⟨j,hj,rfl⟩:=(rest8_mem (by omega)).1 hx
      have hjl:j<cs.length:=by
       rcases hj with hj|hj
       · omega
       · exact hKl j hj
      exact hNcs _ (getD_mem2 hjl) y hy
     have PE:=Pd.trans Pe
     have ow48: ∀x k,own b He x=some k→(∃y,own b H1 y=some k)∨w30.heap.size≤k:=fun x k e=>by
      rcases PE.ft x k e with ⟨y,e⟩|e
      · exact L.ow y k e
      · exact .inr (by omega)
     have md48:Mod (fun k=>k=n29∨∃x,own b H1 x=some k) w30 w48:=L.md.then PE.mod fun k hk ⟨x,e⟩=>by
      rcases L.ow x k e with h|h
      · exact .inr h
      · omega
     have mv48:MV (Value.int .i64) w48 n29 mp:=L.mv.keep PE.mod fun ⟨x,e⟩=> (own_lt L.ow x e).2.2 rfl
     have ew:IntKind.i64.wrap ((i:Int) - 1)=(i:Int) - 1:=by rw [wrap64_of (by omega) (by omega)]
     refine ⟨_,rfl,cnd_i (fun r4=> ?_) (fun r4=> ?_)⟩
     · obtain ⟨w50,hr50,mv50,mm50,_⟩:=mv48.del map_ii (i:Int) 0
       refine ⟨w50,hr50,i,by omega,i,K,He,se,_,num,rfl,rfl,ew,rfl,by omega,PE.pm.keep mm50 fun x k hk e=> ?_,L.lf.gone hKi ke ge tre bee,mv50,md48.then mm50 fun k _ e=> .inl e,ow48,L.rs.less,?_⟩
       · exact (own_lt ow48 x hk).2.2 e
       · rw [L.nd];exact ndK_in (hrest.1 r4)
     · have hnu: ¬uB (rest8 cs i K) c:=fun e=>by rw [hrest.2 e] at r4;cases r4
       refine (Vu md48).ix (by omega) (by simp) (by simp;omega) fun a2 sl2 q1 q0 q2 q3 q4=> ⟨_,_,_,q1,?_⟩
       rw [Int.toNat_natCast] at q2 q4
       have eg2:(cs.map (List.map (cod id))++ [ask8 id c]).getD i []=(cs.map (List.map (cod id))).getD i []:=by
        simp only [List.getD_eq_getElem?_getD]
        rw [List.getElem?_append_left (by simp;omega)]
       rw [eg2] at q2 q4
       have hmemR:=getD_mem2 (l:=cs.map (List.map (cod id))) (i:=i) (by rw [lR];omega)
       refine (add_ok PE.pm ge q4 q2 q3).mono ?_
       rintro e53 w53 ⟨r54,r55,rfl,sa,Ha,Pa,ga,hra⟩
       have hok:okC se.vars ((cs.map (List.map (cod id))).getD i [])=true:=by
        rw [ke.v,(drop_vars _).1,L.lf.v]
        obtain ⟨x',hx',e⟩:=List.mem_map.1 hmemR
        rw [← e]
        exact add_okC (fun y hy=>inv_mono (idn.inv (hNcs x' hx' y hy)) (by unfold vars8;split<;>omega)) hvb (hl x' hx').1
       have hncs:se.nc<262144:=by
        have:=L.lf.nc
        rw [lR] at this
        rw [ke.n,(drop_vars _).2];omega
       obtain ⟨rfl,rfl,A⟩:r54=se.nc∧r55=0∧Added se ((cs.map (List.map (cod id))).getD i []) sa:=by
        rcases hra with ⟨_,_,hb,_⟩| ⟨_,_,_,hb,_⟩| ⟨a,a2,_,_,a3⟩
        · rw [hok] at hb;cases hb
        · omega
        · exact ⟨a,a2,a3⟩
       have PA:=PE.trans Pa
       have ow53: ∀x k,own b Ha x=some k→(∃y,own b H1 y=some k)∨w30.heap.size≤k:=fun x k e=>by
        rcases PA.ft x k e with ⟨y,e⟩|e
        · exact L.ow y k e
        · exact .inr (by omega)
       have md53:Mod (fun k=>k=n29∨∃x,own b H1 x=some k) w30 w53:=L.md.then PA.mod fun k hk ⟨x,e⟩=>by
        rcases L.ow x k e with h|h
        · exact .inr h
        · omega
       have mv53:MV (Value.int .i64) w53 n29 mp:=L.mv.keep PA.mod fun ⟨x,e⟩=> (own_lt L.ow x e).2.2 rfl
       obtain ⟨w56,hr56,mv56,mm56,_⟩:=mv53.put map_ii (i:Int) (se.nc:Int)
       refine ⟨_,_,rfl,w56,hr56,cnd_f rfl ⟨i,by omega,i,i::K,Ha,sa,_,_,rfl,rfl,ew,rfl,by omega,PA.pm.keep mm56 fun x k hk e=> ?_,L.lf.again hKi ke tre bee ga A,mv56,md53.then mm56 fun k _ e=> .inl e,ow53,L.rs.cons (by omega),?_⟩⟩
       · exact (own_lt ow53 x hk).2.2 e
       · rw [L.nd];exact ndK_out hnu
   · have:i=0:=by simp at r3;omega
     subst this
     have hnd:ndK cs c cs.length []=K:=by rw [L.nd];rfl
     rw [hnd]
     have zu:=L.md.size
     have hal0: ∀j:Nat,al mp (j:Int)=if j∈K then some ((num j:Nat):Int) else none:=fun j=>by
      rw [L.lf.al];simp
     have f0:(K.filter fun j=>decide (j<0))= []:=List.filter_eq_nil_iff.2 fun j _=>by simp
     refine ⟨fun P N C I y z=> ∃v:Nat,I=v∧v≤cs.length∧z=cs.length - v∧N=(K.filter fun j=>decide (j<v)).length∧Grow u y∧OwI ty_int y P C ((K.filter fun j=>decide (j<v)).map fun j:Nat=> (j:Int))∧∀k,blk P=some k→u.heap.size≤k,
      ⟨_,0,rfl,Nat.zero_le _,rfl,by rw [f0];rfl,Mod.refl _,by rw [f0];exact Ow.nil _ _ _,fun k hk=>by simp [blk] at hk⟩,?_⟩
     rintro P N C I y z _ ⟨v,rfl,hvl,rfl,rfl,gy,o,f⟩
     have hlenF:(K.filter fun j=>decide (j<v)).length≤K.length:=List.length_filter_le _ _
     have hKn:K.length≤cs.length:=by
      have:=ris_len L.rs (Nat.zero_le _)
      omega
     refine cnd_i (fun r4=> ?_) (fun r4=> ?_)
     · have r4:v<cs.length:=by simpa using r4
       have hlk:=(L.mv.grow gy).lookOk map_ii (v:Int) (zero_int y)
       rw [hal0] at hlk
       have hf:=ris_filter L.rs v
       by_cases hv:v∈K
       · rw [if_pos hv] at hlk hf
         refine ⟨y,_,true,hlk,cnd_t rfl ?_⟩
         intro n73 w74 h74
         have e73:=h74.num
         have zy:=gy.size
         refine Ow.app1 sl_int (o.grow h74.mod) ((v:Nat):Int) h74.has rfl (by simp) oneInt (by simp;omega) fun w75 p' c' o75 m75 hp' hz'=> ?_
         have hrow:(K.filter fun j=>decide (j<v+1)).map (fun j:Nat=> (j:Int))=(K.filter fun j=>decide (j<v)).map (fun j:Nat=> (j:Int))++ [(v:Int)]:=by rw [hf,List.map_append];rfl
         rw [← hrow] at o75
         refine ⟨_,by omega,v+1,wN (by omega) (by omega),r4,rfl,by rw [hf];simp,(gy.trans h74.mod).then m75 fun k hk e=>by have:=f k e;omega,o75,fun k hk=> ?_⟩
         have:=h74.size
         rcases hp' with rfl|rfl
         · exact f k hk
         · have:=blk_some hk;omega
       · rw [if_neg hv] at hlk hf
         rw [List.append_nil] at hf
         exact ⟨y,_,false,hlk,cnd_f rfl ⟨_,by omega,v+1,wN (by omega) (by omega),r4,rfl,by rw [hf],gy,by rw [hf];exact o,f⟩⟩
     · have r4:v=cs.length:=by simp at r4;omega
       subst r4
       have hall:(K.filter fun j=>decide (j<cs.length))=K:=List.filter_eq_self.2 fun j hj=>by simpa using (L.rs.1 j hj).2
       rw [hall] at o ⊢
       exact .inr ⟨hu,P,C,rfl,o,(Gu L.md).trans gy⟩
end Go.Proofs.YtenmibfmhccmiaaGreat.W
namespace Go.Proofs.YtenmibfmhccmiaaGreat.W
open Go Go.Fw Go.RowKit Go.SoP Go.LiP
variable {W w w' w0 w2 w3 u:World} {p q:Option Addr} {n m d i c:Nat} {hs:List Sl} {cs:List (List Int)} {l:List Int}
abbrev So:=Sl × Bool × Int
abbrev Sr:=List Int × Bool × Int
def so0:So:=(Sl.nil,false,0)
def sr0:Sr:=([],false,0)
def soE (x:So):List Value:= [.slice x.1.p x.1.n x.1.c,.bool x.2.1,.int .i64 x.2.2]
theorem soEnc:Enc 3 soE:=⟨fun _=>rfl,by omega,fun x v hv=>by
 simp only [soE,List.mem_cons,List.not_mem_nil,or_false] at hv
 rcases hv with rfl|rfl|rfl<;>rfl⟩
theorem sl_src:slOkN Tryz.prog ty_sl_drat_source ty_drat_source 3 40=true:=by kernel_rfl
structure SW (W:World) (ss:List So) (l:List Sr):Prop where
 n:ss.length=l.length
 r: ∀j,j<l.length→(ss.getD j so0).2=(l.getD j sr0).2∧(ss.getD j so0).1.n=(l.getD j sr0).1.length∧(ss.getD j so0).1.n≤maxLen∧Vw (Value.int .i64) W (ss.getD j so0).1.p (l.getD j sr0).1
theorem SW.nil:SW W [] []:=⟨rfl,fun j hj=>by simp at hj⟩
theorem SW.grow {ss:List So} {l:List Sr} (h:SW W ss l) (g:Grow W w):SW w ss l:=⟨h.n,fun j hj=> ⟨(h.r j hj).1,(h.r j hj).2.1,(h.r j hj).2.2.1,(h.r j hj).2.2.2.grow g⟩⟩
theorem SW.app {ss tt:List So} {l k:List Sr} (h:SW W ss l) (g:SW W tt k):SW W (ss++tt) (l++k):=by
 refine ⟨by simp [h.n,g.n],fun j hj=> ?_⟩
 rw [getD_app2,getD_app2,h.n]
 by_cases e:j<l.length
 · rw [if_pos e,if_pos e];exact h.r j e
 · rw [if_neg e,if_neg e]
   exact g.r (j - l.length) (by simp at hj;omega)
theorem SW.one {s:So} {x:Sr} (h1:s.2=x.2) (h2:s.1.n=x.1.length) (h3:s.1.n≤maxLen) (h4:Vw (Value.int .i64) W s.1.p x.1):SW W [s] [x]:=by
 refine ⟨rfl,fun j hj=> ?_⟩
 have:j=0:=by simpa using hj
 subst this
 exact ⟨h1,h2,h3,h4⟩
theorem SW.part {ss:List So} {l:List Sr} (h:SW W ss l) (i:Nat) (hi:i<l.length):SW W (ss.take i++ss.drop (i+1)) (l.take i++l.drop (i+1)):=by
 refine SW.app ⟨by simp [h.n],fun j hj=> ?_⟩ ⟨by simp [h.n],fun j hj=> ?_⟩
 · rw [List.length_take] at hj
   have e: ∀ {β:Type} (l:List β) (d:β),(l.take i).getD j d=l.getD j d:=fun l d=>by
    simp only [List.getD_eq_getElem?_getD,List.getElem?_take];rw [if_pos (by omega)]
   rw [e,e]
   exact h.r j (by omega)
 · rw [List.length_drop] at hj
   have e: ∀ {β:Type} (l:List β) (d:β),(l.drop (i+1)).getD j d=l.getD (i+1+j) d:=fun l d=>by
    simp only [List.getD_eq_getElem?_getD,List.getElem?_drop]
   rw [e,e]
   exact h.r _ (by omega)
theorem SW.ix {ss:List So} {l:List Sr} (h:SW W ss l) (o:Row 3 soE ty_drat_source u p c ss) (hn:n=l.length) (hi:i<l.length) {K:Addr→Prop}
 (hk: ∀a (s:Sl),CellsAt u a 0 [.slice s.p s.n s.c,.bool (l.getD i sr0).2.1,.int .i64 (l.getD i sr0).2.2]→s.n=(l.getD i sr0).1.length→s.n≤maxLen→Vw (Value.int .i64) W s.p (l.getD i sr0).1→K a):ixK p n (i:Int) 3 K:=by
 subst hn
 obtain ⟨h1,h2,h3,h4⟩:=h.r i hi
 refine (o.vr soEnc).ix so0 (by omega) (by rw [h.n]) (by omega) fun a hc=>hk a (ss.getD i so0).1 ?_ h2 h3 h4
 rw [Int.toNat_natCast] at hc
 unfold soE at hc
 rw [h1] at hc
 exact hc
theorem has_vr {s:So} {b:Nat} (h:Has u b #[.slice s.1.p s.1.n s.1.c,.bool s.2.1,.int .i64 s.2.2]):Vr 3 soE u (some ⟨b,0,none⟩) [s]:=by
 intro j hj
 have:j=0:=by simpa using hj
 subst this
 exact ⟨_,rfl,cell_add2 h rfl,cell_add2 h rfl,cell_add2 h rfl,trivial⟩
def srcF (cs:List (List Int)) (k:Nat):List Sr:=(List.range k).map fun i=> (cs.getD i [],false,(i:Int))
theorem srcF_len (k:Nat):(srcF cs k).length=k:=by simp [srcF]
theorem srcF_succ (k:Nat):srcF cs (k+1)=srcF cs k++ [(cs.getD k [],false,(k:Int))]:=by unfold srcF;rw [List.range_succ,List.map_append];rfl
theorem sources_ok {k:Int} (hv:V2 (Value.int .i64) w p hs cs) (hn:n=cs.length) (hx:n≤10000):
 Calls Tryz.prog drat_sources.id #[.agg #[.int .i64 k,.slice p n d]] w fun e w'=> ∃ (q:Option Addr) (d':Nat) (ss:List So),e= .returned (.slice q cs.length d')∧Row 3 soE ty_drat_source w' q d' ss∧SW w ss (srcF cs cs.length)∧Grow w w'∧∀j,blk q=some j→w.heap.size≤j:=by
 subst hn
 refine drat_sources.calls ?_
 intro n1 w2 h2
 have e1:=h2.num
 refine ⟨_,_,_,cell_add h2.has rfl,?_⟩
 refine ⟨fun P N C I u z=> ∃ (i:Nat) (ss:List So),I=i∧i≤cs.length∧z=cs.length - i∧i=N∧Grow w2 u∧Row 3 soE ty_drat_source u P C ss∧SW w ss (srcF cs i)∧∀j,blk P=some j→w2.heap.size≤j,
  ⟨_,0,[],rfl,Nat.zero_le _,rfl,rfl,Mod.refl _,Row.nil _ _ _ _,SW.nil,fun j hj=>by simp [blk] at hj⟩,?_⟩
 rintro P N C I u z _ ⟨i,ss,rfl,hi,rfl,rfl,gu,o,sw,fo⟩
 have Gu:=h2.mod.trans gu
 have hssl:=sw.n
 rw [srcF_len] at hssl
 refine cnd_i (fun r=> ?_) (fun r=> ?_)
 · have r:i<cs.length:=by simpa using r
   refine (hv.grow Gu).ix (by omega) rfl (by omega) fun a sl k1 k0 k2 k3 k4=> ⟨_,_,_,k1,?_⟩
   rw [Int.toNat_natCast] at k0 k2
   obtain ⟨_,_,r3⟩:=hv.r i r
   rw [← k0] at r3
   intro n12 w13 h13
   have z2:=gu.size
   refine Row.app soEnc sl_src (o.grow h13.mod) (has_vr (s:=(sl,false,(i:Int))) h13.has) hssl.symm rfl (by simp;omega) fun w14 p' c' o14 m14 hp' hz'=> ?_
   have h13s:=h13.num
   refine ⟨_,?_,i+1,_,wN (by omega) (by omega),r,rfl,by simp [hssl],(gu.trans h13.mod).then m14 fun j hj e=>by have:=fo j e;omega,o14,by rw [srcF_succ];exact sw.app (SW.one rfl k2 k3 r3),fun j hj=> ?_⟩
   · omega
   · have:=h13.mod.size
     rcases hp' with rfl|rfl
     · exact fo j hj
     · have:=blk_some hj;omega
 · have r:i=cs.length:=by simp at r;omega
   subst r
   have s2:=h2.mod.size
   exact ⟨P,C,ss,rfl,o,sw,Gu,fun j hj=>by have:=fo j hj;omega⟩
theorem clauses8_ok {ss:List So} {al:List Sr} (o:Row 3 soE ty_drat_source w p d ss) (sw:SW W ss al) (hW:Grow W w) (hn:n=al.length) (hx:n≤10000) {e:Nat}:
 Calls Tryz.prog drat_clauses.id #[.slice p n e] w fun e w'=> ∃ (q:Option Addr) (d':Nat) (ks:List Sl),e= .returned (.slice q al.length d')∧V2 (Value.int .i64) w' q ks (al.map (·.1))∧Grow w w':=by
 subst hn
 refine drat_clauses.calls ?_
 refine ⟨fun P N C I u z=> ∃ (i:Nat) (ks:List Sl),I=i∧i≤al.length∧z=al.length - i∧i=N∧Grow w u∧Ow Sl.v ty_sl_int u P C ks∧VR (Value.int .i64) W ks ((al.take i).map (·.1))∧∀j,blk P=some j→w.heap.size≤j,
  ⟨_,0,[],rfl,Nat.zero_le _,rfl,rfl,Mod.refl _,Ow.nil _ _ _,VR.nil,fun j hj=>by simp [blk] at hj⟩,?_⟩
 rintro P N C I u z _ ⟨i,ks,rfl,hi,rfl,rfl,gu,ok,vr,fo⟩
 have hkl:=vr.n
 rw [List.length_map,List.length_take,Nat.min_eq_left hi] at hkl
 refine cnd_i (fun r=> ?_) (fun r=> ?_)
 · have r:i<al.length:=by simpa using r
   refine sw.ix (o.grow gu) rfl r fun a s hcA h1 h2 h3=> ⟨_,_,_,_,_,hcA,?_⟩
   intro n11 w12 h12
   have e11:=h12.num
   refine store_i h12.has rfl rfl fun w13 b13 m13=> ⟨_,_,_,cell_add b13 rfl,?_⟩
   have g13:Grow u w13:=h12.mod.then m13 fun j hj e=>by omega
   intro n15 w16 h16
   have e16:=h16.num
   have zu:=gu.size
   have z13:=g13.size
   have G16:=g13.trans h16.mod
   refine Ow.appV sl_sl_int (ok.grow G16) (has_vw8 (sl:=s) h16.has) hkl.symm rfl (fun _=>rfl) (by simp;omega) fun w17 p' c' o17 m17 hp' hz'=> ?_
   have z16:=h16.mod.size
   refine ⟨_,by omega,i+1,_,wN (by omega) (by omega),r,rfl,by simp [hkl],(gu.trans G16).then m17 fun j hj e=>by have:=fo j e;omega,o17,?_,fun j hj=> ?_⟩
   · rw [take_snoc r sr0,List.map_append]
     exact vr.app (VR.one (s:=s) h3 h1 h2)
   · rcases hp' with rfl|rfl
     · exact fo j hj
     · have:=blk_some hj;omega
 · have r:i=al.length:=by simp at r;omega
   subst r
   rw [List.take_length] at vr
   exact ⟨P,C,ks,rfl,(vr.grow (hW.trans gu)).v2 ok.vw,gu⟩
end Go.Proofs.YtenmibfmhccmiaaGreat.W
namespace Go.Proofs.YtenmibfmhccmiaaGreat.W
open Go Go.Fw Go.RowKit Go.SoP Go.LiP
variable {W w w' w0 w2 w3 u:World} {p q:Option Addr} {n m d i c:Nat} {hs:List Sl} {cs:List (List Int)} {l:List Int} {ss:List So} {al:List Sr}
theorem cloneS_ok {e:Nat} (o:Row 3 soE ty_drat_source w p d ss) (hn:n=ss.length) (hx:n≤10000):Calls Tryz.prog slices_Clone_fathom_drat_source_fathom_drat_source.id #[.slice p n e] w fun e w'=> ∃ (q:Option Addr) (d':Nat),e= .returned (.slice q ss.length d')∧Row 3 soE ty_drat_source w' q d' ss∧Grow w w'∧∀j,blk q=some j→w.heap.size≤j:=by
 subst hn
 refine slices_Clone_fathom_drat_source_fathom_drat_source.calls (cnd_i (fun r=> ?_) (fun r=> ?_))
 · have hp:p=none:=by cases p<;>simp at r ⊢
   subst hp
   have:ss= []:=by
    rcases o.un with ⟨_,_,h⟩| ⟨_,_,h,_⟩
    · exact h
    · cases h
   subst this
   exact ⟨none,0,rfl,Row.nil _ _ _ _,Mod.refl w,fun j hj=>by simp [blk] at hj⟩
 · intro n1 w2 h2
   have e1:=h2.num
   have o2:Row 3 soE ty_drat_source w2 (some ⟨n1,0,none⟩) 0 []:=Row.of_some soEnc.len h2.at (Nat.le_refl _) (Nat.zero_le _) rfl rfl
   refine Row.app soEnc sl_src o2 ((o.vr soEnc).grow h2.mod) rfl rfl (by simp;omega) fun w3 p3 c3 o3 m3 hp3 hz3=> ?_
   rw [List.nil_append] at o3 ⊢
   have z2:=h2.mod.size
   refine ⟨p3,c3,rfl,o3,h2.mod.then m3 fun j hj e=>by have:=blk_some e;omega,fun j hj=> ?_⟩
   rcases hp3 with rfl|rfl
   · have:=blk_some hj;omega
   · have:=blk_some hj;omega
theorem zero_src: ∃v,(Tryz.prog.info? ty_drat_source).bind (·.zero)=some v∧v.cells.toList=soE so0:=⟨.agg #[.slice none 0 0,.bool false,.int .i64 0],by kernel_rfl,rfl⟩
theorem ep3 (p:Option Addr):p.map (·.add (0*3))=p:=by cases p<;>simp [Addr.add]
theorem deleteS_ok (o:Row 3 soE ty_drat_source w p d ss) (hn:n=ss.length) (hx:n≤10000) {i:Nat} (hi:i<n):
 Calls Tryz.prog slices_Delete_fathom_drat_source_fathom_drat_source.id #[.slice p n d,.int .i64 (i:Int),.int .i64 ((i+1:Nat):Int)] w fun e w'=>e= .returned (.slice p (ss.length - 1) d)∧Row 3 soE ty_drat_source w' p d (ss.take i++ss.drop (i+1))∧Mod (fun b=>blk p=some b) w w':=by
 subst hn
 have hcl:=o.cap
 refine slices_Delete_fathom_drat_source_fathom_drat_source.calls ?_
 refine slK_i i (i+1) ss.length rfl rfl rfl (by omega) (by omega) (by omega) ?_
 refine cnd_f (by simp;omega) ?_
 refine slK_i 0 i d rfl rfl rfl (by omega) (by omega) (by omega) ?_
 refine slK_i (i+1) ss.length d rfl rfl rfl (by omega) (by omega) (by omega) ?_
 rw [if_neg (by omega),ep3,Nat.sub_zero,Nat.sub_zero]
 have hv:Vr 3 soE w.drew (if d=i+1 then p else p.map (·.add ((i+1)*3))) (ss.drop (i+1)):=by
  by_cases e:d=i+1
  · rw [List.drop_eq_nil_of_le (by omega)];exact Vr.nil
  · rw [if_neg e]
    have:=((o.drew).vr soEnc).part (i:=i+1) (m:=ss.length - (i+1)) (by omega)
    rwa [List.take_of_length_le (by rw [List.length_drop];omega)] at this
 obtain ⟨w4,hr,o4,m4⟩:=Row.appRoom soEnc sl_src o.drew (ty:=ty_sl_drat_source) (d:=d - (i+1)) (k:=i) hv (m:=ss.length - (i+1)) (by rw [List.length_drop]) (by omega) (K:=fun w4=>Row 3 soE ty_drat_source w4 p d (ss.take i++ss.drop (i+1)++ss.drop (i+ (ss.length - (i+1))))∧Mod (fun b=>blk p=some b) w.drew w4) fun w' a b=> ⟨a,b⟩
 have hn1:i+ (ss.length - (i+1))=ss.length - 1:=by omega
 rw [hn1] at hr o4
 have hlen:(ss.take i++ss.drop (i+1)).length=ss.length - 1:=by rw [List.length_append,List.length_take,List.length_drop];omega
 have hll:(ss.take i++ss.drop (i+1)++ss.drop (ss.length - 1)).length=ss.length:=by rw [List.length_append,hlen,List.length_drop];omega
 refine ⟨w4,_,_,_,hr,?_⟩
 refine slK_i (ss.length - 1) ss.length d rfl rfl rfl (by omega) (by omega) (by omega) ?_
 rw [if_neg (by omega)]
 obtain ⟨vz,hz,hvz⟩:=zero_src
 rw [show ss.length - (ss.length - 1)=1 by omega]
 refine Row.clear soEnc sl_src hz hvz o4 (k:=ss.length - 1) (by rw [hll];omega) fun w7 o7 m7=> ?_
 rw [List.take_append_of_le_length (by omega),List.take_of_length_le (by omega)] at o7
 exact ⟨rfl,o7,(Mod.mono ((Mod.refl w).drew:Grow w w.drew) fun _ _ e=>e.elim).trans (m4.trans m7)⟩
def goneP (c:List Int):List Sr→List Sr
 | []=> []
 |x::l=>if norm x.1=norm c then l else x::goneP c l
theorem goneP_at {c:List Int}: ∀ {al:List Sr} {i:Nat},i<al.length→(∀j,j<i→norm (al.getD j sr0).1≠norm c)→norm (al.getD i sr0).1=norm c→goneP c al=al.take i++al.drop (i+1)
 | [],_,h,_,_=>by simp at h
 |x::l,0,_,_,h=>by
  have h:norm x.1=norm c:=h
  show (if norm x.1=norm c then l else _)=_
  rw [if_pos h];rfl
 |x::l,i+1,hi,hj,h=>by
  have h0:norm x.1≠norm c:=hj 0 (by omega)
  show (if norm x.1=norm c then l else x::goneP c l)=_
  rw [if_neg h0,goneP_at (i:=i) (by simpa using hi) (fun j h=>hj (j+1) (by omega)) h]
  rfl
theorem goneP_no {c:List Int}: ∀ {al:List Sr},(∀j,j<al.length→norm (al.getD j sr0).1≠norm c)→goneP c al=al
 | [],_=>rfl
 |x::l,h=>by
  have h0:norm x.1≠norm c:=h 0 (by simp)
  show (if norm x.1=norm c then l else x::goneP c l)=_
  rw [if_neg h0]
  exact congrArg _ (goneP_no fun j hj=>h (j+1) (by simpa using hj))
theorem gone1_ent:entB Tryz.prog drat_gone_1.id=true:=by kernel_rfl
theorem gone1_ok {x c:List Int} {b:Bool} {a:Int} {nw m' e':Nat} {qw:Option Addr} (hv:Vw (Value.int .i64) w p x) (hn:n=x.length) (hx:clB x=true) (hb:Has w nw #[.slice qw m' e']) (hw:Vw (Value.int .i64) w qw (norm c)) (hm:m'=(norm c).length):
 Calls Tryz.prog drat_gone_1.id #[.agg #[.slice p n d,.bool b,.int .i64 a],.pointer (some ⟨nw,0,none⟩)] w fun e w'=>e= .returned (.bool (decide (norm x=norm c)))∧Grow w w':=by
 subst hn
 have hx4:=clB_all hx
 have nl:=norm_len x
 refine drat_gone_1.calls ?_
 intro n1 w2 h2
 refine ⟨_,_,_,cell_add h2.has rfl,(norm_ok (hv.grow h2.mod) rfl (by unfold maxLen;omega)).mono ?_⟩
 rintro e w4 ⟨q,dq,mq,hmq,rfl,o4,g4⟩
 rw [hx] at hmq
 simp only [if_true] at hmq
 subst hmq
 have G4:=h2.mod.trans g4
 refine ⟨_,_,_,_,rfl,_,_,_,cell_of (hb.grow G4) rfl,(equal_ok o4.vw rfl (by unfold maxLen;omega) (hw.grow G4) hm).mono ?_⟩
 rintro e w8 ⟨rfl,g8⟩
 exact ⟨_,rfl,rfl,G4.trans g8⟩
end Go.Proofs.YtenmibfmhccmiaaGreat.W
namespace Go.Proofs.YtenmibfmhccmiaaGreat.W
open Go Go.Fw Go.RowKit Go.SoP Go.LiP
variable {W w w' w0 w2 w3 u:World} {p q:Option Addr} {n m d i c:Nat} {hs:List Sl} {cs:List (List Int)} {l:List Int} {ss:List So} {al:List Sr}
theorem gone_ok {x:List Int} {e:Nat} (o:Row 3 soE ty_drat_source w p d ss) (sw:SW W ss al) (hW:Grow W w) (hn:n=al.length) (hx:n≤10000) (hcl: ∀y∈al,clB y.1=true) (hv:Vw (Value.int .i64) W q x) (hm:m=x.length) (hxc:clB x=true) (hd:n≤d):
 Calls Tryz.prog drat_gone.id #[.slice p n d,.slice q m e] w fun e w'=> ∃ (q':Option Addr) (d':Nat) (tt:List So),e= .returned (.slice q' (goneP x al).length d')∧Row 3 soE ty_drat_source w' q' d' tt∧SW W tt (goneP x al)∧Grow w w'∧(goneP x al).length≤d'∧∀j,blk q'=some j→blk p=some j∨w.heap.size≤j:=by
 subst hn hm
 have hx4:=clB_all hxc
 have nl:=norm_len x
 have hsn:=sw.n
 refine drat_gone.calls ((norm_ok (hv.grow hW) rfl (by unfold maxLen;omega)).mono ?_)
 rintro e1 w1 ⟨qn,dn,mn,hmn,rfl,on,g1⟩
 rw [hxc] at hmn
 simp only [if_true] at hmn
 subst hmn
 refine ⟨_,_,_,_,rfl,?_⟩
 intro n4 w5 h5
 have e5:=h5.num
 refine store_i h5.has rfl rfl fun w6 b6 m6=> ?_
 have z1:=g1.size
 have g6:Grow w w6:=(g1.trans h5.mod).then m6 fun j hj e=>by omega
 have hnn:Vw (Value.int .i64) w6 qn (norm x):=((on.grow h5.mod).keep m6 fun k hk e=>by have:=on.lt k hk;omega).vw
 refine (slices_IndexFunc_fathom_drat_source_fathom_drat_source.calls (R:=fun e w'=>Grow w6 w'∧((e= .returned (.int .i64 (-1))∧∀t,t<al.length→norm (al.getD t sr0).1≠norm x)∨
  ∃t:Nat,e= .returned (.int .i64 t)∧t<al.length∧norm (al.getD t sr0).1=norm x∧∀j,j<t→norm (al.getD j sr0).1≠norm x)) ?_).mono ?_
 · refine ⟨fun I u z=> ∃t:Nat,I=t∧t≤al.length∧z=al.length - t∧Grow w6 u∧∀j,j<t→norm (al.getD j sr0).1≠norm x,⟨_,0,rfl,Nat.zero_le _,rfl,Mod.refl _,fun j hj=>by omega⟩,?_⟩
   rintro I u z _ ⟨t,rfl,ht,rfl,gu,hno⟩
   refine cnd_i (fun r=> ?_) (fun r=> ⟨gu,.inl ⟨rfl,fun j hj=>hno j (by simp at r;omega)⟩⟩)
   have r:t<al.length:=by simpa using r
   have hmem:al.getD t sr0∈al:=by simp [List.getD,r]
   refine sw.ix (o.grow (g6.trans gu)) rfl r fun a s hcA h1 h2 h3=> ⟨_,_,_,_,_,hcA,?_⟩
   rw [gone1_ent]
   show Calls _ _ _ _ _
   rw [args2w]
   refine (gone1_ok (h3.grow (hW.trans (g6.trans gu))) h1 (hcl _ hmem) (b6.grow gu) (hnn.grow gu) rfl).mono ?_
   rintro e10 w10 ⟨rfl,g10⟩
   refine ⟨_,rfl,cnd_i (fun r2=> ⟨gu.trans g10,.inr ⟨t,rfl,r,by simpa using r2,hno⟩⟩) (fun r2=> ⟨_,by omega,t+1,wN (by omega) (by omega),r,rfl,gu.trans g10,fun j hj=> ?_⟩)⟩
   by_cases e:j<t
   · exact hno j e
   · obtain rfl:j=t:=by omega
     simpa using r2
 · rintro e7 w7 ⟨g7,⟨rfl,hno⟩| ⟨t,rfl,ht,heq,hno⟩⟩
   · refine ⟨_,rfl,cnd_t (by decide) ?_⟩
     rw [goneP_no hno]
     exact ⟨p,d,ss,rfl,o.grow (g6.trans g7),sw,g6.trans g7,hd,fun j hj=> .inl hj⟩
   · refine ⟨_,rfl,cnd_f (by simp) ((cloneS_ok (o.grow (g6.trans g7)) hsn.symm hx).mono ?_)⟩
     rintro e9 w9 ⟨q9,d9,rfl,o9,g9,f9⟩
     refine ⟨_,_,_,rfl,?_⟩
     rw [wN (i:=t+1) (by omega) (by omega)]
     refine (deleteS_ok o9 rfl (by omega) (i:=t) (by omega)).mono ?_
     rintro e11 w11 ⟨rfl,o11,m11⟩
     have G7:=g6.trans g7
     have z7:=G7.size
     have hg:goneP x al=al.take t++al.drop (t+1):=goneP_at ht hno heq
     have hl:(goneP x al).length=ss.length - 1:=by rw [hg,List.length_append,List.length_take,List.length_drop];omega
     refine ⟨_,_,_,rfl,q9,d9,ss.take t++ss.drop (t+1),by rw [hl],o11,by rw [hg];exact sw.part t ht,(G7.trans g9).then m11 fun j hj e=>by have:=f9 j e;omega,?_,fun j hj=> .inr (by have:=f9 j hj;omega)⟩
     have:=o9.cap
     omega
theorem greatest_ok {k:Int} {al:List Stp} (hl:SV w q al) (hm:m=al.length) (hx:m≤1000000) (hcl: ∀x∈al,clB x.2=true) {e:Nat}:
 Calls Tryz.prog drat_greatest.id #[.agg #[.int .i64 k,.slice p n d],.slice q m e] w fun e w'=>e= .returned (.int .i64 ((al.map (·.2)).foldl vmx k))∧Grow w w':=by
 subst hm
 refine drat_greatest.calls ?_
 intro n1 w2 h2
 refine ⟨_,cell_add h2.has rfl,?_⟩
 refine ⟨fun N I u z=> ∃i:Nat,I=i∧i≤al.length∧z=al.length - i∧N=((al.take i).map (·.2)).foldl vmx k∧Grow w2 u,⟨_,0,rfl,Nat.zero_le _,rfl,rfl,Mod.refl _⟩,?_⟩
 rintro N I u z _ ⟨i,rfl,hi,rfl,rfl,gu⟩
 have Gu:=h2.mod.trans gu
 refine cnd_i (fun r=> ?_) (fun r=> ?_)
 · have r:i<al.length:=by simpa using r
   have hmem:al.getD i st0∈al:=by simp [List.getD,r]
   have hx4:=clB_all (hcl _ hmem)
   refine hl.ix Gu rfl r fun a s hcA h1 h2' h3=> ⟨_,_,_,_,hcA u Gu,?_⟩
   intro n13 w14 h14
   have e13:=h14.num
   refine store_i h14.has rfl rfl fun w15 b15 m15=> ⟨_,_,_,cell_add b15 rfl,?_⟩
   have g15:Grow u w15:=h14.mod.then m15 fun j hj e=>by omega
   refine ⟨fun N I y z=> ∃j:Nat,I=j∧j≤(al.getD i st0).2.length∧z=(al.getD i st0).2.length - j∧N=vmx (((al.take i).map (·.2)).foldl vmx k) ((al.getD i st0).2.take j)∧Grow w15 y,⟨_,0,rfl,Nat.zero_le _,rfl,rfl,Mod.refl _⟩,?_⟩
   rintro N I y z _ ⟨j,rfl,hj,rfl,rfl,gy⟩
   have Gy:=(Gu.trans g15).trans gy
   refine cnd_i (fun r2=> ?_) (fun r2=> ?_)
   · have r2:j< (al.getD i st0).2.length:=by rw [h1] at r2;simpa using r2
     refine (h3.grow Gy).ix 0 (by omega) h1 (by omega) fun a e=> ⟨_,e,_,?_,j+1,wN (by omega) (by omega),r2,rfl,?_,gy⟩
     · omega
     · rw [Int.toNat_natCast,nw _ (litB_b2 (hx4.1 _ (getD_mem' r2)))]
       exact (vmx_succ r2).symm
   · have r2:j=(al.getD i st0).2.length:=by rw [decide_eq_false_iff_not] at r2;omega
     subst r2
     rw [List.take_length]
     refine ⟨_,?_,i+1,wN (by omega) (by omega),r,rfl,?_,(gu.trans g15).trans gy⟩
     · omega
     · rw [take_snoc r st0,List.map_append,List.foldl_append];rfl
 · have r:i=al.length:=by simp at r;omega
   subst r
   rw [List.take_length]
   exact ⟨rfl,Gu⟩
end Go.Proofs.YtenmibfmhccmiaaGreat.W
