/- Layer 8: the sources that were there; a map of origins. -/
import Derived.Test.YtenmibfmhccmiaaGreatDratC
import Derived.Test.YtenmibfmhccmiaaGreatFwMore
set_option linter.unusedVariables false
set_option linter.unusedSimpArgs false
namespace Go.Proofs.YtenmibfmhccmiaaGreat.W
open Go Go.Fw Go.RowKit Go.SoP Go.LiP Go.Maps
variable {W w w' w0 w2 w3 u:World} {p q:Option Addr} {n m d i c:Nat} {k:Int} {hs tl:List Sl} {cs:List (List Int)} {l:List Int} {ss:List So} {al:List Stp}
theorem org_law:Keyed Tryz.prog ty_drat_origin:=Keyed.of_law (deep_law_laid (by kernel_rfl) (m:=2) (by omega) (of_decide_eq_true (by kernel_rfl)) (by kernel_rfl) (by kernel_rfl))
theorem org_map:mapO Tryz.prog ty_map_drat_origin_bool ty_drat_origin ty_bool=true:=by kernel_rfl
theorem sl_sl_src:slOk Tryz.prog ty_sl_sl_drat_source ty_sl_drat_source 24=true:=by kernel_rfl
def TH (W u:World) (cs:List (List Int)) (al:List Stp) (tp:Option Addr) (tl:List Sl):Prop:= ∀j,j<tl.length→∃ss,Row 3 soE ty_drat_source u (tl.getD j Sl.nil).p (tl.getD j Sl.nil).c ss∧SW W ss (ahd cs al j)∧(tl.getD j Sl.nil).n=(ahd cs al j).length∧∀b,blk (tl.getD j Sl.nil).p=some b→blk tp≠some b
theorem TH.nil:TH W u cs al none []:=fun j hj=>by simp at hj
theorem TH.grow {tp:Option Addr} (h:TH W u cs al tp tl) (g:Grow u w'):TH W w' cs al tp tl:=fun j hj=>by
 obtain ⟨ss,a,b⟩:=h j hj
 exact ⟨ss,a.grow g,b⟩
theorem TH.app {tp tp':Option Addr} {s:Sl} {ss:List So} (h:TH W u cs al tp tl) (m:Mod (fun b=>blk tp=some b) u w') (hp:tp'=tp∨tp'=some ⟨u.heap.size,0,none⟩) (o:Row 3 soE ty_drat_source u s.p s.c ss) (sw:SW W ss (ahd cs al tl.length)) (hn:s.n=(ahd cs al tl.length).length)
 (hd: ∀b,blk s.p=some b→blk tp≠some b):TH W w' cs al tp' (tl++ [s]):=by
 have key: ∀ {q:Option Addr},(∀b,blk q=some b→b<u.heap.size)→(∀b,blk q=some b→blk tp≠some b)→∀b,blk q=some b→blk tp'≠some b:=fun h1 h2 b hb e=>by
  rcases hp with rfl|rfl
  · exact h2 b hb e
  · have:=h1 b hb
    have:=blk_some e
    omega
 intro j hj
 by_cases e:j<tl.length
 · have e1:(tl++ [s]).getD j Sl.nil=tl.getD j Sl.nil:=by simp [List.getD,List.getElem?_append_left e]
   rw [e1]
   obtain ⟨ss,a,b,c,d⟩:=h j e
   exact ⟨ss,a.keep m d,b,c,key (fun b hb=>a.lt b hb) d⟩
 · have:j=tl.length:=by simp at hj;omega
   subst this
   have e1:(tl++ [s]).getD tl.length Sl.nil=s:=by simp [List.getD]
   rw [e1]
   exact ⟨ss,o.keep m hd,sw,hn,key (fun b hb=>o.lt b hb) hd⟩
theorem wfN {x:Int} (h: -9223372036854775808≤x∧x≤9223372036854775807):(Lit.int .i64 x).wf=true:=by
 simp [Lit.wf,IntKind.min,IntKind.max,IntKind.signed,IntKind.bits]
 omega
theorem MO.notOw {α:Type} {f:α→Value} {T kt et:TypeId} {b n c:Nat} {s:Bool × Int→Bool} {l:List α} (h:MO Tryz.prog kt et w b n s) (o:Ow f T w p c l):blk p≠some b:=fun e=>by
 obtain ⟨D,⟨es,clock,hb,_⟩,_⟩:=h
 rcases o.un with ⟨rfl,_,_⟩| ⟨g,cur,rfl,hg,_⟩
 · simp [blk] at e
 · have:=blk_some e
   subst this
   rw [hg] at hb;simp at hb
theorem ndN_no {s:Bool × Int→Prop} (h: ¬s (true,(i:Int))):ndN cs al i s=s:=by
 funext x
 exact propext ⟨fun e=>e.resolve_right fun e=>h e.1,.inl⟩
theorem nat_map_get {K:List Nat} {v:Nat}:(K.map fun j:Nat=> (j:Int)).getD v 0=((K.getD v 0:Nat):Int):=by
 simp only [List.getD_eq_getElem?_getD,List.getElem?_map]
 cases K[v]? <;>rfl
theorem filt_pos {f:Nat→Bool} {x:Nat} (h:f x=true):(List.range (x+1)).filter f=(List.range x).filter f++ [x]:=by
 rw [List.range_succ,List.filter_append,List.filter_cons_of_pos h,List.filter_nil]
theorem filt_neg {f:Nat→Bool} {x:Nat} (h: ¬f x=true):(List.range (x+1)).filter f=(List.range x).filter f:=by
 rw [List.range_succ,List.filter_append,List.filter_cons_of_neg h,List.filter_nil,List.append_nil]
def natI (K:List Nat):List Int:=K.map fun j:Nat=> (j:Int)
theorem natI_len (K:List Nat):(natI K).length=K.length:=by simp [natI]
def FindR (k:Int) (cs:List (List Int)) (al:List Stp) (E:Int) (A B:List Nat):Prop:=
 (¬(cnfB k cs=true∧mayP al=true)∧E=1∧A= []∧B= [])∨
 ((cnfB k cs=true∧mayP al=true)∧¬plainP cs al∧E=4∧A= []∧B= [])∨
 ((cnfB k cs=true∧mayP al=true)∧∃t,EndAt al t∧(∀i,i≤t→(al.getD i st0).1=true∨uB ((ahd cs al i).map (·.1)) (al.getD i st0).2)∧E=0∧A=corC cs al t∧B=corS cs al t)
def FI (W:World) (cs:List (List Int)) (al:List Stp) (t:Nat) (P1:Option Addr) (N1 C1:Nat) (P:Option Addr) (N C:Nat) (I:Int) (u:World) (z:Nat):Prop:=
 ∃ (i:Nat) (ss:List So) (tl:List Sl),I=i∧i≤t+1∧z=t+1 - i∧tl.length=i∧N1=i∧N=(ahd cs al i).length∧Grow W u∧Row 3 soE ty_drat_source u P C ss∧SW W ss (ahd cs al i)∧
   Ow Sl.v ty_sl_drat_source u P1 C1 tl∧TH W u cs al P1 tl∧(∀j,blk P=some j→W.heap.size≤j∧blk P1≠some j)∧∀j,blk P1=some j→W.heap.size≤j
end Go.Proofs.YtenmibfmhccmiaaGreat.W
namespace Go.Proofs.YtenmibfmhccmiaaGreat.W
open Go Go.Fw Go.RowKit Go.SoP Go.LiP Go.Maps
variable {W w w' w0 w2 w3 u:World} {p q:Option Addr} {n m d i c:Nat} {k:Int} {hs tl:List Sl} {cs:List (List Int)} {l:List Int} {ss:List So} {al:List Stp}
theorem dropG (w:World):Grow w w.drew:=(Mod.refl w).drew
theorem find_ok {e:Nat} (hc:V2 (Value.int .i64) w p hs cs) (hn:n=cs.length) (hx:cs.length≤40) (hl:SV w q al) (hm:m=al.length) (hm2:m≤60) (hme:m≤e):
 Calls Tryz.prog drat_Find.id #[.agg #[.int .i64 k,.slice p n d],.slice q m e] w fun e w'=> ∃ (p1 p2:Option Addr) (c1 c2:Nat) (E:Int) (A B:List Nat),e= .returned (.tuple #[.agg #[.slice p1 A.length c1,.slice p2 B.length c2],.int .i64 E])∧FindR k cs al E A B∧OwI ty_int w' p1 c1 (natI A)∧OwI ty_int w' p2 c2 (natI B)∧Grow w w':=by
 subst hn hm
 refine drat_Find.calls ?_
 intro n1 w2 h2 n3 w4 h4
 have e1:=h2.num
 have e3:=h4.num
 have z2:=h2.mod.size
 have G4:=h2.mod.trans h4.mod
 have b4:=h2.has.grow h4.mod
 have none2: ∀ {u v:World} {E:Int},FindR k cs al E [] []→Grow w4 u→Mod (·=n3) u v→∃ (p1 p2:Option Addr) (c1 c2:Nat) (E':Int) (A B:List Nat),Ending.returned (Value.tuple #[.agg #[.slice none 0 0,.slice none 0 0],.int .i64 E])= .returned (.tuple #[.agg #[.slice p1 A.length c1,.slice p2 B.length c2],.int .i64 E'])∧FindR k cs al E' A B∧OwI ty_int v p1 c1 (natI A)∧OwI ty_int v p2 c2 (natI B)∧Grow w v:=
  fun h g m=> ⟨none,none,0,0,_,[],[],rfl,h,Ow.nil _ _ _,Ow.nil _ _ _,(G4.trans g).then m fun j hj e=>by omega⟩
 refine ⟨_,_,_,_,cells2 b4,(checkCnf_ok (hc.grow G4) rfl).mono ?_⟩
 rintro e5 w7 ⟨rfl,g7⟩
 have G7:=G4.trans g7
 refine ⟨_,rfl,?_⟩
 cases hcn:cnfB k cs with
 |false=>exact cnd_t rfl (store_i (h4.has.grow g7) rfl rfl fun w9 b9 m9=> ⟨_,_,_,_,_,_,cells2 b9,none2 (.inl ⟨(fun h=>by rw [hcn] at h;cases h.1),rfl,rfl,rfl⟩) g7 m9⟩)
 |true=>
 refine cnd_f rfl ((traceCheck_ok (hl.grow G7) rfl (by omega)).mono ?_)
 rintro e7 w12 ⟨rfl,g12⟩
 have g12:=g7.trans g12
 have G12:=G4.trans g12
 refine ⟨_,rfl,?_⟩
 cases hmy:mayP al with
 |false=>exact cnd_t rfl (store_i (h4.has.grow g12) rfl rfl fun w9 b9 m9=> ⟨_,_,_,_,_,_,cells2 b9,none2 (.inl ⟨(fun h=>by rw [hmy] at h;cases h.2),rfl,rfl,rfl⟩) g12 m9⟩)
 |true=>
 refine cnd_f rfl ⟨_,_,_,_,cells2 (b4.grow g12),(plain_ok (hc.grow G12) rfl hx (hl.grow G12) rfl hm2 hme).mono ?_⟩
 rintro e19 w19 ⟨rp,rfl,hrp,g19⟩
 have g19:=g12.trans g19
 have G19:=G4.trans g19
 refine ⟨_,rfl,?_⟩
 cases rp with
 |false=>exact cnd_t rfl (store_i (h4.has.grow g19) rfl rfl fun w9 b9 m9=> ⟨_,_,_,_,_,_,cells2 b9,none2 (.inr (.inl ⟨⟨hcn,hmy⟩,(fun h=>by have:=hrp.2 ⟨hcn,hmy,h⟩;cases this),rfl,rfl,rfl⟩)) g19 m9⟩)
 |true=>
 obtain ⟨_,_,t,ht,hpl⟩:=hrp.1 rfl
 refine cnd_f rfl ((end_ok (hl.grow G19) rfl (by omega)).mono ?_)
 rintro e24 w24 ⟨g24,⟨hno,rfl⟩| ⟨t',ht',rfl⟩⟩
 · exact absurd ht.2.1 (hno t ht.1)
 obtain rfl:=ht.uniq ht'
 have g24:=g19.trans g24
 have G24:=G4.trans g24
 have htl:=ht.1
 have b24:=b4.grow g24
 have z24:=G24.size
 refine ⟨_,rfl,_,_,_,_,cells2 b24,(sources_ok (k:=k) (hc.grow G24) rfl (by omega)).mono ?_⟩
 rintro e28 w28 ⟨q0,d0,ss0,rfl,o0,sw0,g28,f0⟩
 refine ⟨_,_,_,rfl,?_⟩
 rw [wN (x:=(t:Int)+1) (i:=t+1) (by omega) (by omega)]
 refine slK_i 0 (t+1) e rfl rfl rfl (by omega) (by omega) (by omega) ?_
 have ei:(if e=0 then q else q.map (·.add (0*2)))=q:=by split;rfl;exact ep2 q
 rw [ei,Nat.sub_zero]
 have hl24:=hl.grow G24
 have hcl:=cnf_cl hcn
 refine ⟨FI w24 cs al t,⟨_,0,ss0,[],rfl,Nat.zero_le _,rfl,rfl,rfl,by show _=(srcF cs cs.length).length;rw [srcF_len],g28,o0,sw0,Ow.nil _ _ _,TH.nil,fun j hj=> ⟨f0 j hj,fun e=>by simp [blk] at e⟩,fun j hj=>by simp [blk] at hj⟩,?_⟩
 rintro P1 N1 C1 P N C I u z _ ⟨i,ss,tl,rfl,hi,rfl,htn,hN1,rfl,gu,o,sw,ot,th,fo,ft⟩
 have hal:=ahd_len (cs:=cs) (al:=al) (i:=i)
 have hssl:=sw.n
 refine cnd_i (fun r=> ?_) (fun r=> ?_)
 · have r:i<t+1:=by rw [decide_eq_true_eq] at r;omega
   have hmem:=mem_st (al:=al) (j:=i) (by omega)
   have hcl2:=mayP_all hmy _ hmem
   have et:(al.take (t+1)).getD i st0=al.getD i st0:=by
    simp only [List.getD_eq_getElem?_getD,List.getElem?_take];rw [if_pos (by omega)]
   refine (hl24.take (t+1)).ix gu (by rw [List.length_take];omega) (by rw [List.length_take];omega) fun a s hcA h1 h2' h3=> ⟨_,_,_,_,hcA u gu,?_⟩
   rw [et] at h1 h3 ⊢
   intro n41 w42 h42
   have e41:=h42.num
   refine store_i h42.has rfl rfl fun w43 b43 m43=> ?_
   have g43:Grow u w43:=h42.mod.then m43 fun j hj e=>by omega
   have zu:=gu.size
   intro n44 w45 h45
   have e44:=h45.num
   have z43:=g43.size
   have g45:=g43.trans h45.mod
   have i43:=b43.lt
   have i45:=h45.size
   refine Ow.app1 sl_sl_src (ot.grow g45) (⟨P,(ahd cs al i).length,C⟩:Sl) h45.has rfl (by omega) (fun _=>rfl) (by omega) fun w46 P1' C1' ot' m46 hp' hz'=> ?_
   have G45:=gu.trans g45
   have G46:Grow w24 w46:=G45.then m46 fun j hj e=>by have:=ft j e;omega
   have b46:Has w46 n41 _:=(b43.grow h45.mod).keep m46 fun e=>by have:=ot.lt _ e;omega
   have o46:Row 3 soE ty_drat_source w46 P C ss:=(o.grow g45).keep m46 fun j hj e=> (fo j hj).2 e
   have th':TH w24 w46 cs al P1' (tl++ [⟨P,(ahd cs al i).length,C⟩]):=(th.grow g45).app (s:=⟨P,(ahd cs al i).length,C⟩) m46 hp' (o.grow g45) (by rw [htn];exact sw) (by rw [htn]) fun b hb=> (fo b hb).2
   have ft': ∀j,blk P1'=some j→w24.heap.size≤j:=fun j hj=>by
    rcases hp' with rfl|rfl
    · exact ft j hj
    · have:=blk_some hj;have:=G45.size;omega
   have fo': ∀j,blk P=some j→w24.heap.size≤j∧blk P1'≠some j:=fun j hj=> ⟨(fo j hj).1,fun e=>by
    rcases hp' with rfl|rfl
    · exact (fo j hj).2 e
    · have:=blk_some e;have:=(o.grow g45).lt j hj;omega⟩
   have fnew: ∀ {q':Option Addr} {v:World},(∀j,blk q'=some j→blk P=some j∨w46.heap.size≤j)→∀j,blk q'=some j→w24.heap.size≤j∧blk P1'≠some j:=fun {q'} {v} h j hj=>by
    rcases h j hj with h|h
    · exact fo' j h
    · have:=G46.size
      exact ⟨by omega,fun e=>by have:=ot'.lt j e;omega⟩
   refine ⟨_,cell_add b46 rfl,cnd_i (fun r2=> ⟨_,_,_,cell_add b46 rfl,?_⟩) (fun r2=> ?_)⟩
   · have hd:(al.getD i st0).1=true:=by simpa using r2
     refine (gone_ok o46 sw G46 rfl (by omega) (ahd_all hcl hmy (by omega)) h3 h1 hcl2 (by have:=o.cap;omega)).mono ?_
     rintro e50 w50 ⟨q',d',tt,rfl,o50,sw50,g50,hc50,f50⟩
     refine ⟨_,_,_,rfl,_,by omega,i+1,tt,_,wN (by omega) (by omega),r,rfl,by simp [htn],by omega,by rw [ahd_del hd],G46.trans g50,o50,by rw [ahd_del hd];exact sw50,ot'.grow g50,th'.grow g50,fnew (v:=w50) f50,ft'⟩
   · have hd:(al.getD i st0).1=false:=by simpa using r2
     have fin: ∀ {v:World} (_:Grow w46 v) {n:Nat} {r:Option Addr} {c:Nat},Has v n #[.slice s.p s.n s.c,.bool true,.int .i64 (i:Int)]→Row 3 soE ty_drat_source v r c ss→(∀j,blk r=some j→w46.heap.size≤j)→
      ∃w58:World,∃p' n' c',(Builtin.append_ #[74,74] 74 #[.slice r (ahd cs al i).length c,.slice (some (Addr.mk n 0 none)) 1 1]).run Tryz.prog v= .ok (.slice p' n' c') w58∧∃k33,k33<t+1 - i∧FI w24 cs al t P1' (tl.length+1) C1' p' n' c' (IntKind.i64.wrap ((i:Int)+1)) w58 k33:=by
      intro v gv n r c hb o5 f5
      have zv:=gv.size
      refine Row.app soEnc sl_src o5 (has_vr (s:=(s,true,(i:Int))) hb) hssl.symm rfl (by simp;omega) fun w58 p' c' o58 m58 hp58 hz58=> ?_
      have g58:Grow w46 w58:=gv.then m58 fun j hj e=>by have:=f5 j e;omega
      refine ⟨_,by omega,i+1,_,_,wN (by omega) (by omega),by omega,rfl,by simp [htn],by omega,by rw [ahd_add hd];simp [hssl],G46.trans g58,o58,by rw [ahd_add hd];exact sw.app (SW.one rfl h1 h2' h3),ot'.grow g58,th'.grow g58,fnew (v:=w58) (fun j hj=> .inr ?_),ft'⟩
      rcases hp58 with rfl|rfl
      · exact f5 j hj
      · have:=blk_some hj;omega
     have gd:=dropG w46
     refine ⟨Grow w46,gd,_,_,_,fun v g=>cell_add (b46.grow g) rfl,?_,?_⟩
     · refine (cloneS_ok (o46.grow gd) hssl.symm (by omega)).mono ?_
       rintro e54 w54 ⟨q9,d9,rfl,o9,g9,f9⟩
       refine ⟨_,_,_,rfl,gd.trans g9,?_⟩
       intro n56 w57 h57
       rw [hssl]
       exact fin ((gd.trans g9).trans h57.mod) h57.has (o9.grow h57.mod) fun j hj=>by have:=f9 j hj;have:=gd.size;omega
     · intro n60 w61 h61
       have g61:=gd.trans h61.mod
       refine (cloneS_ok (o46.grow g61) hssl.symm (by omega)).mono ?_
       rintro e54 w62 ⟨q9,d9,rfl,o9,g9,f9⟩
       refine ⟨_,_,_,rfl,g61.trans g9,?_⟩
       rw [hssl]
       exact fin (g61.trans g9) (h61.has.grow g9) o9 fun j hj=>by have:=f9 j hj;have:=g61.size;omega
 · have r:i=t+1:=by rw [decide_eq_false_iff_not] at r;omega
   subst r
   intro n66 w67 h67
   have e66:=h67.num
   obtain ⟨w68,hr68,mo68,m68⟩:=MO.put org_map org_law (MO.new (P:=Tryz.prog) (k:=ty_drat_origin) (e:=ty_bool) h67) (by unfold maxLen;omega) (x:=(true,(t:Int))) (wfN (by omega)) true
   refine ⟨w68,hr68,?_⟩
   have g68:Grow u w68:=h67.mod.then m68 fun j hj e=>by omega
   refine ⟨fun I v z=> ∃ (j:Nat) (S:Bool × Int→Prop) (s:Bool × Int→Bool) (cnt:Nat),I=(j:Int) - 1∧j≤t+1∧z=j∧Grow u v∧MO Tryz.prog ty_drat_origin ty_bool v n66 cnt s∧cnt≤1+ (t+1 - j)*200∧(∀x,s x=true↔S x)∧(∀x,S x→orgOk cs al t x)∧ndS cs al j S=ndF cs al t,
    ⟨_,t+1,fun x=>x=(true,(t:Int)),_,1,by omega,Nat.le_refl _,rfl,g68,mo68,by omega,fun x=>by by_cases e:x=(true,(t:Int))<;>simp [e],fun x hx=> .inr ⟨t,Nat.le_refl _,ht.2.1.1,hx⟩,rfl⟩,?_⟩
   rintro I v j _ ⟨_,S,s,cnt,rfl,hj,rfl,gv,mo,hcnt,hs,hok,hnd⟩
   refine cnd_i (fun r=> ?_) (fun r=> ?_)
   · obtain ⟨j',rfl⟩: ∃j',j=j'+1:=⟨j - 1,by rw [decide_eq_true_eq] at r;omega⟩
     have ej:((j'+1:Nat):Int) - 1=(j':Int):=by omega
     rw [ej]
     have next: ∀ {v':World} {S':Bool × Int→Prop} {s':Bool × Int→Bool} {cnt':Nat},Grow u v'→MO Tryz.prog ty_drat_origin ty_bool v' n66 cnt' s'→cnt'≤cnt+200→(∀x,s' x=true↔S' x)→S'=ndN cs al j' S→∃k71,k71<j'+1∧
      ∃ (j:Nat) (S:Bool × Int→Prop) (s:Bool × Int→Bool) (cnt:Nat),IntKind.i64.wrap ((j':Int) - 1)=(j:Int) - 1∧j≤t+1∧k71=j∧Grow u v'∧MO Tryz.prog ty_drat_origin ty_bool v' n66 cnt s∧cnt≤1+ (t+1 - j)*200∧(∀x,s x=true↔S x)∧(∀x,S x→orgOk cs al t x)∧ndS cs al j S=ndF cs al t:=
      fun {v' S' s' cnt'} a b c d e=> ⟨j',by omega,j',S',s',cnt',wrap64_of (by omega) (by omega),by omega,rfl,a,b,by omega,d,by rw [e];exact ndN_ok (by omega) hok,by rw [e];exact hnd⟩
     refine ⟨v,_,MO.look org_map org_law mo (x:=(true,(j':Int))) (wfN (by omega)),?_⟩
     refine cnd_i (fun r2=> ?_) (fun r2=> ?_)
     · have r2: ¬S (true,(j':Int)):=fun e=>by rw [(hs _).2 e] at r2;cases r2
       exact next gv mo (by omega) hs (ndN_no r2).symm
     · have hS:S (true,(j':Int)):=(hs _).1 (by simpa using r2)
       have hd:(al.getD j' st0).1=false:=by
        rcases hok _ hS with ⟨a,_,e⟩| ⟨a,_,hd,e⟩
        · cases e
        · have e:=(Prod.mk.inj e).2
          have:j'=a:=by omega
          rw [this];exact hd
       have hu:=(hpl j' (by omega)).resolve_left (by rw [hd];decide)
       have hmem:=mem_st (al:=al) (j:=j') (by omega)
       have hcl2:=mayP_all hmy _ hmem
       have hcl4:=clB_all hcl2
       obtain ⟨ssj,oj,swj,hnj,_⟩:=th j' (by omega)
       have halj:=ahd_len (cs:=cs) (al:=al) (i:=j')
       have gd:=dropG v
       refine ⟨Grow v,gd,ot.vw.ix Sl.nil (by omega) (by omega) (by omega) fun a ha=> ⟨_,_,_,fun v' g=>cell_keep (gv.trans g) ha id,?_⟩⟩
       rw [Int.toNat_natCast]
       refine (clauses8_ok (oj.grow (gv.trans gd)) swj (gu.trans (gv.trans gd)) hnj (by omega)).mono ?_
       rintro e79 w79 ⟨q79,d79,ks,rfl,v79,g79⟩
       have g79:=gd.trans g79
       refine ⟨_,_,_,rfl,g79,hl24.ix (gu.trans gv) rfl (by omega) fun a sL hcA h1 h2 h3=> ⟨_,_,_,fun v' g=>CellsAt.get (hcA v' ((gu.trans gv).trans g)) 1 _ rfl,?_⟩⟩
       have hL: ∀c∈(ahd cs al j').map (·.1),c.length≤4096∧∀x∈c,litB x=true:=fun c hc'=>by
        obtain ⟨y,hy,rfl⟩:=List.mem_map.1 hc'
        have:=clB_all (ahd_all hcl hmy (by omega) y hy)
        exact ⟨this.2,this.1⟩
       have hlm:((ahd cs al j').map (·.1)).length=(ahd cs al j').length:=List.length_map _
       have htot:=tot_le (cs:=(ahd cs al j').map (·.1)) (B:=4096) fun c hc=> (hL c hc).1
       have h100:((ahd cs al j').map (·.1)).length*4096≤100*4096:=Nat.mul_le_mul_right _ (by omega)
       refine (needs_ok v79 hlm.symm hL (h3.grow ((gu.trans gv).trans g79)) h1 hcl2 (by omega) (by omega)).mono ?_
       rw [hlm]
       rintro e83 w83 (⟨hnu,_⟩| ⟨_,q',d',rfl,o83,g83⟩)
       · exact absurd hu hnu
       have eK:ndK ((ahd cs al j').map (·.1)) (al.getD j' st0).2 (ahd cs al j').length []=ndA cs al j':=rfl
       rw [eK] at o83
       have g83:=g79.trans g83
       have mo83:=mo.grow g83
       have hq': ∀b,blk q'=some b→¬b=n66:=fun b hb e=>by subst e;exact MO.notOw mo83 o83 hb
       refine ⟨_,_,_,_,rfl,?_⟩
       rw [eK]
       have hK:(ndA cs al j').length≤200:=by
        have:=ris_len (ndK_ris (cs:=(ahd cs al j').map (·.1)) (c:=(al.getD j' st0).2) (n:=(ahd cs al j').length) (by simp) (i:=(ahd cs al j').length) (K:= []) (Nat.le_refl _) ⟨fun j hj=>by simp at hj,.nil⟩).1 (Nat.zero_le _)
        rw [eK] at this;omega
       refine ⟨fun V v' z=> ∃ (x:Nat) (s':Bool × Int→Bool) (cnt':Nat),V=x∧x≤(ndA cs al j').length∧z=(ndA cs al j').length - x∧Mod (·=n66) w83 v'∧MO Tryz.prog ty_drat_origin ty_bool v' n66 cnt' s'∧cnt'≤cnt+x∧∀y,s' y=true↔S y∨∃jj∈(ndA cs al j').take x,((ahd cs al j').getD jj sr0).2=y,
        ⟨_,0,s,cnt,rfl,Nat.zero_le _,rfl,Mod.refl _,mo83,by omega,fun y=>by rw [hs];simp⟩,?_⟩
       rintro V v' z _ ⟨x,s',cnt',rfl,hx',rfl,m',mo',hcnt',hs'⟩
       have gg:Grow u v':=(gv.trans g83).then m' fun j hj e=>by omega
       refine cnd_i (fun r3=> ?_) (fun r3=> ?_)
       · have r3:x< (ndA cs al j').length:=by simpa using r3
         refine (o83.keep m' hq').vw.ix 0 (by omega) (by rw [List.length_map]) (by omega) fun a ha=> ⟨_,ha,?_⟩
         rw [Int.toNat_natCast,nat_map_get]
         have hin:(ndA cs al j').getD x 0∈ndA cs al j':=by simp [List.getD,r3]
         have hlt:=ndA_lt hin
         have hwf:(Lit.int .i64 ((ahd cs al j').getD ((ndA cs al j').getD x 0) sr0).2.2).wf=true:=by
          rcases ndA_org hin with ⟨a,ha,e⟩| ⟨a,ha,_,e⟩<;> (rw [e];exact wfN (x:=(a:Int)) (by omega))
         refine ot.vw.ix Sl.nil (by omega) (by omega) (by omega) fun a1 ha1=> ⟨_,_,_,cell_keep (S:=fun _=>False) (gg.trans (dropG v')) ha1 id,?_⟩
         rw [Int.toNat_natCast]
         refine swj.ix (oj.grow (gg.trans (dropG v'))) hnj hlt fun a2 s2 hcA2 _ _ _=> ⟨_,CellsAt.get hcA2 1 _ rfl,?_⟩
         refine ot.vw.ix Sl.nil (by omega) (by omega) (by omega) fun a3 ha3=> ⟨_,_,_,cell_keep (S:=fun _=>False) (gg.trans (dropG v')) ha3 id,?_⟩
         rw [Int.toNat_natCast]
         refine swj.ix (oj.grow (gg.trans (dropG v'))) hnj hlt fun a4 s4 hcA4 _ _ _=> ⟨_,CellsAt.get hcA4 2 _ rfl,?_⟩
         obtain ⟨w101,hr,mo101,m101⟩:=MO.put org_map org_law (mo'.grow (dropG v')) (by unfold maxLen;omega) (x:=((ahd cs al j').getD ((ndA cs al j').getD x 0) sr0).2) hwf true
         refine ⟨w101,hr,_,by omega,x+1,_,_,wN (by omega) (by omega),r3,rfl,m'.trans ((Mod.mono (dropG v') fun _ _ e=>e.elim).trans m101),mo101,by omega,fun y=> ?_⟩
         rw [take_snoc r3 0]
         by_cases e:y=((ahd cs al j').getD ((ndA cs al j').getD x 0) sr0).2
         · rw [if_pos e]
           exact ⟨fun _=> .inr ⟨_,List.mem_append_right _ (List.mem_singleton.2 rfl),e.symm⟩,fun _=>rfl⟩
         · rw [if_neg e,hs']
           refine or_congr Iff.rfl ⟨fun ⟨jj,h1,h2⟩=> ⟨jj,List.mem_append_left _ h1,h2⟩,fun ⟨jj,h1,h2⟩=> ?_⟩
           rcases List.mem_append.1 h1 with h1|h1
           · exact ⟨jj,h1,h2⟩
           · rw [List.mem_singleton] at h1
             rw [h1] at h2
             exact absurd h2.symm e
       · have r3:x=(ndA cs al j').length:=by simp at r3;omega
         subst r3
         rw [List.take_length] at hs'
         exact next gg mo' (by omega) hs' (by
          funext y
          exact propext ⟨fun h=>h.imp id fun h=> ⟨hS,h⟩,fun h=>h.imp id fun h=>h.2⟩)
   · have hj0:j=0:=by rw [decide_eq_false_iff_not] at r;omega
     subst hj0
     have hF: ∀x,s x=true↔ndF cs al t x:=fun x=>by rw [hs,← hnd];rfl
     intro n102 w103 h103
     have e102:=h103.num
     have gv103:Grow u w103:=gv.trans h103.mod
     have b103:Has w103 n1 _:=b24.grow ((gu.trans gv103))
     have z103:=h103.size
     have zv:=gv.size
     have zu:=gu.size
     have mo103:=mo.grow h103.mod
     have i66:=mo.lt
     refine ⟨_,_,_,cell_add b103 rfl,?_⟩
     refine ⟨fun V y z=> ∃ (x:Nat) (P:Option Addr) (C:Nat),V=x∧x≤cs.length∧z=cs.length - x∧Mod (·=n102) w103 y∧Has y n102 #[.slice P ((List.range x).filter fun i:Nat=>s (false,(i:Int))).length C,.slice none 0 0]∧OwI ty_int y P C (natI ((List.range x).filter fun i:Nat=>s (false,(i:Int))))∧∀j,blk P=some j→w103.heap.size≤j,
      ⟨_,0,none,0,rfl,Nat.zero_le _,rfl,Mod.refl _,h103.has,Ow.nil _ _ _,fun j hj=>by simp [blk] at hj⟩,?_⟩
     rintro V y z _ ⟨x,P,C,rfl,hxl,rfl,my,by',oy,fy⟩
     have moy:MO Tryz.prog ty_drat_origin ty_bool y n66 cnt s:=mo103.keep my (by omega)
     have zy:=my.size
     refine cnd_i (fun r3=> ?_) (fun r3=> ?_)
     · have r3:x<cs.length:=by simpa using r3
       refine ⟨y,_,MO.look org_map org_law moy (x:=(false,(x:Int))) (wfN (by omega)),cnd_i (fun r4=> ?_) (fun r4=> ?_)⟩
       · have eF:(List.range (x+1)).filter (fun i:Nat=>s (false,(i:Int)))=(List.range x).filter (fun i:Nat=>s (false,(i:Int)))++ [x]:=filt_pos r4
         refine ⟨_,_,_,cell_add by' rfl,?_⟩
         intro n113 w114 h114
         have e113:=h114.num
         have hll:=List.length_filter_le (fun i:Nat=>s (false,(i:Int))) (List.range x)
         rw [List.length_range] at hll
         refine Ow.app1 sl_int (oy.grow h114.mod) (x:Int) h114.has rfl (natI_len _).symm (fun _=>rfl) (by rw [natI_len];omega) fun w115 p' c' o115 m115 hp' hz'=> ?_
         have b115:Has w115 n102 _:=(by'.grow h114.mod).keep m115 fun e=>by have:=fy _ e;omega
         refine store_f b115 rfl rfl fun w117 b117 m117=> ?_
         have fp': ∀j,blk p'=some j→w103.heap.size≤j:=fun j hj=>by
          have:=h114.mod.size
          rcases hp' with rfl|rfl
          · exact fy j hj
          · have:=blk_some hj;omega
         refine ⟨_,by omega,x+1,p',c',wN (by omega) (by omega),r3,rfl,?_,?_,?_,fp'⟩
         · exact ((my.then h114.mod fun _ _ h=>h.elim).then m115 fun j hj e=>by have:=fy j e;omega).trans m117
         · rw [eF,List.length_append,List.length_singleton,← natI_len];exact b117
         · rw [eF]
           have:=o115.keep m117 fun j hj e=>by have:=fp' j hj;omega
           unfold natI at this ⊢
           rw [List.map_append];exact this
       · have eF:(List.range (x+1)).filter (fun i:Nat=>s (false,(i:Int)))=(List.range x).filter (fun i:Nat=>s (false,(i:Int))):=filt_neg (by rw [r4];decide)
         exact ⟨_,by omega,x+1,P,C,wN (by omega) (by omega),r3,rfl,my,by rw [eF];exact by',by rw [eF];exact oy,fy⟩
     · have r3:x=cs.length:=by simp at r3;omega
       subst r3
       refine ⟨fun V v2 z=> ∃ (x:Nat) (P2:Option Addr) (C2:Nat),V=x∧x≤t+1∧z=t+1 - x∧Mod (·=n102) w103 v2∧Has v2 n102 #[.slice P ((List.range cs.length).filter fun i:Nat=>s (false,(i:Int))).length C,.slice P2 ((List.range x).filter fun i:Nat=>s (true,(i:Int))).length C2]∧
        OwI ty_int v2 P C (natI ((List.range cs.length).filter fun i:Nat=>s (false,(i:Int))))∧OwI ty_int v2 P2 C2 (natI ((List.range x).filter fun i:Nat=>s (true,(i:Int))))∧∀j,blk P2=some j→w103.heap.size≤j∧blk P≠some j,
        ⟨_,0,none,0,rfl,Nat.zero_le _,rfl,my,by',oy,Ow.nil _ _ _,fun j hj=>by simp [blk] at hj⟩,?_⟩
       clear moy
       rintro V v2 z _ ⟨x,P2,C2,rfl,hx2,rfl,mv,bv,ov1,ov2,fv⟩
       have mo2:MO Tryz.prog ty_drat_origin ty_bool v2 n66 cnt s:=mo103.keep mv (by omega)
       have zv2:=mv.size
       refine cnd_i (fun r3=> ?_) (fun r3=> ?_)
       · have r3:x<t+1:=by rw [decide_eq_true_eq] at r3;omega
         refine ⟨v2,_,MO.look org_map org_law mo2 (x:=(true,(x:Int))) (wfN (by omega)),cnd_i (fun r4=> ?_) (fun r4=> ?_)⟩
         · have eF:(List.range (x+1)).filter (fun i:Nat=>s (true,(i:Int)))=(List.range x).filter (fun i:Nat=>s (true,(i:Int)))++ [x]:=filt_pos r4
           refine ⟨_,_,_,cell_add bv rfl,?_⟩
           intro n126 w127 h127
           have e126:=h127.num
           have hll:=List.length_filter_le (fun i:Nat=>s (true,(i:Int))) (List.range x)
           rw [List.length_range] at hll
           refine Ow.app1 sl_int (ov2.grow h127.mod) (x:Int) h127.has rfl (natI_len _).symm (fun _=>rfl) (by rw [natI_len];omega) fun w128 p' c' o128 m128 hp' hz'=> ?_
           have b128:Has w128 n102 _:=(bv.grow h127.mod).keep m128 fun e=>by have:=(fv _ e).1;omega
           have z127:=h127.mod.size
           have hPlt:=ov1.lt
           refine store_f b128 rfl rfl fun w130 b130 m130=> ?_
           have fp': ∀j,blk p'=some j→w103.heap.size≤j∧blk P≠some j:=fun j hj=>by
            rcases hp' with rfl|rfl
            · exact fv j hj
            · have:=blk_some hj;exact ⟨by omega,fun e=>by have:=hPlt j e;omega⟩
           refine ⟨_,by omega,x+1,p',c',wN (by omega) (by omega),r3,rfl,?_,?_,?_,?_,fp'⟩
           · exact ((mv.then h127.mod fun _ _ h=>h.elim).then m128 fun j hj e=>by have:=(fv j e).1;omega).trans m130
           · rw [eF,List.length_append,List.length_singleton,← natI_len ((List.range x).filter fun i:Nat=>s (true,(i:Int)))];exact b130
           · exact ((ov1.grow h127.mod).keep m128 fun j hj e=> (fv j e).2 hj).keep m130 fun j hj e=>by have:=fy j hj;omega
           · rw [eF]
             have:=o128.keep m130 fun j hj e=>by have:=(fp' j hj).1;omega
             unfold natI at this ⊢
             rw [List.map_append];exact this
         · have eF:(List.range (x+1)).filter (fun i:Nat=>s (true,(i:Int)))=(List.range x).filter (fun i:Nat=>s (true,(i:Int))):=filt_neg (by rw [r4];decide)
           exact ⟨_,by omega,x+1,P2,C2,wN (by omega) (by omega),r3,rfl,mv,by rw [eF];exact bv,ov1,by rw [eF];exact ov2,fv⟩
       · have r3:x=t+1:=by rw [decide_eq_false_iff_not] at r3;omega
         subst r3
         refine ⟨_,_,_,_,_,_,cells2 bv,?_⟩
         have gv2:Grow w24 v2:=(gu.trans gv103).then mv fun j hj e=>by omega
         have i3:=h4.has.lt
         have z24':=g24.size
         have b3:Has v2 n3 _:=(h4.has.grow (g24.trans (gu.trans gv103))).keep mv (by omega)
         refine store_i b3 rfl rfl fun w133 b133 m133=> ⟨_,_,_,_,_,_,cells2 b133,P,P2,C,C2,0,_,_,rfl,.inr (.inr ⟨⟨hcn,hmy⟩,t,ht,hpl,rfl,?_,?_⟩),ov1.keep m133 fun j hj e=>by have:=fy j hj;omega,ov2.keep m133 fun j hj e=>by have:=(fv j hj).1;omega,(G24.trans gv2).then m133 fun j hj e=>by omega⟩
         · unfold corC
           refine List.filter_congr fun i _=> ?_
           rw [Bool.eq_iff_iff,@decide_eq_true_eq _ (Classical.propDecidable _)];exact hF _
         · unfold corS
           refine List.filter_congr fun i _=> ?_
           rw [Bool.eq_iff_iff,@decide_eq_true_eq _ (Classical.propDecidable _)];exact hF _
end Go.Proofs.YtenmibfmhccmiaaGreat.W
