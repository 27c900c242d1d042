/- Layer 19: how many rows there are: the plain law. -/
import Derived.Test.YtabengnadcleeaaGreatRankA
import Derived.Test.YtabengnadcleeaaGreatTsB
import Derived.Test.YtabengnadcleeaaGreatCountA
import Derived.Test.YtabengnadcleeaaGreatCountB
namespace Go.Proofs.YtabengnadcleeaaGreat.W
open Go Go.Fw Go.RowKit Go.TsP Go.SoP Go.LiP Rk
def taut (t:Nat):List (List Int):=(List.range t).map fun (j:Nat)=> [2* (j:Int)+2,2* (j:Int)+3]
theorem taut_succ (t:Nat):taut (t+1)=taut t++ [[2* (t:Int)+2,2* (t:Int)+3]]:=by unfold taut;rw [List.range_succ,List.map_append];rfl
theorem taut_len (t:Nat):(taut t).length=t:=by simp [taut]
def rowsC (n:Nat):List (List Int):=mustO (ordM n 0 (pst n n)) n n++taut (pst n n)
def gI (t:Nat):List (Int × Int):=List.replicate t (-1,-1)
def fact:Nat→Nat
 |0=>1
 |n+1=> (n+1)*fact n
theorem inP_taut {t k:Nat} {g:List (Int × Int)} {cs:List (List Int)} (h0:1≤k) (h:k≤t):inP g (cs++taut t) k=true:=by
 refine inP_iff.2 (.hit ⟨[2* ((k - 1:Nat):Int)+2,2* ((k - 1:Nat):Int)+3],List.mem_append.2 (.inr (List.mem_map.2 ⟨k - 1,List.mem_range.2 (by omega),rfl⟩)),2* ((k - 1:Nat):Int)+2,List.mem_cons_self,?_⟩)
 rw [Int.tdiv_eq_ediv_of_nonneg (by omega)]
 omega
theorem cnt_all {P:Nat→Bool}: ∀ {t:Nat},(∀k,1≤k→k≤t→P k=true)→cnt P t=t
 |0,_=>rfl
 |t+1,h=>by rw [cnt_succ,if_pos (h (t+1) (by omega) (by omega)),cnt_all fun k h1 h2=>h k h1 (by omega)]
theorem vs_all {P:Nat→Bool} {t:Nat} (h: ∀k,1≤k→k≤t→P k=true):vs P t=(List.range t).map fun (i:Nat)=> (i:Int)+1:=by
 unfold vs
 refine List.map_congr_left fun i hi=> ?_
 have hi:=List.mem_range.1 hi
 rw [if_pos (h _ (by omega) (by omega)),cnt_all fun k h1 h2=>h k h1 (by omega)]
 omega
theorem gcls_in (P:Nat→Bool) {t:Nat}: ∀ {s:Nat},s≤t→gcls (gI t) P s= []
 |0,_=>rfl
 |s+1,h=>by
  rw [gcls_succ,gcls_in P (by omega)]
  unfold gcl
  rw [if_neg]
  · rfl
  · rw [show (gI t).getD s (0,0)=(-1,-1) by simp [gI,List.getD,show s<t by omega]]
    omega
def rowsF (n:Nat):List (List Int):=outC ((List.range (pst n n)).map fun (i:Nat)=> (i:Int)+1) (rowsC n)
theorem rows_dec: ∀n,n<5→pst n n≤6∧(rowsC n).length≤100∧mayT (gI (pst n n)) (rowsC n)=true∧(rowsF n).length≤100∧cnfB (pst n n:Nat) (rowsF n)=true∧cntM (pst n n) (rowsF n)=fact n∧fact n≤24:=by decide+kernel
theorem rows_code {n:Nat}:vs (inP (gI (pst n n)) (rowsC n)) (gI (pst n n)).length=((List.range (pst n n)).map fun (i:Nat)=> (i:Int)+1)∧cnt (inP (gI (pst n n)) (rowsC n)) (gI (pst n n)).length=pst n n∧
 outC (vs (inP (gI (pst n n)) (rowsC n)) (gI (pst n n)).length) (allC (gI (pst n n)) (rowsC n) (inP (gI (pst n n)) (rowsC n)))=rowsF n:=by
 have hl:(gI (pst n n)).length=pst n n:=by simp [gI]
 have ha: ∀k,1≤k→k≤pst n n→inP (gI (pst n n)) (rowsC n) k=true:=fun k h1 h2=>inP_taut h1 h2
 rw [hl,vs_all ha,cnt_all ha]
 refine ⟨rfl,rfl,?_⟩
 unfold allC rowsF
 rw [hl,gcls_in _ (Nat.le_refl _),List.nil_append]
end Go.Proofs.YtabengnadcleeaaGreat.W
namespace Go.Proofs.YtabengnadcleeaaGreat.W
open Go Go.Fw Go.RowKit Go.TsP Go.SoP Go.LiP Rk
theorem refRows_ok: ∀ (n:Nat) (w:World),n≤4→Calls Tryz.prog fathomref19_Rows.id #[.int .i64 (n:Int)] w fun e w'=>e= .returned (.int .i64 (fact n:Nat))∧Grow w w'
 |0,w,_=>fathomref19_Rows.calls (cnd_t rfl ⟨rfl,Mod.refl w⟩)
 |1,w,_=>fathomref19_Rows.calls (cnd_t rfl ⟨rfl,Mod.refl w⟩)
 |n+2,w,h=>by
  refine fathomref19_Rows.calls (cnd_f (decide_eq_false (by omega)) ?_)
  rw [show IntKind.i64.wrap (((n+2:Nat):Int) - 1)=((n+1:Nat):Int) by rw [wrap64_of (by omega) (by omega)];omega]
  refine (refRows_ok (n+1) w (by omega)).mono ?_
  rintro e w1 ⟨rfl,g1⟩
  have f:=(rows_dec (n+2) (by omega)).2.2.2.2.2.2
  have e2:((n+2:Nat):Int)* ((fact (n+1):Nat):Int)=((fact (n+2):Nat):Int):=by rw [← Int.natCast_mul];rfl
  refine ⟨_,rfl,?_,g1⟩
  rw [e2,wrap64_of (by omega) (by omega)]
theorem RankRows_calls {s:Int} (h0:0≤s) (h1:s<256) (w:World):Calls Tryz.prog fathomlaw19_RankRows.id #[.int .u8 s] w fun e w'=>e= .returned (.bool true)∧Grow w w':=by
 refine fathomlaw19_RankRows.calls ?_
 unfold fathomlaw19_RankRows.w
 obtain ⟨n,hn,hn5⟩: ∃n:Nat,IntKind.i64.wrap (s.tmod 5)=n∧n<5:=by
  refine ⟨(s % 5).toNat,?_,by omega⟩
  rw [Int.tmod_eq_emod_of_nonneg h0,wrap64_of (by omega) (by omega)]
  omega
 rw [hn]
 obtain ⟨t6,hc,hmay,hF,hcnf,hcnt,hf24⟩:=rows_dec n hn5
 obtain ⟨eV,eK,eC⟩:=rows_code (n:=n)
 refine ⟨by decide,(aigNew_ok w).mono ?_⟩
 rintro e w1 ⟨b,x,rfl,hx,hg,hf,g1⟩
 have hl:x.g.length=0:=by rw [hg];rfl
 refine ⟨_,rfl,(order_ok hx n (by omega) (by omega)).mono ?_⟩
 rintro e w3 ⟨p,c,hs,pm,cm,ms,rows,y,rfl,S,o,d⟩
 rw [hl] at o ⊢
 have yg:y.g=gI (pst n n):=by rw [S.g,hg];rfl
 have G3:Grow w w3:=g1.then S.M fun k hk e=>by have:=hf k e;omega
 have A:=S.a
 have z1:=g1.size
 obtain ⟨L,eL⟩: ∃L,mustO (ordM n 0 (pst n n)) n n=L:=⟨_,rfl⟩
 have eR:rowsC n=L++taut (pst n n):=by unfold rowsC;rw [eL]
 rw [eL] at o ⊢
 obtain ⟨t,et⟩: ∃t,pst n n=t:=⟨_,rfl⟩
 rw [et] at t6 hmay hcnf hcnt eV eK eC yg eR
 rw [eR] at hc hmay eV eK eC
 have yl:y.g.length=t:=by rw [yg];simp [gI]
 have hLt:L.length+t≤100:=by rw [List.length_append,taut_len] at hc;exact hc
 clear S hg hl hf eL et hn eR
 refine ⟨_,_,_,_,_,_,rfl,?_⟩
 refine ⟨fun mp mn mc i w' k=> ∃ (j:Nat) (ms:List Sl),i=2* (j:Int)+2∧j≤t∧mn=(L++taut j).length∧Own2 (Value.int .i64) ty_sl_int ty_int w' mp mc ms (L++taut j)∧(∀k,foot2 mp ms k→w.heap.size≤k∧¬y.foot b k)∧ARep w' b y∧Grow w w'∧k+j=t,
  ⟨t,0,ms,rfl,Nat.zero_le _,by simp [taut],by rw [show L++taut 0=L from List.append_nil _];exact o,fun k hk=> ⟨by have:=(d k hk).2.2;omega,(d k hk).1⟩,A,G3,rfl⟩,?_⟩
 clear o d A G3
 rintro mp mn mc i w11 z _ ⟨j,ms,rfl,hj,rfl,O,F,A,G,hz⟩
 refine (aigLen_ok A).mono ?_
 rintro e w12 ⟨rfl,g12⟩
 refine ⟨_,rfl,?_⟩
 rw [yl,show IntKind.i64.wrap (IntKind.i64.wrap (2* (t:Int))+2)=2* (t:Int)+2 by rw [wrap64_of (x:=2* (t:Int)) (by omega) (by omega),wrap64_of (by omega) (by omega)]]
 have A12:=A.grow g12
 have O12:=O.grow g12
 have G12:=G.trans g12
 refine cnd_i (fun r=> ?_) (fun r=> ?_)<;>simp only [decide_eq_true_eq,decide_eq_false_iff_not] at r
 · have hj':j<t:=by omega
   rw [show IntKind.i64.wrap (2* (j:Int)+2+1)=2* (j:Int)+3 by rw [wrap64_of (by omega) (by omega)];omega,show IntKind.i64.wrap (2* (j:Int)+2+2)=2* ((j+1:Nat):Int)+2 by rw [wrap64_of (by omega) (by omega)];omega]
   intro n14 w15 h14 n16 w17 h16
   have e14:=h14.num
   have olt:=O12.lt
   have ylt:=A12.lt
   have z12:=G12.size
   have ol:OwI ty_int w15 (some ⟨n14,0,none⟩) 2 [2* (j:Int)+2,2* (j:Int)+3]:=New.ow (l:= [2* (j:Int)+2,2* (j:Int)+3]) h14 rfl (by show 2≤maxLen;decide)
   have O17:=(O12.grow h14.mod).grow h16.mod
   have G17:=(G12.trans h14.mod).trans h16.mod
   have z17:=(h14.mod.trans h16.mod).size
   have hlen:(L++taut j).length≤100:=by rw [List.length_append,taut_len];omega
   refine O17.app1 sl_sl_int (s:=⟨some ⟨n14,0,none⟩,2,2⟩) h16.has rfl (ol.grow h16.mod) rfl (fun k hk e=> ?_) (by omega) fun w18 p' c' o' m hp hsz=> ?_
   · have:=blk_some hk
     have:=olt k e;omega
   · refine ⟨z - 1,by omega,j+1,_,rfl,hj',?_,by rw [taut_succ,← List.append_assoc];exact o',?_,?_,?_,by omega⟩
     · rw [taut_succ,← List.append_assoc,List.length_append (bs:= [_])];rfl
     · rintro k (e| ⟨s,hs',e⟩)
       · rcases hp with rfl|rfl
         · exact F k (.inl e)
         · have:=blk_some e
           exact ⟨by omega,fun e=>by have:=ylt k e;omega⟩
       · rcases List.mem_append.1 hs' with hs'|hs'
         · exact F k (.inr ⟨s,hs',e⟩)
         · rw [List.mem_singleton] at hs';subst hs'
           have:=blk_some e
           exact ⟨by omega,fun e=>by have:=ylt k e;omega⟩
     · exact ((A12.grow h14.mod).grow h16.mod).keep m fun k hk e=> (F k (.inl e)).2 hk
     · exact G17.then m fun k hk e=>by have:=(F k (.inl e)).1;omega
 · have:j=t:=by omega
   subst this
   refine (nodes_ok A12 (by omega)).mono ?_
   rintro e w20 ⟨pn,cn,rfl,V20,g20⟩
   refine ⟨_,_,_,rfl,?_⟩
   rw [yg] at V20 ⊢
   refine (build_ok rfl (by rw [← yg];omega) rfl (by rw [List.length_append,taut_len];omega) V20 (O12.grow g20).v2).mono ?_
   rintro e w22 ⟨h,g22⟩
   rcases h with ⟨h,_⟩| ⟨_,pc,cc,pv,cv,rfl,C⟩
   · rw [hmay] at h;cases h
   have G22:=(G12.trans g20).trans g22
   obtain ⟨⟨hs',hV⟩,_⟩:=C
   unfold tC tV at hV
   rw [eC] at hV
   refine ⟨_,_,_,_,_,_,_,_,rfl,?_⟩
   unfold tC tV tK
   rw [eC,eK]
   intro n27 w28 h28
   have e28:=h28.num
   refine store_i h28.has rfl rfl fun w29 H29 m29=> ?_
   have H29:Has w29 n27 #[.int .i64 (j:Int),.slice pc (rowsF n).length cc,.slice pv (vs (inP (gI j) (L++taut j)) (gI j).length).length cv]:=H29
   have g29:Grow w22 w29:=Mod.fresh h28.mod m29 (by omega)
   refine ⟨_,_,_,_,⟨cell_add H29 rfl,cell_add H29 rfl,trivial⟩,?_⟩
   refine (count_ok (N:=j) (n:=1000) (hV.grow g29) rfl hcnf rfl t6 (by omega) (by omega) (by omega)).mono ?_
   rintro e w32 ⟨r,rfl,r1,r2,r3,g32⟩
   rw [hcnt] at r2 r3
   have hr:r=fact n:=by omega
   subst hr
   refine ⟨_,_,rfl,cnd_t rfl (cnd_t rfl ((refRows_ok n w32 (by omega)).mono ?_))⟩
   rintro e w35 ⟨rfl,g35⟩
   exact ⟨_,rfl,cnd_t (by simp) (awake19' (((G22.trans g29).trans g32).trans g35))⟩
theorem RankRows_law (v0:Value) (W:World) (h0:RdV W (.int .u8) v0):Calls Tryz.prog fathomlaw19_RankRows.id #[v0] W fun e W'=>e= .returned (.bool true)∧Grow W W':=by
 obtain ⟨n,rfl,hn⟩:=h0
 have h:=bdU8_of_wf hn
 exact RankRows_calls h.1 h.2 W
end Go.Proofs.YtabengnadcleeaaGreat.W
