/- Layer 8: of which clauses a clause is at hand, plain. -/
import Derived.Test.YtbdghpjnifjlmaaGreatPropC
import Derived.Test.YtbdghpjnifjlmaaGreatLubyA
namespace Go.Proofs.YtbdghpjnifjlmaaGreat.W
open Go Go.Fw Go.RowKit Go.SoP Go.LiP
open Go.Proofs.Tryz (prog)
open Go.IntKind (i64)
section
variable {cs cs':List (List Int)} {c d T T':List Int} {v:Int}
theorem fol_mono (h: ∀x∈cs,x∈cs') (hF:Fol cs d T):Fol cs' d T:=by
 induction hF with
 |refl=>exact .refl
 |step h1 h2 h3 ih=>exact .step ih (h _ h2) h3
theorem uB_mono (h: ∀x∈cs,x∈cs') (hu:uB cs c):uB cs' c:=by
 rcases hu with ht| ⟨T,hF,x,hx,hb⟩
 · exact .inl ht
 · exact .inr ⟨T,fol_mono h hF,x,h x hx,hb⟩
theorem unitG_congr: ∀ (c:List Int) (o:Int),(∀x∈c,(x∈T↔x∈T')∧(-x∈T↔ -x∈T'))→unitG T c o=unitG T' c o
 | [],_,_=>rfl
 |x::c,o,h=>by
  obtain ⟨h1,h2⟩:=h x (List.mem_cons_self ..)
  have ih:=fun o=>unitG_congr c o fun y hy=>h y (List.mem_cons_of_mem _ hy)
  unfold unitG
  by_cases a:x∈T
  · rw [if_pos a,if_pos (h1.1 a)]
  · rw [if_neg a,if_neg fun e=>a (h1.2 e)]
    by_cases b: -x∈T∨x=o
    · rw [if_pos b,if_pos (Or.imp h2.1 (fun e=>e) b)];exact ih o
    · rw [if_neg b,if_neg fun e=>b (Or.imp h2.2 (fun e=>e) e)]
      split
      · rfl
      · exact ih x
theorem uB_fresh (hz:NZ cs) (hv:v≠0) (hf: ∀c∈cs,v ∉ c∧ -v ∉ c):uB cs [v]↔uB cs []:=by
 have key: ∀c∈cs,∀T:List Int,unitF c (-v::T)=unitF c T∧brokenP c (-v::T)=brokenP c T:=fun c hc T=>by
  have hx: ∀x∈c,(x∈ -v::T↔x∈T)∧(-x∈ -v::T↔ -x∈T):=fun x hx=>by
   have h1:x≠ -v:=fun e=> (hf c hc).2 (e▸hx)
   have h2: -x≠ -v:=fun e=> (hf c hc).1 (by have:x=v:=by omega
                                            exact this▸hx)
   simp [h1,h2]
  refine ⟨unitG_congr c 0 hx,?_⟩
  rw [Bool.eq_iff_iff,brokenP_iff,brokenP_iff]
  exact ⟨fun h x hx'=> ((hx x hx').2).1 (h x hx'),fun h x hx'=> ((hx x hx').2).2 (h x hx')⟩
 have hfol: ∀ {T},Fol cs [] T→Fol cs [-v] (-v::T):=by
  intro T h
  induction h with
  |refl=>exact .refl
  |step h1 h2 h3 ih=>
   rename_i t c
   rw [← List.cons_append,← (key c h2 t).1]
   exact .step ih h2 (by rw [(key c h2 t).1];exact h3)
 obtain ⟨T,hF,hT⟩:=fol_end (cs:=cs) (d:= []) hz _ _ (Nat.le_refl _) .refl
 have e1:negs [v]= [-v]:=rfl
 have ht:taut [v]=false:=by
  rw [← Bool.not_eq_true,taut_iff]
  rintro ⟨x,hx,hx'⟩
  rw [List.mem_singleton] at hx hx'
  omega
 have hbr:(∃x∈cs,brokenP x (-v::T)=true)↔∃x∈cs,brokenP x T=true:=
  ⟨fun ⟨x,hx,h⟩=> ⟨x,hx,by rwa [(key x hx T).2] at h⟩,fun ⟨x,hx,h⟩=> ⟨x,hx,by rwa [(key x hx T).2]⟩⟩
 rw [uB_end hz ht (T:= -v::T) (by rw [e1];exact hfol hF) (hT.imp (fun h=>hbr.2 h) fun h x hx=>by rw [(key x hx T).1,(key x hx T).2];exact h x hx),uB_end (c:= []) hz rfl hF hT,hbr]
open Classical in
noncomputable def ndK (cs:List (List Int)) (c:List Int):Nat→List Nat→List Nat
 |0,K=>K
 |i+1,K=>ndK cs c i (if uB (cs.take i++K.map fun j=>cs.getD j []) c then K else i::K)
theorem ndK_in {i:Nat} {K:List Nat} (hu:uB (cs.take i++K.map fun j=>cs.getD j []) c):ndK cs c (i+1) K=ndK cs c i K:=by rw [ndK,if_pos hu]
theorem ndK_out {i:Nat} {K:List Nat} (hu: ¬uB (cs.take i++K.map fun j=>cs.getD j []) c):ndK cs c (i+1) K=ndK cs c i (i::K):=by rw [ndK,if_neg hu]
def Ris (n i:Nat) (K:List Nat):Prop:=(∀j∈K,i≤j∧j<n)∧K.Pairwise (·< ·)
theorem Ris.cons {n i:Nat} {K:List Nat} (h:Ris n (i+1) K) (hi:i<n):Ris n i (i::K):=by
 refine ⟨fun j hj=> ?_,List.pairwise_cons.2 ⟨fun j hj=>by have:=h.1 j hj;omega,h.2⟩⟩
 rcases List.mem_cons.1 hj with rfl|hj
 · exact ⟨Nat.le_refl _,hi⟩
 · have:=h.1 j hj;omega
theorem Ris.less {n i:Nat} {K:List Nat} (h:Ris n (i+1) K):Ris n i K:=⟨fun j hj=>by have:=h.1 j hj;omega,h.2⟩
theorem ndK_ris {n:Nat} (hn:n=cs.length): ∀ {i:Nat} {K:List Nat},i≤n→Ris n i K→Ris n 0 (ndK cs c i K)∧(∀j∈K,j∈ndK cs c i K)∧∀j∈ndK cs c i K,j<i∨j∈K
 |0,K,_,h=> ⟨h,fun _ h=>h,fun _ h=> .inr h⟩
 |i+1,K,hi,h=>by
  by_cases hu:uB (cs.take i++K.map fun j=>cs.getD j []) c
  · rw [ndK_in hu]
    obtain ⟨a,b,d⟩:=ndK_ris hn (i:=i) (K:=K) (by omega) h.less
    exact ⟨a,b,fun j hj=> (d j hj).imp (fun h=>by omega) fun h=>h⟩
  · rw [ndK_out hu]
    obtain ⟨a,b,d⟩:=ndK_ris hn (i:=i) (K:=i::K) (by omega) (h.cons (by omega))
    refine ⟨a,fun j hj=>b j (List.mem_cons_of_mem _ hj),fun j hj=> ?_⟩
    rcases d j hj with h|h
    · exact .inl (by omega)
    · rcases List.mem_cons.1 h with rfl|h
      · exact .inl (by omega)
      · exact .inr h
end
section
variable {W w w' w0 w2 w3 u:World} {p q:Option Addr} {n m c d n1:Nat} {id id':List (Int × Int)} {hs ks:List Sl} {cs:List (List Int)} {l:List Int}
def Mor (id id':List (Int × Int)):Prop:= ∀y v,al id y=some v→al id' y=some v
theorem Mor.refl (id:List (Int × Int)):Mor id id:=fun _ _ h=>h
theorem Mor.trans {id2:List (Int × Int)} (h:Mor id id') (k:Mor id' id2):Mor id id2:=fun y v e=>k y v (h y v e)
theorem Mor.nt (h:Mor id id') {x:Int} (hx:Nt id x):Nt id' x:=by
 obtain ⟨v,hv⟩:=Option.isSome_iff_exists.1 hx.2
 exact ⟨hx.1,by rw [h _ _ hv];rfl⟩
theorem Mor.cod (h:Mor id id') {x:Int} (hx:Nt id x):Go.Proofs.YtbdghpjnifjlmaaGreat.W.cod id' x=Go.Proofs.YtbdghpjnifjlmaaGreat.W.cod id x:=by
 obtain ⟨v,hv⟩:=Option.isSome_iff_exists.1 hx.2
 unfold Go.Proofs.YtbdghpjnifjlmaaGreat.W.cod
 rw [hv,h _ _ hv]
theorem Mor.map (h:Mor id id') (hl: ∀x∈l,Nt id x):l.map (Go.Proofs.YtbdghpjnifjlmaaGreat.W.cod id')=l.map (Go.Proofs.YtbdghpjnifjlmaaGreat.W.cod id):=List.map_congr_left fun x hx=>h.cod (hl x hx)
theorem Mor.maps (h:Mor id id') (hl: ∀c∈cs,∀x∈c,Nt id x):cs.map (List.map (Go.Proofs.YtbdghpjnifjlmaaGreat.W.cod id'))=cs.map (List.map (Go.Proofs.YtbdghpjnifjlmaaGreat.W.cod id)):=List.map_congr_left fun c hc=>h.map (hl c hc)
theorem idn_add (h:Idn id) {a:Int} (ha:1≤a∧a≤1048576) (hno:al id a=none):Idn (ai id a ((id.length+1:Nat):Int))∧Mor id (ai id a ((id.length+1:Nat):Int))∧(al (ai id a ((id.length+1:Nat):Int)) a).isSome∧(ai id a ((id.length+1:Nat):Int)).length=id.length+1:=by
 have hai:ai id a ((id.length+1:Nat):Int)=id++ [(a,((id.length+1:Nat):Int))]:=by unfold ai;rw [hno];rfl
 refine ⟨⟨ai_nodup h.nd _ _,fun j hj=> ?_,fun x hx=> ?_⟩,fun y v e=> ?_,by rw [al_ai,if_pos rfl];rfl,by rw [hai];simp⟩
 · rw [hai] at hj ⊢
   rw [List.length_append,List.length_singleton] at hj
   by_cases e:j<id.length
   · have:=h.idn j e
     simp only [List.getD,List.getElem?_append_left e] at this ⊢
     exact this
   · have:j=id.length:=by omega
     subst this
     simp [List.getD]
 · rw [hai] at hx
   rcases List.mem_append.1 hx with hx|hx
   · exact h.idk x hx
   · rw [List.mem_singleton] at hx;rw [hx];exact ha
 · rw [al_ai,if_neg fun e2=>by rw [e2,hno] at e;cases e];exact e
def CI (w8:World) (n1:Nat) (id0:List (Int × Int)) (l:List Int) (P:Option Addr) (N C:Nat) (I:Int) (u:World) (z:Nat):Prop:=
 ∃ (j:Nat) (id:List (Int × Int)),I=j∧j≤l.length∧z=l.length - j∧N=j∧Mod (·=n1) w8 u∧MV (Value.int .i64) u n1 id∧Idn id∧Mor id0 id∧id.length≤id0.length+j∧(∀x∈l.take j,Nt id x)∧OwI ty_int u P C ((l.take j).map (cod id))∧∀k,blk P=some k→w8.heap.size≤k
theorem coded_ok (hv:V2 (Value.int .i64) w p hs cs) (hn:n=cs.length) (hl: ∀c∈cs,∀x∈c,litB x=true) (hm:n≤100000) (htot:tot cs≤1000000):
 Calls prog drat_coded.id #[.slice p n c] w fun e w'=> ∃ (id:List (Int × Int)) (q:Option Addr) (d:Nat) (ks:List Sl),e= .returned (.tuple #[.int .i64 (id.length:Int),.slice q cs.length d])∧Idn id∧(∀c∈cs,∀x∈c,Nt id x)∧Own2 (Value.int .i64) ty_sl_int ty_int w' q d ks (cs.map (List.map (cod id)))∧Grow w w'∧(∀k,foot2 q ks k→w.heap.size≤k)∧id.length≤tot cs:=by
 subst hn
 refine drat_coded.calls ?_
 intro n1 w2 h2
 have e1:=h2.num
 have s2:=h2.size
 have ltN:=hv.ltN
 refine ⟨fun P N C I u z=> ∃ (i:Nat) (id:List (Int × Int)) (ks:List Sl),I=i∧i≤cs.length∧z=cs.length - i∧N=i∧Mod (·=n1) w2 u∧MV (Value.int .i64) u n1 id∧Idn id∧id.length≤tot (cs.take i)∧(∀c∈cs.take i,∀x∈c,Nt id x)∧Own2 (Value.int .i64) ty_sl_int ty_int u P C ks ((cs.take i).map (List.map (cod id)))∧∀k,foot2 P ks k→w2.heap.size≤k,
  ⟨_,0,[],[],rfl,Nat.zero_le _,rfl,rfl,Mod.refl _,MV.new h2,⟨by simp,fun j hj=>by simp at hj,fun x hx=>by simp at hx⟩,by simp,fun c hc=>by simp at hc,⟨Ow.nil _ _ _,rfl,fun j hj=>by simp at hj,fun j k hj=>by simp at hj,fun i j k hi=>by simp at hi⟩,fun k hk=>by
    rcases hk with hk| ⟨x,hx,_⟩
    · simp [blk] at hk
    · simp at hx⟩,?_⟩
 rintro P N C I w8 z _ ⟨i,id,ks,rfl,hi,rfl,rfl,M8,m8,idn,hil,hN,ow,fo⟩
 have i1:=m8.lt
 have Gw: ∀ {v:World},Mod (·=n1) w2 v→Grow w v:=fun m=>h2.mod.then m fun k hk e=>by omega
 have hv8: ∀ {v:World},Mod (·=n1) w2 v→V2 (Value.int .i64) v p hs cs:=fun m=>hv.grow (Gw m)
 have z8:=M8.size
 refine cnd_i (fun r=> ?_) (fun r=> ?_)
 · have r:N<cs.length:=by simpa using r
   have hmem:=getD_mem2 r
   have tt:=tot_take r
   have tl:=tot_take_le (cs:=cs) (N+1)
   refine (hv8 M8).ix (by omega) rfl (by omega) fun a sl k1 k0 k2 k3 k4=> ⟨_,_,_,k1,?_⟩
   rw [Int.toNat_natCast] at k0 k2
   obtain ⟨_,_,r3⟩:=hv.r N r
   rw [← k0] at r3
   refine ⟨CI w8 n1 id (cs.getD N []),⟨_,0,id,rfl,Nat.zero_le _,rfl,rfl,Mod.refl _,m8,idn,Mor.refl _,by omega,fun x hx=>by simp at hx,by simpa using Ow.nil _ _ _,fun k hk=>by simp [blk] at hk⟩,?_⟩
   generalize hL:cs.getD N []=L at*
   rintro P1 N1 C1 I1 v z1 _ ⟨j,id1,rfl,hj,rfl,rfl,Mv,mv,idn1,mor,hil1,hN1,o,f⟩
   have Mw:Mod (·=n1) w2 v:=M8.trans Mv
   have zv:=Mv.size
   have hlen:((L.take N1).map (cod id1)).length=N1:=by simp;omega
   refine cnd_i (fun r1=> ?_) (fun r1=> ?_)
   · have r1:N1<L.length:=by rw [k2] at r1;simpa using r1
     have tk: ∀x,x∈L.take (N1+1)↔x∈L.take N1∨x=L.getD N1 0:=fun x=>mem_take_succ' r1
     have tks:L.take (N1+1)=L.take N1++ [L.getD N1 0]:=take_snoc r1 0
     refine (r3.grow (Gw Mw)).ix 0 (by omega) k2 (by omega) fun a e=> ⟨_,e,?_⟩
     rw [Int.toNat_natCast]
     have hlx:=hl L hmem _ (getD_mem' r1)
     have hb:=litB_b2 hlx
     have hz:=litB_nz hlx
     generalize hX:L.getD N1 0=X at*
     have ea:imax X (i64.wrap (0 - X))=amt X:=by
      rw [nw X hb];unfold imax amt;split<;>split<;>omega
     try dsimp only
     rw [ea]
     have ha:1≤amt X∧amt X≤1048576:=by unfold amt;split<;>omega
     have hval: ∀id:List (Int × Int),((al id (amt X)).map (Value.int .i64)).getD (.int .i64 0)= .int .i64 ((al id (amt X)).getD 0):=fun id=>by cases al id (amt X)<;>rfl
     have lookv: ∀ {y:World} {id:List (Int × Int)},MV (Value.int .i64) y n1 id→(Instr.lookup ty_map_int_int (.map (some n1)) (.int .i64 (amt X)) false).run prog y= .ok (.int .i64 ((al id (amt X)).getD 0)) y:=fun {y id} h=>by
      have:=h.look map_ii (amt X) (zero_int y)
      rwa [hval] at this
     have fin: ∀ (y:World) (id2:List (Int × Int)),Mod (·=n1) v y→MV (Value.int .i64) y n1 id2→Idn id2→Mor id1 id2→id2.length≤id.length+ (N1+1)→(al id2 (amt X)).isSome→
      cnd (decide (X< (0:Int)))
       (∃w35 r36,(Instr.lookup ty_map_int_int (.map (some n1)) (.int .i64 (amt X)) false).run prog y= .ok (.int .i64 r36) w35∧
         ∀n37 w38,New (.cells #[.int .i64 (i64.wrap (0 - r36))] ty_int) w35 n37 w38→
         ∃w39 r40p r40n r40c,(Builtin.append_ #[ty_sl_int,ty_sl_int] ty_sl_int #[.slice P1 N1 C1,.slice (some (Addr.mk n37 0 none)) 1 1]).run prog w38= .ok (.slice r40p r40n r40c) w39∧
         ∃k13,k13<L.length - N1∧CI w8 n1 id L r40p r40n r40c (i64.wrap ((N1:Int)+ (1:Int))) w39 k13)
       (∃w41 r42,(Instr.lookup ty_map_int_int (.map (some n1)) (.int .i64 (amt X)) false).run prog y= .ok (.int .i64 r42) w41∧
         ∀n43 w44,New (.cells #[.int .i64 r42] ty_int) w41 n43 w44→
         ∃w45 r46p r46n r46c,(Builtin.append_ #[ty_sl_int,ty_sl_int] ty_sl_int #[.slice P1 N1 C1,.slice (some (Addr.mk n43 0 none)) 1 1]).run prog w44= .ok (.slice r46p r46n r46c) w45∧
         ∃k13,k13<L.length - N1∧CI w8 n1 id L r46p r46n r46c (i64.wrap ((N1:Int)+ (1:Int))) w45 k13):=by
      intro y id2 My my idn2 mor2 hil2 hso
      have hNX:Nt id2 X:=⟨hz,hso⟩
      have hall: ∀x∈L.take (N1+1),Nt id2 x:=fun x hx=>by
       rcases (tk x).1 hx with h|rfl
       · exact mor2.nt (hN1 x h)
       · exact hNX
      have hrow:(L.take (N1+1)).map (cod id2)=(L.take N1).map (cod id1)++ [cod id2 X]:=by
       rw [tks,List.map_append,mor2.map hN1];rfl
      have hbd:0≤(al id2 (amt X)).getD 0∧(al id2 (amt X)).getD 0≤2000000:=by
       obtain ⟨vv,hvv⟩:=Option.isSome_iff_exists.1 hso
       obtain ⟨jj,hjj,_,rfl⟩:=idn2.get hvv
       rw [hvv]
       simp only [Option.getD_some]
       have hll:=hl L hmem
       omega
      have My8:=Mv.trans My
      have oy:OwI ty_int y P1 C1 ((L.take N1).map (cod id1)):=o.keep My fun k hk e=>by have:=f k hk;omega
      have add: ∀ (yv:Int),yv=cod id2 X→∀n37 w38,New (.cells #[.int .i64 yv] ty_int) y n37 w38→
            ∃w39 r40p r40n r40c,(Builtin.append_ #[ty_sl_int,ty_sl_int] ty_sl_int #[.slice P1 N1 C1,.slice (some (Addr.mk n37 0 none)) 1 1]).run prog w38= .ok (.slice r40p r40n r40c) w39∧
            ∃k13,k13<L.length - N1∧CI w8 n1 id L r40p r40n r40c (i64.wrap ((N1:Int)+ (1:Int))) w39 k13:=by
       rintro yv rfl n37 w38 h38
       have e38:=h38.num
       have zy:=My.size
       refine Ow.app1 sl_int (oy.grow h38.mod) (cod id2 X) h38.has rfl hlen.symm oneInt (by rw [hlen];omega) fun w39 p' c' o39 m39 hp' hz'=> ?_
       rw [← hrow] at o39
       rw [hlen]
       have iy:=my.lt
       have hne:blk P1≠some n1:=fun e=>by have:=f n1 e;omega
       refine ⟨_,by omega,N1+1,id2,wN (by omega) (by omega),r1,rfl,rfl,(My8.grow h38.mod).then m39 fun k hk e=>by have:=f k e;omega,(my.grow h38.mod).keep m39 hne,idn2,mor.trans mor2,hil2,hall,o39,fun k hk=> ?_⟩
       have s38:=h38.size
       rcases hp' with rfl|rfl
       · exact f k hk
       · have:=blk_some hk;omega
      refine cnd_i (fun r2=> ⟨_,_,lookv my,?_⟩) (fun r2=> ⟨_,_,lookv my,?_⟩)
      · have r2:X<0:=by simpa using r2
        rw [show i64.wrap (0 - (al id2 (amt X)).getD 0)= -((al id2 (amt X)).getD 0) by rw [wrap64_of (by omega) (by omega)];omega]
        exact add _ (by unfold cod;rw [if_pos r2])
      · have r2: ¬X<0:=by simpa using r2
        exact add _ (by unfold cod;rw [if_neg r2])
     refine ⟨_,_,lookv mv,cnd_i (fun r2=> ?_) (fun r2=> ?_)⟩
     · have r2:(al id1 (amt X)).getD 0=0:=by simpa using r2
       have hno:al id1 (amt X)=none:=by
        cases hv':al id1 (amt X) with
        |none=>rfl
        |some v'=>
         obtain ⟨jj,_,_,rfl⟩:=idn1.get hv'
         rw [hv'] at r2
         simp only [Option.getD_some] at r2
         omega
       refine ⟨_,mv.len map_ii _,?_⟩
       rw [wN (i:=id1.length+1) (by omega) (by omega)]
       obtain ⟨w22,hr,mv2,mm,_⟩:=mv.put map_ii (amt X) ((id1.length+1:Nat):Int)
       obtain ⟨a1,a2,a3,a4⟩:=idn_add idn1 ha hno
       exact ⟨w22,hr,fin w22 _ mm mv2 a1 a2 (by rw [a4];omega) a3⟩
     · have r2:(al id1 (amt X)).getD 0≠0:=by simpa using r2
       have hso:(al id1 (amt X)).isSome:=by
        cases hv':al id1 (amt X) with
        |none=>rw [hv'] at r2;simp at r2
        |some v'=>rfl
       exact fin v id1 (Mod.refl _) mv idn1 (Mor.refl _) (by omega) hso
   · have r1:N1=L.length:=by rw [k2] at r1;simp at r1;omega
     subst r1
     rw [List.take_length] at o hN1 hlen
     intro n47 w48 h48
     have e48:=h48.num
     have hrow:(cs.take (N+1)).map (List.map (cod id1))=(cs.take N).map (List.map (cod id))++ [L.map (cod id1)]:=by
      rw [take_snoc r [],List.map_append,mor.maps hN,hL];rfl
     have owv:Own2 (Value.int .i64) ty_sl_int ty_int v P C ks ((cs.take N).map (List.map (cod id))):=ow.keep Mv fun k hk e=>by have:=fo k hk;omega
     have ltv:=ow.lt
     have hlN:((cs.take N).map (List.map (cod id))).length=N:=by simp;omega
     refine Own2.app1 (s:=⟨P1,L.length,C1⟩) (x:=L.map (cod id1)) sl_sl_int (owv.grow h48.mod) h48.has hlN.symm (o.grow h48.mod) (by simp) (fun k hk hf=>by have:=f k hk;have:=ltv k hf;omega) (by rw [hlN];omega) fun w49 p' c' o49 m49 hp' hz'=> ?_
     rw [← hrow] at o49
     rw [hlN]
     have hne:blk P≠some n1:=fun e=>by have:=fo n1 (.inl e);omega
     refine ⟨_,?_,N+1,id1,_,wN (by omega) (by omega),r,rfl,rfl,(Mw.grow h48.mod).then m49 fun k hk e=>by have:=fo k (.inl e);omega,(mv.grow h48.mod).keep m49 hne,idn1,by omega,fun c hc x hx=> ?_,o49,fun k hk=> ?_⟩
     · omega
     · rw [take_snoc r []] at hc
       rcases List.mem_append.1 hc with hc|hc
       · exact mor.nt (hN c hc x hx)
       · rw [List.mem_singleton,hL] at hc;subst hc;exact hN1 x hx
     · have s48:=h48.size
       rcases hk with hk| ⟨x,hx,hk⟩
       · rcases hp' with rfl|rfl
         · exact fo k (.inl hk)
         · have:=blk_some hk;omega
       · rcases List.mem_append.1 hx with hx|hx
         · exact fo k (.inr ⟨x,hx,hk⟩)
         · rw [List.mem_singleton] at hx
           subst hx
           have:=f k hk;omega
 · have r:N=cs.length:=by simp at r;omega
   subst r
   rw [List.take_length] at ow hN hil
   refine ⟨_,m8.len map_ii _,id,P,C,ks,rfl,idn,hN,ow,Gw M8,fun k hk=> ?_,hil⟩
   have:=fo k hk;omega
end
section
variable {W w w' w0 w2 w3:World} {b n cc nt:Nat} {H H' H2:Pt→Sl} {s t u s':PSt} {cp:Option Addr} {c:List Int} {cs:List (List Int)}
structure Rd2 (s s':PSt) (c:List Int) (j:Nat):Prop where
 g:Good s'
 k:Kep s s'
 dt:s'.dec=s'.R .tr
 bt:(s'.R .be).length=(s'.R .tr).length
 b0:s'.R .be≠[]→(s'.R .be).getD 0 0=0
 fw: ∀x∈c.take j,-x∈s'.R .tr
 bw: ∀y∈s'.R .tr,∃x∈c.take j,y= -x
theorem at_ok (h:PM w b H s) (g:Good s) (hbe:s.R .be= []) (htr:s.R .tr= []) (ht:Has w nt #[ptrV b,.slice cp n cc]) (hnt: ∀x,own b H x≠some nt) (hc:Vw (Value.int .i64) w cp c) (hcn: ∀k,blk cp=some k→∀x,own b H x≠some k) (hn:n=c.length) (hne:c≠[]) (hx:n≤100000)
 (hin: ∀x∈c,InV s.vars x) (htau:taut c=false) (hcs: ∀x,x∈cs↔s.cls x):
 Calls prog drat_tester_at.id #[ptrV nt] w fun e w'=> ∃r:Bool,e= .returned (.bool r)∧(r=true↔uB cs c)∧∃H' s',Pw w w' b H H' s'∧Good s'∧Kep s s'∧s'.R .be= []∧s'.R .tr= []:=by
 subst hn
 refine drat_tester_at.calls ⟨_,rfl,_,cell_add ht rfl,_,rfl,_,_,_,cell_add ht rfl,?_⟩
 refine ⟨fun I u z=> ∃j:Nat,I=j∧j≤c.length∧z=c.length - j∧∃H' s',Pw w u b H H' s'∧Rd2 s s' c j,⟨_,0,rfl,Nat.zero_le _,rfl,H,s,Pw.refl h (Mod.refl _),
  ⟨g,.refl s,by unfold PSt.dec;rw [hbe,htr];rfl,by rw [hbe,htr],fun e=>absurd hbe e,fun x hx=>by simp at hx,fun y hy=>by rw [htr] at hy;simp at hy⟩⟩,?_⟩
 rintro I u z _ ⟨j,rfl,hj,rfl,H1,s1,P1,R⟩
 have hcu:Vw (Value.int .i64) u cp c:=hc.keep P1.mod fun k hk ⟨x,e⟩=>hcn k hk x e
 have htu:Has u nt _:=ht.keep P1.mod fun ⟨x,e⟩=>hnt x e
 have k1:=R.g.wf
 refine cnd_i (fun r=> ?_) (fun r=> ?_)
 · have r:j<c.length:=by simpa using r
   have hm:=getD_mem' r
   have tk: ∀x,x∈c.take (j+1)↔x∈c.take j∨x=c.getD j 0:=fun x=>mem_take_succ' r
   refine hcu.ix 0 (by omega) rfl (by omega) fun a e=> ⟨_,e,_,rfl,_,cell_add htu rfl,?_⟩
   rw [Int.toNat_natCast]
   generalize hX:c.getD j 0=X at*
   have hv:InV s1.vars X:=by rw [R.k.v];exact hin X hm
   refine (value_ok P1.pm k1 _).mono ?_
   rintro e w14 ⟨rfl,g14⟩
   have P14:=P1.grow g14
   have hval:s1.value X=s1.val X:=by
    unfold PSt.value;rw [(isB_iff R.g.vmax).2 hv];rfl
   rw [hval]
   refine ⟨_,rfl,cnd_i (fun r2=> ?_) (fun r2=> ?_)⟩
   · have r2:s1.val X=0:=by simpa using r2
     refine ⟨_,rfl,_,cell_add (htu.grow g14) rfl,?_⟩
     rw [nw _ (hv.bd R.g.vmax)]
     have hv0:s1.val (-X)=0:=by rw [val_neg hv,r2];rfl
     refine (decide_ok P14.pm R.g (-X)).mono ?_
     rintro e w21 ⟨r,rfl,H',hd⟩
     obtain ⟨rfl,P⟩:r=0∧Pw w14 w21 b H1 H' (s1.decide (-X)):=hd.elim (fun h=> ⟨h.1,h.2.2.2⟩) fun h=>absurd ⟨hv.neg,hv0⟩ h.2.1
     have etr:=tr_decide (s:=s1) (-X)
     have ebe:=be_decide s1 (-X)
     refine ⟨_,rfl,_,by omega,j+1,wN (by omega) (by omega),r,rfl,H',_,P14.trans P,⟨decide_good R.g hv.neg hv0,R.k.trans (.decide s1 _),by rw [dec_decide R.g,R.dt,etr],by rw [ebe,etr];simp [R.bt],fun _=> ?_,fun x hx=> ?_,fun y hy=> ?_⟩⟩
     · rw [ebe]
       cases hbe:s1.R .be with
       |nil=>
        have:=R.bt
        rw [hbe] at this
        rw [← this];rfl
       |cons y l=>
        have:=R.b0 (by rw [hbe];simp)
        rw [hbe] at this
        simpa using this
     · rw [etr]
       rcases (tk x).1 hx with hx|rfl
       · exact List.mem_append_left _ (R.fw x hx)
       · simp
     · rw [etr] at hy
       rcases List.mem_append.1 hy with hy|hy
       · obtain ⟨x,hx,e⟩:=R.bw y hy
         exact ⟨x,(tk x).2 (.inl hx),e⟩
       · rw [List.mem_singleton] at hy
         exact ⟨X,(tk X).2 (.inr rfl),hy⟩
   · have r2: ¬s1.val X=0:=by simpa using r2
     have r1: ¬s1.val X=1:=fun r1=>by
      obtain ⟨x',hx',e⟩:=R.bw _ ((R.g.v1 _ hv).1 r1)
      have:taut c=true:=taut_iff.2 ⟨x',List.mem_of_mem_take hx',e▸hm⟩
      rw [htau] at this;cases this
     have hm1:s1.val X= -1:=by
      rcases PSt.val_bd k1 X with e|e|e
      · exact absurd e r2
      · exact absurd e r1
      · exact e
     have hi1:=(R.g.vm hv).1 hm1
     refine ⟨_,by omega,j+1,wN (by omega) (by omega),r,rfl,H1,s1,P14,⟨R.g,R.k,R.dt,R.bt,R.b0,fun x hx=> ?_,fun y hy=> ?_⟩⟩
     · rcases (tk x).1 hx with hx|rfl
       · exact R.fw x hx
       · exact hi1
     · obtain ⟨x,hx,e⟩:=R.bw y hy
       exact ⟨x,(tk x).2 (.inl hx),e⟩
 · have r:j=c.length:=by simp at r;omega
   subst r
   refine ⟨_,rfl,_,cell_add htu rfl,(run_ok P1.pm R.g).mono ?_⟩
   rintro e w22 ⟨r,rfl,s2,H2,P2,g2,x,hT⟩
   have PP:=P1.trans P2
   have kk:=R.k.trans (.ext x)
   have fw: ∀x∈c,-x∈s1.R .tr:=fun x hx=>R.fw x (by rw [List.take_length];exact hx)
   have hdec:s2.dec=s1.R .tr:=by rw [dec_ext R.g x,R.dt]
   have hcs2: ∀y,y∈cs↔s2.cls y:=fun y=>by
    rw [hcs]
    unfold PSt.cls
    exact ⟨fun ⟨i,hi,e⟩=> ⟨i,kk.there.2 hi,by rw [kk.a];exact e⟩,fun ⟨i,hi,e⟩=> ⟨i,kk.there.1 hi,by rw [← kk.a];exact e⟩⟩
   have key:=told_uB (cs:=cs) (c:=c) g2 hT hcs2 htau (fun y hy=>x.mem (fw y hy)) (fun y hy=>by
    rw [hdec] at hy
    obtain ⟨z,hz,rfl⟩:=R.bw y hy
    rw [Int.neg_neg]
    exact List.mem_of_mem_take hz)
   have hb2:s2.R .be≠[]:=by
    rw [x.be]
    intro e2
    have:=R.bt
    rw [e2] at this
    have hnil:=List.eq_nil_of_length_eq_zero this.symm
    have:=fw _ (List.head_mem hne)
    rw [hnil] at this;simp at this
   have hb0:(s2.R .be).getD 0 0=0:=by rw [x.be];exact R.b0 (by rw [← x.be];exact hb2)
   have hpos:0< (s2.R .be).length:=List.length_pos_iff.2 hb2
   refine ⟨_,rfl,(backD_ok PP.pm g2 0).mono ?_⟩
   rintro e u' w24 ⟨rfl,rfl,H3,P3⟩
   have hz:(max (0:Int) 0).toNat=0:=rfl
   rw [hz,if_pos hpos] at P3
   obtain ⟨_,_,_,_,e1,e2⟩:=back_same (s:=s2) 0
   refine ⟨rfl,_,rfl,_,rfl,by rw [decide_eq_true_eq];exact key,H3,_,PP.trans P3,back_good g2 hpos,kk.trans (Kep.back s2 0),by rw [e1];rfl,by rw [e2,hb0];rfl⟩
end
section
variable {W w w' w0 w2 w3 u:World} {p q:Option Addr} {n m d b nl i:Nat} {id:List (Int × Int)} {hs ks:List Sl} {cs R:List (List Int)} {c l:List Int} {H H' H2:Pt→Sl} {s t s':PSt} {K:List Nat} {vars:Nat}
theorem clone2_ok {e:Nat} (h:Vw Sl.v w p hs) (hn:n=hs.length) (hm:n≤100000):Calls prog slices_Clone_int_int_85.id #[.slice p n e] w fun e w'=> ∃ (q:Option Addr) (d:Nat),e= .returned (.slice q hs.length d)∧Ow Sl.v ty_sl_int w' q d hs∧Grow w w'∧(∀b,blk q=some b→w.heap.size≤b):=by
 refine slices_Clone_int_int_85.calls ?_
 refine cnd_i (fun s=> ?_) (fun s=> ?_)
 · have hp:p=none:=by cases p<;>simp at s ⊢
   subst hp
   have:hs= []:=by
    rcases hs with _| ⟨x,l⟩
    · rfl
    · obtain ⟨a,ha,_⟩:=h 0 (by simp);cases ha
   subst this
   exact ⟨none,0,rfl,Ow.nil _ _ _,Mod.refl w,fun b hb=>by simp [blk] at hb⟩
 · intro n1 w1 h1
   refine Ow.appV (l:=([]:List Sl)) sl_sl_int (New.empty h1) (h.grow h1.mod) rfl hn (fun _=>rfl) (by simp;omega) fun w2 p2 c2 o2 m2 hp2 hs2=> ?_
   rw [List.nil_append] at o2 ⊢
   have e1:=h1.num
   refine ⟨p2,c2,rfl,o2,h1.mod.then m2 fun b hb e=> ?_,fun b hb=> ?_⟩
   · have:=blk_some e;omega
   · have:=h1.mod.size
     rcases hp2 with rfl|rfl
     · have:=blk_some hb;omega
     · have:=blk_some hb;omega
def ask8 (id:List (Int × Int)) (c:List Int):List Int:=if c= [] then [((id.length+1:Nat):Int)] else c.map (cod id)
def vars8 (id:List (Int × Int)) (c:List Int):Nat:=if c= [] then id.length+1 else id.length
theorem inv_mono {n m:Nat} {x:Int} (h:InV n x) (hm:n≤m):InV m x:=by unfold InV at*;omega
theorem ask8_ne:ask8 id c≠[]:=by
 unfold ask8
 split
 · simp
 · rename_i h;simpa using h
theorem ask8_in (hid:Idn id) (hN: ∀x∈c,Nt id x): ∀x∈ask8 id c,InV (vars8 id c) x:=by
 intro x hx
 unfold ask8 vars8 at*
 split at hx
 · rename_i h
   rw [if_pos h]
   rw [List.mem_singleton] at hx
   subst hx
   unfold InV;omega
 · rename_i h
   rw [if_neg h]
   obtain ⟨y,hy,rfl⟩:=List.mem_map.1 hx
   exact hid.inv (hN y hy)
theorem ask8_taut (hid:Idn id) (hN: ∀x∈c,Nt id x) (ht:taut c=false):taut (ask8 id c)=false:=by
 unfold ask8
 split
 · rw [← Bool.not_eq_true,taut_iff]
   rintro ⟨x,hx,hx'⟩
   rw [List.mem_singleton] at hx hx'
   omega
 · rw [hid.cod.tautE hN];exact ht
theorem ask8_uB (hid:Idn id) (hcs: ∀c∈cs,∀x∈c,Nt id x) (hN: ∀x∈c,Nt id x):uB (cs.map (List.map (cod id))) (ask8 id c)↔uB cs c:=by
 have hz:NZ (cs.map (List.map (cod id))):=fun x hx y hy=>by
  obtain ⟨x',hx',rfl⟩:=List.mem_map.1 hx
  obtain ⟨y',hy',rfl⟩:=List.mem_map.1 hy
  exact hid.cod.nz _ (hcs _ hx' _ hy')
 unfold ask8
 split
 · rename_i h
   subst h
   rw [uB_fresh hz (by omega) (fun x hx=>by
    obtain ⟨x',hx',rfl⟩:=List.mem_map.1 hx
    refine ⟨fun e=> ?_,fun e=> ?_⟩
    · obtain ⟨y,hy,e⟩:=List.mem_map.1 e
      have:=hid.inv (hcs _ hx' y hy)
      unfold InV at this;omega
    · obtain ⟨y,hy,e⟩:=List.mem_map.1 e
      have:=hid.inv (hcs _ hx' y hy)
      unfold InV at this;omega)]
   have:=hid.cod.uBE (c:= []) hcs (by simp)
   simpa using this
 · exact hid.cod.uBE hcs hN
structure Lf (s:PSt) (R:List (List Int)) (i:Nat) (K:List Nat) (m:List (Int × Int)) (num:Nat→Nat):Prop where
 g:Good s
 tr:s.R .tr= []
 be:s.R .be= []
 al: ∀j:Nat,al m (j:Int)=if j<i∨j∈K then some ((num j:Nat):Int) else none
 th: ∀t,s.There t↔∃j,(j<i∨j∈K)∧num j=t
 a: ∀j,j<i∨j∈K→s.R (.a (num j))=R.getD j []
 inj: ∀j j',(j<i∨j∈K)→(j'<i∨j'∈K)→num j=num j'→j=j'
 nc:s.nc+i≤2*R.length
 v:s.vars=vars
theorem Lf.drop {m:List (Int × Int)} {num:Nat→Nat} (h:Lf (vars:=vars) s R (i+1) K m num) (hK: ∀j∈K,i<j):s.There (num i)∧Good (s.drop (num i))∧(s.drop (num i)).R .tr= []∧(s.drop (num i)).R .be= []∧(∀t,(s.drop (num i)).There t↔∃j,(j<i∨j∈K)∧num j=t)∧
 (∀j,j<i∨j∈K→(s.drop (num i)).R (.a (num j))=R.getD j []):=by
 have hth:s.There (num i):=(h.th _).2 ⟨i,.inl (by omega),rfl⟩
 have up: ∀ {j},j<i∨j∈K→j<i+1∨j∈K:=fun hj=>hj.imp (fun h=>by omega) fun h=>h
 have ne: ∀ {j},j<i∨j∈K→j≠i:=fun hj e=>by
  rcases hj with hj|hj
  · omega
  · have:=hK _ hj;omega
 refine ⟨hth,drop_good h.g hth fun x hx e=>h.g.val0 h.tr (h.g.cv _ hth x hx) e.1,?_,?_,fun t=> ?_,fun j hj=> ?_⟩
 · rw [drop_R _ _ (by simp) (by simp) (by simp) (by simp)];exact h.tr
 · rw [drop_R _ _ (by simp) (by simp) (by simp) (by simp)];exact h.be
 · rw [drop_there,h.th]
   constructor
   · rintro ⟨⟨j,hj,rfl⟩,hne⟩
     refine ⟨j,?_,rfl⟩
     rcases hj with hj|hj
     · exact .inl (by
        have:j≠i:=fun e=>hne (by rw [e])
        omega)
     · exact .inr hj
   · rintro ⟨j,hj,rfl⟩
     exact ⟨⟨j,up hj,rfl⟩,fun e=>ne hj (h.inj _ _ (up hj) (.inl (by omega)) e)⟩
 · have hnn:num j≠num i:=fun e=>ne hj (h.inj _ _ (up hj) (.inl (by omega)) e)
   rw [drop_R _ _ (by simp) (by simp) (by simpa using hnn) (by simp)]
   exact h.a j (up hj)
end
section
variable {W w w' w0 w2 w3 u:World} {p q:Option Addr} {n m d b nl i:Nat} {id:List (Int × Int)} {hs ks:List Sl} {cs R:List (List Int)} {c l:List Int} {H H' H2:Pt→Sl} {s t s' s2:PSt} {K:List Nat} {vars:Nat} {mp:List (Int × Int)} {num:Nat→Nat}
def rest8 (R:List (List Int)) (i:Nat) (K:List Nat):List (List Int):=R.take i++K.map fun j=>R.getD j []
theorem rest8_mem (hi:i≤R.length) {x:List Int}:x∈rest8 R i K↔∃j,(j<i∨j∈K)∧x=R.getD j []:=by
 unfold rest8
 rw [List.mem_append,List.mem_map,List.mem_take_iff_getElem]
 constructor
 · rintro (⟨j,hj,rfl⟩| ⟨j,hj,rfl⟩)
   · exact ⟨j,.inl (by omega),by simp [List.getD,show j<R.length by omega]⟩
   · exact ⟨j,.inr hj,rfl⟩
 · rintro ⟨j,hj|hj,rfl⟩
   · exact .inl ⟨j,by omega,by simp [List.getD,show j<R.length by omega]⟩
   · exact .inr ⟨j,hj,rfl⟩
theorem rest8_map (f:List Int→List Int) (hi:i≤cs.length) (hK: ∀j∈K,j<cs.length):rest8 (cs.map f) i K=(rest8 cs i K).map f:=by
 unfold rest8
 rw [List.map_append,List.map_take,List.map_map]
 refine congrArg _ (List.map_congr_left fun j hj=> ?_)
 exact getD_map' (hK j hj) [] []
theorem cls_of (hth: ∀t,s.There t↔∃j,(j<i∨j∈K)∧num j=t) (ha: ∀j,j<i∨j∈K→s.R (.a (num j))=R.getD j []) (hi:i≤R.length) (x:List Int):x∈rest8 R i K↔s.cls x:=by
 rw [rest8_mem hi]
 unfold PSt.cls
 constructor
 · rintro ⟨j,hj,rfl⟩
   exact ⟨num j,(hth _).2 ⟨j,hj,rfl⟩,ha j hj⟩
 · rintro ⟨t,ht,rfl⟩
   obtain ⟨j,hj,rfl⟩:=(hth t).1 ht
   exact ⟨j,hj,ha j hj⟩
theorem Lf.gone (h:Lf (vars:=vars) s R (i+1) K mp num) (hK: ∀j∈K,i<j) (k:Kep (s.drop (num i)) s') (g:Good s') (htr:s'.R .tr= []) (hbe:s'.R .be= []):Lf (vars:=vars) s' R i K (ad mp (i:Int)) num:=by
 obtain ⟨_,_,_,_,d5,d6⟩:=h.drop hK
 have up: ∀ {j},j<i∨j∈K→j<i+1∨j∈K:=fun hj=>hj.imp (fun h=>by omega) fun h=>h
 obtain ⟨v1,v2⟩:=drop_vars (s:=s) (num i)
 refine ⟨g,htr,hbe,fun j=> ?_,fun t=>k.there.trans (d5 t),fun j hj=> (k.a _).trans (d6 j hj),fun j j' hj hj' e=>h.inj j j' (up hj) (up hj') e,?_,(k.v.trans v1).trans h.v⟩
 · rw [al_ad]
   by_cases e:j=i
   · subst e
     rw [if_pos rfl,if_neg]
     rintro (h|h)
     · omega
     · have:=hK _ h;omega
   · rw [if_neg (by omega),h.al]
     have:(j<i+1∨j∈K)↔(j<i∨j∈K):=by
      constructor
      · rintro (h|h)
        · exact .inl (by omega)
        · exact .inr h
      · exact up
     simp only [this]
 · have:=h.nc;rw [k.n,v2];omega
theorem Lf.again (h:Lf (vars:=vars) s R (i+1) K mp num) (hK: ∀j∈K,i<j) (k:Kep (s.drop (num i)) s2) (htr:s2.R .tr= []) (hbe:s2.R .be= []) (g:Good s') (A:Added s2 (R.getD i []) s'):Lf (vars:=vars) s' R i (i::K) (ai mp (i:Int) (s2.nc:Int)) (fun j=>if j=i then s2.nc else num j):=by
 obtain ⟨_,_,_,_,d5,d6⟩:=h.drop hK
 obtain ⟨v1,v2⟩:=drop_vars (s:=s) (num i)
 have hmem: ∀j,(j<i∨j∈i::K)↔(j=i∨(j<i∨j∈K)):=fun j=>by
  rw [List.mem_cons]
  constructor
  · rintro (h|h|h)
    · exact .inr (.inl h)
    · exact .inl h
    · exact .inr (.inr h)
  · rintro (h|h|h)
    · exact .inr (.inl h)
    · exact .inl h
    · exact .inr (.inr h)
 have ne: ∀ {j},j<i∨j∈K→j≠i:=fun hj e=>by
  rcases hj with hj|hj
  · omega
  · have:=hK _ hj;omega
 have up: ∀ {j},j<i∨j∈K→j<i+1∨j∈K:=fun hj=>hj.imp (fun h=>by omega) fun h=>h
 have lt: ∀ {j},j<i∨j∈K→num j<s2.nc:=fun hj=>by
  have:=((d5 _).2 ⟨_,hj,rfl⟩).1
  rw [k.n];exact this
 refine ⟨g,A.tr.trans htr,A.be.trans hbe,fun j=> ?_,fun t=> ?_,fun j hj=> ?_,fun j j' hj hj' e=> ?_,?_,((A.v.trans k.v).trans v1).trans h.v⟩
 · rw [al_ai]
   by_cases e:j=i
   · subst e;simp
   · rw [if_neg (by omega),h.al,if_neg e]
     have:(j<i+1∨j∈K)↔(j<i∨j∈i::K):=by
      rw [hmem]
      constructor
      · rintro (h|h)
        · exact .inr (.inl (by omega))
        · exact .inr (.inr h)
      · rintro (h|h)
        · exact absurd h e
        · exact up h
     simp only [this]
 · have hth:s'.There t↔s2.There t∨t=s2.nc:=by
    unfold PSt.There
    rw [A.n,A.g]
    by_cases e:t=s2.nc
    · subst e;simp
    · rw [if_neg e]
      exact ⟨fun ⟨h1,h2⟩=> .inl ⟨by omega,h2⟩,fun h=>h.elim (fun ⟨h1,h2⟩=> ⟨by omega,h2⟩) fun h=>absurd h e⟩
   rw [hth,k.there,d5]
   constructor
   · rintro (⟨j,hj,rfl⟩|rfl)
     · exact ⟨j,(hmem j).2 (.inr hj),if_neg (ne hj)⟩
     · exact ⟨i,(hmem i).2 (.inl rfl),if_pos rfl⟩
   · rintro ⟨j,hj,e⟩
     rcases (hmem j).1 hj with rfl|hj
     · rw [if_pos rfl] at e;exact .inr e.symm
     · rw [if_neg (ne hj)] at e;exact .inl ⟨j,hj,e⟩
 · rw [A.a]
   rcases (hmem j).1 hj with rfl|hj
   · rw [if_pos rfl,if_pos rfl]
   · have:=lt hj
     rw [if_neg (ne hj),if_neg (by omega),k.a]
     exact d6 j hj
 · rcases (hmem j).1 hj with rfl|hj
   · rcases (hmem j').1 hj' with rfl|hj'
     · rfl
     · have:=lt hj'
       rw [if_pos rfl,if_neg (ne hj')] at e;omega
   · rcases (hmem j').1 hj' with rfl|hj'
     · have:=lt hj
       rw [if_pos rfl,if_neg (ne hj)] at e;omega
     · rw [if_neg (ne hj),if_neg (ne hj')] at e
       exact h.inj j j' (up hj) (up hj') e
 · have:=h.nc;rw [A.n,k.n,v2];omega
theorem ris_filter {n:Nat}: ∀ {K:List Nat} {i:Nat},Ris n i K→∀v,K.filter (fun j=>decide (j<v+1))=K.filter (fun j=>decide (j<v))++ (if v∈K then [v] else [])
 | [],_,_,v=>by simp
 |a::K,i,h,v=>by
  have hp:=List.pairwise_cons.1 h.2
  have hK:Ris n i K:=⟨fun j hj=>h.1 j (List.mem_cons_of_mem _ hj),hp.2⟩
  have ih:=ris_filter hK v
  by_cases e:a<v
  · rw [List.filter_cons_of_pos (by simp;omega),List.filter_cons_of_pos (by simp;omega),ih,List.cons_append]
    have:(v∈a::K)↔v∈K:=by rw [List.mem_cons];exact ⟨fun h=>h.resolve_left (by omega),.inr⟩
    simp only [this]
  · have hno: ∀j∈K,¬j<v+1∨a<v:=fun j hj=> .inl (by have:=hp.1 j hj;omega)
    have f0:K.filter (fun j=>decide (j<v+1))= []:=List.filter_eq_nil_iff.2 fun j hj=>by have:=hp.1 j hj;simp;omega
    have f1:K.filter (fun j=>decide (j<v))= []:=List.filter_eq_nil_iff.2 fun j hj=>by have:=hp.1 j hj;simp;omega
    have hvK:v ∉ K:=fun hv=>by have:=hp.1 v hv;omega
    by_cases e2:a=v
    · subst e2
      rw [List.filter_cons_of_pos (by simp),List.filter_cons_of_neg (by simp),f0,f1,if_pos (List.mem_cons_self ..)];rfl
    · rw [List.filter_cons_of_neg (by simp;omega),List.filter_cons_of_neg (by simp;omega),f0,f1,if_neg]
      · rfl
      · rw [List.mem_cons];rintro (h|h)
        · omega
        · exact hvK h
end
section
variable {W w w' w0 w2 w3 u:World} {p q:Option Addr} {n m d b nl i:Nat} {id:List (Int × Int)} {hs ks:List Sl} {cs R:List (List Int)} {c l:List Int} {H H' H2:Pt→Sl} {s t s' s2:PSt} {K:List Nat} {vars:Nat} {mp:List (Int × Int)} {num:Nat→Nat}
theorem ris_len {n:Nat}: ∀ {K:List Nat} {i:Nat},Ris n i K→i≤n→K.length+i≤n
 | [],_,_,h=>by simpa using h
 |a::K,i,h,hi=>by
  have hp:=List.pairwise_cons.1 h.2
  have ha:=h.1 a (List.mem_cons_self ..)
  have:=ris_len (K:=K) (i:=a+1) ⟨fun j hj=> ⟨hp.1 j hj,(h.1 j (List.mem_cons_of_mem _ hj)).2⟩,hp.2⟩ (by omega)
  rw [List.length_cons];omega
theorem ndK_taut (h:taut c=true): ∀i,ndK cs c i []= []
 |0=>rfl
 |i+1=>by rw [ndK_in (.inl h)];exact ndK_taut h i
theorem has_vwG {α:Type} {f:α→Value} {b:Nat} {a:Array Value} {l:List α} (h:Has w b a) (hc:a.toList=l.map f):Vw f w (some ⟨b,0,none⟩) l:=by
 intro j hj
 refine ⟨_,rfl,cell_add h ?_⟩
 rw [Nat.zero_add,← Array.getElem?_toList,hc,List.getElem?_map,List.getElem?_eq_getElem hj]
 rfl
theorem has_vw8 {b:Nat} {sl:Sl} (h:Has w b #[.slice sl.p sl.n sl.c]):Vw Sl.v w (some ⟨b,0,none⟩) [sl]:=fun j hj=>by
 have:j=0:=by simpa using hj
 subst this
 exact ⟨_,rfl,cell_add h rfl⟩
theorem V2.takeK {α:Type} {f:α→Value} {rows:List (List α)} (h:V2 f w p hs rows) (k:Nat):V2 f w p (hs.take k) (rows.take k):=by
 have e: ∀ {β:Type} (l:List β) (d:β) (j:Nat),j<k→(l.take k).getD j d=l.getD j d:=fun l d j hj=>by
  simp only [List.getD_eq_getElem?_getD,List.getElem?_take];rw [if_pos hj]
 refine ⟨fun j hj=> ?_,by simp [h.n],fun j hj=> ?_⟩
 · rw [List.length_take] at hj
   obtain ⟨a,h1,h2⟩:=h.h j (by omega)
   exact ⟨a,h1,by rw [List.getElem_take];exact h2⟩
 · rw [List.length_take] at hj
   rw [e _ _ _ (by omega),e _ _ _ (by omega)]
   exact h.r j (by omega)
structure LI (w30 u:World) (b nl:Nat) (H:Pt→Sl) (vars:Nat) (R cs:List (List Int)) (c:List Int) (i:Nat) (K:List Nat) (H':Pt→Sl) (s:PSt) (mp:List (Int × Int)) (num:Nat→Nat):Prop where
 pm:PM u b H' s
 lf:Lf (vars:=vars) s R i K mp num
 mv:MV (Value.int .i64) u nl mp
 md:Mod (fun k=>k=nl∨∃x,own b H x=some k) w30 u
 ow: ∀x k,own b H' x=some k→(∃y,own b H y=some k)∨w30.heap.size≤k
 rs:Ris cs.length i K
 nd:ndK cs c cs.length []=ndK cs c i K
theorem needs_ok {e:Nat} (hv:V2 (Value.int .i64) w p hs cs) (hn:n=cs.length) (hl: ∀c∈cs,c.length≤4096∧∀x∈c,litB x=true) (hc:Vw (Value.int .i64) w q c) (hm:m=c.length) (hcl:clB c=true) (hx:cs.length≤99000) (htot:tot cs+c.length≤1000000):
 Calls prog drat_needs.id #[.slice p n d,.slice q m e] w fun e w'=> (¬uB cs c∧e= .returned (.tuple #[.slice none 0 0,.bool false])∧Grow w w')∨(uB cs c∧∃ (q':Option Addr) (d':Nat),e= .returned (.tuple #[.slice q' (ndK cs c cs.length []).length d',.bool true])∧OwI ty_int w' q' d' ((ndK cs c cs.length []).map fun j:Nat=> (j:Int))∧Grow w w'):=by
 subst hn hm
 have hcl4:=clB_all hcl
 have hlit: ∀x∈cs++ [c],∀y∈x,litB y=true:=fun x hx=>by
  rcases List.mem_append.1 hx with h|h
  · exact (hl x h).2
  · rw [List.mem_singleton] at h;subst h;exact hcl4.1
 refine drat_needs.calls (Calls.mono (R:=fun e w'=>e= .returned (.bool (taut c))∧Grow w w') (drat_taut.calls ((norm_ok hc rfl (by unfold maxLen;omega)).mono ?_)) ?_)
 · rintro e w1 ⟨qn,dn,mn,_,rfl,_,g1⟩
   rw [hcl,Bool.true_and]
   exact ⟨_,_,_,_,rfl,rfl,g1⟩
 rintro e w1 ⟨rfl,g1⟩
 refine ⟨_,rfl,cnd_i (fun ht=> .inr ⟨.inl ht,none,0,by rw [ndK_taut ht];rfl,by rw [ndK_taut ht];exact Ow.nil _ _ _,g1⟩) (fun ht=> ?_)⟩
 refine (clone2_ok (hv.h.grow g1) (by rw [hv.n]) (by omega)).mono ?_
 rintro e w3 ⟨qh,dh,rfl,oh,g3,fh⟩
 have G3:=g1.trans g3
 have z1:=g1.size
 refine ⟨_,_,_,rfl,?_⟩
 intro n5 w6 h6
 have hlen:=hv.n
 refine Ow.appV sl_sl_int (oh.grow h6.mod) (has_vw8 (sl:=⟨q,c.length,e⟩) h6.has) rfl rfl (fun _=>rfl) (by simp;omega) fun w7 p7 c7 o7 m7 hp7 hz7=> ?_
 have e5:=h6.num
 have z3:=g3.size
 have s6:=h6.size
 have G6:=G3.trans h6.mod
 have G7:Grow w w7:=G6.then m7 fun k hk e=>by have:=fh k e;omega
 have V7:V2 (Value.int .i64) w7 p7 (hs++ [⟨q,c.length,e⟩]) (cs++ [c]):=((hv.vr.app (VR.one (s:=⟨q,c.length,e⟩) hc rfl (by show c.length≤maxLen;unfold maxLen;omega))).grow G7).v2 o7.vw
 have el:(hs++ [(⟨q,c.length,e⟩:Sl)]).length=(cs++ [c]).length:=by simp [hlen]
 rw [el]
 refine (coded_ok V7 rfl hlit (by simp;omega) (by rw [tot_snoc];exact htot)).mono ?_
 rintro e9 w9 ⟨id,q11,d11,ks,rfl,idn,hN,ow9,g9,f9,hil⟩
 have hNc: ∀x∈c,Nt id x:=hN c (by simp)
 have hNcs: ∀x∈cs,∀y∈x,Nt id y:=fun x hx=>hN x (List.mem_append_left _ hx)
 have G9:=G7.trans g9
 have z7:=G7.size
 have lrow:((cs++ [c]).map (List.map (cod id))).length=cs.length+1:=by simp
 rw [tot_snoc] at hil
 have hR:(cs++ [c]).map (List.map (cod id))=cs.map (List.map (cod id))++ [c.map (cod id)]:=by simp
 have hvb:vars8 id c≤1048576:=by
  have:=idn.nd
  unfold vars8
  split<;>omega
 refine ⟨_,_,_,_,rfl,?_⟩
 have hd11:cs.length+1≤d11:=by
  have:=ow9.n
  rw [lrow] at this
  rcases ow9.h.un with ⟨_,_,e⟩| ⟨_,_,_,_,h,_⟩
  · rw [e] at this;simp at this
  · omega
 try dsimp only
 rw [wN (x:=((cs++ [c]).length:Int) - 1) (i:=cs.length) (by simp) (by omega)]
 refine ⟨fun v u=>v=(vars8 id c:Int)∧Grow w7 u∧∃kF,V2 (Value.int .i64) u q11 kF (cs.map (List.map (cod id))++ [ask8 id c]),?_,?_⟩
 · have z9:=g9.size
   have hks:=ow9.n
   rw [lrow] at hks
   refine cnd_i (fun r=> ?_) (fun r=> ?_)
   · have r:c= []:=by
      have:(c.length:Int)=0:=by simpa using r
      exact List.eq_nil_of_length_eq_zero (by omega)
     subst r
     intro n13 w14 h14
     have e13:=h14.num
     have e0:i64.wrap ((id.length:Int)+1)=((id.length+1:Nat):Int):=wN (by omega) (by simp at hil;omega)
     rw [e0] at h14 ⊢
     refine (ow9.h.grow h14.mod).st (⟨some ⟨n13,0,none⟩,1,1⟩:Sl) rfl rfl (by omega) (by simp;omega) (by simp;omega) fun w16 o16 m16=> ?_
     rw [Int.toNat_natCast] at o16
     have nblk: ∀k,blk q11=some k→w7.heap.size≤k∧k<w9.heap.size:=fun k hk=> ⟨f9 k (.inl hk),ow9.h.lt k hk⟩
     have hn13:blk q11≠some n13:=fun e=>by have:=nblk _ e;omega
     refine ⟨rfl,(g9.trans h14.mod).then m16 fun k hk e=> ?_,ks.set cs.length ⟨some ⟨n13,0,none⟩,1,1⟩,o16.vw,by simp [hks],fun j hj=> ?_⟩
     · have:=nblk k e;omega
     · have hj:j<cs.length+1:=by simpa using hj
       rw [getD_set (by omega)]
       by_cases e:j=cs.length
       · subst e
         rw [if_pos rfl]
         have eg:(cs.map (List.map (cod id))++ [ask8 id []]).getD cs.length []= [((id.length+1:Nat):Int)]:=by
          simp [List.getD,ask8]
         rw [eg]
         exact ⟨rfl,by show 1≤maxLen;decide,(has_vwG h14.has rfl).keep m16 fun k hk e=>hn13 (by have:=blk_some hk;rw [← this];exact e)⟩
       · rw [if_neg e]
         have hj2:j<cs.length:=by omega
         obtain ⟨r1,r2⟩:=ow9.r j (by rw [lrow];omega)
         have eg:(cs.map (List.map (cod id))++ [ask8 id []]).getD j []=((cs++ [[]]).map (List.map (cod id))).getD j []:=by
          rw [hR];simp only [List.getD_eq_getElem?_getD]
          rw [List.getElem?_append_left (by simp;omega),List.getElem?_append_left (by simp;omega)]
         rw [eg]
         exact ⟨r1,by rw [r1];exact r2.cap,(r2.vw.grow h14.mod).keep m16 fun k hk e=>ow9.d0 j k (by rw [lrow];omega) hk e⟩
   · have r:c≠[]:=fun e=>by subst e;simp at r
     refine ⟨by unfold vars8;rw [if_neg r],g9,ks,?_⟩
     have:ask8 id c=c.map (cod id):=by unfold ask8;rw [if_neg r]
     rw [this,← hR]
     exact ow9.v2
 · rintro _ w18 _ ⟨rfl,g18,kF,V18⟩
   have ltF:=V18.ltN
   have lR:(cs.map (List.map (cod id))).length=cs.length:=by simp
   have htk:(cs.map (List.map (cod id))++ [ask8 id c]).take cs.length=cs.map (List.map (cod id)):=by rw [List.take_append_of_le_length (by simp),List.take_of_length_le (by simp)]
   have hcnf:cnfB (vars8 id c:Int) (cs.map (List.map (cod id)))=true:=by
    unfold cnfB
    rw [Bool.and_eq_true,decide_eq_true_eq,List.all_eq_true]
    refine ⟨⟨by omega,by omega,by simp;omega⟩,fun x hx=> ?_⟩
    obtain ⟨x',hx',rfl⟩:=List.mem_map.1 hx
    have hin: ∀y∈x',InV (vars8 id c) (cod id y):=fun y hy=>inv_mono (idn.inv (hNcs x' hx' y hy)) (by unfold vars8;split<;>omega)
    have hok:=add_okC hin hvb (hl x' hx').1
    unfold okC at hok
    rw [Bool.and_eq_true] at hok ⊢
    refine ⟨hok.1,?_⟩
    rw [List.all_eq_true]
    intro y hy
    obtain ⟨y',hy',rfl⟩:=List.mem_map.1 hy
    have:=hin y' hy'
    unfold InV at this
    rw [decide_eq_true_eq]
    unfold amt
    split<;>omega
   refine slK_i 0 cs.length d11 rfl rfl rfl (by omega) (by omega) (by omega) ?_
   have ei:(if d11=0 then q11 else q11.map (·.add (0*1)))=q11:=by split;rfl;exact ep0 q11
   rw [ei,Nat.sub_zero,Nat.sub_zero]
   refine (new_ok (k:=(vars8 id c:Int)) (V2.takeK V18 cs.length) (by rw [htk,lR])).mono ?_
   rintro e20 w20 (⟨hf,_⟩| ⟨_,b,s,H,rfl,pm,g,N,g20,fo⟩)
   · rw [htk,hcnf] at hf;cases hf
   rw [htk] at N
   have G18:=G7.trans g18
   have G20:=G18.trans g20
   have V20:=V18.grow g20
   refine ⟨_,_,rfl,V20.ix (by omega) (by simp) (by simp;omega) fun a sl k1 k0 k2 k3 k4=> ⟨_,_,_,k1,?_⟩⟩
   rw [Int.toNat_natCast] at k2 k4 k0
   have eg:(cs.map (List.map (cod id))++ [ask8 id c]).getD cs.length []=ask8 id c:=by simp [List.getD]
   rw [eg] at k2 k4
   intro n25 w26 h26
   have e25:=h26.num
   have hsv:s.vars=vars8 id c:=by have:=N.v;simpa using this
   have hnc:s.nc=cs.length:=by have:=N.n;simpa using this
   have hthN: ∀t,s.There t↔t<cs.length:=fun t=>by
    unfold PSt.There
    rw [hnc]
    exact ⟨fun h=>h.1,fun h=> ⟨h,N.g t (by simpa using h)⟩⟩
   have hclsN: ∀x,x∈cs.map (List.map (cod id))↔s.cls x:=fun x=>by
    unfold PSt.cls
    constructor
    · intro hx
      obtain ⟨j,hj,rfl⟩:=List.mem_iff_getElem.1 hx
      have hj':j<cs.length:=by simpa using hj
      exact ⟨j,(hthN j).2 hj',by rw [N.a j (by simpa using hj')];simp [List.getD,hj']⟩
    · rintro ⟨j,hj,rfl⟩
      have hj':=(hthN j).1 hj
      rw [N.a j (by simpa using hj')]
      exact getD_mem2 (by simpa using hj')
   have i20:w20.heap.size<w26.heap.size:=by have:=h26.size;omega
   have hown: ∀x k,own b H x=some k→w18.heap.size≤k∧k<w20.heap.size:=fun x k e=> ⟨fo x k e,pm.lt x k e⟩
   have hask: ∀k,blk sl.p=some k→k<w18.heap.size:=fun k hk=>by
    obtain ⟨_,_,r3⟩:=V18.r cs.length (by simp)
    rw [eg,← k0] at r3
    exact r3.lt ask8_ne k hk
   have ltask:=ask8_ne (id:=id) (c:=c)
   have hlen8:(ask8 id c).length≤100000:=by
    unfold ask8
    split
    · simp
    · rw [List.length_map];omega
   refine (at_ok (pm.grow h26.mod) g N.be N.tr h26.has (fun x e=>by have:=hown x _ e;omega) (k4.grow h26.mod) (fun k hk x e=>by have:=hask k hk;have:=hown x k e;omega) k2 ltask (by rw [k2];exact hlen8) (fun x hx=>by rw [hsv];exact ask8_in idn hNc x hx) (ask8_taut idn hNc (by simpa using ht)) hclsN).mono ?_
   rintro e27 w27 ⟨r,rfl,hr,H1,s1,P1,g1',kp1,be1,tr1⟩
   have hr':r=true↔uB cs c:=hr.trans (ask8_uB idn hNcs hNc)
   have z20:=G20.size
   have z18:=G18.size
   have G26:=G20.trans h26.mod
   have G27:Grow w w27:=G26.then P1.mod fun k hk ⟨x,e⟩=>by have:=hown x k e;omega
   refine ⟨_,rfl,cnd_i (fun r1=> .inl ⟨fun e=> (by rw [hr'.2 e] at r1;cases r1),rfl,G27⟩) (fun r1=> ?_)⟩
   have hu:uB cs c:=hr'.1 (by simpa using r1)
   intro n29 w30 h30
   have e29:=h30.num
   have z2018:=g20.size
   have hown1: ∀x k,own b H1 x=some k→w18.heap.size≤k∧k<w27.heap.size∧k≠n25:=fun x k e=>by
    have hlt:=P1.pm.lt x k e
    rcases P1.ft x k e with ⟨y,e⟩|e
    · have:=hown y k e;have:=P1.mod.size;omega
    · omega
   have z27:=P1.mod.size
   have hno29: ∀ {u:World} {Hc:Pt→Sl} {sc:PSt},(∀x k,own b Hc x=some k→(∃y,own b H1 y=some k)∨w30.heap.size≤k)→∀x,own b Hc x≠some n29:=fun ow x e=>by
    have:=h30.size
    rcases ow x _ e with ⟨y,e⟩|e
    · have:=hown1 y _ e;omega
    · omega
   refine ⟨fun I u z=> ∃ (v:Nat) (mp:List (Int × Int)),I=v∧v≤cs.length∧z=cs.length - v∧Mod (·=n29) w30 u∧MV (Value.int .i64) u n29 mp∧∀j:Nat,al mp (j:Int)=if j<v then some (j:Int) else none,⟨_,0,[],rfl,Nat.zero_le _,rfl,Mod.refl _,MV.new h30,fun j=>by rw [if_neg (by omega)];rfl⟩,?_⟩
   rintro I u z _ ⟨v,mp,rfl,hvl,rfl,Mu,mu,hal⟩
   refine cnd_i (fun r2=> ?_) (fun r2=> ?_)
   · have r2:v<cs.length:=by simpa using r2
     obtain ⟨w36,hr36,mv36,mm36,_⟩:=mu.put map_ii (v:Int) (v:Int)
     refine ⟨w36,hr36,_,?_,v+1,_,wN (by omega) (by omega),r2,rfl,Mu.trans mm36,mv36,fun j=> ?_⟩
     · omega
     · rw [al_ai]
       by_cases e:j=v
       · subst e;rw [if_pos rfl,if_pos (by omega)]
       · rw [if_neg (by omega),hal]
         by_cases e2:j<v
         · rw [if_pos e2,if_pos (by omega)]
         · rw [if_neg e2,if_neg (by omega)]
   have r2:v=cs.length:=by simp at r2;omega
   subst r2
   have LI0:LI w30 u b n29 H1 (vars8 id c) (cs.map (List.map (cod id))) cs c cs.length [] H1 s1 mp fun j=>j:=by
    refine ⟨(P1.pm.grow h30.mod).keep Mu fun x k hk e=>by have:=hown1 x k hk;omega,⟨g1',tr1,be1,fun j=>by rw [hal];simp,fun t=> ?_,fun j hj=> ?_,fun j j' _ _ e=>e,?_,(kp1.v).trans hsv⟩,mu,Mu.mono fun k _ e=> .inl e,fun x k hk=> .inl ⟨x,hk⟩,⟨fun j hj=>by simp at hj,List.Pairwise.nil⟩,rfl⟩
    · rw [kp1.there,hthN]
      constructor
      · intro h;exact ⟨t,.inl h,rfl⟩
      · rintro ⟨j,hj,rfl⟩;simpa using hj
    · have hj:j<cs.length:=by simpa using hj
      rw [kp1.a,N.a j (by simpa using hj)]
    · rw [kp1.n,hnc,lR];omega
   refine ⟨fun p left I u z=> ∃ (i:Nat) (K:List Nat) (Hc:Pt→Sl) (sc:PSt) (mp:List (Int × Int)) (num:Nat→Nat),p=some ⟨b,0,none⟩∧left=some n29∧I=(i:Int) - 1∧i=z∧i≤cs.length∧LI w30 u b n29 H1 (vars8 id c) (cs.map (List.map (cod id))) cs c i K Hc sc mp num,
    ⟨_,cs.length,[],H1,s1,mp,_,rfl,rfl,by rw [wrap64_of (by omega) (by omega)],rfl,Nat.le_refl _,LI0⟩,?_⟩
   clear LI0 mu hal Mu
   rintro _ _ I u z _ ⟨i,K,Hc,sc,mp,num,rfl,rfl,rfl,rfl,hile,L⟩
   have G30:Grow w w30:=G27.trans h30.mod
   have z30:=h30.mod.size
   have Gu: ∀ {y:World},Mod (fun k=>k=n29∨∃x,own b H1 x=some k) w30 y→Grow w y:=fun m=>G30.then m fun k hk e=>by
    rcases e with e| ⟨x,e⟩
    · omega
    · have:=hown1 x k e;omega
   have V30:V2 (Value.int .i64) w30 q11 kF (cs.map (List.map (cod id))++ [ask8 id c]):=((V20.grow h26.mod).keepN P1.mod fun k hk ⟨x,e⟩=>by have:=ltF k hk;have:=hown x k e;omega).grow h30.mod
   have Vu: ∀ {y:World},Mod (fun k=>k=n29∨∃x,own b H1 x=some k) w30 y→V2 (Value.int .i64) y q11 kF (cs.map (List.map (cod id))++ [ask8 id c]):=fun m=>V30.keepN m fun k hk e=>by
    have:=ltF k hk
    rcases e with e| ⟨x,e⟩
    · omega
    · have:=hown1 x k e;omega
   have own_lt: ∀ {Hc:Pt→Sl} {k:Nat},(∀x k,own b Hc x=some k→(∃y,own b H1 y=some k)∨w30.heap.size≤k)→∀x,own b Hc x=some k→w18.heap.size≤k∧k≠n25∧k≠n29:=fun {Hc k} ow x e=>by
    rcases ow x k e with ⟨y,e⟩|e
    · have:=hown1 y k e;omega
    · have:=h30.size;omega
   refine cnd_i (fun r3=> ?_) (fun r3=> ?_)
   · obtain ⟨i,rfl⟩: ∃i',i=i'+1:=⟨i - 1,by simp at r3;omega⟩
     have hI:(((i+1:Nat):Int) - 1)=(i:Int):=by omega
     rw [hI]
     have hlk:=L.mv.look map_ii (i:Int) (zero_int u)
     rw [L.lf.al,if_pos (.inl (by omega))] at hlk
     have hKi: ∀j∈K,i<j:=fun j hj=>by have:=(L.rs.1 j hj).1;omega
     obtain ⟨d1,d2,d3,d4,d5,d6⟩:=L.lf.drop hKi
     have his:sc.is ((num i:Nat):Int)=true:=by
      unfold PSt.is
      rw [Int.toNat_natCast,d1.2]
      have:=d1.1
      simp only [Bool.not_false,Bool.and_true,decide_eq_true_eq]
      omega
     refine ⟨u,((num i:Nat):Int),hlk,(drop_ok L.pm L.lf.g ((num i:Nat):Int)).mono ?_⟩
     rintro e46 w46 ⟨r47,rfl,Hd,hd⟩
     have Pd:Pw u w46 b Hc Hd (sc.drop (num i)):=by
      rcases hd with ⟨_,hf,_⟩| ⟨_,_,⟨x,hx,h1,h2⟩,_⟩| ⟨_,_,_,hP⟩
      · rw [his] at hf;cases hf
      · rw [Int.toNat_natCast] at hx
        exact absurd h1 (L.lf.g.val0 L.lf.tr (L.lf.g.cv _ d1 x hx))
      · rw [Int.toNat_natCast] at hP;exact hP
     have zu:=L.md.size
     have ow46: ∀x k,own b Hd x=some k→(∃y,own b H1 y=some k)∨w30.heap.size≤k:=fun x k e=>by
      rcases Pd.ft x k e with ⟨y,e⟩|e
      · exact L.ow y k e
      · exact .inr (by omega)
     have md46:Mod (fun k=>k=n29∨∃x,own b H1 x=some k) w30 w46:=L.md.then Pd.mod fun k hk ⟨x,e⟩=>by
      rcases L.ow x k e with h|h
      · exact .inr h
      · omega
     have t30:Has w30 n25 _:=(h26.has.keep P1.mod fun ⟨x,e⟩=>by have:=hown x _ e;omega).grow h30.mod
     have tk: ∀ {y:World},Mod (fun k=>k=n29∨∃x,own b H1 x=some k) w30 y→Has y n25 #[ptrV b,.slice sl.p sl.n sl.c]:=fun m=>t30.keep m fun e=>by
      rcases e with e| ⟨x,e⟩
      · omega
      · exact (hown1 x _ e).2.2 rfl
     have cv: ∀ {y:World},Mod (fun k=>k=n29∨∃x,own b H1 x=some k) w30 y→Vw (Value.int .i64) y sl.p (ask8 id c):=fun m=>by
      obtain ⟨_,_,r3⟩:=(Vu m).r cs.length (by simp)
      rw [eg,← k0] at r3
      exact r3
     have hclsD:=cls_of (R:=cs.map (List.map (cod id))) (i:=i) (K:=K) d5 d6 (by rw [lR];omega)
     refine ⟨_,rfl,(at_ok Pd.pm (drop_good L.lf.g d1 fun x hx e=>L.lf.g.val0 L.lf.tr (L.lf.g.cv _ d1 x hx) e.1) d4 d3 (tk md46) (fun x e=> (own_lt ow46 x e).2.1 rfl) (cv md46) (fun k hk x e=>by have:=hask k hk;have:=own_lt ow46 x e;omega) k2 ltask (by rw [k2];exact hlen8) (fun x hx=>by rw [(drop_vars _).1,L.lf.v];exact ask8_in idn hNc x hx) (ask8_taut idn hNc (by simpa using ht)) hclsD).mono ?_⟩
     rintro e48 w48 ⟨r49,rfl,hr49,He,se,Pe,ge,ke,bee,tre⟩
     have hKl: ∀j∈K,j<cs.length:=fun j hj=> (L.rs.1 j hj).2
     have hrest:r49=true↔uB (rest8 cs i K) c:=by
      rw [hr49,rest8_map _ (by omega) hKl]
      refine ask8_uB idn (fun x hx y hy=> ?_) hNc
      obtain ⟨j,hj,rfl⟩:=(rest8_mem (by omega)).1 hx
      have hjl:j<cs.length:=by
       rcases hj with hj|hj
       · omega
       · exact hKl j hj
      exact hNcs _ (getD_mem2 hjl) y hy
     have PE:=Pd.trans Pe
     have ow48: ∀x k,own b He x=some k→(∃y,own b H1 y=some k)∨w30.heap.size≤k:=fun x k e=>by
      rcases PE.ft x k e with ⟨y,e⟩|e
      · exact L.ow y k e
      · exact .inr (by omega)
     have md48:Mod (fun k=>k=n29∨∃x,own b H1 x=some k) w30 w48:=L.md.then PE.mod fun k hk ⟨x,e⟩=>by
      rcases L.ow x k e with h|h
      · exact .inr h
      · omega
     have mv48:MV (Value.int .i64) w48 n29 mp:=L.mv.keep PE.mod fun ⟨x,e⟩=> (own_lt L.ow x e).2.2 rfl
     have ew:i64.wrap ((i:Int) - 1)=(i:Int) - 1:=by rw [wrap64_of (by omega) (by omega)]
     refine ⟨_,rfl,cnd_i (fun r4=> ?_) (fun r4=> ?_)⟩
     · obtain ⟨w50,hr50,mv50,mm50,_⟩:=mv48.del map_ii (i:Int) 0
       refine ⟨w50,hr50,i,by omega,i,K,He,se,_,num,rfl,rfl,ew,rfl,by omega,PE.pm.keep mm50 fun x k hk e=> ?_,L.lf.gone hKi ke ge tre bee,mv50,md48.then mm50 fun k _ e=> .inl e,ow48,L.rs.less,?_⟩
       · exact (own_lt ow48 x hk).2.2 e
       · rw [L.nd];exact ndK_in (hrest.1 r4)
     · have hnu: ¬uB (rest8 cs i K) c:=fun e=>by rw [hrest.2 e] at r4;cases r4
       refine (Vu md48).ix (by omega) (by simp) (by simp;omega) fun a2 sl2 q1 q0 q2 q3 q4=> ⟨_,_,_,q1,?_⟩
       rw [Int.toNat_natCast] at q2 q4
       have eg2:(cs.map (List.map (cod id))++ [ask8 id c]).getD i []=(cs.map (List.map (cod id))).getD i []:=by
        simp only [List.getD_eq_getElem?_getD]
        rw [List.getElem?_append_left (by simp;omega)]
       rw [eg2] at q2 q4
       have hmemR:=getD_mem2 (l:=cs.map (List.map (cod id))) (i:=i) (by rw [lR];omega)
       refine (add_ok PE.pm ge q4 q2 q3).mono ?_
       rintro e53 w53 ⟨r54,r55,rfl,sa,Ha,Pa,ga,hra⟩
       have hok:okC se.vars ((cs.map (List.map (cod id))).getD i [])=true:=by
        rw [ke.v,(drop_vars _).1,L.lf.v]
        obtain ⟨x',hx',e⟩:=List.mem_map.1 hmemR
        rw [← e]
        exact add_okC (fun y hy=>inv_mono (idn.inv (hNcs x' hx' y hy)) (by unfold vars8;split<;>omega)) hvb (hl x' hx').1
       have hncs:se.nc<262144:=by
        have:=L.lf.nc
        rw [lR] at this
        rw [ke.n,(drop_vars _).2];omega
       obtain ⟨rfl,rfl,A⟩:r54=se.nc∧r55=0∧Added se ((cs.map (List.map (cod id))).getD i []) sa:=by
        rcases hra with ⟨_,_,hb,_⟩| ⟨_,_,_,hb,_⟩| ⟨a,a2,_,_,a3⟩
        · rw [hok] at hb;cases hb
        · omega
        · exact ⟨a,a2,a3⟩
       have PA:=PE.trans Pa
       have ow53: ∀x k,own b Ha x=some k→(∃y,own b H1 y=some k)∨w30.heap.size≤k:=fun x k e=>by
        rcases PA.ft x k e with ⟨y,e⟩|e
        · exact L.ow y k e
        · exact .inr (by omega)
       have md53:Mod (fun k=>k=n29∨∃x,own b H1 x=some k) w30 w53:=L.md.then PA.mod fun k hk ⟨x,e⟩=>by
        rcases L.ow x k e with h|h
        · exact .inr h
        · omega
       have mv53:MV (Value.int .i64) w53 n29 mp:=L.mv.keep PA.mod fun ⟨x,e⟩=> (own_lt L.ow x e).2.2 rfl
       obtain ⟨w56,hr56,mv56,mm56,_⟩:=mv53.put map_ii (i:Int) (se.nc:Int)
       refine ⟨_,_,rfl,w56,hr56,cnd_f rfl ⟨i,by omega,i,i::K,Ha,sa,_,_,rfl,rfl,ew,rfl,by omega,PA.pm.keep mm56 fun x k hk e=> ?_,L.lf.again hKi ke tre bee ga A,mv56,md53.then mm56 fun k _ e=> .inl e,ow53,L.rs.cons (by omega),?_⟩⟩
       · exact (own_lt ow53 x hk).2.2 e
       · rw [L.nd];exact ndK_out hnu
   · have:i=0:=by simp at r3;omega
     subst this
     have hnd:ndK cs c cs.length []=K:=by rw [L.nd];rfl
     rw [hnd]
     have zu:=L.md.size
     have hal0: ∀j:Nat,al mp (j:Int)=if j∈K then some ((num j:Nat):Int) else none:=fun j=>by
      rw [L.lf.al];simp
     have f0:(K.filter fun j=>decide (j<0))= []:=List.filter_eq_nil_iff.2 fun j _=>by simp
     refine ⟨fun P N C I y z=> ∃v:Nat,I=v∧v≤cs.length∧z=cs.length - v∧N=(K.filter fun j=>decide (j<v)).length∧Grow u y∧OwI ty_int y P C ((K.filter fun j=>decide (j<v)).map fun j:Nat=> (j:Int))∧∀k,blk P=some k→u.heap.size≤k,
      ⟨_,0,rfl,Nat.zero_le _,rfl,by rw [f0];rfl,Mod.refl _,by rw [f0];exact Ow.nil _ _ _,fun k hk=>by simp [blk] at hk⟩,?_⟩
     rintro P N C I y z _ ⟨v,rfl,hvl,rfl,rfl,gy,o,f⟩
     have hlenF:(K.filter fun j=>decide (j<v)).length≤K.length:=List.length_filter_le _ _
     have hKn:K.length≤cs.length:=by
      have:=ris_len L.rs (Nat.zero_le _)
      omega
     refine cnd_i (fun r4=> ?_) (fun r4=> ?_)
     · have r4:v<cs.length:=by simpa using r4
       have hlk:=(L.mv.grow gy).lookOk map_ii (v:Int) (zero_int y)
       rw [hal0] at hlk
       have hf:=ris_filter L.rs v
       by_cases hv:v∈K
       · rw [if_pos hv] at hlk hf
         refine ⟨y,_,true,hlk,cnd_t rfl ?_⟩
         intro n73 w74 h74
         have e73:=h74.num
         have zy:=gy.size
         refine Ow.app1 sl_int (o.grow h74.mod) ((v:Nat):Int) h74.has rfl (by simp) oneInt (by simp;omega) fun w75 p' c' o75 m75 hp' hz'=> ?_
         have hrow:(K.filter fun j=>decide (j<v+1)).map (fun j:Nat=> (j:Int))=(K.filter fun j=>decide (j<v)).map (fun j:Nat=> (j:Int))++ [(v:Int)]:=by rw [hf,List.map_append];rfl
         rw [← hrow] at o75
         refine ⟨_,by omega,v+1,wN (by omega) (by omega),r4,rfl,by rw [hf];simp,(gy.trans h74.mod).then m75 fun k hk e=>by have:=f k e;omega,o75,fun k hk=> ?_⟩
         have:=h74.size
         rcases hp' with rfl|rfl
         · exact f k hk
         · have:=blk_some hk;omega
       · rw [if_neg hv] at hlk hf
         rw [List.append_nil] at hf
         exact ⟨y,_,false,hlk,cnd_f rfl ⟨_,by omega,v+1,wN (by omega) (by omega),r4,rfl,by rw [hf],gy,by rw [hf];exact o,f⟩⟩
     · have r4:v=cs.length:=by simp at r4;omega
       subst r4
       have hall:(K.filter fun j=>decide (j<cs.length))=K:=List.filter_eq_self.2 fun j hj=>by simpa using (L.rs.1 j hj).2
       rw [hall] at o ⊢
       exact .inr ⟨hu,P,C,rfl,o,(Gu L.md).trans gy⟩
end
end Go.Proofs.YtbdghpjnifjlmaaGreat.W
namespace Go.Fw
open Go Go.RowKit
variable {P:Program} {α:Type} {sz:Nat} {f:α→List Value} {T:TypeId} {w w':World} {p q:Option Addr} {c:Nat} {l:List α}
theorem flat_take (hf: ∀x,(f x).length=sz) {k:Nat} (hk:k≤l.length):(l.flatMap f).take (k*sz)=(l.take k).flatMap f:=by
 conv=>lhs;rw [← List.take_append_drop k l]
 rw [List.flatMap_append,List.take_append_of_le_length (by rw [flat_len hf,List.length_take,Nat.min_eq_left hk];exact Nat.le_refl _),List.take_of_length_le (by rw [flat_len hf,List.length_take,Nat.min_eq_left hk];exact Nat.le_refl _)]
theorem flat_drop (hf: ∀x,(f x).length=sz) {k:Nat} (hk:k≤l.length):(l.flatMap f).drop (k*sz)=(l.drop k).flatMap f:=by
 conv=>lhs;rw [← List.take_append_drop k l]
 rw [List.flatMap_append,List.drop_append_of_le_length (by rw [flat_len hf,List.length_take,Nat.min_eq_left hk];exact Nat.le_refl _),List.drop_of_length_le (by rw [flat_len hf,List.length_take,Nat.min_eq_left hk];exact Nat.le_refl _),List.nil_append]
theorem Row.cap (h:Row sz f T w p c l):l.length≤c:=by
 rcases h.un with ⟨_,_,rfl⟩| ⟨_,_,_,_,g1,_⟩
 · simp
 · exact g1
theorem Vr.part (h:Vr sz f w p l) {i m:Nat} (h1:i+m≤l.length):Vr sz f w (p.map (·.add (i*sz))) ((l.drop i).take m):=by
 intro j hj
 rw [List.length_take,List.length_drop] at hj
 obtain ⟨a,rfl,hc⟩:=h (i+j) (by omega)
 refine ⟨_,rfl,?_⟩
 rw [List.getElem_take,List.getElem_drop,add_add,← Nat.add_mul]
 exact hc
theorem Row.appRoom {t ty e bytes:Nat} (E:Enc sz f) (hs:slOkN P t e sz bytes=true) (h:Row sz f e w p c l) {k m d:Nat} {news:List α} (h2:Vr sz f w q news) (hm:m=news.length) (hfit:k+m≤l.length) {K:World→Prop}
 (hk: ∀w',Row sz f e w' p c (l.take k++news++l.drop (k+m))→Mod (fun b=>blk p=some b) w w'→K w'):
 ∃w',(Builtin.append_ #[t,t] ty #[.slice p k c,.slice q m d]).run P w= .ok (.slice p (k+m) c) w'∧K w':=by
 obtain ⟨ht,i,z,hi,hz,h1,hby,h3⟩:=slOkN_spec hs
 subst hm
 rcases Nat.eq_zero_or_pos news.length with h0|h0
 · have hn:news= []:=List.eq_nil_of_length_eq_zero h0
   subst hn
   refine ⟨w,?_,hk w (by simpa using h) (Mod.refl w)⟩
   rcases h.un with ⟨rfl,rfl,rfl⟩| ⟨g,cur,rfl,hg,g1,g2,g3,g4⟩<;>cases q<;>
    simp [Builtin.append_,run_underlying ht,sizeOf,typeInfo,Builtin.lenOf,Builtin.firstCells,loadCells,loadCellsFrom,storeCells, *]<;>simp at hfit<;>omega
 · obtain ⟨a,rfl,_⟩:=h2 0 h0
   rcases h.un with ⟨rfl,rfl,rfl⟩| ⟨g,cur,rfl,hg,g1,g2,g3,g4⟩
   · rw [List.length_nil] at hfit;omega
   · have hfn:=flat_len E.len news
     have hone: ∀u∈news.flatMap f,u.oneCell'=true:=fun u hu=>by obtain ⟨x,_,hx⟩:=List.mem_flatMap.1 hu;exact E.one x u hx
     have hle:k*sz+news.length*sz=(k+news.length)*sz:=(Nat.add_mul _ _ _).symm
     have hcs:k*sz+news.length*sz≤cur.size:=by rw [hle,g3];exact Nat.mul_le_mul_right _ (by omega)
     have hr:=run_append_room (P:=P) w t ty e i ht hi g k c cur hg a news.length d (news.flatMap f) (by rw [hfn,h1]) (h2.flat E) hone (by omega) (by rw [h1,hfn];exact hcs)
     rw [h1,hfn] at hr
     have hcl:cur.toList.length=c*sz:=by simpa using g3
     have hcsz:l.length*sz≤c*sz:=Nat.mul_le_mul_right _ g1
     have hks:(k+news.length)*sz≤l.length*sz:=Nat.mul_le_mul_right _ hfit
     have hkl:k*sz≤l.length*sz:=Nat.mul_le_mul_right _ (by omega)
     refine ⟨_,hr,hk _ (Row.of_some E.len (setRow_heap w g cur _ e _ hg) (by simp;omega) g2 ?_ ?_) ⟨rfl,rfl,rfl,by simp,fun k _ hk=>setRow_other w g k _ fun he=>hk (by simp [blk,he])⟩⟩
     · simp only [List.size_toArray,List.length_append,List.length_take,List.length_drop,hfn,hcl];omega
     · have hl:(l.take k++news++l.drop (k+news.length)).length=l.length:=by simp;omega
       rw [hl,List.flatMap_append,List.flatMap_append,← flat_take E.len (by omega),← flat_drop E.len hfit,← g4]
       rw [List.take_take,Nat.min_eq_left hkl,← hle]
       simp only [List.append_assoc]
       rw [List.take_append,List.take_append]
       have e1:(cur.toList.take (k*sz)).length=k*sz:=by rw [List.length_take,hcl];omega
       rw [e1,hfn]
       rw [List.take_of_length_le (l:=cur.toList.take (k*sz)) (by rw [e1];omega),List.take_of_length_le (l:=news.flatMap f) (by rw [hfn];omega)]
       congr 2
       rw [List.drop_take]
       congr 1
       omega
theorem Row.clear {t ty e bytes:Nat} (E:Enc sz f) (hs:slOkN P t e sz bytes=true) {x:α} {v:Value} (hz:(P.info? e).bind (·.zero)=some v) (hv:v.cells.toList=f x) (h:Row sz f e w p c l) {k d:Nat} (hk:k+1=l.length) {K:World→Prop}
 (hK: ∀w',Row sz f e w' p c (l.take k)→Mod (fun b=>blk p=some b) w w'→K w'):
 ∃w',(Builtin.clear_ #[t] ty #[.slice (p.map (·.add (k*sz))) 1 d]).run P w= .ok (.tuple #[]) w'∧K w':=by
 obtain ⟨ht,i,z,hi,hz',h1,hb,h3⟩:=slOkN_spec hs
 have hzz:z=v:=by simp only [hi,Option.bind_some] at hz;rw [hz'] at hz;exact Option.some.inj hz
 subst hzz
 rcases h.un with ⟨rfl,rfl,rfl⟩| ⟨g,cur,rfl,hg,g1,g2,g3,g4⟩
 · simp at hk
 · have hzc:(Builtin.zeroCells z.cells 1).toList=f x:=by
    have hzs:z.cells.size=sz:=h3
    rw [← hv]
    simp [Builtin.zeroCells]
    apply List.ext_getElem
    · simp
    · intro i h1 h2
      simp only [List.getElem_map,List.getElem_range]
      have:i<z.cells.size:=by simpa using h2
      simp [Nat.mod_eq_of_lt this,this]
   have hlk:k*sz+sz≤c*sz:=by
    have:(k+1)*sz≤c*sz:=Nat.mul_le_mul_right _ (by omega)
    rwa [Nat.add_mul,Nat.one_mul] at this
   obtain ⟨w2,hst,hh⟩:=store_t (b:=g) (off:=0+k*sz) (i:=0) (vs:=f x) (K:=fun w'=> ∃w'':World,w''=w'∧w'.heap[g]? =some (.cells (wr cur (0+k*sz+0) (f x)) e (0,0))∧Mod (·=g) w w') hg (by rw [E.len];omega) (by
    rw [List.all_eq_true];intro u hu;exact E.one x u hu) fun w' a1 a2 _=> ⟨w',rfl,a1,a2⟩
   obtain ⟨_,_,a1,a2⟩:=hh
   refine ⟨w2,?_,hK w2 ?_ (a2.mono fun b _ hb=>by subst hb;rfl)⟩
   · have hr:=run_storeCells (P:=P) ⟨g,0+k*sz,none⟩ _ _ _ _ hst
     have hzv:(zeroValue e:Sem Value).run P w= .ok z w:=by
      simp [zeroValue,typeInfo,hi,hz',Sem.run_bind]
     simp only [Option.map_some,add_at]
     rw [Nat.zero_add] at hr ⊢
     simp [Builtin.clear_,run_underlying ht,hzv,hzc,hr]
   · have hl:(l.take k).length=k:=by simp;omega
     have hcl:cur.toList.length=c*sz:=by simpa using g3
     have hkl:k*sz≤l.length*sz:=Nat.mul_le_mul_right _ (by omega)
     refine Row.of_some E.len a1 (by omega) g2 (by rw [wr_size];exact g3) ?_
     rw [hl,wr_list _ _ _ (by rw [E.len];omega),← flat_take E.len (by omega),← g4]
     rw [Nat.zero_add,Nat.add_zero,List.append_assoc,List.take_append_of_le_length (by rw [List.length_take,hcl];omega),List.take_take,Nat.min_self,List.take_take,Nat.min_eq_left hkl]
end Go.Fw
