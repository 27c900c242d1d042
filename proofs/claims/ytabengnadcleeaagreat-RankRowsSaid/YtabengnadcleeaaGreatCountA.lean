/- Layer 1: the models that numbers tell. -/
import Derived.Test.YtabengnadcleeaaGreatLitA
import Derived.Test.YtabengnadcleeaaGreatSolveA
namespace Go.Proofs.YtabengnadcleeaaGreat.W
open Go Go.Fw Go.RowKit
open Go.IntKind (i64)
section
end
section
open Go.SoP Go.LiP Go.LeP
variable {N:Nat} {cs:List (List Int)} {m m':List Int} {ms:List (List Int)}
structure Pm1 (N:Nat) (m:List Int):Prop where
 len:m.length=N
 pm: ∀y∈m,y=1∨y= -1
theorem modelP_pm (N k:Nat):Pm1 N (modelP N k):=⟨modelP_len N k,modelP_bd N k⟩
theorem modelP_inj: ∀ {N j k:Nat},j<2 ^ N→k<2 ^ N→modelP N j=modelP N k→j=k
 |0,j,k,hj,hk,_=>by simp at hj hk;omega
 |N+1,j,k,hj,hk,h=>by
  rw [Nat.pow_succ] at hj hk
  unfold modelP at h
  injection h with h1 h2
  have:=modelP_inj (N:=N) (j:=j / 2) (k:=k / 2) (by omega) (by omega) h2
  split at h1<;>split at h1<;>first|omega| (exact absurd h1 (by decide))
theorem modelP_surj: ∀ {N:Nat} {m:List Int},Pm1 N m→∃k,k<2 ^ N∧modelP N k=m
 |0,m,h=> ⟨0,by simp,by rw [List.eq_nil_of_length_eq_zero h.len];rfl⟩
 |N+1,[],h=>by have:=h.len;simp at this
 |N+1,y::t,h=>by
  obtain ⟨k,hk,e⟩:=modelP_surj (N:=N) (m:=t) ⟨by have:=h.len;simpa using this,fun z hz=>h.pm z (List.mem_cons_of_mem _ hz)⟩
  rcases h.pm y (by simp) with e1|e1
  · refine ⟨2*k+1,by rw [Nat.pow_succ];omega,?_⟩
    rw [modelP,if_pos (by omega),show (2*k+1) / 2=k by omega,e,e1]
  · refine ⟨2*k,by rw [Nat.pow_succ];omega,?_⟩
    rw [modelP,if_neg (by omega),show (2*k) / 2=k by omega,e,e1]
def cntM (N:Nat) (cs:List (List Int)):Nat:=(List.range (2 ^ N)).countP fun k=>holdsP (modelP N k) cs
def allM (N:Nat) (cs:List (List Int)):List (List Int):=((List.range (2 ^ N)).filter fun k=>holdsP (modelP N k) cs).map (modelP N)
theorem allM_len:(allM N cs).length=cntM N cs:=by unfold allM cntM;rw [List.length_map,List.countP_eq_length_filter]
theorem allM_mem:m∈allM N cs↔Pm1 N m∧holdsP m cs=true:=by
 unfold allM
 rw [List.mem_map]
 constructor
 · rintro ⟨k,hk,rfl⟩
   exact ⟨modelP_pm N k,(List.mem_filter.1 hk).2⟩
 · rintro ⟨h1,h2⟩
   obtain ⟨k,hk,rfl⟩:=modelP_surj h1
   exact ⟨k,List.mem_filter.2 ⟨List.mem_range.2 hk,h2⟩,rfl⟩
theorem allM_nd:(allM N cs).Nodup:=by
 unfold allM List.Nodup
 rw [List.pairwise_map]
 refine List.Pairwise.imp_of_mem (fun {a b} ha hb hne e=> ?_) ((List.nodup_range (n:=2 ^ N)).filter _)
 exact hne (modelP_inj (List.mem_range.1 (List.mem_filter.1 ha).1) (List.mem_range.1 (List.mem_filter.1 hb).1) e)
theorem cnt_le (hd:ms.Nodup) (h: ∀m∈ms,Pm1 N m∧holdsP m cs=true):ms.length≤cntM N cs:=by
 rw [← allM_len]
 exact List.Nodup.length_le_of_subset hd fun m hm=>allM_mem.2 (h m hm)
theorem cnt_ge (h: ∀m,Pm1 N m→holdsP m cs=true→m∈ms):cntM N cs≤ms.length:=by
 rw [← allM_len]
 exact List.Nodup.length_le_of_subset allM_nd fun m hm=>h m (allM_mem.1 hm).1 (allM_mem.1 hm).2
def bcl (m:List Int):List Int:=(List.range m.length).map fun i=> -(m.getD i 0)* ((i:Int)+1)
theorem bcl_len:(bcl m).length=m.length:=by simp [bcl]
theorem bcl_mem {l:Int}:l∈bcl m↔∃i,i<m.length∧l= -(m.getD i 0)* ((i:Int)+1):=by
 unfold bcl
 rw [List.mem_map]
 constructor
 · rintro ⟨i,hi,rfl⟩;exact ⟨i,List.mem_range.1 hi,rfl⟩
 · rintro ⟨i,hi,rfl⟩;exact ⟨i,List.mem_range.2 hi,rfl⟩
theorem Pm1.at_ (h:Pm1 N m) {i:Nat} (hi:i<N):m.getD i 0=1∨m.getD i 0= -1:=h.pm _ (by have:=h.len;simp [List.getD,show i<m.length by omega])
theorem bcl_lit (h:Pm1 N m) {i:Nat} (hi:i<N):(m.getD i 0=1∧ -(m.getD i 0)* ((i:Int)+1)= -((i:Int)+1))∨(m.getD i 0= -1∧ -(m.getD i 0)* ((i:Int)+1)=(i:Int)+1):=by
 rcases h.at_ hi with e|e
 · rw [e];exact .inl ⟨rfl,by omega⟩
 · rw [e];exact .inr ⟨rfl,by omega⟩
theorem bcl_am (h:Pm1 N m) {l:Int} (hl:l∈bcl m):InV N l:=by
 obtain ⟨i,hi,rfl⟩:=bcl_mem.1 hl
 have:=h.len
 rcases bcl_lit h (i:=i) (by omega) with ⟨_,e⟩| ⟨_,e⟩<;>rw [e]<;>exact ⟨by omega,by omega,by omega⟩
theorem litB_inv (hN:N≤1048576) {l:Int} (h:InV N l):litB l=true:=litB_of hN h
theorem bcl_true (hN:N≤4096) (h:Pm1 N m) (h':Pm1 N m'):(∃l∈bcl m,valP m' l=1)↔m'≠m:=by
 have l1:=h.len
 have l2:=h'.len
 have key: ∀i,i<N→(valP m' (-(m.getD i 0)* ((i:Int)+1))=1↔m'.getD i 0≠m.getD i 0):=by
  intro i hi
  have hm: -(m.getD i 0)* ((i:Int)+1)∈bcl m:=bcl_mem.2 ⟨i,by omega,rfl⟩
  have hlit:=litB_inv (by omega) (bcl_am h hm)
  rcases bcl_lit h hi with ⟨e1,e⟩| ⟨e1,e⟩<;>rw [e] at hlit ⊢ <;>rw [e1]
  · have ea:amt (-((i:Int)+1))=(i:Int)+1:=by unfold amt;rw [if_pos (by omega)];omega
    unfold valP
    rw [if_neg (by rw [hlit,ea];simp;omega),ea,show ((i:Int)+1 - 1).toNat=i by omega]
    rcases h'.at_ hi with e2|e2<;>rw [e2]
    · rw [if_neg (by decide),decide_eq_true (by decide:(1:Int)>0),decide_eq_false (by omega: ¬ -((i:Int)+1)>0)];decide
    · rw [if_neg (by decide),decide_eq_false (by decide: ¬(-1:Int)>0),decide_eq_false (by omega: ¬ -((i:Int)+1)>0)];decide
  · have ea:amt ((i:Int)+1)=(i:Int)+1:=by unfold amt;rw [if_neg (by omega)]
    unfold valP
    rw [if_neg (by rw [hlit,ea];simp;omega),ea,show ((i:Int)+1 - 1).toNat=i by omega]
    rcases h'.at_ hi with e2|e2<;>rw [e2]
    · rw [if_neg (by decide),decide_eq_true (by decide:(1:Int)>0),decide_eq_true (by omega:(i:Int)+1>0)];decide
    · rw [if_neg (by decide),decide_eq_false (by decide: ¬(-1:Int)>0),decide_eq_true (by omega:(i:Int)+1>0)];decide
 constructor
 · rintro ⟨l,hl,hv⟩ rfl
   obtain ⟨i,hi,rfl⟩:=bcl_mem.1 hl
   exact (key i (by omega)).1 hv rfl
 · intro hne
   refine Classical.byContradiction fun hn=>hne ?_
   refine List.ext_getElem (by omega) fun i h1 h2=> ?_
   refine Classical.byContradiction fun hd=>hn ⟨_,bcl_mem.2 ⟨i,h2,rfl⟩,(key i (by omega)).2 ?_⟩
   simpa [List.getD,h1,h2] using hd
theorem holdsP_iff:holdsP m cs=true↔∀c∈cs,∃l∈c,valP m l=1:=by
 unfold holdsP
 rw [List.all_eq_true]
 constructor
 · intro h c hc
   have:=h c hc
   rw [List.any_eq_true] at this
   obtain ⟨l,hl,e⟩:=this
   exact ⟨l,hl,by simpa using e⟩
 · intro h c hc
   obtain ⟨l,hl,e⟩:=h c hc
   rw [List.any_eq_true]
   exact ⟨l,hl,by simpa using e⟩
theorem holds_bcl (hN:N≤4096) (h':Pm1 N m') (h: ∀m∈ms,Pm1 N m):holdsP m' (cs++ms.map bcl)=true↔holdsP m' cs=true∧m' ∉ ms:=by
 rw [holdsP_iff,holdsP_iff]
 constructor
 · intro hh
   refine ⟨fun c hc=>hh c (List.mem_append_left _ hc),fun hm=> ?_⟩
   exact (bcl_true hN (h m' hm) h').1 (hh _ (List.mem_append_right _ (List.mem_map.2 ⟨m',hm,rfl⟩))) rfl
 · rintro ⟨h1,h2⟩ c hc
   rcases List.mem_append.1 hc with hc|hc
   · exact h1 c hc
   · obtain ⟨m,hm,rfl⟩:=List.mem_map.1 hc
     exact (bcl_true hN (h m hm) h').2 fun e=>h2 (by rw [e];exact hm)
theorem litB_neg' (l:Int):litB (-l)=litB l:=by
 unfold litB
 refine decide_eq_decide.2 ?_
 omega
theorem mdl_of (hN:N≤1048576) (h:Pm1 N m):Mdl N (valP m):=by
 have h0: ∀l,litB l=false→valP m l=0:=fun l hl=>by unfold valP;rw [if_pos (.inl hl)]
 refine ⟨fun l=> ?_,fun l=> ?_,fun l hl=> ?_⟩
 · cases hl:litB l with
   |true=>exact valP_neg hl
   |false=>rw [h0 _ hl,h0 _ (by rw [litB_neg'];exact hl)];rfl
 · unfold valP
   split
   · exact .inl rfl
   · split
     · exact .inl rfl
     · split
       · exact .inr (.inl rfl)
       · exact .inr (.inr rfl)
 · have hlit:=litB_of hN hl
   have ha:=hl.amt
   have hlen:=h.len
   unfold valP
   rw [if_neg (by rw [hlit];simp;omega)]
   have:=h.at_ (i:=(amt l - 1).toNat) (by omega)
   rw [if_neg (by omega)]
   split<;>decide
theorem unsat_no (hN:N≤1048576) (h: ∀v,Mdl N v→¬∀d∈cs,Tr1 v d) (hm:Pm1 N m):holdsP m cs=false:=by
 cases e:holdsP m cs with
 |false=>rfl
 |true=>exact absurd (holdsP_iff.1 e) (h _ (mdl_of hN hm))
theorem quota_big {l:Int} (h1:1≤l) (h2:l≤1048576):90000<Re.quota l 100:=by
 unfold Re.quota
 have hm:Re.mayQ l 100=true:=by unfold Re.mayQ;rw [decide_eq_true];omega
 rw [if_pos hm]
 have h3:QuP.quo 1 100≤QuP.quo l.toNat 100:=QuP.quo_le (by omega) 100
 have h4:90000<QuP.quo 1 100:=by decide+kernel
 have:(100:Int).toNat=100:=rfl
 rw [this]
 omega
end
section
open Go.SoP Go.LiP Go.LeP
variable {w w' w1 w2 u u':World} {N n14:Nat} {cs:List (List Int)} {mo:List Int} {ms:List (List Int)} {hs':List Sl} {gp:Option Addr} {gc:Nat}
structure CntI (w u:World) (n14 N:Nat) (cs:List (List Int)) (hs':List Sl) (ms:List (List Int)) (gp:Option Addr) (gc:Nat):Prop where
 g:Grow w u
 has:Has u n14 #[.int .i64 N,.slice gp hs'.length gc]
 own:Ow Sl.v ty_sl_int u gp gc hs'
 n:hs'.length=(cs++ms.map bcl).length
 r: ∀j,j< (cs++ms.map bcl).length→(hs'.getD j Sl.nil).n=((cs++ms.map bcl).getD j []).length∧(hs'.getD j Sl.nil).n≤maxLen∧Vw (Value.int .i64) u (hs'.getD j Sl.nil).p ((cs++ms.map bcl).getD j [])
 rf: ∀j,j< (cs++ms.map bcl).length→(cs++ms.map bcl).getD j []≠[]→∀k,blk (hs'.getD j Sl.nil).p=some k→k≠n14∧blk gp≠some k∧k<u.heap.size
 nd:ms.Nodup
 pm: ∀m∈ms,Pm1 N m∧holdsP m cs=true
 z:w.heap.size≤n14
 fr: ∀k,blk gp=some k→w.heap.size≤k∧k≠n14
theorem CntI.grow (I:CntI w u n14 N cs hs' ms gp gc) (g:Grow u u'):CntI w u' n14 N cs hs' ms gp gc:=
 ⟨I.g.trans g,I.has.grow g,I.own.grow g,I.n,fun j hj=> ⟨(I.r j hj).1,(I.r j hj).2.1,(I.r j hj).2.2.grow g⟩,fun j hj hne k hk=> ⟨(I.rf j hj hne k hk).1,(I.rf j hj hne k hk).2.1,Nat.lt_of_lt_of_le (I.rf j hj hne k hk).2.2 g.size⟩,I.nd,I.pm,I.z,I.fr⟩
theorem CntI.v2 (I:CntI w u n14 N cs hs' ms gp gc):V2 (Value.int .i64) u gp hs' (cs++ms.map bcl):=⟨I.own.vw,I.n,I.r⟩
theorem CntI.push (I:CntI w u n14 N cs hs' ms gp gc) {op:Option Addr} {oc:Nat} (O:OwI ty_int u op oc (bcl mo)) (hf: ∀b,blk op=some b→b≠n14∧blk gp≠some b) (hm:Pm1 N mo) (hN:N≤4096) (hh:holdsP mo cs=true) (hnew:mo ∉ ms) (hb:hs'.length≤1000000)
 {n124:Nat} {w125:World} (h:New (.cells #[.slice op (bcl mo).length oc] 28) u n124 w125) {K:World→Prop}
 (hk: ∀u' hs2 gp' gc',CntI w u' n14 N cs hs2 (ms++ [mo]) gp' gc'→K u'):
 ∃w126 r127p r127n r127c,(Builtin.append_ #[24,24] 24 #[.slice gp hs'.length gc,.slice (some (Addr.mk n124 0 none)) 1 1]).run Tryz.prog w125= .ok (.slice r127p r127n r127c) w126∧
  ∃w128,StoreAt ((Addr.mk n14 0 none).add 1) 0 [.slice r127p r127n r127c] w126 w128∧K w128:=by
 have J:=I.grow h.mod
 have e124:=h.num
 have s125:=h.size
 have l14:=I.has.lt
 refine J.own.app1 sl_slC (⟨op,(bcl mo).length,oc⟩:Sl) h.has rfl rfl (fun _=>rfl) (by omega) fun w126 gp' gc' o' m' hp' hs1=> ?_
 have hsz:=m'.size
 have hg14: ∀k,blk gp'=some k→w.heap.size≤k∧k≠n14:=fun k hk=>by
  rcases hp' with rfl|rfl
  · exact I.fr k hk
  · have:=blk_some hk
    have:=I.g.size
    omega
 have ha:Has w126 n14 #[.int .i64 N,.slice gp hs'.length gc]:=J.has.keep m' fun e=> (I.fr _ e).2 rfl
 refine store_f ha rfl rfl fun w128 H128 m128=> ?_
 have s128:=m128.size
 have keepV: ∀ {p:Option Addr} {l:List Int},Vw (Value.int .i64) w125 p l→(l≠[]→∀k,blk p=some k→k≠n14∧blk gp≠some k)→Vw (Value.int .i64) w128 p l:=fun {p l} v hv=>by
  by_cases e:l= []
  · subst e;exact Vw.nil
  · exact (v.keep m' fun k hk e2=> (hv e k hk).2 e2).keep m128 fun k hk (e2:k=n14)=> (hv e k hk).1 e2
 have O128:Vw (Value.int .i64) w128 op (bcl mo):=keepV (O.grow h.mod).vw fun _ k hk=>hf k hk
 have hlen:(cs++ (ms++ [mo]).map bcl).length=(cs++ms.map bcl).length+1:=by simp;omega
 have gl: ∀j,j< (cs++ms.map bcl).length→(cs++ (ms++ [mo]).map bcl).getD j []=(cs++ms.map bcl).getD j []∧(hs'++ [(⟨op,(bcl mo).length,oc⟩:Sl)]).getD j Sl.nil=hs'.getD j Sl.nil:=fun j hj=>by
  have hn:=I.n
  refine ⟨?_,?_⟩
  · rw [List.map_append,← List.append_assoc]
    simp only [List.getD_eq_getElem?_getD];rw [List.getElem?_append_left hj]
  · simp only [List.getD_eq_getElem?_getD];rw [List.getElem?_append_left (by omega)]
 have gn:(cs++ (ms++ [mo]).map bcl).getD (cs++ms.map bcl).length []=bcl mo∧(hs'++ [(⟨op,(bcl mo).length,oc⟩:Sl)]).getD (cs++ms.map bcl).length Sl.nil=⟨op,(bcl mo).length,oc⟩:=by
  refine ⟨?_,?_⟩
  · rw [List.map_append,← List.append_assoc]
    simp only [List.getD_eq_getElem?_getD];rw [List.getElem?_append_right (Nat.le_refl _)];simp
  · rw [← I.n]
    simp only [List.getD_eq_getElem?_getD];rw [List.getElem?_append_right (Nat.le_refl _)];simp
 have olt:=(O.grow h.mod).lt
 refine hk w128 (hs'++ [(⟨op,(bcl mo).length,oc⟩:Sl)]) gp' gc' ⟨?_,?_,?_,?_,fun j hj=> ?_,fun j hj hne k hk=> ?_,?_,fun m hm2=> ?_,I.z,hg14⟩
 · refine ((I.g.trans h.mod).then m' fun k hk e=> ?_).then m128 fun k hk (e:k=n14)=>by have:=I.z;omega
   have:=(I.fr k e).1
   omega
 · rw [List.length_append,List.length_singleton];exact H128
 · exact o'.keep m128 fun k hk (e:k=n14)=> (hg14 k hk).2 e
 · rw [hlen,List.length_append,List.length_singleton,I.n]
 · rw [hlen] at hj
   by_cases e:j< (cs++ms.map bcl).length
   · rw [(gl j e).1,(gl j e).2]
     obtain ⟨r1,r2,r3⟩:=J.r j e
     exact ⟨r1,r2,keepV r3 fun hne k hk=> ⟨(J.rf j e hne k hk).1,(J.rf j e hne k hk).2.1⟩⟩
   · have e:j=(cs++ms.map bcl).length:=by omega
     subst e
     rw [gn.1,gn.2]
     refine ⟨rfl,?_,O128⟩
     show (bcl mo).length≤maxLen
     rw [bcl_len,hm.len];unfold maxLen;omega
 · rw [hlen] at hj
   by_cases e:j< (cs++ms.map bcl).length
   · rw [(gl j e).1] at hne
     rw [(gl j e).2] at hk
     obtain ⟨r1,r2,r3⟩:=J.rf j e hne k hk
     refine ⟨r1,?_,by omega⟩
     rcases hp' with rfl|rfl
     · exact r2
     · intro e2;have:=blk_some e2;omega
   · have e:j=(cs++ms.map bcl).length:=by omega
     subst e
     rw [gn.2] at hk
     have hk:blk op=some k:=hk
     obtain ⟨r1,r2⟩:=hf k hk
     have:=olt k hk
     refine ⟨r1,?_,by omega⟩
     rcases hp' with rfl|rfl
     · exact r2
     · intro e2;have:=blk_some e2;omega
 · exact cd_snoc I.nd hnew
 · rcases List.mem_append.1 hm2 with hm2|hm2
   · exact I.pm m hm2
   · rw [List.mem_singleton] at hm2;subst hm2;exact ⟨hm,hh⟩
theorem other_w {q:Option Addr} {n:Nat} (v:Vw (Value.int .i64) w q mo) (hn:n=mo.length) (hm:Pm1 N mo) (hN:N≤4096) {K:Option Addr→Nat→Nat→World→Prop}
 (hk: ∀op oc u,OwI ty_int u op oc (bcl mo)→(∀b,blk op=some b→w.heap.size≤b)→Grow w u→K op (bcl mo).length oc u):
 ∃I43:Option Addr→Nat→Nat→Int→World→Nat→Prop,(∃k44,I43 none 0 0 0 w k44)∧
  ∀ (other_46_p:Option Addr) (other_46_n:Nat) (other_46_c:Nat) (v47:Int) (w48:World) (k44:Nat) (_:Fr),I43 other_46_p other_46_n other_46_c v47 w48 k44→
  cnd (decide (v47< (n:Int)))
   (ixK q n v47 1 fun a49=>
     ∃x50,w48.cell? a49=some (.int .i64 x50)∧
     ∀n51 w52,New (.cells #[.int .i64 (i64.wrap ((i64.wrap (0 - x50))* (i64.wrap (v47+ (1:Int)))))] 3) w48 n51 w52→
     ∃w53 r54p r54n r54c,(Builtin.append_ #[28,28] 28 #[.slice other_46_p other_46_n other_46_c,.slice (some (Addr.mk n51 0 none)) 1 1]).run Tryz.prog w52= .ok (.slice r54p r54n r54c) w53∧
     ∃k45,k45<k44∧I43 r54p r54n r54c (i64.wrap (v47+ (1:Int))) w53 k45)
   (K other_46_p other_46_n other_46_c w48):=by
 have hl:=hm.len
 have htk: ∀t,t<mo.length→(bcl mo).take (t+1)=(bcl mo).take t++ [-(mo.getD t 0)* ((t:Int)+1)]:=fun t ht=>by
  rw [List.take_add_one]
  congr 1
  rw [List.getElem?_eq_getElem (by rw [bcl_len];exact ht)]
  simp [bcl]
 refine ⟨fun p k c V u z=> ∃t:Nat,V=t∧t≤mo.length∧z=mo.length - t∧k=((bcl mo).take t).length∧OwI ty_int u p c ((bcl mo).take t)∧(∀b,blk p=some b→w.heap.size≤b)∧Grow w u,
  ⟨_,0,rfl,Nat.zero_le _,rfl,rfl,Ow.nil _ _ _,fun b hb=>by simp [blk] at hb,Mod.refl _⟩,?_⟩
 rintro p k c V u z _ ⟨t,rfl,ht,rfl,rfl,o,fr,G⟩
 refine cnd_i (fun r=> ?_) (fun r=> ?_)
 · have r:t<mo.length:=by simp at r;omega
   refine (v.grow G).ix 0 (by omega) hn (by omega) fun a ha=> ⟨_,ha,fun n51 w52 h52=> ?_⟩
   rw [Int.toNat_natCast] at h52
   have e52:=h52.num
   have sG:=G.size
   have hy:=hm.at_ (i:=t) (by omega)
   have ew:i64.wrap ((i64.wrap (0 - mo.getD t 0))* (i64.wrap ((t:Int)+1)))= -(mo.getD t 0)* ((t:Int)+1):=by
    have e1:i64.wrap (0 - mo.getD t 0)= -(mo.getD t 0):=by rw [wrap64_of (by omega) (by omega)];omega
    have e2:i64.wrap ((t:Int)+1)=(t:Int)+1:=wrap64_of (by omega) (by omega)
    rw [e1,e2]
    rcases hy with e|e<;>rw [e]<;>exact wrap64_of (by omega) (by omega)
   rw [ew] at h52
   have hlt:((bcl mo).take t).length≤t:=List.length_take_le t _
   refine (o.grow h52.mod).app1 sl_intC _ h52.has rfl rfl oneInt (by omega) fun w53 p' c' o' m' hp' hs'=> ?_
   refine ⟨_,?_,t+1,wN (by omega) (by omega),by omega,rfl,by rw [htk t r];simp,by rw [htk t r];exact o',fun b hb=> ?_,(G.trans h52.mod).then m' fun b hb e=> ?_⟩
   · omega
   · rcases hp' with rfl|rfl
     · exact fr b hb
     · have:=blk_some hb;have:=h52.size;omega
   · have:=fr b e;omega
 · have r:t=mo.length:=by simp at r;omega
   subst r
   rw [List.take_of_length_le (by rw [bcl_len];exact Nat.le_refl _)] at o ⊢
   exact hk _ _ _ o fr G
end
end Go.Proofs.YtabengnadcleeaaGreat.W
