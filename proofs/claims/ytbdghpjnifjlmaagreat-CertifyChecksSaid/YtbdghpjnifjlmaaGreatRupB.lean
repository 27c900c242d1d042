/- Layer 7: where a proof ends. -/
import Derived.Test.YtbdghpjnifjlmaaGreatPfA
import Derived.Test.YtbdghpjnifjlmaaGreatFwMem
import Derived.Maps.Own
import Derived.Maps.OwnSet
import Derived.DeepKeys4
namespace Go.Proofs.YtbdghpjnifjlmaaGreat.W
open Go Go.Fw Go.RowKit Go.SoP Go.LiP
section
variable {w w' w0 w2 w3:World} {p q:Option Addr} {n m c d:Nat} {k:Int} {hs ks:List Sl} {cs:List (List Int)} {l:List Int}
noncomputable def pvP:List (List Int)→List Stp→Int × Int
 |_,[]=> (0,4)
 |cs,s::l=>if stepE cs s≠0 then (0,stepE cs s) else if s.1=false∧s.2= [] then (0,0) else ((pvP (stepC cs s) l).1+1,(pvP (stepC cs s) l).2)
theorem drop_consR {α:Type} {l:List α} {i:Nat} (h:i<l.length) (d:α):l.drop i=l.getD i d::l.drop (i+1):=by
 rw [List.drop_eq_getElem_cons h];simp [List.getD,h]
def Way (cs:List (List Int)) (al:List Stp) (i:Nat) (ci:List (List Int)):Prop:=pvP cs al=((i:Int)+ (pvP ci (al.drop i)).1,(pvP ci (al.drop i)).2)
theorem Way.zero (cs:List (List Int)) (al:List Stp):Way cs al 0 cs:=by unfold Way;simp
theorem Way.bad {al:List Stp} {i:Nat} {ci:List (List Int)} (h:Way cs al i ci) (hi:i<al.length) (he:stepE ci (al.getD i st0)≠0):pvP cs al=((i:Int),stepE ci (al.getD i st0)):=by
 unfold Way at h
 rw [h,drop_consR hi st0,pvP,if_pos he];simp
theorem Way.fin {al:List Stp} {i:Nat} {ci:List (List Int)} (h:Way cs al i ci) (hi:i<al.length) (he:stepE ci (al.getD i st0)=0) (h1:(al.getD i st0).1=false∧(al.getD i st0).2= []):pvP cs al=((i:Int),0):=by
 unfold Way at h
 rw [h,drop_consR hi st0,pvP,if_neg (by simpa using he),if_pos h1];simp
theorem Way.next {al:List Stp} {i:Nat} {ci:List (List Int)} (h:Way cs al i ci) (hi:i<al.length) (he:stepE ci (al.getD i st0)=0) (h1: ¬((al.getD i st0).1=false∧(al.getD i st0).2= [])):Way cs al (i+1) (stepC ci (al.getD i st0)):=by
 unfold Way at*
 rw [h,drop_consR hi st0,pvP,if_neg (by simpa using he),if_neg h1]
 congr 1
 simp
 omega
theorem Way.all {al:List Stp} {ci:List (List Int)} (h:Way cs al al.length ci):pvP cs al=((al.length:Int),4):=by
 unfold Way at h
 rw [h,List.drop_length,pvP];simp
theorem rupProvesB_ok {al:List Stp} (hc:V2 (Value.int .i64) w p hs cs) (hn:n=cs.length) (h40:cs.length+m<262144) (hl:SV w q al) (hm:m=al.length):
 Calls Tryz.prog rup_Proves.id #[.agg #[.int .i64 k,.slice p n d],.slice q m c] w fun e w'=>e= .returned (.tuple #[.int .i64 (if cnfB k cs && mayP al then pvP cs al else (0,1)).1,.int .i64 (if cnfB k cs && mayP al then pvP cs al else (0,1)).2])∧Grow w w':=by
 subst hn hm
 refine rup_Proves.calls ?_
 intro n1 w2 h2
 have e1:=h2.num
 refine ⟨_,_,_,_,cells2 h2.has,(checkCnf_ok (hc.grow h2.mod) rfl).mono ?_⟩
 rintro e w5 ⟨rfl,g5⟩
 have G5:=h2.mod.trans g5
 refine ⟨_,rfl,?_⟩
 cases hcn:cnfB k cs with
 |false=>exact cnd_t rfl ⟨rfl,G5⟩
 |true=>
 refine cnd_f rfl ((traceCheck_ok (hl.grow G5) rfl (by omega)).mono ?_)
 rintro e w7 ⟨rfl,g7⟩
 have G7:=G5.trans g7
 refine ⟨_,rfl,?_⟩
 cases hmy:mayP al with
 |false=>exact cnd_t rfl ⟨rfl,G7⟩
 |true=>
 have hmy': ∀x∈al,clB x.2=true:=by
  have:=hmy
  unfold mayP at this
  rwa [List.all_eq_true] at this
 refine cnd_f rfl ?_
 have gm: ∀i,i<al.length→al.getD i st0∈al:=fun i hi=>by simp [List.getD,hi]
 have z5:=G5.size
 have z7:=g7.size
 refine ⟨fun P N C I u z=> ∃ (i:Nat) (hs:List Sl),I=i∧i≤al.length∧z=al.length - i∧i=N∧hs.length=i∧Grow w7 u∧OV (Value.int .i64) ty_sl_int u P C hs ((al.take i).map (·.2))∧(∀j,blk P=some j→w7.heap.size≤j),
  ⟨_,0,[],rfl,Nat.zero_le _,rfl,rfl,rfl,Mod.refl _,OV.nil,fun j hj=>by simp [blk] at hj⟩,?_⟩
 rintro P N C I u z _ ⟨i,hs2,rfl,hi,rfl,rfl,hlen,gu,o,fP⟩
 have Gu:=G7.trans gu
 refine cnd_i (fun r=> ?_) (fun r=> ?_)
 · have r:i<al.length:=by simpa using r
   refine hl.ix Gu rfl r fun a s hcA h1 h2' h3=> ⟨_,_,_,_,hcA u Gu,?_⟩
   intro n18 w19 h19
   refine store_i h19.has rfl rfl fun w20 b20 m20=> ⟨_,_,_,cell_add b20 rfl,?_⟩
   have e18:=h19.num
   have g20:Grow u w20:=h19.mod.then m20 fun j hj e=>by omega
   intro n22 w23 h23
   have G23:Grow u w23:=g20.trans h23.mod
   have zu:=gu.size
   refine (o.grow G23).app sl_sl_int (ns:= [⟨s.p,s.n,s.c⟩]) (nrows:= [(al.getD i st0).2]) (q:=some ⟨n22,0,none⟩) (m:=1) (k:=1) (fun j hj=>by
    have:j=0:=by simpa using hj
    subst this
    exact ⟨_,rfl,cell_add h23.has rfl⟩) (VR.one (h3.grow (Gu.trans G23)) h1 h2') hlen.symm rfl (fun j hj e=> ?_) (by simp;omega) fun w24 P' C' o24 m24 hP' hz'=> ?_
   · obtain ⟨x,hx,h0,hk⟩:=hj
     rw [List.mem_singleton] at hx
     subst hx
     have h0:0<s.n:=h0
     have:=h3.lt (fun e3=>by rw [e3] at h1;simp at h1;omega) j hk
     have:=fP j e
     omega
   · have z23:=G23.size
     have hst:(al.take (i+1)).map (·.2)=(al.take i).map (·.2)++ [(al.getD i st0).2]:=by rw [take_snoc r st0,List.map_append];rfl
     rw [← hst] at o24
     refine ⟨_,?_,i+1,_,wN (by omega) (by omega),r,rfl,by simp [hlen],by simp [hlen],(gu.trans G23).then m24 fun j hj e=>by have:=fP j e;omega,o24,fun j hj=> ?_⟩
     · omega
     · rcases hP' with rfl|rfl
       · exact fP j hj
       · have:=blk_some hj;omega
 have r:i=al.length:=by simp at r;omega
 subst r
 rw [List.take_length] at o
 have b1:Has u n1 _:=(h2.has.grow (g5.trans g7)).grow gu
 refine ⟨_,_,_,_,cells2 b1,?_⟩
 have hL:=cnf_lits hcn
 refine (begin_ok (hc.grow Gu) rfl o.v2 (by simp) (fun c hc=> ⟨(hL c hc).1,fun x hx=> ((hL c hc).2 x hx).1⟩) (fun c hc=>by
  obtain ⟨x,hx,rfl⟩:=List.mem_map.1 hc
  have:=(clB_all (hmy' x hx)).2
  exact ⟨by omega,(clB_all (hmy' x hx)).1⟩) (by omega) (by simp;omega)).mono ?_
 rintro e w28 ⟨nb,id,rfl,hW,hN⟩
 rw [fold_same fun c hc x hx=> ((hL c hc).2 x hx).2] at hW
 refine ⟨_,rfl,?_⟩
 refine ⟨fun I v z=> ∃ (i:Nat) (ci:List (List Int)) (vi:Int),I=i∧i≤al.length∧z=al.length - i∧Wk true (fun _=>False) u v nb vi id ci (cs.length+i)∧Way cs al i ci,⟨_,0,cs,k,rfl,Nat.zero_le _,rfl,hW,Way.zero cs al⟩,?_⟩
 rintro I v z _ ⟨i,ci,vi,rfl,hi,rfl,hWi,way⟩
 have Gv:=Gu.trans hWi.wg
 refine cnd_i (fun r=> ?_) (fun r=> ?_)
 · have r:i<al.length:=by simpa using r
   have hmem:=gm i r
   have hcl:=clB_all (hmy' _ hmem)
   refine hl.ix Gv rfl r fun a s hcA h1 h2' h3=> ⟨_,_,_,_,hcA v Gv,?_⟩
   intro n38 w39 h39
   have e38:=h39.num
   refine store_i h39.has rfl rfl fun w40 b40 m40=> ⟨_,_,_,_,cells2 b40,?_⟩
   have g40:Grow v w40:=h39.mod.then m40 fun j hj e=>by omega
   have i38:=b40.lt
   refine ((hWi.enter g40).step (s:=al.getD i st0) (h3.grow Gu) h1 hcl.2 (fun x hx=> ⟨hcl.1 x hx,hN _ (List.mem_append_right _ (List.mem_map_of_mem hmem)) x hx⟩) (by omega)).mono ?_
   rintro e w43 ⟨rfl,m43,t,ht,h43⟩
   have b43:Has w43 n38 _:=b40.keep m43 fun e=>e (.inr ⟨by omega,i38⟩)
   have G43:=Gu.trans h43.wg
   have h43':=h43.less (A':=fun _=>False) fun j hj=>hj.elim
   refine ⟨_,rfl,cnd_i (fun r2=> ?_) (fun r2=> ?_)⟩
   · have r2:stepE ci (al.getD i st0)≠0:=by simpa using r2
     have:=way.bad r r2
     simp only [Bool.and_self,if_true]
     rw [this]
     exact ⟨rfl,G43⟩
   · have r2:stepE ci (al.getD i st0)=0:=by simpa using r2
     have next: ¬((al.getD i st0).1=false∧(al.getD i st0).2= [])→∃k32,k32<al.length - i∧∃ (i':Nat) (ci':List (List Int)) (vi':Int),IntKind.i64.wrap ((i:Int)+1)=i'∧i'≤al.length∧k32=al.length - i'∧Wk true (fun _=>False) u w43 nb vi' id ci' (cs.length+i')∧Way cs al i' ci':=fun hne=>by
      have hh:(al.getD i st0).1=true∨(al.getD i st0).2≠[]:=by
       cases h:(al.getD i st0).1 with
       |true=>exact .inl rfl
       |false=>exact .inr fun e=>hne ⟨h,e⟩
      have:=ht r2 hh
      subst this
      exact ⟨_,by omega,i+1,_,_,wN (by omega) (by omega),r,rfl,h43',way.next r r2 hne⟩
     refine ⟨_,cell_add b43 rfl,cnd_i (fun r3=> ?_) (fun r3=>next fun e=>by rw [e.1] at r3;cases r3)⟩
     have r3:(al.getD i st0).1=false:=by simpa using r3
     refine ⟨_,_,_,cell_add b43 rfl,cnd_i (fun r4=> ?_) (fun r4=>next fun e=> ?_)⟩
     · have r4:(al.getD i st0).2= []:=by
        have:(s.n:Int)=0:=by simpa using r4
        exact List.eq_nil_of_length_eq_zero (by omega)
       have:=way.fin r r2 ⟨r3,r4⟩
       simp only [Bool.and_self,if_true]
       rw [this]
       exact ⟨rfl,G43⟩
     · have:(s.n:Int)≠0:=by simpa using r4
       rw [e.2] at h1
       simp at h1
       omega
 · have r:i=al.length:=by simp at r;omega
   subst r
   simp only [Bool.and_self,if_true]
   rw [way.all]
   exact ⟨rfl,Gv⟩
end
section
variable {w w' w0 w2 w3 u0 u u':World} {p q:Option Addr} {n m c d:Nat} {k:Int} {hs ks:List Sl} {cs:List (List Int)} {l:List Int}
structure Dz (u0 u:World) (sl:Sl) (v:Value) (r:Option (Option Addr × Nat × List Sl)) (l c:Option Nat):Prop where
 g:Grow u0 u
 r: ∀p d hs,r=some (p,d,hs)→Ow Sl.v ty_sl_int u p d hs∧∀k,blk p=some k→u0.heap.size≤k∧l≠some k∧c≠some k
 l: ∀n,l=some n→Has u n #[.slice sl.p sl.n sl.c]∧u0.heap.size≤n
 c: ∀n,c=some n→Has u n #[.int .i64 0,.slice none 0 0]∧u0.heap.size≤n
variable {sl:Sl} {v:Value} {r:Option (Option Addr × Nat × List Sl)} {ol oc:Option Nat}
theorem Dz.E (D:Dz u0 u sl v none ol oc) {K:Nat→World→Prop} (hk: ∀n u',Dz u0 u' sl v (some (some ⟨n,0,none⟩,0,[])) ol oc→Grow u0 u'→K n u'):
 ∀ (n:Nat) (u':World),New (.cells #[] ty_sl_int) u n u'→Grow u0 u'∧K n u':=by
 intro n u' h
 have G:=D.g.trans h.mod
 have e:=h.num
 have z:=D.g.size
 refine ⟨G,hk n u' ⟨G,fun p d hs e2=> ?_,fun n2 e2=> ⟨(D.l n2 e2).1.grow h.mod,(D.l n2 e2).2⟩,fun n2 e2=> ⟨(D.c n2 e2).1.grow h.mod,(D.c n2 e2).2⟩⟩ G⟩
 simp only [Option.some.injEq,Prod.mk.injEq] at e2
 obtain ⟨rfl,rfl,rfl⟩:=e2
 refine ⟨New.empty h,fun k hk=> ?_⟩
 have:=blk_some hk
 subst this
 exact ⟨by omega,fun e2=>by have:=(D.l _ e2).1.lt;omega,fun e2=>by have:=(D.c _ e2).1.lt;omega⟩
theorem Dz.L (D:Dz u0 u sl v r none oc) {K:Nat→World→Prop} (hk: ∀n u',Dz u0 u' sl v r (some n) oc→Grow u0 u'→K n u'):
 ∀ (n:Nat) (u':World),New (.cells #[.slice sl.p sl.n sl.c] ty_sl_int) u n u'→Grow u0 u'∧K n u':=by
 intro n u' h
 have G:=D.g.trans h.mod
 have e:=h.num
 have z:=D.g.size
 refine ⟨G,hk n u' ⟨G,fun p d hs e2=> ⟨(D.r p d hs e2).1.grow h.mod,fun k hk=> ?_⟩,fun n2 e2=> ?_,fun n2 e2=> ⟨(D.c n2 e2).1.grow h.mod,(D.c n2 e2).2⟩⟩ G⟩
 · obtain ⟨a1,a2,a3⟩:=(D.r p d hs e2).2 k hk
   have:=(D.r p d hs e2).1.lt k hk
   exact ⟨a1,fun e3=>by injection e3;omega,a3⟩
 · injection e2 with e2
   subst e2
   exact ⟨h.has,by omega⟩
theorem Dz.C (D:Dz u0 u sl v r ol none) {K:Nat→World→Prop} (hk: ∀n u',Dz u0 u' sl v r ol (some n)→Grow u0 u'→K n u'):
 ∀ (n:Nat) (u':World),New (.cells #[.int .i64 0,.slice none 0 0] ty_api_Cnf) u n u'→Grow u0 u'∧K n u':=by
 intro n u' h
 have G:=D.g.trans h.mod
 have e:=h.num
 have z:=D.g.size
 refine ⟨G,hk n u' ⟨G,fun p d hs e2=> ⟨(D.r p d hs e2).1.grow h.mod,fun k hk=> ?_⟩,fun n2 e2=> ⟨(D.l n2 e2).1.grow h.mod,(D.l n2 e2).2⟩,fun n2 e2=> ?_⟩ G⟩
 · obtain ⟨a1,a2,a3⟩:=(D.r p d hs e2).2 k hk
   have:=(D.r p d hs e2).1.lt k hk
   exact ⟨a1,a2,fun e3=>by injection e3;omega⟩
 · injection e2 with e2
   subst e2
   exact ⟨h.has,by omega⟩
theorem Dz.app {hs0 news:List Sl} {p0:Option Addr} {d0 m0 k0 n0:Nat} (D:Dz u0 u sl v (some (p0,d0,hs0)) ol oc) (hv:Vw Sl.v u q news) (hn:n0=hs0.length) (hm:m0=news.length) (hlen:hs0.length+news.length≤100000) {K:World→Option Addr→Nat→Nat→Prop}
 (hk: ∀u' p' c',Dz u0 u' sl v (some (p',c',hs0++news)) ol oc→Grow u0 u'→K u' p' (hs0++news).length c'):
 ∃u',∃p' n' c',(Builtin.append_ #[ty_sl_sl_int,ty_sl_sl_int] ty_sl_sl_int #[.slice p0 n0 d0,.slice q m0 k0]).run Tryz.prog u= .ok (.slice p' n' c') u'∧K u' p' n' c':=by
 obtain ⟨o,f⟩:=D.r _ _ _ rfl
 have z:=D.g.size
 refine o.appV sl_sl_int hv hn hm (fun _=>rfl) (by omega) fun u' p' c' o' m' hp' hz'=> ?_
 have G:Grow u0 u':=D.g.then m' fun k hk e=>by have:=(f k e).1;omega
 refine hk u' p' c' ⟨G,fun p d hs e2=> ?_,fun n2 e2=> ⟨(D.l n2 e2).1.keep m' fun e=> (f _ e).2.1 e2,(D.l n2 e2).2⟩,fun n2 e2=> ⟨(D.c n2 e2).1.keep m' fun e=> (f _ e).2.2 e2,(D.c n2 e2).2⟩⟩ G
 simp only [Option.some.injEq,Prod.mk.injEq] at e2
 obtain ⟨rfl,rfl,rfl⟩:=e2
 refine ⟨o',fun k hk=> ?_⟩
 rcases hp' with rfl|rfl
 · exact f k hk
 · have:=blk_some hk
   subst this
   exact ⟨by omega,fun e2=>by have:=(D.l _ e2).1.lt;omega,fun e2=>by have:=(D.c _ e2).1.lt;omega⟩
theorem Dz.A {n0:Nat} {d0:Nat} {p0:Option Addr} {m0 k0:Nat} (D:Dz u0 u sl v (some (p0,d0,[])) ol oc) (hv:Vw Sl.v u0 q hs) (hn:n0=0) (hm:m0=hs.length) (hlen:hs.length≤99999) {K:World→Option Addr→Nat→Nat→Prop}
 (hk: ∀u' p' c',Dz u0 u' sl v (some (p',c',hs)) ol oc→Grow u0 u'→K u' p' hs.length c'):
 ∃u',∃p' n' c',(Builtin.append_ #[ty_sl_sl_int,ty_sl_sl_int] ty_sl_sl_int #[.slice p0 n0 d0,.slice q m0 k0]).run Tryz.prog u= .ok (.slice p' n' c') u'∧Grow u0 u'∧K u' p' n' c':=
 D.app (hs0:= []) (hv.grow D.g) hn hm (by simp;omega) fun u' p' c' D' g=> ⟨g,hk u' p' c' D' g⟩
theorem Dz.B {n0:Nat} {d0 nl k0:Nat} {p0:Option Addr} (D:Dz u0 u sl v (some (p0,d0,hs)) (some nl) oc) (hn:n0=hs.length) (hlen:hs.length≤99999) {K:World→Option Addr→Nat→Nat→Prop}
 (hk: ∀u' p' c',Dz u0 u' sl v (some (p',c',hs++ [sl])) (some nl) oc→Grow u0 u'→K u' p' (hs++ [sl]).length c'):
 ∃u',∃p' n' c',(Builtin.append_ #[ty_sl_sl_int,ty_sl_sl_int] ty_sl_sl_int #[.slice p0 n0 d0,.slice (some (Addr.mk nl 0 none)) 1 k0]).run Tryz.prog u= .ok (.slice p' n' c') u'∧Grow u0 u'∧K u' p' n' c':=
 D.app (news:= [sl]) (fun j hj=>by
  have:j=0:=by simpa using hj
  subst this
  exact ⟨_,rfl,cell_add (D.l nl rfl).1 rfl⟩) hn rfl (by simp;omega) fun u' p' c' D' g=> ⟨g,hk u' p' c' D' g⟩
def Dn (u0:World) (k:Int) (hs:List Sl) (a:Addr) (u:World):Prop:= ∃ (n:Nat) (p:Option Addr) (d:Nat),a=⟨n,0,none⟩∧Has u n #[.int .i64 k,.slice p hs.length d]∧Ow Sl.v ty_sl_int u p d hs∧Grow u0 u∧u0.heap.size≤n∧∀j,blk p=some j→u0.heap.size≤j∧j≠n
theorem Dz.S {p0:Option Addr} {d0 n0 nc:Nat} (D:Dz u0 u sl v (some (p0,d0,hs)) ol (some nc)) (hn:n0=hs.length) (k:Int) {K:World→Prop} (hk: ∀u',Dn u0 k hs ⟨nc,0,none⟩ u'→K u'):
 ∃u',StoreAt (Addr.mk nc 0 none) 0 [.int .i64 k,.slice p0 n0 d0] u u'∧K u':=by
 subst hn
 obtain ⟨o,f⟩:=D.r _ _ _ rfl
 obtain ⟨hc,hcz⟩:=D.c _ rfl
 refine store_i hc rfl rfl fun u' b' m'=>hk u' ⟨nc,p0,d0,rfl,b',o.keep m' fun j hj e=> (f j hj).2.2 (by rw [e]),D.g.then m' fun j hj e=>by omega,hcz,fun j hj=> ⟨(f j hj).1,fun e=> (f j hj).2.2 (by rw [e])⟩⟩
end
section
variable {w w' w0 w2 w3 u0 u u':World} {p q:Option Addr} {n m c d:Nat} {k:Int} {hs ks:List Sl} {cs:List (List Int)} {l:List Int}
theorem VR.part {α:Type} {f:α→Value} {rows:List (List α)} (h:VR f w hs rows) (i:Nat) (hi:i<rows.length):VR f w (hs.take i++hs.drop (i+1)) (rows.take i++rows.drop (i+1)):=by
 refine VR.app ⟨by simp [h.n],fun j hj=> ?_⟩ ⟨by simp [h.n],fun j hj=> ?_⟩
 · rw [List.length_take] at hj
   have e: ∀ {β:Type} (l:List β) (d:β),(l.take i).getD j d=l.getD j d:=fun l d=>by
    simp only [List.getD_eq_getElem?_getD,List.getElem?_take];rw [if_pos (by omega)]
   rw [e,e]
   exact h.r j (by omega)
 · rw [List.length_drop] at hj
   have e: ∀ {β:Type} (l:List β) (d:β),(l.drop (i+1)).getD j d=l.getD (i+1+j) d:=fun l d=>by
    simp only [List.getD_eq_getElem?_getD,List.getElem?_drop]
   rw [e,e]
   exact h.r _ (by omega)
theorem Vw.takeS {α:Type} {f:α→Value} {l:List α} (h:Vw f w p l) {k:Nat} (hk:k≤l.length):Vw f w p (l.take k):=by
 have:=h.part (i:=0) (m:=k) (by omega)
 rwa [ep0,List.drop_zero] at this
theorem Vw.dropS {α:Type} {f:α→Value} {l:List α} (h:Vw f w p l) {k c:Nat} (hk:k≤l.length) (hc:l.length≤c):Vw f w (if c=k then p else p.map (·.add (k*1))) (l.drop k):=by
 by_cases e:c=k
 · rw [List.drop_eq_nil_of_le (by omega)];exact Vw.nil
 · rw [if_neg e]
   have:=h.part (i:=k) (m:=l.length - k) (by omega)
   rwa [List.take_of_length_le (by rw [List.length_drop];omega)] at this
theorem refDo7_ok {b:Bool} (hc:V2 (Value.int .i64) w p hs cs) (hn:n=cs.length) (hx:cs.length≤1000) (hd:n≤d) (hcs: ∀c∈cs,c.length≤4096∧∀x∈c,litB x=true) (hl:Vw (Value.int .i64) w q l) (hm:m=l.length) (hcl:clB l=true):
 Calls Tryz.prog fathomref07_Do.id #[.agg #[.int .i64 k,.slice p n d],.agg #[.bool b,.slice q m c]] w fun e w'=> ∃ (p':Option Addr) (d':Nat) (hs':List Sl),e= .returned (.tuple #[.agg #[.int .i64 (stepV k cs (b,l)),.slice p' (stepC cs (b,l)).length d'],.int .i64 (stepE cs (b,l))])∧V2 (Value.int .i64) w' p' hs' (stepC cs (b,l))∧(stepC cs (b,l)).length≤d'∧Grow w w'∧∀j,footN p' hs' j→footN p hs j∨rfoot [⟨q,l.length,c⟩] j∨w.heap.size≤j:=by
 subst hn hm
 have hcl':=clB_all hcl
 refine fathomref07_Do.calls ?_
 intro n1 w2 h2 n3 w4 h4 n5 w6 h6
 have e5:=h6.num
 have z2:=h2.mod.size
 have z4:=h4.mod.size
 have G6:Grow w w6:=(h2.mod.trans h4.mod).trans h6.mod
 have b1:Has w6 n1 #[.int .i64 k,.slice p cs.length d]:=(h2.has.grow h4.mod).grow h6.mod
 have b3:Has w6 n3 #[.bool b,.slice q l.length c]:=h4.has.grow h6.mod
 have b5:Has w6 n5 _:=h6.has
 refine ⟨_,cell_add b3 rfl,?_⟩
 cases b with
 |true=>
  obtain ⟨s1,s2,s3⟩:=step_del (cs:=cs) (s:=((true,l):Stp)) (k:=k) rfl
  rw [s1,s2,s3]
  refine cnd_t rfl ⟨_,_,_,cell_add b3 rfl,(refOrder_ok (hl.grow G6) rfl (by omega) hcl'.1).mono ?_⟩
  rintro e w9 ⟨qw,dw,rfl,ow,g9⟩
  refine ⟨_,_,_,rfl,?_⟩
  refine ⟨fun I u z=> ∃i:Nat,I=i∧i≤cs.length∧z=cs.length - i∧Grow w9 u∧∀j,j<i→norm (cs.getD j [])≠norm l,⟨_,0,rfl,Nat.zero_le _,rfl,Mod.refl _,fun j hj=>by omega⟩,?_⟩
  rintro I u z _ ⟨i,rfl,hi,rfl,gu,hno⟩
  have Gu:=g9.trans gu
  refine ⟨_,_,_,cell_add (b1.grow Gu) rfl,cnd_i (fun r=> ?_) (fun r=> ?_)⟩
  · have r:i<cs.length:=by simpa using r
    have hmem:=getD_mem2 r
    refine ⟨_,_,_,cell_add (b1.grow Gu) rfl,(hc.grow (G6.trans Gu)).ix (by omega) rfl (by omega) fun a sl k1 k0 k2 k3 k4=> ⟨_,_,_,k1,?_⟩⟩
    rw [Int.toNat_natCast] at k2 k4
    have hci:=hcs _ hmem
    refine (refOrder_ok k4 k2 (by omega) hci.2).mono ?_
    rintro e w20 ⟨q2,d2,rfl,o20,g20⟩
    have nl:=norm_len (cs.getD i [])
    have nl2:=norm_len l
    refine ⟨_,_,_,rfl,(refInts_ok o20.vw ((ow.grow gu).grow g20).vw rfl rfl (by unfold maxLen;omega)).mono ?_⟩
    rintro e w22 ⟨rfl,g22⟩
    have G22:Grow w6 w22:=(Gu.trans g20).trans g22
    refine ⟨_,rfl,cnd_i (fun r2=> ?_) (fun r2=> ?_)⟩
    · have r2:norm (cs.getD i [])=norm l:=by simpa using r2
      rw [delP_at r hno r2]
      intro n24 w25 h25
      have e25:=h25.num
      have G25:=G22.trans h25.mod
      have GG:=G6.trans G25
      have vh:Vw Sl.v w p hs:=hc.h
      have hln:=hc.n
      refine ⟨_,_,_,cell_add (b1.grow G25) rfl,?_⟩
      refine slK_i 0 i d rfl rfl rfl (by omega) (by omega) (by omega) ?_
      have ei:(if d=0 then p else p.map (·.add (0*1)))=p:=by split;rfl;exact ep0 p
      rw [ei,Nat.sub_zero,Nat.sub_zero]
      refine Ow.appV (l:=([]:List Sl)) sl_sl_int (New.empty h25) (Vw.takeS (vh.grow GG) (k:=i) (by omega)) rfl (by rw [List.length_take];omega) (fun _=>rfl) (by simp;omega) fun w28 p28 c28 o28 m28 hp28 hz28=> ?_
      have z6:=G6.size
      have z22:=G22.size
      have f28: ∀j,blk p28=some j→w22.heap.size≤j:=fun j hj=>by
       have z25:=h25.mod.size
       rcases hp28 with rfl|rfl
       · have:=blk_some hj;omega
       · have:=blk_some hj;omega
      have G28:Grow w22 w28:=h25.mod.then m28 fun j hj e=>by have:=blk_some e;omega
      refine ⟨Grow w22,G28.drew,_,fun v g=>cell_add (b1.grow (G22.trans g)) rfl,_,_,_,fun v g=>cell_add (b1.grow (G22.trans g)) rfl,?_⟩
      rw [wN (i:=i+1) (by omega) (by omega)]
      refine slK_i (i+1) cs.length d rfl rfl rfl (by omega) (by omega) (by omega) ?_
      rw [List.nil_append] at o28
      refine Ow.appV sl_sl_int o28.drew (Vw.dropS ((vh.grow ((G6.trans G22).trans G28)).drew) (k:=i+1) (by omega) (by omega)) (by simp) (by rw [List.length_drop];omega) (fun _=>rfl) (by simp;omega) fun w34 p34 c34 o34 m34 hp34 hz34=> ?_
      have f34: ∀j,blk p34=some j→w22.heap.size≤j:=fun j hj=>by
       have zz:w28.drew.heap.size=w28.heap.size:=rfl
       have:=G28.size
       rcases hp34 with rfl|rfl
       · exact f28 j hj
       · have:=blk_some hj;omega
      have G34:Grow w22 w34:=G28.drew.then m34 fun j hj e=>by have:=f28 j e;omega
      have el:(hs.take i++hs.drop (i+1)).length=(cs.eraseIdx i).length:=by
       rw [List.length_eraseIdx,if_pos r,List.length_append,List.length_take,List.length_drop];omega
      rw [el]
      refine ⟨G34,store_i (b5.grow (G22.trans G34)) rfl rfl fun w36 b36 m36=> ⟨_,_,_,_,cells2 b36,p34,c34,hs.take i++hs.drop (i+1),rfl,?_,?_,((G6.trans G22).trans G34).then m36 fun j hj e=>by omega,fun j hj=> ?_⟩⟩
      · rw [List.eraseIdx_eq_take_drop_succ]
        have GW:Grow w w36:=((G6.trans G22).trans G34).then m36 fun j hj e=>by omega
        have i5:=b5.lt
        have:=G22.size
        exact ((VR.part hc.vr i r).grow GW).v2 (o34.keep m36 fun j hj e=>by have:=f34 j hj;omega).vw
      · rw [← el]
        rcases o34.un with ⟨_,_,e⟩| ⟨_,_,_,_,h,_⟩
        · rw [e];exact Nat.zero_le _
        · exact h
      · rcases hj with ⟨_,hj⟩| ⟨x,hx,h0,hj⟩
        · have:=f34 j hj
          have:=G22.size
          exact .inr (.inr (by omega))
        · refine .inl (.inr ⟨x,?_,h0,hj⟩)
          rcases List.mem_append.1 hx with hx|hx
          · exact List.mem_of_mem_take hx
          · exact List.mem_of_mem_drop hx
    · have r2:norm (cs.getD i [])≠norm l:=by simpa using r2
      refine ⟨_,by omega,i+1,wN (by omega) (by omega),r,rfl,(gu.trans g20).trans g22,fun j hj=> ?_⟩
      by_cases e:j<i
      · exact hno j e
      · obtain rfl:j=i:=by omega
        exact r2
  · have r:i=cs.length:=by simp at r;omega
    subst r
    rw [delP_no hno]
    refine ⟨_,_,_,_,cells2 (b1.grow Gu),store_i (b5.grow Gu) rfl rfl fun w41 b41 m41=> ⟨_,_,_,_,cells2 b41,p,d,hs,rfl,hc.grow ((G6.trans Gu).then m41 fun j hj e=>by omega),hd,(G6.trans Gu).then m41 fun j hj e=>by omega,fun j hj=> .inl hj⟩⟩
 |false=>
  refine cnd_f rfl ⟨_,_,_,cell_add b1 rfl,cnd_f (by simp;omega) ?_⟩
  refine ⟨fun u=>Grow w6 u∧(uB cs l∨fB cs l),⟨_,_,_,cell_add b1 rfl,_,_,_,cell_add b3 rfl,(refUnit7_ok (hc.grow G6) rfl (by omega) (fun c hc=> (hcs c hc).2) (hl.grow G6) rfl (by omega) hcl'.1).mono ?_⟩,?_⟩
  · rintro e w53 ⟨r,rfl,hr,g53⟩
    refine ⟨_,rfl,cnd_i (fun r1=> ?_) (fun r1=> ⟨g53,.inl (hr.1 (by simpa using r1))⟩)⟩
    have r1: ¬uB cs l:=fun e=>by rw [hr.2 e] at r1;cases r1
    refine ⟨_,_,_,cell_add (b1.grow g53) rfl,_,_,_,cell_add (b3.grow g53) rfl,(refFirst7_ok (hc.grow (G6.trans g53)) rfl (by omega) (fun c hc=> (hcs c hc).2) (fun c hc=> (hcs c hc).1) (hl.grow (G6.trans g53)) rfl (by omega) hcl'.1).mono ?_⟩
    rintro e w57 ⟨r2,rfl,hr2,g57⟩
    have G57:=g53.trans g57
    refine ⟨_,rfl,cnd_i (fun r3=> ?_) (fun r3=> ⟨G57,.inr (hr2.1 (by simpa using r3))⟩)⟩
    have r3: ¬fB cs l:=fun e=>by rw [hr2.2 e] at r3;cases r3
    obtain ⟨s1,s2,s3⟩:=step_bad (cs:=cs) (s:=((false,l):Stp)) (k:=k) rfl (fun e=>e.elim r1 r3)
    rw [s1,s2,s3]
    exact ⟨_,_,_,_,cells2 (b1.grow G57),store_i (b5.grow G57) rfl rfl fun w61 b61 m61=> ⟨_,_,_,_,cells2 b61,p,d,hs,rfl,hc.grow ((G6.trans G57).then m61 fun j hj e=>by omega),hd,(G6.trans G57).then m61 fun j hj e=>by omega,fun j hj=> .inl hj⟩⟩
  · rintro w64 _ ⟨g64,hok⟩
    obtain ⟨s1,s2,s3⟩:=step_add (cs:=cs) (s:=((false,l):Stp)) (k:=k) rfl hok
    rw [s1,s2,s3]
    have vh:Vw Sl.v w64.drew p hs:=(hc.h.grow (G6.trans g64)).drew
    have hln:=hc.n
    have D0:Dz w64.drew w64.drew ⟨q,l.length,c⟩ (.bool true) none none none:=⟨Mod.refl _,fun _ _ _ e=> (by cases e),fun _ e=> (by cases e),fun _ e=> (by cases e)⟩
    refine ⟨Dn w64.drew k (hs++ [⟨q,l.length,c⟩]),⟨Grow w64.drew,Mod.refl _,_,fun v g=>cell_add ((b1.grow g64).drew.grow g) rfl,_,_,_,fun v g=>cell_add ((b1.grow g64).drew.grow g) rfl,_,_,_,fun v g=>cell_add ((b3.grow g64).drew.grow g) rfl,?_⟩,?_⟩
    · repeat' first
       | (with_reducible refine Dz.E (by assumption) fun _ _ _ _=> ?_)
       | (with_reducible refine Dz.L (by assumption) fun _ _ _ _=> ?_)
       | (with_reducible refine Dz.C (by assumption) fun _ _ _ _=> ?_)
       | (with_reducible refine Dz.A (by assumption) vh rfl hln.symm (by omega) fun _ _ _ _ _=> ?_)
       | (with_reducible refine Dz.B (by assumption) rfl (by omega) fun _ _ _ _ _=> ?_)
       | (with_reducible refine Dz.S (by assumption) rfl _ fun _ h=>h)
       |with_reducible refine And.intro ?_ ?_
    · rintro _ w190 _ ⟨nc,p',d',rfl,bc,o,gc,hz,hf⟩
      have zd:w64.drew.heap.size=w64.heap.size:=rfl
      have G190:Grow w6 w190:=g64.drew.trans gc
      refine ⟨fun I u z=> ∃i:Nat,I=i∧i≤l.length∧z=l.length - i∧Mod (·=nc) w190 u∧Has u nc #[.int .i64 (vmx k (l.take i)),.slice p' (hs++ [(⟨q,l.length,c⟩:Sl)]).length d'],⟨_,0,rfl,Nat.zero_le _,rfl,Mod.refl _,bc⟩,?_⟩
      rintro I u z _ ⟨i,rfl,hi,rfl,mu,bu⟩
      have z64:=g64.size
      have GU:Grow w6 u:=G190.then mu fun j hj e=>by omega
      refine ⟨_,_,_,cell_add (b3.grow GU) rfl,cnd_i (fun r=> ?_) (fun r=> ?_)⟩
      · have r:i<l.length:=by simpa using r
        have hb:=litB_b2 (hcl'.1 _ (getD_mem' r))
        refine ⟨_,_,_,cell_add (b3.grow GU) rfl,(hl.grow (G6.trans GU)).ix 0 (by omega) rfl (by omega) fun a e=> ⟨_,e,?_⟩⟩
        rw [Int.toNat_natCast]
        refine (refVar_ok (by omega) u (by omega)).mono ?_
        rintro e w200 ⟨rfl,g200⟩
        have b200:=bu.grow g200
        have step: ∀ (W:World),vmx k (l.take (i+1))=(if amt (l.getD i 0)>vmx k (l.take i) then amt (l.getD i 0) else vmx k (l.take i)):=fun _=>by
         rw [vmx_succ r]
         unfold imax amt
         repeat' split
         all_goals omega
        have step:=step u
        refine ⟨_,rfl,_,cell_add b200 rfl,cnd_i (fun r2=> ?_) (fun r2=> ?_)⟩
        · have r2:amt (l.getD i 0)>vmx k (l.take i):=by simpa using r2
          rw [if_pos r2] at step
          refine store_f b200 rfl rfl fun w203 b203 m203=> ⟨_,by omega,i+1,wN (by omega) (by omega),r,rfl,(mu.grow g200).trans m203,by rw [step];exact b203⟩
        · have r2: ¬amt (l.getD i 0)>vmx k (l.take i):=by simpa using r2
          rw [if_neg r2] at step
          exact ⟨_,by omega,i+1,wN (by omega) (by omega),r,rfl,mu.grow g200,by rw [step];exact b200⟩
      · have r:i=l.length:=by simp at r;omega
        subst r
        rw [List.take_length] at bu
        have i5:=b5.lt
        have GW:Grow w u:=G6.trans GU
        have el:(hs++ [(⟨q,l.length,c⟩:Sl)]).length=(cs++ [l]).length:=by simp [hln]
        have o2:=o.keep mu fun j hj=> (hf j hj).2
        rw [el] at bu
        refine ⟨_,_,_,_,cells2 bu,store_i (b5.grow GU) rfl rfl fun w206 b206 m206=> ⟨_,_,_,_,cells2 b206,p',d',hs++ [⟨q,l.length,c⟩],rfl,?_,?_,GW.then m206 fun j hj e=>by omega,fun j hj=> ?_⟩⟩
        · have GX:Grow w w206:=GW.then m206 fun j hj e=>by omega
          exact ((hc.vr.app (VR.one (s:=⟨q,l.length,c⟩) hl rfl (by show l.length≤maxLen;unfold maxLen;omega))).grow GX).v2 (o2.keep m206 fun j hj e=>by have:=(hf j hj).1;omega).vw
        · rw [← el]
          rcases o2.un with ⟨_,_,e⟩| ⟨_,_,_,_,h,_⟩
          · rw [e];exact Nat.zero_le _
          · exact h
        · rcases hj with ⟨_,hj⟩|hj
          · have:=(hf j hj).1
            have:=G6.size
            exact .inr (.inr (by omega))
          · rcases rfoot_app.1 hj with hj|hj
            · exact .inl (.inr hj)
            · exact .inr (.inl hj)
end
end Go.Proofs.YtbdghpjnifjlmaaGreat.W
namespace Go.Fw
open Go Go.RowKit Go.Maps
variable {P:Program} {t k e:TypeId} {w w':World} {b n:Nat} {s:Bool × Int→Bool}
def gateO (P:Program) (k:TypeId):Bool:=
 P.keyType k && Nat.beq (P.cellsOf k) 2 && !Nat.beq P.types.size 0 && (match P.underlying k with
  |some (.struct fs)=> (fs.all (·.name != "_")) && (match fs.toList with
   | [f0,f1]=>Nat.beq f0.offset 0 && Nat.beq f1.offset 1 && Nat.beq (P.cellsOf f0.type) 1 && Nat.beq (P.cellsOf f1.type) 1 && (match P.underlying f0.type with|some .bool=>true|_=>false) && (match P.underlying f1.type with|some (.int .i64)=>true|_=>false)
   |_=>false)
  |_=>false)
abbrev ov (x:Bool × Int):Value:= .agg #[.bool x.1,.int .i64 x.2]
theorem int_undO {ty:TypeId} (h:(match P.underlying ty with|some (.int .i64)=>true|_=>false)=true):P.underlying ty=some (.int .i64):=by
 split at h
 · assumption
 · simp at h
theorem bool_undO {ty:TypeId} (h:(match P.underlying ty with|some .bool=>true|_=>false)=true):P.underlying ty=some .bool:=by
 split at h
 · assumption
 · simp at h
theorem key_gateO (h:gateO P k=true) {x:Bool × Int} (h2:(Lit.int .i64 x.2).wf=true): ∃l,keyOf P k (ov x)=some l:=by
 simp only [gateO,Bool.and_eq_true] at h
 obtain ⟨⟨⟨hk,hc⟩,hz0⟩,h⟩:=h
 have hc:P.cellsOf k=2:=Nat.eq_of_beq_eq_true hc
 split at h
 · rename_i fs hu
   simp only [Bool.and_eq_true] at h
   obtain ⟨hn,h⟩:=h
   split at h
   · rename_i f0 f1 hl
     simp only [Bool.and_eq_true] at h
     obtain ⟨⟨⟨⟨⟨o0,o1⟩,c0⟩,c1⟩,u0⟩,u1⟩:=h
     have o0:=Nat.eq_of_beq_eq_true o0
     have o1:=Nat.eq_of_beq_eq_true o1
     have c0:=Nat.eq_of_beq_eq_true c0
     have c1:=Nat.eq_of_beq_eq_true c1
     have u0:=bool_undO u0
     have u1:=int_undO u1
     have hf:(ov x).formed P k=true:=by simp [Value.formed,hu,hc]
     have hcl:(ov x).cells.toList= [.bool x.1,.int .i64 x.2]:=by simp [Value.cells]
     have hz:P.types.size≠0:=fun e=>by rw [e] at hz0;simp at hz0
     have k0:P.keyLits P.types.size f0.type [.bool x.1]=some [.bool x.1]:=by
      cases hz':P.types.size with
      |zero=>exact absurd hz' hz
      |succ z=>unfold Program.keyLits;simp [u0]
     have k1:P.keyLits P.types.size f1.type [.int .i64 x.2]=some [.int .i64 x.2]:=by
      cases hz':P.types.size with
      |zero=>exact absurd hz' hz
      |succ z=>unfold Program.keyLits;simp [u1,h2]
     have hkl:P.keyLits (P.types.size+1) k [.bool x.1,.int .i64 x.2]=some [.bool x.1,.int .i64 x.2]:=by
      unfold Program.keyLits
      simp only [hu]
      rw [if_pos ⟨by simp [hc],hn⟩,hl]
      simp only [List.mapM_cons,List.mapM_nil,o0,o1,c0,c1,List.drop_zero,List.take_succ_cons,List.take_zero,List.drop_succ_cons,k0,k1,Option.bind_eq_bind,Option.bind_some,Option.pure_def,Option.map_some]
      rfl
     refine ⟨.string (keyBytes [.bool x.1,.int .i64 x.2]),?_⟩
     unfold keyOf
     simp only [hu]
     rw [hk,hf,hcl,hkl]
     rfl
   · simp at h
 · simp at h
def mapO (P:Program) (t k e:TypeId):Bool:=
 (match P.underlying t with|some (.map k' e')=>Nat.beq k' k && Nat.beq e' e|_=>false) && gateO P k && (match P.underlying e with|some .bool=>true|_=>false) && (match P.info? e with|some i=> (match i.zero with|some (.bool b)=> !b|_=>false)|none=>false)
theorem mapO_spec (h:mapO P t k e=true):P.underlying t=some (.map k e)∧gateO P k=true∧P.underlying e=some .bool∧∀w,(zeroValue e).run P w= .ok (.bool false) w:=by
 simp only [mapO,Bool.and_eq_true] at h
 obtain ⟨⟨⟨h1,h2⟩,h3⟩,h4⟩:=h
 split at h1
 · rename_i k' e' hu
   simp only [Bool.and_eq_true] at h1
   have e1:k'=k:=Nat.eq_of_beq_eq_true h1.1
   have e2:e'=e:=Nat.eq_of_beq_eq_true h1.2
   subst e1 e2
   refine ⟨hu,h2,bool_undO h3,fun w=> ?_⟩
   split at h4
   · rename_i i hi
     split at h4
     · rename_i n hz
       have:n=false:=by simpa using h4
       subst this
       unfold zeroValue
       simp only [Sem.run_bind,run_info_some hi,Result.andThen_ok,hz,Sem.run_pure]
     · simp at h4
   · simp at h4
 · simp at h1
def MO (P:Program) (k e:TypeId) (w:World) (b n:Nat) (s:Bool × Int→Bool):Prop:=
 ∃D:DataW Unit,w.ownsMap P k (plainElem P e) b n D∧∀ (x:Bool × Int) (l:Lit),keyOf P k (ov x)=some l→D.atKey l (.lit (.bool false))= .lit (.bool (s x))
theorem MO.lt (h:MO P k e w b n s):b<w.heap.size:=by obtain ⟨D,h,_⟩:=h;exact h.lt
theorem MO.keep {S:Nat→Prop} (h:MO P k e w b n s) (m:Mod S w w') (hs: ¬S b):MO P k e w' b n s:=by
 have hl:=h.lt
 obtain ⟨D,⟨es,clock,hb,h⟩,hd⟩:=h
 exact ⟨D,⟨es,clock,(m.block b hl hs).trans hb,h⟩,hd⟩
theorem MO.grow (h:MO P k e w b n s) (m:Grow w w'):MO P k e w' b n s:=h.keep m id
theorem MO.new {b:Nat} (h:New (.map #[] 0) w b w'):MO P k e w' b 0 fun _=>false:=by
 obtain ⟨rfl,rfl⟩:=h
 exact ⟨.map [],World.ownsMap_made w P k _,fun x l _=>rfl⟩
theorem MO.look (hm:mapO P t k e=true) (K:Keyed P k) (h:MO P k e w b n s) {x:Bool × Int} (h2:(Lit.int .i64 x.2).wf=true):
 (Instr.lookup t (.map (some b)) (ov x) false).run P w= .ok (.bool (s x)) w:=by
 obtain ⟨ht,hk,he,hz⟩:=mapO_spec hm
 obtain ⟨D,h,hd⟩:=h
 obtain ⟨l,hl⟩:=key_gateO hk h2
 obtain ⟨v,ps,hr,hv⟩:=h.lookup K ht (hz w) (plainElem_bool he false) hl
 rw [hd x l hl] at hv
 have:v= .bool (s x):=by
  unfold plainElem at hv
  rw [he] at hv
  cases v<;>simp_all
 rw [hr,this]
theorem MO.put (hm:mapO P t k e=true) (K:Keyed P k) (h:MO P k e w b n s) (hn:n<maxLen) {x:Bool × Int} (h2:(Lit.int .i64 x.2).wf=true) (v:Bool):
 ∃w',(Instr.mapUpdate t (.map (some b)) (ov x) (.bool v)).run P w= .ok () w'∧MO P k e w' b (n+1) (fun u=>if u=x then v else s u)∧Mod (·=b) w w':=by
 obtain ⟨ht,hk,he,hz⟩:=mapO_spec hm
 obtain ⟨D,h,hd⟩:=h
 have him:=h.isMap
 obtain ⟨l,hl⟩:=key_gateO hk h2
 obtain ⟨w',hr,h',hg⟩:=h.update K ht hn hl (plainElem_bool (H:=Unit) he v)
 refine ⟨w',hr,⟨_,h',fun u l' hl'=> ?_⟩,⟨hg.os,hg.tape,hg.output,hg.size,fun i hi hn=>hg.block i hi fun e=>hn (Option.some.inj e)⟩⟩
 by_cases hu:u=x
 · subst hu
   have:l'=l:=Option.some.inj (hl'.symm.trans hl)
   subst this
   exact (atKey_put_same him (K.key hl) _ _).trans (by simp)
 · have hne:l'≠l:=fun e=>by
    subst e
    have:=K.inj hl' hl
    injection this with this
    apply hu
    have e1:=congrArg (fun (a:Array Value)=>a[0]?) this
    have e2:=congrArg (fun (a:Array Value)=>a[1]?) this
    simp at e1 e2
    exact Prod.ext e1 e2
   exact ((atKey_put_other hne _ _).trans (hd u l' hl')).trans (by simp [hu])
end Go.Fw
namespace Go.Proofs.YtbdghpjnifjlmaaGreat.W
open Go Go.Fw Go.RowKit Go.SoP Go.LiP
open Go.Proofs.Tryz (prog)
section
open Go.Maps
variable {W w w' w0 w2 w3 u:World} {p q:Option Addr} {n m d i c:Nat} {k:Int} {hs tl:List Sl} {cs:List (List Int)} {l:List Int} {ss:List So} {al:List Stp}
theorem org_law:Keyed prog ty_drat_origin:=Keyed.of_law (deep_law_laid (by kernel_rfl) (m:=2) (by omega) (of_decide_eq_true (by kernel_rfl)) (by kernel_rfl) (by kernel_rfl))
theorem org_map:mapO prog ty_map_drat_origin_bool ty_drat_origin ty_bool=true:=by kernel_rfl
theorem sl_sl_src:slOk prog ty_sl_sl_drat_source ty_sl_drat_source 24=true:=by kernel_rfl
def TH (W u:World) (cs:List (List Int)) (al:List Stp) (tp:Option Addr) (tl:List Sl):Prop:= ∀j,j<tl.length→∃ss,Row 3 soE ty_drat_source u (tl.getD j Sl.nil).p (tl.getD j Sl.nil).c ss∧SW W ss (ahd cs al j)∧(tl.getD j Sl.nil).n=(ahd cs al j).length∧∀b,blk (tl.getD j Sl.nil).p=some b→blk tp≠some b
theorem TH.nil:TH W u cs al none []:=fun j hj=>by simp at hj
theorem TH.grow {tp:Option Addr} (h:TH W u cs al tp tl) (g:Grow u w'):TH W w' cs al tp tl:=fun j hj=>by
 obtain ⟨ss,a,b⟩:=h j hj
 exact ⟨ss,a.grow g,b⟩
theorem TH.app {tp tp':Option Addr} {s:Sl} {ss:List So} (h:TH W u cs al tp tl) (m:Mod (fun b=>blk tp=some b) u w') (hp:tp'=tp∨tp'=some ⟨u.heap.size,0,none⟩) (o:Row 3 soE ty_drat_source u s.p s.c ss) (sw:SW W ss (ahd cs al tl.length)) (hn:s.n=(ahd cs al tl.length).length)
 (hd: ∀b,blk s.p=some b→blk tp≠some b):TH W w' cs al tp' (tl++ [s]):=by
 have key: ∀ {q:Option Addr},(∀b,blk q=some b→b<u.heap.size)→(∀b,blk q=some b→blk tp≠some b)→∀b,blk q=some b→blk tp'≠some b:=fun h1 h2 b hb e=>by
  rcases hp with rfl|rfl
  · exact h2 b hb e
  · have:=h1 b hb
    have:=blk_some e
    omega
 intro j hj
 by_cases e:j<tl.length
 · have e1:(tl++ [s]).getD j Sl.nil=tl.getD j Sl.nil:=by simp [List.getD,List.getElem?_append_left e]
   rw [e1]
   obtain ⟨ss,a,b,c,d⟩:=h j e
   exact ⟨ss,a.keep m d,b,c,key (fun b hb=>a.lt b hb) d⟩
 · have:j=tl.length:=by simp at hj;omega
   subst this
   have e1:(tl++ [s]).getD tl.length Sl.nil=s:=by simp [List.getD]
   rw [e1]
   exact ⟨ss,o.keep m hd,sw,hn,key (fun b hb=>o.lt b hb) hd⟩
theorem wfN {x:Int} (h: -9223372036854775808≤x∧x≤9223372036854775807):(Lit.int .i64 x).wf=true:=by
 simp [Lit.wf,IntKind.min,IntKind.max,IntKind.signed,IntKind.bits]
 omega
theorem MO.notOw {α:Type} {f:α→Value} {T kt et:TypeId} {b n c:Nat} {s:Bool × Int→Bool} {l:List α} (h:MO prog kt et w b n s) (o:Ow f T w p c l):blk p≠some b:=fun e=>by
 obtain ⟨D,⟨es,clock,hb,_⟩,_⟩:=h
 rcases o.un with ⟨rfl,_,_⟩| ⟨g,cur,rfl,hg,_⟩
 · simp [blk] at e
 · have:=blk_some e
   subst this
   rw [hg] at hb;simp at hb
theorem ndN_no {s:Bool × Int→Prop} (h: ¬s (true,(i:Int))):ndN cs al i s=s:=by
 funext x
 exact propext ⟨fun e=>e.resolve_right fun e=>h e.1,.inl⟩
theorem nat_map_get {K:List Nat} {v:Nat}:(K.map fun j:Nat=> (j:Int)).getD v 0=((K.getD v 0:Nat):Int):=by
 simp only [List.getD_eq_getElem?_getD,List.getElem?_map]
 cases K[v]? <;>rfl
theorem filt_pos {f:Nat→Bool} {x:Nat} (h:f x=true):(List.range (x+1)).filter f=(List.range x).filter f++ [x]:=by
 rw [List.range_succ,List.filter_append,List.filter_cons_of_pos h,List.filter_nil]
theorem filt_neg {f:Nat→Bool} {x:Nat} (h: ¬f x=true):(List.range (x+1)).filter f=(List.range x).filter f:=by
 rw [List.range_succ,List.filter_append,List.filter_cons_of_neg h,List.filter_nil,List.append_nil]
def natI (K:List Nat):List Int:=K.map fun j:Nat=> (j:Int)
theorem natI_len (K:List Nat):(natI K).length=K.length:=by simp [natI]
def FindR (k:Int) (cs:List (List Int)) (al:List Stp) (E:Int) (A B:List Nat):Prop:=
 (¬(cnfB k cs=true∧mayP al=true)∧E=1∧A= []∧B= [])∨
 ((cnfB k cs=true∧mayP al=true)∧¬plainP cs al∧E=4∧A= []∧B= [])∨
 ((cnfB k cs=true∧mayP al=true)∧∃t,EndAt al t∧(∀i,i≤t→(al.getD i st0).1=true∨uB ((ahd cs al i).map (·.1)) (al.getD i st0).2)∧E=0∧A=corC cs al t∧B=corS cs al t)
def FI (W:World) (cs:List (List Int)) (al:List Stp) (t:Nat) (P1:Option Addr) (N1 C1:Nat) (P:Option Addr) (N C:Nat) (I:Int) (u:World) (z:Nat):Prop:=
 ∃ (i:Nat) (ss:List So) (tl:List Sl),I=i∧i≤t+1∧z=t+1 - i∧tl.length=i∧N1=i∧N=(ahd cs al i).length∧Grow W u∧Row 3 soE ty_drat_source u P C ss∧SW W ss (ahd cs al i)∧
   Ow Sl.v ty_sl_drat_source u P1 C1 tl∧TH W u cs al P1 tl∧(∀j,blk P=some j→W.heap.size≤j∧blk P1≠some j)∧∀j,blk P1=some j→W.heap.size≤j
end
section
open Go.Maps
variable {W w w' w0 w2 w3 u:World} {p q:Option Addr} {n m d i c:Nat} {k:Int} {hs tl:List Sl} {cs:List (List Int)} {l:List Int} {ss:List So} {al:List Stp}
theorem dropG (w:World):Grow w w.drew:=(Mod.refl w).drew
theorem tot_gone (c:List Int): ∀l:List Sr,tot ((goneP c l).map (·.1))≤tot (l.map (·.1))
 | []=>Nat.le_refl _
 |x::l=>by
  have ih:=tot_gone c l
  have e: ∀m:List Sr,tot ((x::m).map (·.1))=x.1.length+tot (m.map (·.1)):=fun m=>by simp [tot]
  unfold goneP
  rw [e]
  split
  · omega
  · rw [e];omega
theorem srcF_map: ∀n,n≤cs.length→(srcF cs n).map (·.1)=cs.take n:=by
 intro n hn
 unfold srcF
 rw [List.map_map]
 refine List.ext_getElem (by simp;omega) fun i h1 h2=> ?_
 have:i<cs.length:=by simp at h1;omega
 simp [List.getD,this]
theorem ahd_tot (h: ∀x∈al,x.2.length≤40): ∀ {i:Nat},i≤al.length→tot ((ahd cs al i).map (·.1))≤tot cs+i*40
 |0,_=>by
  have:(ahd cs al 0).map (·.1)=cs:=by
   show (srcF cs cs.length).map (·.1)=cs
   rw [srcF_map _ (Nat.le_refl _),List.take_length]
  rw [this];omega
 |i+1,hi=>by
  have ih:=ahd_tot h (i:=i) (by omega)
  rw [ahd_succ]
  unfold stepS
  split
  · have:=tot_gone (al.getD i st0).2 (ahd cs al i);omega
  · have:=h _ (mem_st (al:=al) (j:=i) (by omega))
    rw [List.map_append,List.map_singleton,tot_snoc]
    show _+ (al.getD i st0).2.length≤_
    omega
theorem find_ok {e:Nat} (hc:V2 (Value.int .i64) w p hs cs) (hn:n=cs.length) (hx:cs.length≤40) (hl:SV w q al) (hm:m=al.length) (hm2:m≤20000) (h40: ∀x∈al,x.2.length≤40) (hme:m≤e):
 Calls prog drat_Find.id #[.agg #[.int .i64 k,.slice p n d],.slice q m e] w fun e w'=> ∃ (p1 p2:Option Addr) (c1 c2:Nat) (E:Int) (A B:List Nat),e= .returned (.tuple #[.agg #[.slice p1 A.length c1,.slice p2 B.length c2],.int .i64 E])∧FindR k cs al E A B∧OwI ty_int w' p1 c1 (natI A)∧OwI ty_int w' p2 c2 (natI B)∧Grow w w':=by
 subst hn hm
 refine drat_Find.calls ?_
 intro n1 w2 h2 n3 w4 h4
 have e1:=h2.num
 have e3:=h4.num
 have z2:=h2.mod.size
 have G4:=h2.mod.trans h4.mod
 have b4:=h2.has.grow h4.mod
 have none2: ∀ {u v:World} {E:Int},FindR k cs al E [] []→Grow w4 u→Mod (·=n3) u v→∃ (p1 p2:Option Addr) (c1 c2:Nat) (E':Int) (A B:List Nat),Ending.returned (Value.tuple #[.agg #[.slice none 0 0,.slice none 0 0],.int .i64 E])= .returned (.tuple #[.agg #[.slice p1 A.length c1,.slice p2 B.length c2],.int .i64 E'])∧FindR k cs al E' A B∧OwI ty_int v p1 c1 (natI A)∧OwI ty_int v p2 c2 (natI B)∧Grow w v:=
  fun h g m=> ⟨none,none,0,0,_,[],[],rfl,h,Ow.nil _ _ _,Ow.nil _ _ _,(G4.trans g).then m fun j hj e=>by omega⟩
 refine ⟨_,_,_,_,cells2 b4,(checkCnf_ok (hc.grow G4) rfl).mono ?_⟩
 rintro e5 w7 ⟨rfl,g7⟩
 have G7:=G4.trans g7
 refine ⟨_,rfl,?_⟩
 cases hcn:cnfB k cs with
 |false=>exact cnd_t rfl (store_i (h4.has.grow g7) rfl rfl fun w9 b9 m9=> ⟨_,_,_,_,_,_,cells2 b9,none2 (.inl ⟨(fun h=>by rw [hcn] at h;cases h.1),rfl,rfl,rfl⟩) g7 m9⟩)
 |true=>
 refine cnd_f rfl ((traceCheck_ok (hl.grow G7) rfl (by omega)).mono ?_)
 rintro e7 w12 ⟨rfl,g12⟩
 have g12:=g7.trans g12
 have G12:=G4.trans g12
 refine ⟨_,rfl,?_⟩
 cases hmy:mayP al with
 |false=>exact cnd_t rfl (store_i (h4.has.grow g12) rfl rfl fun w9 b9 m9=> ⟨_,_,_,_,_,_,cells2 b9,none2 (.inl ⟨(fun h=>by rw [hmy] at h;cases h.2),rfl,rfl,rfl⟩) g12 m9⟩)
 |true=>
 refine cnd_f rfl ⟨_,_,_,_,cells2 (b4.grow g12),(plainB_ok (hc.grow G12) rfl (by omega) (hl.grow G12) rfl hme).mono ?_⟩
 rintro e19 w19 ⟨rp,rfl,hrp,g19⟩
 have g19:=g12.trans g19
 have G19:=G4.trans g19
 refine ⟨_,rfl,?_⟩
 cases rp with
 |false=>exact cnd_t rfl (store_i (h4.has.grow g19) rfl rfl fun w9 b9 m9=> ⟨_,_,_,_,_,_,cells2 b9,none2 (.inr (.inl ⟨⟨hcn,hmy⟩,(fun h=>by have:=hrp.2 ⟨hcn,hmy,h⟩;cases this),rfl,rfl,rfl⟩)) g19 m9⟩)
 |true=>
 obtain ⟨_,_,t,ht,hpl⟩:=hrp.1 rfl
 refine cnd_f rfl ((end_ok (hl.grow G19) rfl (by omega)).mono ?_)
 rintro e24 w24 ⟨g24,⟨hno,rfl⟩| ⟨t',ht',rfl⟩⟩
 · exact absurd ht.2.1 (hno t ht.1)
 obtain rfl:=ht.uniq ht'
 have g24:=g19.trans g24
 have G24:=G4.trans g24
 have htl:=ht.1
 have b24:=b4.grow g24
 have z24:=G24.size
 refine ⟨_,rfl,_,_,_,_,cells2 b24,(sources_ok (k:=k) (hc.grow G24) rfl (by omega)).mono ?_⟩
 rintro e28 w28 ⟨q0,d0,ss0,rfl,o0,sw0,g28,f0⟩
 refine ⟨_,_,_,rfl,?_⟩
 rw [wN (x:=(t:Int)+1) (i:=t+1) (by omega) (by omega)]
 refine slK_i 0 (t+1) e rfl rfl rfl (by omega) (by omega) (by omega) ?_
 have ei:(if e=0 then q else q.map (·.add (0*2)))=q:=by split;rfl;exact ep2 q
 rw [ei,Nat.sub_zero]
 have hl24:=hl.grow G24
 have hcl:=cnf_cl hcn
 refine ⟨FI w24 cs al t,⟨_,0,ss0,[],rfl,Nat.zero_le _,rfl,rfl,rfl,by show _=(srcF cs cs.length).length;rw [srcF_len],g28,o0,sw0,Ow.nil _ _ _,TH.nil,fun j hj=> ⟨f0 j hj,fun e=>by simp [blk] at e⟩,fun j hj=>by simp [blk] at hj⟩,?_⟩
 rintro P1 N1 C1 P N C I u z _ ⟨i,ss,tl,rfl,hi,rfl,htn,hN1,rfl,gu,o,sw,ot,th,fo,ft⟩
 have hal:=ahd_len (cs:=cs) (al:=al) (i:=i)
 have hssl:=sw.n
 refine cnd_i (fun r=> ?_) (fun r=> ?_)
 · have r:i<t+1:=by rw [decide_eq_true_eq] at r;omega
   have hmem:=mem_st (al:=al) (j:=i) (by omega)
   have hcl2:=mayP_all hmy _ hmem
   have et:(al.take (t+1)).getD i st0=al.getD i st0:=by
    simp only [List.getD_eq_getElem?_getD,List.getElem?_take];rw [if_pos (by omega)]
   refine (hl24.take (t+1)).ix gu (by rw [List.length_take];omega) (by rw [List.length_take];omega) fun a s hcA h1 h2' h3=> ⟨_,_,_,_,hcA u gu,?_⟩
   rw [et] at h1 h3 ⊢
   intro n41 w42 h42
   have e41:=h42.num
   refine store_i h42.has rfl rfl fun w43 b43 m43=> ?_
   have g43:Grow u w43:=h42.mod.then m43 fun j hj e=>by omega
   have zu:=gu.size
   intro n44 w45 h45
   have e44:=h45.num
   have z43:=g43.size
   have g45:=g43.trans h45.mod
   have i43:=b43.lt
   have i45:=h45.size
   refine Ow.app1 sl_sl_src (ot.grow g45) (⟨P,(ahd cs al i).length,C⟩:Sl) h45.has rfl (by omega) (fun _=>rfl) (by omega) fun w46 P1' C1' ot' m46 hp' hz'=> ?_
   have G45:=gu.trans g45
   have G46:Grow w24 w46:=G45.then m46 fun j hj e=>by have:=ft j e;omega
   have b46:Has w46 n41 _:=(b43.grow h45.mod).keep m46 fun e=>by have:=ot.lt _ e;omega
   have o46:Row 3 soE ty_drat_source w46 P C ss:=(o.grow g45).keep m46 fun j hj e=> (fo j hj).2 e
   have th':TH w24 w46 cs al P1' (tl++ [⟨P,(ahd cs al i).length,C⟩]):=(th.grow g45).app (s:=⟨P,(ahd cs al i).length,C⟩) m46 hp' (o.grow g45) (by rw [htn];exact sw) (by rw [htn]) fun b hb=> (fo b hb).2
   have ft': ∀j,blk P1'=some j→w24.heap.size≤j:=fun j hj=>by
    rcases hp' with rfl|rfl
    · exact ft j hj
    · have:=blk_some hj;have:=G45.size;omega
   have fo': ∀j,blk P=some j→w24.heap.size≤j∧blk P1'≠some j:=fun j hj=> ⟨(fo j hj).1,fun e=>by
    rcases hp' with rfl|rfl
    · exact (fo j hj).2 e
    · have:=blk_some e;have:=(o.grow g45).lt j hj;omega⟩
   have fnew: ∀ {q':Option Addr} {v:World},(∀j,blk q'=some j→blk P=some j∨w46.heap.size≤j)→∀j,blk q'=some j→w24.heap.size≤j∧blk P1'≠some j:=fun {q'} {v} h j hj=>by
    rcases h j hj with h|h
    · exact fo' j h
    · have:=G46.size
      exact ⟨by omega,fun e=>by have:=ot'.lt j e;omega⟩
   refine ⟨_,cell_add b46 rfl,cnd_i (fun r2=> ⟨_,_,_,cell_add b46 rfl,?_⟩) (fun r2=> ?_)⟩
   · have hd:(al.getD i st0).1=true:=by simpa using r2
     refine (gone_ok o46 sw G46 rfl (by omega) (ahd_all hcl hmy (by omega)) h3 h1 hcl2 (by have:=o.cap;omega)).mono ?_
     rintro e50 w50 ⟨q',d',tt,rfl,o50,sw50,g50,hc50,f50⟩
     refine ⟨_,_,_,rfl,_,by omega,i+1,tt,_,wN (by omega) (by omega),r,rfl,by simp [htn],by omega,by rw [ahd_del hd],G46.trans g50,o50,by rw [ahd_del hd];exact sw50,ot'.grow g50,th'.grow g50,fnew (v:=w50) f50,ft'⟩
   · have hd:(al.getD i st0).1=false:=by simpa using r2
     have fin: ∀ {v:World} (_:Grow w46 v) {n:Nat} {r:Option Addr} {c:Nat},Has v n #[.slice s.p s.n s.c,.bool true,.int .i64 (i:Int)]→Row 3 soE ty_drat_source v r c ss→(∀j,blk r=some j→w46.heap.size≤j)→
      ∃w58,∃p' n' c',(Builtin.append_ #[121,121] 121 #[.slice r (ahd cs al i).length c,.slice (some (Addr.mk n 0 none)) 1 1]).run prog v= .ok (.slice p' n' c') w58∧∃k33,k33<t+1 - i∧FI w24 cs al t P1' (tl.length+1) C1' p' n' c' (IntKind.i64.wrap ((i:Int)+1)) w58 k33:=by
      intro v gv n r c hb o5 f5
      have zv:=gv.size
      refine Row.app soEnc sl_src o5 (has_vr (s:=(s,true,(i:Int))) hb) hssl.symm rfl (by simp;omega) fun w58 p' c' o58 m58 hp58 hz58=> ?_
      have g58:Grow w46 w58:=gv.then m58 fun j hj e=>by have:=f5 j e;omega
      refine ⟨_,by omega,i+1,_,_,wN (by omega) (by omega),by omega,rfl,by simp [htn],by omega,by rw [ahd_add hd];simp [hssl],G46.trans g58,o58,by rw [ahd_add hd];exact sw.app (SW.one rfl h1 h2' h3),ot'.grow g58,th'.grow g58,fnew (v:=w58) (fun j hj=> .inr ?_),ft'⟩
      rcases hp58 with rfl|rfl
      · exact f5 j hj
      · have:=blk_some hj;omega
     have gd:=dropG w46
     refine ⟨Grow w46,gd,_,_,_,fun v g=>cell_add (b46.grow g) rfl,?_,?_⟩
     · refine (cloneS_ok (o46.grow gd) hssl.symm (by omega)).mono ?_
       rintro e54 w54 ⟨q9,d9,rfl,o9,g9,f9⟩
       refine ⟨_,_,_,rfl,gd.trans g9,?_⟩
       intro n56 w57 h57
       rw [hssl]
       exact fin ((gd.trans g9).trans h57.mod) h57.has (o9.grow h57.mod) fun j hj=>by have:=f9 j hj;have:=gd.size;omega
     · intro n60 w61 h61
       have g61:=gd.trans h61.mod
       refine (cloneS_ok (o46.grow g61) hssl.symm (by omega)).mono ?_
       rintro e54 w62 ⟨q9,d9,rfl,o9,g9,f9⟩
       refine ⟨_,_,_,rfl,g61.trans g9,?_⟩
       rw [hssl]
       exact fin (g61.trans g9) (h61.has.grow g9) o9 fun j hj=>by have:=f9 j hj;have:=g61.size;omega
 · have r:i=t+1:=by rw [decide_eq_false_iff_not] at r;omega
   subst r
   intro n66 w67 h67
   have e66:=h67.num
   obtain ⟨w68,hr68,mo68,m68⟩:=MO.put org_map org_law (MO.new (P:=prog) (k:=ty_drat_origin) (e:=ty_bool) h67) (by unfold maxLen;omega) (x:=(true,(t:Int))) (wfN (by omega)) true
   refine ⟨w68,hr68,?_⟩
   have g68:Grow u w68:=h67.mod.then m68 fun j hj e=>by omega
   refine ⟨fun I v z=> ∃ (j:Nat) (S:Bool × Int→Prop) (s:Bool × Int→Bool) (cnt:Nat),I=(j:Int) - 1∧j≤t+1∧z=j∧Grow u v∧MO prog ty_drat_origin ty_bool v n66 cnt s∧cnt≤1+20050* (t+1 - j)∧(∀x,s x=true↔S x)∧(∀x,S x→orgOk cs al t x)∧ndS cs al j S=ndF cs al t,
    ⟨_,t+1,fun x=>x=(true,(t:Int)),_,1,by omega,Nat.le_refl _,rfl,g68,mo68,by omega,fun x=>by by_cases e:x=(true,(t:Int))<;>simp [e],fun x hx=> .inr ⟨t,Nat.le_refl _,ht.2.1.1,hx⟩,rfl⟩,?_⟩
   rintro I v j _ ⟨_,S,s,cnt,rfl,hj,rfl,gv,mo,hcnt,hs,hok,hnd⟩
   refine cnd_i (fun r=> ?_) (fun r=> ?_)
   · obtain ⟨j',rfl⟩: ∃j',j=j'+1:=⟨j - 1,by rw [decide_eq_true_eq] at r;omega⟩
     have ej:((j'+1:Nat):Int) - 1=(j':Int):=by omega
     rw [ej]
     have next: ∀ {v':World} {S':Bool × Int→Prop} {s':Bool × Int→Bool} {cnt':Nat},Grow u v'→MO prog ty_drat_origin ty_bool v' n66 cnt' s'→cnt'≤20050+cnt→(∀x,s' x=true↔S' x)→S'=ndN cs al j' S→∃k71,k71<j'+1∧
      ∃ (j:Nat) (S:Bool × Int→Prop) (s:Bool × Int→Bool) (cnt:Nat),IntKind.i64.wrap ((j':Int) - 1)=(j:Int) - 1∧j≤t+1∧k71=j∧Grow u v'∧MO prog ty_drat_origin ty_bool v' n66 cnt s∧cnt≤1+20050* (t+1 - j)∧(∀x,s x=true↔S x)∧(∀x,S x→orgOk cs al t x)∧ndS cs al j S=ndF cs al t:=
      fun {v' S' s' cnt'} a b c d e=> ⟨j',by omega,j',S',s',cnt',wrap64_of (by omega) (by omega),by omega,rfl,a,b,by omega,d,by rw [e];exact ndN_ok (by omega) hok,by rw [e];exact hnd⟩
     refine ⟨v,_,MO.look org_map org_law mo (x:=(true,(j':Int))) (wfN (by omega)),?_⟩
     refine cnd_i (fun r2=> ?_) (fun r2=> ?_)
     · have r2: ¬S (true,(j':Int)):=fun e=>by rw [(hs _).2 e] at r2;cases r2
       exact next gv mo (by omega) hs (ndN_no r2).symm
     · have hS:S (true,(j':Int)):=(hs _).1 (by simpa using r2)
       have hd:(al.getD j' st0).1=false:=by
        rcases hok _ hS with ⟨a,_,e⟩| ⟨a,_,hd,e⟩
        · cases e
        · have e:=(Prod.mk.inj e).2
          have:j'=a:=by omega
          rw [this];exact hd
       have hu:=(hpl j' (by omega)).resolve_left (by rw [hd];decide)
       have hmem:=mem_st (al:=al) (j:=j') (by omega)
       have hcl2:=mayP_all hmy _ hmem
       have hcl4:=clB_all hcl2
       obtain ⟨ssj,oj,swj,hnj,_⟩:=th j' (by omega)
       have halj:=ahd_len (cs:=cs) (al:=al) (i:=j')
       have gd:=dropG v
       refine ⟨Grow v,gd,ot.vw.ix Sl.nil (by omega) (by omega) (by omega) fun a ha=> ⟨_,_,_,fun v' g=>cell_keep (gv.trans g) ha id,?_⟩⟩
       rw [Int.toNat_natCast]
       refine (clauses8_ok (oj.grow (gv.trans gd)) swj (gu.trans (gv.trans gd)) hnj (by omega)).mono ?_
       rintro e79 w79 ⟨q79,d79,ks,rfl,v79,g79⟩
       have g79:=gd.trans g79
       refine ⟨_,_,_,rfl,g79,hl24.ix (gu.trans gv) rfl (by omega) fun a sL hcA h1 h2 h3=> ⟨_,_,_,fun v' g=>CellsAt.get (hcA v' ((gu.trans gv).trans g)) 1 _ rfl,?_⟩⟩
       have hL: ∀c∈(ahd cs al j').map (·.1),c.length≤4096∧∀x∈c,litB x=true:=fun c hc'=>by
        obtain ⟨y,hy,rfl⟩:=List.mem_map.1 hc'
        have:=clB_all (ahd_all hcl hmy (by omega) y hy)
        exact ⟨this.2,this.1⟩
       have hlm:((ahd cs al j').map (·.1)).length=(ahd cs al j').length:=List.length_map _
       have htot:=ahd_tot (cs:=cs) h40 (i:=j') (by omega)
       have htcs:=tot_le (cs:=cs) (B:=4096) fun c hc=> (clB_all (hcl c hc)).2
       have hcs4:cs.length*4096≤40*4096:=Nat.mul_le_mul_right _ hx
       have hj40:=h40 _ hmem
       refine (needs_ok v79 hlm.symm hL (h3.grow ((gu.trans gv).trans g79)) h1 hcl2 (by omega) (by omega)).mono ?_
       rw [hlm]
       rintro e83 w83 (⟨hnu,_⟩| ⟨_,q',d',rfl,o83,g83⟩)
       · exact absurd hu hnu
       have eK:ndK ((ahd cs al j').map (·.1)) (al.getD j' st0).2 (ahd cs al j').length []=ndA cs al j':=rfl
       rw [eK] at o83
       have g83:=g79.trans g83
       have mo83:=mo.grow g83
       have hq': ∀b,blk q'=some b→¬b=n66:=fun b hb e=>by subst e;exact MO.notOw mo83 o83 hb
       refine ⟨_,_,_,_,rfl,?_⟩
       rw [eK]
       have hK:(ndA cs al j').length≤20050:=by
        have:=ris_len (ndK_ris (cs:=(ahd cs al j').map (·.1)) (c:=(al.getD j' st0).2) (n:=(ahd cs al j').length) (by simp) (i:=(ahd cs al j').length) (K:= []) (Nat.le_refl _) ⟨fun j hj=>by simp at hj,.nil⟩).1 (Nat.zero_le _)
        rw [eK] at this;omega
       refine ⟨fun V v' z=> ∃ (x:Nat) (s':Bool × Int→Bool) (cnt':Nat),V=x∧x≤(ndA cs al j').length∧z=(ndA cs al j').length - x∧Mod (·=n66) w83 v'∧MO prog ty_drat_origin ty_bool v' n66 cnt' s'∧cnt'≤cnt+x∧∀y,s' y=true↔S y∨∃jj∈(ndA cs al j').take x,((ahd cs al j').getD jj sr0).2=y,
        ⟨_,0,s,cnt,rfl,Nat.zero_le _,rfl,Mod.refl _,mo83,by omega,fun y=>by rw [hs];simp⟩,?_⟩
       rintro V v' z _ ⟨x,s',cnt',rfl,hx',rfl,m',mo',hcnt',hs'⟩
       have gg:Grow u v':=(gv.trans g83).then m' fun j hj e=>by omega
       refine cnd_i (fun r3=> ?_) (fun r3=> ?_)
       · have r3:x< (ndA cs al j').length:=by simpa using r3
         refine (o83.keep m' hq').vw.ix 0 (by omega) (by rw [List.length_map]) (by omega) fun a ha=> ⟨_,ha,?_⟩
         rw [Int.toNat_natCast,nat_map_get]
         have hin:(ndA cs al j').getD x 0∈ndA cs al j':=by simp [List.getD,r3]
         have hlt:=ndA_lt hin
         have hwf:(Lit.int .i64 ((ahd cs al j').getD ((ndA cs al j').getD x 0) sr0).2.2).wf=true:=by
          rcases ndA_org hin with ⟨a,ha,e⟩| ⟨a,ha,_,e⟩<;> (rw [e];exact wfN (x:=(a:Int)) (by omega))
         refine ot.vw.ix Sl.nil (by omega) (by omega) (by omega) fun a1 ha1=> ⟨_,_,_,cell_keep (S:=fun _=>False) (gg.trans (dropG v')) ha1 id,?_⟩
         rw [Int.toNat_natCast]
         refine swj.ix (oj.grow (gg.trans (dropG v'))) hnj hlt fun a2 s2 hcA2 _ _ _=> ⟨_,CellsAt.get hcA2 1 _ rfl,?_⟩
         refine ot.vw.ix Sl.nil (by omega) (by omega) (by omega) fun a3 ha3=> ⟨_,_,_,cell_keep (S:=fun _=>False) (gg.trans (dropG v')) ha3 id,?_⟩
         rw [Int.toNat_natCast]
         refine swj.ix (oj.grow (gg.trans (dropG v'))) hnj hlt fun a4 s4 hcA4 _ _ _=> ⟨_,CellsAt.get hcA4 2 _ rfl,?_⟩
         obtain ⟨w101,hr,mo101,m101⟩:=MO.put org_map org_law (mo'.grow (dropG v')) (by unfold maxLen;omega) (x:=((ahd cs al j').getD ((ndA cs al j').getD x 0) sr0).2) hwf true
         refine ⟨w101,hr,_,by omega,x+1,_,_,wN (by omega) (by omega),r3,rfl,m'.trans ((Mod.mono (dropG v') fun _ _ e=>e.elim).trans m101),mo101,by omega,fun y=> ?_⟩
         rw [take_snoc r3 0]
         by_cases e:y=((ahd cs al j').getD ((ndA cs al j').getD x 0) sr0).2
         · rw [if_pos e]
           exact ⟨fun _=> .inr ⟨_,List.mem_append_right _ (List.mem_singleton.2 rfl),e.symm⟩,fun _=>rfl⟩
         · rw [if_neg e,hs']
           refine or_congr Iff.rfl ⟨fun ⟨jj,h1,h2⟩=> ⟨jj,List.mem_append_left _ h1,h2⟩,fun ⟨jj,h1,h2⟩=> ?_⟩
           rcases List.mem_append.1 h1 with h1|h1
           · exact ⟨jj,h1,h2⟩
           · rw [List.mem_singleton] at h1
             rw [h1] at h2
             exact absurd h2.symm e
       · have r3:x=(ndA cs al j').length:=by simp at r3;omega
         subst r3
         rw [List.take_length] at hs'
         exact next gg mo' (by omega) hs' (by
          funext y
          exact propext ⟨fun h=>h.imp id fun h=> ⟨hS,h⟩,fun h=>h.imp id fun h=>h.2⟩)
   · have hj0:j=0:=by rw [decide_eq_false_iff_not] at r;omega
     subst hj0
     have hF: ∀x,s x=true↔ndF cs al t x:=fun x=>by rw [hs,← hnd];rfl
     intro n102 w103 h103
     have e102:=h103.num
     have gv103:Grow u w103:=gv.trans h103.mod
     have b103:Has w103 n1 _:=b24.grow ((gu.trans gv103))
     have z103:=h103.size
     have zv:=gv.size
     have zu:=gu.size
     have mo103:=mo.grow h103.mod
     have i66:=mo.lt
     refine ⟨_,_,_,cell_add b103 rfl,?_⟩
     refine ⟨fun V y z=> ∃ (x:Nat) (P:Option Addr) (C:Nat),V=x∧x≤cs.length∧z=cs.length - x∧Mod (·=n102) w103 y∧Has y n102 #[.slice P ((List.range x).filter fun i:Nat=>s (false,(i:Int))).length C,.slice none 0 0]∧OwI ty_int y P C (natI ((List.range x).filter fun i:Nat=>s (false,(i:Int))))∧∀j,blk P=some j→w103.heap.size≤j,
      ⟨_,0,none,0,rfl,Nat.zero_le _,rfl,Mod.refl _,h103.has,Ow.nil _ _ _,fun j hj=>by simp [blk] at hj⟩,?_⟩
     rintro V y z _ ⟨x,P,C,rfl,hxl,rfl,my,by',oy,fy⟩
     have moy:MO prog ty_drat_origin ty_bool y n66 cnt s:=mo103.keep my (by omega)
     have zy:=my.size
     refine cnd_i (fun r3=> ?_) (fun r3=> ?_)
     · have r3:x<cs.length:=by simpa using r3
       refine ⟨y,_,MO.look org_map org_law moy (x:=(false,(x:Int))) (wfN (by omega)),cnd_i (fun r4=> ?_) (fun r4=> ?_)⟩
       · have eF:(List.range (x+1)).filter (fun i:Nat=>s (false,(i:Int)))=(List.range x).filter (fun i:Nat=>s (false,(i:Int)))++ [x]:=filt_pos r4
         refine ⟨_,_,_,cell_add by' rfl,?_⟩
         intro n113 w114 h114
         have e113:=h114.num
         have hll:=List.length_filter_le (fun i:Nat=>s (false,(i:Int))) (List.range x)
         rw [List.length_range] at hll
         refine Ow.app1 sl_int (oy.grow h114.mod) (x:Int) h114.has rfl (natI_len _).symm (fun _=>rfl) (by rw [natI_len];omega) fun w115 p' c' o115 m115 hp' hz'=> ?_
         have b115:Has w115 n102 _:=(by'.grow h114.mod).keep m115 fun e=>by have:=fy _ e;omega
         refine store_f b115 rfl rfl fun w117 b117 m117=> ?_
         have fp': ∀j,blk p'=some j→w103.heap.size≤j:=fun j hj=>by
          have:=h114.mod.size
          rcases hp' with rfl|rfl
          · exact fy j hj
          · have:=blk_some hj;omega
         refine ⟨_,by omega,x+1,p',c',wN (by omega) (by omega),r3,rfl,?_,?_,?_,fp'⟩
         · exact ((my.then h114.mod fun _ _ h=>h.elim).then m115 fun j hj e=>by have:=fy j e;omega).trans m117
         · rw [eF,List.length_append,List.length_singleton,← natI_len];exact b117
         · rw [eF]
           have:=o115.keep m117 fun j hj e=>by have:=fp' j hj;omega
           unfold natI at this ⊢
           rw [List.map_append];exact this
       · have eF:(List.range (x+1)).filter (fun i:Nat=>s (false,(i:Int)))=(List.range x).filter (fun i:Nat=>s (false,(i:Int))):=filt_neg (by rw [r4];decide)
         exact ⟨_,by omega,x+1,P,C,wN (by omega) (by omega),r3,rfl,my,by rw [eF];exact by',by rw [eF];exact oy,fy⟩
     · have r3:x=cs.length:=by simp at r3;omega
       subst r3
       refine ⟨fun V v2 z=> ∃ (x:Nat) (P2:Option Addr) (C2:Nat),V=x∧x≤t+1∧z=t+1 - x∧Mod (·=n102) w103 v2∧Has v2 n102 #[.slice P ((List.range cs.length).filter fun i:Nat=>s (false,(i:Int))).length C,.slice P2 ((List.range x).filter fun i:Nat=>s (true,(i:Int))).length C2]∧
        OwI ty_int v2 P C (natI ((List.range cs.length).filter fun i:Nat=>s (false,(i:Int))))∧OwI ty_int v2 P2 C2 (natI ((List.range x).filter fun i:Nat=>s (true,(i:Int))))∧∀j,blk P2=some j→w103.heap.size≤j∧blk P≠some j,
        ⟨_,0,none,0,rfl,Nat.zero_le _,rfl,my,by',oy,Ow.nil _ _ _,fun j hj=>by simp [blk] at hj⟩,?_⟩
       clear moy
       rintro V v2 z _ ⟨x,P2,C2,rfl,hx2,rfl,mv,bv,ov1,ov2,fv⟩
       have mo2:MO prog ty_drat_origin ty_bool v2 n66 cnt s:=mo103.keep mv (by omega)
       have zv2:=mv.size
       refine cnd_i (fun r3=> ?_) (fun r3=> ?_)
       · have r3:x<t+1:=by rw [decide_eq_true_eq] at r3;omega
         refine ⟨v2,_,MO.look org_map org_law mo2 (x:=(true,(x:Int))) (wfN (by omega)),cnd_i (fun r4=> ?_) (fun r4=> ?_)⟩
         · have eF:(List.range (x+1)).filter (fun i:Nat=>s (true,(i:Int)))=(List.range x).filter (fun i:Nat=>s (true,(i:Int)))++ [x]:=filt_pos r4
           refine ⟨_,_,_,cell_add bv rfl,?_⟩
           intro n126 w127 h127
           have e126:=h127.num
           have hll:=List.length_filter_le (fun i:Nat=>s (true,(i:Int))) (List.range x)
           rw [List.length_range] at hll
           refine Ow.app1 sl_int (ov2.grow h127.mod) (x:Int) h127.has rfl (natI_len _).symm (fun _=>rfl) (by rw [natI_len];omega) fun w128 p' c' o128 m128 hp' hz'=> ?_
           have b128:Has w128 n102 _:=(bv.grow h127.mod).keep m128 fun e=>by have:=(fv _ e).1;omega
           have z127:=h127.mod.size
           have hPlt:=ov1.lt
           refine store_f b128 rfl rfl fun w130 b130 m130=> ?_
           have fp': ∀j,blk p'=some j→w103.heap.size≤j∧blk P≠some j:=fun j hj=>by
            rcases hp' with rfl|rfl
            · exact fv j hj
            · have:=blk_some hj;exact ⟨by omega,fun e=>by have:=hPlt j e;omega⟩
           refine ⟨_,by omega,x+1,p',c',wN (by omega) (by omega),r3,rfl,?_,?_,?_,?_,fp'⟩
           · exact ((mv.then h127.mod fun _ _ h=>h.elim).then m128 fun j hj e=>by have:=(fv j e).1;omega).trans m130
           · rw [eF,List.length_append,List.length_singleton,← natI_len ((List.range x).filter fun i:Nat=>s (true,(i:Int)))];exact b130
           · exact ((ov1.grow h127.mod).keep m128 fun j hj e=> (fv j e).2 hj).keep m130 fun j hj e=>by have:=fy j hj;omega
           · rw [eF]
             have:=o128.keep m130 fun j hj e=>by have:=(fp' j hj).1;omega
             unfold natI at this ⊢
             rw [List.map_append];exact this
         · have eF:(List.range (x+1)).filter (fun i:Nat=>s (true,(i:Int)))=(List.range x).filter (fun i:Nat=>s (true,(i:Int))):=filt_neg (by rw [r4];decide)
           exact ⟨_,by omega,x+1,P2,C2,wN (by omega) (by omega),r3,rfl,mv,by rw [eF];exact bv,ov1,by rw [eF];exact ov2,fv⟩
       · have r3:x=t+1:=by rw [decide_eq_false_iff_not] at r3;omega
         subst r3
         refine ⟨_,_,_,_,_,_,cells2 bv,?_⟩
         have gv2:Grow w24 v2:=(gu.trans gv103).then mv fun j hj e=>by omega
         have i3:=h4.has.lt
         have z24':=g24.size
         have b3:Has v2 n3 _:=(h4.has.grow (g24.trans (gu.trans gv103))).keep mv (by omega)
         refine store_i b3 rfl rfl fun w133 b133 m133=> ⟨_,_,_,_,_,_,cells2 b133,P,P2,C,C2,0,_,_,rfl,.inr (.inr ⟨⟨hcn,hmy⟩,t,ht,hpl,rfl,?_,?_⟩),ov1.keep m133 fun j hj e=>by have:=fy j hj;omega,ov2.keep m133 fun j hj e=>by have:=(fv j hj).1;omega,(G24.trans gv2).then m133 fun j hj e=>by omega⟩
         · unfold corC
           refine List.filter_congr fun i _=> ?_
           rw [Bool.eq_iff_iff,@decide_eq_true_eq _ (Classical.propDecidable _)];exact hF _
         · unfold corS
           refine List.filter_congr fun i _=> ?_
           rw [Bool.eq_iff_iff,@decide_eq_true_eq _ (Classical.propDecidable _)];exact hF _
end
section
variable {W w w' w0 w2 w3 u:World} {p q p1 p2:Option Addr} {n m d i c t n1 n2 d1 d2:Nat} {k:Int} {hs tl:List Sl} {cs:List (List Int)} {l c1 c2:List Int} {ss:List So} {al:List Stp}
def rsP (n:Nat) (l:List Int):Prop:= ∀i,i<l.length→0≤l.getD i 0∧l.getD i 0<n∧(0<i→l.getD (i - 1) 0<l.getD i 0)
theorem rising_ok {e:Nat} (hl:Vw (Value.int .i64) w q l) (hm:m=l.length) (hx:l.length≤100000) (hn:n≤1000000):Calls prog drat_rising.id #[.slice q m e,.int .i64 (n:Int)] w fun e w'=> ∃r:Bool,e= .returned (.bool r)∧(r=true↔rsP n l)∧Grow w w':=by
 subst hm
 refine drat_rising.calls ?_
 refine ⟨fun I u z=> ∃i:Nat,I=i∧i≤l.length∧z=l.length - i∧Grow w u∧∀j,j<i→0≤l.getD j 0∧l.getD j 0<n∧(0<j→l.getD (j - 1) 0<l.getD j 0),⟨_,0,rfl,Nat.zero_le _,rfl,Mod.refl _,fun j hj=>by omega⟩,?_⟩
 rintro I u z _ ⟨i,rfl,hi,rfl,gu,hall⟩
 refine cnd_i (fun r=> ?_) (fun r=> ?_)
 · have r:i<l.length:=by simpa using r
   refine (hl.grow gu).ix 0 (by omega) rfl (by omega) fun a ha=> ⟨_,ha,?_⟩
   rw [Int.toNat_natCast]
   have no: ¬(0≤l.getD i 0∧l.getD i 0<n∧(0<i→l.getD (i - 1) 0<l.getD i 0))→∃r:Bool,Ending.returned (Value.bool false)= .returned (.bool r)∧(r=true↔rsP n l)∧Grow w u:=fun h=> ⟨false,rfl,⟨fun e=> (by cases e),fun e=>absurd (e i r) h⟩,gu⟩
   have next:(0≤l.getD i 0∧l.getD i 0<n∧(0<i→l.getD (i - 1) 0<l.getD i 0))→∃k3,k3<l.length - i∧∃i':Nat,IntKind.i64.wrap ((i:Int)+1)=i'∧i'≤l.length∧k3=l.length - i'∧Grow w u∧∀j,j<i'→0≤l.getD j 0∧l.getD j 0<n∧(0<j→l.getD (j - 1) 0<l.getD j 0):=fun h=>
    ⟨_,by omega,i+1,wN (by omega) (by omega),r,rfl,gu,fun j hj=>by
      by_cases e:j<i
      · exact hall j e
      · obtain rfl:j=i:=by omega
        exact h⟩
   refine cnd_i (fun r1=>no fun h=>by rw [decide_eq_true_eq] at r1;omega) (fun r1=>cnd_i (fun r2=>no fun h=>by rw [decide_eq_true_eq] at r2;omega) (fun r2=>cnd_i (fun r3=> ?_) (fun r3=> ?_)))
   · rw [decide_eq_true_eq] at r3
     rw [wrap64_of (x:=(i:Int) - 1) (by omega) (by omega)]
     refine (hl.grow gu).ix 0 (by omega) rfl (by omega) fun a2 ha2=> ⟨_,ha2,?_⟩
     rw [show ((i:Int) - 1).toNat=i - 1 by omega]
     refine cnd_i (fun r4=>no fun h=> ?_) (fun r4=>next ?_)
     · rw [decide_eq_true_eq] at r4;have:=h.2.2 (by omega);omega
     · rw [decide_eq_false_iff_not] at r1 r2 r4
       exact ⟨by omega,by omega,fun _=>by omega⟩
   · rw [decide_eq_false_iff_not] at r1 r2 r3
     exact next ⟨by omega,by omega,fun _=>by omega⟩
 · have r:i=l.length:=by simp at r;omega
   subst r
   exact ⟨true,rfl,⟨fun _=>hall,fun _=>rfl⟩,gu⟩
abbrev clA (cs:List (List Int)) (v:Int):List Int:=cs.getD v.toNat []
abbrev stA (al:List Stp) (v:Int):Stp:=al.getD v.toNat st0
def corHI (cs:List (List Int)) (al:List Stp) (c1 c2:List Int) (j:Nat):List (List Int):=c1.map (clA cs)++ (c2.take j).map fun v=> (stA al v).2
def CorOk (cs:List (List Int)) (al:List Stp) (c1 c2:List Int):Prop:=(∀j,j<c2.length→uB (corHI cs al c1 c2 j) (stA al (c2.getD j 0)).2)∧∃j,j<c2.length∧(stA al (c2.getD j 0)).2= []
def NoDel (al:List Stp) (c2:List Int):Prop:= ∀j,j<c2.length→(stA al (c2.getD j 0)).1=false
def MayC (k:Int) (cs:List (List Int)) (al:List Stp) (c1 c2:List Int):Prop:=(cnfB k cs=true∧mayP al=true)∧rsP cs.length c1∧rsP al.length c2∧NoDel al c2
def ChkR (k:Int) (cs:List (List Int)) (al:List Stp) (c1 c2:List Int) (E:Int):Prop:=(¬MayC k cs al c1 c2∧E=1)∨(MayC k cs al c1 c2∧¬CorOk cs al c1 c2∧E=7)∨(MayC k cs al c1 c2∧CorOk cs al c1 c2∧E=0)
theorem ChkR.uniq {E E':Int} (h:ChkR k cs al c1 c2 E) (h':ChkR k cs al c1 c2 E'):E=E':=by
 rcases h with ⟨a,rfl⟩| ⟨a,b,rfl⟩| ⟨a,b,rfl⟩<;>rcases h' with ⟨a',rfl⟩| ⟨a',b',rfl⟩| ⟨a',b',rfl⟩<;>first|rfl|exact absurd ‹_› ‹_›|exact absurd a' a|exact absurd a a'|exact absurd b' b|exact absurd b b'
theorem rs_lt (h:rsP n l) (hi:i<l.length):(l.getD i 0).toNat<n∧((l.getD i 0).toNat:Int)=l.getD i 0:=by
 have:=h i hi
 omega
theorem dcheck1_ent:entB prog drat_Check_1.id=true:=by kernel_rfl
theorem nodel_ok {b e:Nat} {q2:Option Addr} {m2 e2:Nat} (hb:Has w b #[.slice q2 m2 e2]) (ha:SV w q2 al) (hm2:m2=al.length) (hl:Vw (Value.int .i64) w q l) (hm:m=l.length) (hx:l.length≤100000) (hr:rsP al.length l):
 Calls prog slices_ContainsFunc_int_int.id #[.slice q m e,.func (.func drat_Check_1.id) #[] #[.pointer (some ⟨b,0,none⟩)]] w fun e w'=> ∃r:Bool,e= .returned (.bool r)∧(r=false↔NoDel al l)∧Grow w w':=by
 subst hm hm2
 refine slices_ContainsFunc_int_int.calls ((slices_IndexFunc_int_int.calls (R:=fun e w'=> ∃r:Int,e= .returned (.int .i64 r)∧(r<0↔NoDel al l)∧Grow w w') ?_).mono ?_)
 · refine ⟨fun I u z=> ∃i:Nat,I=i∧z=l.length - i∧i≤l.length∧Grow w u∧∀j,j<i→(stA al (l.getD j 0)).1=false,⟨_,0,rfl,rfl,by omega,Mod.refl w,fun j hj=>by omega⟩,?_⟩
   rintro I u z _ ⟨i,rfl,rfl,hi,g,hall⟩
   refine cnd_i (fun r=> ?_) (fun r=> ?_)
   · have r:i<l.length:=by simpa using r
     refine (hl.grow g).ix 0 (by omega) rfl (by omega) fun a ha'=> ⟨_,ha',?_⟩
     rw [Int.toNat_natCast,dcheck1_ent]
     show Calls _ _ _ _ _
     rw [args2w]
     obtain ⟨h1,h2⟩:=rs_lt hr r
     refine (drat_Check_1.calls (R:=fun e w'=>e= .returned (.bool (stA al (l.getD i 0)).1)∧w'=u) ?_).mono ?_
     · refine ⟨_,_,_,cell_of (hb.grow g) rfl,?_⟩
       rw [← h2]
       refine ha.ix g rfl h1 fun a s hc h1 h2' h3=> ⟨_,CellsAt.get (hc u g) 0 _ rfl,rfl,rfl⟩
     · rintro e9 _ ⟨rfl,rfl⟩
       refine ⟨_,rfl,cnd_i (fun r2=> ⟨_,rfl,⟨fun h=>by omega,fun h=>by rw [h i r] at r2;cases r2⟩,g⟩) (fun r2=> ⟨_,by omega,i+1,wN (by omega) (by omega),rfl,r,g,fun j hj=> ?_⟩)⟩
       by_cases e:j<i
       · exact hall j e
       · obtain rfl:j=i:=by omega
         exact r2
   · have r:i=l.length:=by simp at r;omega
     subst r
     exact ⟨_,rfl,⟨fun _=>hall,fun _=>by decide⟩,g⟩
 · rintro e1 w1 ⟨r,rfl,hr',g⟩
   refine ⟨_,rfl,_,rfl,?_,g⟩
   rw [decide_eq_false_iff_not,← hr']
   omega
theorem cells1 {b:Nat} {x:Value} (h:Has w b #[x]):w.cell? ⟨b,0,none⟩=some x:=cell_of h rfl
theorem check_ok {e:Nat} (hc:V2 (Value.int .i64) w p hs cs) (hn:n=cs.length) (hx:cs.length≤40) (hl:SV w q al) (hm:m=al.length) (hm2:m≤20000) (v1:Vw (Value.int .i64) w p1 c1) (hn1:n1=c1.length) (hx1:n1≤60) (v2:Vw (Value.int .i64) w p2 c2) (hn2:n2=c2.length) (hx2:n2≤20000):
 Calls prog drat_Check.id #[.agg #[.int .i64 k,.slice p n d],.slice q m e,.agg #[.slice p1 n1 d1,.slice p2 n2 d2]] w fun e w'=> ∃E:Int,e= .returned (.int .i64 E)∧ChkR k cs al c1 c2 E∧Grow w w':=by
 subst hn hm hn1 hn2
 have no: ∀ {u:World},¬MayC k cs al c1 c2→Grow w u→∃E:Int,Ending.returned (Value.int .i64 1)= .returned (.int .i64 E)∧ChkR k cs al c1 c2 E∧Grow w u:=fun h g=> ⟨1,rfl,.inl ⟨h,rfl⟩,g⟩
 refine drat_Check.calls ?_
 intro nf w2 h2 nl w4 h4 nc w6 h6
 have ef:=h2.num
 have G6:=(h2.mod.trans h4.mod).trans h6.mod
 have bf:=(h2.has.grow h4.mod).grow h6.mod
 have bl:=h4.has.grow h6.mod
 have bc:=h6.has
 refine ⟨_,_,_,_,cells2 bf,(checkCnf_ok (hc.grow G6) rfl).mono ?_⟩
 rintro e9 w9 ⟨rfl,g9⟩
 have G9:=G6.trans g9
 refine ⟨_,rfl,?_⟩
 cases hcn:cnfB k cs with
 |false=>exact cnd_t rfl (no (fun h=>by have:=h.1.1;rw [hcn] at this;cases this) G9)
 |true=>
 refine cnd_f rfl ⟨_,_,_,cells1 (bl.grow g9),(traceCheck_ok (hl.grow G9) rfl (by omega)).mono ?_⟩
 rintro e12 w12 ⟨rfl,g12⟩
 have g12:=g9.trans g12
 have G12:=G6.trans g12
 refine ⟨_,rfl,?_⟩
 cases hmy:mayP al with
 |false=>exact cnd_t rfl (no (fun h=>by have:=h.1.2;rw [hmy] at this;cases this) G12)
 |true=>
 refine cnd_f rfl ⟨_,_,_,cell_add (bc.grow g12) rfl,_,_,_,cell_add (bf.grow g12) rfl,(rising_ok (v1.grow G12) rfl (by omega) (by omega)).mono ?_⟩
 rintro e16 w16 ⟨r16,rfl,hr16,g16⟩
 have g16:=g12.trans g16
 have G16:=G6.trans g16
 refine ⟨_,rfl,?_⟩
 cases r16 with
 |false=>exact cnd_t rfl (no (fun h=>by have:=hr16.2 h.2.1;cases this) G16)
 |true=>
 have hr1:=hr16.1 rfl
 refine cnd_f rfl ⟨_,_,_,cell_add (bc.grow g16) rfl,_,_,_,cells1 (bl.grow g16),(rising_ok (v2.grow G16) rfl (by omega) (by omega)).mono ?_⟩
 rintro e20 w20 ⟨r20,rfl,hr20,g20⟩
 have g20:=g16.trans g20
 have G20:=G6.trans g20
 refine ⟨_,rfl,?_⟩
 cases r20 with
 |false=>exact cnd_t rfl (no (fun h=>by have:=hr20.2 h.2.2.1;cases this) G20)
 |true=>
 have hr2:=hr20.1 rfl
 refine cnd_f rfl ⟨_,_,_,cell_add (bc.grow g20) rfl,(nodel_ok (bl.grow g20) (hl.grow G20) rfl (v2.grow G20) rfl (by omega) hr2).mono ?_⟩
 rintro e23 w23 ⟨r23,rfl,hr23,g23⟩
 have g23:=g20.trans g23
 have G23:=G6.trans g23
 refine ⟨_,rfl,?_⟩
 cases r23 with
 |true=>exact cnd_t rfl (no (fun h=>by have:=hr23.2 h.2.2.2;cases this) G23)
 |false=>
 have hnd:=hr23.1 rfl
 have hmay:MayC k cs al c1 c2:=⟨⟨hcn,hmy⟩,hr1,hr2,hnd⟩
 have bf23:=bf.grow g23
 have bl23:=bl.grow g23
 have bc23:=bc.grow g23
 have z23:=G23.size
 refine cnd_f rfl ⟨_,_,_,cell_add bc23 rfl,?_⟩
 refine ⟨fun P N C I u z=> ∃ (i:Nat) (ks:List Sl),I=i∧i≤c1.length∧z=c1.length - i∧i=N∧Grow w23 u∧Ow Sl.v ty_sl_int u P C ks∧VR (Value.int .i64) w ks ((c1.take i).map (clA cs))∧∀j,blk P=some j→w23.heap.size≤j,
  ⟨_,0,[],rfl,Nat.zero_le _,rfl,rfl,Mod.refl _,Ow.nil _ _ _,VR.nil,fun j hj=>by simp [blk] at hj⟩,?_⟩
 rintro P N C I u z _ ⟨i,ks,rfl,hi,rfl,rfl,gu,ok,vr,fo⟩
 have Gu:=G23.trans gu
 have hkl:=vr.n
 rw [List.length_map,List.length_take,Nat.min_eq_left hi] at hkl
 refine cnd_i (fun r=> ?_) (fun r=> ?_)
 · have r:i<c1.length:=by simpa using r
   obtain ⟨q1,q2⟩:=rs_lt hr1 r
   refine (v1.grow Gu).ix 0 (by omega) rfl (by omega) fun a ha=> ⟨_,ha,_,_,_,cell_add (bf23.grow gu) rfl,?_⟩
   rw [Int.toNat_natCast,← q2]
   refine (hc.grow Gu).ix (by omega) rfl (by omega) fun ad sl k1 k0 k2 k3 k4=> ⟨_,_,_,k1,?_⟩
   rw [Int.toNat_natCast] at k0 k2
   obtain ⟨_,_,r3⟩:=hc.r _ q1
   rw [← k0] at r3
   intro n37 w38 h38
   have e37:=h38.num
   have zu:=gu.size
   have z38:=h38.mod.size
   refine Ow.appV sl_sl_int (ok.grow h38.mod) (has_vw8 (sl:=sl) h38.has) hkl.symm rfl (fun _=>rfl) (by simp;omega) fun w39 p' c' o39 m39 hp' hz'=> ?_
   refine ⟨_,by omega,i+1,_,wN (by omega) (by omega),r,rfl,by simp [hkl],(gu.trans h38.mod).then m39 fun j hj e=>by have:=fo j e;omega,o39,?_,fun j hj=> ?_⟩
   · rw [take_snoc r 0,List.map_append]
     exact vr.app (VR.one (s:=sl) r3 k2 k3)
   · rcases hp' with rfl|rfl
     · exact fo j hj
     · have:=blk_some hj;omega
 have r:i=c1.length:=by simp at r;omega
 subst r
 rw [List.take_length] at vr
 refine ⟨_,_,_,_,cells2 (bf23.grow gu),_,_,_,cells1 (bl23.grow gu),(greatest_ok (p:=p) (n:=cs.length) (d:=d) (hl.grow Gu) rfl (by omega) (mayP_all hmy)).mono ?_⟩
 rintro e44 w44 ⟨rfl,g44⟩
 have g44':=gu.trans g44
 refine ⟨_,rfl,_,_,_,cell_add (bc23.grow g44') rfl,?_⟩
 refine ⟨fun P N C ends I u z=> ∃ (i:Nat) (ks:List Sl),I=i∧i≤c2.length∧z=c2.length - i∧N=(corHI cs al c1 c2 i).length∧Grow w23 u∧Ow Sl.v ty_sl_int u P C ks∧VR (Value.int .i64) w ks (corHI cs al c1 c2 i)∧(∀j,blk P=some j→w23.heap.size≤j)∧
  (∀j,j<i→uB (corHI cs al c1 c2 j) (stA al (c2.getD j 0)).2)∧(ends=true↔∃j,j<i∧(stA al (c2.getD j 0)).2= []),
  ⟨_,0,ks,rfl,Nat.zero_le _,rfl,by simp [corHI],g44',ok.grow g44,by simpa [corHI] using vr,fo,fun j hj=>by omega,⟨fun e=> (by cases e),fun ⟨j,hj,_⟩=>by omega⟩⟩,?_⟩
 clear vr ok fo hkl Gu hi
 rintro P N C ends I v z _ ⟨i,ks,rfl,hi,rfl,rfl,gv,ok,vr,fo,hall,hends⟩
 have Gv:=G23.trans gv
 have hkl:=vr.n
 have hhl:(corHI cs al c1 c2 i).length=c1.length+i:=by unfold corHI;rw [List.length_append,List.length_map,List.length_map,List.length_take];omega
 refine cnd_i (fun r=> ?_) (fun r=> ?_)
 · have r:i<c2.length:=by simpa using r
   obtain ⟨q1,q2⟩:=rs_lt hr2 r
   have hmem:=mem_st q1
   have hcl2:=mayP_all hmy _ hmem
   refine (v2.grow Gv).ix 0 (by omega) rfl (by omega) fun a ha=> ⟨_,ha,cnd_f (by simp;omega) ⟨_,_,_,cells1 (bl23.grow gv),?_⟩⟩
   rw [Int.toNat_natCast,← q2]
   refine hl.ix Gv rfl q1 fun a1 s1 hcA1 h11 h12 h13=> ⟨_,_,_,CellsAt.get (hcA1 v Gv) 1 _ rfl,?_⟩
   refine (rupUnitB_ok (k:=gtV k al) ((vr.grow Gv).v2 ok.vw) rfl (fun _ _=>by omega) (h13.grow Gv) h11 h12).mono ?_
   rintro e59 w59 ⟨r59,rfl,hr59,g59⟩
   have hcnf:cnfB (gtV k al) (corHI cs al c1 c2 i)=true:=cnf_any hcn hmy (by omega) (fun c hc'=>by
    unfold corHI at hc'
    rcases List.mem_append.1 hc' with h|h
    · obtain ⟨y,hy,rfl⟩:=List.mem_map.1 h
      obtain ⟨j,hj,rfl⟩:=List.mem_iff_getElem.1 hy
      have:=(rs_lt hr1 hj).1
      simp only [List.getD_eq_getElem?_getD,List.getElem?_eq_getElem hj,Option.getD_some] at this
      exact .inl (getD_mem2 this)
    · obtain ⟨y,hy,rfl⟩:=List.mem_map.1 h
      obtain ⟨j,hj,rfl⟩:=List.mem_iff_getElem.1 (List.mem_of_mem_take hy)
      have:=(rs_lt hr2 hj).1
      simp only [List.getD_eq_getElem?_getD,List.getElem?_eq_getElem hj,Option.getD_some] at this
      exact .inr (List.mem_map_of_mem (mem_st this)))
   refine ⟨_,rfl,cnd_i (fun r3=> ?_) (fun r3=> ?_)⟩
   · refine ⟨7,rfl,.inr (.inl ⟨hmay,fun h=> ?_,rfl⟩),Gv.trans g59⟩
     rw [hr59.2 ⟨hcnf,hcl2,h.1 i r⟩] at r3
     cases r3
   · have hu:=(hr59.1 (by simpa using r3)).2.2
     have gv59:=gv.trans g59
     refine ⟨_,_,_,cells1 (bl23.grow gv59),hl.ix (Gv.trans g59) rfl q1 fun a2 s2 hcA2 h21 h22 h23=> ⟨_,_,_,CellsAt.get (hcA2 w59 (Gv.trans g59)) 1 _ rfl,?_⟩⟩
     intro n64 w65 h65
     have e64:=h65.num
     have z59:=gv59.size
     have z65:=h65.mod.size
     refine Ow.appV sl_sl_int (ok.grow (g59.trans h65.mod)) (has_vw8 (sl:=s2) h65.has) hkl.symm rfl (fun _=>rfl) (by simp;omega) fun w66 p' c' o66 m66 hp' hz'=> ?_
     have g66:Grow w23 w66:=(gv59.trans h65.mod).then m66 fun j hj e=>by have:=fo j e;omega
     have eH:corHI cs al c1 c2 (i+1)=corHI cs al c1 c2 i++ [(stA al (c2.getD i 0)).2]:=by
      unfold corHI
      rw [take_snoc r 0,List.map_append,List.append_assoc];rfl
     have vr':VR (Value.int .i64) w (ks++ [s2]) (corHI cs al c1 c2 (i+1)):=by rw [eH];exact vr.app (VR.one (s:=s2) h23 h21 h22)
     have fo': ∀j,blk p'=some j→w23.heap.size≤j:=fun j hj=>by
      rcases hp' with rfl|rfl
      · exact fo j hj
      · have:=blk_some hj;omega
     have hall': ∀j,j<i+1→uB (corHI cs al c1 c2 j) (stA al (c2.getD j 0)).2:=fun j hj=>by
      by_cases e:j<i
      · exact hall j e
      · obtain rfl:j=i:=by omega
        exact hu
     have hN:(ks++ [s2]).length=(corHI cs al c1 c2 (i+1)).length:=vr'.n
     refine cnd_i (fun r4=> ?_) (fun r4=> ?_)
     · subst r4
       exact ⟨_,by omega,i+1,_,wN (by omega) (by omega),r,rfl,hN,g66,o66,vr',fo',hall',⟨fun _=> (hends.1 rfl).imp fun j h=> ⟨by omega,h.2⟩,fun _=>rfl⟩⟩
     · refine ⟨_,_,_,cells1 (bl23.grow g66),hl.ix (G23.trans g66) rfl q1 fun a3 s3 hcA3 h31 h32 h33=> ⟨_,_,_,CellsAt.get (hcA3 w66 (G23.trans g66)) 1 _ rfl,?_⟩⟩
       refine ⟨_,by omega,i+1,_,wN (by omega) (by omega),r,rfl,hN,g66,o66,vr',fo',hall',?_⟩
       rw [h31]
       constructor
       · intro h
         exact ⟨i,by omega,List.eq_nil_of_length_eq_zero (by have h:(((stA al (c2.getD i 0)).2.length:Nat):Int)=0:=by simpa using h
                                                             omega)⟩
       · rintro ⟨j,hj,h⟩
         by_cases e:j<i
         · rw [hends.2 ⟨j,e,h⟩] at r4;cases r4
         · obtain rfl:j=i:=by omega
           rw [h];rfl
 · have r:i=c2.length:=by simp at r;omega
   subst r
   refine cnd_i (fun r=> ⟨7,rfl,.inr (.inl ⟨hmay,fun h=> ?_,rfl⟩),Gv⟩) (fun r=> ⟨0,rfl,.inr (.inr ⟨hmay,⟨hall,hends.1 (by simpa using r)⟩,rfl⟩),Gv⟩)
   rw [hends.2 h.2] at r;cases r
end
section
variable {W w w' w0 w2 w3 u:World} {p q p1 p2:Option Addr} {n m d i c t n1 n2 d1 d2:Nat} {k:Int} {hs tl:List Sl} {cs:List (List Int)} {l c1 c2:List Int} {ss:List So} {al:List Stp}
def stH (x:Bool × Sl):List Value:= [.bool x.1,.slice x.2.p x.2.n x.2.c]
theorem stHenc:Enc 2 stH:=⟨fun _=>rfl,by omega,fun x v hv=>by
 simp only [stH,List.mem_cons,List.not_mem_nil,or_false] at hv
 rcases hv with rfl|rfl<;>rfl⟩
theorem sl_step:slOkN prog ty_sl_api_Step ty_api_Step 2 32=true:=by kernel_rfl
structure StV (w:World) (hh:List (Bool × Sl)) (al:List Stp):Prop where
 b:hh.map (·.1)=al.map (·.1)
 v:VR (Value.int .i64) w (hh.map (·.2)) (al.map (·.2))
theorem StV.nil:StV w [] []:=⟨rfl,VR.nil⟩
theorem StV.len {hh:List (Bool × Sl)} (h:StV w hh al):hh.length=al.length:=by have:=congrArg List.length h.b;simpa using this
theorem StV.app {hh gg:List (Bool × Sl)} {bl:List Stp} (h:StV w hh al) (g:StV w gg bl):StV w (hh++gg) (al++bl):=⟨by rw [List.map_append,List.map_append,h.b,g.b],by rw [List.map_append,List.map_append];exact h.v.app g.v⟩
theorem StV.one {s:Sl} {x:Stp} (h:Vw (Value.int .i64) w s.p x.2) (hn:s.n=x.2.length) (hm:s.n≤maxLen):StV w [(x.1,s)] [x]:=⟨rfl,VR.one h hn hm⟩
theorem StV.keep {S:Nat→Prop} {hh:List (Bool × Sl)} (h:StV w hh al) (m:Mod S w w') (hS: ∀k,rfoot (hh.map (·.2)) k→¬S k):StV w' hh al:=⟨h.b,h.v.keep m hS⟩
theorem StV.grow {hh:List (Bool × Sl)} (h:StV w hh al) (m:Grow w w'):StV w' hh al:=h.keep m fun _ _=>id
theorem StV.sv {hh:List (Bool × Sl)} (h:StV w hh al) (o:Vr 2 stH w p hh):SV w p al:=by
 intro i hi
 have hn:=h.len
 obtain ⟨a,rfl,hc⟩:=o i (by omega)
 obtain ⟨h1,h2,h3⟩:=h.v.r i (by simpa using hi)
 rw [getD_map1 _ _ _ _ (false,Sl.nil) (by omega),getD_map1 _ _ _ _ st0 hi] at h1 h3
 rw [getD_map1 _ _ _ _ (false,Sl.nil) (by omega)] at h2
 have e1:hh.getD i (false,Sl.nil)=hh[i]:=by simp [List.getD,show i<hh.length by omega]
 have eb:(hh[i]'(by omega)).1=(al.getD i st0).1:=by
  have:=congrArg (fun l:List Bool=>l.getD i false) h.b
  rw [getD_map1 _ _ _ _ (false,Sl.nil) (by omega),getD_map1 _ _ _ _ st0 hi,e1] at this
  exact this
 rw [e1] at h1 h2 h3
 refine ⟨a,hh[i].2,rfl,?_,h1,h2,h3⟩
 rw [← eb]
 exact hc
theorem has_vrS {b:Nat} {x:Bool × Sl} (h:Has u b #[.bool x.1,.slice x.2.p x.2.n x.2.c]):Vr 2 stH u (some ⟨b,0,none⟩) [x]:=by
 intro j hj
 have:j=0:=by simpa using hj
 subst this
 exact ⟨_,rfl,cell_add2 h rfl,cell_add2 h rfl,trivial⟩
def trS (al:List Stp) (c2:List Int):List Stp:=c2.map fun v=> (false,(stA al v).2)
theorem trS_snoc {i:Nat} (h:i<c2.length):trS al (c2.take (i+1))=trS al (c2.take i)++ [(false,(stA al (c2.getD i 0)).2)]:=by unfold trS;rw [take_snoc h 0,List.map_append];rfl
theorem trim_ok {e:Nat} (hc:V2 (Value.int .i64) w p hs cs) (hn:n=cs.length) (hx:cs.length≤40) (hl:SV w q al) (hm:m=al.length) (hm2:m≤20000) (v1:Vw (Value.int .i64) w p1 c1) (hn1:n1=c1.length) (hx1:n1≤60) (v2:Vw (Value.int .i64) w p2 c2) (hn2:n2=c2.length) (hx2:n2≤20000):
 Calls prog drat_Trim.id #[.agg #[.int .i64 k,.slice p n d],.slice q m e,.agg #[.slice p1 n1 d1,.slice p2 n2 d2]] w fun e w'=> ∃ (g0:Int) (P:Option Addr) (C:Nat) (P2:Option Addr) (C2:Nat) (E:Int) (ks:List Sl) (rows:List (List Int)) (bl:List Stp),
  e= .returned (.tuple #[.agg #[.int .i64 g0,.slice P rows.length C],.slice P2 bl.length C2,.int .i64 E])∧ChkR k cs al c1 c2 E∧(∀ (S:Nat→Prop) (v:World),Mod S w' v→(∀j,S j→j<w.heap.size)→V2 (Value.int .i64) v P ks rows∧SV v P2 bl)∧Grow w w'∧(E≠0→g0=0∧rows= []∧bl= [])∧(E=0→g0=k∧rows=c1.map (clA cs)∧bl=trS al c2):=by
 subst hn hm hn1 hn2
 refine drat_Trim.calls ?_
 intro nf w2 h2 nc w4 h4 ng w6 h6
 have ef:=h2.num
 have ec:=h4.num
 have eg:=h6.num
 have z2:=h2.mod.size
 have z4:=h4.mod.size
 have G6:=(h2.mod.trans h4.mod).trans h6.mod
 have bf:=(h2.has.grow h4.mod).grow h6.mod
 have bc:=h4.has.grow h6.mod
 have bg:=h6.has
 refine ⟨_,_,_,_,cells2 bf,_,_,_,_,_,_,cells2 bc,(check_ok (hc.grow G6) rfl hx (hl.grow G6) rfl hm2 (v1.grow G6) rfl hx1 (v2.grow G6) rfl hx2).mono ?_⟩
 rintro e11 w11 ⟨E,rfl,hE,g11⟩
 have G11:=G6.trans g11
 refine ⟨_,rfl,cnd_i (fun r=> ?_) (fun r=> ?_)⟩
 · have r:E≠0:=by simpa using r
   refine store_i (bg.grow g11) rfl rfl fun w13 b13 m13=> ⟨_,_,_,_,cells2 b13,0,none,0,none,0,E,[],[],[],rfl,hE,fun S v _ _=> ⟨V2.nil,fun i hi=>by simp at hi⟩,G11.then m13 fun j hj e=>by omega,fun _=> ⟨rfl,rfl,rfl⟩,fun h=>absurd h r⟩
 have r:E=0:=by simpa using r
 subst r
 obtain ⟨hmay,hco⟩:MayC k cs al c1 c2∧CorOk cs al c1 c2:=by
  rcases hE with ⟨_,h⟩| ⟨_,_,h⟩| ⟨a,b,_⟩
  · cases h
  · cases h
  · exact ⟨a,b⟩
 obtain ⟨⟨hcn,hmy⟩,hr1,hr2,hnd⟩:=hmay
 have hL:=cnf_lits hcn
 have bf11:=bf.grow g11
 have bc11:=bc.grow g11
 have bg11:=bg.grow g11
 have z11:=G11.size
 have zg:=bg11.lt
 refine ⟨_,cell_add bf11 rfl,?_⟩
 intro n17 w18 h18
 have e17:=h18.num
 refine store_i h18.has rfl rfl fun w19 b19 m19=> ?_
 have g19:Grow w11 w19:=h18.mod.then m19 fun j hj e=>by omega
 have G19:=G11.trans g19
 have z19:=g19.size
 have i19:=b19.lt
 have bf19:=bf11.grow g19
 have bc19:=bc11.grow g19
 have bg19:=bg11.grow g19
 refine ⟨_,_,_,cell_add bc19 rfl,?_⟩
 refine ⟨fun I u z=> ∃ (i:Nat) (P:Option Addr) (C:Nat) (ks:List Sl),I=i∧i≤c1.length∧z=c1.length - i∧Mod (·=n17) w19 u∧Has u n17 #[.int .i64 k,.slice P ((c1.take i).map (clA cs)).length C]∧OV (Value.int .i64) ty_sl_int u P C ks ((c1.take i).map (clA cs))∧∀j,OV.foot P ks j→w19.heap.size≤j,
  ⟨_,0,none,0,[],rfl,Nat.zero_le _,rfl,Mod.refl _,b19,OV.nil,fun j hj=>by rcases hj with hj| ⟨s,hs,_⟩;simp [blk] at hj;simp at hs⟩,?_⟩
 rintro I u z _ ⟨i,P,C,ks,rfl,hi,rfl,mu,bu,ov,fo⟩
 have gu:Grow w11 u:=g19.then mu fun j hj e=>by omega
 have Gu:=G11.trans gu
 have hkl:=ov.v.n
 have hl1:((c1.take i).map (clA cs)).length=i:=by rw [List.length_map,List.length_take];omega
 have zu:=mu.size
 refine cnd_i (fun r=> ?_) (fun r=> ?_)
 · have r:i<c1.length:=by simpa using r
   obtain ⟨q1,q2⟩:=rs_lt hr1 r
   have gd:=dropG u
   refine (v1.grow Gu).ix 0 (by omega) rfl (by omega) fun a ha=> ⟨_,ha,Grow u,gd,_,_,_,fun v g=>cell_add (bu.grow g) rfl,_,_,_,fun v g=>cell_add ((bf11.grow gu).grow g) rfl,?_⟩
   rw [Int.toNat_natCast,← q2]
   refine (hc.grow Gu).ix (by omega) rfl (by omega) fun ad sl k1 k0 k2 k3 k4=> ⟨_,_,_,fun v g=>cell_keep (S:=fun _=>False) g k1 id,?_⟩
   rw [Int.toNat_natCast] at k0 k2 k4
   have hci:=hL _ (getD_mem2 q1)
   refine (clone_ok (k4.grow gd) k2 (by have:=hci.1;omega)).mono ?_
   rintro e33 w33 ⟨q33,d33,rfl,o33,g33,f33⟩
   have g33':=gd.trans g33
   refine ⟨_,_,_,rfl,g33',?_⟩
   intro n35 w36 h36
   have e35:=h36.num
   have g36:=g33'.trans h36.mod
   have z33:=g33'.size
   have zd:u.drew.heap.size=u.heap.size:=rfl
   have z36:=h36.mod.size
   have o36:=o33.grow h36.mod
   refine ⟨g36,OV.app sl_sl_int (ov.grow g36) (ns:= [⟨q33,(clA cs (c1.getD i 0)).length,d33⟩]) (nrows:= [clA cs (c1.getD i 0)]) (has_vw8 (sl:=⟨q33,(clA cs (c1.getD i 0)).length,d33⟩) h36.has) (VR.one o36.vw rfl (Nat.le_trans hci.1 (by unfold maxLen;omega))) hkl.symm rfl (fun j hj e=> ?_) (by simp;omega) fun w37 p' c' o37 m37 hp' hz'=> ?_⟩
   · obtain ⟨s,hs,_,hb⟩:=hj
     rw [List.mem_singleton] at hs
     subst hs
     have:=f33 j hb
     have:=ov.h.lt j e
     omega
   have b37:Has w37 n17 _:=(bu.grow g36).keep m37 fun e=>by have:=fo _ (.inl e);omega
   refine store_f b37 rfl rfl fun w39 b39 m39=> ?_
   have eL:(c1.take (i+1)).map (clA cs)=(c1.take i).map (clA cs)++ [clA cs (c1.getD i 0)]:=by rw [take_snoc r 0,List.map_append];rfl
   have fo': ∀j,OV.foot p' (ks++ [⟨q33,(clA cs (c1.getD i 0)).length,d33⟩]) j→w19.heap.size≤j:=fun j hj=>by
    rcases hj with hj|hj
    · rcases hp' with rfl|rfl
      · exact fo j (.inl hj)
      · have:=blk_some hj;omega
    · rcases rfoot_app.1 hj with hj| ⟨s,hs,_,hb⟩
      · exact fo j (.inr hj)
      · rw [List.mem_singleton] at hs
        subst hs
        have:=f33 j hb
        omega
   refine ⟨_,by omega,i+1,p',c',_,wN (by omega) (by omega),r,rfl,((mu.then g36 fun _ _ h=>h.elim).then m37 fun j hj e=>by have:=fo j (.inl e);omega).trans m39,?_,?_,fo'⟩
   · have:=o37.v.n
     rw [eL,← this];exact b39
   · rw [eL]
     exact o37.keep m39 fun j hj e=>by have:=fo' j hj;omega
 have r:i=c1.length:=by simp at r;omega
 subst r
 rw [List.take_length] at bu ov hl1
 have bfu:=bf11.grow gu
 have bcu:=bc11.grow gu
 have bgu:=bg11.grow gu
 refine ⟨_,_,_,cell_add bcu rfl,?_⟩
 refine ⟨fun P2 N2 C2 I v z=> ∃ (i:Nat) (hh:List (Bool × Sl)),I=i∧i≤c2.length∧z=c2.length - i∧N2=(trS al (c2.take i)).length∧Grow u v∧Row 2 stH ty_api_Step v P2 C2 hh∧StV v hh (trS al (c2.take i))∧(∀j,blk P2=some j→u.heap.size≤j)∧∀j,rfoot (hh.map (·.2)) j→u.heap.size≤j∧blk P2≠some j,
  ⟨_,0,[],rfl,Nat.zero_le _,rfl,rfl,Mod.refl _,Row.nil _ _ _ _,StV.nil,fun j hj=>by simp [blk] at hj,fun j ⟨s,hs,_⟩=>by simp at hs⟩,?_⟩
 rintro P2 N2 C2 I v z _ ⟨i,hh,rfl,hi2,rfl,rfl,gv,o2,sv,fp,fr⟩
 have Gv:=Gu.trans gv
 have hl2:(trS al (c2.take i)).length=i:=by unfold trS;rw [List.length_map,List.length_take];omega
 have hhl:=sv.len
 have zv:=gv.size
 refine cnd_i (fun r=> ?_) (fun r=> ?_)
 · have r:i<c2.length:=by simpa using r
   obtain ⟨q1,q2⟩:=rs_lt hr2 r
   have hmem:=mem_st q1
   have hcl4:=clB_all (mayP_all hmy _ hmem)
   refine (v2.grow Gv).ix 0 (by omega) rfl (by omega) fun a ha=> ⟨_,ha,?_⟩
   rw [Int.toNat_natCast,← q2]
   refine hl.ix Gv rfl q1 fun a1 s1 hcA1 h11 h12 h13=> ⟨_,_,_,CellsAt.get (hcA1 v Gv) 1 _ rfl,?_⟩
   refine (clone_ok (h13.grow Gv) h11 (by omega)).mono ?_
   rintro e51 w51 ⟨q51,d51,rfl,o51,g51,f51⟩
   refine ⟨_,_,_,rfl,?_⟩
   intro n53 w54 h54
   have e53:=h54.num
   have g54:=g51.trans h54.mod
   have z51:=g51.size
   have z54:=h54.mod.size
   have o54:=o51.grow h54.mod
   have hP2:=o2.lt
   refine Row.app stHenc sl_step (o2.grow g54) (has_vrS (x:=(false,⟨q51,(stA al (c2.getD i 0)).2.length,d51⟩)) h54.has) (by omega) rfl (by simp;omega) fun w55 p' c' o55 m55 hp' hz'=> ?_
   have fr': ∀j,rfoot ((hh++ [((false,⟨q51,(stA al (c2.getD i 0)).2.length,d51⟩):Bool × Sl)]).map (·.2)) j→u.heap.size≤j∧blk P2≠some j∧j<w54.heap.size:=fun j hj=>by
    rw [List.map_append] at hj
    rcases rfoot_app.1 hj with hj| ⟨s,hs,_,hb⟩
    · have:=(sv.grow g54).v.lt j hj
      exact ⟨(fr j hj).1,(fr j hj).2,this⟩
    · have hs:s=⟨q51,(stA al (c2.getD i 0)).2.length,d51⟩:=by simpa using hs
      subst hs
      have:=f51 j hb
      have:=o54.lt j hb
      exact ⟨by omega,fun e=>by have:=hP2 j e;omega,by omega⟩
   refine ⟨_,by omega,i+1,_,wN (by omega) (by omega),r,rfl,?_,(gv.trans g54).then m55 fun j hj e=>by have:=fp j e;omega,o55,?_,fun j hj=> ?_,fun j hj=> ?_⟩
   · rw [trS_snoc r,List.length_append,List.length_append,hhl];rfl
   · rw [trS_snoc r]
     exact ((sv.grow g54).app (StV.one (x:=(false,(stA al (c2.getD i 0)).2)) (s:=⟨q51,(stA al (c2.getD i 0)).2.length,d51⟩) o54.vw rfl (Nat.le_trans hcl4.2 (by unfold maxLen;omega)))).keep m55 fun j hj e=> (fr' j hj).2.1 e
   · rcases hp' with rfl|rfl
     · exact fp j hj
     · have:=blk_some hj;omega
   · obtain ⟨a1,a2,a3⟩:=fr' j hj
     refine ⟨a1,fun e=> ?_⟩
     rcases hp' with rfl|rfl
     · exact a2 e
     · have:=blk_some e;omega
 · have r:i=c2.length:=by simp at r;omega
   subst r
   rw [List.take_length] at sv hl2
   refine ⟨_,_,_,_,cells2 (bu.grow gv),?_⟩
   refine store_i (bgu.grow gv) rfl rfl fun w59 b59 m59=> ⟨_,_,_,_,cells2 b59,k,P,C,P2,C2,0,ks,c1.map (clA cs),trS al c2,by rw [List.take_length],hE,fun S x mS hS=> ⟨(((ov.grow gv).keep m59 fun j hj e=>by have:=fo j hj;omega).keep mS fun j hj e=>by have:=fo j hj;have:=hS j e;have:=G19.size;omega).v2,((sv.keep m59 fun j hj e=>by have:=(fr j hj).1;omega).keep mS fun j hj e=>by have:=(fr j hj).1;have:=hS j e;have:=Gu.size;omega).sv (((o2.keep m59 fun j hj e=>by have:=fp j hj;omega).keep mS fun j hj e=>by have:=fp j hj;have:=hS j e;have:=Gu.size;omega).vr stHenc)⟩,Gv.then m59 fun j hj e=>by omega,fun h=>absurd rfl h,fun _=> ⟨rfl,rfl,rfl⟩⟩
end
end Go.Proofs.YtbdghpjnifjlmaaGreat.W
