/- Layer 7: the document's step. -/
import Derived.Test.YtenmibfmhccmiaaGreatRupD
set_option linter.unusedVariables false
set_option linter.unusedSimpArgs false
namespace Go.Proofs.YtenmibfmhccmiaaGreat.W
open Go Go.Fw Go.RowKit Go.SoP Go.LiP
variable {w w' w0 w2 w3 u0 u u':World} {p q:Option Addr} {n m c d:Nat} {k:Int} {hs ks:List Sl} {cs:List (List Int)} {l:List Int}
structure Dz (u0 u:World) (sl:Sl) (v:Value) (r:Option (Option Addr × Nat × List Sl)) (l c:Option Nat):Prop where
 g:Grow u0 u
 r: ∀p d hs,r=some (p,d,hs)→Ow Sl.v ty_sl_int u p d hs∧∀k,blk p=some k→u0.heap.size≤k∧l≠some k∧c≠some k
 l: ∀n,l=some n→Has u n #[.slice sl.p sl.n sl.c]∧u0.heap.size≤n
 c: ∀n,c=some n→Has u n #[.int .i64 0,.slice none 0 0]∧u0.heap.size≤n
variable {sl:Sl} {v:Value} {r:Option (Option Addr × Nat × List Sl)} {ol oc:Option Nat}
theorem Dz.E (D:Dz u0 u sl v none ol oc) {K:Nat→World→Prop} (hk: ∀n u',Dz u0 u' sl v (some (some ⟨n,0,none⟩,0,[])) ol oc→Grow u0 u'→K n u'):
 ∀ (n:Nat) (u':World),New (.cells #[] ty_sl_int) u n u'→Grow u0 u'∧K n u':=by
 intro n u' h
 have G:=D.g.trans h.mod
 have e:=h.num
 have z:=D.g.size
 refine ⟨G,hk n u' ⟨G,fun p d hs e2=> ?_,fun n2 e2=> ⟨(D.l n2 e2).1.grow h.mod,(D.l n2 e2).2⟩,fun n2 e2=> ⟨(D.c n2 e2).1.grow h.mod,(D.c n2 e2).2⟩⟩ G⟩
 simp only [Option.some.injEq,Prod.mk.injEq] at e2
 obtain ⟨rfl,rfl,rfl⟩:=e2
 refine ⟨New.empty h,fun k hk=> ?_⟩
 have:=blk_some hk
 subst this
 exact ⟨by omega,fun e2=>by have:=(D.l _ e2).1.lt;omega,fun e2=>by have:=(D.c _ e2).1.lt;omega⟩
theorem Dz.L (D:Dz u0 u sl v r none oc) {K:Nat→World→Prop} (hk: ∀n u',Dz u0 u' sl v r (some n) oc→Grow u0 u'→K n u'):
 ∀ (n:Nat) (u':World),New (.cells #[.slice sl.p sl.n sl.c] ty_sl_int) u n u'→Grow u0 u'∧K n u':=by
 intro n u' h
 have G:=D.g.trans h.mod
 have e:=h.num
 have z:=D.g.size
 refine ⟨G,hk n u' ⟨G,fun p d hs e2=> ⟨(D.r p d hs e2).1.grow h.mod,fun k hk=> ?_⟩,fun n2 e2=> ?_,fun n2 e2=> ⟨(D.c n2 e2).1.grow h.mod,(D.c n2 e2).2⟩⟩ G⟩
 · obtain ⟨a1,a2,a3⟩:=(D.r p d hs e2).2 k hk
   have:=(D.r p d hs e2).1.lt k hk
   exact ⟨a1,fun e3=>by injection e3;omega,a3⟩
 · injection e2 with e2
   subst e2
   exact ⟨h.has,by omega⟩
theorem Dz.C (D:Dz u0 u sl v r ol none) {K:Nat→World→Prop} (hk: ∀n u',Dz u0 u' sl v r ol (some n)→Grow u0 u'→K n u'):
 ∀ (n:Nat) (u':World),New (.cells #[.int .i64 0,.slice none 0 0] ty_api_Cnf) u n u'→Grow u0 u'∧K n u':=by
 intro n u' h
 have G:=D.g.trans h.mod
 have e:=h.num
 have z:=D.g.size
 refine ⟨G,hk n u' ⟨G,fun p d hs e2=> ⟨(D.r p d hs e2).1.grow h.mod,fun k hk=> ?_⟩,fun n2 e2=> ⟨(D.l n2 e2).1.grow h.mod,(D.l n2 e2).2⟩,fun n2 e2=> ?_⟩ G⟩
 · obtain ⟨a1,a2,a3⟩:=(D.r p d hs e2).2 k hk
   have:=(D.r p d hs e2).1.lt k hk
   exact ⟨a1,a2,fun e3=>by injection e3;omega⟩
 · injection e2 with e2
   subst e2
   exact ⟨h.has,by omega⟩
theorem Dz.app {hs0 news:List Sl} {p0:Option Addr} {d0 m0 k0 n0:Nat} (D:Dz u0 u sl v (some (p0,d0,hs0)) ol oc) (hv:Vw Sl.v u q news) (hn:n0=hs0.length) (hm:m0=news.length) (hlen:hs0.length+news.length≤100000) {K:World→Option Addr→Nat→Nat→Prop}
 (hk: ∀u' p' c',Dz u0 u' sl v (some (p',c',hs0++news)) ol oc→Grow u0 u'→K u' p' (hs0++news).length c'):
 ∃u',∃p' n' c',(Builtin.append_ #[ty_sl_sl_int,ty_sl_sl_int] ty_sl_sl_int #[.slice p0 n0 d0,.slice q m0 k0]).run Tryz.prog u= .ok (.slice p' n' c') u'∧K u' p' n' c':=by
 obtain ⟨o,f⟩:=D.r _ _ _ rfl
 have z:=D.g.size
 refine o.appV sl_sl_int hv hn hm (fun _=>rfl) (by omega) fun u' p' c' o' m' hp' hz'=> ?_
 have G:Grow u0 u':=D.g.then m' fun k hk e=>by have:=(f k e).1;omega
 refine hk u' p' c' ⟨G,fun p d hs e2=> ?_,fun n2 e2=> ⟨(D.l n2 e2).1.keep m' fun e=> (f _ e).2.1 e2,(D.l n2 e2).2⟩,fun n2 e2=> ⟨(D.c n2 e2).1.keep m' fun e=> (f _ e).2.2 e2,(D.c n2 e2).2⟩⟩ G
 simp only [Option.some.injEq,Prod.mk.injEq] at e2
 obtain ⟨rfl,rfl,rfl⟩:=e2
 refine ⟨o',fun k hk=> ?_⟩
 rcases hp' with rfl|rfl
 · exact f k hk
 · have:=blk_some hk
   subst this
   exact ⟨by omega,fun e2=>by have:=(D.l _ e2).1.lt;omega,fun e2=>by have:=(D.c _ e2).1.lt;omega⟩
theorem Dz.A {n0:Nat} {d0:Nat} {p0:Option Addr} {m0 k0:Nat} (D:Dz u0 u sl v (some (p0,d0,[])) ol oc) (hv:Vw Sl.v u0 q hs) (hn:n0=0) (hm:m0=hs.length) (hlen:hs.length≤99999) {K:World→Option Addr→Nat→Nat→Prop}
 (hk: ∀u' p' c',Dz u0 u' sl v (some (p',c',hs)) ol oc→Grow u0 u'→K u' p' hs.length c'):
 ∃u',∃p' n' c',(Builtin.append_ #[ty_sl_sl_int,ty_sl_sl_int] ty_sl_sl_int #[.slice p0 n0 d0,.slice q m0 k0]).run Tryz.prog u= .ok (.slice p' n' c') u'∧Grow u0 u'∧K u' p' n' c':=
 D.app (hs0:= []) (hv.grow D.g) hn hm (by simp;omega) fun u' p' c' D' g=> ⟨g,hk u' p' c' D' g⟩
theorem Dz.B {n0:Nat} {d0 nl k0:Nat} {p0:Option Addr} (D:Dz u0 u sl v (some (p0,d0,hs)) (some nl) oc) (hn:n0=hs.length) (hlen:hs.length≤99999) {K:World→Option Addr→Nat→Nat→Prop}
 (hk: ∀u' p' c',Dz u0 u' sl v (some (p',c',hs++ [sl])) (some nl) oc→Grow u0 u'→K u' p' (hs++ [sl]).length c'):
 ∃u',∃p' n' c',(Builtin.append_ #[ty_sl_sl_int,ty_sl_sl_int] ty_sl_sl_int #[.slice p0 n0 d0,.slice (some (Addr.mk nl 0 none)) 1 k0]).run Tryz.prog u= .ok (.slice p' n' c') u'∧Grow u0 u'∧K u' p' n' c':=
 D.app (news:= [sl]) (fun j hj=>by
  have:j=0:=by simpa using hj
  subst this
  exact ⟨_,rfl,cell_add (D.l nl rfl).1 rfl⟩) hn rfl (by simp;omega) fun u' p' c' D' g=> ⟨g,hk u' p' c' D' g⟩
def Dn (u0:World) (k:Int) (hs:List Sl) (a:Addr) (u:World):Prop:= ∃ (n:Nat) (p:Option Addr) (d:Nat),a=⟨n,0,none⟩∧Has u n #[.int .i64 k,.slice p hs.length d]∧Ow Sl.v ty_sl_int u p d hs∧Grow u0 u∧u0.heap.size≤n∧∀j,blk p=some j→u0.heap.size≤j∧j≠n
theorem Dz.S {p0:Option Addr} {d0 n0 nc:Nat} (D:Dz u0 u sl v (some (p0,d0,hs)) ol (some nc)) (hn:n0=hs.length) (k:Int) {K:World→Prop} (hk: ∀u',Dn u0 k hs ⟨nc,0,none⟩ u'→K u'):
 ∃u',StoreAt (Addr.mk nc 0 none) 0 [.int .i64 k,.slice p0 n0 d0] u u'∧K u':=by
 subst hn
 obtain ⟨o,f⟩:=D.r _ _ _ rfl
 obtain ⟨hc,hcz⟩:=D.c _ rfl
 refine store_i hc rfl rfl fun u' b' m'=>hk u' ⟨nc,p0,d0,rfl,b',o.keep m' fun j hj e=> (f j hj).2.2 (by rw [e]),D.g.then m' fun j hj e=>by omega,hcz,fun j hj=> ⟨(f j hj).1,fun e=> (f j hj).2.2 (by rw [e])⟩⟩
end Go.Proofs.YtenmibfmhccmiaaGreat.W
namespace Go.Proofs.YtenmibfmhccmiaaGreat.W
open Go Go.Fw Go.RowKit Go.SoP Go.LiP
variable {w w' w0 w2 w3 u0 u u':World} {p q:Option Addr} {n m c d:Nat} {k:Int} {hs ks:List Sl} {cs:List (List Int)} {l:List Int}
theorem VR.part {α:Type} {f:α→Value} {rows:List (List α)} (h:VR f w hs rows) (i:Nat) (hi:i<rows.length):VR f w (hs.take i++hs.drop (i+1)) (rows.take i++rows.drop (i+1)):=by
 refine VR.app ⟨by simp [h.n],fun j hj=> ?_⟩ ⟨by simp [h.n],fun j hj=> ?_⟩
 · rw [List.length_take] at hj
   have e: ∀ {β:Type} (l:List β) (d:β),(l.take i).getD j d=l.getD j d:=fun l d=>by
    simp only [List.getD_eq_getElem?_getD,List.getElem?_take];rw [if_pos (by omega)]
   rw [e,e]
   exact h.r j (by omega)
 · rw [List.length_drop] at hj
   have e: ∀ {β:Type} (l:List β) (d:β),(l.drop (i+1)).getD j d=l.getD (i+1+j) d:=fun l d=>by
    simp only [List.getD_eq_getElem?_getD,List.getElem?_drop]
   rw [e,e]
   exact h.r _ (by omega)
end Go.Proofs.YtenmibfmhccmiaaGreat.W
