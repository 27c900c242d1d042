/- Layer 6: what follows by units, by the document: plain. -/
import Derived.Test.YtenmibfmhccmiaaGreatPropD
set_option linter.unusedVariables false
set_option linter.unusedSimpArgs false
namespace Go.Proofs.YtenmibfmhccmiaaGreat.W
open Go Go.Fw Go.RowKit Go.SoP Go.LiP
variable {s t u s':PSt} {l x y:Int} {i:Nat}
def unitG (t:List Int):List Int→Int→Int
 | [],o=>o
 |x::c,o=>if x∈t then 0 else if -x∈t∨x=o then unitG t c o else if o≠0 then 0 else unitG t c x
def unitF (c t:List Int):Int:=unitG t c 0
def brokenP (c t:List Int):Bool:=c.all fun x=>decide (-x∈t)
theorem unitG_ne {t:List Int}: ∀ (c:List Int) (o:Int),(∀y∈c,y≠0)→unitG t c o≠0→(∀y∈c,y ∉ t∧(y=unitG t c o∨ -y∈t))∧(unitG t c o=o∨(o=0∧unitG t c o∈c∧ -(unitG t c o) ∉ t))
 | [],o,_,_=> ⟨fun y hy=>by simp at hy,.inl rfl⟩
 |x::c,o,nz,h=>by
  have nz': ∀y∈c,y≠0:=fun y hy=>nz y (List.mem_cons_of_mem _ hy)
  have nx:x≠0:=nz x (List.mem_cons_self ..)
  unfold unitG at h ⊢
  by_cases h1:x∈t
  · rw [if_pos h1] at h;exact absurd rfl h
  · rw [if_neg h1] at h ⊢
    by_cases h2: -x∈t∨x=o
    · rw [if_pos h2] at h ⊢
      obtain ⟨a,b⟩:=unitG_ne c o nz' h
      refine ⟨fun y hy=> ?_,b.imp id fun e=> ⟨e.1,List.mem_cons_of_mem _ e.2.1,e.2.2⟩⟩
      rcases List.mem_cons.1 hy with rfl|hy
      · refine ⟨h1,?_⟩
        rcases h2 with h2|h2
        · exact .inr h2
        · rcases b with b| ⟨b,_⟩
          · exact .inl (h2.trans b.symm)
          · omega
      · exact a y hy
    · rw [if_neg h2] at h ⊢
      by_cases h3:o≠0
      · rw [if_pos h3] at h;exact absurd rfl h
      · rw [if_neg h3] at h ⊢
        obtain ⟨a,b⟩:=unitG_ne c x nz' h
        have h3:o=0:=by omega
        have hx: -x ∉ t:=fun e=>h2 (.inl e)
        have ex:unitG t c x=x:=by
         rcases b with b| ⟨b,_⟩
         · exact b
         · exact absurd b nx
        refine ⟨fun y hy=> ?_,.inr ⟨h3,by rw [ex];exact List.mem_cons_self ..,by rw [ex];exact hx⟩⟩
        rcases List.mem_cons.1 hy with rfl|hy
        · exact ⟨h1,.inl ex.symm⟩
        · exact a y hy
theorem unitF_ne {c t:List Int} (nz: ∀y∈c,y≠0) (h:unitF c t≠0):unitF c t∈c∧unitF c t ∉ t∧ -(unitF c t) ∉ t∧∀y∈c,y=unitF c t∨ -y∈t:=by
 obtain ⟨a,b⟩:=unitG_ne c 0 nz h
 rcases b with b| ⟨_,b1,b2⟩
 · exact absurd b h
 · exact ⟨b1,(a _ b1).1,b2,fun y hy=> (a y hy).2⟩
theorem unitG_is {t:List Int} {l:Int} (hl0:l≠0) (hn: -l ∉ t): ∀ (c:List Int) (o:Int),(∀y∈c,y ∉ t∧(y=l∨ -y∈t))→(o=l∨(o=0∧l∈c))→unitG t c o=l
 | [],o,_,ho=>by
   rcases ho with ho| ⟨_,h⟩
   · exact ho
   · simp at h
 |x::c,o,hc,ho=>by
  have hx:=hc x (List.mem_cons_self ..)
  have hc': ∀y∈c,y ∉ t∧(y=l∨ -y∈t):=fun y hy=>hc y (List.mem_cons_of_mem _ hy)
  unfold unitG
  rw [if_neg hx.1]
  by_cases e:x=l
  · subst e
    by_cases h2: -x∈t∨x=o
    · rw [if_pos h2]
      refine unitG_is hl0 hn c o hc' ?_
      rcases h2 with h2|h2
      · exact absurd h2 hn
      · exact .inl h2.symm
    · rw [if_neg h2]
      rcases ho with ho| ⟨ho,_⟩
      · exact absurd (Or.inr ho.symm) h2
      · rw [if_neg (by omega)]
        exact unitG_is hl0 hn c x hc' (.inl rfl)
  · have h3: -x∈t:=hx.2.resolve_left e
    rw [if_pos (.inl h3)]
    refine unitG_is hl0 hn c o hc' (ho.imp id fun h=> ⟨h.1,?_⟩)
    rcases List.mem_cons.1 h.2 with h|h
    · exact absurd h.symm e
    · exact h
theorem brokenP_iff {c t:List Int}:brokenP c t=true↔∀x∈c,-x∈t:=by
 unfold brokenP;simp [List.all_eq_true]
inductive Fol (cs:List (List Int)) (d:List Int):List Int→Prop
 |refl:Fol cs d d
 |step {t:List Int} {c:List Int}:Fol cs d t→c∈cs→unitF c t≠0→Fol cs d (t++ [unitF c t])
def PSt.cls (s:PSt) (c:List Int):Prop:= ∃i,s.There i∧s.R (.a i)=c
def PSt.dec (s:PSt):List Int:=(s.R .be).map fun e=> (s.R .tr).getD e.toNat 0
theorem Good.clv (g:Good s) {c:List Int} (h:s.cls c): ∀x∈c,InV s.vars x:=by
 obtain ⟨i,hi,rfl⟩:=h
 exact fun x hx=>g.cv i hi x ((g.ca i hi x).2 hx)
theorem dec_at {p:Nat} (h:(p:Int)∈s.R .be):(s.R .tr).getD p 0∈s.dec:=
 List.mem_map.2 ⟨(p:Int),h,by rw [Int.toNat_natCast]⟩
theorem Good.trail_all (g:Good s) {Q:Int→Prop} (hd: ∀x∈s.dec,Q x) (hc: ∀c,s.cls c→∀l∈c,(∀y∈c,y≠l→Q (-y))→ -l ∉ s.R .tr→Q l): ∀x∈s.R .tr,Q x:=by
 have key: ∀p,p< (s.R .tr).length→Q ((s.R .tr).getD p 0):=by
  intro p
  induction p using Nat.strongRecOn with
  |_ p ih=>
   intro hp
   by_cases hb:(p:Int)∈s.R .be
   · exact hd _ (dec_at hb)
   · obtain ⟨i,e1,e2,e3,e4⟩:=g.re2 p hp hb
     refine hc _ ⟨i,e2,rfl⟩ _ ((g.ca i e2 _).1 e3) (fun y hy hne=> ?_) (g.cons (getD_mem' hp))
     have:=e4 y ((g.ca i e2 y).2 hy) hne
     obtain ⟨q,hq,e⟩:=List.mem_iff_getElem.1 this
     rw [List.length_take] at hq
     have e5:(s.R .tr).getD q 0= -y:=by
      rw [List.getElem_take] at e
      simp [List.getD,show q< (s.R .tr).length by omega,e]
     rw [← e5]
     exact ih q (by omega) (by omega)
 intro x hx
 obtain ⟨p,hp,e⟩:=List.mem_iff_getElem.1 hx
 have:=key p hp
 simp only [List.getD,List.getElem?_eq_getElem hp,Option.getD_some,e] at this
 exact this
theorem Good.trail_sub (g:Good s) {T:List Int} (hd: ∀x∈s.dec,x∈T) (hT: ∀x∈T,-x ∉ T) (hc: ∀c,s.cls c→brokenP c T=false∧unitF c T=0): ∀x∈s.R .tr,x∈T:=by
 refine g.trail_all hd fun c hcc l hl hy _=> ?_
 obtain ⟨h1,h2⟩:=hc c hcc
 have hv:=g.clv hcc
 rcases Classical.em (l∈T) with h|h
 · exact h
 · exfalso
   have hnl: -l ∉ T:=fun e=>by
    rw [← Bool.not_eq_true,brokenP_iff] at h1
    exact h1 fun y hyc=>by
     by_cases ey:y=l
     · rw [ey];exact e
     · exact hy y hyc ey
   have:=unitG_is (t:=T) (hv l hl).1 hnl c 0 (fun y hyc=>by
    by_cases ey:y=l
    · subst ey;exact ⟨h,.inl rfl⟩
    · have:=hy y hyc ey
      exact ⟨fun e=>hT y e this,.inr this⟩) (.inr ⟨rfl,hl⟩)
   have h3:=(hv l hl).1
   unfold unitF at h2
   omega
theorem Closed.cl (hC:Closed s) (g:Good s) {c:List Int} (hc:s.cls c):(∃x∈c,x∈s.R .tr)∨∃x∈c,∃y∈c,x≠y∧x ∉ s.R .tr∧ -x ∉ s.R .tr∧y ∉ s.R .tr∧ -y ∉ s.R .tr:=by
 have hv:=g.clv hc
 obtain ⟨i,hi,rfl⟩:=hc
 rcases hC i hi with h| ⟨x,hx,y,hy,hne,vx,vy⟩
 · exact .inl h
 · have a:=(g.v0 (hv x hx)).1 vx
   have b:=(g.v0 (hv y hy)).1 vy
   exact .inr ⟨x,hx,y,hy,hne,a.1,a.2,b.1,b.2⟩
theorem Closed.unit (hC:Closed s) (g:Good s) {T c:List Int} (hT: ∀x∈T,x∈s.R .tr) (hc:s.cls c) (h:unitF c T≠0):unitF c T∈s.R .tr:=by
 obtain ⟨_,_,_,h4⟩:=unitF_ne (fun y hy=> (g.clv hc y hy).1) h
 rcases hC.cl g hc with ⟨x,hx,hxt⟩| ⟨x,hx,y,hy,hne,x1,x2,y1,y2⟩
 · rcases h4 x hx with e|e
   · rw [← e];exact hxt
   · exact absurd (hT _ e) (g.cons hxt)
 · exfalso
   have ex:x=unitF c T:=(h4 x hx).resolve_right fun e=>x2 (hT _ e)
   have ey:y=unitF c T:=(h4 y hy).resolve_right fun e=>y2 (hT _ e)
   exact hne (ex.trans ey.symm)
theorem Closed.notBroken (hC:Closed s) (g:Good s) {T c:List Int} (hT: ∀x∈T,x∈s.R .tr) (hc:s.cls c):brokenP c T=false:=by
 rw [← Bool.not_eq_true,brokenP_iff]
 intro h
 rcases hC.cl g hc with ⟨x,hx,hxt⟩| ⟨x,hx,_,_,_,_,x2,_,_⟩
 · exact g.cons hxt (hT _ (h x hx))
 · exact x2 (hT _ (h x hx))
theorem Closed.fol (hC:Closed s) (g:Good s) {cs:List (List Int)} (hcs: ∀c∈cs,s.cls c) {d T:List Int} (hd: ∀x∈d,x∈s.R .tr) (h:Fol cs d T): ∀x∈T,x∈s.R .tr:=by
 induction h with
 |refl=>exact hd
 |step h1 h2 h3 ih=>
  intro x hx
  rcases List.mem_append.1 hx with hx|hx
  · exact ih x hx
  · rw [List.mem_singleton] at hx
    rw [hx]
    exact hC.unit g ih (hcs _ h2) h3
structure Ls (n:Nat) (T:List Int):Prop where
 v: ∀x∈T,InV n x
 nd:(T.map amt).Nodup
theorem Ls.con {n:Nat} {T:List Int} (h:Ls n T): ∀x∈T,-x ∉ T:=fun x hx e=>by
 obtain ⟨i,hi,e1⟩:=List.mem_iff_getElem.1 hx
 obtain ⟨j,hj,e2⟩:=List.mem_iff_getElem.1 e
 have:=(List.getElem_inj (h₀:=show i< (T.map amt).length by simpa using hi) (h₁:=show j< (T.map amt).length by simpa using hj) h.nd).1 (by
  rw [List.getElem_map,List.getElem_map,e1,e2,amt_neg])
 subst this
 rw [e1] at e2
 have:=(h.v x hx).1
 omega
theorem Ls.len {n:Nat} {T:List Int} (h:Ls n T):T.length≤n:=by
 have h1:=nodup_len (n:=n+1) (l:=0::T.map amt) (List.nodup_cons.2 ⟨fun e=>by
  obtain ⟨x,hx,e⟩:=List.mem_map.1 e
  have:=(h.v x hx).amt;omega,h.nd⟩) fun x hx=>by
   rcases List.mem_cons.1 hx with rfl|hx
   · omega
   · obtain ⟨y,hy,rfl⟩:=List.mem_map.1 hx
     have:=(h.v y hy).amt;omega
 simpa using h1
theorem Good.ls (g:Good s):Ls s.vars (s.R .tr):=⟨g.tv,g.nd⟩
theorem ls_nodup {n:Nat} {T:List Int} (h:Ls n T):T.Nodup:=List.Pairwise.of_map _ (fun a b hab e=>hab (by rw [e])) h.nd
end Go.Proofs.YtenmibfmhccmiaaGreat.W
namespace Go.Proofs.YtenmibfmhccmiaaGreat.W
open Go Go.Fw Go.RowKit Go.SoP Go.LiP
variable {w w' w0 w2 w3:World} {p q:Option Addr} {n m c d:Nat} {l t T:List Int}
theorem nw (x:Int) (hx: -1048576≤x∧x≤1048576):IntKind.i64.wrap (0 - x)= -x:=by rw [wrap64_of (by omega) (by omega)];omega
end Go.Proofs.YtenmibfmhccmiaaGreat.W
namespace Go.Proofs.YtenmibfmhccmiaaGreat.W
open Go Go.Fw Go.RowKit Go.SoP Go.LiP
variable {w w' w0 w2 w3:World} {p q:Option Addr} {n m c d V:Nat} {l t T:List Int} {hs:List Sl} {cs:List (List Int)}
theorem box1 {x:Int} {nb:Nat} {w0:World} (h:New (.cells #[.int .i64 x] ty_int) w0 nb w):Vw (Value.int .i64) w (some ⟨nb,0,none⟩) [x]:=by
 intro j hj
 have hj:j=0:=by simpa using hj
 subst hj
 exact ⟨_,rfl,cell_add h.has rfl⟩
end Go.Proofs.YtenmibfmhccmiaaGreat.W
namespace Go.Proofs.YtenmibfmhccmiaaGreat.W
open Go Go.Fw Go.RowKit Go.SoP Go.LiP
variable {w w' w0 w2 w3:World} {b:Nat} {H H' H2:Pt→Sl} {s t u s' T:PSt} {cp gp dp:Option Addr} {hs:List Sl} {cs:List (List Int)} {gl:List Bool} {dl:List Int} {cn cc gn gc dn dc:Nat}
structure WD (w:World) (b:Nat) (H:Pt→Sl) (s:PSt) (cp:Option Addr) (hs:List Sl) (cs:List (List Int)) (gp:Option Addr) (gl:List Bool) (dp:Option Addr) (dl:List Int):Prop where
 pm:PM w b H s
 g:Good s
 v2:V2 (Value.int .i64) w cp hs cs
 gv:Vw Value.bool w gp gl
 dv:Vw (Value.int .i64) w dp dl
 cn:cs.length=s.nc
 gn:gl.length=s.nc
 gg: ∀i,i<s.nc→gl.getD i false=s.gone i
 ca: ∀i,s.There i→cs.getD i []=s.R (.a i)
 dd:dl=s.dec
 f1: ∀k,footN cp hs k→∀x,own b H x≠some k
 f2: ∀k,gl≠[]→blk gp=some k→∀x,own b H x≠some k
 f3: ∀k,dl≠[]→blk dp=some k→∀x,own b H x≠some k
 cb:s.nc≤1000
 vb:s.vars≤60
theorem WD.grow (h:WD w b H s cp hs cs gp gl dp dl) (m:Grow w w'):WD w' b H s cp hs cs gp gl dp dl:=
 ⟨h.pm.grow m,h.g,h.v2.grow m,h.gv.grow m,h.dv.grow m,h.cn,h.gn,h.gg,h.ca,h.dd,h.f1,h.f2,h.f3,h.cb,h.vb⟩
theorem WD.drew (h:WD w b H s cp hs cs gp gl dp dl):WD w.drew b H s cp hs cs gp gl dp dl:=h.grow (Mod.refl w).drew
theorem WD.apart (h:WD w b H s cp hs cs gp gl dp dl) (P:Pw w w' b H H' s'):
 V2 (Value.int .i64) w' cp hs cs∧Vw Value.bool w' gp gl∧Vw (Value.int .i64) w' dp dl∧(∀k,footN cp hs k→∀x,own b H' x≠some k)∧(∀k,gl≠[]→blk gp=some k→∀x,own b H' x≠some k)∧∀k,dl≠[]→blk dp=some k→∀x,own b H' x≠some k:=by
 have nf: ∀ {k:Nat},k<w.heap.size→(∀x,own b H x≠some k)→∀x,own b H' x≠some k:=fun hl hk x e=>by
  rcases P.ft x _ e with ⟨y,e2⟩|e2
  · exact hk y e2
  · omega
 refine ⟨h.v2.keepN P.mod fun k hk ⟨x,e⟩=>h.f1 k hk x e,h.gv.keepN P.mod fun hne k hk ⟨x,e⟩=>h.f2 k hne hk x e,h.dv.keepN P.mod fun hne k hk ⟨x,e⟩=>h.f3 k hne hk x e,
  fun k hk=>nf (h.v2.ltN k hk) (h.f1 k hk),fun k hne hk=>nf (h.gv.lt hne k hk) (h.f2 k hne hk),fun k hne hk=>nf (h.dv.lt hne k hk) (h.f3 k hne hk)⟩
theorem WD.ext (h:WD w b H s cp hs cs gp gl dp dl) (P:Pw w w' b H H' s') (g:Good s') (x:Ext s s'):WD w' b H' s' cp hs cs gp gl dp dl:=by
 obtain ⟨a1,a2,a3,a4,a5,a6⟩:=h.apart P
 refine ⟨P.pm,g,a1,a2,a3,by rw [x.n];exact h.cn,by rw [x.n];exact h.gn,fun i hi=>by rw [x.g];exact h.gg i (by rw [← x.n];exact hi),fun i hi=>by rw [x.a];exact h.ca i (x.there.1 hi),?_,a4,a5,a6,by rw [x.n];exact h.cb,by rw [x.v];exact h.vb⟩
 rw [h.dd]
 unfold PSt.dec
 rw [x.be]
 obtain ⟨e,he⟩:=x.tr
 rw [he]
 refine List.map_congr_left fun q hq=> ?_
 obtain ⟨j,hj,e2⟩:=List.mem_iff_getElem.1 hq
 have:=h.g.bl j hj
 simp only [List.getD,List.getElem?_eq_getElem hj,Option.getD_some,e2] at this
 rw [getD_append_lt (by omega)]
def thereL (cs:List (List Int)) (gl:List Bool) (n:Nat):List (List Int):=((List.range n).filter fun i=> !gl.getD i false).map fun i=>cs.getD i []
theorem WD.mem (h:WD w b H s cp hs cs gp gl dp dl) {c:List Int}:c∈thereL cs gl cs.length↔s.cls c:=by
 unfold thereL PSt.cls
 rw [List.mem_map,h.cn]
 constructor
 · rintro ⟨i,hi,rfl⟩
   rw [List.mem_filter,List.mem_range] at hi
   have hg:=h.gg i hi.1
   have hth:s.There i:=⟨hi.1,by rw [← hg];simpa using hi.2⟩
   exact ⟨i,hth,(h.ca i hth).symm⟩
 · rintro ⟨i,hi,rfl⟩
   refine ⟨i,?_,h.ca i hi⟩
   rw [List.mem_filter,List.mem_range]
   exact ⟨hi.1,by rw [h.gg i hi.1,hi.2];rfl⟩
end Go.Proofs.YtenmibfmhccmiaaGreat.W
namespace Go.Proofs.YtenmibfmhccmiaaGreat.W
open Go Go.Fw Go.RowKit Go.SoP Go.LiP
variable {w w' w0 w2 w3:World} {b:Nat} {H H' H2:Pt→Sl} {s t u s' T:PSt} {cp gp dp:Option Addr} {hs:List Sl} {cs:List (List Int)} {gl:List Bool} {dl:List Int} {cn cc gn gc dn dc:Nat} {v:Int}
theorem Good.pos (g:Good s) {p q:Nat} (hp:p< (s.R .tr).length) (hq:q< (s.R .tr).length) (e:(s.R .tr).getD p 0=(s.R .tr).getD q 0):p=q:=by
 have hn:=ls_nodup g.ls
 simp only [List.getD,List.getElem?_eq_getElem hp,List.getElem?_eq_getElem hq,Option.getD_some] at e
 exact (List.getElem_inj hn).1 e
theorem mem_wo {l:List Int} {x y:Int}:y∈wo l x↔y∈l∧y≠x:=by unfold wo;simp
end Go.Proofs.YtenmibfmhccmiaaGreat.W
namespace Go.Proofs.YtenmibfmhccmiaaGreat.W
open Go Go.Fw Go.RowKit Go.SoP Go.LiP
variable {w w' w0 w2 w3:World} {b:Nat} {H H' H2:Pt→Sl} {s t u s' T:PSt} {cp gp dp:Option Addr} {hs:List Sl} {cs:List (List Int)} {gl:List Bool} {dl:List Int} {cn cc gn gc dn dc:Nat} {v:Int}
def Told (s:PSt) (r:Int):Prop:=(r= -1∧Closed s)∨∃i:Nat,r=i∧Brk s i
end Go.Proofs.YtenmibfmhccmiaaGreat.W
