/- Layer 6: the law's own functions: a decision, a run, and levels that are taken back. -/
import Derived.Test.YtenmibfmhccmiaaGreatPropE
set_option linter.unusedVariables false
set_option linter.unusedSimpArgs false
namespace Go.Proofs.YtenmibfmhccmiaaGreat.W
open Go Go.Fw Go.RowKit Go.SoP Go.LiP
variable {w w' w0 w2 w3:World} {b:Nat} {H H' H2:Pt→Sl} {s t u s' T:PSt} {cp gp dp:Option Addr} {hs:List Sl} {cs:List (List Int)} {gl:List Bool} {dl:List Int} {cn cc gn gc dn dc:Nat} {v:Int}
def Ft (cp:Option Addr) (hs:List Sl) (gp:Option Addr) (gl:List Bool) (dp:Option Addr) (dl:List Int) (k:Nat):Prop:=footN cp hs k∨(gl≠[]∧blk gp=some k)∨(dl≠[]∧blk dp=some k)
def AP (w w':World) (b:Nat) (H:Pt→Sl) (v:Int) (e:Ending) (Fo:Nat→Prop) (Q:PSt→List (List Int)→List Bool→List Int→Prop):Prop:=
 ∃ (cp' gp' dp':Option Addr) (cc' gc' dc':Nat) (hs':List Sl) (cs':List (List Int)) (gl':List Bool) (dl':List Int) (H':Pt→Sl) (s':PSt),
   e= .returned (.tuple #[.agg #[ptrV b,.int .i64 v,.slice cp' cs'.length cc',.slice gp' gl'.length gc',.slice dp' dl'.length dc'],.bool true])∧
   WD w' b H' s' cp' hs' cs' gp' gl' dp' dl'∧dl'.length≤dc'∧Pw w w' b H H' s'∧(∀k,Ft cp' hs' gp' gl' dp' dl' k→Fo k∨w.heap.size≤k)∧Q s' cs' gl' dl'
theorem WD.of (h:WD w b H s cp hs cs gp gl dp dl) (P:Pw w w' b H H' s') (g:Good s') (hv:s'.vars=s.vars) (hn:s'.nc=s.nc) (hg:s'.gone=s.gone) (ha: ∀i,s'.R (.a i)=s.R (.a i)) {dp':Option Addr} {dl':List Int}
 (dv:Vw (Value.int .i64) w' dp' dl') (hd:dl'=s'.dec) (f3: ∀k,dl'≠[]→blk dp'=some k→∀x,own b H' x≠some k):WD w' b H' s' cp hs cs gp gl dp' dl':=by
 obtain ⟨a1,a2,a3,a4,a5,a6⟩:=h.apart P
 refine ⟨P.pm,g,a1,a2,dv,by rw [hn];exact h.cn,by rw [hn];exact h.gn,fun i hi=>by rw [hg];exact h.gg i (by rw [← hn];exact hi),fun i hi=> ?_,hd,a4,a5,f3,by rw [hn];exact h.cb,by rw [hv];exact h.vb⟩
 unfold PSt.There at hi
 rw [hn,hg] at hi
 rw [ha]
 exact h.ca i hi
theorem Pw.old {w1:World} (P:Pw w1 w' b H H' s') (h:PM w b H s) {k:Nat} (h1:w.heap.size≤k) (h2:k<w1.heap.size): ∀x,own b H' x≠some k:=fun x e=>by
 rcases P.ft x k e with ⟨y,e2⟩|e2
 · have:=h.lt y k e2;omega
 · omega
theorem dec_decide (g:Good s) (l:Int):(s.decide l).dec=s.dec++ [l]:=by
 have e1:(s.decide l).R .be=s.R .be++ [((s.R .tr).length:Int)]:=by
  unfold PSt.decide;rw [put_R (by simp) (by simp) (by simp) (by simp)];unfold PSt.begin;rw [set_ne (by simp),set_eq]
 have e2:(s.decide l).R .tr=s.R .tr++ [l]:=by
  unfold PSt.decide;rw [put_tr];unfold PSt.begin;rw [set_ne (by simp),set_ne (by simp)]
 unfold PSt.dec
 rw [e1,e2,List.map_append,List.map_singleton,Int.toNat_natCast,getD_append_eq]
 congr 1
 refine List.map_congr_left fun q hq=> ?_
 obtain ⟨j,hj,e3⟩:=List.mem_iff_getElem.1 hq
 have:=g.bl j hj
 simp only [List.getD,List.getElem?_eq_getElem hj,Option.getD_some,e3] at this
 exact getD_append_lt (by omega)
theorem decide_same (l:Int):(s.decide l).vars=s.vars∧(s.decide l).nc=s.nc∧(s.decide l).gone=s.gone∧∀i,(s.decide l).R (.a i)=s.R (.a i):=by
 refine ⟨by simp only [PSt.decide,PSt.put,PSt.begin,PSt.set],by simp only [PSt.decide,PSt.put,PSt.begin,PSt.set],by simp only [PSt.decide,PSt.put,PSt.begin,PSt.set],fun i=> ?_⟩
 unfold PSt.decide
 rw [put_R (by simp) (by simp) (by simp) (by simp)]
 unfold PSt.begin
 rw [set_ne (by simp),set_ne (by simp)]
end Go.Proofs.YtenmibfmhccmiaaGreat.W
namespace Go.Proofs.YtenmibfmhccmiaaGreat.W
open Go Go.Fw Go.RowKit Go.SoP Go.LiP
variable {w w' w0 w2 w3:World} {b:Nat} {H H' H2:Pt→Sl} {s t u s' T:PSt} {cp gp dp ap:Option Addr} {hs:List Sl} {cs:List (List Int)} {gl:List Bool} {dl:List Int} {cn cc gn gc dn dc an ac:Nat} {v:Int}
theorem dec_ext (g:Good s) (x:Ext s s'):s'.dec=s.dec:=by
 unfold PSt.dec
 rw [x.be]
 obtain ⟨e,he⟩:=x.tr
 rw [he]
 refine List.map_congr_left fun q hq=> ?_
 obtain ⟨j,hj,e2⟩:=List.mem_iff_getElem.1 hq
 have:=g.bl j hj
 simp only [List.getD,List.getElem?_eq_getElem hj,Option.getD_some,e2] at this
 rw [getD_append_lt (by omega)]
theorem back_same (L:Nat):(s.back L).vars=s.vars∧(s.back L).nc=s.nc∧(s.back L).gone=s.gone∧(∀i,(s.back L).R (.a i)=s.R (.a i))∧(s.back L).R .be=(s.R .be).take L∧(s.back L).R .tr=(s.R .tr).take ((s.R .be).getD L 0).toNat:=by
 have key: ∀y,(s.back L).R y=((((s.set .va (clr (s.R .va) ((s.R .tr).drop ((s.R .be).getD L 0).toNat))).set .tr ((s.R .tr).take ((s.R .be).getD L 0).toNat)).set .be ((s.R .be).take L)).set .ds ((s.R .ds).take L)).R y:=fun y=>rfl
 refine ⟨rfl,rfl,rfl,fun i=> ?_,?_,?_⟩
 · rw [key,set_ne (by simp),set_ne (by simp),set_ne (by simp),set_ne (by simp)]
 · rw [key,set_ne (by simp),set_eq]
 · rw [key,set_ne (by simp),set_ne (by simp),set_eq]
end Go.Proofs.YtenmibfmhccmiaaGreat.W
namespace Go.Proofs.YtenmibfmhccmiaaGreat.W
open Go Go.Fw Go.RowKit Go.SoP Go.LiP
variable {w w' w0 w2 w3:World} {b:Nat} {H H' H2:Pt→Sl} {s t u s' T:PSt} {cp gp dp ap:Option Addr} {hs:List Sl} {cs:List (List Int)} {gl:List Bool} {dl c:List Int} {cn cc gn gc dn dc an ac:Nat} {v:Int}
theorem WD.add (h:WD w b H s cp hs cs gp gl dp dl) (P:Pw w w' b H H' s') (g:Good s') (A:Added s c s') (hb:s.nc<1000) {cp' gp':Option Addr} {hs':List Sl} (v2:V2 (Value.int .i64) w' cp' hs' (cs++ [c])) (gv:Vw Value.bool w' gp' (gl++ [false]))
 (f1: ∀k,footN cp' hs' k→∀x,own b H' x≠some k) (f2: ∀k,blk gp'=some k→∀x,own b H' x≠some k):WD w' b H' s' cp' hs' (cs++ [c]) gp' (gl++ [false]) dp dl:=by
 obtain ⟨_,_,a3,_,_,a6⟩:=h.apart P
 have hcn:=h.cn
 have hgn:=h.gn
 refine ⟨P.pm,g,v2,gv,a3,by rw [A.n];simp [hcn],by rw [A.n];simp [hgn],fun i hi=> ?_,fun i hi=> ?_,?_,f1,fun k _=>f2 k,a6,by rw [A.n];omega,by rw [A.v];exact h.vb⟩
 · rw [A.g]
   rw [A.n] at hi
   by_cases e:i=s.nc
   · rw [if_pos e,e,← hgn];simp [List.getD]
   · rw [if_neg e]
     have:=h.gg i (by omega)
     rw [← this]
     simp [List.getD,show i<gl.length by omega,List.getElem?_append_left (show i<gl.length by omega)]
 · rw [A.a]
   have hi1:=hi.1
   rw [A.n] at hi1
   by_cases e:i=s.nc
   · rw [if_pos e,e,← hcn];simp [List.getD]
   · rw [if_neg e]
     have h2:=hi.2
     rw [A.g,if_neg e] at h2
     have:=h.ca i ⟨by omega,h2⟩
     rw [← this]
     simp [List.getD,show i<cs.length by omega,List.getElem?_append_left (show i<cs.length by omega)]
 · rw [h.dd];unfold PSt.dec;rw [A.be,A.tr]
end Go.Proofs.YtenmibfmhccmiaaGreat.W
namespace Go.Proofs.YtenmibfmhccmiaaGreat.W
open Go Go.Fw Go.RowKit Go.SoP Go.LiP
variable {w w' w0 w2 w3:World} {b:Nat} {H H' H2:Pt→Sl} {s t u s' T:PSt} {cp gp dp ap:Option Addr} {hs:List Sl} {cs:List (List Int)} {gl:List Bool} {dl c:List Int} {cn cc gn gc dn dc an ac:Nat} {v:Int}
theorem WD.drop (h:WD w b H s cp hs cs gp gl dp dl) {i:Nat} (P:Pw w w' b H H' (s.drop i)) (g:Good (s.drop i)) (hi:s.There i) {gp':Option Addr} (gv:Vw Value.bool w' gp' (gl.set i true))
 (f2: ∀k,blk gp'=some k→∀x,own b H' x≠some k):WD w' b H' (s.drop i) cp hs cs gp' (gl.set i true) dp dl:=by
 obtain ⟨a1,_,a3,a4,_,a6⟩:=h.apart P
 obtain ⟨u1,u2,u3,u4⟩:=unF_vars i ((s.R (.l i)).take 2) s
 have evr:(s.drop i).vars=s.vars:=u1
 have enc:(s.drop i).nc=s.nc:=u2
 have hcn:=h.cn
 have hgn:=h.gn
 refine ⟨P.pm,g,a1,gv,a3,by rw [enc];exact hcn,by rw [enc];simpa using hgn,fun k hk=> ?_,fun k hk=> ?_,?_,a4,fun k _=>f2 k,a6,by rw [enc];exact h.cb,by rw [evr];exact h.vb⟩
 · rw [enc] at hk
   have hsg:(s.drop i).gone k=if k=i then true else s.gone k:=by
    show (if k=i then true else (unF i s _).gone k)=_
    rw [u3]
   rw [hsg,getD_set (by have:=hi.1;omega)]
   split
   · rfl
   · exact h.gg k hk
 · obtain ⟨k1,k2⟩:=drop_there.1 hk
   rw [drop_R i _ (by simp) (by simp) (by simpa using k2) (by simp)]
   exact h.ca k k1
 · rw [h.dd];unfold PSt.dec
   rw [drop_R i _ (by simp) (by simp) (by simp) (by simp),drop_R i _ (by simp) (by simp) (by simp) (by simp)]
theorem AP.mono {e:Ending} {Fo:Nat→Prop} {Q Q':PSt→List (List Int)→List Bool→List Int→Prop} (h:AP w w' b H v e Fo Q) (hq: ∀s' cs' gl' dl',s'.nc=cs'.length→Q s' cs' gl' dl'→Q' s' cs' gl' dl'):AP w w' b H v e Fo Q':=by
 obtain ⟨cp',gp',dp',cc',gc',dc',hs',cs',gl',dl',H',s',h1,h2,h3,h4,h6,h5⟩:=h
 exact ⟨cp',gp',dp',cc',gc',dc',hs',cs',gl',dl',H',s',h1,h2,h3,h4,h6,hq _ _ _ _ h2.cn.symm h5⟩
end Go.Proofs.YtenmibfmhccmiaaGreat.W
