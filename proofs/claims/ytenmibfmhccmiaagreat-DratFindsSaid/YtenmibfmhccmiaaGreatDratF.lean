/- Layer 8: why places are no core. -/
import Derived.Test.YtenmibfmhccmiaaGreatDratE
set_option linter.unusedVariables false
set_option linter.unusedSimpArgs false
namespace Go.Proofs.YtenmibfmhccmiaaGreat.W
open Go Go.Fw Go.RowKit Go.SoP Go.LiP
variable {W w w' w0 w2 w3 u:World} {p q p1 p2:Option Addr} {n m d i c t n1 n2 d1 d2:Nat} {k:Int} {hs tl:List Sl} {cs:List (List Int)} {l c1 c2:List Int} {ss:List So} {al:List Stp}
def rsP (n:Nat) (l:List Int):Prop:= ∀i,i<l.length→0≤l.getD i 0∧l.getD i 0<n∧(0<i→l.getD (i - 1) 0<l.getD i 0)
abbrev clA (cs:List (List Int)) (v:Int):List Int:=cs.getD v.toNat []
abbrev stA (al:List Stp) (v:Int):Stp:=al.getD v.toNat st0
def corHI (cs:List (List Int)) (al:List Stp) (c1 c2:List Int) (j:Nat):List (List Int):=c1.map (clA cs)++ (c2.take j).map fun v=> (stA al v).2
def CorOk (cs:List (List Int)) (al:List Stp) (c1 c2:List Int):Prop:=(∀j,j<c2.length→uB (corHI cs al c1 c2 j) (stA al (c2.getD j 0)).2)∧∃j,j<c2.length∧(stA al (c2.getD j 0)).2= []
def NoDel (al:List Stp) (c2:List Int):Prop:= ∀j,j<c2.length→(stA al (c2.getD j 0)).1=false
def MayC (k:Int) (cs:List (List Int)) (al:List Stp) (c1 c2:List Int):Prop:=(cnfB k cs=true∧mayP al=true)∧rsP cs.length c1∧rsP al.length c2∧NoDel al c2
def ChkR (k:Int) (cs:List (List Int)) (al:List Stp) (c1 c2:List Int) (E:Int):Prop:=(¬MayC k cs al c1 c2∧E=1)∨(MayC k cs al c1 c2∧¬CorOk cs al c1 c2∧E=7)∨(MayC k cs al c1 c2∧CorOk cs al c1 c2∧E=0)
theorem ChkR.uniq {E E':Int} (h:ChkR k cs al c1 c2 E) (h':ChkR k cs al c1 c2 E'):E=E':=by
 rcases h with ⟨a,rfl⟩| ⟨a,b,rfl⟩| ⟨a,b,rfl⟩<;>rcases h' with ⟨a',rfl⟩| ⟨a',b',rfl⟩| ⟨a',b',rfl⟩<;>first|rfl|exact absurd ‹_› ‹_›|exact absurd a' a|exact absurd a a'|exact absurd b' b|exact absurd b b'
end Go.Proofs.YtenmibfmhccmiaaGreat.W
namespace Go.Proofs.YtenmibfmhccmiaaGreat.W
open Go Go.Fw Go.RowKit Go.SoP Go.LiP
variable {W w w' w0 w2 w3 u:World} {p q p1 p2:Option Addr} {n m d i c t n1 n2 d1 d2:Nat} {k:Int} {hs tl:List Sl} {cs:List (List Int)} {l c1 c2:List Int} {ss:List So} {al:List Stp}
def stH (x:Bool × Sl):List Value:= [.bool x.1,.slice x.2.p x.2.n x.2.c]
structure StV (w:World) (hh:List (Bool × Sl)) (al:List Stp):Prop where
 b:hh.map (·.1)=al.map (·.1)
 v:VR (Value.int .i64) w (hh.map (·.2)) (al.map (·.2))
theorem StV.nil:StV w [] []:=⟨rfl,VR.nil⟩
theorem StV.len {hh:List (Bool × Sl)} (h:StV w hh al):hh.length=al.length:=by have:=congrArg List.length h.b;simpa using this
theorem StV.app {hh gg:List (Bool × Sl)} {bl:List Stp} (h:StV w hh al) (g:StV w gg bl):StV w (hh++gg) (al++bl):=⟨by rw [List.map_append,List.map_append,h.b,g.b],by rw [List.map_append,List.map_append];exact h.v.app g.v⟩
theorem StV.one {s:Sl} {x:Stp} (h:Vw (Value.int .i64) w s.p x.2) (hn:s.n=x.2.length) (hm:s.n≤maxLen):StV w [(x.1,s)] [x]:=⟨rfl,VR.one h hn hm⟩
theorem StV.keep {S:Nat→Prop} {hh:List (Bool × Sl)} (h:StV w hh al) (m:Mod S w w') (hS: ∀k,rfoot (hh.map (·.2)) k→¬S k):StV w' hh al:=⟨h.b,h.v.keep m hS⟩
theorem StV.grow {hh:List (Bool × Sl)} (h:StV w hh al) (m:Grow w w'):StV w' hh al:=h.keep m fun _ _=>id
theorem StV.sv {hh:List (Bool × Sl)} (h:StV w hh al) (o:Vr 2 stH w p hh):SV w p al:=by
 intro i hi
 have hn:=h.len
 obtain ⟨a,rfl,hc⟩:=o i (by omega)
 obtain ⟨h1,h2,h3⟩:=h.v.r i (by simpa using hi)
 rw [getD_map1 _ _ _ _ (false,Sl.nil) (by omega),getD_map1 _ _ _ _ st0 hi] at h1 h3
 rw [getD_map1 _ _ _ _ (false,Sl.nil) (by omega)] at h2
 have e1:hh.getD i (false,Sl.nil)=hh[i]:=by simp [List.getD,show i<hh.length by omega]
 have eb:(hh[i]'(by omega)).1=(al.getD i st0).1:=by
  have:=congrArg (fun l:List Bool=>l.getD i false) h.b
  rw [getD_map1 _ _ _ _ (false,Sl.nil) (by omega),getD_map1 _ _ _ _ st0 hi,e1] at this
  exact this
 rw [e1] at h1 h2 h3
 refine ⟨a,hh[i].2,rfl,?_,h1,h2,h3⟩
 rw [← eb]
 exact hc
end Go.Proofs.YtenmibfmhccmiaaGreat.W
namespace Go.Proofs.YtenmibfmhccmiaaGreat.W
open Go Go.Fw Go.RowKit Go.SoP Go.LiP
variable {W w w' w0 w2 w3 u:World} {p q p1 p2:Option Addr} {n m d i c t n1 n2 d1 d2:Nat} {k:Int} {hs tl:List Sl} {cs:List (List Int)} {l c1 c2:List Int} {ss:List So} {al bl:List Stp}
theorem steps_of_rdc {v:Value} (h:RdV w (.sl (.cons .bool (.cons (.sl (.int .i64)) .nil))) v): ∃p n c al,v= .slice p n c∧n=al.length∧n≤c∧SV w p al:=by
 have h0:=h
 obtain ⟨p,n,c,al,rfl,hn,_,hs⟩:=steps_of_rd h
 refine ⟨p,n,c,al,rfl,hn,?_,hs⟩
 rcases h0 with e| ⟨a,len,cap,e,h1,h2,h3⟩
 · injection e with e1 e2 e3;omega
 · injection e with e1 e2 e3;omega
theorem DratFinds_law (v0 v1:Value) (W:World) (h0:RdV W (.cons (.int .i64) (.cons (.sl (.sl (.int .i64))) .nil)) v0) (h1:RdV W (.sl (.cons .bool (.cons (.sl (.int .i64)) .nil))) v1):Calls Tryz.prog fathomlaw08_DratFinds.id #[v0,v1] W fun e W'=>e= .returned (.bool true)∧Grow W W':=by
 obtain ⟨k,q,j,d,hs,cs,rfl,hj,_,hc,_⟩:=cnf_of_rd h0
 obtain ⟨p,n,c,al,rfl,hn,hx,ha⟩:=steps_of_rdc h1
 exact DratFinds_calls hc hj ha hn hx
end Go.Proofs.YtenmibfmhccmiaaGreat.W
