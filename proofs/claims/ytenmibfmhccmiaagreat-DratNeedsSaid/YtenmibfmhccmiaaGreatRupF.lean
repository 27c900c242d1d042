/- Layer 7: a short proof proves; which clauses are at hand; what a step does; where a proof ends. -/
import Derived.Test.YtenmibfmhccmiaaGreatRupE
import Derived.Test.YtenmibfmhccmiaaGreatRupD
import Derived.Test.YtenmibfmhccmiaaGreatLitA
import Derived.Test.YtenmibfmhccmiaaGreatLitB
set_option linter.unusedVariables false
set_option linter.unusedSimpArgs false
namespace Go.Proofs.YtenmibfmhccmiaaGreat.W
open Go Go.Fw Go.RowKit Go.SoP Go.LiP
variable {W w w' w0 w2 w3 u0 u u':World} {p q:Option Addr} {n m c d:Nat} {k:Int} {hs ks:List Sl} {cs:List (List Int)} {l:List Int}
theorem has_vw {α:Type} {f:α→Value} {b:Nat} {a:Array Value} {l:List α} (h:Has w b a) (hc:a.toList=l.map f):Vw f w (some ⟨b,0,none⟩) l:=by
 intro j hj
 refine ⟨_,rfl,cell_add h ?_⟩
 rw [Nat.zero_add,← Array.getElem?_toList,hc,List.getElem?_map,List.getElem?_eq_getElem hj]
 rfl
end Go.Proofs.YtenmibfmhccmiaaGreat.W
namespace Go.Proofs.YtenmibfmhccmiaaGreat.W
open Go Go.Fw Go.RowKit Go.SoP Go.LiP
variable {W w w' w0 w2 w3 u0 u u':World} {p q r:Option Addr} {n m c d:Nat} {k:Int} {hs ks:List Sl} {cs:List (List Int)} {l:List Int}
theorem cnf_of_rdc {v:Value} (h:RdV w (.cons (.int .i64) (.cons (.sl (.sl (.int .i64))) .nil)) v): ∃k q j d hs cs,v= .agg #[.int .i64 k,.slice q j d]∧j=cs.length∧j≤d∧V2 (Value.int .i64) w q hs cs:=by
 obtain ⟨cs,rfl,x,y,rfl,⟨k,rfl,hk⟩,z,u,rfl,hz,rfl⟩:=h
 have hv: ∃s,z= [s]∧RdV w (.sl (.sl (.int .i64))) s:=by
  rcases hz with rfl| ⟨a',len',cap',rfl,g⟩
  · exact ⟨_,rfl,.inl rfl⟩
  · exact ⟨_,rfl,.inr ⟨a',len',cap',rfl,g⟩⟩
 obtain ⟨s,rfl,hs'⟩:=hv
 obtain ⟨q,m,d,ss,rows,rfl,hm,hm1,hm2,hc⟩:=rows_of_rd (fun v=>ints_of_rd') hs'
 exact ⟨k,q,m,d,ss,rows,rfl,hm,hm1,hc⟩
end Go.Proofs.YtenmibfmhccmiaaGreat.W
