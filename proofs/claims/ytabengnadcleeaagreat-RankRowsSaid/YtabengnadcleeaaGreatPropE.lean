/- Layer 6: what follows by units, by the document: plain. -/
import Derived.Test.YtabengnadcleeaaGreatPropD
namespace Go.Proofs.YtabengnadcleeaaGreat.W
open Go Go.Fw Go.RowKit Go.SoP Go.LiP
section
variable {s t u s':PSt} {l x y:Int} {i:Nat}
def PSt.cls (s:PSt) (c:List Int):Prop:= ∃i,s.There i∧s.R (.a i)=c
def PSt.dec (s:PSt):List Int:=(s.R .be).map fun e=> (s.R .tr).getD e.toNat 0
theorem Good.dec_mem (g:Good s): ∀x∈s.dec,x∈s.R .tr:=by
 intro x hx
 obtain ⟨e,he,rfl⟩:=List.mem_map.1 hx
 obtain ⟨j,hj,e2⟩:=List.mem_iff_getElem.1 he
 have:=g.bl j hj
 simp only [List.getD,List.getElem?_eq_getElem hj,Option.getD_some,e2] at this
 exact getD_mem' (by omega)
theorem dec_at {p:Nat} (h:(p:Int)∈s.R .be):(s.R .tr).getD p 0∈s.dec:=
 List.mem_map.2 ⟨(p:Int),h,by rw [Int.toNat_natCast]⟩
theorem Good.trail_all (g:Good s) {Q:Int→Prop} (hd: ∀x∈s.dec,Q x) (hc: ∀c,s.cls c→∀l∈c,(∀y∈c,y≠l→Q (-y))→ -l ∉ s.R .tr→Q l): ∀x∈s.R .tr,Q x:=by
 have key: ∀p,p< (s.R .tr).length→Q ((s.R .tr).getD p 0):=by
  intro p
  induction p using Nat.strongRecOn with
  |_ p ih=>
   intro hp
   by_cases hb:(p:Int)∈s.R .be
   · exact hd _ (dec_at hb)
   · obtain ⟨i,e1,e2,e3,e4⟩:=g.re2 p hp hb
     refine hc _ ⟨i,e2,rfl⟩ _ ((g.ca i e2 _).1 e3) (fun y hy hne=> ?_) (g.cons (getD_mem' hp))
     have:=e4 y ((g.ca i e2 y).2 hy) hne
     obtain ⟨q,hq,e⟩:=List.mem_iff_getElem.1 this
     rw [List.length_take] at hq
     have e5:(s.R .tr).getD q 0= -y:=by
      rw [List.getElem_take] at e
      simp [List.getD,show q< (s.R .tr).length by omega,e]
     rw [← e5]
     exact ih q (by omega) (by omega)
 intro x hx
 obtain ⟨p,hp,e⟩:=List.mem_iff_getElem.1 hx
 have:=key p hp
 simp only [List.getD,List.getElem?_eq_getElem hp,Option.getD_some,e] at this
 exact this
end
section
variable {w w' w0 w2 w3:World} {b:Nat} {H H' H2:Pt→Sl} {s t u s' T:PSt} {cp gp dp:Option Addr} {hs:List Sl} {cs:List (List Int)} {gl:List Bool} {dl:List Int} {cn cc gn gc dn dc:Nat}
theorem sl_sl:slOk Tryz.prog ty_sl_sl_int ty_sl_int 24=true:=by kernel_rfl
end
end Go.Proofs.YtabengnadcleeaaGreat.W
