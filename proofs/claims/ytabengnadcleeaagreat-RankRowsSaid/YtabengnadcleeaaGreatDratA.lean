/- Layer 8: of which clauses a clause is at hand, plain. -/
import Derived.Test.YtabengnadcleeaaGreatRupA
namespace Go.Proofs.YtabengnadcleeaaGreat.W
open Go Go.Fw Go.RowKit Go.SoP Go.LiP
section
variable {cs cs':List (List Int)} {c d T T':List Int} {v:Int}
end
section
variable {W w w' w0 w2 w3 u:World} {p q:Option Addr} {n m d b nl i:Nat} {id:List (Int × Int)} {hs ks:List Sl} {cs R:List (List Int)} {c l:List Int} {H H' H2:Pt→Sl} {s t s':PSt} {K:List Nat} {vars:Nat}
theorem clone2_ok {e:Nat} (h:Vw Sl.v w p hs) (hn:n=hs.length) (hm:n≤100000):Calls Tryz.prog slices_Clone_int_int_85.id #[.slice p n e] w fun e w'=> ∃ (q:Option Addr) (d:Nat),e= .returned (.slice q hs.length d)∧Ow Sl.v ty_sl_int w' q d hs∧Grow w w'∧(∀b,blk q=some b→w.heap.size≤b):=by
 refine slices_Clone_int_int_85.calls ?_
 refine cnd_i (fun s=> ?_) (fun s=> ?_)
 · have hp:p=none:=by cases p<;>simp at s ⊢
   subst hp
   have:hs= []:=by
    rcases hs with _| ⟨x,l⟩
    · rfl
    · obtain ⟨a,ha,_⟩:=h 0 (by simp);cases ha
   subst this
   exact ⟨none,0,rfl,Ow.nil _ _ _,Mod.refl w,fun b hb=>by simp [blk] at hb⟩
 · intro n1 w1 h1
   refine Ow.appV (l:=([]:List Sl)) sl_sl_int (New.empty h1) (h.grow h1.mod) rfl hn (fun _=>rfl) (by simp;omega) fun w2 p2 c2 o2 m2 hp2 hs2=> ?_
   rw [List.nil_append] at o2 ⊢
   have e1:=h1.num
   refine ⟨p2,c2,rfl,o2,h1.mod.then m2 fun b hb e=> ?_,fun b hb=> ?_⟩
   · have:=blk_some e;omega
   · have:=h1.mod.size
     rcases hp2 with rfl|rfl
     · have:=blk_some hb;omega
     · have:=blk_some hb;omega
end
end Go.Proofs.YtabengnadcleeaaGreat.W
