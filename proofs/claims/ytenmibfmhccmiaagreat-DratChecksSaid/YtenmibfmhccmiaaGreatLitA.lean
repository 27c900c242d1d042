/- slices.IndexFunc and slices.ContainsFunc over ints. -/
import Derived.Test.YtenmibfmhccmiaaGreatGenDrat
import Derived.Test.YtenmibfmhccmiaaGreatFwView
import Derived.Test.YtenmibfmhccmiaaGreatFwMore
set_option linter.unusedVariables false
set_option linter.unusedSimpArgs false
namespace Go.Proofs.YtenmibfmhccmiaaGreat.W
open Go Go.Fw Go.RowKit
theorem getD_mem {l:List Int} {t:Nat} (h:t<l.length) (d:Int):l.getD t d∈l:=by
 simp [List.getD,h]
theorem indexFunc_ok {p:Option Addr} {n c:Nat} {l:List Int} {w:World} (h:Vw (Value.int .i64) w p l) (hn:n=l.length) (hm:n≤maxLen) {fid:FuncId} {fv:Array Value} (he:entB Tryz.prog fid=true) (pr:Int→Bool)
 (hf: ∀x∈l,∀w',Grow w w'→Calls Tryz.prog fid (#[]++ #[.int .i64 x]++fv) w' fun e w2=>e= .returned (.bool (pr x))∧Grow w' w2):
 Calls Tryz.prog slices_IndexFunc_int_int.id #[.slice p n c,.func (.func fid) #[] fv] w fun e w'=> (∃r:Int,e= .returned (.int .i64 r)∧decide (r≥0)=l.any pr)∧Grow w w':=by
 refine slices_IndexFunc_int_int.calls ?_
 unfold maxLen at hm
 refine ⟨fun v w' k=> ∃t:Nat,v=t∧t≤l.length∧k+t=l.length∧(l.take t).any pr=false∧Grow w w',⟨l.length,0,rfl,by omega,rfl,rfl,Mod.refl w⟩,?_⟩
 rintro v w5 k _ ⟨t,rfl,ht,hk,ha,G⟩
 refine cnd_i (fun q=> ?_) (fun q=> ?_)<;>simp only [decide_eq_true_eq,decide_eq_false_iff_not] at q
 · have q':t<l.length:=by omega
   refine (h.grow G).ix 0 (by omega) hn q fun a e=> ?_
   refine ⟨_,e,?_⟩
   rw [he]
   show Calls _ _ _ _ _
   rw [Int.toNat_natCast]
   refine (hf _ (getD_mem q' 0) w5 G).mono ?_
   rintro e w8 ⟨rfl,g8⟩
   refine ⟨_,rfl,cnd_i (fun s=> ?_) (fun s=> ?_)⟩
   · refine ⟨⟨(t:Int),rfl,?_⟩,G.trans g8⟩
     rw [decide_eq_true (by omega:(t:Int)≥0)]
     exact (List.any_eq_true.2 ⟨_,getD_mem q' 0,s⟩).symm
   · refine ⟨k - 1,by omega,t+1,?_,by omega,by omega,?_,G.trans g8⟩
     · rw [wrap64_of (by omega) (by omega)];omega
     · rw [List.take_add_one,List.any_append,ha]
       have:l[t]? =some (l.getD t 0):=by simp [List.getD,q']
       simp only [this,Option.toList_some,List.any_cons,List.any_nil,s,Bool.or_false]
 · refine ⟨⟨-1,rfl,?_⟩,G⟩
   have:t=l.length:=by omega
   subst this
   rw [List.take_length] at ha
   rw [ha];rfl
theorem containsFunc_ok {p:Option Addr} {n c:Nat} {l:List Int} {w:World} (h:Vw (Value.int .i64) w p l) (hn:n=l.length) (hm:n≤maxLen) {fid:FuncId} {fv:Array Value} (he:entB Tryz.prog fid=true) (pr:Int→Bool)
 (hf: ∀x∈l,∀w',Grow w w'→Calls Tryz.prog fid (#[]++ #[.int .i64 x]++fv) w' fun e w2=>e= .returned (.bool (pr x))∧Grow w' w2):
 Calls Tryz.prog slices_ContainsFunc_int_int.id #[.slice p n c,.func (.func fid) #[] fv] w fun e w'=>e= .returned (.bool (l.any pr))∧Grow w w':=by
 refine slices_ContainsFunc_int_int.calls ?_
 refine (indexFunc_ok h hn hm he pr hf).mono ?_
 rintro e w' ⟨⟨r,rfl,hr⟩,g⟩
 exact ⟨_,rfl,by rw [hr],g⟩
theorem args1 (v:Value):(#[]++ #[v]++ #[]:Array Value)= #[v]:=by simp
end Go.Proofs.YtenmibfmhccmiaaGreat.W
namespace Go.Proofs.YtenmibfmhccmiaaGreat.W
open Go Go.Fw Go.RowKit
def litB (l:Int):Bool:=decide (l≠0∧ -1048576≤l∧l≤1048576)
def clB (l:List Int):Bool:=l.all litB && decide (l.length≤4096)
theorem is_ok1 (l:Int) (w:World):Calls Tryz.prog lit_is.id #[.int .i64 l] w fun e w'=>e= .returned (.bool (litB l))∧Grow w w':=by
 refine lit_is.calls ?_
 refine cnd_i (fun h1=>cnd_i (fun h2=> ⟨?_,Mod.refl w⟩) (fun h2=> ⟨?_,Mod.refl w⟩)) (fun h1=> ⟨?_,Mod.refl w⟩)
 · simp only [bne_iff_ne,ne_eq,decide_eq_true_eq,ge_iff_le] at h1 h2
   congr 2
   unfold litB
   exact decide_eq_decide.2 (by omega)
 · simp only [bne_iff_ne,ne_eq,decide_eq_false_iff_not,ge_iff_le] at h1 h2
   congr 2
   unfold litB
   exact (decide_eq_false (by omega)).symm
 · simp only [bne_eq_false_iff_eq] at h1
   congr 2
   unfold litB
   exact (decide_eq_false (by omega)).symm
theorem check1_ok (l:Int) (w:World):Calls Tryz.prog lit_Check_1.id #[.int .i64 l] w fun e w'=>e= .returned (.bool (!litB l))∧Grow w w':=by
 refine lit_Check_1.calls ?_
 refine (is_ok1 l w).mono ?_
 rintro e w' ⟨rfl,g⟩
 exact ⟨_,rfl,rfl,g⟩
theorem check1_ent:entB Tryz.prog lit_Check_1.id=true:=by kernel_rfl
theorem any_not {l:List Int}:l.any (fun x=> !litB x)= !l.all litB:=by
 induction l with
 |nil=>rfl
 |cons x l ih=>simp [ih]
theorem litCheck_ok {p:Option Addr} {n c:Nat} {l:List Int} {w:World} (h:Vw (Value.int .i64) w p l) (hn:n=l.length) (hm:n≤maxLen):
 Calls Tryz.prog lit_Check.id #[.slice p n c] w fun e w'=>e= .returned (.int .i64 (if clB l then 0 else 1))∧Grow w w':=by
 refine lit_Check.calls ?_
 refine cnd_i (fun q=> ⟨?_,Mod.refl w⟩) (fun q=> ?_)<;>simp only [decide_eq_true_eq,decide_eq_false_iff_not] at q
 · have:clB l=false:=by unfold clB;rw [decide_eq_false (by omega)];simp
   rw [this];rfl
 · have hf: ∀x∈l,∀w',Grow w w'→Calls Tryz.prog lit_Check_1.id (#[]++ #[.int .i64 x]++ #[]) w' fun e w2=>e= .returned (.bool (!litB x))∧Grow w' w2:=fun x _ w' _=>by
    rw [args1]
    exact check1_ok x w'
   refine (containsFunc_ok h hn hm check1_ent (fun x=> !litB x) hf).mono ?_
   rintro e w' ⟨rfl,g⟩
   have:clB l=l.all litB:=by unfold clB;rw [decide_eq_true (by omega)];simp
   refine ⟨_,rfl,?_⟩
   rw [any_not,this]
   cases l.all litB
   · exact ⟨rfl,g⟩
   · exact ⟨rfl,g⟩
theorem refInts_ok {p q:Option Addr} {n m c d:Nat} {l k:List Int} {w:World} (h:Vw (Value.int .i64) w p l) (h2:Vw (Value.int .i64) w q k) (hn:n=l.length) (hm:m=k.length) (hx:n≤maxLen):
 Calls Tryz.prog fathomref01_Ints.id #[.slice p n c,.slice q m d] w fun e w'=>e= .returned (.bool (decide (l=k)))∧Grow w w':=by
 refine fathomref01_Ints.calls ?_
 unfold maxLen at hx
 refine cnd_i (fun s=> ⟨?_,Mod.refl w⟩) (fun s=> ?_)
 · have s:(n:Int)≠m:=by simpa using s
   rw [decide_eq_false]
   intro e
   subst e
   omega
 · have s:(n:Int)=m:=by simpa using s
   have hl:k.length=l.length:=by omega
   refine ⟨fun v w' j=> ∃t:Nat,v=t∧t≤l.length∧j+t=l.length∧l.take t=k.take t∧Grow w w',⟨l.length,0,rfl,by omega,rfl,rfl,Mod.refl w⟩,?_⟩
   rintro v w5 j _ ⟨t,rfl,ht,hj,ha,G⟩
   refine cnd_i (fun q=> ?_) (fun q=> ⟨?_,G⟩)<;>simp only [decide_eq_true_eq,decide_eq_false_iff_not] at q
   · have q1:t<l.length:=by omega
     have q2:t<k.length:=by omega
     refine ((h.grow G).drew).ix 0 (by omega) hn q fun a e=> ⟨_,e,((h2.grow G).drew).ix 0 (by omega) hm (by omega) fun a e=> ⟨_,e,?_⟩⟩
     rw [Int.toNat_natCast]
     have e1:l[t]? =some (l.getD t 0):=by simp [List.getD,q1]
     have e2:k[t]? =some (k.getD t 0):=by simp [List.getD,q2]
     refine cnd_i (fun s=> ⟨?_,G.drew⟩) (fun s=> ⟨j - 1,by omega,t+1,?_,by omega,by omega,?_,G.drew⟩)
     · have s:l.getD t 0≠k.getD t 0:=by simpa using s
       rw [decide_eq_false]
       intro e
       subst e
       exact s rfl
     · rw [wrap64_of (by omega) (by omega)];omega
     · have s:l.getD t 0=k.getD t 0:=by simpa using s
       rw [List.take_add_one,List.take_add_one,ha,e1,e2,s]
   · have:t=l.length:=by omega
     subst this
     rw [List.take_length,← hl,List.take_length] at ha
     rw [decide_eq_true ha]
end Go.Proofs.YtenmibfmhccmiaaGreat.W
namespace Go.Proofs.YtenmibfmhccmiaaGreat.W
open Go Go.Fw Go.RowKit
theorem refLit_ok (l:Int) (w:World):Calls Tryz.prog fathomref01_Lit.id #[.int .i64 l] w fun e w'=>e= .returned (.bool (litB l))∧Grow w w':=by
 refine fathomref01_Lit.calls ?_
 refine cnd_i (fun h1=>cnd_i (fun h2=> ⟨?_,Mod.refl w⟩) (fun h2=> ⟨?_,Mod.refl w⟩)) (fun h1=> ⟨?_,Mod.refl w⟩)
 · simp only [bne_iff_ne,ne_eq,decide_eq_true_eq,ge_iff_le] at h1 h2
   congr 2
   unfold litB
   exact decide_eq_decide.2 (by omega)
 · simp only [bne_iff_ne,ne_eq,decide_eq_false_iff_not,ge_iff_le] at h1 h2
   congr 2
   unfold litB
   exact (decide_eq_false (by omega)).symm
 · simp only [bne_eq_false_iff_eq] at h1
   congr 2
   unfold litB
   exact (decide_eq_false (by omega)).symm
end Go.Proofs.YtenmibfmhccmiaaGreat.W
namespace Go.Proofs.YtenmibfmhccmiaaGreat.W
open Go Go.Fw Go.RowKit
theorem refMay_ok {p:Option Addr} {n c:Nat} {l:List Int} {w:World} (h:Vw (Value.int .i64) w p l) (hn:n=l.length) (hm:n≤maxLen):
 Calls Tryz.prog fathomref01_May.id #[.slice p n c] w fun e w'=>e= .returned (.bool (clB l))∧Grow w w':=by
 refine fathomref01_May.calls ?_
 unfold maxLen at hm
 refine ⟨fun v w' k=> ∃t:Nat,v=t∧t≤l.length∧k+t=l.length∧(l.take t).all litB=true∧Grow w w',⟨l.length,0,rfl,by omega,rfl,rfl,Mod.refl w⟩,?_⟩
 rintro v w5 k _ ⟨t,rfl,ht,hk,ha,G⟩
 refine cnd_i (fun q=> ?_) (fun q=> ?_)<;>simp only [decide_eq_true_eq,decide_eq_false_iff_not] at q
 · have q':t<l.length:=by omega
   refine (h.grow G).ix 0 (by omega) hn q fun a e=> ⟨_,e,?_⟩
   rw [Int.toNat_natCast]
   refine (refLit_ok _ w5).mono ?_
   rintro e w8 ⟨rfl,g8⟩
   refine ⟨_,rfl,cnd_i (fun s=> ⟨?_,G.trans g8⟩) (fun s=> ?_)⟩
   · have s:litB (l.getD t 0)=false:=by simpa using s
     have:l.all litB=false:=by
      rw [← Bool.not_eq_true,List.all_eq_true]
      intro h
      rw [h _ (getD_mem q' 0)] at s;cases s
     unfold clB
     rw [this];rfl
   · have s:litB (l.getD t 0)=true:=by simpa using s
     refine ⟨k - 1,by omega,t+1,?_,by omega,by omega,?_,G.trans g8⟩
     · rw [wrap64_of (by omega) (by omega)];omega
     · rw [List.take_add_one,List.all_append,ha]
       have:l[t]? =some (l.getD t 0):=by simp [List.getD,q']
       simp only [this,Option.toList_some,List.all_cons,List.all_nil,s,Bool.and_true]
 · refine ⟨?_,G⟩
   have:t=l.length:=by omega
   subst this
   rw [List.take_length] at ha
   unfold clB
   rw [ha,Bool.true_and]
   congr 2
   exact decide_eq_decide.2 (by omega)
end Go.Proofs.YtenmibfmhccmiaaGreat.W
namespace Go.Proofs.YtenmibfmhccmiaaGreat.W
open Go Go.Fw Go.RowKit
def amt (l:Int):Int:=if l<0 then -l else l
def cnfB (k:Int) (cs:List (List Int)):Bool:=decide (0≤k∧k≤1048576∧cs.length≤262144) && cs.all fun c=>clB c && c.all fun l=>decide (amt l≤k)
theorem amount_ok {l:Int} (h: -9223372036854775808<l) (h2:l<9223372036854775808) (w:World):Calls Tryz.prog lit_amount.id #[.int .i64 l] w fun e w'=>e= .returned (.int .i64 (amt l))∧Grow w w':=by
 refine lit_amount.calls ?_
 unfold lit_amount.w
 rw [wrap64_of (x:=0 - l) (by omega) (by omega)]
 refine ⟨?_,Mod.refl w⟩
 unfold imax amt
 congr 2
 split<;>split<;>omega
theorem litB_bd {l:Int} (h:litB l=true):l≠0∧ -1048576≤l∧l≤1048576:=by simpa [litB] using h
theorem clB_all {c:List Int} (h:clB c=true):(∀l∈c,litB l=true)∧c.length≤4096:=by
 simp only [clB,Bool.and_eq_true,List.all_eq_true,decide_eq_true_eq] at h
 exact h
theorem cnf1_ok {l:Int} (hl: -1048576≤l∧l≤1048576) {b:Nat} {k:Int} {v:Value} {w:World} (h:Has w b #[.int .i64 k,v]):
 Calls Tryz.prog lit_CheckCnf_1.id #[.int .i64 l,.pointer (some ⟨b,0,none⟩)] w fun e w'=>e= .returned (.bool (!decide (amt l≤k)))∧Grow w w':=by
 refine lit_CheckCnf_1.calls ?_
 have e0:(!decide (amt l≤k))=decide (amt l>k):=by
  by_cases h:amt l≤k
  · rw [decide_eq_true h,decide_eq_false (by omega)];rfl
  · rw [decide_eq_false h,decide_eq_true (by omega)];rfl
 rw [e0]
 refine ⟨?_,_,cell_add h.drew rfl,?_⟩
 · refine (amount_ok (by omega) (by omega) _).mono ?_
   rintro e w1 ⟨rfl,g⟩
   exact ⟨_,rfl,_,cell_add (h.drew.grow g) rfl,rfl,(Mod.refl w).drew.trans g⟩
 · refine (amount_ok (by omega) (by omega) _).mono ?_
   rintro e w1 ⟨rfl,g⟩
   exact ⟨_,rfl,rfl,(Mod.refl w).drew.trans g⟩
theorem cnf1_ent:entB Tryz.prog lit_CheckCnf_1.id=true:=by kernel_rfl
theorem args2' (u v:Value):(#[]++ #[u]++ #[v]:Array Value)= #[u,v]:=by simp
theorem any_nle {k:Int} {l:List Int}:l.any (fun x=> !decide (amt x≤k))= !l.all fun x=>decide (amt x≤k):=by
 induction l with
 |nil=>rfl
 |cons x l ih=>rw [List.any_cons,List.all_cons,ih,Bool.not_and]
theorem allTakeS {α:Type} {l:List α} {q:α→Bool} {t:Nat} {d:α} (ht:t<l.length) (h:(l.take t).all q=true) (hq:q (l.getD t d)=true):(l.take (t+1)).all q=true:=by
 rw [List.take_add_one,List.all_append,h]
 have:l[t]? =some (l.getD t d):=by simp [List.getD,ht]
 simp only [this,Option.toList_some,List.all_cons,List.all_nil,hq,Bool.and_true]
theorem allFalse {α:Type} {l:List α} {q:α→Bool} {t:Nat} {d:α} (ht:t<l.length) (hq:q (l.getD t d)=false):l.all q=false:=by
 rw [← Bool.not_eq_true,List.all_eq_true]
 intro h
 rw [h _ (by simp [List.getD,ht])] at hq;cases hq
theorem rowIx {w:World} {q:Option Addr} {hs:List Sl} {cs:List (List Int)} (hc:V2 (Value.int .i64) w q hs cs) {m t:Nat} (hm:m=cs.length) (ht:t<cs.length) {K:Addr→Prop} (hk: ∀a (s:Sl),w.cell? a=some (.slice s.p s.n s.c)→s=hs.getD t Sl.nil→s.n=(cs.getD t []).length→s.n≤maxLen→Vw (Value.int .i64) w s.p (cs.getD t [])→K a):ixK q m (t:Int) 1 K:=
 hc.ix (by omega) hm (by omega) fun a s e hs h1 h2 h3=>hk a s e (by rw [Int.toNat_natCast] at hs;exact hs) (by rw [Int.toNat_natCast] at h1;exact h1) h2 (by rw [Int.toNat_natCast] at h3;exact h3)
theorem checkCnf_ok {w:World} {k:Int} {q:Option Addr} {m d:Nat} {hs:List Sl} {cs:List (List Int)} (hc:V2 (Value.int .i64) w q hs cs) (hm:m=cs.length):
 Calls Tryz.prog lit_CheckCnf.id #[.agg #[.int .i64 k,.slice q m d]] w fun e w'=>e= .returned (.int .i64 (if cnfB k cs then 0 else 1))∧Grow w w':=by
 subst hm
 refine lit_CheckCnf.calls ?_
 intro n1 w2 h2
 have H:=h2.has
 have bad: ∀w',Grow w w'→cnfB k cs=false→(Ending.returned (.int .i64 1)= .returned (.int .i64 (if cnfB k cs=true then 0 else 1))∧Grow w w'):=fun w' g hf=>by rw [hf];exact ⟨rfl,g⟩
 have no: ¬(0≤k∧k≤1048576∧cs.length≤262144)→cnfB k cs=false:=fun h=>by unfold cnfB;rw [decide_eq_false h,Bool.false_and]
 refine ⟨_,cell_add H rfl,cnd_i (fun s1=>bad _ h2.mod (no ?_)) (fun s1=> ⟨_,cell_add H rfl,cnd_i (fun s2=>bad _ h2.mod (no ?_)) (fun s2=> ⟨_,_,_,cell_add H rfl,cnd_i (fun s3=>bad _ h2.mod (no ?_)) (fun s3=> ⟨_,_,_,cell_add H rfl,?_⟩)⟩)⟩)⟩<;>simp only [decide_eq_true_eq,decide_eq_false_iff_not] at*
 · omega
 · omega
 · omega
 · have yes:cnfB k cs=cs.all fun c=>clB c && c.all fun l=>decide (amt l≤k):=by unfold cnfB;rw [decide_eq_true (by omega),Bool.true_and]
   refine ⟨fun v w' z=> ∃t:Nat,v=t∧t≤cs.length∧((cs.take t).all fun c=>clB c && c.all fun l=>decide (amt l≤k))=true∧Grow w2 w'∧z+t=cs.length,⟨_,0,rfl,Nat.zero_le _,rfl,Mod.refl _,rfl⟩,?_⟩
   rintro v w11 z _ ⟨t,rfl,ht,ha,G,hz⟩
   have G2:=h2.mod.trans G
   refine cnd_i (fun s=> ?_) (fun s=> ?_)<;>simp only [decide_eq_true_eq,decide_eq_false_iff_not] at s
   · have ht':t<cs.length:=by omega
     refine rowIx (hc.grow G2) rfl ht' fun a s e _ hsn hsm hv=> ⟨_,_,_,e,(litCheck_ok hv hsn hsm).mono ?_⟩
     rintro e w14 ⟨rfl,g14⟩
     refine ⟨_,rfl,cnd_i (fun s4=>bad _ (G2.trans g14) ?_) (fun s4=> ?_)⟩
     · rw [yes]
       refine allFalse (d:= []) ht' ?_
       cases hh:clB (cs.getD t []) with
       |false=>rfl
       |true=>rw [hh] at s4;simp at s4
     · have hcl:clB (cs.getD t [])=true:=by
        cases hh:clB (cs.getD t []) with
        |false=>rw [hh] at s4;simp at s4
        |true=>rfl
       have H14:=(H.grow G).grow g14
       refine (containsFunc_ok (hv.grow g14) hsn hsm cnf1_ent (fun x=> !decide (amt x≤k)) fun x hx w' g'=> ?_).mono ?_
       · rw [args2']
         have:=litB_bd ((clB_all hcl).1 x hx)
         exact cnf1_ok this.2 (H14.grow g')
       · rintro e w16 ⟨rfl,g16⟩
         rw [any_nle]
         refine ⟨_,rfl,cnd_i (fun s5=>bad _ ((G2.trans g14).trans g16) ?_) (fun s5=> ⟨z - 1,by omega,t+1,by rw [wrap64_of (by omega) (by omega)];omega,ht',allTakeS (d:= []) ht' ha ?_,(G.trans g14).trans g16,by omega⟩)⟩
         · rw [yes]
           refine allFalse (d:= []) ht' ?_
           rw [hcl,Bool.true_and];simpa using s5
         · rw [hcl,Bool.true_and];simpa using s5
   · have:t=cs.length:=by omega
     subst this
     rw [List.take_length] at ha
     rw [yes,ha]
     exact ⟨rfl,G2⟩
end Go.Proofs.YtenmibfmhccmiaaGreat.W
namespace Go.Proofs.YtenmibfmhccmiaaGreat.W
open Go Go.Fw Go.RowKit
theorem refVar_ok {l:Int} (h: -9223372036854775808<l) (w:World) (h2:l<9223372036854775808):Calls Tryz.prog fathomref01_Var.id #[.int .i64 l] w fun e w'=>e= .returned (.int .i64 (amt l))∧Grow w w':=by
 refine fathomref01_Var.calls ?_
 unfold amt
 refine cnd_i (fun q=> ⟨?_,Mod.refl w⟩) (fun q=> ⟨?_,Mod.refl w⟩)<;>simp only [decide_eq_true_eq,decide_eq_false_iff_not] at q
 · rw [if_pos q,wrap64_of (by omega) (by omega)]
   congr 2;omega
 · rw [if_neg q]
end Go.Proofs.YtenmibfmhccmiaaGreat.W
namespace Go.Proofs.YtenmibfmhccmiaaGreat.W
open Go Go.Fw Go.RowKit
theorem refLists_ok {w:World} {p q:Option Addr} {n c m d:Nat} {hs ks:List Sl} {xs ys:List (List Int)} (ha:V2 (Value.int .i64) w p hs xs) (hb:V2 (Value.int .i64) w q ks ys) (hn:n=xs.length) (hm:m=ys.length) (hx:n≤maxLen):
 Calls Tryz.prog fathomref01_Lists.id #[.slice p n c,.slice q m d] w fun e w'=>e= .returned (.bool (decide (xs=ys)))∧Grow w w':=by
 subst hn hm
 unfold maxLen at hx
 refine fathomref01_Lists.calls ?_
 refine cnd_i (fun s=> ⟨?_,Mod.refl w⟩) (fun s=> ?_)
 · have s:(xs.length:Int)≠ys.length:=by simpa using s
   rw [decide_eq_false]
   rintro rfl
   omega
 · have s:(xs.length:Int)=ys.length:=by simpa using s
   have hl:ys.length=xs.length:=by omega
   refine ⟨fun v w' j=> ∃t:Nat,v=t∧t≤xs.length∧j+t=xs.length∧xs.take t=ys.take t∧Grow w w',⟨xs.length,0,rfl,by omega,rfl,rfl,Mod.refl w⟩,?_⟩
   rintro v w5 j _ ⟨t,rfl,ht,hj,he,G⟩
   refine cnd_i (fun q=> ?_) (fun q=> ⟨?_,G⟩)<;>simp only [decide_eq_true_eq,decide_eq_false_iff_not] at q
   · have q1:t<xs.length:=by omega
     have q2:t<ys.length:=by omega
     refine rowIx (ha.grow G).drew rfl q1 fun a s e _ hsn hsm hv=> ⟨_,_,_,e,rowIx (hb.grow G).drew rfl q2 fun a s2 e2 _ hsn2 hsm2 hv2=> ⟨_,_,_,e2,(refInts_ok hv hv2 hsn hsn2 hsm).mono ?_⟩⟩
     rintro e w10 ⟨rfl,g10⟩
     have G10:=G.drew.trans g10
     have e1:xs[t]? =some (xs.getD t []):=by simp [List.getD,q1]
     have e2:ys[t]? =some (ys.getD t []):=by simp [List.getD,q2]
     refine ⟨_,rfl,cnd_i (fun s=> ⟨?_,G10⟩) (fun s=> ⟨j - 1,by omega,t+1,?_,by omega,by omega,?_,G10⟩)⟩
     · have s:xs.getD t []≠ys.getD t []:=by simpa using s
       rw [decide_eq_false]
       rintro rfl
       exact s rfl
     · rw [wrap64_of (by omega) (by omega)];omega
     · have s:xs.getD t []=ys.getD t []:=by simpa using s
       rw [List.take_add_one,List.take_add_one,he,e1,e2,s]
   · have:t=xs.length:=by omega
     subst this
     rw [List.take_length,← hl,List.take_length] at he
     rw [decide_eq_true he]
theorem refSame_ok {w:World} {p q:Option Addr} {j k:Int} {n c m d:Nat} {hs ks:List Sl} {xs ys:List (List Int)} (ha:V2 (Value.int .i64) w p hs xs) (hb:V2 (Value.int .i64) w q ks ys) (hn:n=xs.length) (hm:m=ys.length) (hx:n≤maxLen):
 Calls Tryz.prog fathomref01_Same.id #[.agg #[.int .i64 j,.slice p n c],.agg #[.int .i64 k,.slice q m d]] w fun e w'=>e= .returned (.bool (decide (j=k∧xs=ys)))∧Grow w w':=by
 refine fathomref01_Same.calls ?_
 intro n1 w2 h2 n3 w4 h4
 have H1:=h2.has.old h4
 have H3:=h4.has
 have G:=h2.mod.trans h4.mod
 refine ⟨_,cell_add H1 rfl,_,cell_add H3 rfl,cnd_i (fun s=> ⟨_,_,_,cell_add H1 rfl,_,_,_,cell_add H3 rfl,(refLists_ok (ha.grow G) (hb.grow G) hn hm hx).mono ?_⟩) (fun s=> ⟨?_,G⟩)⟩
 · rintro e w9 ⟨rfl,g9⟩
   refine ⟨_,rfl,?_,G.trans g9⟩
   have s:j=k:=by simpa using s
   congr 2
   exact decide_eq_decide.2 ⟨fun h=> ⟨s,h⟩,fun h=>h.2⟩
 · have s:j≠k:=by simpa using s
   rw [decide_eq_false (fun h=>s h.1)]
end Go.Proofs.YtenmibfmhccmiaaGreat.W
