/- slices.IndexFunc and slices.ContainsFunc over ints. -/
import Derived.Test.YtenmibfmhccmiaaGreatGenDrat
import Derived.Test.YtenmibfmhccmiaaGreatFwView
import Derived.Test.YtenmibfmhccmiaaGreatFwMore
set_option linter.unusedVariables false
set_option linter.unusedSimpArgs false
namespace Go.Proofs.YtenmibfmhccmiaaGreat.W
open Go Go.Fw Go.RowKit
theorem getD_mem {l:List Int} {t:Nat} (h:t<l.length) (d:Int):l.getD t d∈l:=by
 simp [List.getD,h]
theorem indexFunc_ok {p:Option Addr} {n c:Nat} {l:List Int} {w:World} (h:Vw (Value.int .i64) w p l) (hn:n=l.length) (hm:n≤maxLen) {fid:FuncId} {fv:Array Value} (he:entB Tryz.prog fid=true) (pr:Int→Bool)
 (hf: ∀x∈l,∀w',Grow w w'→Calls Tryz.prog fid (#[]++ #[.int .i64 x]++fv) w' fun e w2=>e= .returned (.bool (pr x))∧Grow w' w2):
 Calls Tryz.prog slices_IndexFunc_int_int.id #[.slice p n c,.func (.func fid) #[] fv] w fun e w'=> (∃r:Int,e= .returned (.int .i64 r)∧decide (r≥0)=l.any pr)∧Grow w w':=by
 refine slices_IndexFunc_int_int.calls ?_
 unfold maxLen at hm
 refine ⟨fun v w' k=> ∃t:Nat,v=t∧t≤l.length∧k+t=l.length∧(l.take t).any pr=false∧Grow w w',⟨l.length,0,rfl,by omega,rfl,rfl,Mod.refl w⟩,?_⟩
 rintro v w5 k _ ⟨t,rfl,ht,hk,ha,G⟩
 refine cnd_i (fun q=> ?_) (fun q=> ?_)<;>simp only [decide_eq_true_eq,decide_eq_false_iff_not] at q
 · have q':t<l.length:=by omega
   refine (h.grow G).ix 0 (by omega) hn q fun a e=> ?_
   refine ⟨_,e,?_⟩
   rw [he]
   show Calls _ _ _ _ _
   rw [Int.toNat_natCast]
   refine (hf _ (getD_mem q' 0) w5 G).mono ?_
   rintro e w8 ⟨rfl,g8⟩
   refine ⟨_,rfl,cnd_i (fun s=> ?_) (fun s=> ?_)⟩
   · refine ⟨⟨(t:Int),rfl,?_⟩,G.trans g8⟩
     rw [decide_eq_true (by omega:(t:Int)≥0)]
     exact (List.any_eq_true.2 ⟨_,getD_mem q' 0,s⟩).symm
   · refine ⟨k - 1,by omega,t+1,?_,by omega,by omega,?_,G.trans g8⟩
     · rw [wrap64_of (by omega) (by omega)];omega
     · rw [List.take_add_one,List.any_append,ha]
       have:l[t]? =some (l.getD t 0):=by simp [List.getD,q']
       simp only [this,Option.toList_some,List.any_cons,List.any_nil,s,Bool.or_false]
 · refine ⟨⟨-1,rfl,?_⟩,G⟩
   have:t=l.length:=by omega
   subst this
   rw [List.take_length] at ha
   rw [ha];rfl
theorem containsFunc_ok {p:Option Addr} {n c:Nat} {l:List Int} {w:World} (h:Vw (Value.int .i64) w p l) (hn:n=l.length) (hm:n≤maxLen) {fid:FuncId} {fv:Array Value} (he:entB Tryz.prog fid=true) (pr:Int→Bool)
 (hf: ∀x∈l,∀w',Grow w w'→Calls Tryz.prog fid (#[]++ #[.int .i64 x]++fv) w' fun e w2=>e= .returned (.bool (pr x))∧Grow w' w2):
 Calls Tryz.prog slices_ContainsFunc_int_int.id #[.slice p n c,.func (.func fid) #[] fv] w fun e w'=>e= .returned (.bool (l.any pr))∧Grow w w':=by
 refine slices_ContainsFunc_int_int.calls ?_
 refine (indexFunc_ok h hn hm he pr hf).mono ?_
 rintro e w' ⟨⟨r,rfl,hr⟩,g⟩
 exact ⟨_,rfl,by rw [hr],g⟩
theorem args1 (v:Value):(#[]++ #[v]++ #[]:Array Value)= #[v]:=by simp
end Go.Proofs.YtenmibfmhccmiaaGreat.W
namespace Go.Proofs.YtenmibfmhccmiaaGreat.W
open Go Go.Fw Go.RowKit
def litB (l:Int):Bool:=decide (l≠0∧ -1048576≤l∧l≤1048576)
def clB (l:List Int):Bool:=l.all litB && decide (l.length≤4096)
theorem is_ok1 (l:Int) (w:World):Calls Tryz.prog lit_is.id #[.int .i64 l] w fun e w'=>e= .returned (.bool (litB l))∧Grow w w':=by
 refine lit_is.calls ?_
 refine cnd_i (fun h1=>cnd_i (fun h2=> ⟨?_,Mod.refl w⟩) (fun h2=> ⟨?_,Mod.refl w⟩)) (fun h1=> ⟨?_,Mod.refl w⟩)
 · simp only [bne_iff_ne,ne_eq,decide_eq_true_eq,ge_iff_le] at h1 h2
   congr 2
   unfold litB
   exact decide_eq_decide.2 (by omega)
 · simp only [bne_iff_ne,ne_eq,decide_eq_false_iff_not,ge_iff_le] at h1 h2
   congr 2
   unfold litB
   exact (decide_eq_false (by omega)).symm
 · simp only [bne_eq_false_iff_eq] at h1
   congr 2
   unfold litB
   exact (decide_eq_false (by omega)).symm
theorem check1_ok (l:Int) (w:World):Calls Tryz.prog lit_Check_1.id #[.int .i64 l] w fun e w'=>e= .returned (.bool (!litB l))∧Grow w w':=by
 refine lit_Check_1.calls ?_
 refine (is_ok1 l w).mono ?_
 rintro e w' ⟨rfl,g⟩
 exact ⟨_,rfl,rfl,g⟩
theorem check1_ent:entB Tryz.prog lit_Check_1.id=true:=by kernel_rfl
theorem any_not {l:List Int}:l.any (fun x=> !litB x)= !l.all litB:=by
 induction l with
 |nil=>rfl
 |cons x l ih=>simp [ih]
theorem litCheck_ok {p:Option Addr} {n c:Nat} {l:List Int} {w:World} (h:Vw (Value.int .i64) w p l) (hn:n=l.length) (hm:n≤maxLen):
 Calls Tryz.prog lit_Check.id #[.slice p n c] w fun e w'=>e= .returned (.int .i64 (if clB l then 0 else 1))∧Grow w w':=by
 refine lit_Check.calls ?_
 refine cnd_i (fun q=> ⟨?_,Mod.refl w⟩) (fun q=> ?_)<;>simp only [decide_eq_true_eq,decide_eq_false_iff_not] at q
 · have:clB l=false:=by unfold clB;rw [decide_eq_false (by omega)];simp
   rw [this];rfl
 · have hf: ∀x∈l,∀w',Grow w w'→Calls Tryz.prog lit_Check_1.id (#[]++ #[.int .i64 x]++ #[]) w' fun e w2=>e= .returned (.bool (!litB x))∧Grow w' w2:=fun x _ w' _=>by
    rw [args1]
    exact check1_ok x w'
   refine (containsFunc_ok h hn hm check1_ent (fun x=> !litB x) hf).mono ?_
   rintro e w' ⟨rfl,g⟩
   have:clB l=l.all litB:=by unfold clB;rw [decide_eq_true (by omega)];simp
   refine ⟨_,rfl,?_⟩
   rw [any_not,this]
   cases l.all litB
   · exact ⟨rfl,g⟩
   · exact ⟨rfl,g⟩
end Go.Proofs.YtenmibfmhccmiaaGreat.W
namespace Go.Proofs.YtenmibfmhccmiaaGreat.W
open Go Go.Fw Go.RowKit
theorem refLit_ok (l:Int) (w:World):Calls Tryz.prog fathomref01_Lit.id #[.int .i64 l] w fun e w'=>e= .returned (.bool (litB l))∧Grow w w':=by
 refine fathomref01_Lit.calls ?_
 refine cnd_i (fun h1=>cnd_i (fun h2=> ⟨?_,Mod.refl w⟩) (fun h2=> ⟨?_,Mod.refl w⟩)) (fun h1=> ⟨?_,Mod.refl w⟩)
 · simp only [bne_iff_ne,ne_eq,decide_eq_true_eq,ge_iff_le] at h1 h2
   congr 2
   unfold litB
   exact decide_eq_decide.2 (by omega)
 · simp only [bne_iff_ne,ne_eq,decide_eq_false_iff_not,ge_iff_le] at h1 h2
   congr 2
   unfold litB
   exact (decide_eq_false (by omega)).symm
 · simp only [bne_eq_false_iff_eq] at h1
   congr 2
   unfold litB
   exact (decide_eq_false (by omega)).symm
end Go.Proofs.YtenmibfmhccmiaaGreat.W
namespace Go.Proofs.YtenmibfmhccmiaaGreat.W
open Go Go.Fw Go.RowKit
theorem refMay_ok {p:Option Addr} {n c:Nat} {l:List Int} {w:World} (h:Vw (Value.int .i64) w p l) (hn:n=l.length) (hm:n≤maxLen):
 Calls Tryz.prog fathomref01_May.id #[.slice p n c] w fun e w'=>e= .returned (.bool (clB l))∧Grow w w':=by
 refine fathomref01_May.calls ?_
 unfold maxLen at hm
 refine ⟨fun v w' k=> ∃t:Nat,v=t∧t≤l.length∧k+t=l.length∧(l.take t).all litB=true∧Grow w w',⟨l.length,0,rfl,by omega,rfl,rfl,Mod.refl w⟩,?_⟩
 rintro v w5 k _ ⟨t,rfl,ht,hk,ha,G⟩
 refine cnd_i (fun q=> ?_) (fun q=> ?_)<;>simp only [decide_eq_true_eq,decide_eq_false_iff_not] at q
 · have q':t<l.length:=by omega
   refine (h.grow G).ix 0 (by omega) hn q fun a e=> ⟨_,e,?_⟩
   rw [Int.toNat_natCast]
   refine (refLit_ok _ w5).mono ?_
   rintro e w8 ⟨rfl,g8⟩
   refine ⟨_,rfl,cnd_i (fun s=> ⟨?_,G.trans g8⟩) (fun s=> ?_)⟩
   · have s:litB (l.getD t 0)=false:=by simpa using s
     have:l.all litB=false:=by
      rw [← Bool.not_eq_true,List.all_eq_true]
      intro h
      rw [h _ (getD_mem q' 0)] at s;cases s
     unfold clB
     rw [this];rfl
   · have s:litB (l.getD t 0)=true:=by simpa using s
     refine ⟨k - 1,by omega,t+1,?_,by omega,by omega,?_,G.trans g8⟩
     · rw [wrap64_of (by omega) (by omega)];omega
     · rw [List.take_add_one,List.all_append,ha]
       have:l[t]? =some (l.getD t 0):=by simp [List.getD,q']
       simp only [this,Option.toList_some,List.all_cons,List.all_nil,s,Bool.and_true]
 · refine ⟨?_,G⟩
   have:t=l.length:=by omega
   subst this
   rw [List.take_length] at ha
   unfold clB
   rw [ha,Bool.true_and]
   congr 2
   exact decide_eq_decide.2 (by omega)
end Go.Proofs.YtenmibfmhccmiaaGreat.W
namespace Go.Proofs.YtenmibfmhccmiaaGreat.W
open Go Go.Fw Go.RowKit
def amt (l:Int):Int:=if l<0 then -l else l
def cnfB (k:Int) (cs:List (List Int)):Bool:=decide (0≤k∧k≤1048576∧cs.length≤262144) && cs.all fun c=>clB c && c.all fun l=>decide (amt l≤k)
theorem amount_ok {l:Int} (h: -9223372036854775808<l) (h2:l<9223372036854775808) (w:World):Calls Tryz.prog lit_amount.id #[.int .i64 l] w fun e w'=>e= .returned (.int .i64 (amt l))∧Grow w w':=by
 refine lit_amount.calls ?_
 unfold lit_amount.w
 rw [wrap64_of (x:=0 - l) (by omega) (by omega)]
 refine ⟨?_,Mod.refl w⟩
 unfold imax amt
 congr 2
 split<;>split<;>omega
theorem litB_bd {l:Int} (h:litB l=true):l≠0∧ -1048576≤l∧l≤1048576:=by simpa [litB] using h
theorem clB_all {c:List Int} (h:clB c=true):(∀l∈c,litB l=true)∧c.length≤4096:=by
 simp only [clB,Bool.and_eq_true,List.all_eq_true,decide_eq_true_eq] at h
 exact h
theorem cnf1_ok {l:Int} (hl: -1048576≤l∧l≤1048576) {b:Nat} {k:Int} {v:Value} {w:World} (h:Has w b #[.int .i64 k,v]):
 Calls Tryz.prog lit_CheckCnf_1.id #[.int .i64 l,.pointer (some ⟨b,0,none⟩)] w fun e w'=>e= .returned (.bool (!decide (amt l≤k)))∧Grow w w':=by
 refine lit_CheckCnf_1.calls ?_
 have e0:(!decide (amt l≤k))=decide (amt l>k):=by
  by_cases h:amt l≤k
  · rw [decide_eq_true h,decide_eq_false (by omega)];rfl
  · rw [decide_eq_false h,decide_eq_true (by omega)];rfl
 rw [e0]
 refine ⟨?_,_,cell_add h.drew rfl,?_⟩
 · refine (amount_ok (by omega) (by omega) _).mono ?_
   rintro e w1 ⟨rfl,g⟩
   exact ⟨_,rfl,_,cell_add (h.drew.grow g) rfl,rfl,(Mod.refl w).drew.trans g⟩
 · refine (amount_ok (by omega) (by omega) _).mono ?_
   rintro e w1 ⟨rfl,g⟩
   exact ⟨_,rfl,rfl,(Mod.refl w).drew.trans g⟩
theorem cnf1_ent:entB Tryz.prog lit_CheckCnf_1.id=true:=by kernel_rfl
theorem args2' (u v:Value):(#[]++ #[u]++ #[v]:Array Value)= #[u,v]:=by simp
theorem any_nle {k:Int} {l:List Int}:l.any (fun x=> !decide (amt x≤k))= !l.all fun x=>decide (amt x≤k):=by
 induction l with
 |nil=>rfl
 |cons x l ih=>rw [List.any_cons,List.all_cons,ih,Bool.not_and]
theorem allTakeS {α:Type} {l:List α} {q:α→Bool} {t:Nat} {d:α} (ht:t<l.length) (h:(l.take t).all q=true) (hq:q (l.getD t d)=true):(l.take (t+1)).all q=true:=by
 rw [List.take_add_one,List.all_append,h]
 have:l[t]? =some (l.getD t d):=by simp [List.getD,ht]
 simp only [this,Option.toList_some,List.all_cons,List.all_nil,hq,Bool.and_true]
theorem allFalse {α:Type} {l:List α} {q:α→Bool} {t:Nat} {d:α} (ht:t<l.length) (hq:q (l.getD t d)=false):l.all q=false:=by
 rw [← Bool.not_eq_true,List.all_eq_true]
 intro h
 rw [h _ (by simp [List.getD,ht])] at hq;cases hq
theorem rowIx {w:World} {q:Option Addr} {hs:List Sl} {cs:List (List Int)} (hc:V2 (Value.int .i64) w q hs cs) {m t:Nat} (hm:m=cs.length) (ht:t<cs.length) {K:Addr→Prop} (hk: ∀a (s:Sl),w.cell? a=some (.slice s.p s.n s.c)→s=hs.getD t Sl.nil→s.n=(cs.getD t []).length→s.n≤maxLen→Vw (Value.int .i64) w s.p (cs.getD t [])→K a):ixK q m (t:Int) 1 K:=
 hc.ix (by omega) hm (by omega) fun a s e hs h1 h2 h3=>hk a s e (by rw [Int.toNat_natCast] at hs;exact hs) (by rw [Int.toNat_natCast] at h1;exact h1) h2 (by rw [Int.toNat_natCast] at h3;exact h3)
theorem checkCnf_ok {w:World} {k:Int} {q:Option Addr} {m d:Nat} {hs:List Sl} {cs:List (List Int)} (hc:V2 (Value.int .i64) w q hs cs) (hm:m=cs.length):
 Calls Tryz.prog lit_CheckCnf.id #[.agg #[.int .i64 k,.slice q m d]] w fun e w'=>e= .returned (.int .i64 (if cnfB k cs then 0 else 1))∧Grow w w':=by
 subst hm
 refine lit_CheckCnf.calls ?_
 intro n1 w2 h2
 have H:=h2.has
 have bad: ∀w',Grow w w'→cnfB k cs=false→(Ending.returned (.int .i64 1)= .returned (.int .i64 (if cnfB k cs=true then 0 else 1))∧Grow w w'):=fun w' g hf=>by rw [hf];exact ⟨rfl,g⟩
 have no: ¬(0≤k∧k≤1048576∧cs.length≤262144)→cnfB k cs=false:=fun h=>by unfold cnfB;rw [decide_eq_false h,Bool.false_and]
 refine ⟨_,cell_add H rfl,cnd_i (fun s1=>bad _ h2.mod (no ?_)) (fun s1=> ⟨_,cell_add H rfl,cnd_i (fun s2=>bad _ h2.mod (no ?_)) (fun s2=> ⟨_,_,_,cell_add H rfl,cnd_i (fun s3=>bad _ h2.mod (no ?_)) (fun s3=> ⟨_,_,_,cell_add H rfl,?_⟩)⟩)⟩)⟩<;>simp only [decide_eq_true_eq,decide_eq_false_iff_not] at*
 · omega
 · omega
 · omega
 · have yes:cnfB k cs=cs.all fun c=>clB c && c.all fun l=>decide (amt l≤k):=by unfold cnfB;rw [decide_eq_true (by omega),Bool.true_and]
   refine ⟨fun v w' z=> ∃t:Nat,v=t∧t≤cs.length∧((cs.take t).all fun c=>clB c && c.all fun l=>decide (amt l≤k))=true∧Grow w2 w'∧z+t=cs.length,⟨_,0,rfl,Nat.zero_le _,rfl,Mod.refl _,rfl⟩,?_⟩
   rintro v w11 z _ ⟨t,rfl,ht,ha,G,hz⟩
   have G2:=h2.mod.trans G
   refine cnd_i (fun s=> ?_) (fun s=> ?_)<;>simp only [decide_eq_true_eq,decide_eq_false_iff_not] at s
   · have ht':t<cs.length:=by omega
     refine rowIx (hc.grow G2) rfl ht' fun a s e _ hsn hsm hv=> ⟨_,_,_,e,(litCheck_ok hv hsn hsm).mono ?_⟩
     rintro e w14 ⟨rfl,g14⟩
     refine ⟨_,rfl,cnd_i (fun s4=>bad _ (G2.trans g14) ?_) (fun s4=> ?_)⟩
     · rw [yes]
       refine allFalse (d:= []) ht' ?_
       cases hh:clB (cs.getD t []) with
       |false=>rfl
       |true=>rw [hh] at s4;simp at s4
     · have hcl:clB (cs.getD t [])=true:=by
        cases hh:clB (cs.getD t []) with
        |false=>rw [hh] at s4;simp at s4
        |true=>rfl
       have H14:=(H.grow G).grow g14
       refine (containsFunc_ok (hv.grow g14) hsn hsm cnf1_ent (fun x=> !decide (amt x≤k)) fun x hx w' g'=> ?_).mono ?_
       · rw [args2']
         have:=litB_bd ((clB_all hcl).1 x hx)
         exact cnf1_ok this.2 (H14.grow g')
       · rintro e w16 ⟨rfl,g16⟩
         rw [any_nle]
         refine ⟨_,rfl,cnd_i (fun s5=>bad _ ((G2.trans g14).trans g16) ?_) (fun s5=> ⟨z - 1,by omega,t+1,by rw [wrap64_of (by omega) (by omega)];omega,ht',allTakeS (d:= []) ht' ha ?_,(G.trans g14).trans g16,by omega⟩)⟩
         · rw [yes]
           refine allFalse (d:= []) ht' ?_
           rw [hcl,Bool.true_and];simpa using s5
         · rw [hcl,Bool.true_and];simpa using s5
   · have:t=cs.length:=by omega
     subst this
     rw [List.take_length] at ha
     rw [yes,ha]
     exact ⟨rfl,G2⟩
end Go.Proofs.YtenmibfmhccmiaaGreat.W
namespace Go.Proofs.YtenmibfmhccmiaaGreat.W
open Go Go.Fw Go.RowKit
def valP (m:List Int) (l:Int):Int:=
 if litB l=false∨amt l>m.length then 0 else if m.getD (amt l - 1).toNat 0=0 then 0 else if decide (m.getD (amt l - 1).toNat 0>0)=decide (l>0) then 1 else -1
def clvP (m:List Int) (c:List Int):Int:=if c.any fun l=>decide (valP m l=1) then 1 else if c.any fun l=>decide (valP m l=0) then 0 else -1
def holdsP (m:List Int) (cs:List (List Int)):Bool:=cs.all fun c=>c.any fun l=>decide (valP m l=1)
def modelP:Nat→Nat→List Int
 |0,_=> []
 |k+1,n=> (if n % 2=1 then 1 else -1)::modelP k (n / 2)
theorem modelP_len: ∀k n,(modelP k n).length=k
 |0,_=>rfl
 |k+1,n=>by simp [modelP,modelP_len k]
theorem refVar_ok {l:Int} (h: -9223372036854775808<l) (w:World) (h2:l<9223372036854775808):Calls Tryz.prog fathomref01_Var.id #[.int .i64 l] w fun e w'=>e= .returned (.int .i64 (amt l))∧Grow w w':=by
 refine fathomref01_Var.calls ?_
 unfold amt
 refine cnd_i (fun q=> ⟨?_,Mod.refl w⟩) (fun q=> ⟨?_,Mod.refl w⟩)<;>simp only [decide_eq_true_eq,decide_eq_false_iff_not] at q
 · rw [if_pos q,wrap64_of (by omega) (by omega)]
   congr 2;omega
 · rw [if_neg q]
theorem refValue_ok {w:World} {p:Option Addr} {n c:Nat} {m:List Int} (h:Vw (Value.int .i64) w p m) (hn:n=m.length) (hm:n≤maxLen) (l:Int):
 Calls Tryz.prog fathomref01_Value.id #[.slice p n c,.int .i64 l] w fun e w'=>e= .returned (.int .i64 (valP m l))∧Grow w w':=by
 subst hn
 unfold maxLen at hm
 refine fathomref01_Value.calls ?_
 refine (refLit_ok l w).mono ?_
 rintro e w1 ⟨rfl,g1⟩
 unfold valP
 refine ⟨_,rfl,cnd_i (fun q=> ⟨?_,g1⟩) (fun q=> ?_)⟩<;>simp only [Bool.not_eq_true',Bool.not_eq_false'] at q
 · rw [if_pos (.inl q)]
 have bd:=litB_bd q
 have ba:1≤amt l∧amt l≤1048576:=by unfold amt;split<;>omega
 have wa:IntKind.i64.wrap (amt l - 1)=amt l - 1:=wrap64_of (by omega) (by omega)
 refine (refVar_ok (by omega) w1 (by omega)).mono ?_
 rintro e w3 ⟨rfl,g3⟩
 refine ⟨_,rfl,cnd_i (fun q2=> ⟨?_,g1.trans g3⟩) (fun q2=> ?_)⟩<;>simp only [decide_eq_true_eq,decide_eq_false_iff_not] at q2
 · rw [if_pos (.inr (by omega))]
 rw [if_neg (by rintro (h1|h1);(rw [q] at h1;cases h1);omega)]
 refine (refVar_ok (by omega) w3 (by omega)).mono ?_
 rintro e w5 ⟨rfl,g5⟩
 have G5:=(g1.trans g3).trans g5
 refine ⟨_,rfl,?_⟩
 rw [wa]
 refine (h.grow G5).ix 0 (by omega) rfl (by omega) fun a e=> ⟨_,e,cnd_i (fun q3=> ⟨?_,G5⟩) (fun q3=> ?_)⟩<;>simp only [beq_iff_eq,beq_eq_false_iff_ne] at q3
 · rw [if_pos q3]
 rw [if_neg q3]
 refine (refVar_ok (by omega) w5 (by omega)).mono ?_
 rintro e w9 ⟨rfl,g9⟩
 refine ⟨_,rfl,?_⟩
 rw [wa]
 refine (h.grow (G5.trans g9)).ix 0 (by omega) rfl (by omega) fun a e=> ⟨_,e,cnd_i (fun q4=> ⟨?_,G5.trans g9⟩) (fun q4=> ⟨?_,G5.trans g9⟩)⟩<;>simp only [beq_iff_eq,beq_eq_false_iff_ne] at q4
 · rw [if_pos q4]
 · rw [if_neg q4]
theorem any_take_succ {α:Type} {l:List α} {q:α→Bool} {t:Nat} {d:α} (ht:t<l.length):(l.take (t+1)).any q=((l.take t).any q||q (l.getD t d)):=by
 rw [List.take_add_one,List.any_append]
 have:l[t]? =some (l.getD t d):=by simp [List.getD,ht]
 simp only [this,Option.toList_some,List.any_cons,List.any_nil,Bool.or_false]
theorem any_true {α:Type} {l:List α} {q:α→Bool} {t:Nat} {d:α} (ht:t<l.length) (h:q (l.getD t d)=true):l.any q=true:=List.any_eq_true.2 ⟨_,by simp [List.getD,ht],h⟩
theorem refClauseV_ok {w:World} {p q:Option Addr} {n c k d:Nat} {m l:List Int} (h:Vw (Value.int .i64) w p m) (hn:n=m.length) (hm:n≤maxLen) (hl:Vw (Value.int .i64) w q l) (hk:k=l.length) (hx:k≤maxLen):
 Calls Tryz.prog fathomref01_Clause.id #[.slice p n c,.slice q k d] w fun e w'=>e= .returned (.int .i64 (clvP m l))∧Grow w w':=by
 subst hk
 unfold maxLen at hx
 refine fathomref01_Clause.calls ?_
 refine ⟨fun o v w' z=> ∃t:Nat,v=t∧t≤l.length∧((l.take t).any fun x=>decide (valP m x=1))=false∧(o=(l.take t).any fun x=>decide (valP m x=0))∧Grow w w'∧z+t=l.length,⟨_,0,rfl,Nat.zero_le _,rfl,rfl,Mod.refl _,rfl⟩,?_⟩
 rintro o v w6 z _ ⟨t,rfl,ht,h1,ho,G,hz⟩
 refine cnd_i (fun s=> ?_) (fun s=> ?_)<;>simp only [decide_eq_true_eq,decide_eq_false_iff_not] at s
 · have ht':t<l.length:=by omega
   refine (hl.grow G).ix 0 (by omega) rfl s fun a e=> ⟨_,e,(refValue_ok (h.grow G) hn hm _).mono ?_⟩
   rw [Int.toNat_natCast]
   rintro e w9 ⟨rfl,g9⟩
   have G9:=G.trans g9
   have n1:((l.take (t+1)).any fun x=>decide (valP m x=1))=((l.take t).any (fun x=>decide (valP m x=1))||decide (valP m (l.getD t 0)=1)):=any_take_succ ht'
   have n0:((l.take (t+1)).any fun x=>decide (valP m x=0))=((l.take t).any (fun x=>decide (valP m x=0))||decide (valP m (l.getD t 0)=0)):=any_take_succ ht'
   refine ⟨_,rfl,cnd_i (fun s2=> ?_) (fun s2=> ?_)⟩<;>simp only [beq_iff_eq,beq_eq_false_iff_ne] at s2
   · refine ⟨?_,G9⟩
     unfold clvP
     rw [if_pos (any_true (d:=0) ht' (decide_eq_true s2))]
   · rw [h1,decide_eq_false s2] at n1
     refine cnd_i (fun s3=> ?_) (fun s3=> ?_)
     · refine ⟨z - 1,by omega,t+1,by rw [wrap64_of (by omega) (by omega)];omega,ht',n1,?_,G9,by omega⟩
       rw [n0,← ho,s3];rfl
     · refine (hl.grow G9).ix 0 (by omega) rfl s fun a e=> ⟨_,e,(refValue_ok (h.grow G9) hn hm _).mono ?_⟩
       rw [Int.toNat_natCast]
       rintro e w13 ⟨rfl,g13⟩
       refine ⟨_,rfl,z - 1,by omega,t+1,by rw [wrap64_of (by omega) (by omega)];omega,ht',n1,?_,G9.trans g13,by omega⟩
       rw [n0,← ho,s3,Bool.false_or]
       rw [Bool.eq_iff_iff];simp
 · have:t=l.length:=by omega
   subst this
   rw [List.take_length] at h1 ho
   unfold clvP
   rw [h1,if_neg (by simp),← ho]
   refine cnd_i (fun s=> ⟨?_,G⟩) (fun s=> ⟨?_,G⟩)
   · rw [s];rfl
   · rw [s];rfl
theorem clvP_one {m c:List Int}:clvP m c=1↔(c.any fun l=>decide (valP m l=1))=true:=by
 unfold clvP
 split
 · rename_i h;simp [h]
 · rename_i h
   constructor
   · intro h2;split at h2<;>simp at h2
   · intro h2;exact absurd h2 h
theorem refHolds_ok {w:World} {j:Int} {p q:Option Addr} {n c k d:Nat} {m:List Int} {hs:List Sl} {cs:List (List Int)} (hc:V2 (Value.int .i64) w q hs cs) (hk:k=cs.length) (hx:k≤maxLen) (h:Vw (Value.int .i64) w p m) (hn:n=m.length) (hm:n≤maxLen):
 Calls Tryz.prog fathomref01_Holds.id #[.agg #[.int .i64 j,.slice q k d],.slice p n c] w fun e w'=>e= .returned (.bool (holdsP m cs))∧Grow w w':=by
 subst hk
 unfold maxLen at hx
 refine fathomref01_Holds.calls ?_
 intro n1 w2 h2
 have H:=h2.has
 refine ⟨fun v w' z=> ∃t:Nat,v=t∧t≤cs.length∧((cs.take t).all fun c=>c.any fun l=>decide (valP m l=1))=true∧Grow w2 w'∧z+t=cs.length,⟨_,0,rfl,Nat.zero_le _,rfl,Mod.refl _,rfl⟩,?_⟩
 rintro v w7 z _ ⟨t,rfl,ht,ha,G,hz⟩
 have G2:=h2.mod.trans G
 refine ⟨_,_,_,cell_add (H.grow G) rfl,cnd_i (fun s=> ?_) (fun s=> ?_)⟩<;>simp only [decide_eq_true_eq,decide_eq_false_iff_not] at s
 · have ht':t<cs.length:=by omega
   refine ⟨_,_,_,cell_add (H.grow G) rfl,rowIx (hc.grow G2) rfl ht' fun a sl e _ hsn hsm hv=> ⟨_,_,_,e,(refClauseV_ok (h.grow G2) hn hm hv hsn hsm).mono ?_⟩⟩
   rintro e w12 ⟨rfl,g12⟩
   refine ⟨_,rfl,cnd_i (fun s2=> ⟨?_,G2.trans g12⟩) (fun s2=> ⟨z - 1,by omega,t+1,by rw [wrap64_of (by omega) (by omega)];omega,ht',allTakeS (d:= []) ht' ha ?_,G.trans g12,by omega⟩)⟩
   · have s2:clvP m (cs.getD t [])≠1:=by simpa using s2
     have:holdsP m cs=false:=allFalse (d:= []) ht' (by
      rw [Ne,clvP_one] at s2
      simpa using s2)
     rw [this]
   · have s2:clvP m (cs.getD t [])=1:=by simpa using s2
     exact clvP_one.1 s2
 · have:t=cs.length:=by omega
   subst this
   rw [List.take_length] at ha
   refine ⟨?_,G2⟩
   unfold holdsP
   rw [ha]
end Go.Proofs.YtenmibfmhccmiaaGreat.W
namespace Go.Proofs.YtenmibfmhccmiaaGreat.W
open Go Go.Fw Go.RowKit
theorem sl_intL:slOk Tryz.prog ty_sl_int ty_int 8=true:=by kernel_rfl
theorem refModel_ok {k n:Nat} (hk:k≤1000000) (hn:n≤1000000000000) (w:World):
 Calls Tryz.prog fathomref01_Model.id #[.int .i64 (k:Int),.int .i64 (n:Int)] w fun e w'=> (∃p c,e= .returned (.slice p k c)∧OwI ty_int w' p c (modelP k n)∧∀j,blk p=some j→w.heap.size≤j)∧Grow w w':=by
 refine fathomref01_Model.calls ?_
 intro n1 w2 h2
 have e1:=h2.num
 have O2:OwI ty_int w2 (some ⟨n1,0,none⟩) 0 []:=Ow.of_some h2.at (Nat.le_refl _) (Nat.zero_le _) rfl rfl
 refine ⟨fun b pm nm cm v w' z=> ∃ (t r:Nat) (o:List Int),b=r∧r≤1000000000000∧v=t∧t≤k∧o++modelP (k - t) r=modelP k n∧o.length=t∧nm=t∧OwI ty_int w' pm cm o∧(∀j,blk pm=some j→w.heap.size≤j)∧Grow w w'∧z+t=k,
  ⟨k,0,n,[],rfl,hn,rfl,Nat.zero_le _,rfl,rfl,rfl,O2,fun j hj=>by have:=blk_some hj;omega,h2.mod,rfl⟩,?_⟩
 clear O2
 rintro b pm nm cm v w9 z _ ⟨t,r,o,rfl,hr,rfl,ht,ho,hl,rfl,O,fr,G,hz⟩
 refine cnd_i (fun s=> ?_) (fun s=> ?_)<;>simp only [decide_eq_true_eq,decide_eq_false_iff_not] at s
 · have ht':nm<k:=by omega
   have ek:k - nm=(k - (nm+1))+1:=by omega
   rw [ek,modelP] at ho
   have d1:((r:Int)).tdiv 2=((r / 2:Nat):Int):=by rw [Int.tdiv_eq_ediv_of_nonneg (by omega)];omega
   have d2:((r:Int)).tmod 2=((r % 2:Nat):Int):=by rw [Int.tmod_eq_emod_of_nonneg (by omega)];omega
   have d3:IntKind.i64.wrap ((r / 2:Nat):Int)=((r / 2:Nat):Int):=wrap64_of (by omega) (by omega)
   have next: ∀ (y:Int),y=(if r % 2=1 then 1 else -1)→∀ (n10:Nat) (w11:World),New (.cells #[.int .i64 y] 3) w9 n10 w11→
    ∃w12:World,∃r13_p:Option Addr,∃r13_n:Nat,∃r13_c:Nat,(Builtin.append_ #[ty_sl_int,ty_sl_int] ty_sl_int #[.slice pm nm cm,.slice (some (Addr.mk n10 0 none)) 1 1]).run Tryz.prog w11= .ok (.slice r13_p r13_n r13_c) w12∧
    (2:Int)≠0∧∃k5:Nat,k5<z∧∃ (t r':Nat) (o:List Int),((r / 2:Nat):Int)=r'∧r'≤1000000000000∧IntKind.i64.wrap ((nm:Int)+1)=t∧t≤k∧o++modelP (k - t) r'=modelP k n∧o.length=t∧r13_n=t∧OwI ty_int w12 r13_p r13_c o∧(∀j,blk r13_p=some j→w.heap.size≤j)∧Grow w w12∧k5+t=k:=by
    rintro y rfl n10 w11 h10
    refine (O.grow h10.mod).app1 sl_intL _ h10.has rfl hl.symm oneInt (by omega) fun w12 p12 c12 O12 m12 hp z12=> ⟨by decide,z - 1,by omega,nm+1,r / 2,_,rfl,by omega,by rw [wrap64_of (by omega) (by omega)];omega,by omega,?_,by simp [hl],by omega,O12,fun j hj=> ?_,(G.trans h10.mod).then m12 fun j hj e=>by have:=fr j e;omega,by omega⟩
    · rw [List.append_assoc];exact ho
    · rcases hp with h1|h1<;>rw [h1] at hj
      · exact fr j hj
      · have:=blk_some hj;have:=(G.trans h10.mod).size;omega
   rw [d1,d2,d3]
   refine ⟨by decide,cnd_i (fun s2=>next 1 ?_) (fun s2=>next (-1) ?_)⟩<;>simp only [beq_iff_eq,beq_eq_false_iff_ne] at s2
   · rw [if_pos (by omega)]
   · rw [if_neg (by omega)]
 · have:nm=k:=by omega
   subst this
   rw [Nat.sub_self,modelP,List.append_nil] at ho
   subst ho
   exact ⟨⟨pm,cm,rfl,O,fr⟩,G⟩
end Go.Proofs.YtenmibfmhccmiaaGreat.W
