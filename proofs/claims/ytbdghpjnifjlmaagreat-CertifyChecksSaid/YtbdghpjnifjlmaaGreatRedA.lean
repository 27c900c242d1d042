/- Layer 13: which learned clauses stay, and in which order they are. -/
import Derived.Test.YtbdghpjnifjlmaaGreatLubyA
import Derived.Test.YtbdghpjnifjlmaaGreatLitA
import Derived.Test.YtbdghpjnifjlmaaGreatFwRead
namespace Go.Proofs.YtbdghpjnifjlmaaGreat.W.Re
open Go Go.Fw Go.RowKit Go.SoP
theorem sl_int:slOk Tryz.prog ty_sl_int ty_int 8=true:=by kernel_rfl
theorem int_zero:(Tryz.prog.info? ty_int).bind (·.zero)=some (.int .i64 0):=by kernel_rfl
end Go.Proofs.YtbdghpjnifjlmaaGreat.W.Re
namespace Go.Proofs.YtbdghpjnifjlmaaGreat.W
open Go Go.Fw Go.RowKit Go.SoP Go.LiP
open Go.Proofs.Tryz (prog)
section
variable {w:World} {p q:Option Addr} {n c:Nat} {l:List Int}
theorem row_ix {hs:List Sl} {cs:List (List Int)} (hc:V2 (Value.int .i64) w q hs cs) {m t:Nat} (hm:m=cs.length) (ht:t<cs.length) {K:Addr→Prop}
 (hk: ∀a (s:Sl),w.cell? a=some (.slice s.p s.n s.c)→s.n=(cs.getD t []).length→s.n≤maxLen→Vw (Value.int .i64) w s.p (cs.getD t [])→s=hs.getD t Sl.nil→K a):ixK q m (t:Int) 1 K:=
 rowIx hc hm ht fun a s e hs h1 h2 h3=>hk a s e h1 h2 h3 hs
theorem light_ok {k:Int} {hs:List Sl} {cs:List (List Int)} {m d:Nat} (hc:V2 (Value.int .i64) w q hs cs) (hm:m=cs.length):Calls prog fathomlaw01_Light.id #[.agg #[.int .i64 k,.slice q m d]] w fun e w'=> ∃b:Bool,e= .returned (.bool b)∧Grow w w':=by
 refine fathomlaw01_Light.calls ?_
 intro n1 w1 h1
 have g1:=h1.mod
 refine ⟨fun _ I w' k=> ∃t:Nat,I=t∧t≤301∧k=301 - t∧Grow w1 w',⟨_,0,rfl,Nat.zero_le _,rfl,Mod.refl w1⟩,?_⟩
 rintro N I w2 k2 _ ⟨t,rfl,ht,rfl,g2⟩
 have H2:=h1.has.grow g2
 have G2:=g1.trans g2
 refine ⟨_,_,_,cell_add H2 rfl,cnd_i (fun s=>cnd_i (fun s2=> ?_) (fun _=> ?_)) (fun _=> ?_)⟩
 · have s:t<cs.length:=by simp at s;omega
   have s2:t≤300:=by simp at s2;omega
   refine ⟨_,_,_,cell_add H2 rfl,row_ix (hc.grow G2) hm s fun a x e e1 e2 v _=> ⟨_,_,_,e,cnd_i (fun _=> ⟨false,rfl,G2⟩) (fun _=> ?_)⟩⟩
   refine ⟨_,_,_,cell_add H2 rfl,row_ix (hc.grow G2) hm s fun a x e e1 e2 v _=> ⟨_,_,_,e,_,?_,t+1,wN (by omega) (by omega),by omega,rfl,g2⟩⟩
   omega
 · exact ⟨_,_,_,cell_add H2 rfl,cnd_i (fun _=> ⟨_,rfl,G2⟩) (fun _=> ⟨_,rfl,G2⟩)⟩
 · exact ⟨_,_,_,cell_add H2 rfl,cnd_i (fun _=> ⟨_,rfl,G2⟩) (fun _=> ⟨_,rfl,G2⟩)⟩
theorem take_eq_succ {α:Type} {a b:List α} {t:Nat} {d:α} (ha:t<a.length) (hb:t<b.length) (h:a.take t=b.take t) (e:a.getD t d=b.getD t d):a.take (t+1)=b.take (t+1):=by
 have e1:a[t]? =some (a.getD t d):=by simp [List.getD,ha]
 have e2:b[t]? =some (b.getD t d):=by simp [List.getD,hb]
 rw [List.take_add_one,List.take_add_one,h,e1,e2,e]
theorem equal_ok {v:List Int} {m d:Nat} (h:Vw (Value.int .i64) w p l) (hn:n=l.length) (hm:n≤maxLen) (h2:Vw (Value.int .i64) w q v) (hn2:m=v.length):Calls prog slices_Equal_int_int.id #[.slice p n c,.slice q m d] w fun e w'=>e= .returned (.bool (decide (l=v)))∧Grow w w':=by
 refine slices_Equal_int_int.calls ?_
 unfold maxLen at hm
 refine cnd_i (fun s=> ⟨?_,Mod.refl w⟩) (fun s=> ?_)
 · have s:(n:Int)≠m:=by simpa using s
   rw [decide_eq_false]
   rintro rfl
   omega
 · have s:(n:Int)=m:=by simpa using s
   refine ⟨fun I w' k=> ∃t:Nat,I=t∧t≤n∧k=n - t∧l.take t=v.take t∧Grow w w',⟨_,0,rfl,Nat.zero_le _,rfl,rfl,Mod.refl w⟩,?_⟩
   rintro I w2 k2 _ ⟨t,rfl,ht,rfl,ha,G⟩
   refine cnd_i (fun r=> ?_) (fun r=> ⟨?_,G⟩)
   · have r:t<n:=by simpa using r
     refine (h.grow G).drew.ix 0 (by omega) hn (by omega) fun a e=> ⟨_,e,(h2.grow G).drew.ix 0 (by omega) hn2 (by omega) fun a e=> ⟨_,e,?_⟩⟩
     rw [Int.toNat_natCast]
     refine cnd_i (fun r2=> ⟨?_,G.drew⟩) (fun r2=> ⟨_,?_,t+1,wN (by omega) (by omega),by omega,rfl,take_eq_succ (d:=0) (by omega) (by omega) ha (by simpa using r2),G.drew⟩)
     · have r2:l.getD t 0≠v.getD t 0:=by simpa using r2
       rw [decide_eq_false]
       rintro rfl
       exact r2 rfl
     · omega
   · have r:t=n:=by simp at r;omega
     subst r
     have e1:l.take t=l:=List.take_of_length_le (by omega)
     have e2:v.take t=v:=List.take_of_length_le (by omega)
     rw [e1,e2] at ha
     rw [decide_eq_true ha]
theorem refCnf_ok {k:Int} {hs:List Sl} {cs:List (List Int)} {m d:Nat} (hc:V2 (Value.int .i64) w q hs cs) (hm:m=cs.length):Calls prog fathomref01_Cnf.id #[.agg #[.int .i64 k,.slice q m d]] w fun e w'=>e= .returned (.bool (cnfB k cs))∧Grow w w':=by
 refine fathomref01_Cnf.calls ?_
 intro n1 w1 h1
 have g1:=h1.mod
 have bad: ∀w',Grow w w'→cnfB k cs=false→(Ending.returned (.bool false)= .returned (.bool (cnfB k cs))∧Grow w w'):=fun w' g hf=>by rw [hf];exact ⟨rfl,g⟩
 have no: ¬(0≤k∧k≤1048576∧cs.length≤262144)→cnfB k cs=false:=fun h=>by unfold cnfB;rw [decide_eq_false h,Bool.false_and]
 refine ⟨_,cell_add h1.has rfl,cnd_i (fun s=>bad _ g1 (no (by simp at s;omega))) (fun s1=> ⟨_,cell_add h1.has rfl,cnd_i (fun s=>bad _ g1 (no (by simp at s;omega))) (fun s2=> ⟨_,_,_,cell_add h1.has rfl,cnd_i (fun s=>bad _ g1 (no (by simp at s;omega))) (fun s3=> ?_)⟩)⟩)⟩
 simp only [decide_eq_false_iff_not] at s1 s2 s3
 have yes:cnfB k cs=cs.all fun c=>clB c && c.all fun l=>decide (amt l≤k):=by unfold cnfB;rw [decide_eq_true (by omega),Bool.true_and]
 refine ⟨fun I w' k2=> ∃t:Nat,I=t∧t≤cs.length∧k2=cs.length - t∧((cs.take t).all fun c=>clB c && c.all fun l=>decide (amt l≤k))=true∧Grow w1 w',⟨_,0,rfl,Nat.zero_le _,rfl,rfl,Mod.refl w1⟩,?_⟩
 rintro I w2 k2 _ ⟨t,rfl,ht,rfl,ha,g2⟩
 have H2:=h1.has.grow g2
 have G2:=g1.trans g2
 refine ⟨_,_,_,cell_add H2 rfl,cnd_i (fun s=> ?_) (fun s=> ⟨?_,G2⟩)⟩
 · have s:t<cs.length:=by simp at s;omega
   refine ⟨_,_,_,cell_add H2 rfl,row_ix (hc.grow G2) hm s fun a x e e1 e2 v ex=> ⟨_,_,_,e,(refMay_ok v e1 e2).mono ?_⟩⟩
   rintro e w3 ⟨rfl,g3⟩
   have G3:=G2.trans g3
   refine ⟨_,rfl,cnd_i (fun r=>bad _ G3 (by rw [yes];exact allFalse (d:= []) s (by rw [show clB (cs.getD t [])=false by simpa using r];rfl))) (fun r=> ?_)⟩
   have r:clB (cs.getD t [])=true:=by simpa using r
   have hlen:=(clB_all r).2
   refine ⟨fun J w' k3=> ∃j:Nat,J=j∧j≤(cs.getD t []).length∧k3=(cs.getD t []).length - j∧(((cs.getD t []).take j).all fun l=>decide (amt l≤k))=true∧Grow w3 w',⟨_,0,rfl,Nat.zero_le _,rfl,rfl,Mod.refl w3⟩,?_⟩
   rintro J w4 k3 _ ⟨j,rfl,hj,rfl,hb,g4⟩
   have H4:=(H2.grow g3).grow g4
   have G4:=G3.trans g4
   refine ⟨_,_,_,cell_add H4 rfl,row_ix (hc.grow G4) hm s fun a x e e1 e2 v ex=> ⟨_,_,_,e,cnd_i (fun r2=> ?_) (fun r2=> ?_)⟩⟩
   · have r2:j< (cs.getD t []).length:=by simp at r2;omega
     refine ⟨_,_,_,cell_add H4.drew rfl,row_ix (hc.grow G4).drew hm s fun a x e e1 e2 v ex=> ⟨_,_,_,e,v.ix 0 (by omega) e1 (by omega) fun a e=> ⟨_,e,?_⟩⟩⟩
     rw [Int.toNat_natCast]
     have hb':=litB_bd (clB_lit r _ (mem_getD r2))
     have fin: ∀w5,Grow w4.drew w5→cnd (decide (amt ((cs.getD t []).getD j 0)>k)) (Ending.returned (.bool false)= .returned (.bool (cnfB k cs))∧Grow w w5)
      (∃k19,k19< (cs.getD t []).length - j∧∃j2:Nat,IntKind.i64.wrap ((j:Int)+1)=j2∧j2≤(cs.getD t []).length∧k19=(cs.getD t []).length - j2∧(((cs.getD t []).take j2).all fun l=>decide (amt l≤k))=true∧Grow w3 w5):=by
      intro w5 g5
      refine cnd_i (fun r3=>bad _ (G4.drew.trans g5) ?_) (fun r3=> ⟨_,?_,j+1,wN (by omega) (by omega),by omega,rfl,allTakeS (d:=0) r2 hb (by simp at r3 ⊢;omega),g4.drew.trans g5⟩)
      · rw [yes]
        refine allFalse (d:= []) s ?_
        rw [allFalse (d:=0) r2 (by simp at r3 ⊢;omega),Bool.and_false]
      · omega
     refine ⟨(refVar_ok (by omega) _ (by omega)).mono ?_,⟨_,cell_add H4.drew rfl,(refVar_ok (by omega) _ (by omega)).mono ?_⟩⟩
     · rintro e w5 ⟨rfl,g5⟩
       exact ⟨_,rfl,_,cell_add (H4.drew.grow g5) rfl,fin w5 g5⟩
     · rintro e w5 ⟨rfl,g5⟩
       exact ⟨_,rfl,fin w5 g5⟩
   · have r2:j=(cs.getD t []).length:=by simp at r2;omega
     subst r2
     rw [List.take_length] at hb
     refine ⟨_,?_,t+1,wN (by omega) (by omega),by omega,rfl,allTakeS (d:= []) s ha (by rw [r,hb];rfl),(g2.trans g3).trans g4⟩
     omega
 · have s:t=cs.length:=by simp at s;omega
   subst s
   rw [List.take_length] at ha
   rw [yes,ha]
end
section
variable {w:World} {p q:Option Addr} {n c:Nat} {l:List Int}
theorem sl_sl_int:slOk prog ty_sl_sl_int ty_sl_int 24=true:=by kernel_rfl
theorem idxF_ok (h:Vw (Value.int .i64) w p l) (hn:n=l.length) (hm:n≤maxLen) {fid:FuncId} {fv:Array Value} (he:entB prog fid=true) (pr:Int→Bool)
 (hf: ∀x∈l,∀w',Grow w w'→Calls prog fid (#[]++ #[.int .i64 x]++fv) w' fun e w2=>e= .returned (.bool (pr x))∧Grow w' w2):
 Calls prog slices_IndexFunc_int_int.id #[.slice p n c,.func (.func fid) #[] fv] w fun e w'=>Grow w w'∧((e= .returned (.int .i64 (-1))∧∀t,t<l.length→pr (l.getD t 0)=false)∨
  ∃t:Nat,e= .returned (.int .i64 t)∧t<l.length∧pr (l.getD t 0)=true∧∀j,j<t→pr (l.getD j 0)=false):=by
 refine slices_IndexFunc_int_int.calls ?_
 unfold maxLen at hm
 refine ⟨fun v w' k=> ∃t:Nat,v=t∧t≤l.length∧k=l.length - t∧(∀j,j<t→pr (l.getD j 0)=false)∧Grow w w',⟨_,0,rfl,Nat.zero_le _,rfl,fun j hj=>by omega,Mod.refl w⟩,?_⟩
 rintro v w5 k _ ⟨t,rfl,ht,rfl,ha,G⟩
 refine cnd_i (fun q=> ?_) (fun q=> ⟨G,.inl ⟨rfl,fun j hj=>ha j (by simp at q;omega)⟩⟩)
 have q':t<l.length:=by simp at q;omega
 refine (h.grow G).ix 0 (by omega) hn (by omega) fun a e=> ⟨_,e,?_⟩
 rw [he]
 show Calls _ _ _ _ _
 rw [Int.toNat_natCast]
 refine (hf _ (mem_getD q') w5 G).mono ?_
 rintro e w8 ⟨rfl,g8⟩
 refine ⟨_,rfl,cnd_i (fun s=> ⟨G.trans g8,.inr ⟨t,rfl,q',s,ha⟩⟩) (fun s=> ⟨_,?_,t+1,wN (by omega) (by omega),by omega,rfl,fun j hj=> ?_,G.trans g8⟩)⟩
 · omega
 · by_cases e:j=t
   · subst e;exact s
   · exact ha j (by omega)
theorem filter_succ {f:Int→Bool} {t:Nat} (h:t<l.length):(l.take (t+1)).filter f=(l.take t).filter f++ (if f (l.getD t 0) then [l.getD t 0] else []):=by
 rw [List.take_add_one,List.filter_append]
 have:l[t]? =some (l.getD t 0):=by simp [List.getD,h]
 rw [this]
 simp only [Option.toList_some,List.filter_cons,List.filter_nil]
theorem delete_ok (o:OwI ty_int w p c l) (hn:n=l.length) (hm:n≤1000000) {fid:FuncId} {fv:Array Value} (he:entB prog fid=true) (pr:Int→Bool)
 (hf: ∀x∈l,∀w',Mod (Bk p) w w'→Calls prog fid (#[]++ #[.int .i64 x]++fv) w' fun e w2=>e= .returned (.bool (pr x))∧Grow w' w2):
 Calls prog slices_DeleteFunc_int_int.id #[.slice p n c,.func (.func fid) #[] fv] w fun e w'=>e= .returned (.slice p (l.filter fun x=> !pr x).length c)∧OwI ty_int w' p c (l.filter fun x=> !pr x)∧Mod (Bk p) w w':=by
 refine slices_DeleteFunc_int_int.calls ?_
 refine (idxF_ok o.vw hn (by unfold maxLen;omega) he pr fun x hx w' g=>hf x hx w' (g.mono fun _ _=>False.elim)).mono ?_
 rintro e w1 ⟨g1,⟨rfl,hno⟩| ⟨t,rfl,ht,hpt,hlo⟩⟩
 · have:(l.filter fun x=> !pr x)=l:=by
    rw [List.filter_eq_self]
    intro x hx
    obtain ⟨j,hj,e⟩:=List.mem_iff_getElem.1 hx
    have:=hno j hj
    simp only [List.getD,List.getElem?_eq_getElem hj,Option.getD_some,e] at this
    rw [this];rfl
   rw [this]
   exact ⟨_,rfl,cnd_t rfl ⟨by rw [hn],o.grow g1,g1.mono fun _ _=>False.elim⟩⟩
 · have M1:Mod (Bk p) w w1:=g1.mono fun _ _=>False.elim
   have hcl:l.length≤c:=by
    rcases o.un with ⟨_,_,rfl⟩| ⟨_,_,_,_,h,_⟩
    · simp at ht
    · exact h
   have f0:(l.take t).filter (fun x=> !pr x)=l.take t:=by
    rw [List.filter_eq_self]
    intro x hx
    obtain ⟨j,hj,e⟩:=List.mem_iff_getElem.1 hx
    rw [List.length_take] at hj
    have h2:=hlo j (by omega)
    rw [List.getElem_take] at e
    simp only [List.getD,List.getElem?_eq_getElem (show j<l.length by omega),Option.getD_some,e] at h2
    rw [h2];rfl
   have f1:(l.take (t+1)).filter (fun x=> !pr x)=l.take t:=by
    rw [filter_succ ht,f0,hpt];simp
   refine ⟨_,rfl,cnd_f (by simp) ?_⟩
   have et:IntKind.i64.wrap ((t:Int)+1)=((t+1:Nat):Int):=wN (by omega) (by omega)
   rw [et]
   refine ⟨fun I J w' k=> ∃ (i j:Nat) (cur:List Int),I=i∧J=j∧i<j∧j≤n∧k=n - j∧cur.length=n∧(∀x,j≤x→x<n→cur.getD x 0=l.getD x 0)∧cur.take i=(l.take j).filter (fun x=> !pr x)∧OwI ty_int w' p c cur∧Mod (Bk p) w w',⟨_,t,t+1,l,rfl,rfl,by omega,by omega,rfl,hn.symm,fun _ _ _=>rfl,f1.symm,o.grow g1,M1⟩,?_⟩
   rintro I J w2 k _ ⟨i,j,cur,rfl,rfl,hij,hj,rfl,hc,hx,hd,o2,m2⟩
   refine cnd_i (fun s=> ?_) (fun s=> ?_)
   · have s:j<n:=by simpa using s
     have sl:j<l.length:=by omega
     refine o2.ix 0 (by omega) hc.symm (by omega) fun a e=> ⟨_,e,?_⟩
     rw [Int.toNat_natCast,hx j (Nat.le_refl _) s,he]
     show Calls _ _ _ _ _
     refine (hf _ (mem_getD sl) w2 m2).mono ?_
     rintro e w3 ⟨rfl,g3⟩
     have fs:=filter_succ (f:=fun x=> !pr x) sl
     refine ⟨_,rfl,cnd_i (fun r=> ?_) (fun r=> ?_)⟩
     · rw [if_pos r] at fs
       refine (o2.grow g3).st (l.getD j 0) rfl rfl (by omega) hc.symm (by omega) fun w4 o4 m4=> ?_
       rw [Int.toNat_natCast] at o4
       refine ⟨_,?_,i+1,j+1,_,wN (by omega) (by omega),wN (by omega) (by omega),by omega,by omega,rfl,by simpa using hc,fun x x1 x2=> ?_,?_,o4,(m2.grow g3).trans m4⟩
       · omega
       · rw [getD_setI (by omega),if_neg (by omega)]
         exact hx x (by omega) x2
       · rw [take_set_succ (by omega),hd,fs]
     · rw [if_neg (by rw [r];exact Bool.false_ne_true),List.append_nil] at fs
       refine ⟨_,?_,i,j+1,cur,rfl,wN (by omega) (by omega),by omega,by omega,rfl,hc,fun x x1 x2=>hx x (by omega) x2,by rw [hd,fs],o2.grow g3,m2.grow g3⟩
       omega
   · have s:j=n:=by simp at s;omega
     have e0:l.take j=l:=List.take_of_length_le (by omega)
     rw [e0] at hd
     have hdl:(l.filter fun x=> !pr x).length=i:=by rw [← hd];simp;omega
     refine slK_i i n c rfl rfl rfl (by omega) (by omega) (by omega) ?_
     rw [if_neg (by omega)]
     refine o2.clear sl_int int_zero (x:=(0:Int)) rfl rfl (by omega) (by omega) fun w3 o3 m3=> ?_
     refine slK_i 0 i c rfl rfl rfl (by omega) (by omega) (by omega) ?_
     rw [if_neg (by omega),Nat.sub_zero,Nat.sub_zero,ep0,hdl]
     rw [hd] at o3
     exact ⟨rfl,o3,m2.trans m3⟩
end
section
variable {w w' w2:World} {b:Nat}
inductive Pt where
 |st|c|wa|va|le|re|tr|be|ds|lo
 |w (i:Nat)|l (i:Nat)|a (i:Nat)
deriving DecidableEq
def Pt.row:Pt→Bool
 | .st| .c| .wa=>false
 |_=>true
def Pt.f:Pt→Int→Value
 | .va=>Value.int .i8
 |_=>Value.int .i64
def Pt.T:Pt→TypeId
 | .va=>ty_int8
 |_=>ty_int
def Pt.off:Pt→Nat
 | .c=>1| .wa=>2| .va=>3| .le=>4| .re=>5| .tr=>6| .be=>7| .ds=>8| .lo=>10
 |_=>0
def Pt.field:Pt→Bool
 | .tr| .be| .ds| .lo=>true
 |_=>false
structure PSt where
 vars:Nat
 nc:Nat
 gone:Nat→Bool
 done:Nat
 R:Pt→List Int
def updF {α:Type} (R:Pt→α) (x:Pt) (v:α):Pt→α:=fun y=>if y=x then v else R y
theorem updF_same {α:Type} {R:Pt→α} {x:Pt} {v:α}:updF R x v x=v:=by simp [updF]
theorem updF_ne {α:Type} {R:Pt→α} {x y:Pt} {v:α} (h:y≠x):updF R x v y=R y:=by simp [updF,h]
def PSt.set (s:PSt) (x:Pt) (l:List Int):PSt:= {s with R:=updF s.R x l}
abbrev Ce:=Sl × Sl × Bool
def ceE (x:Ce):List Value:= [x.1.v,x.2.1.v,.bool x.2.2]
theorem ceEnc:Enc 3 ceE:=⟨fun _=>rfl,by omega,fun x v hv=>by
 simp only [ceE,List.mem_cons,List.not_mem_nil,or_false] at hv
 rcases hv with rfl|rfl|rfl<;>rfl⟩
def ceOf (H:Pt→Sl) (g:Nat→Bool) (i:Nat):Ce:=(H (.a i),H (.l i),g i)
def heads (H:Pt→Sl) (n:Nat):List Sl:=(List.range n).map fun i=>H (.w i)
def ces (H:Pt→Sl) (g:Nat→Bool) (n:Nat):List Ce:=(List.range n).map (ceOf H g)
def own (b:Nat) (H:Pt→Sl):Pt→Option Nat
 | .st=>some b
 |x=>blk (H x).p
def stC (s:PSt) (H:Pt→Sl):Array Value:=
 #[.int .i64 s.vars,(H .c).v,(H .wa).v,(H .va).v,(H .le).v,(H .re).v,(H .tr).v,(H .be).v,(H .ds).v,.int .i64 s.done,(H .lo).v]
structure PM (w:World) (b:Nat) (H:Pt→Sl) (s:PSt):Prop where
 st:Has w b (stC s H)
 c:Row 3 ceE ty_prop_clause w (H .c).p (H .c).c (ces H s.gone s.nc)
 cn:(H .c).n=s.nc
 wa:Ow Sl.v ty_sl_int w (H .wa).p (H .wa).c (heads H (2* (s.vars+1)))
 wn:(H .wa).n=2* (s.vars+1)
 row: ∀x,x.row=true→Ow x.f x.T w (H x).p (H x).c (s.R x)
 len: ∀x,x.row=true→(H x).n=(s.R x).length
 inj: ∀x y k,own b H x=some k→own b H y=some k→x=y
theorem own_ne {H:Pt→Sl} {x:Pt} (h:x≠ .st):own b H x=blk (H x).p:=by cases x<;>first|rfl|exact absurd rfl h
theorem row_ne {x:Pt} (h:x.row=true):x≠ .st∧x≠ .c∧x≠ .wa:=by cases x<;>simp [Pt.row] at h ⊢
theorem field_row {x:Pt} (h:x.field=true):x.row=true:=by cases x<;>simp [Pt.field] at h<;>rfl
variable {H:Pt→Sl} {s:PSt}
theorem PM.lt (h:PM w b H s): ∀x k,own b H x=some k→k<w.heap.size:=by
 intro x k hk
 cases x
 case st=>simp [own] at hk;subst hk;exact h.st.lt
 case c=>exact h.c.lt k hk
 case wa=>exact h.wa.lt k hk
 all_goals exact (h.row _ rfl).lt k hk
theorem PM.keep {S:Nat→Prop} (h:PM w b H s) (m:Mod S w w') (hS: ∀x k,own b H x=some k→¬S k):PM w' b H s:=by
 refine ⟨h.st.keep m (hS .st b rfl),h.c.keep m fun k hk=>hS .c k hk,h.cn,h.wa.keep m fun k hk=>hS .wa k hk,h.wn,fun x hx=> (h.row x hx).keep m fun k hk=>hS x k ?_,h.len,h.inj⟩
 rw [own_ne (row_ne hx).1];exact hk
theorem PM.grow (h:PM w b H s) (m:Grow w w'):PM w' b H s:=h.keep m fun _ _ _=>id
theorem PM.drew (h:PM w b H s):PM w.drew b H s:=h.grow (Mod.refl w).drew
theorem PM.other (h:PM w b H s) {x y:Pt} (hx:x≠ .st) (hne:y≠x) {k:Nat} (hk:own b H y=some k):blk (H x).p≠some k:=by
 intro e
 exact hne (h.inj y x k hk (by rw [own_ne hx];exact e))
theorem PM.setRow (h:PM w b H s) {x:Pt} (hx:x.row=true) {l':List Int} (hl:l'.length=(s.R x).length) (o:Ow x.f x.T w' (H x).p (H x).c l') (m:Mod (fun k=>blk (H x).p=some k) w w'):
 PM w' b H (s.set x l'):=by
 obtain ⟨h1,h2,h3⟩:=row_ne hx
 have oth: ∀y k,y≠x→own b H y=some k→¬blk (H x).p=some k:=fun y k hy hk=>h.other h1 hy hk
 refine ⟨h.st.keep m (oth .st b (Ne.symm h1) rfl),h.c.keep m fun k hk=>oth .c k (Ne.symm h2) hk,h.cn,h.wa.keep m fun k hk=>oth .wa k (Ne.symm h3) hk,h.wn,fun y hy=> ?_,fun y hy=> ?_,h.inj⟩
 · by_cases e:y=x
   · subst e;simpa [PSt.set,updF_same] using o
   · simp only [PSt.set,updF_ne e]
     exact (h.row y hy).keep m fun k hk=>oth y k e (by rw [own_ne (row_ne hy).1];exact hk)
 · by_cases e:y=x
   · subst e;simp only [PSt.set,updF_same,hl];exact h.len y hy
   · simp only [PSt.set,updF_ne e];exact h.len y hy
structure PMx (w:World) (b:Nat) (H:Pt→Sl) (s:PSt) (x:Pt):Prop where
 st:Has w b (stC s H)
 c:Row 3 ceE ty_prop_clause w (H .c).p (H .c).c (ces H s.gone s.nc)
 wa:Ow Sl.v ty_sl_int w (H .wa).p (H .wa).c (heads H (2* (s.vars+1)))
 row: ∀y,y.row=true→y≠x→Ow y.f y.T w (H y).p (H y).c (s.R y)
theorem PM.but (h:PM w b H s) {x:Pt} (hx:x.row=true) (m:Mod (fun k=>blk (H x).p=some k) w w'):PMx w' b H s x:=by
 obtain ⟨h1,h2,h3⟩:=row_ne hx
 have oth: ∀y k,y≠x→own b H y=some k→¬blk (H x).p=some k:=fun y k hy hk=>h.other h1 hy hk
 exact ⟨h.st.keep m (oth .st b (Ne.symm h1) rfl),h.c.keep m fun k hk=>oth .c k (Ne.symm h2) hk,h.wa.keep m fun k hk=>oth .wa k (Ne.symm h3) hk,
  fun y hy e=> (h.row y hy).keep m fun k hk=>oth y k e (by rw [own_ne (row_ne hy).1];exact hk)⟩
theorem inj_upd (h:PM w b H s) {x:Pt} (hx:x≠ .st) {q:Sl} (hp: ∀k,blk q.p=some k→blk (H x).p=some k∨∀y,own b H y≠some k):
 ∀y z k,own b (updF H x q) y=some k→own b (updF H x q) z=some k→y=z:=by
 have key: ∀y,y≠x→own b (updF H x q) y=own b H y:=fun y e=>by
  cases y<;>first|rfl| (simp only [own];rw [updF_ne e])
 have same:own b (updF H x q) x=blk q.p:=by rw [own_ne hx,updF_same]
 intro y z k hy hz
 by_cases ey:y=x<;>by_cases ez:z=x
 · rw [ey,ez]
 · subst ey
   rw [same] at hy
   rw [key z ez] at hz
   rcases hp k hy with e|e
   · exact h.inj y z k (by rw [own_ne hx];exact e) hz
   · exact absurd hz (e z)
 · subst ez
   rw [same] at hz
   rw [key y ey] at hy
   rcases hp k hz with e|e
   · exact h.inj y z k hy (by rw [own_ne hx];exact e)
   · exact absurd hy (e y)
 · rw [key y ey] at hy
   rw [key z ez] at hz
   exact h.inj y z k hy hz
theorem ces_upd {x:Pt} {q:Sl} {g:Nat→Bool} {n:Nat} (hl: ∀i,x≠ .l i) (ha: ∀i,x≠ .a i):ces (updF H x q) g n=ces H g n:=by
 unfold ces ceOf
 refine List.map_congr_left fun i _=> ?_
 rw [updF_ne (fun e=>hl i e.symm),updF_ne (fun e=>ha i e.symm)]
theorem heads_upd {x:Pt} {q:Sl} {n:Nat} (hw: ∀i,x≠ .w i):heads (updF H x q) n=heads H n:=by
 unfold heads
 refine List.map_congr_left fun i _=> ?_
 rw [updF_ne (fun e=>hw i e.symm)]
theorem PM.head (h:PM w b H s) {x:Pt} (hx:x.field=true) {p':Option Addr} {c':Nat} {l':List Int} (o:Ow x.f x.T w2 p' c' l') (X:PMx w2 b H s x)
 (hp: ∀k,blk p'=some k→blk (H x).p=some k∨∀y,own b H y≠some k) {n':Nat} (hn:n'=l'.length) {K:World→Prop}
 (hk: ∀w3,PM w3 b (updF H x ⟨p',n',c'⟩) (s.set x l')→Mod (·=b) w2 w3→K w3):
 ∃w3,StoreAt ((Addr.mk b 0 none).add x.off) 0 [.slice p' n' c'] w2 w3∧K w3:=by
 subst hn
 have hr:=field_row hx
 obtain ⟨h1,h2,h3⟩:=row_ne hr
 have hb: ∀y k,y≠ .st→own b H y=some k→k≠b:=fun y k hy hk e=>by subst e;exact hy (h.inj y .st k hk rfl)
 have hpb: ∀k,blk p'=some k→¬k=b:=fun k hkk e=>by
  rcases hp k hkk with e2|e2
  · exact h1 (h.inj x .st k (by rw [own_ne h1];exact e2) (by rw [e];rfl))
  · exact e2 .st (by rw [e];rfl)
 refine store_f (k:=x.off) (i:=0) X.st (by cases x<;>simp [Pt.field] at hx<;>rfl) rfl fun w3 h3' m3=>hk w3 ?_ m3
 have hl: ∀i,x≠ .l i:=fun i e=>by subst e;simp [Pt.field] at hx
 have ha: ∀i,x≠ .a i:=fun i e=>by subst e;simp [Pt.field] at hx
 have hw: ∀i,x≠ .w i:=fun i e=>by subst e;simp [Pt.field] at hx
 refine ⟨?_,?_,?_,?_,?_,fun y hy=> ?_,fun y hy=> ?_,inj_upd h h1 hp⟩
 · have e:wr (stC s H) (0+x.off+0) [.slice p' l'.length c']=stC (s.set x l') (updF H x ⟨p',l'.length,c'⟩):=by
    cases x<;>simp [Pt.field] at hx<;>simp [wr,stC,Pt.off,updF,PSt.set,Sl.v]
   rw [← e];exact h3'
 · rw [ces_upd hl ha,updF_ne (Ne.symm h2)]
   exact X.c.keep m3 fun k hk=>hb .c k (by simp) hk
 · rw [updF_ne (Ne.symm h2)];exact h.cn
 · show Ow Sl.v ty_sl_int w3 _ _ (heads (updF H x _) (2* (s.vars+1)))
   rw [heads_upd hw,updF_ne (Ne.symm h3)]
   exact X.wa.keep m3 fun k hk=>hb .wa k (by simp) hk
 · rw [updF_ne (Ne.symm h3)];exact h.wn
 · by_cases e:y=x
   · subst e
     simp only [PSt.set,updF_same]
     exact o.keep m3 fun k hk=>hpb k hk
   · simp only [PSt.set,updF_ne e]
     exact (X.row y hy e).keep m3 fun k hk=>hb y k (row_ne hy).1 (by rw [own_ne (row_ne hy).1];exact hk)
 · by_cases e:y=x
   · subst e;simp only [PSt.set,updF_same]
   · simp only [PSt.set,updF_ne e];exact h.len y hy
theorem PM.setDone (h:PM w b H s) {d:Int} {n:Nat} (hd:d=n) {K:World→Prop} (hk: ∀w3,PM w3 b H {s with done:=n}→Mod (·=b) w w3→K w3):
 ∃w3,StoreAt ((Addr.mk b 0 none).add 9) 0 [.int .i64 d] w w3∧K w3:=by
 subst hd
 have hb: ∀y k,y≠ .st→own b H y=some k→k≠b:=fun y k hy hk e=>by subst e;exact hy (h.inj y .st k hk rfl)
 refine store_f (k:=9) (i:=0) h.st rfl rfl fun w3 h3' m3=>hk w3 ?_ m3
 refine ⟨h3',h.c.keep m3 fun k hk=>hb .c k (by simp) hk,h.cn,h.wa.keep m3 fun k hk=>hb .wa k (by simp) hk,h.wn,fun y hy=> (h.row y hy).keep m3 fun k hk=>hb y k (row_ne hy).1 (by rw [own_ne (row_ne hy).1];exact hk),h.len,h.inj⟩
theorem heads_getD {n i:Nat} (hi:i<n):(heads H n).getD i Sl.nil=H (.w i):=by
 simp [heads,List.getD,hi]
theorem heads_len {n:Nat}:(heads H n).length=n:=by simp [heads]
theorem ces_getD {g:Nat→Bool} {n i:Nat} (hi:i<n) (d:Ce):(ces H g n).getD i d=ceOf H g i:=by
 simp [ces,List.getD,hi]
theorem ces_len {g:Nat→Bool} {n:Nat}:(ces H g n).length=n:=by simp [ces]
theorem PM.headW (h:PM w b H s) {i:Nat} (hi:i<2* (s.vars+1)) {p':Option Addr} {c':Nat} {l':List Int} (o:OwI ty_int w2 p' c' l') (X:PMx w2 b H s (.w i))
 (hp: ∀k,blk p'=some k→blk (H (.w i)).p=some k∨∀y,own b H y≠some k) {n' n:Nat} (hn:n'=l'.length) (hnn:n=2* (s.vars+1)) {I:Int} (hI:I=i) {K:World→Prop}
 (hk: ∀w3,PM w3 b (updF H (.w i) ⟨p',n',c'⟩) (s.set (.w i) l')→Mod (fun k=>blk (H .wa).p=some k) w2 w3→K w3):
 ixK (H .wa).p n I 1 fun a=> ∃w3,StoreAt a 0 [.slice p' n' c'] w2 w3∧K w3:=by
 subst hn hI
 have hb: ∀y k,y≠ .wa→own b H y=some k→¬blk (H .wa).p=some k:=fun y k hy hk=>h.other (x:= .wa) (by simp) hy hk
 have hpb: ∀k,blk p'=some k→¬blk (H .wa).p=some k:=fun k hk e=>by
  rcases hp k hk with e2|e2
  · have:=h.inj (.w i) .wa k e2 e;cases this
  · exact e2 .wa e
 refine X.wa.st (x:=⟨p',l'.length,c'⟩) rfl rfl (by omega) (by rw [heads_len];exact hnn) (by omega) fun w3 o3 m3=>hk w3 ?_ m3
 rw [Int.toNat_natCast] at o3
 refine ⟨?_,?_,?_,?_,?_,fun y hy=> ?_,fun y hy=> ?_,inj_upd h (by simp) hp⟩
 · have e:stC (s.set (.w i) l') (updF H (.w i) ⟨p',l'.length,c'⟩)=stC s H:=by simp [stC,updF,PSt.set]
   rw [e]
   exact X.st.keep m3 (hb .st b (by simp) rfl)
 · rw [ces_upd (by simp) (by simp),updF_ne (by simp)]
   exact X.c.keep m3 fun k hk=>hb .c k (by simp) hk
 · rw [updF_ne (by simp)];exact h.cn
 · rw [updF_ne (by simp)]
   have e:heads (updF H (.w i) ⟨p',l'.length,c'⟩) (2* ((s.set (.w i) l').vars+1))=(heads H (2* (s.vars+1))).set i ⟨p',l'.length,c'⟩:=by
    apply List.ext_getElem?
    intro j
    simp only [heads,PSt.set,List.getElem?_map,List.getElem?_set,List.length_map,List.length_range]
    by_cases e:i=j
    · subst e
      simp [hi,updF]
    · rw [if_neg e]
      by_cases hj:j<2* (s.vars+1)
      · simp [hj,updF,Ne.symm e]
      · simp [hj]
   rw [e];exact o3
 · rw [updF_ne (by simp)];exact h.wn
 · by_cases e:y= .w i
   · subst e
     simp only [PSt.set,updF_same]
     exact o.keep m3 fun k hk=>hpb k hk
   · simp only [PSt.set,updF_ne e]
     exact (X.row y hy e).keep m3 fun k hk=>hb y k (row_ne hy).2.2 (by rw [own_ne (row_ne hy).1];exact hk)
 · by_cases e:y= .w i
   · subst e;simp only [PSt.set,updF_same]
   · simp only [PSt.set,updF_ne e];exact h.len y hy
theorem PM.fresh (h:PM w b H s) {k:Nat} (hk:w.heap.size≤k): ∀y,own b H y≠some k:=fun y e=>by have:=h.lt y k e;omega
theorem atW_eq {a:Addr} {v:Value} (h:w.cell? a=some v):AtW (·=w) a v:=fun u e=>by rw [e];exact h
theorem PM.wIx (h:PM w b H s) {i:Nat} (hi:i<2* (s.vars+1)) {n:Nat} (hn:n=(H .wa).n) {I:Int} (hI:I=i) {K:Addr→Prop}
 (hk: ∀a,blk (H .wa).p=some a.block→w.cell? a=some (H (.w i)).v→K a):ixK (H .wa).p n I 1 K:=by
 subst hI
 refine h.wa.vw.ixb Sl.nil (by omega) (by rw [hn,h.wn,heads_len]) (by rw [hn,h.wn];omega) fun a ha hc=>hk a ha ?_
 rw [Int.toNat_natCast,heads_getD hi] at hc
 exact hc
theorem PM.cIx (h:PM w b H s) {i:Nat} (hi:i<s.nc) {n:Nat} (hn:n=(H .c).n) {I:Int} (hI:I=i) {K:Addr→Prop}
 (hk: ∀a,CellsAt w a 0 [(H (.a i)).v,(H (.l i)).v,.bool (s.gone i)]→K a):ixK (H .c).p n I 3 K:=by
 subst hI
 refine (h.c.vr ceEnc).ix (Sl.nil,Sl.nil,false) (by omega) (by rw [hn,h.cn,ces_len]) (by rw [hn,h.cn];omega) fun a hc=>hk a ?_
 rw [Int.toNat_natCast,ces_getD hi] at hc
 exact hc
theorem PM.rIx (h:PM w b H s) {x:Pt} (hx:x.row=true) {I:Int} (h0:0≤I) {n:Nat} (hn:n=(H x).n) (h1:I< (s.R x).length) {K:Addr→Prop}
 (hk: ∀a,blk (H x).p=some a.block→w.cell? a=some (x.f ((s.R x).getD I.toNat 0))→K a):ixK (H x).p n I 1 K:=
 (h.row x hx).vw.ixb 0 h0 (by rw [hn,h.len x hx]) (by rw [hn,h.len x hx];omega) hk
theorem PM.rIx' (h:PM w b H s) {x:Pt} (hx:x.row=true) {I:Int} (h0:0≤I) {n:Nat} (h1:I< (s.R x).length) (h2:I<n) {K:Addr→Prop}
 (hk: ∀a,blk (H x).p=some a.block→w.cell? a=some (x.f ((s.R x).getD I.toNat 0))→K a):ixK (H x).p n I 1 K:=by
 obtain ⟨a,h3,h4,h5,h6⟩:=h.rIx hx h0 rfl h1 hk
 exact ⟨a,h3,h4,h2,h6⟩
theorem PM.rSt (h:PM w b H s) {x:Pt} (hx:x.row=true) {I:Int} (h0:0≤I) {n:Nat} (hn:n=(H x).n) (h1:I< (s.R x).length) {y:Int} {v:Value} (hv:v=x.f y) (ho:oneCell v=true) {K:World→Prop}
 (hk: ∀w',PM w' b H (s.set x ((s.R x).set I.toNat y))→Mod (fun k=>blk (H x).p=some k) w w'→K w'):ixK (H x).p n I 1 fun a=> ∃w',StoreAt a 0 [v] w w'∧K w':=
 (h.row x hx).st y hv ho h0 (by rw [hn,h.len x hx]) (by rw [hn,h.len x hx];omega) fun w' o m=>hk w' (h.setRow hx (by simp) o m) m
end
end Go.Proofs.YtbdghpjnifjlmaaGreat.W
