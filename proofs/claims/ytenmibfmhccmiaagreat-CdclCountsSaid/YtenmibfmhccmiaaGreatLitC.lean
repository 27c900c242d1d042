/- Layer 1: the statement LitHolds. -/
import Derived.Test.YtenmibfmhccmiaaGreatLitB
namespace Go.Proofs.YtenmibfmhccmiaaGreat.W
open Go Go.Fw Go.RowKit Go.SoP Go.LiP
open Go.Proofs.Tryz (prog)
section
variable {w:World} {p q:Option Addr} {n c:Nat} {l:List Int}
theorem row_ix {hs:List Sl} {cs:List (List Int)} (hc:V2 (Value.int .i64) w q hs cs) {m t:Nat} (hm:m=cs.length) (ht:t<cs.length) {K:Addr→Prop}
 (hk: ∀a (s:Sl),w.cell? a=some (.slice s.p s.n s.c)→s.n=(cs.getD t []).length→s.n≤maxLen→Vw (Value.int .i64) w s.p (cs.getD t [])→s=hs.getD t Sl.nil→K a):ixK q m (t:Int) 1 K:=
 rowIx hc hm ht fun a s e hs h1 h2 h3=>hk a s e h1 h2 h3 hs
theorem light_ok {k:Int} {hs:List Sl} {cs:List (List Int)} {m d:Nat} (hc:V2 (Value.int .i64) w q hs cs) (hm:m=cs.length):Calls prog fathomlaw01_Light.id #[.agg #[.int .i64 k,.slice q m d]] w fun e w'=> ∃b:Bool,e= .returned (.bool b)∧Grow w w':=by
 refine fathomlaw01_Light.calls ?_
 intro n1 w1 h1
 have g1:=h1.mod
 refine ⟨fun _ I w' k=> ∃t:Nat,I=t∧t≤301∧k=301 - t∧Grow w1 w',⟨_,0,rfl,Nat.zero_le _,rfl,Mod.refl w1⟩,?_⟩
 rintro N I w2 k2 _ ⟨t,rfl,ht,rfl,g2⟩
 have H2:=h1.has.grow g2
 have G2:=g1.trans g2
 refine ⟨_,_,_,cell_add H2 rfl,cnd_i (fun s=>cnd_i (fun s2=> ?_) (fun _=> ?_)) (fun _=> ?_)⟩
 · have s:t<cs.length:=by simp at s;omega
   have s2:t≤300:=by simp at s2;omega
   refine ⟨_,_,_,cell_add H2 rfl,row_ix (hc.grow G2) hm s fun a x e e1 e2 v _=> ⟨_,_,_,e,cnd_i (fun _=> ⟨false,rfl,G2⟩) (fun _=> ?_)⟩⟩
   refine ⟨_,_,_,cell_add H2 rfl,row_ix (hc.grow G2) hm s fun a x e e1 e2 v _=> ⟨_,_,_,e,_,?_,t+1,wN (by omega) (by omega),by omega,rfl,g2⟩⟩
   omega
 · exact ⟨_,_,_,cell_add H2 rfl,cnd_i (fun _=> ⟨_,rfl,G2⟩) (fun _=> ⟨_,rfl,G2⟩)⟩
 · exact ⟨_,_,_,cell_add H2 rfl,cnd_i (fun _=> ⟨_,rfl,G2⟩) (fun _=> ⟨_,rfl,G2⟩)⟩
theorem refCnf_ok {k:Int} {hs:List Sl} {cs:List (List Int)} {m d:Nat} (hc:V2 (Value.int .i64) w q hs cs) (hm:m=cs.length):Calls prog fathomref01_Cnf.id #[.agg #[.int .i64 k,.slice q m d]] w fun e w'=>e= .returned (.bool (cnfB k cs))∧Grow w w':=by
 refine fathomref01_Cnf.calls ?_
 intro n1 w1 h1
 have g1:=h1.mod
 have bad: ∀w',Grow w w'→cnfB k cs=false→(Ending.returned (.bool false)= .returned (.bool (cnfB k cs))∧Grow w w'):=fun w' g hf=>by rw [hf];exact ⟨rfl,g⟩
 have no: ¬(0≤k∧k≤1048576∧cs.length≤262144)→cnfB k cs=false:=fun h=>by unfold cnfB;rw [decide_eq_false h,Bool.false_and]
 refine ⟨_,cell_add h1.has rfl,cnd_i (fun s=>bad _ g1 (no (by simp at s;omega))) (fun s1=> ⟨_,cell_add h1.has rfl,cnd_i (fun s=>bad _ g1 (no (by simp at s;omega))) (fun s2=> ⟨_,_,_,cell_add h1.has rfl,cnd_i (fun s=>bad _ g1 (no (by simp at s;omega))) (fun s3=> ?_)⟩)⟩)⟩
 simp only [decide_eq_false_iff_not] at s1 s2 s3
 have yes:cnfB k cs=cs.all fun c=>clB c && c.all fun l=>decide (amt l≤k):=by unfold cnfB;rw [decide_eq_true (by omega),Bool.true_and]
 refine ⟨fun I w' k2=> ∃t:Nat,I=t∧t≤cs.length∧k2=cs.length - t∧((cs.take t).all fun c=>clB c && c.all fun l=>decide (amt l≤k))=true∧Grow w1 w',⟨_,0,rfl,Nat.zero_le _,rfl,rfl,Mod.refl w1⟩,?_⟩
 rintro I w2 k2 _ ⟨t,rfl,ht,rfl,ha,g2⟩
 have H2:=h1.has.grow g2
 have G2:=g1.trans g2
 refine ⟨_,_,_,cell_add H2 rfl,cnd_i (fun s=> ?_) (fun s=> ⟨?_,G2⟩)⟩
 · have s:t<cs.length:=by simp at s;omega
   refine ⟨_,_,_,cell_add H2 rfl,row_ix (hc.grow G2) hm s fun a x e e1 e2 v ex=> ⟨_,_,_,e,(refMay_ok v e1 e2).mono ?_⟩⟩
   rintro e w3 ⟨rfl,g3⟩
   have G3:=G2.trans g3
   refine ⟨_,rfl,cnd_i (fun r=>bad _ G3 (by rw [yes];exact allFalse (d:= []) s (by rw [show clB (cs.getD t [])=false by simpa using r];rfl))) (fun r=> ?_)⟩
   have r:clB (cs.getD t [])=true:=by simpa using r
   have hlen:=(clB_all r).2
   refine ⟨fun J w' k3=> ∃j:Nat,J=j∧j≤(cs.getD t []).length∧k3=(cs.getD t []).length - j∧(((cs.getD t []).take j).all fun l=>decide (amt l≤k))=true∧Grow w3 w',⟨_,0,rfl,Nat.zero_le _,rfl,rfl,Mod.refl w3⟩,?_⟩
   rintro J w4 k3 _ ⟨j,rfl,hj,rfl,hb,g4⟩
   have H4:=(H2.grow g3).grow g4
   have G4:=G3.trans g4
   refine ⟨_,_,_,cell_add H4 rfl,row_ix (hc.grow G4) hm s fun a x e e1 e2 v ex=> ⟨_,_,_,e,cnd_i (fun r2=> ?_) (fun r2=> ?_)⟩⟩
   · have r2:j< (cs.getD t []).length:=by simp at r2;omega
     refine ⟨_,_,_,cell_add H4.drew rfl,row_ix (hc.grow G4).drew hm s fun a x e e1 e2 v ex=> ⟨_,_,_,e,v.ix 0 (by omega) e1 (by omega) fun a e=> ⟨_,e,?_⟩⟩⟩
     rw [Int.toNat_natCast]
     have hb':=litB_bd (clB_lit r _ (mem_getD r2))
     have fin: ∀w5,Grow w4.drew w5→cnd (decide (amt ((cs.getD t []).getD j 0)>k)) (Ending.returned (.bool false)= .returned (.bool (cnfB k cs))∧Grow w w5)
      (∃k19,k19< (cs.getD t []).length - j∧∃j2:Nat,IntKind.i64.wrap ((j:Int)+1)=j2∧j2≤(cs.getD t []).length∧k19=(cs.getD t []).length - j2∧(((cs.getD t []).take j2).all fun l=>decide (amt l≤k))=true∧Grow w3 w5):=by
      intro w5 g5
      refine cnd_i (fun r3=>bad _ (G4.drew.trans g5) ?_) (fun r3=> ⟨_,?_,j+1,wN (by omega) (by omega),by omega,rfl,allTakeS (d:=0) r2 hb (by simp at r3 ⊢;omega),g4.drew.trans g5⟩)
      · rw [yes]
        refine allFalse (d:= []) s ?_
        rw [allFalse (d:=0) r2 (by simp at r3 ⊢;omega),Bool.and_false]
      · omega
     refine ⟨(refVar_ok (by omega) _ (by omega)).mono ?_,⟨_,cell_add H4.drew rfl,(refVar_ok (by omega) _ (by omega)).mono ?_⟩⟩
     · rintro e w5 ⟨rfl,g5⟩
       exact ⟨_,rfl,_,cell_add (H4.drew.grow g5) rfl,fin w5 g5⟩
     · rintro e w5 ⟨rfl,g5⟩
       exact ⟨_,rfl,fin w5 g5⟩
   · have r2:j=(cs.getD t []).length:=by simp at r2;omega
     subst r2
     rw [List.take_length] at hb
     refine ⟨_,?_,t+1,wN (by omega) (by omega),by omega,rfl,allTakeS (d:= []) s ha (by rw [r,hb];rfl),(g2.trans g3).trans g4⟩
     omega
 · have s:t=cs.length:=by simp at s;omega
   subst s
   rw [List.take_length] at ha
   rw [yes,ha]
end
section
variable {w:World} {p q:Option Addr} {n c:Nat} {l:List Int}
theorem cnf_of_rd {v:Value} (h:RdV w (.cons (.int .i64) (.cons (.sl (.sl (.int .i64))) .nil)) v): ∃k q j d hs cs,v= .agg #[.int .i64 k,.slice q j d]∧j=cs.length∧j≤maxLen∧V2 (Value.int .i64) w q hs cs∧(-9223372036854775808≤k∧k<9223372036854775808):=by
 obtain ⟨cs,rfl,x,y,rfl,⟨k,rfl,hk⟩,z,u,rfl,hz,rfl⟩:=h
 have hv: ∃s,z= [s]∧RdV w (.sl (.sl (.int .i64))) s:=by
  rcases hz with rfl| ⟨a',len',cap',rfl,g⟩
  · exact ⟨_,rfl,.inl rfl⟩
  · exact ⟨_,rfl,.inr ⟨a',len',cap',rfl,g⟩⟩
 obtain ⟨s,rfl,hs'⟩:=hv
 obtain ⟨q,m,d,ss,rows,rfl,hm,hm1,hm2,hc⟩:=rows_of_rd (fun v=>ints_of_rd') hs'
 exact ⟨k,q,m,d,ss,rows,rfl,hm,Nat.le_trans hm1 hm2,hc,bd64_of_wf hk⟩
end
section
variable {w:World} {p q:Option Addr} {n c:Nat} {l:List Int}
theorem sl_sl_int:slOk prog ty_sl_sl_int ty_sl_int 24=true:=by kernel_rfl
theorem idxF_ok (h:Vw (Value.int .i64) w p l) (hn:n=l.length) (hm:n≤maxLen) {fid:FuncId} {fv:Array Value} (he:entB prog fid=true) (pr:Int→Bool)
 (hf: ∀x∈l,∀w',Grow w w'→Calls prog fid (#[]++ #[.int .i64 x]++fv) w' fun e w2=>e= .returned (.bool (pr x))∧Grow w' w2):
 Calls prog slices_IndexFunc_int_int.id #[.slice p n c,.func (.func fid) #[] fv] w fun e w'=>Grow w w'∧((e= .returned (.int .i64 (-1))∧∀t,t<l.length→pr (l.getD t 0)=false)∨
  ∃t:Nat,e= .returned (.int .i64 t)∧t<l.length∧pr (l.getD t 0)=true∧∀j,j<t→pr (l.getD j 0)=false):=by
 refine slices_IndexFunc_int_int.calls ?_
 unfold maxLen at hm
 refine ⟨fun v w' k=> ∃t:Nat,v=t∧t≤l.length∧k=l.length - t∧(∀j,j<t→pr (l.getD j 0)=false)∧Grow w w',⟨_,0,rfl,Nat.zero_le _,rfl,fun j hj=>by omega,Mod.refl w⟩,?_⟩
 rintro v w5 k _ ⟨t,rfl,ht,rfl,ha,G⟩
 refine cnd_i (fun q=> ?_) (fun q=> ⟨G,.inl ⟨rfl,fun j hj=>ha j (by simp at q;omega)⟩⟩)
 have q':t<l.length:=by simp at q;omega
 refine (h.grow G).ix 0 (by omega) hn (by omega) fun a e=> ⟨_,e,?_⟩
 rw [he]
 show Calls _ _ _ _ _
 rw [Int.toNat_natCast]
 refine (hf _ (mem_getD q') w5 G).mono ?_
 rintro e w8 ⟨rfl,g8⟩
 refine ⟨_,rfl,cnd_i (fun s=> ⟨G.trans g8,.inr ⟨t,rfl,q',s,ha⟩⟩) (fun s=> ⟨_,?_,t+1,wN (by omega) (by omega),by omega,rfl,fun j hj=> ?_,G.trans g8⟩)⟩
 · omega
 · by_cases e:j=t
   · subst e;exact s
   · exact ha j (by omega)
theorem filter_succ {f:Int→Bool} {t:Nat} (h:t<l.length):(l.take (t+1)).filter f=(l.take t).filter f++ (if f (l.getD t 0) then [l.getD t 0] else []):=by
 rw [List.take_add_one,List.filter_append]
 have:l[t]? =some (l.getD t 0):=by simp [List.getD,h]
 rw [this]
 simp only [Option.toList_some,List.filter_cons,List.filter_nil]
theorem delete_ok (o:OwI ty_int w p c l) (hn:n=l.length) (hm:n≤1000000) {fid:FuncId} {fv:Array Value} (he:entB prog fid=true) (pr:Int→Bool)
 (hf: ∀x∈l,∀w',Mod (Bk p) w w'→Calls prog fid (#[]++ #[.int .i64 x]++fv) w' fun e w2=>e= .returned (.bool (pr x))∧Grow w' w2):
 Calls prog slices_DeleteFunc_int_int.id #[.slice p n c,.func (.func fid) #[] fv] w fun e w'=>e= .returned (.slice p (l.filter fun x=> !pr x).length c)∧OwI ty_int w' p c (l.filter fun x=> !pr x)∧Mod (Bk p) w w':=by
 refine slices_DeleteFunc_int_int.calls ?_
 refine (idxF_ok o.vw hn (by unfold maxLen;omega) he pr fun x hx w' g=>hf x hx w' (g.mono fun _ _=>False.elim)).mono ?_
 rintro e w1 ⟨g1,⟨rfl,hno⟩| ⟨t,rfl,ht,hpt,hlo⟩⟩
 · have:(l.filter fun x=> !pr x)=l:=by
    rw [List.filter_eq_self]
    intro x hx
    obtain ⟨j,hj,e⟩:=List.mem_iff_getElem.1 hx
    have:=hno j hj
    simp only [List.getD,List.getElem?_eq_getElem hj,Option.getD_some,e] at this
    rw [this];rfl
   rw [this]
   exact ⟨_,rfl,cnd_t rfl ⟨by rw [hn],o.grow g1,g1.mono fun _ _=>False.elim⟩⟩
 · have M1:Mod (Bk p) w w1:=g1.mono fun _ _=>False.elim
   have hcl:l.length≤c:=by
    rcases o.un with ⟨_,_,rfl⟩| ⟨_,_,_,_,h,_⟩
    · simp at ht
    · exact h
   have f0:(l.take t).filter (fun x=> !pr x)=l.take t:=by
    rw [List.filter_eq_self]
    intro x hx
    obtain ⟨j,hj,e⟩:=List.mem_iff_getElem.1 hx
    rw [List.length_take] at hj
    have h2:=hlo j (by omega)
    rw [List.getElem_take] at e
    simp only [List.getD,List.getElem?_eq_getElem (show j<l.length by omega),Option.getD_some,e] at h2
    rw [h2];rfl
   have f1:(l.take (t+1)).filter (fun x=> !pr x)=l.take t:=by
    rw [filter_succ ht,f0,hpt];simp
   refine ⟨_,rfl,cnd_f (by simp) ?_⟩
   have et:IntKind.i64.wrap ((t:Int)+1)=((t+1:Nat):Int):=wN (by omega) (by omega)
   rw [et]
   refine ⟨fun I J w' k=> ∃ (i j:Nat) (cur:List Int),I=i∧J=j∧i<j∧j≤n∧k=n - j∧cur.length=n∧(∀x,j≤x→x<n→cur.getD x 0=l.getD x 0)∧cur.take i=(l.take j).filter (fun x=> !pr x)∧OwI ty_int w' p c cur∧Mod (Bk p) w w',⟨_,t,t+1,l,rfl,rfl,by omega,by omega,rfl,hn.symm,fun _ _ _=>rfl,f1.symm,o.grow g1,M1⟩,?_⟩
   rintro I J w2 k _ ⟨i,j,cur,rfl,rfl,hij,hj,rfl,hc,hx,hd,o2,m2⟩
   refine cnd_i (fun s=> ?_) (fun s=> ?_)
   · have s:j<n:=by simpa using s
     have sl:j<l.length:=by omega
     refine o2.ix 0 (by omega) hc.symm (by omega) fun a e=> ⟨_,e,?_⟩
     rw [Int.toNat_natCast,hx j (Nat.le_refl _) s,he]
     show Calls _ _ _ _ _
     refine (hf _ (mem_getD sl) w2 m2).mono ?_
     rintro e w3 ⟨rfl,g3⟩
     have fs:=filter_succ (f:=fun x=> !pr x) sl
     refine ⟨_,rfl,cnd_i (fun r=> ?_) (fun r=> ?_)⟩
     · rw [if_pos r] at fs
       refine (o2.grow g3).st (l.getD j 0) rfl rfl (by omega) hc.symm (by omega) fun w4 o4 m4=> ?_
       rw [Int.toNat_natCast] at o4
       refine ⟨_,?_,i+1,j+1,_,wN (by omega) (by omega),wN (by omega) (by omega),by omega,by omega,rfl,by simpa using hc,fun x x1 x2=> ?_,?_,o4,(m2.grow g3).trans m4⟩
       · omega
       · rw [getD_setI (by omega),if_neg (by omega)]
         exact hx x (by omega) x2
       · rw [take_set_succ (by omega),hd,fs]
     · rw [if_neg (by rw [r];exact Bool.false_ne_true),List.append_nil] at fs
       refine ⟨_,?_,i,j+1,cur,rfl,wN (by omega) (by omega),by omega,by omega,rfl,hc,fun x x1 x2=>hx x (by omega) x2,by rw [hd,fs],o2.grow g3,m2.grow g3⟩
       omega
   · have s:j=n:=by simp at s;omega
     have e0:l.take j=l:=List.take_of_length_le (by omega)
     rw [e0] at hd
     have hdl:(l.filter fun x=> !pr x).length=i:=by rw [← hd];simp;omega
     refine slK_i i n c rfl rfl rfl (by omega) (by omega) (by omega) ?_
     rw [if_neg (by omega)]
     refine o2.clear sl_int int_zero (x:=(0:Int)) rfl rfl (by omega) (by omega) fun w3 o3 m3=> ?_
     refine slK_i 0 i c rfl rfl rfl (by omega) (by omega) (by omega) ?_
     rw [if_neg (by omega),Nat.sub_zero,Nat.sub_zero,ep0,hdl]
     rw [hd] at o3
     exact ⟨rfl,o3,m2.trans m3⟩
end
end Go.Proofs.YtenmibfmhccmiaaGreat.W
