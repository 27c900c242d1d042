/- Layer 1: lists of literals in order. -/
import Derived.Test.YtbdghpjnifjlmaaGreatLubyA
namespace Go.Proofs.YtbdghpjnifjlmaaGreat.W
open Go Go.Fw Go.RowKit Go.SoP Go.LiP
open Go.Proofs.Tryz (prog)
open Go.IntKind (i64)
section
variable {w:World} {p q:Option Addr} {n c:Nat} {l:List Int}
theorem sl_int:slOk prog ty_sl_int ty_int 8=true:=by kernel_rfl
theorem int_zero:(Tryz.prog.info? ty_int).bind (·.zero)=some (.int .i64 0):=by kernel_rfl
theorem amt_am (l:Int):amt l=am l:=rfl
theorem am_bd {x:Int} (h:litB x=true):1≤am x∧am x≤1048576:=by
 have:=litB_bd h
 unfold am;split<;>omega
theorem amountG {l:Int} (h: -9223372036854775808<l) (h2:l<9223372036854775808) (w:World):Calls prog lit_amount.id #[.int .i64 l] w fun e w'=>e= .returned (.int .i64 (amt l))∧Gdr w w':=by
 refine lit_amount.calls ?_
 unfold lit_amount.w
 rw [wrap64_of (x:=0 - l) (by omega) (by omega)]
 refine ⟨?_,Gdr.refl w⟩
 unfold imax amt
 congr 2
 split<;>split<;>omega
theorem before_ok {x y:Int} (hx:litB x=true) (hy:litB y=true) (w:World):Calls prog lit_before.id #[.int .i64 x,.int .i64 y] w fun e w'=>e= .returned (.int .i64 (bef x y))∧Gdr w w':=by
 refine lit_before.calls ?_
 have bx:=litB_bd hx;have bY:=litB_bd hy;have ax:=am_bd hx;have ay:=am_bd hy
 refine (amountG (l:=x) (by omega) (by omega) w).mono ?_
 rintro e w1 ⟨rfl,g1⟩
 refine ⟨_,rfl,(amountG (l:=y) (by omega) (by omega) w1).mono ?_⟩
 rintro e w2 ⟨rfl,g2⟩
 rw [amt_am,amt_am]
 have G2:=g1.trans g2
 refine ⟨_,rfl,cnd_i (fun s=> ?_) (fun s=> ⟨?_,G2⟩)⟩
 · have s:am x≠am y:=by simpa using s
   refine (amountG (l:=x) (by omega) (by omega) w2).mono ?_
   rintro e w3 ⟨rfl,g3⟩
   refine ⟨_,rfl,(amountG (l:=y) (by omega) (by omega) w3).mono ?_⟩
   rintro e w4 ⟨rfl,g4⟩
   rw [amt_am,amt_am]
   refine ⟨_,rfl,?_,(G2.trans g3).trans g4⟩
   unfold bef
   rw [if_pos s,wrap64_of (by omega) (by omega)]
 · have s: ¬am x≠am y:=by simpa using s
   unfold bef
   rw [if_neg s,wrap64_of (by omega) (by omega)]
theorem before_ent:entB prog lit_before.id=true:=by kernel_rfl
theorem ahead_ok {x y:Int} (hx:litB x=true) (hy:litB y=true) (w:World):Calls prog fathomref01_Ahead.id #[.int .i64 x,.int .i64 y] w fun e w'=>e= .returned (.bool (decide (bef x y<0)))∧Grow w w':=by
 refine fathomref01_Ahead.calls ?_
 have bx:=litB_bd hx;have bY:=litB_bd hy
 refine (refVar_ok (l:=x) (by omega) w (by omega)).mono ?_
 rintro e w1 ⟨rfl,g1⟩
 refine ⟨_,rfl,(refVar_ok (l:=y) (by omega) w1 (by omega)).mono ?_⟩
 rintro e w2 ⟨rfl,g2⟩
 rw [amt_am,amt_am]
 have G2:=g1.trans g2
 refine ⟨_,rfl,cnd_i (fun s=> ⟨?_,G2⟩) (fun s=> ?_)⟩
 · have s:am x<am y:=by simpa using s
   unfold bef
   rw [if_pos (by omega),decide_eq_true (by omega)]
 have s: ¬am x<am y:=by simpa using s
 refine (refVar_ok (l:=x) (by omega) w2 (by omega)).mono ?_
 rintro e w3 ⟨rfl,g3⟩
 refine ⟨_,rfl,(refVar_ok (l:=y) (by omega) w3 (by omega)).mono ?_⟩
 rintro e w4 ⟨rfl,g4⟩
 rw [amt_am,amt_am]
 have G4:=(G2.trans g3).trans g4
 refine ⟨_,rfl,cnd_i (fun s2=> ⟨?_,G4⟩) (fun s2=> ⟨?_,G4⟩)⟩
 · have s2:am x=am y:=by simpa using s2
   unfold bef
   rw [if_neg (by omega)]
   congr 2
   exact decide_eq_decide.2 (by omega)
 · have s2:am x≠am y:=by simpa using s2
   unfold bef
   rw [if_pos s2,decide_eq_false (by omega)]
theorem mem_take_succ {t:Nat} {x:Int} (h:t<l.length):x∈l.take (t+1)↔x∈l.take t∨x=l.getD t 0:=by
 rw [List.take_add_one,List.mem_append]
 have:l[t]? =some (l.getD t 0):=by simp [List.getD,h]
 rw [this];simp
theorem mem_getD {t:Nat} (h:t<l.length):l.getD t 0∈l:=by simp [List.getD,h]
theorem has_ok (h:Vw (Value.int .i64) w p l) (hn:n=l.length) (hm:n≤maxLen) (x:Int):Calls prog fathomref01_Has.id #[.slice p n c,.int .i64 x] w fun e w'=>e= .returned (.bool (decide (x∈l)))∧Grow w w':=by
 refine fathomref01_Has.calls ?_
 unfold maxLen at hm
 refine ⟨fun I w' k=> ∃t:Nat,I=t∧t≤l.length∧k=l.length - t∧x ∉ l.take t∧Grow w w',⟨_,0,rfl,Nat.zero_le _,rfl,by simp,Mod.refl w⟩,?_⟩
 rintro I w1 k _ ⟨t,rfl,ht,rfl,ha,G⟩
 refine cnd_i (fun s=> ?_) (fun s=> ⟨?_,G⟩)
 · have s:t<l.length:=by simp at s;omega
   refine (h.grow G).ix 0 (by omega) hn (by omega) fun a e=> ⟨_,e,?_⟩
   rw [Int.toNat_natCast]
   refine cnd_i (fun s2=> ⟨?_,G⟩) (fun s2=> ⟨_,?_,t+1,wN (by omega) (by omega),by omega,rfl,?_,G⟩)
   · have s2:l.getD t 0=x:=by simpa using s2
     rw [decide_eq_true (by rw [← s2];exact mem_getD s)]
   · omega
   · have s2:l.getD t 0≠x:=by simpa using s2
     rw [mem_take_succ s]
     rintro (e|e)
     · exact ha e
     · exact s2 e.symm
 · have:t=l.length:=by simp at s;omega
   subst this
   rw [List.take_length] at ha
   rw [decide_eq_false ha]
theorem index_ok (h:Vw (Value.int .i64) w p l) (hn:n=l.length) (hm:n≤maxLen) (x:Int):Calls prog slices_Index_int_int.id #[.slice p n c,.int .i64 x] w fun e w'=> ∃r:Int,e= .returned (.int .i64 r)∧(r≥0↔x∈l)∧Grow w w':=by
 refine slices_Index_int_int.calls ?_
 unfold maxLen at hm
 refine ⟨fun I w' k=> ∃t:Nat,I=t∧t≤l.length∧k=l.length - t∧x ∉ l.take t∧Grow w w',⟨_,0,rfl,Nat.zero_le _,rfl,by simp,Mod.refl w⟩,?_⟩
 rintro I w1 k _ ⟨t,rfl,ht,rfl,ha,G⟩
 refine cnd_i (fun s=> ?_) (fun s=> ⟨-1,rfl,?_,G⟩)
 · have s:t<l.length:=by simp at s;omega
   refine (h.grow G).ix 0 (by omega) hn (by omega) fun a e=> ⟨_,e,?_⟩
   rw [Int.toNat_natCast]
   refine cnd_i (fun s2=> ⟨(t:Int),rfl,?_,G⟩) (fun s2=> ⟨_,?_,t+1,wN (by omega) (by omega),by omega,rfl,?_,G⟩)
   · have s2:x=l.getD t 0:=by simpa using s2
     exact ⟨fun _=>by rw [s2];exact mem_getD s,fun _=>by omega⟩
   · omega
   · have s2:x≠l.getD t 0:=by simpa using s2
     rw [mem_take_succ s]
     rintro (e|e)
     · exact ha e
     · exact s2 e
 · have:t=l.length:=by simp at s;omega
   subst this
   rw [List.take_length] at ha
   exact ⟨fun h=>by omega,fun h=>absurd h ha⟩
theorem contains_ok (h:Vw (Value.int .i64) w p l) (hn:n=l.length) (hm:n≤maxLen) (x:Int):Calls prog slices_Contains_int_int.id #[.slice p n c,.int .i64 x] w fun e w'=>e= .returned (.bool (decide (x∈l)))∧Grow w w':=by
 refine slices_Contains_int_int.calls ?_
 refine (index_ok h hn hm x).mono ?_
 rintro e w1 ⟨r,rfl,hr,g1⟩
 exact ⟨_,rfl,by rw [decide_eq_decide.2 hr],g1⟩
theorem args2w (u v:Value):(#[]++ #[u]++ #[v]:Array Value)= #[u,v]:=by simp
theorem clone_ok (h:Vw (Value.int .i64) w p l) (hn:n=l.length) (hm:n≤1000000):Calls prog slices_Clone_int_int.id #[.slice p n c] w fun e w'=> ∃ (q:Option Addr) (d:Nat),e= .returned (.slice q l.length d)∧OwI ty_int w' q d l∧Grow w w'∧(∀b,blk q=some b→w.heap.size≤b):=by
 refine slices_Clone_int_int.calls ?_
 refine cnd_i (fun s=> ?_) (fun s=> ?_)
 · have hp:p=none:=by cases p<;>simp at s ⊢
   subst hp
   have:l= []:=by
    rcases l with _| ⟨x,l⟩
    · rfl
    · obtain ⟨a,ha,_⟩:=h 0 (by simp);cases ha
   subst this
   exact ⟨none,0,rfl,Ow.nil _ _ _,Mod.refl w,fun b hb=>by simp [blk] at hb⟩
 · intro n1 w1 h1
   have o1:OwI ty_int w1 (some ⟨n1,0,none⟩) 0 []:=New.empty h1
   refine o1.appV sl_int (h.grow h1.mod) rfl hn oneInt (by simp;omega) fun w2 p2 c2 o2 m2 hp2 hs2=> ?_
   rw [List.nil_append] at o2 ⊢
   have e1:=h1.num
   refine ⟨p2,c2,rfl,o2,h1.mod.then m2 fun b hb e=> ?_,fun b hb=> ?_⟩
   · have:=blk_some e;omega
   · rcases hp2 with rfl|rfl
     · have:=blk_some hb;omega
     · have:=blk_some hb;have:=h1.mod.size;omega
theorem part_get {k m j:Nat} (_:k+m=l.length) (hj:j<m):((l.drop k).take m).getD j 0=l.getD (k+j) 0:=by
 simp only [List.getD_eq_getElem?_getD]
 rw [List.getElem?_take,if_pos hj,List.getElem?_drop]
theorem getD_setI {l:List Int} {i j:Nat} {x:Int} (hi:i<l.length):(l.set i x).getD j 0=if j=i then x else l.getD j 0:=getD_setN hi
theorem take_set_succ {l:List Int} {k:Nat} {x:Int} (h:k<l.length):(l.set k x).take (k+1)=l.take k++ [x]:=by
 rw [List.take_add_one,List.take_set,List.set_eq_of_length_le (by simp;omega)]
 simp [h]
theorem compact_ok (o:OwI ty_int w p c l) (hn:n=l.length) (hm:n≤1000000):Calls prog slices_Compact_int_int.id #[.slice p n c] w fun e w'=>e= .returned (.slice p (ddN l l.length).length c)∧OwI ty_int w' p c (ddN l l.length)∧Mod (Bk p) w w':=by
 refine slices_Compact_int_int.calls ?_
 refine cnd_i (fun s=> ?_) (fun s=> ?_)
 · have s:l.length<2:=by simp at s;omega
   have:ddN l l.length=l:=by
    rw [ddN_take (Nat.le_refl _) (fun j j1 j2=>by omega),List.take_length]
   rw [this,hn]
   exact ⟨rfl,o,Mod.refl w⟩
 have s:2≤l.length:=by simp at s;omega
 refine ⟨fun I w' k=> ∃t:Nat,I=t∧1≤t∧t≤n∧k=n - t∧(∀j,0<j→j<t→l.getD j 0≠l.getD (j - 1) 0)∧OwI ty_int w' p c l∧Mod (Bk p) w w',⟨_,1,rfl,Nat.le_refl _,by omega,rfl,fun j j1 j2=>by omega,o,Mod.refl w⟩,?_⟩
 rintro I w1 k _ ⟨t,rfl,t1,ht,rfl,ha,o1,m1⟩
 have hcl:l.length≤c:=by
  rcases o.un with ⟨_,_,rfl⟩| ⟨_,_,_,_,h,_⟩
  · simp at s
  · exact h
 refine cnd_i (fun r=> ?_) (fun r=> ?_)
 · have r:t<n:=by simpa using r
   have e1:i64.wrap ((t:Int) - 1)=((t - 1:Nat):Int):=wN (by omega) (by omega)
   rw [e1]
   refine o1.drew.ix 0 (by omega) hn (by omega) fun a e=> ⟨_,e,o1.drew.ix 0 (by omega) hn (by omega) fun a e=> ⟨_,e,?_⟩⟩
   rw [Int.toNat_natCast,Int.toNat_natCast]
   refine cnd_i (fun r2=> ?_) (fun r2=> ⟨_,?_,t+1,wN (by omega) (by omega),by omega,by omega,rfl,fun j j1 j2=> ?_,o1.drew,m1.drew⟩)
   · have r2:l.getD t 0=l.getD (t - 1) 0:=by simpa using r2
     refine slK_i t n c rfl rfl rfl (by omega) (by omega) (by omega) ?_
     rw [if_neg (by omega)]
     have d0:ddN l t=l.take t:=ddN_take (by omega) ha
     have d1:ddN l (t+1)=l.take t:=by
      unfold ddN
      rw [if_pos ⟨by omega,r2⟩,d0]
     refine ⟨fun I J w' k=> ∃ (i j:Nat) (cur:List Int),I=i∧J=j∧1≤j∧j≤n - t∧k=n - t - j∧i<t+j∧cur.length=n∧(∀x,t+j - 1≤x→x<n→cur.getD x 0=l.getD x 0)∧cur.take i=ddN l (t+j)∧OwI ty_int w' p c cur∧Mod (Bk p) w w',⟨_,t,1,l,rfl,rfl,Nat.le_refl _,by omega,rfl,by omega,hn.symm,fun _ _ _=>rfl,d1.symm,o1.drew,m1.drew⟩,?_⟩
     clear d0 d1
     rintro I J w2 k _ ⟨i,j,cur,rfl,rfl,j1,j2,rfl,hi,hc,hx,hd,o2,m2⟩
     have v2:Vw (Value.int .i64) w2 (p.map (·.add (t*1))) ((cur.drop t).take (n - t)):=o2.vw.part (by omega)
     have hv:n - t=((cur.drop t).take (n - t)).length:=by simp;omega
     refine cnd_i (fun r3=> ?_) (fun r3=> ?_)
     · have r3:j<n - t:=by simpa using r3
       have e2:i64.wrap ((j:Int) - 1)=((j - 1:Nat):Int):=wN (by omega) (by omega)
       rw [e2]
       refine v2.drew.ix 0 (by omega) hv (by omega) fun a e=> ⟨_,e,v2.drew.ix 0 (by omega) hv (by omega) fun a e=> ⟨_,e,?_⟩⟩
       rw [Int.toNat_natCast,Int.toNat_natCast,part_get (by omega) r3,part_get (by omega) (by omega),hx _ (by omega) (by omega),hx _ (by omega) (by omega)]
       have ed:ddN l (t+j+1)=if 0<t+j∧l.getD (t+j) 0=l.getD (t+j - 1) 0 then ddN l (t+j) else ddN l (t+j)++ [l.getD (t+j) 0]:=rfl
       rw [show t+ (j - 1)=t+j - 1 by omega]
       refine cnd_i (fun r4=> ?_) (fun r4=> ?_)
       · have r4:l.getD (t+j) 0≠l.getD (t+j - 1) 0:=by simpa using r4
         refine v2.drew.ix 0 (by omega) hv (by omega) fun a e=> ⟨_,e,?_⟩
         rw [Int.toNat_natCast,part_get (by omega) r3,hx _ (by omega) (by omega)]
         refine o2.drew.st (l.getD (t+j) 0) rfl rfl (by omega) hc.symm (by omega) fun w3 o3 m3=> ?_
         rw [Int.toNat_natCast] at o3
         refine ⟨_,?_,i+1,j+1,_,wN (by omega) (by omega),wN (by omega) (by omega),by omega,by omega,rfl,by omega,by simpa using hc,fun x x1 x2=> ?_,?_,o3,m2.drew.trans m3⟩
         · omega
         · rw [getD_setI (by omega),if_neg (by omega)]
           exact hx x (by omega) x2
         · rw [take_set_succ (by omega),hd,show t+ (j+1)=t+j+1 by omega,ed,if_neg (fun e=>r4 e.2)]
       · have r4:l.getD (t+j) 0=l.getD (t+j - 1) 0:=by simpa using r4
         refine ⟨_,?_,i,j+1,cur,rfl,wN (by omega) (by omega),by omega,by omega,rfl,by omega,hc,fun x x1 x2=>hx x (by omega) x2,?_,o2.drew,m2.drew⟩
         · omega
         · rw [hd,show t+ (j+1)=t+j+1 by omega,ed,if_pos ⟨by omega,r4⟩]
     · have r3:j=n - t:=by simp at r3;omega
       have hin:i<n:=by omega
       have hdl:(ddN l l.length).length=i:=by
        rw [show l.length=t+j by omega,← hd];simp;omega
       refine slK_i i n c rfl rfl rfl (by omega) (by omega) (by omega) ?_
       rw [if_neg (by omega)]
       refine o2.clear sl_int int_zero (x:=(0:Int)) rfl rfl (by omega) (by omega) fun w3 o3 m3=> ?_
       refine slK_i 0 i c rfl rfl rfl (by omega) (by omega) (by omega) ?_
       rw [if_neg (by omega),Nat.sub_zero,Nat.sub_zero]
       have ep:p.map (·.add (0*1))=p:=by cases p<;>simp [Addr.add]
       rw [ep,hdl]
       rw [hd,show t+j=l.length by omega] at o3
       exact ⟨rfl,o3,m2.trans m3⟩
   · omega
   · have r2:l.getD t 0≠l.getD (t - 1) 0:=by simpa using r2
     by_cases e:j=t
     · subst e;exact r2
     · exact ha j j1 (by omega)
 · have r:t=n:=by simp at r;omega
   have:ddN l l.length=l:=by
    rw [ddN_take (Nat.le_refl _) (fun j j1 j2=>ha j j1 (by omega)),List.take_length]
   rw [this,hn]
   exact ⟨rfl,o1,m1⟩
end
section
variable {w:World} {p q:Option Addr} {n c:Nat} {l:List Int}
theorem refTaut_ok (h:Vw (Value.int .i64) w p l) (hn:n=l.length) (hm:n≤maxLen) (hl: ∀x∈l,litB x=true):Calls prog fathomref01_Taut.id #[.slice p n c] w fun e w'=>e= .returned (.bool (taut l))∧Grow w w':=by
 refine fathomref01_Taut.calls ?_
 have hm':=hm
 unfold maxLen at hm'
 refine ⟨fun I w' k=> ∃t:Nat,I=t∧t≤l.length∧k=l.length - t∧(∀x∈l.take t,-x ∉ l)∧Grow w w',⟨_,0,rfl,Nat.zero_le _,rfl,by simp,Mod.refl w⟩,?_⟩
 rintro I w1 k _ ⟨t,rfl,ht,rfl,ha,G⟩
 refine cnd_i (fun s=> ?_) (fun s=> ⟨?_,G⟩)
 · have s:t<l.length:=by simp at s;omega
   refine (h.grow G).ix 0 (by omega) hn (by omega) fun a e=> ⟨_,e,?_⟩
   rw [Int.toNat_natCast]
   have hb:=litB_bd (hl _ (mem_getD s))
   have ew:i64.wrap (0 - l.getD t 0)= -(l.getD t 0):=by rw [wrap64_of (by omega) (by omega)];omega
   try dsimp only
   rw [ew]
   refine (has_ok (h.grow G) hn hm _).mono ?_
   rintro e w2 ⟨rfl,g2⟩
   refine ⟨_,rfl,cnd_i (fun s2=> ⟨?_,G.trans g2⟩) (fun s2=> ⟨_,?_,t+1,wN (by omega) (by omega),by omega,rfl,?_,G.trans g2⟩)⟩
   · have s2: -(l.getD t 0)∈l:=by simpa using s2
     have:taut l=true:=List.any_eq_true.2 ⟨_,mem_getD s,by simpa using s2⟩
     rw [this]
   · omega
   · have s2: -(l.getD t 0) ∉ l:=by simpa using s2
     intro x hx
     rcases (mem_take_succ s).1 hx with e|e
     · exact ha x e
     · rw [e];exact s2
 · have:t=l.length:=by simp at s;omega
   subst this
   rw [List.take_length] at ha
   have:taut l=false:=by
    rw [← Bool.not_eq_true]
    intro h
    obtain ⟨x,hx,hy⟩:=List.any_eq_true.1 h
    exact ha x hx (by simpa using hy)
   rw [this]
theorem app_fresh {W0:World} {l:List Int} (o:OwI ty_int w p c l) (G:Grow W0 w) (fr: ∀b,blk p=some b→W0.heap.size≤b) {m k:Nat} {news:List Int} (v:Vw (Value.int .i64) w q news) (hn:n=l.length) (hm:m=news.length) (hlen:l.length+news.length≤1000000) {K:World→Option Addr→Nat→Nat→Prop}
 (hK: ∀w' p' c',OwI ty_int w' p' c' (l++news)→Grow W0 w'→(∀b,blk p'=some b→W0.heap.size≤b)→K w' p' (l++news).length c'):
 ∃w',∃p' n' c',(Builtin.append_ #[ty_sl_int,ty_sl_int] ty_sl_int #[.slice p n c,.slice q m k]).run prog w= .ok (.slice p' n' c') w'∧K w' p' n' c':=by
 refine o.appV sl_int v hn hm oneInt (by omega) fun w2 p2 c2 o2 m2 hp2 hs2=> ?_
 refine hK w2 p2 c2 o2 (G.then m2 fun b hb e=> ?_) fun b hb=> ?_
 · have:=fr b e;omega
 · rcases hp2 with rfl|rfl
   · exact fr b hb
   · have:=blk_some hb;have:=G.size;omega
theorem ep0 (p:Option Addr):p.map (·.add (0*1))=p:=by cases p<;>simp [Addr.add]
theorem Vw.takeV (h:Vw (Value.int .i64) w p l) {k:Nat} (hk:k≤l.length):Vw (Value.int .i64) w p (l.take k):=by
 have:=h.part (i:=0) (m:=k) (by omega)
 rwa [ep0,List.drop_zero] at this
theorem refOrder_fr (h:Vw (Value.int .i64) w p l) (hn:n=l.length) (hm:n≤100000) (hl: ∀x∈l,litB x=true):Calls prog fathomref01_Order.id #[.slice p n c] w fun e w'=> ∃ (q:Option Addr) (d:Nat),e= .returned (.slice q (norm l).length d)∧OwI ty_int w' q d (norm l)∧Grow w w'∧(∀b,blk q=some b→w.heap.size≤b):=by
 refine fathomref01_Order.calls ?_
 intro n1 w1 h1
 have e1:=h1.num
 refine ⟨fun P N C I w' k=> ∃t:Nat,I=t∧t≤n∧k=n - t∧N=(ordN l t).length∧OwI ty_int w' P C (ordN l t)∧Grow w w'∧(∀b,blk P=some b→w.heap.size≤b),⟨_,0,rfl,Nat.zero_le _,rfl,rfl,New.empty h1,h1.mod,fun b hb=>by have:=blk_some hb;omega⟩,?_⟩
 rintro P N C I w2 k _ ⟨t,rfl,ht,rfl,rfl,o2,g2,f2⟩
 refine cnd_i (fun s=> ?_) (fun s=> ?_)
 · have s:t<n:=by simpa using s
   have sl:t<l.length:=by omega
   have hx:=hl _ (mem_getD sl)
   have hol:=norm_len_aux (c:=l) t
   have hcap:(ordN l t).length≤C∨ordN l t= []:=by
    rcases o2.un with ⟨_,_,h⟩| ⟨_,_,_,_,h,_⟩
    · exact .inr h
    · exact .inl h
   refine (h.grow g2).ix 0 (by omega) hn (by omega) fun a e=> ⟨_,e,?_⟩
   rw [Int.toNat_natCast]
   refine (has_ok o2.vw rfl (by unfold maxLen;omega) _).mono ?_
   rintro e w3 ⟨rfl,g3⟩
   have G3:=g2.trans g3
   have o3:=o2.grow g3
   have es:ordN l (t+1)=if l.getD t 0∈ordN l t then ordN l t else insN (ordN l t) (l.getD t 0):=rfl
   refine ⟨_,rfl,cnd_i (fun s2=> ?_) (fun s2=> ?_)⟩
   · have s2:l.getD t 0∈ordN l t:=by simpa using s2
     rw [if_pos s2] at es
     refine ⟨_,?_,t+1,wN (by omega) (by omega),by omega,rfl,by rw [es],by rw [es];exact o3,G3,f2⟩
     omega
   · have s2:l.getD t 0 ∉ ordN l t:=by simpa using s2
     rw [if_neg s2] at es
     have hom: ∀y∈ordN l t,litB y=true:=fun y hy=>hl y (List.mem_of_mem_take ((ordN_isN (c:=l) (k:=t) (by omega)).mem y|>.1 hy))
     have put: ∀ {w4:World} {at_:Nat},Grow w w4→at_=posN (ordN l t) (l.getD t 0)→OwI ty_int w4 P C (ordN l t)→
      ∀n24 w25,New (.cells #[] 3) w4 n24 w25→
       slK P (ordN l t).length C 1 none (some (at_:Int)) none fun s26_p s26_n s26_c=>
       ∃w27 r28p r28n r28c,(Builtin.append_ #[ty_sl_int,ty_sl_int] ty_sl_int #[.slice (some (Addr.mk n24 0 none)) 0 0,.slice s26_p s26_n s26_c]).run prog w25= .ok (.slice r28p r28n r28c) w27∧
       ixK p n (t:Int) 1 fun a29=>
       ∃x30,w27.cell? a29=some (.int .i64 x30)∧
       ∀n31 w32,New (.cells #[.int .i64 x30] 3) w27 n31 w32→
       ∃w33 r34p r34n r34c,(Builtin.append_ #[ty_sl_int,ty_sl_int] ty_sl_int #[.slice r28p r28n r28c,.slice (some (Addr.mk n31 0 none)) 1 1]).run prog w32= .ok (.slice r34p r34n r34c) w33∧
       slK P (ordN l t).length C 1 (some (at_:Int)) none none fun s35_p s35_n s35_c=>
       ∃w36 r37p r37n r37c,(Builtin.append_ #[ty_sl_int,ty_sl_int] ty_sl_int #[.slice r34p r34n r34c,.slice s35_p s35_n s35_c]).run prog w33= .ok (.slice r37p r37n r37c) w36∧
       ∃k5,k5<n - t∧∃t2:Nat,i64.wrap ((t:Int)+1)=t2∧t2≤n∧k5=n - t2∧r37n=(ordN l t2).length∧OwI ty_int w36 r37p r37c (ordN l t2)∧Grow w w36∧(∀b,blk r37p=some b→w.heap.size≤b):=by
      intro w4 at_ g4 hat o4 n24 w25 h25
      have hp:at_≤(ordN l t).length:=by rw [hat];exact posN_le _ _
      have hC:at_≤C:=by
       rcases hcap with h|h
       · omega
       · rw [h] at hp;simp at hp;omega
      have hins:insN (ordN l t) (l.getD t 0)=(ordN l t).take at_++ [l.getD t 0]++ (ordN l t).drop at_:=by rw [hat];rfl
      have e25:=h25.num
      have s4:=g4.size
      have O25:=o4.grow h25.mod
      refine slK_i 0 at_ C rfl rfl rfl (Nat.le_refl _) hC (Nat.zero_le _) ?_
      have ep:(if C=0 then P else P.map (·.add (0*1)))=P:=by rw [ep0];split<;>rfl
      rw [ep,Nat.sub_zero,Nat.sub_zero]
      have ov:OwI ty_int w25 (some ⟨n24,0,none⟩) 0 []:=New.empty h25
      have ht1:((ordN l t).take at_).length=at_:=by rw [List.length_take];omega
      refine app_fresh (W0:=w4) ov h25.mod (fun b hb=>by have:=blk_some hb;omega) (Vw.takeV O25.vw hp) rfl ht1.symm (by rw [ht1];simp;omega) fun w27 p27 c27 o27 g27 f27=> ?_
      rw [List.nil_append] at o27 ⊢
      refine ((h.grow (g4.trans g27))).ix 0 (by omega) hn (by omega) fun a e=> ⟨_,e,?_⟩
      rw [Int.toNat_natCast]
      intro n31 w32 h32
      have e32:=h32.num
      have v32:Vw (Value.int .i64) w32 (some ⟨n31,0,none⟩) [l.getD t 0]:=by
       intro j hj
       have:j=0:=by simpa using hj
       subst this
       exact ⟨_,rfl,cell_add h32.has rfl⟩
      have l32:((ordN l t).take at_++ [l.getD t 0]).length=at_+1:=by rw [List.length_append,ht1];rfl
      refine app_fresh (W0:=w4) (o27.grow h32.mod) (g27.trans h32.mod) f27 v32 rfl rfl (by rw [ht1];simp;omega) fun w33 p33 c33 o33 g33 f33=> ?_
      refine slK_i at_ (ordN l t).length C rfl rfl rfl (Nat.le_refl _) (by rcases hcap with h|h;omega;rw [h];exact Nat.zero_le _) hp ?_
      have ld:((ordN l t).drop at_).length=(ordN l t).length - at_:=List.length_drop
      have vd:Vw (Value.int .i64) w33 (if C=at_ then P else P.map (·.add (at_*1))) ((ordN l t).drop at_):=by
       by_cases e:at_=(ordN l t).length
       · rw [e,List.drop_length];exact Vw.nil
       · have hlt:(ordN l t).length≤C:=by
          rcases hcap with h|h
          · exact h
          · rw [h] at hp e;simp at hp;simp [hp] at e
         rw [if_neg (by omega)]
         have:=(o4.grow g33).vw.part (i:=at_) (m:=(ordN l t).length - at_) (by omega)
         rwa [List.take_of_length_le (by rw [ld];exact Nat.le_refl _)] at this
      refine app_fresh (W0:=w4) o33 g33 f33 vd rfl ld.symm (by rw [l32,ld];omega) fun w36 p36 c36 o36 g36 f36=> ?_
      rw [← hins] at o36 ⊢
      refine ⟨_,?_,t+1,wN (by omega) (by omega),by omega,rfl,by rw [es],by rw [es];exact o36,g4.trans g36,fun b hb=>by have:=f36 b hb;omega⟩
      omega
     refine ⟨fun J w' k=> ∃j:Nat,J=j∧j≤(ordN l t).length∧k=(ordN l t).length - j∧(∀i,i<j→bef ((ordN l t).getD i 0) (l.getD t 0)<0)∧Grow w3 w',⟨_,0,rfl,Nat.zero_le _,rfl,fun i hi=>by omega,Mod.refl w3⟩,?_⟩
     rintro J w4 k _ ⟨j,rfl,hj,rfl,hlo,g4⟩
     have G4:=G3.trans g4
     have o4:=o3.grow g4
     refine cnd_i (fun r=> ?_) (fun r=> ?_)
     · have r:j< (ordN l t).length:=by simpa using r
       refine o4.drew.ix 0 (by omega) rfl (by omega) fun a e=> ⟨_,e,(h.grow G4).drew.ix 0 (by omega) hn (by omega) fun a e=> ⟨_,e,?_⟩⟩
       rw [Int.toNat_natCast,Int.toNat_natCast]
       refine (ahead_ok (hom _ (mem_getD r)) hx _).mono ?_
       rintro e w5 ⟨rfl,g5⟩
       refine ⟨_,rfl,cnd_i (fun r2=> ⟨_,?_,j+1,wN (by omega) (by omega),by omega,rfl,fun i hi=> ?_,g4.drew.trans g5⟩) (fun r2=> ?_)⟩
       · omega
       · have r2:bef ((ordN l t).getD j 0) (l.getD t 0)<0:=by simpa using r2
         by_cases e:i=j
         · subst e;exact r2
         · exact hlo i (by omega)
       · have r2: ¬bef ((ordN l t).getD j 0) (l.getD t 0)<0:=by simpa using r2
         exact put (G4.drew.trans g5) (posN_uniq hlo hj fun _=>r2) (o4.drew.grow g5)
     · have r:j=(ordN l t).length:=by simp at r;omega
       exact put G4.drew (posN_uniq hlo hj fun h=>by omega) o4.drew
 · have s:t=l.length:=by simp at s;omega
   subst s
   exact ⟨P,C,rfl,o2,g2,f2⟩
theorem refOrder_ok (h:Vw (Value.int .i64) w p l) (hn:n=l.length) (hm:n≤100000) (hl: ∀x∈l,litB x=true):Calls prog fathomref01_Order.id #[.slice p n c] w fun e w'=> ∃ (q:Option Addr) (d:Nat),e= .returned (.slice q (norm l).length d)∧OwI ty_int w' q d (norm l)∧Grow w w':=by
 refine (refOrder_fr h hn hm hl).mono ?_
 rintro e w' ⟨q,d,rfl,o,g,_⟩
 exact ⟨q,d,rfl,o,g⟩
end
section
variable {w:World} {p q:Option Addr} {n c:Nat} {l:List Int}
theorem sortc_ok (o:OwI ty_int w p c l) (hn:n=l.length) (hm:n≤100000) (hl: ∀x∈l,litB x=true) {K:Ending→World→Prop}
 (hK: ∀w',OwI ty_int w' p c (norm l)→Mod (Bk p) w w'→K (.returned (.slice p (norm l).length c)) w'):
 Calls prog slices_SortFunc_int_int.id #[.slice p n c,.func (.func lit_before.id) #[] #[]] w fun e w1=>e= .returned (.tuple #[])∧Calls prog slices_Compact_int_int.id #[.slice p n c] w1 K:=by
 have X:Cx w p n l lit_before.id #[] bef:=by
  refine ⟨hn,by omega,before_ent,fun x hx y hy w' _=> ?_,bef_ord⟩
  have:(#[]++ #[Value.int .i64 x,.int .i64 y]++ #[]:Array Value)= #[.int .i64 x,.int .i64 y]:=by simp
  rw [this]
  exact before_ok (hl x hx) (hl y hy) w'
 refine (sort_ok X o).mono ?_
 rintro e w1 ⟨rfl,l1,o1,m1,p1,s1⟩
 refine ⟨rfl,(compact_ok o1 (by rw [hn,p1.length_eq]) (by omega)).mono ?_⟩
 rintro e w2 ⟨rfl,o2,m2⟩
 have:ddN l1 l1.length=norm l:=(ddN_isN p1 s1).uniq (norm_isN l)
 rw [this] at o2 ⊢
 exact hK w2 o2 (m1.trans m2)
theorem clB_lit {l:List Int} (h:clB l=true): ∀x∈l,litB x=true:=(clB_all h).1
theorem norm_lit (hl: ∀x∈l,litB x=true): ∀x∈norm l,litB x=true:=fun x hx=>hl x (((norm_isN l).mem x).1 hx)
theorem norm_fr (h:Vw (Value.int .i64) w p l) (hn:n=l.length) (hm:n≤maxLen):Calls prog lit_Norm.id #[.slice p n c] w fun e w'=> ∃ (q:Option Addr) (d:Nat) (m:List Int),m=(if clB l then norm l else [])∧e= .returned (.tuple #[.slice q m.length d,.bool (clB l && taut l)])∧OwI ty_int w' q d m∧Grow w w'∧(∀b,blk q=some b→w.heap.size≤b):=by
 refine lit_Norm.calls ?_
 refine (litCheck_ok h hn hm).mono ?_
 rintro e w1 ⟨rfl,g1⟩
 cases hc:clB l with
 |false=>exact ⟨_,rfl,cnd_t rfl ⟨none,0,[],rfl,rfl,Ow.nil _ _ _,g1,fun b e=>by simp [blk] at e⟩⟩
 |true=>
 have hll:=clB_lit hc
 have hlen:=(clB_all hc).2
 refine ⟨_,rfl,cnd_f rfl ((clone_ok (h.grow g1) hn (by omega)).mono ?_)⟩
 rintro e w2 ⟨q,d,rfl,o2,g2,f2⟩
 refine ⟨_,_,_,rfl,sortc_ok o2 rfl (by omega) hll fun w4 o4 m4=> ?_⟩
 have g4:Grow w w4:=(g1.trans g2).then m4 fun b hb e=>by
  have:=f2 b e;have:=g1.size;omega
 have fq: ∀b,blk q=some b→w.heap.size≤b:=fun b e=>by have:=f2 b e;have:=g1.size;omega
 have hnl:=norm_len l
 have nz: ∀x∈l,x≠0:=fun x hx=> (litB_bd (hll x hx)).1
 have ta:=taut_adj (norm_isN l) nz
 refine ⟨_,_,_,rfl,fun I w' k=> ∃t:Nat,I=t∧1≤t∧(∀i,0<i→i<t→i< (norm l).length→(norm l).getD i 0≠ -((norm l).getD (i - 1) 0))∧k=(norm l).length - t∧OwI ty_int w' q d (norm l)∧Grow w w',⟨_,1,rfl,Nat.le_refl _,fun i i1 i2=>by omega,rfl,o4,g4⟩,?_⟩
 rintro I w5 k _ ⟨t,rfl,t1,ha,rfl,o5,g5⟩
 refine cnd_i (fun s=> ?_) (fun s=> ?_)
 · have s:t< (norm l).length:=by simpa using s
   have e1:i64.wrap ((t:Int) - 1)=((t - 1:Nat):Int):=wN (by omega) (by omega)
   rw [e1]
   refine o5.drew.ix 0 (by omega) rfl (by omega) fun a e=> ⟨_,e,o5.drew.ix 0 (by omega) rfl (by omega) fun a e=> ⟨_,e,?_⟩⟩
   rw [Int.toNat_natCast,Int.toNat_natCast]
   have hb:=litB_bd (norm_lit hll _ (mem_getD (l:=norm l) (t:=t - 1) (by omega)))
   have ew:i64.wrap (0 - (norm l).getD (t - 1) 0)= -((norm l).getD (t - 1) 0):=by rw [wrap64_of (by omega) (by omega)];omega
   try dsimp only
   rw [ew]
   refine cnd_i (fun s2=> ?_) (fun s2=> ⟨_,?_,t+1,wN (by omega) (by omega),by omega,fun i i1 i2 i3=> ?_,rfl,o5.drew,g5.drew⟩)
   · have s2:(norm l).getD t 0= -((norm l).getD (t - 1) 0):=by simpa using s2
     have:taut l=true:=ta.2 ⟨t,by omega,s,s2⟩
     exact ⟨q,d,norm l,rfl,by rw [this];rfl,o5.drew,g5.drew,fq⟩
   · omega
   · have s2:(norm l).getD t 0≠ -((norm l).getD (t - 1) 0):=by simpa using s2
     by_cases e:i=t
     · subst e;exact s2
     · exact ha i i1 (by omega) i3
 · have s:(norm l).length≤t:=by simp at s;omega
   have:taut l=false:=by
    rw [← Bool.not_eq_true]
    intro h
    obtain ⟨i,i1,i2,i3⟩:=ta.1 h
    exact ha i i1 (by omega) i2 i3
   exact ⟨q,d,norm l,rfl,by rw [this];rfl,o5,g5,fq⟩
def wo (l:List Int) (x:Int):List Int:=l.filter fun y=>y !=x
theorem norm_ok (h:Vw (Value.int .i64) w p l) (hn:n=l.length) (hm:n≤maxLen):Calls prog lit_Norm.id #[.slice p n c] w fun e w'=> ∃ (q:Option Addr) (d:Nat) (m:List Int),m=(if clB l then norm l else [])∧e= .returned (.tuple #[.slice q m.length d,.bool (clB l && taut l)])∧OwI ty_int w' q d m∧Grow w w':=
 (norm_fr h hn hm).mono fun _ _ ⟨q,d,m,e1,e2,o,g,_⟩=> ⟨q,d,m,e1,e2,o,g⟩
theorem wo_succ {t:Nat} {x:Int} (h:t<l.length):wo (l.take (t+1)) x=wo (l.take t) x++ (if l.getD t 0 !=x then [l.getD t 0] else []):=by
 unfold wo
 rw [List.take_add_one,List.filter_append]
 have:l[t]? =some (l.getD t 0):=by simp [List.getD,h]
 rw [this]
 simp only [Option.toList_some,List.filter_cons,List.filter_nil]
theorem wo_len {x:Int}:(wo l x).length≤l.length:=List.length_filter_le _ _
theorem without_ok (h:Vw (Value.int .i64) w p l) (hn:n=l.length) (hm:n≤100000) (x:Int):Calls prog fathomref01_Without.id #[.slice p n c,.int .i64 x] w fun e w'=> ∃ (q:Option Addr) (d:Nat),e= .returned (.slice q (wo l x).length d)∧OwI ty_int w' q d (wo l x)∧Grow w w'∧(∀b,blk q=some b→w.heap.size≤b):=by
 refine fathomref01_Without.calls ?_
 intro n1 w1 h1
 have e1:=h1.num
 refine ⟨fun P N C I w' k=> ∃t:Nat,I=t∧t≤n∧k=n - t∧N=(wo (l.take t) x).length∧OwI ty_int w' P C (wo (l.take t) x)∧Grow w w'∧(∀b,blk P=some b→w.heap.size≤b),⟨_,0,rfl,Nat.zero_le _,rfl,rfl,New.empty h1,h1.mod,fun b hb=>by have:=blk_some hb;omega⟩,?_⟩
 rintro P N C I w2 k _ ⟨t,rfl,ht,rfl,rfl,o2,g2,f2⟩
 refine cnd_i (fun s=> ?_) (fun s=> ?_)
 · have s:t<n:=by simpa using s
   have sl:t<l.length:=by omega
   have hw:=wo_len (l:=l.take t) (x:=x)
   rw [List.length_take] at hw
   have es:=wo_succ (x:=x) sl
   refine (h.grow g2).ix 0 (by omega) hn (by omega) fun a e=> ⟨_,e,?_⟩
   rw [Int.toNat_natCast]
   refine cnd_i (fun s2=> ?_) (fun s2=> ?_)
   · rw [if_pos s2] at es
     refine (h.grow g2).ix 0 (by omega) hn (by omega) fun a e=> ⟨_,e,?_⟩
     rw [Int.toNat_natCast]
     intro n31 w32 h32
     have v32:Vw (Value.int .i64) w32 (some ⟨n31,0,none⟩) [l.getD t 0]:=by
      intro j hj
      have:j=0:=by simpa using hj
      subst this
      exact ⟨_,rfl,cell_add h32.has rfl⟩
     refine app_fresh (W0:=w) (o2.grow h32.mod) (g2.trans h32.mod) f2 v32 rfl rfl (by simp;omega) fun w33 p33 c33 o33 g33 f33=> ?_
     refine ⟨_,?_,t+1,wN (by omega) (by omega),by omega,rfl,by rw [es],by rw [es];exact o33,g33,f33⟩
     omega
   · rw [if_neg (by rw [s2];exact Bool.false_ne_true),List.append_nil] at es
     refine ⟨_,?_,t+1,wN (by omega) (by omega),by omega,rfl,by rw [es],by rw [es];exact o2,g2,f2⟩
     omega
 · have s:t=l.length:=by simp at s;omega
   subst s
   rw [List.take_length] at o2 ⊢
   exact ⟨P,C,rfl,o2,g2,f2⟩
end
end Go.Proofs.YtbdghpjnifjlmaaGreat.W
namespace Go.LeP
open Go.SoP Go.LiP
def Tr1 (v:Int→Int) (c:List Int):Prop:= ∃l∈c,v l=1
end Go.LeP
