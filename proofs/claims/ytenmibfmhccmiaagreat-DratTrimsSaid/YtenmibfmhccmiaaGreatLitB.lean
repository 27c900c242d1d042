/- Layer 1: lists of literals in order. -/
import Derived.Test.YtenmibfmhccmiaaGreatSortA
import Derived.Test.YtenmibfmhccmiaaGreatPureA
import Derived.Test.YtenmibfmhccmiaaGreatLitA
import Derived.Test.YtenmibfmhccmiaaGreatFwMore
import Derived.Test.YtenmibfmhccmiaaGreatFwRead
set_option linter.unusedVariables false
set_option linter.unusedSimpArgs false
namespace Go.Proofs.YtenmibfmhccmiaaGreat.W
open Go Go.Fw Go.RowKit Go.SoP Go.LiP
variable {w:World} {p q:Option Addr} {n c:Nat} {l:List Int}
theorem sl_int:slOk Tryz.prog ty_sl_int ty_int 8=true:=by kernel_rfl
theorem int_zero:(Tryz.prog.info? ty_int).bind (·.zero)=some (.int .i64 0):=by kernel_rfl
theorem amt_am (l:Int):amt l=am l:=rfl
theorem am_bd {x:Int} (h:litB x=true):1≤am x∧am x≤1048576:=by
 have:=litB_bd h
 unfold am;split<;>omega
theorem before_ok {x y:Int} (hx:litB x=true) (hy:litB y=true) (w:World):Calls Tryz.prog lit_before.id #[.int .i64 x,.int .i64 y] w fun e w'=>e= .returned (.int .i64 (bef x y))∧Grow w w':=by
 refine lit_before.calls ?_
 have bx:=litB_bd hx;have bY:=litB_bd hy;have ax:=am_bd hx;have ay:=am_bd hy
 refine (amount_ok (l:=x) (by omega) (by omega) w).mono ?_
 rintro e w1 ⟨rfl,g1⟩
 refine ⟨_,rfl,(amount_ok (l:=y) (by omega) (by omega) w1).mono ?_⟩
 rintro e w2 ⟨rfl,g2⟩
 rw [amt_am,amt_am]
 have G2:=g1.trans g2
 refine ⟨_,rfl,cnd_i (fun s=> ?_) (fun s=> ⟨?_,G2⟩)⟩
 · have s:am x≠am y:=by simpa using s
   refine (amount_ok (l:=x) (by omega) (by omega) w2).mono ?_
   rintro e w3 ⟨rfl,g3⟩
   refine ⟨_,rfl,(amount_ok (l:=y) (by omega) (by omega) w3).mono ?_⟩
   rintro e w4 ⟨rfl,g4⟩
   rw [amt_am,amt_am]
   refine ⟨_,rfl,?_,(G2.trans g3).trans g4⟩
   unfold bef
   rw [if_pos s,wrap64_of (by omega) (by omega)]
 · have s: ¬am x≠am y:=by simpa using s
   unfold bef
   rw [if_neg s,wrap64_of (by omega) (by omega)]
theorem before_ent:entB Tryz.prog lit_before.id=true:=by kernel_rfl
theorem mem_take_succ {t:Nat} {x:Int} (h:t<l.length):x∈l.take (t+1)↔x∈l.take t∨x=l.getD t 0:=by
 rw [List.take_add_one,List.mem_append]
 have:l[t]? =some (l.getD t 0):=by simp [List.getD,h]
 rw [this];simp
theorem mem_getD {t:Nat} (h:t<l.length):l.getD t 0∈l:=by simp [List.getD,h]
theorem has_ok (h:Vw (Value.int .i64) w p l) (hn:n=l.length) (hm:n≤maxLen) (x:Int):Calls Tryz.prog fathomref01_Has.id #[.slice p n c,.int .i64 x] w fun e w'=>e= .returned (.bool (decide (x∈l)))∧Grow w w':=by
 refine fathomref01_Has.calls ?_
 unfold maxLen at hm
 refine ⟨fun I w' k=> ∃t:Nat,I=t∧t≤l.length∧k=l.length - t∧x ∉ l.take t∧Grow w w',⟨_,0,rfl,Nat.zero_le _,rfl,by simp,Mod.refl w⟩,?_⟩
 rintro I w1 k _ ⟨t,rfl,ht,rfl,ha,G⟩
 refine cnd_i (fun s=> ?_) (fun s=> ⟨?_,G⟩)
 · have s:t<l.length:=by simp at s;omega
   refine (h.grow G).ix 0 (by omega) hn (by omega) fun a e=> ⟨_,e,?_⟩
   rw [Int.toNat_natCast]
   refine cnd_i (fun s2=> ⟨?_,G⟩) (fun s2=> ⟨_,?_,t+1,wN (by omega) (by omega),by omega,rfl,?_,G⟩)
   · have s2:l.getD t 0=x:=by simpa using s2
     rw [decide_eq_true (by rw [← s2];exact mem_getD s)]
   · omega
   · have s2:l.getD t 0≠x:=by simpa using s2
     rw [mem_take_succ s]
     rintro (e|e)
     · exact ha e
     · exact s2 e.symm
 · have:t=l.length:=by simp at s;omega
   subst this
   rw [List.take_length] at ha
   rw [decide_eq_false ha]
theorem index_ok (h:Vw (Value.int .i64) w p l) (hn:n=l.length) (hm:n≤maxLen) (x:Int):Calls Tryz.prog slices_Index_int_int.id #[.slice p n c,.int .i64 x] w fun e w'=> ∃r:Int,e= .returned (.int .i64 r)∧(r≥0↔x∈l)∧Grow w w':=by
 refine slices_Index_int_int.calls ?_
 unfold maxLen at hm
 refine ⟨fun I w' k=> ∃t:Nat,I=t∧t≤l.length∧k=l.length - t∧x ∉ l.take t∧Grow w w',⟨_,0,rfl,Nat.zero_le _,rfl,by simp,Mod.refl w⟩,?_⟩
 rintro I w1 k _ ⟨t,rfl,ht,rfl,ha,G⟩
 refine cnd_i (fun s=> ?_) (fun s=> ⟨-1,rfl,?_,G⟩)
 · have s:t<l.length:=by simp at s;omega
   refine (h.grow G).ix 0 (by omega) hn (by omega) fun a e=> ⟨_,e,?_⟩
   rw [Int.toNat_natCast]
   refine cnd_i (fun s2=> ⟨(t:Int),rfl,?_,G⟩) (fun s2=> ⟨_,?_,t+1,wN (by omega) (by omega),by omega,rfl,?_,G⟩)
   · have s2:x=l.getD t 0:=by simpa using s2
     exact ⟨fun _=>by rw [s2];exact mem_getD s,fun _=>by omega⟩
   · omega
   · have s2:x≠l.getD t 0:=by simpa using s2
     rw [mem_take_succ s]
     rintro (e|e)
     · exact ha e
     · exact s2 e
 · have:t=l.length:=by simp at s;omega
   subst this
   rw [List.take_length] at ha
   exact ⟨fun h=>by omega,fun h=>absurd h ha⟩
theorem contains_ok (h:Vw (Value.int .i64) w p l) (hn:n=l.length) (hm:n≤maxLen) (x:Int):Calls Tryz.prog slices_Contains_int_int.id #[.slice p n c,.int .i64 x] w fun e w'=>e= .returned (.bool (decide (x∈l)))∧Grow w w':=by
 refine slices_Contains_int_int.calls ?_
 refine (index_ok h hn hm x).mono ?_
 rintro e w1 ⟨r,rfl,hr,g1⟩
 exact ⟨_,rfl,by rw [decide_eq_decide.2 hr],g1⟩
theorem args2w (u v:Value):(#[]++ #[u]++ #[v]:Array Value)= #[u,v]:=by simp
theorem clone_ok (h:Vw (Value.int .i64) w p l) (hn:n=l.length) (hm:n≤1000000):Calls Tryz.prog slices_Clone_int_int.id #[.slice p n c] w fun e w'=> ∃ (q:Option Addr) (d:Nat),e= .returned (.slice q l.length d)∧OwI ty_int w' q d l∧Grow w w'∧(∀b,blk q=some b→w.heap.size≤b):=by
 refine slices_Clone_int_int.calls ?_
 refine cnd_i (fun s=> ?_) (fun s=> ?_)
 · have hp:p=none:=by cases p<;>simp at s ⊢
   subst hp
   have:l= []:=by
    rcases l with _| ⟨x,l⟩
    · rfl
    · obtain ⟨a,ha,_⟩:=h 0 (by simp);cases ha
   subst this
   exact ⟨none,0,rfl,Ow.nil _ _ _,Mod.refl w,fun b hb=>by simp [blk] at hb⟩
 · intro n1 w1 h1
   have o1:OwI ty_int w1 (some ⟨n1,0,none⟩) 0 []:=New.empty h1
   refine o1.appV sl_int (h.grow h1.mod) rfl hn oneInt (by simp;omega) fun w2 p2 c2 o2 m2 hp2 hs2=> ?_
   rw [List.nil_append] at o2 ⊢
   have e1:=h1.num
   refine ⟨p2,c2,rfl,o2,h1.mod.then m2 fun b hb e=> ?_,fun b hb=> ?_⟩
   · have:=blk_some e;omega
   · rcases hp2 with rfl|rfl
     · have:=blk_some hb;omega
     · have:=blk_some hb;have:=h1.mod.size;omega
theorem part_get {k m j:Nat} (_:k+m=l.length) (hj:j<m):((l.drop k).take m).getD j 0=l.getD (k+j) 0:=by
 simp only [List.getD_eq_getElem?_getD]
 rw [List.getElem?_take,if_pos hj,List.getElem?_drop]
theorem getD_setI {l:List Int} {i j:Nat} {x:Int} (hi:i<l.length):(l.set i x).getD j 0=if j=i then x else l.getD j 0:=getD_setN hi
theorem take_set_succ {l:List Int} {k:Nat} {x:Int} (h:k<l.length):(l.set k x).take (k+1)=l.take k++ [x]:=by
 rw [List.take_add_one,List.take_set,List.set_eq_of_length_le (by simp;omega)]
 simp [h]
theorem compact_ok (o:OwI ty_int w p c l) (hn:n=l.length) (hm:n≤1000000):Calls Tryz.prog slices_Compact_int_int.id #[.slice p n c] w fun e w'=>e= .returned (.slice p (ddN l l.length).length c)∧OwI ty_int w' p c (ddN l l.length)∧Mod (Bk p) w w':=by
 refine slices_Compact_int_int.calls ?_
 refine cnd_i (fun s=> ?_) (fun s=> ?_)
 · have s:l.length<2:=by simp at s;omega
   have:ddN l l.length=l:=by
    rw [ddN_take (Nat.le_refl _) (fun j j1 j2=>by omega),List.take_length]
   rw [this,hn]
   exact ⟨rfl,o,Mod.refl w⟩
 have s:2≤l.length:=by simp at s;omega
 refine ⟨fun I w' k=> ∃t:Nat,I=t∧1≤t∧t≤n∧k=n - t∧(∀j,0<j→j<t→l.getD j 0≠l.getD (j - 1) 0)∧OwI ty_int w' p c l∧Mod (Bk p) w w',⟨_,1,rfl,Nat.le_refl _,by omega,rfl,fun j j1 j2=>by omega,o,Mod.refl w⟩,?_⟩
 rintro I w1 k _ ⟨t,rfl,t1,ht,rfl,ha,o1,m1⟩
 have hcl:l.length≤c:=by
  rcases o.un with ⟨_,_,rfl⟩| ⟨_,_,_,_,h,_⟩
  · simp at s
  · exact h
 refine cnd_i (fun r=> ?_) (fun r=> ?_)
 · have r:t<n:=by simpa using r
   have e1:IntKind.i64.wrap ((t:Int) - 1)=((t - 1:Nat):Int):=wN (by omega) (by omega)
   rw [e1]
   refine o1.drew.ix 0 (by omega) hn (by omega) fun a e=> ⟨_,e,o1.drew.ix 0 (by omega) hn (by omega) fun a e=> ⟨_,e,?_⟩⟩
   rw [Int.toNat_natCast,Int.toNat_natCast]
   refine cnd_i (fun r2=> ?_) (fun r2=> ⟨_,?_,t+1,wN (by omega) (by omega),by omega,by omega,rfl,fun j j1 j2=> ?_,o1.drew,m1.drew⟩)
   · have r2:l.getD t 0=l.getD (t - 1) 0:=by simpa using r2
     refine slK_i t n c rfl rfl rfl (by omega) (by omega) (by omega) ?_
     rw [if_neg (by omega)]
     have d0:ddN l t=l.take t:=ddN_take (by omega) ha
     have d1:ddN l (t+1)=l.take t:=by
      unfold ddN
      rw [if_pos ⟨by omega,r2⟩,d0]
     refine ⟨fun I J w' k=> ∃ (i j:Nat) (cur:List Int),I=i∧J=j∧1≤j∧j≤n - t∧k=n - t - j∧i<t+j∧cur.length=n∧(∀x,t+j - 1≤x→x<n→cur.getD x 0=l.getD x 0)∧cur.take i=ddN l (t+j)∧OwI ty_int w' p c cur∧Mod (Bk p) w w',⟨_,t,1,l,rfl,rfl,Nat.le_refl _,by omega,rfl,by omega,hn.symm,fun _ _ _=>rfl,d1.symm,o1.drew,m1.drew⟩,?_⟩
     clear d0 d1
     rintro I J w2 k _ ⟨i,j,cur,rfl,rfl,j1,j2,rfl,hi,hc,hx,hd,o2,m2⟩
     have v2:Vw (Value.int .i64) w2 (p.map (·.add (t*1))) ((cur.drop t).take (n - t)):=o2.vw.part (by omega)
     have hv:n - t=((cur.drop t).take (n - t)).length:=by simp;omega
     refine cnd_i (fun r3=> ?_) (fun r3=> ?_)
     · have r3:j<n - t:=by simpa using r3
       have e2:IntKind.i64.wrap ((j:Int) - 1)=((j - 1:Nat):Int):=wN (by omega) (by omega)
       rw [e2]
       refine v2.drew.ix 0 (by omega) hv (by omega) fun a e=> ⟨_,e,v2.drew.ix 0 (by omega) hv (by omega) fun a e=> ⟨_,e,?_⟩⟩
       rw [Int.toNat_natCast,Int.toNat_natCast,part_get (by omega) r3,part_get (by omega) (by omega),hx _ (by omega) (by omega),hx _ (by omega) (by omega)]
       have ed:ddN l (t+j+1)=if 0<t+j∧l.getD (t+j) 0=l.getD (t+j - 1) 0 then ddN l (t+j) else ddN l (t+j)++ [l.getD (t+j) 0]:=rfl
       rw [show t+ (j - 1)=t+j - 1 by omega]
       refine cnd_i (fun r4=> ?_) (fun r4=> ?_)
       · have r4:l.getD (t+j) 0≠l.getD (t+j - 1) 0:=by simpa using r4
         refine v2.drew.ix 0 (by omega) hv (by omega) fun a e=> ⟨_,e,?_⟩
         rw [Int.toNat_natCast,part_get (by omega) r3,hx _ (by omega) (by omega)]
         refine o2.drew.st (l.getD (t+j) 0) rfl rfl (by omega) hc.symm (by omega) fun w3 o3 m3=> ?_
         rw [Int.toNat_natCast] at o3
         refine ⟨_,?_,i+1,j+1,_,wN (by omega) (by omega),wN (by omega) (by omega),by omega,by omega,rfl,by omega,by simpa using hc,fun x x1 x2=> ?_,?_,o3,m2.drew.trans m3⟩
         · omega
         · rw [getD_setI (by omega),if_neg (by omega)]
           exact hx x (by omega) x2
         · rw [take_set_succ (by omega),hd,show t+ (j+1)=t+j+1 by omega,ed,if_neg (fun e=>r4 e.2)]
       · have r4:l.getD (t+j) 0=l.getD (t+j - 1) 0:=by simpa using r4
         refine ⟨_,?_,i,j+1,cur,rfl,wN (by omega) (by omega),by omega,by omega,rfl,by omega,hc,fun x x1 x2=>hx x (by omega) x2,?_,o2.drew,m2.drew⟩
         · omega
         · rw [hd,show t+ (j+1)=t+j+1 by omega,ed,if_pos ⟨by omega,r4⟩]
     · have r3:j=n - t:=by simp at r3;omega
       have hin:i<n:=by omega
       have hdl:(ddN l l.length).length=i:=by
        rw [show l.length=t+j by omega,← hd];simp;omega
       refine slK_i i n c rfl rfl rfl (by omega) (by omega) (by omega) ?_
       rw [if_neg (by omega)]
       refine o2.clear sl_int int_zero (x:=(0:Int)) rfl rfl (by omega) (by omega) fun w3 o3 m3=> ?_
       refine slK_i 0 i c rfl rfl rfl (by omega) (by omega) (by omega) ?_
       rw [if_neg (by omega),Nat.sub_zero,Nat.sub_zero]
       have ep:p.map (·.add (0*1))=p:=by cases p<;>simp [Addr.add]
       rw [ep,hdl]
       rw [hd,show t+j=l.length by omega] at o3
       exact ⟨rfl,o3,m2.trans m3⟩
   · omega
   · have r2:l.getD t 0≠l.getD (t - 1) 0:=by simpa using r2
     by_cases e:j=t
     · subst e;exact r2
     · exact ha j j1 (by omega)
 · have r:t=n:=by simp at r;omega
   have:ddN l l.length=l:=by
    rw [ddN_take (Nat.le_refl _) (fun j j1 j2=>ha j j1 (by omega)),List.take_length]
   rw [this,hn]
   exact ⟨rfl,o1,m1⟩
end Go.Proofs.YtenmibfmhccmiaaGreat.W
namespace Go.Proofs.YtenmibfmhccmiaaGreat.W
open Go Go.Fw Go.RowKit Go.SoP Go.LiP
variable {w:World} {p q:Option Addr} {n c:Nat} {l:List Int}
theorem app_fresh {W0:World} {l:List Int} (o:OwI ty_int w p c l) (G:Grow W0 w) (fr: ∀b,blk p=some b→W0.heap.size≤b) {m k:Nat} {news:List Int} (v:Vw (Value.int .i64) w q news) (hn:n=l.length) (hm:m=news.length) (hlen:l.length+news.length≤1000000) {K:World→Option Addr→Nat→Nat→Prop}
 (hK: ∀w' p' c',OwI ty_int w' p' c' (l++news)→Grow W0 w'→(∀b,blk p'=some b→W0.heap.size≤b)→K w' p' (l++news).length c'):
 ∃w',∃p' n' c',(Builtin.append_ #[ty_sl_int,ty_sl_int] ty_sl_int #[.slice p n c,.slice q m k]).run Tryz.prog w= .ok (.slice p' n' c') w'∧K w' p' n' c':=by
 refine o.appV sl_int v hn hm oneInt (by omega) fun w2 p2 c2 o2 m2 hp2 hs2=> ?_
 refine hK w2 p2 c2 o2 (G.then m2 fun b hb e=> ?_) fun b hb=> ?_
 · have:=fr b e;omega
 · rcases hp2 with rfl|rfl
   · exact fr b hb
   · have:=blk_some hb;have:=G.size;omega
theorem ep0 (p:Option Addr):p.map (·.add (0*1))=p:=by cases p<;>simp [Addr.add]
end Go.Proofs.YtenmibfmhccmiaaGreat.W
namespace Go.Proofs.YtenmibfmhccmiaaGreat.W
open Go Go.Fw Go.RowKit Go.SoP Go.LiP
variable {w:World} {p q:Option Addr} {n c:Nat} {l:List Int}
theorem sortc_ok (o:OwI ty_int w p c l) (hn:n=l.length) (hm:n≤100000) (hl: ∀x∈l,litB x=true) {K:Ending→World→Prop}
 (hK: ∀w',OwI ty_int w' p c (norm l)→Mod (Bk p) w w'→K (.returned (.slice p (norm l).length c)) w'):
 Calls Tryz.prog slices_SortFunc_int_int.id #[.slice p n c,.func (.func lit_before.id) #[] #[]] w fun e w1=>e= .returned (.tuple #[])∧Calls Tryz.prog slices_Compact_int_int.id #[.slice p n c] w1 K:=by
 have X:Cx w p n l lit_before.id #[] bef:=by
  refine ⟨hn,by omega,before_ent,fun x hx y hy w' _=> ?_,bef_ord⟩
  have:(#[]++ #[Value.int .i64 x,.int .i64 y]++ #[]:Array Value)= #[.int .i64 x,.int .i64 y]:=by simp
  rw [this]
  exact before_ok (hl x hx) (hl y hy) w'
 refine (sort_ok X o).mono ?_
 rintro e w1 ⟨rfl,l1,o1,m1,p1,s1⟩
 refine ⟨rfl,(compact_ok o1 (by rw [hn,p1.length_eq]) (by omega)).mono ?_⟩
 rintro e w2 ⟨rfl,o2,m2⟩
 have:ddN l1 l1.length=norm l:=(ddN_isN p1 s1).uniq (norm_isN l)
 rw [this] at o2 ⊢
 exact hK w2 o2 (m1.trans m2)
theorem clB_lit {l:List Int} (h:clB l=true): ∀x∈l,litB x=true:=(clB_all h).1
theorem norm_lit (hl: ∀x∈l,litB x=true): ∀x∈norm l,litB x=true:=fun x hx=>hl x (((norm_isN l).mem x).1 hx)
theorem norm_fr (h:Vw (Value.int .i64) w p l) (hn:n=l.length) (hm:n≤maxLen):Calls Tryz.prog lit_Norm.id #[.slice p n c] w fun e w'=> ∃ (q:Option Addr) (d:Nat) (m:List Int),m=(if clB l then norm l else [])∧e= .returned (.tuple #[.slice q m.length d,.bool (clB l && taut l)])∧OwI ty_int w' q d m∧Grow w w'∧(∀b,blk q=some b→w.heap.size≤b):=by
 refine lit_Norm.calls ?_
 refine (litCheck_ok h hn hm).mono ?_
 rintro e w1 ⟨rfl,g1⟩
 cases hc:clB l with
 |false=>exact ⟨_,rfl,cnd_t rfl ⟨none,0,[],rfl,rfl,Ow.nil _ _ _,g1,fun b e=>by simp [blk] at e⟩⟩
 |true=>
 have hll:=clB_lit hc
 have hlen:=(clB_all hc).2
 refine ⟨_,rfl,cnd_f rfl ((clone_ok (h.grow g1) hn (by omega)).mono ?_)⟩
 rintro e w2 ⟨q,d,rfl,o2,g2,f2⟩
 refine ⟨_,_,_,rfl,sortc_ok o2 rfl (by omega) hll fun w4 o4 m4=> ?_⟩
 have g4:Grow w w4:=(g1.trans g2).then m4 fun b hb e=>by
  have:=f2 b e;have:=g1.size;omega
 have fq: ∀b,blk q=some b→w.heap.size≤b:=fun b e=>by have:=f2 b e;have:=g1.size;omega
 have hnl:=norm_len l
 have nz: ∀x∈l,x≠0:=fun x hx=> (litB_bd (hll x hx)).1
 have ta:=taut_adj (norm_isN l) nz
 refine ⟨_,_,_,rfl,fun I w' k=> ∃t:Nat,I=t∧1≤t∧(∀i,0<i→i<t→i< (norm l).length→(norm l).getD i 0≠ -((norm l).getD (i - 1) 0))∧k=(norm l).length - t∧OwI ty_int w' q d (norm l)∧Grow w w',⟨_,1,rfl,Nat.le_refl _,fun i i1 i2=>by omega,rfl,o4,g4⟩,?_⟩
 rintro I w5 k _ ⟨t,rfl,t1,ha,rfl,o5,g5⟩
 refine cnd_i (fun s=> ?_) (fun s=> ?_)
 · have s:t< (norm l).length:=by simpa using s
   have e1:IntKind.i64.wrap ((t:Int) - 1)=((t - 1:Nat):Int):=wN (by omega) (by omega)
   rw [e1]
   refine o5.drew.ix 0 (by omega) rfl (by omega) fun a e=> ⟨_,e,o5.drew.ix 0 (by omega) rfl (by omega) fun a e=> ⟨_,e,?_⟩⟩
   rw [Int.toNat_natCast,Int.toNat_natCast]
   have hb:=litB_bd (norm_lit hll _ (mem_getD (l:=norm l) (t:=t - 1) (by omega)))
   have ew:IntKind.i64.wrap (0 - (norm l).getD (t - 1) 0)= -((norm l).getD (t - 1) 0):=by rw [wrap64_of (by omega) (by omega)];omega
   rw [ew]
   refine cnd_i (fun s2=> ?_) (fun s2=> ⟨_,?_,t+1,wN (by omega) (by omega),by omega,fun i i1 i2 i3=> ?_,rfl,o5.drew,g5.drew⟩)
   · have s2:(norm l).getD t 0= -((norm l).getD (t - 1) 0):=by simpa using s2
     have:taut l=true:=ta.2 ⟨t,by omega,s,s2⟩
     exact ⟨q,d,norm l,rfl,by rw [this];rfl,o5.drew,g5.drew,fq⟩
   · omega
   · have s2:(norm l).getD t 0≠ -((norm l).getD (t - 1) 0):=by simpa using s2
     by_cases e:i=t
     · subst e;exact s2
     · exact ha i i1 (by omega) i3
 · have s:(norm l).length≤t:=by simp at s;omega
   have:taut l=false:=by
    rw [← Bool.not_eq_true]
    intro h
    obtain ⟨i,i1,i2,i3⟩:=ta.1 h
    exact ha i i1 (by omega) i2 i3
   exact ⟨q,d,norm l,rfl,by rw [this];rfl,o5,g5,fq⟩
def wo (l:List Int) (x:Int):List Int:=l.filter fun y=>y !=x
theorem norm_ok (h:Vw (Value.int .i64) w p l) (hn:n=l.length) (hm:n≤maxLen):Calls Tryz.prog lit_Norm.id #[.slice p n c] w fun e w'=> ∃ (q:Option Addr) (d:Nat) (m:List Int),m=(if clB l then norm l else [])∧e= .returned (.tuple #[.slice q m.length d,.bool (clB l && taut l)])∧OwI ty_int w' q d m∧Grow w w':=
 (norm_fr h hn hm).mono fun _ _ ⟨q,d,m,e1,e2,o,g,_⟩=> ⟨q,d,m,e1,e2,o,g⟩
theorem wo_len {x:Int}:(wo l x).length≤l.length:=List.length_filter_le _ _
end Go.Proofs.YtenmibfmhccmiaaGreat.W
namespace Go.Proofs.YtenmibfmhccmiaaGreat.W
open Go Go.Fw Go.RowKit Go.SoP Go.LiP
variable {w:World} {p q:Option Addr} {n c:Nat} {l:List Int}
theorem row_ix {hs:List Sl} {cs:List (List Int)} (hc:V2 (Value.int .i64) w q hs cs) {m t:Nat} (hm:m=cs.length) (ht:t<cs.length) {K:Addr→Prop}
 (hk: ∀a (s:Sl),w.cell? a=some (.slice s.p s.n s.c)→s.n=(cs.getD t []).length→s.n≤maxLen→Vw (Value.int .i64) w s.p (cs.getD t [])→s=hs.getD t Sl.nil→K a):ixK q m (t:Int) 1 K:=
 rowIx hc hm ht fun a s e hs h1 h2 h3=>hk a s e h1 h2 h3 hs
theorem light_ok {k:Int} {hs:List Sl} {cs:List (List Int)} {m d:Nat} (hc:V2 (Value.int .i64) w q hs cs) (hm:m=cs.length):Calls Tryz.prog fathomlaw01_Light.id #[.agg #[.int .i64 k,.slice q m d]] w fun e w'=> ∃b:Bool,e= .returned (.bool b)∧Grow w w':=by
 refine fathomlaw01_Light.calls ?_
 intro n1 w1 h1
 have g1:=h1.mod
 refine ⟨fun _ I w' k=> ∃t:Nat,I=t∧t≤301∧k=301 - t∧Grow w1 w',⟨_,0,rfl,Nat.zero_le _,rfl,Mod.refl w1⟩,?_⟩
 rintro N I w2 k2 _ ⟨t,rfl,ht,rfl,g2⟩
 have H2:=h1.has.grow g2
 have G2:=g1.trans g2
 refine ⟨_,_,_,cell_add H2 rfl,cnd_i (fun s=>cnd_i (fun s2=> ?_) (fun _=> ?_)) (fun _=> ?_)⟩
 · have s:t<cs.length:=by simp at s;omega
   have s2:t≤300:=by simp at s2;omega
   refine ⟨_,_,_,cell_add H2 rfl,row_ix (hc.grow G2) hm s fun a x e e1 e2 v _=> ⟨_,_,_,e,cnd_i (fun _=> ⟨false,rfl,G2⟩) (fun _=> ?_)⟩⟩
   refine ⟨_,_,_,cell_add H2 rfl,row_ix (hc.grow G2) hm s fun a x e e1 e2 v _=> ⟨_,_,_,e,_,?_,t+1,wN (by omega) (by omega),by omega,rfl,g2⟩⟩
   omega
 · exact ⟨_,_,_,cell_add H2 rfl,cnd_i (fun _=> ⟨_,rfl,G2⟩) (fun _=> ⟨_,rfl,G2⟩)⟩
 · exact ⟨_,_,_,cell_add H2 rfl,cnd_i (fun _=> ⟨_,rfl,G2⟩) (fun _=> ⟨_,rfl,G2⟩)⟩
theorem take_eq_succ {α:Type} {a b:List α} {t:Nat} {d:α} (ha:t<a.length) (hb:t<b.length) (h:a.take t=b.take t) (e:a.getD t d=b.getD t d):a.take (t+1)=b.take (t+1):=by
 have e1:a[t]? =some (a.getD t d):=by simp [List.getD,ha]
 have e2:b[t]? =some (b.getD t d):=by simp [List.getD,hb]
 rw [List.take_add_one,List.take_add_one,h,e1,e2,e]
theorem equal_ok {v:List Int} {m d:Nat} (h:Vw (Value.int .i64) w p l) (hn:n=l.length) (hm:n≤maxLen) (h2:Vw (Value.int .i64) w q v) (hn2:m=v.length):Calls Tryz.prog slices_Equal_int_int.id #[.slice p n c,.slice q m d] w fun e w'=>e= .returned (.bool (decide (l=v)))∧Grow w w':=by
 refine slices_Equal_int_int.calls ?_
 unfold maxLen at hm
 refine cnd_i (fun s=> ⟨?_,Mod.refl w⟩) (fun s=> ?_)
 · have s:(n:Int)≠m:=by simpa using s
   rw [decide_eq_false]
   rintro rfl
   omega
 · have s:(n:Int)=m:=by simpa using s
   refine ⟨fun I w' k=> ∃t:Nat,I=t∧t≤n∧k=n - t∧l.take t=v.take t∧Grow w w',⟨_,0,rfl,Nat.zero_le _,rfl,rfl,Mod.refl w⟩,?_⟩
   rintro I w2 k2 _ ⟨t,rfl,ht,rfl,ha,G⟩
   refine cnd_i (fun r=> ?_) (fun r=> ⟨?_,G⟩)
   · have r:t<n:=by simpa using r
     refine (h.grow G).drew.ix 0 (by omega) hn (by omega) fun a e=> ⟨_,e,(h2.grow G).drew.ix 0 (by omega) hn2 (by omega) fun a e=> ⟨_,e,?_⟩⟩
     rw [Int.toNat_natCast]
     refine cnd_i (fun r2=> ⟨?_,G.drew⟩) (fun r2=> ⟨_,?_,t+1,wN (by omega) (by omega),by omega,rfl,take_eq_succ (d:=0) (by omega) (by omega) ha (by simpa using r2),G.drew⟩)
     · have r2:l.getD t 0≠v.getD t 0:=by simpa using r2
       rw [decide_eq_false]
       rintro rfl
       exact r2 rfl
     · omega
   · have r:t=n:=by simp at r;omega
     subst r
     have e1:l.take t=l:=List.take_of_length_le (by omega)
     have e2:v.take t=v:=List.take_of_length_le (by omega)
     rw [e1,e2] at ha
     rw [decide_eq_true ha]
theorem refCnf_ok {k:Int} {hs:List Sl} {cs:List (List Int)} {m d:Nat} (hc:V2 (Value.int .i64) w q hs cs) (hm:m=cs.length):Calls Tryz.prog fathomref01_Cnf.id #[.agg #[.int .i64 k,.slice q m d]] w fun e w'=>e= .returned (.bool (cnfB k cs))∧Grow w w':=by
 refine fathomref01_Cnf.calls ?_
 intro n1 w1 h1
 have g1:=h1.mod
 have bad: ∀w',Grow w w'→cnfB k cs=false→(Ending.returned (.bool false)= .returned (.bool (cnfB k cs))∧Grow w w'):=fun w' g hf=>by rw [hf];exact ⟨rfl,g⟩
 have no: ¬(0≤k∧k≤1048576∧cs.length≤262144)→cnfB k cs=false:=fun h=>by unfold cnfB;rw [decide_eq_false h,Bool.false_and]
 refine ⟨_,cell_add h1.has rfl,cnd_i (fun s=>bad _ g1 (no (by simp at s;omega))) (fun s1=> ⟨_,cell_add h1.has rfl,cnd_i (fun s=>bad _ g1 (no (by simp at s;omega))) (fun s2=> ⟨_,_,_,cell_add h1.has rfl,cnd_i (fun s=>bad _ g1 (no (by simp at s;omega))) (fun s3=> ?_)⟩)⟩)⟩
 simp only [decide_eq_false_iff_not] at s1 s2 s3
 have yes:cnfB k cs=cs.all fun c=>clB c && c.all fun l=>decide (amt l≤k):=by unfold cnfB;rw [decide_eq_true (by omega),Bool.true_and]
 refine ⟨fun I w' k2=> ∃t:Nat,I=t∧t≤cs.length∧k2=cs.length - t∧((cs.take t).all fun c=>clB c && c.all fun l=>decide (amt l≤k))=true∧Grow w1 w',⟨_,0,rfl,Nat.zero_le _,rfl,rfl,Mod.refl w1⟩,?_⟩
 rintro I w2 k2 _ ⟨t,rfl,ht,rfl,ha,g2⟩
 have H2:=h1.has.grow g2
 have G2:=g1.trans g2
 refine ⟨_,_,_,cell_add H2 rfl,cnd_i (fun s=> ?_) (fun s=> ⟨?_,G2⟩)⟩
 · have s:t<cs.length:=by simp at s;omega
   refine ⟨_,_,_,cell_add H2 rfl,row_ix (hc.grow G2) hm s fun a x e e1 e2 v ex=> ⟨_,_,_,e,(refMay_ok v e1 e2).mono ?_⟩⟩
   rintro e w3 ⟨rfl,g3⟩
   have G3:=G2.trans g3
   refine ⟨_,rfl,cnd_i (fun r=>bad _ G3 (by rw [yes];exact allFalse (d:= []) s (by rw [show clB (cs.getD t [])=false by simpa using r];rfl))) (fun r=> ?_)⟩
   have r:clB (cs.getD t [])=true:=by simpa using r
   have hlen:=(clB_all r).2
   refine ⟨fun J w' k3=> ∃j:Nat,J=j∧j≤(cs.getD t []).length∧k3=(cs.getD t []).length - j∧(((cs.getD t []).take j).all fun l=>decide (amt l≤k))=true∧Grow w3 w',⟨_,0,rfl,Nat.zero_le _,rfl,rfl,Mod.refl w3⟩,?_⟩
   rintro J w4 k3 _ ⟨j,rfl,hj,rfl,hb,g4⟩
   have H4:=(H2.grow g3).grow g4
   have G4:=G3.trans g4
   refine ⟨_,_,_,cell_add H4 rfl,row_ix (hc.grow G4) hm s fun a x e e1 e2 v ex=> ⟨_,_,_,e,cnd_i (fun r2=> ?_) (fun r2=> ?_)⟩⟩
   · have r2:j< (cs.getD t []).length:=by simp at r2;omega
     refine ⟨_,_,_,cell_add H4.drew rfl,row_ix (hc.grow G4).drew hm s fun a x e e1 e2 v ex=> ⟨_,_,_,e,v.ix 0 (by omega) e1 (by omega) fun a e=> ⟨_,e,?_⟩⟩⟩
     rw [Int.toNat_natCast]
     have hb':=litB_bd (clB_lit r _ (mem_getD r2))
     have fin: ∀w5,Grow w4.drew w5→cnd (decide (amt ((cs.getD t []).getD j 0)>k)) (Ending.returned (.bool false)= .returned (.bool (cnfB k cs))∧Grow w w5)
      (∃k19,k19< (cs.getD t []).length - j∧∃j2:Nat,IntKind.i64.wrap ((j:Int)+1)=j2∧j2≤(cs.getD t []).length∧k19=(cs.getD t []).length - j2∧(((cs.getD t []).take j2).all fun l=>decide (amt l≤k))=true∧Grow w3 w5):=by
      intro w5 g5
      refine cnd_i (fun r3=>bad _ (G4.drew.trans g5) ?_) (fun r3=> ⟨_,?_,j+1,wN (by omega) (by omega),by omega,rfl,allTakeS (d:=0) r2 hb (by simp at r3 ⊢;omega),g4.drew.trans g5⟩)
      · rw [yes]
        refine allFalse (d:= []) s ?_
        rw [allFalse (d:=0) r2 (by simp at r3 ⊢;omega),Bool.and_false]
      · omega
     refine ⟨(refVar_ok (by omega) _ (by omega)).mono ?_,⟨_,cell_add H4.drew rfl,(refVar_ok (by omega) _ (by omega)).mono ?_⟩⟩
     · rintro e w5 ⟨rfl,g5⟩
       exact ⟨_,rfl,_,cell_add (H4.drew.grow g5) rfl,fin w5 g5⟩
     · rintro e w5 ⟨rfl,g5⟩
       exact ⟨_,rfl,fin w5 g5⟩
   · have r2:j=(cs.getD t []).length:=by simp at r2;omega
     subst r2
     rw [List.take_length] at hb
     refine ⟨_,?_,t+1,wN (by omega) (by omega),by omega,rfl,allTakeS (d:= []) s ha (by rw [r,hb];rfl),(g2.trans g3).trans g4⟩
     omega
 · have s:t=cs.length:=by simp at s;omega
   subst s
   rw [List.take_length] at ha
   rw [yes,ha]
end Go.Proofs.YtenmibfmhccmiaaGreat.W
namespace Go.Proofs.YtenmibfmhccmiaaGreat.W
open Go Go.Fw Go.RowKit Go.SoP Go.LiP
variable {w:World} {p q:Option Addr} {n c:Nat} {l:List Int}
theorem cnf_of_rd {v:Value} (h:RdV w (.cons (.int .i64) (.cons (.sl (.sl (.int .i64))) .nil)) v): ∃k q j d hs cs,v= .agg #[.int .i64 k,.slice q j d]∧j=cs.length∧j≤maxLen∧V2 (Value.int .i64) w q hs cs∧(-9223372036854775808≤k∧k<9223372036854775808):=by
 obtain ⟨cs,rfl,x,y,rfl,⟨k,rfl,hk⟩,z,u,rfl,hz,rfl⟩:=h
 have hv: ∃s,z= [s]∧RdV w (.sl (.sl (.int .i64))) s:=by
  rcases hz with rfl| ⟨a',len',cap',rfl,g⟩
  · exact ⟨_,rfl,.inl rfl⟩
  · exact ⟨_,rfl,.inr ⟨a',len',cap',rfl,g⟩⟩
 obtain ⟨s,rfl,hs'⟩:=hv
 obtain ⟨q,m,d,ss,rows,rfl,hm,hm1,hm2,hc⟩:=rows_of_rd (fun v=>ints_of_rd') hs'
 exact ⟨k,q,m,d,ss,rows,rfl,hm,Nat.le_trans hm1 hm2,hc,bd64_of_wf hk⟩
end Go.Proofs.YtenmibfmhccmiaaGreat.W
namespace Go.Proofs.YtenmibfmhccmiaaGreat.W
open Go Go.Fw Go.RowKit Go.SoP Go.LiP
variable {w:World} {p q:Option Addr} {n c:Nat} {l:List Int}
theorem sl_sl_int:slOk Tryz.prog ty_sl_sl_int ty_sl_int 24=true:=by kernel_rfl
theorem idxF_ok (h:Vw (Value.int .i64) w p l) (hn:n=l.length) (hm:n≤maxLen) {fid:FuncId} {fv:Array Value} (he:entB Tryz.prog fid=true) (pr:Int→Bool)
 (hf: ∀x∈l,∀w',Grow w w'→Calls Tryz.prog fid (#[]++ #[.int .i64 x]++fv) w' fun e w2=>e= .returned (.bool (pr x))∧Grow w' w2):
 Calls Tryz.prog slices_IndexFunc_int_int.id #[.slice p n c,.func (.func fid) #[] fv] w fun e w'=>Grow w w'∧((e= .returned (.int .i64 (-1))∧∀t,t<l.length→pr (l.getD t 0)=false)∨
  ∃t:Nat,e= .returned (.int .i64 t)∧t<l.length∧pr (l.getD t 0)=true∧∀j,j<t→pr (l.getD j 0)=false):=by
 refine slices_IndexFunc_int_int.calls ?_
 unfold maxLen at hm
 refine ⟨fun v w' k=> ∃t:Nat,v=t∧t≤l.length∧k=l.length - t∧(∀j,j<t→pr (l.getD j 0)=false)∧Grow w w',⟨_,0,rfl,Nat.zero_le _,rfl,fun j hj=>by omega,Mod.refl w⟩,?_⟩
 rintro v w5 k _ ⟨t,rfl,ht,rfl,ha,G⟩
 refine cnd_i (fun q=> ?_) (fun q=> ⟨G,.inl ⟨rfl,fun j hj=>ha j (by simp at q;omega)⟩⟩)
 have q':t<l.length:=by simp at q;omega
 refine (h.grow G).ix 0 (by omega) hn (by omega) fun a e=> ⟨_,e,?_⟩
 rw [he]
 show Calls _ _ _ _ _
 rw [Int.toNat_natCast]
 refine (hf _ (mem_getD q') w5 G).mono ?_
 rintro e w8 ⟨rfl,g8⟩
 refine ⟨_,rfl,cnd_i (fun s=> ⟨G.trans g8,.inr ⟨t,rfl,q',s,ha⟩⟩) (fun s=> ⟨_,?_,t+1,wN (by omega) (by omega),by omega,rfl,fun j hj=> ?_,G.trans g8⟩)⟩
 · omega
 · by_cases e:j=t
   · subst e;exact s
   · exact ha j (by omega)
theorem filter_succ {f:Int→Bool} {t:Nat} (h:t<l.length):(l.take (t+1)).filter f=(l.take t).filter f++ (if f (l.getD t 0) then [l.getD t 0] else []):=by
 rw [List.take_add_one,List.filter_append]
 have:l[t]? =some (l.getD t 0):=by simp [List.getD,h]
 rw [this]
 simp only [Option.toList_some,List.filter_cons,List.filter_nil]
theorem delete_ok (o:OwI ty_int w p c l) (hn:n=l.length) (hm:n≤1000000) {fid:FuncId} {fv:Array Value} (he:entB Tryz.prog fid=true) (pr:Int→Bool)
 (hf: ∀x∈l,∀w',Mod (Bk p) w w'→Calls Tryz.prog fid (#[]++ #[.int .i64 x]++fv) w' fun e w2=>e= .returned (.bool (pr x))∧Grow w' w2):
 Calls Tryz.prog slices_DeleteFunc_int_int.id #[.slice p n c,.func (.func fid) #[] fv] w fun e w'=>e= .returned (.slice p (l.filter fun x=> !pr x).length c)∧OwI ty_int w' p c (l.filter fun x=> !pr x)∧Mod (Bk p) w w':=by
 refine slices_DeleteFunc_int_int.calls ?_
 refine (idxF_ok o.vw hn (by unfold maxLen;omega) he pr fun x hx w' g=>hf x hx w' (g.mono fun _ _=>False.elim)).mono ?_
 rintro e w1 ⟨g1,⟨rfl,hno⟩| ⟨t,rfl,ht,hpt,hlo⟩⟩
 · have:(l.filter fun x=> !pr x)=l:=by
    rw [List.filter_eq_self]
    intro x hx
    obtain ⟨j,hj,e⟩:=List.mem_iff_getElem.1 hx
    have:=hno j hj
    simp only [List.getD,List.getElem?_eq_getElem hj,Option.getD_some,e] at this
    rw [this];rfl
   rw [this]
   exact ⟨_,rfl,cnd_t rfl ⟨by rw [hn],o.grow g1,g1.mono fun _ _=>False.elim⟩⟩
 · have M1:Mod (Bk p) w w1:=g1.mono fun _ _=>False.elim
   have hcl:l.length≤c:=by
    rcases o.un with ⟨_,_,rfl⟩| ⟨_,_,_,_,h,_⟩
    · simp at ht
    · exact h
   have f0:(l.take t).filter (fun x=> !pr x)=l.take t:=by
    rw [List.filter_eq_self]
    intro x hx
    obtain ⟨j,hj,e⟩:=List.mem_iff_getElem.1 hx
    rw [List.length_take] at hj
    have h2:=hlo j (by omega)
    rw [List.getElem_take] at e
    simp only [List.getD,List.getElem?_eq_getElem (show j<l.length by omega),Option.getD_some,e] at h2
    rw [h2];rfl
   have f1:(l.take (t+1)).filter (fun x=> !pr x)=l.take t:=by
    rw [filter_succ ht,f0,hpt];simp
   refine ⟨_,rfl,cnd_f (by simp) ?_⟩
   have et:IntKind.i64.wrap ((t:Int)+1)=((t+1:Nat):Int):=wN (by omega) (by omega)
   rw [et]
   refine ⟨fun I J w' k=> ∃ (i j:Nat) (cur:List Int),I=i∧J=j∧i<j∧j≤n∧k=n - j∧cur.length=n∧(∀x,j≤x→x<n→cur.getD x 0=l.getD x 0)∧cur.take i=(l.take j).filter (fun x=> !pr x)∧OwI ty_int w' p c cur∧Mod (Bk p) w w',⟨_,t,t+1,l,rfl,rfl,by omega,by omega,rfl,hn.symm,fun _ _ _=>rfl,f1.symm,o.grow g1,M1⟩,?_⟩
   rintro I J w2 k _ ⟨i,j,cur,rfl,rfl,hij,hj,rfl,hc,hx,hd,o2,m2⟩
   refine cnd_i (fun s=> ?_) (fun s=> ?_)
   · have s:j<n:=by simpa using s
     have sl:j<l.length:=by omega
     refine o2.ix 0 (by omega) hc.symm (by omega) fun a e=> ⟨_,e,?_⟩
     rw [Int.toNat_natCast,hx j (Nat.le_refl _) s,he]
     show Calls _ _ _ _ _
     refine (hf _ (mem_getD sl) w2 m2).mono ?_
     rintro e w3 ⟨rfl,g3⟩
     have fs:=filter_succ (f:=fun x=> !pr x) sl
     refine ⟨_,rfl,cnd_i (fun r=> ?_) (fun r=> ?_)⟩
     · rw [if_pos r] at fs
       refine (o2.grow g3).st (l.getD j 0) rfl rfl (by omega) hc.symm (by omega) fun w4 o4 m4=> ?_
       rw [Int.toNat_natCast] at o4
       refine ⟨_,?_,i+1,j+1,_,wN (by omega) (by omega),wN (by omega) (by omega),by omega,by omega,rfl,by simpa using hc,fun x x1 x2=> ?_,?_,o4,(m2.grow g3).trans m4⟩
       · omega
       · rw [getD_setI (by omega),if_neg (by omega)]
         exact hx x (by omega) x2
       · rw [take_set_succ (by omega),hd,fs]
     · rw [if_neg (by rw [r];exact Bool.false_ne_true),List.append_nil] at fs
       refine ⟨_,?_,i,j+1,cur,rfl,wN (by omega) (by omega),by omega,by omega,rfl,hc,fun x x1 x2=>hx x (by omega) x2,by rw [hd,fs],o2.grow g3,m2.grow g3⟩
       omega
   · have s:j=n:=by simp at s;omega
     have e0:l.take j=l:=List.take_of_length_le (by omega)
     rw [e0] at hd
     have hdl:(l.filter fun x=> !pr x).length=i:=by rw [← hd];simp;omega
     refine slK_i i n c rfl rfl rfl (by omega) (by omega) (by omega) ?_
     rw [if_neg (by omega)]
     refine o2.clear sl_int int_zero (x:=(0:Int)) rfl rfl (by omega) (by omega) fun w3 o3 m3=> ?_
     refine slK_i 0 i c rfl rfl rfl (by omega) (by omega) (by omega) ?_
     rw [if_neg (by omega),Nat.sub_zero,Nat.sub_zero,ep0,hdl]
     rw [hd] at o3
     exact ⟨rfl,o3,m2.trans m3⟩
structure Out (W0 w:World) (nb:Nat) (k:Int) (P:Option Addr) (C:Nat) (hs:List Sl) (rows:List (List Int)):Prop where
 o:OV (Value.int .i64) ty_sl_int w P C hs rows
 H:Has w nb #[.int .i64 k,.slice P hs.length C]
 G:Grow W0 w
 f: ∀b,OV.foot P hs b→W0.heap.size≤b∧b≠nb
 nb:W0.heap.size≤nb
theorem Out.grow {W0 w':World} {nb:Nat} {k:Int} {P:Option Addr} {C:Nat} {hs:List Sl} {rows:List (List Int)} (t:Out W0 w nb k P C hs rows) (g:Grow w w'):Out W0 w' nb k P C hs rows:=
 ⟨t.o.grow g,t.H.grow g,t.G.trans g,t.f,t.nb⟩
theorem Out.put {W0:World} {nb:Nat} {k:Int} {P:Option Addr} {C:Nat} {hs:List Sl} {rows:List (List Int)} (t:Out W0 w nb k P C hs rows) {d:Nat} {row:List Int} (r:OwI ty_int w q d row) (rq: ∀b,blk q=some b→W0.heap.size≤b∧b≠nb∧¬OV.foot P hs b)
 (hl:hs.length≤1000000) (hr:row.length≤maxLen) {R:World→Prop} (hR: ∀w' P' C' hs',Out W0 w' nb k P' C' hs' (rows++ [row])→hs'.length=hs.length+1→R w'):
 ∀ (n1:Nat) (w1:World),New (.cells #[.slice q row.length d] ty_sl_int) w n1 w1→∃w2:World,∃ (P':Option Addr) (N' C':Nat),(Builtin.append_ #[ty_sl_sl_int,ty_sl_sl_int] ty_sl_sl_int #[.slice P hs.length C,.slice (some (Addr.mk n1 0 none)) 1 1]).run Tryz.prog w1= .ok (.slice P' N' C') w2∧
   ∃w3:World,StoreAt ((Addr.mk nb 0 none).add 1) 0 [.slice P' N' C'] w2 w3∧R w3:=by
 intro n1 w1 h1
 have t1:=t.grow h1.mod
 have e1:=h1.num
 have v1:Vw Sl.v w1 (some ⟨n1,0,none⟩) [⟨q,row.length,d⟩]:=by
  intro j hj
  have:j=0:=by simpa using hj
  subst this
  exact ⟨_,rfl,cell_add h1.has rfl⟩
 have rt: ∀b,rfoot [⟨q,row.length,d⟩] b→blk q=some b:=by
  rintro b ⟨s,hs,_,h⟩
  rw [List.mem_singleton] at hs
  subst hs
  exact h
 have szg:=t1.G.size
 refine t1.o.app sl_sl_int (ns:= [⟨q,row.length,d⟩]) (nrows:= [row]) v1 (VR.one (r.grow h1.mod).vw rfl hr) rfl rfl (fun b hb e=> (rq b (rt b hb)).2.2 (.inl e)) (by simp;omega) fun w2 P2 C2 o2 m2 hp2 hz2=> ?_
 have H2:Has w2 nb #[.int .i64 k,.slice P hs.length C]:=t1.H.keep m2 fun e=> (t1.f nb (.inl e)).2 rfl
 have n1nb:nb<w1.heap.size:=t1.H.lt
 refine store_f H2 rfl rfl fun w3 H3 m3=> ?_
 have f3: ∀b,OV.foot P2 (hs++ [⟨q,row.length,d⟩]) b→W0.heap.size≤b∧b≠nb:=by
  rintro b (e|e)
  · rcases hp2 with rfl|rfl
    · exact t1.f b (.inl e)
    · have:=blk_some e;exact ⟨by omega,by omega⟩
  · rcases rfoot_app.1 e with e|e
    · exact t1.f b (.inr e)
    · have:=rq b (rt b e);exact ⟨this.1,this.2.1⟩
 refine hR w3 P2 C2 _ ⟨o2.keep m3 fun b hb e=> (f3 b hb).2 e,H3,?_,f3,t1.nb⟩ (by simp)
 exact (t1.G.then m2 fun b hb e=>by have:=(t1.f b (.inl e)).1;omega).then m3 fun b hb e=>by have:=t1.nb;omega
end Go.Proofs.YtenmibfmhccmiaaGreat.W
