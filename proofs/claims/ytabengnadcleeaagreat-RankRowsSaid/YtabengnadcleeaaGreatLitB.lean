/- Layer 1: lists of literals in order. -/
import Derived.Test.YtabengnadcleeaaGreatSortA
import Derived.Test.YtabengnadcleeaaGreatPureA
import Derived.Test.YtabengnadcleeaaGreatLitA
import Derived.Test.YtabengnadcleeaaGreatFwRead
namespace Go.Proofs.YtabengnadcleeaaGreat.W
open Go Go.Fw Go.RowKit Go.SoP Go.LiP
open Go.Proofs.Tryz (prog)
section
variable {w:World} {p q:Option Addr} {n c:Nat} {l:List Int}
theorem sl_int:slOk prog ty_sl_int ty_int 8=true:=by kernel_rfl
theorem int_zero:(Tryz.prog.info? ty_int).bind (·.zero)=some (.int .i64 0):=by kernel_rfl
theorem amt_am (l:Int):amt l=am l:=rfl
theorem am_bd {x:Int} (h:litB x=true):1≤am x∧am x≤1048576:=by
 have:=litB_bd h
 unfold am;split<;>omega
theorem amountG {l:Int} (h: -9223372036854775808<l) (h2:l<9223372036854775808) (w:World):Calls prog lit_amount.id #[.int .i64 l] w fun e w'=>e= .returned (.int .i64 (amt l))∧Gdr w w':=by
 refine lit_amount.calls ?_
 unfold lit_amount.w
 rw [wrap64_of (x:=0 - l) (by omega) (by omega)]
 refine ⟨?_,Gdr.refl w⟩
 unfold imax amt
 congr 2
 split<;>split<;>omega
theorem before_ok {x y:Int} (hx:litB x=true) (hy:litB y=true) (w:World):Calls prog lit_before.id #[.int .i64 x,.int .i64 y] w fun e w'=>e= .returned (.int .i64 (bef x y))∧Gdr w w':=by
 refine lit_before.calls ?_
 have bx:=litB_bd hx;have bY:=litB_bd hy;have ax:=am_bd hx;have ay:=am_bd hy
 refine (amountG (l:=x) (by omega) (by omega) w).mono ?_
 rintro e w1 ⟨rfl,g1⟩
 refine ⟨_,rfl,(amountG (l:=y) (by omega) (by omega) w1).mono ?_⟩
 rintro e w2 ⟨rfl,g2⟩
 rw [amt_am,amt_am]
 have G2:=g1.trans g2
 refine ⟨_,rfl,cnd_i (fun s=> ?_) (fun s=> ⟨?_,G2⟩)⟩
 · have s:am x≠am y:=by simpa using s
   refine (amountG (l:=x) (by omega) (by omega) w2).mono ?_
   rintro e w3 ⟨rfl,g3⟩
   refine ⟨_,rfl,(amountG (l:=y) (by omega) (by omega) w3).mono ?_⟩
   rintro e w4 ⟨rfl,g4⟩
   rw [amt_am,amt_am]
   refine ⟨_,rfl,?_,(G2.trans g3).trans g4⟩
   unfold bef
   rw [if_pos s,wrap64_of (by omega) (by omega)]
 · have s: ¬am x≠am y:=by simpa using s
   unfold bef
   rw [if_neg s,wrap64_of (by omega) (by omega)]
theorem before_ent:entB prog lit_before.id=true:=by kernel_rfl
theorem mem_take_succ {t:Nat} {x:Int} (h:t<l.length):x∈l.take (t+1)↔x∈l.take t∨x=l.getD t 0:=by
 rw [List.take_add_one,List.mem_append]
 have:l[t]? =some (l.getD t 0):=by simp [List.getD,h]
 rw [this];simp
theorem mem_getD {t:Nat} (h:t<l.length):l.getD t 0∈l:=by simp [List.getD,h]
theorem index_ok (h:Vw (Value.int .i64) w p l) (hn:n=l.length) (hm:n≤maxLen) (x:Int):Calls prog slices_Index_int_int.id #[.slice p n c,.int .i64 x] w fun e w'=> ∃r:Int,e= .returned (.int .i64 r)∧(r≥0↔x∈l)∧Grow w w':=by
 refine slices_Index_int_int.calls ?_
 unfold maxLen at hm
 refine ⟨fun I w' k=> ∃t:Nat,I=t∧t≤l.length∧k=l.length - t∧x ∉ l.take t∧Grow w w',⟨_,0,rfl,Nat.zero_le _,rfl,by simp,Mod.refl w⟩,?_⟩
 rintro I w1 k _ ⟨t,rfl,ht,rfl,ha,G⟩
 refine cnd_i (fun s=> ?_) (fun s=> ⟨-1,rfl,?_,G⟩)
 · have s:t<l.length:=by simp at s;omega
   refine (h.grow G).ix 0 (by omega) hn (by omega) fun a e=> ⟨_,e,?_⟩
   rw [Int.toNat_natCast]
   refine cnd_i (fun s2=> ⟨(t:Int),rfl,?_,G⟩) (fun s2=> ⟨_,?_,t+1,wN (by omega) (by omega),by omega,rfl,?_,G⟩)
   · have s2:x=l.getD t 0:=by simpa using s2
     exact ⟨fun _=>by rw [s2];exact mem_getD s,fun _=>by omega⟩
   · omega
   · have s2:x≠l.getD t 0:=by simpa using s2
     rw [mem_take_succ s]
     rintro (e|e)
     · exact ha e
     · exact s2 e
 · have:t=l.length:=by simp at s;omega
   subst this
   rw [List.take_length] at ha
   exact ⟨fun h=>by omega,fun h=>absurd h ha⟩
theorem contains_ok (h:Vw (Value.int .i64) w p l) (hn:n=l.length) (hm:n≤maxLen) (x:Int):Calls prog slices_Contains_int_int.id #[.slice p n c,.int .i64 x] w fun e w'=>e= .returned (.bool (decide (x∈l)))∧Grow w w':=by
 refine slices_Contains_int_int.calls ?_
 refine (index_ok h hn hm x).mono ?_
 rintro e w1 ⟨r,rfl,hr,g1⟩
 exact ⟨_,rfl,by rw [decide_eq_decide.2 hr],g1⟩
theorem args2w (u v:Value):(#[]++ #[u]++ #[v]:Array Value)= #[u,v]:=by simp
theorem clone_ok (h:Vw (Value.int .i64) w p l) (hn:n=l.length) (hm:n≤1000000):Calls prog slices_Clone_int_int.id #[.slice p n c] w fun e w'=> ∃ (q:Option Addr) (d:Nat),e= .returned (.slice q l.length d)∧OwI ty_int w' q d l∧Grow w w'∧(∀b,blk q=some b→w.heap.size≤b):=by
 refine slices_Clone_int_int.calls ?_
 refine cnd_i (fun s=> ?_) (fun s=> ?_)
 · have hp:p=none:=by cases p<;>simp at s ⊢
   subst hp
   have:l= []:=by
    rcases l with _| ⟨x,l⟩
    · rfl
    · obtain ⟨a,ha,_⟩:=h 0 (by simp);cases ha
   subst this
   exact ⟨none,0,rfl,Ow.nil _ _ _,Mod.refl w,fun b hb=>by simp [blk] at hb⟩
 · intro n1 w1 h1
   have o1:OwI ty_int w1 (some ⟨n1,0,none⟩) 0 []:=New.empty h1
   refine o1.appV sl_int (h.grow h1.mod) rfl hn oneInt (by simp;omega) fun w2 p2 c2 o2 m2 hp2 hs2=> ?_
   rw [List.nil_append] at o2 ⊢
   have e1:=h1.num
   refine ⟨p2,c2,rfl,o2,h1.mod.then m2 fun b hb e=> ?_,fun b hb=> ?_⟩
   · have:=blk_some e;omega
   · rcases hp2 with rfl|rfl
     · have:=blk_some hb;omega
     · have:=blk_some hb;have:=h1.mod.size;omega
theorem part_get {k m j:Nat} (_:k+m=l.length) (hj:j<m):((l.drop k).take m).getD j 0=l.getD (k+j) 0:=by
 simp only [List.getD_eq_getElem?_getD]
 rw [List.getElem?_take,if_pos hj,List.getElem?_drop]
theorem getD_setI {l:List Int} {i j:Nat} {x:Int} (hi:i<l.length):(l.set i x).getD j 0=if j=i then x else l.getD j 0:=getD_setN hi
theorem take_set_succ {l:List Int} {k:Nat} {x:Int} (h:k<l.length):(l.set k x).take (k+1)=l.take k++ [x]:=by
 rw [List.take_add_one,List.take_set,List.set_eq_of_length_le (by simp;omega)]
 simp [h]
theorem compact_ok (o:OwI ty_int w p c l) (hn:n=l.length) (hm:n≤1000000):Calls prog slices_Compact_int_int.id #[.slice p n c] w fun e w'=>e= .returned (.slice p (ddN l l.length).length c)∧OwI ty_int w' p c (ddN l l.length)∧Mod (Bk p) w w':=by
 refine slices_Compact_int_int.calls ?_
 refine cnd_i (fun s=> ?_) (fun s=> ?_)
 · have s:l.length<2:=by simp at s;omega
   have:ddN l l.length=l:=by
    rw [ddN_take (Nat.le_refl _) (fun j j1 j2=>by omega),List.take_length]
   rw [this,hn]
   exact ⟨rfl,o,Mod.refl w⟩
 have s:2≤l.length:=by simp at s;omega
 refine ⟨fun I w' k=> ∃t:Nat,I=t∧1≤t∧t≤n∧k=n - t∧(∀j,0<j→j<t→l.getD j 0≠l.getD (j - 1) 0)∧OwI ty_int w' p c l∧Mod (Bk p) w w',⟨_,1,rfl,Nat.le_refl _,by omega,rfl,fun j j1 j2=>by omega,o,Mod.refl w⟩,?_⟩
 rintro I w1 k _ ⟨t,rfl,t1,ht,rfl,ha,o1,m1⟩
 have hcl:l.length≤c:=by
  rcases o.un with ⟨_,_,rfl⟩| ⟨_,_,_,_,h,_⟩
  · simp at s
  · exact h
 refine cnd_i (fun r=> ?_) (fun r=> ?_)
 · have r:t<n:=by simpa using r
   have e1:IntKind.i64.wrap ((t:Int) - 1)=((t - 1:Nat):Int):=wN (by omega) (by omega)
   rw [e1]
   refine o1.drew.ix 0 (by omega) hn (by omega) fun a e=> ⟨_,e,o1.drew.ix 0 (by omega) hn (by omega) fun a e=> ⟨_,e,?_⟩⟩
   rw [Int.toNat_natCast,Int.toNat_natCast]
   refine cnd_i (fun r2=> ?_) (fun r2=> ⟨_,?_,t+1,wN (by omega) (by omega),by omega,by omega,rfl,fun j j1 j2=> ?_,o1.drew,m1.drew⟩)
   · have r2:l.getD t 0=l.getD (t - 1) 0:=by simpa using r2
     refine slK_i t n c rfl rfl rfl (by omega) (by omega) (by omega) ?_
     rw [if_neg (by omega)]
     have d0:ddN l t=l.take t:=ddN_take (by omega) ha
     have d1:ddN l (t+1)=l.take t:=by
      unfold ddN
      rw [if_pos ⟨by omega,r2⟩,d0]
     refine ⟨fun I J w' k=> ∃ (i j:Nat) (cur:List Int),I=i∧J=j∧1≤j∧j≤n - t∧k=n - t - j∧i<t+j∧cur.length=n∧(∀x,t+j - 1≤x→x<n→cur.getD x 0=l.getD x 0)∧cur.take i=ddN l (t+j)∧OwI ty_int w' p c cur∧Mod (Bk p) w w',⟨_,t,1,l,rfl,rfl,Nat.le_refl _,by omega,rfl,by omega,hn.symm,fun _ _ _=>rfl,d1.symm,o1.drew,m1.drew⟩,?_⟩
     clear d0 d1
     rintro I J w2 k _ ⟨i,j,cur,rfl,rfl,j1,j2,rfl,hi,hc,hx,hd,o2,m2⟩
     have v2:Vw (Value.int .i64) w2 (p.map (·.add (t*1))) ((cur.drop t).take (n - t)):=o2.vw.part (by omega)
     have hv:n - t=((cur.drop t).take (n - t)).length:=by simp;omega
     refine cnd_i (fun r3=> ?_) (fun r3=> ?_)
     · have r3:j<n - t:=by simpa using r3
       have e2:IntKind.i64.wrap ((j:Int) - 1)=((j - 1:Nat):Int):=wN (by omega) (by omega)
       rw [e2]
       refine v2.drew.ix 0 (by omega) hv (by omega) fun a e=> ⟨_,e,v2.drew.ix 0 (by omega) hv (by omega) fun a e=> ⟨_,e,?_⟩⟩
       rw [Int.toNat_natCast,Int.toNat_natCast,part_get (by omega) r3,part_get (by omega) (by omega),hx _ (by omega) (by omega),hx _ (by omega) (by omega)]
       have ed:ddN l (t+j+1)=if 0<t+j∧l.getD (t+j) 0=l.getD (t+j - 1) 0 then ddN l (t+j) else ddN l (t+j)++ [l.getD (t+j) 0]:=rfl
       rw [show t+ (j - 1)=t+j - 1 by omega]
       refine cnd_i (fun r4=> ?_) (fun r4=> ?_)
       · have r4:l.getD (t+j) 0≠l.getD (t+j - 1) 0:=by simpa using r4
         refine v2.drew.ix 0 (by omega) hv (by omega) fun a e=> ⟨_,e,?_⟩
         rw [Int.toNat_natCast,part_get (by omega) r3,hx _ (by omega) (by omega)]
         refine o2.drew.st (l.getD (t+j) 0) rfl rfl (by omega) hc.symm (by omega) fun w3 o3 m3=> ?_
         rw [Int.toNat_natCast] at o3
         refine ⟨_,?_,i+1,j+1,_,wN (by omega) (by omega),wN (by omega) (by omega),by omega,by omega,rfl,by omega,by simpa using hc,fun x x1 x2=> ?_,?_,o3,m2.drew.trans m3⟩
         · omega
         · rw [getD_setI (by omega),if_neg (by omega)]
           exact hx x (by omega) x2
         · rw [take_set_succ (by omega),hd,show t+ (j+1)=t+j+1 by omega,ed,if_neg (fun e=>r4 e.2)]
       · have r4:l.getD (t+j) 0=l.getD (t+j - 1) 0:=by simpa using r4
         refine ⟨_,?_,i,j+1,cur,rfl,wN (by omega) (by omega),by omega,by omega,rfl,by omega,hc,fun x x1 x2=>hx x (by omega) x2,?_,o2.drew,m2.drew⟩
         · omega
         · rw [hd,show t+ (j+1)=t+j+1 by omega,ed,if_pos ⟨by omega,r4⟩]
     · have r3:j=n - t:=by simp at r3;omega
       have hin:i<n:=by omega
       have hdl:(ddN l l.length).length=i:=by
        rw [show l.length=t+j by omega,← hd];simp;omega
       refine slK_i i n c rfl rfl rfl (by omega) (by omega) (by omega) ?_
       rw [if_neg (by omega)]
       refine o2.clear sl_int int_zero (x:=(0:Int)) rfl rfl (by omega) (by omega) fun w3 o3 m3=> ?_
       refine slK_i 0 i c rfl rfl rfl (by omega) (by omega) (by omega) ?_
       rw [if_neg (by omega),Nat.sub_zero,Nat.sub_zero]
       have ep:p.map (·.add (0*1))=p:=by cases p<;>simp [Addr.add]
       rw [ep,hdl]
       rw [hd,show t+j=l.length by omega] at o3
       exact ⟨rfl,o3,m2.trans m3⟩
   · omega
   · have r2:l.getD t 0≠l.getD (t - 1) 0:=by simpa using r2
     by_cases e:j=t
     · subst e;exact r2
     · exact ha j j1 (by omega)
 · have r:t=n:=by simp at r;omega
   have:ddN l l.length=l:=by
    rw [ddN_take (Nat.le_refl _) (fun j j1 j2=>ha j j1 (by omega)),List.take_length]
   rw [this,hn]
   exact ⟨rfl,o1,m1⟩
end
section
variable {w:World} {p q:Option Addr} {n c:Nat} {l:List Int}
theorem ep0 (p:Option Addr):p.map (·.add (0*1))=p:=by cases p<;>simp [Addr.add]
end
section
variable {w:World} {p q:Option Addr} {n c:Nat} {l:List Int}
theorem sortc_ok (o:OwI ty_int w p c l) (hn:n=l.length) (hm:n≤100000) (hl: ∀x∈l,litB x=true) {K:Ending→World→Prop}
 (hK: ∀w',OwI ty_int w' p c (norm l)→Mod (Bk p) w w'→K (.returned (.slice p (norm l).length c)) w'):
 Calls prog slices_SortFunc_int_int.id #[.slice p n c,.func (.func lit_before.id) #[] #[]] w fun e w1=>e= .returned (.tuple #[])∧Calls prog slices_Compact_int_int.id #[.slice p n c] w1 K:=by
 have X:Cx w p n l lit_before.id #[] bef:=by
  refine ⟨hn,by omega,before_ent,fun x hx y hy w' _=> ?_,bef_ord⟩
  have:(#[]++ #[Value.int .i64 x,.int .i64 y]++ #[]:Array Value)= #[.int .i64 x,.int .i64 y]:=by simp
  rw [this]
  exact before_ok (hl x hx) (hl y hy) w'
 refine (sort_ok X o).mono ?_
 rintro e w1 ⟨rfl,l1,o1,m1,p1,s1⟩
 refine ⟨rfl,(compact_ok o1 (by rw [hn,p1.length_eq]) (by omega)).mono ?_⟩
 rintro e w2 ⟨rfl,o2,m2⟩
 have:ddN l1 l1.length=norm l:=(ddN_isN p1 s1).uniq (norm_isN l)
 rw [this] at o2 ⊢
 exact hK w2 o2 (m1.trans m2)
theorem clB_lit {l:List Int} (h:clB l=true): ∀x∈l,litB x=true:=(clB_all h).1
theorem norm_lit (hl: ∀x∈l,litB x=true): ∀x∈norm l,litB x=true:=fun x hx=>hl x (((norm_isN l).mem x).1 hx)
theorem norm_fr (h:Vw (Value.int .i64) w p l) (hn:n=l.length) (hm:n≤maxLen):Calls prog lit_Norm.id #[.slice p n c] w fun e w'=> ∃ (q:Option Addr) (d:Nat) (m:List Int),m=(if clB l then norm l else [])∧e= .returned (.tuple #[.slice q m.length d,.bool (clB l && taut l)])∧OwI ty_int w' q d m∧Grow w w'∧(∀b,blk q=some b→w.heap.size≤b):=by
 refine lit_Norm.calls ?_
 refine (litCheck_ok h hn hm).mono ?_
 rintro e w1 ⟨rfl,g1⟩
 cases hc:clB l with
 |false=>exact ⟨_,rfl,cnd_t rfl ⟨none,0,[],rfl,rfl,Ow.nil _ _ _,g1,fun b e=>by simp [blk] at e⟩⟩
 |true=>
 have hll:=clB_lit hc
 have hlen:=(clB_all hc).2
 refine ⟨_,rfl,cnd_f rfl ((clone_ok (h.grow g1) hn (by omega)).mono ?_)⟩
 rintro e w2 ⟨q,d,rfl,o2,g2,f2⟩
 refine ⟨_,_,_,rfl,sortc_ok o2 rfl (by omega) hll fun w4 o4 m4=> ?_⟩
 have g4:Grow w w4:=(g1.trans g2).then m4 fun b hb e=>by
  have:=f2 b e;have:=g1.size;omega
 have fq: ∀b,blk q=some b→w.heap.size≤b:=fun b e=>by have:=f2 b e;have:=g1.size;omega
 have hnl:=norm_len l
 have nz: ∀x∈l,x≠0:=fun x hx=> (litB_bd (hll x hx)).1
 have ta:=taut_adj (norm_isN l) nz
 refine ⟨_,_,_,rfl,fun I w' k=> ∃t:Nat,I=t∧1≤t∧(∀i,0<i→i<t→i< (norm l).length→(norm l).getD i 0≠ -((norm l).getD (i - 1) 0))∧k=(norm l).length - t∧OwI ty_int w' q d (norm l)∧Grow w w',⟨_,1,rfl,Nat.le_refl _,fun i i1 i2=>by omega,rfl,o4,g4⟩,?_⟩
 rintro I w5 k _ ⟨t,rfl,t1,ha,rfl,o5,g5⟩
 refine cnd_i (fun s=> ?_) (fun s=> ?_)
 · have s:t< (norm l).length:=by simpa using s
   have e1:IntKind.i64.wrap ((t:Int) - 1)=((t - 1:Nat):Int):=wN (by omega) (by omega)
   rw [e1]
   refine o5.drew.ix 0 (by omega) rfl (by omega) fun a e=> ⟨_,e,o5.drew.ix 0 (by omega) rfl (by omega) fun a e=> ⟨_,e,?_⟩⟩
   rw [Int.toNat_natCast,Int.toNat_natCast]
   have hb:=litB_bd (norm_lit hll _ (mem_getD (l:=norm l) (t:=t - 1) (by omega)))
   have ew:IntKind.i64.wrap (0 - (norm l).getD (t - 1) 0)= -((norm l).getD (t - 1) 0):=by rw [wrap64_of (by omega) (by omega)];omega
   rw [ew]
   refine cnd_i (fun s2=> ?_) (fun s2=> ⟨_,?_,t+1,wN (by omega) (by omega),by omega,fun i i1 i2 i3=> ?_,rfl,o5.drew,g5.drew⟩)
   · have s2:(norm l).getD t 0= -((norm l).getD (t - 1) 0):=by simpa using s2
     have:taut l=true:=ta.2 ⟨t,by omega,s,s2⟩
     exact ⟨q,d,norm l,rfl,by rw [this];rfl,o5.drew,g5.drew,fq⟩
   · omega
   · have s2:(norm l).getD t 0≠ -((norm l).getD (t - 1) 0):=by simpa using s2
     by_cases e:i=t
     · subst e;exact s2
     · exact ha i i1 (by omega) i3
 · have s:(norm l).length≤t:=by simp at s;omega
   have:taut l=false:=by
    rw [← Bool.not_eq_true]
    intro h
    obtain ⟨i,i1,i2,i3⟩:=ta.1 h
    exact ha i i1 (by omega) i2 i3
   exact ⟨q,d,norm l,rfl,by rw [this];rfl,o5,g5,fq⟩
end
section
variable {w:World} {p q:Option Addr} {n c:Nat} {l:List Int}
theorem valP_neg {m:List Int} {l:Int} (h:litB l=true):valP m (-l)= -valP m l:=by
 have hb:=litB_bd h
 have hb':litB (-l)=true:=by unfold litB;exact decide_eq_true (by omega)
 have ha:amt (-l)=amt l:=by unfold amt;split<;>split<;>omega
 unfold valP
 rw [h,hb',ha]
 split
 · rfl
 · split
   · rfl
   · generalize m.getD (amt l - 1).toNat 0=z at*
     by_cases h1:z>0<;>by_cases h2:l>0<;>by_cases h3: -l>0<;>simp [h1,h2]<;>omega
end
end Go.Proofs.YtabengnadcleeaaGreat.W
