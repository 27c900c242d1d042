/- Layer 1: the statement LitHolds. -/
import Derived.Test.YtabengnadcleeaaGreatLitB
namespace Go.Proofs.YtabengnadcleeaaGreat.W
open Go Go.Fw Go.RowKit Go.SoP Go.LiP
open Go.Proofs.Tryz (prog)
section
variable {w:World} {p q:Option Addr} {n c:Nat} {l:List Int}
end
section
variable {w:World} {p q:Option Addr} {n c:Nat} {l:List Int}
theorem sl_sl_int:slOk prog ty_sl_sl_int ty_sl_int 24=true:=by kernel_rfl
theorem idxF_ok (h:Vw (Value.int .i64) w p l) (hn:n=l.length) (hm:n≤maxLen) {fid:FuncId} {fv:Array Value} (he:entB prog fid=true) (pr:Int→Bool)
 (hf: ∀x∈l,∀w',Grow w w'→Calls prog fid (#[]++ #[.int .i64 x]++fv) w' fun e w2=>e= .returned (.bool (pr x))∧Grow w' w2):
 Calls prog slices_IndexFunc_int_int.id #[.slice p n c,.func (.func fid) #[] fv] w fun e w'=>Grow w w'∧((e= .returned (.int .i64 (-1))∧∀t,t<l.length→pr (l.getD t 0)=false)∨
  ∃t:Nat,e= .returned (.int .i64 t)∧t<l.length∧pr (l.getD t 0)=true∧∀j,j<t→pr (l.getD j 0)=false):=by
 refine slices_IndexFunc_int_int.calls ?_
 unfold maxLen at hm
 refine ⟨fun v w' k=> ∃t:Nat,v=t∧t≤l.length∧k=l.length - t∧(∀j,j<t→pr (l.getD j 0)=false)∧Grow w w',⟨_,0,rfl,Nat.zero_le _,rfl,fun j hj=>by omega,Mod.refl w⟩,?_⟩
 rintro v w5 k _ ⟨t,rfl,ht,rfl,ha,G⟩
 refine cnd_i (fun q=> ?_) (fun q=> ⟨G,.inl ⟨rfl,fun j hj=>ha j (by simp at q;omega)⟩⟩)
 have q':t<l.length:=by simp at q;omega
 refine (h.grow G).ix 0 (by omega) hn (by omega) fun a e=> ⟨_,e,?_⟩
 rw [he]
 show Calls _ _ _ _ _
 rw [Int.toNat_natCast]
 refine (hf _ (mem_getD q') w5 G).mono ?_
 rintro e w8 ⟨rfl,g8⟩
 refine ⟨_,rfl,cnd_i (fun s=> ⟨G.trans g8,.inr ⟨t,rfl,q',s,ha⟩⟩) (fun s=> ⟨_,?_,t+1,wN (by omega) (by omega),by omega,rfl,fun j hj=> ?_,G.trans g8⟩)⟩
 · omega
 · by_cases e:j=t
   · subst e;exact s
   · exact ha j (by omega)
theorem filter_succ {f:Int→Bool} {t:Nat} (h:t<l.length):(l.take (t+1)).filter f=(l.take t).filter f++ (if f (l.getD t 0) then [l.getD t 0] else []):=by
 rw [List.take_add_one,List.filter_append]
 have:l[t]? =some (l.getD t 0):=by simp [List.getD,h]
 rw [this]
 simp only [Option.toList_some,List.filter_cons,List.filter_nil]
theorem delete_ok (o:OwI ty_int w p c l) (hn:n=l.length) (hm:n≤1000000) {fid:FuncId} {fv:Array Value} (he:entB prog fid=true) (pr:Int→Bool)
 (hf: ∀x∈l,∀w',Mod (Bk p) w w'→Calls prog fid (#[]++ #[.int .i64 x]++fv) w' fun e w2=>e= .returned (.bool (pr x))∧Grow w' w2):
 Calls prog slices_DeleteFunc_int_int.id #[.slice p n c,.func (.func fid) #[] fv] w fun e w'=>e= .returned (.slice p (l.filter fun x=> !pr x).length c)∧OwI ty_int w' p c (l.filter fun x=> !pr x)∧Mod (Bk p) w w':=by
 refine slices_DeleteFunc_int_int.calls ?_
 refine (idxF_ok o.vw hn (by unfold maxLen;omega) he pr fun x hx w' g=>hf x hx w' (g.mono fun _ _=>False.elim)).mono ?_
 rintro e w1 ⟨g1,⟨rfl,hno⟩| ⟨t,rfl,ht,hpt,hlo⟩⟩
 · have:(l.filter fun x=> !pr x)=l:=by
    rw [List.filter_eq_self]
    intro x hx
    obtain ⟨j,hj,e⟩:=List.mem_iff_getElem.1 hx
    have:=hno j hj
    simp only [List.getD,List.getElem?_eq_getElem hj,Option.getD_some,e] at this
    rw [this];rfl
   rw [this]
   exact ⟨_,rfl,cnd_t rfl ⟨by rw [hn],o.grow g1,g1.mono fun _ _=>False.elim⟩⟩
 · have M1:Mod (Bk p) w w1:=g1.mono fun _ _=>False.elim
   have hcl:l.length≤c:=by
    rcases o.un with ⟨_,_,rfl⟩| ⟨_,_,_,_,h,_⟩
    · simp at ht
    · exact h
   have f0:(l.take t).filter (fun x=> !pr x)=l.take t:=by
    rw [List.filter_eq_self]
    intro x hx
    obtain ⟨j,hj,e⟩:=List.mem_iff_getElem.1 hx
    rw [List.length_take] at hj
    have h2:=hlo j (by omega)
    rw [List.getElem_take] at e
    simp only [List.getD,List.getElem?_eq_getElem (show j<l.length by omega),Option.getD_some,e] at h2
    rw [h2];rfl
   have f1:(l.take (t+1)).filter (fun x=> !pr x)=l.take t:=by
    rw [filter_succ ht,f0,hpt];simp
   refine ⟨_,rfl,cnd_f (by simp) ?_⟩
   have et:IntKind.i64.wrap ((t:Int)+1)=((t+1:Nat):Int):=wN (by omega) (by omega)
   rw [et]
   refine ⟨fun I J w' k=> ∃ (i j:Nat) (cur:List Int),I=i∧J=j∧i<j∧j≤n∧k=n - j∧cur.length=n∧(∀x,j≤x→x<n→cur.getD x 0=l.getD x 0)∧cur.take i=(l.take j).filter (fun x=> !pr x)∧OwI ty_int w' p c cur∧Mod (Bk p) w w',⟨_,t,t+1,l,rfl,rfl,by omega,by omega,rfl,hn.symm,fun _ _ _=>rfl,f1.symm,o.grow g1,M1⟩,?_⟩
   rintro I J w2 k _ ⟨i,j,cur,rfl,rfl,hij,hj,rfl,hc,hx,hd,o2,m2⟩
   refine cnd_i (fun s=> ?_) (fun s=> ?_)
   · have s:j<n:=by simpa using s
     have sl:j<l.length:=by omega
     refine o2.ix 0 (by omega) hc.symm (by omega) fun a e=> ⟨_,e,?_⟩
     rw [Int.toNat_natCast,hx j (Nat.le_refl _) s,he]
     show Calls _ _ _ _ _
     refine (hf _ (mem_getD sl) w2 m2).mono ?_
     rintro e w3 ⟨rfl,g3⟩
     have fs:=filter_succ (f:=fun x=> !pr x) sl
     refine ⟨_,rfl,cnd_i (fun r=> ?_) (fun r=> ?_)⟩
     · rw [if_pos r] at fs
       refine (o2.grow g3).st (l.getD j 0) rfl rfl (by omega) hc.symm (by omega) fun w4 o4 m4=> ?_
       rw [Int.toNat_natCast] at o4
       refine ⟨_,?_,i+1,j+1,_,wN (by omega) (by omega),wN (by omega) (by omega),by omega,by omega,rfl,by simpa using hc,fun x x1 x2=> ?_,?_,o4,(m2.grow g3).trans m4⟩
       · omega
       · rw [getD_setI (by omega),if_neg (by omega)]
         exact hx x (by omega) x2
       · rw [take_set_succ (by omega),hd,fs]
     · rw [if_neg (by rw [r];exact Bool.false_ne_true),List.append_nil] at fs
       refine ⟨_,?_,i,j+1,cur,rfl,wN (by omega) (by omega),by omega,by omega,rfl,hc,fun x x1 x2=>hx x (by omega) x2,by rw [hd,fs],o2.grow g3,m2.grow g3⟩
       omega
   · have s:j=n:=by simp at s;omega
     have e0:l.take j=l:=List.take_of_length_le (by omega)
     rw [e0] at hd
     have hdl:(l.filter fun x=> !pr x).length=i:=by rw [← hd];simp;omega
     refine slK_i i n c rfl rfl rfl (by omega) (by omega) (by omega) ?_
     rw [if_neg (by omega)]
     refine o2.clear sl_int int_zero (x:=(0:Int)) rfl rfl (by omega) (by omega) fun w3 o3 m3=> ?_
     refine slK_i 0 i c rfl rfl rfl (by omega) (by omega) (by omega) ?_
     rw [if_neg (by omega),Nat.sub_zero,Nat.sub_zero,ep0,hdl]
     rw [hd] at o3
     exact ⟨rfl,o3,m2.trans m3⟩
end
end Go.Proofs.YtabengnadcleeaaGreat.W
