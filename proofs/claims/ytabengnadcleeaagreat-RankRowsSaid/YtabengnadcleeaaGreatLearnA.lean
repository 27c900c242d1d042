/- Layer 12: trails in memory, and which there may be. -/
import Derived.Test.YtabengnadcleeaaGreatLitB
import Derived.Test.YtabengnadcleeaaGreatFwMapA
import Derived.Test.YtabengnadcleeaaGreatPureB
namespace Go.Proofs.YtabengnadcleeaaGreat.W.Le
open Go Go.Fw Go.RowKit Go.SoP Go.LiP Go.LeP
open Go.Proofs.Tryz (prog)
section
variable {w:World} {p q:Option Addr} {n c m d:Nat} {tr:List As} {l:List Int}
def TV (w:World) (p:Option Addr) (tr:List As):Prop:= ∀i,i<tr.length→∃ (a:Addr) (s:Sl),p=some a∧CellsAt w (a.add (i*3)) 0 [.int .i64 (nth tr i).lit,.int .i64 (nth tr i).lev,.slice s.p s.n s.c]∧
 s.n=(nth tr i).rs.length∧s.n≤maxLen∧Vw (Value.int .i64) w s.p (nth tr i).rs
theorem TV.grow {w':World} (h:TV w p tr) (g:Grow w w'):TV w' p tr:=by
 intro i hi
 obtain ⟨a,s,rfl,hc,h1,h2,h3⟩:=h i hi
 exact ⟨a,s,rfl,CellsAt.keep g id hc,h1,h2,h3.grow g⟩
theorem TV.ix (h:TV w p tr) (hn:n=tr.length) {X:Int} (i:Nat) (e:X=i) (hi:i<tr.length) {K:Addr→Prop}
 (hk: ∀a (s:Sl),CellsAt w a 0 [.int .i64 (nth tr i).lit,.int .i64 (nth tr i).lev,.slice s.p s.n s.c]→s.n=(nth tr i).rs.length→s.n≤maxLen→Vw (Value.int .i64) w s.p (nth tr i).rs→K a):ixK p n X 3 K:=by
 subst e hn
 obtain ⟨a,s,rfl,hc,h1,h2,h3⟩:=h i hi
 exact ⟨a,rfl,by omega,by omega,hk _ s (by rw [Int.toNat_natCast];exact hc) h1 h2 h3⟩
theorem isL_litB (l:Int):isL l=litB l:=rfl
theorem amount12_ok {l:Int} (h: -9223372036854775808<l) (h2:l<9223372036854775808) (w:World):Calls prog learn_amount.id #[.int .i64 l] w fun e w'=>e= .returned (.int .i64 (am l))∧Grow w w':=by
 refine learn_amount.calls ?_
 unfold learn_amount.w
 rw [wrap64_of (x:=0 - l) (by omega) (by omega)]
 refine ⟨?_,Mod.refl w⟩
 unfold imax am
 congr 2
 split<;>split<;>omega
end
section
variable {w:World} {p q:Option Addr} {n c m d:Nat} {tr:List As} {l:List Int}
theorem mapI_at:mapI prog ty_map_int_int ty_int ty_int=true:=by kernel_rfl
theorem mapB_in:mapB prog ty_map_int_bool ty_int ty_bool=true:=by kernel_rfl
theorem wf_am {x:Int} (h:isL x=true):(Lit.int .i64 (am x)).wf=true:=by
 have:=am_bd (x:=x) h
 exact wf64 (by omega) (by omega)
theorem wf_lit {x:Int} (h:isL x=true):(Lit.int .i64 x).wf=true:=by
 have:=litB_bd h
 exact wf64 (by omega) (by omega)
theorem asCopy {w2:World} {u v:Int} {m d:Nat} {K:World→Prop} (h:New (.cells #[.int .i64 0,.int .i64 0,.slice none 0 0] ty_api_Assign) w n w2)
 (hk: ∀w3,Has w3 n #[.int .i64 u,.int .i64 v,.slice q m d]→Grow w w3→K w3): ∃w3,StoreAt (Addr.mk n 0 none) 0 [.int .i64 u,.int .i64 v,.slice q m d] w2 w3∧K w3:=by
 have e:=h.num
 exact store_i h.has rfl rfl fun w3 H m=>hk w3 H (h.mod.then m fun k hk (e:k=n)=>by omega)
theorem prev_succ {t:Nat}:prev tr (t+1)=(nth tr t).lev:=by unfold prev;rw [if_neg (by omega),Nat.add_sub_cancel]
theorem prev_zero:prev tr 0=0:=by unfold prev;rw [if_pos rfl]
end
section
variable {w:World} {p q:Option Addr} {n c m d:Nat} {tr:List As} {l:List Int}
theorem _root_.Go.LeP.TrOk.fresh (ok:TrOk tr) {t:Nat} (ht:t<tr.length): ¬atN (tr.take t) (am (nth tr t).lit)<t:=by
 intro e
 rw [(atN_take (by omega)).1] at e
 exact ok.uq _ t e ht (atN_hit (by omega))
theorem MI_cast {b n:Nat} {s s':Int→Int} (h:MI prog ty_int ty_int w b n s) (e: ∀u,s u=s' u):MI prog ty_int ty_int w b n s':=by
 rw [← show s=s' from funext e];exact h
theorem atM_wrap {v:Int} (hl:tr.length≤4096) (h:atN tr v<tr.length):IntKind.i64.wrap (atM tr v - 1)=(atN tr v:Nat):=by
 unfold atM
 rw [if_pos h,wrap64_of (by omega) (by omega)];omega
theorem places_ok (h:TV w p tr) (hn:n=tr.length) (ok:TrOk tr) (hl:tr.length≤4096):Calls prog learn_places.id #[.slice p n c] w fun e w'=> ∃b,e= .returned (.map (some b))∧MI prog ty_int ty_int w' b tr.length (atM tr)∧Grow w w'∧w.heap.size≤b:=by
 refine learn_places.calls ?_
 intro n1 w2 h2
 have e1:=h2.num
 have M2:MI prog ty_int ty_int w2 n1 0 (atM (tr.take 0)):=MI_cast (MI.new h2) fun u=> (atM_nil u).symm
 refine ⟨fun I w' k=> ∃t:Nat,I=t∧t≤tr.length∧k=tr.length - t∧MI prog ty_int ty_int w' n1 t (atM (tr.take t))∧Grow w w',⟨_,0,rfl,Nat.zero_le _,rfl,M2,h2.mod⟩,?_⟩
 rintro I w7 k _ ⟨t,rfl,ht,rfl,M,G⟩
 refine cnd_i (fun s=> ?_) (fun s=> ?_)
 · have s:t<tr.length:=by simp at s;omega
   refine (h.grow G).ix hn t rfl s fun a x C e1 e2 v=> ⟨_,_,_,_,_,C,fun n12 w13 h13=>asCopy h13 fun w14 H G14=> ⟨_,cell_add H rfl,?_⟩⟩
   have hb:=litB_bd (ok.isl t s)
   refine (amount12_ok (by omega) (by omega) w14).mono ?_
   rintro e w16 ⟨rfl,g16⟩
   have G16:=(G.trans G14).trans g16
   obtain ⟨w18,hr,M18,m18⟩:=(M.grow (G14.trans g16)).put mapI_at (by unfold maxLen;omega) (wf_am (ok.isl t s)) (v:=(t:Int)+1) (wf64 (by omega) (by omega))
   refine ⟨_,rfl,w18,by rw [wrap64_of (by omega) (by omega)];exact hr,_,?_,t+1,wN (by omega) (by omega),by omega,rfl,MI_cast M18 fun u=> (atM_succ s (ok.fresh s) u).symm,Mod.fresh G16 m18 (by omega)⟩
   omega
 · have s:t=tr.length:=by simp at s;omega
   subst s
   rw [List.take_length] at M
   exact ⟨n1,rfl,M,G,by omega⟩
theorem clB_one {x:Int}:clB [x]=litB x:=by unfold clB;simp
theorem one_vw {x:Int} {b:Nat} (h:Has w b #[.int .i64 x]):Vw (Value.int .i64) w (some ⟨b,0,none⟩) [x]:=by
 intro j hj
 have:j=0:=by simpa using hj
 subst this
 exact ⟨_,rfl,cell_add h rfl⟩
theorem reasoned_ok {t b nn:Nat} (h:TV w p tr) (hn:n=tr.length) (hl:tr.length≤4096) (ht:t<tr.length) (hi:isL (nth tr t).lit=true) (M:MI prog ty_int ty_int w b nn (atM (tr.take t))) (hv:Vw (Value.int .i64) w q (nth tr t).rs) (hm:m=(nth tr t).rs.length) (hx:m≤maxLen):
 Calls prog learn_reasoned.id #[.slice p n c,.map (some b),.agg #[.int .i64 (nth tr t).lit,.int .i64 (nth tr t).lev,.slice q m d]] w fun e w'=>e= .returned (.bool (reaB tr t))∧Grow w w':=by
 refine learn_reasoned.calls ?_
 intro n1 w2 h2
 have H:=h2.has
 have G2:=h2.mod
 generalize hrs:(nth tr t).rs=rs at*
 generalize hlt:(nth tr t).lit=x0 at*
 have hdef:reaB tr t=(decide (rs.length≤256) && decide (x0∈rs) && brk (tr.take t) (LeP.wo rs x0)):=by unfold reaB;rw [hrs,hlt]
 have hlp:(tr.take t).length=t:=len_take (by omega)
 have badx: ∀ {w':World} {x:Int},Grow w w'→x∈rs→x≠x0→¬Br1 (tr.take t) x→(Ending.returned (.bool false)= .returned (.bool (reaB tr t))∧Grow w w'):=by
  intro w' x g hx hne hb
  have:brk (tr.take t) (LeP.wo rs x0)=false:=by
   cases e:brk (tr.take t) (LeP.wo rs x0) with
   |false=>rfl
   |true=>exact absurd (brk_iff.1 e x (mem_wo.2 ⟨hx,hne⟩)) hb
  rw [hdef,this,Bool.and_false];exact ⟨rfl,g⟩
 refine ⟨_,_,_,cell_add H rfl,cnd_i (fun r=> ?_) (fun r=> ⟨_,_,_,cell_add H rfl,(litCheck_ok (hv.grow G2) hm hx).mono ?_⟩)⟩
 · simp at r
   rw [hdef,decide_eq_false (by omega)];exact ⟨rfl,G2⟩
 have r:rs.length≤256:=by simp at r;omega
 rintro e w5 ⟨rfl,g5⟩
 have G5:=G2.trans g5
 have H5:=H.grow g5
 refine ⟨_,rfl,cnd_i (fun r2=> ?_) (fun r2=> ⟨_,_,_,cell_add H5 rfl,_,cell_add H5 rfl,(contains_ok (hv.grow G5) hm hx _).mono ?_⟩)⟩
 · have hcl:clB rs=false:=by
    cases e:clB rs with
    |false=>rfl
    |true=>rw [e] at r2;simp at r2
   have hall:rs.all litB=false:=by
    unfold clB at hcl
    rw [decide_eq_true (p:=_≤4096) (by omega),Bool.and_true] at hcl
    exact hcl
   rw [List.all_eq_false] at hall
   obtain ⟨x,hx1,hx2⟩:=hall
   refine badx G5 hx1 (fun e=> ?_) fun hb=> ?_
   · subst e;exact hx2 hi
   · exact hx2 hb.isl
 have hcl:clB rs=true:=by
  cases e:clB rs with
  |true=>rfl
  |false=>rw [e] at r2;simp at r2
 have hlit:=(clB_all hcl).1
 rintro e w9 ⟨rfl,g9⟩
 have G9:=G5.trans g9
 have H9:=H5.grow g9
 refine ⟨_,rfl,cnd_i (fun r3=> ?_) (fun r3=> ⟨_,_,_,cell_add H9 rfl,?_⟩)⟩
 · have r3:x0 ∉ rs:=by simpa using r3
   rw [hdef,decide_eq_false r3,Bool.and_false];exact ⟨rfl,G9⟩
 have r3:x0∈rs:=by simpa using r3
 refine ⟨fun I w' k=> ∃j:Nat,I=j∧j≤rs.length∧k=rs.length - j∧(∀x∈rs.take j,x≠x0→Br1 (tr.take t) x)∧Grow w2 w',⟨_,0,rfl,Nat.zero_le _,rfl,by simp,g5.trans g9⟩,?_⟩
 rintro I w16 k _ ⟨j,rfl,hj,rfl,ha,G⟩
 refine cnd_i (fun s=> ?_) (fun s=> ?_)
 · have s:j<rs.length:=by simp at s;omega
   refine (hv.grow (G2.trans G)).ix 0 (by omega) hm (by omega) fun a e=> ⟨_,e,_,cell_add (H.grow G) rfl,?_⟩
   rw [Int.toNat_natCast]
   refine cnd_i (fun r4=> ⟨_,?_,j+1,wN (by omega) (by omega),by omega,rfl,fun x hx hne=> ?_,G⟩) (fun r4=> ?_)
   · omega
   · rcases (mem_take_succ s).1 hx with e|e
     · exact ha x e hne
     · exact absurd (e.trans (by simpa using r4)) hne
   have r4:rs.getD j 0≠x0:=by simpa using r4
   have hxi:=hlit _ (mem_getD s)
   have hb:=litB_bd hxi
   refine (amount12_ok (by omega) (by omega) w16).mono ?_
   rintro e w20 ⟨rfl,g20⟩
   have G20:=(G2.trans G).trans g20
   refine ⟨_,rfl,w20,_,(M.grow G20).look mapI_at (wf_am hxi),cnd_i (fun r5=> ?_) (fun r5=> ?_)⟩
   · refine badx G20 (mem_getD s) r4 fun hB=> ?_
     have r5:atM (tr.take t) (am (rs.getD j 0))=0:=by simpa using r5
     exact atM_pos.1 r5 hB.lt
   have r5:atN (tr.take t) (am (rs.getD j 0))< (tr.take t).length:=Classical.byContradiction fun e=>by
    rw [atM_pos.2 e] at r5;simp at r5
   have r6:=r5
   rw [hlp] at r6
   rw [atM_wrap (by omega) r5]
   refine (h.grow G20).ix hn _ rfl (by omega) fun a2 x C e1 e2 v=> ⟨_,C.1,?_⟩
   rw [wrap64_of (by omega) (by omega),Int.zero_sub]
   refine cnd_i (fun r7=>badx G20 (mem_getD s) r4 fun hB=> ?_) (fun r7=> ⟨_,?_,j+1,wN (by omega) (by omega),by omega,rfl,fun x hx hne=> ?_,G.trans g20⟩)
   · have:=hB.eq
     rw [nth_take r6] at this
     rw [this] at r7
     simp at r7
   · omega
   · rcases (mem_take_succ s).1 hx with e|e
     · exact ha x e hne
     · subst e
       refine ⟨hxi,r5,?_⟩
       rw [nth_take r6]
       simpa using r7
 · have s:j=rs.length:=by simp at s;omega
   subst s
   rw [List.take_length] at ha
   refine ⟨?_,G2.trans G⟩
   rw [hdef,decide_eq_true r,decide_eq_true r3,brk_iff.2 fun x hx=>ha x (mem_wo.1 hx).1 (mem_wo.1 hx).2];rfl
theorem okT_eq (t:Nat):okT tr t=(isL (nth tr t).lit && decide (¬atN (tr.take t) (am (nth tr t).lit)<t) && decide (prev tr t≤(nth tr t).lev∧(nth tr t).lev≤prev tr t+1) &&
 (if (nth tr t).lev>prev tr t then (nth tr t).rs.isEmpty else reaB tr t)):=rfl
theorem sound_ok (h:TV w p tr) (hn:n=tr.length):Calls prog learn_sound.id #[.slice p n c] w fun e w'=>e= .returned (.bool (mayT tr))∧Grow w w':=by
 refine learn_sound.calls ?_
 refine cnd_i (fun q=> ?_) (fun q=> ?_)
 · simp at q
   refine ⟨?_,Mod.refl w⟩
   unfold mayT;rw [decide_eq_false (by omega)];rfl
 have hl:tr.length≤4096:=by simp at q;omega
 intro n1 w2 h2
 have e1:=h2.num
 have M2:MI prog ty_int ty_int w2 n1 0 (atM (tr.take 0)):=MI_cast (MI.new h2) fun u=> (atM_nil u).symm
 refine ⟨fun L I w' k=> ∃t:Nat,I=t∧t≤tr.length∧L=prev tr t∧(List.range t).all (okT tr)=true∧k=tr.length - t∧MI prog ty_int ty_int w' n1 t (atM (tr.take t))∧Grow w w',⟨_,0,rfl,Nat.zero_le _,prev_zero.symm,rfl,rfl,M2,h2.mod⟩,?_⟩
 rintro L I w8 k _ ⟨t,rfl,ht,rfl,ha,rfl,M,G⟩
 refine cnd_i (fun s=> ?_) (fun s=> ⟨?_,G⟩)
 · have s:t<tr.length:=by simp at s;omega
   have bad: ∀ {w':World},Grow w w'→okT tr t=false→(Ending.returned (.bool false)= .returned (.bool (mayT tr))∧Grow w w'):=fun g hf=>by
    rw [mayT_false s hf];exact ⟨rfl,g⟩
   have okp:=mayT_take ht (by omega) ha
   have hlp:(tr.take t).length=t:=len_take ht
   have hpv:0≤prev tr t∧prev tr t≤t:=by
    cases t with
    |zero=>rw [prev_zero];omega
    |succ t=>
     rw [prev_succ]
     have h1:=okp.nn (i:=t) (by omega)
     have h2:=okp.le (i:=t) (by omega)
     rw [nth_take (by omega)] at h1 h2
     omega
   refine (h.grow G).ix hn t rfl s fun a x C e1 e2 v=> ⟨_,_,_,_,_,C,fun n13 w14 h14=>asCopy h14 fun w15 H G15=> ⟨_,cell_add H rfl,fun n17 w18 h18=> ?_⟩⟩
   have vw:=one_vw h18.has
   refine (litCheck_ok vw rfl (by unfold maxLen;simp)).mono ?_
   rw [clB_one]
   rintro e w19 ⟨rfl,g19⟩
   have g:=(h18.mod.trans g19)
   have G19:=(G.trans G15).trans g
   have H19:=H.grow g
   have okx:=okT_eq (tr:=tr) t
   refine ⟨_,rfl,cnd_i (fun r=>bad G19 ?_) (fun r=> ?_)⟩
   · have:isL (nth tr t).lit=false:=by
      cases e:isL (nth tr t).lit with
      |false=>rfl
      |true=>rw [← isL_litB,e] at r;simp at r
     rw [okx,this];rfl
   have r:isL (nth tr t).lit=true:=by
    cases e:isL (nth tr t).lit with
    |true=>rfl
    |false=>rw [← isL_litB,e] at r;simp at r
   have hb:=litB_bd r
   refine ⟨_,cell_add H19 rfl,(amount12_ok (by omega) (by omega) w19).mono ?_⟩
   rintro e w22 ⟨rfl,g22⟩
   have G22:=G19.trans g22
   have H22:=H19.grow g22
   have M22:=M.grow ((G15.trans g).trans g22)
   refine ⟨_,rfl,w22,_,M22.look mapI_at (wf_am r),cnd_i (fun r2=>bad G22 ?_) (fun r2=> ?_)⟩
   · have r2:atN (tr.take t) (am (nth tr t).lit)<t:=Classical.byContradiction fun e=>by
      rw [atM_pos.2 (by rw [hlp];exact e)] at r2;simp at r2
     rw [okx,decide_eq_false (by simp [r2]),Bool.and_false];rfl
   have r2: ¬atN (tr.take t) (am (nth tr t).lit)<t:=fun e=>by
    unfold atM at r2
    rw [hlp,if_pos e] at r2
    simp at r2
   rw [wrap64_of (by omega) (by omega)]
   refine ⟨_,cell_add H22 rfl,cnd_i (fun r3=>bad G22 ?_) (fun r3=> ⟨_,cell_add H22 rfl,cnd_i (fun r4=>bad G22 ?_) (fun r4=> ⟨_,cell_add H22 rfl,_,_,_,cell_add H22 rfl,?_⟩)⟩)⟩
   · simp at r3
     rw [okx,decide_eq_false (p:=_≤_∧_) (by omega),Bool.and_false];rfl
   · simp at r4
     rw [okx,decide_eq_false (p:=_≤_∧_) (by omega),Bool.and_false];rfl
   have r3:prev tr t≤(nth tr t).lev:=by simpa using r3
   have r4:(nth tr t).lev≤prev tr t+1:=by simpa using r4
   rw [r,decide_eq_true (p:= ¬_) r2,decide_eq_true (p:=_≤_∧_) ⟨r3,r4⟩,Bool.and_true,Bool.and_true,Bool.true_and] at okx
   refine cnd_i (fun r5=>bad G22 ?_) (fun r5=>cnd_i (fun r6=> ?_) (fun r6=> ?_))
   · rw [okx]
     split
     · rename_i e
       rw [decide_eq_true e] at r5
       simp [e1] at r5
       simp [r5]
     · rename_i e
       rw [decide_eq_false e] at r5
       simp [e1] at r5
       unfold reaB
       rw [r5];simp
   · have r6: ¬(nth tr t).lev>prev tr t:=by simpa using r6
     rw [if_neg r6] at okx
     refine ⟨_,_,_,_,_,cells3 H22,(reasoned_ok (h.grow G22) hn hl s r M22 (v.grow ((G15.trans g).trans g22)) e1 e2).mono ?_⟩
     rintro e w33 ⟨rfl,g33⟩
     have H33:=H22.grow g33
     refine ⟨_,rfl,cnd_i (fun r7=>bad (G22.trans g33) (by rw [okx];simpa using r7)) (fun r7=> ⟨_,cell_add H33 rfl,(amount12_ok (by omega) (by omega) w33).mono ?_⟩)⟩
     rintro e w36 ⟨rfl,g36⟩
     obtain ⟨w38,hr,M38,m38⟩:=(M22.grow (g33.trans g36)).put mapI_at (by unfold maxLen;omega) (wf_am r) (v:=(t:Int)+1) (wf64 (by omega) (by omega))
     refine ⟨_,rfl,w38,by rw [wrap64_of (by omega) (by omega)];exact hr,_,cell_add ((H33.grow g36).put m38 (fun e=> ?_)) rfl,_,?_,t+1,wN (by omega) (by omega),by omega,prev_succ.symm,range_succ_all ha (by rw [okx];simpa using r7),rfl,MI_cast M38 fun u=> (atM_succ s r2 u).symm,Mod.fresh ((G22.trans g33).trans g36) m38 (by omega)⟩
     · have:=h14.num
       have:=M.lt
       omega
     · omega
   · have r6:(nth tr t).lev>prev tr t:=by simpa using r6
     rw [if_pos r6] at okx
     have r7:(nth tr t).rs.isEmpty=true:=by
      rw [decide_eq_true r6] at r5
      simp [e1] at r5
      simp [r5]
     refine ⟨_,cell_add H22 rfl,(amount12_ok (by omega) (by omega) w22).mono ?_⟩
     rintro e w36 ⟨rfl,g36⟩
     obtain ⟨w38,hr,M38,m38⟩:=(M22.grow g36).put mapI_at (by unfold maxLen;omega) (wf_am r) (v:=(t:Int)+1) (wf64 (by omega) (by omega))
     refine ⟨_,rfl,w38,by rw [wrap64_of (by omega) (by omega)];exact hr,_,cell_add ((H22.grow g36).put m38 (fun e=> ?_)) rfl,_,?_,t+1,wN (by omega) (by omega),by omega,prev_succ.symm,range_succ_all ha (by rw [okx];exact r7),rfl,MI_cast M38 fun u=> (atM_succ s r2 u).symm,Mod.fresh (G22.trans g36) m38 (by omega)⟩
     · have:=h14.num
       have:=M.lt
       omega
     · omega
 · have s:t=tr.length:=by simp at s;omega
   subst s
   rw [mayT_true hl ha]
theorem breaks_ok (h:TV w p tr) (hn:n=tr.length) (ok:TrOk tr) (hl:tr.length≤4096) (hc:Vw (Value.int .i64) w q l) (hk:m=l.length) (hx:m≤maxLen) (hi: ∀x∈l,isL x=true):
 Calls prog learn_breaks.id #[.slice p n c,.slice q m d] w fun e w'=>e= .returned (.bool (brk tr l))∧Grow w w':=by
 refine learn_breaks.calls ?_
 have hx':=hx
 unfold maxLen at hx'
 refine (places_ok h hn ok hl).mono ?_
 rintro e w1 ⟨b,rfl,M1,g1,_⟩
 refine ⟨_,rfl,fun I w' k=> ∃t:Nat,I=t∧t≤l.length∧k=l.length - t∧(∀x∈l.take t,Br1 tr x)∧Grow w1 w',⟨_,0,rfl,Nat.zero_le _,rfl,by simp,Mod.refl w1⟩,?_⟩
 rintro I w7 k _ ⟨t,rfl,ht,rfl,ha,G⟩
 have badx: ∀ {w':World} {x:Int},Grow w w'→x∈l→¬Br1 tr x→(Ending.returned (.bool false)= .returned (.bool (brk tr l))∧Grow w w'):=by
  intro w' x g hx hb
  have:brk tr l=false:=by
   cases e:brk tr l with
   |false=>rfl
   |true=>exact absurd (brk_iff.1 e x hx) hb
  rw [this];exact ⟨rfl,g⟩
 refine cnd_i (fun s=> ?_) (fun s=> ?_)
 · have s:t<l.length:=by simp at s;omega
   refine (hc.grow (g1.trans G)).ix 0 (by omega) hk (by omega) fun a e=> ⟨_,e,?_⟩
   rw [Int.toNat_natCast]
   have hxi:=hi _ (mem_getD s)
   have hb:=litB_bd hxi
   refine (amount12_ok (by omega) (by omega) w7).mono ?_
   rintro e w10 ⟨rfl,g10⟩
   have G10:=(g1.trans G).trans g10
   refine ⟨_,rfl,w10,_,(M1.grow (G.trans g10)).look mapI_at (wf_am hxi),cnd_i (fun r5=> ?_) (fun r5=> ?_)⟩
   · refine badx G10 (mem_getD s) fun hB=> ?_
     have r5:atM tr (am (l.getD t 0))=0:=by simpa using r5
     exact atM_pos.1 r5 hB.lt
   have r5:atN tr (am (l.getD t 0))<tr.length:=Classical.byContradiction fun e=>by
    rw [atM_pos.2 e] at r5;simp at r5
   rw [atM_wrap hl r5]
   refine (h.grow G10).ix hn _ rfl r5 fun a2 x C e1 e2 v=> ⟨_,C.1,?_⟩
   rw [wrap64_of (by omega) (by omega),Int.zero_sub]
   refine cnd_i (fun r7=>badx G10 (mem_getD s) fun hB=> ?_) (fun r7=> ⟨_,?_,t+1,wN (by omega) (by omega),by omega,rfl,fun x hx=> ?_,G.trans g10⟩)
   · rw [hB.eq] at r7
     simp at r7
   · omega
   · rcases (mem_take_succ s).1 hx with e|e
     · exact ha x e
     · subst e
       exact ⟨hxi,r5,by simpa using r7⟩
 · have s:t=l.length:=by simp at s;omega
   subst s
   rw [List.take_length] at ha
   rw [brk_iff.2 ha]
   exact ⟨rfl,g1.trans G⟩
def mayL (tr:List As) (l:List Int):Bool:=mayT tr && clB l && brk tr l
theorem learnCheck_ok (h:TV w p tr) (hn:n=tr.length) (hc:Vw (Value.int .i64) w q l) (hk:m=l.length) (hx:m≤maxLen):
 Calls prog learn_Check.id #[.slice p n c,.slice q m d] w fun e w'=>e= .returned (.int .i64 (if mayL tr l then 0 else 1))∧Grow w w':=by
 refine learn_Check.calls ?_
 refine (sound_ok h hn).mono ?_
 rintro e w1 ⟨rfl,g1⟩
 refine ⟨_,rfl,cnd_i (fun r=> ⟨?_,g1⟩) (fun r=> (litCheck_ok (hc.grow g1) hk hx).mono ?_)⟩
 · have r:mayT tr=false:=by simpa using r
   unfold mayL;rw [r];rfl
 have r:mayT tr=true:=by simpa using r
 rintro e w3 ⟨rfl,g3⟩
 refine ⟨_,rfl,cnd_i (fun r2=> ⟨?_,g1.trans g3⟩) (fun r2=> ?_)⟩
 · have:clB l=false:=by
    cases e:clB l with
    |false=>rfl
    |true=>rw [e] at r2;simp at r2
   unfold mayL;rw [this,Bool.and_false];rfl
 have r2:clB l=true:=by
  cases e:clB l with
  |true=>rfl
  |false=>rw [e] at r2;simp at r2
 obtain ⟨ok,hl⟩:=mayT_ok r
 refine (breaks_ok (h.grow (g1.trans g3)) hn ok hl (hc.grow (g1.trans g3)) hk hx (clB_all r2).1).mono ?_
 rintro e w5 ⟨rfl,g5⟩
 refine ⟨_,rfl,cnd_i (fun r3=> ⟨?_,(g1.trans g3).trans g5⟩) (fun r3=> ⟨?_,(g1.trans g3).trans g5⟩)⟩
 · have r3:brk tr l=false:=by simpa using r3
   unfold mayL;rw [r3,Bool.and_false];rfl
 · have r3:brk tr l=true:=by simpa using r3
   unfold mayL;rw [r,r2,r3];rfl
end
section
variable {W0 w w':World} {p q:Option Addr} {n c m d ns b1 b2 nb:Nat} {tr:List As} {l:List Int} {s:Int→Bool}
structure Stu (W0 w:World) (ns:Nat) (p:Option Addr) (n c:Nat) (tr:List As) (b1 b2:Nat):Prop where
 tv:TV W0 p tr
 hn:n=tr.length
 ok:TrOk tr
 hl:tr.length≤4096
 G:Grow W0 w
 h:Has w ns #[.slice p n c,.map (some b1),.map (some b2)]
 M:MI prog ty_int ty_int w b1 tr.length (atM tr)
 f2:W0.heap.size≤b2
 d1:b1≠b2
 d2:ns≠b2
theorem Stu.keep {S:Nat→Prop} (h:Stu W0 w ns p n c tr b1 b2) (m:Mod S w w') (h0: ∀b,S b→W0.heap.size≤b) (h1: ¬S ns) (h2: ¬S b1):Stu W0 w' ns p n c tr b1 b2:=
 ⟨h.tv,h.hn,h.ok,h.hl,h.G.then m fun x hx e=>by have:=h0 x e;omega,h.h.keep m h1,h.M.keep m h2,h.f2,h.d1,h.d2⟩
theorem Stu.grow (h:Stu W0 w ns p n c tr b1 b2) (m:Grow w w'):Stu W0 w' ns p n c tr b1 b2:=h.keep m (fun _ e=>e.elim) id id
theorem Stu.put (h:Stu W0 w ns p n c tr b1 b2) (m:Mod (·=b2) w w'):Stu W0 w' ns p n c tr b1 b2:=h.keep m (fun _ (e:_=b2)=>by subst e;exact h.f2) h.d2 h.d1
theorem amount12_eq {l:Int} (h: -9223372036854775808<l) (h2:l<9223372036854775808) (w:World):Calls prog learn_amount.id #[.int .i64 l] w fun e w'=>e= .returned (.int .i64 (am l))∧w'=w:=by
 refine learn_amount.calls ?_
 unfold learn_amount.w
 rw [wrap64_of (x:=0 - l) (by omega) (by omega)]
 refine ⟨?_,rfl⟩
 unfold imax am
 congr 2
 split<;>split<;>omega
theorem level_eq (h:Stu W0 w ns p n c tr b1 b2) {x:Int} (hx:Br1 tr x):Calls prog learn_study_level.id #[.pointer (some ⟨ns,0,none⟩),.int .i64 x] w fun e w'=>e= .returned (.int .i64 (lv tr x))∧w'=w.drew:=by
 refine learn_study_level.calls ?_
 have hb:=litB_bd hx.isl
 have H:Has w.drew ns _:=h.h.drew
 have sl:w.drew.cell? ((Addr.mk ns 0 none).add 0)=some (.slice p n c):=cell_add H rfl
 have mp:w.drew.cell? ((Addr.mk ns 0 none).add 1)=some (.map (some b1)):=cell_add H rfl
 have gd:Grow w w.drew:=(Mod.refl w).drew
 have am1: ∀ {Q:Ending→World→Prop},Q (.returned (.int .i64 (am x))) w.drew→Calls prog learn_amount.id #[.int .i64 x] w.drew Q:=fun hQ=>by
  refine (amount12_eq (by omega) (by omega) w.drew).mono ?_
  rintro e u ⟨rfl,rfl⟩
  exact hQ
 have look:(Instr.lookup ty_map_int_int (.map (some b1)) (.int .i64 (am x)) false).run prog w.drew= .ok (.int .i64 (atM tr (am x))) w.drew:=(h.M.grow gd).look mapI_at (wf_am hx.isl)
 have fin:ixK p n (IntKind.i64.wrap (atM tr (am x) - 1)) 3 fun a=> ∃y:Int,w.drew.cell? (a.add 1)=some (.int .i64 y)∧(Ending.returned (.int .i64 y)= .returned (.int .i64 (lv tr x))∧w.drew=w.drew):=by
  rw [atM_wrap h.hl hx.lt]
  exact (h.tv.grow (h.G.trans gd)).ix h.hn _ rfl hx.lt fun a s C e1 e2 v=> ⟨_,C.2.1,rfl,rfl⟩
 refine ⟨_,rfl,_,rfl,⟨_,_,_,sl,⟨_,mp,am1 ⟨_,rfl,_,_,look,fin⟩⟩,am1 ⟨_,rfl,_,mp,_,_,look,fin⟩⟩,
  ⟨_,mp,⟨_,_,_,sl,am1 ⟨_,rfl,_,_,look,fin⟩⟩,am1 ⟨_,rfl,⟨_,_,_,sl,_,_,look,fin⟩,⟨_,_,look,_,_,_,sl,fin⟩⟩⟩,
  am1 ⟨_,rfl,_,mp,⟨_,_,_,sl,_,_,look,fin⟩,⟨_,_,look,_,_,_,sl,fin⟩⟩⟩
theorem level_ok (h:Stu W0 w ns p n c tr b1 b2) {x:Int} (hx:Br1 tr x):Calls prog learn_study_level.id #[.pointer (some ⟨ns,0,none⟩),.int .i64 x] w fun e w'=>e= .returned (.int .i64 (lv tr x))∧Grow w w':=
 (level_eq h hx).mono fun _ _ ⟨h1,h2⟩=> ⟨h1,by rw [h2];exact (Mod.refl w).drew⟩
theorem add_ok (h:Stu W0 w ns p n c tr b1 b2) (M:MS prog ty_int ty_bool w b2 nb s) (hc:Vw (Value.int .i64) W0 q l) (hk:m=l.length) (hx:nb+l.length≤10000000) (hi: ∀x∈l,isL x=true) (but:Int):
 Calls prog learn_study_add.id #[.pointer (some ⟨ns,0,none⟩),.slice q m d,.int .i64 but] w fun e w'=>e= .returned (.tuple #[])∧Stu W0 w' ns p n c tr b1 b2∧∃nb' s',nb'≤nb+l.length∧MS prog ty_int ty_bool w' b2 nb' s'∧∀u,s' u=(s u||decide (u∈l∧u≠but)):=by
 refine learn_study_add.calls ?_
 refine ⟨fun I w' k=> ∃ (t nb':Nat) (s':Int→Bool),I=t∧t≤l.length∧k=l.length - t∧nb'≤nb+t∧Stu W0 w' ns p n c tr b1 b2∧MS prog ty_int ty_bool w' b2 nb' s'∧∀u,s' u=(s u||decide (u∈l.take t∧u≠but)),⟨_,0,nb,s,rfl,Nat.zero_le _,rfl,Nat.le_refl _,h,M,fun u=>by simp⟩,?_⟩
 rintro I w5 k _ ⟨t,nb',s',rfl,ht,rfl,hb,S,M',hs⟩
 refine cnd_i (fun r=> ?_) (fun r=> ?_)
 · have r:t<l.length:=by simp at r;omega
   refine (hc.grow S.G).ix 0 (by omega) hk (by omega) fun a e=> ⟨_,e,?_⟩
   rw [Int.toNat_natCast]
   refine cnd_i (fun r2=> ⟨_,rfl,_,cell_add S.h rfl,?_⟩) (fun r2=> ⟨_,?_,t+1,nb',s',wN (by omega) (by omega),by omega,rfl,by omega,S,M',fun u=> ?_⟩)
   · have r2:l.getD t 0≠but:=by simpa using r2
     obtain ⟨w10,hr,M10,m10⟩:=M'.put mapB_in (by unfold maxLen;omega) (wf_lit (hi _ (mem_getD r)))
     refine ⟨w10,hr,_,?_,t+1,nb'+1,_,wN (by omega) (by omega),by omega,rfl,by omega,S.put m10,M10,fun u=> ?_⟩
     · omega
     · simp only [mem_take_succ r,hs u]
       by_cases e:u=l.getD t 0
       · rw [if_pos e]
         have:decide ((u∈l.take t∨u=l.getD t 0)∧u≠but)=true:=decide_eq_true ⟨.inr e,e▸r2⟩
         rw [this,Bool.or_true]
       · rw [if_neg e]
         exact congrArg (s u|| ·) (decide_eq_decide.2 ⟨fun h=> ⟨.inl h.1,h.2⟩,fun h=> ⟨h.1.resolve_right e,h.2⟩⟩)
   · omega
   · have r2:l.getD t 0=but:=by simpa using r2
     rw [hs u]
     refine congrArg (s u|| ·) (decide_eq_decide.2 ?_)
     rw [mem_take_succ r]
     constructor
     · rintro ⟨a,b⟩;exact ⟨.inl a,b⟩
     · rintro ⟨a|a,b⟩
       · exact ⟨a,b⟩
       · exact absurd (a.trans r2) b
 · have r:t=l.length:=by simp at r;omega
   subst r
   rw [List.take_length] at hs
   exact ⟨rfl,S,nb',s',by omega,M',hs⟩
def TopR (tr:List As) (c:List Int) (L N P:Int):Prop:=
 (c= []∧L=0∧N=0∧P= -1)∨((∀x∈c,lv tr x≤L)∧N=cntL tr c L∧0<N∧(∃x∈c,lv tr x=L∧(atN tr (am x):Int)=P)∧∀x∈c,lv tr x=L→(atN tr (am x):Int)≤P)
theorem TopR.perm {c k:List Int} {L N P:Int} (h:TopR tr c L N P) (e:c.Perm k):TopR tr k L N P:=by
 rcases h with ⟨rfl,h⟩| ⟨h1,h2,h3,⟨x,hx,h4⟩,h5⟩
 · exact .inl ⟨e.nil_eq.symm,h⟩
 · exact .inr ⟨fun x hx=>h1 x (e.mem_iff.2 hx),by rw [h2];unfold cntL;rw [e.countP_eq],h3,⟨x,e.mem_iff.1 hx,h4⟩,fun x hx=>h5 x (e.mem_iff.2 hx)⟩
theorem TopR.step {c:List Int} {L N P a:Int} (h:TopR tr c L N P):
 (N=0∨L<lv tr a→TopR tr (a::c) (lv tr a) 1 (atN tr (am a)))∧(N≠0→lv tr a=L→TopR tr (a::c) L (N+1) (imax P (atN tr (am a))))∧(N≠0→lv tr a<L→TopR tr (a::c) L N P):=by
 refine ⟨fun e=> ?_,fun hN e=> ?_,fun hN e=> ?_⟩
 · have all: ∀x∈c,lv tr x<lv tr a:=by
    rcases h with ⟨rfl,h⟩| ⟨h1,h2,h3,_⟩
    · simp
    · intro x hx
      have:=h1 x hx
      omega
   refine .inr ⟨fun x hx=> ?_,?_,by omega,⟨a,by simp,rfl,rfl⟩,fun x hx hl=> ?_⟩
   · rcases List.mem_cons.1 hx with e|e
     · rw [e];exact Int.le_refl _
     · have:=all x e;omega
   · have:c.countP (fun x=>lv tr x==lv tr a)=0:=List.countP_eq_zero.2 fun x hx=>by
      have:=all x hx
      simp;omega
     unfold cntL
     rw [List.countP_cons,this];simp
   · rcases List.mem_cons.1 hx with e|e
     · rw [e];exact Int.le_refl _
     · have:=all x e;omega
 · rcases h with ⟨rfl,h⟩| ⟨h1,h2,h3,⟨y,hy,h4,h6⟩,h5⟩
   · exact absurd h.2.1 hN
   · refine .inr ⟨fun x hx=> ?_,?_,by omega,?_,fun x hx hl=> ?_⟩
     · rcases List.mem_cons.1 hx with e2|e2
       · rw [e2,e];exact Int.le_refl _
       · exact h1 x e2
     · rw [h2];unfold cntL
       rw [List.countP_cons,if_pos (by simpa using e)];simp
     · unfold imax
       split
       · exact ⟨a,by simp,e,rfl⟩
       · exact ⟨y,List.mem_cons_of_mem _ hy,h4,h6⟩
     · unfold imax
       rcases List.mem_cons.1 hx with e2|e2
       · subst e2;split<;>omega
       · have:=h5 x e2 hl
         split<;>omega
 · rcases h with ⟨rfl,h⟩| ⟨h1,h2,h3,⟨y,hy,h4⟩,h5⟩
   · exact absurd h.2.1 hN
   · refine .inr ⟨fun x hx=> ?_,?_,h3,⟨y,List.mem_cons_of_mem _ hy,h4⟩,fun x hx hl=> ?_⟩
     · rcases List.mem_cons.1 hx with e2|e2
       · rw [e2];omega
       · exact h1 x e2
     · rw [h2];unfold cntL
       rw [List.countP_cons,if_neg (by simp;omega)];simp
     · rcases List.mem_cons.1 hx with e2|e2
       · subst e2;omega
       · exact h5 x e2 hl
def Vis (s lf:Int→Bool) (V:List Int):Prop:=V.Nodup∧∀x,x∈V↔s x=true∧lf x=false
theorem Vis.nil:Vis s s []:=⟨List.nodup_nil,fun x=>by
 constructor
 · intro h;simp at h
 · rintro ⟨a,b⟩;rw [a] at b;simp at b⟩
theorem Vis.step {lf:Int→Bool} {V:List Int} {a:Int} (h:Vis s lf V) (ha:lf a=true) (hs:s a=true):Vis s (fun x=>lf x && x !=a) (a::V):=by
 refine ⟨List.nodup_cons.2 ⟨fun e=> ?_,h.1⟩,fun x=> ?_⟩
 · have:=((h.2 a).1 e).2
   rw [ha] at this;simp at this
 · rw [List.mem_cons,h.2 x]
   constructor
   · rintro (rfl| ⟨h1,h2⟩)
     · exact ⟨hs,by simp⟩
     · exact ⟨h1,by show (lf x && x !=a)=false;rw [h2];rfl⟩
   · rintro ⟨h1,h2⟩
     by_cases e:x=a
     · exact .inl e
     · refine .inr ⟨h1,?_⟩
       simpa [e] using h2
theorem Vis.snoc {lf:Int→Bool} {V:List Int} {a:Int} (h:Vis s lf V) (ha:lf a=true) (hs:s a=true):Vis s (fun x=>lf x && x !=a) (V++ [a]):=by
 have h2:=h.step ha hs
 have e:(V++ [a]).Perm (a::V):=List.perm_append_comm (l₁:=V) (l₂:= [a])
 exact ⟨e.nodup_iff.2 h2.1,fun x=>e.mem_iff.trans (h2.2 x)⟩
theorem Vis.done {lf:Int→Bool} {V c:List Int} (h:Vis s lf V) (hl: ∀a,lf a=false) (hc: ∀x,s x=true↔x∈c) (hd:c.Nodup):V.Perm c:=
 (List.perm_ext_iff_of_nodup h.1 hd).2 fun x=>by rw [h.2 x,hl x,← hc x];simp
theorem top_ok (h:Stu W0 w ns p n c tr b1 b2) (M:MS prog ty_int ty_bool w b2 nb s) {k:List Int} (hs: ∀x,s x=true↔x∈k) (hd:k.Nodup) (hb: ∀x∈k,Br1 tr x):
 Calls prog learn_study_top.id #[.pointer (some ⟨ns,0,none⟩)] w fun e w'=> ∃L N P:Int,e= .returned (.tuple #[.int .i64 L,.int .i64 N,.int .i64 P])∧TopR tr k L N P∧Grow w w':=by
 refine learn_study_top.calls ?_
 obtain ⟨w3,cnt,hr,R,g3⟩:=M.range mapB_in
 have hr0:=R.lt
 refine ⟨_,rfl,_,cell_add h.h rfl,w3,_,hr,?_⟩
 refine ⟨fun L N P u z=> ∃ (V:List Int) (lf:Int→Bool),Vis s lf V∧TopR tr V L N P∧(∀x,lf x=true→s x=true)∧MR prog ty_int ty_bool u b2 w.heap.size nb s lf z∧Grow w u,⟨_,[],s,Vis.nil,.inl ⟨rfl,rfl,rfl,rfl⟩,fun x=>id,R,g3⟩,?_⟩
 rintro L N P w11 z _ ⟨V,lf,v,T,hlf,R11,G⟩
 rcases R11.next mapB_in 0 with ⟨h0,hl,hrun⟩| ⟨a,va,w13,z',ha,haw,hrun,hent,R13,hz,m13⟩
 · exact .inl ⟨w11,hrun,_,_,_,rfl,T.perm (v.done hl hs hd),G⟩
 refine .inr ⟨w13,_,_,hrun,w13,_,_,hent,?_⟩
 have G13:Grow w w13:=Mod.fresh G m13 (Nat.le_refl _)
 have hsa:=hlf a ha
 have hB:=hb a ((hs a).1 hsa)
 have hbd:=litB_bd hB.isl
 have v':=v.step ha hsa
 have hlf': ∀x,(lf x && x !=a)=true→s x=true:=fun x e=>hlf x (by simp at e;exact e.1)
 have T':=T.step (a:=a)
 refine (level_ok (h.grow G13) hB).mono ?_
 rintro e w19 ⟨rfl,g19⟩
 have R19:=R13.grow g19
 have S19:=(h.grow (G13.trans g19)).grow (Mod.refl w19).drew
 have g0:Grow w19.drew w19.drew:=Mod.refl _
 have G19:Grow w w19.drew:=(G13.trans g19).trans (Mod.refl w19).drew
 have mp: ∀ {u:World},Grow w19.drew u→u.cell? ((Addr.mk ns 0 none).add 1)=some (.map (some b1)):=fun g=>cell_add (S19.h.grow g) rfl
 have am1: ∀ {Q:Ending→World→Prop},(∀u,Grow w19.drew u→Q (.returned (.int .i64 (am a))) u)→Calls prog learn_amount.id #[.int .i64 a] w19.drew Q:=fun hQ=>by
  refine (amount12_ok (by omega) (by omega) w19.drew).mono ?_
  rintro e u ⟨rfl,g⟩
  exact hQ u g
 have look: ∀ {u:World},Grow w19.drew u→(Instr.lookup ty_map_int_int (.map (some b1)) (.int .i64 (am a)) false).run prog u= .ok (.int .i64 (atM tr (am a))) u:=fun g=> (S19.M.grow g).look mapI_at (wf_am hB.isl)
 have R20: ∀ {u:World},Grow w19.drew u→MR prog ty_int ty_bool u b2 w.heap.size nb s (fun x=>lf x && x !=a) z':=fun g=>R19.drew.grow g
 have hw:=atM_wrap h.hl hB.lt
 have N0:0≤N∧N≤1000000:=by
  have hNl:N≤V.length:=by
   rcases T with ⟨rfl,_,e,_⟩| ⟨_,e,_⟩
   · rw [e];simp
   · rw [e]
     have:cntL tr V L≤V.length:=List.countP_le_length
     omega
  have hVl:V.length≤tr.length:=by
   have inj:(V.map fun x=>atN tr (am x)).Nodup:=by
    refine List.pairwise_map.2 (List.Pairwise.imp_of_mem (fun {x y} hx hy hne e=> ?_) v.1)
    exact hne ((hb x ((hs x).1 ((v.2 x).1 hx).1)).same (hb y ((hs y).1 ((v.2 y).1 hy).1)) e)
   have:=List.Nodup.length_le_of_subset inj (l₂:=List.range tr.length) fun y hy=>by
    obtain ⟨x,hx,rfl⟩:=List.mem_map.1 hy
    exact List.mem_range.2 (hb x ((hs x).1 ((v.2 x).1 hx).1)).lt
   simpa using this
  have:=h.hl
  refine ⟨?_,by omega⟩
  rcases T with ⟨_,_,e,_⟩| ⟨_,_,e,_⟩<;>omega
 refine ⟨_,rfl,cnd_i (fun r=> ?_) (fun r=>cnd_i (fun r2=> ?_) (fun r2=>cnd_i (fun r3=> ?_) (fun r3=> ?_)))⟩
 · have r:N=0:=by simpa using r
   have T1:=T'.1 (.inl r)
   rw [← hw] at T1
   exact ⟨_,rfl,⟨_,mp g0,am1 fun u g=> ⟨_,rfl,u,_,look g,z',hz,_,_,v',T1,hlf',R20 g,G19.trans g⟩⟩,am1 fun u g=> ⟨_,rfl,_,mp g,u,_,look g,z',hz,_,_,v',T1,hlf',R20 g,G19.trans g⟩⟩
 · have r2:L<lv tr a:=by simpa using r2
   have T1:=T'.1 (.inr r2)
   rw [← hw] at T1
   exact ⟨_,rfl,⟨_,mp g0,am1 fun u g=> ⟨_,rfl,u,_,look g,z',hz,_,_,v',T1,hlf',R20 g,G19.trans g⟩⟩,am1 fun u g=> ⟨_,rfl,_,mp g,u,_,look g,z',hz,_,_,v',T1,hlf',R20 g,G19.trans g⟩⟩
 · have r:N≠0:=by simpa using r
   have r3:lv tr a=L:=by simpa using r3
   have T1:=T'.2.1 r r3
   rw [← hw,← wrap64_of (x:=N+1) (by omega) (by omega)] at T1
   exact ⟨_,rfl,⟨_,mp g0,am1 fun u g=> ⟨_,rfl,u,_,look g,z',hz,_,_,v',T1,hlf',R20 g,G19.trans g⟩⟩,am1 fun u g=> ⟨_,rfl,_,mp g,u,_,look g,z',hz,_,_,v',T1,hlf',R20 g,G19.trans g⟩⟩
 · have r:N≠0:=by simpa using r
   have r2: ¬L<lv tr a:=by simpa using r2
   have r3:lv tr a≠L:=by simpa using r3
   exact ⟨z',hz,_,_,v',T'.2.2 r (by omega),hlf',R19,G13.trans g19⟩
end
section
variable {W0 w w':World} {p q:Option Addr} {n c m d ns b1 b2 nb:Nat} {tr:List As} {l:List Int} {s:Int→Bool}
theorem br_len {V:List Int} (hd:V.Nodup) (hb: ∀x∈V,Br1 tr x):V.length≤tr.length:=by
 have inj:(V.map fun x=>atN tr (am x)).Nodup:=by
  refine List.pairwise_map.2 (List.Pairwise.imp_of_mem (fun {x y} hx hy hne e=> ?_) hd)
  exact hne ((hb x hx).same (hb y hy) e)
 have:=List.Nodup.length_le_of_subset inj (l₂:=List.range tr.length) fun y hy=>by
  obtain ⟨x,hx,rfl⟩:=List.mem_map.1 hy
  exact List.mem_range.2 (hb x hx).lt
 simpa using this
theorem lv_bd (ok:TrOk tr) (hl:tr.length≤4096) {x:Int} (hx:Br1 tr x):0≤lv tr x∧lv tr x≤4096:=by
 have h1:=ok.nn hx.lt
 have h2:=ok.le hx.lt
 have h3:=hx.lt
 unfold lv
 omega
theorem cmp_ok (h:Stu W0 w ns p n c tr b1 b2) {n1:Nat} (hc:Has w n1 #[.pointer (some ⟨ns,0,none⟩)]) {x y:Int} (hx:Br1 tr x) (hy:Br1 tr y):
 Calls prog learn_study_ordered_1.id #[.int .i64 x,.int .i64 y,.pointer (some ⟨n1,0,none⟩)] w fun e w'=>e= .returned (.int .i64 (cmpO tr x y))∧Gdr w w':=by
 refine learn_study_ordered_1.calls ?_
 have GD:Gdr w w.drew:=(Gdr.refl w).drew
 have cl: ∀ {u:World},Gdr w u→u.cell? (Addr.mk n1 0 none)=some (.pointer (some ⟨ns,0,none⟩)):=fun g=>cell_of (hc.grow g.grow) rfl
 have LV: ∀ {u:World} {z:Int} {Q:Ending→World→Prop},Br1 tr z→Gdr w u→(∀v,Gdr w v→Q (.returned (.int .i64 (lv tr z))) v)→Calls prog learn_study_level.id #[.pointer (some ⟨ns,0,none⟩),.int .i64 z] u Q:=by
  intro u z Q hz g hQ
  refine (level_eq (h.grow g.grow) hz).mono ?_
  rintro e v ⟨rfl,rfl⟩
  exact hQ _ g.drew
 have AM: ∀ {u:World} {z:Int} {Q:Ending→World→Prop},Br1 tr z→Gdr w u→(∀v,Gdr w v→Q (.returned (.int .i64 (am z))) v)→Calls prog learn_amount.id #[.int .i64 z] u Q:=by
  intro u z Q hz g hQ
  have hb:=litB_bd hz.isl
  refine (amount12_eq (by omega) (by omega) u).mono ?_
  rintro e v ⟨rfl,rfl⟩
  exact hQ _ g
 have bx:=lv_bd h.ok h.hl hx
 have bY:=lv_bd h.ok h.hl hy
 have ax:=am_bd (x:=x) hx.isl
 have ay:=am_bd (x:=y) hy.isl
 have F1:(lv tr x !=lv tr y)=true→IntKind.i64.wrap (lv tr y - lv tr x)=cmpO tr x y:=fun r=>by
  have r:lv tr x≠lv tr y:=by simpa using r
  rw [wrap64_of (by omega) (by omega)];unfold cmpO;rw [if_pos r]
 have F2:(lv tr x !=lv tr y)=false→IntKind.i64.wrap (am x - am y)=cmpO tr x y:=fun r=>by
  have r:lv tr x=lv tr y:=by simpa using r
  rw [wrap64_of (by omega) (by omega)];unfold cmpO;rw [if_neg (by omega)]
 refine ⟨_,cl GD,LV hx GD fun u1 g1=> ⟨_,rfl,_,cl g1,LV hy g1 fun u2 g2=> ⟨_,rfl,?_⟩⟩,_,cl GD,LV hx GD fun u1 g1=> ⟨_,rfl,LV hy g1 fun u2 g2=> ⟨_,rfl,?_⟩⟩⟩
 all_goals
  have g3:=g2.drew
  exact cnd_i (fun r=> ⟨_,cl g3,LV hy g3 fun u3 g4=> ⟨_,rfl,_,cl g4,LV hx g4 fun u4 g5=> ⟨_,rfl,by rw [F1 r],g5⟩⟩,_,cl g3,LV hy g3 fun u3 g4=> ⟨_,rfl,LV hx g4 fun u4 g5=> ⟨_,rfl,by rw [F1 r],g5⟩⟩⟩)
   (fun r=>AM hx g2 fun u3 g4=> ⟨_,rfl,AM hy g4 fun u4 g5=> ⟨_,rfl,by rw [F2 r],g5⟩⟩)
theorem cmp_ent:entB prog learn_study_ordered_1.id=true:=by kernel_rfl
theorem ordered_ok (h:Stu W0 w ns p n c tr b1 b2) (M:MS prog ty_int ty_bool w b2 nb s) {k:List Int} (hs: ∀x,s x=true↔x∈k) (hd:k.Nodup) (hb: ∀x∈k,Br1 tr x):
 Calls prog learn_study_ordered.id #[.pointer (some ⟨ns,0,none⟩)] w fun e w'=> ∃ (q:Option Addr) (d:Nat),e= .returned (.slice q (ordL tr k).length d)∧OwI ty_int w' q d (ordL tr k)∧Grow w w':=by
 refine learn_study_ordered.calls ?_
 intro n1 w2 h2
 have e1:=h2.num
 have G2:=h2.mod
 obtain ⟨w6,cnt,hr,R,g6⟩:=(M.grow G2).range mapB_in
 have H1:Has w6 n1 #[.pointer (some ⟨ns,0,none⟩)]:=h2.has.grow g6
 have hsz:=G2.size
 have hr0:=R.lt
 have S6:=h.grow (G2.trans g6)
 have lns:=h.h.lt
 have lb1:=h.M.lt
 have lW0:=h.G.size
 have ln1:=h2.has.lt
 refine ⟨_,cell_of h2.has rfl,_,rfl,_,cell_add (h.h.grow G2) rfl,w6,_,hr,?_⟩
 refine ⟨fun pm nm cm u z=> ∃ (V:List Int) (lf:Int→Bool),Vis s lf V∧nm=V.length∧(∀x,lf x=true→s x=true)∧MR prog ty_int ty_bool u b2 w2.heap.size nb s lf z∧OwI ty_int u pm cm V∧(∀b,blk pm=some b→w6.heap.size≤b)∧Mod (·=w2.heap.size) w6 u,
  ⟨_,[],s,Vis.nil,rfl,fun x=>id,R,Ow.nil _ _ _,fun b hb=>by simp [blk] at hb,Mod.refl w6⟩,?_⟩
 rintro pm nm cm w12 z _ ⟨V,lf,v,rfl,hlf,R12,O,fr,m12⟩
 have hV: ∀x∈V,Br1 tr x:=fun x hx=>hb x ((hs x).1 ((v.2 x).1 hx).1)
 have hVl:=br_len v.1 hV
 have hl:=h.hl
 rcases R12.next mapB_in 0 with ⟨h0,hl,hrun⟩| ⟨a,va,w14,z',ha,haw,hrun,hent,R14,hz,m14⟩
 · have S12:Stu W0 w12 ns p n c tr b1 b2:=S6.keep m12 (fun b (e:b=_)=>by omega) (fun (e:ns=_)=>by omega) (fun (e:b1=_)=>by omega)
   have H12:Has w12 n1 #[.pointer (some ⟨ns,0,none⟩)]:=H1.keep m12 fun (e:n1=_)=>by omega
   have X:Cx w12 pm V.length V learn_study_ordered_1.id #[.pointer (some ⟨n1,0,none⟩)] (cmpO tr):=by
    refine ⟨rfl,by omega,cmp_ent,fun x hx y hy w' m'=> ?_,cmpO_ord tr⟩
    have:(#[]++ #[Value.int .i64 x,.int .i64 y]++ #[.pointer (some ⟨n1,0,none⟩)]:Array Value)= #[.int .i64 x,.int .i64 y,.pointer (some ⟨n1,0,none⟩)]:=by simp
    rw [this]
    have s6:=g6.size
    refine cmp_ok (S12.keep m' (fun b e=> ?_) (fun e=> ?_) (fun e=> ?_)) (H12.keep m' fun e=> ?_) (hV x hx) (hV y hy)
    all_goals
     have:=fr _ e
     omega
   refine .inl ⟨w12,hrun,(sort_ok X O).mono ?_⟩
   rintro e w17 ⟨rfl,l1,o1,m1,p1,s1⟩
   have pk:=v.done hl hs hd
   have eq:l1=ordL tr k:=ordL_uniq h.ok hb (fun x=> (p1.mem_iff.trans pk.mem_iff)) (p1.nodup_iff.2 v.1) s1
   subst eq
   refine ⟨rfl,_,_,by rw [p1.length_eq],o1,?_⟩
   have s6:=g6.size
   refine (((G2.trans g6).then m12 fun x hx (e:x=_)=> ?_).then m1 fun x hx e=> ?_)
   · omega
   · have:=fr x e;omega
 refine .inr ⟨w14,_,_,hrun,w14,_,_,hent,fun n21 w22 h22=> ?_⟩
 have hsa:=hlf a ha
 have m22:=m14.grow h22.mod
 have O22:OwI ty_int w22 pm cm V:=O.keep m22 fun b e e2=>by
  have:=fr b e;omega
 have s6:=g6.size
 have s22:=(m12.trans m22).size
 refine O22.app1 sl_int a h22.has rfl rfl oneInt (by omega) fun w23 p' c' o' m' hp' hsz'=> ?_
 refine ⟨z',hz,V++ [a],_,v.snoc ha hsa,by simp,fun x e=>hlf x (by simp at e;exact e.1),(R14.grow h22.mod).keep m' (fun e=> ?_) (fun e=> ?_),o',fun b hb=> ?_,(m12.trans m22).then m' fun x hx e=> ?_⟩
 · have:=fr _ e
   have:=M.lt
   omega
 · have:=fr _ e;omega
 · rcases hp' with rfl|rfl
   · exact fr b hb
   · have:=blk_some hb
     have:=h22.num
     have:=h22.size
     omega
 · have:=fr x e;omega
def mxL (tr:List As) (k:List Int):Int:=k.foldl (fun m x=>if lv tr x>m then lv tr x else m) 0
theorem mxL_aux (tr:List As): ∀ (k:List Int) (m:Int),(m≤k.foldl (fun m x=>if lv tr x>m then lv tr x else m) m)∧(∀x∈k,lv tr x≤k.foldl (fun m x=>if lv tr x>m then lv tr x else m) m)∧(k.foldl (fun m x=>if lv tr x>m then lv tr x else m) m=m∨∃x∈k,lv tr x=k.foldl (fun m x=>if lv tr x>m then lv tr x else m) m)
 | [],m=> ⟨Int.le_refl _,by simp,.inl rfl⟩
 |y::t,m=>by
  rw [List.foldl_cons]
  generalize hX:(if lv tr y>m then lv tr y else m)=X
  have hm:m≤X∧lv tr y≤X∧(X=m∨X=lv tr y):=by
   rw [← hX]
   split<;>omega
  obtain ⟨h1,h2,h3⟩:=mxL_aux tr t X
  refine ⟨by omega,fun x hx=> ?_,?_⟩
  · rcases List.mem_cons.1 hx with e|e
    · subst e;omega
    · exact h2 x e
  · rcases h3 with e| ⟨x,hx,e⟩
    · rcases hm.2.2 with h|h
      · exact .inl (e.trans h)
      · exact .inr ⟨y,by simp,(e.trans h).symm⟩
    · exact .inr ⟨x,List.mem_cons_of_mem _ hx,e⟩
theorem mxL_nn (tr:List As) (k:List Int):0≤mxL tr k:=(mxL_aux tr k 0).1
theorem mxL_le {k:List Int} {x:Int} (h:x∈k):lv tr x≤mxL tr k:=(mxL_aux tr k 0).2.1 x h
theorem mxL_eq {k:List Int} {L:Int} (h0:0≤L) (h1: ∀x∈k,lv tr x≤L) (h2:L=0∨∃x∈k,lv tr x=L):mxL tr k=L:=by
 have a:=mxL_nn tr k
 have b:=(mxL_aux tr k 0).2.2
 rcases h2 with h2| ⟨x,hx,e⟩
 · rcases b with b| ⟨x,hx,e⟩
   · exact b.trans h2.symm
   · have:=h1 x hx
     unfold mxL at*
     omega
 · have:=mxL_le (tr:=tr) hx
   rcases b with b| ⟨y,hy,e2⟩
   · unfold mxL at*;omega
   · have:=h1 y hy
     unfold mxL at*
     omega
def lnd (tr:List As) (l:List Int):List Int:=ordL tr (lrn tr (mxL tr (norm l)) tr.length (norm l))
theorem in0 (ok:TrOk tr) (hb: ∀x∈l,Br1 tr x):In tr (mxL tr (norm l)) (norm l) tr.length:=by
 have hb': ∀x∈norm l,Br1 tr x:=fun x hx=>hb x (((norm_isN l).mem x).1 hx)
 refine ⟨hb',fun x hx=>mxL_le hx,fun x hx _=> (hb' x hx).lt,?_,mxL_nn _ _,(norm_isN l).st⟩
 cases hn:norm l with
 |nil=>exact .inl rfl
 |cons y t=>
  refine .inr (cnt_pos.2 ?_)
  rw [← hn]
  rcases (mxL_aux tr (norm l) 0).2.2 with e| ⟨x,hx,e⟩
  · have hy:y∈norm l:=by rw [hn];simp
    have h1:=mxL_le (tr:=tr) hy
    have h2:=ok.nn (hb' y hy).lt
    refine ⟨y,hy,?_⟩
    have:lv tr y=(nth tr (atN tr (am y))).lev:=rfl
    unfold mxL at*
    omega
  · exact ⟨x,hx,e⟩
end
end Go.Proofs.YtabengnadcleeaaGreat.W.Le
