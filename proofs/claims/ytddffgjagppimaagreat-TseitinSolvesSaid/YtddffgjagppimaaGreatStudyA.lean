/- Layer 14: what a broken clause teaches, plain. -/
import Derived.Test.YtddffgjagppimaaGreatBackA
namespace Go.Proofs.YtddffgjagppimaaGreat.W
open Go Go.Fw Go.RowKit Go.SoP Go.LiP Go.LeP
open Go.Proofs.Tryz (prog)
section
variable {s t s':PSt} {l c d bk:List Int} {x y:Int} {i j N:Nat} {cs:List (List Int)} {hv:List (Nat × List Int)} {un:List (List Int)} {tr:List As} {rl:List Int}
theorem mayL_okC (h:Le.mayL tr l=true):mayT tr=true∧TrOk tr∧tr.length≤4096∧∀x∈l,Br1 tr x:=by
 unfold Le.mayL at h
 simp only [Bool.and_eq_true] at h
 obtain ⟨ok,hl⟩:=mayT_ok h.1.1
 exact ⟨h.1.1,ok,hl,brk_iff.1 h.2⟩
theorem lnd_pointC (ok:TrOk tr) (hb: ∀x∈l,Br1 tr x):Point tr (Le.mxL tr (norm l)) (Le.lnd tr l):=by
 obtain ⟨d,k',e1,h,he⟩:=(Le.in0 ok hb).end ok (Nat.le_refl _)
 unfold Le.lnd
 rw [e1]
 refine point_of ok h ?_
 rcases he with ⟨a,_⟩|b
 · exact .inl ⟨a,.inr a⟩
 · exact .inr b
theorem lnd_lenC (ok:TrOk tr) (hb: ∀x∈l,Br1 tr x):(Le.lnd tr l).length≤tr.length:=by
 obtain ⟨d,k',e1,h,_⟩:=(Le.in0 ok hb).end ok (Nat.le_refl _)
 unfold Le.lnd
 rw [e1]
 exact Le.br_len (Le.strictO_nodup (ordL_strict h.br)) fun x hx=>h.br x ((ordL_mem ok h.br).1 hx)
theorem mxL_normC:Le.mxL tr l=Le.mxL tr (norm l):=by
 refine Le.mxL_eq (Le.mxL_nn _ _) (fun x hx=>Le.mxL_le (((norm_isN l).mem x).2 hx)) ?_
 rcases (Le.mxL_aux tr (norm l) 0).2.2 with e| ⟨x,hx,e⟩
 · exact .inl e
 · exact .inr ⟨x,((norm_isN l).mem x).1 hx,e⟩
theorem ConeS.at_ (h:ConeS s tr rl) (b:Br1 tr x): -x∈s.R .tr∧0≤lv tr x∧lv tr x<rl.length∧s.lev x=rl.getD (lv tr x).toNat 0:=by
 have h1:=h.mem _ b.lt
 have h2:=h.lev _ b.lt
 rw [b.eq] at h1 h2
 rw [lev_neg] at h2
 exact ⟨h1,h2.1,h2.2.1,h2.2.2.symm⟩
theorem ConeS.vals (h:ConeS s tr rl) (k:CSI N cs s hv un) {v:Int→Int} (m:Mdl N v) (hc: ∀d∈cs,Tr1 v d):Vals tr v:=by
 refine ⟨fun l _=>m.neg l,m.val,fun i hi=>m.set _ ?_,fun i hi hr=> ?_⟩
 · have:=k.g.tv _ (h.mem i hi)
   rwa [k.v] at this
 · rcases h.rs i hi with e| ⟨j,h1,h2⟩
   · exact absurd e hr
   · rw [h2];exact k.imp j h1 v m hc
theorem lnd_true {v:Int→Int} (ok:TrOk tr) (V:Vals tr v) (hb: ∀x∈bk,Br1 tr x) (h:Tr1 v bk):Tr1 v (Le.lnd tr bk):=by
 have I:=Le.in0 ok hb
 have h':Tr1 v (norm bk):=by
  obtain ⟨y,hy,e⟩:=h
  exact ⟨y,((norm_isN bk).mem y).2 hy,e⟩
 obtain ⟨y,hy,e⟩:=lrn_true ok V I (Nat.le_refl _) h'
 obtain ⟨d,k',e1,hd,_⟩:=I.end ok (Nat.le_refl _)
 unfold Le.lnd
 rw [e1] at hy ⊢
 exact ⟨y,(ordL_mem ok hd.br).2 hy,e⟩
theorem lnd_ne (ok:TrOk tr) (hb: ∀x∈bk,Br1 tr x) (hL:0<Le.mxL tr bk):Le.lnd tr bk≠[]:=by
 have I:=Le.in0 ok hb
 obtain ⟨d,k',e1,hd,he⟩:=I.end ok (Nat.le_refl _)
 unfold Le.lnd
 rw [e1]
 rw [mxL_normC] at hL
 intro e
 rcases he with ⟨a,b⟩| ⟨a,b⟩
 · rcases b with b|b
   · omega
   · rw [b] at hL;simp [Le.mxL] at hL
 · obtain ⟨y,hy,_⟩:=cnt_pos.1 (show 0<cntL tr d (Le.mxL tr (norm bk)) by omega)
   have:=(ordL_mem ok hd.br).2 hy
   rw [e] at this;simp at this
theorem lnd_nodup (ok:TrOk tr) (hb: ∀x∈bk,Br1 tr x):(Le.lnd tr bk).Nodup:=by
 have I:=Le.in0 ok hb
 obtain ⟨d,k',e1,hd,he⟩:=I.end ok (Nat.le_refl _)
 unfold Le.lnd
 rw [e1]
 exact Le.strictO_nodup (ordL_strict hd.br)
theorem shr_nodup {ld:List Int} (h:ld.Nodup):(shr tr ld).Nodup:=by
 cases ld with
 |nil=>exact h
 |cons y t=>exact h.sublist (List.Sublist.cons_cons _ (List.filter_sublist))
theorem shr_ne {ld:List Int} (h:ld≠[]):shr tr ld≠[]:=by
 cases ld with
 |nil=>exact absurd rfl h
 |cons y t=>simp [shr]
theorem brk_top (g:Good s) (b:Bnd s) (h:Brk s i) (hl:0< (s.R .be).length): ∃x∈s.R (.a i),s.lev x=(s.R .be).length:=by
 have hj:(s.R .be).length - 1< (s.R .be).length:=by omega
 rcases b _ hj i h.1 with ⟨y,hy,hy2⟩| ⟨y,hy,z,hz,hne,_,b1,_,b2⟩
 · exact absurd (List.mem_of_mem_take hy2) (pos_notin g (h.2 y hy))
 · have h1: ¬s.lev y≤((s.R .be).length - 1:Nat):=fun e=>b1 ((pre_mem g (h.2 y hy) hj).2 e)
   have h2:=(tr_level g (h.2 y hy)).2
   rw [lev_neg] at h2
   exact ⟨y,hy,by omega⟩
theorem rl_mono {rl:List Int} (h: ∀a b,a<b→b<rl.length→rl.getD a 0<rl.getD b 0) {a b:Nat} (hab:a≤b) (hb:b<rl.length):rl.getD a 0≤rl.getD b 0:=by
 rcases Nat.lt_or_ge a b with e|e
 · exact Int.le_of_lt (h a b e hb)
 · rw [show a=b by omega];exact Int.le_refl _
theorem cone_ls (h:ConeS s tr rl) (g:Good s) (ok:TrOk tr) (hb: ∀x∈bk,Br1 tr x) (hl:0< (s.R .be).length) (ht: ∃x∈bk,s.lev x=(s.R .be).length):
 shr tr (Le.lnd tr bk)≠[]∧0≤Le.mxL tr ((shr tr (Le.lnd tr bk)).drop 1)∧Le.mxL tr ((shr tr (Le.lnd tr bk)).drop 1)<rl.length∧0≤rl.getD (Le.mxL tr ((shr tr (Le.lnd tr bk)).drop 1)).toNat 0∧
  LS s (shr tr (Le.lnd tr bk)) (rl.getD (Le.mxL tr ((shr tr (Le.lnd tr bk)).drop 1)).toNat 0).toNat:=by
 obtain ⟨x0,hx0,e0⟩:=ht
 obtain ⟨_,a1,a2,a3⟩:=h.at_ (hb x0 hx0)
 have hz:rl.getD 0 0=0:=h.z fun e=>by rw [e] at a2;simp at a2;omega
 have hrl:0<rl.length:=by omega
 have ml:=Le.mxL_le (tr:=tr) hx0
 have hLp:0<lv tr x0:=by
  rcases Int.lt_or_le 0 (lv tr x0) with e|e
  · exact e
  · have:lv tr x0=0:=by omega
    rw [this] at a3
    have:rl.getD (0:Int).toNat 0=0:=hz
    omega
 obtain ⟨L,hL⟩: ∃L,L=Le.mxL tr bk:=⟨_,rfl⟩
 have hmx: ∃x∈bk,lv tr x=L:=by
  rcases (Le.mxL_aux tr bk 0).2.2 with e| ⟨x,hx,e⟩
  · have:Le.mxL tr bk=0:=e
    omega
  · exact ⟨x,hx,by rw [hL];exact e⟩
 obtain ⟨x1,hx1,e1⟩:=hmx
 obtain ⟨c0,c1,c2,c3⟩:=h.at_ (hb x1 hx1)
 have hlev:=(tr_level g c0).2
 rw [lev_neg] at hlev
 have hm:=rl_mono h.up (a:=(lv tr x0).toNat) (b:=(lv tr x1).toNat) (by omega) (by omega)
 have eL:rl.getD L.toNat 0=(s.R .be).length:=by rw [← e1];omega
 have P:=Point.shr (lnd_pointC ok hb)
 rw [← mxL_normC,← hL] at P
 have hne:=shr_ne (tr:=tr) (lnd_ne ok hb (by omega))
 obtain ⟨l,el⟩: ∃l,l=shr tr (Le.lnd tr bk):=⟨_,rfl⟩
 rw [← el] at P hne ⊢
 have hnd:l.Nodup:=by rw [el];exact shr_nodup (lnd_nodup ok hb)
 cases l with
 |nil=>exact absurd rfl hne
 |cons z r=>
  clear hne el
  show _∧0≤Le.mxL tr r∧Le.mxL tr r<_∧0≤rl.getD (Le.mxL tr r).toNat 0∧LS s (z::r) (rl.getD (Le.mxL tr r).toNat 0).toNat
  have h0:=(P.one 0 (by simp)).2 rfl
  have h0:lv tr z=L:=h0
  have hlt: ∀y∈r,lv tr y<L:=fun y hy=>by
   obtain ⟨j,hj,e⟩:=List.mem_iff_getElem.1 hy
   have h1:=P.one (j+1) (by simpa using hj)
   have e2:(z::r).getD (j+1) 0=y:=by simp [List.getD,hj,e]
   rw [e2] at h1
   have h2:=P.le y (List.mem_cons_of_mem _ hy)
   have h3:lv tr y≠L:=fun e=>by have:=h1.1 e;omega
   omega
  have mnn:=Le.mxL_nn tr r
  have mlt:Le.mxL tr r<L:=by
   rcases (Le.mxL_aux tr r 0).2.2 with e| ⟨y,hy,e⟩
   · have:Le.mxL tr r=0:=e
     omega
   · have:=hlt y hy
     have:Le.mxL tr r=lv tr y:=e.symm
     omega
  have hLr:L<rl.length:=by omega
  have nn:0≤rl.getD (Le.mxL tr r).toNat 0:=by
   have:=rl_mono h.up (a:=0) (b:=(Le.mxL tr r).toNat) (by omega) (by omega)
   omega
  have up:=h.up (Le.mxL tr r).toNat L.toNat (by omega) (by omega)
  refine ⟨by simp,mnn,by omega,nn,⟨fun x hx=> (h.at_ (P.br x hx)).1,⟨z,by simp,?_,fun y hy hne=> ?_⟩,by omega,?_,hnd⟩⟩
  · rw [(h.at_ (P.br z (by simp))).2.2.2,h0,eL]
  · rcases List.mem_cons.1 hy with e|hy
    · exact absurd e hne
    · have hy':=h.at_ (P.br y (List.mem_cons_of_mem _ hy))
      have hm:=Le.mxL_le (tr:=tr) hy
      have:=rl_mono h.up (a:=(lv tr y).toNat) (b:=(Le.mxL tr r).toNat) (by omega) (by omega)
      omega
  · rcases (Le.mxL_aux tr r 0).2.2 with e| ⟨y,hy,e⟩
    · have:Le.mxL tr r=0:=e
      rw [this]
      exact .inl (by have:rl.getD (0:Int).toNat 0=0:=hz;omega)
    · have e:lv tr y=Le.mxL tr r:=e
      refine .inr ⟨y,List.mem_cons_of_mem _ hy,?_⟩
      rw [(h.at_ (P.br y (List.mem_cons_of_mem _ hy))).2.2.2,e]
      omega
theorem cone_fol (h:ConeS s tr rl) (k:CSI N cs s hv un) (ok:TrOk tr) (hb: ∀x∈bk,Br1 tr x) (f:Folw N cs bk):Folw N cs (shr tr (Le.lnd tr bk)):=by
 intro v m hc
 have V:=h.vals k m hc
 refine shr_true ok V (fun x hx=> (lnd_pointC ok hb).br x hx) (lnd_true ok V hb (f v m hc))
def decL (s:PSt) (t:Nat):List Int:=(((s.R .tr).take t).filter fun x=>decide (s.rea x<0)).reverse.map fun x=> -x
theorem decL_succ {t:Nat} (h:t< (s.R .tr).length):decL s (t+1)=if s.rea ((s.R .tr).getD t 0)<0 then -((s.R .tr).getD t 0)::decL s t else decL s t:=by
 have e:(s.R .tr).take (t+1)=(s.R .tr).take t++ [(s.R .tr).getD t 0]:=by
  rw [List.take_add_one,List.getElem?_eq_getElem h]
  simp [List.getD,h]
 unfold decL
 rw [e,List.filter_append,List.reverse_append,List.map_append]
 by_cases hr:s.rea ((s.R .tr).getD t 0)<0
 · rw [if_pos hr,List.filter_cons_of_pos (by simpa using hr)];rfl
 · rw [if_neg hr,List.filter_cons_of_neg (by simpa using hr)];rfl
theorem dec_rea (g:Good s) {p:Nat} (hp:p< (s.R .tr).length):s.rea ((s.R .tr).getD p 0)<0↔(p:Int)∈s.R .be:=by
 constructor
 · intro h
   refine Classical.byContradiction fun hn=> ?_
   obtain ⟨i,e,_⟩:=g.re2 p hp hn
   omega
 · intro h
   have:=g.re1 p hp h
   omega
theorem be_nodup (g:Good s):(s.R .be).Nodup:=by
 unfold List.Nodup
 rw [List.pairwise_iff_getElem]
 intro i j hi hj hij e
 have:=g.bs i j hij hj
 simp only [List.getD,List.getElem?_eq_getElem hi,List.getElem?_eq_getElem hj,Option.getD_some] at this
 omega
theorem cnt_lt_succ {be:List Int} (h:be.Nodup) (t:Nat):be.countP (fun e=>decide (e< ((t+1:Nat):Int)))=be.countP (fun e=>decide (e< (t:Int)))+if (t:Int)∈be then 1 else 0:=by
 induction be with
 |nil=>rfl
 |cons a r ih=>
  obtain ⟨h1,h2⟩:=List.nodup_cons.1 h
  rw [List.countP_cons,List.countP_cons,ih h2]
  by_cases e:a=(t:Int)
  · subst e
    rw [if_neg h1,if_pos (by simp;omega)]
    simp
  · have e1:((t:Int)∈a::r)↔(t:Int)∈r:=⟨fun h=>by rcases List.mem_cons.1 h with h|h;exact absurd h.symm e;exact h,List.mem_cons_of_mem _⟩
    have e2:decide (a< ((t+1:Nat):Int))=decide (a< (t:Int)):=decide_eq_decide.2 (by omega)
    rw [e2]
    by_cases e3:(t:Int)∈r
    · rw [if_pos e3,if_pos (e1.2 e3)];omega
    · rw [if_neg e3,if_neg fun h=>e3 (e1.1 h)];omega
theorem decN_len (g:Good s): ∀t,t≤(s.R .tr).length→(decL s t).length=(s.R .be).countP fun e=>decide (e< (t:Int))
 |0,_=>by
  have:(s.R .be).countP (fun e=>decide (e< ((0:Nat):Int)))=0:=by
   rw [List.countP_eq_zero]
   intro e he
   obtain ⟨j,hj,rfl⟩:=List.mem_iff_getElem.1 he
   have:=(g.bl j hj).1
   simp only [List.getD,List.getElem?_eq_getElem hj,Option.getD_some] at this
   simp;omega
  rw [this];simp [decL]
 |t+1,h=>by
  rw [decL_succ (by omega),cnt_lt_succ (be_nodup g),← decN_len g t (by omega)]
  by_cases hr:s.rea ((s.R .tr).getD t 0)<0
  · rw [if_pos hr,if_pos ((dec_rea g (by omega)).1 hr)];rfl
  · rw [if_neg hr,if_neg fun e=>hr ((dec_rea g (by omega)).2 e)];rfl
theorem decL_len (g:Good s):(decL s (s.R .tr).length).length=(s.R .be).length:=by
 rw [decN_len g _ (Nat.le_refl _)]
 rw [List.countP_eq_length]
 intro e he
 obtain ⟨j,hj,rfl⟩:=List.mem_iff_getElem.1 he
 have:=(g.bl j hj).2
 simp only [List.getD,List.getElem?_eq_getElem hj,Option.getD_some] at this
 simpa using this
theorem dec_lev (g:Good s) {k:Nat} (hk:k< (s.R .be).length):s.lev ((s.R .tr).getD ((s.R .be).getD k 0).toNat 0)=(k+1:Nat):=by
 have hb:=g.bl k hk
 rw [g.lv _ (by omega)]
 have h1:=countP_le g (p:=((s.R .be).getD k 0).toNat) hk
 have h2:=List.countP_le_length (p:=fun e=>decide (e≤(((s.R .be).getD k 0).toNat:Int))) (l:=s.R .be)
 have h3:=h1.2 (by omega)
 rcases Nat.lt_or_ge (k+1) (s.R .be).length with e|e
 · have h4:=countP_le g (p:=((s.R .be).getD k 0).toNat) e
   have h5:=g.bs k (k+1) (by omega) e
   have h6: ¬k+1<_:=fun h=>by have:=h4.1 h;omega
   omega
 · omega
theorem decL_mem (g:Good s):x∈decL s (s.R .tr).length↔∃k,k< (s.R .be).length∧ -x=(s.R .tr).getD ((s.R .be).getD k 0).toNat 0:=by
 unfold decL
 rw [List.take_length,List.mem_map]
 constructor
 · rintro ⟨y,hy,rfl⟩
   rw [List.mem_reverse,List.mem_filter] at hy
   obtain ⟨p,hp,e⟩:=tr_at hy.1
   have h1:s.rea y<0:=by simpa using hy.2
   rw [← e] at h1
   obtain ⟨k,hk,ek⟩:=List.mem_iff_getElem.1 ((dec_rea g hp).1 h1)
   refine ⟨k,hk,?_⟩
   have e2:(s.R .be).getD k 0=(p:Int):=by simp [List.getD,hk,ek]
   rw [e2,Int.toNat_natCast,e,Int.neg_neg]
 · rintro ⟨k,hk,e⟩
   have hb:=g.bl k hk
   refine ⟨-x,List.mem_reverse.2 (List.mem_filter.2 ⟨?_,?_⟩),Int.neg_neg x⟩
   · rw [e];exact getD_mem' (by omega)
   · rw [e]
     have:=(dec_rea g (p:=((s.R .be).getD k 0).toNat) (by omega)).2 (by
      rw [Int.toNat_of_nonneg hb.1]
      exact getD_mem' hk)
     simpa using this
theorem dec_ls (g:Good s) (hl:0< (s.R .be).length):LS s (decL s (s.R .tr).length) ((s.R .be).length - 1):=by
 have lev: ∀ {y:Int} {k:Nat},k< (s.R .be).length→ -y=(s.R .tr).getD ((s.R .be).getD k 0).toNat 0→s.lev y=(k+1:Nat):=fun {y k} hk e=>by
  rw [← lev_neg,e];exact dec_lev g hk
 refine ⟨fun x hx=> ?_,?_,by omega,?_,?_⟩
 · obtain ⟨k,hk,e⟩:=(decL_mem g).1 hx
   have hb:=g.bl k hk
   rw [e];exact getD_mem' (by omega)
 · have hk:(s.R .be).length - 1< (s.R .be).length:=by omega
   refine ⟨-((s.R .tr).getD ((s.R .be).getD ((s.R .be).length - 1) 0).toNat 0),(decL_mem g).2 ⟨_,hk,Int.neg_neg _⟩,?_,fun y hy hne=> ?_⟩
   · rw [lev hk (Int.neg_neg _)];omega
   · obtain ⟨k,hk',e⟩:=(decL_mem g).1 hy
     rw [lev hk' e]
     have:k≠(s.R .be).length - 1:=fun ek=>hne (by rw [← ek,← e,Int.neg_neg])
     omega
 · rcases Nat.eq_zero_or_pos ((s.R .be).length - 1) with e|e
   · exact .inl e
   · have hk:(s.R .be).length - 2< (s.R .be).length:=by omega
     refine .inr ⟨-((s.R .tr).getD ((s.R .be).getD ((s.R .be).length - 2) 0).toNat 0),(decL_mem g).2 ⟨_,hk,Int.neg_neg _⟩,?_⟩
     rw [lev hk (Int.neg_neg _)];omega
 · unfold decL
   rw [List.take_length]
   have h1:(s.R .tr).Nodup:=by
    have:=g.nd
    unfold List.Nodup at this ⊢
    rw [List.pairwise_map] at this
    exact this.imp fun {a b} h e=>h (by rw [e])
   have h2:((s.R .tr).filter fun x=>decide (s.rea x<0)).reverse.Pairwise fun a b=>a≠b:=List.pairwise_reverse.2 (List.Pairwise.imp (fun h=>Ne.symm h) (List.Pairwise.filter _ h1))
   unfold List.Nodup
   rw [List.pairwise_map]
   exact h2.imp fun {a b} h e=>h (by omega)
theorem dec_fol (k:CSI N cs s hv un) (hB:Brk s i):Folw N cs (decL s (s.R .tr).length):=by
 intro v m hc
 refine Classical.byContradiction fun hn=> ?_
 have hd: ∀x∈s.dec,v x=1:=fun x hx=>by
  refine Classical.byContradiction fun h1=>hn ?_
  have hx':=k.g.dec_mem x hx
  have hi:=k.g.tv x hx'
  rw [k.v] at hi
  have h2:=m.set x hi
  have h3:=m.val x
  refine ⟨-x,(decL_mem k.g).2 ?_,by rw [m.neg];omega⟩
  obtain ⟨e,he,e2⟩:=List.mem_map.1 hx
  obtain ⟨j,hj,e3⟩:=List.mem_iff_getElem.1 he
  refine ⟨j,hj,?_⟩
  have e4:(s.R .be).getD j 0=e:=by simp [List.getD,hj,e3]
  rw [e4,e2,Int.neg_neg]
 have key: ∀x∈s.R .tr,v x=1:=k.g.trail_all hd fun c hcc l hl hy _=>by
  obtain ⟨i,hi,rfl⟩:=hcc
  obtain ⟨y,hyc,hv⟩:=k.imp i hi v m hc
  by_cases e:y=l
  · rw [← e];exact hv
  · have:=hy y hyc e
    rw [m.neg,hv] at this
    omega
 obtain ⟨y,hyc,hv⟩:=k.imp i hB.1 v m hc
 have:=key _ (hB.2 y hyc)
 rw [m.neg,hv] at this
 omega
end
section
variable {w0 w w' w1 w2:World} {B N i:Nat} {L L':Nat→Nat} {x:Xs} {l:List Int} {cs:List (List Int)} {hv:List (Nat × List Int)} {un:List (List Int)}
theorem ow_capC {T:TypeId} {q:Option Addr} {d:Nat} (h:OwI T w q d l):l.length≤d:=by
 rcases h.un with ⟨_,h2,h3⟩| ⟨g,cur,_,_,h3,_⟩
 · rw [h3];exact Nat.zero_le _
 · exact h3
theorem decs_ok (h:SR w0 w B L N x) (g:Good x.s) (hN:x.s.vars≤1000):
 Calls prog cdcl_search_decisions.id #[ptrV B] w fun e w'=> ∃ (p:Option Addr) (c:Nat),e= .returned (.tuple #[.slice p (decL x.s (x.s.R .tr).length).length c,.int .i64 (((x.s.R .be).length:Int) - 1),.int .i64 (x.s.R .be).length])∧
  OwI ty_int w' p c (decL x.s (x.s.R .tr).length)∧(∀b,blk p=some b→w.heap.size≤b)∧Grow w w':=by
 refine cdcl_search_decisions.calls ?_
 obtain ⟨H,pm,_⟩:=h.pm id
 have htl:=g.trl
 have hbel:=g.bel
 refine ⟨_,rfl,_,cell_add h.at rfl,(trail_ok pm (by omega)).mono ?_⟩
 rintro e w3 ⟨qb,db,rfl,ob,g3,fb⟩
 have s3:=g3.size
 refine ⟨_,_,_,rfl,fun p n c I u z=> ∃t:Nat,I=t∧t≤(x.s.R .tr).length∧z=(x.s.R .tr).length - t∧n=(decL x.s t).length∧OwI ty_int u p c (decL x.s t)∧(∀b,blk p=some b→w3.heap.size≤b)∧Grow w3 u,
  ⟨_,0,rfl,Nat.zero_le _,rfl,by simp [decL],by simp [decL];exact Ow.nil _ _ _,fun b hb=>by simp [blk] at hb,Mod.refl _⟩,?_⟩
 rintro p n c I u z _ ⟨t,rfl,ht,rfl,rfl,o,fr,G⟩
 refine cnd_i (fun r=> ?_) (fun r=> ?_)
 · have r:t< (x.s.R .tr).length:=by simp at r;omega
   refine (ob.grow G).ix 0 (by omega) rfl (by omega) fun a ha=> ⟨_,ha,?_⟩
   rw [Int.toNat_natCast]
   have hmem:(x.s.R .tr).getD t 0∈x.s.R .tr:=getD_mem' r
   have S:=h.grow (g3.trans G)
   have hiv:=g.tv _ hmem
   have hbd:=hiv.bd g.vmax
   refine ⟨_,rfl,_,cell_add S.at rfl,(S.reason g _).mono ?_⟩
   rintro e w15 ⟨rfl,g15⟩
   refine ⟨_,rfl,?_⟩
   rw [reason_in g hmem]
   have e1:=decL_succ (s:=x.s) r
   have hlen:=decN_len g t (by omega)
   have hle:=List.countP_le_length (p:=fun e:Int=>decide (e< (t:Int))) (l:=x.s.R .be)
   refine cnd_i (fun r2=>fun n17 w18 h17=> ?_) (fun r2=> ?_)
   · have r2:x.s.rea ((x.s.R .tr).getD t 0)<0:=by simpa using r2
     rw [if_pos r2] at e1
     have e17:=h17.num
     have s15:=g15.size
     have sG:=G.size
     have ew:IntKind.i64.wrap (0 - (x.s.R .tr).getD t 0)= -((x.s.R .tr).getD t 0):=by rw [wrap64_of (by omega) (by omega)];omega
     rw [ew] at h17
     have o1:OwI ty_int w18 (some ⟨n17,0,none⟩) 1 [-((x.s.R .tr).getD t 0)]:=Ow.of_some h17.at (Nat.le_refl _) (by decide) rfl rfl
     refine o1.appS sl_int ((o.grow g15).grow h17.mod) rfl rfl oneInt (by simp;omega) fun w19 p' c' o' m' hp' hs'=> ?_
     refine ⟨_,?_,t+1,wN (by omega) (by omega),by omega,rfl,by rw [e1];rfl,by rw [e1];exact o',fun b hb=> ?_,((G.trans g15).trans h17.mod).then m' fun b hb e=> ?_⟩
     · omega
     · rcases hp' with rfl|rfl
       · have:=blk_some hb;omega
       · have:=blk_some hb;have:=h17.size;omega
     · have:=blk_some e;omega
   · have r2: ¬x.s.rea ((x.s.R .tr).getD t 0)<0:=by simpa using r2
     rw [if_neg r2] at e1
     exact ⟨_,by omega,t+1,wN (by omega) (by omega),by omega,rfl,by rw [e1],by rw [e1];exact o.grow g15,fr,G.trans g15⟩
 · have r:t=(x.s.R .tr).length:=by simp at r;omega
   subst r
   have hlen:=decL_len g
   rw [hlen,wrap64_of (by omega) (by omega)]
   exact ⟨p,c,rfl,o,fun b hb=>by have:=fr b hb;omega,g3.trans G⟩
theorem study_ok (h:SR w0 w B L N x) (k:CSI N cs x.s hv un) (hN:N≤1000) (hB:Brk x.s i) (hl:0< (x.s.R .be).length) {p:Option Addr} {n c:Nat} (vb:Vw (Value.int .i64) w p (x.s.R (.a i))) (hn:n=(x.s.R (.a i)).length):
 Calls prog cdcl_search_study.id #[ptrV B,.slice p n c] w fun e w'=> ∃ (q:Option Addr) (d:Nat) (l:List Int) (bl:Nat) (lv:Int),e= .returned (.tuple #[.slice q l.length d,.int .i64 bl,.int .i64 lv])∧OwI ty_int w' q d l∧(∀b,blk q=some b→w.heap.size≤b)∧Grow w w'∧
  LS x.s l bl∧Folw N cs l∧0≤lv∧lv≤l.length:=by
 refine cdcl_search_study.calls ?_
 have g:=k.g
 have hvar:=k.v
 have hal:=g.al i
 have htl:=g.trl
 refine (cone_ok h g k.v hN vb hn hal fun y hy=>by rw [← k.v];exact g.cv i hB.1 y ((g.ca i hB.1 y).2 hy)).mono ?_
 rintro e w1 ⟨tp,tc,rp,rc,tr,rl,rfl,C,tv,vr,g1,htc⟩
 have s1:=g1.size
 refine ⟨_,_,_,_,_,_,rfl,?_⟩
 refine (Le.learnL_ok tv rfl (vb.grow g1) hn (by unfold maxLen;omega)).mono ?_
 rintro e w4 ⟨q2,d2,o,ho,rfl,O,g4⟩
 have s4:=g4.size
 refine ⟨_,_,_,_,rfl,?_⟩
 have ht:=brk_top g k.bnd hB hl
 cases hm:Le.mayL tr (x.s.R (.a i)) with
 |false=>
  refine cnd_t rfl ((decs_ok (h.grow (g1.trans g4)) g (by omega)).mono ?_)
  rintro e w7 ⟨p7,c7,rfl,o7,f7,g7⟩
  have hlen:=decL_len g
  refine ⟨_,_,_,_,_,rfl,p7,c7,_,(x.s.R .be).length - 1,(x.s.R .be).length,?_,o7,fun b hb=>by have:=f7 b hb;omega,(g1.trans g4).trans g7,dec_ls g hl,dec_fol k hB,by omega,by omega⟩
  rw [show (((x.s.R .be).length - 1:Nat):Int)=((x.s.R .be).length:Int) - 1 by omega]
 |true=>
  rw [hm] at ho
  simp only [if_true] at ho
  subst ho
  obtain ⟨m1,ok,m2,m3⟩:=mayL_okC hm
  have hll:=lnd_lenC ok m3
  have P:=lnd_pointC ok m3
  refine cnd_f rfl ((Le.learnShorten_ok (tv.grow g4) rfl m1 O.vw rfl (by omega) P.br).mono ?_)
  rintro e w11 ⟨q3,d3,rfl,O3,g11,f11⟩
  have s11:=g11.size
  have hsl:=shr_len tr (Le.lnd tr (x.s.R (.a i)))
  have hsb:=P.shr.br
  have L1:=cone_ls C g ok m3 hl ht
  have F1:=cone_fol C k ok m3 (k.imp i hB.1)
  obtain ⟨l,el⟩: ∃l,l=shr tr (Le.lnd tr (x.s.R (.a i))):=⟨_,rfl⟩
  rw [← el] at O3 hsl hsb L1 F1 ⊢
  obtain ⟨L2,L3,L4,L5,L6⟩:=L1
  refine ⟨_,_,_,rfl,(Le.learnBack_ok (tv.grow (g4.trans g11)) rfl m1 O3.vw rfl (by omega) (ow_capC O3) hsb).mono ?_⟩
  rintro e w13 ⟨rfl,g13⟩
  have hne:l.isEmpty=false:=by cases l with
   |nil=>exact absurd rfl L2
   |cons _ _=>rfl
  rw [hne]
  refine ⟨_,rfl,cnd_f (by simpa using L3) ⟨Grow w13.drew,Mod.refl _,?_⟩⟩
  have G13:=(g4.trans g11).trans g13
  refine (vr.grow (G13.trans (Mod.refl w13).drew)).ix 0 L3 rfl L4 fun a ha=> ⟨_,fun u gu=>cell_keep gu ha id,?_⟩
  refine (Le.learnLevels_ok (tv.grow (G13.trans (Mod.refl w13).drew)) rfl m1 ((O3.grow g13).grow (Mod.refl w13).drew).vw rfl (by omega) hsb).mono ?_
  rintro e w18 ⟨v,rfl,⟨v0,v1⟩,g18⟩
  refine ⟨_,rfl,g18,q3,d3,l,_,v,?_,((O3.grow g13).grow (Mod.refl w13).drew).grow g18,fun b hb=>by have:=f11 b hb;omega,((g1.trans G13).trans (Mod.refl w13).drew).trans g18,L6,F1,v0,v1⟩
  rw [Int.toNat_of_nonneg L5]
end
section
variable {w0 w w' w1 w2:World} {B N i:Nat} {L L':Nat→Nat} {x:Xs} {l:List Int} {cs:List (List Int)} {hv:List (Nat × List Int)} {un:List (List Int)}
theorem sl_clauseC:slOkN prog ty_sl_cdcl_clause ty_cdcl_clause 5 56=true:=by kernel_rfl
theorem sl_slC:slOk prog ty_sl_sl_int ty_sl_int 24=true:=by kernel_rfl
theorem hc_vr {u:Hc} {b:Nat} (h:Has w b #[.int .i64 u.i,u.sl.v,.int .i64 u.lv,.int .i64 u.sz,.bool u.lk]):Vr 5 hcE w (some ⟨b,0,none⟩) [u]:=by
 intro j hj
 have:j=0:=by simpa using hj
 subst this
 exact ⟨_,rfl,cell_add h rfl,cell_add h rfl,cell_add h rfl,cell_add h rfl,cell_add h rfl,trivial⟩
theorem okC_of {n:Nat} (hn:n≤4096) (h: ∀y∈l,InV n y) (hl:l.length≤4096):okC n l=true:=by
 unfold okC clB
 simp only [Bool.and_eq_true,List.all_eq_true,decide_eq_true_eq]
 exact ⟨⟨fun y hy=>litB_of (by omega) (h y hy),hl⟩,fun y hy=> (isB_iff (by omega)).2 (h y hy)⟩
theorem SR.add_ (h:SR w0 w B L N x) (g:Good x.s) (hnc:x.s.nc<262144) (hok:okC x.s.vars l=true) {p:Option Addr} {n c:Nat} (hc:Vw (Value.int .i64) w p l) (hn:n=l.length) (hx:n≤maxLen):
 Calls prog prop_Prop_Add.id #[ptrV x.pb,.slice p n c] w fun e w'=>e= .returned (.tuple #[.int .i64 x.s.nc,.int .i64 0])∧∃L' s',SR w0 w' B L' N {x with s:=s'}∧Kp w0 w w' L L'∧Good s'∧Added x.s l s':=by
 obtain ⟨H,pm,hl⟩:=h.pm id
 refine (add_ok pm g hc hn hx).mono ?_
 rintro e w' ⟨r1,r2,rfl,s',H',p,g',hh⟩
 rcases hh with ⟨_,_,e,_⟩| ⟨_,_,_,e,_⟩| ⟨rfl,rfl,_,_,a⟩
 · rw [hok] at e;exact absurd e (by decide)
 · omega
 · have:=h.prop hl pm.lt p
   exact ⟨rfl,_,s',this.1,this.2,g',a⟩
def Xs.lrn (x:Xs) (s':PSt) (sl:Sl) (l:List Int) (lv:Int) (hs us:Sl):Xs:=
 if 1<l.length then {x with s:=s',hs:=hs,hv:=x.hv++ [⟨x.s.nc,sl,l,lv,l.length,false⟩]} else {x with s:=s',us:=us,un:=x.un++ [(sl,l)]}
theorem cadd_ok (h:SR w0 w B L N x) (g:Good x.s) (hnc:x.s.nc<262144) (hok:okC x.s.vars l=true) {p:Option Addr} {n c:Nat} (ro:RO w L ⟨p,n,c⟩ l) (hx:l.length≤4096) (lv:Int) (hhv:x.hv.length≤1000000) (hun:x.un.length≤1000000):
 Calls prog cdcl_search_add.id #[ptrV B,.slice p n c,.int .i64 lv] w fun e w'=>e= .returned (.tuple #[])∧∃L' s' hs us,SR w0 w' B L' N (x.lrn s' ⟨p,n,c⟩ l lv hs us)∧Kp w0 w w' L L'∧Good s'∧Added x.s l s':=by
 have hn:n=l.length:=ro.n
 refine cdcl_search_add.calls ⟨_,rfl,_,cell_add h.at rfl,(h.add_ g hnc hok ro.v hn (by unfold maxLen;omega)).mono ?_⟩
 rintro e w3 ⟨rfl,L3,s',S3,k3,g',ha⟩
 have ro3:RO w3 L3 ⟨p,n,c⟩ l:=k3.ro ro
 refine ⟨_,_,rfl,cnd_f rfl (cnd_i (fun r=> ?_) (fun r=> ?_))⟩
 · have r:1<l.length:=by simp at r;omega
   refine ⟨_,rfl,_,_,_,cell_add S3.at rfl,fun n31 w31 h31=> ?_⟩
   have S4:=S3.grow h31.mod
   obtain ⟨r1,r2,r3⟩:=S4.hv id
   have k4:Kp w0 w3 w31 L3 L3:=Chg.grow h31.mod
   have ro4:=k4.ro ro3
   have hb:Has w31 n31 #[.int .i64 (x.s.nc:Int),(⟨p,n,c⟩:Sl).v,.int .i64 lv,.int .i64 (l.length:Int),.bool false]:=by have:=h31.has;rw [hn] at this;rw [hn];exact this
   refine Row.app hcEnc sl_clauseC r1 (hc_vr (u:=⟨x.s.nc,⟨p,n,c⟩,l,lv,l.length,false⟩) hb) r2 rfl (by simp;omega) fun w8 p' c' o8 m8 hp' hz'=> ⟨_,rfl,?_⟩
   have hB8:Has w8 B _:=S4.at.keep m8 fun e=>by have:=(r3 B e).1;rw [S4.ml.1] at this;exact absurd this (by decide)
   refine store_f hB8 rfl rfl fun w11 h11 m11=> ?_
   have:=S4.have_ (q:=⟨p',(x.hv++ [(⟨x.s.nc,⟨p,n,c⟩,l,lv,l.length,false⟩:Hc)]).length,c'⟩) (hv':=x.hv++ [(⟨x.s.nc,⟨p,n,c⟩,l,lv,l.length,false⟩:Hc)]) m8 o8 rfl (fr_of hp' (Nat.le_refl _)) (fun u hu=>by
    rcases List.mem_append.1 hu with hu|hu
    · exact S4.hr id u hu
    · rw [List.mem_singleton] at hu;subst hu;exact ro4) h11 m11 (S4.neB (by decide) r3 hp' (Nat.le_refl _))
   refine ⟨rfl,_,s',⟨p',(x.hv++ [(⟨x.s.nc,⟨p,n,c⟩,l,lv,l.length,false⟩:Hc)]).length,c'⟩,x.us,?_,(k3.trans k4).trans this.2,g',ha⟩
   unfold Xs.lrn
   rw [if_pos r]
   exact this.1
 · have r: ¬1<l.length:=by simp at r;omega
   refine ⟨_,rfl,_,_,_,cell_add S3.at rfl,fun n31 w31 h31=> ?_⟩
   have S4:=S3.grow h31.mod
   obtain ⟨r1,r2,r3⟩:=S4.un id
   have k4:Kp w0 w3 w31 L3 L3:=Chg.grow h31.mod
   have ro4:=k4.ro ro3
   refine r1.app1 sl_slC (⟨p,n,c⟩:Sl) h31.has rfl (by rw [List.length_map];exact r2) (fun _=>rfl) (by simp;omega) fun w8 p' c' o8 m8 hp' hz'=> ⟨_,rfl,?_⟩
   have hB8:Has w8 B _:=S4.at.keep m8 fun e=>by have:=(r3 B e).1;rw [S4.ml.1] at this;exact absurd this (by decide)
   refine store_f hB8 rfl rfl fun w11 h11 m11=> ?_
   have:=S4.unit_ (q:=⟨p',(x.un.map (·.1)).length+1,c'⟩) (un':=x.un++ [((⟨p,n,c⟩:Sl),l)]) m8 (by rw [List.map_append];exact o8) (by simp) (fr_of hp' (Nat.le_refl _)) (fun u hu=>by
    rcases List.mem_append.1 hu with hu|hu
    · exact S4.ur id u hu
    · rw [List.mem_singleton] at hu;subst hu;exact ro4) h11 m11 (S4.neB (by decide) r3 hp' (Nat.le_refl _))
   refine ⟨rfl,_,s',x.hs,⟨p',(x.un.map (·.1)).length+1,c'⟩,?_,(k3.trans k4).trans this.2,g',ha⟩
   unfold Xs.lrn
   rw [if_neg r]
   exact this.1
end
section
variable {w0 w w' w1 w2:World} {B N i:Nat} {L L':Nat→Nat} {x:Xs} {l:List Int} {cs:List (List Int)} {hv:List (Nat × List Int)} {un:List (List Int)}
theorem args12 (a b c:Value):(#[]++ #[a]++ #[b,c]:Array Value)= #[a,b,c]:=by simp
theorem locked1_ok (h:SR w0 w B L N x) (g:Good x.s) {n1 n3:Nat} (h1:Has w n1 #[ptrV B]) {u:Hc} (h3:Has w n3 #[.int .i64 u.i,u.sl.v,.int .i64 u.lv,.int .i64 u.sz,.bool u.lk]) (l:Int):
 Calls prog cdcl_search_locked_1.id #[.int .i64 l,.pointer (some ⟨n1,0,none⟩),.pointer (some ⟨n3,0,none⟩)] w fun e w'=>e= .returned (.bool (decide (x.s.value l>0) && (x.s.reason l==u.i)))∧Grow w w':=by
 refine cdcl_search_locked_1.calls ?_
 have gd:Grow w w.drew:=(Mod.refl w).drew
 have D:=h.drew
 have d1:=h1.grow gd
 have d3:=h3.grow gd
 refine ⟨Grow w.drew,Mod.refl _,_,fun u gu=>cell_of (d1.grow gu) rfl,_,rfl,_,fun u gu=>cell_add (D.at.grow gu) rfl,(D.value g l).mono ?_⟩
 rintro e w5 ⟨rfl,g5⟩
 refine ⟨_,rfl,g5,cnd_i (fun r=> ?_) (fun r=> ?_)⟩
 · refine ⟨_,fun u gu=>cell_of (d1.grow gu) rfl,_,rfl,_,fun u gu=>cell_add (D.at.grow gu) rfl,((D.grow g5).reason g l).mono ?_⟩
   rintro e w10 ⟨rfl,g10⟩
   refine ⟨_,rfl,g5.trans g10,_,fun u gu=>cell_add (d3.grow gu) rfl,?_,(gd.trans g5).trans g10⟩
   rw [r];rfl
 · refine ⟨?_,gd.trans g5⟩
   rw [r];rfl
theorem locked1_ent:entB prog 117=true:=by kernel_rfl
theorem locked_ok (h:SR w0 w B L N x) (g:Good x.s) {u:Hc} (ro:RO w L u.sl u.c) (hx:u.c.length≤4096):
 Calls prog cdcl_search_locked.id #[ptrV B,.agg #[.int .i64 u.i,.slice u.sl.p u.sl.n u.sl.c,.int .i64 u.lv,.int .i64 u.sz,.bool u.lk]] w fun e w'=> ∃r:Bool,e= .returned (.bool r)∧Grow w w':=by
 refine cdcl_search_locked.calls ?_
 intro n1 w2 h2 n3 w4 h4
 have G:=h2.mod.trans h4.mod
 refine ⟨_,_,_,cell_add h4.has rfl,?_⟩
 have hn:=ro.n
 refine (containsFunc_ok (ro.v.grow G) hn (by unfold maxLen;omega) locked1_ent (fun l=>decide (x.s.value l>0) && (x.s.reason l==u.i)) fun y _ u' gu=> ?_).mono ?_
 · rw [args12]
   exact locked1_ok (h.grow (G.trans gu)) g ((h2.has.grow h4.mod).grow gu) (h4.has.grow gu) y
 · rintro e w6 ⟨rfl,g6⟩
   exact ⟨_,rfl,_,rfl,G.trans g6⟩
theorem SR.loc (h:SR w0 w B L N x) (m:Mod (fun k=>L k=0∧w0.heap.size≤k) w w') (hl: ∀k,k<w.heap.size→L' k=L k):SR w0 w' B L' N x∧Chg (fun i=>i=0) w0 w w' L L':=by
 have b:=h.chg (E':=fun j=>j=0) ⟨m,hl⟩
 exact ⟨⟨b.g,fun _=>b.me (by simp),b.ml,fun _=>b.pm (by simp),fun _=>b.hp (by simp),fun _=>b.ph (by simp),fun _=>b.hv (by simp),fun _=>b.hr (by simp),fun _=>b.un (by simp),fun _=>b.ur (by simp),fun _=>b.pr (by simp),fun _=>b.rr (by simp),fun _=>b.mo (by simp)⟩,⟨m,hl⟩⟩
theorem RO.relab {s:Sl} {c:List Int} (h:RO w L s c) (hl: ∀k,L k≠0→L' k=L k):RO w L' s c:=
 ⟨h.n,h.v,fun k hk=> ⟨by rw [hl k (by rw [(h.l k hk).1];decide)];exact (h.l k hk).1,(h.l k hk).2⟩⟩
theorem SR.relab (h:SR w0 w B L N x) (hl: ∀k,L k≠0→L' k=L k):SR w0 w B L' N x:=by
 have key: ∀ {i k:Nat},i≠0→L k=i∧w0.heap.size≤k→L' k=i∧w0.heap.size≤k:=fun hi hk=> ⟨by rw [hl _ (by rw [hk.1];exact hi)];exact hk.1,hk.2⟩
 refine ⟨h.g,h.me,⟨by rw [hl B (by rw [h.ml.1];decide)];exact h.ml.1,h.ml.2⟩,fun e=> ?_,fun e=> ?_,fun e=> ?_,fun e=> ?_,fun e u hu=> (h.hr e u hu).relab hl,fun e=> ?_,fun e u hu=> (h.ur e u hu).relab hl,fun e=> ?_,fun e u hu=> (h.rr e u hu).relab hl,fun e=> ?_⟩
 · obtain ⟨H,a,b⟩:=h.pm e
   exact ⟨H,a,fun y k hk=>key (by decide) (b y k hk)⟩
 · obtain ⟨z,a,b,c,d⟩:=h.hp e
   exact ⟨z,a,b,c,fun k hk=>key (by decide) (d k hk)⟩
 · obtain ⟨a,b,c⟩:=h.ph e
   exact ⟨a,b,fun k hk=>key (by decide) (c k hk)⟩
 · obtain ⟨a,b,c⟩:=h.hv e
   exact ⟨a,b,fun k hk=>key (by decide) (c k hk)⟩
 · obtain ⟨a,b,c⟩:=h.un e
   exact ⟨a,b,fun k hk=>key (by decide) (c k hk)⟩
 · obtain ⟨a,b,c⟩:=h.pr e
   exact ⟨a,b,fun k hk=>key (by decide) (c k hk)⟩
 · obtain ⟨a,b,c⟩:=h.mo e
   exact ⟨a,b,fun k hk=>key (by decide) (c k hk)⟩
theorem SR.haveS (h:SR w0 w B L N x) {hv':List Hc} (m:Mod (fun k=>blk x.hs.p=some k) w w') (r:Row 5 hcE ty_cdcl_clause w' x.hs.p x.hs.c hv') (hq:hv'.length=x.hv.length) (hro: ∀u∈hv',RO w L u.sl u.c):SR w0 w' B L N {x with hv:=hv'}∧Chg (fun i=>i=5) w0 w w' L L:=by
 obtain ⟨p1,p2,p3⟩:=h.hv id
 have c:Chg (fun i=>i=5) w0 w w' L L:=⟨m.mono fun k _ e=>p3 k e,fun _ _=>rfl⟩
 have b:=h.chg c
 exact ⟨⟨b.g,fun _=>b.me (by simp),b.ml,fun _=>b.pm (by simp),fun _=>b.hp (by simp),fun _=>b.ph (by simp),fun _=> ⟨r,by rw [p2,hq],p3⟩,fun _ u hu=> (hro u hu).keep c (by simp),fun _=>b.un (by simp),fun _=>b.ur (by simp),fun _=>b.pr (by simp),fun _=>b.rr (by simp),fun _=>b.mo (by simp)⟩,c⟩
theorem SR.swap (h:SR w0 w B L N x) {q:Sl} {hv':List Hc} (r:Row 5 hcE ty_cdcl_clause w q.p q.c hv') (hq:q.n=hv'.length) (hl: ∀k,blk q.p=some k→L k=5∧w0.heap.size≤k) (hro: ∀u∈hv',RO w L u.sl u.c)
 (st:Has w2 B {x with hs:=q,hv:=hv'}.cells) (m2:Mod (·=B) w w2):SR w0 w2 B L N {x with hs:=q,hv:=hv'}∧Kp w0 w w2 L L:=by
 have c:Chg (fun i=>i=1) w0 w w2 L L:=⟨m2.mono fun k _ (e:k=B)=>by subst e;exact ⟨h.ml.1,h.ml.2.1⟩,fun _ _=>rfl⟩
 have b:=h.chg c
 exact ⟨⟨b.g,fun _=>st,b.ml,fun _=>b.pm (by simp),fun _=>b.hp (by simp),fun _=>b.ph (by simp),fun _=> ⟨r.keep m2 fun k hk (e:k=B)=>by subst e;have:=(hl _ hk).1;rw [h.ml.1] at this;exact absurd this (by decide),hq,hl⟩,fun _ u hu=> (hro u hu).keep c (by simp),fun _=>b.un (by simp),fun _=>b.ur (by simp),fun _=>b.pr (by simp),fun _=>b.rr (by simp),fun _=>b.mo (by simp)⟩,c.weak fun i e=>by rw [e];decide⟩
theorem Chg.row {E:Nat→Prop} {sz:Nat} {α:Type} {f:α→List Value} {T:TypeId} {p:Option Addr} {c:Nat} {l:List α} (k:Chg E w0 w w' L L') (h:Row sz f T w p c l) (hl: ∀b,blk p=some b→¬E (L b)):Row sz f T w' p c l:=
 h.keep k.mod fun b hb e=>hl b hb e.1
theorem Chg.lb {E:Nat→Prop} {p:Option Addr} {i n:Nat} (k:Chg E w0 w w' L L') (h: ∀b,blk p=some b→L b=i∧n≤b) (hl: ∀b,blk p=some b→b<w.heap.size): ∀b,blk p=some b→L' b=i∧n≤b:=
 fun b hb=> ⟨by rw [k.lab b (hl b hb)];exact (h b hb).1,(h b hb).2⟩
theorem SR.drop_ (h:SR w0 w B L N x) (g:Good x.s) (i:Nat):Calls prog prop_Prop_Drop.id #[ptrV x.pb,.int .i64 i] w fun e w'=> ∃r:Int,e= .returned (.int .i64 r)∧∃L',Chg (fun i=>i=2) w0 w w' L L'∧
 ((r≠0∧SR w0 w' B L' N x)∨(r=0∧x.s.There i∧Good (x.s.drop i)∧SR w0 w' B L' N {x with s:=x.s.drop i})):=by
 obtain ⟨H,pm,hl⟩:=h.pm id
 have cg: ∀ {w':World} {H':Pt→Sl} {s':PSt},Pw w w' x.pb H H' s'→Chg (fun i=>i=2) w0 w w' L (reL L w.heap.size 2):=fun p=> ⟨p.mod.mono fun k _ ⟨y,e⟩=>hl y k e,fun _ hk=>reL_old hk⟩
 refine (drop_ok pm g i).mono ?_
 rintro e w' ⟨r,rfl,H',⟨rfl,_,p⟩| ⟨rfl,_,_,p⟩| ⟨rfl,hi,hr,p⟩⟩
 · exact ⟨_,rfl,_,cg p,.inl ⟨by decide,(h.prop hl pm.lt p).1⟩⟩
 · exact ⟨_,rfl,_,cg p,.inl ⟨by decide,(h.prop hl pm.lt p).1⟩⟩
 · obtain ⟨_,hth⟩:=PSt.is_iff.1 hi
   rw [Int.toNat_natCast] at hth hr p
   exact ⟨_,rfl,_,cg p,.inr ⟨rfl,hth,drop_good g hth fun y hy e=>hr ⟨y,hy,e⟩,(h.prop hl pm.lt p).1⟩⟩
theorem told_app2 (h:SR w0 w B L N x) (hp:x.pr.length≤1000000000) (del:Bool) {sl:Sl} (ro:RO w L sl l) {b:Nat} (hb:Has w b #[.bool del,sl.v]) {K:World→Prop}
 (hk: ∀w' L' q,SR w0 w' B L' N {x with ps:=q,pr:=x.pr++ [(del,sl,l)]}→Chg (fun i=>i=7∨i=1) w0 w w' L L'→K w'):
 ∃w8 r9p r9n r9c,(Builtin.append_ #[34,34] 34 #[.slice x.ps.p x.ps.n x.ps.c,.slice (some (Addr.mk b 0 none)) 1 1]).run prog w= .ok (.slice r9p r9n r9c) w8∧
  ∃a10,(some (Addr.mk B 0 none))=some a10∧∃w11,StoreAt ((a10.add 14).add 2) 0 [.slice r9p r9n r9c] w8 w11∧K w11:=by
 obtain ⟨r1,r2,r3⟩:=h.pr id
 refine Row.app psEnc sl_stepC r1 (ps_vr (u:=(del,sl,l)) hb) r2 rfl (by simp;omega) fun w8 p' c' o8 m8 hp' hz'=> ⟨_,rfl,?_⟩
 have hB8:Has w8 B x.cells:=h.at.keep m8 fun e=>by have:=(r3 B e).1;rw [h.ml.1] at this;exact absurd this (by decide)
 refine store_f2 hB8 rfl rfl fun w11 h11 m11=> ?_
 have:=h.proof (q:=⟨p',(x.pr++ [(del,sl,l)]).length,c'⟩) (pr':=x.pr++ [(del,sl,l)]) m8 o8 rfl (fr_of hp' (Nat.le_refl _)) (fun u hu=>by
  rcases List.mem_append.1 hu with hu|hu
  · exact h.rr id u hu
  · rw [List.mem_singleton] at hu;subst hu;exact ro) h11 m11 (h.neB (by decide) r3 hp' (Nat.le_refl _))
 refine hk _ _ _ this.1 ⟨(m8.mono fun k _ e=> ⟨.inl (r3 k e).1,(r3 k e).2⟩).then m11 fun k hk (e:k=B)=>by subst e;exact ⟨.inr h.ml.1,h.ml.2.1⟩,fun _ hk=>reL_old hk⟩
end
section
variable {w0 w w' w1 w2 u:World} {B N i:Nat} {L L' L1:Nat→Nat} {x:Xs} {l:List Int} {cs:List (List Int)} {hv:List (Nat × List Int)} {un:List (List Int)}
def hc0:Hc:=⟨0,Sl.nil,[],0,0,false⟩
def hpr (h:Hc):Nat × List Int:=(h.i,h.c)
def okH (h:Hc):Prop:=0≤h.lv∧h.lv≤h.sz∧h.sz≤4096∧h.c.length≤4096
theorem adds (a:Addr) (i j:Nat):(a.add i).add j=a.add (i+j):=by
 by_cases e1:i=0
 · subst e1;simp [Addr.add]
 · by_cases e2:j=0
   · subst e2;simp [Addr.add]
   · simp [Addr.add,e1,e2,Nat.add_assoc]
theorem cells_sub {a:Addr} {k:Nat}: ∀ {vs:List Value} {i:Nat},CellsAt w a (k+i) vs→CellsAt w (a.add k) i vs
 | [],_,_=>trivial
 |v::vs,i,⟨h1,h2⟩=> ⟨by rw [adds];exact h1,cells_sub (i:=i+1) h2⟩
theorem hs_lk {hs:List Hc} {p:Option Addr} {c n:Nat} (h:Row 5 hcE ty_cdcl_clause w p c hs) {i:Int} (t:Nat) (hi:i=t) (hn:n=hs.length) (ht:t<hs.length) (r:Bool) {K:World→Prop}
 (hk: ∀w',Row 5 hcE ty_cdcl_clause w' p c (hs.set t {hs.getD t hc0 with lk:=r})→Mod (fun b=>blk p=some b) w w'→K w'):
 ixK p n i 5 fun a=> ∃w',StoreAt ((a.add 2).add 2) 0 [.bool r] w w'∧K w':=by
 have:=h.stF hcEnc (i:=i) (n:=n) (o:=4) (v:= .bool r) hc0 {hs.getD t hc0 with lk:=r} (by rw [hi,Int.toNat_natCast];rfl) (by decide) rfl (by omega) hn (by omega) (K:=K) fun w' r' m'=>hk w' (by rw [hi,Int.toNat_natCast] at r';exact r') m'
 simp only [adds]
 exact this
theorem sl_lrnC:slOkN prog ty_sl_api_Learnt ty_api_Learnt 3 24=true:=by kernel_rfl
theorem lr_vr {v:RedP.Lr} {b:Nat} (h:Has w b #[.int .i64 v.1,.int .i64 v.2.1,.bool v.2.2]):Vr 3 Re.lrV w (some ⟨b,0,none⟩) [v]:=by
 intro j hj
 have:j=0:=by simpa using hj
 subst this
 exact ⟨_,rfl,cell_add h rfl,cell_add h rfl,cell_add h rfl,trivial⟩
theorem getD_in {α:Type} {m:List α} {t:Nat} {d:α} (h:t<m.length):m.getD t d∈m:=by simp [List.getD,h]
theorem drop_cons {m:List Hc} {t:Nat} (h:t<m.length):m.drop t=m.getD t hc0::m.drop (t+1):=by
 rw [List.drop_eq_getElem_cons h];simp [List.getD,h]
def hid (h:Hc):Nat × Sl × List Int × Int × Int:=(h.i,h.sl,h.c,h.lv,h.sz)
def SameI (a b:List Hc):Prop:=a.map hid=b.map hid
theorem SameI.len {a b:List Hc} (h:SameI a b):a.length=b.length:=by have:=congrArg List.length h;simpa using this
theorem SameI.at_ {a b:List Hc} (h:SameI a b) {t:Nat} (ht:t<a.length):hid (a.getD t hc0)=hid (b.getD t hc0):=by
 have hb:t<b.length:=by rw [← h.len];exact ht
 have h2:(a.map hid)[t]? =(b.map hid)[t]? :=by rw [show a.map hid=b.map hid from h]
 rw [List.getElem?_map,List.getElem?_map,List.getElem?_eq_getElem ht,List.getElem?_eq_getElem hb] at h2
 simpa [List.getD,ht,hb] using h2
theorem SameI.mem {a b:List Hc} (h:SameI a b) {P:Hc→Prop} (hP: ∀u v:Hc,hid u=hid v→P u→P v) (ha: ∀u∈a,P u): ∀v∈b,P v:=by
 intro v hv
 obtain ⟨j,hj,rfl⟩:=List.mem_iff_getElem.1 hv
 have hj':j<a.length:=by rw [h.len];exact hj
 have:=h.at_ hj'
 refine hP _ _ ?_ (ha _ (getD_in (d:=hc0) hj'))
 rw [this];simp [List.getD,hj]
theorem SameI.set {a b:List Hc} (h:SameI a b) {t:Nat} (ht:t<b.length) {v:Hc} (hv:hid v=hid (b.getD t hc0)):SameI a (b.set t v):=by
 unfold SameI at*
 rw [h]
 refine List.ext_getElem (by simp) fun j h1 h2=> ?_
 simp only [List.length_map,List.length_set] at h1 h2
 rw [List.getElem_map,List.getElem_map,List.getElem_set]
 by_cases e:t=j
 · subst e
   rw [if_pos rfl,hv];simp [List.getD,h1]
 · rw [if_neg e]
theorem SameI.hpr {a b:List Hc} (h:SameI a b):a.map hpr=b.map hpr:=by
 have:=congrArg (List.map fun z:Nat × Sl × List Int × Int × Int=> (z.1,z.2.2.1)) h
 rw [List.map_map,List.map_map] at this
 exact this
structure LoA (w0 w u:World) (B:Nat) (L:Nat→Nat) (N:Nat) (x:Xs) (t:Nat) (hv1:List Hc) (ll:List RedP.Lr) (p:Option Addr) (c:Nat):Prop where
 len:ll.length=t
 ok: ∀y∈ll,RedP.okL y=true
 row:Row 3 Re.lrV ty_api_Learnt u p c ll
 fr: ∀b,blk p=some b→w.heap.size≤b
 sr:SR w0 u B (reL L w.heap.size 0) N {x with hv:=hv1}
 kp:Kp w0 w u L (reL L w.heap.size 0)
 sm:SameI x.hv hv1
theorem loA_lb (h:SR w0 w B L N x) {b:Nat} (hb:w.heap.size≤b):reL L w.heap.size 0 b=0∧w0.heap.size≤b:=⟨reL_new hb,Nat.le_trans h.g.size hb⟩
theorem less_a (h:SR w0 w B L N x) (g:Good x.s) (hhv:x.hv.length≤1000000) (hok: ∀u∈x.hv,okH u) {K:Option Addr→Nat→Nat→World→Prop}
 (hk: ∀p c u hv1 ll,LoA w0 w u B L N x x.hv.length hv1 ll p c→K p ll.length c u):
 ∃I3:Option Addr→Nat→Nat→Int→World→Nat→Prop,(∃k4,I3 none 0 0 0 w k4)∧
  ∀ (l_6_p:Option Addr) (l_6_n:Nat) (l_6_c:Nat) (v7:Int) (w8:World) (k4:Nat) (_:Fr),I3 l_6_p l_6_n l_6_c v7 w8 k4→
  cnd (decide (v7< (x.hs.n:Int)))
   (ixK x.hs.p x.hs.n v7 5 fun a9=>
     ∃x10 x11p x11n x11c x12 x13 x14,CellsAt w8 a9 0 [.int .i64 x10,.slice x11p x11n x11c,.int .i64 x12,.int .i64 x13,.bool x14]∧
     ∀n15 w16,New (.cells #[.int .i64 0,.slice none 0 0,.int .i64 0,.int .i64 0,.bool false] 128) w8 n15 w16→
     ∃w17,StoreAt (Addr.mk n15 0 none) 0 [.int .i64 x10,.slice x11p x11n x11c,.int .i64 x12,.int .i64 x13,.bool x14] w16 w17∧
     ∃W18:World→Prop,W18 w17.drew∧
     ∃a19,(some (Addr.mk B 0 none))=some a19∧∃x20p x20n x20c,AtW W18 (a19.add 11) (.slice x20p x20n x20c)∧
     ∃x21 x22p x22n x22c x23 x24 x25,CellsW W18 (Addr.mk n15 0 none) [.int .i64 x21,.slice x22p x22n x22c,.int .i64 x23,.int .i64 x24,.bool x25]∧
     Calls prog 89 #[.pointer (some (Addr.mk B 0 none)),.agg #[.int .i64 x21,.slice x22p x22n x22c,.int .i64 x23,.int .i64 x24,.bool x25]] w17.drew fun e w26=> ∃r27,e= .returned (.bool r27)∧
     W18 w26∧ixK x20p x20n v7 5 fun a28=>
     ∃w29,StoreAt ((a28.add 2).add 2) 0 [.bool r27] w26 w29∧
     ∃a30,(some (Addr.mk B 0 none))=some a30∧∃x31p x31n x31c,w29.cell? (a30.add 11)=some (.slice x31p x31n x31c)∧
     ixK x31p x31n v7 5 fun a32=>
     ∃x33 x34 x35,CellsAt w29 (a32.add 2) 0 [.int .i64 x33,.int .i64 x34,.bool x35]∧
     ∀n36 w37,New (.cells #[.int .i64 x33,.int .i64 x34,.bool x35] 126) w29 n36 w37→
     ∃w38 r39p r39n r39c,(Builtin.append_ #[131,131] 131 #[.slice l_6_p l_6_n l_6_c,.slice (some (Addr.mk n36 0 none)) 1 1]).run prog w37= .ok (.slice r39p r39n r39c) w38∧
     ∃k5,k5<k4∧I3 r39p r39n r39c (IntKind.i64.wrap (v7+ (1:Int))) w38 k5)
   (K l_6_p l_6_n l_6_c w8):=by
 have hhn:=(h.hv id).2.1
 refine ⟨fun p n c v u z=> ∃ (t:Nat) (hv1:List Hc) (ll:List RedP.Lr),v=t∧t≤x.hv.length∧z=x.hv.length - t∧n=ll.length∧LoA w0 w u B L N x t hv1 ll p c,
  ⟨_,0,x.hv,[],rfl,Nat.zero_le _,rfl,rfl,⟨rfl,by simp,Row.nil _ _ _ _,fun b hb=>by simp [blk] at hb,h.new (Mod.refl w) 0,Chg.new (Mod.refl w) 0,rfl⟩⟩,?_⟩
 rintro p n c v u z _ ⟨t,hv1,ll,rfl,ht,rfl,rfl,A⟩
 have hlen:=A.sm.len
 refine cnd_i (fun r=> ?_) (fun r=> ?_)
 · have r:t<x.hv.length:=by rw [hhn] at r;simpa using r
   obtain ⟨r1,r2,r3⟩:=A.sr.hv id
   have r1:Row 5 hcE ty_cdcl_clause u x.hs.p x.hs.c hv1:=r1
   obtain ⟨y,hy⟩: ∃y,y=hv1.getD t hc0:=⟨_,rfl⟩
   have hym:y∈hv1:=by rw [hy];exact getD_in (by omega)
   refine (r1.vr hcEnc).ix hc0 (by omega) (by omega) (by omega) fun a ha=> ?_
   rw [Int.toNat_natCast,← hy] at ha
   refine ⟨_,_,_,_,_,_,_,ha,fun n15 w16 h15=> ?_⟩
   refine store_i h15.has rfl rfl fun w17 H17 m17=> ?_
   have H17:Has w17 n15 #[.int .i64 y.i,.slice y.sl.p y.sl.n y.sl.c,.int .i64 y.lv,.int .i64 y.sz,.bool y.lk]:=H17
   have e15:=h15.num
   have g17:Grow u w17.drew:=(Mod.fresh h15.mod m17 (by omega)).trans (Mod.refl w17).drew
   have S17:=A.sr.grow g17
   have D17:=H17.grow (Mod.refl w17).drew
   refine ⟨Grow w17.drew,Mod.refl _,_,rfl,_,_,_,fun v gv=>cell_add (S17.at.grow gv) rfl,_,_,_,_,_,_,_,fun v gv=> ⟨cell_add (D17.grow gv) rfl,cell_add (D17.grow gv) rfl,cell_add (D17.grow gv) rfl,cell_add (D17.grow gv) rfl,cell_add (D17.grow gv) rfl,trivial⟩,?_⟩
   have oky:okH y:=A.sm.mem (fun u v e hu=>by unfold okH at*;simp only [hid,Prod.mk.injEq] at e;obtain ⟨_,_,e3,e4,e5⟩:=e;rw [← e3,← e4,← e5];exact hu) hok y hym
   refine (locked_ok S17 g (S17.hr id y hym) oky.2.2.2).mono ?_
   rintro e w26 ⟨r27,rfl,g26⟩
   refine ⟨_,rfl,g26,?_⟩
   have G26:=g17.trans g26
   have R26:=r1.grow G26
   have S26:=A.sr.grow G26
   refine hs_lk R26 t rfl (by omega) (by omega) r27 fun w29 r29 m29=> ?_
   rw [← hy] at r29
   have Q:=S26.haveS m29 r29 (by show (hv1.set _ _).length=hv1.length;simp) fun v hv=>by
    rcases List.mem_or_eq_of_mem_set hv with e|e
    · exact S26.hr id v e
    · subst e;exact S26.hr id y hym
   have Q1:SR w0 w29 B (reL L w.heap.size 0) N {x with hv:=hv1.set t {y with lk:=r27}}:=Q.1
   refine ⟨_,rfl,_,_,_,cell_add Q1.at rfl,(r29.vr hcEnc).ix hc0 (by omega) (by simp;omega) (by show (t:Int)< (x.hs.n:Int);omega) fun a32 h32=> ?_⟩
   rw [Int.toNat_natCast,show (hv1.set t {y with lk:=r27}).getD t hc0= {y with lk:=r27} by simp [List.getD,show t<hv1.length by omega]] at h32
   refine ⟨y.lv,y.sz,r27,cells_sub (k:=2) (i:=0) h32.2.2,fun n36 w37 h36=> ?_⟩
   have e36:=h36.num
   have sz37:=h36.size
   have G37:Mod (fun k=>blk x.hs.p=some k) u w37:=(G26.mono fun _ _ e=>e.elim:Mod (fun k=>blk x.hs.p=some k) u w26).then (m29.then h36.mod fun _ _ e=>e.elim) fun _ _ e=>e
   have rl:=A.row.keep G37 fun b hb e=>by
    have h1:=A.fr b hb
    have h2:=(h.hv id).1.lt b e
    omega
   refine Row.app Re.lrE sl_lrnC rl (lr_vr (v:=(y.lv,y.sz,r27)) h36.has) rfl rfl (by have:=A.len;simp;omega) fun w38 p' c' o8 m8 hp' hz'=> ?_
   have S37:=Q1.grow h36.mod
   have hsz:=A.kp.mod.size
   have s37:=G37.size
   have m8':Mod (fun k=>reL L w.heap.size 0 k=0∧w0.heap.size≤k) w37 w38:=m8.mono fun k _ e=>loA_lb h (A.fr k e)
   have S38:=S37.loc (L':=reL L w.heap.size 0) m8' fun _ _=>rfl
   have kk:=(((A.kp.trans (Chg.grow G26)).trans (Q.2.weak fun i e=>by rw [e];decide)).trans (Chg.grow h36.mod)).trans (S38.2.weak fun i e=>by rw [e];decide)
   refine ⟨_,?_,t+1,hv1.set t {y with lk:=r27},ll++ [(y.lv,y.sz,r27)],wN (by omega) (by omega),by omega,rfl,rfl,⟨by rw [List.length_append,A.len];rfl,fun v hv=> ?_,o8,fun b hb=> ?_,S38.1,kk,A.sm.set (by omega) (by rw [← hy];rfl)⟩⟩
   · omega
   · rcases List.mem_append.1 hv with hv|hv
     · exact A.ok v hv
     · rw [List.mem_singleton] at hv;subst hv
       unfold RedP.okL
       obtain ⟨o1,o2,o3,o4⟩:=oky
       simp;omega
   · rcases hp' with rfl|rfl
     · exact A.fr b hb
     · have:=blk_some hb;omega
 · have r:t=x.hv.length:=by rw [hhn] at r;simp at r;omega
   subst r
   exact hk _ _ _ _ _ A
end
end Go.Proofs.YtddffgjagppimaaGreat.W
