/- Layer 12: what is learned of a broken clause. -/
import Derived.Test.YtabengnadcleeaaGreatLearnA
import Derived.Test.YtabengnadcleeaaGreatFwMapA
namespace Go.Proofs.YtabengnadcleeaaGreat.W.Le
open Go Go.Fw Go.RowKit Go.SoP Go.LiP Go.LeP
section
variable {W0 w w':World} {p q:Option Addr} {n c m d ns b1 b2 nb:Nat} {tr:List As} {l:List Int} {s:Int→Bool}
theorem TV.ix2 (h:TV w p tr) (g:Grow w w') (hn:n=tr.length) {X:Int} (i:Nat) (e:X=i) (hi:i<tr.length) {K:Addr→Prop}
 (hk: ∀a (s:Sl),CellsAt w' a 0 [.int .i64 (nth tr i).lit,.int .i64 (nth tr i).lev,.slice s.p s.n s.c]→s.n=(nth tr i).rs.length→s.n≤maxLen→Vw (Value.int .i64) w s.p (nth tr i).rs→K a):ixK p n X 3 K:=by
 subst e hn
 obtain ⟨a,s,rfl,hc,h1,h2,h3⟩:=h i hi
 exact ⟨a,rfl,by omega,by omega,hk _ s (by rw [Int.toNat_natCast];exact CellsAt.keep g id hc) h1 h2 h3⟩
theorem top_in {k:List Int} {L L0 N P:Int} {kk:Nat} (T:TopR tr k L N P) (I:In tr L0 k kk):N=cntL tr k L0∧(0<N→∃x∈k,lv tr x=L0∧(atN tr (am x):Int)=P∧∀y∈k,lv tr y=L0→(atN tr (am y):Int)≤P):=by
 rcases T with ⟨rfl,h1,h2,h3⟩| ⟨h1,h2,h3,⟨x,hx,hl,hp⟩,h5⟩
 · exact ⟨h2,fun e=>by omega⟩
 · have e:L=L0:=by
    have:=I.le x hx
    rcases I.top with e|e
    · rw [e] at hx;simp at hx
    · obtain ⟨y,hy,hly⟩:=cnt_pos.1 e
      have:=h1 y hy
      omega
   subst e
   exact ⟨h2,fun _=> ⟨x,hx,hl,hp,h5⟩⟩
theorem top_mx {k:List Int} {L N P:Int} (ok:TrOk tr) (hb: ∀x∈k,Br1 tr x) (T:TopR tr k L N P):mxL tr k=L:=by
 rcases T with ⟨rfl,h1,h2,h3⟩| ⟨h1,h2,h3,⟨x,hx,hl,hp⟩,h5⟩
 · subst h1;rfl
 · refine mxL_eq ?_ h1 (.inr ⟨x,hx,hl⟩)
   have:=ok.nn (hb x hx).lt
   rw [← hl];exact this
theorem learnL_ok (h:TV w p tr) (hn:n=tr.length) (hc:Vw (Value.int .i64) w q l) (hk:m=l.length) (hx:m≤maxLen):
 Calls Tryz.prog learn_Learn.id #[.slice p n c,.slice q m d] w fun e w'=> ∃ (q2:Option Addr) (d2:Nat) (o:List Int),o=(if mayL tr l then lnd tr l else [])∧e= .returned (.tuple #[.slice q2 o.length d2,.int .i64 (if mayL tr l then 0 else 1)])∧OwI ty_int w' q2 d2 o∧Grow w w':=by
 refine learn_Learn.calls ?_
 refine (learnCheck_ok h hn hc hk hx).mono ?_
 rintro e w1 ⟨rfl,g1⟩
 refine ⟨_,rfl,cnd_i (fun r=> ?_) (fun r=> ?_)⟩
 · have r:mayL tr l=false:=by
    cases e:mayL tr l with
    |false=>rfl
    |true=>rw [e] at r;simp at r
   rw [r]
   exact ⟨none,0,[],rfl,rfl,Ow.nil _ _ _,g1⟩
 have r:mayL tr l=true:=by
  cases e:mayL tr l with
  |true=>rfl
  |false=>rw [e] at r;simp at r
 rw [r]
 have r':=r
 unfold mayL at r'
 simp only [Bool.and_eq_true] at r'
 obtain ⟨⟨r1,r2⟩,r3⟩:=r'
 obtain ⟨ok,hl⟩:=mayT_ok r1
 have hB:=brk_iff.1 r3
 obtain ⟨hlit,hlen⟩:=clB_all r2
 refine (places_ok (h.grow g1) hn ok hl).mono ?_
 rintro e w3 ⟨b,rfl,M3,g3,fb⟩
 refine ⟨_,rfl,fun n5 w6 h6 n7 w8 h8=> ?_⟩
 have e5:=h6.num
 have e7:=h8.num
 have s1:=g1.size
 have s3:=g3.size
 have s6:=h6.size
 have lb:=M3.lt
 have S8:Stu w w8 n7 p n c tr b n5:=⟨h,hn,ok,hl,((g1.trans g3).trans h6.mod).trans h8.mod,h8.has,(M3.grow h6.mod).grow h8.mod,by omega,by omega,by omega⟩
 have M8:MS Tryz.prog ty_int ty_bool w8 n5 0 fun _=>false:=(MS.new h6).grow h8.mod
 refine (add_ok S8 M8 hc hk (by omega) hlit 0).mono ?_
 rintro e w9 ⟨rfl,S9,nb9,s9,hnb9,M9,hs9⟩
 have hs9': ∀x,s9 x=true↔x∈norm l:=fun x=>by
  rw [hs9 x,(norm_isN l).mem x]
  constructor
  · intro e;simp at e;exact e.1
  · intro e
    have:=litB_bd (hlit x e)
    simp [e,this.1]
 have hBn: ∀x∈norm l,Br1 tr x:=fun x hx=>hB x (((norm_isN l).mem x).1 hx)
 refine ⟨rfl,(top_ok S9 M9 hs9' (nodup_of_strict (norm_isN l).st) hBn).mono ?_⟩
 rintro e w10 ⟨L,N,P,rfl,T,g10⟩
 have hL:=top_mx ok hBn T
 refine ⟨_,_,_,rfl,?_⟩
 refine ⟨fun N P u z=> ∃ (k:List Int) (nb:Nat) (s:Int→Bool) (L':Int),TopR tr k L' N P∧In tr L k z∧z≤tr.length∧lrn tr L tr.length (norm l)=lrn tr L z k∧Stu w u n7 p n c tr b n5∧MS Tryz.prog ty_int ty_bool u n5 nb s∧(∀x,s x=true↔x∈k)∧nb≤4096+256* (tr.length - z),
  ⟨tr.length,norm l,nb9,s9,L,T,hL▸in0 ok hB,Nat.le_refl _,rfl,S9.grow g10,M9.grow g10,hs9',by omega⟩,?_⟩
 rintro N1 P1 w19 z _ ⟨k,nb,s,L',T1,I1,hz,hlr,S,M,hs,hnb⟩
 obtain ⟨hN,hP⟩:=top_in T1 I1
 refine cnd_i (fun r=> ?a1) (fun r=>cnd_i (fun r1=>cnd_i (fun r2=> ?a2) (fun r2=> ?b1)) (fun r1=> ?b2))
 case' a1=>have hneg: ¬(cntL tr k L=0∨cntL tr k L=1∧0<L):=by simp at r;omega
 case' a2=>have hneg: ¬(cntL tr k L=0∨cntL tr k L=1∧0<L):=by simp at r1 r2;omega
 case' b1=>have hst:cntL tr k L=0∨cntL tr k L=1∧0<L:=by have:=mxL_nn tr (norm l);simp at r1 r2;omega
 case' b2=>have hst:cntL tr k L=0∨cntL tr k L=1∧0<L:=by simp at r r1;omega
 case b1|b2=>
  refine (ordered_ok S M hs (nodup_of_strict I1.nd) I1.br).mono ?_
  rintro e w56 ⟨q2,d2,rfl,O,g56⟩
  have:lnd tr l=ordL tr k:=by
   unfold lnd
   rw [hL,hlr,lrn_stop hst]
  refine ⟨_,_,_,rfl,q2,d2,_,rfl,?_,?_,S.G.trans g56⟩
  · rw [if_pos rfl,if_pos rfl,this]
  · rw [if_pos rfl,this];exact O
 case a1|a2=>
  obtain ⟨x,hx,hlx,hPx,hmax⟩:=hP (by omega)
  clear hP
  have hbx:=I1.br x hx
  generalize hpp:atN tr (am x)=pp at*
  have hp:pp<tr.length:=hpp▸hbx.lt
  have hlit':x= -(nth tr pp).lit:=by have:=hbx.eq;rw [hpp] at this;omega
  have hlev:(nth tr pp).lev=L:=by rw [← hlx];unfold lv;rw [hpp]
  obtain ⟨I2,hlr2,hrs,hpz⟩:=I1.step ok hneg hp hlev (hlit'▸hx) fun y hy hly=>by have:=hmax y hy hly;omega
  obtain ⟨rl,rm,rb⟩:=ok.reason hp hrs
  have hil:=ok.isl pp hp
  have hbl:=litB_bd hil
  have hri: ∀y∈(nth tr pp).rs,isL y=true:=fun y hy=>by
   by_cases e:y=(nth tr pp).lit
   · rw [e];exact hil
   · exact (rb y hy e).1.isl
  refine TV.ix2 h S.G hn pp hPx.symm hp fun a sl C e1 e2 v=> ⟨_,_,_,_,_,C,fun n24 w25 h25=>asCopy h25 fun w26 H G26=> ?_⟩
  have en:=h25.num
  have G26':=G26.trans (Mod.refl w26).drew
  have S26:=S.grow G26'
  have M26:=M.grow G26'
  have lm:=M.lt
  obtain ⟨w30,hr,M30,m30⟩:=M26.del mapB_in (a:= -(nth tr pp).lit) (wf_lit (isL_neg hil)) 0
  have S30:=S26.put m30
  have H30:Has w30 n24 _:=H.drew.keep m30 fun (e:n24=_)=>by omega
  have ew:IntKind.i64.wrap (0 - (nth tr pp).lit)= -(nth tr pp).lit:=by rw [wrap64_of (by omega) (by omega),Int.zero_sub]
  refine ⟨_,rfl,_,cell_add S26.h rfl,_,cell_add H.drew rfl,w30,by rw [ew];exact hr,_,_,_,cell_add H30 rfl,_,cell_add H30 rfl,(add_ok S30 M30 v e1 (by omega) hri _).mono ?_⟩
  rintro e w33 ⟨rfl,S33,nb',s',hnb',M33,hs'⟩
  have hs2: ∀y,s' y=true↔y∈stepN tr pp k:=fun y=>by
   rw [hs' y,stepN_mem,Bool.or_eq_true,decide_eq_true_eq]
   refine or_congr ?_ Iff.rfl
   by_cases e:y= -(nth tr pp).lit
   · rw [if_pos e];simp [e]
   · rw [if_neg e,hs y];exact ⟨fun a=> ⟨a,e⟩,fun a=>a.1⟩
  refine ⟨rfl,(top_ok S33 M33 hs2 (nodup_of_strict I2.nd) I2.br).mono ?_⟩
  rintro e w34 ⟨L2,N2,P2,rfl,T2,g34⟩
  exact ⟨_,_,_,rfl,pp,hpz,_,nb',s',L2,T2,I2,by omega,hlr.trans hlr2,S33.grow g34,M33.grow g34,hs2,by omega⟩
end
section
variable {W0 w w':World} {p q:Option Addr} {n c m d ns b1 b2 nb:Nat} {tr:List As} {l:List Int} {s:Int→Bool}
theorem mxL_succ {k:List Int} {t:Nat} (h:t<k.length):mxL tr (k.take (t+1))=if lv tr (k.getD t 0)>mxL tr (k.take t) then lv tr (k.getD t 0) else mxL tr (k.take t):=by
 unfold mxL
 have:k[t]? =some (k.getD t 0):=by simp [List.getD,h]
 rw [List.take_add_one,this,List.foldl_append];rfl
theorem strictO_nodup {k:List Int} (h:StrictO tr k):k.Nodup:=h.imp fun {a b} hab e=>by subst e;exact cmpO_irr tr a hab
theorem filter_succ {f:Int→Bool} {k:List Int} {t:Nat} (h:t<k.length):(k.take (t+1)).filter f=(k.take t).filter f++ (if f (k.getD t 0) then [k.getD t 0] else []):=by
 have:k[t]? =some (k.getD t 0):=by simp [List.getD,h]
 rw [List.take_add_one,this,List.filter_append]
 generalize k.getD t 0=x
 cases hf:f x<;>simp [hf]
end
end Go.Proofs.YtabengnadcleeaaGreat.W.Le
namespace Go.Fw
open Go Go.RowKit Go.Maps
variable {P:Program} {t k e:TypeId} {w w':World} {b n:Nat} {s h:Int→Bool}
def MK (P:Program) (k e:TypeId) (w:World) (b n:Nat) (s h:Int→Bool):Prop:=
 ∃D:DataW Unit,w.ownsMap P k (plainElem P e) b n D∧(∀a:Int,D.atKey (.int .i64 a) (.lit (.bool false))= .lit (.bool (s a)))∧∀a:Int,Maps.has D (.int .i64 a)=h a
theorem MK.mb (m:MK P k e w b n s h):MB P k e w b n s:=by obtain ⟨D,h1,h2,_⟩:=m;exact ⟨D,h1,h2⟩
theorem MK.lt (m:MK P k e w b n s h):b<w.heap.size:=m.mb.lt
theorem MK.keep {S:Nat→Prop} (h0:MK P k e w b n s h) (m:Mod S w w') (hs: ¬S b):MK P k e w' b n s h:=by
 have hl:=h0.lt
 obtain ⟨D,⟨es,clock,hb,h1⟩,hd⟩:=h0
 exact ⟨D,⟨es,clock,(m.block b hl hs).trans hb,h1⟩,hd⟩
theorem MK.grow (h0:MK P k e w b n s h) (m:Grow w w'):MK P k e w' b n s h:=h0.keep m id
theorem MK.new {b:Nat} (h0:New (.map #[] 0) w b w'):MK P k e w' b 0 (fun _=>false) fun _=>false:=by
 obtain ⟨rfl,rfl⟩:=h0
 exact ⟨.map [],World.ownsMap_made w P k _,fun a=>rfl,fun a=>rfl⟩
theorem MK.look (hm:mapB P t k e=true) (h0:MK P k e w b n s h) {a:Int} (ha:(Lit.int .i64 a).wf=true):(Instr.lookup t (.map (some b)) (.int .i64 a) true).run P w= .ok (.tuple #[.bool (s a),.bool (h a)]) w:=by
 obtain ⟨ht,hk,he,hz⟩:=mapB_spec hm
 obtain ⟨D,h0,hd,hh⟩:=h0
 obtain ⟨v,ps,hr,hv⟩:=h0.look_ok (int_keyed hk) ht (hz w) (plainElem_bool he false) (keyOf_int_mk hk ha)
 rw [hd a] at hv
 have:v= .bool (s a):=by
  unfold plainElem at hv
  rw [he] at hv
  cases v<;>simp_all
 rw [hr,this,hh a]
theorem MK.put (hm:mapB P t k e=true) (h0:MK P k e w b n s h) (hn:n<maxLen) {a:Int} (ha:(Lit.int .i64 a).wf=true) (v:Bool):
 ∃w',(Instr.mapUpdate t (.map (some b)) (.int .i64 a) (.bool v)).run P w= .ok () w'∧MK P k e w' b (n+1) (fun u=>if u=a then v else s u) (fun u=>if u=a then true else h u)∧Mod (·=b) w w':=by
 obtain ⟨ht,hk,he,hz⟩:=mapB_spec hm
 obtain ⟨D,h0,hd,hh⟩:=h0
 have him:=h0.isMap
 obtain ⟨w',hr,h',hg⟩:=h0.update (int_keyed hk) ht hn (keyOf_int_mk hk ha) (plainElem_bool (H:=Unit) he v)
 refine ⟨w',hr,⟨_,h',fun u=> ?_,fun u=> ?_⟩,⟨hg.os,hg.tape,hg.output,hg.size,fun i hi hn=>hg.block i hi fun e=>hn (Option.some.inj e)⟩⟩
 · by_cases hu:u=a
   · subst hu
     exact (atKey_put_same him (show WideAt.IsKeyLit (.int .i64 u) from trivial) _ _).trans (by simp)
   · exact ((atKey_put_other (fun e=>hu (by injection e)) _ _).trans (hd u)).trans (by simp [hu])
 · by_cases hu:u=a
   · subst hu
     exact (has_put_same him (show WideAt.IsKeyLit (.int .i64 u) from trivial) _).trans (by simp)
   · exact ((has_put_other (fun e=>hu (by injection e)) _).trans (hh u)).trans (by simp [hu])
end Go.Fw
namespace Go.Proofs.YtabengnadcleeaaGreat.W.Le
open Go Go.Fw Go.RowKit Go.SoP Go.LiP Go.LeP
open Go.Proofs.Tryz (prog)
section
variable {W0 w w' W u:World} {p q:Option Addr} {n c m d ns b1 b2 b3 nb:Nat} {tr:List As} {l ld:List Int} {s h:Int→Bool}
def idP (tr:List As) (ld:List Int) (lit x:Int):Bool:=x==lit||decide (lv tr x≤0)||decide (x∈ld)||idle tr ld x
theorem idle_eqP (ok:TrOk tr) {x:Int} (hx:atN tr (am x)<tr.length):idle tr ld x=(!(nth tr (atN tr (am x))).rs.isEmpty && (nth tr (atN tr (am x))).rs.all (idP tr ld (nth tr (atN tr (am x))).lit)):=idle_eq ok hx
def cntK (tr:List As) (h:Int→Bool):Nat:=(List.range tr.length).countP fun i=>h (am (nth tr i).lit)
theorem countP_step {L:List Nat} {f g:Nat→Bool} {i:Nat} (hi:i∈L) (h0:f i=false) (h1:g i=true) (hm: ∀j,f j=true→g j=true):L.countP f+1≤L.countP g:=by
 induction L with
 |nil=>simp at hi
 |cons a L ih=>
  rw [List.countP_cons,List.countP_cons]
  have hle:L.countP f≤L.countP g:=List.countP_mono_left fun j _=>hm j
  by_cases e:i=a
  · subst e
    rw [h0,h1]
    simp;omega
  · have:=ih ((List.mem_cons.1 hi).resolve_left e)
    have h3:(if f a=true then 1 else 0)≤(if g a=true then 1 else 0):=by
     by_cases e2:f a=true
     · rw [if_pos e2,if_pos (hm a e2)];exact Nat.le_refl _
     · rw [if_neg e2];omega
    omega
structure Kn (W0 w:World) (ns:Nat) (p:Option Addr) (n c:Nat) (tr:List As) (b1 b2 b3:Nat) (ld:List Int) (h:Int→Bool):Prop where
 S:Stu W0 w ns p n c tr b1 b2
 M: ∃nb s,MS prog ty_int ty_bool w b2 nb s∧∀x,s x=decide (x∈ld)
 K: ∃nk s,MK prog ty_int ty_bool w b3 nk s h∧nk≤cntK tr h∧∀x,Br1 tr x→h (am x)=true→s (am x)=idle tr ld x
 d1:b1≠b3
 d2:b2≠b3
 d3:ns≠b3
 f:W0.heap.size≤b3
theorem Kn.grow (k:Kn W0 w ns p n c tr b1 b2 b3 ld h) (m:Grow w w'):Kn W0 w' ns p n c tr b1 b2 b3 ld h:=by
 obtain ⟨S,⟨nb,s,M,hs⟩,⟨nk,s2,K,hk,hi⟩,d1,d2,d3,f⟩:=k
 exact ⟨S.grow m,⟨nb,s,M.grow m,hs⟩,⟨nk,s2,K.grow m,hk,hi⟩,d1,d2,d3,f⟩
theorem Kn.put (k:Kn W0 w ns p n c tr b1 b2 b3 ld h) {x:Int} (hB:Br1 tr x) (h0:h (am x)=false):
 ∃w',(Instr.mapUpdate ty_map_int_bool (.map (some b3)) (.int .i64 (am x)) (.bool (idle tr ld x))).run prog w= .ok () w'∧Kn W0 w' ns p n c tr b1 b2 b3 ld (fun u=>if u=am x then true else h u)∧Mod (·=b3) w w':=by
 obtain ⟨S,⟨nb,s,M,hs⟩,⟨nk,s2,K,hk,hi⟩,d1,d2,d3,f⟩:=k
 have hle:cntK tr h≤tr.length:=by
  have:cntK tr h≤(List.range tr.length).length:=List.countP_le_length
  simpa using this
 have hl:=S.hl
 obtain ⟨w',hr,K',m'⟩:=K.put mapB_in (by unfold maxLen;omega) (wf_am hB.isl) (idle tr ld x)
 refine ⟨w',hr,⟨S.keep m' (fun b (e:b=b3)=>by omega) (fun e=>d3 e) (fun e=>d1 e),⟨nb,s,M.keep m' (fun e=>d2 e),hs⟩,⟨nk+1,_,K',?_,fun y hy hh=> ?_⟩,d1,d2,d3,f⟩,m'⟩
 · have e0:am (nth tr (atN tr (am x))).lit=am x:=atN_hit hB.lt
   have:=countP_step (L:=List.range tr.length) (f:=fun i=>h (am (nth tr i).lit)) (g:=fun i=>if am (nth tr i).lit=am x then true else h (am (nth tr i).lit)) (i:=atN tr (am x)) (List.mem_range.2 hB.lt) (by show h (am (nth tr (atN tr (am x))).lit)=false;rw [e0];exact h0) (by rw [if_pos e0]) fun j hj=>by
    show (if am (nth tr j).lit=am x then true else h (am (nth tr j).lit))=true
    split
    · rfl
    · exact hj
   have e1:cntK tr h=(List.range tr.length).countP fun i=>h (am (nth tr i).lit):=rfl
   have e2:cntK tr (fun u=>if u=am x then true else h u)=(List.range tr.length).countP fun i=>if am (nth tr i).lit=am x then true else h (am (nth tr i).lit):=rfl
   omega
 · by_cases e:am y=am x
   · rw [if_pos e,hy.am hB e]
   · rw [if_neg e] at hh ⊢
     exact hi y hy hh
structure Zs (W u:World) (o:Option Nat):Prop where
 g:Grow W u
 z: ∀nc,o=some nc→Has u nc #[.int .i64 0,.int .i64 0,.slice none 0 0]∧W.heap.size≤nc
theorem Zs.grow {o:Option Nat} (z:Zs W u o) {v:World} (g:Grow u v):Zs W v o:=⟨z.g.trans g,fun nc e=> ⟨(z.z nc e).1.grow g,(z.z nc e).2⟩⟩
theorem Zs.new (z:Zs W u none) {nc:Nat} {v:World} (hn:New (.cells #[.int .i64 0,.int .i64 0,.slice none 0 0] ty_api_Assign) u nc v):Zs W v (some nc):=by
 refine ⟨z.g.trans hn.mod,fun k e=> ?_⟩
 obtain rfl:nc=k:=Option.some.inj e
 have:=z.g.size
 have:=hn.num
 exact ⟨hn.has,by omega⟩
theorem Zs.store {nc:Nat} (z:Zs W u (some nc)) {a b:Int} {sp:Option Addr} {sn sc:Nat} {K:World→Prop} (hk: ∀v,Has v nc #[.int .i64 a,.int .i64 b,.slice sp sn sc]→Grow W v→W.heap.size≤nc→K v):
 ∃v,StoreAt (Addr.mk nc 0 none) 0 [.int .i64 a,.int .i64 b,.slice sp sn sc] u v∧K v:=by
 obtain ⟨H,hf⟩:=z.z nc rfl
 exact store_i H rfl rfl fun v H' m=>hk v H' (Mod.fresh z.g m hf) hf
theorem idleP_ok: ∀ (n0:Nat) {w:World} {x:Int} {h:Int→Bool},Kn W0 w ns p n c tr b1 b2 b3 ld h→Br1 tr x→atN tr (am x)=n0→
 Calls prog learn_study_idle.id #[.pointer (some ⟨ns,0,none⟩),.int .i64 x,.map (some b3)] w fun e w'=>e= .returned (.bool (idle tr ld x))∧∃h',Kn W0 w' ns p n c tr b1 b2 b3 ld h'∧(∀v,h v=true→h' v=true)∧(∀v,h' v=true→h v=true∨atN tr v≤n0)∧Mod (·=b3) w w':=by
 intro n0
 induction n0 using Nat.strongRecOn with
 |_ n0 ih=>
 intro w x h k hB hn0
 subst hn0
 refine learn_study_idle.calls ?_
 have hbx:=litB_bd hB.isl
 refine (amount12_ok (by omega) (by omega) w).mono ?_
 rintro e w1 ⟨rfl,g1⟩
 have k1:=k.grow g1
 obtain ⟨nk,s,K,hk,hi⟩:=k1.K
 refine ⟨_,rfl,w1,_,_,K.look mapB_in (wf_am hB.isl),cnd_i (fun r=> ?_) (fun rK=> ?_)⟩
 · refine ⟨?_,h,k1,fun v hv=>hv,fun v hv=> .inl hv,g1.mono fun _ _ e=>e.elim⟩
   rw [hi x hB r]
 have k2:=k1.grow (Mod.refl w1).drew
 have G2:Grow w w1.drew:=g1.trans (Mod.refl w1).drew
 clear K hk hi k1
 generalize w1.drew=W at k2 G2
 have hl:=k2.S.hl
 have ok:=k2.S.ok
 have Z0:Zs W W none:=⟨Mod.refl _,fun nc e=>by simp at e⟩
 have am1: ∀ {u:World} {o:Option Nat} {Q:Ending→World→Prop},Zs W u o→(∀v,Zs W v o→Q (.returned (.int .i64 (am x))) v)→Calls prog learn_amount.id #[.int .i64 x] u Q:=fun {u o Q} z hQ=>by
  refine (amount12_ok (by omega) (by omega) u).mono ?_
  rintro e v ⟨rfl,g⟩
  exact hQ v (z.grow g)
 have look: ∀ {u:World} {o:Option Nat},Zs W u o→(Instr.lookup ty_map_int_int (.map (some b1)) (.int .i64 (am x)) false).run prog u= .ok (.int .i64 (atM tr (am x))) u:=fun z=> (k2.S.M.grow z.g).look mapI_at (wf_am hB.isl)
 obtain ⟨aT,sT,eT,cT,e1,e2,vT⟩:=k2.S.tv _ hB.lt
 have hid:=idle_eqP (ld:=ld) ok hB.lt
 have hrea:=fun hr=>ok.reason hB.lt hr
 have ix: ∀ {P:Addr→Prop},(∀a,(∀ {u:World} {o:Option Nat},Zs W u o→CellsAt u a 0 [.int .i64 (nth tr (atN tr (am x))).lit,.int .i64 (nth tr (atN tr (am x))).lev,.slice sT.p sT.n sT.c])→P a)→ixK p n (IntKind.i64.wrap (atM tr (am x) - 1)) 3 P:=fun hP=>by
  rw [atM_wrap hl hB.lt]
  have hn:=k2.S.hn
  have hlt:=hB.lt
  refine ⟨aT,eT,by omega,by omega,hP _ fun z=> ?_⟩
  rw [Int.toNat_natCast]
  exact CellsAt.keep (k2.S.G.trans z.g) id cT
 generalize hrs:(nth tr (atN tr (am x))).rs=rs at*
 generalize hlt:(nth tr (atN tr (am x))).lit=x0 at*
 generalize hlev:(nth tr (atN tr (am x))).lev=y0 at*
 refine ⟨fun a v=> ∃nc,a=⟨nc,0,none⟩∧Has v nc #[.int .i64 x0,.int .i64 y0,.slice sT.p sT.n sT.c]∧Grow W v∧W.heap.size≤nc,⟨Grow W,Mod.refl _,_,rfl,_,_,_,fun u gu=>cell_add (k2.S.h.grow gu) rfl,_,rfl,_,fun u gu=>cell_add (k2.S.h.grow gu) rfl,?_⟩,?_⟩
 · have zn: ∀ {u:World},Grow W u→Zs W u none:=fun gu=> ⟨gu,fun nc e=>by simp at e⟩
   have st: ∀ {u:World} {nc:Nat},Zs W u (some nc)→∃v,StoreAt (Addr.mk nc 0 none) 0 [.int .i64 x0,.int .i64 y0,.slice sT.p sT.n sT.c] u v∧∃nc2,(Addr.mk nc 0 none)=⟨nc2,0,none⟩∧Has v nc2 #[.int .i64 x0,.int .i64 y0,.slice sT.p sT.n sT.c]∧Grow W v∧W.heap.size≤nc2:=fun z=>z.store fun v H g hf=> ⟨_,rfl,H,g,hf⟩
   refine ⟨am1 Z0 fun v z=> ⟨_,rfl,z.g,⟨v,_,look z,z.g,ix fun a ca=> ⟨_,_,_,_,_,fun u gu=>ca (zn gu),fun nc v2 hn=> ⟨(z.new hn).g,st (z.new hn)⟩⟩⟩,fun nc v2 hn=> ⟨(z.new hn).g,v2,_,look (z.new hn),(z.new hn).g,ix fun a ca=> ⟨_,_,_,_,_,fun u gu=>ca (zn gu),st (z.new hn)⟩⟩⟩,fun nc v2 hn=> ⟨(Z0.new hn).g,am1 (Z0.new hn) fun v z=> ⟨_,rfl,z.g,v,_,look z,z.g,ix fun a ca=> ⟨_,_,_,_,_,fun u gu=>ca (zn gu),st z⟩⟩⟩⟩
 rintro a_43 v _ ⟨nc,rfl,H,G,hf⟩
 obtain ⟨nk,s,K,_,_⟩:=k2.K
 have lk:=K.lt
 refine ⟨_,_,_,cell_add H rfl,_,_,_,cell_add H rfl,?_⟩
 refine ⟨fun is I u z=> ∃ (t:Nat) (h1:Int→Bool),I=t∧t≤rs.length∧z=rs.length - t∧is=(!rs.isEmpty && (rs.take t).all (idP tr ld x0))∧Kn W0 u ns p n c tr b1 b2 b3 ld h1∧(∀v,h v=true→h1 v=true)∧(∀v,h1 v=true→h v=true∨atN tr v<atN tr (am x))∧Has u nc #[.int .i64 x0,.int .i64 y0,.slice sT.p sT.n sT.c]∧Mod (·=b3) w u,
  ⟨_,0,h,rfl,Nat.zero_le _,rfl,?_,k2.grow G,fun v hv=>hv,fun v hv=> .inl hv,H,(G2.trans G).mono fun _ _ e=>e.elim⟩,?_⟩
 · rw [e1];cases rs<;>simp
 clear H G K
 rintro is I w28 z _ ⟨t,h1,rfl,ht,rfl,rfl,k1,hm1,hm2,H,mm⟩
 refine cnd_i (fun r=> ?_) (fun r=> ?_)
 · have r:t<rs.length:=by simp at r;omega
   have hne:rs≠[]:=fun e=>by rw [e] at r;simp at r
   obtain ⟨rl,rm,rb⟩:=hrea hne
   have hie:rs.isEmpty=false:=List.isEmpty_eq_false_iff.2 hne
   rw [hie]
   have et:(rs.take (t+1)).all (idP tr ld x0)=((rs.take t).all (idP tr ld x0) && idP tr ld x0 (rs.getD t 0)):=by
    have:rs[t]? =some (rs.getD t 0):=by simp [List.getD,r]
    rw [List.take_add_one,this,List.all_append];simp
   refine (vT.grow k1.S.G).ix 0 (by omega) e1 (by omega) fun a e=> ⟨_,e,?_⟩
   rw [Int.toNat_natCast]
   refine ⟨fun v u=>u=w28∧v=((rs.take t).all (idP tr ld x0) && (rs.getD t 0 !=x0)),?_,?_⟩
   · refine cnd_i (fun r2=> ⟨_,cell_add H rfl,rfl,?_⟩) (fun r2=> ⟨rfl,?_⟩)
     · have r2:(rs.take t).all (idP tr ld x0)=true:=by simpa using r2
       rw [r2];rfl
     · have r2:(rs.take t).all (idP tr ld x0)=false:=by simpa using r2
       rw [r2];rfl
   rintro v57 w58 _ ⟨rfl,rfl⟩
   refine cnd_i (fun r3=> ?_) (fun r3=> ⟨_,?_,t+1,h1,wN (by omega) (by omega),by omega,rfl,?_,k1,hm1,hm2,H,mm⟩)
   · rw [Bool.and_eq_true] at r3
     obtain ⟨r2,r3⟩:=r3
     rw [r2] at et
     have nxt: ∀ {u:World},Grow w58 u→idP tr ld x0 (rs.getD t 0)=true→∃k25,k25<rs.length - t∧∃ (t2:Nat) (h1:Int→Bool),IntKind.i64.wrap ((t:Int)+1)=t2∧t2≤rs.length∧k25=rs.length - t2∧true=(!false && (rs.take t2).all (idP tr ld x0))∧Kn W0 u ns p n c tr b1 b2 b3 ld h1∧(∀v,h v=true→h1 v=true)∧(∀v,h1 v=true→h v=true∨atN tr v<atN tr (am x))∧Has u nc #[.int .i64 x0,.int .i64 y0,.slice sT.p sT.n sT.c]∧Mod (·=b3) w u:=fun g hp=>
      ⟨_,by omega,t+1,h1,wN (by omega) (by omega),by omega,rfl,by rw [et,hp];rfl,k1.grow g,hm1,hm2,H.grow g,mm.grow g⟩
     have r3:rs.getD t 0≠x0:=by simpa using r3
     obtain ⟨hBy,hlty⟩:=rb _ (mem_getD r) r3
     have hlv:=lv_bd ok hl hBy
     refine (level_ok k1.S hBy).mono ?_
     rintro e w32 ⟨rfl,g32⟩
     refine ⟨_,rfl,cnd_i (fun r4=>nxt g32 (by unfold idP;rw [decide_eq_true (show lv tr (rs.getD t 0)≤0 by have:=beq_iff_eq.1 r4;omega)];simp)) (fun r4=> ?_)⟩
     have k32:=k1.grow g32
     obtain ⟨nb,s2,M2,hs2⟩:=k32.M
     have hlk:=M2.look mapB_in (wf_lit hBy.isl)
     rw [hs2] at hlk
     refine ⟨_,rfl,_,cell_add k32.S.h rfl,w32,_,hlk,cnd_i (fun r5=>nxt g32 (by unfold idP;rw [r5];simp)) (fun r5=> ?_)⟩
     refine (ih _ hlty k32 hBy rfl).mono ?_
     rintro e w38 ⟨rfl,h2,k38,hn1,hn2,m38⟩
     have hsz:=G2.size
     refine ⟨_,rfl,_,?_,t+1,h2,wN (by omega) (by omega),by omega,rfl,?_,k38,fun v hv=>hn1 v (hm1 v hv),fun v hv=> ?_,(H.grow g32).keep m38 fun (e:nc=b3)=>by omega,(mm.grow g32).trans m38⟩
     · omega
     · rw [et]
       unfold idP
       rw [show (rs.getD t 0==x0)=false by simpa using r3,decide_eq_false (show ¬lv tr (rs.getD t 0)≤0 by have:=beq_eq_false_iff_ne.1 r4;omega),r5];simp
     · rcases hn2 v hv with e|e
       · exact hm2 v e
       · exact .inr (by omega)
   · omega
   · rw [et]
     cases e:(rs.take t).all (idP tr ld x0) with
     |false=>rfl
     |true=>
      rw [e] at r3
      have r4:rs.getD t 0=x0:=by simpa using r3
      rw [r4]
      unfold idP
      simp
 · have r:t=rs.length:=by simp at r;omega
   subst r
   rw [List.take_length,← hid]
   refine (amount12_ok (by omega) (by omega) w28).mono ?_
   rintro e w40 ⟨rfl,g40⟩
   have h0:h1 (am x)=false:=by
    cases e:h1 (am x) with
    |false=>rfl
    |true=>
     rcases hm2 _ e with e|e
     · rw [rK] at e;simp at e
     · omega
   obtain ⟨w42,hr,k42,m42⟩:=(k1.grow g40).put hB h0
   refine ⟨_,rfl,w42,hr,rfl,_,k42,fun v hv=> ?_,fun v hv=> ?_,(mm.grow g40).trans m42⟩
   · show (if v=am x then true else h1 v)=true
     split
     · rfl
     · exact hm1 v hv
   · by_cases e:v=am x
     · right;rw [e];exact Nat.le_refl _
     · have hv:(if v=am x then true else h1 v)=true:=hv
       rw [if_neg e] at hv
       rcases hm2 v hv with e|e
       · exact .inl e
       · right;omega
end
section
variable {W0 w w' W u:World} {p q:Option Addr} {n c m d ns b1 b2 b3 nb:Nat} {tr:List As} {l ld:List Int} {s h:Int→Bool}
theorem Kn.keep {S:Nat→Prop} (k:Kn W0 w ns p n c tr b1 b2 b3 ld h) (m:Mod S w w') (h0: ∀b,S b→W0.heap.size≤b) (h1: ¬S ns) (h2: ¬S b1) (h3: ¬S b2) (h4: ¬S b3):Kn W0 w' ns p n c tr b1 b2 b3 ld h:=by
 obtain ⟨S,⟨nb,s,M,hs⟩,⟨nk,s2,K,hk,hi⟩,d1,d2,d3,f⟩:=k
 exact ⟨S.keep m h0 h1 h2,⟨nb,s,M.keep m h3,hs⟩,⟨nk,s2,K.keep m h4,hk,hi⟩,d1,d2,d3,f⟩
def sh (tr:List As) (ld:List Int):List Int→List Int
 | []=> []
 |x::t=>x::t.filter fun y=>decide (0<lv tr y) && !idle tr ld y
theorem sh_all:sh tr ld ld=shr tr ld:=by cases ld<;>rfl
theorem sh_succ {k:List Int} {t:Nat} (h:t<k.length):sh tr ld (k.take (t+1))=sh tr ld (k.take t)++ (if t=0∨(decide (0<lv tr (k.getD t 0)) && !idle tr ld (k.getD t 0))=true then [k.getD t 0] else []):=by
 cases k with
 |nil=>simp at h
 |cons x k=>
  cases t with
  |zero=>simp [sh]
  |succ t=>
   have h':t<k.length:=by simpa using h
   have e:(x::k).getD (t+1) 0=k.getD t 0:=by simp
   rw [e,List.take_succ_cons,List.take_succ_cons]
   show x::_=(x::_)++_
   rw [filter_succ h',List.cons_append]
   congr 2
   by_cases hc:(decide (0<lv tr (k.getD t 0)) && !idle tr ld (k.getD t 0))=true
   · rw [if_pos hc,if_pos (.inr hc)]
   · rw [if_neg hc,if_neg (by rintro (e|e);omega;exact hc e)]
theorem sh_len (k:List Int):(sh tr ld k).length≤k.length:=by
 cases k with
 |nil=>exact Nat.le_refl _
 |cons x t=>simp [sh];exact List.length_filter_le _ _
def SInv (w w17:World) (n13:Nat) (p:Option Addr) (n c:Nat) (tr:List As) (b n11 n16:Nat) (ld:List Int) (P:Option Addr) (N C:Nat) (I:Int) (u:World) (z:Nat):Prop:=
 ∃ (t:Nat) (h:Int→Bool),I=t∧t≤ld.length∧z=ld.length - t∧N=(sh tr ld (ld.take t)).length∧OwI ty_int u P C (sh tr ld (ld.take t))∧(∀b,blk P=some b→w17.heap.size≤b)∧Kn w u n13 p n c tr b n11 n16 ld h∧w17.heap.size≤u.heap.size
theorem learnShorten_ok (h:TV w p tr) (hn:n=tr.length) (hmay:mayT tr=true) (hq:Vw (Value.int .i64) w q ld) (hk:m=ld.length) (hx:m≤100000) (hb: ∀x∈ld,Br1 tr x):
 Calls prog learn_Shorten.id #[.slice p n c,.slice q m d] w fun e w'=> ∃ (q2:Option Addr) (d2:Nat),e= .returned (.slice q2 (shr tr ld).length d2)∧OwI ty_int w' q2 d2 (shr tr ld)∧Grow w w'∧∀b,blk q2=some b→w.heap.size≤b:=by
 refine learn_Shorten.calls ?_
 obtain ⟨ok,hl⟩:=mayT_ok hmay
 refine (sound_ok h hn).mono ?_
 rintro e w1 ⟨rfl,g1⟩
 refine ⟨_,rfl,cnd_f (by rw [hmay];rfl) ?_⟩
 refine (breaks_ok (h.grow g1) hn ok hl (hq.grow g1) hk (by unfold maxLen;omega) fun x hx=> (hb x hx).isl).mono ?_
 rintro e w5 ⟨rfl,g5⟩
 refine ⟨_,rfl,cnd_f (by rw [brk_iff.2 hb];rfl) ?_⟩
 have G5:=g1.trans g5
 refine (places_ok (h.grow G5) hn ok hl).mono ?_
 rintro e w9 ⟨b,rfl,M9,g9,fb⟩
 refine ⟨_,rfl,fun n11 w12 h12 n13 w14 h14=> ?_⟩
 have e11:=h12.num
 have e13:=h14.num
 have s5:=G5.size
 have s9:=g9.size
 have s12:=h12.size
 have s14:=h14.size
 have lb:=M9.lt
 have S14:Stu w w14 n13 p n c tr b n11:=⟨h,hn,ok,hl,((G5.trans g9).trans h12.mod).trans h14.mod,h14.has,(M9.grow h12.mod).grow h14.mod,by omega,by omega,by omega⟩
 have M14:MS prog ty_int ty_bool w14 n11 0 fun _=>false:=(MS.new h12).grow h14.mod
 refine (add_ok S14 M14 hq hk (by omega) (fun x hx=> (hb x hx).isl) 0).mono ?_
 rintro e w15 ⟨rfl,S15,nb15,s15,_,M15,hs15⟩
 refine ⟨rfl,fun n16 w17 h17=> ?_⟩
 have e16:=h17.num
 have s17:=h17.size
 have l15:=M15.lt
 have lb15:=S15.M.lt
 have ln15:=S15.h.lt
 have sG:=S15.G.size
 have k17:Kn w w17 n13 p n c tr b n11 n16 ld fun _=>false:=by
  refine ⟨S15.grow h17.mod,⟨nb15,s15,M15.grow h17.mod,fun x=> ?_⟩,⟨0,_,MK.new h17,Nat.zero_le _,fun x _ e=>by simp at e⟩,by omega,by omega,by omega,by omega⟩
  rw [hs15 x,Bool.false_or]
  refine decide_eq_decide.2 ⟨fun h=>h.1,fun h=> ⟨h,fun e=> ?_⟩⟩
  have:=litB_bd (hb x h).isl
  exact this.1 e
 refine ⟨SInv w w17 n13 p n c tr b n11 n16 ld,⟨_,0,_,rfl,Nat.zero_le _,rfl,rfl,Ow.nil _ _ _,fun b hb=>by simp [blk] at hb,k17,Nat.le_refl _⟩,?_⟩
 rintro P N C I w23 z _ ⟨t,hh,rfl,ht,rfl,rfl,O,fr,K,z23⟩
 refine cnd_i (fun r=> ?_) (fun r=> ?_)
 · have r:t<ld.length:=by simp at r;omega
   have hlen:=sh_len (tr:=tr) (ld:=ld) (ld.take t)
   have hlt:=List.length_take_le t ld
   refine (hq.grow K.S.G).ix 0 (by omega) hk (by omega) fun a e=> ⟨_,e,?_⟩
   rw [Int.toNat_natCast]
   have hB:=hb _ (mem_getD r)
   have es:=sh_succ (tr:=tr) (ld:=ld) r
   have lk23:=K.S.h.lt
   have app: ∀ {u:World} {hh:Int→Bool},OwI ty_int u P C (sh tr ld (ld.take t))→Kn w u n13 p n c tr b n11 n16 ld hh→w17.heap.size≤u.heap.size→(t=0∨(decide (0<lv tr (ld.getD t 0)) && !idle tr ld (ld.getD t 0))=true)→∀n26 w27,New (.cells #[.int .i64 (ld.getD t 0)] 3) u n26 w27→
    ∃w28 r29p r29n r29c,(Builtin.append_ #[ty_sl_int,ty_sl_int] ty_sl_int #[.slice P (sh tr ld (ld.take t)).length C,.slice (some (Addr.mk n26 0 none)) 1 1]).run prog w27= .ok (.slice r29p r29n r29c) w28∧
    ∃k20,k20<ld.length - t∧SInv w w17 n13 p n c tr b n11 n16 ld r29p r29n r29c (IntKind.i64.wrap ((t:Int)+ (1:Int))) w28 k20:=by
    intro u hh O K zu hc n26 w27 h27
    rw [if_pos hc] at es
    have e26:=h27.num
    have s27:=h27.size
    refine (O.grow h27.mod).app1 sl_int _ h27.has rfl rfl oneInt (by omega) fun w28 p' c' o' m' hp' hs'=> ?_
    refine ⟨_,?_,t+1,hh,wN (by omega) (by omega),by omega,rfl,by rw [es,List.length_append];rfl,by rw [es];exact o',fun b hb=> ?_,(K.grow h27.mod).keep m' (fun b e=> ?_) (fun e=> ?_) (fun e=> ?_) (fun e=> ?_) (fun e=> ?_),by omega⟩
    · omega
    · rcases hp' with rfl|rfl
      · exact fr b hb
      · have:=blk_some hb;omega
    all_goals
     have:=fr _ e
     omega
   have skip: ∀ {u:World} {hh:Int→Bool},OwI ty_int u P C (sh tr ld (ld.take t))→Kn w u n13 p n c tr b n11 n16 ld hh→w17.heap.size≤u.heap.size→¬(t=0∨(decide (0<lv tr (ld.getD t 0)) && !idle tr ld (ld.getD t 0))=true)→
    ∃k20,k20<ld.length - t∧SInv w w17 n13 p n c tr b n11 n16 ld P (sh tr ld (ld.take t)).length C (IntKind.i64.wrap ((t:Int)+ (1:Int))) u k20:=by
    intro u hh O K zu hc
    rw [if_neg hc,List.append_nil] at es
    exact ⟨_,by omega,t+1,hh,wN (by omega) (by omega),by omega,rfl,by rw [es],by rw [es];exact O,fr,K,zu⟩
   refine cnd_i (fun r2=>app O K z23 (.inl (by simp at r2;omega))) (fun r2=> ?_)
   have r2:t≠0:=by intro e;subst e;simp at r2
   refine (level_ok K.S hB).mono ?_
   rintro e w30 ⟨rfl,g30⟩
   have s30:=g30.size
   refine ⟨_,rfl,cnd_i (fun r3=> ?_) (fun r3=>skip (O.grow g30) (K.grow g30) (by omega) fun e=>by rcases e with e|e;exact r2 e;rw [Bool.and_eq_true] at e;rw [e.1] at r3;simp at r3)⟩
   refine (idleP_ok _ (K.grow g30) hB rfl).mono ?_
   rintro e w32 ⟨rfl,h2,k32,_,_,m32⟩
   have s32:=m32.size
   have O32:=(O.grow g30).keep m32 fun b hb (e:b=n16)=>by have:=fr b hb;omega
   refine ⟨_,rfl,cnd_i (fun r4=>app O32 k32 (by omega) (.inr ?_)) (fun r4=>skip O32 k32 (by omega) fun e=> ?_)⟩
   · rw [Bool.and_eq_true];exact ⟨r3,r4⟩
   · rcases e with e|e
     · exact r2 e
     · rw [Bool.and_eq_true] at e;rw [e.2] at r4;simp at r4
 · have r:t=ld.length:=by simp at r;omega
   subst r
   rw [List.take_length,sh_all] at O ⊢
   exact ⟨_,_,rfl,O,K.S.G,fun b hb=>by have:=fr b hb;omega⟩
theorem imax_mx {k:List Int} {t:Nat} (h:t<k.length):imax (mxL tr (k.take t)) (lv tr (k.getD t 0))=mxL tr (k.take (t+1)):=by
 rw [mxL_succ h];rfl
theorem learnBack_ok (h:TV w p tr) (hn:n=tr.length) (hmay:mayT tr=true) (hq:Vw (Value.int .i64) w q ld) (hk:m=ld.length) (hx:m≤100000) (hd:m≤d) (hb: ∀x∈ld,Br1 tr x):
 Calls prog learn_Back.id #[.slice p n c,.slice q m d] w fun e w'=>e= .returned (.int .i64 (if ld.isEmpty then -1 else mxL tr (ld.drop 1)))∧Grow w w':=by
 refine learn_Back.calls ?_
 obtain ⟨ok,hl⟩:=mayT_ok hmay
 refine (sound_ok h hn).mono ?_
 rintro e w1 ⟨rfl,g1⟩
 refine ⟨_,rfl,cnd_f (by rw [hmay];rfl) (cnd_i (fun r=> ?_) (fun r=> ?_))⟩
 · have:ld= []:=List.eq_nil_of_length_eq_zero (by simp at r;omega)
   subst this
   exact ⟨rfl,g1⟩
 have hpos:0<ld.length:=by
  rcases Nat.eq_zero_or_pos ld.length with e|e
  · rw [hk,e] at r;simp at r
  · exact e
 refine (breaks_ok (h.grow g1) hn ok hl (hq.grow g1) hk (by unfold maxLen;omega) fun x hx=> (hb x hx).isl).mono ?_
 rintro e w3 ⟨rfl,g3⟩
 refine ⟨_,rfl,cnd_f (by rw [brk_iff.2 hb];rfl) ?_⟩
 have G3:=g1.trans g3
 refine (places_ok (h.grow G3) hn ok hl).mono ?_
 rintro e w5 ⟨b,rfl,M5,g5,fb⟩
 refine ⟨_,rfl,slK_i 1 m d rfl rfl rfl (Nat.le_refl _) hd (by omega) ?_⟩
 have hie:ld.isEmpty=false:=by cases ld<;>simp at hpos ⊢
 rw [hie]
 have G5:=G3.trans g5
 have ldl:(ld.drop 1).length=m - 1:=by rw [List.length_drop];omega
 have V5:Vw (Value.int .i64) w5 (if d=1 then q else q.map (·.add (1*1))) (ld.drop 1):=by
  by_cases e:d=1
  · have:ld.drop 1= []:=List.eq_nil_of_length_eq_zero (by omega)
    rw [this];exact Vw.nil
  · rw [if_neg e]
    have:=(hq.grow G5).part (i:=1) (m:=m - 1) (by omega)
    rwa [List.take_of_length_le (by omega)] at this
 refine ⟨fun L I u z=> ∃t:Nat,I=t∧t≤(ld.drop 1).length∧z=(ld.drop 1).length - t∧L=mxL tr ((ld.drop 1).take t)∧Grow w5 u,⟨_,0,rfl,Nat.zero_le _,rfl,rfl,Mod.refl _⟩,?_⟩
 rintro L I w13 z _ ⟨t,rfl,ht,rfl,rfl,G⟩
 refine cnd_i (fun r=> ?_) (fun r=> ?_)
 · have r:t< (ld.drop 1).length:=by simp at r ⊢;omega
   refine (V5.grow G).ix 0 (by omega) ldl.symm (by omega) fun a e=> ⟨_,e,?_⟩
   rw [Int.toNat_natCast]
   have hB:=hb _ (List.mem_of_mem_drop (mem_getD r))
   have hbd:=litB_bd hB.isl
   refine (amount12_ok (by omega) (by omega) w13).mono ?_
   rintro e w16 ⟨rfl,g16⟩
   refine ⟨_,rfl,w16,_,(M5.grow (G.trans g16)).look mapI_at (wf_am hB.isl),?_⟩
   rw [atM_wrap hl hB.lt]
   refine (h.grow ((G5.trans G).trans g16)).ix hn _ rfl hB.lt fun a x C e1 e2 v=> ⟨_,C.2.1,_,?_,t+1,wN (by omega) (by omega),by omega,rfl,?_,G.trans g16⟩
   · omega
   · exact imax_mx r
 · have r:t=(ld.drop 1).length:=by simp at r ht ⊢;omega
   subst r
   rw [List.take_length]
   exact ⟨rfl,G5.trans G⟩
theorem learnLevels_ok (h:TV w p tr) (hn:n=tr.length) (hmay:mayT tr=true) (hq:Vw (Value.int .i64) w q ld) (hk:m=ld.length) (hx:m≤100000) (hb: ∀x∈ld,Br1 tr x):
 Calls prog learn_Levels.id #[.slice p n c,.slice q m d] w fun e w'=> ∃v:Int,e= .returned (.int .i64 v)∧(0≤v∧v≤m)∧Grow w w':=by
 refine learn_Levels.calls ?_
 obtain ⟨ok,hl⟩:=mayT_ok hmay
 refine (sound_ok h hn).mono ?_
 rintro e w1 ⟨rfl,g1⟩
 refine ⟨_,rfl,cnd_f (by rw [hmay];rfl) ?_⟩
 refine (places_ok (h.grow g1) hn ok hl).mono ?_
 rintro e w3 ⟨b,rfl,M3,g3,fb⟩
 refine ⟨_,rfl,fun n5 w6 h6=> ?_⟩
 have s1:=g1.size
 have s3:=g3.size
 have e5:=h6.num
 have lb:=M3.lt
 refine ⟨fun I u z=> ∃ (t nb:Nat) (s:Int→Bool),I=t∧t≤ld.length∧z=ld.length - t∧nb≤t∧MS prog ty_int ty_bool u n5 nb s∧MI prog ty_int ty_int u b tr.length (atM tr)∧Grow w u,⟨_,0,0,_,rfl,Nat.zero_le _,rfl,Nat.le_refl _,MS.new h6,M3.grow h6.mod,(g1.trans g3).trans h6.mod⟩,?_⟩
 rintro I w11 z _ ⟨t,nb,s,rfl,ht,rfl,hnb,M,Mb,G⟩
 refine cnd_i (fun r=> ?_) (fun r=> ?_)
 · have r:t<ld.length:=by simp at r;omega
   refine (hq.grow G).ix 0 (by omega) hk (by omega) fun a e=> ⟨_,e,?_⟩
   rw [Int.toNat_natCast]
   have hB:=hb _ (mem_getD r)
   have hbd:=litB_bd hB.isl
   refine (amount12_ok (by omega) (by omega) w11).mono ?_
   rintro e w14 ⟨rfl,g14⟩
   have hlv:=lv_bd ok hl hB
   refine ⟨_,rfl,w14,_,(Mb.grow g14).look mapI_at (wf_am hB.isl),cnd_i (fun r2=> ?_) (fun r2=> ?_)⟩
   · rw [atM_wrap hl hB.lt]
     refine (h.grow (G.trans g14)).ix hn _ rfl hB.lt fun a x C e1 e2 v=> ⟨_,C.2.1,?_⟩
     obtain ⟨w20,hr,M20,m20⟩:=(M.grow g14).put mapB_in (by unfold maxLen;omega) (a:=(nth tr (atN tr (am (ld.getD t 0)))).lev) (wf64 (by unfold lv at hlv;omega) (by unfold lv at hlv;omega))
     refine ⟨w20,hr,_,?_,t+1,nb+1,_,wN (by omega) (by omega),by omega,rfl,by omega,M20,(Mb.grow g14).keep m20 fun (e:b=n5)=>by omega,Mod.fresh (G.trans g14) m20 (by omega)⟩
     omega
   · exact ⟨_,by omega,t+1,nb,s,wN (by omega) (by omega),by omega,rfl,by omega,M.grow g14,Mb.grow g14,G.trans g14⟩
 · have r:t=ld.length:=by simp at r;omega
   obtain ⟨c',hc',hr⟩:=M.len mapB_in 3
   exact ⟨_,hr,_,rfl,⟨by omega,by omega⟩,G⟩
end
end Go.Proofs.YtabengnadcleeaaGreat.W.Le
