/- Layer 7: steps as arguments; what is small. -/
import Derived.Test.YtbdghpjnifjlmaaGreatPropC
import Derived.Test.YtbdghpjnifjlmaaGreatRedA
import Derived.Test.YtbdghpjnifjlmaaGreatLubyA
import Derived.Test.YtbdghpjnifjlmaaGreatDratA
import Derived.Test.YtbdghpjnifjlmaaGreatHeapA
import Derived.Test.YtbdghpjnifjlmaaGreatFwRead
import Derived.Test.YtbdghpjnifjlmaaGreatLitA
import Derived.Test.YtbdghpjnifjlmaaGreatFwMem
import Derived.Maps.Own
import Derived.Maps.OwnSet
import Derived.Maps.Range
namespace Go.Proofs.YtbdghpjnifjlmaaGreat.W
open Go Go.Fw Go.RowKit Go.SoP Go.LiP
open Go.Proofs.Tryz (prog)
section
variable {w w' w0 w2 w3:World} {p q:Option Addr} {n m c d:Nat} {k:Int} {hs:List Sl} {cs:List (List Int)} {l:List Int}
abbrev Stp:=Bool × List Int
def st0:Stp:=(false,[])
def SV (w:World) (p:Option Addr) (al:List Stp):Prop:= ∀i,i<al.length→∃ (a:Addr) (s:Sl),p=some a∧CellsAt w (a.add (i*2)) 0 [.bool (al.getD i st0).1,.slice s.p s.n s.c]∧
 s.n=(al.getD i st0).2.length∧s.n≤maxLen∧Vw (Value.int .i64) w s.p (al.getD i st0).2
theorem SV.grow {al:List Stp} (h:SV w p al) (g:Grow w w'):SV w' p al:=by
 intro i hi
 obtain ⟨a,s,rfl,hc,h1,h2,h3⟩:=h i hi
 exact ⟨a,s,rfl,CellsAt.keep g id hc,h1,h2,h3.grow g⟩
theorem SV.ix {al:List Stp} (h:SV w p al) (g:Grow w w') {i n:Nat} (hn:n=al.length) (hi:i<al.length) {K:Addr→Prop}
 (hk: ∀a (s:Sl),(∀u,Grow w u→CellsAt u a 0 [.bool (al.getD i st0).1,.slice s.p s.n s.c])→s.n=(al.getD i st0).2.length→s.n≤maxLen→Vw (Value.int .i64) w s.p (al.getD i st0).2→K a):ixK p n (i:Int) 2 K:=by
 subst hn
 obtain ⟨a,s,rfl,hc,h1,h2,h3⟩:=h i hi
 refine ⟨a,rfl,by omega,by omega,hk _ s (fun u gu=> ?_) h1 h2 h3⟩
 rw [Int.toNat_natCast]
 exact CellsAt.keep gu id hc
theorem step_of_rd {cs:List Value} (h:Fw.Rd w (.cons .bool (.cons (.sl (.int .i64)) .nil)) cs): ∃ (x:Stp) (s:Sl),cs= [.bool x.1,.slice s.p s.n s.c]∧s.n=x.2.length∧s.n≤maxLen∧Vw (Value.int .i64) w s.p x.2:=by
 obtain ⟨_,_,rfl,⟨a,rfl⟩,ws,_,rfl,hc,rfl⟩:=h
 have hc': ∃u,ws= [u]∧RdV w (.sl (.int .i64)) u:=by
  rcases hc with rfl| ⟨a',len',cap',rfl,g⟩
  · exact ⟨_,rfl,.inl rfl⟩
  · exact ⟨_,rfl,.inr ⟨a',len',cap',rfl,g⟩⟩
 obtain ⟨u,rfl,hu⟩:=hc'
 obtain ⟨p,n,c,l,rfl,h1,h2,h3,h4⟩:=ints_of_rd' hu
 exact ⟨(a,l),⟨p,n,c⟩,rfl,h1,Nat.le_trans h2 h3,h4⟩
theorem steps_of_rd {v:Value} (h:RdV w (.sl (.cons .bool (.cons (.sl (.int .i64)) .nil))) v): ∃p n c al,v= .slice p n c∧n=al.length∧n≤maxLen∧SV w p al:=by
 rcases h with rfl| ⟨a,len,cap,rfl,h1,h2,h3⟩
 · exact ⟨none,0,0,[],rfl,rfl,Nat.zero_le _,fun i hi=>by simp at hi⟩
 · have: ∀i,∃x:Stp,i<len→∃s:Sl,CellsAt w (a.add (i*2)) 0 [.bool x.1,.slice s.p s.n s.c]∧s.n=x.2.length∧s.n≤maxLen∧Vw (Value.int .i64) w s.p x.2:=by
    intro i
    by_cases hi:i<len
    · obtain ⟨es,_,hc,hr⟩:=h3 i hi
      obtain ⟨x,s,rfl,hx⟩:=step_of_rd hr
      exact ⟨x,fun _=> ⟨s,hc,hx⟩⟩
    · exact ⟨st0,fun h=>absurd h hi⟩
   have en: ∀i,i<len→((List.range len).map fun i=>Classical.choose (this i)).getD i st0=Classical.choose (this i):=fun i hi=>by simp [List.getD,hi]
   refine ⟨some a,len,cap,(List.range len).map fun i=>Classical.choose (this i),rfl,by simp,Nat.le_trans h1 h2,fun i hi=> ?_⟩
   have hi':i<len:=by simpa using hi
   rw [en i hi']
   obtain ⟨s,h1,h2,h3,h4⟩:=Classical.choose_spec (this i) hi'
   exact ⟨a,s,rfl,h1,h2,h3,h4⟩
theorem light04_ok {al:List Stp} (h:SV w p al) (hn:n=al.length):Calls prog fathomlaw04_Light.id #[.slice p n c] w fun e w'=> ∃r:Bool,e= .returned (.bool r)∧Grow w w':=by
 subst hn
 refine fathomlaw04_Light.calls ⟨fun N I u z=> ∃i:Nat,I=i∧z=302 - i∧i≤301∧Grow w u,⟨_,0,rfl,rfl,by omega,Mod.refl w⟩,?_⟩
 rintro N I u z _ ⟨i,rfl,rfl,hi,g⟩
 have fin: ∀K:Value→World→Prop,(∀r,K (.bool r) u)→cnd (decide ((al.length:Int)≤(300:Int))) (K (.bool (decide (N≤(6000:Int)))) u) (K (.bool false) u):=fun K hK=>cnd_i (fun _=>hK _) (fun _=>hK _)
 refine cnd_i (fun r=>cnd_i (fun r2=> ?_) (fun _=>cnd_i (fun _=> ⟨_,rfl,g⟩) fun _=> ⟨_,rfl,g⟩)) (fun _=>cnd_i (fun _=> ⟨_,rfl,g⟩) fun _=> ⟨_,rfl,g⟩)
 have r:i<al.length:=by simpa using r
 have r2:i≤300:=by simp at r2;omega
 refine h.ix g rfl r fun a s hc h1 h2 h3=> ⟨_,_,_,CellsAt.get (hc u g) 1 _ rfl,cnd_i (fun _=> ⟨false,rfl,g⟩) (fun _=> ?_)⟩
 refine h.ix g rfl r fun a2 s2 hc2 _ _ _=> ⟨_,_,_,CellsAt.get (hc2 u g) 1 _ rfl,_,?_,i+1,wN (by omega) (by omega),rfl,by omega,g⟩
 omega
def mayP (al:List Stp):Bool:=al.all fun x=>clB x.2
theorem may04_ok {al:List Stp} (h:SV w p al) (hn:n=al.length) (hm:n≤1000):Calls prog fathomref04_May.id #[.slice p n c] w fun e w'=>e= .returned (.bool (mayP al))∧Grow w w':=by
 subst hn
 refine fathomref04_May.calls ⟨fun I u z=> ∃i:Nat,I=i∧z=al.length - i∧i≤al.length∧Grow w u∧∀j,j<i→clB (al.getD j st0).2=true,⟨_,0,rfl,rfl,by omega,Mod.refl w,fun j hj=>by omega⟩,?_⟩
 rintro I u z _ ⟨i,rfl,rfl,hi,g,hall⟩
 refine cnd_i (fun r=> ?_) (fun r=> ?_)
 · have r:i<al.length:=by simpa using r
   refine h.ix g rfl r fun a s hc h1 h2 h3=> ⟨_,_,_,CellsAt.get (hc u g) 1 _ rfl,(refMay_ok (h3.grow g) h1 h2).mono ?_⟩
   rintro e w8 ⟨rfl,g8⟩
   refine ⟨_,rfl,cnd_i (fun r2=> ?_) (fun r2=> ⟨_,by omega,i+1,wN (by omega) (by omega),rfl,r,g.trans g8,fun j hj=> ?_⟩)⟩
   · have:mayP al=false:=by
      rw [← Bool.not_eq_true]
      intro e
      unfold mayP at e
      rw [List.all_eq_true] at e
      have hm:al.getD i st0∈al:=by simp [List.getD,r]
      have:=e _ hm
      rw [this] at r2;cases r2
     rw [this]
     exact ⟨rfl,g.trans g8⟩
   · by_cases e:j<i
     · exact hall j e
     · obtain rfl:j=i:=by omega
       simpa using r2
 · have r:i=al.length:=by simp at r;omega
   subst r
   have:mayP al=true:=by
    unfold mayP
    rw [List.all_eq_true]
    intro x hx
    obtain ⟨j,hj,rfl⟩:=List.mem_iff_getElem.1 hx
    have:=hall j hj
    simpa [List.getD,hj] using this
   rw [this,decide_eq_true (by omega)]
   exact ⟨rfl,g⟩
theorem tcheck1_ent:entB prog trace_Check_1.id=true:=by kernel_rfl
theorem tcheck1_ok {b:Bool} (h:Vw (Value.int .i64) w p l) (hn:n=l.length) (hm:n≤maxLen):Calls prog trace_Check_1.id #[.agg #[.bool b,.slice p n c]] w fun e w'=>e= .returned (.bool (!clB l))∧Grow w w':=by
 refine trace_Check_1.calls ?_
 intro n1 w2 h2
 refine ⟨_,_,_,cell_add h2.has rfl,(litCheck_ok (h.grow h2.mod) hn hm).mono ?_⟩
 rintro e w4 ⟨rfl,g⟩
 refine ⟨_,rfl,?_,h2.mod.trans g⟩
 cases clB l<;>rfl
theorem traceCheck_ok {al:List Stp} (h:SV w p al) (hn:n=al.length) (hm:n≤262144):Calls prog trace_Check.id #[.slice p n c] w fun e w'=>e= .returned (.int .i64 (if mayP al then 0 else 1))∧Grow w w':=by
 subst hn
 refine trace_Check.calls (cnd_f (by simp;omega) ?_)
 refine (slices_ContainsFunc_fathom_api_Step_fathom_api_Step.calls (R:=fun e w'=>e= .returned (.bool (!mayP al))∧Grow w w') ?_).mono ?_
 · refine (slices_IndexFunc_fathom_api_Step_fathom_api_Step.calls (R:=fun e w'=> ∃r:Int,e= .returned (.int .i64 r)∧(decide (r≥0)= !mayP al)∧Grow w w') ?_).mono ?_
   · refine ⟨fun I u z=> ∃i:Nat,I=i∧z=al.length - i∧i≤al.length∧Grow w u∧∀j,j<i→clB (al.getD j st0).2=true,⟨_,0,rfl,rfl,by omega,Mod.refl w,fun j hj=>by omega⟩,?_⟩
     rintro I u z _ ⟨i,rfl,rfl,hi,g,hall⟩
     refine cnd_i (fun r=> ?_) (fun r=> ?_)
     · have r:i<al.length:=by simpa using r
       have hmem:al.getD i st0∈al:=by simp [List.getD,r]
       refine h.ix g rfl r fun a s hc h1 h2 h3=> ⟨_,_,_,_,hc u g,?_⟩
       rw [tcheck1_ent]
       show Calls _ _ _ _ _
       rw [args1]
       refine (tcheck1_ok (h3.grow g) h1 h2).mono ?_
       rintro e w9 ⟨rfl,g9⟩
       refine ⟨_,rfl,cnd_i (fun r2=> ⟨_,rfl,?_,g.trans g9⟩) (fun r2=> ⟨_,by omega,i+1,wN (by omega) (by omega),rfl,r,g.trans g9,fun j hj=> ?_⟩)⟩
       · have:mayP al=false:=by
          rw [← Bool.not_eq_true]
          intro e
          unfold mayP at e
          rw [List.all_eq_true] at e
          rw [e _ hmem] at r2;cases r2
         rw [this]
         simp
       · by_cases e:j<i
         · exact hall j e
         · obtain rfl:j=i:=by omega
           simpa using r2
     · have r:i=al.length:=by simp at r;omega
       subst r
       have:mayP al=true:=by
        unfold mayP
        rw [List.all_eq_true]
        intro x hx
        obtain ⟨j,hj,rfl⟩:=List.mem_iff_getElem.1 hx
        have:=hall j hj
        simpa [List.getD,hj] using this
       rw [this]
       exact ⟨_,rfl,by decide,g⟩
   · rintro e w1 ⟨r,rfl,hr,g⟩
     exact ⟨r,rfl,by rw [hr],g⟩
 · rintro e w1 ⟨rfl,g⟩
   refine ⟨_,rfl,cnd_i (fun r=> ?_) (fun r=> ?_)⟩
   · have:mayP al=false:=by simpa using r
     rw [this];exact ⟨rfl,g⟩
   · have:mayP al=true:=by simpa using r
     rw [this];exact ⟨rfl,g⟩
theorem cells2 {b:Nat} {x y:Value} (h:Has w b #[x,y]):CellsAt w ⟨b,0,none⟩ 0 [x,y]:=⟨cell_add h rfl,cell_add h rfl,trivial⟩
theorem small_ok (hc:V2 (Value.int .i64) w p hs cs) (hn:n=cs.length):Calls prog fathomlaw07_Small.id #[.agg #[.int .i64 k,.slice p n d]] w fun e w'=> ∃r:Bool,e= .returned (.bool r)∧(r=true→cs.length≤40)∧Grow w w':=by
 subst hn
 refine fathomlaw07_Small.calls ?_
 intro n1 w2 h2
 refine ⟨_,_,_,_,cells2 h2.has,(light_ok (hc.grow h2.mod) rfl).mono ?_⟩
 rintro e w5 ⟨r,rfl,g⟩
 refine ⟨_,rfl,cnd_i (fun _=> ?_) (fun _=> ⟨false,rfl,fun e=> (by cases e),h2.mod.trans g⟩)⟩
 exact ⟨_,_,_,cell_add (h2.has.grow g) rfl,_,rfl,fun e=>by rw [decide_eq_true_eq] at e;omega,h2.mod.trans g⟩
theorem rupMay_ok (hc:V2 (Value.int .i64) w p hs cs) (hn:n=cs.length) (hl:Vw (Value.int .i64) w q l) (hm:m=l.length) (hm2:m≤maxLen) {c d:Nat}:Calls prog rup_may.id #[.agg #[.int .i64 k,.slice p n d],.slice q m c] w fun e w'=>e= .returned (.bool (cnfB k cs && clB l))∧Grow w w':=by
 subst hn
 refine rup_may.calls ?_
 intro n1 w2 h2
 refine ⟨_,_,_,_,cells2 h2.has,(checkCnf_ok (hc.grow h2.mod) rfl).mono ?_⟩
 rintro e w5 ⟨rfl,g⟩
 refine ⟨_,rfl,?_⟩
 cases hcn:cnfB k cs with
 |false=>exact cnd_f rfl ⟨rfl,h2.mod.trans g⟩
 |true=>
  refine cnd_t rfl ((litCheck_ok (hl.grow (h2.mod.trans g)) hm hm2).mono ?_)
  rintro e w7 ⟨rfl,g7⟩
  refine ⟨_,rfl,?_,(h2.mod.trans g).trans g7⟩
  cases clB l<;>rfl
end
section
variable {W w w' w0 w2 w3 u:World} {p q:Option Addr} {n m d i c:Nat} {hs:List Sl} {cs:List (List Int)} {l:List Int}
abbrev So:=Sl × Bool × Int
abbrev Sr:=List Int × Bool × Int
def so0:So:=(Sl.nil,false,0)
def sr0:Sr:=([],false,0)
def soE (x:So):List Value:= [.slice x.1.p x.1.n x.1.c,.bool x.2.1,.int .i64 x.2.2]
theorem soEnc:Enc 3 soE:=⟨fun _=>rfl,by omega,fun x v hv=>by
 simp only [soE,List.mem_cons,List.not_mem_nil,or_false] at hv
 rcases hv with rfl|rfl|rfl<;>rfl⟩
theorem sl_src:slOkN prog ty_sl_drat_source ty_drat_source 3 40=true:=by kernel_rfl
structure SW (W:World) (ss:List So) (l:List Sr):Prop where
 n:ss.length=l.length
 r: ∀j,j<l.length→(ss.getD j so0).2=(l.getD j sr0).2∧(ss.getD j so0).1.n=(l.getD j sr0).1.length∧(ss.getD j so0).1.n≤maxLen∧Vw (Value.int .i64) W (ss.getD j so0).1.p (l.getD j sr0).1
theorem SW.nil:SW W [] []:=⟨rfl,fun j hj=>by simp at hj⟩
theorem SW.app {ss tt:List So} {l k:List Sr} (h:SW W ss l) (g:SW W tt k):SW W (ss++tt) (l++k):=by
 refine ⟨by simp [h.n,g.n],fun j hj=> ?_⟩
 rw [getD_app2,getD_app2,h.n]
 by_cases e:j<l.length
 · rw [if_pos e,if_pos e];exact h.r j e
 · rw [if_neg e,if_neg e]
   exact g.r (j - l.length) (by simp at hj;omega)
theorem SW.one {s:So} {x:Sr} (h1:s.2=x.2) (h2:s.1.n=x.1.length) (h3:s.1.n≤maxLen) (h4:Vw (Value.int .i64) W s.1.p x.1):SW W [s] [x]:=by
 refine ⟨rfl,fun j hj=> ?_⟩
 have:j=0:=by simpa using hj
 subst this
 exact ⟨h1,h2,h3,h4⟩
theorem SW.part {ss:List So} {l:List Sr} (h:SW W ss l) (i:Nat) (hi:i<l.length):SW W (ss.take i++ss.drop (i+1)) (l.take i++l.drop (i+1)):=by
 refine SW.app ⟨by simp [h.n],fun j hj=> ?_⟩ ⟨by simp [h.n],fun j hj=> ?_⟩
 · rw [List.length_take] at hj
   have e: ∀ {β:Type} (l:List β) (d:β),(l.take i).getD j d=l.getD j d:=fun l d=>by
    simp only [List.getD_eq_getElem?_getD,List.getElem?_take];rw [if_pos (by omega)]
   rw [e,e]
   exact h.r j (by omega)
 · rw [List.length_drop] at hj
   have e: ∀ {β:Type} (l:List β) (d:β),(l.drop (i+1)).getD j d=l.getD (i+1+j) d:=fun l d=>by
    simp only [List.getD_eq_getElem?_getD,List.getElem?_drop]
   rw [e,e]
   exact h.r _ (by omega)
theorem SW.ix {ss:List So} {l:List Sr} (h:SW W ss l) (o:Row 3 soE ty_drat_source u p c ss) (hn:n=l.length) (hi:i<l.length) {K:Addr→Prop}
 (hk: ∀a (s:Sl),CellsAt u a 0 [.slice s.p s.n s.c,.bool (l.getD i sr0).2.1,.int .i64 (l.getD i sr0).2.2]→s.n=(l.getD i sr0).1.length→s.n≤maxLen→Vw (Value.int .i64) W s.p (l.getD i sr0).1→K a):ixK p n (i:Int) 3 K:=by
 subst hn
 obtain ⟨h1,h2,h3,h4⟩:=h.r i hi
 refine (o.vr soEnc).ix so0 (by omega) (by rw [h.n]) (by omega) fun a hc=>hk a (ss.getD i so0).1 ?_ h2 h3 h4
 rw [Int.toNat_natCast] at hc
 unfold soE at hc
 rw [h1] at hc
 exact hc
theorem has_vr {s:So} {b:Nat} (h:Has u b #[.slice s.1.p s.1.n s.1.c,.bool s.2.1,.int .i64 s.2.2]):Vr 3 soE u (some ⟨b,0,none⟩) [s]:=by
 intro j hj
 have:j=0:=by simpa using hj
 subst this
 exact ⟨_,rfl,cell_add2 h rfl,cell_add2 h rfl,cell_add2 h rfl,trivial⟩
def srcF (cs:List (List Int)) (k:Nat):List Sr:=(List.range k).map fun i=> (cs.getD i [],false,(i:Int))
theorem srcF_len (k:Nat):(srcF cs k).length=k:=by simp [srcF]
theorem srcF_succ (k:Nat):srcF cs (k+1)=srcF cs k++ [(cs.getD k [],false,(k:Int))]:=by unfold srcF;rw [List.range_succ,List.map_append];rfl
theorem sources_ok {k:Int} (hv:V2 (Value.int .i64) w p hs cs) (hn:n=cs.length) (hx:n≤1000000):
 Calls prog drat_sources.id #[.agg #[.int .i64 k,.slice p n d]] w fun e w'=> ∃ (q:Option Addr) (d':Nat) (ss:List So),e= .returned (.slice q cs.length d')∧Row 3 soE ty_drat_source w' q d' ss∧SW w ss (srcF cs cs.length)∧Grow w w'∧∀j,blk q=some j→w.heap.size≤j:=by
 subst hn
 refine drat_sources.calls ?_
 intro n1 w2 h2
 have e1:=h2.num
 refine ⟨_,_,_,cell_add h2.has rfl,?_⟩
 refine ⟨fun P N C I u z=> ∃ (i:Nat) (ss:List So),I=i∧i≤cs.length∧z=cs.length - i∧i=N∧Grow w2 u∧Row 3 soE ty_drat_source u P C ss∧SW w ss (srcF cs i)∧∀j,blk P=some j→w2.heap.size≤j,
  ⟨_,0,[],rfl,Nat.zero_le _,rfl,rfl,Mod.refl _,Row.nil _ _ _ _,SW.nil,fun j hj=>by simp [blk] at hj⟩,?_⟩
 rintro P N C I u z _ ⟨i,ss,rfl,hi,rfl,rfl,gu,o,sw,fo⟩
 have Gu:=h2.mod.trans gu
 have hssl:=sw.n
 rw [srcF_len] at hssl
 refine cnd_i (fun r=> ?_) (fun r=> ?_)
 · have r:i<cs.length:=by simpa using r
   refine (hv.grow Gu).ix (by omega) rfl (by omega) fun a sl k1 k0 k2 k3 k4=> ⟨_,_,_,k1,?_⟩
   rw [Int.toNat_natCast] at k0 k2
   obtain ⟨_,_,r3⟩:=hv.r i r
   rw [← k0] at r3
   intro n12 w13 h13
   have z2:=gu.size
   refine Row.app soEnc sl_src (o.grow h13.mod) (has_vr (s:=(sl,false,(i:Int))) h13.has) hssl.symm rfl (by simp;omega) fun w14 p' c' o14 m14 hp' hz'=> ?_
   have h13s:=h13.num
   refine ⟨_,?_,i+1,_,wN (by omega) (by omega),r,rfl,by simp [hssl],(gu.trans h13.mod).then m14 fun j hj e=>by have:=fo j e;omega,o14,by rw [srcF_succ];exact sw.app (SW.one rfl k2 k3 r3),fun j hj=> ?_⟩
   · omega
   · have:=h13.mod.size
     rcases hp' with rfl|rfl
     · exact fo j hj
     · have:=blk_some hj;omega
 · have r:i=cs.length:=by simp at r;omega
   subst r
   have s2:=h2.mod.size
   exact ⟨P,C,ss,rfl,o,sw,Gu,fun j hj=>by have:=fo j hj;omega⟩
theorem clauses8_ok {ss:List So} {al:List Sr} (o:Row 3 soE ty_drat_source w p d ss) (sw:SW W ss al) (hW:Grow W w) (hn:n=al.length) (hx:n≤1000000) {e:Nat}:
 Calls prog drat_clauses.id #[.slice p n e] w fun e w'=> ∃ (q:Option Addr) (d':Nat) (ks:List Sl),e= .returned (.slice q al.length d')∧V2 (Value.int .i64) w' q ks (al.map (·.1))∧Grow w w':=by
 subst hn
 refine drat_clauses.calls ?_
 refine ⟨fun P N C I u z=> ∃ (i:Nat) (ks:List Sl),I=i∧i≤al.length∧z=al.length - i∧i=N∧Grow w u∧Ow Sl.v ty_sl_int u P C ks∧VR (Value.int .i64) W ks ((al.take i).map (·.1))∧∀j,blk P=some j→w.heap.size≤j,
  ⟨_,0,[],rfl,Nat.zero_le _,rfl,rfl,Mod.refl _,Ow.nil _ _ _,VR.nil,fun j hj=>by simp [blk] at hj⟩,?_⟩
 rintro P N C I u z _ ⟨i,ks,rfl,hi,rfl,rfl,gu,ok,vr,fo⟩
 have hkl:=vr.n
 rw [List.length_map,List.length_take,Nat.min_eq_left hi] at hkl
 refine cnd_i (fun r=> ?_) (fun r=> ?_)
 · have r:i<al.length:=by simpa using r
   refine sw.ix (o.grow gu) rfl r fun a s hcA h1 h2 h3=> ⟨_,_,_,_,_,hcA,?_⟩
   intro n11 w12 h12
   have e11:=h12.num
   refine store_i h12.has rfl rfl fun w13 b13 m13=> ⟨_,_,_,cell_add b13 rfl,?_⟩
   have g13:Grow u w13:=h12.mod.then m13 fun j hj e=>by omega
   intro n15 w16 h16
   have e16:=h16.num
   have zu:=gu.size
   have z13:=g13.size
   have G16:=g13.trans h16.mod
   refine Ow.appV sl_sl_int (ok.grow G16) (has_vw8 (sl:=s) h16.has) hkl.symm rfl (fun _=>rfl) (by simp;omega) fun w17 p' c' o17 m17 hp' hz'=> ?_
   have z16:=h16.mod.size
   refine ⟨_,by omega,i+1,_,wN (by omega) (by omega),r,rfl,by simp [hkl],(gu.trans G16).then m17 fun j hj e=>by have:=fo j e;omega,o17,?_,fun j hj=> ?_⟩
   · rw [take_snoc r sr0,List.map_append]
     exact vr.app (VR.one (s:=s) h3 h1 h2)
   · rcases hp' with rfl|rfl
     · exact fo j hj
     · have:=blk_some hj;omega
 · have r:i=al.length:=by simp at r;omega
   subst r
   rw [List.take_length] at vr
   exact ⟨P,C,ks,rfl,(vr.grow (hW.trans gu)).v2 ok.vw,gu⟩
end
section
variable {W w w' w0 w2 w3 u:World} {p q:Option Addr} {n m d i c:Nat} {hs:List Sl} {cs:List (List Int)} {l:List Int} {ss:List So} {al:List Sr}
theorem cloneS_ok {e:Nat} (o:Row 3 soE ty_drat_source w p d ss) (hn:n=ss.length) (hx:n≤1000000):Calls prog slices_Clone_fathom_drat_source_fathom_drat_source.id #[.slice p n e] w fun e w'=> ∃ (q:Option Addr) (d':Nat),e= .returned (.slice q ss.length d')∧Row 3 soE ty_drat_source w' q d' ss∧Grow w w'∧∀j,blk q=some j→w.heap.size≤j:=by
 subst hn
 refine slices_Clone_fathom_drat_source_fathom_drat_source.calls (cnd_i (fun r=> ?_) (fun r=> ?_))
 · have hp:p=none:=by cases p<;>simp at r ⊢
   subst hp
   have:ss= []:=by
    rcases o.un with ⟨_,_,h⟩| ⟨_,_,h,_⟩
    · exact h
    · cases h
   subst this
   exact ⟨none,0,rfl,Row.nil _ _ _ _,Mod.refl w,fun j hj=>by simp [blk] at hj⟩
 · intro n1 w2 h2
   have e1:=h2.num
   have o2:Row 3 soE ty_drat_source w2 (some ⟨n1,0,none⟩) 0 []:=Row.of_some soEnc.len h2.at (Nat.le_refl _) (Nat.zero_le _) rfl rfl
   refine Row.app soEnc sl_src o2 ((o.vr soEnc).grow h2.mod) rfl rfl (by simp;omega) fun w3 p3 c3 o3 m3 hp3 hz3=> ?_
   rw [List.nil_append] at o3 ⊢
   have z2:=h2.mod.size
   refine ⟨p3,c3,rfl,o3,h2.mod.then m3 fun j hj e=>by have:=blk_some e;omega,fun j hj=> ?_⟩
   rcases hp3 with rfl|rfl
   · have:=blk_some hj;omega
   · have:=blk_some hj;omega
theorem zero_src: ∃v,(Tryz.prog.info? ty_drat_source).bind (·.zero)=some v∧v.cells.toList=soE so0:=⟨.agg #[.slice none 0 0,.bool false,.int .i64 0],by kernel_rfl,rfl⟩
theorem ep3 (p:Option Addr):p.map (·.add (0*3))=p:=by cases p<;>simp [Addr.add]
theorem deleteS_ok (o:Row 3 soE ty_drat_source w p d ss) (hn:n=ss.length) (hx:n≤1000000) {i:Nat} (hi:i<n):
 Calls prog slices_Delete_fathom_drat_source_fathom_drat_source.id #[.slice p n d,.int .i64 (i:Int),.int .i64 ((i+1:Nat):Int)] w fun e w'=>e= .returned (.slice p (ss.length - 1) d)∧Row 3 soE ty_drat_source w' p d (ss.take i++ss.drop (i+1))∧Mod (fun b=>blk p=some b) w w':=by
 subst hn
 have hcl:=o.cap
 refine slices_Delete_fathom_drat_source_fathom_drat_source.calls ?_
 refine slK_i i (i+1) ss.length rfl rfl rfl (by omega) (by omega) (by omega) ?_
 refine cnd_f (by simp;omega) ?_
 refine slK_i 0 i d rfl rfl rfl (by omega) (by omega) (by omega) ?_
 refine slK_i (i+1) ss.length d rfl rfl rfl (by omega) (by omega) (by omega) ?_
 rw [if_neg (by omega),ep3,Nat.sub_zero,Nat.sub_zero]
 have hv:Vr 3 soE w.drew (if d=i+1 then p else p.map (·.add ((i+1)*3))) (ss.drop (i+1)):=by
  by_cases e:d=i+1
  · rw [List.drop_eq_nil_of_le (by omega)];exact Vr.nil
  · rw [if_neg e]
    have:=((o.drew).vr soEnc).part (i:=i+1) (m:=ss.length - (i+1)) (by omega)
    rwa [List.take_of_length_le (by rw [List.length_drop];omega)] at this
 obtain ⟨w4,hr,o4,m4⟩:=Row.appRoom soEnc sl_src o.drew (ty:=ty_sl_drat_source) (d:=d - (i+1)) (k:=i) hv (m:=ss.length - (i+1)) (by rw [List.length_drop]) (by omega) (K:=fun w4=>Row 3 soE ty_drat_source w4 p d (ss.take i++ss.drop (i+1)++ss.drop (i+ (ss.length - (i+1))))∧Mod (fun b=>blk p=some b) w.drew w4) fun w' a b=> ⟨a,b⟩
 have hn1:i+ (ss.length - (i+1))=ss.length - 1:=by omega
 rw [hn1] at hr o4
 have hlen:(ss.take i++ss.drop (i+1)).length=ss.length - 1:=by rw [List.length_append,List.length_take,List.length_drop];omega
 have hll:(ss.take i++ss.drop (i+1)++ss.drop (ss.length - 1)).length=ss.length:=by rw [List.length_append,hlen,List.length_drop];omega
 refine ⟨w4,_,_,_,hr,?_⟩
 refine slK_i (ss.length - 1) ss.length d rfl rfl rfl (by omega) (by omega) (by omega) ?_
 rw [if_neg (by omega)]
 obtain ⟨vz,hz,hvz⟩:=zero_src
 rw [show ss.length - (ss.length - 1)=1 by omega]
 refine Row.clear soEnc sl_src hz hvz o4 (k:=ss.length - 1) (by rw [hll];omega) fun w7 o7 m7=> ?_
 rw [List.take_append_of_le_length (by omega),List.take_of_length_le (by omega)] at o7
 exact ⟨rfl,o7,(Mod.mono ((Mod.refl w).drew:Grow w w.drew) fun _ _ e=>e.elim).trans (m4.trans m7)⟩
def goneP (c:List Int):List Sr→List Sr
 | []=> []
 |x::l=>if norm x.1=norm c then l else x::goneP c l
theorem goneP_at {c:List Int}: ∀ {al:List Sr} {i:Nat},i<al.length→(∀j,j<i→norm (al.getD j sr0).1≠norm c)→norm (al.getD i sr0).1=norm c→goneP c al=al.take i++al.drop (i+1)
 | [],_,h,_,_=>by simp at h
 |x::l,0,_,_,h=>by
  have h:norm x.1=norm c:=h
  show (if norm x.1=norm c then l else _)=_
  rw [if_pos h];rfl
 |x::l,i+1,hi,hj,h=>by
  have h0:norm x.1≠norm c:=hj 0 (by omega)
  show (if norm x.1=norm c then l else x::goneP c l)=_
  rw [if_neg h0,goneP_at (i:=i) (by simpa using hi) (fun j h=>hj (j+1) (by omega)) h]
  rfl
theorem goneP_no {c:List Int}: ∀ {al:List Sr},(∀j,j<al.length→norm (al.getD j sr0).1≠norm c)→goneP c al=al
 | [],_=>rfl
 |x::l,h=>by
  have h0:norm x.1≠norm c:=h 0 (by simp)
  show (if norm x.1=norm c then l else x::goneP c l)=_
  rw [if_neg h0]
  exact congrArg _ (goneP_no fun j hj=>h (j+1) (by simpa using hj))
theorem gone1_ent:entB prog drat_gone_1.id=true:=by kernel_rfl
theorem gone1_ok {x c:List Int} {b:Bool} {a:Int} {nw m' e':Nat} {qw:Option Addr} (hv:Vw (Value.int .i64) w p x) (hn:n=x.length) (hx:clB x=true) (hb:Has w nw #[.slice qw m' e']) (hw:Vw (Value.int .i64) w qw (norm c)) (hm:m'=(norm c).length):
 Calls prog drat_gone_1.id #[.agg #[.slice p n d,.bool b,.int .i64 a],.pointer (some ⟨nw,0,none⟩)] w fun e w'=>e= .returned (.bool (decide (norm x=norm c)))∧Grow w w':=by
 subst hn
 have hx4:=clB_all hx
 have nl:=norm_len x
 refine drat_gone_1.calls ?_
 intro n1 w2 h2
 refine ⟨_,_,_,cell_add h2.has rfl,(norm_ok (hv.grow h2.mod) rfl (by unfold maxLen;omega)).mono ?_⟩
 rintro e w4 ⟨q,dq,mq,hmq,rfl,o4,g4⟩
 rw [hx] at hmq
 simp only [if_true] at hmq
 subst hmq
 have G4:=h2.mod.trans g4
 refine ⟨_,_,_,_,rfl,_,_,_,cell_of (hb.grow G4) rfl,(equal_ok o4.vw rfl (by unfold maxLen;omega) (hw.grow G4) hm).mono ?_⟩
 rintro e w8 ⟨rfl,g8⟩
 exact ⟨_,rfl,rfl,G4.trans g8⟩
end
section
variable {W w w' w0 w2 w3 u:World} {p q:Option Addr} {n m d i c:Nat} {hs:List Sl} {cs:List (List Int)} {l:List Int} {ss:List So} {al:List Sr}
theorem gone_ok {x:List Int} {e:Nat} (o:Row 3 soE ty_drat_source w p d ss) (sw:SW W ss al) (hW:Grow W w) (hn:n=al.length) (hx:n≤1000000) (hcl: ∀y∈al,clB y.1=true) (hv:Vw (Value.int .i64) W q x) (hm:m=x.length) (hxc:clB x=true) (hd:n≤d):
 Calls prog drat_gone.id #[.slice p n d,.slice q m e] w fun e w'=> ∃ (q':Option Addr) (d':Nat) (tt:List So),e= .returned (.slice q' (goneP x al).length d')∧Row 3 soE ty_drat_source w' q' d' tt∧SW W tt (goneP x al)∧Grow w w'∧(goneP x al).length≤d'∧∀j,blk q'=some j→blk p=some j∨w.heap.size≤j:=by
 subst hn hm
 have hx4:=clB_all hxc
 have nl:=norm_len x
 have hsn:=sw.n
 refine drat_gone.calls ((norm_ok (hv.grow hW) rfl (by unfold maxLen;omega)).mono ?_)
 rintro e1 w1 ⟨qn,dn,mn,hmn,rfl,on,g1⟩
 rw [hxc] at hmn
 simp only [if_true] at hmn
 subst hmn
 refine ⟨_,_,_,_,rfl,?_⟩
 intro n4 w5 h5
 have e5:=h5.num
 refine store_i h5.has rfl rfl fun w6 b6 m6=> ?_
 have z1:=g1.size
 have g6:Grow w w6:=(g1.trans h5.mod).then m6 fun j hj e=>by omega
 have hnn:Vw (Value.int .i64) w6 qn (norm x):=((on.grow h5.mod).keep m6 fun k hk e=>by have:=on.lt k hk;omega).vw
 refine (slices_IndexFunc_fathom_drat_source_fathom_drat_source.calls (R:=fun e w'=>Grow w6 w'∧((e= .returned (.int .i64 (-1))∧∀t,t<al.length→norm (al.getD t sr0).1≠norm x)∨
  ∃t:Nat,e= .returned (.int .i64 t)∧t<al.length∧norm (al.getD t sr0).1=norm x∧∀j,j<t→norm (al.getD j sr0).1≠norm x)) ?_).mono ?_
 · refine ⟨fun I u z=> ∃t:Nat,I=t∧t≤al.length∧z=al.length - t∧Grow w6 u∧∀j,j<t→norm (al.getD j sr0).1≠norm x,⟨_,0,rfl,Nat.zero_le _,rfl,Mod.refl _,fun j hj=>by omega⟩,?_⟩
   rintro I u z _ ⟨t,rfl,ht,rfl,gu,hno⟩
   refine cnd_i (fun r=> ?_) (fun r=> ⟨gu,.inl ⟨rfl,fun j hj=>hno j (by simp at r;omega)⟩⟩)
   have r:t<al.length:=by simpa using r
   have hmem:al.getD t sr0∈al:=by simp [List.getD,r]
   refine sw.ix (o.grow (g6.trans gu)) rfl r fun a s hcA h1 h2 h3=> ⟨_,_,_,_,_,hcA,?_⟩
   rw [gone1_ent]
   show Calls _ _ _ _ _
   rw [args2w]
   refine (gone1_ok (h3.grow (hW.trans (g6.trans gu))) h1 (hcl _ hmem) (b6.grow gu) (hnn.grow gu) rfl).mono ?_
   rintro e10 w10 ⟨rfl,g10⟩
   refine ⟨_,rfl,cnd_i (fun r2=> ⟨gu.trans g10,.inr ⟨t,rfl,r,by simpa using r2,hno⟩⟩) (fun r2=> ⟨_,by omega,t+1,wN (by omega) (by omega),r,rfl,gu.trans g10,fun j hj=> ?_⟩)⟩
   by_cases e:j<t
   · exact hno j e
   · obtain rfl:j=t:=by omega
     simpa using r2
 · rintro e7 w7 ⟨g7,⟨rfl,hno⟩| ⟨t,rfl,ht,heq,hno⟩⟩
   · refine ⟨_,rfl,cnd_t (by decide) ?_⟩
     rw [goneP_no hno]
     exact ⟨p,d,ss,rfl,o.grow (g6.trans g7),sw,g6.trans g7,hd,fun j hj=> .inl hj⟩
   · refine ⟨_,rfl,cnd_f (by simp) ((cloneS_ok (o.grow (g6.trans g7)) hsn.symm hx).mono ?_)⟩
     rintro e9 w9 ⟨q9,d9,rfl,o9,g9,f9⟩
     refine ⟨_,_,_,rfl,?_⟩
     rw [wN (i:=t+1) (by omega) (by omega)]
     refine (deleteS_ok o9 rfl (by omega) (i:=t) (by omega)).mono ?_
     rintro e11 w11 ⟨rfl,o11,m11⟩
     have G7:=g6.trans g7
     have z7:=G7.size
     have hg:goneP x al=al.take t++al.drop (t+1):=goneP_at ht hno heq
     have hl:(goneP x al).length=ss.length - 1:=by rw [hg,List.length_append,List.length_take,List.length_drop];omega
     refine ⟨_,_,_,rfl,q9,d9,ss.take t++ss.drop (t+1),by rw [hl],o11,by rw [hg];exact sw.part t ht,(G7.trans g9).then m11 fun j hj e=>by have:=f9 j e;omega,?_,fun j hj=> .inr (by have:=f9 j hj;omega)⟩
     have:=o9.cap
     omega
theorem greatest_ok {k:Int} {al:List Stp} (hl:SV w q al) (hm:m=al.length) (hx:m≤1000000) (hcl: ∀x∈al,clB x.2=true) {e:Nat}:
 Calls prog drat_greatest.id #[.agg #[.int .i64 k,.slice p n d],.slice q m e] w fun e w'=>e= .returned (.int .i64 ((al.map (·.2)).foldl vmx k))∧Grow w w':=by
 subst hm
 refine drat_greatest.calls ?_
 intro n1 w2 h2
 refine ⟨_,cell_add h2.has rfl,?_⟩
 refine ⟨fun N I u z=> ∃i:Nat,I=i∧i≤al.length∧z=al.length - i∧N=((al.take i).map (·.2)).foldl vmx k∧Grow w2 u,⟨_,0,rfl,Nat.zero_le _,rfl,rfl,Mod.refl _⟩,?_⟩
 rintro N I u z _ ⟨i,rfl,hi,rfl,rfl,gu⟩
 have Gu:=h2.mod.trans gu
 refine cnd_i (fun r=> ?_) (fun r=> ?_)
 · have r:i<al.length:=by simpa using r
   have hmem:al.getD i st0∈al:=by simp [List.getD,r]
   have hx4:=clB_all (hcl _ hmem)
   refine hl.ix Gu rfl r fun a s hcA h1 h2' h3=> ⟨_,_,_,_,hcA u Gu,?_⟩
   intro n13 w14 h14
   have e13:=h14.num
   refine store_i h14.has rfl rfl fun w15 b15 m15=> ⟨_,_,_,cell_add b15 rfl,?_⟩
   have g15:Grow u w15:=h14.mod.then m15 fun j hj e=>by omega
   refine ⟨fun N I y z=> ∃j:Nat,I=j∧j≤(al.getD i st0).2.length∧z=(al.getD i st0).2.length - j∧N=vmx (((al.take i).map (·.2)).foldl vmx k) ((al.getD i st0).2.take j)∧Grow w15 y,⟨_,0,rfl,Nat.zero_le _,rfl,rfl,Mod.refl _⟩,?_⟩
   rintro N I y z _ ⟨j,rfl,hj,rfl,rfl,gy⟩
   have Gy:=(Gu.trans g15).trans gy
   refine cnd_i (fun r2=> ?_) (fun r2=> ?_)
   · have r2:j< (al.getD i st0).2.length:=by rw [h1] at r2;simpa using r2
     refine (h3.grow Gy).ix 0 (by omega) h1 (by omega) fun a e=> ⟨_,e,_,?_,j+1,wN (by omega) (by omega),r2,rfl,?_,gy⟩
     · omega
     · rw [Int.toNat_natCast,nw _ (litB_b2 (hx4.1 _ (getD_mem' r2)))]
       exact (vmx_succ r2).symm
   · have r2:j=(al.getD i st0).2.length:=by rw [decide_eq_false_iff_not] at r2;omega
     subst r2
     rw [List.take_length]
     refine ⟨_,?_,i+1,wN (by omega) (by omega),r,rfl,?_,(gu.trans g15).trans gy⟩
     · omega
     · rw [take_snoc r st0,List.map_append,List.foldl_append];rfl
 · have r:i=al.length:=by simp at r;omega
   subst r
   rw [List.take_length]
   exact ⟨rfl,Gu⟩
end
section
open Go.LeP
variable {s t s':PSt} {l c d:List Int} {x y:Int} {i j N:Nat} {cs:List (List Int)}
structure Mdl (N:Nat) (v:Int→Int):Prop where
 neg: ∀l,v (-l)= -v l
 val: ∀l,v l=0∨v l=1∨v l= -1
 set: ∀l,InV N l→v l≠0
def Folw (N:Nat) (cs:List (List Int)) (c:List Int):Prop:= ∀v,Mdl N v→(∀d∈cs,Tr1 v d)→Tr1 v c
def ClsAt (s:PSt) (c P:List Int):Prop:=(∃x∈c,x∈P)∨∃x∈c,∃y∈c,x≠y∧x ∉ P∧ -x ∉ P∧y ∉ P∧ -y ∉ P
def PSt.pre (s:PSt) (j:Nat):List Int:=(s.R .tr).take ((s.R .be).getD j 0).toNat
def Bnd (s:PSt):Prop:= ∀j,j< (s.R .be).length→∀i,s.There i→ClsAt s (s.R (.a i)) (s.pre j)
theorem Bnd.ext (g:Good s) (h:Bnd s) (e:Ext s s'):Bnd s':=by
 intro j hj i hi
 rw [e.be] at hj
 have hi:=e.there.1 hi
 have hb:=g.bl j hj
 have ep:s'.pre j=s.pre j:=by
  unfold PSt.pre
  obtain ⟨k,hk⟩:=e.tr
  rw [e.be,hk,List.take_append_of_le_length (by omega)]
 rw [e.a i,ep]
 exact h j hj i hi
def dig (c:List Int) (v:Int):Nat:=if v∈c then 1 else if -v∈c then 2 else 0
def code (c:List Int):Nat→Nat
 |0=>0
 |n+1=>dig c ((n:Int)+1)+3*code c n
structure Okc (N:Nat) (c:List Int):Prop where
 inv: ∀x∈c,InV N x
 nt: ∀x∈c,-x ∉ c
 nd:c.Nodup
end
section
open Go.LeP
variable {s t s':PSt} {l c d:List Int} {x y:Int} {i j N:Nat} {cs:List (List Int)} {hv:List (Nat × List Int)} {un:List (List Int)}
structure CSI (N:Nat) (cs:List (List Int)) (s:PSt) (hv:List (Nat × List Int)) (un:List (List Int)):Prop where
 g:Good s
 v:s.vars=N
 fc: ∀j,j<cs.length→s.There j∧s.R (.a j)=cs.getD j []
 imp: ∀i,s.There i→Folw N cs (s.R (.a i))
 hvp: ∀h∈hv,cs.length≤h.1∧s.There h.1∧s.R (.a h.1)=h.2
 hn:(hv.map (·.1)).Nodup
 unp: ∀c∈un,∃i,cs.length≤i∧s.There i∧s.R (.a i)=c∧i ∉ hv.map (·.1)
 bnd:Bnd s
 dn:((hv.map (·.2)++un).map fun c=>code c N).Nodup
 ok: ∀c∈hv.map (·.2)++un,Okc N c
theorem CSI.run (h:CSI N cs s hv un) (e:Ext s s') (g':Good s'):CSI N cs s' hv un:=by
 have th: ∀i,s'.There i↔s.There i:=fun i=>e.there
 exact ⟨g',by rw [e.v,h.v],fun j hj=> ⟨(th j).2 (h.fc j hj).1,by rw [e.a];exact (h.fc j hj).2⟩,fun i hi=>by rw [e.a];exact h.imp i ((th i).1 hi),
  fun k hk=> ⟨(h.hvp k hk).1,(th _).2 (h.hvp k hk).2.1,by rw [e.a];exact (h.hvp k hk).2.2⟩,h.hn,
  fun c hc=>by obtain ⟨i,h1,h2,h3,h4⟩:=h.unp c hc;exact ⟨i,h1,(th i).2 h2,by rw [e.a];exact h3,h4⟩,h.bnd.ext h.g e,h.dn,h.ok⟩
end
section
open Go.LeP
variable {w0 w w' w1 w2:World} {B N:Nat} {L L':Nat→Nat}
structure Hc where
 i:Nat
 sl:Sl
 c:List Int
 lv:Int
 sz:Int
 lk:Bool
def hcE (h:Hc):List Value:= [.int .i64 h.i,h.sl.v,.int .i64 h.lv,.int .i64 h.sz,.bool h.lk]
abbrev Us:=Sl × List Int
abbrev Ps:=Bool × Sl × List Int
def psE (h:Ps):List Value:= [.bool h.1,h.2.1.v]
theorem psEnc:Enc 2 psE:=⟨fun _=>rfl,by omega,fun x v hv=>by
 simp only [psE,List.mem_cons,List.not_mem_nil,or_false] at hv
 rcases hv with rfl|rfl<;>rfl⟩
structure Me where
 n:Int
 f:Sl
 bud:Int
 uni:Int
 lrn:Int
 pu:Int
 pa:Int
 pl:Int
 went:Int
 ver:Int
 cf:Int
 de:Int
 re:Int
 dr:Int
structure Xs where
 m:Me
 pb:Nat
 hb:Nat
 php:Sl
 hs:Sl
 us:Sl
 ps:Sl
 ms:Sl
 s:PSt
 S:Int→Prop
 ph:List Int
 hv:List Hc
 un:List Us
 pr:List Ps
 mo:List Int
def Xs.cells (x:Xs):Array Value:= #[.int .i64 x.m.n,x.m.f.v,.int .i64 x.m.bud,.int .i64 x.m.uni,.int .i64 x.m.lrn,ptrV x.pb,ptrV x.hb,x.php.v,.int .i64 x.m.pu,.int .i64 x.m.pa,.int .i64 x.m.pl,
 x.hs.v,x.us.v,.int .i64 x.m.went,.int .i64 x.m.ver,x.ms.v,x.ps.v,.int .i64 x.m.cf,.int .i64 x.m.de,.int .i64 x.m.re,.int .i64 x.m.dr]
structure RO (w:World) (L:Nat→Nat) (s:Sl) (c:List Int):Prop where
 n:s.n=c.length
 v:Vw (Value.int .i64) w s.p c
 l: ∀k,blk s.p=some k→L k=9∧k<w.heap.size
structure SRb (E:Nat→Prop) (w0 w:World) (B:Nat) (L:Nat→Nat) (N:Nat) (x:Xs):Prop where
 g:Grow w0 w
 me: ¬E 1→Has w B x.cells
 ml:L B=1∧w0.heap.size≤B∧B<w.heap.size
 pm: ¬E 2→∃H,PM w x.pb H x.s∧∀y k,own x.pb H y=some k→L k=2∧w0.heap.size≤k
 hp: ¬E 3→∃z,Hp.HRep w x.hb z∧Hp.HGood z N∧(∀u:Int,1≤u→u≤N→(0<HeapP.g z.at_ u↔x.S u))∧∀k,z.foot x.hb k→L k=3∧w0.heap.size≤k
 ph: ¬E 4→OwI ty_int w x.php.p x.php.c x.ph∧x.php.n=x.ph.length∧∀k,blk x.php.p=some k→L k=4∧w0.heap.size≤k
 hv: ¬E 5→Row 5 hcE ty_cdcl_clause w x.hs.p x.hs.c x.hv∧x.hs.n=x.hv.length∧∀k,blk x.hs.p=some k→L k=5∧w0.heap.size≤k
 hr: ¬E 9→∀h∈x.hv,RO w L h.sl h.c
 un: ¬E 6→Ow Sl.v ty_sl_int w x.us.p x.us.c (x.un.map (·.1))∧x.us.n=x.un.length∧∀k,blk x.us.p=some k→L k=6∧w0.heap.size≤k
 ur: ¬E 9→∀u∈x.un,RO w L u.1 u.2
 pr: ¬E 7→Row 2 psE ty_api_Step w x.ps.p x.ps.c x.pr∧x.ps.n=x.pr.length∧∀k,blk x.ps.p=some k→L k=7∧w0.heap.size≤k
 rr: ¬E 9→∀u∈x.pr,RO w L u.2.1 u.2.2
 mo: ¬E 8→OwI ty_int w x.ms.p x.ms.c x.mo∧x.ms.n=x.mo.length∧∀k,blk x.ms.p=some k→L k=8∧w0.heap.size≤k
abbrev SR:=SRb fun _=>False
structure Chg (E:Nat→Prop) (w0 w w':World) (L L':Nat→Nat):Prop where
 mod:Mod (fun k=>E (L k)∧w0.heap.size≤k) w w'
 lab: ∀k,k<w.heap.size→L' k=L k
def reL (L:Nat→Nat) (n i:Nat):Nat→Nat:=fun k=>if k<n then L k else i
theorem reL_old {n i k:Nat} (h:k<n):reL L n i k=L k:=by unfold reL;rw [if_pos h]
theorem reL_new {n i k:Nat} (h:n≤k):reL L n i k=i:=by unfold reL;rw [if_neg (by omega)]
abbrev Kp:=Chg fun i=>i≠9
theorem Chg.trans {E:Nat→Prop} {L1:Nat→Nat} (h:Chg E w0 w w1 L L1) (k:Chg E w0 w1 w2 L1 L'):Chg E w0 w w2 L L':=
 ⟨h.mod.then k.mod fun b hb ⟨e,e2⟩=> ⟨by rw [← h.lab b hb];exact e,e2⟩,fun b hb=>by rw [k.lab b (Nat.lt_of_lt_of_le hb h.mod.size),h.lab b hb]⟩
theorem Chg.grow {E:Nat→Prop} (g:Grow w w'):Chg E w0 w w' L L:=⟨g.mono fun _ _ e=>e.elim,fun _ _=>rfl⟩
theorem Chg.new {E:Nat→Prop} (g:Grow w w') (i:Nat):Chg E w0 w w' L (reL L w.heap.size i):=⟨g.mono fun _ _ e=>e.elim,fun _ hk=>reL_old hk⟩
theorem RO.keep {s:Sl} {c:List Int} {E:Nat→Prop} (h:RO w L s c) (k:Chg E w0 w w' L L') (h9: ¬E 9):RO w' L' s c:=
 ⟨h.n,h.v.keep k.mod fun b hb ⟨e,_⟩=>h9 (by rw [← (h.l b hb).1];exact e),fun b hb=> ⟨by rw [k.lab b (h.l b hb).2];exact (h.l b hb).1,Nat.lt_of_lt_of_le (h.l b hb).2 k.mod.size⟩⟩
theorem SRb.chg {E E':Nat→Prop} {x:Xs} (h:SRb E w0 w B L N x) (k:Chg E' w0 w w' L L'):SRb (fun i=>E i∨E' i) w0 w' B L' N x:=by
 have nt: ∀ {i:Nat} {j:Nat},¬(E i∨E' i)→L j=i→¬(E' (L j)∧w0.heap.size≤j):=fun hi hj hc=>hi (.inr (by rw [← hj];exact hc.1))
 refine ⟨h.g.then k.mod fun b hb hc=>by omega,fun e=> (h.me fun e'=>e (.inl e')).keep k.mod (nt e h.ml.1),⟨by rw [k.lab B h.ml.2.2];exact h.ml.1,h.ml.2.1,Nat.lt_of_lt_of_le h.ml.2.2 k.mod.size⟩,fun e=> ?_,fun e=> ?_,fun e=> ?_,fun e=> ?_,fun e u hu=> (h.hr (fun e'=>e (.inl e')) u hu).keep k fun e'=>e (.inr e'),fun e=> ?_,fun e u hu=> (h.ur (fun e'=>e (.inl e')) u hu).keep k fun e'=>e (.inr e'),fun e=> ?_,fun e u hu=> (h.rr (fun e'=>e (.inl e')) u hu).keep k fun e'=>e (.inr e'),fun e=> ?_⟩
 · obtain ⟨H,h1,h2⟩:=h.pm fun e'=>e (.inl e')
   exact ⟨H,h1.keep k.mod fun y j hj=>nt e (h2 y j hj).1,fun y j hj=>by rw [k.lab j (h1.lt y j hj)];exact h2 y j hj⟩
 · obtain ⟨z,h1,h2,h3,h4⟩:=h.hp fun e'=>e (.inl e')
   exact ⟨z,h1.keep k.mod fun j hj=>nt e (h4 j hj).1,h2,h3,fun j hj=>by rw [k.lab j (h1.lt j hj)];exact h4 j hj⟩
 · obtain ⟨h1,h2,h3⟩:=h.ph fun e'=>e (.inl e')
   exact ⟨h1.keep k.mod fun j hj=>nt e (h3 j hj).1,h2,fun j hj=>by rw [k.lab j (h1.lt j hj)];exact h3 j hj⟩
 · obtain ⟨h1,h2,h3⟩:=h.hv fun e'=>e (.inl e')
   exact ⟨h1.keep k.mod fun j hj=>nt e (h3 j hj).1,h2,fun j hj=>by rw [k.lab j (h1.lt j hj)];exact h3 j hj⟩
 · obtain ⟨h1,h2,h3⟩:=h.un fun e'=>e (.inl e')
   exact ⟨h1.keep k.mod fun j hj=>nt e (h3 j hj).1,h2,fun j hj=>by rw [k.lab j (h1.lt j hj)];exact h3 j hj⟩
 · obtain ⟨h1,h2,h3⟩:=h.pr fun e'=>e (.inl e')
   exact ⟨h1.keep k.mod fun j hj=>nt e (h3 j hj).1,h2,fun j hj=>by rw [k.lab j (h1.lt j hj)];exact h3 j hj⟩
 · obtain ⟨h1,h2,h3⟩:=h.mo fun e'=>e (.inl e')
   exact ⟨h1.keep k.mod fun j hj=>nt e (h3 j hj).1,h2,fun j hj=>by rw [k.lab j (h1.lt j hj)];exact h3 j hj⟩
section
variable {x:Xs}
theorem SRb.weak {E E':Nat→Prop} (h:SRb E w0 w B L N x) (hE: ∀i,E i→E' i):SRb E' w0 w B L N x:=
 ⟨h.g,fun e=>h.me fun c=>e (hE _ c),h.ml,fun e=>h.pm fun c=>e (hE _ c),fun e=>h.hp fun c=>e (hE _ c),fun e=>h.ph fun c=>e (hE _ c),fun e=>h.hv fun c=>e (hE _ c),fun e=>h.hr fun c=>e (hE _ c),fun e=>h.un fun c=>e (hE _ c),fun e=>h.ur fun c=>e (hE _ c),fun e=>h.pr fun c=>e (hE _ c),fun e=>h.rr fun c=>e (hE _ c),fun e=>h.mo fun c=>e (hE _ c)⟩
theorem SR.at (h:SR w0 w B L N x):Has w B x.cells:=h.me id
theorem SR.new (h:SR w0 w B L N x) (m:Grow w w') (i:Nat):SR w0 w' B (reL L w.heap.size i) N x:=
 (h.chg (E':=fun _=>False) ⟨m.mono fun _ _ e=>e.elim,fun _ hk=>reL_old hk⟩).weak fun _ e=>e.elim id id
theorem SR.grow (h:SR w0 w B L N x) (m:Grow w w'):SR w0 w' B L N x:=
 (h.chg (E':=fun _=>False) ⟨m.mono fun _ _ e=>e.elim,fun _ hk=>rfl⟩).weak fun _ e=>e.elim id id
theorem SR.drew (h:SR w0 w B L N x):SR w0 w.drew B L N x:=h.grow (Mod.refl _).drew
theorem SR.one (h:SR w0 w B L N x) (i:Nat) (m:Mod (fun k=>L k=i∧w0.heap.size≤k) w w'):SRb (fun j=>j=i) w0 w' B (reL L w.heap.size i) N x:=
 (h.chg (E':=fun j=>j=i) ⟨m,fun _ hk=>reL_old hk⟩).weak fun _ e=>e.elim False.elim id
theorem SR.two (h:SR w0 w B L N x) (i:Nat) (m:Mod (fun k=>L k=i∧w0.heap.size≤k) w w1) (m2:Mod (·=B) w1 w'):SRb (fun j=>j=i∨j=1) w0 w' B (reL L w.heap.size i) N x:=by
 refine (h.chg (E':=fun j=>j=i∨j=1) ⟨?_,fun _ hk=>reL_old hk⟩).weak fun _ e=>e.elim False.elim id
 exact (m.mono fun k _ e=> ⟨.inl e.1,e.2⟩).then m2 fun k hk (e:k=B)=>by subst e;exact ⟨.inr h.ml.1,h.ml.2.1⟩
theorem ft_new {p q:Option Addr} {i:Nat} (h: ∀k,blk p=some k→L k=i∧w0.heap.size≤k) (hl: ∀k,blk p=some k→k<w.heap.size) (g:Grow w0 w) (hq: ∀k,blk q=some k→blk p=some k∨w.heap.size≤k):
 ∀k,blk q=some k→reL L w.heap.size i k=i∧w0.heap.size≤k:=by
 intro k hk
 rcases hq k hk with e|e
 · rw [reL_old (hl k e)];exact h k e
 · exact ⟨reL_new e,Nat.le_trans g.size e⟩
theorem SR.own (h:SR w0 w B L N x) {m':Me} (st:Has w' B {x with m:=m'}.cells) (m:Mod (·=B) w w'):(SR w0 w' B L N {x with m:=m'})∧Kp w0 w w' L L:=by
 have b:=(h.chg (E':=fun j=>j=1) (w':=w') (L':=L) ⟨m.mono fun k _ (e:k=B)=>by subst e;exact ⟨h.ml.1,h.ml.2.1⟩,fun _ _=>rfl⟩)
 exact ⟨⟨b.g,fun _=>st,b.ml,fun _=>b.pm (by simp),fun _=>b.hp (by simp),fun _=>b.ph (by simp),fun _=>b.hv (by simp),fun _=>b.hr (by simp),fun _=>b.un (by simp),fun _=>b.ur (by simp),fun _=>b.pr (by simp),fun _=>b.rr (by simp),fun _=>b.mo (by simp)⟩,⟨m.mono fun k _ (e:k=B)=>by subst e;exact ⟨by rw [h.ml.1];decide,h.ml.2.1⟩,fun _ _=>rfl⟩⟩
theorem SR.prop (h:SR w0 w B L N x) {H H':Pt→Sl} (hH: ∀y k,Go.Proofs.YtbdghpjnifjlmaaGreat.W.own x.pb H y=some k→L k=2∧w0.heap.size≤k) (hlt: ∀y k,Go.Proofs.YtbdghpjnifjlmaaGreat.W.own x.pb H y=some k→k<w.heap.size) {s':PSt} (p:Pw w w' x.pb H H' s'):(SR w0 w' B (reL L w.heap.size 2) N {x with s:=s'})∧Kp w0 w w' L (reL L w.heap.size 2):=by
 have b:=h.one 2 (p.mod.mono fun k _ ⟨y,e⟩=>hH y k e)
 refine ⟨⟨b.g,fun _=>b.me (by simp),b.ml,fun _=> ⟨H',p.pm,fun y k hk=> ?_⟩,fun _=>b.hp (by simp),fun _=>b.ph (by simp),fun _=>b.hv (by simp),fun _=>b.hr (by simp),fun _=>b.un (by simp),fun _=>b.ur (by simp),fun _=>b.pr (by simp),fun _=>b.rr (by simp),fun _=>b.mo (by simp)⟩,⟨p.mod.mono fun k _ ⟨y,e⟩=> ⟨by rw [(hH y k e).1];decide,(hH y k e).2⟩,fun _ hk=>reL_old hk⟩⟩
 rcases p.ft y k hk with ⟨z,e⟩|e
 · rw [reL_old (hlt z k e)];exact hH z k e
 · exact ⟨reL_new e,Nat.le_trans h.g.size e⟩
theorem RO.re {s:Sl} {c:List Int} {i:Nat} (h:RO w L s c) {E:Nat→Prop} (m:Mod (fun k=>E (L k)∧w0.heap.size≤k) w w') (h9: ¬E 9):RO w' (reL L w.heap.size i) s c:=h.keep ⟨m,fun _ hk=>reL_old hk⟩ h9
theorem SR.proof (h:SR w0 w B L N x) {q:Sl} {pr':List Ps} (m:Mod (fun k=>blk x.ps.p=some k) w w1) (r:Row 2 psE ty_api_Step w1 q.p q.c pr') (hq:q.n=pr'.length) (hf: ∀k,blk q.p=some k→blk x.ps.p=some k∨w.heap.size≤k)
 (hro: ∀u∈pr',RO w L u.2.1 u.2.2) (st:Has w2 B {x with ps:=q,pr:=pr'}.cells) (m2:Mod (·=B) w1 w2) (hB:blk q.p≠some B):(SR w0 w2 B (reL L w.heap.size 7) N {x with ps:=q,pr:=pr'})∧Kp w0 w w2 L (reL L w.heap.size 7):=by
 obtain ⟨p1,p2,p3⟩:=h.pr id
 have b:=h.two 7 (m.mono fun k _ e=>p3 k e) m2
 have mm:Mod (fun k=> (L k=7∨L k=1)∧w0.heap.size≤k) w w2:=(m.mono fun k _ e=> ⟨.inl (p3 k e).1,(p3 k e).2⟩).then m2 fun k hk (e:k=B)=>by subst e;exact ⟨.inr h.ml.1,h.ml.2.1⟩
 exact ⟨⟨b.g,fun _=>st,b.ml,fun _=>b.pm (by simp),fun _=>b.hp (by simp),fun _=>b.ph (by simp),fun _=>b.hv (by simp),fun _=>b.hr (by simp),fun _=>b.un (by simp),fun _=>b.ur (by simp),fun _=> ⟨r.keep m2 fun k hk (e:k=B)=>hB (by rw [← e];exact hk),hq,ft_new p3 p1.lt h.g hf⟩,fun _ u hu=> (hro u hu).re (E:=fun j=>j=7∨j=1) mm (by simp),fun _=>b.mo (by simp)⟩,⟨(m.mono fun k _ e=> ⟨by rw [(p3 k e).1];decide,(p3 k e).2⟩).then m2 fun k hk (e:k=B)=>by subst e;exact ⟨by rw [h.ml.1];decide,h.ml.2.1⟩,fun _ hk=>reL_old hk⟩⟩
theorem SR.neB (h:SR w0 w B L N x) {p q:Option Addr} {i:Nat} (hi:i≠1) (hp: ∀k,blk p=some k→L k=i∧w0.heap.size≤k) (hq:q=p∨q=some ⟨w1.heap.size,0,none⟩) (g:w.heap.size≤w1.heap.size):blk q≠some B:=by
 intro e
 rcases hq with rfl|rfl
 · have:=(hp B e).1;rw [h.ml.1] at this;exact hi this.symm
 · have:w1.heap.size=B:=by simpa [blk] using e
   have:=h.ml.2.2;omega
theorem fr_of {p q:Option Addr} (hq:q=p∨q=some ⟨w1.heap.size,0,none⟩) (g:w.heap.size≤w1.heap.size): ∀k,blk q=some k→blk p=some k∨w.heap.size≤k:=by
 intro k hk
 rcases hq with rfl|rfl
 · exact .inl hk
 · have:w1.heap.size=k:=by simpa [blk] using hk
   exact .inr (by omega)
end
end
section
open Go.LeP
variable {w0 w w' w1 w2:World} {B N:Nat} {L L':Nat→Nat} {x:Xs} {l:List Int}
theorem sl_stepC:slOkN prog ty_sl_api_Step ty_api_Step 2 32=true:=by kernel_rfl
theorem ps_vr {u:Ps} {b:Nat} (h:Has w b #[.bool u.1,u.2.1.v]):Vr 2 psE w (some ⟨b,0,none⟩) [u]:=by
 intro j hj
 have:j=0:=by simpa using hj
 subst this
 exact ⟨_,rfl,cell_add h rfl,cell_add h rfl,trivial⟩
theorem told_app (h:SR w0 w B L N x) (hp:x.pr.length≤1000000000) (del:Bool) {sl:Sl} (ro:RO w L sl l) {b:Nat} (hb:Has w b #[.bool del,sl.v]) {K:World→Prop}
 (hk: ∀w' L' q,SR w0 w' B L' N {x with ps:=q,pr:=x.pr++ [(del,sl,l)]}→Kp w0 w w' L L'→K w'):
 ∃w8 r9p r9n r9c,(Builtin.append_ #[26,26] 26 #[.slice x.ps.p x.ps.n x.ps.c,.slice (some (Addr.mk b 0 none)) 1 1]).run prog w= .ok (.slice r9p r9n r9c) w8∧
  ∃a10,(some (Addr.mk B 0 none))=some a10∧∃w11,StoreAt ((a10.add 14).add 2) 0 [.slice r9p r9n r9c] w8 w11∧K w11:=by
 obtain ⟨r1,r2,r3⟩:=h.pr id
 refine Row.app psEnc sl_stepC r1 (ps_vr (u:=(del,sl,l)) hb) r2 rfl (by simp;omega) fun w8 p' c' o8 m8 hp' hz'=> ⟨_,rfl,?_⟩
 have hB8:Has w8 B x.cells:=h.at.keep m8 fun e=>by have:=(r3 B e).1;rw [h.ml.1] at this;exact absurd this (by decide)
 refine store_f2 hB8 rfl rfl fun w11 h11 m11=> ?_
 have:=h.proof (q:=⟨p',(x.pr++ [(del,sl,l)]).length,c'⟩) (pr':=x.pr++ [(del,sl,l)]) m8 o8 rfl (fr_of hp' (Nat.le_refl _)) (fun u hu=>by
  rcases List.mem_append.1 hu with hu|hu
  · exact h.rr id u hu
  · rw [List.mem_singleton] at hu;subst hu;exact ro) h11 m11 (h.neB (by decide) r3 hp' (Nat.le_refl _))
 exact hk _ _ _ this.1 this.2
theorem told_ok (h:SR w0 w B L N x) (hp:x.pr.length≤1000000000) {p:Option Addr} {n c:Nat} (hv:Vw (Value.int .i64) w p l) (hn:n=l.length) (hx:n≤1000000):
 Calls prog cdcl_search_told.id #[ptrV B,.slice p n c] w fun e w'=>e= .returned (.tuple #[])∧∃L' q sl,SR w0 w' B L' N {x with ps:=q,pr:=x.pr++ [(false,sl,l)]}∧Kp w0 w w' L L':=by
 refine cdcl_search_told.calls ?_
 have D:=h.drew
 refine ⟨fun u=>Grow w.drew u,Mod.refl _,_,rfl,_,_,_,fun u g=>cell_add2 (D.at.grow g) rfl,(clone_ok hv.drew hn hx).mono ?_⟩
 rintro e w4 ⟨q,d,rfl,o4,g4,f4⟩
 refine ⟨_,_,_,rfl,g4,fun n6 w7 h7=> ?_⟩
 have G7:=g4.trans h7.mod
 refine ⟨G7,?_⟩
 have S7:=D.new G7 9
 have ro:RO w7 (reL L w.drew.heap.size 9) ⟨q,l.length,d⟩ l:=⟨rfl,(o4.grow h7.mod).vw,fun k hk=> ⟨reL_new (f4 k hk),Nat.lt_of_lt_of_le (o4.lt k hk) h7.mod.size⟩⟩
 refine told_app S7 hp false ro h7.has fun w' L' q' S' k'=> ⟨rfl,L',q',_,S',?_⟩
 exact ((Chg.grow (Mod.refl w).drew).trans (Chg.new G7 9)).trans k'
end
section
open Go.LeP
variable {w0 w w' w1 w2:World} {B N:Nat} {L L':Nat→Nat} {x:Xs} {l:List Int}
theorem sl_intC:slOk prog ty_sl_int ty_int 8=true:=by kernel_rfl
end
end Go.Proofs.YtbdghpjnifjlmaaGreat.W
