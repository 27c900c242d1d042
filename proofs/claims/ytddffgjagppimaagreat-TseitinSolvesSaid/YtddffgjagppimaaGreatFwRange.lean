/- The frame within a round of a range over a function; such a range within a function. -/
import Derived.Test.YtddffgjagppimaaGreatFwDefer
import Derived.RangeFuncNested
import Derived.Sort.LoopGhostIn
import Derived.OrdersIn
import Derived.TacticsIn
namespace Go.Fw
open Go
variable {P:Program} {D:List Deferred} {ops:Array Oper} {rm l:Nat}
def opR (o:Oper):Bool:=match o.op with| .defer _=>false|_=>true
theorem opR_spec {o:Oper} (h:opR o=true): ∀c,o.op≠ .defer c:=fun c e=>by unfold opR at h;rw [e] at h;cases h
def opsR (ops:Array Oper):Prop:= ∀ (j:Nat) (o:Oper),ops[j]? =some o→opR o=true
def codeR:Code→Bool
 | .skip| .label _| .exit _| .ret=>true
 | .region _ ops _=>ops.toList.all opR
 | .seq a b| .cond _ a b=>codeR a && codeR b
 | .block _ a| .loop a=>codeR a
 |_=>false
theorem wpOpIn_of_evid {Q:Exit→Act→World→Prop} {i:Nat} {K:Act→World→Prop} {a:Act} {w:World} (hr:opsR ops) (h:wpE P ops i K a w):wpOpIn (Fence.wide.inRound l) rm P ops Q i K a w:=by
 unfold wpE at h
 unfold wpOpIn
 split
 · rename_i ho;simpa only [ho] using h
 · rename_i o ho
   simp only [ho] at h
   unfold sev at h
   by_cases hw:Region.wanted o (yielded ops a.tmps)=true
   · rw [if_pos hw] at h
     rw [if_pos hw]
     unfold Oper.wpIn
     refine ⟨fun _ _=>trivial,?_⟩
     have es:o.semAt (Fence.wide.inRound l).round a.eval=execOp a.eval o:=Oper.semAt_some l a.eval o (opR_spec (hr i o ho))
     rw [es]
     have val: ∀v w',(execOp a.eval o).run P w= .ok (.value v) w'→K (a.put o.dst v) w'→Oper.uponIn (Fence.wide.inRound l) rm P o a K Q ((execOp a.eval o).run P w):=fun v w' hr hk=>by
      rw [hr];exact hk
     match hk:opKind P o with
     |0=>rw [hk] at h;obtain ⟨v,hr,h⟩:=h;exact val v w (hr w) h
     |1=>rw [hk] at h;obtain ⟨v,hr,h⟩:=h;exact val v w hr h
     |_+2=>
      rw [hk] at h
      change uponK P _ _ at h
      generalize (execOp a.eval o).run P w=r at*
      cases r with
      |halt=>exact h.elim
      |ok n w'=>
       cases n<;>simp only [uponK] at h<;>simp only [Oper.uponIn]
       case value=>exact h
       case skip=>exact h
       case enter=>exact ⟨fun e=> (by cases e),CallsIn.inRound l (CallsIn.mono (callsIn_wide.2 h) fun e w'' ⟨v,he,hk⟩=>by subst he;exact hk)⟩
   · rw [if_neg hw] at h
     rw [if_neg hw]
     exact ⟨fun _ _=>trivial,h⟩
theorem wpAnyIn_of_E {Q:Exit→Act→World→Prop} {K:Act→World→Prop} (hr:opsR ops) (hQ: ∀a w,K a w→Q .normal a w): ∀ (fuel:Nat) (listed:Array Bool) (a:Act) (w:World),
 wpAnyE P ops K fuel listed a w→wpAnyIn (Fence.wide.inRound l) rm P .any ops Q fuel listed a w
 |0,_,_,_,h=> ⟨h.1,hQ _ _ h.2⟩
 |fuel+1,_,_,_,h=> ⟨fun h0=>hQ _ _ (h.1 h0),fun i hi=>wpOpIn_of_evid hr (wpE_mono (fun a w=>wpAnyIn_of_E hr hQ fuel _ a w) (h.2 i hi))⟩
theorem region_anyR {id:Nat} {Q:Exit→Act→World→Prop} {a:Act} {w:World} (hr:opsR ops) (hm:P.follows .mixedOrders=true)
 (h:wpAnyE P ops (fun a w=>Q .normal a w) ops.size (Array.replicate ops.size false) a w.drew):(Code.region id ops true).wpIn (Fence.wide.inRound l) rm P Q a w:=
 wpIn_region_any hm (wpAnyIn_of_E hr (K:=fun a w=>Q .normal a w) (fun _ _ h=>h) _ _ _ _ h)
theorem region_drawR {id:Nat} {Q:Exit→Act→World→Prop} {a:Act} {w:World} (hr:opsR ops) (hm:P.follows .mixedOrders=true) (hok:orderOk P ops=true)
 (h:lexE P ops (fun a w=>Q .normal a w) (List.range' 0 ops.size) a w.drew):(Code.region id ops true).wpIn (Fence.wide.inRound l) rm P Q a w:=
 region_anyR hr hm (any_of_lex hok ops.size 0 _ a _ (by omega) (by simp) (fun j hj=>by simp [hj]) h)
theorem lexE_opsIn {Q:Exit→Act→World→Prop} (hr:opsR ops): ∀ (li:List Nat) (a:Act) (w:World),lexE P ops (fun a w=>Q .normal a w) li a w→wpOpsIn (Fence.wide.inRound l) rm P ops Q li a w
 | [],_,_,h=>h
 |i::li,a,w,h=>by
  rw [wpOpsIn_cons]
  exact wpOpIn_of_evid hr (wpE_mono (fun a w=>lexE_opsIn hr li a w) h)
theorem region_plainR {id:Nat} {Q:Exit→Act→World→Prop} {a:Act} {w:World} (hr:opsR ops)
 (h:lexE P ops (fun a w=>Q .normal a w) (List.range' 0 ops.size) a w):(Code.region id ops false).wpIn (Fence.wide.inRound l) rm P Q a w:=by
 refine wpIn_region ?_
 rw [List.range_eq_range']
 exact lexE_opsIn hr _ a w h
theorem wpC_soundR (hm:P.follows .mixedOrders=true) {n rm l:Nat} (c:Code): ∀ {ann:Ann} {f:Fr} {w:World} {Q:Post} {a:Act},codeOk P n c=true→codeR c=true→Ag D n a f→wpC P c ann f w Q→
 c.wpIn (Fence.wide.inRound l) rm P (fun e a' w'=> ∃f',Ag D n a' f'∧Q e f' w'∧Keeps c f f') a w:=by
 induction c with
 |skip=>intro ann f w Q a _ _ ha h;exact wpIn_skip ⟨f,ha,h,fun _ _=>rfl⟩
 |label l=>intro ann f w Q a _ _ ha h;exact wpIn_label ⟨f,ha,h,fun _ _=>rfl⟩
 |exit id=>intro ann f w Q a _ _ ha h;exact wpIn_exit ⟨f,ha,h,fun _ _=>rfl⟩
 |ret=>intro ann f w Q a _ _ ha h;exact wpIn_ret ⟨f,ha,h,fun _ _=>rfl⟩
 |goto l=>intro ann f w Q a h h2;cases h2
 |refuse y=>intro ann f w Q a h h2;cases h2
 |rangeFunc g ps x y=>intro ann f w Q a h h2;cases h2
 |region id ops draw=>
  intro ann f w Q a hc hcr ha h
  simp only [codeOk,Bool.and_eq_true] at hc
  have hr:opsR ops:=fun j o ho=>by
   simp only [codeR] at hcr
   rw [List.all_eq_true] at hcr
   exact hcr o (Array.mem_toList_iff.2 (Array.mem_of_getElem? ho))
  have hds: ∀ (j:Nat) (o:Oper) (d:Nat),ops[j]? =some o→o.dst=some d→(d,o.type)∈dsts (.region id ops draw):=fun j o d ho hd=>by
   simp only [dsts,List.mem_filterMap]
   refine ⟨o,?_,by rw [hd];rfl⟩
   exact Array.mem_toList_iff.2 (Array.mem_of_getElem? ho)
  have fin: ∀a' w',((∃f',Ag D n a' f'∧Q .normal f' w')∧∀i,typeAt (dsts (.region id ops draw)) i=none→a'.tmps.getD i undef=a.tmps.getD i undef)→
   ∃f',Ag D n a' f'∧Q .normal f' w'∧Keeps (.region id ops draw) f f':=by
   rintro a' w' ⟨⟨f',ha',hq⟩,hi⟩
   exact ⟨f',ha',hq,fun i hti=>by rw [← ha'.2.2,hi i hti,ha.2.2]⟩
  cases draw with
  |false=>
   have hlex:=wpR_lex hc.1 ops.toList 0 f a _ (by simp) ha h
   have hk:=lexE_keeps hds _ _ _ hlex
   rw [Array.length_toList] at hk
   exact region_plainR hr (lexE_mono _ _ _ fin hk)
  |true=>
   have htab:tableOk ops=true:=by simpa using hc.2
   simp only [wpC,cond_true] at h
   cases hdr:ann.drawn with
   |true=>
    rw [hdr,cond_true] at h
    exact region_anyR hr hm (anyE_mono _ _ _ _ fin (anyE_keeps hds _ _ _ _ (drawW_any htab hc.1 ha h)))
   |false=>
   simp only [hdr,cond_false,wpDraw] at h
   cases hord:orderOk P ops with
   |true=>
    rw [hord,cond_true] at h
    have hlex:=wpR_lex hc.1 ops.toList 0 f a _ (by simp) ha h
    have hk:=lexE_keeps hds _ _ _ hlex
    rw [Array.length_toList] at hk
    exact region_drawR hr hm hord (lexE_mono _ _ _ fin hk)
   |false=>
    rw [hord,cond_false] at h
    have hany:=wpX_any htab hc.1 ops.size (Array.replicate ops.size false) f a _ (by simp) (fun j o ho hl=>by
     have hjs:j<ops.size:=by
      rcases Nat.lt_or_ge j ops.size with h'|h'
      · exact h'
      · simp [Array.getElem?_eq_none h'] at ho
     simp [hjs] at hl) (by simp [List.filter_replicate]) ha h
    have hk:=anyE_keeps hds _ _ _ _ hany
    exact region_anyR hr hm (anyE_mono _ _ _ _ fin hk)
 |seq x y ihx ihy=>
  intro ann f w Q a hc hcr ha h
  simp only [codeOk,Bool.and_eq_true] at hc
  simp only [codeR,Bool.and_eq_true] at hcr
  simp only [wpC] at h
  refine wpIn_seq ?_
  cases hcut:ann.cuts with
  |none=>
   simp only [hcut] at h
   refine wpIn_mono (ihx hc.1 hcr.1 ha h) fun e a' w' ⟨f',ha',hq,hk⟩=> ?_
   cases e with
   |normal=>exact wpIn_mono (ihy hc.2 hcr.2 ha' hq) fun e a'' w'' ⟨f'',ha'',hq',hk'⟩=> ⟨f'',ha'',hq',hk.seq hk'⟩
   |_=>exact ⟨f',ha',hq,hk.left⟩
  |some as=>
   simp only [hcut] at h
   obtain ⟨J,h1,h2⟩:=h
   refine wpIn_mono (ihx hc.1 hcr.1 ha h1) fun e a' w' ⟨f',ha',hq,hk⟩=> ?_
   cases e with
   |normal=>
    obtain ⟨r,hr,hrest⟩:=appVs_fa _ hq h2
    have:=hrest w' f' hr
    rw [mkFr_self hk] at this
    exact wpIn_mono (ihy hc.2 hcr.2 ha' this) fun e a'' w'' ⟨f'',ha'',hq',hk'⟩=> ⟨f'',ha'',hq',hk.seq hk'⟩
   |_=>exact ⟨f',ha',hq,hk.left⟩
 |cond o x y ihx ihy=>
  intro ann f w Q a hc hcr ha h
  simp only [codeOk,Bool.and_eq_true] at hc
  simp only [codeR,Bool.and_eq_true] at hcr
  simp only [wpC] at h
  split at h
  · rename_i t ht
    have het:a.eval o= .bool t:=by rw [ha.eval];exact ht
    cases t with
    |true=>
     refine wpIn_cond_true het (wpIn_mono (ihx hc.1 hcr.1 ha h) fun e a' w' ⟨f',ha',hq,hk⟩=> ⟨f',ha',hq,fun i hi=>hk i ((typeAt_append _ _ _).1 hi).1⟩)
    |false=>
     refine wpIn_cond_false het (wpIn_mono (ihy hc.2 hcr.2 ha h) fun e a' w' ⟨f',ha',hq,hk⟩=> ⟨f',ha',hq,fun i hi=>hk i ((typeAt_append _ _ _).1 hi).2⟩)
  · exact h.elim
 |block id x ih=>
  intro ann f w Q a hc hcr ha h
  refine wpIn_block (wpIn_mono (ih hc hcr ha h) fun e a' w' ⟨f',ha',hq,hk⟩=> ?_)
  cases e with
  |exit i=>
   simp only [Exit.inBlock]
   simp only at hq
   cases hb:Nat.beq i id with
   |true=>
    obtain rfl:=Nat.eq_of_beq_eq_true hb
    rw [hb,cond_true] at hq
    rw [if_pos rfl]
    exact ⟨f',ha',hq,hk⟩
   |false=>
    rw [hb,cond_false] at hq
    rw [if_neg (fun he=>by rw [he,Nat.beq_refl] at hb;cases hb)]
    exact ⟨f',ha',hq,hk⟩
  |_=>exact ⟨f',ha',hq,hk⟩
 |scope x ih=>intro ann f w Q a _ h2;cases h2
 |loop x ih=>
  intro ann f w Q a hc hcr ha h
  simp only [wpC] at h
  obtain ⟨I,h1,h2⟩:=h
  have h1':=appVs_pick _ h1
  obtain ⟨r0,⟨k0,hr0⟩,hall0⟩:=h1'
  refine wpIn_loop_ghost (fun k a' w'=> ∃f':Fr,Ag D n a' f'∧Keeps x f f'∧appVs (kindsOf P ann.told) I (valsOf f' ann.told) fun r=>r w' k) k0 ⟨f,ha,fun _ _=>rfl,hall0 (fun r=>r w k0) hr0⟩ ?_
  intro k a' w' ⟨f',ha',hkf,hI⟩
  obtain ⟨r,hr,hrest⟩:=appVs_fa _ hI h2
  have hb:=hrest w' k f' hr
  rw [mkFr_self hkf] at hb
  refine wpIn_mono (ih hc hcr ha' hb) fun e a'' w'' ⟨f'',ha'',hq,hk⟩=> ?_
  have hkk:Keeps x f f'':=fun i hi=> (hk i hi).trans (hkf i hi)
  cases e with
  |normal=>
   obtain ⟨r',⟨k',hlt,hr'⟩,hall⟩:=appVs_pick _ hq
   exact ⟨k',hlt,f'',ha'',hkk,hall (fun r=>r w'' k') hr'⟩
  |_=>exact ⟨f'',ha'',hq,hkk⟩
end Go.Fw
