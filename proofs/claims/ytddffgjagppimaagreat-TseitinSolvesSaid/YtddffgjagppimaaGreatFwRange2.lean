/- A range over a function, once in the text of a function. -/
import Derived.Test.YtddffgjagppimaaGreatFwRange
import Derived.Test.YtddffgjagppimaaGreatFwMem
namespace Go.Fw
open Go
variable {P:Program} {D:List Deferred} {rm:Nat}
def KpT (T:Nat→Prop) (W W':World):Prop:= ∀k,T k→W'.heap[k]? =W.heap[k]?
structure KB (B:Nat) (T:Nat→Prop) (W W':World):Prop where
 f:KeepsFrom B W W'
 t:KpT T W W'
def StB (B:Nat) (I:List (Int × Int)→World→Prop):Prop:=
 ∀pre (W W':World) (S:Nat→Prop),I pre W→Go.Fw.Mod S W W'→(∀r,S r→B≤r∧∀o,W.heap[r]? =some o→o.isCells=false)→I pre W'
def SeqB (P:Program) (g:Nat) (lb:Array Value) (xs:List (Int × Int)) (Pl:Int × Int→Prop) (T:Nat→Prop) (w:World):Prop:=
 ∀n,1≤n→SeqStopsK Fence.wide n P g lb (fun x: {x:Int × Int // Pl x}=> #[.int .i64 x.1.1,.int .i64 x.1.2]) (KpT T) (fun ys=>ys.map (·.1)=xs) (fun _=>True) xs.length w
def asgK (as:Code) (f:Fr) (K:Fr→Prop):Prop:=
 match as with
 | .region _ ops false=>match ops.toList with
   | [o]=>match o.op,o.guard with
     | .assign x,none=>K (f.set o.dst (ev f x))
     |_,_=>False
   |_=>False
 |_=>False
theorem asgK_all {as:Code} {f:Fr} {K:Fr→Prop} (h:asgK as f K): ∃d x,∀ (g:Fr),(∀K':Fr→Prop,asgK as g K'→K' (g.set d (ev g x)))∧∀ (P:Program) (ann:Ann) (W:World) (Q:Post),Q .normal (g.set d (ev g x)) W→wpC P as ann g W Q:=by
 unfold asgK at h
 split at h
 · rename_i id ops
   split at h
   · rename_i o ho
     split at h
     · rename_i x h1 h2
       refine ⟨o.dst,x,fun g=> ⟨fun K' hk=> ?_,fun P ann W Q hQ=> ?_⟩⟩
       · unfold asgK at hk
         simp only [ho,h1,h2] at hk
         exact hk
       · simp only [wpC,cond_false,ho,wpR,stepO,h2,opK,h1]
         exact hQ
     · exact h.elim
   · exact h.elim
 · exact h.elim
def rangeK (P:Program) (f:Fr) (w:World) (g:Operand) (ps:Array Tmp) (as bd:Code) (ann:Ann) (next:Nat→World→Prop):Prop:=
 match ps.toList with
 | [p,q]=>match ev f g with
   | .func (.func gf) ⟨[]⟩ lb=>entB P gf=true∧asgK as f (fun _=>True)∧∃ (xs:List (Int × Int)) (Pl:Int × Int→Prop) (T:Nat→Prop),SeqB P gf lb xs Pl T w∧(∀k,T k→k<w.heap.size)∧∃I:List (Int × Int)→World→Prop,I [] w∧StB w.heap.size I∧
     (∀ (pre:List (Int × Int)) (i v:Int) (W:World),pre.length<xs.length→Pl (i,v)→I pre W→asgK as ((f.set (some p) (.int .i64 i)).set (some q) (.int .i64 v)) fun f'=>wpC P bd ann f' W fun e _ W'=>match e with
       | .normal=>KB w.heap.size T W W'∧I (pre++ [(i,v)]) W'
       |_=>False)∧
     ∀ (d:Nat) (W:World),w.heap.size≤d→W.heap[d]? =some (.deferred (some []))→I xs W→next d W
   |_=>False
 |_=>False
def splitR:Code→Option (Code × Nat × Operand × Array Tmp × Code × Code × Code)
 | .seq a b=>match a with
   | .block id (.rangeFunc g ps as bd)=>some (.skip,id,g,ps,as,bd,b)
   | .seq a1 (.block id (.rangeFunc g ps as bd))=>some (.seq a1 .skip,id,g,ps,as,bd,b)
   |_=> (splitR b).map fun x=> (.seq a x.1,x.2)
 |_=>none
def wpFR (P:Program) (fn:Func) (ann1 annB ann2:Ann) (args:List Value) (w:World) (K:Value→World→Prop):Prop:=
 match fn.body with
 |none=>False
 |some c=>match splitR c with
  |none=>False
  |some (pre,_,g,ps,as,bd,post)=>wpC P pre ann1 (argFr args) w fun e f w1=>match e with
   | .normal=>rangeK P f w1 g ps as bd annB fun d W=>wpC P post ann2 f W fun e f' w'=>match e with
     | .normal| .ret=>w'.heap[d]? =some (.deferred (some []))∧∀w2,Go.Fw.Mod (·=d) w' w2→resK P fn.results.toList f' w2 fun vs=>K (tupOf vs) w2
     |_=>False
   |_=>False
def fnOkR (P:Program) (fn:Func) (args:Nat):Bool:=
 match fn.body with
 |none=>false
 |some c=>match splitR c with
  |none=>false
  |some (pre,_,_,ps,as,bd,post)=>codeOk P fn.ntmps pre && codeOk P fn.ntmps post && codeOk P fn.ntmps as && codeR as && codeOk P fn.ntmps bd && codeR bd && ps.all (fun p=>Nat.blt p fn.ntmps) && Nat.ble args fn.ntmps
theorem fill_sound (hm:P.follows .mixedOrders=true) {n:Nat} {Q:Exit→Act→World→Prop}: ∀ (c:Code) {pre:Code} {r:Nat × Operand × Array Tmp × Code × Code × Code} {ann:Ann} {f:Fr} {a:Act} {w:World} {Qf:Post},splitR c=some (pre,r)→codeOk P n pre=true→Ag D n a f→wpC P pre ann f w Qf→
 (∀f' a' w',Ag D n a' f'→Qf .normal f' w'→(Code.block r.1 (.rangeFunc r.2.1 r.2.2.1 r.2.2.2.1 r.2.2.2.2.1)).wpIn Fence.wide rm P (Exit.then (r.2.2.2.2.2.wpIn Fence.wide rm P Q) Q) a' w')→(∀e f' w',e≠ .normal→¬Qf e f' w')→c.wpIn Fence.wide rm P Q a w:=by
 intro c
 induction c with
 |seq x y ihx ihy=>
  intro pre r ann f a w Qf hs hc ha h hn hx
  have go:(splitR y).map (fun z=> (Code.seq x z.1,z.2))=some (pre,r)→(Code.seq x y).wpIn Fence.wide rm P Q a w:=fun hs=>by
   cases hy:splitR y with
   |none=>rw [hy] at hs;cases hs
   |some z=>
    rw [hy] at hs
    simp only [Option.map_some,Option.some.injEq,Prod.mk.injEq] at hs
    obtain ⟨rfl,rfl⟩:=hs
    simp only [codeOk,Bool.and_eq_true] at hc
    simp only [wpC] at h
    refine wpIn_seq ?_
    cases hcut:ann.cuts with
    |none=>
     simp only [hcut] at h
     refine wpIn_mono (wpIn_wide.2 (wpC_sound hm x hc.1 ha h)) fun e a' w' ⟨f',ha',hq,hk⟩=> ?_
     cases e with
     |normal=>exact ihy hy hc.2 ha' hq hn hx
     |_=>exact absurd hq (hx _ _ _ (by simp))
    |some as=>
     simp only [hcut] at h
     obtain ⟨J,h1,h2⟩:=h
     refine wpIn_mono (wpIn_wide.2 (wpC_sound hm x hc.1 ha h1)) fun e a' w' ⟨f',ha',hq,hk⟩=> ?_
     cases e with
     |normal=>
      obtain ⟨r',hr,hrest⟩:=appVs_fa _ hq h2
      have:=hrest w' f' hr
      rw [mkFr_self hk] at this
      exact ihy hy hc.2 ha' this hn hx
     |_=>exact absurd hq (hx _ _ _ (by simp))
  unfold splitR at hs
  split at hs
  · simp only [Option.some.injEq,Prod.mk.injEq] at hs
    obtain ⟨rfl,rfl⟩:=hs
    simp only [wpC] at h
    exact wpIn_seq (hn f a w ha h)
  · rename_i a1 id g ps as bd
    simp only [Option.some.injEq,Prod.mk.injEq] at hs
    obtain ⟨rfl,rfl⟩:=hs
    simp only [codeOk,Bool.and_eq_true] at hc
    simp only [wpC] at h
    refine wpIn_seq (wpIn_seq ?_)
    cases hcut:ann.cuts with
    |none=>
     simp only [hcut] at h
     refine wpIn_mono (wpIn_wide.2 (wpC_sound hm a1 hc.1 ha h)) fun e a' w' ⟨f',ha',hq,hk⟩=> ?_
     cases e with
     |normal=>exact hn _ _ _ ha' hq
     |_=>exact absurd hq (hx _ _ _ (by simp))
    |some as=>
     simp only [hcut] at h
     obtain ⟨J,h1,h2⟩:=h
     refine wpIn_mono (wpIn_wide.2 (wpC_sound hm a1 hc.1 ha h1)) fun e a' w' ⟨f',ha',hq,hk⟩=> ?_
     cases e with
     |normal=>
      obtain ⟨r',hr,hrest⟩:=appVs_fa _ hq h2
      have:=hrest w' f' hr
      rw [mkFr_self hk] at this
      exact hn _ _ _ ha' this
     |_=>exact absurd hq (hx _ _ _ (by simp))
  · exact go hs
 |_=>intro pre r ann f a w Qf hs;cases hs
theorem mod_of_grownBy {W W':World} {row:Option Nat} (h:W.grownBy W' row):Go.Fw.Mod (fun r=>row=some r) W W':=
 ⟨h.os,h.tape,h.output,h.size,fun k hk hn=>h.block k hk fun e=>hn e.symm⟩
theorem rangeK_sound (hm:P.follows .mixedOrders=true) {n:Nat} {Q:Exit→Act→World→Prop} {g:Operand} {ps:Array Tmp} {as bd:Code} {ann:Ann} {f:Fr} {a:Act} {w:World} {next:Nat→World→Prop}
 (hps: ∀p∈ps.toList,p<n) (hca:codeOk P n as=true) (hra:codeR as=true) (hcb:codeOk P n bd=true) (hrb:codeR bd=true) (ha:Ag [] n a f) (h:rangeK P f w g ps as bd ann next)
 (hq: ∀d W,next d W→Q .normal {a with defers:= {target:= .collected d,args:= #[]}::a.defers} W):(Code.rangeFunc g ps as bd).wpIn Fence.wide 7 P Q a w:=by
 unfold rangeK at h
 split at h
 · rename_i p q hpq
   split at h
   · rename_i gf lb hg
     obtain ⟨he,hasg,xs,Pl,T,hseq,hT,I,h0,hI,hbody,hdone⟩:=h
     obtain ⟨d,x,hdx⟩:=asgK_all hasg
     have hps2:ps= #[p,q]:=by rw [← hpq]
     subst hps2
     have eg:a.eval g= .func (.func gf) #[] lb:=by rw [ha.eval];exact hg
     have ent: ∀args w,(callFunc gf args).run P w= .ok (.enter gf args) w:=by
      intro as w
      unfold entB at he
      unfold callFunc
      simp only [Sem.run_bind,run_program,Result.andThen_ok]
      split at he
      · rename_i fn hfn
        simp only [Bool.and_eq_true,bne_iff_ne,ne_eq] at he
        simp only [hfn]
        have h1:(fn.name== "runtime.NumGoroutine")=false:=by simpa using he.2
        have h2:fn.body.isNone=false:=by cases hbd:fn.body<;>simp_all
        simp [h1,h2]
      · simp at he
     have own:OwnFrom w.heap.size (fun (s:List {x:Int × Int // Pl x}) W=>I (s.map (·.1)) W):=fun s X Y row hs hg' hrow=>
      hI _ X Y _ hs (mod_of_grownBy hg') fun r e=>by
       obtain ⟨h1,o,h2,h3⟩:=hrow r e
       exact ⟨h1,fun o' ho'=>by rw [h2] at ho';cases ho';exact h3⟩
     have hag: ∀ (i v:Int),Ag [] n ({tmps:=(#[p,q].zip #[Value.int .i64 i,.int .i64 v]).foldl (fun t (p,v)=>t.setIfInBounds p v) a.tmps,defers:= []}:Act) ((f.set (some p) (.int .i64 i)).set (some q) (.int .i64 v)):=fun i v=>by
      have e:({tmps:=(#[p,q].zip #[Value.int .i64 i,.int .i64 v]).foldl (fun t (p,v)=>t.setIfInBounds p v) a.tmps,defers:= []}:Act)=(({a with defers:= []}:Act).put (some p) (.int .i64 i)).put (some q) (.int .i64 v):=by
       simp [Act.put]
      rw [e]
      have hb:Ag [] n ({a with defers:= []}:Act) f:=⟨ha.1,rfl,ha.2.2⟩
      exact (hb.put (fun j hj=>by cases hj;exact hps _ (by simp)) _).put (fun j hj=>by cases hj;exact hps _ (by simp)) _
     refine wpIn_rangeFunc_ownH (Kp:=KpT T) (S:=fun ys:List {x:Int × Int // Pl x}=>ys.map (·.1)=xs) (Sp:=fun _=>True) (N:=xs.length) (w0:=w) rfl (by omega) eg trivial ent (hseq _ (by omega)) (fun h1 h2 k hk=> (h2 k hk).trans (h1 k hk))
      (fun W l o o' hl hW _ _ k hk=>World.putObj_heap_other (by have:=hT k hk;omega)) (Go.RowKit.Below.refl _ _) (fun x=>rfl) (fun s W=>I (s.map (·.1)) W) (fun _ _ _=>False) own (fun _ _ _ _ _ hs _ _=>hs) h0
      (fun y a' _=>Ag [] n a' (((f.set (some p) (.int .i64 y.1.1)).set (some q) (.int .i64 y.1.2)).set d (ev ((f.set (some p) (.int .i64 y.1.1)).set (some q) (.int .i64 y.1.2)) x))) (fun _ _ _ _ _ _ h _ _=>h) ?_ ?_ ?_ ?_
     · intro l pre y W K hi hK
       refine wpIn_mono (wpC_soundR hm as hca hra (hag y.1.1 y.1.2) ((hdx _).2 P .leaf W (fun e f' W'=>e= .normal∧W'=W∧f'=_) ⟨rfl,rfl,rfl⟩)) fun e a' W' ⟨f',ha',⟨he,hW,hf⟩,_⟩=> ?_
       subst he hW hf
       exact hK a' W' (KeepsFrom.refl _ _) (fun _ _=>rfl) hi ha'
     · intro l pre y a' W _ _ hi hax hlN
       have hb:=(hdx _).1 _ (hbody (pre.map (·.1)) y.1.1 y.1.2 W (by simpa using hlN) y.2 hi)
       refine wpIn_mono (wpC_soundR hm bd hcb hrb hax hb) fun e a'' W' ⟨f',_,hq',_⟩=> ?_
       cases e with
       |normal=>exact ⟨hq'.1.f,hq'.1.t,by show I ((pre++ [y]).map (·.1)) W';rw [List.map_append];exact hq'.2⟩
       |_=>exact hq'.elim
     · intro dd ys W hD hS hi hK
       exact hq _ _ (hdone dd W hD hK (by rw [← hS];exact hi))
     · intro dd c pre W _ _ h _
       exact h.elim
   · exact h.elim
 · exact h.elim
theorem calls_of_wpFR (hm:P.follows .mixedOrders=true) {f:FuncId} {fn:Func} (hf:P.funcs[f]? =some fn) {ann1 annB ann2:Ann} {args:List Value} {w:World} {K:Value→World→Prop}
 (hok:fnOkR P fn args.length=true) (h:wpFR P fn ann1 annB ann2 args w K):Calls P f args.toArray w fun e w'=> ∃v,e= .returned v∧K v w':=by
 unfold wpFR at h
 unfold fnOkR at hok
 split at h
 · exact h.elim
 · rename_i c hb
   rw [hb] at hok
   split at h
   · exact h.elim
   · rename_i pre id g ps as bd post hs
     simp only [hs] at hok
     simp only [Bool.and_eq_true] at hok
     obtain ⟨⟨⟨⟨⟨⟨⟨h1,h2⟩,h3⟩,h4⟩,h5⟩,h6⟩,h7⟩,hle⟩:=hok
     have hle:args.length≤fn.ntmps:=by simpa using hle
     have hps: ∀p∈ps.toList,p<fn.ntmps:=fun p hp=>by
      have:=(Array.all_eq_true_iff_forall_mem.1 h7) p (Array.mem_toList_iff.1 hp)
      simpa using this
     refine callsIn_wide.1 (callsIn_of_wp_marks (n:=7) hf hb trivial ?_)
     have ha:Ag [] fn.ntmps {tmps:=args.toArray++Array.replicate (fn.ntmps - args.toArray.size) undef,defers:= []} (argFr args):=by
      refine ⟨by simp;omega,rfl,fun i=> ?_⟩
      rw [argFr_eq]
      simp only [Array.getD_eq_getD_getElem?,List.getD_eq_getElem?_getD]
      by_cases hi:i<args.length
      · rw [Array.getElem?_append_left (by simpa using hi)];simp
      · rw [Array.getElem?_append_right (by simpa using hi)]
        rw [List.getElem?_eq_none (by omega)]
        rw [Array.getElem?_replicate]
        split<;>rfl
     refine fill_sound hm c hs h1 ha h (fun f' a' w' ha' hq=> ?_) fun e f' w' he hq=>by cases e<;>first|exact he rfl|exact hq
     simp only at hq
     refine wpIn_block (rangeK_sound hm hps h3 h4 h5 h6 ha' hq fun d W hn=> ?_)
     show Code.wpIn _ _ _ _ _ _ _
     have ha2:Ag [{target:= .collected d,args:= #[]}] fn.ntmps ({a' with defers:= {target:= .collected d,args:= #[]}::a'.defers}:Act) f':=⟨ha'.1,by rw [ha'.2.1],ha'.2.2⟩
     refine wpIn_mono (wpIn_wide.2 (wpC_sound hm post h2 ha2 hn)) fun e a2 w2 ⟨f2,hag,hq2,_⟩=> ?_
     have fin:(w2.heap[d]? =some (.deferred (some []))∧∀w3,Go.Fw.Mod (·=d) w2 w3→resK P fn.results.toList f2 w3 fun vs=>K (tupOf vs) w3)→LeavesInM Fence.wide 7 P fn a2.tmps (fun e w'=> ∃v,e= .returned v∧K v w') a2.defers .returning w2:=by
      rintro ⟨hd,hr⟩
      rw [hag.2.1]
      refine ⟨by simp,.inl ⟨_,_,rfl,run_takeDeferred hd,?_⟩⟩
      have hlt:d<w2.heap.size:=(Array.getElem?_eq_some_iff.1 hd).1
      have hmod:Go.Fw.Mod (·=d) w2 (w2.putObj d (.deferred none)):=⟨rfl,rfl,rfl,by simp [World.putObj],fun k hk hn=>World.putObj_heap_other (fun e=>hn e)⟩
      obtain ⟨vs,hv,hk⟩:=resK_spec hag (hr _ hmod)
      refine ⟨tupOf vs,?_,_,rfl,hk⟩
      unfold results
      rw [Array.mapM_eq_mapM_toList]
      simp only [Sem.run_bind,Sem.run_map]
      refine (congrArg (fun r=>Result.andThen (Result.andThen r _) _) hv).trans ?_
      simp only [Result.andThen_ok,Sem.run_pure]
      match vs with
      | []=>simp [tupOf]
      | [v]=>simp [tupOf]
      |u::v::l=>simp [tupOf]
     cases e with
     |normal=>exact fin hq2
     |ret=>exact fin hq2
     |_=>exact hq2.elim
theorem calls_ofR (hm:P.follows .mixedOrders=true) {f:FuncId} {fn:Func} (hf:P.funcs[f]? =some fn) {ann1 annB ann2:Ann} {args:List Value} {n:Nat} (hok:fnOkR P fn n=true) (hn:args.length=n)
 {w:World} {F:(Value→World→Prop)→Prop} (he: ∀K,wpFR P fn ann1 annB ann2 args w K=F K) {R:Ending→World→Prop} (h:F fun v w'=>R (.returned v) w'):Calls P f args.toArray w R:=by
 subst hn
 refine (calls_of_wpFR hm hf hok (Eq.mpr (he _) h)).mono ?_
 rintro e w' ⟨v,rfl,hk⟩
 exact hk
end Go.Fw
