/- Functions that defer one call, and functions that are called so. -/
import Derived.Test.YtbdghpjnifjlmaaGreatFwSound
import Derived.Defers
namespace Go.Fw
open Go
variable {P:Program} {D:List Deferred}
def deferC:Op→Option (FuncId × Array Operand)
 | .defer c=>match c.callee with
   | .value (.func g)=>some (g,c.args)
   |_=>none
 |_=>none
def deferOf (o:Oper):Option (FuncId × Array Operand):=
 bif o.dst.isNone && o.guard.isNone then deferC o.op else none
def splitLast (l:List Oper):Option (List Oper × Oper):=l.getLast?.map fun o=> (l.dropLast,o)
def wpFD (P:Program) (fn:Func) (n:Ann) (args:List Value) (w:World) (K:Value→World→Prop):Prop:=
 match fn.body with
 |some (.seq r0 (.seq (.region _ ops false) rest))=>
  wpC P r0 n.fst (argFr args) w fun e f w'=>match e with
   | .normal=>match splitLast ops.toList with
     |some (ini,o)=>wpR P ops ini f w' fun f' w''=>match deferOf o with
      |some (g,as)=>wpC P rest n.snd.snd f' w'' fun e f2 w2=>match e with
       | .normal| .ret=>CallsD P g (evs f' as.toList).toArray .returning w2 fun e u w3=>u= .returning∧∃v,e= .returned v∧resK P fn.results.toList f2 w3 fun vs=>K (tupOf vs) w3
       |_=>False
      |none=>False
     |none=>False
   |_=>False
 |_=>False
def fnOkD (P:Program) (fn:Func) (args:Nat):Bool:=
 match fn.body with
 |some (.seq r0 (.seq (.region _ ops false) rest))=>match splitLast ops.toList with
  |some (_,o)=> (match deferOf o with|some (g,_)=>entB P g|none=>false) && codeOk P fn.ntmps r0 && opsOk P fn.ntmps ops.toList && codeOk P fn.ntmps rest && Nat.ble args fn.ntmps
  |none=>false
 |_=>false
theorem splitLast_eq {l ini:List Oper} {o:Oper} (h:splitLast l=some (ini,o)):l=ini++ [o]:=by
 unfold splitLast at h
 rw [Option.map_eq_some_iff] at h
 obtain ⟨o',h1,h2⟩:=h
 obtain ⟨rfl,rfl⟩:=Prod.mk.inj h2
 have hne:l≠[]:=fun e=>by rw [e] at h1;simp at h1
 rw [List.getLast?_eq_some_getLast hne] at h1
 rw [← Option.some.inj h1]
 exact (List.dropLast_concat_getLast hne).symm
theorem enter_of {g:FuncId} (hg:entB P g=true) (as:Array Value) (w:World):(callFunc g as).run P w= .ok (.enter g as) w:=by
 unfold entB at hg
 unfold callFunc
 simp only [Sem.run_bind,run_program,Result.andThen_ok]
 split at hg
 · rename_i fn hfn
   simp only [Bool.and_eq_true,bne_iff_ne,ne_eq] at hg
   simp only [hfn]
   have h1:(fn.name== "runtime.NumGoroutine")=false:=by simpa using hg.2
   have h2:fn.body.isNone=false:=by cases hbd:fn.body<;>simp_all
   simp [h1,h2]
 · simp at hg
theorem invoke_of {g:FuncId} (hg:entB P g=true) (as:Array Value) (w:World):(invoke (.fn (.func g) #[]) as).run P w= .ok (.enter g as) w:=by
 show (callFunc g (as++ #[])).run P w=_
 rw [enter_of hg];simp
theorem defer_op {o:Oper} {g:FuncId} {as:Array Operand} (ho:deferOf o=some (g,as)) {n:Nat} {a:Act} {f:Fr} (ha:Ag D n a f) (w:World) (next:Act→World→Prop) (Q:Exit→Act→World→Prop)
 (h:next {a with defers:= {target:= .fn (.func g) #[],args:=(evs f as.toList).toArray}::a.defers} w):o.wp P a w next Q:=by
 obtain ⟨dst,op,type,pos,after,guard⟩:=o
 unfold deferOf at ho
 cases dst with
 |some d=>simp at ho
 |none=>
 cases guard with
 |some x=>simp at ho
 |none=>
 simp only [Option.isNone_none,Bool.and_self,cond_true] at ho
 cases op<;>simp only [deferC] at ho<;>try (cases ho;done)
 rename_i c
 obtain ⟨callee,args,argTypes⟩:=c
 simp only at ho
 split at ho
 · rename_i g'
   obtain ⟨rfl,rfl⟩:=Prod.mk.inj (Option.some.inj ho)
   unfold Oper.wp
   have hargs:args.map (ev f)=(evs f args.toList).toArray:=by rw [evs_eq,map_arr]
   have:(execOp a.eval {dst:=none,op:= .defer {callee:= .value (.func g'),args:=args,argTypes:=argTypes},type:=type,pos:=pos,after:=after,guard:=none}).run P w= .ok (.defer {target:= .fn (.func g') #[],args:=(evs f args.toList).toArray}) w:=by
    rw [ha.eval]
    simp only [execOp,resolve,ev,Deferred.ofValue,Sem.run_bind,Sem.run_pure,Result.andThen_ok,hargs,Array.empty_append]
   rw [this]
   exact h
 · cases ho
theorem wpR_lexP {ops:Array Oper} {n:Nat} (hok:opsOk P n ops.toList=true) {K:Fr→World→Prop}: ∀ (l:List Oper) (k:Nat) (f:Fr) (a:Act) (w:World),(∀j,j<l.length→l[j]? =ops[k+j]?)→Ag D n a f→
 wpR P ops l f w K→lexE P ops (fun a' w'=> ∃f',Ag D n a' f'∧K f' w') (List.range' k l.length) a w
 | [],_,f,a,w,_,ha,h=> ⟨f,ha,h⟩
 |o::l,k,f,a,w,hl,ha,h=>by
  have h0:ops[k]? =some o:=by simpa using (hl 0 (by simp)).symm
  have hl': ∀j,j<l.length→l[j]? =ops[k+1+j]? :=fun j hj=>by have:=hl (j+1) (by simp;omega);simpa [Nat.add_assoc,Nat.add_comm 1 j] using this
  rw [List.length_cons,List.range'_succ]
  exact wpE_mono (fun a' w' ⟨f',ha',hr⟩=>wpR_lexP hok l (k+1) f' a' w' hl' ha' hr) (stepO_sound hok h0 ha h)
theorem wpOps_split {ops:Array Oper} {Q:Exit→Act→World→Prop} {K:Act→World→Prop}: ∀ (l r:List Nat) (a:Act) (w:World),lexE P ops K l a w→(∀a w,K a w→wpOps P ops Q r a w)→wpOps P ops Q (l++r) a w
 | [],r,a,w,h,hr=>hr a w h
 |i::l,r,a,w,h,hr=>by
  rw [List.cons_append,wpOps_cons]
  exact wpOp_of_evid (wpE_mono (fun a w h=>wpOps_split l r a w h hr) h)
theorem calls_of_wpFD (hm:P.follows .mixedOrders=true) {f:FuncId} {fn:Func} (hf:P.funcs[f]? =some fn) {ann:Ann} {args:List Value} {w:World} {K:Value→World→Prop}
 (hok:fnOkD P fn args.length=true) (h:wpFD P fn ann args w K):Calls P f args.toArray w fun e w'=> ∃v,e= .returned v∧K v w':=by
 unfold wpFD at h
 unfold fnOkD at hok
 split at h
 · rename_i r0 id ops rest hb
   rw [hb] at hok
   simp only at hok
   cases hs:splitLast ops.toList with
   |none=>rw [hs] at hok;cases hok
   |some x=>
   obtain ⟨ini,o⟩:=x
   rw [hs] at hok
   simp only [Bool.and_eq_true] at hok
   obtain ⟨⟨⟨⟨hg,h0⟩,hops⟩,hr⟩,hle⟩:=hok
   have hle:args.length≤fn.ntmps:=by simpa using hle
   cases hd:deferOf o with
   |none=>rw [hd] at hg;cases hg
   |some y=>
   obtain ⟨g,as⟩:=y
   rw [hd] at hg
   simp only at hg
   refine calls_of_wp_defers hf hb ?_
   have ha:Ag [] fn.ntmps {tmps:=args.toArray++Array.replicate (fn.ntmps - args.toArray.size) undef,defers:= []} (argFr args):=by
    refine ⟨by simp;omega,rfl,fun i=> ?_⟩
    rw [argFr_eq]
    simp only [Array.getD_eq_getD_getElem?,List.getD_eq_getElem?_getD]
    by_cases hi:i<args.length
    · rw [Array.getElem?_append_left (by simpa using hi)];simp
    · rw [Array.getElem?_append_right (by simpa using hi)]
      rw [List.getElem?_eq_none (by omega)]
      rw [Array.getElem?_replicate]
      split<;>rfl
   refine wp_seq (wp_mono (wpC_sound hm r0 h0 ha h) fun e a' w' ⟨f',ha',hq,_⟩=> ?_)
   cases e with
   |normal=>
    simp only [hs] at hq
    refine wp_seq (wp_region ?_)
    have hl:=splitLast_eq hs
    have hsz:ops.size=ini.length+1:=by rw [← Array.length_toList,hl];simp
    rw [List.range_eq_range',hsz,List.range'_concat,Nat.zero_add,Nat.one_mul]
    have hini: ∀j,j<ini.length→ini[j]? =ops[0+j]? :=fun j hj=>by rw [Nat.zero_add,← Array.getElem?_toList,hl,List.getElem?_append_left hj]
    have hlast:ops[ini.length]? =some o:=by rw [← Array.getElem?_toList,hl];simp
    refine wpOps_split _ _ _ _ (wpR_lexP hops ini 0 f' a' w' hini ha' hq) fun a2 w2 ⟨f2,ha2,hq2⟩=> ?_
    simp only [hd] at hq2
    have hguard:o.guard=none:=by
     unfold deferOf at hd
     cases hgd:o.guard with
     |none=>rfl
     |some x=>rw [hgd] at hd;simp at hd
    have hdst:o.dst=none:=by
     unfold deferOf at hd
     cases hgd:o.dst with
     |none=>rfl
     |some x=>rw [hgd] at hd;simp at hd
    show wpOps P ops _ [ini.length] a2 w2
    unfold wpOps
    simp only [hlast]
    rw [if_pos (by simp [Region.wanted,hguard])]
    refine .inl (defer_op hd ha2 w2 _ _ ?_)
    unfold wpOps
    have ha3:Ag [{target:=Target.fn (Fn.func g) #[],args:=(evs f2 as.toList).toArray}] fn.ntmps {a2 with defers:= {target:= .fn (.func g) #[],args:=(evs f2 as.toList).toArray}::a2.defers} f2:=by
     obtain ⟨x1,x2,x3⟩:=ha2
     refine ⟨x1,?_,x3⟩
     simp only [x2]
    refine wp_mono (wpC_sound hm rest hr ha3 hq2) fun e a4 w4 ⟨f4,ha4,hq4,_⟩=> ?_
    have fin:(CallsD P g (evs f2 as.toList).toArray .returning w4 fun e u w3=>u= .returning∧∃v,e= .returned v∧resK P fn.results.toList f4 w3 fun vs=>K (tupOf vs) w3)→
     Leaves P fn a4.tmps (fun e w'=> ∃v,e= .returned v∧K v w') a4.defers .returning w4:=by
     intro hc
     rw [ha4.2.1]
     refine leaves_cons (f:=g) (args:=(evs f2 as.toList).toArray) (by simp) (invoke_of hg _ _) ?_
     refine hc.mono ?_
     rintro e u w3 ⟨rfl,v,rfl,hres⟩
     obtain ⟨vs,hv,hk⟩:=resK_spec ha4 hres
     refine ⟨tupOf vs,?_,_,rfl,hk⟩
     unfold results
     rw [Array.mapM_eq_mapM_toList]
     simp only [Sem.run_bind,Sem.run_map]
     refine (congrArg (fun r=>Result.andThen (Result.andThen r _) _) hv).trans ?_
     simp only [Result.andThen_ok,Sem.run_pure]
     match vs with
     | []=>simp [tupOf]
     | [v]=>simp [tupOf]
     |u::v::l=>simp [tupOf]
    cases e with
    |normal=>exact fin hq4
    |ret=>exact fin hq4
    |_=>exact hq4.elim
   |_=>exact hq.elim
 · exact h.elim
theorem callsD_of {P:Program} (hm:P.follows .mixedOrders=true) {f:FuncId} {fn:Func} (hf:P.funcs[f]? =some fn) {ann:Ann} {args:List Value} {n:Nat} (hok:fnOk P fn n=true) (hn:args.length=n)
 {w:World} {F:(Value→World→Prop)→Prop} (he: ∀K,wpF P fn ann args w K=F K) {u:FrameMode} {R:Ending→World→Prop} (h:F fun v w'=>R (.returned v) w'):CallsD P f args.toArray u w fun e u' w'=>u'=u∧R e w':=by
 subst hn
 have h:=Eq.mpr (he _) h
 unfold wpF at h
 unfold fnOk at hok
 split at h
 · exact h.elim
 · rename_i c hb
   rw [hb] at hok
   simp only [Bool.and_eq_true] at hok
   have hle:args.length≤fn.ntmps:=by simpa using hok.2
   refine callsD_of_wp hf hb ?_
   have ha:Ag [] fn.ntmps {tmps:=args.toArray++Array.replicate (fn.ntmps - args.toArray.size) undef,defers:= []} (argFr args):=by
    refine ⟨by simp;omega,rfl,fun i=> ?_⟩
    rw [argFr_eq]
    simp only [Array.getD_eq_getD_getElem?,List.getD_eq_getElem?_getD]
    by_cases hi:i<args.length
    · rw [Array.getElem?_append_left (by simpa using hi)];simp
    · rw [Array.getElem?_append_right (by simpa using hi)]
      rw [List.getElem?_eq_none (by omega)]
      rw [Array.getElem?_replicate]
      split<;>rfl
   refine wp_mono (wpC_sound hm c hok.1 ha h) fun e a' w' ⟨f',ha',hq,_⟩=> ?_
   have fin:resK P fn.results.toList f' w' (fun vs=>R (.returned (tupOf vs)) w')→a'.defers= []∧∃v,(results fn a'.tmps).run P w'= .ok v w'∧R (.returned v) w':=by
    intro hr
    obtain ⟨vs,hv,hk⟩:=resK_spec ha' hr
    refine ⟨ha'.2.1,tupOf vs,?_,hk⟩
    unfold results
    rw [Array.mapM_eq_mapM_toList]
    simp only [Sem.run_bind,Sem.run_map]
    refine (congrArg (fun r=>Result.andThen (Result.andThen r _) _) hv).trans ?_
    simp only [Result.andThen_ok,Sem.run_pure]
    match vs with
    | []=>simp [tupOf]
    | [v]=>simp [tupOf]
    |u::v::l=>simp [tupOf]
   cases e with
   |normal=>exact fin hq
   |ret=>exact fin hq
   |_=>exact hq.elim
theorem calls_ofD {P:Program} (hm:P.follows .mixedOrders=true) {f:FuncId} {fn:Func} (hf:P.funcs[f]? =some fn) {ann:Ann} {args:List Value} {n:Nat} (hok:fnOkD P fn n=true) (hn:args.length=n)
 {w:World} {F:(Value→World→Prop)→Prop} (he: ∀K,wpFD P fn ann args w K=F K) {R:Ending→World→Prop} (h:F fun v w'=>R (.returned v) w'):Calls P f args.toArray w R:=by
 subst hn
 refine (calls_of_wpFD hm hf hok (Eq.mpr (he _) h)).mono ?_
 rintro e w' ⟨v,rfl,hk⟩
 exact hk
end Go.Fw
