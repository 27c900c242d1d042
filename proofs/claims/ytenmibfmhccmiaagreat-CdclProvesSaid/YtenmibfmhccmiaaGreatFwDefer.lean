/- Functions that defer one call, and functions that are called so. -/
import Derived.Test.YtenmibfmhccmiaaGreatFwSound
import Derived.Defers
namespace Go.Fw
open Go
variable {P:Program} {D:List Deferred}
def Ie:Op->Option (FuncId × Array Operand)
 | .defer c=>match c.callee with
   | .value (.func g)=>some (g,c.args)
   |_=>none
 |_=>none
def oE (o:Oper):Option (FuncId × Array Operand):=
 bif o.dst.isNone && o.guard.isNone then Ie o.op else none
def mP (l:List Oper):Option (List Oper × Oper):=l.getLast?.map fun o=> (l.dropLast,o)
def Lf (P:Program) (fn:Func) (n:qf) (args:List Value) (w:World) (K:Value->World->Prop):Prop:=
 match fn.body with
 |some (.seq U (.seq (.region _ I false) rest))=>
  qN P U n.fst (oK args) w fun e f w'=>match e with
   | .normal=>match mP I.toList with
     |some (O,o)=>L9 P I O f w' fun Q J=>match oE o with
      |some (g,as)=>qN P rest n.snd.snd Q J fun e f2 w2=>match e with
       | .normal| .ret=>CallsD P g (Ab Q as.toList).toArray .returning w2 fun e u w3=>u= .returning/\∃v,e= .returned v/\ux P fn.results.toList f2 w3 fun vs=>K (ii vs) w3
       |_=>False
      |none=>False
     |none=>False
   |_=>False
 |_=>False
def Ib (P:Program) (fn:Func) (args:Nat):Bool:=
 match fn.body with
 |some (.seq J (.seq (.region _ I false) rest))=>match mP I.toList with
  |some (_,o)=> (match oE o with|some (g,_)=>fX P g|none=>false) && dg P fn.ntmps J && m_ P fn.ntmps I.toList && dg P fn.ntmps rest && Nat.ble args fn.ntmps
  |none=>false
 |_=>false
theorem y_ {l I:List Oper} {o:Oper} (h:mP l=some (I,o)):l=I++ [o]:=by
 unfold mP at h;rw [Option.map_eq_some_iff] at h;obtain ⟨Q,h1,O⟩:=h;obtain ⟨rfl,rfl⟩:=Prod.mk.inj O;have J:l≠[]:=fun e=>by rw [e] at h1;simp at h1
 rw [List.getLast?_eq_some_getLast J] at h1;rw [<- Option.some.inj h1];exact (List.dropLast_concat_getLast J).symm
theorem vP {g:FuncId} (I:fX P g=true) (as:Array Value) (w:World):(callFunc g as).run P w= .ok (.enter g as) w:=by
 unfold fX at I;unfold callFunc;simp only [Sem.run_bind,run_program,Result.andThen_ok];split at I
 . rename_i fn J;simp only [Bool.and_eq_true,bne_iff_ne,ne_eq] at I;simp only [J];have h1:(fn.name== "runtime.NumGoroutine")=false:=by simpa using I.2
   have Q:fn.body.isNone=false:=by cases O:fn.body<;>simp_all
   simp [h1,Q]
 . simp at I
theorem EI {g:FuncId} (I:fX P g=true) (as:Array Value) (w:World):(invoke (.fn (.func g) #[]) as).run P w= .ok (.enter g as) w:=by
 show (callFunc g (as++ #[])).run P w=_;rw [vP I];simp
theorem GH {o:Oper} {g:FuncId} {as:Array Operand} (I:oE o=some (g,as)) {n:Nat} {a:Act} {f:Fr} (ha:Ag D n a f) (w:World) (next:Act->World->Prop) (Q:Exit->Act->World->Prop)
 (h:next {a with defers:= {target:= .fn (.func g) #[],args:=(Ab f as.toList).toArray}::a.defers} w):o.wp P a w next Q:=by
 obtain ⟨dst,op,type,pos,after,guard⟩:=o;unfold oE at I;cases dst with
 |some d=>simp at I
 |none=>
 cases guard with
 |some x=>simp at I
 |none=>
 simp only [Option.isNone_none,Bool.and_self,cond_true] at I;cases op<;>simp only [Ie] at I<;>try (cases I;done)
 rename_i c;obtain ⟨callee,args,argTypes⟩:=c;simp only at I;split at I
 . rename_i O;obtain ⟨rfl,rfl⟩:=Prod.mk.inj (Option.some.inj I);unfold Oper.wp;have J:args.map (ev f)=(Ab f args.toList).toArray:=by rw [yP,ua]
   have:(execOp a.eval {dst:=none,op:= .defer {callee:= .value (.func O),args:=args,argTypes:=argTypes},type:=type,pos:=pos,after:=after,guard:=none}).run P w= .ok (.defer {target:= .fn (.func O) #[],args:=(Ab f args.toList).toArray}) w:=by
    rw [ha.eval];simp only [execOp,resolve,ev,Deferred.ofValue,Sem.run_bind,Sem.run_pure,Result.andThen_ok,J,Array.empty_append]
   rw [this];exact h
 . cases I
theorem BI {I:Array Oper} {n:Nat} (J:m_ P n I.toList=true) {K:Fr->World->Prop}: ∀ (l:List Oper) (k:Nat) (f:Fr) (a:Act) (w:World),(∀j,j<l.length->l[j]? =I[k+j]?)->Ag D n a f->
 L9 P I l f w K->oS P I (fun U w'=> ∃O,Ag D n U O/\K O w') (List.range' k l.length) a w
 | [],_,f,a,w,_,ha,h=> ⟨f,ha,h⟩
 |o::l,k,f,a,w,hl,ha,h=>by
  have X:I[k]? =some o:=by simpa using (hl 0 (by simp)).symm
  have Q: ∀j,j<l.length->l[j]? =I[k+1+j]? :=fun j Y=>by have:=hl (j+1) (by simp;omega);simpa [Nat.add_assoc,Nat.add_comm 1 j] using this
  rw [List.length_cons,List.range'_succ];exact dQ (fun U w' ⟨O,V,hr⟩=>BI J l (k+1) O U w' Q V hr) (mr J X ha h)
theorem tJ {I:Array Oper} {Q:Exit->Act->World->Prop} {K:Act->World->Prop}: ∀ (l r:List Nat) (a:Act) (w:World),oS P I K l a w->(∀a w,K a w->wpOps P I Q r a w)->wpOps P I Q (l++r) a w
 | [],r,a,w,h,hr=>hr a w h
 |i::l,r,a,w,h,hr=>by
  rw [List.cons_append,wpOps_cons];exact ot (dQ (fun a w h=>tJ l r a w h hr) h)
theorem wZ (hm:P.follows .mixedOrders=true) {f:FuncId} {fn:Func} (hf:P.funcs[f]? =some fn) {ann:qf} {args:List Value} {w:World} {K:Value->World->Prop}
 (I:Ib P fn args.length=true) (h:Lf P fn ann args w K):Calls P f args.toArray w fun e w'=> ∃v,e= .returned v/\K v w':=by
 unfold Lf at h;unfold Ib at I;split at h
 . rename_i r0 id O rest hb;rw [hb] at I;simp only at I;cases hs:mP O.toList with
   |none=>rw [hs] at I;cases I
   |some x=>
   obtain ⟨J,o⟩:=x;rw [hs] at I;simp only [Bool.and_eq_true] at I;obtain ⟨⟨⟨⟨Z,h0⟩,ad⟩,hr⟩,an⟩:=I;have an:args.length<=fn.ntmps:=by simpa using an
   cases Q:oE o with
   |none=>rw [Q] at Z;cases Z
   |some y=>
   obtain ⟨g,as⟩:=y;rw [Q] at Z;simp only at Z;refine calls_of_wp_defers hf hb ?_;have ha:Ag [] fn.ntmps {tmps:=args.toArray++Array.replicate (fn.ntmps - args.toArray.size) undef,defers:= []} (oK args):=by
    refine ⟨by simp;omega,rfl,fun i=> ?_⟩;rw [pM];simp only [Array.getD_eq_getD_getElem?,List.getD_eq_getElem?_getD];by_cases hi:i<args.length
    . rw [Array.getElem?_append_left (by simpa using hi)];simp
    . rw [Array.getElem?_append_right (by simpa using hi)];rw [List.getElem?_eq_none (by omega)];rw [Array.getElem?_replicate];split<;>rfl
   refine wp_seq (wp_mono (it hm r0 h0 ha h) fun e a' w' ⟨f',ax,hq,_⟩=> ?_);cases e with
   |normal=>
    simp only [hs] at hq;refine wp_seq (wp_region ?_);have hl:=y_ hs;have aw:O.size=J.length+1:=by rw [<- Array.length_toList,hl];simp
    rw [List.range_eq_range',aw,List.range'_concat,Nat.zero_add,Nat.one_mul];have ag: ∀j,j<J.length->J[j]? =O[0+j]? :=fun j hj=>by rw [Nat.zero_add,<- Array.getElem?_toList,hl,List.getElem?_append_left hj]
    have V:O[J.length]? =some o:=by rw [<- Array.getElem?_toList,hl];simp
    refine tJ _ _ _ _ (BI ad J 0 f' a' w' ag ax hq) fun a2 w2 ⟨f2,ac,ar⟩=> ?_;simp only [Q] at ar;have U:o.guard=none:=by
     unfold oE at Q;cases Y:o.guard with
     |none=>rfl
     |some x=>rw [Y] at Q;simp at Q
    have ay:o.dst=none:=by
     unfold oE at Q;cases Y:o.dst with
     |none=>rfl
     |some x=>rw [Y] at Q;simp at Q
    show wpOps P O _ [J.length] a2 w2;unfold wpOps;simp only [V];rw [if_pos (by simp [Region.wanted,U])];refine .inl (GH Q ac w2 _ _ ?_);unfold wpOps;have av:Ag [{target:=Target.fn (Fn.func g) #[],args:=(Ab f2 as.toList).toArray}] fn.ntmps {a2 with defers:= {target:= .fn (.func g) #[],args:=(Ab f2 as.toList).toArray}::a2.defers} f2:=by
     obtain ⟨x1,x2,x3⟩:=ac;refine ⟨x1,?_,x3⟩;simp only [x2]
    refine wp_mono (it hm rest hr av ar) fun e a4 w4 ⟨f4,aa,X,_⟩=> ?_;have dV:(CallsD P g (Ab f2 as.toList).toArray .returning w4 fun e u w3=>u= .returning/\∃v,e= .returned v/\ux P fn.results.toList f4 w3 fun vs=>K (ii vs) w3)->
     Leaves P fn a4.tmps (fun e w'=> ∃v,e= .returned v/\K v w') a4.defers .returning w4:=by
     intro hc;rw [aa.2.1];refine leaves_cons (f:=g) (args:=(Ab f2 as.toList).toArray) (by simp) (EI Z _ _) ?_;refine hc.mono ?_;rintro e u w3 ⟨rfl,v,rfl,ap⟩;obtain ⟨vs,hv,hk⟩:=kX aa ap;refine ⟨ii vs,?_,_,rfl,hk⟩;unfold results;rw [Array.mapM_eq_mapM_toList];simp only [Sem.run_bind,Sem.run_map];refine (congrArg (fun r=>Result.andThen (Result.andThen r _) _) hv).trans ?_;simp only [Result.andThen_ok,Sem.run_pure]
     match vs with
     | []=>simp [ii]
     | [v]=>simp [ii]
     |u::v::l=>simp [ii]
    cases e with
    |normal=>exact dV X
    |ret=>exact dV X
    |_=>exact X.elim
   |_=>exact hq.elim
 . exact h.elim
theorem ET {P:Program} (hm:P.follows .mixedOrders=true) {f:FuncId} {fn:Func} (hf:P.funcs[f]? =some fn) {ann:qf} {args:List Value} {n:Nat} (I:Fu P fn n=true) (hn:args.length=n)
 {w:World} {F:(Value->World->Prop)->Prop} (he: ∀K,Mh P fn ann args w K=F K) {u:FrameMode} {R:Ending->World->Prop} (h:F fun v w'=>R (.returned v) w'):CallsD P f args.toArray u w fun e U w'=>U=u/\R e w':=by
 subst hn;have h:=Eq.mpr (he _) h;unfold Mh at h;unfold Fu at I;split at h
 . exact h.elim
 . rename_i c hb;rw [hb] at I;simp only [Bool.and_eq_true] at I;have X:args.length<=fn.ntmps:=by simpa using I.2
   refine callsD_of_wp hf hb ?_;have ha:Ag [] fn.ntmps {tmps:=args.toArray++Array.replicate (fn.ntmps - args.toArray.size) undef,defers:= []} (oK args):=by
    refine ⟨by simp;omega,rfl,fun i=> ?_⟩;rw [pM];simp only [Array.getD_eq_getD_getElem?,List.getD_eq_getElem?_getD];by_cases hi:i<args.length
    . rw [Array.getElem?_append_left (by simpa using hi)];simp
    . rw [Array.getElem?_append_right (by simpa using hi)];rw [List.getElem?_eq_none (by omega)];rw [Array.getElem?_replicate];split<;>rfl
   refine wp_mono (it hm c I.1 ha h) fun e O w' ⟨V,J,hq,_⟩=> ?_;have dV:ux P fn.results.toList V w' (fun vs=>R (.returned (ii vs)) w')->O.defers= []/\∃v,(results fn O.tmps).run P w'= .ok v w'/\R (.returned v) w':=by
    intro hr;obtain ⟨vs,hv,Q⟩:=kX J hr;refine ⟨J.2.1,ii vs,?_,Q⟩;unfold results;rw [Array.mapM_eq_mapM_toList];simp only [Sem.run_bind,Sem.run_map];refine (congrArg (fun r=>Result.andThen (Result.andThen r _) _) hv).trans ?_;simp only [Result.andThen_ok,Sem.run_pure]
    match vs with
    | []=>simp [ii]
    | [v]=>simp [ii]
    |u::v::l=>simp [ii]
   cases e with
   |normal=>exact dV hq
   |ret=>exact dV hq
   |_=>exact hq.elim
theorem Es {P:Program} (hm:P.follows .mixedOrders=true) {f:FuncId} {fn:Func} (hf:P.funcs[f]? =some fn) {ann:qf} {args:List Value} {n:Nat} (I:Ib P fn n=true) (hn:args.length=n)
 {w:World} {F:(Value->World->Prop)->Prop} (he: ∀K,Lf P fn ann args w K=F K) {R:Ending->World->Prop} (h:F fun v w'=>R (.returned v) w'):Calls P f args.toArray w R:=by
 subst hn;refine (wZ hm hf I (Eq.mpr (he _) h)).mono ?_;rintro e w' ⟨v,rfl,J⟩;exact J
end Go.Fw
