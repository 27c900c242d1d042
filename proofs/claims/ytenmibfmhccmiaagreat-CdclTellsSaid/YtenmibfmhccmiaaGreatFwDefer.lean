/- Functions that defer one call, and functions that are called so. -/
import Derived.Test.YtenmibfmhccmiaaGreatFwSound
import Derived.Defers
namespace Go.Fw
open Go
variable {P:Program} {D:List Deferred}
def E2:Op->Option (FuncId × Array Operand)
 | .defer c=>match c.callee with
   | .value (.func g)=>some (g,c.args)
   |_=>none
 |_=>none
def mI (o:Oper):Option (FuncId × Array Operand):=
 bif o.dst.isNone && o.guard.isNone then E2 o.op else none
def lO (l:List Oper):Option (List Oper × Oper):=l.getLast?.map fun o=> (l.dropLast,o)
def KF (P:Program) (fn:Func) (n:oW) (args:List Value) (w:World) (K:Value->World->Prop):Prop:=
 match fn.body with
 |some (.seq U (.seq (.region _ I false) rest))=>
  pA P U n.fst (ng args) w fun e f w'=>match e with
   | .normal=>match lO I.toList with
     |some (J,o)=>KL P I J f w' fun Q O=>match mI o with
      |some (g,as)=>pA P rest n.snd.snd Q O fun e f2 w2=>match e with
       | .normal| .ret=>CallsD P g (yw Q as.toList).toArray .returning w2 fun e u w3=>u= .returning/\∃v,e= .returned v/\tf P fn.results.toList f2 w3 fun vs=>K (gG vs) w3
       |_=>False
      |none=>False
     |none=>False
   |_=>False
 |_=>False
def FY (P:Program) (fn:Func) (args:Nat):Bool:=
 match fn.body with
 |some (.seq J (.seq (.region _ I false) rest))=>match lO I.toList with
  |some (_,o)=> (match mI o with|some (g,_)=>fM P g|none=>false) && dD P fn.ntmps J && lM P fn.ntmps I.toList && dD P fn.ntmps rest && Nat.ble args fn.ntmps
  |none=>false
 |_=>false
theorem xr {l J:List Oper} {o:Oper} (h:lO l=some (J,o)):l=J++ [o]:=by
 unfold lO at h;rw [Option.map_eq_some_iff] at h;obtain ⟨Q,h1,O⟩:=h;obtain ⟨rfl,rfl⟩:=Prod.mk.inj O;have I:l≠[]:=fun e=>by rw [e] at h1;simp at h1
 rw [List.getLast?_eq_some_getLast I] at h1;rw [<- Option.some.inj h1];exact (List.dropLast_concat_getLast I).symm
theorem tV {g:FuncId} (I:fM P g=true) (as:Array Value) (w:World):(callFunc g as).run P w= .ok (.enter g as) w:=by
 unfold fM at I;unfold callFunc;simp only [Sem.run_bind,run_program,Result.andThen_ok];split at I
 . rename_i fn J;simp only [Bool.and_eq_true,bne_iff_ne,ne_eq] at I;simp only [J];have h1:(fn.name== "runtime.NumGoroutine")=false:=by simpa using I.2
   have O:fn.body.isNone=false:=by cases Q:fn.body<;>simp_all
   simp [h1,O]
 . simp at I
theorem D3 {g:FuncId} (I:fM P g=true) (as:Array Value) (w:World):(invoke (.fn (.func g) #[]) as).run P w= .ok (.enter g as) w:=by
 show (callFunc g (as++ #[])).run P w=_;rw [tV I];simp
theorem Gv {o:Oper} {g:FuncId} {as:Array Operand} (I:mI o=some (g,as)) {n:Nat} {a:Act} {f:Fr} (ha:Ag D n a f) (w:World) (next:Act->World->Prop) (Q:Exit->Act->World->Prop)
 (h:next {a with defers:= {target:= .fn (.func g) #[],args:=(yw f as.toList).toArray}::a.defers} w):o.wp P a w next Q:=by
 obtain ⟨dst,op,type,pos,after,guard⟩:=o;unfold mI at I;cases dst with
 |some d=>simp at I
 |none=>
 cases guard with
 |some x=>simp at I
 |none=>
 simp only [Option.isNone_none,Bool.and_self,cond_true] at I;cases op<;>simp only [E2] at I<;>try (cases I;done)
 rename_i c;obtain ⟨callee,args,argTypes⟩:=c;simp only at I;split at I
 . rename_i O;obtain ⟨rfl,rfl⟩:=Prod.mk.inj (Option.some.inj I);unfold Oper.wp;have J:args.map (ev f)=(yw f args.toList).toArray:=by rw [xG,sM]
   have:(execOp a.eval {dst:=none,op:= .defer {callee:= .value (.func O),args:=args,argTypes:=argTypes},type:=type,pos:=pos,after:=after,guard:=none}).run P w= .ok (.defer {target:= .fn (.func O) #[],args:=(yw f args.toList).toArray}) w:=by
    rw [ha.eval];simp only [execOp,resolve,ev,Deferred.ofValue,Sem.run_bind,Sem.run_pure,Result.andThen_ok,J,Array.empty_append]
   rw [this];exact h
 . cases I
theorem zq {I:Array Oper} {n:Nat} (J:lM P n I.toList=true) {K:Fr->World->Prop}: ∀ (l:List Oper) (k:Nat) (f:Fr) (a:Act) (w:World),(∀j,j<l.length->l[j]? =I[k+j]?)->Ag D n a f->
 KL P I l f w K->nu P I (fun U w'=> ∃O,Ag D n U O/\K O w') (List.range' k l.length) a w
 | [],_,f,a,w,_,ha,h=> ⟨f,ha,h⟩
 |o::l,k,f,a,w,hl,ha,h=>by
  have X:I[k]? =some o:=by simpa using (hl 0 (by simp)).symm
  have Q: ∀j,j<l.length->l[j]? =I[k+1+j]? :=fun j Y=>by have:=hl (j+1) (by simp;omega);simpa [Nat.add_assoc,Nat.add_comm 1 j] using this
  rw [List.length_cons,List.range'_succ];exact d6 (fun U w' ⟨O,V,hr⟩=>zq J l (k+1) O U w' Q V hr) (lh J X ha h)
theorem rY {I:Array Oper} {Q:Exit->Act->World->Prop} {K:Act->World->Prop}: ∀ (l r:List Nat) (a:Act) (w:World),nu P I K l a w->(∀a w,K a w->wpOps P I Q r a w)->wpOps P I Q (l++r) a w
 | [],r,a,w,h,hr=>hr a w h
 |i::l,r,a,w,h,hr=>by
  rw [List.cons_append,wpOps_cons];exact mO (d6 (fun a w h=>rY l r a w h hr) h)
theorem vo (hm:P.follows .mixedOrders=true) {f:FuncId} {fn:Func} (hf:P.funcs[f]? =some fn) {ann:oW} {args:List Value} {w:World} {K:Value->World->Prop}
 (I:FY P fn args.length=true) (h:KF P fn ann args w K):Calls P f args.toArray w fun e w'=> ∃v,e= .returned v/\K v w':=by
 unfold KF at h;unfold FY at I;split at h
 . rename_i r0 id O rest hb;rw [hb] at I;simp only at I;cases hs:lO O.toList with
   |none=>rw [hs] at I;cases I
   |some x=>
   obtain ⟨J,o⟩:=x;rw [hs] at I;simp only [Bool.and_eq_true] at I;obtain ⟨⟨⟨⟨hg,h0⟩,av⟩,hr⟩,ap⟩:=I;have ap:args.length<=fn.ntmps:=by simpa using ap
   cases Q:mI o with
   |none=>rw [Q] at hg;cases hg
   |some y=>
   obtain ⟨g,as⟩:=y;rw [Q] at hg;simp only at hg;refine calls_of_wp_defers hf hb ?_;have ha:Ag [] fn.ntmps {tmps:=args.toArray++Array.replicate (fn.ntmps - args.toArray.size) undef,defers:= []} (ng args):=by
    refine ⟨by simp;omega,rfl,fun i=> ?_⟩;rw [nX];simp only [Array.getD_eq_getD_getElem?,List.getD_eq_getElem?_getD];by_cases hi:i<args.length
    . rw [Array.getElem?_append_left (by simpa using hi)];simp
    . rw [Array.getElem?_append_right (by simpa using hi)];rw [List.getElem?_eq_none (by omega)];rw [Array.getElem?_replicate];split<;>rfl
   refine wp_seq (wp_mono (gY hm r0 h0 ha h) fun e a' w' ⟨f',ax,hq,_⟩=> ?_);cases e with
   |normal=>
    simp only [hs] at hq;refine wp_seq (wp_region ?_);have hl:=xr hs;have aw:O.size=J.length+1:=by rw [<- Array.length_toList,hl];simp
    rw [List.range_eq_range',aw,List.range'_concat,Nat.zero_add,Nat.one_mul];have an: ∀j,j<J.length->J[j]? =O[0+j]? :=fun j hj=>by rw [Nat.zero_add,<- Array.getElem?_toList,hl,List.getElem?_append_left hj]
    have Y:O[J.length]? =some o:=by rw [<- Array.getElem?_toList,hl];simp
    refine rY _ _ _ _ (zq av J 0 f' a' w' an ax hq) fun a2 w2 ⟨f2,ag,Z⟩=> ?_;simp only [Q] at Z;have U:o.guard=none:=by
     unfold mI at Q;cases X:o.guard with
     |none=>rfl
     |some x=>rw [X] at Q;simp at Q
    have az:o.dst=none:=by
     unfold mI at Q;cases X:o.dst with
     |none=>rfl
     |some x=>rw [X] at Q;simp at Q
    show wpOps P O _ [J.length] a2 w2;unfold wpOps;simp only [Y];rw [if_pos (by simp [Region.wanted,U])];refine .inl (Gv Q ag w2 _ _ ?_);unfold wpOps;have ay:Ag [{target:=Target.fn (Fn.func g) #[],args:=(yw f2 as.toList).toArray}] fn.ntmps {a2 with defers:= {target:= .fn (.func g) #[],args:=(yw f2 as.toList).toArray}::a2.defers} f2:=by
     obtain ⟨x1,x2,x3⟩:=ag;refine ⟨x1,?_,x3⟩;simp only [x2]
    refine wp_mono (gY hm rest hr ay Z) fun e a4 w4 ⟨f4,aa,V,_⟩=> ?_;have fI:(CallsD P g (yw f2 as.toList).toArray .returning w4 fun e u w3=>u= .returning/\∃v,e= .returned v/\tf P fn.results.toList f4 w3 fun vs=>K (gG vs) w3)->
     Leaves P fn a4.tmps (fun e w'=> ∃v,e= .returned v/\K v w') a4.defers .returning w4:=by
     intro hc;rw [aa.2.1];refine leaves_cons (f:=g) (args:=(yw f2 as.toList).toArray) (by simp) (D3 hg _ _) ?_;refine hc.mono ?_;rintro e u w3 ⟨rfl,v,rfl,ac⟩;obtain ⟨vs,hv,hk⟩:=kg aa ac;refine ⟨gG vs,?_,_,rfl,hk⟩;unfold results;rw [Array.mapM_eq_mapM_toList];simp only [Sem.run_bind,Sem.run_map];refine (congrArg (fun r=>Result.andThen (Result.andThen r _) _) hv).trans ?_;simp only [Result.andThen_ok,Sem.run_pure]
     match vs with
     | []=>simp [gG]
     | [v]=>simp [gG]
     |u::v::l=>simp [gG]
    cases e with
    |normal=>exact fI V
    |ret=>exact fI V
    |_=>exact V.elim
   |_=>exact hq.elim
 . exact h.elim
theorem DI {P:Program} (hm:P.follows .mixedOrders=true) {f:FuncId} {fn:Func} (hf:P.funcs[f]? =some fn) {ann:oW} {args:List Value} {n:Nat} (I:F4 P fn n=true) (hn:args.length=n)
 {w:World} {F:(Value->World->Prop)->Prop} (he: ∀K,Lp P fn ann args w K=F K) {u:FrameMode} {R:Ending->World->Prop} (h:F fun v w'=>R (.returned v) w'):CallsD P f args.toArray u w fun e V w'=>V=u/\R e w':=by
 subst hn;have h:=Eq.mpr (he _) h;unfold Lp at h;unfold F4 at I;split at h
 . exact h.elim
 . rename_i c hb;rw [hb] at I;simp only [Bool.and_eq_true] at I;have U:args.length<=fn.ntmps:=by simpa using I.2
   refine callsD_of_wp hf hb ?_;have ha:Ag [] fn.ntmps {tmps:=args.toArray++Array.replicate (fn.ntmps - args.toArray.size) undef,defers:= []} (ng args):=by
    refine ⟨by simp;omega,rfl,fun i=> ?_⟩;rw [nX];simp only [Array.getD_eq_getD_getElem?,List.getD_eq_getElem?_getD];by_cases hi:i<args.length
    . rw [Array.getElem?_append_left (by simpa using hi)];simp
    . rw [Array.getElem?_append_right (by simpa using hi)];rw [List.getElem?_eq_none (by omega)];rw [Array.getElem?_replicate];split<;>rfl
   refine wp_mono (gY hm c I.1 ha h) fun e O w' ⟨X,J,hq,_⟩=> ?_;have fI:tf P fn.results.toList X w' (fun vs=>R (.returned (gG vs)) w')->O.defers= []/\∃v,(results fn O.tmps).run P w'= .ok v w'/\R (.returned v) w':=by
    intro hr;obtain ⟨vs,hv,Q⟩:=kg J hr;refine ⟨J.2.1,gG vs,?_,Q⟩;unfold results;rw [Array.mapM_eq_mapM_toList];simp only [Sem.run_bind,Sem.run_map];refine (congrArg (fun r=>Result.andThen (Result.andThen r _) _) hv).trans ?_;simp only [Result.andThen_ok,Sem.run_pure]
    match vs with
    | []=>simp [gG]
    | [v]=>simp [gG]
    |u::v::l=>simp [gG]
   cases e with
   |normal=>exact fI hq
   |ret=>exact fI hq
   |_=>exact hq.elim
theorem DJ {P:Program} (hm:P.follows .mixedOrders=true) {f:FuncId} {fn:Func} (hf:P.funcs[f]? =some fn) {ann:oW} {args:List Value} {n:Nat} (I:FY P fn n=true) (hn:args.length=n)
 {w:World} {F:(Value->World->Prop)->Prop} (he: ∀K,KF P fn ann args w K=F K) {R:Ending->World->Prop} (h:F fun v w'=>R (.returned v) w'):Calls P f args.toArray w R:=by
 subst hn;refine (vo hm hf I (Eq.mpr (he _) h)).mono ?_;rintro e w' ⟨v,rfl,J⟩;exact J
end Go.Fw
