/- Functions that defer one call, and functions that are called so. -/
import Derived.Test.YtbdghpjnifjlmaaGreatFwSound
import Derived.Defers
namespace Go.Fw
open Go
variable {P:Program} {D:List Deferred}
def K1:Op->Option (FuncId × Array Operand)
 | .defer c=>match c.callee with
   | .value (.func g)=>some (g,c.args)
   |_=>none
 |_=>none
def ra (o:Oper):Option (FuncId × Array Operand):=
 bif o.dst.isNone && o.guard.isNone then K1 o.op else none
def pV (l:List Oper):Option (List Oper × Oper):=l.getLast?.map λo=> (l.dropLast,o)
def QI (P:Program) (fn:Func) (n:sM) (args:List Value) (w:World) (K:Value->World->Prop):Prop:=
 match fn.body with
 |some (.seq U (.seq (.region _ I false) rest))=>
  uf P U n.fst (ry args) w λe f w'=>match e with
   | .normal=>match pV I.toList with
     |some (J,o)=>Qz P I J f w' λQ O=>match ra o with
      |some (g,as)=>uf P rest n.snd.snd Q O λe f2 w2=>match e with
       | .normal| .ret=>CallsD P g (DF Q as.toList).toArray .returning w2 λe u w3=>u=.returning/\∃v,e=.returned v/\zA P fn.results.toList f2 w3 λvs=>K (jt vs) w3
       |_=>False
      |none=>False
     |none=>False
   |_=>False
 |_=>False
def Nr (P:Program) (fn:Func) (args:Nat):Bool:=
 match fn.body with
 |some (.seq J (.seq (.region _ I false) rest))=>match pV I.toList with
  |some (_,o)=> (match ra o with|some (g,_)=>gH P g|none=>false) && ee P fn.ntmps J && qC P fn.ntmps I.toList && ee P fn.ntmps rest && Nat.ble args fn.ntmps
  |none=>false
 |_=>false
theorem C9 {l I:List Oper} {o:Oper} (h:pV l=some (I,o)):l=I++ [o]:=by
 unfold pV at h;rw [WH] at h;obtain ⟨Q,h1,O⟩:=h;obtain ⟨rfl,rfl⟩:=Xx O;have J:l≠[]:=λe=>by rw [e] at h1;simp at h1
 rw [List.getLast?_eq_some_getLast J] at h1;rw [<- Vo h1];exact (List.dropLast_concat_getLast J).symm
theorem AI {g:FuncId} (I:gH P g=true) (as:Array Value) (w:World):(callFunc g as).run P w=.ok (.enter g as) w:=by
 unfold gH at I;unfold callFunc;simp only [Sem.run_bind,run_program,Result.andThen_ok];split at I
 . rename_i fn J;simp only [ts,bne_iff_ne,ne_eq] at I;simp only [J];have h1:(fn.name== "runtime.NumGoroutine")=false:=by simpa using I.2
   have O:fn.body.isNone=false:=by cases Q:fn.body<;>simp_all
   simp [h1,O]
 . simp at I
theorem JO {g:FuncId} (I:gH P g=true) (as:Array Value) (w:World):(invoke (.fn (.func g) #[]) as).run P w=.ok (.enter g as) w:=by
 show (callFunc g (as++ #[])).run P w=_;rw [AI I];simp
theorem NJ {o:Oper} {g:FuncId} {as:Array Operand} (I:ra o=some (g,as)) {n:Nat} {a:Act} {f:Fr} (ha:Ag D n a f) (w:World) (next:Act->World->Prop) (Q:Exit->Act->World->Prop)
 (h:next {a with defers:= {target:=.fn (.func g) #[],args:=(DF f as.toList).toArray}::a.defers} w):o.wp P a w next Q:=by
 obtain ⟨dst,op,type,pos,after,guard⟩:=o;unfold ra at I;cases dst with
 |some d=>simp at I
 |none=>
 cases guard with
 |some x=>simp at I
 |none=>
 simp only [Option.isNone_none,X5,cond_true] at I;cases op<;>simp only [K1] at I<;>try (cases I;done)
 rename_i c;obtain ⟨callee,args,argTypes⟩:=c;simp only at I;split at I
 . rename_i O;obtain ⟨rfl,rfl⟩:=Xx (Vo I);unfold Oper.wp;have J:args.map (ev f)=(DF f args.toList).toArray:=by rw [C6,xW]
   have:(execOp a.eval {dst:=none,op:=.defer {callee:=.value (.func O),args:=args,argTypes:=argTypes},type:=type,pos:=pos,after:=after,guard:=none}).run P w=.ok (.defer {target:=.fn (.func O) #[],args:=(DF f args.toList).toArray}) w:=by
    rw [ha.eval];simp only [execOp,resolve,ev,Deferred.ofValue,Sem.run_bind,Sem.run_pure,Result.andThen_ok,J,Array.empty_append]
   rw [this];exact h
 . cases I
theorem E5 {I:Array Oper} {n:Nat} (J:qC P n I.toList=true) {K:Fr->World->Prop}:∀ (l:List Oper) (k:Nat) (f:Fr) (a:Act) (w:World),(∀j,j<l.length->l[j]? =I[k+j]?)->Ag D n a f->
 Qz P I l f w K->rF P I (λQ w'=>∃O,Ag D n Q O/\K O w') (List.range' k l.length) a w
 | [],_,f,a,w,_,ha,h=>⟨f,ha,h⟩
 |o::l,k,f,a,w,hl,ha,h=>by
  have X:I[k]? =some o:=by simpa using (hl 0 (by simp)).symm
  have U:∀j,j<l.length->l[j]? =I[k+1+j]? :=λj Y=>by have:=hl (j+1) (by simp;omega);simpa [WL,XA 1 j] using this
  rw [U9,XL];exact fx (λQ w' ⟨O,V,hr⟩=>E5 J l (k+1) O Q w' U V hr) (pA J X ha h)
theorem xm {I:Array Oper} {Q:Exit->Act->World->Prop} {K:Act->World->Prop}:∀ (l r:List Nat) (a:Act) (w:World),rF P I K l a w->(∀a w,K a w->wpOps P I Q r a w)->wpOps P I Q (l++r) a w
 | [],r,a,w,h,hr=>hr a w h
 |i::l,r,a,w,h,hr=>by
  rw [WN,wpOps_cons];exact rn (fx (λa w h=>xm l r a w h hr) h)
theorem Be (hm:P.follows .mixedOrders=true) {f:FuncId} {fn:Func} (hf:P.funcs[f]? =some fn) {ann:sM} {args:List Value} {w:World} {K:Value->World->Prop}
 (I:Nr P fn args.length=true) (h:QI P fn ann args w K):Calls P f args.toArray w λe w'=>∃v,e=.returned v/\K v w':=by
 unfold QI at h;unfold Nr at I;split at h
 . rename_i r0 id O rest hb;rw [hb] at I;simp only at I;cases hs:pV O.toList with
   |none=>rw [hs] at I;cases I
   |some x=>
   obtain ⟨J,o⟩:=x;rw [hs] at I;simp only [ts] at I;obtain ⟨⟨⟨⟨hg,h0⟩,ap⟩,hr⟩,ac⟩:=I;have ac:args.length<=fn.ntmps:=by simpa using ac
   cases Q:ra o with
   |none=>rw [Q] at hg;cases hg
   |some y=>
   obtain ⟨g,as⟩:=y;rw [Q] at hg;simp only at hg;refine calls_of_wp_defers hf hb ?_;have ha:Ag [] fn.ntmps {tmps:=args.toArray++Array.replicate (fn.ntmps - args.toArray.size) undef,defers:= []} (ry args):=by
    refine ⟨by simp;omega,rfl,λi=>?_⟩;rw [sq];simp only [WI,y6];by_cases hi:i<args.length
    . rw [VB (by simpa using hi)];simp
    . rw [WJ (by simpa using hi)];rw [Vz (by omega)];rw [WY];split<;>rfl
   refine wp_seq (wp_mono (jJ hm r0 h0 ha h) λe a' w' ⟨f',ay,hq,_⟩=>?_);cases e with
   |normal=>
    simp only [hs] at hq;refine wp_seq (wp_region ?_);have hl:=C9 hs;have aw:O.size=J.length+1:=by rw [<- WB,hl];simp
    rw [XN,aw,List.range'_concat,UX,WM];have ar:∀j,j<J.length->J[j]? =O[0+j]? :=λj hj=>by rw [UX,<- Xb,hl,UT hj]
    have Y:O[J.length]? =some o:=by rw [<- Xb,hl];simp
    refine xm _ _ _ _ (E5 ap J 0 f' a' w' ar ay hq) λa2 w2 ⟨f2,av,aa⟩=>?_;simp only [Q] at aa;have U:o.guard=none:=by
     unfold ra at Q;cases X:o.guard with
     |none=>rfl
     |some x=>rw [X] at Q;simp at Q
    have az:o.dst=none:=by
     unfold ra at Q;cases X:o.dst with
     |none=>rfl
     |some x=>rw [X] at Q;simp at Q
    show wpOps P O _ [J.length] a2 w2;unfold wpOps;simp only [Y];rw [if_pos (by simp [Region.wanted,U])];refine .inl (NJ Q av w2 _ _ ?_);unfold wpOps;have ax:Ag [{target:=Target.fn (Fn.func g) #[],args:=(DF f2 as.toList).toArray}] fn.ntmps {a2 with defers:= {target:=.fn (.func g) #[],args:=(DF f2 as.toList).toArray}::a2.defers} f2:=by
     obtain ⟨x1,x2,x3⟩:=av;refine ⟨x1,?_,x3⟩;simp only [x2]
    refine wp_mono (jJ hm rest hr ax aa) λe a4 w4 ⟨f4,Z,V,_⟩=>?_;have dG:(CallsD P g (DF f2 as.toList).toArray .returning w4 λe u w3=>u=.returning/\∃v,e=.returned v/\zA P fn.results.toList f4 w3 λvs=>K (jt vs) w3)->
     Leaves P fn a4.tmps (λe w'=>∃v,e=.returned v/\K v w') a4.defers .returning w4:=by
     intro hc;rw [Z.2.1];refine leaves_cons (f:=g) (args:=(DF f2 as.toList).toArray) (by simp) (JO hg _ _) ?_;refine hc.mono ?_;rintro e u w3 ⟨rfl,v,rfl,ag⟩;obtain ⟨vs,hv,hk⟩:=nQ Z ag;refine ⟨jt vs,?_,_,rfl,hk⟩;unfold results;rw [Wp];simp only [Sem.run_bind,Sem.run_map];refine (congrArg (λr=>Result.andThen (Result.andThen r _) _) hv).trans ?_;simp only [Result.andThen_ok,Sem.run_pure]
     match vs with
     | []=>simp [jt]
     | [v]=>simp [jt]
     |u::v::l=>simp [jt]
    cases e with
    |normal=>exact dG V
    |ret=>exact dG V
    |_=>exact V.elim
   |_=>exact hq.elim
 . exact h.elim
theorem Ja {P:Program} (hm:P.follows .mixedOrders=true) {f:FuncId} {fn:Func} (hf:P.funcs[f]? =some fn) {ann:sM} {args:List Value} {n:Nat} (I:JL P fn n=true) (hn:args.length=n)
 {w:World} {F:(Value->World->Prop)->Prop} (he:∀K,Sf P fn ann args w K=F K) {u:FrameMode} {R:Ending->World->Prop} (h:F λv w'=>R (.returned v) w'):CallsD P f args.toArray u w λe Q w'=>Q=u/\R e w':=by
 subst hn;have h:=Eq.mpr (he _) h;unfold Sf at h;unfold JL at I;split at h
 . exact h.elim
 . rename_i c hb;rw [hb] at I;simp only [ts] at I;have V:args.length<=fn.ntmps:=by simpa using I.2
   refine callsD_of_wp hf hb ?_;have ha:Ag [] fn.ntmps {tmps:=args.toArray++Array.replicate (fn.ntmps - args.toArray.size) undef,defers:= []} (ry args):=by
    refine ⟨by simp;omega,rfl,λi=>?_⟩;rw [sq];simp only [WI,y6];by_cases hi:i<args.length
    . rw [VB (by simpa using hi)];simp
    . rw [WJ (by simpa using hi)];rw [Vz (by omega)];rw [WY];split<;>rfl
   refine wp_mono (jJ hm c I.1 ha h) λe O w' ⟨U,J,hq,_⟩=>?_;have dG:zA P fn.results.toList U w' (λvs=>R (.returned (jt vs)) w')->O.defers= []/\∃v,(results fn O.tmps).run P w'=.ok v w'/\R (.returned v) w':=by
    intro hr;obtain ⟨vs,hv,X⟩:=nQ J hr;refine ⟨J.2.1,jt vs,?_,X⟩;unfold results;rw [Wp];simp only [Sem.run_bind,Sem.run_map];refine (congrArg (λr=>Result.andThen (Result.andThen r _) _) hv).trans ?_;simp only [Result.andThen_ok,Sem.run_pure]
    match vs with
    | []=>simp [jt]
    | [v]=>simp [jt]
    |u::v::l=>simp [jt]
   cases e with
   |normal=>exact dG hq
   |ret=>exact dG hq
   |_=>exact hq.elim
theorem BU {P:Program} (hm:P.follows .mixedOrders=true) {f:FuncId} {fn:Func} (hf:P.funcs[f]? =some fn) {ann:sM} {args:List Value} {n:Nat} (I:Nr P fn n=true) (hn:args.length=n)
 {w:World} {F:(Value->World->Prop)->Prop} (he:∀K,QI P fn ann args w K=F K) {R:Ending->World->Prop} (h:F λv w'=>R (.returned v) w'):Calls P f args.toArray w R:=by
 subst hn;refine (Be hm hf I (Eq.mpr (he _) h)).mono ?_;rintro e w' ⟨v,rfl,J⟩;exact J
end Go.Fw
