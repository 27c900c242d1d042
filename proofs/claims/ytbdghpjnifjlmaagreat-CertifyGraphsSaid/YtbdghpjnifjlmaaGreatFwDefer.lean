/- Functions that defer one call, and functions that are called so. -/
import Derived.Test.YtbdghpjnifjlmaaGreatFwSound
import Derived.Defers
set_option linter.all false
namespace Go.Fw
open Go
variable{P:Program}{D:List Deferred}
def Nd:Op->Option (FuncId × Array Operand)
 | .defer c=>match c.callee with
   | .value (.func g)=>some (g,c.args)
   |_=>none
 |_=>none
def rj(o:Oper):Option (FuncId × Array Operand):=
 bif o.dst.isNone && o.guard.isNone then Nd o.op else none
def qO(l:List Oper):Option (List Oper × Oper):=l.getLast?.map λo=> (l.dropLast,o)
def SM(P:Program)(fn:Func)(n:te)(args:List Value)(w:World)(K:Value->World->Prop):Prop:=
 match fn.body with
 |some (.seq U (.seq (.region _ I false) rest))=>
  ux P U n.fst (rP args) w λe f w'=>match e with
   | .normal=>match qO I.toList with
     |some (O,o)=>Su P I O f w' λQ J=>match rj o with
      |some (g,as)=>ux P rest n.snd.snd Q J λe f2 w2=>match e with
       | .normal| .ret=>CallsD P g (EB Q as.toList).toArray .returning w2 λe u w3=>u=.returning/\∃v,e=.returned v/\Ay P fn.results.toList f2 w3 λvs=>K (jn vs) w3
       |_=>False
      |none=>False
     |none=>False
   |_=>False
 |_=>False
def NM(P:Program)(fn:Func)(args:Nat):Bool:=
 match fn.body with
 |some (.seq J (.seq (.region _ I false) rest))=>match qO I.toList with
  |some (_,o)=> (match rj o with|some (g,_)=>f_ P g|none=>false) && eB P fn.ntmps J && qK P fn.ntmps I.toList && eB P fn.ntmps rest && Nat.ble args fn.ntmps
  |none=>false
 |_=>false
theorem Dz{l J:List Oper}{o:Oper}(h:qO l=some (J,o)):l=J++ [o]:=by
 unfold qO at h;rw[Xf]at h;obtain⟨Q,h1,O⟩:=h;obtain⟨rfl,rfl⟩:=YV O;have I:l≠[]:=λe=>by rw[e]at h1;simp at h1
 rw[List.getLast?_eq_some_getLast I]at h1;rw[<- WS h1];exact(List.dropLast_concat_getLast I).symm
theorem An{g:FuncId}(I:f_ P g=true)(as:Array Value)(w:World):(callFunc g as).run P w=.ok (.enter g as) w:=by
 unfold f_ at I;unfold callFunc;simp only[Sem.run_bind,run_program,Result.andThen_ok];split at I
 .rename_i fn J;simp only[ts,ZH,J5]at I;simp only[J];have h1:(fn.name== "runtime.NumGoroutine")=false:=by simpa using I.2
  have O:fn.body.isNone=false:=by cases Q:fn.body<;>simp_all
  simp[h1,O]
 .simp at I
theorem KC{g:FuncId}(I:f_ P g=true)(as:Array Value)(w:World):(invoke (.fn (.func g) #[]) as).run P w=.ok (.enter g as) w:=by
 show (callFunc g (as++ #[])).run P w=_;rw[An I];simp
theorem Nb{o:Oper}{g:FuncId}{as:Array Operand}(I:rj o=some (g,as)){n:Nat}{a:Act}{f:Fr}(ha:Ag D n a f)(w:World)(next:Act->World->Prop)(Q:Exit->Act->World->Prop)
 (h:next {a with defers:= {target:=.fn (.func g) #[],args:=(EB f as.toList).toArray}::a.defers} w):o.wp P a w next Q:=by
 obtain⟨dst,op,type,pos,after,guard⟩:=o;unfold rj at I;cases dst with
 |some d=>simp at I
 |none=>
 cases guard with
 |some x=>simp at I
 |none=>
 simp only[Option.isNone_none,Zr,I6]at I;cases op<;>simp only[Nd]at I<;>try (cases I;done)
 rename_i c;obtain⟨callee,args,argTypes⟩:=c;simp only at I;split at I
 .rename_i O;obtain⟨rfl,rfl⟩:=YV (WS I);unfold Oper.wp;have J:args.map (ev f)=(EB f args.toList).toArray:=by rw[D1,zo]
  have:(execOp a.eval {dst:=none,op:=.defer {callee:=.value (.func O),args:=args,argTypes:=argTypes},type:=type,pos:=pos,after:=after,guard:=none}).run P w=.ok (.defer {target:=.fn (.func O) #[],args:=(EB f args.toList).toArray}) w:=by
   rw[ha.eval];simp only[execOp,resolve,ev,Deferred.ofValue,Sem.run_bind,Sem.run_pure,Result.andThen_ok,J,Array.empty_append]
  rw[this];exact h
 .cases I
theorem FQ{I:Array Oper}{n:Nat}(J:qK P n I.toList=true){K:Fr->World->Prop}:∀ (l:List Oper) (k:Nat) (f:Fr) (a:Act) (w:World),(∀j,j<l.length->l[j]? =I[k+j]?)->Ag D n a f->
 Su P I l f w K->rS P I (λV w'=>∃O,Ag D n V O/\K O w') (List.range' k l.length) a w
 | [],_,f,a,w,_,ha,h=>⟨f,ha,h⟩
 |o::l,k,f,a,w,hl,ha,h=>by
  have X:I[k]? =some o:=by simpa using(hl 0 (by simp)).symm
  have U:∀j,j<l.length->l[j]? =I[k+1+j]? :=λj Y=>by have:=hl (j+1) (by simp;omega);simpa[Ye,YZ 1 j]using this
  rw[Wz,Y'];exact fx (λV w' ⟨O,Q,hr⟩=>FQ J l (k+1) O V w' U Q hr) (pH J X ha h)
theorem xK{I:Array Oper}{Q:Exit->Act->World->Prop}{K:Act->World->Prop}:∀ (l r:List Nat) (a:Act) (w:World),rS P I K l a w->(∀a w,K a w->wpOps P I Q r a w)->wpOps P I Q (l++r) a w
 | [],r,a,w,h,hr=>hr a w h
 |i::l,r,a,w,h,hr=>by
  rw[Yg,wpOps_cons];exact rE (fx (λa w h=>xK l r a w h hr) h)
theorem BO(hm:P.follows .mixedOrders=true){f:FuncId}{fn:Func}(hf:P.funcs[f]? =some fn){ann:te}{args:List Value}{w:World}{K:Value->World->Prop}
 (I:NM P fn args.length=true) (h:SM P fn ann args w K):Calls P f args.toArray w λe w'=>∃v,e=.returned v/\K v w':=by
 unfold SM at h;unfold NM at I;split at h
 .rename_i r0 id O rest hb;rw[hb]at I;simp only at I;cases hs:qO O.toList with
  |none=>rw[hs]at I;cases I
  |some x=>
  obtain⟨J,o⟩:=x;rw[hs]at I;simp only[ts]at I;obtain⟨⟨⟨⟨hg,h0⟩,aa⟩,hr⟩,an⟩:=I;have an:args.length<=fn.ntmps:=by simpa using an
  cases Q:rj o with
  |none=>rw[Q]at hg;cases hg
  |some y=>
  obtain⟨g,as⟩:=y;rw[Q]at hg;simp only at hg;refine calls_of_wp_defers hf hb ?_;have ha:Ag [] fn.ntmps {tmps:=args.toArray++Array.replicate (fn.ntmps - args.toArray.size) undef,defers:= []} (rP args):=by
   refine⟨by simp;omega,rfl,λi=>?_⟩;rw[sA];simp only[X',vx];by_cases hi:i<args.length
   .rw [Xc (by simpa using hi)];simp
   .rw [Ya (by simpa using hi)];rw[W6 (by omega)];rw[Yo];split<;>rfl
  refine wp_seq (wp_mono (jq hm r0 h0 ha h) λe a' w' ⟨f',ax,hq,_⟩=>?_);cases e with
  |normal=>
   simp only[hs]at hq;refine wp_seq (wp_region ?_);have hl:=Dz hs;have ay:O.size=J.length+1:=by rw[<- X7,hl];simp
   rw[Za,ay,List.range'_concat,Wr,Yf];have Z:∀j,j<J.length->J[j]? =O[0+j]? :=λj hj=>by rw[Wr,<- YE,hl,Wd hj]
   have V:O[J.length]? =some o:=by rw[<- YE,hl];simp
   refine xK _ _ _ _ (FQ aa J 0 f' a' w' Z ax hq) λa2 w2 ⟨f2,av,ag⟩=>?_;simp only[Q]at ag;have U:o.guard=none:=by
    unfold rj at Q;cases X:o.guard with
    |none=>rfl
    |some x=>rw[X]at Q;simp at Q
   have aT:o.dst=none:=by
    unfold rj at Q;cases X:o.dst with
    |none=>rfl
    |some x=>rw[X]at Q;simp at Q
   show wpOps P O _ [J.length] a2 w2;unfold wpOps;simp only[V];rw[v8 (by simp[Region.wanted,U])];refine .inl (Nb Q av w2 _ _ ?_);unfold wpOps;have aw:Ag [{target:=Target.fn (Fn.func g) #[],args:=(EB f2 as.toList).toArray}] fn.ntmps {a2 with defers:= {target:=.fn (.func g) #[],args:=(EB f2 as.toList).toArray}::a2.defers} f2:=by
    obtain⟨x1,x2,x3⟩:=av;refine⟨x1,?_,x3⟩;simp only[x2]
   refine wp_mono (jq hm rest hr aw ag) λe a4 w4 ⟨f4,ac,Y,_⟩=>?_;have eh:(CallsD P g (EB f2 as.toList).toArray .returning w4 λe u w3=>u=.returning/\∃v,e=.returned v/\Ay P fn.results.toList f4 w3 λvs=>K (jn vs) w3)->
    Leaves P fn a4.tmps (λe w'=>∃v,e=.returned v/\K v w') a4.defers .returning w4:=by
    intro hc;rw[ac.2.1];refine leaves_cons (f:=g) (args:=(EB f2 as.toList).toArray) (by simp) (KC hg _ _) ?_;refine hc.mono ?_;rintro e u w3⟨rfl,v,rfl,ar⟩;obtain⟨vs,hv,hk⟩:=nN ac ar;refine⟨jn vs,?_,_,rfl,hk⟩;unfold results;rw[XU];simp only[Sem.run_bind,Sem.run_map];refine(congrArg (λr=>Result.andThen (Result.andThen r _) _) hv).trans ?_;simp only[Result.andThen_ok,Sem.run_pure]
    match vs with
    | []=>simp[jn]
    | [v]=>simp[jn]
    |u::v::l=>simp[jn]
   cases e with
   |normal=>exact eh Y
   |ret=>exact eh Y
   |_=>exact Y.elim
  |_=>exact hq.elim
 .exact h.elim
theorem La{P:Program}(hm:P.follows .mixedOrders=true){f:FuncId}{fn:Func}(hf:P.funcs[f]? =some fn){ann:te}{args:List Value}{n:Nat}(I:Kg P fn n=true)(hn:args.length=n)
 {w:World} {F:(Value->World->Prop)->Prop} (he:∀K,TM P fn ann args w K=F K) {u:FrameMode} {R:Ending->World->Prop} (h:F λv w'=>R (.returned v) w'):CallsD P f args.toArray u w λe Q w'=>Q=u/\R e w':=by
 subst hn;have h:=Eq.mpr (he _) h;unfold TM at h;unfold Kg at I;split at h
 .exact h.elim
 .rename_i c hb;rw[hb]at I;simp only[ts]at I;have V:args.length<=fn.ntmps:=by simpa using I.2
  refine callsD_of_wp hf hb ?_;have ha:Ag [] fn.ntmps {tmps:=args.toArray++Array.replicate (fn.ntmps - args.toArray.size) undef,defers:= []} (rP args):=by
   refine⟨by simp;omega,rfl,λi=>?_⟩;rw[sA];simp only[X',vx];by_cases hi:i<args.length
   .rw [Xc (by simpa using hi)];simp
   .rw [Ya (by simpa using hi)];rw[W6 (by omega)];rw[Yo];split<;>rfl
  refine wp_mono (jq hm c I.1 ha h) λe O w' ⟨U,J,hq,_⟩=>?_;have eh:Ay P fn.results.toList U w' (λvs=>R (.returned (jn vs)) w')->O.defers= []/\∃v,(results fn O.tmps).run P w'=.ok v w'/\R (.returned v) w':=by
   intro hr;obtain⟨vs,hv,X⟩:=nN J hr;refine⟨J.2.1,jn vs,?_,X⟩;unfold results;rw[XU];simp only[Sem.run_bind,Sem.run_map];refine(congrArg (λr=>Result.andThen (Result.andThen r _) _) hv).trans ?_;simp only[Result.andThen_ok,Sem.run_pure]
   match vs with
   | []=>simp[jn]
   | [v]=>simp[jn]
   |u::v::l=>simp[jn]
  cases e with
  |normal=>exact eh hq
  |ret=>exact eh hq
  |_=>exact hq.elim
theorem De{P:Program}(hm:P.follows .mixedOrders=true){f:FuncId}{fn:Func}(hf:P.funcs[f]? =some fn){ann:te}{args:List Value}{n:Nat}(I:NM P fn n=true)(hn:args.length=n)
 {w:World} {F:(Value->World->Prop)->Prop} (he:∀K,SM P fn ann args w K=F K) {R:Ending->World->Prop} (h:F λv w'=>R (.returned v) w'):Calls P f args.toArray w R:=by
 subst hn;refine(BO hm hf I (Eq.mpr (he _) h)).mono ?_;rintro e w'⟨v,rfl,J⟩;exact J
