/- A range over a function, once in the text of a function. -/
import Derived.Test.YtbdghpjnifjlmaaGreatFwRange
import Derived.Test.YtbdghpjnifjlmaaGreatFwMem
set_option linter.all false
namespace Go.Fw
open Go
variable{P:Program}{D:List Deferred}{rm:Nat}
def Ug(T:Nat->Prop)(W I:World):Prop:=∀k,T k->I.heap[k]? =W.heap[k]?
structure KB(B:Nat)(T:Nat->Prop)(W W':World):Prop where
 f:KeepsFrom B W W'
 t:Ug T W W'
def VQ(B:Nat)(I:List (Int × Int)->World->Prop):Prop:=
 ∀df (W J:World) (S:Nat->Prop),I df W->Go.Fw.aE S W J->(∀r,S r->B<=r/\∀o,W.heap[r]? =some o->o.isCells=false)->I df J
def TJ(P:Program)(g:Nat)(lb:Array Value)(I:List (Int × Int))(J:Int × Int->Prop)(T:Nat->Prop)(w:World):Prop:=
 ∀n,1<=n->SeqStopsK Fence.wide n P g lb (λx: {x:Int × Int // J x}=> #[.int .i64 x.1.1,.int .i64 x.1.2]) (Ug T) (λO=>O.map (·.1)=I) (λ_=>True) I.length w
def Ku(as:Code)(f:Fr)(K:Fr->Prop):Prop:=
 match as with
 | .region _ I false=>match I.toList with
   | [o]=>match o.op,o.guard with
     | .assign x,none=>K (f.set o.dst (ev f x))
     |_,_=>False
   |_=>False
 |_=>False
theorem OA{as:Code}{f:Fr}{K:Fr->Prop}(h:Ku as f K):∃d x,∀ (g:Fr),(∀J:Fr->Prop,Ku as g J->J (g.set d (ev g x)))/\∀ (P:Program) (ann:te) (W:World) (Q:MF),Q .normal (g.set d (ev g x)) W->ux P as ann g W Q:=by
 unfold Ku at h;split at h
 .rename_i id V;split at h
  .rename_i o U;split at h
   .rename_i x h1 O;refine⟨o.dst,x,λg=>⟨λJ I=>?_,λP ann W Q X=>?_⟩⟩
    .unfold Ku at I;simp only[U,h1,O]at I;exact I
    .simp only[ux,J6,U,Su,Gx,O,tu,h1];exact X
   .exact h.elim
  .exact h.elim
 .exact h.elim
def Iz(P:Program)(f:Fr)(w:World)(g:Operand)(ps:Array Tmp)(as bd:Code)(ann:te)(next:Nat->World->Prop):Prop:=
 match ps.toList with
 | [p,q]=>match ev f g with
   | .func (.func O) ⟨[]⟩ lb=>f_ P O=true/\Ku as f (λ_=>True)/\∃ (J:List (Int × Int)) (U:Int × Int->Prop) (T:Nat->Prop),TJ P O lb J U T w/\(∀k,T k->k<w.heap.size)/\∃I:List (Int × Int)->World->Prop,I [] w/\VQ w.heap.size I/\
     (∀ (df:List (Int × Int)) (i v:Int) (W:World),df.length<J.length->U (i,v)->I df W->Ku as ((f.set (some p) (.int .i64 i)).set (some q) (.int .i64 v)) λV=>ux P bd ann V W λe _ Q=>match e with
       | .normal=>KB w.heap.size T W Q/\I (df++ [(i,v)]) Q
       |_=>False)/\
     ∀ (d:Nat) (W:World),w.heap.size<=d->W.heap[d]? =some (.deferred (some []))->I J W->next d W
   |_=>False
 |_=>False
def uH:Code->Option (Code × Nat × Operand × Array Tmp × Code × Code × Code)
 | .seq a b=>match a with
   | .block id (.rangeFunc g ps as bd)=>some (.skip,id,g,ps,as,bd,b)
   | .seq a1 (.block id (.rangeFunc g ps as bd))=>some (.seq a1 .skip,id,g,ps,as,bd,b)
   |_=> (uH b).map λx=> (.seq a x.1,x.2)
 |_=>none
def PG(P:Program)(fn:Func)(J O I:te)(args:List Value)(w:World)(K:Value->World->Prop):Prop:=
 match fn.body with
 |none=>False
 |some c=>match uH c with
  |none=>False
  |some (df,_,g,ps,as,bd,post)=>ux P df J (rP args) w λe f w1=>match e with
   | .normal=>Iz P f w1 g ps as bd O λd W=>ux P post I f W λe Q w'=>match e with
     | .normal| .ret=>w'.heap[d]? =some (.deferred (some []))/\∀w2,Go.Fw.aE (·=d) w' w2->Ay P fn.results.toList Q w2 λvs=>K (jn vs) w2
     |_=>False
   |_=>False
def JC(P:Program)(fn:Func)(args:Nat):Bool:=
 match fn.body with
 |none=>false
 |some c=>match uH c with
  |none=>false
  |some (df,_,_,ps,as,bd,post)=>eB P fn.ntmps df && eB P fn.ntmps post && eB P fn.ntmps as && rZ as && eB P fn.ntmps bd && rZ bd && ps.all (λp=>Nat.blt p fn.ntmps) && Nat.ble args fn.ntmps
theorem Hi(hm:P.follows .mixedOrders=true){n:Nat}{Q:Exit->Act->World->Prop}:∀ (c:Code) {df:Code} {r:Nat × Operand × Array Tmp × Code × Code × Code} {ann:te} {f:Fr} {a:Act} {w:World} {Qf:MF},uH c=some (df,r)->eB P n df=true->Ag D n a f->ux P df ann f w Qf->
 (∀V Z w',Ag D n Z V->Qf .normal V w'->(Code.block r.1 (.rangeFunc r.2.1 r.2.2.1 r.2.2.2.1 r.2.2.2.2.1)).wpIn Fence.wide rm P (Exit.then (r.2.2.2.2.2.wpIn Fence.wide rm P Q) Q) Z w')->(∀e V w',e≠ .normal->¬Qf e V w')->c.wpIn Fence.wide rm P Q a w:=by
 intro c
 induction c with
 |seq x y ar aa=>
  intro df r ann f a w Qf hs X ha h hn Y;have go:(uH y).map (λz=> (Code.seq x z.1,z.2))=some (df,r)->(Code.seq x y).wpIn Fence.wide rm P Q a w:=λhs=>by
   cases hy:uH y with
   |none=>rw[hy]at hs;cases hs
   |some z=>
    rw[hy]at hs;simp only[Xw,Wu,YR]at hs;obtain⟨rfl,rfl⟩:=hs;simp only[eB,ts]at X;simp only[ux]at h;refine wpIn_seq ?_;cases I:ann.Mx with
    |none=>
     simp only[I]at h;refine wpIn_mono (wpIn_wide.2 (jq hm x X.1 ha h)) λe Z w' ⟨V,U,hq,hk⟩=>?_;cases e with
     |normal=>exact aa hy X.2 U hq hn Y
     |_=>exact absurd hq (Y _ _ _ (by simp))
    |some as=>
     simp only[I]at h;obtain⟨J,h1,h2⟩:=h;refine wpIn_mono (wpIn_wide.2 (jq hm x X.1 ha h1)) λe Z w' ⟨V,U,hq,hk⟩=>?_;cases e with
     |normal=>
      obtain⟨r',hr,O⟩:=p8 _ hq h2;have:=O w' V hr;rw[nS hk]at this;exact aa hy X.2 U this hn Y
     |_=>exact absurd hq (Y _ _ _ (by simp))
  unfold uH at hs;split at hs
  .simp only[Wu,YR]at hs;obtain⟨rfl,rfl⟩:=hs;simp only[ux]at h;exact wpIn_seq (hn f a w ha h)
  .rename_i a1 id g ps as bd;simp only[Wu,YR]at hs;obtain⟨rfl,rfl⟩:=hs;simp only[eB,ts]at X;simp only[ux]at h;refine wpIn_seq (wpIn_seq ?_);cases I:ann.Mx with
   |none=>
    simp only[I]at h;refine wpIn_mono (wpIn_wide.2 (jq hm a1 X.1 ha h)) λe Z w' ⟨V,U,hq,hk⟩=>?_;cases e with
    |normal=>exact hn _ _ _ U hq
    |_=>exact absurd hq (Y _ _ _ (by simp))
   |some as=>
    simp only[I]at h;obtain⟨J,h1,h2⟩:=h;refine wpIn_mono (wpIn_wide.2 (jq hm a1 X.1 ha h1)) λe Z w' ⟨V,U,hq,hk⟩=>?_;cases e with
    |normal=>
     obtain⟨r',hr,O⟩:=p8 _ hq h2;have:=O w' V hr;rw[nS hk]at this;exact hn _ _ _ U this
    |_=>exact absurd hq (Y _ _ _ (by simp))
  .exact go hs
 |_=>intro df r ann f a w Qf hs;cases hs
theorem Bx{W I:World}{row:Option Nat}(h:W.grownBy I row):Go.Fw.aE (λr=>row=some r) W I:=
 ⟨h.os,h.tape,h.output,h.size,λk J hn=>h.block k J λe=>hn e.symm⟩
theorem DO(hm:P.follows .mixedOrders=true){n:Nat}{Q:Exit->Act->World->Prop}{g:Operand}{ps:Array Tmp}{as bd:Code}{ann:te}{f:Fr}{a:Act}{w:World}{next:Nat->World->Prop}
 (V:∀p∈ps.toList,p<n) (a7:eB P n as=true) (aT:rZ as=true) (a_:eB P n bd=true) (bf:rZ bd=true) (ha:Ag [] n a f) (h:Iz P f w g ps as bd ann next)
 (hq:∀d W,next d W->Q .normal {a with defers:= {target:=.collected d,args:= #[]}::a.defers} W):(Code.rangeFunc g ps as bd).wpIn Fence.wide 7 P Q a w:=by
 unfold Iz at h;split at h
 .rename_i p q bu;split at h
  .rename_i gf lb hg;obtain⟨he,av,xs,Pl,T,an,hT,I,h0,hI,U,O⟩:=h;obtain⟨d,x,aa⟩:=OA av;have ac:ps= #[p,q]:=by rw[<- bu]
   subst ac;have eg:a.eval g=.func (.func gf) #[] lb:=by rw[ha.eval];exact hg
   have a8:∀args w,(callFunc gf args).run P w=.ok (.enter gf args) w:=by
    intro as w;unfold f_ at he;unfold callFunc;simp only[Sem.run_bind,run_program,Result.andThen_ok];split at he
    .rename_i fn bi;simp only[ts,ZH,J5]at he;simp only[bi];have h1:(fn.name== "runtime.NumGoroutine")=false:=by simpa using he.2
     have h2:fn.body.isNone=false:=by cases b':fn.body<;>simp_all
     simp[h1,h2]
    .simp at he
   have own:OwnFrom w.heap.size (λ(s:List {x:Int × Int // Pl x}) W=>I (s.map (·.1)) W):=λs X Y row hs bY ag=>
    hI _ X Y _ hs (Bx bY) λr e=>by
     obtain⟨h1,o,h2,h3⟩:=ag r e;exact⟨h1,λo' Z=>by rw[h2]at Z;cases Z;exact h3⟩
   have bn:∀ (i v:Int),Ag [] n ({tmps:=(#[p,q].zip #[Value.int .i64 i,.int .i64 v]).foldl (λt (p,v)=>t.setIfInBounds p v) a.tmps,defers:= []}:Act) ((f.set (some p) (.int .i64 i)).set (some q) (.int .i64 v)):=λi v=>by
    have e:({tmps:=(#[p,q].zip #[Value.int .i64 i,.int .i64 v]).foldl (λt (p,v)=>t.setIfInBounds p v) a.tmps,defers:= []}:Act)=(({a with defers:= []}:Act).put (some p) (.int .i64 i)).put (some q) (.int .i64 v):=by
     simp[Act.put]
    rw[e];have hb:Ag [] n ({a with defers:= []}:Act) f:=⟨ha.1,rfl,ha.2.2⟩
    exact(hb.put (λj hj=>by cases hj;exact V _ (by simp)) _).put (λj hj=>by cases hj;exact V _ (by simp)) _
   refine wpIn_rangeFunc_ownH (Kp:=Ug T) (S:=λys:List {x:Int × Int // Pl x}=>ys.map (·.1)=xs) (Sp:=λ_=>True) (N:=xs.length) (w0:=w) rfl (by omega) eg trivial a8 (an _ (by omega)) (λh1 h2 k hk=> (h2 k hk).trans (h1 k hk))
    (λW l o o' hl hW _ _ k hk=>World.putObj_heap_other (by have:=hT k hk;omega)) (Go.RowKit.Below.refl _ _) (λx=>rfl) (λs W=>I (s.map (·.1)) W) (λ_ _ _=>False) own (λ_ _ _ _ _ hs _ _=>hs) h0
    (λy a' _=>Ag [] n a' (((f.set (some p) (.int .i64 y.1.1)).set (some q) (.int .i64 y.1.2)).set d (ev ((f.set (some p) (.int .i64 y.1.1)).set (some q) (.int .i64 y.1.2)) x))) (λ_ _ _ _ _ _ h _ _=>h) ?_ ?_ ?_ ?_
   .intro l df y W K hi hK;refine wpIn_mono (Bj hm as a7 aT (bn y.1.1 y.1.2) ((aa _).2 P .af W (λe f' W'=>e=.normal/\W'=W/\f'=_) ⟨rfl,rfl,rfl⟩)) λe a' W' ⟨f',bx,⟨he,hW,hf⟩,_⟩=>?_;subst he hW hf;exact hK a' W' (KeepsFrom.refl _ _) (λ_ _=>rfl) hi bx
   .intro l df y a' W _ _ hi a6 ay;have hb:=(aa _).1 _ (U (df.map (·.1)) y.1.1 y.1.2 W (by simpa using ay) y.2 hi);refine wpIn_mono (Bj hm bd a_ bf a6 hb) λe cb W' ⟨f',_,J,_⟩=>?_;cases e with
    |normal=>exact⟨J.1.f,J.1.t,by show I ((df++ [y]).map (·.1)) W';rw[GD];exact J.2⟩
    |_=>exact J.elim
   .intro dd ys W hD hS hi hK;exact hq _ _ (O dd W hD hK (by rw[<- hS];exact hi))
   .intro dd c df W _ _ h _;exact h.elim
  .exact h.elim
 .exact h.elim
theorem BE(hm:P.follows .mixedOrders=true){f:FuncId}{fn:Func}(hf:P.funcs[f]? =some fn){X U Q:te}{args:List Value}{w:World}{K:Value->World->Prop}
 (I:JC P fn args.length=true) (h:PG P fn X U Q args w K):Calls P f args.toArray w λe w'=>∃v,e=.returned v/\K v w':=by
 unfold PG at h;unfold JC at I;split at h
 .exact h.elim
 .rename_i c hb;rw[hb]at I;split at h
  .exact h.elim
  .rename_i df id g ps as bd post hs;simp only[hs]at I;simp only[ts]at I;obtain⟨⟨⟨⟨⟨⟨⟨h1,h2⟩,h3⟩,h4⟩,h5⟩,h6⟩,h7⟩,Y⟩:=I;have Y:args.length<=fn.ntmps:=by simpa using Y
   have aa:∀p∈ps.toList,p<fn.ntmps:=λp hp=>by
    have:=(Array.all_eq_true_iff_forall_mem.1 h7) p (YH.1 hp);simpa using this
   refine callsIn_wide.1 (callsIn_of_wp_marks (n:=7) hf hb trivial ?_);have ha:Ag [] fn.ntmps {tmps:=args.toArray++Array.replicate (fn.ntmps - args.toArray.size) undef,defers:= []} (rP args):=by
    refine⟨by simp;omega,rfl,λi=>?_⟩;rw[sA];simp only[X',vx];by_cases hi:i<args.length
    .rw [Xc (by simpa using hi)];simp
    .rw [Ya (by simpa using hi)];rw[W6 (by omega)];rw[Yo];split<;>rfl
   refine Hi hm c hs h1 ha h (λf' a' w' J hq=>?_) λe f' w' he hq=>by cases e<;>first|exact he rfl|exact hq
   simp only at hq;refine wpIn_block (DO hm aa h3 h4 h5 h6 J hq λd W hn=>?_);show Code.wpIn _ _ _ _ _ _ _;have ac:Ag [{target:=.collected d,args:= #[]}] fn.ntmps ({a' with defers:= {target:=.collected d,args:= #[]}::a'.defers}:Act) f':=⟨J.1,by rw[J.2.1],J.2.2⟩
   refine wpIn_mono (wpIn_wide.2 (jq hm post h2 ac hn)) λe a2 w2 ⟨f2,Z,O,_⟩=>?_;have eh:(w2.heap[d]? =some (.deferred (some []))/\∀w3,Go.Fw.aE (·=d) w2 w3->Ay P fn.results.toList f2 w3 λvs=>K (jn vs) w3)->LeavesInM Fence.wide 7 P fn a2.tmps (λe w'=>∃v,e=.returned v/\K v w') a2.defers .returning w2:=by
    rintro⟨hd,hr⟩;rw[Z.2.1];refine⟨by simp,.inl ⟨_,_,rfl,run_takeDeferred hd,?_⟩⟩;have av:d<w2.heap.size:=(Xb.1 hd).1;have V:Go.Fw.aE (·=d) w2 (w2.putObj d (.deferred none)):=⟨rfl,rfl,rfl,by simp[World.putObj],λk hk hn=>World.putObj_heap_other (λe=>hn e)⟩
    obtain⟨vs,hv,hk⟩:=nN Z (hr _ V);refine⟨jn vs,?_,_,rfl,hk⟩;unfold results;rw[XU];simp only[Sem.run_bind,Sem.run_map];refine(congrArg (λr=>Result.andThen (Result.andThen r _) _) hv).trans ?_;simp only[Result.andThen_ok,Sem.run_pure]
    match vs with
    | []=>simp[jn]
    | [v]=>simp[jn]
    |u::v::l=>simp[jn]
   cases e with
   |normal=>exact eh O
   |ret=>exact eh O
   |_=>exact O.elim
theorem J4(hm:P.follows .mixedOrders=true){f:FuncId}{fn:Func}(hf:P.funcs[f]? =some fn){J O I:te}{args:List Value}{n:Nat}(Q:JC P fn n=true)(hn:args.length=n)
 {w:World} {F:(Value->World->Prop)->Prop} (he:∀K,PG P fn J O I args w K=F K) {R:Ending->World->Prop} (h:F λv w'=>R (.returned v) w'):Calls P f args.toArray w R:=by
 subst hn;refine(BE hm hf Q (Eq.mpr (he _) h)).mono ?_;rintro e w'⟨v,rfl,U⟩;exact U
