/- A range over a function, once in the text of a function. -/
import Derived.Test.YtbdghpjnifjlmaaGreatFwRange
import Derived.Test.YtbdghpjnifjlmaaGreatFwMem
namespace Go.Fw
open Go
variable {P:Program} {D:List Deferred} {rm:Nat}
def Sm (T:Nat->Prop) (W I:World):Prop:=∀k,T k->I.heap[k]? =W.heap[k]?
structure KB (B:Nat) (T:Nat->Prop) (W W':World):Prop where
 f:KeepsFrom B W W'
 t:Sm T W W'
def Uu (B:Nat) (I:List (Int × Int)->World->Prop):Prop:=
 ∀dA (W J:World) (S:Nat->Prop),I dA W->Go.Fw.aD S W J->(∀r,S r->B<=r/\∀o,W.heap[r]? =some o->o.isCells=false)->I dA J
def Rx (P:Program) (g:Nat) (lb:Array Value) (I:List (Int × Int)) (O:Int × Int->Prop) (T:Nat->Prop) (w:World):Prop:=
 ∀n,1<=n->SeqStopsK Fence.wide n P g lb (λx: {x:Int × Int // O x}=> #[.int .i64 x.1.1,.int .i64 x.1.2]) (Sm T) (λJ=>J.map (·.1)=I) (λ_=>True) I.length w
def J2 (as:Code) (f:Fr) (K:Fr->Prop):Prop:=
 match as with
 | .region _ I false=>match I.toList with
   | [o]=>match o.op,o.guard with
     | .assign x,none=>K (f.set o.dst (ev f x))
     |_,_=>False
   |_=>False
 |_=>False
theorem LW {as:Code} {f:Fr} {K:Fr->Prop} (h:J2 as f K):∃d x,∀ (g:Fr),(∀I:Fr->Prop,J2 as g I->I (g.set d (ev g x)))/\∀ (P:Program) (ann:sM) (W:World) (Q:Np),Q .normal (g.set d (ev g x)) W->uf P as ann g W Q:=by
 unfold J2 at h;split at h
 . rename_i id X;split at h
   . rename_i o U;split at h
     . rename_i x h1 O;refine ⟨o.dst,x,λg=>⟨λI J=>?_,λP ann W Q V=>?_⟩⟩
       . unfold J2 at J;simp only [U,h1,O] at J;exact J
       . simp only [uf,cond_false,U,Qz,DS,O,sP,h1];exact V
     . exact h.elim
   . exact h.elim
 . exact h.elim
def FM (P:Program) (f:Fr) (w:World) (g:Operand) (ps:Array Tmp) (as bd:Code) (ann:sM) (next:Nat->World->Prop):Prop:=
 match ps.toList with
 | [p,q]=>match ev f g with
   | .func (.func O) ⟨[]⟩ lb=>gH P O=true/\J2 as f (λ_=>True)/\∃ (J:List (Int × Int)) (Q:Int × Int->Prop) (T:Nat->Prop),Rx P O lb J Q T w/\(∀k,T k->k<w.heap.size)/\∃I:List (Int × Int)->World->Prop,I [] w/\Uu w.heap.size I/\
     (∀ (dA:List (Int × Int)) (i v:Int) (W:World),dA.length<J.length->Q (i,v)->I dA W->J2 as ((f.set (some p) (.int .i64 i)).set (some q) (.int .i64 v)) λV=>uf P bd ann V W λe _ U=>match e with
       | .normal=>KB w.heap.size T W U/\I (dA++ [(i,v)]) U
       |_=>False)/\
     ∀ (d:Nat) (W:World),w.heap.size<=d->W.heap[d]? =some (.deferred (some []))->I J W->next d W
   |_=>False
 |_=>False
def uj:Code->Option (Code × Nat × Operand × Array Tmp × Code × Code × Code)
 | .seq a b=>match a with
   | .block id (.rangeFunc g ps as bd)=>some (.skip,id,g,ps,as,bd,b)
   | .seq a1 (.block id (.rangeFunc g ps as bd))=>some (.seq a1 .skip,id,g,ps,as,bd,b)
   |_=> (uj b).map λx=> (.seq a x.1,x.2)
 |_=>none
def Pr (P:Program) (fn:Func) (O I J:sM) (args:List Value) (w:World) (K:Value->World->Prop):Prop:=
 match fn.body with
 |none=>False
 |some c=>match uj c with
  |none=>False
  |some (dA,_,g,ps,as,bd,post)=>uf P dA O (ry args) w λe f w1=>match e with
   | .normal=>FM P f w1 g ps as bd I λd W=>uf P post J f W λe Q w'=>match e with
     | .normal| .ret=>w'.heap[d]? =some (.deferred (some []))/\∀w2,Go.Fw.aD (·=d) w' w2->zA P fn.results.toList Q w2 λvs=>K (jt vs) w2
     |_=>False
   |_=>False
def HX (P:Program) (fn:Func) (args:Nat):Bool:=
 match fn.body with
 |none=>false
 |some c=>match uj c with
  |none=>false
  |some (dA,_,_,ps,as,bd,post)=>ee P fn.ntmps dA && ee P fn.ntmps post && ee P fn.ntmps as && rY as && ee P fn.ntmps bd && rY bd && ps.all (λp=>Nat.blt p fn.ntmps) && Nat.ble args fn.ntmps
theorem GQ (hm:P.follows .mixedOrders=true) {n:Nat} {Q:Exit->Act->World->Prop}:∀ (c:Code) {dA:Code} {r:Nat × Operand × Array Tmp × Code × Code × Code} {ann:sM} {f:Fr} {a:Act} {w:World} {Qf:Np},uj c=some (dA,r)->ee P n dA=true->Ag D n a f->uf P dA ann f w Qf->
 (∀V Y w',Ag D n Y V->Qf .normal V w'->(Code.block r.1 (.rangeFunc r.2.1 r.2.2.1 r.2.2.2.1 r.2.2.2.2.1)).wpIn Fence.wide rm P (Exit.then (r.2.2.2.2.2.wpIn Fence.wide rm P Q) Q) Y w')->(∀e V w',e≠ .normal->¬Qf e V w')->c.wpIn Fence.wide rm P Q a w:=by
 intro c
 induction c with
 |seq x y ar aa=>
  intro dA r ann f a w Qf hs X ha h hn Z;have go:(uj y).map (λz=> (Code.seq x z.1,z.2))=some (dA,r)->(Code.seq x y).wpIn Fence.wide rm P Q a w:=λhs=>by
   cases hy:uj y with
   |none=>rw [hy] at hs;cases hs
   |some z=>
    rw [hy] at hs;simp only [Wj,U4,XM] at hs;obtain ⟨rfl,rfl⟩:=hs;simp only [ee,ts] at X;simp only [uf] at h;refine wpIn_seq ?_;cases I:ann.Lv with
    |none=>
     simp only [I] at h;refine wpIn_mono (wpIn_wide.2 (jJ hm x X.1 ha h)) λe Y w' ⟨V,U,hq,hk⟩=>?_;cases e with
     |normal=>exact aa hy X.2 U hq hn Z
     |_=>exact absurd hq (Z _ _ _ (by simp))
    |some as=>
     simp only [I] at h;obtain ⟨J,h1,h2⟩:=h;refine wpIn_mono (wpIn_wide.2 (jJ hm x X.1 ha h1)) λe Y w' ⟨V,U,hq,hk⟩=>?_;cases e with
     |normal=>
      obtain ⟨r',hr,O⟩:=qy _ hq h2;have:=O w' V hr;rw [nJ hk] at this;exact aa hy X.2 U this hn Z
     |_=>exact absurd hq (Z _ _ _ (by simp))
  unfold uj at hs;split at hs
  . simp only [U4,XM] at hs;obtain ⟨rfl,rfl⟩:=hs;simp only [uf] at h;exact wpIn_seq (hn f a w ha h)
  . rename_i a1 id g ps as bd;simp only [U4,XM] at hs;obtain ⟨rfl,rfl⟩:=hs;simp only [ee,ts] at X;simp only [uf] at h;refine wpIn_seq (wpIn_seq ?_);cases I:ann.Lv with
    |none=>
     simp only [I] at h;refine wpIn_mono (wpIn_wide.2 (jJ hm a1 X.1 ha h)) λe Y w' ⟨V,U,hq,hk⟩=>?_;cases e with
     |normal=>exact hn _ _ _ U hq
     |_=>exact absurd hq (Z _ _ _ (by simp))
    |some as=>
     simp only [I] at h;obtain ⟨J,h1,h2⟩:=h;refine wpIn_mono (wpIn_wide.2 (jJ hm a1 X.1 ha h1)) λe Y w' ⟨V,U,hq,hk⟩=>?_;cases e with
     |normal=>
      obtain ⟨r',hr,O⟩:=qy _ hq h2;have:=O w' V hr;rw [nJ hk] at this;exact hn _ _ _ U this
     |_=>exact absurd hq (Z _ _ _ (by simp))
  . exact go hs
 |_=>intro dA r ann f a w Qf hs;cases hs
theorem Ab {W I:World} {row:Option Nat} (h:W.grownBy I row):Go.Fw.aD (λr=>row=some r) W I:=
 ⟨h.os,h.tape,h.output,h.size,λk J hn=>h.block k J λe=>hn e.symm⟩
theorem C5 (hm:P.follows .mixedOrders=true) {n:Nat} {Q:Exit->Act->World->Prop} {g:Operand} {ps:Array Tmp} {as bd:Code} {ann:sM} {f:Fr} {a:Act} {w:World} {next:Nat->World->Prop}
 (Z:∀p∈ps.toList,p<n) (a8:ee P n as=true) (ay:rY as=true) (bu:ee P n bd=true) (bi:rY bd=true) (ha:Ag [] n a f) (h:FM P f w g ps as bd ann next)
 (hq:∀d W,next d W->Q .normal {a with defers:= {target:=.collected d,args:= #[]}::a.defers} W):(Code.rangeFunc g ps as bd).wpIn Fence.wide 7 P Q a w:=by
 unfold FM at h;split at h
 . rename_i p q a6;split at h
   . rename_i gf lb hg;obtain ⟨he,ap,xs,Pl,T,an,hT,I,h0,hI,U,O⟩:=h;obtain ⟨d,x,av⟩:=LW ap;have ar:ps= #[p,q]:=by rw [<- a6]
     subst ar;have eg:a.eval g=.func (.func gf) #[] lb:=by rw [ha.eval];exact hg
     have az:∀args w,(callFunc gf args).run P w=.ok (.enter gf args) w:=by
      intro as w;unfold gH at he;unfold callFunc;simp only [Sem.run_bind,run_program,Result.andThen_ok];split at he
      . rename_i fn bf;simp only [ts,bne_iff_ne,ne_eq] at he;simp only [bf];have h1:(fn.name== "runtime.NumGoroutine")=false:=by simpa using he.2
        have h2:fn.body.isNone=false:=by cases b8:fn.body<;>simp_all
        simp [h1,h2]
      . simp at he
     have own:OwnFrom w.heap.size (λ(s:List {x:Int × Int // Pl x}) W=>I (s.map (·.1)) W):=λs X Y row hs bb ac=>
      hI _ X Y _ hs (Ab bb) λr e=>by
       obtain ⟨h1,o,h2,h3⟩:=ac r e;exact ⟨h1,λo' V=>by rw [h2] at V;cases V;exact h3⟩
     have bn:∀ (i v:Int),Ag [] n ({tmps:=(#[p,q].zip #[Value.int .i64 i,.int .i64 v]).foldl (λt (p,v)=>t.setIfInBounds p v) a.tmps,defers:= []}:Act) ((f.set (some p) (.int .i64 i)).set (some q) (.int .i64 v)):=λi v=>by
      have e:({tmps:=(#[p,q].zip #[Value.int .i64 i,.int .i64 v]).foldl (λt (p,v)=>t.setIfInBounds p v) a.tmps,defers:= []}:Act)=(({a with defers:= []}:Act).put (some p) (.int .i64 i)).put (some q) (.int .i64 v):=by
       simp [Act.put]
      rw [e];have hb:Ag [] n ({a with defers:= []}:Act) f:=⟨ha.1,rfl,ha.2.2⟩
      exact (hb.put (λj hj=>by cases hj;exact Z _ (by simp)) _).put (λj hj=>by cases hj;exact Z _ (by simp)) _
     refine wpIn_rangeFunc_ownH (Kp:=Sm T) (S:=λys:List {x:Int × Int // Pl x}=>ys.map (·.1)=xs) (Sp:=λ_=>True) (N:=xs.length) (w0:=w) rfl (by omega) eg trivial az (an _ (by omega)) (λh1 h2 k hk=> (h2 k hk).trans (h1 k hk))
      (λW l o o' hl hW _ _ k hk=>World.putObj_heap_other (by have:=hT k hk;omega)) (Go.RowKit.Below.refl _ _) (λx=>rfl) (λs W=>I (s.map (·.1)) W) (λ_ _ _=>False) own (λ_ _ _ _ _ hs _ _=>hs) h0
      (λy a' _=>Ag [] n a' (((f.set (some p) (.int .i64 y.1.1)).set (some q) (.int .i64 y.1.2)).set d (ev ((f.set (some p) (.int .i64 y.1.1)).set (some q) (.int .i64 y.1.2)) x))) (λ_ _ _ _ _ _ h _ _=>h) ?_ ?_ ?_ ?_
     . intro l dA y W K hi hK;refine wpIn_mono (zh hm as a8 ay (bn y.1.1 y.1.2) ((av _).2 P .af W (λe f' W'=>e=.normal/\W'=W/\f'=_) ⟨rfl,rfl,rfl⟩)) λe a' W' ⟨f',bv,⟨he,hW,hf⟩,_⟩=>?_;subst he hW hf;exact hK a' W' (KeepsFrom.refl _ _) (λ_ _=>rfl) hi bv
     . intro l dA y a' W _ _ hi a7 a_;have hb:=(av _).1 _ (U (dA.map (·.1)) y.1.1 y.1.2 W (by simpa using a_) y.2 hi);refine wpIn_mono (zh hm bd bu bi a7 hb) λe cb W' ⟨f',_,J,_⟩=>?_;cases e with
       |normal=>exact ⟨J.1.f,J.1.t,by show I ((dA++ [y]).map (·.1)) W';rw [LV];exact J.2⟩
       |_=>exact J.elim
     . intro dd ys W hD hS hi hK;exact hq _ _ (O dd W hD hK (by rw [<- hS];exact hi))
     . intro dd c dA W _ _ h _;exact h.elim
   . exact h.elim
 . exact h.elim
theorem AT (hm:P.follows .mixedOrders=true) {f:FuncId} {fn:Func} (hf:P.funcs[f]? =some fn) {X Y U:sM} {args:List Value} {w:World} {K:Value->World->Prop}
 (I:HX P fn args.length=true) (h:Pr P fn X Y U args w K):Calls P f args.toArray w λe w'=>∃v,e=.returned v/\K v w':=by
 unfold Pr at h;unfold HX at I;split at h
 . exact h.elim
 . rename_i c hb;rw [hb] at I;split at h
   . exact h.elim
   . rename_i dA id g ps as bd post hs;simp only [hs] at I;simp only [ts] at I;obtain ⟨⟨⟨⟨⟨⟨⟨h1,h2⟩,h3⟩,h4⟩,h5⟩,h6⟩,h7⟩,Q⟩:=I;have Q:args.length<=fn.ntmps:=by simpa using Q
     have aa:∀p∈ps.toList,p<fn.ntmps:=λp hp=>by
      have:=(Array.all_eq_true_iff_forall_mem.1 h7) p (Xg.1 hp);simpa using this
     refine callsIn_wide.1 (callsIn_of_wp_marks (n:=7) hf hb trivial ?_);have ha:Ag [] fn.ntmps {tmps:=args.toArray++Array.replicate (fn.ntmps - args.toArray.size) undef,defers:= []} (ry args):=by
      refine ⟨by simp;omega,rfl,λi=>?_⟩;rw [sq];simp only [WI,y6];by_cases hi:i<args.length
      . rw [VB (by simpa using hi)];simp
      . rw [WJ (by simpa using hi)];rw [Vz (by omega)];rw [WY];split<;>rfl
     refine GQ hm c hs h1 ha h (λf' a' w' J hq=>?_) λe f' w' he hq=>by cases e<;>first|exact he rfl|exact hq
     simp only at hq;refine wpIn_block (C5 hm aa h3 h4 h5 h6 J hq λd W hn=>?_);show Code.wpIn _ _ _ _ _ _ _;have ac:Ag [{target:=.collected d,args:= #[]}] fn.ntmps ({a' with defers:= {target:=.collected d,args:= #[]}::a'.defers}:Act) f':=⟨J.1,by rw [J.2.1],J.2.2⟩
     refine wpIn_mono (wpIn_wide.2 (jJ hm post h2 ac hn)) λe a2 w2 ⟨f2,Z,O,_⟩=>?_;have dG:(w2.heap[d]? =some (.deferred (some []))/\∀w3,Go.Fw.aD (·=d) w2 w3->zA P fn.results.toList f2 w3 λvs=>K (jt vs) w3)->LeavesInM Fence.wide 7 P fn a2.tmps (λe w'=>∃v,e=.returned v/\K v w') a2.defers .returning w2:=by
      rintro ⟨hd,hr⟩;rw [Z.2.1];refine ⟨by simp,.inl ⟨_,_,rfl,run_takeDeferred hd,?_⟩⟩;have az:d<w2.heap.size:=(VA.1 hd).1;have V:Go.Fw.aD (·=d) w2 (w2.putObj d (.deferred none)):=⟨rfl,rfl,rfl,by simp [World.putObj],λk hk hn=>World.putObj_heap_other (λe=>hn e)⟩
      obtain ⟨vs,hv,hk⟩:=nQ Z (hr _ V);refine ⟨jt vs,?_,_,rfl,hk⟩;unfold results;rw [Wp];simp only [Sem.run_bind,Sem.run_map];refine (congrArg (λr=>Result.andThen (Result.andThen r _) _) hv).trans ?_;simp only [Result.andThen_ok,Sem.run_pure]
      match vs with
      | []=>simp [jt]
      | [v]=>simp [jt]
      |u::v::l=>simp [jt]
     cases e with
     |normal=>exact dG O
     |ret=>exact dG O
     |_=>exact O.elim
theorem JM (hm:P.follows .mixedOrders=true) {f:FuncId} {fn:Func} (hf:P.funcs[f]? =some fn) {O I J:sM} {args:List Value} {n:Nat} (Q:HX P fn n=true) (hn:args.length=n)
 {w:World} {F:(Value->World->Prop)->Prop} (he:∀K,Pr P fn O I J args w K=F K) {R:Ending->World->Prop} (h:F λv w'=>R (.returned v) w'):Calls P f args.toArray w R:=by
 subst hn;refine (AT hm hf Q (Eq.mpr (he _) h)).mono ?_;rintro e w' ⟨v,rfl,U⟩;exact U
end Go.Fw
