/- A range over a function, once in the text of a function. -/
import Derived.Test.YtenmibfmhccmiaaGreatFwRange
import Derived.Test.YtenmibfmhccmiaaGreatFwMem
namespace Go.Fw
open Go
variable {P:Program} {D:List Deferred} {rm:Nat}
def Nq (T:Nat->Prop) (W I:World):Prop:= ∀k,T k->I.heap[k]? =W.heap[k]?
structure KB (B:Nat) (T:Nat->Prop) (W W':World):Prop where
 f:KeepsFrom B W W'
 t:Nq T W W'
def OC (B:Nat) (I:List (Int × Int)->World->Prop):Prop:=
 ∀cM (W J:World) (S:Nat->Prop),I cM W->Go.Fw.aF S W J->(∀r,S r->B<=r/\∀o,W.heap[r]? =some o->o.isCells=false)->I cM J
def KV (P:Program) (g:Nat) (lb:Array Value) (I:List (Int × Int)) (J:Int × Int->Prop) (T:Nat->Prop) (w:World):Prop:=
 ∀n,1<=n->SeqStopsK Fence.wide n P g lb (fun x: {x:Int × Int // J x}=> #[.int .i64 x.1.1,.int .i64 x.1.2]) (Nq T) (fun O=>O.map (·.1)=I) (fun _=>True) I.length w
def Fm (as:Code) (f:Fr) (K:Fr->Prop):Prop:=
 match as with
 | .region _ I false=>match I.toList with
   | [o]=>match o.op,o.guard with
     | .assign x,none=>K (f.set o.dst (ev f x))
     |_,_=>False
   |_=>False
 |_=>False
theorem Ii {as:Code} {f:Fr} {K:Fr->Prop} (h:Fm as f K): ∃d x,∀ (g:Fr),(∀J:Fr->Prop,Fm as g J->J (g.set d (ev g x)))/\∀ (P:Program) (ann:qf) (W:World) (Q:H8),Q .normal (g.set d (ev g x)) W->qN P as ann g W Q:=by
 unfold Fm at h;split at h
 . rename_i id X;split at h
   . rename_i o O;split at h
     . rename_i x h1 U;refine ⟨o.dst,x,fun g=> ⟨fun J I=> ?_,fun P ann W Q V=> ?_⟩⟩
       . unfold Fm at I;simp only [O,h1,U] at I;exact I
       . simp only [qN,cond_false,O,L9,AZ,U,pP,h1];exact V
     . exact h.elim
   . exact h.elim
 . exact h.elim
def Dh (P:Program) (f:Fr) (w:World) (g:Operand) (ps:Array Tmp) (as bd:Code) (ann:qf) (next:Nat->World->Prop):Prop:=
 match ps.toList with
 | [p,q]=>match ev f g with
   | .func (.func O) ⟨[]⟩ lb=>fX P O=true/\Fm as f (fun _=>True)/\∃ (J:List (Int × Int)) (U:Int × Int->Prop) (T:Nat->Prop),KV P O lb J U T w/\(∀k,T k->k<w.heap.size)/\∃I:List (Int × Int)->World->Prop,I [] w/\OC w.heap.size I/\
     (∀ (cM:List (Int × Int)) (i v:Int) (W:World),cM.length<J.length->U (i,v)->I cM W->Fm as ((f.set (some p) (.int .i64 i)).set (some q) (.int .i64 v)) fun V=>qN P bd ann V W fun e _ Q=>match e with
       | .normal=>KB w.heap.size T W Q/\I (cM++ [(i,v)]) Q
       |_=>False)/\
     ∀ (d:Nat) (W:World),w.heap.size<=d->W.heap[d]? =some (.deferred (some []))->I J W->next d W
   |_=>False
 |_=>False
def qJ:Code->Option (Code × Nat × Operand × Array Tmp × Code × Code × Code)
 | .seq a b=>match a with
   | .block id (.rangeFunc g ps as bd)=>some (.skip,id,g,ps,as,bd,b)
   | .seq a1 (.block id (.rangeFunc g ps as bd))=>some (.seq a1 .skip,id,g,ps,as,bd,b)
   |_=> (qJ b).map fun x=> (.seq a x.1,x.2)
 |_=>none
def Ja (P:Program) (fn:Func) (O I J:qf) (args:List Value) (w:World) (K:Value->World->Prop):Prop:=
 match fn.body with
 |none=>False
 |some c=>match qJ c with
  |none=>False
  |some (cM,_,g,ps,as,bd,post)=>qN P cM O (oK args) w fun e f w1=>match e with
   | .normal=>Dh P f w1 g ps as bd I fun d W=>qN P post J f W fun e Q w'=>match e with
     | .normal| .ret=>w'.heap[d]? =some (.deferred (some []))/\∀w2,Go.Fw.aF (·=d) w' w2->ux P fn.results.toList Q w2 fun vs=>K (ii vs) w2
     |_=>False
   |_=>False
def DF (P:Program) (fn:Func) (args:Nat):Bool:=
 match fn.body with
 |none=>false
 |some c=>match qJ c with
  |none=>false
  |some (cM,_,_,ps,as,bd,post)=>dg P fn.ntmps cM && dg P fn.ntmps post && dg P fn.ntmps as && pF as && dg P fn.ntmps bd && pF bd && ps.all (fun p=>Nat.blt p fn.ntmps) && Nat.ble args fn.ntmps
theorem Cp (hm:P.follows .mixedOrders=true) {n:Nat} {Q:Exit->Act->World->Prop}: ∀ (c:Code) {cM:Code} {r:Nat × Operand × Array Tmp × Code × Code × Code} {ann:qf} {f:Fr} {a:Act} {w:World} {Qf:H8},qJ c=some (cM,r)->dg P n cM=true->Ag D n a f->qN P cM ann f w Qf->
 (∀V Y w',Ag D n Y V->Qf .normal V w'->(Code.block r.1 (.rangeFunc r.2.1 r.2.2.1 r.2.2.2.1 r.2.2.2.2.1)).wpIn Fence.wide rm P (Exit.then (r.2.2.2.2.2.wpIn Fence.wide rm P Q) Q) Y w')->(∀e V w',e≠ .normal->¬Qf e V w')->c.wpIn Fence.wide rm P Q a w:=by
 intro c
 induction c with
 |seq x y ar ac=>
  intro cM r ann f a w Qf hs X ha h hn Z;have go:(qJ y).map (fun z=> (Code.seq x z.1,z.2))=some (cM,r)->(Code.seq x y).wpIn Fence.wide rm P Q a w:=fun hs=>by
   cases hy:qJ y with
   |none=>rw [hy] at hs;cases hs
   |some z=>
    rw [hy] at hs;simp only [Option.map_some,Option.some.injEq,Prod.mk.injEq] at hs;obtain ⟨rfl,rfl⟩:=hs;simp only [dg,Bool.and_eq_true] at X;simp only [qN] at h;refine wpIn_seq ?_;cases I:ann.Ha with
    |none=>
     simp only [I] at h;refine wpIn_mono (wpIn_wide.2 (it hm x X.1 ha h)) fun e Y w' ⟨V,O,hq,hk⟩=> ?_;cases e with
     |normal=>exact ac hy X.2 O hq hn Z
     |_=>exact absurd hq (Z _ _ _ (by simp))
    |some as=>
     simp only [I] at h;obtain ⟨J,h1,h2⟩:=h;refine wpIn_mono (wpIn_wide.2 (it hm x X.1 ha h1)) fun e Y w' ⟨V,O,hq,hk⟩=> ?_;cases e with
     |normal=>
      obtain ⟨r',hr,U⟩:=nh _ hq h2;have:=U w' V hr;rw [kQ hk] at this;exact ac hy X.2 O this hn Z
     |_=>exact absurd hq (Z _ _ _ (by simp))
  unfold qJ at hs;split at hs
  . simp only [Option.some.injEq,Prod.mk.injEq] at hs;obtain ⟨rfl,rfl⟩:=hs;simp only [qN] at h;exact wpIn_seq (hn f a w ha h)
  . rename_i a1 id g ps as bd;simp only [Option.some.injEq,Prod.mk.injEq] at hs;obtain ⟨rfl,rfl⟩:=hs;simp only [dg,Bool.and_eq_true] at X;simp only [qN] at h;refine wpIn_seq (wpIn_seq ?_);cases I:ann.Ha with
    |none=>
     simp only [I] at h;refine wpIn_mono (wpIn_wide.2 (it hm a1 X.1 ha h)) fun e Y w' ⟨V,O,hq,hk⟩=> ?_;cases e with
     |normal=>exact hn _ _ _ O hq
     |_=>exact absurd hq (Z _ _ _ (by simp))
    |some as=>
     simp only [I] at h;obtain ⟨J,h1,h2⟩:=h;refine wpIn_mono (wpIn_wide.2 (it hm a1 X.1 ha h1)) fun e Y w' ⟨V,O,hq,hk⟩=> ?_;cases e with
     |normal=>
      obtain ⟨r',hr,U⟩:=nh _ hq h2;have:=U w' V hr;rw [kQ hk] at this;exact hn _ _ _ O this
     |_=>exact absurd hq (Z _ _ _ (by simp))
  . exact go hs
 |_=>intro cM r ann f a w Qf hs;cases hs
theorem ut {W I:World} {row:Option Nat} (h:W.grownBy I row):Go.Fw.aF (fun r=>row=some r) W I:=
 ⟨h.os,h.tape,h.output,h.size,fun k J hn=>h.block k J fun e=>hn e.symm⟩
theorem zT (hm:P.follows .mixedOrders=true) {n:Nat} {Q:Exit->Act->World->Prop} {g:Operand} {ps:Array Tmp} {as bd:Code} {ann:qf} {f:Fr} {a:Act} {w:World} {next:Nat->World->Prop}
 (Z: ∀p∈ps.toList,p<n) (ax:dg P n as=true) (bu:pF as=true) (aT:dg P n bd=true) (a8:pF bd=true) (ha:Ag [] n a f) (h:Dh P f w g ps as bd ann next)
 (hq: ∀d W,next d W->Q .normal {a with defers:= {target:= .collected d,args:= #[]}::a.defers} W):(Code.rangeFunc g ps as bd).wpIn Fence.wide 7 P Q a w:=by
 unfold Dh at h;split at h
 . rename_i p q bc;split at h
   . rename_i gf lb hg;obtain ⟨he,ac,xs,Pl,T,ag,hT,I,h0,hI,O,U⟩:=h;obtain ⟨d,x,ap⟩:=Ii ac;have an:ps= #[p,q]:=by rw [<- bc]
     subst an;have eg:a.eval g= .func (.func gf) #[] lb:=by rw [ha.eval];exact hg
     have bb: ∀args w,(callFunc gf args).run P w= .ok (.enter gf args) w:=by
      intro as w;unfold fX at he;unfold callFunc;simp only [Sem.run_bind,run_program,Result.andThen_ok];split at he
      . rename_i fn bx;simp only [Bool.and_eq_true,bne_iff_ne,ne_eq] at he;simp only [bx];have h1:(fn.name== "runtime.NumGoroutine")=false:=by simpa using he.2
        have h2:fn.body.isNone=false:=by cases cc:fn.body<;>simp_all
        simp [h1,h2]
      . simp at he
     have own:OwnFrom w.heap.size (fun (s:List {x:Int × Int // Pl x}) W=>I (s.map (·.1)) W):=fun s X Y row hs a7 ad=>
      hI _ X Y _ hs (ut a7) fun r e=>by
       obtain ⟨h1,o,h2,h3⟩:=ad r e;exact ⟨h1,fun o' aa=>by rw [h2] at aa;cases aa;exact h3⟩
     have ay: ∀ (i v:Int),Ag [] n ({tmps:=(#[p,q].zip #[Value.int .i64 i,.int .i64 v]).foldl (fun t (p,v)=>t.setIfInBounds p v) a.tmps,defers:= []}:Act) ((f.set (some p) (.int .i64 i)).set (some q) (.int .i64 v)):=fun i v=>by
      have e:({tmps:=(#[p,q].zip #[Value.int .i64 i,.int .i64 v]).foldl (fun t (p,v)=>t.setIfInBounds p v) a.tmps,defers:= []}:Act)=(({a with defers:= []}:Act).put (some p) (.int .i64 i)).put (some q) (.int .i64 v):=by
       simp [Act.put]
      rw [e];have hb:Ag [] n ({a with defers:= []}:Act) f:=⟨ha.1,rfl,ha.2.2⟩
      exact (hb.put (fun j hj=>by cases hj;exact Z _ (by simp)) _).put (fun j hj=>by cases hj;exact Z _ (by simp)) _
     refine wpIn_rangeFunc_ownH (Kp:=Nq T) (S:=fun ys:List {x:Int × Int // Pl x}=>ys.map (·.1)=xs) (Sp:=fun _=>True) (N:=xs.length) (w0:=w) rfl (by omega) eg trivial bb (ag _ (by omega)) (fun h1 h2 k hk=> (h2 k hk).trans (h1 k hk))
      (fun W l o o' hl hW _ _ k hk=>World.putObj_heap_other (by have:=hT k hk;omega)) (Go.RowKit.Below.refl _ _) (fun x=>rfl) (fun s W=>I (s.map (·.1)) W) (fun _ _ _=>False) own (fun _ _ _ _ _ hs _ _=>hs) h0
      (fun y a' _=>Ag [] n a' (((f.set (some p) (.int .i64 y.1.1)).set (some q) (.int .i64 y.1.2)).set d (ev ((f.set (some p) (.int .i64 y.1.1)).set (some q) (.int .i64 y.1.2)) x))) (fun _ _ _ _ _ _ h _ _=>h) ?_ ?_ ?_ ?_
     . intro l cM y W K hi hK;refine wpIn_mono (wk hm as ax bu (ay y.1.1 y.1.2) ((ap _).2 P .af W (fun e f' V=>e= .normal/\V=W/\f'=_) ⟨rfl,rfl,rfl⟩)) fun e a' V ⟨f',bv,⟨he,hW,hf⟩,_⟩=> ?_;subst he hW hf;exact hK a' V (KeepsFrom.refl _ _) (fun _ _=>rfl) hi bv
     . intro l cM y a' W _ _ hi bk b3;have hb:=(ap _).1 _ (O (cM.map (·.1)) y.1.1 y.1.2 W (by simpa using b3) y.2 hi);refine wpIn_mono (wk hm bd aT a8 bk hb) fun e c0 V ⟨f',_,J,_⟩=> ?_;cases e with
       |normal=>exact ⟨J.1.f,J.1.t,by show I ((cM++ [y]).map (·.1)) V;rw [List.map_append];exact J.2⟩
       |_=>exact J.elim
     . intro dd ys W hD hS hi hK;exact hq _ _ (U dd W hD hK (by rw [<- hS];exact hi))
     . intro dd c cM W _ _ h _;exact h.elim
   . exact h.elim
 . exact h.elim
theorem wY (hm:P.follows .mixedOrders=true) {f:FuncId} {fn:Func} (hf:P.funcs[f]? =some fn) {Y Q X:qf} {args:List Value} {w:World} {K:Value->World->Prop}
 (I:DF P fn args.length=true) (h:Ja P fn Y Q X args w K):Calls P f args.toArray w fun e w'=> ∃v,e= .returned v/\K v w':=by
 unfold Ja at h;unfold DF at I;split at h
 . exact h.elim
 . rename_i c hb;rw [hb] at I;split at h
   . exact h.elim
   . rename_i cM id g ps as bd post hs;simp only [hs] at I;simp only [Bool.and_eq_true] at I;obtain ⟨⟨⟨⟨⟨⟨⟨h1,h2⟩,h3⟩,h4⟩,h5⟩,h6⟩,h7⟩,Z⟩:=I;have Z:args.length<=fn.ntmps:=by simpa using Z
     have aa: ∀p∈ps.toList,p<fn.ntmps:=fun p hp=>by
      have:=(Array.all_eq_true_iff_forall_mem.1 h7) p (Array.mem_toList_iff.1 hp);simpa using this
     refine callsIn_wide.1 (callsIn_of_wp_marks (n:=7) hf hb trivial ?_);have ha:Ag [] fn.ntmps {tmps:=args.toArray++Array.replicate (fn.ntmps - args.toArray.size) undef,defers:= []} (oK args):=by
      refine ⟨by simp;omega,rfl,fun i=> ?_⟩;rw [pM];simp only [Array.getD_eq_getD_getElem?,List.getD_eq_getElem?_getD];by_cases hi:i<args.length
      . rw [Array.getElem?_append_left (by simpa using hi)];simp
      . rw [Array.getElem?_append_right (by simpa using hi)];rw [List.getElem?_eq_none (by omega)];rw [Array.getElem?_replicate];split<;>rfl
     refine Cp hm c hs h1 ha h (fun f' a' w' J hq=> ?_) fun e f' w' he hq=>by cases e<;>first|exact he rfl|exact hq
     simp only at hq;refine wpIn_block (zT hm aa h3 h4 h5 h6 J hq fun d W hn=> ?_);show Code.wpIn _ _ _ _ _ _ _;have ac:Ag [{target:= .collected d,args:= #[]}] fn.ntmps ({a' with defers:= {target:= .collected d,args:= #[]}::a'.defers}:Act) f':=⟨J.1,by rw [J.2.1],J.2.2⟩
     refine wpIn_mono (wpIn_wide.2 (it hm post h2 ac hn)) fun e a2 w2 ⟨f2,U,O,_⟩=> ?_;have dV:(w2.heap[d]? =some (.deferred (some []))/\∀w3,Go.Fw.aF (·=d) w2 w3->ux P fn.results.toList f2 w3 fun vs=>K (ii vs) w3)->LeavesInM Fence.wide 7 P fn a2.tmps (fun e w'=> ∃v,e= .returned v/\K v w') a2.defers .returning w2:=by
      rintro ⟨hd,hr⟩;rw [U.2.1];refine ⟨by simp,.inl ⟨_,_,rfl,run_takeDeferred hd,?_⟩⟩;have av:d<w2.heap.size:=(Array.getElem?_eq_some_iff.1 hd).1;have V:Go.Fw.aF (·=d) w2 (w2.putObj d (.deferred none)):=⟨rfl,rfl,rfl,by simp [World.putObj],fun k hk hn=>World.putObj_heap_other (fun e=>hn e)⟩
      obtain ⟨vs,hv,hk⟩:=kX U (hr _ V);refine ⟨ii vs,?_,_,rfl,hk⟩;unfold results;rw [Array.mapM_eq_mapM_toList];simp only [Sem.run_bind,Sem.run_map];refine (congrArg (fun r=>Result.andThen (Result.andThen r _) _) hv).trans ?_;simp only [Result.andThen_ok,Sem.run_pure]
      match vs with
      | []=>simp [ii]
      | [v]=>simp [ii]
      |u::v::l=>simp [ii]
     cases e with
     |normal=>exact dV O
     |ret=>exact dV O
     |_=>exact O.elim
theorem Fv (hm:P.follows .mixedOrders=true) {f:FuncId} {fn:Func} (hf:P.funcs[f]? =some fn) {O I J:qf} {args:List Value} {n:Nat} (Q:DF P fn n=true) (hn:args.length=n)
 {w:World} {F:(Value->World->Prop)->Prop} (he: ∀K,Ja P fn O I J args w K=F K) {R:Ending->World->Prop} (h:F fun v w'=>R (.returned v) w'):Calls P f args.toArray w R:=by
 subst hn;refine (wY hm hf Q (Eq.mpr (he _) h)).mono ?_;rintro e w' ⟨v,rfl,U⟩;exact U
end Go.Fw
