/- A range over a function, once in the text of a function. -/
import Derived.Test.YtenmibfmhccmiaaGreatFwRange
import Derived.Test.YtenmibfmhccmiaaGreatFwMem
namespace Go.Fw
open Go
variable {P:Program} {D:List Deferred} {rm:Nat}
def LB (T:Nat->Prop) (W I:World):Prop:= ∀k,T k->I.heap[k]? =W.heap[k]?
structure KB (B:Nat) (T:Nat->Prop) (W W':World):Prop where
 f:KeepsFrom B W W'
 t:LB T W W'
def Nb (B:Nat) (I:List (Int × Int)->World->Prop):Prop:=
 ∀cP (W J:World) (S:Nat->Prop),I cP W->Go.Fw.aE S W J->(∀r,S r->B<=r/\∀o,W.heap[r]? =some o->o.isCells=false)->I cP J
def J_ (P:Program) (g:Nat) (lb:Array Value) (I:List (Int × Int)) (J:Int × Int->Prop) (T:Nat->Prop) (w:World):Prop:=
 ∀n,1<=n->SeqStopsK Fence.wide n P g lb (fun x: {x:Int × Int // J x}=> #[.int .i64 x.1.1,.int .i64 x.1.2]) (LB T) (fun O=>O.map (·.1)=I) (fun _=>True) I.length w
def DV (as:Code) (f:Fr) (K:Fr->Prop):Prop:=
 match as with
 | .region _ I false=>match I.toList with
   | [o]=>match o.op,o.guard with
     | .assign x,none=>K (f.set o.dst (ev f x))
     |_,_=>False
   |_=>False
 |_=>False
theorem EE {as:Code} {f:Fr} {K:Fr->Prop} (h:DV as f K): ∃d x,∀ (g:Fr),(∀J:Fr->Prop,DV as g J->J (g.set d (ev g x)))/\∀ (P:Program) (ann:oW) (W:World) (Q:Gg),Q .normal (g.set d (ev g x)) W->pA P as ann g W Q:=by
 unfold DV at h;split at h
 . rename_i id V;split at h
   . rename_i o U;split at h
     . rename_i x h1 O;refine ⟨o.dst,x,fun g=> ⟨fun J I=> ?_,fun P ann W Q X=> ?_⟩⟩
       . unfold DV at I;simp only [U,h1,O] at I;exact I
       . simp only [pA,cond_false,U,KL,zJ,O,oG,h1];exact X
     . exact h.elim
   . exact h.elim
 . exact h.elim
def AR (P:Program) (f:Fr) (w:World) (g:Operand) (ps:Array Tmp) (as bd:Code) (ann:oW) (next:Nat->World->Prop):Prop:=
 match ps.toList with
 | [p,q]=>match ev f g with
   | .func (.func U) ⟨[]⟩ lb=>fM P U=true/\DV as f (fun _=>True)/\∃ (J:List (Int × Int)) (O:Int × Int->Prop) (T:Nat->Prop),J_ P U lb J O T w/\(∀k,T k->k<w.heap.size)/\∃I:List (Int × Int)->World->Prop,I [] w/\Nb w.heap.size I/\
     (∀ (cP:List (Int × Int)) (i v:Int) (W:World),cP.length<J.length->O (i,v)->I cP W->DV as ((f.set (some p) (.int .i64 i)).set (some q) (.int .i64 v)) fun V=>pA P bd ann V W fun e _ Q=>match e with
       | .normal=>KB w.heap.size T W Q/\I (cP++ [(i,v)]) Q
       |_=>False)/\
     ∀ (d:Nat) (W:World),w.heap.size<=d->W.heap[d]? =some (.deferred (some []))->I J W->next d W
   |_=>False
 |_=>False
def pL:Code->Option (Code × Nat × Operand × Array Tmp × Code × Code × Code)
 | .seq a b=>match a with
   | .block id (.rangeFunc g ps as bd)=>some (.skip,id,g,ps,as,bd,b)
   | .seq a1 (.block id (.rangeFunc g ps as bd))=>some (.seq a1 .skip,id,g,ps,as,bd,b)
   |_=> (pL b).map fun x=> (.seq a x.1,x.2)
 |_=>none
def HI (P:Program) (fn:Func) (O I J:oW) (args:List Value) (w:World) (K:Value->World->Prop):Prop:=
 match fn.body with
 |none=>False
 |some c=>match pL c with
  |none=>False
  |some (cP,_,g,ps,as,bd,post)=>pA P cP O (ng args) w fun e f w1=>match e with
   | .normal=>AR P f w1 g ps as bd I fun d W=>pA P post J f W fun e Q w'=>match e with
     | .normal| .ret=>w'.heap[d]? =some (.deferred (some []))/\∀w2,Go.Fw.aE (·=d) w' w2->tf P fn.results.toList Q w2 fun vs=>K (gG vs) w2
     |_=>False
   |_=>False
def Cb (P:Program) (fn:Func) (args:Nat):Bool:=
 match fn.body with
 |none=>false
 |some c=>match pL c with
  |none=>false
  |some (cP,_,_,ps,as,bd,post)=>dD P fn.ntmps cP && dD P fn.ntmps post && dD P fn.ntmps as && og as && dD P fn.ntmps bd && og bd && ps.all (fun p=>Nat.blt p fn.ntmps) && Nat.ble args fn.ntmps
theorem Bg (hm:P.follows .mixedOrders=true) {n:Nat} {Q:Exit->Act->World->Prop}: ∀ (c:Code) {cP:Code} {r:Nat × Operand × Array Tmp × Code × Code × Code} {ann:oW} {f:Fr} {a:Act} {w:World} {Qf:Gg},pL c=some (cP,r)->dD P n cP=true->Ag D n a f->pA P cP ann f w Qf->
 (∀V Y w',Ag D n Y V->Qf .normal V w'->(Code.block r.1 (.rangeFunc r.2.1 r.2.2.1 r.2.2.2.1 r.2.2.2.2.1)).wpIn Fence.wide rm P (Exit.then (r.2.2.2.2.2.wpIn Fence.wide rm P Q) Q) Y w')->(∀e V w',e≠ .normal->¬Qf e V w')->c.wpIn Fence.wide rm P Q a w:=by
 intro c
 induction c with
 |seq x y ar ag=>
  intro cP r ann f a w Qf hs X ha h hn Z;have go:(pL y).map (fun z=> (Code.seq x z.1,z.2))=some (cP,r)->(Code.seq x y).wpIn Fence.wide rm P Q a w:=fun hs=>by
   cases hy:pL y with
   |none=>rw [hy] at hs;cases hs
   |some z=>
    rw [hy] at hs;simp only [Option.map_some,Option.some.injEq,Prod.mk.injEq] at hs;obtain ⟨rfl,rfl⟩:=hs;simp only [dD,Bool.and_eq_true] at X;simp only [pA] at h;refine wpIn_seq ?_;cases I:ann.Fo with
    |none=>
     simp only [I] at h;refine wpIn_mono (wpIn_wide.2 (gY hm x X.1 ha h)) fun e Y w' ⟨V,U,hq,hk⟩=> ?_;cases e with
     |normal=>exact ag hy X.2 U hq hn Z
     |_=>exact absurd hq (Z _ _ _ (by simp))
    |some as=>
     simp only [I] at h;obtain ⟨J,h1,h2⟩:=h;refine wpIn_mono (wpIn_wide.2 (gY hm x X.1 ha h1)) fun e Y w' ⟨V,U,hq,hk⟩=> ?_;cases e with
     |normal=>
      obtain ⟨r',hr,O⟩:=l6 _ hq h2;have:=O w' V hr;rw [j9 hk] at this;exact ag hy X.2 U this hn Z
     |_=>exact absurd hq (Z _ _ _ (by simp))
  unfold pL at hs;split at hs
  . simp only [Option.some.injEq,Prod.mk.injEq] at hs;obtain ⟨rfl,rfl⟩:=hs;simp only [pA] at h;exact wpIn_seq (hn f a w ha h)
  . rename_i a1 id g ps as bd;simp only [Option.some.injEq,Prod.mk.injEq] at hs;obtain ⟨rfl,rfl⟩:=hs;simp only [dD,Bool.and_eq_true] at X;simp only [pA] at h;refine wpIn_seq (wpIn_seq ?_);cases I:ann.Fo with
    |none=>
     simp only [I] at h;refine wpIn_mono (wpIn_wide.2 (gY hm a1 X.1 ha h)) fun e Y w' ⟨V,U,hq,hk⟩=> ?_;cases e with
     |normal=>exact hn _ _ _ U hq
     |_=>exact absurd hq (Z _ _ _ (by simp))
    |some as=>
     simp only [I] at h;obtain ⟨J,h1,h2⟩:=h;refine wpIn_mono (wpIn_wide.2 (gY hm a1 X.1 ha h1)) fun e Y w' ⟨V,U,hq,hk⟩=> ?_;cases e with
     |normal=>
      obtain ⟨r',hr,O⟩:=l6 _ hq h2;have:=O w' V hr;rw [j9 hk] at this;exact hn _ _ _ U this
     |_=>exact absurd hq (Z _ _ _ (by simp))
  . exact go hs
 |_=>intro cP r ann f a w Qf hs;cases hs
theorem tN {W I:World} {row:Option Nat} (h:W.grownBy I row):Go.Fw.aE (fun r=>row=some r) W I:=
 ⟨h.os,h.tape,h.output,h.size,fun k J hn=>h.block k J fun e=>hn e.symm⟩
theorem xB (hm:P.follows .mixedOrders=true) {n:Nat} {Q:Exit->Act->World->Prop} {g:Operand} {ps:Array Tmp} {as bd:Code} {ann:oW} {f:Fr} {a:Act} {w:World} {next:Nat->World->Prop}
 (ac: ∀p∈ps.toList,p<n) (a_:dD P n as=true) (a7:og as=true) (bk:dD P n bd=true) (a6:og bd=true) (ha:Ag [] n a f) (h:AR P f w g ps as bd ann next)
 (hq: ∀d W,next d W->Q .normal {a with defers:= {target:= .collected d,args:= #[]}::a.defers} W):(Code.rangeFunc g ps as bd).wpIn Fence.wide 7 P Q a w:=by
 unfold AR at h;split at h
 . rename_i p q bb;split at h
   . rename_i gf lb hg;obtain ⟨he,ag,xs,Pl,T,aa,hT,I,h0,hI,O,U⟩:=h;obtain ⟨d,x,Z⟩:=EE ag;have an:ps= #[p,q]:=by rw [<- bb]
     subst an;have eg:a.eval g= .func (.func gf) #[] lb:=by rw [ha.eval];exact hg
     have az: ∀args w,(callFunc gf args).run P w= .ok (.enter gf args) w:=by
      intro as w;unfold fM at he;unfold callFunc;simp only [Sem.run_bind,run_program,Result.andThen_ok];split at he
      . rename_i fn a8;simp only [Bool.and_eq_true,bne_iff_ne,ne_eq] at he;simp only [a8];have h1:(fn.name== "runtime.NumGoroutine")=false:=by simpa using he.2
        have V:fn.body.isNone=false:=by cases cm:fn.body<;>simp_all
        simp [h1,V]
      . simp at he
     have own:OwnFrom w.heap.size (fun (s:List {x:Int × Int // Pl x}) W=>I (s.map (·.1)) W):=fun s X Y row hs bx ap=>
      hI _ X Y _ hs (tN bx) fun r e=>by
       obtain ⟨h1,o,V,h3⟩:=ap r e;exact ⟨h1,fun o' av=>by rw [V] at av;cases av;exact h3⟩
     have ay: ∀ (i v:Int),Ag [] n ({tmps:=(#[p,q].zip #[Value.int .i64 i,.int .i64 v]).foldl (fun t (p,v)=>t.setIfInBounds p v) a.tmps,defers:= []}:Act) ((f.set (some p) (.int .i64 i)).set (some q) (.int .i64 v)):=fun i v=>by
      have e:({tmps:=(#[p,q].zip #[Value.int .i64 i,.int .i64 v]).foldl (fun t (p,v)=>t.setIfInBounds p v) a.tmps,defers:= []}:Act)=(({a with defers:= []}:Act).put (some p) (.int .i64 i)).put (some q) (.int .i64 v):=by
       simp [Act.put]
      rw [e];have hb:Ag [] n ({a with defers:= []}:Act) f:=⟨ha.1,rfl,ha.2.2⟩
      exact (hb.put (fun j hj=>by cases hj;exact ac _ (by simp)) _).put (fun j hj=>by cases hj;exact ac _ (by simp)) _
     refine wpIn_rangeFunc_ownH (Kp:=LB T) (S:=fun ys:List {x:Int × Int // Pl x}=>ys.map (·.1)=xs) (Sp:=fun _=>True) (N:=xs.length) (w0:=w) rfl (by omega) eg trivial az (aa _ (by omega)) (fun h1 V k hk=> (V k hk).trans (h1 k hk))
      (fun W l o o' hl hW _ _ k hk=>World.putObj_heap_other (by have:=hT k hk;omega)) (Go.RowKit.Below.refl _ _) (fun x=>rfl) (fun s W=>I (s.map (·.1)) W) (fun _ _ _=>False) own (fun _ _ _ _ _ hs _ _=>hs) h0
      (fun y a' _=>Ag [] n a' (((f.set (some p) (.int .i64 y.1.1)).set (some q) (.int .i64 y.1.2)).set d (ev ((f.set (some p) (.int .i64 y.1.1)).set (some q) (.int .i64 y.1.2)) x))) (fun _ _ _ _ _ _ h _ _=>h) ?_ ?_ ?_ ?_
     . intro l cP y W K hi hK;refine wpIn_mono (tP hm as a_ a7 (ay y.1.1 y.1.2) ((Z _).2 P .ae W (fun e f' W'=>e= .normal/\W'=W/\f'=_) ⟨rfl,rfl,rfl⟩)) fun e a' W' ⟨f',b6,⟨he,hW,hf⟩,_⟩=> ?_;subst he hW hf;exact hK a' W' (KeepsFrom.refl _ _) (fun _ _=>rfl) hi b6
     . intro l cP y a' W _ _ hi aT b3;have hb:=(Z _).1 _ (O (cP.map (·.1)) y.1.1 y.1.2 W (by simpa using b3) y.2 hi);refine wpIn_mono (tP hm bd bk a6 aT hb) fun e cp W' ⟨f',_,J,_⟩=> ?_;cases e with
       |normal=>exact ⟨J.1.f,J.1.t,by show I ((cP++ [y]).map (·.1)) W';rw [List.map_append];exact J.2⟩
       |_=>exact J.elim
     . intro dd ys W hD hS hi hK;exact hq _ _ (U dd W hD hK (by rw [<- hS];exact hi))
     . intro dd c cP W _ _ h _;exact h.elim
   . exact h.elim
 . exact h.elim
theorem vE (hm:P.follows .mixedOrders=true) {f:FuncId} {fn:Func} (hf:P.funcs[f]? =some fn) {V X Z:oW} {args:List Value} {w:World} {K:Value->World->Prop}
 (I:Cb P fn args.length=true) (h:HI P fn V X Z args w K):Calls P f args.toArray w fun e w'=> ∃v,e= .returned v/\K v w':=by
 unfold HI at h;unfold Cb at I;split at h
 . exact h.elim
 . rename_i c hb;rw [hb] at I;split at h
   . exact h.elim
   . rename_i cP id g ps as bd post hs;simp only [hs] at I;simp only [Bool.and_eq_true] at I;obtain ⟨⟨⟨⟨⟨⟨⟨h1,h2⟩,h3⟩,h4⟩,h5⟩,h6⟩,h7⟩,Y⟩:=I;have Y:args.length<=fn.ntmps:=by simpa using Y
     have ac: ∀p∈ps.toList,p<fn.ntmps:=fun p hp=>by
      have:=(Array.all_eq_true_iff_forall_mem.1 h7) p (Array.mem_toList_iff.1 hp);simpa using this
     refine callsIn_wide.1 (callsIn_of_wp_marks (n:=7) hf hb trivial ?_);have ha:Ag [] fn.ntmps {tmps:=args.toArray++Array.replicate (fn.ntmps - args.toArray.size) undef,defers:= []} (ng args):=by
      refine ⟨by simp;omega,rfl,fun i=> ?_⟩;rw [nX];simp only [Array.getD_eq_getD_getElem?,List.getD_eq_getElem?_getD];by_cases hi:i<args.length
      . rw [Array.getElem?_append_left (by simpa using hi)];simp
      . rw [Array.getElem?_append_right (by simpa using hi)];rw [List.getElem?_eq_none (by omega)];rw [Array.getElem?_replicate];split<;>rfl
     refine Bg hm c hs h1 ha h (fun f' a' w' J hq=> ?_) fun e f' w' he hq=>by cases e<;>first|exact he rfl|exact hq
     simp only at hq;refine wpIn_block (xB hm ac h3 h4 h5 h6 J hq fun d W hn=> ?_);show Code.wpIn _ _ _ _ _ _ _;have aa:Ag [{target:= .collected d,args:= #[]}] fn.ntmps ({a' with defers:= {target:= .collected d,args:= #[]}::a'.defers}:Act) f':=⟨J.1,by rw [J.2.1],J.2.2⟩
     refine wpIn_mono (wpIn_wide.2 (gY hm post h2 aa hn)) fun e a2 w2 ⟨f2,U,O,_⟩=> ?_;have fI:(w2.heap[d]? =some (.deferred (some []))/\∀w3,Go.Fw.aE (·=d) w2 w3->tf P fn.results.toList f2 w3 fun vs=>K (gG vs) w3)->LeavesInM Fence.wide 7 P fn a2.tmps (fun e w'=> ∃v,e= .returned v/\K v w') a2.defers .returning w2:=by
      rintro ⟨hd,hr⟩;rw [U.2.1];refine ⟨by simp,.inl ⟨_,_,rfl,run_takeDeferred hd,?_⟩⟩;have ay:d<w2.heap.size:=(Array.getElem?_eq_some_iff.1 hd).1;have Q:Go.Fw.aE (·=d) w2 (w2.putObj d (.deferred none)):=⟨rfl,rfl,rfl,by simp [World.putObj],fun k hk hn=>World.putObj_heap_other (fun e=>hn e)⟩
      obtain ⟨vs,hv,hk⟩:=kg U (hr _ Q);refine ⟨gG vs,?_,_,rfl,hk⟩;unfold results;rw [Array.mapM_eq_mapM_toList];simp only [Sem.run_bind,Sem.run_map];refine (congrArg (fun r=>Result.andThen (Result.andThen r _) _) hv).trans ?_;simp only [Result.andThen_ok,Sem.run_pure]
      match vs with
      | []=>simp [gG]
      | [v]=>simp [gG]
      |u::v::l=>simp [gG]
     cases e with
     |normal=>exact fI O
     |ret=>exact fI O
     |_=>exact O.elim
theorem DK (hm:P.follows .mixedOrders=true) {f:FuncId} {fn:Func} (hf:P.funcs[f]? =some fn) {O I J:oW} {args:List Value} {n:Nat} (Q:Cb P fn n=true) (hn:args.length=n)
 {w:World} {F:(Value->World->Prop)->Prop} (he: ∀K,HI P fn O I J args w K=F K) {R:Ending->World->Prop} (h:F fun v w'=>R (.returned v) w'):Calls P f args.toArray w R:=by
 subst hn;refine (vE hm hf Q (Eq.mpr (he _) h)).mono ?_;rintro e w' ⟨v,rfl,U⟩;exact U
end Go.Fw
