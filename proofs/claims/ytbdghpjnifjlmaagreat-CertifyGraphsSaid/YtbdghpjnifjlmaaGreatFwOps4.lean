/- Each operation of the frame does what the base does: the law. -/
import Derived.Test.YtbdghpjnifjlmaaGreatFwOps3
set_option linter.all false
namespace Go.Fw
open Go
variable{P:Program}
theorem FJ(b:BinOp)(t:TypeId)(x y:Operand)(u v:Value)(hu:∀cs,u≠ .agg cs)(hn:u≠ .nilIface)(w:World):
 (eqGuard b t x y u v).run P w=.ok () w:=by
 unfold eqGuard;cases b<;>cases u<;>first
  |exact absurd rfl hn
  |exact absurd rfl (hu _)
  |simp
theorem mr{b:BinOp}{t:TypeId}{x y:Operand}{u v:Value}{w:World}{K:Value->World->Prop}
 (hu:∀cs,u≠ .agg cs) (hn:u≠ .nilIface) {r:Value} (h:∀w,(binOp b t u v).run P w=.ok r w) (I:K r w) (k:Nat):
 yA P k ((do pure (.value (<- (do eqGuard b t x y u v;binOp b t u v)))):Sem Next) w K:=
 DD (λw'=>by rw[jh];simp only[Sem.run_bind,FJ b t x y u v hu hn,Result.andThen_ok,h w']) I
theorem BQ{t:TypeId}{e:TypeId}(hu:P.underlying t=some (.pointer e))(p:Option Addr)(w:World):
 (Op.equal t (.pointer p) (.pointer none)).run P w=.ok p.isNone w:=by
 unfold Op.equal;rw[show Op.maxDepth=9999+1 from rfl];unfold Op.equalIn;cases p<;>simp[cH hu]
theorem yG{t:TypeId}{e:TypeId}(hu:P.underlying t=some (.slice e))(p:Option Addr)(n c:Nat)(w:World):
 (Op.equal t (.slice p n c) (.slice none 0 0)).run P w=.ok p.isNone w:=by
 unfold Op.equal;rw[show Op.maxDepth=9999+1 from rfl];unfold Op.equalIn;cases p<;>simp[cH hu]
theorem Hk{t:TypeId}(hu:P.underlying t=some .bool)(a b:Bool)(w:World):
 (Op.equal t (.bool a) (.bool b)).run P w=.ok (a==b) w:=by
 unfold Op.equal;rw[show Op.maxDepth=9999+1 from rfl];unfold Op.equalIn;simp[cH hu]
theorem sP{b:BinOp}{t:TypeId}{x y:Operand}{u v:Value}{w:World}{K:Value->World->Prop}{isNil:Bool}
 (hu:∀cs,u≠ .agg cs) (hn:u≠ .nilIface) (hb:∀w,(Op.equal t u v).run P w=.ok isNil w) (he:binOp .eql t u v=(do pure (.bool (<- Op.equal t u v))))
 (I:binOp .neq t u v=(do pure (.bool (!(<- Op.equal t u v))))) (h:Bu b isNil w K) (k:Nat):
 yA P k ((do pure (.value (<- (do eqGuard b t x y u v;binOp b t u v)))):Sem Next) w K:=by
 unfold Bu at h;split at h
 .exact mr hu hn (λw=>by rw[he];simp only[Sem.run_bind,hb,Result.andThen_ok,Sem.run_pure]) h k
 .exact mr hu hn (λw=>by rw[I];simp only[Sem.run_bind,hb,Result.andThen_ok,Sem.run_pure]) h k
 .exact h.elim
theorem JU{b:BinOp}{t:TypeId}{x y:Operand}{u v:Value}{w:World}{K:Value->World->Prop}{yt:TypeId}{o:Oper}{f:Fr}
 (X:o.op=.binOp b t x y yt) (hv:v=ev f y) (h:Sy P b t x y u v w K):
 yA P (bF P o) ((do pure (.value (<- (do eqGuard b t x y u v;binOp b t u v)))):Sem Next) w K:=by
 unfold bF;rw[X];unfold Sy at h;split at h
 .rename_i k0 I;simp only[I];split at h
  .rename_i k a U c;split at h
   .obtain ⟨J,h⟩:=h;exact mr (by simp) (by simp) (λw=>by simp[binOp,Op.shift,Int.not_lt.2 J]) h 0
   .obtain ⟨J,h⟩:=h;exact mr (by simp) (by simp) (λw=>by simp[binOp,Op.shift,Int.not_lt.2 J]) h 0
   .rename_i V Y;cases O:k==U with
    |false=>simp[O]at h
    |true=>
     rw[O,I6]at h;obtain rfl:=eq_of_beq O;split at h
     case h_4=>exact mr (by simp) (by simp) (λw=>by simp[binOp,Op.intDiv,h.1]) h.2 0
     case h_5=>exact mr (by simp) (by simp) (λw=>by simp[binOp,Op.intDiv,h.1]) h.2 0
     case h_16=>exact h.elim
     all_goals exact mr (by simp) (by simp) (λw=>by simp[binOp,Op.intArith,Op.intBits,Op.intCmp]) h 0
  .exact h.elim
 .rename_i I;simp only[I];split at h
  .exact sP (by simp) (by simp) (Hk I _ _) rfl rfl h 0
  .exact h.elim
 .rename_i e I;simp only[I];split at h
  .split at h
   .exact sP (by simp) (by simp) (BQ I _) (by simp[binOp]) (by simp[binOp]) h _
   .exact h.elim
  .rename_i Q;split
   .rename_i he;exact absurd (hv.trans rfl) Q
   .exact c9 (nQ h)
 .rename_i e I;simp only[I];split at h
  .split at h
   .exact sP (by simp) (by simp) (yG I _ _ _) (by simp[binOp]) (by simp[binOp]) h 0
   .exact h.elim
  .exact h.elim
 .rename_i h1 Z h3 h4;simp only[];exact c9 (nQ h)
theorem tO(o:Oper)(f:Fr)(w:World)(K:Value->World->Prop)(X:En P o=true)(h:tu P o f w K):
 yA P (bF P o) (execOp (ev f) o) w K:=by
 obtain⟨dst,op,type,pos,after,guard⟩:=o;cases op
 case move x=>exact⟨_,λw'=>rfl,h⟩
 case assign x=>exact⟨_,λw'=>rfl,h⟩
 case pick c a b=>
  simp only[tu]at h;split at h
  .rename_i t X;unfold RT at h;split at h
   .rename_i x y Q hy;refine⟨_,λw'=>?_,h⟩;simp only[execOp,Sem.run_bind,X,asBool,Sem.run_pure,Result.andThen_ok];cases t<;>simp[Q,hy]
   .cases t with
    |true=>exact⟨_,λw'=>by simp only[execOp,Sem.run_bind,X,asBool,Sem.run_pure,Result.andThen_ok,I5],h⟩
    |false=>exact⟨_,λw'=>by simp only[execOp,Sem.run_bind,X,asBool,Sem.run_pure,Result.andThen_ok,Xo,I8],h⟩
  .exact h.elim
 case alloc t=>
  simp only[tu]at h;split at h
  .rename_i i hi;split at h
   .rename_i z hz;refine c9 ?_;simp only[execOp,jh,Instr.alloc,Sem.run_bind];have V:(zeroValue t).run P w=.ok z w:=by
     unfold zeroValue;simp only[Sem.run_bind,eS hi,Result.andThen_ok,hz,Sem.run_pure]
    simp only[V,Result.andThen_ok,newVar,newRow,Sem.run_bind,run_newObj,Sem.run_pure];exact qa h
   .exact h.elim
  .exact h.elim
 case box t x=>
  refine c9 ?_;simp only[execOp,jh,Instr.box,Sem.run_bind,newVar,newRow,run_newObj,Result.andThen_ok,Sem.run_pure];exact qa h
 case build t parts=>
  obtain⟨v,hr,J⟩:=ES (K:=λv=>K v w) h;exact⟨v,λw'=>by simp only[execOp,jh,hr,Result.andThen_ok],J⟩
 case buildSlice t len parts=>
  simp only[tu]at h;split at h
  .rename_i e hu;split at h
   .rename_i i hi;cases hb:(Nat.blt (len*i.size) 16777217 && Nat.beq parts.toList.length len && i.zero.isSome) with
    |false=>rw[hb]at h;exact h.elim
    |true=>
     rw[hb,I6]at h;simp only[ts]at hb;obtain⟨⟨an,ar⟩,ag⟩:=hb;have hlen:parts.toList.length=len:=V_ ar;have a6:len*i.size<16777217:=by simpa using an
     obtain⟨z,hz⟩:=Xl.1 ag;split at h
     .rename_i cs ap;refine c9 ?_;simp only[execOp,jh,Instr.buildSlice,Sem.run_bind,cH hu,Result.andThen_ok,eO hi];rw[r8 (by omega)];have V:∀w,(zeroValue e).run P w=.ok z w:=λw=>by
       unfold zeroValue;simp only[Sem.run_bind,eS hi,Result.andThen_ok,hz,Sem.run_pure]
      have O:∀zero:Array Value,Instr.fill (λac=>some (ac*i.size,i.size)) ((Array.range (len*i.size)).map (zero[· % zero.size]!)) (parts.map λ(i,x)=> (i,ev f x)).toList=some cs.toArray:=by
       intro zero;have he:(parts.map λ(i,x)=> (i,ev f x)).toList=mE f parts.toList:=by rw[uM];simp
       rw[he];have:=Fx i.size f parts.toList 0 cs ((Array.range (len*i.size)).map (zero[· % zero.size]!)).toList [] ap (by simp) (by simp[<- hlen]);rw[zo];simpa using this
      by_cases Z:len*i.size=0
      .simp only[v8 Z,Sem.run_bind,Sem.run_pure,Result.andThen_ok,O,newRow,run_newObj];exact qa h
      .simp only[r8 Z,Sem.run_bind,Sem.run_pure,Result.andThen_ok,V,O,newRow,run_newObj];exact qa h
     .exact h.elim
   .exact h.elim
  .exact h.elim
 case load t x=>
  simp only[tu]at h;split at h
  .rename_i a ha;obtain⟨v,hr,J⟩:=F4 h;exact⟨v,by simp only[execOp,jh,Instr.loadAt,ha,Instr.sureAddr,Sem.run_bind,Sem.run_pure,Result.andThen_ok,hr],J⟩
  .exact h.elim
 case store t x y=>
  simp only[tu]at h;split at h
  .rename_i a ha;obtain⟨w',hr,J⟩:=N9 h;refine c9 ?_;simp only[execOp,OQ,Instr.storeAt,ha,Instr.sureAddr,Sem.run_bind,Sem.run_pure,Result.andThen_ok,hr];exact J
  .exact h.elim
 case nilCheck x=>
  simp only[tu,Uw]at h;split at h
  .rename_i p hp;obtain⟨a,rfl,J⟩:=h;exact⟨_,λw'=>by simp only[execOp,hp,Sem.run_pure],J⟩
  .rename_i g x' y' hp;exact⟨_,λw'=>by simp only[execOp,hp,Sem.run_pure],h⟩
  .exact h.elim
 case binOp b t x y yt=>exact JU (o:=⟨dst,.binOp b t x y yt,type,pos,after,guard⟩) rfl rfl h
 case unOp u t x=>
  simp only[tu]at h;split at h
  .rename_i k n hn;exact⟨_,λw'=>by simp only[execOp,jh,hn,Op.unary,Op.intArith,Sem.run_pure,Result.andThen_ok],h⟩
  .rename_i b hb;exact⟨_,λw'=>by simp only[execOp,jh,hb,Op.unary,Sem.run_pure,Result.andThen_ok],h⟩
  .exact h.elim
 case convert src dt x=>
  simp only[tu]at h;split at h
  .rename_i ds k k' n hs hu hn;refine⟨_,λw'=>?_,h⟩;simp only[execOp,jh,hn];unfold convert;simp only[Sem.run_bind,cH hs,cH hu,Result.andThen_ok];simp[Conv.intToInt]
  .exact h.elim
 case makeFunc fn first captured=>
  refine⟨_,λw'=>?_,h⟩;simp only[execOp,jh,Instr.makeFunc,Sem.run_pure,Result.andThen_ok,D1,zo]
 case makeMap t r=>
  simp only[tu]at h;cases r with
  |some _=>exact h.elim
  |none=>
   refine c9 ?_;simp only[execOp,jh,Instr.makeMap,Option.map_none,Sem.run_bind,run_newObj,Result.andThen_ok,Sem.run_pure];exact qa h
 case makeSlice t l c=>exact c9 (nQ h)
 case slice t x lo hi mx=>
  simp only[tu]at h;split at h
  .rename_i p n c size l u m Q hs hl hu hm;cases hb:(u.isSome||m.isNone) with
   |false=>rw[hb]at h;exact h.elim
   |true=>
   rw[hb,I6]at h;obtain⟨p',n',c',hr,J⟩:=FR hs (λhe=>by subst he;simpa using hb) h;refine⟨_,λw'=>?_,J⟩;simp only[execOp,jh,Q,sU hl,sU hu,sU hm,hr,Result.andThen_ok]
  .exact h.elim
 case fieldAddr s x k=>
  simp only[tu]at h;split at h
  .rename_i a off ha Y;exact⟨_,λw'=>by simp only[execOp,jh,ha,Fb Y,Result.andThen_ok],h⟩
  .exact h.elim
 case field s x k=>
  obtain⟨u,hr,J⟩:=Ff h;exact⟨u,λw'=>by simp only[execOp,jh,hr,Result.andThen_ok],J⟩
 case indexAddr t x i=>
  simp only[tu]at h;split at h
  .rename_i p n c size k j Q hs hj;obtain⟨a,hr,J⟩:=FW (c:=c) (k:=k) hs h;exact⟨_,λw'=>by simp only[execOp,jh,Q,hj,hr,Result.andThen_ok],J⟩
  .exact h.elim
 case index t x i=>
  simp only[tu]at h;split at h
  .rename_i s k j hu Q hj;obtain⟨b,Z,hb,J⟩:=h;refine⟨_,λw'=>?_,J⟩;simp only[execOp,jh,Q,hj,Instr.index,asIntOf,Sem.run_bind,Sem.run_pure,Result.andThen_ok,cH hu];simp[Z,hb]
  .exact h.elim
 case lookup t x i ok=>exact c9 (K8 h)
 case mapUpdate t m k x=>
  obtain⟨w',hr,J⟩:=h;refine c9 ?_;simp only[execOp,OQ,hr,Result.andThen_ok];exact J
 case insert t m k x=>
  obtain⟨w',hr,J⟩:=h;refine c9 ?_;simp only[execOp,OQ,hr,Result.andThen_ok];exact J
 case range t x=>exact c9 (nQ h)
 case next x s=>
  cases s with
  |true=>exact h.elim
  |false=>
  refine c9 ?_;simp only[execOp,jh];rcases h with⟨w',hr,J⟩| ⟨w',k,v,hr,J⟩
  .rw [hr];exact J
  .rw [hr];exact J
 case entry x=>
  obtain⟨w',k,v,hr,J⟩:=h;refine c9 ?_;simp only[execOp,jh];rw[hr];exact J
 case extract x k=>
  simp only[tu]at h;split at h
  .rename_i vs Q;split at h
   .rename_i v hv;exact⟨v,λw'=>by simp only[execOp,jh,Q,Instr.extract,hv,Sem.run_pure,Result.andThen_ok],h⟩
   .exact h.elim
  .exact h.elim
 case call c=>
  obtain⟨callee,args,argTypes⟩:=c;have enter:∀ (g:FuncId) (as:Array Value) (w:World),f_ P g=true->(callFunc g as).run P w=.ok (.enter g as) w:=by
   intro g as w U;unfold f_ at U;unfold callFunc;simp only[Sem.run_bind,run_program,Result.andThen_ok];split at U
   .rename_i fn aw;simp only[ts,ZH,J5]at U;simp only[aw];have h1:(fn.name== "runtime.NumGoroutine")=false:=by simpa using U.2
    have h2:fn.body.isNone=false:=by cases ay:fn.body<;>simp_all
    simp[h1,h2]
   .simp at U
  have I:args.map (ev f)=(EB f args.toList).toArray:=by rw[D1,zo]
  cases callee with
  |invoke r m=>exact h.elim
  |builtin b=>
   simp only[tu,ve]at h;cases b<;>simp only at h
   case append=>
    refine c9 ?_;simp only[execOp,resolve,Sem.run_bind,Sem.run_pure,Result.andThen_ok,invoke,builtin,I];have:=nQ h;rw[jh]at this;exact this
   case copy=>
    refine c9 ?_;simp only[execOp,resolve,Sem.run_bind,Sem.run_pure,Result.andThen_ok,invoke,builtin,I];have:=nQ h;rw[jh]at this;exact this
   case delete=>
    obtain⟨w',hr,J⟩:=h;refine c9 ?_;simp only[execOp,resolve,Sem.run_bind,Sem.run_pure,Result.andThen_ok,invoke,builtin,I,hr];exact J
   case clear=>
    obtain⟨w',hr,J⟩:=h;refine c9 ?_;simp only[execOp,resolve,Sem.run_bind,Sem.run_pure,Result.andThen_ok,invoke,builtin,I,hr];exact J
   case len=>
    split at h
    .rename_i p n c hl;split at h
     .rename_i e he;cases ha:argTypes[0]? with
      |none=>simp[ha]at he
      |some t=>
       simp only[ha,XD]at he;refine⟨_,?_,h⟩;simp only[execOp,resolve,Sem.run_bind,Sem.run_pure,Result.andThen_ok,invoke,builtin,I,hl,Builtin.len_,ha];simp[cH he,goInt]
     .exact h.elim
    .rename_i r hl;obtain⟨n,hr,J⟩:=h;refine⟨_,?_,J⟩;simp only[execOp,resolve,Sem.run_bind,Sem.run_pure,Result.andThen_ok,invoke,builtin,I,hl,hr]
    .exact h.elim
   case max=>
    split at h
    .rename_i a c hl;refine⟨_,λw'=>?_,h⟩;simp only[execOp,resolve,Sem.run_bind,Sem.run_pure,Result.andThen_ok,invoke,builtin,I,hl,Builtin.max_];simp[Builtin.max2];first|done|rfl| (unfold imax;rfl)
    .rename_i a c d hl;refine⟨_,λw'=>?_,h⟩;simp only[execOp,resolve,Sem.run_bind,Sem.run_pure,Result.andThen_ok,invoke,builtin,I,hl,Builtin.max_];simp[Builtin.max2];first|done|rfl| (unfold imax;rfl)
    .exact h.elim
   case min=>
    split at h
    .rename_i a c hl;refine⟨_,λw'=>?_,h⟩;simp only[execOp,resolve,Sem.run_bind,Sem.run_pure,Result.andThen_ok,invoke,builtin,I,hl,Builtin.min_];simp[Builtin.min2];first|done|rfl| (unfold mP;rfl)
    .rename_i a c d hl;refine⟨_,λw'=>?_,h⟩;simp only[execOp,resolve,Sem.run_bind,Sem.run_pure,Result.andThen_ok,invoke,builtin,I,hl,Builtin.min_];simp[Builtin.min2];first|done|rfl| (unfold mP;rfl)
    .exact h.elim
  |value x=>
   have go:∀ (g:FuncId) (as:Array Value),OF P g as type w K->Calls P g as w λe aa=>∃v,e=.returned v/\K v aa:=
    λg as h=>h.mono λe w' hr=>EH hr
   cases x with
   |func g=>
    have U:f_ P g=true:=X;refine c9 ?_;simp only[execOp,resolve,ev,Deferred.ofValue,Sem.run_bind,Sem.run_pure,Result.andThen_ok,invoke,I];simp only[Array.empty_append,Array.append_empty];rw[enter g _ w U];exact go _ _ h
   |_=>
    simp only[tu]at h;split at h
    .rename_i g first captured Q
     cases U:f_ P g with
     |false=>rw[U]at h;exact h.elim
     |true=>
      rw[U]at h;refine c9 ?_;simp only[execOp,resolve,Q,Deferred.ofValue,Sem.run_bind,Sem.run_pure,Result.andThen_ok,invoke,I];rw[enter g _ w U];exact go _ _ h
    .exact h.elim
 all_goals exact h.elim
