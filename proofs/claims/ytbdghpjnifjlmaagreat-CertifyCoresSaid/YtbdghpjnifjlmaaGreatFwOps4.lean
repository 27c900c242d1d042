/- Each operation of the frame does what the base does: the law. -/
import Derived.Test.YtbdghpjnifjlmaaGreatFwOps3
namespace Go.Fw
open Go
variable {P:Program}
theorem DK (b:BinOp) (t:TypeId) (x y:Operand) (u v:Value) (hu:∀cs,u≠ .agg cs) (hn:u≠ .nilIface) (w:World):
 (eqGuard b t x y u v).run P w=.ok () w:=by
 unfold eqGuard;cases b<;>cases u<;>first
  |exact absurd rfl hn
  |exact absurd rfl (hu _)
  |simp
theorem mr {b:BinOp} {t:TypeId} {x y:Operand} {u v:Value} {w:World} {K:Value->World->Prop}
 (hu:∀cs,u≠ .agg cs) (hn:u≠ .nilIface) {r:Value} (h:∀w,(binOp b t u v).run P w=.ok r w) (I:K r w) (k:Nat):
 xV P k ((do pure (.value (<- (do eqGuard b t x y u v;binOp b t u v)))):Sem Next) w K:=
 CQ (λw'=>by rw [jr];simp only [Sem.run_bind,DK b t x y u v hu hn,Result.andThen_ok,h w']) I
theorem A0 {t:TypeId} {e:TypeId} (hu:P.underlying t=some (.pointer e)) (p:Option Addr) (w:World):
 (Op.equal t (.pointer p) (.pointer none)).run P w=.ok p.isNone w:=by
 unfold Op.equal;rw [show Op.maxDepth=9999+1 from rfl];unfold Op.equalIn;cases p<;>simp [cH hu]
theorem xJ {t:TypeId} {e:TypeId} (hu:P.underlying t=some (.slice e)) (p:Option Addr) (n c:Nat) (w:World):
 (Op.equal t (.slice p n c) (.slice none 0 0)).run P w=.ok p.isNone w:=by
 unfold Op.equal;rw [show Op.maxDepth=9999+1 from rfl];unfold Op.equalIn;cases p<;>simp [cH hu]
theorem G8 {t:TypeId} (hu:P.underlying t=some .bool) (a b:Bool) (w:World):
 (Op.equal t (.bool a) (.bool b)).run P w=.ok (a==b) w:=by
 unfold Op.equal;rw [show Op.maxDepth=9999+1 from rfl];unfold Op.equalIn;simp [cH hu]
theorem rI {b:BinOp} {t:TypeId} {x y:Operand} {u v:Value} {w:World} {K:Value->World->Prop} {isNil:Bool}
 (hu:∀cs,u≠ .agg cs) (hn:u≠ .nilIface) (hb:∀w,(Op.equal t u v).run P w=.ok isNil w) (he:binOp .eql t u v=(do pure (.bool (<- Op.equal t u v))))
 (I:binOp .neq t u v=(do pure (.bool (!(<- Op.equal t u v))))) (h:zc b isNil w K) (k:Nat):
 xV P k ((do pure (.value (<- (do eqGuard b t x y u v;binOp b t u v)))):Sem Next) w K:=by
 unfold zc at h;split at h
 . exact mr hu hn (λw=>by rw [he];simp only [Sem.run_bind,hb,Result.andThen_ok,Sem.run_pure]) h k
 . exact mr hu hn (λw=>by rw [I];simp only [Sem.run_bind,hb,Result.andThen_ok,Sem.run_pure]) h k
 . exact h.elim
theorem IT {b:BinOp} {t:TypeId} {x y:Operand} {u v:Value} {w:World} {K:Value->World->Prop} {yt:TypeId} {o:Oper} {f:Fr}
 (Y:o.op=.binOp b t x y yt) (hv:v=ev f y) (h:Ra P b t x y u v w K):
 xV P (bC P o) ((do pure (.value (<- (do eqGuard b t x y u v;binOp b t u v)))):Sem Next) w K:=by
 unfold bC;rw [Y];unfold Ra at h;split at h
 . rename_i Z I;simp only [I];split at h
   . rename_i k a U c;split at h
     . obtain ⟨J,h⟩:=h;exact mr (by simp) (by simp) (λw=>by simp [binOp,Op.shift,Int.not_lt.2 J]) h 0
     . obtain ⟨J,h⟩:=h;exact mr (by simp) (by simp) (λw=>by simp [binOp,Op.shift,Int.not_lt.2 J]) h 0
     . rename_i V X;cases O:k==U with
       |false=>simp [O] at h
       |true=>
        rw [O,cond_true] at h;obtain rfl:=eq_of_beq O;split at h
        case h_4=>exact mr (by simp) (by simp) (λw=>by simp [binOp,Op.intDiv,h.1]) h.2 0
        case h_5=>exact mr (by simp) (by simp) (λw=>by simp [binOp,Op.intDiv,h.1]) h.2 0
        case h_16=>exact h.elim
        all_goals exact mr (by simp) (by simp) (λw=>by simp [binOp,Op.intArith,Op.intBits,Op.intCmp]) h 0
   . exact h.elim
 . rename_i I;simp only [I];split at h
   . exact rI (by simp) (by simp) (G8 I _ _) rfl rfl h 0
   . exact h.elim
 . rename_i e I;simp only [I];split at h
   . split at h
     . exact rI (by simp) (by simp) (A0 I _) (by simp [binOp]) (by simp [binOp]) h _
     . exact h.elim
   . rename_i Q;split
     . rename_i he;exact absurd (hv.trans rfl) Q
     . exact cZ (nI h)
 . rename_i e I;simp only [I];split at h
   . split at h
     . exact rI (by simp) (by simp) (xJ I _ _ _) (by simp [binOp]) (by simp [binOp]) h 0
     . exact h.elim
   . exact h.elim
 . rename_i h1 h2 h3 h4;simp only [];exact cZ (nI h)
theorem sU (o:Oper) (f:Fr) (w:World) (K:Value->World->Prop) (Y:CM P o=true) (h:sP P o f w K):
 xV P (bC P o) (execOp (ev f) o) w K:=by
 obtain ⟨dst,op,type,pos,after,guard⟩:=o;cases op
 case move x=>exact ⟨_,λw'=>rfl,h⟩
 case assign x=>exact ⟨_,λw'=>rfl,h⟩
 case pick c a b=>
  simp only [sP] at h;split at h
  . rename_i t Y;unfold Qk at h;split at h
    . rename_i x y O hy;refine ⟨_,λw'=>?_,h⟩;simp only [execOp,Sem.run_bind,Y,asBool,Sem.run_pure,Result.andThen_ok];cases t<;>simp [O,hy]
    . cases t with
      |true=>exact ⟨_,λw'=>by simp only [execOp,Sem.run_bind,Y,asBool,Sem.run_pure,Result.andThen_ok,if_true],h⟩
      |false=>exact ⟨_,λw'=>by simp only [execOp,Sem.run_bind,Y,asBool,Sem.run_pure,Result.andThen_ok,VW,if_false],h⟩
  . exact h.elim
 case alloc t=>
  simp only [sP] at h;split at h
  . rename_i i hi;split at h
    . rename_i z hz;refine cZ ?_;simp only [execOp,jr,Instr.alloc,Sem.run_bind];have V:(zeroValue t).run P w=.ok z w:=by
       unfold zeroValue;simp only [Sem.run_bind,eM hi,Result.andThen_ok,hz,Sem.run_pure]
      simp only [V,Result.andThen_ok,newVar,newRow,Sem.run_bind,run_newObj,Sem.run_pure];exact qt h
    . exact h.elim
  . exact h.elim
 case box t x=>
  refine cZ ?_;simp only [execOp,jr,Instr.box,Sem.run_bind,newVar,newRow,run_newObj,Result.andThen_ok,Sem.run_pure];exact qt h
 case build t parts=>
  obtain ⟨v,hr,J⟩:=DY (K:=λv=>K v w) h;exact ⟨v,λw'=>by simp only [execOp,jr,hr,Result.andThen_ok],J⟩
 case buildSlice t len parts=>
  simp only [sP] at h;split at h
  . rename_i e hu;split at h
    . rename_i i hi;cases hb:(Nat.blt (len*i.size) 16777217 && Nat.beq parts.toList.length len && i.zero.isSome) with
      |false=>rw [hb] at h;exact h.elim
      |true=>
       rw [hb,cond_true] at h;simp only [ts] at hb;obtain ⟨⟨av,ar⟩,an⟩:=hb;have hlen:parts.toList.length=len:=UG ar;have aT:len*i.size<16777217:=by simpa using av
       obtain ⟨z,hz⟩:=VJ.1 an;split at h
       . rename_i cs ag;refine cZ ?_;simp only [execOp,jr,Instr.buildSlice,Sem.run_bind,cH hu,Result.andThen_ok,eJ hi];rw [if_neg (by omega)];have V:∀w,(zeroValue e).run P w=.ok z w:=λw=>by
          unfold zeroValue;simp only [Sem.run_bind,eM hi,Result.andThen_ok,hz,Sem.run_pure]
         have Q:∀zero:Array Value,Instr.fill (λac=>some (ac*i.size,i.size)) ((Array.range (len*i.size)).map (zero[· % zero.size]!)) (parts.map λ(i,x)=> (i,ev f x)).toList=some cs.toArray:=by
          intro zero;have he:(parts.map λ(i,x)=> (i,ev f x)).toList=mC f parts.toList:=by rw [tS];simp
          rw [he];have:=EC i.size f parts.toList 0 cs ((Array.range (len*i.size)).map (zero[· % zero.size]!)).toList [] ag (by simp) (by simp [<- hlen]);rw [xW];simpa using this
         by_cases Z:len*i.size=0
         . simp only [if_pos Z,Sem.run_bind,Sem.run_pure,Result.andThen_ok,Q,newRow,run_newObj];exact qt h
         . simp only [if_neg Z,Sem.run_bind,Sem.run_pure,Result.andThen_ok,V,Q,newRow,run_newObj];exact qt h
       . exact h.elim
    . exact h.elim
  . exact h.elim
 case load t x=>
  simp only [sP] at h;split at h
  . rename_i a ha;obtain ⟨v,hr,J⟩:=D3 h;exact ⟨v,by simp only [execOp,jr,Instr.loadAt,ha,Instr.sureAddr,Sem.run_bind,Sem.run_pure,Result.andThen_ok,hr],J⟩
  . exact h.elim
 case store t x y=>
  simp only [sP] at h;split at h
  . rename_i a ha;obtain ⟨w',hr,J⟩:=LZ h;refine cZ ?_;simp only [execOp,Lm,Instr.storeAt,ha,Instr.sureAddr,Sem.run_bind,Sem.run_pure,Result.andThen_ok,hr];exact J
  . exact h.elim
 case nilCheck x=>
  simp only [sP,SN] at h;split at h
  . rename_i p hp;obtain ⟨a,rfl,J⟩:=h;exact ⟨_,λw'=>by simp only [execOp,hp,Sem.run_pure],J⟩
  . rename_i g x' y' hp;exact ⟨_,λw'=>by simp only [execOp,hp,Sem.run_pure],h⟩
  . exact h.elim
 case binOp b t x y yt=>exact IT (o:=⟨dst,.binOp b t x y yt,type,pos,after,guard⟩) rfl rfl h
 case unOp u t x=>
  simp only [sP] at h;split at h
  . rename_i k n hn;exact ⟨_,λw'=>by simp only [execOp,jr,hn,Op.unary,Op.intArith,Sem.run_pure,Result.andThen_ok],h⟩
  . rename_i b hb;exact ⟨_,λw'=>by simp only [execOp,jr,hb,Op.unary,Sem.run_pure,Result.andThen_ok],h⟩
  . exact h.elim
 case convert src dt x=>
  simp only [sP] at h;split at h
  . rename_i ds k k' n hs hu hn;refine ⟨_,λw'=>?_,h⟩;simp only [execOp,jr,hn];unfold convert;simp only [Sem.run_bind,cH hs,cH hu,Result.andThen_ok];simp [Conv.intToInt]
  . exact h.elim
 case makeFunc fn first captured=>
  refine ⟨_,λw'=>?_,h⟩;simp only [execOp,jr,Instr.makeFunc,Sem.run_pure,Result.andThen_ok,C6,xW]
 case makeMap t r=>
  simp only [sP] at h;cases r with
  |some _=>exact h.elim
  |none=>
   refine cZ ?_;simp only [execOp,jr,Instr.makeMap,Option.map_none,Sem.run_bind,run_newObj,Result.andThen_ok,Sem.run_pure];exact qt h
 case makeSlice t l c=>exact cZ (nI h)
 case slice t x lo hi mx=>
  simp only [sP] at h;split at h
  . rename_i p n c size l u m O hs hl hu hm;cases hb:(u.isSome||m.isNone) with
    |false=>rw [hb] at h;exact h.elim
    |true=>
    rw [hb,cond_true] at h;obtain ⟨p',n',c',hr,J⟩:=ED hs (λhe=>by subst he;simpa using hb) h;refine ⟨_,λw'=>?_,J⟩;simp only [execOp,jr,O,sg hl,sg hu,sg hm,hr,Result.andThen_ok]
  . exact h.elim
 case fieldAddr s x k=>
  simp only [sP] at h;split at h
  . rename_i a off ha X;exact ⟨_,λw'=>by simp only [execOp,jr,ha,Ep X,Result.andThen_ok],h⟩
  . exact h.elim
 case field s x k=>
  obtain ⟨u,hr,J⟩:=Fc h;exact ⟨u,λw'=>by simp only [execOp,jr,hr,Result.andThen_ok],J⟩
 case indexAddr t x i=>
  simp only [sP] at h;split at h
  . rename_i p n c size k j O hs hj;obtain ⟨a,hr,J⟩:=DO (c:=c) (k:=k) hs h;exact ⟨_,λw'=>by simp only [execOp,jr,O,hj,hr,Result.andThen_ok],J⟩
  . exact h.elim
 case index t x i=>
  simp only [sP] at h;split at h
  . rename_i s k j hu O hj;obtain ⟨b,Z,hb,J⟩:=h;refine ⟨_,λw'=>?_,J⟩;simp only [execOp,jr,O,hj,Instr.index,asIntOf,Sem.run_bind,Sem.run_pure,Result.andThen_ok,cH hu];simp [Z,hb]
  . exact h.elim
 case lookup t x i ok=>exact cZ (IJ h)
 case mapUpdate t m k x=>
  obtain ⟨w',hr,J⟩:=h;refine cZ ?_;simp only [execOp,Lm,hr,Result.andThen_ok];exact J
 case insert t m k x=>
  obtain ⟨w',hr,J⟩:=h;refine cZ ?_;simp only [execOp,Lm,hr,Result.andThen_ok];exact J
 case range t x=>exact cZ (nI h)
 case next x s=>
  cases s with
  |true=>exact h.elim
  |false=>
  refine cZ ?_;simp only [execOp,jr];rcases h with ⟨w',hr,J⟩| ⟨w',k,v,hr,J⟩
  . rw [hr];exact J
  . rw [hr];exact J
 case entry x=>
  obtain ⟨w',k,v,hr,J⟩:=h;refine cZ ?_;simp only [execOp,jr];rw [hr];exact J
 case extract x k=>
  simp only [sP] at h;split at h
  . rename_i vs O;split at h
    . rename_i v hv;exact ⟨v,λw'=>by simp only [execOp,jr,O,Instr.extract,hv,Sem.run_pure,Result.andThen_ok],h⟩
    . exact h.elim
  . exact h.elim
 case call c=>
  obtain ⟨callee,args,argTypes⟩:=c;have enter:∀ (g:FuncId) (as:Array Value) (w:World),gH P g=true->(callFunc g as).run P w=.ok (.enter g as) w:=by
   intro g as w U;unfold gH at U;unfold callFunc;simp only [Sem.run_bind,run_program,Result.andThen_ok];split at U
   . rename_i fn ap;simp only [ts,bne_iff_ne,ne_eq] at U;simp only [ap];have h1:(fn.name== "runtime.NumGoroutine")=false:=by simpa using U.2
     have h2:fn.body.isNone=false:=by cases ay:fn.body<;>simp_all
     simp [h1,h2]
   . simp at U
  have I:args.map (ev f)=(DF f args.toList).toArray:=by rw [C6,xW]
  cases callee with
  |invoke r m=>exact h.elim
  |builtin b=>
   simp only [sP,vF] at h;cases b<;>simp only at h
   case append=>
    refine cZ ?_;simp only [execOp,resolve,Sem.run_bind,Sem.run_pure,Result.andThen_ok,invoke,builtin,I];have:=nI h;rw [jr] at this;exact this
   case copy=>
    refine cZ ?_;simp only [execOp,resolve,Sem.run_bind,Sem.run_pure,Result.andThen_ok,invoke,builtin,I];have:=nI h;rw [jr] at this;exact this
   case delete=>
    obtain ⟨w',hr,J⟩:=h;refine cZ ?_;simp only [execOp,resolve,Sem.run_bind,Sem.run_pure,Result.andThen_ok,invoke,builtin,I,hr];exact J
   case clear=>
    obtain ⟨w',hr,J⟩:=h;refine cZ ?_;simp only [execOp,resolve,Sem.run_bind,Sem.run_pure,Result.andThen_ok,invoke,builtin,I,hr];exact J
   case len=>
    split at h
    . rename_i p n c hl;split at h
      . rename_i e he;cases ha:argTypes[0]? with
        |none=>simp [ha] at he
        |some t=>
         simp only [ha,V8] at he;refine ⟨_,?_,h⟩;simp only [execOp,resolve,Sem.run_bind,Sem.run_pure,Result.andThen_ok,invoke,builtin,I,hl,Builtin.len_,ha];simp [cH he,goInt]
      . exact h.elim
    . rename_i r hl;obtain ⟨n,hr,J⟩:=h;refine ⟨_,?_,J⟩;simp only [execOp,resolve,Sem.run_bind,Sem.run_pure,Result.andThen_ok,invoke,builtin,I,hl,hr]
    . exact h.elim
   case max=>
    split at h
    . rename_i a c hl;refine ⟨_,λw'=>?_,h⟩;simp only [execOp,resolve,Sem.run_bind,Sem.run_pure,Result.andThen_ok,invoke,builtin,I,hl,Builtin.max_];simp [Builtin.max2];first|done|rfl| (unfold imax;rfl)
    . rename_i a c d hl;refine ⟨_,λw'=>?_,h⟩;simp only [execOp,resolve,Sem.run_bind,Sem.run_pure,Result.andThen_ok,invoke,builtin,I,hl,Builtin.max_];simp [Builtin.max2];first|done|rfl| (unfold imax;rfl)
    . exact h.elim
   case min=>
    split at h
    . rename_i a c hl;refine ⟨_,λw'=>?_,h⟩;simp only [execOp,resolve,Sem.run_bind,Sem.run_pure,Result.andThen_ok,invoke,builtin,I,hl,Builtin.min_];simp [Builtin.min2];first|done|rfl| (unfold mN;rfl)
    . rename_i a c d hl;refine ⟨_,λw'=>?_,h⟩;simp only [execOp,resolve,Sem.run_bind,Sem.run_pure,Result.andThen_ok,invoke,builtin,I,hl,Builtin.min_];simp [Builtin.min2];first|done|rfl| (unfold mN;rfl)
    . exact h.elim
  |value x=>
   have go:∀ (g:FuncId) (as:Array Value),Ks P g as type w K->Calls P g as w λe ax=>∃v,e=.returned v/\K v ax:=
    λg as h=>h.mono λe w' hr=>D9 hr
   cases x with
   |func g=>
    have U:gH P g=true:=Y;refine cZ ?_;simp only [execOp,resolve,ev,Deferred.ofValue,Sem.run_bind,Sem.run_pure,Result.andThen_ok,invoke,I];simp only [Array.empty_append,Array.append_empty];rw [enter g _ w U];exact go _ _ h
   |_=>
    simp only [sP] at h;split at h
    . rename_i g first captured O
      cases U:gH P g with
      |false=>rw [U] at h;exact h.elim
      |true=>
       rw [U] at h;refine cZ ?_;simp only [execOp,resolve,O,Deferred.ofValue,Sem.run_bind,Sem.run_pure,Result.andThen_ok,invoke,I];rw [enter g _ w U];exact go _ _ h
    . exact h.elim
 all_goals exact h.elim
end Go.Fw
