/- Each operation of the frame does what the base does: the law. -/
import Derived.Test.YtenmibfmhccmiaaGreatFwOps3
namespace Go.Fw
open Go
variable {P:Program}
theorem Ae (b:BinOp) (t:TypeId) (x y:Operand) (u v:Value) (hu: ∀cs,u≠ .agg cs) (hn:u≠ .nilIface) (w:World):
 (eqGuard b t x y u v).run P w= .ok () w:=by
 unfold eqGuard;cases b<;>cases u<;>first
  |exact absurd rfl hn
  |exact absurd rfl (hu _)
  |simp
theorem jW {b:BinOp} {t:TypeId} {x y:Operand} {u v:Value} {w:World} {K:Value->World->Prop}
 (hu: ∀cs,u≠ .agg cs) (hn:u≠ .nilIface) {r:Value} (h: ∀w,(binOp b t u v).run P w= .ok r w) (I:K r w) (k:Nat):
 tL P k ((do pure (.value (<- (do eqGuard b t x y u v;binOp b t u v)))):Sem Next) w K:=
 ze (fun w'=>by rw [gY];simp only [Sem.run_bind,Ae b t x y u v hu hn,Result.andThen_ok,h w']) I
theorem xj {t:TypeId} {e:TypeId} (hu:P.underlying t=some (.pointer e)) (p:Option Addr) (w:World):
 (Op.equal t (.pointer p) (.pointer none)).run P w= .ok p.isNone w:=by
 unfold Op.equal;rw [show Op.maxDepth=9999+1 from rfl];unfold Op.equalIn;cases p<;>simp [bT hu]
theorem tM {t:TypeId} {e:TypeId} (hu:P.underlying t=some (.slice e)) (p:Option Addr) (n c:Nat) (w:World):
 (Op.equal t (.slice p n c) (.slice none 0 0)).run P w= .ok p.isNone w:=by
 unfold Op.equal;rw [show Op.maxDepth=9999+1 from rfl];unfold Op.equalIn;cases p<;>simp [bT hu]
theorem CI {t:TypeId} (hu:P.underlying t=some .bool) (a b:Bool) (w:World):
 (Op.equal t (.bool a) (.bool b)).run P w= .ok (a==b) w:=by
 unfold Op.equal;rw [show Op.maxDepth=9999+1 from rfl];unfold Op.equalIn;simp [bT hu]
theorem pz {b:BinOp} {t:TypeId} {x y:Operand} {u v:Value} {w:World} {K:Value->World->Prop} {isNil:Bool}
 (hu: ∀cs,u≠ .agg cs) (hn:u≠ .nilIface) (hb: ∀w,(Op.equal t u v).run P w= .ok isNil w) (he:binOp .eql t u v=(do pure (.bool (<- Op.equal t u v))))
 (I:binOp .neq t u v=(do pure (.bool (!(<- Op.equal t u v))))) (h:wO b isNil w K) (k:Nat):
 tL P k ((do pure (.value (<- (do eqGuard b t x y u v;binOp b t u v)))):Sem Next) w K:=by
 unfold wO at h;split at h
 . exact jW hu hn (fun w=>by rw [he];simp only [Sem.run_bind,hb,Result.andThen_ok,Sem.run_pure]) h k
 . exact jW hu hn (fun w=>by rw [I];simp only [Sem.run_bind,hb,Result.andThen_ok,Sem.run_pure]) h k
 . exact h.elim
theorem EP {b:BinOp} {t:TypeId} {x y:Operand} {u v:Value} {w:World} {K:Value->World->Prop} {yt:TypeId} {o:Oper} {f:Fr}
 (U:o.op= .binOp b t x y yt) (hv:v=ev f y) (h:LK P b t x y u v w K):
 tL P (aZ P o) ((do pure (.value (<- (do eqGuard b t x y u v;binOp b t u v)))):Sem Next) w K:=by
 unfold aZ;rw [U];unfold LK at h;split at h
 . rename_i Z I;simp only [I];split at h
   . rename_i k a X c;split at h
     . obtain ⟨Q,h⟩:=h;exact jW (by simp) (by simp) (fun w=>by simp [binOp,Op.shift,Int.not_lt.2 Q]) h 0
     . obtain ⟨Q,h⟩:=h;exact jW (by simp) (by simp) (fun w=>by simp [binOp,Op.shift,Int.not_lt.2 Q]) h 0
     . rename_i Y V;cases J:k==X with
       |false=>simp [J] at h
       |true=>
        rw [J,cond_true] at h;obtain rfl:=eq_of_beq J;split at h
        case h_4=>exact jW (by simp) (by simp) (fun w=>by simp [binOp,Op.intDiv,h.1]) h.2 0
        case h_5=>exact jW (by simp) (by simp) (fun w=>by simp [binOp,Op.intDiv,h.1]) h.2 0
        case h_16=>exact h.elim
        all_goals exact jW (by simp) (by simp) (fun w=>by simp [binOp,Op.intArith,Op.intBits,Op.intCmp]) h 0
   . exact h.elim
 . rename_i I;simp only [I];split at h
   . exact pz (by simp) (by simp) (CI I _ _) rfl rfl h 0
   . exact h.elim
 . rename_i e I;simp only [I];split at h
   . split at h
     . exact pz (by simp) (by simp) (xj I _) (by simp [binOp]) (by simp [binOp]) h _
     . exact h.elim
   . rename_i O;split
     . rename_i he;exact absurd (hv.trans rfl) O
     . exact cE (kR h)
 . rename_i e I;simp only [I];split at h
   . split at h
     . exact pz (by simp) (by simp) (tM I _ _ _) (by simp [binOp]) (by simp [binOp]) h 0
     . exact h.elim
   . exact h.elim
 . rename_i h1 h2 h3 h4;simp only [];exact cE (kR h)
theorem qg (o:Oper) (f:Fr) (w:World) (K:Value->World->Prop) (Y:zj P o=true) (h:pP P o f w K):
 tL P (aZ P o) (execOp (ev f) o) w K:=by
 obtain ⟨dst,op,type,pos,after,guard⟩:=o;cases op
 case move x=>exact ⟨_,fun w'=>rfl,h⟩
 case assign x=>exact ⟨_,fun w'=>rfl,h⟩
 case pick c a b=>
  simp only [pP] at h;split at h
  . rename_i t Y;unfold KE at h;split at h
    . rename_i x y Q hy;refine ⟨_,fun w'=> ?_,h⟩;simp only [execOp,Sem.run_bind,Y,asBool,Sem.run_pure,Result.andThen_ok];cases t<;>simp [Q,hy]
    . cases t with
      |true=>exact ⟨_,fun w'=>by simp only [execOp,Sem.run_bind,Y,asBool,Sem.run_pure,Result.andThen_ok,if_true],h⟩
      |false=>exact ⟨_,fun w'=>by simp only [execOp,Sem.run_bind,Y,asBool,Sem.run_pure,Result.andThen_ok,Bool.false_eq_true,if_false],h⟩
  . exact h.elim
 case alloc t=>
  simp only [pP] at h;split at h
  . rename_i i hi;split at h
    . rename_i z hz;refine cE ?_;simp only [execOp,gY,Instr.alloc,Sem.run_bind];have V:(zeroValue t).run P w= .ok z w:=by
       unfold zeroValue;simp only [Sem.run_bind,eS hi,Result.andThen_ok,hz,Sem.run_pure]
      simp only [V,Result.andThen_ok,newVar,newRow,Sem.run_bind,run_newObj,Sem.run_pure];exact nB h
    . exact h.elim
  . exact h.elim
 case box t x=>
  refine cE ?_;simp only [execOp,gY,Instr.box,Sem.run_bind,newVar,newRow,run_newObj,Result.andThen_ok,Sem.run_pure];exact nB h
 case build t parts=>
  obtain ⟨v,hr,J⟩:=Am (K:=fun v=>K v w) h;exact ⟨v,fun w'=>by simp only [execOp,gY,hr,Result.andThen_ok],J⟩
 case buildSlice t len parts=>
  simp only [pP] at h;split at h
  . rename_i e hu;split at h
    . rename_i i hi;cases hb:(Nat.blt (len*i.size) 16777217 && Nat.beq parts.toList.length len && i.zero.isSome) with
      |false=>rw [hb] at h;exact h.elim
      |true=>
       rw [hb,cond_true] at h;simp only [Bool.and_eq_true] at hb;obtain ⟨⟨ar,ag⟩,ac⟩:=hb;have hlen:parts.toList.length=len:=Nat.eq_of_beq_eq_true ag;have ax:len*i.size<16777217:=by simpa using ar
       obtain ⟨z,hz⟩:=Option.isSome_iff_exists.1 ac;split at h
       . rename_i cs ap;refine cE ?_;simp only [execOp,gY,Instr.buildSlice,Sem.run_bind,bT hu,Result.andThen_ok,dC hi];rw [if_neg (by omega)];have V: ∀w,(zeroValue e).run P w= .ok z w:=fun w=>by
          unfold zeroValue;simp only [Sem.run_bind,eS hi,Result.andThen_ok,hz,Sem.run_pure]
         have U: ∀zero:Array Value,Instr.fill (fun ad=>some (ad*i.size,i.size)) ((Array.range (len*i.size)).map (zero[· % zero.size]!)) (parts.map fun (i,x)=> (i,ev f x)).toList=some cs.toArray:=by
          intro zero;have he:(parts.map fun (i,x)=> (i,ev f x)).toList=j9 f parts.toList:=by rw [qE];simp
          rw [he];have:=Au i.size f parts.toList 0 cs ((Array.range (len*i.size)).map (zero[· % zero.size]!)).toList [] ap (by simp) (by simp [<- hlen]);rw [ua];simpa using this
         by_cases Z:len*i.size=0
         . simp only [if_pos Z,Sem.run_bind,Sem.run_pure,Result.andThen_ok,U,newRow,run_newObj];exact nB h
         . simp only [if_neg Z,Sem.run_bind,Sem.run_pure,Result.andThen_ok,V,U,newRow,run_newObj];exact nB h
       . exact h.elim
    . exact h.elim
  . exact h.elim
 case load t x=>
  simp only [pP] at h;split at h
  . rename_i a ha;obtain ⟨v,hr,J⟩:=Af h;exact ⟨v,by simp only [execOp,gY,Instr.loadAt,ha,Instr.sureAddr,Sem.run_bind,Sem.run_pure,Result.andThen_ok,hr],J⟩
  . exact h.elim
 case store t x y=>
  simp only [pP] at h;split at h
  . rename_i a ha;obtain ⟨w',hr,J⟩:=Gp h;refine cE ?_;simp only [execOp,G_,Instr.storeAt,ha,Instr.sureAddr,Sem.run_bind,Sem.run_pure,Result.andThen_ok,hr];exact J
  . exact h.elim
 case nilCheck x=>
  simp only [pP,Mr] at h;split at h
  . rename_i p hp;obtain ⟨a,rfl,J⟩:=h;exact ⟨_,fun w'=>by simp only [execOp,hp,Sem.run_pure],J⟩
  . rename_i g x' y' hp;exact ⟨_,fun w'=>by simp only [execOp,hp,Sem.run_pure],h⟩
  . exact h.elim
 case binOp b t x y yt=>exact EP (o:=⟨dst,.binOp b t x y yt,type,pos,after,guard⟩) rfl rfl h
 case unOp u t x=>
  simp only [pP] at h;split at h
  . rename_i k n hn;exact ⟨_,fun w'=>by simp only [execOp,gY,hn,Op.unary,Op.intArith,Sem.run_pure,Result.andThen_ok],h⟩
  . rename_i b hb;exact ⟨_,fun w'=>by simp only [execOp,gY,hb,Op.unary,Sem.run_pure,Result.andThen_ok],h⟩
  . exact h.elim
 case convert src dt x=>
  simp only [pP] at h;split at h
  . rename_i ds k k' n hs hu hn;refine ⟨_,fun w'=> ?_,h⟩;simp only [execOp,gY,hn];unfold convert;simp only [Sem.run_bind,bT hs,bT hu,Result.andThen_ok];simp [Conv.intToInt]
  . exact h.elim
 case makeFunc fn first captured=>
  refine ⟨_,fun w'=> ?_,h⟩;simp only [execOp,gY,Instr.makeFunc,Sem.run_pure,Result.andThen_ok,yP,ua]
 case makeMap t r=>
  simp only [pP] at h;cases r with
  |some _=>exact h.elim
  |none=>
   refine cE ?_;simp only [execOp,gY,Instr.makeMap,Option.map_none,Sem.run_bind,run_newObj,Result.andThen_ok,Sem.run_pure];exact nB h
 case makeSlice t l c=>exact cE (kR h)
 case slice t x lo hi mx=>
  simp only [pP] at h;split at h
  . rename_i p n c size l u m Q hs hl hu hm;cases hb:(u.isSome||m.isNone) with
    |false=>rw [hb] at h;exact h.elim
    |true=>
    rw [hb,cond_true] at h;obtain ⟨p',n',c',hr,J⟩:=Bj hs (fun he=>by subst he;simpa using hb) h;refine ⟨_,fun w'=> ?_,J⟩;simp only [execOp,gY,Q,oZ hl,oZ hu,oZ hm,hr,Result.andThen_ok]
  . exact h.elim
 case fieldAddr s x k=>
  simp only [pP] at h;split at h
  . rename_i a off ha X;exact ⟨_,fun w'=>by simp only [execOp,gY,ha,AO X,Result.andThen_ok],h⟩
  . exact h.elim
 case field s x k=>
  obtain ⟨u,hr,J⟩:=By h;exact ⟨u,fun w'=>by simp only [execOp,gY,hr,Result.andThen_ok],J⟩
 case indexAddr t x i=>
  simp only [pP] at h;split at h
  . rename_i p n c size k j Q hs hj;obtain ⟨a,hr,J⟩:=BE (c:=c) (k:=k) hs h;exact ⟨_,fun w'=>by simp only [execOp,gY,Q,hj,hr,Result.andThen_ok],J⟩
  . exact h.elim
 case index t x i=>
  simp only [pP] at h;split at h
  . rename_i s k j hu Q hj;obtain ⟨b,Z,hb,J⟩:=h;refine ⟨_,fun w'=> ?_,J⟩;simp only [execOp,gY,Q,hj,Instr.index,asIntOf,Sem.run_bind,Sem.run_pure,Result.andThen_ok,bT hu];simp [Z,hb]
  . exact h.elim
 case lookup t x i ok=>exact cE (Ek h)
 case mapUpdate t m k x=>
  obtain ⟨w',hr,J⟩:=h;refine cE ?_;simp only [execOp,G_,hr,Result.andThen_ok];exact J
 case insert t m k x=>
  obtain ⟨w',hr,J⟩:=h;refine cE ?_;simp only [execOp,G_,hr,Result.andThen_ok];exact J
 case range t x=>exact cE (kR h)
 case next x s=>
  cases s with
  |true=>exact h.elim
  |false=>
  refine cE ?_;simp only [execOp,gY];rcases h with ⟨w',hr,J⟩| ⟨w',k,v,hr,J⟩
  . rw [hr];exact J
  . rw [hr];exact J
 case entry x=>
  obtain ⟨w',k,v,hr,J⟩:=h;refine cE ?_;simp only [execOp,gY];rw [hr];exact J
 case extract x k=>
  simp only [pP] at h;split at h
  . rename_i vs Q;split at h
    . rename_i v hv;exact ⟨v,fun w'=>by simp only [execOp,gY,Q,Instr.extract,hv,Sem.run_pure,Result.andThen_ok],h⟩
    . exact h.elim
  . exact h.elim
 case call c=>
  obtain ⟨callee,args,argTypes⟩:=c;have enter: ∀ (g:FuncId) (as:Array Value) (w:World),fX P g=true->(callFunc g as).run P w= .ok (.enter g as) w:=by
   intro g as w O;unfold fX at O;unfold callFunc;simp only [Sem.run_bind,run_program,Result.andThen_ok];split at O
   . rename_i fn av;simp only [Bool.and_eq_true,bne_iff_ne,ne_eq] at O;simp only [av];have h1:(fn.name== "runtime.NumGoroutine")=false:=by simpa using O.2
     have h2:fn.body.isNone=false:=by cases ay:fn.body<;>simp_all
     simp [h1,h2]
   . simp at O
  have I:args.map (ev f)=(Ab f args.toList).toArray:=by rw [yP,ua]
  cases callee with
  |invoke r m=>exact h.elim
  |builtin b=>
   simp only [pP,rT] at h;cases b<;>simp only at h
   case append=>
    refine cE ?_;simp only [execOp,resolve,Sem.run_bind,Sem.run_pure,Result.andThen_ok,invoke,builtin,I];have:=kR h;rw [gY] at this;exact this
   case copy=>
    refine cE ?_;simp only [execOp,resolve,Sem.run_bind,Sem.run_pure,Result.andThen_ok,invoke,builtin,I];have:=kR h;rw [gY] at this;exact this
   case delete=>
    obtain ⟨w',hr,J⟩:=h;refine cE ?_;simp only [execOp,resolve,Sem.run_bind,Sem.run_pure,Result.andThen_ok,invoke,builtin,I,hr];exact J
   case clear=>
    obtain ⟨w',hr,J⟩:=h;refine cE ?_;simp only [execOp,resolve,Sem.run_bind,Sem.run_pure,Result.andThen_ok,invoke,builtin,I,hr];exact J
   case len=>
    split at h
    . rename_i p n c hl;split at h
      . rename_i e he;cases ha:argTypes[0]? with
        |none=>simp [ha] at he
        |some t=>
         simp only [ha,Option.bind_some] at he;refine ⟨_,?_,h⟩;simp only [execOp,resolve,Sem.run_bind,Sem.run_pure,Result.andThen_ok,invoke,builtin,I,hl,Builtin.len_,ha];simp [bT he,goInt]
      . exact h.elim
    . rename_i r hl;obtain ⟨n,hr,J⟩:=h;refine ⟨_,?_,J⟩;simp only [execOp,resolve,Sem.run_bind,Sem.run_pure,Result.andThen_ok,invoke,builtin,I,hl,hr]
    . exact h.elim
   case max=>
    split at h
    . rename_i a c hl;refine ⟨_,fun w'=> ?_,h⟩;simp only [execOp,resolve,Sem.run_bind,Sem.run_pure,Result.andThen_ok,invoke,builtin,I,hl,Builtin.max_];simp [Builtin.max2];first|done|rfl| (unfold imax;rfl)
    . rename_i a c d hl;refine ⟨_,fun w'=> ?_,h⟩;simp only [execOp,resolve,Sem.run_bind,Sem.run_pure,Result.andThen_ok,invoke,builtin,I,hl,Builtin.max_];simp [Builtin.max2];first|done|rfl| (unfold imax;rfl)
    . exact h.elim
   case min=>
    split at h
    . rename_i a c hl;refine ⟨_,fun w'=> ?_,h⟩;simp only [execOp,resolve,Sem.run_bind,Sem.run_pure,Result.andThen_ok,invoke,builtin,I,hl,Builtin.min_];simp [Builtin.min2];first|done|rfl| (unfold ka;rfl)
    . rename_i a c d hl;refine ⟨_,fun w'=> ?_,h⟩;simp only [execOp,resolve,Sem.run_bind,Sem.run_pure,Result.andThen_ok,invoke,builtin,I,hl,Builtin.min_];simp [Builtin.min2];first|done|rfl| (unfold ka;rfl)
    . exact h.elim
  |value x=>
   have go: ∀ (g:FuncId) (as:Array Value),Id P g as type w K->Calls P g as w fun e aa=> ∃v,e= .returned v/\K v aa:=
    fun g as h=>h.mono fun e w' hr=>Bn hr
   cases x with
   |func g=>
    have O:fX P g=true:=Y;refine cE ?_;simp only [execOp,resolve,ev,Deferred.ofValue,Sem.run_bind,Sem.run_pure,Result.andThen_ok,invoke,I];simp only [Array.empty_append,Array.append_empty];rw [enter g _ w O];exact go _ _ h
   |_=>
    simp only [pP] at h;split at h
    . rename_i g first captured Q
      cases O:fX P g with
      |false=>rw [O] at h;exact h.elim
      |true=>
       rw [O] at h;refine cE ?_;simp only [execOp,resolve,Q,Deferred.ofValue,Sem.run_bind,Sem.run_pure,Result.andThen_ok,invoke,I];rw [enter g _ w O];exact go _ _ h
    . exact h.elim
 all_goals exact h.elim
end Go.Fw
