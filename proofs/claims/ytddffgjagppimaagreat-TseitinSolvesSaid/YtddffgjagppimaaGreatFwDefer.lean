/- Functions that defer one call, and functions that are called so. -/
import Derived.Test.YtddffgjagppimaaGreatFwSound
import Derived.Defers
namespace Go.Fw
open Go
variable {P:Program} {D:List Deferred}
theorem enter_of {g:FuncId} (hg:entB P g=true) (as:Array Value) (w:World):(callFunc g as).run P w= .ok (.enter g as) w:=by
 unfold entB at hg
 unfold callFunc
 simp only [Sem.run_bind,run_program,Result.andThen_ok]
 split at hg
 · rename_i fn hfn
   simp only [Bool.and_eq_true,bne_iff_ne,ne_eq] at hg
   simp only [hfn]
   have h1:(fn.name== "runtime.NumGoroutine")=false:=by simpa using hg.2
   have h2:fn.body.isNone=false:=by cases hbd:fn.body<;>simp_all
   simp [h1,h2]
 · simp at hg
end Go.Fw
