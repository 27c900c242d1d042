/- Layer 15: nodes in memory. -/
import Derived.Test.YtambabpklfeaoaaGenRef
import Derived.Test.YtambabpklfeaoaaFwMore
import Derived.Test.YtambabpklfeaoaaFwMore
namespace Go.Proofs.Ytambabpklfeaoaa.W
open Go Go.Fw Go.RowKit

abbrev gateV (x : Int × Int) : List Value := [.int .i64 x.1, .int .i64 x.2]
theorem gateE : Enc 2 gateV := ⟨fun _ => rfl, by decide, fun x v hv => by simp [gateV] at hv; rcases hv with rfl | rfl <;> rfl⟩
theorem sl_gate : slOkN Try.prog ty_sl_api_Gate ty_api_Gate 2 16 = true := by kernel_rfl
theorem sl_int : slOk Try.prog ty_sl_int ty_int 8 = true := by kernel_rfl
theorem sl_sl_int : slOk Try.prog ty_sl_sl_int ty_sl_int 24 = true := by kernel_rfl
theorem int_zero : (Try.prog.info? ty_int).bind (·.zero) = some (.int .i64 0) := by kernel_rfl

abbrev ptr (b : Nat) : Value := .pointer (some ⟨b, 0, none⟩)

theorem aigInput_ok (w : World) : Calls Try.prog aig_input.id #[] w fun e w' => e = .returned (.agg #[.int .i64 (-1), .int .i64 (-1)]) ∧ Grow w w' := by
  refine aig_input.calls ?_
  intro n1 w2 h1
  have s1 := h1.num
  refine store_i h1.has rfl rfl fun w3 H m => ⟨_, _, ⟨cell_add H rfl, cell_add H rfl, trivial⟩, rfl, h1.mod.then m fun k hk (e : k = n1) => by omega⟩
end Go.Proofs.Ytambabpklfeaoaa.W
