/- Layer 10: the laws over any values. -/
import Derived.Test.YtamckcamloelbaaLuby3
import Derived.Test.YtamckcamloelbaaLuby5
import Derived.Test.YtamckcamloelbaaFwRead
namespace Go.Proofs.Ytamckcamloelbaa.W
open Go Go.Fw Go.RowKit Go.Luby

theorem LubyPowers_law (v0 v1 : Value) (W : World) (h0 : RdV W (.int .u8) v0) (h1 : RdV W (.int .i64) v1) : Calls Try.prog fathomlaw10_LubyPowers.id #[v0, v1] W fun e W' => e = .returned (.bool true) ∧ Grow W W' := by
  obtain ⟨k, rfl, hk⟩ := h0
  obtain ⟨i, rfl, hi⟩ := h1
  exact (LubyPowers_calls k i (bdU8_of_wf hk) W).mono fun _ _ h => ⟨h.1, h.2.mod⟩

theorem LubyTicks_law (v0 v1 : Value) (W : World) (h0 : RdV W (.cons (.int .i64) (.cons (.int .i64) (.cons (.int .i64) .nil))) v0) (h1 : RdV W (.int .u8) v1) : Calls Try.prog fathomlaw10_LubyTicks.id #[v0, v1] W fun e W' => e = .returned (.bool true) ∧ Grow W W' := by
  obtain ⟨cs, rfl, _, _, rfl, ⟨a, rfl, _⟩, _, _, rfl, ⟨b, rfl, _⟩, _, _, rfl, ⟨c, rfl, _⟩, rfl⟩ := h0
  obtain ⟨n, rfl, hn⟩ := h1
  exact LubyTicks_calls a b c n (bdU8_of_wf hn) W

theorem LubyPaces_law (v0 v1 : Value) (W : World) (h0 : RdV W (.int .i64) v0) (h1 : RdV W (.int .u8) v1) : Calls Try.prog fathomlaw10_LubyPaces.id #[v0, v1] W fun e W' => e = .returned (.bool true) ∧ Grow W W' := by
  obtain ⟨u, rfl, _⟩ := h0
  obtain ⟨n, rfl, hn⟩ := h1
  exact LubyPaces_calls u n (bdU8_of_wf hn) W
end Go.Proofs.Ytamckcamloelbaa.W
