/- Layer 2: an arena in memory; what is looked at. -/
import Derived.Test.YtamckcamloelbaaLit0
import Derived.Test.YtamckcamloelbaaFwMap
import Derived.Test.YtamckcamloelbaaFwCopy
import Derived.Test.YtamckcamloelbaaArenaPure
namespace Go.Proofs.Ytamckcamloelbaa.W
open Go Go.Fw Go.RowKit Go.ArP

theorem sl_int : slOk Try.prog ty_sl_int ty_int 8 = true := by kernel_rfl
theorem map_ib : mapB Try.prog ty_map_int_bool ty_int ty_bool = true := by kernel_rfl
theorem int_zero : (Try.prog.info? ty_int).bind (·.zero) = some (.int .i64 0) := by kernel_rfl
abbrev ptr (b : Nat) : Value := .pointer (some ⟨b, 0, none⟩)

/-- An arena's row and map, and its items. -/
structure AS where
  p : Option Addr
  c : Nat
  m : Nat
  n : Nat
  l : List It

def AS.foot (x : AS) (b k : Nat) : Prop := k = b ∨ blk x.p = some k ∨ k = x.m
abbrev AS.row (x : AS) : Array Value := #[.bool true, .slice x.p (wds x.l).length x.c, .map (some x.m), .int .i64 ((plc x.l 0).length : Int), .int .i64 (wst x.l : Int)]

structure ARep (w : World) (b : Nat) (x : AS) : Prop where
  me : Has w b x.row
  o : OwI ty_int w x.p x.c (wds x.l)
  mp : ∃ s, MB Try.prog ty_int ty_bool w x.m x.n s ∧ ∀ a, s a = true ↔ ∃ i, At x.l a i
  bp : blk x.p ≠ some b
  bm : x.m ≠ b
  pm : blk x.p ≠ some x.m
  nn : x.n ≤ x.l.length

theorem ARep.keep {w w' : World} {b : Nat} {x : AS} {S : Nat → Prop} (h : ARep w b x) (m : Mod S w w') (hS : ∀ k, x.foot b k → ¬ S k) : ARep w' b x := by
  obtain ⟨s, hs, ha⟩ := h.mp
  exact ⟨h.me.keep m (hS b (.inl rfl)), h.o.keep m fun k hk => hS k (.inr (.inl hk)), ⟨s, hs.keep m (hS _ (.inr (.inr rfl))), ha⟩, h.bp, h.bm, h.pm, h.nn⟩
theorem ARep.grow {w w' : World} {b : Nat} {x : AS} (h : ARep w b x) (m : Grow w w') : ARep w' b x := h.keep m fun _ _ => id
theorem ARep.drew {w : World} {b : Nat} {x : AS} (h : ARep w b x) : ARep w.drew b x := h.grow (Mod.refl w).drew
theorem ARep.lt {w : World} {b : Nat} {x : AS} (h : ARep w b x) : ∀ k, x.foot b k → k < w.heap.size := by
  rintro k (rfl | hk | rfl)
  · exact h.me.lt
  · exact h.o.lt k hk
  · obtain ⟨s, hs, _⟩ := h.mp
    exact hs.lt

theorem has_ok {w : World} {b : Nat} {x : AS} (h : ARep w b x) {a : Int} (ha : (Lit.int .i64 a).wf = true) : Calls Try.prog arena_Arena_has.id #[ptr b, .int .i64 a] w fun e w' => (∃ r, e = .returned (.bool r) ∧ (r = true ↔ ∃ i, At x.l a i)) ∧ w' = w := by
  refine arena_Arena_has.calls ?_
  obtain ⟨s, hs, hsa⟩ := h.mp
  exact cnd_t rfl ⟨_, rfl, _, cell_add h.me rfl, _, _, hs.look map_ib ha, ⟨_, rfl, hsa a⟩, rfl⟩

theorem count_ok {w : World} {b : Nat} {x : AS} (h : ARep w b x) : Calls Try.prog arena_Arena_Count.id #[ptr b] w fun e w' => e = .returned (.int .i64 ((plc x.l 0).length : Int)) ∧ Grow w w' := by
  refine arena_Arena_Count.calls ?_
  exact cnd_f rfl ⟨_, rfl, _, cell_add h.me rfl, rfl, Mod.refl w⟩
theorem waste_ok {w : World} {b : Nat} {x : AS} (h : ARep w b x) : Calls Try.prog arena_Arena_Waste.id #[ptr b] w fun e w' => e = .returned (.int .i64 (wst x.l : Int)) ∧ Grow w w' := by
  refine arena_Arena_Waste.calls ?_
  exact cnd_f rfl ⟨_, rfl, _, cell_add h.me rfl, rfl, Mod.refl w⟩
theorem words_ok {w : World} {b : Nat} {x : AS} (h : ARep w b x) : Calls Try.prog arena_Arena_Words.id #[ptr b] w fun e w' => e = .returned (.int .i64 ((wds x.l).length : Int)) ∧ Grow w w' := by
  refine arena_Arena_Words.calls ?_
  exact cnd_f rfl ⟨_, rfl, _, _, _, cell_add h.me rfl, rfl, Mod.refl w⟩
end Go.Proofs.Ytamckcamloelbaa.W
