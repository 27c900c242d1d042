/- The tail of a row of one's own is cleared. -/
import Derived.Test.YtlpmapeojecenaaFwRows
namespace Go.Fw
open Go Go.RowKit
variable {P : Program} {α : Type} {f : α → Value} {T : TypeId} {w w' : World} {p : Option Addr} {c : Nat} {l : List α}

theorem Ow.clear {t ty e bytes : Nat} (hs : slOk P t e bytes = true) {x : α} {v : Value} (hz : (P.info? e).bind (·.zero) = some v) (hv : v.cells = #[f x]) (ho : (f x).oneCell' = true) (h : Ow f e w p c l) {k m d : Nat} (hk : k + m = l.length) (hm : 0 < m) {K : World → Prop}
    (hK : ∀ w', Ow f e w' p c (l.take k) → Mod (fun b => blk p = some b) w w' → K w') :
    ∃ w', (Builtin.clear_ #[t] ty #[.slice (p.map (·.add (k * 1))) m d]).run P w = .ok (.tuple #[]) w' ∧ K w' := by
  obtain ⟨ht, i, z, hi, hz', h1, hb, h3⟩ := slOk_spec hs
  have hzz : z = v := by simp only [hi, Option.bind_some] at hz; rw [hz'] at hz; exact Option.some.inj hz
  subst hzz
  rcases h.un with ⟨rfl, rfl, rfl⟩ | ⟨g, cur, rfl, hg, g1, g2, g3, g4⟩
  · simp at hk; omega
  · have hzc : (Builtin.zeroCells z.cells m).toList = List.replicate m (f x) := by
      rw [hv]
      simp [Builtin.zeroCells]
      apply List.ext_getElem
      · simp
      · intro i h1 h2
        simp [Nat.mod_one]
    obtain ⟨w2, hst, hh⟩ := store_t (b := g) (off := 0 + k * 1) (i := 0) (vs := List.replicate m (f x)) (K := fun w' => ∃ w'' : World, w'' = w' ∧ w'.heap[g]? = some (.cells (wr cur (0 + k * 1 + 0) (List.replicate m (f x))) e (0, 0)) ∧ Mod (· = g) w w') hg (by simp; omega) (by
      rw [List.all_eq_true]; intro u hu; rw [List.eq_of_mem_replicate hu]; exact ho) fun w' a1 a2 _ => ⟨w', rfl, a1, a2⟩
    obtain ⟨_, _, a1, a2⟩ := hh
    refine ⟨w2, ?_, hK w2 ?_ (a2.mono fun b _ hb => by subst hb; rfl)⟩
    · have hr := run_storeCells (P := P) ⟨g, 0 + k * 1, none⟩ _ _ _ _ hst
      obtain ⟨m, rfl⟩ : ∃ n, m = n + 1 := ⟨m - 1, by omega⟩
      have hzv : (zeroValue e : Sem Value).run P w = .ok z w := by
        simp [zeroValue, typeInfo, hi, hz', Sem.run_bind]
      simp only [Option.map_some, add_at]
      rw [Nat.zero_add, Nat.mul_one] at hr
      simp [Builtin.clear_, run_underlying ht, hzv, hzc, hr]
    · have hw : (wr cur (0 + k * 1 + 0) (List.replicate m (f x))).toList = cur.toList.take k ++ List.replicate m (f x) ++ cur.toList.drop (k + m) := by
        rw [wr_list _ _ _ (by simp; omega)]
        simp
      refine Ow.of_some a1 (by simp; omega) g2 (by rw [wr_size]; exact g3) ?_
      rw [hw, List.length_take, Nat.min_eq_left (by omega), List.append_assoc, List.take_append_of_le_length (by simp; omega), List.take_take, Nat.min_self, List.map_take, ← g4, List.take_take, Nat.min_eq_left (by omega)]
end Go.Fw
