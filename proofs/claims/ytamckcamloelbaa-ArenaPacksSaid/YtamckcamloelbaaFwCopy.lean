/- Copies into rows of one's own. -/
import Derived.Test.YtamckcamloelbaaFwView
import Derived.Laws.CopyRow
import Derived.Laws.IdiomCopy
namespace Go.Fw
open Go Go.RowKit
variable {P : Program} {α : Type} {f : α → Value} {T : TypeId} {w w' : World} {p q : Option Addr} {c : Nat} {l : List α}

/-- As many are copied as there is room for, into a row of one's own; what is copied may lie in the same row. -/
theorem Ow.copy {t ty e bytes : Nat} (hs : slOk P t e bytes = true) (h : Ow f e w p c l) {o m d k : Nat} {news : List α} (h2 : Vw f w q news) (hm : m = news.length) (hfit : o + m ≤ l.length) (ho : ∀ x, (f x).oneCell' = true) {K : World → Prop}
    (hk : ∀ w', Ow f e w' p c (l.take o ++ news ++ l.drop (o + m)) → Mod (fun b => blk p = some b) w w' → w'.heap.size = w.heap.size → K w') :
    ∃ w', ∃ r : Int, (Builtin.copy_ #[t, t] ty #[.slice (p.map (·.add (o * 1))) m d, .slice q m k]).run P w = .ok (.int .i64 r) w' ∧ K w' := by
  obtain ⟨ht, i, z, hi, hz, h1, hb, h3⟩ := slOk_spec hs
  have hsz : (P.info? e).map (·.size) = some 1 := by rw [hi]; simp [h1]
  subst hm
  rcases Nat.eq_zero_or_pos news.length with h0 | h0
  · have hn : news = [] := List.eq_nil_of_length_eq_zero h0
    subst hn
    refine ⟨w, 0, run_copy_none w t t ty e _ _ _ _ _ _ ht hsz (by simp), ?_⟩
    exact hk w (by simpa using h) (Mod.refl w) rfl
  · obtain ⟨a, rfl, _⟩ := h2 0 h0
    rcases h.un with ⟨rfl, rfl, rfl⟩ | ⟨g, cur, rfl, hg, g1, g2, g3, g4⟩
    · rw [List.length_nil] at hfit; omega
    · have hr := run_copy_row (P := P) w t t ty e g o news.length d a news.length k cur e (news.map f) ht hsz hg (by simp) (fun j v hj => by
        have hj' : j < news.length := by have := (List.getElem?_eq_some_iff.1 hj).1; simpa using this
        obtain ⟨a', ha, hc⟩ := h2 j hj'
        simp only [Option.some.injEq] at ha
        subst ha
        rw [hc]
        simpa [hj'] using hj) (by simp; omega) (fun u hu => by obtain ⟨x, _, rfl⟩ := List.mem_map.1 hu; exact ho x)
      refine ⟨_, ((news.map f).length : Int), ?_, hk (w.setRow g (cur.toList.take o ++ news.map f ++ cur.toList.drop (o + (news.map f).length)).toArray) (Ow.of_some (setRow_heap w g cur _ e _ hg) (by simp; omega) g2 ?_ ?_) ⟨rfl, rfl, rfl, by simp, fun k _ hk => setRow_other w g k _ fun he => hk (by simp [blk, he])⟩ (by simp [World.setRow])⟩
      · simp only [Option.map_some, add_at, Nat.zero_add, Nat.mul_one]
        exact hr
      · simp; omega
      · have hl : (l.take o ++ news ++ l.drop (o + news.length)).length = l.length := by simp; omega
        rw [hl, List.map_append, List.map_append, List.map_take, List.map_drop, ← g4]
        have hc : cur.toList.length = c := by simpa using g3
        apply List.ext_getElem?
        intro j
        simp only [List.length_map, List.getElem?_take, List.getElem?_append, List.length_append, List.length_take, List.getElem?_drop, hc]
        repeat' split
        all_goals first
          | rfl
          | omega
          | (congr 1; omega)
end Go.Fw
