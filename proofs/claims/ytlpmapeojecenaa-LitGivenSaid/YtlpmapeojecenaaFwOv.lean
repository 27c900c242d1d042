/- Lists of rows whose heads one has made, and whose rows are only looked at. -/
import Derived.Test.YtlpmapeojecenaaFwSq
namespace Go.Fw
open Go Go.RowKit
variable {P : Program} {α : Type} {f : α → Value} {T : TypeId} {w w' : World} {p q : Option Addr} {c : Nat} {hs ns : List Sl} {rows nrows : List (List α)}

theorem Vw.keepN {S : Nat → Prop} {l : List α} (h : Vw f w p l) (m : Mod S w w') (hs : l ≠ [] → ∀ b, blk p = some b → ¬ S b) : Vw f w' p l := by
  by_cases hl : l = []
  · subst hl; exact Vw.nil
  · exact h.keep m (hs hl)

/-- Rows by their heads, only looked at. -/
structure VR (f : α → Value) (w : World) (hs : List Sl) (rows : List (List α)) : Prop where
  n : hs.length = rows.length
  r : ∀ j, j < rows.length → (hs.getD j Sl.nil).n = (rows.getD j []).length ∧ (hs.getD j Sl.nil).n ≤ maxLen ∧ Vw f w (hs.getD j Sl.nil).p (rows.getD j [])

/-- The blocks of rows that are not empty. -/
def rfoot (hs : List Sl) (k : Nat) : Prop := ∃ h ∈ hs, 0 < h.n ∧ blk h.p = some k

theorem VR.keep {S : Nat → Prop} (h : VR f w hs rows) (m : Mod S w w') (hS : ∀ k, rfoot hs k → ¬ S k) : VR f w' hs rows := by
  refine ⟨h.n, fun j hj => ?_⟩
  obtain ⟨h1, h2, h3⟩ := h.r j hj
  refine ⟨h1, h2, h3.keepN m fun hne k hk => hS k ⟨_, ?_, ?_, hk⟩⟩
  · have : j < hs.length := by rw [h.n]; exact hj
    simp [List.getD, this]
  · rw [h1]; exact List.length_pos_iff.2 hne
theorem VR.grow (h : VR f w hs rows) (m : Grow w w') : VR f w' hs rows := h.keep m fun _ _ => id
theorem VR.drew (h : VR f w hs rows) : VR f w.drew hs rows := h.grow (Mod.refl w).drew
theorem VR.nil : VR f w [] [] := ⟨rfl, fun j hj => by simp at hj⟩
theorem VR.lt (h : VR f w hs rows) : ∀ k, rfoot hs k → k < w.heap.size := by
  rintro k ⟨s, hm, h0, hk⟩
  obtain ⟨j, hj, rfl⟩ := mem_getD hm
  obtain ⟨h1, h2, h3⟩ := h.r j (by rw [← h.n]; exact hj)
  exact h3.lt (List.length_pos_iff.1 (by rw [← h1]; exact h0)) k hk
theorem getD_app2 {β : Type} {l k : List β} {j : Nat} {d : β} : (l ++ k).getD j d = if j < l.length then l.getD j d else k.getD (j - l.length) d := by
  simp only [List.getD_eq_getElem?_getD]
  by_cases h : j < l.length
  · rw [if_pos h, List.getElem?_append_left h]
  · rw [if_neg h, List.getElem?_append_right (by omega)]
theorem VR.app (h : VR f w hs rows) (k : VR f w ns nrows) : VR f w (hs ++ ns) (rows ++ nrows) := by
  refine ⟨by simp [h.n, k.n], fun j hj => ?_⟩
  rw [getD_app2, getD_app2, h.n]
  by_cases e : j < rows.length
  · rw [if_pos e, if_pos e]; exact h.r j e
  · rw [if_neg e, if_neg e]
    exact k.r (j - rows.length) (by simp at hj; omega)
theorem VR.one {s : Sl} {l : List α} (h : Vw f w s.p l) (hn : s.n = l.length) (hm : s.n ≤ maxLen) : VR f w [s] [l] := by
  refine ⟨rfl, fun j hj => ?_⟩
  have : j = 0 := by simpa using hj
  subst this
  exact ⟨hn, hm, h⟩
theorem VR.v2 (h : VR f w hs rows) (v : Vw Sl.v w p hs) : V2 f w p hs rows := ⟨v, h.n, h.r⟩
theorem V2.vr (h : V2 f w p hs rows) : VR f w hs rows := ⟨h.n, h.r⟩
theorem V2.grow' (h : V2 f w p hs rows) (m : Grow w w') : V2 f w' p hs rows := (h.vr.grow m).v2 (h.h.grow m)

/-- Such a list. -/
structure OV (f : α → Value) (T : TypeId) (w : World) (p : Option Addr) (c : Nat) (hs : List Sl) (rows : List (List α)) : Prop where
  h : Ow Sl.v T w p c hs
  v : VR f w hs rows
  d : ∀ k, rfoot hs k → blk p ≠ some k

theorem OV.nil : OV f T w none 0 [] [] := ⟨Ow.nil _ _ _, VR.nil, fun k ⟨s, hs, _⟩ => by simp at hs⟩
def OV.foot (p : Option Addr) (hs : List Sl) (k : Nat) : Prop := blk p = some k ∨ rfoot hs k
theorem OV.keep {S : Nat → Prop} (h : OV f T w p c hs rows) (m : Mod S w w') (hS : ∀ k, OV.foot p hs k → ¬ S k) : OV f T w' p c hs rows :=
  ⟨h.h.keep m fun k hk => hS k (.inl hk), h.v.keep m fun k hk => hS k (.inr hk), h.d⟩
theorem OV.grow (h : OV f T w p c hs rows) (m : Grow w w') : OV f T w' p c hs rows := h.keep m fun _ _ => id
theorem OV.drew (h : OV f T w p c hs rows) : OV f T w.drew p c hs rows := h.grow (Mod.refl w).drew
theorem OV.lt (h : OV f T w p c hs rows) : ∀ k, OV.foot p hs k → k < w.heap.size := by
  rintro k (hk | hk)
  · exact h.h.lt k hk
  · exact h.v.lt k hk
theorem OV.v2 (h : OV f T w p c hs rows) : V2 f w p hs rows := h.v.v2 h.h.vw

theorem rfoot_app {k : Nat} : rfoot (hs ++ ns) k ↔ rfoot hs k ∨ rfoot ns k := by
  constructor
  · rintro ⟨s, hm, h⟩
    rcases List.mem_append.1 hm with hm | hm
    · exact .inl ⟨s, hm, h⟩
    · exact .inr ⟨s, hm, h⟩
  · rintro (⟨s, hm, h⟩ | ⟨s, hm, h⟩)
    · exact ⟨s, List.mem_append_left _ hm, h⟩
    · exact ⟨s, List.mem_append_right _ hm, h⟩

/-- Rows more. -/
theorem OV.app {t ty bytes : Nat} (hsl : slOk P t T bytes = true) (h : OV f T w p c hs rows) {n m k : Nat} (hv : Vw Sl.v w q ns) (hr : VR f w ns nrows) (hn : n = hs.length) (hm : m = ns.length) (hd : ∀ k, rfoot ns k → blk p ≠ some k)
    (hlen : (hs.length + ns.length) * (bytes + 1) ≤ 140737488355328) {K : World → Option Addr → Nat → Nat → Prop}
    (hk : ∀ w' p' c', OV f T w' p' c' (hs ++ ns) (rows ++ nrows) → Mod (fun b => blk p = some b) w w' → (p' = p ∨ p' = some ⟨w.heap.size, 0, none⟩) → w.heap.size ≤ w'.heap.size → K w' p' (hs ++ ns).length c') :
    ∃ w', ∃ p' n' c', (Builtin.append_ #[t, t] ty #[.slice p n c, .slice q m k]).run P w = .ok (.slice p' n' c') w' ∧ K w' p' n' c' := by
  refine h.h.appV hsl hv hn hm (fun _ => rfl) hlen fun w' p' c' o mm hp hz => hk w' p' c' ⟨o, ?_, ?_⟩ mm hp hz
  · exact (h.v.keep mm fun k hk e => h.d k hk e).app (hr.keep mm fun k hk e => hd k hk e)
  · intro j hj e
    rcases hp with h1 | h1 <;> rw [h1] at e
    · rcases rfoot_app.1 hj with hj | hj
      · exact h.d j hj e
      · exact hd j hj e
    · have : j = w.heap.size := by simp [blk] at e; exact e.symm
      rcases rfoot_app.1 hj with hj | hj
      · have := h.v.lt j hj; omega
      · have := hr.lt j hj; omega

/-- Cells behind more than one step. -/
theorem cell_add2 {b i j : Nat} {cs : Array Value} {v : Value} (h : Has w b cs) (hv : cs[0 + i + j]? = some v) : w.cell? (((Addr.mk b 0 none).add i).add j) = some v := by rw [add_at, add_at]; exact cell_of h hv
theorem cell_add3 {b i j k : Nat} {cs : Array Value} {v : Value} (h : Has w b cs) (hv : cs[0 + i + j + k]? = some v) : w.cell? ((((Addr.mk b 0 none).add i).add j).add k) = some v := by rw [add_at, add_at, add_at]; exact cell_of h hv
theorem store_f2 {b k j i : Nat} {cs : Array Value} {K : World → Prop} {vs : List Value} (h : Has w b cs) (hl : Nat.ble (0 + k + j + i + vs.length) cs.size = true) (ho : vs.all oneCell = true)
    (hk : ∀ w', Has w' b (wr cs (0 + k + j + i) vs) → Mod (· = b) w w' → K w') : ∃ w', StoreAt (((Addr.mk b 0 none).add k).add j) i vs w w' ∧ K w' := by
  rw [add_at, add_at]
  exact store_i h hl ho hk
theorem store_f3 {b k j l i : Nat} {cs : Array Value} {K : World → Prop} {vs : List Value} (h : Has w b cs) (hl : Nat.ble (0 + k + j + l + i + vs.length) cs.size = true) (ho : vs.all oneCell = true)
    (hk : ∀ w', Has w' b (wr cs (0 + k + j + l + i) vs) → Mod (· = b) w w' → K w') : ∃ w', StoreAt ((((Addr.mk b 0 none).add k).add j).add l) i vs w w' ∧ K w' := by
  rw [add_at, add_at, add_at]
  exact store_i h hl ho hk
theorem blk_some {n : Nat} {k : Nat} (h : blk (some ⟨n, 0, none⟩) = some k) : k = n := by simp [blk] at h; exact h.symm
theorem New.size {o : Obj} {n : Nat} (h : New o w n w') : w'.heap.size = w.heap.size + 1 := by rw [h.eq]; simp
end Go.Fw
