/- Layer 6: what follows by units, by the document: plain. -/
import Derived.Test.YtdaiolinnpligaaPropD
namespace Go.Proofs.Ytdaiolinnpligaa.W
open Go Go.Fw Go.RowKit Go.SoP Go.LiP
variable {s t u s' : PSt} {l x y : Int} {i : Nat}

/-- The document's Unit, from a literal that is open on. -/
def unitG (t : List Int) : List Int → Int → Int
  | [], o => o
  | x :: c, o => if x ∈ t then 0 else if -x ∈ t ∨ x = o then unitG t c o else if o ≠ 0 then 0 else unitG t c x
def unitF (c t : List Int) : Int := unitG t c 0
def brokenP (c t : List Int) : Bool := c.all fun x => decide (-x ∈ t)

theorem unitG_ne {t : List Int} : ∀ (c : List Int) (o : Int), (∀ y ∈ c, y ≠ 0) → unitG t c o ≠ 0 → (∀ y ∈ c, y ∉ t ∧ (y = unitG t c o ∨ -y ∈ t)) ∧ (unitG t c o = o ∨ (o = 0 ∧ unitG t c o ∈ c ∧ -(unitG t c o) ∉ t))
  | [], o, _, _ => ⟨fun y hy => by simp at hy, .inl rfl⟩
  | x :: c, o, nz, h => by
    have nz' : ∀ y ∈ c, y ≠ 0 := fun y hy => nz y (List.mem_cons_of_mem _ hy)
    have nx : x ≠ 0 := nz x (List.mem_cons_self ..)
    unfold unitG at h ⊢
    by_cases h1 : x ∈ t
    · rw [if_pos h1] at h; exact absurd rfl h
    · rw [if_neg h1] at h ⊢
      by_cases h2 : -x ∈ t ∨ x = o
      · rw [if_pos h2] at h ⊢
        obtain ⟨a, b⟩ := unitG_ne c o nz' h
        refine ⟨fun y hy => ?_, b.imp id fun e => ⟨e.1, List.mem_cons_of_mem _ e.2.1, e.2.2⟩⟩
        rcases List.mem_cons.1 hy with rfl | hy
        · refine ⟨h1, ?_⟩
          rcases h2 with h2 | h2
          · exact .inr h2
          · rcases b with b | ⟨b, _⟩
            · exact .inl (h2.trans b.symm)
            · omega
        · exact a y hy
      · rw [if_neg h2] at h ⊢
        by_cases h3 : o ≠ 0
        · rw [if_pos h3] at h; exact absurd rfl h
        · rw [if_neg h3] at h ⊢
          obtain ⟨a, b⟩ := unitG_ne c x nz' h
          have h3 : o = 0 := by omega
          have hx : -x ∉ t := fun e => h2 (.inl e)
          have ex : unitG t c x = x := by
            rcases b with b | ⟨b, _⟩
            · exact b
            · exact absurd b nx
          refine ⟨fun y hy => ?_, .inr ⟨h3, by rw [ex]; exact List.mem_cons_self .., by rw [ex]; exact hx⟩⟩
          rcases List.mem_cons.1 hy with rfl | hy
          · exact ⟨h1, .inl ex.symm⟩
          · exact a y hy

theorem unitF_ne {c t : List Int} (nz : ∀ y ∈ c, y ≠ 0) (h : unitF c t ≠ 0) : unitF c t ∈ c ∧ unitF c t ∉ t ∧ -(unitF c t) ∉ t ∧ ∀ y ∈ c, y = unitF c t ∨ -y ∈ t := by
  obtain ⟨a, b⟩ := unitG_ne c 0 nz h
  rcases b with b | ⟨_, b1, b2⟩
  · exact absurd b h
  · exact ⟨b1, (a _ b1).1, b2, fun y hy => (a y hy).2⟩

/-- A clause of which one literal is open, and all others are false, is unit. -/
theorem unitG_is {t : List Int} {l : Int} (hl0 : l ≠ 0) (hn : -l ∉ t) : ∀ (c : List Int) (o : Int), (∀ y ∈ c, y ∉ t ∧ (y = l ∨ -y ∈ t)) → (o = l ∨ (o = 0 ∧ l ∈ c)) → unitG t c o = l
  | [], o, _, ho => by
    rcases ho with ho | ⟨_, h⟩
    · exact ho
    · simp at h
  | x :: c, o, hc, ho => by
    have hx := hc x (List.mem_cons_self ..)
    have hc' : ∀ y ∈ c, y ∉ t ∧ (y = l ∨ -y ∈ t) := fun y hy => hc y (List.mem_cons_of_mem _ hy)
    unfold unitG
    rw [if_neg hx.1]
    by_cases e : x = l
    · subst e
      by_cases h2 : -x ∈ t ∨ x = o
      · rw [if_pos h2]
        refine unitG_is hl0 hn c o hc' ?_
        rcases h2 with h2 | h2
        · exact absurd h2 hn
        · exact .inl h2.symm
      · rw [if_neg h2]
        rcases ho with ho | ⟨ho, _⟩
        · exact absurd (Or.inr ho.symm) h2
        · rw [if_neg (by omega)]
          exact unitG_is hl0 hn c x hc' (.inl rfl)
    · have h3 : -x ∈ t := hx.2.resolve_left e
      rw [if_pos (.inl h3)]
      refine unitG_is hl0 hn c o hc' (ho.imp id fun h => ⟨h.1, ?_⟩)
      rcases List.mem_cons.1 h.2 with h | h
      · exact absurd h.symm e
      · exact h

theorem brokenP_iff {c t : List Int} : brokenP c t = true ↔ ∀ x ∈ c, -x ∈ t := by
  unfold brokenP; simp [List.all_eq_true]

/-- What is told to follow, step by step. -/
inductive Fol (cs : List (List Int)) (d : List Int) : List Int → Prop
  | refl : Fol cs d d
  | step {t : List Int} {c : List Int} : Fol cs d t → c ∈ cs → unitF c t ≠ 0 → Fol cs d (t ++ [unitF c t])

/-- Clauses that are there, as they were added. -/
def PSt.cls (s : PSt) (c : List Int) : Prop := ∃ i, s.There i ∧ s.R (.a i) = c
/-- The decisions. -/
def PSt.dec (s : PSt) : List Int := (s.R .be).map fun e => (s.R .tr).getD e.toNat 0

theorem Good.clv (g : Good s) {c : List Int} (h : s.cls c) : ∀ x ∈ c, InV s.vars x := by
  obtain ⟨i, hi, rfl⟩ := h
  exact fun x hx => g.cv i hi x ((g.ca i hi x).2 hx)

theorem Good.dec_mem (g : Good s) : ∀ x ∈ s.dec, x ∈ s.R .tr := by
  intro x hx
  obtain ⟨e, he, rfl⟩ := List.mem_map.1 hx
  obtain ⟨j, hj, e2⟩ := List.mem_iff_getElem.1 he
  have := g.bl j hj
  simp only [List.getD, List.getElem?_eq_getElem hj, Option.getD_some, e2] at this
  exact getD_mem' (by omega)
theorem dec_at {p : Nat} (h : (p : Int) ∈ s.R .be) : (s.R .tr).getD p 0 ∈ s.dec :=
  List.mem_map.2 ⟨(p : Int), h, by rw [Int.toNat_natCast]⟩

/-- Whatever is so of the decisions, and is handed on by units, is so of the trail. -/
theorem Good.trail_all (g : Good s) {Q : Int → Prop} (hd : ∀ x ∈ s.dec, Q x) (hc : ∀ c, s.cls c → ∀ l ∈ c, (∀ y ∈ c, y ≠ l → Q (-y)) → -l ∉ s.R .tr → Q l) : ∀ x ∈ s.R .tr, Q x := by
  have key : ∀ p, p < (s.R .tr).length → Q ((s.R .tr).getD p 0) := by
    intro p
    induction p using Nat.strongRecOn with
    | _ p ih =>
      intro hp
      by_cases hb : (p : Int) ∈ s.R .be
      · exact hd _ (dec_at hb)
      · obtain ⟨i, e1, e2, e3, e4⟩ := g.re2 p hp hb
        refine hc _ ⟨i, e2, rfl⟩ _ ((g.ca i e2 _).1 e3) (fun y hy hne => ?_) (g.cons (getD_mem' hp))
        have := e4 y ((g.ca i e2 y).2 hy) hne
        obtain ⟨q, hq, e⟩ := List.mem_iff_getElem.1 this
        rw [List.length_take] at hq
        have e5 : (s.R .tr).getD q 0 = -y := by
          rw [List.getElem_take] at e
          simp [List.getD, show q < (s.R .tr).length by omega, e]
        rw [← e5]
        exact ih q (by omega) (by omega)
  intro x hx
  obtain ⟨p, hp, e⟩ := List.mem_iff_getElem.1 hx
  have := key p hp
  simp only [List.getD, List.getElem?_eq_getElem hp, Option.getD_some, e] at this
  exact this

/-- The trail lies in whatever has the decisions and is closed by units. -/
theorem Good.trail_sub (g : Good s) {T : List Int} (hd : ∀ x ∈ s.dec, x ∈ T) (hT : ∀ x ∈ T, -x ∉ T) (hc : ∀ c, s.cls c → brokenP c T = false ∧ unitF c T = 0) : ∀ x ∈ s.R .tr, x ∈ T := by
  refine g.trail_all hd fun c hcc l hl hy _ => ?_
  obtain ⟨h1, h2⟩ := hc c hcc
  have hv := g.clv hcc
  rcases Classical.em (l ∈ T) with h | h
  · exact h
  · exfalso
    have hnl : -l ∉ T := fun e => by
      rw [← Bool.not_eq_true, brokenP_iff] at h1
      exact h1 fun y hyc => by
        by_cases ey : y = l
        · rw [ey]; exact e
        · exact hy y hyc ey
    have := unitG_is (t := T) (hv l hl).1 hnl c 0 (fun y hyc => by
      by_cases ey : y = l
      · subst ey; exact ⟨h, .inl rfl⟩
      · have := hy y hyc ey
        exact ⟨fun e => hT y e this, .inr this⟩) (.inr ⟨rfl, hl⟩)
    have h3 := (hv l hl).1
    unfold unitF at h2
    omega

/-- A closed trail holds whatever follows of what it has. -/
theorem Closed.cl (hC : Closed s) (g : Good s) {c : List Int} (hc : s.cls c) : (∃ x ∈ c, x ∈ s.R .tr) ∨ ∃ x ∈ c, ∃ y ∈ c, x ≠ y ∧ x ∉ s.R .tr ∧ -x ∉ s.R .tr ∧ y ∉ s.R .tr ∧ -y ∉ s.R .tr := by
  have hv := g.clv hc
  obtain ⟨i, hi, rfl⟩ := hc
  rcases hC i hi with h | ⟨x, hx, y, hy, hne, vx, vy⟩
  · exact .inl h
  · have a := (g.v0 (hv x hx)).1 vx
    have b := (g.v0 (hv y hy)).1 vy
    exact .inr ⟨x, hx, y, hy, hne, a.1, a.2, b.1, b.2⟩
theorem Closed.unit (hC : Closed s) (g : Good s) {T c : List Int} (hT : ∀ x ∈ T, x ∈ s.R .tr) (hc : s.cls c) (h : unitF c T ≠ 0) : unitF c T ∈ s.R .tr := by
  obtain ⟨_, _, _, h4⟩ := unitF_ne (fun y hy => (g.clv hc y hy).1) h
  rcases hC.cl g hc with ⟨x, hx, hxt⟩ | ⟨x, hx, y, hy, hne, x1, x2, y1, y2⟩
  · rcases h4 x hx with e | e
    · rw [← e]; exact hxt
    · exact absurd (hT _ e) (g.cons hxt)
  · exfalso
    have ex : x = unitF c T := (h4 x hx).resolve_right fun e => x2 (hT _ e)
    have ey : y = unitF c T := (h4 y hy).resolve_right fun e => y2 (hT _ e)
    exact hne (ex.trans ey.symm)
theorem Closed.notBroken (hC : Closed s) (g : Good s) {T c : List Int} (hT : ∀ x ∈ T, x ∈ s.R .tr) (hc : s.cls c) : brokenP c T = false := by
  rw [← Bool.not_eq_true, brokenP_iff]
  intro h
  rcases hC.cl g hc with ⟨x, hx, hxt⟩ | ⟨x, hx, _, _, _, _, x2, _, _⟩
  · exact g.cons hxt (hT _ (h x hx))
  · exact x2 (hT _ (h x hx))
theorem Closed.fol (hC : Closed s) (g : Good s) {cs : List (List Int)} (hcs : ∀ c ∈ cs, s.cls c) {d T : List Int} (hd : ∀ x ∈ d, x ∈ s.R .tr) (h : Fol cs d T) : ∀ x ∈ T, x ∈ s.R .tr := by
  induction h with
  | refl => exact hd
  | step h1 h2 h3 ih =>
    intro x hx
    rcases List.mem_append.1 hx with hx | hx
    · exact ih x hx
    · rw [List.mem_singleton] at hx
      rw [hx]
      exact hC.unit g ih (hcs _ h2) h3
/-- A closed trail is itself closed by units, by the document. -/
theorem Closed.self (hC : Closed s) (g : Good s) {c : List Int} (hc : s.cls c) : brokenP c (s.R .tr) = false ∧ unitF c (s.R .tr) = 0 := by
  refine ⟨hC.notBroken g (fun _ h => h) hc, ?_⟩
  rcases Classical.em (unitF c (s.R .tr) = 0) with h | h
  · exact h
  · obtain ⟨_, h2, _, _⟩ := unitF_ne (fun y hy => (g.clv hc y hy).1) h
    exact absurd (hC.unit g (fun _ h => h) hc h) h2

/-- What follows is a list of variables' literals, each variable once. -/
structure Ls (n : Nat) (T : List Int) : Prop where
  v : ∀ x ∈ T, InV n x
  nd : (T.map amt).Nodup
theorem Ls.con {n : Nat} {T : List Int} (h : Ls n T) : ∀ x ∈ T, -x ∉ T := fun x hx e => by
  obtain ⟨i, hi, e1⟩ := List.mem_iff_getElem.1 hx
  obtain ⟨j, hj, e2⟩ := List.mem_iff_getElem.1 e
  have := (List.getElem_inj (h₀ := show i < (T.map amt).length by simpa using hi) (h₁ := show j < (T.map amt).length by simpa using hj) h.nd).1 (by
    rw [List.getElem_map, List.getElem_map, e1, e2, amt_neg])
  subst this
  rw [e1] at e2
  have := (h.v x hx).1
  omega
theorem Ls.len {n : Nat} {T : List Int} (h : Ls n T) : T.length ≤ n := by
  have h1 := nodup_len (n := n + 1) (l := 0 :: T.map amt) (List.nodup_cons.2 ⟨fun e => by
    obtain ⟨x, hx, e⟩ := List.mem_map.1 e
    have := (h.v x hx).amt; omega, h.nd⟩) fun x hx => by
      rcases List.mem_cons.1 hx with rfl | hx
      · omega
      · obtain ⟨y, hy, rfl⟩ := List.mem_map.1 hx
        have := (h.v y hy).amt; omega
  simpa using h1
theorem Good.ls (g : Good s) : Ls s.vars (s.R .tr) := ⟨g.tv, g.nd⟩
theorem fol_ls {n : Nat} {cs : List (List Int)} (hcs : ∀ c ∈ cs, ∀ x ∈ c, InV n x) {d T : List Int} (hd : Ls n d) (h : Fol cs d T) : Ls n T := by
  induction h with
  | refl => exact hd
  | step h1 h2 h3 ih =>
    rename_i t c
    obtain ⟨a1, a2, a3, _⟩ := unitF_ne (fun y hy => (hcs c h2 y hy).1) h3
    refine ⟨fun x hx => ?_, ?_⟩
    · rcases List.mem_append.1 hx with hx | hx
      · exact ih.v x hx
      · rw [List.mem_singleton] at hx; rw [hx]; exact hcs c h2 _ a1
    · rw [List.map_append]
      refine nodup_snoc ih.nd fun e => ?_
      obtain ⟨y, hy, e⟩ := List.mem_map.1 e
      rcases amt_eq e with e | e
      · exact a2 (e ▸ hy)
      · rw [e] at hy; exact a3 hy

theorem ls_nodup {n : Nat} {T : List Int} (h : Ls n T) : T.Nodup := List.Pairwise.of_map _ (fun a b hab e => hab (by rw [e])) h.nd
/-- Two such lists with the same literals are as long. -/
theorem ls_len {n m : Nat} {T U : List Int} (h : Ls n T) (k : Ls m U) (a : ∀ x ∈ T, x ∈ U) (b : ∀ x ∈ U, x ∈ T) : T.length = U.length := by
  have h1 := List.Nodup.length_le_of_subset (ls_nodup h) a
  have h2 := List.Nodup.length_le_of_subset (ls_nodup k) b
  omega

theorem decl_ls (g : Good s) : Ls s.vars s.dec := by
  refine ⟨fun x hx => g.tv x (g.dec_mem x hx), ?_⟩
  unfold PSt.dec
  rw [List.map_map]
  rw [List.nodup_iff_pairwise_ne, List.pairwise_iff_getElem]
  intro i j hi hj hij e
  rw [List.length_map] at hi hj
  rw [List.getElem_map, List.getElem_map] at e
  have b1 := g.bl i hi; have b2 := g.bl j hj; have b3 := g.bs i j hij hj
  simp only [List.getD, List.getElem?_eq_getElem hi, List.getElem?_eq_getElem hj, Option.getD_some] at b1 b2 b3
  have l1 : ((s.R .be)[i]).toNat < (s.R .tr).length := by omega
  have l2 : ((s.R .be)[j]).toNat < (s.R .tr).length := by omega
  have := (List.getElem_inj (h₀ := show ((s.R .be)[i]).toNat < ((s.R .tr).map amt).length by simpa using l1) (h₁ := show ((s.R .be)[j]).toNat < ((s.R .tr).map amt).length by simpa using l2) g.nd).1 (by
    rw [List.getElem_map, List.getElem_map]
    simp only [Function.comp, List.getD, List.getElem?_eq_getElem l1, List.getElem?_eq_getElem l2, Option.getD_some] at e
    exact e)
  omega

end Go.Proofs.Ytdaiolinnpligaa.W
/- Layer 6: what the document's functions answer. -/
namespace Go.Proofs.Ytdaiolinnpligaa.W
open Go Go.Fw Go.RowKit Go.SoP Go.LiP
variable {w w' w0 w2 w3 : World} {p q : Option Addr} {n m c d : Nat} {l t T : List Int}

theorem nw (x : Int) (hx : -1048576 ≤ x ∧ x ≤ 1048576) : IntKind.i64.wrap (0 - x) = -x := by rw [wrap64_of (by omega) (by omega)]; omega

theorem refBroken_ok (hc : Vw (Value.int .i64) w p l) (hn : n = l.length) (hx : n ≤ maxLen) (ht : Vw (Value.int .i64) w q t) (hm : m = t.length) (hy : m ≤ maxLen) (hb : ∀ x ∈ l, -1048576 ≤ x ∧ x ≤ 1048576) :
    Calls Try.prog fathomref06_Broken.id #[.slice p n c, .slice q m d] w fun e w' => e = .returned (.bool (brokenP l t)) ∧ Grow w w' := by
  have hxn : n ≤ 9223372036854775807 := by unfold maxLen at hx; omega
  refine fathomref06_Broken.calls ⟨fun I u z => ∃ i : Nat, I = i ∧ i ≤ l.length ∧ z = l.length - i ∧ Grow w u ∧ ∀ x ∈ l.take i, -x ∈ t, ⟨_, 0, rfl, Nat.zero_le _, rfl, Mod.refl w, fun x hx => by simp at hx⟩, ?_⟩
  rintro I u z _ ⟨i, rfl, hi, rfl, g, hall⟩
  refine cnd_i (fun r => ?_) (fun r => ?_)
  · have r : i < l.length := by rw [hn] at r; simpa using r
    refine (hc.grow g).ix 0 (by omega) hn (by omega) fun a e => ⟨_, e, ?_⟩
    rw [Int.toNat_natCast]
    have hb' := hb _ (getD_mem' r)
    rw [nw _ hb']
    refine (has_ok (ht.grow g) hm hy _).mono ?_
    rintro e w8 ⟨rfl, g8⟩
    refine ⟨_, rfl, cnd_i (fun r2 => ?_) (fun r2 => ⟨_, ?_, i + 1, wN (by omega) (by omega), by omega, rfl, g.trans g8, fun x hx => ?_⟩)⟩
    · have r2 : -(l.getD i 0) ∉ t := by simpa using r2
      refine ⟨?_, g.trans g8⟩
      have : brokenP l t = false := by
        rw [← Bool.not_eq_true, brokenP_iff]
        exact fun h => r2 (h _ (getD_mem' r))
      rw [this]
    · omega
    · have r2 : -(l.getD i 0) ∈ t := by simpa using r2
      rcases (mem_take_succ' r).1 hx with h | h
      · exact hall x h
      · rw [h]; exact r2
  · have r : i = l.length := by rw [hn] at r; simp at r; omega
    subst r
    rw [List.take_length] at hall
    have : brokenP l t = true := brokenP_iff.2 hall
    exact ⟨by rw [this], g⟩

theorem refUnit_ok (hc : Vw (Value.int .i64) w p l) (hn : n = l.length) (hx : n ≤ maxLen) (ht : Vw (Value.int .i64) w q t) (hm : m = t.length) (hy : m ≤ maxLen) (hb : ∀ x ∈ l, -1048576 ≤ x ∧ x ≤ 1048576) :
    Calls Try.prog fathomref06_Unit.id #[.slice p n c, .slice q m d] w fun e w' => e = .returned (.int .i64 (unitF l t)) ∧ Grow w w' := by
  have hxn : n ≤ 9223372036854775807 := by unfold maxLen at hx; omega
  refine fathomref06_Unit.calls ⟨fun O I u z => ∃ i : Nat, I = i ∧ i ≤ l.length ∧ z = l.length - i ∧ Grow w u ∧ unitG t (l.drop i) O = unitF l t, ⟨_, 0, rfl, Nat.zero_le _, rfl, Mod.refl w, by simp [unitF]⟩, ?_⟩
  rintro O I u z _ ⟨i, rfl, hi, rfl, g, hu⟩
  refine cnd_i (fun r => ?_) (fun r => ?_)
  · have r : i < l.length := by rw [hn] at r; simpa using r
    have look : ∀ {u' : World}, Grow w u' → ∀ {K : Addr → Prop}, (∀ a, u'.cell? a = some (.int .i64 (l.getD i 0)) → K a) → ixK p n (i : Int) 1 K := fun {u'} g' {K} hk => by
      refine (hc.grow g').ix 0 (by omega) hn (by omega) fun a e => hk a ?_
      rw [Int.toNat_natCast] at e
      exact e
    have hdr : l.drop i = l.getD i 0 :: l.drop (i + 1) := by
      rw [List.drop_eq_getElem_cons r]
      simp [List.getD, r]
    have hb' := hb _ (getD_mem' r)
    rw [hdr] at hu
    generalize l.getD i 0 = X at *
    unfold unitG at hu
    refine look g fun a e => ⟨_, e, (has_ok (ht.grow g) hm hy _).mono ?_⟩
    rintro e w9 ⟨rfl, g9⟩
    have G9 := g.trans g9
    refine ⟨_, rfl, cnd_i (fun r2 => ?_) (fun r2 => ?_)⟩
    · have r2 : X ∈ t := by simpa using r2
      rw [if_pos r2] at hu
      exact ⟨by rw [← hu], G9⟩
    · have r2 : X ∉ t := by simpa using r2
      rw [if_neg r2] at hu
      refine look G9 fun a e => ⟨_, e, ?_⟩
      rw [nw _ hb']
      refine (has_ok (ht.grow G9) hm hy _).mono ?_
      rintro e w13 ⟨rfl, g13⟩
      have G13 := G9.trans g13
      have next : ∀ {O' : Int}, unitG t (l.drop (i + 1)) O' = unitF l t → ∃ k3, k3 < l.length - i ∧ ∃ i' : Nat, IntKind.i64.wrap ((i : Int) + 1) = i' ∧ i' ≤ l.length ∧ k3 = l.length - i' ∧ Grow w w13 ∧ unitG t (l.drop i') O' = unitF l t := by
        intro O' h
        exact ⟨_, by omega, i + 1, wN (by omega) (by omega), r, rfl, G13, h⟩
      refine ⟨_, rfl, cnd_i (fun r3 => ?_) (fun r3 => ?_)⟩
      · have r3 : -X ∈ t := by simpa using r3
        rw [if_pos (.inl r3)] at hu
        exact next hu
      · have r3 : -X ∉ t := by simpa using r3
        refine look G13 fun a e => ⟨_, e, cnd_i (fun r4 => ?_) (fun r4 => ?_)⟩
        · have r4 : X = O := by simpa using r4
          rw [if_pos (.inr r4)] at hu
          exact next hu
        · have r4 : ¬ X = O := by simpa using r4
          rw [if_neg (fun h => h.elim r3 r4)] at hu
          refine cnd_i (fun r5 => ?_) (fun r5 => look G13 fun a e => ⟨_, e, ?_⟩)
          · have r5 : O ≠ 0 := by simpa using r5
            rw [if_pos r5] at hu
            exact ⟨by rw [← hu], G13⟩
          · have r5 : ¬ O ≠ 0 := by simpa using r5
            rw [if_neg r5] at hu
            exact next hu
  · have r : i = l.length := by rw [hn] at r; simp at r; omega
    subst r
    rw [List.drop_length] at hu
    have hu : O = unitF l t := hu
    exact ⟨by rw [hu], g⟩

theorem refAlike_ok (hc : Vw (Value.int .i64) w p l) (hn : n = l.length) (hx : n ≤ maxLen) (ht : Vw (Value.int .i64) w q t) (hm : m = t.length) (hy : m ≤ maxLen) (h1 : ∀ x ∈ l, x ∈ t) (h2 : ∀ x ∈ t, x ∈ l) (h3 : l.length = t.length) :
    Calls Try.prog fathomref06_Alike.id #[.slice p n c, .slice q m d] w fun e w' => e = .returned (.bool true) ∧ Grow w w' := by
  have hxn : n ≤ 9223372036854775807 := by unfold maxLen at hx; omega
  have hym : m ≤ 9223372036854775807 := by unfold maxLen at hy; omega
  refine fathomref06_Alike.calls ⟨fun I u z => ∃ i : Nat, I = i ∧ i ≤ l.length ∧ z = l.length - i ∧ Grow w u, ⟨_, 0, rfl, Nat.zero_le _, rfl, Mod.refl w⟩, ?_⟩
  rintro I u z _ ⟨i, rfl, hi, rfl, g⟩
  refine cnd_i (fun r => ?_) (fun r => ?_)
  · have r : i < l.length := by rw [hn] at r; simpa using r
    refine (hc.grow g).ix 0 (by omega) hn (by omega) fun a e => ⟨_, e, ?_⟩
    rw [Int.toNat_natCast]
    refine (has_ok (ht.grow g) hm hy _).mono ?_
    rintro e w8 ⟨rfl, g8⟩
    have := h1 _ (getD_mem' r)
    refine ⟨_, rfl, ?_⟩
    rw [decide_eq_true this]
    exact cnd_f rfl ⟨_, by omega, i + 1, wN (by omega) (by omega), by omega, rfl, g.trans g8⟩
  · refine ⟨fun I u z => ∃ i : Nat, I = i ∧ i ≤ t.length ∧ z = t.length - i ∧ Grow w u, ⟨_, 0, rfl, Nat.zero_le _, rfl, g⟩, ?_⟩
    rintro I u z _ ⟨j, rfl, hj, rfl, g⟩
    refine cnd_i (fun r => ?_) (fun r => ?_)
    · have r : j < t.length := by rw [hm] at r; simpa using r
      refine (ht.grow g).ix 0 (by omega) hm (by omega) fun a e => ⟨_, e, ?_⟩
      rw [Int.toNat_natCast]
      refine (has_ok (hc.grow g) hn hx _).mono ?_
      rintro e w8 ⟨rfl, g8⟩
      have := h2 _ (getD_mem' r)
      refine ⟨_, rfl, ?_⟩
      rw [decide_eq_true this]
      exact cnd_f rfl ⟨_, by omega, j + 1, wN (by omega) (by omega), by omega, rfl, g.trans g8⟩
    · refine ⟨?_, g⟩
      rw [hn, hm, h3]; simp

end Go.Proofs.Ytdaiolinnpligaa.W
/- Layer 6: what follows, by the document. -/
namespace Go.Proofs.Ytdaiolinnpligaa.W
open Go Go.Fw Go.RowKit Go.SoP Go.LiP
variable {w w' w0 w2 w3 : World} {p q : Option Addr} {n m c d V : Nat} {l t T : List Int} {hs : List Sl} {cs : List (List Int)}

theorem box1 {x : Int} {nb : Nat} {w0 : World} (h : New (.cells #[.int .i64 x] ty_int) w0 nb w) : Vw (Value.int .i64) w (some ⟨nb, 0, none⟩) [x] := by
  intro j hj
  have hj : j = 0 := by simpa using hj
  subst hj
  exact ⟨_, rfl, cell_add h.has rfl⟩

theorem refFollows_ok (hc : V2 (Value.int .i64) w p hs cs) (hn : n = cs.length) (hx : n ≤ 1000000) (ht : Vw (Value.int .i64) w q t) (hm : m = t.length) (hV : V ≤ 1000) (hcs : ∀ c ∈ cs, ∀ x ∈ c, InV V x) (hd : Ls V t) :
    Calls Try.prog fathomref06_Follows.id #[.slice p n c, .slice q m d] w fun e w' => ∃ (T : List Int) (br : Bool) (q2 : Option Addr) (d2 : Nat), e = .returned (.tuple #[.slice q2 T.length d2, .bool br]) ∧ OwI ty_int w' q2 d2 T ∧ Fol cs t T ∧
      (br = true → ∃ c ∈ cs, brokenP c T = true) ∧ (br = false → ∀ c ∈ cs, brokenP c T = false ∧ unitF c T = 0) ∧ Grow w w' ∧ ∀ b, blk q2 = some b → w.heap.size ≤ b := by
  have htl := hd.len
  refine fathomref06_Follows.calls ?_
  intro n1 w2 h2
  have e1 := h2.num
  have ov : OwI ty_int w2 (some ⟨n1, 0, none⟩) 0 [] := New.empty h2
  refine app_fresh (W0 := w) ov h2.mod (fun b hb => by have := blk_some hb; omega) (ht.grow h2.mod) rfl hm (by simp; omega) fun w3 p3 c3 o3 g3 f3 => ?_
  rw [List.nil_append] at o3 ⊢
  refine ⟨fun P N C J u z => ∃ (j : Nat) (T : List Int), J = j ∧ N = T.length ∧ z = 2000 - j ∧ T.length = t.length + j ∧ Fol cs t T ∧ OwI ty_int u P C T ∧ (∀ b, blk P = some b → w.heap.size ≤ b) ∧ Grow w u, ⟨_, 0, t, rfl, rfl, rfl, rfl, .refl, o3, f3, g3⟩, ?_⟩
  rintro P N C J w10 z _ ⟨j, T, rfl, rfl, rfl, hTl, hF, oT, fT, gT⟩
  have hLs := fol_ls hcs hd hF
  have hTlen := hLs.len
  have hTv := oT.vw
  have hTm : T.length ≤ maxLen := by unfold maxLen; omega
  refine cnd_t (by rw [decide_eq_true_eq]; omega) ?_
  refine ⟨fun X I u z => ∃ i : Nat, I = i ∧ i ≤ cs.length ∧ z = cs.length - i ∧ Grow w10 u ∧ (∀ c ∈ cs.take i, brokenP c T = false) ∧ ((X = 0 ∧ ∀ c ∈ cs.take i, unitF c T = 0) ∨ (X ≠ 0 ∧ ∃ c ∈ cs, X = unitF c T)),
    ⟨_, 0, rfl, Nat.zero_le _, rfl, Mod.refl _, fun c hc => by simp at hc, .inl ⟨rfl, fun c hc => by simp at hc⟩⟩, ?_⟩
  rintro X I w16 z _ ⟨i, rfl, hi, rfl, g16, hbr, hX⟩
  have hcg := hc.grow (gT.trans g16)
  refine cnd_i (fun r => ?_) (fun r => ?_)
  · have r : i < cs.length := by rw [hn] at r; simpa using r
    have hmem : cs.getD i [] ∈ cs := by simp [List.getD, r]
    have hbd : ∀ x ∈ cs.getD i [], -1048576 ≤ x ∧ x ≤ 1048576 := fun x hx => (hcs _ hmem x hx).bd (by omega)
    have tk : ∀ c, c ∈ cs.take (i + 1) ↔ c ∈ cs.take i ∨ c = cs.getD i [] := fun c => by
      rw [List.take_add_one, List.mem_append]
      simp [List.getD, r]
    refine hcg.ix (by omega) hn (by omega) fun a sl k1 k0 k2 k3 k4 => ⟨_, _, _, k1, ?_⟩
    rw [Int.toNat_natCast] at k2 k4
    refine (refBroken_ok k4 k2 k3 (hTv.grow g16) rfl hTm hbd).mono ?_
    rintro e w19 ⟨rfl, g19⟩
    refine ⟨_, rfl, ?_⟩
    cases hb : brokenP (cs.getD i []) T with
    | true =>
      refine cnd_t rfl ⟨T, true, _, _, rfl, oT.grow (g16.trans g19), hF, fun _ => ⟨_, hmem, hb⟩, fun h => (by cases h), gT.trans (g16.trans g19), fT⟩
    | false =>
      refine cnd_f rfl (cnd_i (fun r2 => ?_) (fun r2 => ?_))
      · have r2 : X = 0 := by simpa using r2
        refine (hcg.grow g19).ix (by omega) hn (by omega) fun a sl k1 k0 k2 k3 k4 => ⟨_, _, _, k1, ?_⟩
        rw [Int.toNat_natCast] at k2 k4
        refine (refUnit_ok k4 k2 k3 (hTv.grow (g16.trans g19)) rfl hTm hbd).mono ?_
        rintro e w23 ⟨rfl, g23⟩
        refine ⟨_, rfl, _, ?_, i + 1, wN (by omega) (by omega), r, rfl, g16.trans (g19.trans g23), fun c hc => ?_, ?_⟩
        · omega
        · rcases (tk c).1 hc with h | h
          · exact hbr c h
          · rw [h]; exact hb
        · by_cases e0 : unitF (cs.getD i []) T = 0
          · refine .inl ⟨e0, fun c hc => ?_⟩
            rcases (tk c).1 hc with h | h
            · rcases hX with hX | hX
              · exact hX.2 c h
              · exact absurd r2 hX.1
            · rw [h]; exact e0
          · exact .inr ⟨e0, _, hmem, rfl⟩
      · have r2 : X ≠ 0 := by simpa using r2
        refine ⟨_, ?_, i + 1, wN (by omega) (by omega), r, rfl, g16.trans g19, fun c hc => ?_, ?_⟩
        · omega
        · rcases (tk c).1 hc with h | h
          · exact hbr c h
          · rw [h]; exact hb
        · rcases hX with hX | hX
          · exact absurd hX.1 r2
          · exact .inr hX
  · have r : i = cs.length := by rw [hn] at r; simp at r; omega
    subst r
    rw [List.take_length] at hbr
    refine cnd_i (fun r2 => ?_) (fun r2 => ?_)
    · have r2 : X = 0 := by simpa using r2
      refine ⟨T, false, _, _, rfl, oT.grow g16, hF, fun h => (by cases h), fun _ c hc => ⟨hbr c hc, ?_⟩, gT.trans g16, fT⟩
      rcases hX with hX | hX
      · rw [List.take_length] at hX; exact hX.2 c hc
      · exact absurd r2 hX.1
    · have r2 : X ≠ 0 := by simpa using r2
      obtain ⟨_, c, hcm, hXe⟩ := hX.resolve_left fun h => r2 h.1
      have hF' : Fol cs t (T ++ [X]) := by rw [hXe]; exact .step hF hcm (by rw [← hXe]; exact r2)
      have hl' := (fol_ls hcs hd hF').len
      rw [List.length_append] at hl'
      simp only [List.length_cons, List.length_nil] at hl'
      intro n25 w26 h26
      have g26 := (gT.trans g16).trans h26.mod
      refine app_fresh (W0 := w) ((oT.grow g16).grow h26.mod) g26 fT (box1 h26) rfl rfl (by simp; omega) fun w27 p27 c27 o27 g27 f27 => ?_
      refine ⟨_, ?_, j + 1, T ++ [X], wN (by omega) (by omega), rfl, rfl, by simp; omega, hF', o27, f27, g27⟩
      omega

end Go.Proofs.Ytdaiolinnpligaa.W
/- Layer 6: the law's own functions: what is there, what is open, what a run tells. -/
namespace Go.Proofs.Ytdaiolinnpligaa.W
open Go Go.Fw Go.RowKit Go.SoP Go.LiP
variable {w w' w0 w2 w3 : World} {b : Nat} {H H' H2 : Pt → Sl} {s t u s' T : PSt} {cp gp dp : Option Addr} {hs : List Sl} {cs : List (List Int)} {gl : List Bool} {dl : List Int} {cn cc gn gc dn dc : Nat}

/-- A propagator, and what the document has of it. -/
structure WD (w : World) (b : Nat) (H : Pt → Sl) (s : PSt) (cp : Option Addr) (hs : List Sl) (cs : List (List Int)) (gp : Option Addr) (gl : List Bool) (dp : Option Addr) (dl : List Int) : Prop where
  pm : PM w b H s
  g : Good s
  v2 : V2 (Value.int .i64) w cp hs cs
  gv : Vw Value.bool w gp gl
  dv : Vw (Value.int .i64) w dp dl
  cn : cs.length = s.nc
  gn : gl.length = s.nc
  gg : ∀ i, i < s.nc → gl.getD i false = s.gone i
  ca : ∀ i, s.There i → cs.getD i [] = s.R (.a i)
  dd : dl = s.dec
  f1 : ∀ k, footN cp hs k → ∀ x, own b H x ≠ some k
  f2 : ∀ k, gl ≠ [] → blk gp = some k → ∀ x, own b H x ≠ some k
  f3 : ∀ k, dl ≠ [] → blk dp = some k → ∀ x, own b H x ≠ some k
  cb : s.nc ≤ 1000
  vb : s.vars ≤ 60

theorem WD.grow (h : WD w b H s cp hs cs gp gl dp dl) (m : Grow w w') : WD w' b H s cp hs cs gp gl dp dl :=
  ⟨h.pm.grow m, h.g, h.v2.grow m, h.gv.grow m, h.dv.grow m, h.cn, h.gn, h.gg, h.ca, h.dd, h.f1, h.f2, h.f3, h.cb, h.vb⟩
theorem WD.drew (h : WD w b H s cp hs cs gp gl dp dl) : WD w.drew b H s cp hs cs gp gl dp dl := h.grow (Mod.refl w).drew
theorem WD.dl60 (h : WD w b H s cp hs cs gp gl dp dl) : dl.length ≤ 60 := by rw [h.dd]; have := (decl_ls h.g).len; have := h.vb; omega
theorem WD.tr60 (h : WD w b H s cp hs cs gp gl dp dl) : (s.R .tr).length ≤ 60 := by have := h.g.trl; have := h.vb; omega

/-- The document's part stands where only the propagator was turned. -/
theorem WD.apart (h : WD w b H s cp hs cs gp gl dp dl) (P : Pw w w' b H H' s') :
    V2 (Value.int .i64) w' cp hs cs ∧ Vw Value.bool w' gp gl ∧ Vw (Value.int .i64) w' dp dl ∧ (∀ k, footN cp hs k → ∀ x, own b H' x ≠ some k) ∧ (∀ k, gl ≠ [] → blk gp = some k → ∀ x, own b H' x ≠ some k) ∧ ∀ k, dl ≠ [] → blk dp = some k → ∀ x, own b H' x ≠ some k := by
  have nf : ∀ {k : Nat}, k < w.heap.size → (∀ x, own b H x ≠ some k) → ∀ x, own b H' x ≠ some k := fun hl hk x e => by
    rcases P.ft x _ e with ⟨y, e2⟩ | e2
    · exact hk y e2
    · omega
  refine ⟨h.v2.keepN P.mod fun k hk ⟨x, e⟩ => h.f1 k hk x e, h.gv.keepN P.mod fun hne k hk ⟨x, e⟩ => h.f2 k hne hk x e, h.dv.keepN P.mod fun hne k hk ⟨x, e⟩ => h.f3 k hne hk x e,
    fun k hk => nf (h.v2.ltN k hk) (h.f1 k hk), fun k hne hk => nf (h.gv.lt hne k hk) (h.f2 k hne hk), fun k hne hk => nf (h.dv.lt hne k hk) (h.f3 k hne hk)⟩

/-- A run, and whatever keeps clauses and decisions. -/
theorem WD.ext (h : WD w b H s cp hs cs gp gl dp dl) (P : Pw w w' b H H' s') (g : Good s') (x : Ext s s') : WD w' b H' s' cp hs cs gp gl dp dl := by
  obtain ⟨a1, a2, a3, a4, a5, a6⟩ := h.apart P
  refine ⟨P.pm, g, a1, a2, a3, by rw [x.n]; exact h.cn, by rw [x.n]; exact h.gn, fun i hi => by rw [x.g]; exact h.gg i (by rw [← x.n]; exact hi), fun i hi => by rw [x.a]; exact h.ca i (x.there.1 hi), ?_, a4, a5, a6, by rw [x.n]; exact h.cb, by rw [x.v]; exact h.vb⟩
  rw [h.dd]
  unfold PSt.dec
  rw [x.be]
  obtain ⟨e, he⟩ := x.tr
  rw [he]
  refine List.map_congr_left fun q hq => ?_
  obtain ⟨j, hj, e2⟩ := List.mem_iff_getElem.1 hq
  have := h.g.bl j hj
  simp only [List.getD, List.getElem?_eq_getElem hj, Option.getD_some, e2] at this
  rw [getD_append_lt (by omega)]

/-! ## What is there -/
def thereL (cs : List (List Int)) (gl : List Bool) (n : Nat) : List (List Int) := ((List.range n).filter fun i => !gl.getD i false).map fun i => cs.getD i []
theorem thereL_succ (cs : List (List Int)) (gl : List Bool) (n : Nat) : thereL cs gl (n + 1) = thereL cs gl n ++ (if gl.getD n false then [] else [cs.getD n []]) := by
  unfold thereL
  rw [List.range_succ, List.filter_append, List.map_append]
  congr 1
  rw [List.filter_cons, List.filter_nil]
  cases gl.getD n false <;> rfl
theorem thereL_len (cs : List (List Int)) (gl : List Bool) (n : Nat) : (thereL cs gl n).length ≤ n := by
  unfold thereL
  rw [List.length_map]
  have := List.length_filter_le (fun i => !gl.getD i false) (List.range n)
  simpa using this
theorem WD.mem (h : WD w b H s cp hs cs gp gl dp dl) {c : List Int} : c ∈ thereL cs gl cs.length ↔ s.cls c := by
  unfold thereL PSt.cls
  rw [List.mem_map, h.cn]
  constructor
  · rintro ⟨i, hi, rfl⟩
    rw [List.mem_filter, List.mem_range] at hi
    have hg := h.gg i hi.1
    have hth : s.There i := ⟨hi.1, by rw [← hg]; simpa using hi.2⟩
    exact ⟨i, hth, (h.ca i hth).symm⟩
  · rintro ⟨i, hi, rfl⟩
    refine ⟨i, ?_, h.ca i hi⟩
    rw [List.mem_filter, List.mem_range]
    exact ⟨hi.1, by rw [h.gg i hi.1, hi.2]; rfl⟩

theorem bool_ix {l : List Bool} {p : Option Addr} (h : Vw Value.bool w p l) {i n : Nat} (hn : n = l.length) (hi : i < l.length) {K : Addr → Prop} (hk : ∀ a, w.cell? a = some (.bool (l.getD i false)) → K a) : ixK p n (i : Int) 1 K := by
  refine h.ix false (by omega) hn (by omega) fun a e => hk a ?_
  rw [Int.toNat_natCast] at e
  exact e

theorem sl_sl : slOk Try.prog ty_sl_sl_int ty_sl_int 24 = true := by kernel_rfl

theorem there6_ok {b : Option Addr} {v : Int} (hc : V2 (Value.int .i64) w cp hs cs) (hn : cn = cs.length) (hg : Vw Value.bool w gp gl) (hgn : gn = gl.length) (he : gl.length = cs.length) (hx : cs.length ≤ 1000) :
    Calls Try.prog fathomlaw06_there.id #[.agg #[.pointer b, .int .i64 v, .slice cp cn cc, .slice gp gn gc, .slice dp dn dc]] w fun e w' => ∃ (q : Option Addr) (d : Nat) (ks : List Sl), e = .returned (.slice q (thereL cs gl cs.length).length d) ∧ V2 (Value.int .i64) w' q ks (thereL cs gl cs.length) ∧ Grow w w' ∧ ∀ k, footN q ks k → footN cp hs k ∨ w.heap.size ≤ k := by
  refine fathomlaw06_there.calls ?_
  intro n1 w2 h2 n3 w4 h4
  have G4 := h2.mod.trans h4.mod
  have e3 := h4.num
  have z2 := h2.size
  have B4 := h2.has.grow h4.mod
  have o0 : OV (Value.int .i64) ty_sl_int w4 (some ⟨n3, 0, none⟩) 0 [] [] := ⟨New.empty h4, VR.nil, fun k ⟨s, hs, _⟩ => by simp at hs⟩
  refine ⟨fun P N C I u z => ∃ (i : Nat) (ks : List Sl), I = i ∧ i ≤ cs.length ∧ z = cs.length - i ∧ N = ks.length ∧ OV (Value.int .i64) ty_sl_int u P C ks (thereL cs gl i) ∧ (∀ k, blk P = some k → w.heap.size ≤ k ∧ k ≠ n1) ∧ (∀ k, rfoot ks k → rfoot hs k) ∧ Grow w u ∧ Has u n1 #[.pointer b, .int .i64 v, .slice cp cn cc, .slice gp gn gc, .slice dp dn dc],
    ⟨_, 0, [], rfl, Nat.zero_le _, rfl, rfl, o0, fun k hk => by have := blk_some hk; have := h2.num; omega, fun k ⟨s, hs, _⟩ => by simp at hs, G4, B4⟩, ?_⟩
  rintro P N C I u z _ ⟨i, ks, rfl, hi, rfl, rfl, oO, fP, fR, gu, Bu⟩
  have hcu := hc.grow gu
  have hgu := hg.grow gu
  refine ⟨_, _, _, cell_add Bu rfl, cnd_i (fun r => ?_) (fun r => ?_)⟩
  · have r : i < cs.length := by rw [hn] at r; simpa using r
    have hsucc := thereL_succ cs gl i
    have hksl : ks.length = (thereL cs gl i).length := oO.v.n
    have htl := thereL_len cs gl i
    refine ⟨_, _, _, cell_add Bu rfl, bool_ix hgu hgn (by omega) fun a e => ⟨_, e, ?_⟩⟩
    cases hgi : gl.getD i false with
    | true =>
      rw [hgi] at hsucc
      simp only [if_true, List.append_nil] at hsucc
      exact cnd_f rfl ⟨_, by omega, i + 1, ks, wN (by omega) (by omega), r, rfl, rfl, by rw [hsucc]; exact oO, fP, fR, gu, Bu⟩
    | false =>
      rw [hgi] at hsucc
      simp only [Bool.false_eq_true, if_false] at hsucc
      refine cnd_t rfl ⟨_, _, _, cell_add Bu rfl, hcu.ix (by omega) hn (by omega) fun a sl k1 k0 k2 k3 k4 => ⟨_, _, _, k1, ?_⟩⟩
      rw [Int.toNat_natCast] at k0 k2 k4
      intro n18 w19 h19
      have o19 := oO.grow h19.mod
      have v1 : Vw Sl.v w19 (some ⟨n18, 0, none⟩) [sl] := by
        intro j hj
        have : j = 0 := by simpa using hj
        subst this
        exact ⟨_, rfl, cell_add h19.has rfl⟩
      have r1 : VR (Value.int .i64) w19 [sl] [cs.getD i []] := VR.one (k4.grow h19.mod) k2 k3
      have hfr : ∀ k, rfoot [sl] k → rfoot hs k := fun k ⟨s2, hs2, h0, hk⟩ => by
        rw [List.mem_singleton] at hs2
        subst hs2
        refine ⟨s2, ?_, h0, hk⟩
        rw [k0]
        have : i < hs.length := by rw [hc.n]; exact r
        simp [List.getD, this]
      have hft : ∀ k, rfoot [sl] k → k < w.heap.size := fun k hk => hc.ltN k (.inr (hfr k hk))
      refine o19.app sl_sl (ns := [sl]) (nrows := [cs.getD i []]) v1 r1 rfl rfl (fun k hk e => by have := hft k hk; have := (fP k e).1; omega) (by simp; omega) fun w20 p20 c20 o20 m20 hp20 hs20 => ?_
      have B20 : Has w20 n1 _ := (Bu.grow h19.mod).keep m20 fun e => (fP n1 e).2 rfl
      have g20 : Grow w w20 := (gu.trans h19.mod).then m20 fun k hk e => by have := (fP k e).1; omega
      refine ⟨_, ?_, i + 1, ks ++ [sl], wN (by omega) (by omega), r, rfl, rfl, by rw [hsucc]; exact o20, fun k hk => ?_, fun k hk => (rfoot_app.1 hk).elim (fR k) (hfr k), g20, B20⟩
      · omega
      · rcases hp20 with e | e
        · rw [e] at hk; exact fP k hk
        · rw [e] at hk
          have := blk_some hk
          have := (gu.trans h19.mod).size
          have := (Bu.grow h19.mod).lt
          exact ⟨by omega, by omega⟩
  · have r : i = cs.length := by rw [hn] at r; simp at r; omega
    subst r
    exact ⟨P, C, ks, by rw [oO.v.n], oO.v2, gu, fun k hk => hk.elim (fun e => .inr (fP k e.2).1) fun e => .inl (.inr (fR k e))⟩

end Go.Proofs.Ytdaiolinnpligaa.W
/- Layer 6: the law's own functions: whether a trail is sound. -/
namespace Go.Proofs.Ytdaiolinnpligaa.W
open Go Go.Fw Go.RowKit Go.SoP Go.LiP
variable {w w' w0 w2 w3 : World} {b : Nat} {H H' H2 : Pt → Sl} {s t u s' T : PSt} {cp gp dp : Option Addr} {hs : List Sl} {cs : List (List Int)} {gl : List Bool} {dl : List Int} {cn cc gn gc dn dc : Nat} {v : Int}

def begN (s : PSt) (k : Nat) : Nat := (s.R .be).countP fun e => decide (e < (k : Int))
theorem Good.begN_at (g : Good s) {j : Nat} (hj : j < (s.R .be).length) {k : Nat} (hk : (s.R .be).getD j 0 = k) : begN s k = j ∧ begN s (k + 1) = j + 1 := by
  have gd : ∀ i (hi : i < (s.R .be).length), (s.R .be).getD i 0 = (s.R .be)[i] := fun i hi => by simp [List.getD, hi]
  have key : ∀ (K : Int) (J : Nat), J ≤ (s.R .be).length → (∀ i, i < J → (s.R .be).getD i 0 < K) → (∀ i, J ≤ i → i < (s.R .be).length → ¬ (s.R .be).getD i 0 < K) → ((s.R .be).countP fun e => decide (e < K)) = J := by
    intro K J hJ h1 h2
    conv => lhs; rw [← List.take_append_drop J (s.R .be)]
    rw [List.countP_append, List.countP_eq_length.2, List.countP_eq_zero.2, List.length_take, Nat.add_zero, Nat.min_eq_left hJ]
    · intro x hx
      obtain ⟨i, hi, e⟩ := List.mem_iff_getElem.1 hx
      rw [List.length_drop] at hi
      rw [List.getElem_drop] at e
      have := h2 (J + i) (by omega) (by omega)
      rw [gd _ (by omega), e] at this
      simpa using this
    · intro x hx
      obtain ⟨i, hi, e⟩ := List.mem_iff_getElem.1 hx
      rw [List.length_take] at hi
      rw [List.getElem_take] at e
      have := h1 i (by omega)
      rw [gd _ (by omega), e] at this
      simpa using this
  constructor
  · refine key k j (by omega) (fun i hi => ?_) (fun i h1 h2 => ?_)
    · have := g.bs i j hi hj; omega
    · rcases Nat.lt_or_eq_of_le h1 with h | h
      · have := g.bs j i h h2; omega
      · subst h; omega
  · refine key ((k + 1 : Nat) : Int) (j + 1) (by omega) (fun i hi => ?_) (fun i h1 h2 => ?_)
    · rcases Nat.lt_or_eq_of_le (Nat.lt_succ_iff.1 hi) with h | h
      · have := g.bs i j h hj; omega
      · subst h; omega
    · have := g.bs j i h1 h2; omega
theorem begN_no {k : Nat} (h : (k : Int) ∉ s.R .be) : begN s (k + 1) = begN s k := by
  unfold begN
  refine List.countP_congr fun e he => ?_
  have : e ≠ k := fun e2 => h (e2 ▸ he)
  simp only [decide_eq_true_eq]
  omega
theorem Good.begN_end (g : Good s) : begN s (s.R .tr).length = (s.R .be).length := by
  unfold begN
  rw [List.countP_eq_length]
  intro e he
  obtain ⟨j, hj, e2⟩ := List.mem_iff_getElem.1 he
  have := g.bl j hj
  simp only [List.getD, List.getElem?_eq_getElem hj, Option.getD_some, e2] at this
  simpa using this.2
theorem begN_le (k : Nat) : begN s k ≤ (s.R .be).length := List.countP_le_length
theorem Good.lev_at (g : Good s) {p : Nat} (hp : p < (s.R .tr).length) : s.lev ((s.R .tr).getD p 0) = (begN s (p + 1) : Nat) := by
  rw [g.lv p hp]
  congr 1
  refine List.countP_congr fun e he => ?_
  simp only [decide_eq_true_eq]
  omega

theorem Good.tr_val (g : Good s) {p : Nat} (hp : p < (s.R .tr).length) :
    s.value ((s.R .tr).getD p 0) = 1 ∧ s.value (-(s.R .tr).getD p 0) = -1 ∧ s.level ((s.R .tr).getD p 0) = (begN s (p + 1) : Nat) ∧ s.level (-(s.R .tr).getD p 0) = (begN s (p + 1) : Nat) ∧ s.reason ((s.R .tr).getD p 0) = s.rea ((s.R .tr).getD p 0) := by
  have hm := getD_mem' hp
  have hi := g.tv _ hm
  have h1 := (g.v1 _ hi).2 hm
  have h2 : s.val (-(s.R .tr).getD p 0) = -1 := by rw [val_neg hi, h1]
  have b1 : isB s.vars ((s.R .tr).getD p 0) = true := (isB_iff g.vmax).2 hi
  have b2 : isB s.vars (-(s.R .tr).getD p 0) = true := (isB_iff g.vmax).2 hi.neg
  have hl := g.lev_at hp
  have hl2 : s.lev (-(s.R .tr).getD p 0) = s.lev ((s.R .tr).getD p 0) := by unfold PSt.lev; rw [amt_neg]
  refine ⟨?_, ?_, ?_, ?_, ?_⟩
  · unfold PSt.value; rw [b1]; simpa using h1
  · unfold PSt.value; rw [b2]; simpa using h2
  · unfold PSt.level; rw [b1, h1, hl]; simp
  · unfold PSt.level; rw [b2, h2, hl2, hl]; simp
  · unfold PSt.reason; rw [b1, h1]; simp

theorem Good.pos (g : Good s) {p q : Nat} (hp : p < (s.R .tr).length) (hq : q < (s.R .tr).length) (e : (s.R .tr).getD p 0 = (s.R .tr).getD q 0) : p = q := by
  have hn := ls_nodup g.ls
  simp only [List.getD, List.getElem?_eq_getElem hp, List.getElem?_eq_getElem hq, Option.getD_some] at e
  exact (List.getElem_inj hn).1 e
theorem Good.notBefore (g : Good s) {p : Nat} (hp : p < (s.R .tr).length) : (s.R .tr).getD p 0 ∉ (s.R .tr).take p ∧ -(s.R .tr).getD p 0 ∉ (s.R .tr).take p := by
  constructor
  · intro e
    obtain ⟨i, hi, e⟩ := List.mem_iff_getElem.1 e
    rw [List.length_take] at hi
    rw [List.getElem_take] at e
    have := g.pos (p := i) (q := p) (by omega) hp (by rw [← e]; simp [List.getD, show i < (s.R .tr).length by omega])
    omega
  · exact fun e => g.cons (getD_mem' hp) (List.mem_of_mem_take e)

theorem mem_wo {l : List Int} {x y : Int} : y ∈ wo l x ↔ y ∈ l ∧ y ≠ x := by unfold wo; simp

theorem WD.dec_len (h : WD w b H s cp hs cs gp gl dp dl) : dl.length = (s.R .be).length := by rw [h.dd]; simp [PSt.dec]
theorem WD.dec_get (h : WD w b H s cp hs cs gp gl dp dl) {j : Nat} (hj : j < (s.R .be).length) : dl.getD j 0 = (s.R .tr).getD ((s.R .be).getD j 0).toNat 0 := by
  rw [h.dd]
  simp [PSt.dec, List.getD, hj]

theorem sound_ok (h : WD w b H s cp hs cs gp gl dp dl) (hdn : dn = dl.length) :
    Calls Try.prog fathomlaw06_sound.id #[.agg #[ptrV b, .int .i64 v, .slice cp cn cc, .slice gp gn gc, .slice dp dn dc]] w fun e w' => e = .returned (.bool true) ∧ Grow w w' := by
  have g := h.g
  have k := g.wf
  have t60 := h.tr60
  have hdl := h.dec_len
  refine fathomlaw06_sound.calls ?_
  intro n1 w2 h2
  refine ⟨_, cell_add h2.has rfl, (trail_ok (h.pm.grow h2.mod) (by omega)).mono ?_⟩
  rintro e w4 ⟨q, d, rfl, oT, g4, f4⟩
  have gA := h2.mod.trans g4
  refine ⟨_, _, _, rfl, ?_⟩
  refine ⟨fun L I u z => ∃ k : Nat, I = k ∧ k ≤ (s.R .tr).length ∧ z = (s.R .tr).length - k ∧ L = (begN s k : Nat) ∧ Grow w4 u, ⟨_, 0, rfl, Nat.zero_le _, rfl, ?_, Mod.refl _⟩, ?_⟩
  · have : begN s 0 = 0 := by
      unfold begN
      rw [List.countP_eq_zero]
      intro e he
      obtain ⟨j, hj, e2⟩ := List.mem_iff_getElem.1 he
      have := g.bl j hj
      simp only [List.getD, List.getElem?_eq_getElem hj, Option.getD_some, e2] at this
      simp; omega
    rw [this]; rfl
  rintro L I u z _ ⟨p, rfl, hp, rfl, rfl, gu⟩
  have B : ∀ {u' : World}, Grow w4 u' → Has u' n1 #[ptrV b, .int .i64 v, .slice cp cn cc, .slice gp gn gc, .slice dp dn dc] := fun g' => (h2.has.grow g4).grow g'
  have D : ∀ {u' : World}, Grow w4 u' → WD u' b H s cp hs cs gp gl dp dl := fun g' => h.grow (gA.trans g')
  have bl := begN_le (s := s) p
  have bl1 := begN_le (s := s) (p + 1)
  have bel := g.bel
  refine cnd_i (fun r => ?_) (fun r => ?_)
  · have r : p < (s.R .tr).length := by simpa using r
    have look : ∀ {u' : World}, Grow w4 u' → ∀ {K : Addr → Prop}, (∀ a, u'.cell? a = some (.int .i64 ((s.R .tr).getD p 0)) → K a) → ixK q (s.R .tr).length (p : Int) 1 K := fun {u'} g' {K} hk => by
      refine (oT.vw.grow g').ix 0 (by omega) rfl (by omega) fun a e => hk a ?_
      rw [Int.toNat_natCast] at e
      exact e
    obtain ⟨tv1, tv2, tv3, tv4, tv5⟩ := g.tr_val r
    have hX := g.tv _ (getD_mem' r)
    have hXb := hX.bd g.vmax
    obtain ⟨nb1, nb2⟩ := g.notBefore r
    have re1 := g.re1 p r
    have re2 := g.re2 p r
    have hdec : ∀ j, j < (s.R .be).length → dl.getD j 0 = (s.R .tr).getD ((s.R .be).getD j 0).toNat 0 := fun j hj => h.dec_get hj
    have hXm : (s.R .tr).getD p 0 = (s.R .tr).getD p 0 := rfl
    have gd := gu.drew
    refine ⟨_, cell_add (B gd) rfl, look gd fun a ea => ⟨_, ea, (reason_ok (D gd).pm k _).mono ?_⟩⟩
    rintro e w15 ⟨rfl, g15⟩
    rw [tv5]
    have g15' := gd.trans g15
    have gE := g15'.drew
    refine ⟨_, rfl, fun L2 u2 => L2 = (begN s (p + 1) : Nat) ∧ Grow w4 u2, ⟨fun bb u2 => bb = decide ((p : Int) ∈ s.R .be) ∧ Grow w4 u2, ⟨_, _, _, cell_add (B gE) rfl, ?_⟩, ?_⟩, ?_⟩
    · by_cases hb : (p : Int) ∈ s.R .be
      · obtain ⟨j, hj, ej⟩ := List.mem_iff_getElem.1 hb
        have ej : (s.R .be).getD j 0 = p := by simp [List.getD, hj, ej]
        obtain ⟨c1, c2⟩ := g.begN_at hj ej
        have hd := hdec j hj
        rw [ej, Int.toNat_natCast] at hd
        rw [c1]
        refine cnd_t (by simp; omega) (look gE fun a ea => ⟨_, ea, _, _, _, cell_add (B gE) rfl, (D gE).dv.ix 0 (by omega) hdn (by omega) fun a2 ea2 => ⟨_, ea2, ?_⟩⟩)
        rw [Int.toNat_natCast, hd]
        refine cnd_t (by simp) ⟨?_, gE⟩
        rw [re1 hb]; simp [hb]
      · obtain ⟨i, e1, e2, e3, e4⟩ := re2 hb
        refine cnd_i (fun r2 => ?_) (fun _ => ⟨by simp [hb], gE⟩)
        have r2 : begN s p < dl.length := by rw [hdn] at r2; simpa using r2
        refine look gE fun a ea => ⟨_, ea, _, _, _, cell_add (B gE) rfl, (D gE).dv.ix 0 (by omega) hdn (by omega) fun a2 ea2 => ⟨_, ea2, ?_⟩⟩
        refine cnd_i (fun _ => ⟨?_, gE⟩) (fun _ => ⟨by simp [hb], gE⟩)
        rw [e1]
        simp only [hb, decide_false]
        rw [beq_eq_false_iff_ne]
        omega
    · rintro bb w26 _ ⟨rfl, g26⟩
      by_cases hb : (p : Int) ∈ s.R .be
      · obtain ⟨j, hj, ej⟩ := List.mem_iff_getElem.1 hb
        have ej : (s.R .be).getD j 0 = p := by simp [List.getD, hj, ej]
        obtain ⟨c1, c2⟩ := g.begN_at hj ej
        refine cnd_t (by simp [hb]) ⟨?_, g26⟩
        rw [c1, c2]
        exact wN (by omega) (by omega)
      · obtain ⟨i, e1, e2, e3, e4⟩ := re2 hb
        have his : s.is (i : Int) = true := PSt.is_iff.2 ⟨by omega, by rw [Int.toNat_natCast]; exact e2⟩
        have hal := g.al
        refine cnd_f (by simp [hb]) ⟨_, cell_add (B g26) rfl, ?_⟩
        rw [e1]
        refine (clause_ok (D g26).pm (i : Int) (fun j => by have := hal j; omega)).mono ?_
        rintro e w28 ⟨q2, d2, rfl, o2, g28, f2⟩
        simp only [his, if_true, Int.toNat_natCast] at o2 ⊢
        have ha := hal i
        have g28' := (g26.trans g28).drew
        have o2 := o2.drew
        refine ⟨_, _, _, _, rfl, cnd_f rfl (look g28' fun a ea => ⟨_, ea, (has_ok o2.vw rfl (by unfold maxLen; omega) _).mono ?_⟩)⟩
        rintro e w33 ⟨rfl, g33⟩
        have hin : (s.R .tr).getD p 0 ∈ s.R (.a i) := (g.ca i e2 _).1 e3
        refine ⟨_, rfl, ?_⟩
        rw [decide_eq_true hin]
        have g33' := g28'.trans g33
        refine cnd_f rfl (look g33' fun a ea => ⟨_, ea, (without_ok (o2.grow g33).vw rfl (by omega) _).mono ?_⟩)
        rintro e w37 ⟨q3, d3, rfl, o3, g37, f3⟩
        have g37' := g33'.trans g37
        have hcap : (s.R .tr).length ≤ d := by
          rcases oT.un with ⟨_, _, e⟩ | ⟨_, _, _, _, hc, _⟩
          · rw [e]; simp
          · exact hc
        refine ⟨_, _, _, rfl, slK_i 0 p d rfl rfl rfl (Nat.le_refl _) (by omega) (Nat.zero_le _) ?_⟩
        rw [ep0, Nat.sub_zero, Nat.sub_zero]
        have hwl := wo_len (l := s.R (.a i)) (x := (s.R .tr).getD p 0)
        have hpp : (if d = 0 then q else q) = q := by split <;> rfl
        rw [hpp]
        refine (refBroken_ok o3.vw rfl (by unfold maxLen; omega) (Vw.takeV (oT.vw.grow g37') (k := p) (by omega)) (by simp; omega) (by unfold maxLen; omega) (fun x hx => ?_)).mono ?_
        · exact (g.cv i e2 x ((g.ca i e2 x).2 (mem_wo.1 hx).1)).bd g.vmax
        rintro e w40 ⟨rfl, g40⟩
        have hbr : brokenP (wo (s.R (.a i)) ((s.R .tr).getD p 0)) ((s.R .tr).take p) = true := brokenP_iff.2 fun x hx => by
          obtain ⟨m1, m2⟩ := mem_wo.1 hx
          exact e4 x ((g.ca i e2 x).2 m1) m2
        refine ⟨_, rfl, ?_⟩
        rw [hbr]
        exact cnd_f rfl ⟨by rw [begN_no hb], g37'.trans g40⟩
    · rintro L2 w43 _ ⟨rfl, g43⟩
      have gd := g43.drew
      have hcap : (s.R .tr).length ≤ d := by
        rcases oT.un with ⟨_, _, e⟩ | ⟨_, _, _, _, hc, _⟩
        · rw [e]; simp
        · exact hc
      have cut : ∀ {K : Option Addr → Nat → Nat → Prop}, K q p d → slK q (s.R .tr).length d 1 none (some (p : Int)) none K := fun {K} hk => by
        refine slK_i 0 p d rfl rfl rfl (Nat.le_refl _) (by omega) (Nat.zero_le _) ?_
        rw [ep0, Nat.sub_zero, Nat.sub_zero]
        have hpp : (if d = 0 then q else q) = q := by split <;> rfl
        rw [hpp]; exact hk
      refine ⟨_, cell_add (B gd) rfl, look gd fun a ea => ⟨_, ea, (level_ok' (D gd).pm k _).mono ?_⟩⟩
      rintro e w47 ⟨rfl, g47⟩
      have g47 := gd.trans g47
      rw [tv3]
      refine ⟨_, rfl, cnd_f (by simp) ⟨_, cell_add (B g47) rfl, look g47 fun a ea => ⟨_, ea, ?_⟩⟩⟩
      rw [nw _ hXb]
      refine (level_ok' (D g47).pm k _).mono ?_
      rintro e w52 ⟨rfl, g52⟩
      have g52 := g47.trans g52
      rw [tv4]
      refine ⟨_, rfl, cnd_f (by simp) ⟨_, cell_add (B g52) rfl, look g52 fun a ea => ⟨_, ea, ?_⟩⟩⟩
      refine (value_ok (D g52).pm k _).mono ?_
      rintro e w57 ⟨rfl, g57⟩
      have g57 := g52.trans g57
      rw [tv1]
      refine ⟨_, rfl, cnd_f (by simp) ⟨_, cell_add (B g57) rfl, look g57 fun a ea => ⟨_, ea, ?_⟩⟩⟩
      rw [nw _ hXb]
      refine (value_ok (D g57).pm k _).mono ?_
      rintro e w62 ⟨rfl, g62⟩
      have g62 := g57.trans g62
      rw [tv2]
      refine ⟨_, rfl, cnd_f (by simp) (cut (look g62 fun a ea => ⟨_, ea, ?_⟩))⟩
      refine (has_ok (Vw.takeV (oT.vw.grow g62) (k := p) (by omega)) (by simp; omega) (by unfold maxLen; omega) _).mono ?_
      rintro e w67 ⟨rfl, g67⟩
      have g67 := g62.trans g67
      rw [decide_eq_false nb1]
      refine ⟨_, rfl, cnd_f rfl (cut (look g67 fun a ea => ⟨_, ea, ?_⟩))⟩
      rw [nw _ hXb]
      refine (has_ok (Vw.takeV (oT.vw.grow g67) (k := p) (by omega)) (by simp; omega) (by unfold maxLen; omega) _).mono ?_
      rintro e w72 ⟨rfl, g72⟩
      rw [decide_eq_false nb2]
      refine ⟨_, rfl, cnd_f rfl ⟨_, ?_, p + 1, wN (by omega) (by omega), r, rfl, rfl, g67.trans g72⟩⟩
      omega
  · have r : p = (s.R .tr).length := by simp at r; omega
    subst r
    have he := g.begN_end
    refine ⟨_, _, _, cell_add (B gu) rfl, cnd_t (by rw [he, hdn, hdl]; simp) ⟨_, cell_add (B gu) rfl, (levels_ok (D gu).pm).mono ?_⟩⟩
    rintro e w76 ⟨rfl, rfl⟩
    exact ⟨_, rfl, by rw [he]; simp, gA.trans gu⟩

end Go.Proofs.Ytdaiolinnpligaa.W
/- Layer 6: the law's own functions: what is a reason, what is open, what a run tells. -/
namespace Go.Proofs.Ytdaiolinnpligaa.W
open Go Go.Fw Go.RowKit Go.SoP Go.LiP
variable {w w' w0 w2 w3 : World} {b : Nat} {H H' H2 : Pt → Sl} {s t u s' T : PSt} {cp gp dp : Option Addr} {hs : List Sl} {cs : List (List Int)} {gl : List Bool} {dl : List Int} {cn cc gn gc dn dc : Nat} {v : Int}

theorem reason6_ok (h : WD w b H s cp hs cs gp gl dp dl) {i : Nat} (hr : Rsn s i) (hi : s.There i) :
    Calls Try.prog fathomlaw06_reason.id #[.agg #[ptrV b, .int .i64 v, .slice cp cn cc, .slice gp gn gc, .slice dp dn dc], .int .i64 (i : Int)] w fun e w' => e = .returned (.bool true) ∧ Grow w w' := by
  have g := h.g
  have k := g.wf
  have t60 := h.tr60
  obtain ⟨x, hx, hx1, hx2⟩ := hr
  have hxv := g.cv i hi x hx
  have hxt := (g.vgt hxv).1 hx1
  obtain ⟨p, hp, ep⟩ := List.mem_iff_getElem.1 hxt
  have ep : (s.R .tr).getD p 0 = x := by simp [List.getD, hp, ep]
  refine fathomlaw06_reason.calls ?_
  intro n1 w2 h2
  refine ⟨_, cell_add h2.has rfl, (trail_ok (h.pm.grow h2.mod) (by omega)).mono ?_⟩
  rintro e w4 ⟨q, d, rfl, oT, g4, f4⟩
  have gA := h2.mod.trans g4
  refine ⟨_, _, _, rfl, ?_⟩
  refine ⟨fun I u z => ∃ k : Nat, I = k ∧ k ≤ p ∧ z = (s.R .tr).length - k ∧ Grow w4 u, ⟨_, 0, rfl, Nat.zero_le _, rfl, Mod.refl _⟩, ?_⟩
  rintro I u z _ ⟨j, rfl, hj, rfl, gu⟩
  have r : j < (s.R .tr).length := by omega
  refine cnd_t (by simp; omega) ?_
  have gd := gu.drew
  refine ⟨_, cell_add ((h2.has.grow g4).grow gd) rfl, (oT.vw.grow gd).ix 0 (by omega) rfl (by omega) fun a ea => ⟨_, ea, ?_⟩⟩
  rw [Int.toNat_natCast]
  refine (reason_ok (h.grow (gA.trans gd)).pm k _).mono ?_
  rintro e w14 ⟨rfl, g14⟩
  obtain ⟨_, _, _, _, tv5⟩ := g.tr_val r
  rw [tv5]
  refine ⟨_, rfl, cnd_i (fun _ => ⟨rfl, gA.trans (gd.trans g14)⟩) (fun r2 => ?_)⟩
  have hne : j ≠ p := fun e => by subst e; rw [ep, hx2] at r2; simp at r2
  exact ⟨_, by omega, j + 1, wN (by omega) (by omega), by omega, rfl, gd.trans g14⟩

theorem open6_ok (h : WD w b H s cp hs cs gp gl dp dl) (hv : v = s.vars) (l : Int) :
    Calls Try.prog fathomlaw06_open.id #[.agg #[ptrV b, .int .i64 v, .slice cp cn cc, .slice gp gn gc, .slice dp dn dc], .int .i64 l] w fun e w' => ∃ r : Bool, e = .returned (.bool r) ∧ (r = true ↔ InV s.vars l ∧ s.val l = 0) ∧ Grow w w' := by
  have g := h.g
  have t60 := h.tr60
  have tm : (s.R .tr).length ≤ maxLen := by unfold maxLen; omega
  refine fathomlaw06_open.calls ?_
  intro n1 w2 h2
  refine ⟨Grow w2, (Mod.refl w2).drew, (refLit_ok l _).mono ?_⟩
  rintro e w4 ⟨rfl, g4⟩
  have g4 := (Mod.refl w2 : Grow w2 w2).drew.trans g4
  have B : ∀ {u' : World}, Grow w2 u' → Has u' n1 #[ptrV b, .int .i64 v, .slice cp cn cc, .slice gp gn gc, .slice dp dn dc] := fun g' => h2.has.grow g'
  have iff1 := isB_iff (l := l) g.vmax
  refine ⟨_, rfl, g4, cnd_i (fun r => ?_) (fun r => ⟨false, rfl, ⟨fun e => (by cases e), fun e => ?_⟩, h2.mod.trans g4⟩)⟩
  · have hb : -1048576 ≤ l ∧ l ≤ 1048576 := by
      unfold litB at r
      simp only [Bool.and_eq_true, decide_eq_true_eq] at r
      omega
    refine (refVar_ok (by omega) _ (by omega)).mono ?_
    rintro e w6 ⟨rfl, g6⟩
    have g6 := g4.trans g6
    refine ⟨_, rfl, g6, _, fun u hu => cell_add (B hu) rfl, cnd_i (fun r2 => ?_) (fun r2 => ⟨false, rfl, ⟨fun e => (by cases e), fun e => ?_⟩, h2.mod.trans g6⟩)⟩
    · have hiv : InV s.vars l := iff1.1 (by unfold isB; rw [r]; rw [hv] at r2; simpa using r2)
      have v0 := g.v0 hiv
      refine ⟨_, fun u hu => cell_add (B hu) rfl, (trail_ok (h.pm.grow (h2.mod.trans g6)) (by omega)).mono ?_⟩
      rintro e w10 ⟨q, d, rfl, oT, g10, f10⟩
      have g10 := g6.trans g10
      refine ⟨_, _, _, rfl, g10, (has_ok oT.vw rfl tm _).mono ?_⟩
      rintro e w12 ⟨rfl, g12⟩
      have g12 := g10.trans g12
      refine ⟨_, rfl, g12, cnd_i (fun r3 => ?_) (fun r3 => ⟨false, rfl, ⟨fun e => (by cases e), fun e => ?_⟩, h2.mod.trans g12⟩)⟩
      · refine ⟨_, fun u hu => cell_add (B hu) rfl, (trail_ok (h.pm.grow (h2.mod.trans g12)) (by omega)).mono ?_⟩
        rintro e w15 ⟨q, d, rfl, oT, g15, f15⟩
        rw [nw _ hb]
        refine ⟨_, _, _, rfl, (has_ok oT.vw rfl tm _).mono ?_⟩
        rintro e w17 ⟨rfl, g17⟩
        refine ⟨_, rfl, _, rfl, ?_, h2.mod.trans (g12.trans (g15.trans g17))⟩
        rw [v0]
        simp only [Bool.not_eq_true', decide_eq_false_iff_not] at r3 ⊢
        exact ⟨fun e => ⟨hiv, r3, e⟩, fun e => e.2.2⟩
      · simp only [Bool.not_eq_false', decide_eq_true_eq] at r3
        exact absurd r3 (v0.1 e.2).1
    · have := e.1.amt
      simp only [decide_eq_false_iff_not] at r2
      omega
  · have := iff1.2 e.1
    unfold isB at this
    rw [r] at this
    simp at this

/-- What a run leaves, and tells. -/
def Told (s : PSt) (r : Int) : Prop := (r = -1 ∧ Closed s) ∨ ∃ i : Nat, r = i ∧ Brk s i

/-- What the document tells of what a run leaves. -/
theorem fol_told (g : Good s) {r : Int} (ht : Told s r) {c : List (List Int)} (hc : ∀ x, x ∈ c ↔ s.cls x) {T : List Int} {br : Bool} (hF : Fol c s.dec T) (h1 : br = true → ∃ x ∈ c, brokenP x T = true) (h2 : br = false → ∀ x ∈ c, brokenP x T = false ∧ unitF x T = 0) :
    (r = -1 → br = false ∧ (∀ x ∈ s.R .tr, x ∈ T) ∧ (∀ x ∈ T, x ∈ s.R .tr) ∧ (s.R .tr).length = T.length) ∧ (r ≥ 0 → br = true) := by
  have hls : Ls s.vars T := fol_ls (fun x hx => g.clv ((hc x).1 hx)) (decl_ls g) hF
  have sub : br = false → ∀ x ∈ s.R .tr, x ∈ T := fun e => by
    refine g.trail_sub (fun x hx => ?_) hls.con fun x hx => h2 e x ((hc x).2 hx)
    clear h1 h2
    induction hF with
    | refl => exact hx
    | step a _ _ ih => exact List.mem_append_left _ (ih (fol_ls (fun x hx => g.clv ((hc x).1 hx)) (decl_ls g) a))
  refine ⟨fun e => ?_, fun e => ?_⟩
  · rcases ht with ⟨_, hC⟩ | ⟨i, e2, _⟩
    · have hT := hC.fol g (fun x hx => (hc x).1 hx) g.dec_mem hF
      have hb : br = false := by
        rw [← Bool.not_eq_true]
        intro e
        obtain ⟨x, hx, hbx⟩ := h1 e
        rw [hC.notBroken g hT ((hc x).1 hx)] at hbx
        cases hbx
      exact ⟨hb, sub hb, hT, ls_len g.ls hls (sub hb) hT⟩
    · omega
  · rcases ht with ⟨e2, _⟩ | ⟨i, _, hB⟩
    · omega
    · rw [← Bool.not_eq_false]
      intro e
      have hb := (h2 e _ ((hc _).2 ⟨i, hB.1, rfl⟩)).1
      rw [← Bool.not_eq_true, brokenP_iff] at hb
      exact hb fun x hx => sub e _ (hB.2 x hx)

theorem WD.fol_cls (h : WD w b H s cp hs cs gp gl dp dl) : ∀ c ∈ thereL cs gl cs.length, ∀ x ∈ c, InV s.vars x := fun c hc => h.g.clv (h.mem.1 hc)

theorem ran_ok (h : WD w b H s cp hs cs gp gl dp dl) (hcn : cn = cs.length) (hgn : gn = gl.length) (hdn : dn = dl.length) {n : Int} (ht : Told s n) :
    Calls Try.prog fathomlaw06_ran.id #[.agg #[ptrV b, .int .i64 v, .slice cp cn cc, .slice gp gn gc, .slice dp dn dc], .int .i64 n] w fun e w' => e = .returned (.bool true) ∧ Grow w w' := by
  have g := h.g
  have t60 := h.tr60
  have vb := h.vb
  have tm : (s.R .tr).length ≤ maxLen := by unfold maxLen; omega
  have hcb := h.cb
  have hcs := h.cn
  have hgs := h.gn
  refine fathomlaw06_ran.calls ?_
  intro n1 w2 h2
  have B : ∀ {u' : World}, Grow w2 u' → Has u' n1 #[ptrV b, .int .i64 v, .slice cp cn cc, .slice gp gn gc, .slice dp dn dc] := fun g' => h2.has.grow g'
  have g2 : Grow w2 w2.drew := (Mod.refl w2).drew
  have hh := h.grow (h2.mod.trans g2)
  refine ⟨Grow w2, g2, _, _, _, _, _, _, _, _, _, _, _, fun u hu => ⟨cell_add (B hu) rfl, cell_add (B hu) rfl, cell_add (B hu) rfl, cell_add (B hu) rfl, cell_add (B hu) rfl, trivial⟩, (there6_ok hh.v2 hcn hh.gv hgn (by omega) (by omega)).mono ?_⟩
  rintro e w9 ⟨q, d, ks, rfl, v9, g9, _⟩
  have g9 := g2.trans g9
  have tl := thereL_len cs gl cs.length
  have hh := h.grow (h2.mod.trans g9)
  refine ⟨_, _, _, rfl, g9, _, _, _, fun u hu => cell_add (B hu) rfl, (refFollows_ok (V := s.vars) v9 rfl (by omega) hh.dv hdn (by omega) h.fol_cls (h.dd ▸ decl_ls g)).mono ?_⟩
  rintro e w12 ⟨T, br, q2, d2, rfl, oT, hF, hb1, hb2, g12, f12⟩
  have g12 := g9.trans g12
  have hh := h.grow (h2.mod.trans g12)
  rw [h.dd] at hF
  obtain ⟨t1, t2⟩ := fol_told g ht (fun x => h.mem) hF hb1 hb2
  have hls : Ls s.vars T := fol_ls h.fol_cls (decl_ls g) hF
  have hTl := hls.len
  refine ⟨_, _, _, _, rfl, cnd_i (fun r => ?_) (fun r => ?_)⟩
  · have r : n ≥ 0 := by simpa using r
    rcases ht with ⟨e2, _⟩ | ⟨i, rfl, hB⟩
    · omega
    have his : s.is (i : Int) = true := PSt.is_iff.2 ⟨by omega, by rw [Int.toNat_natCast]; exact hB.1⟩
    have hal := g.al
    refine ⟨_, cell_add (B g12) rfl, (clause_ok hh.pm (i : Int) (fun j => by have := hal j; omega)).mono ?_⟩
    rintro e w16 ⟨q3, d3, rfl, o3, g16, f3⟩
    simp only [his, if_true, Int.toNat_natCast] at o3 ⊢
    have ha := hal i
    have g16 := g12.trans g16
    refine ⟨_, _, _, _, rfl, ?_⟩
    rw [t2 r]
    refine cnd_t rfl (cnd_t rfl ⟨_, cell_add (B g16) rfl, (trail_ok (h.pm.grow (h2.mod.trans g16)) (by omega)).mono ?_⟩)
    rintro e w20 ⟨q4, d4, rfl, o4, g20, f4⟩
    refine ⟨_, _, _, rfl, (refBroken_ok (o3.grow g20).vw rfl (by unfold maxLen; omega) o4.vw rfl tm fun x hx => ?_).mono ?_⟩
    · exact (g.cv i hB.1 x ((g.ca i hB.1 x).2 hx)).bd g.vmax
    rintro e w22 ⟨rfl, g22⟩
    refine ⟨_, rfl, ?_, h2.mod.trans (g16.trans (g20.trans g22))⟩
    rw [brokenP_iff.2 hB.2]
  · have r : n < 0 := by simpa using r
    have e1 : n = -1 := by
      rcases ht with ⟨e2, _⟩ | ⟨i, rfl, _⟩
      · exact e2
      · omega
    subst e1
    obtain ⟨a1, a2, a3, a4⟩ := t1 rfl
    rw [a1]
    refine cnd_t rfl (cnd_t rfl ⟨_, cell_add (B g12) rfl, (trail_ok hh.pm (by omega)).mono ?_⟩)
    rintro e w25 ⟨q4, d4, rfl, o4, g25, f4⟩
    refine ⟨_, _, _, rfl, (refAlike_ok o4.vw rfl tm (oT.vw.grow g25) rfl (by unfold maxLen; omega) a2 a3 a4).mono ?_⟩
    rintro e w27 ⟨rfl, g27⟩
    exact ⟨_, rfl, rfl, h2.mod.trans (g12.trans (g25.trans g27))⟩

end Go.Proofs.Ytdaiolinnpligaa.W
