/- Layer 18: what a model of the formula means, plain. -/
import Derived.Test.YtambabpklfeaoaaLitVal
import Derived.Test.YtambabpklfeaoaaTs6
import Derived.Test.YtambabpklfeaoaaTs10
namespace Go.Proofs.Ytambabpklfeaoaa.W
open Go Go.Fw Go.RowKit Go.TsP

/-- The inputs of the first nodes, by a model. -/
def insP (g : List (Int × Int)) (v m : List Int) : Nat → List Bool
  | 0 => []
  | t + 1 => insP g v m t ++ (if (g.getD t (0, 0)).1 < 0 then [decide (valP m (v.getD t 0) > 0)] else [])
theorem insP_succ (g : List (Int × Int)) (v m : List Int) (t : Nat) : insP g v m (t + 1) = insP g v m t ++ (if (g.getD t (0, 0)).1 < 0 then [decide (valP m (v.getD t 0) > 0)] else []) := rfl
theorem insP_len (g : List (Int × Int)) (v m : List Int) : ∀ t, (insP g v m t).length = cntIn g t
  | 0 => rfl
  | t + 1 => by rw [insP_succ, List.length_append, insP_len g v m t, cntIn_succ]; split <;> rfl
theorem insP_get (g : List (Int × Int)) (v m : List Int) {i : Nat} (hA : (g.getD i (0, 0)).1 < 0) : ∀ {t : Nat}, i < t → (insP g v m t).getD (cntIn g i) false = decide (valP m (v.getD i 0) > 0)
  | 0, h => by omega
  | t + 1, h => by
    rw [insP_succ]
    by_cases e : i = t
    · subst e
      rw [if_pos hA, List.getD_eq_getElem?_getD, List.getElem?_append_right (by rw [insP_len]; exact Nat.le_refl _), insP_len, Nat.sub_self]
      rfl
    · have h2 : cntIn g (i + 1) ≤ cntIn g t := cntIn_mono g (by omega)
      rw [cntIn_succ, if_pos hA] at h2
      have := insP_get g v m hA (t := t) (by omega)
      rw [List.getD_eq_getElem?_getD] at this ⊢
      rw [List.getElem?_append_left (by rw [insP_len]; omega), this]

theorem amt_neg (x : Int) : amt (-x) = amt x := by unfold amt; split <;> split <;> omega

/-- The value of a variable of a total model. -/
theorem valP_var {m : List Int} (hb : ∀ x ∈ m, x = 1 ∨ x = -1) {x : Int} (h1 : 1 ≤ x) (h2 : x ≤ m.length) (h3 : x ≤ 1048576) : valP m x = m.getD (x - 1).toNat 0 ∧ valP m (-x) = - m.getD (x - 1).toNat 0 := by
  have hx := hb _ (getD_mem (l := m) (t := (x - 1).toNat) (by omega) 0)
  have a1 : amt x = x := by unfold amt; rw [if_neg (by omega)]
  have l1 : litB x = true := by simp only [litB, decide_eq_true_eq]; omega
  have l2 : litB (-x) = true := by simp only [litB, decide_eq_true_eq]; omega
  refine ⟨?_, ?_⟩
  · unfold valP
    rw [a1, l1, if_neg (by rintro (h | h); (cases h); omega), if_neg (by omega)]
    rcases hx with e | e <;> rw [e]
    · rw [decide_eq_true (by omega), decide_eq_true (by omega), if_pos rfl]
    · rw [decide_eq_false (by omega), decide_eq_true (by omega), if_neg (by simp)]
  · unfold valP
    rw [amt_neg, a1, l2, if_neg (by rintro (h | h); (cases h); omega), if_neg (by omega)]
    rcases hx with e | e <;> rw [e]
    · rw [decide_eq_true (by omega), decide_eq_false (by omega), if_neg (by simp)]
    · rw [decide_eq_false (by omega), decide_eq_false (by omega), if_pos rfl]; rfl

section
variable {g : List (Int × Int)} {cs : List (List Int)} {m : List Int}

/-- Is a node's variable true? -/
def tvP (v m : List Int) (i : Nat) : Bool := decide (valP m (v.getD i 0) = 1)
def litT (v m : List Int) (l : Int) : Bool := if l < 2 then l == 1 else !(tvP v m (l / 2 - 1).toNat == (l % 2 == 1))

theorem codeV {P : Nat → Bool} {n : Nat} (hm : m.length = cnt P n) (hn : n ≤ 1048576) (hb : ∀ x ∈ m, x = 1 ∨ x = -1) {l : Int} (h2 : 2 ≤ l) (hl : l ≤ 2 * n + 1) (hP : P (l / 2).toNat = true) : decide (valP m (codeP (vs P n) l) = 1) = litT (vs P n) m l := by
  have hi : (l / 2 - 1).toNat < n := by omega
  have e : (l / 2 - 1).toNat + 1 = (l / 2).toNat := by omega
  have hv := vs_get P hi
  rw [e, hP, if_pos rfl] at hv
  have h1 : 0 < cnt P (l / 2).toNat := by rw [← e]; exact cnt_pos P (by rw [e]; exact hP)
  have h3 : cnt P (l / 2).toNat ≤ cnt P n := cnt_mono P (by omega)
  have h4 := cnt_le P n
  have hval := valP_var hb (x := (cnt P (l / 2).toNat : Int)) (by omega) (by omega) (by omega)
  have hx := hb _ (getD_mem (l := m) (t := ((cnt P (l / 2).toNat : Int) - 1).toNat) (by omega) 0)
  unfold litT tvP codeP
  rw [vs_len, Int.tdiv_eq_ediv_of_nonneg (show 0 ≤ l by omega), Int.tmod_eq_emod_of_nonneg (show 0 ≤ l by omega), if_neg (show ¬ (l < 2 ∨ l / 2 > (n : Int)) by omega), if_neg (show ¬ l < 2 by omega), hv]
  by_cases ho : l % 2 = 1
  · rw [if_pos ho, hval.1, hval.2]
    rw [show (l % 2 == 1) = true by simpa using ho]
    rcases hx with e | e <;> rw [e] <;> decide
  · rw [if_neg ho, hval.1]
    rw [show (l % 2 == 1) = false by simpa using ho]
    rcases hx with e | e <;> rw [e] <;> decide

theorem clT {P : Nat → Bool} {n : Nat} (hm : m.length = cnt P n) (hn : n ≤ 1048576) (hb : ∀ x ∈ m, x = 1 ∨ x = -1) : ∀ {c : List Int}, (∀ l ∈ c, l = 0 ∨ l = 1 ∨ (2 ≤ l ∧ l ≤ 2 * n + 1 ∧ P (l / 2).toNat = true)) →
    (match clP (vs P n) c with | none => true | some o => o.any fun x => decide (valP m x = 1)) = c.any (litT (vs P n) m)
  | [], _ => rfl
  | l :: c, h => by
    have ih := clT hm hn hb (c := c) fun x hx => h x (List.mem_cons_of_mem _ hx)
    simp only [clP, List.any_cons]
    rcases h l List.mem_cons_self with rfl | rfl | ⟨h2, h3, hP⟩
    · rw [if_neg (by decide), if_pos rfl, ih]
      have : litT (vs P n) m 0 = false := rfl
      rw [this, Bool.false_or]
    · rw [if_pos rfl]
      have : litT (vs P n) m 1 = true := rfl
      rw [this, Bool.true_or]
    · rw [if_neg (by omega), if_neg (by omega)]
      have hc := codeV hm hn hb h2 h3 hP
      cases hh : clP (vs P n) c with
      | none => rw [hh] at ih; simp only at ih; rw [← ih]; simp
      | some o =>
        rw [hh] at ih
        simp only [Option.map_some, List.any_cons]
        rw [hc]
        simp only at ih
        rw [ih]

/-- Each literal of a clause that is taken is of a node that is so. -/
theorem allC_in (h : mayT g cs = true) {c : List Int} (hca : c ∈ allC g cs (inP g cs)) : ∀ l ∈ c, l = 0 ∨ l = 1 ∨ (2 ≤ l ∧ l ≤ 2 * g.length + 1 ∧ inP g cs (l / 2).toNat = true) := by
  have hgm := mayT_g h
  rcases List.mem_append.1 hca with hca | hca
  · obtain ⟨i, hi, hci⟩ := List.mem_flatMap.1 hca
    have hi : i < g.length := List.mem_range.1 hi
    unfold gcl at hci
    split at hci
    · rename_i hP
      obtain ⟨hP, hA⟩ := hP
      have hb := okG_and (mayG_at hgm hi) hA
      have hH := inP_iff.1 hP
      generalize hx : g.getD i (0, 0) = x at *
      obtain ⟨A, B⟩ := x
      simp only at hA hb hci
      have in1 : ∀ l : Int, (l / 2 = A / 2 ∨ l / 2 = B / 2) → 0 ≤ l → inP g cs (l / 2).toNat = true := by
        intro l hl h0
        rw [inP_iff]
        have hk : kid g i (l / 2).toNat := by
          refine ⟨by rw [hx]; exact hA, ?_⟩
          rw [hx]
          simp only
          rw [Int.tdiv_eq_ediv_of_nonneg hA, Int.tdiv_eq_ediv_of_nonneg hb.1]
          omega
        exact .kid (kid_le hgm hi hk) hi hk hH
      have in2 : ∀ l : Int, (l = 2 * i + 3 ∨ l = 2 * i + 2) → inP g cs (l / 2).toNat = true := by
        intro l hl
        rw [show (l / 2).toNat = i + 1 by omega]
        exact hP
      have fA : flipL A / 2 = A / 2 ∧ 0 ≤ flipL A ∧ flipL A ≤ 2 * i + 1 := by unfold flipL; split <;> omega
      have fB : flipL B / 2 = B / 2 ∧ 0 ≤ flipL B ∧ flipL B ≤ 2 * i + 1 := by unfold flipL; split <;> omega
      have wrap : ∀ l : Int, 0 ≤ l → l ≤ 2 * g.length + 1 → inP g cs (l / 2).toNat = true → l = 0 ∨ l = 1 ∨ (2 ≤ l ∧ l ≤ 2 * g.length + 1 ∧ inP g cs (l / 2).toNat = true) := by
        intro l h0 h1 h2
        by_cases e : 2 ≤ l
        · exact .inr (.inr ⟨e, h1, h2⟩)
        · omega
      simp only [List.mem_cons, List.not_mem_nil, or_false] at hci
      intro l hl
      rcases hci with rfl | rfl | rfl <;> simp only [List.mem_cons, List.not_mem_nil, or_false] at hl
      · rcases hl with rfl | rfl
        · exact wrap _ (by omega) (by omega) (in2 _ (.inl rfl))
        · exact wrap _ (by omega) (by omega) (in1 _ (.inl rfl) (by omega))
      · rcases hl with rfl | rfl
        · exact wrap _ (by omega) (by omega) (in2 _ (.inl rfl))
        · exact wrap _ (by omega) (by omega) (in1 _ (.inr rfl) (by omega))
      · rcases hl with rfl | rfl | rfl
        · exact wrap _ (by omega) (by omega) (in2 _ (.inr rfl))
        · exact wrap _ (by omega) (by omega) (in1 _ (.inl fA.1) (by omega))
        · exact wrap _ (by omega) (by omega) (in1 _ (.inr fB.1) (by omega))
    · simp at hci
  · have h' := h
    simp only [mayT, Bool.and_eq_true, List.all_eq_true] at h'
    have hc1 := h'.2 c hca
    simp only [mayC, Bool.and_eq_true, List.all_eq_true, decide_eq_true_eq] at hc1
    intro l hl
    have := hc1.1 l hl
    simp only [isL, decide_eq_true_eq] at this
    by_cases e : 2 ≤ l
    · refine .inr (.inr ⟨e, this.2, ?_⟩)
      rw [inP_iff]
      refine .hit ⟨c, hca, l, hl, ?_⟩
      rw [Int.tdiv_eq_ediv_of_nonneg this.1]; omega
    · omega

theorem holds_all (h : mayT g cs = true) (hn : g.length ≤ 1048576) (hm : m.length = cnt (inP g cs) g.length) (hb : ∀ x ∈ m, x = 1 ∨ x = -1) :
    holdsP m (outC (vs (inP g cs) g.length) (allC g cs (inP g cs))) = (allC g cs (inP g cs)).all fun c => c.any (litT (vs (inP g cs) g.length) m) := by
  rw [Bool.eq_iff_iff]
  unfold holdsP outC
  rw [List.all_eq_true, List.all_eq_true]
  constructor
  · intro hh c hc
    have ct := clT (c := c) hm hn hb (allC_in h hc)
    cases hcl : clP (vs (inP g cs) g.length) c with
    | none => rw [hcl] at ct; exact ct.symm
    | some o =>
      rw [hcl] at ct
      simp only at ct
      rw [← ct]
      exact hh o (List.mem_filterMap.2 ⟨c, hc, hcl⟩)
  · intro hh o ho
    obtain ⟨c, hc, hcl⟩ := List.mem_filterMap.1 ho
    have ct := clT (c := c) hm hn hb (allC_in h hc)
    rw [hcl] at ct
    simp only at ct
    rw [ct]
    exact hh c hc

theorem litT_flip (v : List Int) {l : Int} (h : 0 ≤ l) : litT v m (flipL l) = !litT v m l := by
  unfold litT flipL
  by_cases h2 : l < 2
  · have : l = 0 ∨ l = 1 := by omega
    rcases this with rfl | rfl <;> simp
  · by_cases he : l % 2 = 0
    · rw [if_pos he, if_neg (by omega), if_neg h2, show ((l + 1) / 2 - 1).toNat = (l / 2 - 1).toNat by omega, show ((l + 1) % 2 == 1) = true by simp <;> omega, show (l % 2 == 1) = false by simp <;> omega]
      cases tvP v m (l / 2 - 1).toNat <;> rfl
    · rw [if_neg he, if_neg (by omega), if_neg h2, show ((l - 1) / 2 - 1).toNat = (l / 2 - 1).toNat by omega, show ((l - 1) % 2 == 1) = false by simp <;> omega, show (l % 2 == 1) = true by simp <;> omega]
      cases tvP v m (l / 2 - 1).toNat <;> rfl

theorem means (h : mayT g cs = true) (hn : g.length ≤ 1048576) (hm : m.length = cnt (inP g cs) g.length) (hb : ∀ x ∈ m, x = 1 ∨ x = -1) :
    holdsP m (outC (vs (inP g cs) g.length) (allC g cs (inP g cs))) = true ↔ (askedP g cs (insP g (vs (inP g cs) g.length) m g.length) = true ∧ ∀ i, i < g.length → inP g cs (i + 1) = true → tvP (vs (inP g cs) g.length) m i = truth g (insP g (vs (inP g cs) g.length) m g.length) (2 * i + 2)) := by
  have hgm := mayT_g h
  have hv : ∀ {i : Nat}, i < g.length → inP g cs (i + 1) = true → decide (valP m ((vs (inP g cs) g.length).getD i 0) > 0) = tvP (vs (inP g cs) g.length) m i := by
    intro i _ _
    unfold tvP
    rcases valP_cases m ((vs (inP g cs) g.length).getD i 0) with e | e | e <;> rw [e] <;> decide
  rw [holds_all h hn hm hb, List.all_eq_true]
  generalize hins : insP g (vs (inP g cs) g.length) m g.length = ins
  -- gates
  have gate : ∀ i, i < g.length → inP g cs (i + 1) = true → 0 ≤ (g.getD i (0, 0)).1 → ((∀ c ∈ gcl g (inP g cs) i, c.any (litT (vs (inP g cs) g.length) m) = true) ↔ tvP (vs (inP g cs) g.length) m i = (litT (vs (inP g cs) g.length) m (g.getD i (0, 0)).1 && litT (vs (inP g cs) g.length) m (g.getD i (0, 0)).2)) := by
    intro i hi hP hA
    have hok := okG_and (mayG_at hgm hi) hA
    unfold gcl
    rw [if_pos ⟨hP, hA⟩]
    have l3 : litT (vs (inP g cs) g.length) m (2 * (i : Int) + 3) = !tvP (vs (inP g cs) g.length) m i := by
      unfold litT
      rw [if_neg (by omega), show ((2 * (i : Int) + 3) / 2 - 1).toNat = i by omega, show ((2 * (i : Int) + 3) % 2 == 1) = true by simp <;> omega]
      cases tvP (vs (inP g cs) g.length) m i <;> rfl
    have l2 : litT (vs (inP g cs) g.length) m (2 * (i : Int) + 2) = tvP (vs (inP g cs) g.length) m i := by
      unfold litT
      rw [if_neg (by omega), show ((2 * (i : Int) + 2) / 2 - 1).toNat = i by omega, show ((2 * (i : Int) + 2) % 2 == 1) = false by simp <;> omega]
      cases tvP (vs (inP g cs) g.length) m i <;> rfl
    simp only [List.mem_cons, List.not_mem_nil, or_false, forall_eq_or_imp, forall_eq, List.any_cons, List.any_nil, Bool.or_false, l3, l2, litT_flip _ hA, litT_flip _ hok.1]
    cases tvP (vs (inP g cs) g.length) m i <;> cases litT (vs (inP g cs) g.length) m (g.getD i (0, 0)).1 <;> cases litT (vs (inP g cs) g.length) m (g.getD i (0, 0)).2 <;> simp
  have kids : ∀ i, i < g.length → inP g cs (i + 1) = true → 0 ≤ (g.getD i (0, 0)).1 → ∀ l, (l = (g.getD i (0, 0)).1 ∨ l = (g.getD i (0, 0)).2) → 0 ≤ l ∧ l ≤ 2 * i + 1 ∧ inP g cs (l / 2).toNat = true := by
    intro i hi hP hA l hl
    have hok := okG_and (mayG_at hgm hi) hA
    have hk : kid g i (l / 2).toNat := by
      refine ⟨hA, ?_⟩
      rw [Int.tdiv_eq_ediv_of_nonneg hA, Int.tdiv_eq_ediv_of_nonneg hok.1]
      rcases hl with rfl | rfl <;> omega
    exact ⟨by omega, by omega, inP_iff.2 (.kid (kid_le hgm hi hk) hi hk (inP_iff.1 hP))⟩
  have litEq : ∀ (N : Nat), (∀ i, i < N → i < g.length → inP g cs (i + 1) = true → tvP (vs (inP g cs) g.length) m i = truth g ins (2 * i + 2)) → ∀ l : Int, 0 ≤ l → l ≤ 2 * N + 1 → l ≤ 2 * g.length + 1 → inP g cs (l / 2).toNat = true → litT (vs (inP g cs) g.length) m l = truth g ins l := by
    intro N hN l h0 h1 h3 hP
    by_cases h2 : l < 2
    · rw [truth_lt h2]; unfold litT; rw [if_pos h2]
    · have e1 : (l / 2 - 1).toNat + 1 = (l / 2).toNat := by omega
      have := hN (l / 2 - 1).toNat (by omega) (by omega) (by rw [e1]; exact hP)
      have t1 := truth_node (ins := ins) hgm (i := (l / 2 - 1).toNat) (by omega) (l := l) (by omega) (by omega)
      have t2 := truth_node (ins := ins) hgm (i := (l / 2 - 1).toNat) (by omega) (l := 2 * ((l / 2 - 1).toNat : Int) + 2) (by omega) (by omega)
      rw [show ((2 * ((l / 2 - 1).toNat : Int) + 2) % 2 == 1) = false by simp <;> omega] at t2
      unfold litT
      rw [if_neg h2, this, t1, t2]
      simp
  constructor
  · intro hh
    have hall : ∀ N, N ≤ g.length → ∀ i, i < N → i < g.length → inP g cs (i + 1) = true → tvP (vs (inP g cs) g.length) m i = truth g ins (2 * i + 2) := by
      intro N
      induction N with
      | zero => intro _ i hi; omega
      | succ N ih =>
        intro hN i hi hig hP
        by_cases e : i < N
        · exact ih (by omega) i e hig hP
        have e : i = N := by omega
        subst e
        have t2 := truth_node (ins := ins) hgm hig (l := 2 * (i : Int) + 2) (by omega) (by omega)
        rw [show ((2 * (i : Int) + 2) % 2 == 1) = false by simp <;> omega] at t2
        rw [t2]
        by_cases hA : 0 ≤ (g.getD i (0, 0)).1
        · rw [if_pos hA]
          have hg := (gate i hig hP hA).1 fun c hc => hh c (List.mem_append_left _ (List.mem_flatMap.2 ⟨i, List.mem_range.2 hig, hc⟩))
          obtain ⟨a1, a2, a3⟩ := kids i hig hP hA _ (.inl rfl)
          obtain ⟨b1, b2, b3⟩ := kids i hig hP hA _ (.inr rfl)
          rw [hg, litEq i (ih (by omega)) _ a1 a2 (by omega) a3, litEq i (ih (by omega)) _ b1 b2 (by omega) b3]
          simp
        · rw [if_neg hA, ← hins, insP_get g _ m (by omega) hig, hv hig hP]
          simp
    refine ⟨?_, fun i hi hP => hall g.length (Nat.le_refl _) i hi hi hP⟩
    unfold askedP
    rw [List.all_eq_true]
    intro c hc
    have := hh c (List.mem_append_right _ hc)
    rw [List.any_eq_true] at this ⊢
    obtain ⟨l, hl, ht⟩ := this
    refine ⟨l, hl, ?_⟩
    rcases allC_in h (List.mem_append_right _ hc) l hl with rfl | rfl | ⟨h2, h3, hP⟩
    · cases ht
    · rw [truth_lt (by omega)]; rfl
    · rw [← litEq g.length (hall g.length (Nat.le_refl _)) l (by omega) h3 h3 hP]; exact ht
  · rintro ⟨ha, hall⟩ c hc
    have hall' : ∀ i, i < g.length → i < g.length → inP g cs (i + 1) = true → tvP (vs (inP g cs) g.length) m i = truth g ins (2 * i + 2) := fun i _ hi hP => hall i hi hP
    rcases List.mem_append.1 hc with hc | hc
    · obtain ⟨i, hi, hci⟩ := List.mem_flatMap.1 hc
      have hi : i < g.length := List.mem_range.1 hi
      have hci' := hci
      unfold gcl at hci'
      split at hci'
      · rename_i hP
        obtain ⟨hP, hA⟩ := hP
        refine (gate i hi hP hA).2 ?_ c hci
        obtain ⟨a1, a2, a3⟩ := kids i hi hP hA _ (.inl rfl)
        obtain ⟨b1, b2, b3⟩ := kids i hi hP hA _ (.inr rfl)
        have t2 := truth_node (ins := ins) hgm hi (l := 2 * (i : Int) + 2) (by omega) (by omega)
        rw [show ((2 * (i : Int) + 2) % 2 == 1) = false by simp <;> omega, if_pos hA] at t2
        rw [hall i hi hP, t2, litEq g.length hall' _ a1 (by omega) (by omega) a3, litEq g.length hall' _ b1 (by omega) (by omega) b3]
        simp
      · simp at hci'
    · unfold askedP at ha
      rw [List.all_eq_true] at ha
      have := ha c hc
      rw [List.any_eq_true] at this ⊢
      obtain ⟨l, hl, ht⟩ := this
      refine ⟨l, hl, ?_⟩
      rcases allC_in h (List.mem_append_right _ hc) l hl with rfl | rfl | ⟨h2, h3, hP⟩
      · rw [truth_lt (by omega)] at ht; cases ht
      · rfl
      · rw [litEq g.length hall' l (by omega) h3 h3 hP]; exact ht
end
end Go.Proofs.Ytambabpklfeaoaa.W
