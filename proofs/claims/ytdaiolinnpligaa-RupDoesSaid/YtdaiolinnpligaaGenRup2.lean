/- The functions that the statements reach, printed as what the frame asks of them, each checked by the kernel against the loaded text. -/
import Derived.Test.YtdaiolinnpligaaGenRup1
namespace Go.Proofs.Ytdaiolinnpligaa.W
open Go Go.Fw Go.Proofs
set_option linter.unusedVariables false
set_option maxRecDepth 100000
/-! ### fathom/fathomref01.May: function 48 (named slots 4) -/
def fathomref01_May.w (c__p : Option Addr) (c__n : Nat) (c__c : Nat) (w : World) (K : Value → World → Prop) : Prop :=
  ∃ I1 : Int → World → Nat → Prop, (∃ k2, I1 0 w k2) ∧
  ∀ (i_4 : Int) (w5 : World) (k2 : Nat) (_ : Fr), I1 i_4 w5 k2 →
  cnd (decide (i_4 < (c__n : Int)))
    (ixK c__p c__n i_4 1 fun a6 =>
      ∃ x7 : Int, w5.cell? a6 = some (.int .i64 x7) ∧ 
      Calls Try.prog 64 #[.int .i64 x7] w5 fun e w8 => ∃ r9 : Bool, e = .returned (.bool r9) ∧ 
      cnd (!r9)
      (K (.bool false) w8)
      (∃ k3, k3 < k2 ∧ I1 (IntKind.i64.wrap (i_4 + (1 : Int))) w8 k3))
    (K (.bool (decide ((c__n : Int) ≤ (4096 : Int)))) w5)
theorem fathomref01_May.eq (c__p : Option Addr) (c__n : Nat) (c__c : Nat) (w : World) (K : Value → World → Prop) : wpF Try.prog Try.f48 (.two .leaf (.two (.two .leaf (.one (.loop [(3, 3)] .leaf))) .leaf)) [.slice c__p c__n c__c] w K = fathomref01_May.w c__p c__n c__c w K := by kernel_rfl
theorem fathomref01_May.ok : fnOk Try.prog Try.f48 1 = true := by kernel_rfl
theorem fathomref01_May.calls {c__p : Option Addr} {c__n : Nat} {c__c : Nat} {w : World} {R : Ending → World → Prop} (h : fathomref01_May.w c__p c__n c__c w fun v w' => R (.returned v) w') : Calls Try.prog 48 #[.slice c__p c__n c__c] w R :=
  calls_of mixed Try.func48 fathomref01_May.ok rfl (fun K => fathomref01_May.eq c__p c__n c__c w K) h

/-! ### fathom/rup.First: function 49 (named slots 5) -/
def rup_First.w (f_0 : Int) (f_1_p : Option Addr) (f_1_n : Nat) (f_1_c : Nat) (c__p : Option Addr) (c__n : Nat) (c__c : Nat) (w : World) (K : Value → World → Prop) : Prop :=
  ∀ (n1 : Nat) (w2 : World), New (.cells #[.int .i64 f_0, .slice f_1_p f_1_n f_1_c] 24) w n1 w2 → 
  ∃ x3 : Int, ∃ x4_p : Option Addr, ∃ x4_n : Nat, ∃ x4_c : Nat, CellsAt w2 (Addr.mk n1 0 none) 0 [.int .i64 x3, .slice x4_p x4_n x4_c] ∧ 
  Calls Try.prog 84 #[.agg #[.int .i64 x3, .slice x4_p x4_n x4_c], .slice c__p c__n c__c] w2 fun e w5 => ∃ r6 : Bool, e = .returned (.bool r6) ∧ 
  cnd r6
  (∃ x7 : Int, ∃ x8_p : Option Addr, ∃ x8_n : Nat, ∃ x8_c : Nat, CellsAt w5 (Addr.mk n1 0 none) 0 [.int .i64 x7, .slice x8_p x8_n x8_c] ∧ 
  ∀ (n9 : Nat) (w10 : World), New (.cells #[.slice c__p c__n c__c] 31) w5 n9 w10 → 
  Calls Try.prog 82 #[.agg #[.int .i64 x7, .slice x8_p x8_n x8_c], .slice (some (Addr.mk n9 0 none)) 1 1] w10 fun e w11 => ∃ r12 : Option Addr, e = .returned (.pointer r12) ∧ 
  Calls Try.prog 87 #[.pointer r12, .slice c__p c__n c__c] w11 fun e w13 => ∃ r14 : Bool, e = .returned (.bool r14) ∧ 
  K (.bool r14) w13)
  (K (.bool false) w5)
theorem rup_First.eq (f_0 : Int) (f_1_p : Option Addr) (f_1_n : Nat) (f_1_c : Nat) (c__p : Option Addr) (c__n : Nat) (c__c : Nat) (w : World) (K : Value → World → Prop) : wpF Try.prog Try.f49 .leaf [.agg #[.int .i64 f_0, .slice f_1_p f_1_n f_1_c], .slice c__p c__n c__c] w K = rup_First.w f_0 f_1_p f_1_n f_1_c c__p c__n c__c w K := by kernel_rfl
theorem rup_First.ok : fnOk Try.prog Try.f49 2 = true := by kernel_rfl
theorem rup_First.calls {f_0 : Int} {f_1_p : Option Addr} {f_1_n : Nat} {f_1_c : Nat} {c__p : Option Addr} {c__n : Nat} {c__c : Nat} {w : World} {R : Ending → World → Prop} (h : rup_First.w f_0 f_1_p f_1_n f_1_c c__p c__n c__c w fun v w' => R (.returned v) w') : Calls Try.prog 49 #[.agg #[.int .i64 f_0, .slice f_1_p f_1_n f_1_c], .slice c__p c__n c__c] w R :=
  calls_of mixed Try.func49 rup_First.ok rfl (fun K => rup_First.eq f_0 f_1_p f_1_n f_1_c c__p c__n c__c w K) h

/-! ### fathom/fathomref07.Unit: function 50 (named slots 9) -/
def fathomref07_Unit.w (clauses__p : Option Addr) (clauses__n : Nat) (clauses__c : Nat) (c__p : Option Addr) (c__n : Nat) (c__c : Nat) (w : World) (K : Value → World → Prop) : Prop :=
  Calls Try.prog 88 #[.slice c__p c__n c__c] w fun e w1 => ∃ r2 : Bool, e = .returned (.bool r2) ∧ 
  cnd r2
  (K (.bool true) w1)
  (∀ (n3 : Nat) (w4 : World), New (.cells #[] 3) w1 n3 w4 → 
    ∃ I5 : Option Addr → Nat → Nat → Int → World → Nat → Prop, (∃ k6, I5 (some (Addr.mk n3 0 none)) 0 0 0 w4 k6) ∧
    ∀ (t_8_p : Option Addr) (t_8_n : Nat) (t_8_c : Nat) (i_9 : Int) (w10 : World) (k6 : Nat) (_ : Fr), I5 t_8_p t_8_n t_8_c i_9 w10 k6 →
    cnd (decide (i_9 < (c__n : Int)))
      (ixK c__p c__n i_9 1 fun a11 =>
        ∃ x12 : Int, w10.cell? a11 = some (.int .i64 x12) ∧ 
        ∀ (n13 : Nat) (w14 : World), New (.cells #[.int .i64 (IntKind.i64.wrap (0 - x12))] 3) w10 n13 w14 → 
        ∃ w15 : World, ∃ r16_p : Option Addr, ∃ r16_n : Nat, ∃ r16_c : Nat, (Builtin.append_ #[31, 31] 31 #[.slice t_8_p t_8_n t_8_c, .slice (some (Addr.mk n13 0 none)) 1 1]).run Try.prog w14 = .ok (.slice r16_p r16_n r16_c) w15 ∧ 
        ∃ k7, k7 < k6 ∧ I5 r16_p r16_n r16_c (IntKind.i64.wrap (i_9 + (1 : Int))) w15 k7)
      (Calls Try.prog 89 #[.slice clauses__p clauses__n clauses__c, .slice t_8_p t_8_n t_8_c] w10 fun e w17 => ∃ r18_p : Option Addr, ∃ r18_n : Nat, ∃ r18_c : Nat, ∃ r19 : Bool, e = .returned (.tuple #[.slice r18_p r18_n r18_c, .bool r19]) ∧ 
        K (.bool r19) w17))
theorem fathomref07_Unit.eq (clauses__p : Option Addr) (clauses__n : Nat) (clauses__c : Nat) (c__p : Option Addr) (c__n : Nat) (c__c : Nat) (w : World) (K : Value → World → Prop) : wpF Try.prog Try.f50 (.two .leaf (.two .leaf (.two .leaf (.two (.two .leaf (.one (.loop [(5, 31), (6, 3)] .leaf))) .leaf)))) [.slice clauses__p clauses__n clauses__c, .slice c__p c__n c__c] w K = fathomref07_Unit.w clauses__p clauses__n clauses__c c__p c__n c__c w K := by kernel_rfl
theorem fathomref07_Unit.ok : fnOk Try.prog Try.f50 2 = true := by kernel_rfl
theorem fathomref07_Unit.calls {clauses__p : Option Addr} {clauses__n : Nat} {clauses__c : Nat} {c__p : Option Addr} {c__n : Nat} {c__c : Nat} {w : World} {R : Ending → World → Prop} (h : fathomref07_Unit.w clauses__p clauses__n clauses__c c__p c__n c__c w fun v w' => R (.returned v) w') : Calls Try.prog 50 #[.slice clauses__p clauses__n clauses__c, .slice c__p c__n c__c] w R :=
  calls_of mixed Try.func50 fathomref07_Unit.ok rfl (fun K => fathomref07_Unit.eq clauses__p clauses__n clauses__c c__p c__n c__c w K) h

/-! ### fathom/fathomref07.First: function 51 (named slots 7) -/
def fathomref07_First.w (clauses__p : Option Addr) (clauses__n : Nat) (clauses__c : Nat) (c__p : Option Addr) (c__n : Nat) (c__c : Nat) (w : World) (K : Value → World → Prop) : Prop :=
  cnd ((c__n : Int) == (0 : Int))
  (K (.bool false) w)
  (∃ I1 : Int → World → Nat → Prop, (∃ k2, I1 0 w k2) ∧
    ∀ (i_4 : Int) (w5 : World) (k2 : Nat) (_ : Fr), I1 i_4 w5 k2 →
    cnd (decide (i_4 < (clauses__n : Int)))
      (ixK clauses__p clauses__n i_4 1 fun a6 =>
        ∃ x7_p : Option Addr, ∃ x7_n : Nat, ∃ x7_c : Nat, w5.drew.cell? a6 = some (.slice x7_p x7_n x7_c) ∧ 
        ixK c__p c__n 0 1 fun a8 =>
        ∃ x9 : Int, w5.drew.cell? a8 = some (.int .i64 x9) ∧ 
        Calls Try.prog 63 #[.slice x7_p x7_n x7_c, .int .i64 (IntKind.i64.wrap (0 - x9))] w5.drew fun e w10 => ∃ r11 : Bool, e = .returned (.bool r11) ∧ 
        cnd (!r11)
        (∃ k3, k3 < k2 ∧ I1 (IntKind.i64.wrap (i_4 + (1 : Int))) w10 k3)
        (∃ W12 : World → Prop, W12 w10.drew ∧ 
          ∀ (n13 : Nat) (w14 : World), New (.cells #[] 3) w10.drew n13 w14 → 
          W12 w14 ∧ ∃ w15 : World, ∃ r16_p : Option Addr, ∃ r16_n : Nat, ∃ r16_c : Nat, (Builtin.append_ #[31, 31] 31 #[.slice (some (Addr.mk n13 0 none)) 0 0, .slice c__p c__n c__c]).run Try.prog w14 = .ok (.slice r16_p r16_n r16_c) w15 ∧ 
          W12 w15 ∧ ixK clauses__p clauses__n i_4 1 fun a17 =>
          ∃ x18_p : Option Addr, ∃ x18_n : Nat, ∃ x18_c : Nat, AtW W12 a17 (.slice x18_p x18_n x18_c) ∧ 
          ixK c__p c__n 0 1 fun a19 =>
          ∃ x20 : Int, AtW W12 a19 (.int .i64 x20) ∧ 
          Calls Try.prog 67 #[.slice x18_p x18_n x18_c, .int .i64 (IntKind.i64.wrap (0 - x20))] w15 fun e w21 => ∃ r22_p : Option Addr, ∃ r22_n : Nat, ∃ r22_c : Nat, e = .returned (.slice r22_p r22_n r22_c) ∧ 
          ∃ w23 : World, ∃ r24_p : Option Addr, ∃ r24_n : Nat, ∃ r24_c : Nat, (Builtin.append_ #[31, 31] 31 #[.slice r16_p r16_n r16_c, .slice r22_p r22_n r22_c]).run Try.prog w21 = .ok (.slice r24_p r24_n r24_c) w23 ∧ 
          cnd (decide ((r24_n : Int) > (4096 : Int)))
          (K (.bool false) w23)
          (Calls Try.prog 50 #[.slice clauses__p clauses__n clauses__c, .slice r24_p r24_n r24_c] w23 fun e w25 => ∃ r26 : Bool, e = .returned (.bool r26) ∧ 
          cnd (!r26)
          (K (.bool false) w25)
          (∃ k3, k3 < k2 ∧ I1 (IntKind.i64.wrap (i_4 + (1 : Int))) w25 k3))))
      (K (.bool true) w5))
theorem fathomref07_First.eq (clauses__p : Option Addr) (clauses__n : Nat) (clauses__c : Nat) (c__p : Option Addr) (c__n : Nat) (c__c : Nat) (w : World) (K : Value → World → Prop) : wpF Try.prog Try.f51 (.two .leaf (.two .leaf (.two (.two .leaf (.one (.loop [(5, 3)] (.two .leaf (.two (.one (.two .leaf (.two .draw .leaf))) .leaf))))) .leaf))) [.slice clauses__p clauses__n clauses__c, .slice c__p c__n c__c] w K = fathomref07_First.w clauses__p clauses__n clauses__c c__p c__n c__c w K := by kernel_rfl
theorem fathomref07_First.ok : fnOk Try.prog Try.f51 2 = true := by kernel_rfl
theorem fathomref07_First.calls {clauses__p : Option Addr} {clauses__n : Nat} {clauses__c : Nat} {c__p : Option Addr} {c__n : Nat} {c__c : Nat} {w : World} {R : Ending → World → Prop} (h : fathomref07_First.w clauses__p clauses__n clauses__c c__p c__n c__c w fun v w' => R (.returned v) w') : Calls Try.prog 51 #[.slice clauses__p clauses__n clauses__c, .slice c__p c__n c__c] w R :=
  calls_of mixed Try.func51 fathomref07_First.ok rfl (fun K => fathomref07_First.eq clauses__p clauses__n clauses__c c__p c__n c__c w K) h

/-! ### fathom/rup.Broken: function 52 (named slots 3) -/
def rup_Broken.w (f_0 : Int) (f_1_p : Option Addr) (f_1_n : Nat) (f_1_c : Nat) (w : World) (K : Value → World → Prop) : Prop :=
  ∀ (n1 : Nat) (w2 : World), New (.cells #[.int .i64 f_0, .slice f_1_p f_1_n f_1_c] 24) w n1 w2 → 
  ∃ x3 : Int, ∃ x4_p : Option Addr, ∃ x4_n : Nat, ∃ x4_c : Nat, CellsAt w2 (Addr.mk n1 0 none) 0 [.int .i64 x3, .slice x4_p x4_n x4_c] ∧ 
  Calls Try.prog 45 #[.agg #[.int .i64 x3, .slice x4_p x4_n x4_c], .slice none 0 0] w2 fun e w5 => ∃ r6 : Bool, e = .returned (.bool r6) ∧ 
  K (.bool r6) w5
theorem rup_Broken.eq (f_0 : Int) (f_1_p : Option Addr) (f_1_n : Nat) (f_1_c : Nat) (w : World) (K : Value → World → Prop) : wpF Try.prog Try.f52 .leaf [.agg #[.int .i64 f_0, .slice f_1_p f_1_n f_1_c]] w K = rup_Broken.w f_0 f_1_p f_1_n f_1_c w K := by kernel_rfl
theorem rup_Broken.ok : fnOk Try.prog Try.f52 1 = true := by kernel_rfl
theorem rup_Broken.calls {f_0 : Int} {f_1_p : Option Addr} {f_1_n : Nat} {f_1_c : Nat} {w : World} {R : Ending → World → Prop} (h : rup_Broken.w f_0 f_1_p f_1_n f_1_c w fun v w' => R (.returned v) w') : Calls Try.prog 52 #[.agg #[.int .i64 f_0, .slice f_1_p f_1_n f_1_c]] w R :=
  calls_of mixed Try.func52 rup_Broken.ok rfl (fun K => rup_Broken.eq f_0 f_1_p f_1_n f_1_c w K) h

/-! ### fathom/rup.Do: function 53 (named slots 8) -/
def rup_Do.w (f_0 : Int) (f_1_p : Option Addr) (f_1_n : Nat) (f_1_c : Nat) (s_0 : Bool) (s_1_p : Option Addr) (s_1_n : Nat) (s_1_c : Nat) (w : World) (K : Value → World → Prop) : Prop :=
  ∀ (n1 : Nat) (w2 : World), New (.cells #[.int .i64 f_0, .slice f_1_p f_1_n f_1_c] 24) w n1 w2 → 
  ∀ (n3 : Nat) (w4 : World), New (.cells #[.bool s_0, .slice s_1_p s_1_n s_1_c] 73) w2 n3 w4 → 
  ∀ (n5 : Nat) (w6 : World), New (.cells #[.int .i64 0, .slice none 0 0] 24) w4 n5 w6 → 
  ∃ x7 : Int, ∃ x8_p : Option Addr, ∃ x8_n : Nat, ∃ x8_c : Nat, CellsAt w6 (Addr.mk n1 0 none) 0 [.int .i64 x7, .slice x8_p x8_n x8_c] ∧ 
  ∃ x9_p : Option Addr, ∃ x9_n : Nat, ∃ x9_c : Nat, w6.cell? ((Addr.mk n3 0 none).add 1) = some (.slice x9_p x9_n x9_c) ∧ 
  Calls Try.prog 84 #[.agg #[.int .i64 x7, .slice x8_p x8_n x8_c], .slice x9_p x9_n x9_c] w6 fun e w10 => ∃ r11 : Bool, e = .returned (.bool r11) ∧ 
  cnd (!r11)
  (∃ w12 : World, StoreAt (Addr.mk n5 0 none) 0 [.int .i64 0, .slice none 0 0] w10 w12 ∧ 
    ∃ x13 : Int, ∃ x14_p : Option Addr, ∃ x14_n : Nat, ∃ x14_c : Nat, CellsAt w12 (Addr.mk n5 0 none) 0 [.int .i64 x13, .slice x14_p x14_n x14_c] ∧ 
    K (.tuple #[.agg #[.int .i64 x13, .slice x14_p x14_n x14_c], .int .i64 1]) w12)
  (∃ x15 : Int, ∃ x16_p : Option Addr, ∃ x16_n : Nat, ∃ x16_c : Nat, CellsAt w10 (Addr.mk n1 0 none) 0 [.int .i64 x15, .slice x16_p x16_n x16_c] ∧ 
    ∃ x17_p : Option Addr, ∃ x17_n : Nat, ∃ x17_c : Nat, w10.cell? ((Addr.mk n3 0 none).add 1) = some (.slice x17_p x17_n x17_c) ∧ 
    ∀ (n18 : Nat) (w19 : World), New (.cells #[.slice x17_p x17_n x17_c] 31) w10 n18 w19 → 
    Calls Try.prog 82 #[.agg #[.int .i64 x15, .slice x16_p x16_n x16_c], .slice (some (Addr.mk n18 0 none)) 1 1] w19 fun e w20 => ∃ r21 : Option Addr, e = .returned (.pointer r21) ∧ 
    ∃ x22 : Bool, ∃ x23_p : Option Addr, ∃ x23_n : Nat, ∃ x23_c : Nat, CellsAt w20 (Addr.mk n3 0 none) 0 [.bool x22, .slice x23_p x23_n x23_c] ∧ 
    Calls Try.prog 83 #[.pointer r21, .agg #[.bool x22, .slice x23_p x23_n x23_c]] w20 fun e w24 => ∃ r25 : Int, e = .returned (.int .i64 r25) ∧ 
    ∃ W26 : World → Prop, W26 w24.drew ∧ 
    ∃ a27 : Addr, r21 = some a27 ∧ ∃ x28 : Int, AtW W26 (a27.add 0) (.int .i64 x28) ∧ 
    Calls Try.prog 90 #[.pointer r21] w24.drew fun e w29 => ∃ r30_p : Option Addr, ∃ r30_n : Nat, ∃ r30_c : Nat, e = .returned (.slice r30_p r30_n r30_c) ∧ 
    W26 w29 ∧ ∃ w31 : World, StoreAt (Addr.mk n5 0 none) 0 [.int .i64 x28, .slice r30_p r30_n r30_c] w29 w31 ∧ 
    ∃ x32 : Int, ∃ x33_p : Option Addr, ∃ x33_n : Nat, ∃ x33_c : Nat, CellsAt w31 (Addr.mk n5 0 none) 0 [.int .i64 x32, .slice x33_p x33_n x33_c] ∧ 
    K (.tuple #[.agg #[.int .i64 x32, .slice x33_p x33_n x33_c], .int .i64 r25]) w31)
theorem rup_Do.eq (f_0 : Int) (f_1_p : Option Addr) (f_1_n : Nat) (f_1_c : Nat) (s_0 : Bool) (s_1_p : Option Addr) (s_1_n : Nat) (s_1_c : Nat) (w : World) (K : Value → World → Prop) : wpF Try.prog Try.f53 (.two .leaf (.two .leaf (.two .leaf (.two .leaf (.two .draw .leaf))))) [.agg #[.int .i64 f_0, .slice f_1_p f_1_n f_1_c], .agg #[.bool s_0, .slice s_1_p s_1_n s_1_c]] w K = rup_Do.w f_0 f_1_p f_1_n f_1_c s_0 s_1_p s_1_n s_1_c w K := by kernel_rfl
theorem rup_Do.ok : fnOk Try.prog Try.f53 2 = true := by kernel_rfl
theorem rup_Do.calls {f_0 : Int} {f_1_p : Option Addr} {f_1_n : Nat} {f_1_c : Nat} {s_0 : Bool} {s_1_p : Option Addr} {s_1_n : Nat} {s_1_c : Nat} {w : World} {R : Ending → World → Prop} (h : rup_Do.w f_0 f_1_p f_1_n f_1_c s_0 s_1_p s_1_n s_1_c w fun v w' => R (.returned v) w') : Calls Try.prog 53 #[.agg #[.int .i64 f_0, .slice f_1_p f_1_n f_1_c], .agg #[.bool s_0, .slice s_1_p s_1_n s_1_c]] w R :=
  calls_of mixed Try.func53 rup_Do.ok rfl (fun K => rup_Do.eq f_0 f_1_p f_1_n f_1_c s_0 s_1_p s_1_n s_1_c w K) h

/-! ### fathom/fathomref01.Same: function 54 (named slots 5) -/
def fathomref01_Same.w (a_0 : Int) (a_1_p : Option Addr) (a_1_n : Nat) (a_1_c : Nat) (b_0 : Int) (b_1_p : Option Addr) (b_1_n : Nat) (b_1_c : Nat) (w : World) (K : Value → World → Prop) : Prop :=
  ∀ (n1 : Nat) (w2 : World), New (.cells #[.int .i64 a_0, .slice a_1_p a_1_n a_1_c] 24) w n1 w2 → 
  ∀ (n3 : Nat) (w4 : World), New (.cells #[.int .i64 b_0, .slice b_1_p b_1_n b_1_c] 24) w2 n3 w4 → 
  ∃ x5 : Int, w4.cell? ((Addr.mk n1 0 none).add 0) = some (.int .i64 x5) ∧ 
  ∃ x6 : Int, w4.cell? ((Addr.mk n3 0 none).add 0) = some (.int .i64 x6) ∧ 
  cnd (x5 == x6)
  (∃ x7_p : Option Addr, ∃ x7_n : Nat, ∃ x7_c : Nat, w4.cell? ((Addr.mk n1 0 none).add 1) = some (.slice x7_p x7_n x7_c) ∧ 
  ∃ x8_p : Option Addr, ∃ x8_n : Nat, ∃ x8_c : Nat, w4.cell? ((Addr.mk n3 0 none).add 1) = some (.slice x8_p x8_n x8_c) ∧ 
  Calls Try.prog 91 #[.slice x7_p x7_n x7_c, .slice x8_p x8_n x8_c] w4 fun e w9 => ∃ r10 : Bool, e = .returned (.bool r10) ∧ 
  K (.bool r10) w9)
  (K (.bool false) w4)
theorem fathomref01_Same.eq (a_0 : Int) (a_1_p : Option Addr) (a_1_n : Nat) (a_1_c : Nat) (b_0 : Int) (b_1_p : Option Addr) (b_1_n : Nat) (b_1_c : Nat) (w : World) (K : Value → World → Prop) : wpF Try.prog Try.f54 .leaf [.agg #[.int .i64 a_0, .slice a_1_p a_1_n a_1_c], .agg #[.int .i64 b_0, .slice b_1_p b_1_n b_1_c]] w K = fathomref01_Same.w a_0 a_1_p a_1_n a_1_c b_0 b_1_p b_1_n b_1_c w K := by kernel_rfl
theorem fathomref01_Same.ok : fnOk Try.prog Try.f54 2 = true := by kernel_rfl
theorem fathomref01_Same.calls {a_0 : Int} {a_1_p : Option Addr} {a_1_n : Nat} {a_1_c : Nat} {b_0 : Int} {b_1_p : Option Addr} {b_1_n : Nat} {b_1_c : Nat} {w : World} {R : Ending → World → Prop} (h : fathomref01_Same.w a_0 a_1_p a_1_n a_1_c b_0 b_1_p b_1_n b_1_c w fun v w' => R (.returned v) w') : Calls Try.prog 54 #[.agg #[.int .i64 a_0, .slice a_1_p a_1_n a_1_c], .agg #[.int .i64 b_0, .slice b_1_p b_1_n b_1_c]] w R :=
  calls_of mixed Try.func54 fathomref01_Same.ok rfl (fun K => fathomref01_Same.eq a_0 a_1_p a_1_n a_1_c b_0 b_1_p b_1_n b_1_c w K) h

/-! ### fathom/fathomref07.Do: function 55 (named slots 12) cuts [(2, 39), (15, 26)] -/
def fathomref07_Do.w (f_0 : Int) (f_1_p : Option Addr) (f_1_n : Nat) (f_1_c : Nat) (s_0 : Bool) (s_1_p : Option Addr) (s_1_n : Nat) (s_1_c : Nat) (w : World) (K : Value → World → Prop) : Prop :=
  ∀ (n1 : Nat) (w2 : World), New (.cells #[.int .i64 f_0, .slice f_1_p f_1_n f_1_c] 24) w n1 w2 → 
  ∀ (n3 : Nat) (w4 : World), New (.cells #[.bool s_0, .slice s_1_p s_1_n s_1_c] 73) w2 n3 w4 → 
  ∀ (n5 : Nat) (w6 : World), New (.cells #[.int .i64 0, .slice none 0 0] 24) w4 n5 w6 → 
  ∃ x7 : Bool, w6.cell? ((Addr.mk n3 0 none).add 0) = some (.bool x7) ∧ 
  cnd x7
  (∃ x8_p : Option Addr, ∃ x8_n : Nat, ∃ x8_c : Nat, w6.cell? ((Addr.mk n3 0 none).add 1) = some (.slice x8_p x8_n x8_c) ∧ 
    Calls Try.prog 92 #[.slice x8_p x8_n x8_c] w6 fun e w9 => ∃ r10_p : Option Addr, ∃ r10_n : Nat, ∃ r10_c : Nat, e = .returned (.slice r10_p r10_n r10_c) ∧ 
    ∃ I11 : Int → World → Nat → Prop, (∃ k12, I11 0 w9 k12) ∧
    ∀ (i_14 : Int) (w15 : World) (k12 : Nat) (_ : Fr), I11 i_14 w15 k12 →
    ∃ x16_p : Option Addr, ∃ x16_n : Nat, ∃ x16_c : Nat, w15.cell? ((Addr.mk n1 0 none).add 1) = some (.slice x16_p x16_n x16_c) ∧ 
      cnd (decide (i_14 < (x16_n : Int)))
      (∃ x17_p : Option Addr, ∃ x17_n : Nat, ∃ x17_c : Nat, w15.cell? ((Addr.mk n1 0 none).add 1) = some (.slice x17_p x17_n x17_c) ∧ 
        ixK x17_p x17_n i_14 1 fun a18 =>
        ∃ x19_p : Option Addr, ∃ x19_n : Nat, ∃ x19_c : Nat, w15.cell? a18 = some (.slice x19_p x19_n x19_c) ∧ 
        Calls Try.prog 92 #[.slice x19_p x19_n x19_c] w15 fun e w20 => ∃ r21_p : Option Addr, ∃ r21_n : Nat, ∃ r21_c : Nat, e = .returned (.slice r21_p r21_n r21_c) ∧ 
        Calls Try.prog 21 #[.slice r21_p r21_n r21_c, .slice r10_p r10_n r10_c] w20 fun e w22 => ∃ r23 : Bool, e = .returned (.bool r23) ∧ 
        cnd r23
        (∀ (n24 : Nat) (w25 : World), New (.cells #[] 31) w22 n24 w25 → 
          ∃ x26_p : Option Addr, ∃ x26_n : Nat, ∃ x26_c : Nat, w25.cell? ((Addr.mk n1 0 none).add 1) = some (.slice x26_p x26_n x26_c) ∧ 
          slK x26_p x26_n x26_c 1 none (some i_14) none fun s27_p s27_n s27_c =>
          ∃ w28 : World, ∃ r29_p : Option Addr, ∃ r29_n : Nat, ∃ r29_c : Nat, (Builtin.append_ #[22, 22] 22 #[.slice (some (Addr.mk n24 0 none)) 0 0, .slice s27_p s27_n s27_c]).run Try.prog w25 = .ok (.slice r29_p r29_n r29_c) w28 ∧ 
          ∃ W30 : World → Prop, W30 w28.drew ∧ 
          ∃ x31 : Int, AtW W30 ((Addr.mk n1 0 none).add 0) (.int .i64 x31) ∧ 
          ∃ x32_p : Option Addr, ∃ x32_n : Nat, ∃ x32_c : Nat, AtW W30 ((Addr.mk n1 0 none).add 1) (.slice x32_p x32_n x32_c) ∧ 
          slK x32_p x32_n x32_c 1 (some (IntKind.i64.wrap (i_14 + (1 : Int)))) none none fun s33_p s33_n s33_c =>
          ∃ w34 : World, ∃ r35_p : Option Addr, ∃ r35_n : Nat, ∃ r35_c : Nat, (Builtin.append_ #[22, 22] 22 #[.slice r29_p r29_n r29_c, .slice s33_p s33_n s33_c]).run Try.prog w28.drew = .ok (.slice r35_p r35_n r35_c) w34 ∧ 
          W30 w34 ∧ ∃ w36 : World, StoreAt (Addr.mk n5 0 none) 0 [.int .i64 x31, .slice r35_p r35_n r35_c] w34 w36 ∧ 
          ∃ x37 : Int, ∃ x38_p : Option Addr, ∃ x38_n : Nat, ∃ x38_c : Nat, CellsAt w36 (Addr.mk n5 0 none) 0 [.int .i64 x37, .slice x38_p x38_n x38_c] ∧ 
          K (.tuple #[.agg #[.int .i64 x37, .slice x38_p x38_n x38_c], .int .i64 0]) w36)
        (∃ k13, k13 < k12 ∧ I11 (IntKind.i64.wrap (i_14 + (1 : Int))) w22 k13))
      (∃ x39 : Int, ∃ x40_p : Option Addr, ∃ x40_n : Nat, ∃ x40_c : Nat, CellsAt w15 (Addr.mk n1 0 none) 0 [.int .i64 x39, .slice x40_p x40_n x40_c] ∧ 
        ∃ w41 : World, StoreAt (Addr.mk n5 0 none) 0 [.int .i64 x39, .slice x40_p x40_n x40_c] w15 w41 ∧ 
        ∃ x42 : Int, ∃ x43_p : Option Addr, ∃ x43_n : Nat, ∃ x43_c : Nat, CellsAt w41 (Addr.mk n5 0 none) 0 [.int .i64 x42, .slice x43_p x43_n x43_c] ∧ 
        K (.tuple #[.agg #[.int .i64 x42, .slice x43_p x43_n x43_c], .int .i64 0]) w41))
  (∃ x44_p : Option Addr, ∃ x44_n : Nat, ∃ x44_c : Nat, w6.cell? ((Addr.mk n1 0 none).add 1) = some (.slice x44_p x44_n x44_c) ∧ 
    cnd ((x44_n : Int) == (262144 : Int))
    (∃ x45 : Int, ∃ x46_p : Option Addr, ∃ x46_n : Nat, ∃ x46_c : Nat, CellsAt w6 (Addr.mk n1 0 none) 0 [.int .i64 x45, .slice x46_p x46_n x46_c] ∧ 
      ∃ w47 : World, StoreAt (Addr.mk n5 0 none) 0 [.int .i64 x45, .slice x46_p x46_n x46_c] w6 w47 ∧ 
      ∃ x48 : Int, ∃ x49_p : Option Addr, ∃ x49_n : Nat, ∃ x49_c : Nat, CellsAt w47 (Addr.mk n5 0 none) 0 [.int .i64 x48, .slice x49_p x49_n x49_c] ∧ 
      K (.tuple #[.agg #[.int .i64 x48, .slice x49_p x49_n x49_c], .int .i64 3]) w47)
    (∃ J50 : World → Prop, (∃ x51_p : Option Addr, ∃ x51_n : Nat, ∃ x51_c : Nat, w6.cell? ((Addr.mk n1 0 none).add 1) = some (.slice x51_p x51_n x51_c) ∧ 
      ∃ x52_p : Option Addr, ∃ x52_n : Nat, ∃ x52_c : Nat, w6.cell? ((Addr.mk n3 0 none).add 1) = some (.slice x52_p x52_n x52_c) ∧ 
      Calls Try.prog 50 #[.slice x51_p x51_n x51_c, .slice x52_p x52_n x52_c] w6 fun e w53 => ∃ r54 : Bool, e = .returned (.bool r54) ∧ 
      cnd (!r54)
      (∃ x55_p : Option Addr, ∃ x55_n : Nat, ∃ x55_c : Nat, w53.cell? ((Addr.mk n1 0 none).add 1) = some (.slice x55_p x55_n x55_c) ∧ 
      ∃ x56_p : Option Addr, ∃ x56_n : Nat, ∃ x56_c : Nat, w53.cell? ((Addr.mk n3 0 none).add 1) = some (.slice x56_p x56_n x56_c) ∧ 
      Calls Try.prog 51 #[.slice x55_p x55_n x55_c, .slice x56_p x56_n x56_c] w53 fun e w57 => ∃ r58 : Bool, e = .returned (.bool r58) ∧ 
      cnd (!r58)
      (∃ x59 : Int, ∃ x60_p : Option Addr, ∃ x60_n : Nat, ∃ x60_c : Nat, CellsAt w57 (Addr.mk n1 0 none) 0 [.int .i64 x59, .slice x60_p x60_n x60_c] ∧ 
        ∃ w61 : World, StoreAt (Addr.mk n5 0 none) 0 [.int .i64 x59, .slice x60_p x60_n x60_c] w57 w61 ∧ 
        ∃ x62 : Int, ∃ x63_p : Option Addr, ∃ x63_n : Nat, ∃ x63_c : Nat, CellsAt w61 (Addr.mk n5 0 none) 0 [.int .i64 x62, .slice x63_p x63_n x63_c] ∧ 
        K (.tuple #[.agg #[.int .i64 x62, .slice x63_p x63_n x63_c], .int .i64 7]) w61)
      (J50 w57))
      (J50 w53)) ∧
      ∀ (w64 : World) (_ : Fr), J50 w64 → 
      ∃ J65 : Addr → World → Prop, (∃ W66 : World → Prop, W66 w64.drew ∧ 
      ∃ x67 : Int, AtW W66 ((Addr.mk n1 0 none).add 0) (.int .i64 x67) ∧ 
      ∃ x68_p : Option Addr, ∃ x68_n : Nat, ∃ x68_c : Nat, AtW W66 ((Addr.mk n1 0 none).add 1) (.slice x68_p x68_n x68_c) ∧ 
      ∃ x69_p : Option Addr, ∃ x69_n : Nat, ∃ x69_c : Nat, AtW W66 ((Addr.mk n3 0 none).add 1) (.slice x69_p x69_n x69_c) ∧ 
      (∀ (n70 : Nat) (w71 : World), New (.cells #[] 31) w64.drew n70 w71 → 
      W66 w71 ∧ (∃ w72 : World, ∃ r73_p : Option Addr, ∃ r73_n : Nat, ∃ r73_c : Nat, (Builtin.append_ #[22, 22] 22 #[.slice (some (Addr.mk n70 0 none)) 0 0, .slice x68_p x68_n x68_c]).run Try.prog w71 = .ok (.slice r73_p r73_n r73_c) w72 ∧ 
      W66 w72 ∧ (∀ (n74 : Nat) (w75 : World), New (.cells #[.slice x69_p x69_n x69_c] 31) w72 n74 w75 → 
      W66 w75 ∧ (∃ w76 : World, ∃ r77_p : Option Addr, ∃ r77_n : Nat, ∃ r77_c : Nat, (Builtin.append_ #[22, 22] 22 #[.slice r73_p r73_n r73_c, .slice (some (Addr.mk n74 0 none)) 1 1]).run Try.prog w75 = .ok (.slice r77_p r77_n r77_c) w76 ∧ 
      W66 w76 ∧ ∀ (n78 : Nat) (w79 : World), New (.cells #[.int .i64 0, .slice none 0 0] 24) w76 n78 w79 → 
      W66 w79 ∧ ∃ w80 : World, StoreAt (Addr.mk n78 0 none) 0 [.int .i64 x67, .slice r77_p r77_n r77_c] w79 w80 ∧ 
      J65 (Addr.mk n78 0 none) w80) ∧
    (∀ (n81 : Nat) (w82 : World), New (.cells #[.int .i64 0, .slice none 0 0] 24) w75 n81 w82 → 
      W66 w82 ∧ ∃ w83 : World, ∃ r84_p : Option Addr, ∃ r84_n : Nat, ∃ r84_c : Nat, (Builtin.append_ #[22, 22] 22 #[.slice r73_p r73_n r73_c, .slice (some (Addr.mk n74 0 none)) 1 1]).run Try.prog w82 = .ok (.slice r84_p r84_n r84_c) w83 ∧ 
      W66 w83 ∧ ∃ w85 : World, StoreAt (Addr.mk n81 0 none) 0 [.int .i64 x67, .slice r84_p r84_n r84_c] w83 w85 ∧ 
      J65 (Addr.mk n81 0 none) w85)) ∧
    (∀ (n86 : Nat) (w87 : World), New (.cells #[.int .i64 0, .slice none 0 0] 24) w72 n86 w87 → 
      W66 w87 ∧ ∀ (n88 : Nat) (w89 : World), New (.cells #[.slice x69_p x69_n x69_c] 31) w87 n88 w89 → 
      W66 w89 ∧ ∃ w90 : World, ∃ r91_p : Option Addr, ∃ r91_n : Nat, ∃ r91_c : Nat, (Builtin.append_ #[22, 22] 22 #[.slice r73_p r73_n r73_c, .slice (some (Addr.mk n88 0 none)) 1 1]).run Try.prog w89 = .ok (.slice r91_p r91_n r91_c) w90 ∧ 
      W66 w90 ∧ ∃ w92 : World, StoreAt (Addr.mk n86 0 none) 0 [.int .i64 x67, .slice r91_p r91_n r91_c] w90 w92 ∧ 
      J65 (Addr.mk n86 0 none) w92)) ∧
    (∀ (n93 : Nat) (w94 : World), New (.cells #[.slice x69_p x69_n x69_c] 31) w71 n93 w94 → 
      W66 w94 ∧ (∃ w95 : World, ∃ r96_p : Option Addr, ∃ r96_n : Nat, ∃ r96_c : Nat, (Builtin.append_ #[22, 22] 22 #[.slice (some (Addr.mk n70 0 none)) 0 0, .slice x68_p x68_n x68_c]).run Try.prog w94 = .ok (.slice r96_p r96_n r96_c) w95 ∧ 
      W66 w95 ∧ (∃ w97 : World, ∃ r98_p : Option Addr, ∃ r98_n : Nat, ∃ r98_c : Nat, (Builtin.append_ #[22, 22] 22 #[.slice r96_p r96_n r96_c, .slice (some (Addr.mk n93 0 none)) 1 1]).run Try.prog w95 = .ok (.slice r98_p r98_n r98_c) w97 ∧ 
      W66 w97 ∧ ∀ (n99 : Nat) (w100 : World), New (.cells #[.int .i64 0, .slice none 0 0] 24) w97 n99 w100 → 
      W66 w100 ∧ ∃ w101 : World, StoreAt (Addr.mk n99 0 none) 0 [.int .i64 x67, .slice r98_p r98_n r98_c] w100 w101 ∧ 
      J65 (Addr.mk n99 0 none) w101) ∧
    (∀ (n102 : Nat) (w103 : World), New (.cells #[.int .i64 0, .slice none 0 0] 24) w95 n102 w103 → 
      W66 w103 ∧ ∃ w104 : World, ∃ r105_p : Option Addr, ∃ r105_n : Nat, ∃ r105_c : Nat, (Builtin.append_ #[22, 22] 22 #[.slice r96_p r96_n r96_c, .slice (some (Addr.mk n93 0 none)) 1 1]).run Try.prog w103 = .ok (.slice r105_p r105_n r105_c) w104 ∧ 
      W66 w104 ∧ ∃ w106 : World, StoreAt (Addr.mk n102 0 none) 0 [.int .i64 x67, .slice r105_p r105_n r105_c] w104 w106 ∧ 
      J65 (Addr.mk n102 0 none) w106)) ∧
    (∀ (n107 : Nat) (w108 : World), New (.cells #[.int .i64 0, .slice none 0 0] 24) w94 n107 w108 → 
      W66 w108 ∧ ∃ w109 : World, ∃ r110_p : Option Addr, ∃ r110_n : Nat, ∃ r110_c : Nat, (Builtin.append_ #[22, 22] 22 #[.slice (some (Addr.mk n70 0 none)) 0 0, .slice x68_p x68_n x68_c]).run Try.prog w108 = .ok (.slice r110_p r110_n r110_c) w109 ∧ 
      W66 w109 ∧ ∃ w111 : World, ∃ r112_p : Option Addr, ∃ r112_n : Nat, ∃ r112_c : Nat, (Builtin.append_ #[22, 22] 22 #[.slice r110_p r110_n r110_c, .slice (some (Addr.mk n93 0 none)) 1 1]).run Try.prog w109 = .ok (.slice r112_p r112_n r112_c) w111 ∧ 
      W66 w111 ∧ ∃ w113 : World, StoreAt (Addr.mk n107 0 none) 0 [.int .i64 x67, .slice r112_p r112_n r112_c] w111 w113 ∧ 
      J65 (Addr.mk n107 0 none) w113)) ∧
    (∀ (n114 : Nat) (w115 : World), New (.cells #[.int .i64 0, .slice none 0 0] 24) w71 n114 w115 → 
      W66 w115 ∧ (∃ w116 : World, ∃ r117_p : Option Addr, ∃ r117_n : Nat, ∃ r117_c : Nat, (Builtin.append_ #[22, 22] 22 #[.slice (some (Addr.mk n70 0 none)) 0 0, .slice x68_p x68_n x68_c]).run Try.prog w115 = .ok (.slice r117_p r117_n r117_c) w116 ∧ 
      W66 w116 ∧ ∀ (n118 : Nat) (w119 : World), New (.cells #[.slice x69_p x69_n x69_c] 31) w116 n118 w119 → 
      W66 w119 ∧ ∃ w120 : World, ∃ r121_p : Option Addr, ∃ r121_n : Nat, ∃ r121_c : Nat, (Builtin.append_ #[22, 22] 22 #[.slice r117_p r117_n r117_c, .slice (some (Addr.mk n118 0 none)) 1 1]).run Try.prog w119 = .ok (.slice r121_p r121_n r121_c) w120 ∧ 
      W66 w120 ∧ ∃ w122 : World, StoreAt (Addr.mk n114 0 none) 0 [.int .i64 x67, .slice r121_p r121_n r121_c] w120 w122 ∧ 
      J65 (Addr.mk n114 0 none) w122) ∧
    (∀ (n123 : Nat) (w124 : World), New (.cells #[.slice x69_p x69_n x69_c] 31) w115 n123 w124 → 
      W66 w124 ∧ ∃ w125 : World, ∃ r126_p : Option Addr, ∃ r126_n : Nat, ∃ r126_c : Nat, (Builtin.append_ #[22, 22] 22 #[.slice (some (Addr.mk n70 0 none)) 0 0, .slice x68_p x68_n x68_c]).run Try.prog w124 = .ok (.slice r126_p r126_n r126_c) w125 ∧ 
      W66 w125 ∧ ∃ w127 : World, ∃ r128_p : Option Addr, ∃ r128_n : Nat, ∃ r128_c : Nat, (Builtin.append_ #[22, 22] 22 #[.slice r126_p r126_n r126_c, .slice (some (Addr.mk n123 0 none)) 1 1]).run Try.prog w125 = .ok (.slice r128_p r128_n r128_c) w127 ∧ 
      W66 w127 ∧ ∃ w129 : World, StoreAt (Addr.mk n114 0 none) 0 [.int .i64 x67, .slice r128_p r128_n r128_c] w127 w129 ∧ 
      J65 (Addr.mk n114 0 none) w129))) ∧
    (∀ (n130 : Nat) (w131 : World), New (.cells #[.slice x69_p x69_n x69_c] 31) w64.drew n130 w131 → 
      W66 w131 ∧ (∀ (n132 : Nat) (w133 : World), New (.cells #[] 31) w131 n132 w133 → 
      W66 w133 ∧ (∃ w134 : World, ∃ r135_p : Option Addr, ∃ r135_n : Nat, ∃ r135_c : Nat, (Builtin.append_ #[22, 22] 22 #[.slice (some (Addr.mk n132 0 none)) 0 0, .slice x68_p x68_n x68_c]).run Try.prog w133 = .ok (.slice r135_p r135_n r135_c) w134 ∧ 
      W66 w134 ∧ (∃ w136 : World, ∃ r137_p : Option Addr, ∃ r137_n : Nat, ∃ r137_c : Nat, (Builtin.append_ #[22, 22] 22 #[.slice r135_p r135_n r135_c, .slice (some (Addr.mk n130 0 none)) 1 1]).run Try.prog w134 = .ok (.slice r137_p r137_n r137_c) w136 ∧ 
      W66 w136 ∧ ∀ (n138 : Nat) (w139 : World), New (.cells #[.int .i64 0, .slice none 0 0] 24) w136 n138 w139 → 
      W66 w139 ∧ ∃ w140 : World, StoreAt (Addr.mk n138 0 none) 0 [.int .i64 x67, .slice r137_p r137_n r137_c] w139 w140 ∧ 
      J65 (Addr.mk n138 0 none) w140) ∧
    (∀ (n141 : Nat) (w142 : World), New (.cells #[.int .i64 0, .slice none 0 0] 24) w134 n141 w142 → 
      W66 w142 ∧ ∃ w143 : World, ∃ r144_p : Option Addr, ∃ r144_n : Nat, ∃ r144_c : Nat, (Builtin.append_ #[22, 22] 22 #[.slice r135_p r135_n r135_c, .slice (some (Addr.mk n130 0 none)) 1 1]).run Try.prog w142 = .ok (.slice r144_p r144_n r144_c) w143 ∧ 
      W66 w143 ∧ ∃ w145 : World, StoreAt (Addr.mk n141 0 none) 0 [.int .i64 x67, .slice r144_p r144_n r144_c] w143 w145 ∧ 
      J65 (Addr.mk n141 0 none) w145)) ∧
    (∀ (n146 : Nat) (w147 : World), New (.cells #[.int .i64 0, .slice none 0 0] 24) w133 n146 w147 → 
      W66 w147 ∧ ∃ w148 : World, ∃ r149_p : Option Addr, ∃ r149_n : Nat, ∃ r149_c : Nat, (Builtin.append_ #[22, 22] 22 #[.slice (some (Addr.mk n132 0 none)) 0 0, .slice x68_p x68_n x68_c]).run Try.prog w147 = .ok (.slice r149_p r149_n r149_c) w148 ∧ 
      W66 w148 ∧ ∃ w150 : World, ∃ r151_p : Option Addr, ∃ r151_n : Nat, ∃ r151_c : Nat, (Builtin.append_ #[22, 22] 22 #[.slice r149_p r149_n r149_c, .slice (some (Addr.mk n130 0 none)) 1 1]).run Try.prog w148 = .ok (.slice r151_p r151_n r151_c) w150 ∧ 
      W66 w150 ∧ ∃ w152 : World, StoreAt (Addr.mk n146 0 none) 0 [.int .i64 x67, .slice r151_p r151_n r151_c] w150 w152 ∧ 
      J65 (Addr.mk n146 0 none) w152)) ∧
    (∀ (n153 : Nat) (w154 : World), New (.cells #[.int .i64 0, .slice none 0 0] 24) w131 n153 w154 → 
      W66 w154 ∧ ∀ (n155 : Nat) (w156 : World), New (.cells #[] 31) w154 n155 w156 → 
      W66 w156 ∧ ∃ w157 : World, ∃ r158_p : Option Addr, ∃ r158_n : Nat, ∃ r158_c : Nat, (Builtin.append_ #[22, 22] 22 #[.slice (some (Addr.mk n155 0 none)) 0 0, .slice x68_p x68_n x68_c]).run Try.prog w156 = .ok (.slice r158_p r158_n r158_c) w157 ∧ 
      W66 w157 ∧ ∃ w159 : World, ∃ r160_p : Option Addr, ∃ r160_n : Nat, ∃ r160_c : Nat, (Builtin.append_ #[22, 22] 22 #[.slice r158_p r158_n r158_c, .slice (some (Addr.mk n130 0 none)) 1 1]).run Try.prog w157 = .ok (.slice r160_p r160_n r160_c) w159 ∧ 
      W66 w159 ∧ ∃ w161 : World, StoreAt (Addr.mk n153 0 none) 0 [.int .i64 x67, .slice r160_p r160_n r160_c] w159 w161 ∧ 
      J65 (Addr.mk n153 0 none) w161)) ∧
    (∀ (n162 : Nat) (w163 : World), New (.cells #[.int .i64 0, .slice none 0 0] 24) w64.drew n162 w163 → 
      W66 w163 ∧ (∀ (n164 : Nat) (w165 : World), New (.cells #[] 31) w163 n164 w165 → 
      W66 w165 ∧ (∃ w166 : World, ∃ r167_p : Option Addr, ∃ r167_n : Nat, ∃ r167_c : Nat, (Builtin.append_ #[22, 22] 22 #[.slice (some (Addr.mk n164 0 none)) 0 0, .slice x68_p x68_n x68_c]).run Try.prog w165 = .ok (.slice r167_p r167_n r167_c) w166 ∧ 
      W66 w166 ∧ ∀ (n168 : Nat) (w169 : World), New (.cells #[.slice x69_p x69_n x69_c] 31) w166 n168 w169 → 
      W66 w169 ∧ ∃ w170 : World, ∃ r171_p : Option Addr, ∃ r171_n : Nat, ∃ r171_c : Nat, (Builtin.append_ #[22, 22] 22 #[.slice r167_p r167_n r167_c, .slice (some (Addr.mk n168 0 none)) 1 1]).run Try.prog w169 = .ok (.slice r171_p r171_n r171_c) w170 ∧ 
      W66 w170 ∧ ∃ w172 : World, StoreAt (Addr.mk n162 0 none) 0 [.int .i64 x67, .slice r171_p r171_n r171_c] w170 w172 ∧ 
      J65 (Addr.mk n162 0 none) w172) ∧
    (∀ (n173 : Nat) (w174 : World), New (.cells #[.slice x69_p x69_n x69_c] 31) w165 n173 w174 → 
      W66 w174 ∧ ∃ w175 : World, ∃ r176_p : Option Addr, ∃ r176_n : Nat, ∃ r176_c : Nat, (Builtin.append_ #[22, 22] 22 #[.slice (some (Addr.mk n164 0 none)) 0 0, .slice x68_p x68_n x68_c]).run Try.prog w174 = .ok (.slice r176_p r176_n r176_c) w175 ∧ 
      W66 w175 ∧ ∃ w177 : World, ∃ r178_p : Option Addr, ∃ r178_n : Nat, ∃ r178_c : Nat, (Builtin.append_ #[22, 22] 22 #[.slice r176_p r176_n r176_c, .slice (some (Addr.mk n173 0 none)) 1 1]).run Try.prog w175 = .ok (.slice r178_p r178_n r178_c) w177 ∧ 
      W66 w177 ∧ ∃ w179 : World, StoreAt (Addr.mk n162 0 none) 0 [.int .i64 x67, .slice r178_p r178_n r178_c] w177 w179 ∧ 
      J65 (Addr.mk n162 0 none) w179)) ∧
    (∀ (n180 : Nat) (w181 : World), New (.cells #[.slice x69_p x69_n x69_c] 31) w163 n180 w181 → 
      W66 w181 ∧ ∀ (n182 : Nat) (w183 : World), New (.cells #[] 31) w181 n182 w183 → 
      W66 w183 ∧ ∃ w184 : World, ∃ r185_p : Option Addr, ∃ r185_n : Nat, ∃ r185_c : Nat, (Builtin.append_ #[22, 22] 22 #[.slice (some (Addr.mk n182 0 none)) 0 0, .slice x68_p x68_n x68_c]).run Try.prog w183 = .ok (.slice r185_p r185_n r185_c) w184 ∧ 
      W66 w184 ∧ ∃ w186 : World, ∃ r187_p : Option Addr, ∃ r187_n : Nat, ∃ r187_c : Nat, (Builtin.append_ #[22, 22] 22 #[.slice r185_p r185_n r185_c, .slice (some (Addr.mk n180 0 none)) 1 1]).run Try.prog w184 = .ok (.slice r187_p r187_n r187_c) w186 ∧ 
      W66 w186 ∧ ∃ w188 : World, StoreAt (Addr.mk n162 0 none) 0 [.int .i64 x67, .slice r187_p r187_n r187_c] w186 w188 ∧ 
      J65 (Addr.mk n162 0 none) w188))) ∧
      ∀ (x_189 : Addr) (w190 : World) (_ : Fr), J65 x_189 w190 → 
      ∃ I191 : Int → World → Nat → Prop, (∃ k192, I191 0 w190 k192) ∧
      ∀ (i_194 : Int) (w195 : World) (k192 : Nat) (_ : Fr), I191 i_194 w195 k192 →
      ∃ x196_p : Option Addr, ∃ x196_n : Nat, ∃ x196_c : Nat, w195.cell? ((Addr.mk n3 0 none).add 1) = some (.slice x196_p x196_n x196_c) ∧ 
        cnd (decide (i_194 < (x196_n : Int)))
        (∃ x197_p : Option Addr, ∃ x197_n : Nat, ∃ x197_c : Nat, w195.cell? ((Addr.mk n3 0 none).add 1) = some (.slice x197_p x197_n x197_c) ∧ 
          ixK x197_p x197_n i_194 1 fun a198 =>
          ∃ x199 : Int, w195.cell? a198 = some (.int .i64 x199) ∧ 
          Calls Try.prog 56 #[.int .i64 x199] w195 fun e w200 => ∃ r201 : Int, e = .returned (.int .i64 r201) ∧ 
          ∃ x202 : Int, w200.cell? (x_189.add 0) = some (.int .i64 x202) ∧ 
          cnd (decide (r201 > x202))
          (∃ w203 : World, StoreAt (x_189.add 0) 0 [.int .i64 r201] w200 w203 ∧ 
            ∃ k193, k193 < k192 ∧ I191 (IntKind.i64.wrap (i_194 + (1 : Int))) w203 k193)
          (∃ k193, k193 < k192 ∧ I191 (IntKind.i64.wrap (i_194 + (1 : Int))) w200 k193))
        (∃ x204 : Int, ∃ x205_p : Option Addr, ∃ x205_n : Nat, ∃ x205_c : Nat, CellsAt w195 x_189 0 [.int .i64 x204, .slice x205_p x205_n x205_c] ∧ 
          ∃ w206 : World, StoreAt (Addr.mk n5 0 none) 0 [.int .i64 x204, .slice x205_p x205_n x205_c] w195 w206 ∧ 
          ∃ x207 : Int, ∃ x208_p : Option Addr, ∃ x208_n : Nat, ∃ x208_c : Nat, CellsAt w206 (Addr.mk n5 0 none) 0 [.int .i64 x207, .slice x208_p x208_n x208_c] ∧ 
          K (.tuple #[.agg #[.int .i64 x207, .slice x208_p x208_n x208_c], .int .i64 0]) w206)))
theorem fathomref07_Do.eq (f_0 : Int) (f_1_p : Option Addr) (f_1_n : Nat) (f_1_c : Nat) (s_0 : Bool) (s_1_p : Option Addr) (s_1_n : Nat) (s_1_c : Nat) (w : World) (K : Value → World → Prop) : wpF Try.prog Try.f55 (.two .leaf (.two (.two .leaf (.two (.two .leaf (.two (.two .leaf (.one (.loop [(7, 3)] (.two .leaf (.two (.one (.two .leaf (.two (.two .leaf (.two .draw .leaf)) .leaf))) .leaf))))) .leaf)) .leaf)) (.two .leaf (.cut [] .leaf (.cut [(9, 1000000)] .draw (.two (.two .leaf (.one (.loop [(10, 3)] .leaf))) .leaf)))))) [.agg #[.int .i64 f_0, .slice f_1_p f_1_n f_1_c], .agg #[.bool s_0, .slice s_1_p s_1_n s_1_c]] w K = fathomref07_Do.w f_0 f_1_p f_1_n f_1_c s_0 s_1_p s_1_n s_1_c w K := by kernel_rfl
theorem fathomref07_Do.ok : fnOk Try.prog Try.f55 2 = true := by kernel_rfl
theorem fathomref07_Do.calls {f_0 : Int} {f_1_p : Option Addr} {f_1_n : Nat} {f_1_c : Nat} {s_0 : Bool} {s_1_p : Option Addr} {s_1_n : Nat} {s_1_c : Nat} {w : World} {R : Ending → World → Prop} (h : fathomref07_Do.w f_0 f_1_p f_1_n f_1_c s_0 s_1_p s_1_n s_1_c w fun v w' => R (.returned v) w') : Calls Try.prog 55 #[.agg #[.int .i64 f_0, .slice f_1_p f_1_n f_1_c], .agg #[.bool s_0, .slice s_1_p s_1_n s_1_c]] w R :=
  calls_of mixed Try.func55 fathomref07_Do.ok rfl (fun K => fathomref07_Do.eq f_0 f_1_p f_1_n f_1_c s_0 s_1_p s_1_n s_1_c w K) h

/-! ### fathom/fathomref01.Var: function 56 (named slots 3) -/
def fathomref01_Var.w (l_ : Int) (w : World) (K : Value → World → Prop) : Prop :=
  cnd (decide (l_ < (0 : Int)))
  (K (.int .i64 (IntKind.i64.wrap (0 - l_))) w)
  (K (.int .i64 l_) w)
theorem fathomref01_Var.eq (l_ : Int) (w : World) (K : Value → World → Prop) : wpF Try.prog Try.f56 .leaf [.int .i64 l_] w K = fathomref01_Var.w l_ w K := by kernel_rfl
theorem fathomref01_Var.ok : fnOk Try.prog Try.f56 1 = true := by kernel_rfl
theorem fathomref01_Var.calls {l_ : Int} {w : World} {R : Ending → World → Prop} (h : fathomref01_Var.w l_ w fun v w' => R (.returned v) w') : Calls Try.prog 56 #[.int .i64 l_] w R :=
  calls_of mixed Try.func56 fathomref01_Var.ok rfl (fun K => fathomref01_Var.eq l_ w K) h

/-! ### (*fathom/prop.Prop).loosely: function 59 (named slots 9) -/
def prop_Prop_loosely.w (p_ : Option Addr) (w : World) (K : Value → World → Prop) : Prop :=
  ∀ (n1 : Nat) (w2 : World), New (.cells #[.pointer p_] 29) w n1 w2 → 
  ∃ x3 : Option Addr, w2.cell? (Addr.mk n1 0 none) = some (.pointer x3) ∧ 
  ∃ a4 : Addr, x3 = some a4 ∧ ∃ x5_p : Option Addr, ∃ x5_n : Nat, ∃ x5_c : Nat, w2.cell? (a4.add 10) = some (.slice x5_p x5_n x5_c) ∧ 
  ∃ I6 : Option Addr → Nat → Nat → Int → Int → World → Nat → Prop, (∃ k7, I6 none 0 0 (-1) 0 w2 k7) ∧
  ∀ (keep_9_p : Option Addr) (keep_9_n : Nat) (keep_9_c : Nat) (broken_10 : Int) (v11 : Int) (w12 : World) (k7 : Nat) (_ : Fr), I6 keep_9_p keep_9_n keep_9_c broken_10 v11 w12 k7 →
  cnd (decide (v11 < (x5_n : Int)))
    (ixK x5_p x5_n v11 1 fun a13 =>
      ∃ x14 : Int, w12.cell? a13 = some (.int .i64 x14) ∧ 
      cnd (decide (broken_10 ≥ (0 : Int)))
      (∃ x15 : Option Addr, w12.cell? (Addr.mk n1 0 none) = some (.pointer x15) ∧ 
        ∃ a16 : Addr, x15 = some a16 ∧ ∃ x17_p : Option Addr, ∃ x17_n : Nat, ∃ x17_c : Nat, w12.cell? (a16.add 10) = some (.slice x17_p x17_n x17_c) ∧ 
        ixK x17_p x17_n v11 1 fun a18 =>
        ∃ x19 : Int, w12.cell? a18 = some (.int .i64 x19) ∧ 
        ∀ (n20 : Nat) (w21 : World), New (.cells #[.int .i64 x19] 3) w12 n20 w21 → 
        ∃ w22 : World, ∃ r23_p : Option Addr, ∃ r23_n : Nat, ∃ r23_c : Nat, (Builtin.append_ #[31, 31] 31 #[.slice keep_9_p keep_9_n keep_9_c, .slice (some (Addr.mk n20 0 none)) 1 1]).run Try.prog w21 = .ok (.slice r23_p r23_n r23_c) w22 ∧ 
        ∃ k8, k8 < k7 ∧ I6 r23_p r23_n r23_c broken_10 (IntKind.i64.wrap (v11 + (1 : Int))) w22 k8)
      (∃ x24 : Option Addr, w12.cell? (Addr.mk n1 0 none) = some (.pointer x24) ∧ 
        ∃ a25 : Addr, x24 = some a25 ∧ ∃ x26_p : Option Addr, ∃ x26_n : Nat, ∃ x26_c : Nat, w12.cell? (a25.add 1) = some (.slice x26_p x26_n x26_c) ∧ 
        ixK x26_p x26_n x14 3 fun a27 =>
        ∃ x28_p : Option Addr, ∃ x28_n : Nat, ∃ x28_c : Nat, w12.cell? (a27.add 1) = some (.slice x28_p x28_n x28_c) ∧ 
        Calls Try.prog 62 #[.slice x28_p x28_n x28_c] w12 fun e w29 => ∃ r30_p : Option Addr, ∃ r30_n : Nat, ∃ r30_c : Nat, e = .returned (.slice r30_p r30_n r30_c) ∧ 
        Calls Try.prog 78 #[.slice r30_p r30_n r30_c, .func (.func 93) #[] #[.pointer (some (Addr.mk n1 0 none))]] w29 fun e w31 => ∃ r32_p : Option Addr, ∃ r32_n : Nat, ∃ r32_c : Nat, e = .returned (.slice r32_p r32_n r32_c) ∧ 
        cnd (decide ((r32_n : Int) > (1 : Int)))
        (∃ x33 : Option Addr, w31.cell? (Addr.mk n1 0 none) = some (.pointer x33) ∧ 
          Calls Try.prog 77 #[.pointer x33, .int .i64 x14] w31 fun e w34 => e = .returned (.tuple #[]) ∧ 
          ∃ x35 : Option Addr, w34.cell? (Addr.mk n1 0 none) = some (.pointer x35) ∧ 
          Calls Try.prog 94 #[.pointer x35, .int .i64 x14] w34 fun e w36 => e = .returned (.tuple #[]) ∧ 
          ∃ k8, k8 < k7 ∧ I6 keep_9_p keep_9_n keep_9_c broken_10 (IntKind.i64.wrap (v11 + (1 : Int))) w36 k8)
        (∀ (n37 : Nat) (w38 : World), New (.cells #[.int .i64 x14] 3) w31 n37 w38 → 
          ∃ w39 : World, ∃ r40_p : Option Addr, ∃ r40_n : Nat, ∃ r40_c : Nat, (Builtin.append_ #[31, 31] 31 #[.slice keep_9_p keep_9_n keep_9_c, .slice (some (Addr.mk n37 0 none)) 1 1]).run Try.prog w38 = .ok (.slice r40_p r40_n r40_c) w39 ∧ 
          cnd ((r32_n : Int) == (0 : Int))
          (∃ k8, k8 < k7 ∧ I6 r40_p r40_n r40_c x14 (IntKind.i64.wrap (v11 + (1 : Int))) w39 k8)
          (∃ x41 : Option Addr, w39.drew.cell? (Addr.mk n1 0 none) = some (.pointer x41) ∧ 
            ixK r32_p r32_n 0 1 fun a42 =>
            ∃ x43 : Int, w39.drew.cell? a42 = some (.int .i64 x43) ∧ 
            Calls Try.prog 76 #[.pointer x41, .int .i64 x43] w39.drew fun e w44 => ∃ r45 : Int, e = .returned (.int .i8 r45) ∧ 
            cnd (r45 == (0 : Int))
            (∃ x46 : Option Addr, w44.drew.cell? (Addr.mk n1 0 none) = some (.pointer x46) ∧ 
              ixK r32_p r32_n 0 1 fun a47 =>
              ∃ x48 : Int, w44.drew.cell? a47 = some (.int .i64 x48) ∧ 
              Calls Try.prog 80 #[.pointer x46, .int .i64 x48, .int .i64 x14] w44.drew fun e w49 => e = .returned (.tuple #[]) ∧ 
              ∃ k8, k8 < k7 ∧ I6 r40_p r40_n r40_c broken_10 (IntKind.i64.wrap (v11 + (1 : Int))) w49 k8)
            (∃ k8, k8 < k7 ∧ I6 r40_p r40_n r40_c broken_10 (IntKind.i64.wrap (v11 + (1 : Int))) w44 k8)))))
    (∃ x50 : Option Addr, w12.cell? (Addr.mk n1 0 none) = some (.pointer x50) ∧ 
      ∃ a51 : Addr, x50 = some a51 ∧ ∃ w52 : World, StoreAt (a51.add 10) 0 [.slice keep_9_p keep_9_n keep_9_c] w12 w52 ∧ 
      K (.int .i64 broken_10) w52)
theorem prop_Prop_loosely.eq (p_ : Option Addr) (w : World) (K : Value → World → Prop) : wpF Try.prog Try.f59 (.two .leaf (.two .leaf (.two .leaf (.two (.two .leaf (.one (.loop [(3, 31), (4, 3), (14, 3)] .leaf))) .leaf)))) [.pointer p_] w K = prop_Prop_loosely.w p_ w K := by kernel_rfl
theorem prop_Prop_loosely.ok : fnOk Try.prog Try.f59 1 = true := by kernel_rfl
theorem prop_Prop_loosely.calls {p_ : Option Addr} {w : World} {R : Ending → World → Prop} (h : prop_Prop_loosely.w p_ w fun v w' => R (.returned v) w') : Calls Try.prog 59 #[.pointer p_] w R :=
  calls_of mixed Try.func59 prop_Prop_loosely.ok rfl (fun K => prop_Prop_loosely.eq p_ w K) h

/-! ### fathom/prop.side: function 60 (named slots 3) -/
def prop_side.w (l_ : Int) (w : World) (K : Value → World → Prop) : Prop :=
  cnd (decide (l_ < (0 : Int)))
  (K (.int .i64 (IntKind.i64.wrap ((IntKind.i64.wrap ((-2) * l_)) + (1 : Int)))) w)
  (K (.int .i64 (IntKind.i64.wrap ((2 : Int) * l_))) w)
theorem prop_side.eq (l_ : Int) (w : World) (K : Value → World → Prop) : wpF Try.prog Try.f60 .leaf [.int .i64 l_] w K = prop_side.w l_ w K := by kernel_rfl
theorem prop_side.ok : fnOk Try.prog Try.f60 1 = true := by kernel_rfl
theorem prop_side.calls {l_ : Int} {w : World} {R : Ending → World → Prop} (h : prop_side.w l_ w fun v w' => R (.returned v) w') : Calls Try.prog 60 #[.int .i64 l_] w R :=
  calls_of mixed Try.func60 prop_side.ok rfl (fun K => prop_side.eq l_ w K) h

/-! ### (*fathom/prop.Prop).visit: function 61 (named slots 10) cuts [(3, 78)] -/
def prop_Prop_visit.w (p_ : Option Addr) (i_ : Int) (falsely_ : Int) (w : World) (K : Value → World → Prop) : Prop :=
  ∃ a1 : Addr, p_ = some a1 ∧ ∃ x2_p : Option Addr, ∃ x2_n : Nat, ∃ x2_c : Nat, w.cell? (a1.add 1) = some (.slice x2_p x2_n x2_c) ∧ 
  ixK x2_p x2_n i_ 3 fun a3 =>
  ∃ x4_p : Option Addr, ∃ x4_n : Nat, ∃ x4_c : Nat, w.cell? (a3.add 1) = some (.slice x4_p x4_n x4_c) ∧ 
  ∃ J5 : World → Prop, (ixK x4_p x4_n 0 1 fun a6 =>
  ∃ x7 : Int, w.cell? a6 = some (.int .i64 x7) ∧ 
  cnd (x7 == falsely_)
  (cnd (decide ((x4_n : Int) > (1 : Int)))
  (ixK x4_p x4_n 1 1 fun a8 =>
    ∃ x9 : Int, w.drew.cell? a8 = some (.int .i64 x9) ∧ 
    ixK x4_p x4_n 0 1 fun a10 =>
    ∃ x11 : Int, w.drew.cell? a10 = some (.int .i64 x11) ∧ 
    ixK x4_p x4_n 0 1 fun a12 =>
    ∃ w13 : World, StoreAt a12 0 [.int .i64 x9] w.drew w13 ∧ 
    ixK x4_p x4_n 1 1 fun a14 =>
    ∃ w15 : World, StoreAt a14 0 [.int .i64 x11] w13 w15 ∧ 
    J5 w15)
  (J5 w))
  (J5 w)) ∧
  ∀ (w16 : World) (_ : Fr), J5 w16 → 
  ixK x4_p x4_n 0 1 fun a17 =>
  ∃ x18 : Int, w16.cell? a17 = some (.int .i64 x18) ∧ 
  Calls Try.prog 76 #[.pointer p_, .int .i64 x18] w16 fun e w19 => ∃ r20 : Int, e = .returned (.int .i8 r20) ∧ 
  cnd (decide (r20 > (0 : Int)))
  (K (.tuple #[.bool true, .bool false]) w19)
  (∃ I21 : Int → World → Nat → Prop, (∃ k22, I21 2 w19 k22) ∧
    ∀ (k_24 : Int) (w25 : World) (k22 : Nat) (_ : Fr), I21 k_24 w25 k22 →
    cnd (decide (k_24 < (x4_n : Int)))
      (ixK x4_p x4_n k_24 1 fun a26 =>
        ∃ x27 : Int, w25.cell? a26 = some (.int .i64 x27) ∧ 
        Calls Try.prog 76 #[.pointer p_, .int .i64 x27] w25 fun e w28 => ∃ r29 : Int, e = .returned (.int .i8 r29) ∧ 
        cnd (decide (r29 ≥ (0 : Int)))
        (ixK x4_p x4_n k_24 1 fun a30 =>
          ∃ x31 : Int, w28.drew.cell? a30 = some (.int .i64 x31) ∧ 
          ixK x4_p x4_n 1 1 fun a32 =>
          ∃ x33 : Int, w28.drew.cell? a32 = some (.int .i64 x33) ∧ 
          ixK x4_p x4_n 1 1 fun a34 =>
          ∃ w35 : World, StoreAt a34 0 [.int .i64 x31] w28.drew w35 ∧ 
          ixK x4_p x4_n k_24 1 fun a36 =>
          ∃ w37 : World, StoreAt a36 0 [.int .i64 x33] w35 w37 ∧ 
          ∃ W38 : World → Prop, W38 w37.drew ∧ 
          ∃ a39 : Addr, p_ = some a39 ∧ ∃ x40_p : Option Addr, ∃ x40_n : Nat, ∃ x40_c : Nat, AtW W38 (a39.add 2) (.slice x40_p x40_n x40_c) ∧ 
          ixK x4_p x4_n 1 1 fun a41 =>
          ∃ x42 : Int, AtW W38 a41 (.int .i64 x42) ∧ 
          ∃ a43 : Addr, p_ = some a43 ∧ ∃ x44_p : Option Addr, ∃ x44_n : Nat, ∃ x44_c : Nat, AtW W38 (a43.add 2) (.slice x44_p x44_n x44_c) ∧ 
          ixK x4_p x4_n 1 1 fun a45 =>
          ∃ x46 : Int, AtW W38 a45 (.int .i64 x46) ∧ 
          (Calls Try.prog 60 #[.int .i64 x42] w37.drew fun e w47 => ∃ r48 : Int, e = .returned (.int .i64 r48) ∧ 
          W38 w47 ∧ (Calls Try.prog 60 #[.int .i64 x46] w47 fun e w49 => ∃ r50 : Int, e = .returned (.int .i64 r50) ∧ 
          W38 w49 ∧ ixK x44_p x44_n r50 1 fun a51 =>
          ∃ x52_p : Option Addr, ∃ x52_n : Nat, ∃ x52_c : Nat, AtW W38 a51 (.slice x52_p x52_n x52_c) ∧ 
          ∀ (n53 : Nat) (w54 : World), New (.cells #[.int .i64 i_] 3) w49 n53 w54 → 
          W38 w54 ∧ ∃ w55 : World, ∃ r56_p : Option Addr, ∃ r56_n : Nat, ∃ r56_c : Nat, (Builtin.append_ #[31, 31] 31 #[.slice x52_p x52_n x52_c, .slice (some (Addr.mk n53 0 none)) 1 1]).run Try.prog w54 = .ok (.slice r56_p r56_n r56_c) w55 ∧ 
          W38 w55 ∧ ixK x40_p x40_n r48 1 fun a57 =>
          ∃ w58 : World, StoreAt a57 0 [.slice r56_p r56_n r56_c] w55 w58 ∧ 
          K (.tuple #[.bool false, .bool false]) w58) ∧
        (∀ (n59 : Nat) (w60 : World), New (.cells #[.int .i64 i_] 3) w47 n59 w60 → 
          W38 w60 ∧ Calls Try.prog 60 #[.int .i64 x46] w60 fun e w61 => ∃ r62 : Int, e = .returned (.int .i64 r62) ∧ 
          W38 w61 ∧ ixK x44_p x44_n r62 1 fun a63 =>
          ∃ x64_p : Option Addr, ∃ x64_n : Nat, ∃ x64_c : Nat, AtW W38 a63 (.slice x64_p x64_n x64_c) ∧ 
          ∃ w65 : World, ∃ r66_p : Option Addr, ∃ r66_n : Nat, ∃ r66_c : Nat, (Builtin.append_ #[31, 31] 31 #[.slice x64_p x64_n x64_c, .slice (some (Addr.mk n59 0 none)) 1 1]).run Try.prog w61 = .ok (.slice r66_p r66_n r66_c) w65 ∧ 
          W38 w65 ∧ ixK x40_p x40_n r48 1 fun a67 =>
          ∃ w68 : World, StoreAt a67 0 [.slice r66_p r66_n r66_c] w65 w68 ∧ 
          K (.tuple #[.bool false, .bool false]) w68)) ∧
        (∀ (n69 : Nat) (w70 : World), New (.cells #[.int .i64 i_] 3) w37.drew n69 w70 → 
          W38 w70 ∧ Calls Try.prog 60 #[.int .i64 x42] w70 fun e w71 => ∃ r72 : Int, e = .returned (.int .i64 r72) ∧ 
          W38 w71 ∧ Calls Try.prog 60 #[.int .i64 x46] w71 fun e w73 => ∃ r74 : Int, e = .returned (.int .i64 r74) ∧ 
          W38 w73 ∧ ixK x44_p x44_n r74 1 fun a75 =>
          ∃ x76_p : Option Addr, ∃ x76_n : Nat, ∃ x76_c : Nat, AtW W38 a75 (.slice x76_p x76_n x76_c) ∧ 
          ∃ w77 : World, ∃ r78_p : Option Addr, ∃ r78_n : Nat, ∃ r78_c : Nat, (Builtin.append_ #[31, 31] 31 #[.slice x76_p x76_n x76_c, .slice (some (Addr.mk n69 0 none)) 1 1]).run Try.prog w73 = .ok (.slice r78_p r78_n r78_c) w77 ∧ 
          W38 w77 ∧ ixK x40_p x40_n r72 1 fun a79 =>
          ∃ w80 : World, StoreAt a79 0 [.slice r78_p r78_n r78_c] w77 w80 ∧ 
          K (.tuple #[.bool false, .bool false]) w80))
        (∃ k23, k23 < k22 ∧ I21 (IntKind.i64.wrap (k_24 + (1 : Int))) w28 k23))
      (ixK x4_p x4_n 0 1 fun a81 =>
        ∃ x82 : Int, w25.cell? a81 = some (.int .i64 x82) ∧ 
        Calls Try.prog 76 #[.pointer p_, .int .i64 x82] w25 fun e w83 => ∃ r84 : Int, e = .returned (.int .i8 r84) ∧ 
        cnd (decide (r84 < (0 : Int)))
        (K (.tuple #[.bool true, .bool true]) w83)
        (ixK x4_p x4_n 0 1 fun a85 =>
          ∃ x86 : Int, w83.cell? a85 = some (.int .i64 x86) ∧ 
          Calls Try.prog 80 #[.pointer p_, .int .i64 x86, .int .i64 i_] w83 fun e w87 => e = .returned (.tuple #[]) ∧ 
          K (.tuple #[.bool true, .bool false]) w87)))
theorem prop_Prop_visit.eq (p_ : Option Addr) (i_ : Int) (falsely_ : Int) (w : World) (K : Value → World → Prop) : wpF Try.prog Try.f61 (.two .leaf (.two .leaf (.cut [] .leaf (.two .leaf (.two (.two .leaf (.one (.loop [(9, 3)] (.two .leaf (.two (.one (.two .leaf (.two (.two .leaf (.two .draw .leaf)) .leaf))) .leaf))))) .leaf))))) [.pointer p_, .int .i64 i_, .int .i64 falsely_] w K = prop_Prop_visit.w p_ i_ falsely_ w K := by kernel_rfl
theorem prop_Prop_visit.ok : fnOk Try.prog Try.f61 3 = true := by kernel_rfl
theorem prop_Prop_visit.calls {p_ : Option Addr} {i_ : Int} {falsely_ : Int} {w : World} {R : Ending → World → Prop} (h : prop_Prop_visit.w p_ i_ falsely_ w fun v w' => R (.returned v) w') : Calls Try.prog 61 #[.pointer p_, .int .i64 i_, .int .i64 falsely_] w R :=
  calls_of mixed Try.func61 prop_Prop_visit.ok rfl (fun K => prop_Prop_visit.eq p_ i_ falsely_ w K) h

/-! ### slices.Clone[[]int,int]: function 62 (named slots 4) -/
def slices_Clone_int_int.w (s__p : Option Addr) (s__n : Nat) (s__c : Nat) (w : World) (K : Value → World → Prop) : Prop :=
  cnd s__p.isNone
  (K (.slice none 0 0) w)
  (∀ (n1 : Nat) (w2 : World), New (.cells #[] 3) w n1 w2 → 
    ∃ w3 : World, ∃ r4_p : Option Addr, ∃ r4_n : Nat, ∃ r4_c : Nat, (Builtin.append_ #[31, 31] 31 #[.slice (some (Addr.mk n1 0 none)) 0 0, .slice s__p s__n s__c]).run Try.prog w2 = .ok (.slice r4_p r4_n r4_c) w3 ∧ 
    K (.slice r4_p r4_n r4_c) w3)
theorem slices_Clone_int_int.eq (s__p : Option Addr) (s__n : Nat) (s__c : Nat) (w : World) (K : Value → World → Prop) : wpF Try.prog Try.f62 .leaf [.slice s__p s__n s__c] w K = slices_Clone_int_int.w s__p s__n s__c w K := by kernel_rfl
theorem slices_Clone_int_int.ok : fnOk Try.prog Try.f62 1 = true := by kernel_rfl
theorem slices_Clone_int_int.calls {s__p : Option Addr} {s__n : Nat} {s__c : Nat} {w : World} {R : Ending → World → Prop} (h : slices_Clone_int_int.w s__p s__n s__c w fun v w' => R (.returned v) w') : Calls Try.prog 62 #[.slice s__p s__n s__c] w R :=
  calls_of mixed Try.func62 slices_Clone_int_int.ok rfl (fun K => slices_Clone_int_int.eq s__p s__n s__c w K) h

/-! ### fathom/fathomref01.Has: function 63 (named slots 6) -/
def fathomref01_Has.w (l__p : Option Addr) (l__n : Nat) (l__c : Nat) (n_ : Int) (w : World) (K : Value → World → Prop) : Prop :=
  ∃ I1 : Int → World → Nat → Prop, (∃ k2, I1 0 w k2) ∧
  ∀ (i_4 : Int) (w5 : World) (k2 : Nat) (_ : Fr), I1 i_4 w5 k2 →
  cnd (decide (i_4 < (l__n : Int)))
    (ixK l__p l__n i_4 1 fun a6 =>
      ∃ x7 : Int, w5.cell? a6 = some (.int .i64 x7) ∧ 
      cnd (x7 == n_)
      (K (.bool true) w5)
      (∃ k3, k3 < k2 ∧ I1 (IntKind.i64.wrap (i_4 + (1 : Int))) w5 k3))
    (K (.bool false) w5)
theorem fathomref01_Has.eq (l__p : Option Addr) (l__n : Nat) (l__c : Nat) (n_ : Int) (w : World) (K : Value → World → Prop) : wpF Try.prog Try.f63 (.two .leaf (.two (.two .leaf (.one (.loop [(5, 3)] .leaf))) .leaf)) [.slice l__p l__n l__c, .int .i64 n_] w K = fathomref01_Has.w l__p l__n l__c n_ w K := by kernel_rfl
theorem fathomref01_Has.ok : fnOk Try.prog Try.f63 2 = true := by kernel_rfl
theorem fathomref01_Has.calls {l__p : Option Addr} {l__n : Nat} {l__c : Nat} {n_ : Int} {w : World} {R : Ending → World → Prop} (h : fathomref01_Has.w l__p l__n l__c n_ w fun v w' => R (.returned v) w') : Calls Try.prog 63 #[.slice l__p l__n l__c, .int .i64 n_] w R :=
  calls_of mixed Try.func63 fathomref01_Has.ok rfl (fun K => fathomref01_Has.eq l__p l__n l__c n_ w K) h

/-! ### fathom/fathomref01.Lit: function 64 (named slots 3) -/
def fathomref01_Lit.w (l_ : Int) (w : World) (K : Value → World → Prop) : Prop :=
  cnd (l_ != (0 : Int))
  (cnd (decide (l_ ≥ (-1048576)))
  (K (.bool (decide (l_ ≤ (1048576 : Int)))) w)
  (K (.bool false) w))
  (K (.bool false) w)
theorem fathomref01_Lit.eq (l_ : Int) (w : World) (K : Value → World → Prop) : wpF Try.prog Try.f64 .leaf [.int .i64 l_] w K = fathomref01_Lit.w l_ w K := by kernel_rfl
theorem fathomref01_Lit.ok : fnOk Try.prog Try.f64 1 = true := by kernel_rfl
theorem fathomref01_Lit.calls {l_ : Int} {w : World} {R : Ending → World → Prop} (h : fathomref01_Lit.w l_ w fun v w' => R (.returned v) w') : Calls Try.prog 64 #[.int .i64 l_] w R :=
  calls_of mixed Try.func64 fathomref01_Lit.ok rfl (fun K => fathomref01_Lit.eq l_ w K) h

/-! ### fathom/lit.CheckCnf: function 65 (named slots 5) -/
def lit_CheckCnf.w (f_0 : Int) (f_1_p : Option Addr) (f_1_n : Nat) (f_1_c : Nat) (w : World) (K : Value → World → Prop) : Prop :=
  ∀ (n1 : Nat) (w2 : World), New (.cells #[.int .i64 f_0, .slice f_1_p f_1_n f_1_c] 24) w n1 w2 → 
  ∃ x3 : Int, w2.cell? ((Addr.mk n1 0 none).add 0) = some (.int .i64 x3) ∧ 
  cnd (decide (x3 < (0 : Int)))
  (K (.int .i64 1) w2)
  (∃ x4 : Int, w2.cell? ((Addr.mk n1 0 none).add 0) = some (.int .i64 x4) ∧ 
  cnd (decide (x4 > (1048576 : Int)))
  (K (.int .i64 1) w2)
  (∃ x5_p : Option Addr, ∃ x5_n : Nat, ∃ x5_c : Nat, w2.cell? ((Addr.mk n1 0 none).add 1) = some (.slice x5_p x5_n x5_c) ∧ 
  cnd (decide ((x5_n : Int) > (262144 : Int)))
  (K (.int .i64 1) w2)
  (∃ x6_p : Option Addr, ∃ x6_n : Nat, ∃ x6_c : Nat, w2.cell? ((Addr.mk n1 0 none).add 1) = some (.slice x6_p x6_n x6_c) ∧ 
    ∃ I7 : Int → World → Nat → Prop, (∃ k8, I7 0 w2 k8) ∧
    ∀ (v10 : Int) (w11 : World) (k8 : Nat) (_ : Fr), I7 v10 w11 k8 →
    cnd (decide (v10 < (x6_n : Int)))
      (ixK x6_p x6_n v10 1 fun a12 =>
        ∃ x13_p : Option Addr, ∃ x13_n : Nat, ∃ x13_c : Nat, w11.cell? a12 = some (.slice x13_p x13_n x13_c) ∧ 
        Calls Try.prog 69 #[.slice x13_p x13_n x13_c] w11 fun e w14 => ∃ r15 : Int, e = .returned (.int .i64 r15) ∧ 
        cnd (r15 != (0 : Int))
        (K (.int .i64 1) w14)
        (Calls Try.prog 70 #[.slice x13_p x13_n x13_c, .func (.func 95) #[] #[.pointer (some (Addr.mk n1 0 none))]] w14 fun e w16 => ∃ r17 : Bool, e = .returned (.bool r17) ∧ 
        cnd r17
        (K (.int .i64 1) w16)
        (∃ k9, k9 < k8 ∧ I7 (IntKind.i64.wrap (v10 + (1 : Int))) w16 k9)))
      (K (.int .i64 0) w11))))
theorem lit_CheckCnf.eq (f_0 : Int) (f_1_p : Option Addr) (f_1_n : Nat) (f_1_c : Nat) (w : World) (K : Value → World → Prop) : wpF Try.prog Try.f65 (.two .leaf (.two .leaf (.two (.two .leaf (.one (.loop [(22, 3)] .leaf))) .leaf))) [.agg #[.int .i64 f_0, .slice f_1_p f_1_n f_1_c]] w K = lit_CheckCnf.w f_0 f_1_p f_1_n f_1_c w K := by kernel_rfl
theorem lit_CheckCnf.ok : fnOk Try.prog Try.f65 1 = true := by kernel_rfl
theorem lit_CheckCnf.calls {f_0 : Int} {f_1_p : Option Addr} {f_1_n : Nat} {f_1_c : Nat} {w : World} {R : Ending → World → Prop} (h : lit_CheckCnf.w f_0 f_1_p f_1_n f_1_c w fun v w' => R (.returned v) w') : Calls Try.prog 65 #[.agg #[.int .i64 f_0, .slice f_1_p f_1_n f_1_c]] w R :=
  calls_of mixed Try.func65 lit_CheckCnf.ok rfl (fun K => lit_CheckCnf.eq f_0 f_1_p f_1_n f_1_c w K) h

/-! ### fathom/fathomref06.Broken: function 66 (named slots 6) -/
def fathomref06_Broken.w (c__p : Option Addr) (c__n : Nat) (c__c : Nat) (truths__p : Option Addr) (truths__n : Nat) (truths__c : Nat) (w : World) (K : Value → World → Prop) : Prop :=
  ∃ I1 : Int → World → Nat → Prop, (∃ k2, I1 0 w k2) ∧
  ∀ (i_4 : Int) (w5 : World) (k2 : Nat) (_ : Fr), I1 i_4 w5 k2 →
  cnd (decide (i_4 < (c__n : Int)))
    (ixK c__p c__n i_4 1 fun a6 =>
      ∃ x7 : Int, w5.cell? a6 = some (.int .i64 x7) ∧ 
      Calls Try.prog 63 #[.slice truths__p truths__n truths__c, .int .i64 (IntKind.i64.wrap (0 - x7))] w5 fun e w8 => ∃ r9 : Bool, e = .returned (.bool r9) ∧ 
      cnd (!r9)
      (K (.bool false) w8)
      (∃ k3, k3 < k2 ∧ I1 (IntKind.i64.wrap (i_4 + (1 : Int))) w8 k3))
    (K (.bool true) w5)
theorem fathomref06_Broken.eq (c__p : Option Addr) (c__n : Nat) (c__c : Nat) (truths__p : Option Addr) (truths__n : Nat) (truths__c : Nat) (w : World) (K : Value → World → Prop) : wpF Try.prog Try.f66 (.two .leaf (.two (.two .leaf (.one (.loop [(5, 3)] .leaf))) .leaf)) [.slice c__p c__n c__c, .slice truths__p truths__n truths__c] w K = fathomref06_Broken.w c__p c__n c__c truths__p truths__n truths__c w K := by kernel_rfl
theorem fathomref06_Broken.ok : fnOk Try.prog Try.f66 2 = true := by kernel_rfl
theorem fathomref06_Broken.calls {c__p : Option Addr} {c__n : Nat} {c__c : Nat} {truths__p : Option Addr} {truths__n : Nat} {truths__c : Nat} {w : World} {R : Ending → World → Prop} (h : fathomref06_Broken.w c__p c__n c__c truths__p truths__n truths__c w fun v w' => R (.returned v) w') : Calls Try.prog 66 #[.slice c__p c__n c__c, .slice truths__p truths__n truths__c] w R :=
  calls_of mixed Try.func66 fathomref06_Broken.ok rfl (fun K => fathomref06_Broken.eq c__p c__n c__c truths__p truths__n truths__c w K) h

/-! ### fathom/fathomref01.Without: function 67 (named slots 7) -/
def fathomref01_Without.w (c__p : Option Addr) (c__n : Nat) (c__c : Nat) (n_ : Int) (w : World) (K : Value → World → Prop) : Prop :=
  ∀ (n1 : Nat) (w2 : World), New (.cells #[] 3) w n1 w2 → 
  ∃ I3 : Option Addr → Nat → Nat → Int → World → Nat → Prop, (∃ k4, I3 (some (Addr.mk n1 0 none)) 0 0 0 w2 k4) ∧
  ∀ (out_6_p : Option Addr) (out_6_n : Nat) (out_6_c : Nat) (i_7 : Int) (w8 : World) (k4 : Nat) (_ : Fr), I3 out_6_p out_6_n out_6_c i_7 w8 k4 →
  cnd (decide (i_7 < (c__n : Int)))
    (ixK c__p c__n i_7 1 fun a9 =>
      ∃ x10 : Int, w8.cell? a9 = some (.int .i64 x10) ∧ 
      cnd (x10 != n_)
      (ixK c__p c__n i_7 1 fun a11 =>
        ∃ x12 : Int, w8.cell? a11 = some (.int .i64 x12) ∧ 
        ∀ (n13 : Nat) (w14 : World), New (.cells #[.int .i64 x12] 3) w8 n13 w14 → 
        ∃ w15 : World, ∃ r16_p : Option Addr, ∃ r16_n : Nat, ∃ r16_c : Nat, (Builtin.append_ #[31, 31] 31 #[.slice out_6_p out_6_n out_6_c, .slice (some (Addr.mk n13 0 none)) 1 1]).run Try.prog w14 = .ok (.slice r16_p r16_n r16_c) w15 ∧ 
        ∃ k5, k5 < k4 ∧ I3 r16_p r16_n r16_c (IntKind.i64.wrap (i_7 + (1 : Int))) w15 k5)
      (∃ k5, k5 < k4 ∧ I3 out_6_p out_6_n out_6_c (IntKind.i64.wrap (i_7 + (1 : Int))) w8 k5))
    (K (.slice out_6_p out_6_n out_6_c) w8)
theorem fathomref01_Without.eq (c__p : Option Addr) (c__n : Nat) (c__c : Nat) (n_ : Int) (w : World) (K : Value → World → Prop) : wpF Try.prog Try.f67 (.two .leaf (.two .leaf (.two (.two .leaf (.one (.loop [(5, 31), (6, 3)] .leaf))) .leaf))) [.slice c__p c__n c__c, .int .i64 n_] w K = fathomref01_Without.w c__p c__n c__c n_ w K := by kernel_rfl
theorem fathomref01_Without.ok : fnOk Try.prog Try.f67 2 = true := by kernel_rfl
theorem fathomref01_Without.calls {c__p : Option Addr} {c__n : Nat} {c__c : Nat} {n_ : Int} {w : World} {R : Ending → World → Prop} (h : fathomref01_Without.w c__p c__n c__c n_ w fun v w' => R (.returned v) w') : Calls Try.prog 67 #[.slice c__p c__n c__c, .int .i64 n_] w R :=
  calls_of mixed Try.func67 fathomref01_Without.ok rfl (fun K => fathomref01_Without.eq c__p c__n c__c n_ w K) h

/-! ### fathom/prop.amount: function 68 (named slots 3) -/
def prop_amount.w (l_ : Int) (w : World) (K : Value → World → Prop) : Prop :=
  K (.int .i64 (imax l_ (IntKind.i64.wrap (0 - l_)))) w
theorem prop_amount.eq (l_ : Int) (w : World) (K : Value → World → Prop) : wpF Try.prog Try.f68 .leaf [.int .i64 l_] w K = prop_amount.w l_ w K := by kernel_rfl
theorem prop_amount.ok : fnOk Try.prog Try.f68 1 = true := by kernel_rfl
theorem prop_amount.calls {l_ : Int} {w : World} {R : Ending → World → Prop} (h : prop_amount.w l_ w fun v w' => R (.returned v) w') : Calls Try.prog 68 #[.int .i64 l_] w R :=
  calls_of mixed Try.func68 prop_amount.ok rfl (fun K => prop_amount.eq l_ w K) h

/-! ### fathom/lit.Check: function 69 (named slots 3) -/
def lit_Check.w (c__p : Option Addr) (c__n : Nat) (c__c : Nat) (w : World) (K : Value → World → Prop) : Prop :=
  cnd (decide ((c__n : Int) > (4096 : Int)))
  (K (.int .i64 1) w)
  (Calls Try.prog 70 #[.slice c__p c__n c__c, .func (.func 97) #[] #[]] w fun e w1 => ∃ r2 : Bool, e = .returned (.bool r2) ∧ 
  cnd r2
  (K (.int .i64 1) w1)
  (K (.int .i64 0) w1))
theorem lit_Check.eq (c__p : Option Addr) (c__n : Nat) (c__c : Nat) (w : World) (K : Value → World → Prop) : wpF Try.prog Try.f69 .leaf [.slice c__p c__n c__c] w K = lit_Check.w c__p c__n c__c w K := by kernel_rfl
theorem lit_Check.ok : fnOk Try.prog Try.f69 1 = true := by kernel_rfl
theorem lit_Check.calls {c__p : Option Addr} {c__n : Nat} {c__c : Nat} {w : World} {R : Ending → World → Prop} (h : lit_Check.w c__p c__n c__c w fun v w' => R (.returned v) w') : Calls Try.prog 69 #[.slice c__p c__n c__c] w R :=
  calls_of mixed Try.func69 lit_Check.ok rfl (fun K => lit_Check.eq c__p c__n c__c w K) h

/-! ### slices.ContainsFunc[[]int,int]: function 70 (named slots 5) -/
def slices_ContainsFunc_int_int.w (s__p : Option Addr) (s__n : Nat) (s__c : Nat) (f_f : FuncId) (f_v : Array Value) (w : World) (K : Value → World → Prop) : Prop :=
  Calls Try.prog 99 #[.slice s__p s__n s__c, .func (.func f_f) #[] f_v] w fun e w1 => ∃ r2 : Int, e = .returned (.int .i64 r2) ∧ 
  K (.bool (decide (r2 ≥ (0 : Int)))) w1
theorem slices_ContainsFunc_int_int.eq (s__p : Option Addr) (s__n : Nat) (s__c : Nat) (f_f : FuncId) (f_v : Array Value) (w : World) (K : Value → World → Prop) : wpF Try.prog Try.f70 .leaf [.slice s__p s__n s__c, .func (.func f_f) #[] f_v] w K = slices_ContainsFunc_int_int.w s__p s__n s__c f_f f_v w K := by kernel_rfl
theorem slices_ContainsFunc_int_int.ok : fnOk Try.prog Try.f70 2 = true := by kernel_rfl
theorem slices_ContainsFunc_int_int.calls {s__p : Option Addr} {s__n : Nat} {s__c : Nat} {f_f : FuncId} {f_v : Array Value} {w : World} {R : Ending → World → Prop} (h : slices_ContainsFunc_int_int.w s__p s__n s__c f_f f_v w fun v w' => R (.returned v) w') : Calls Try.prog 70 #[.slice s__p s__n s__c, .func (.func f_f) #[] f_v] w R :=
  calls_of mixed Try.func70 slices_ContainsFunc_int_int.ok rfl (fun K => slices_ContainsFunc_int_int.eq s__p s__n s__c f_f f_v w K) h

/-! ### (*fathom/prop.Prop).Add$1: function 71 (named slots 4) -/
def prop_Prop_Add_1.w (l_ : Int) (c0_ : Addr) (w : World) (K : Value → World → Prop) : Prop :=
  ∃ x1 : Option Addr, w.cell? c0_ = some (.pointer x1) ∧ 
  Calls Try.prog 72 #[.pointer x1, .int .i64 l_] w fun e w2 => ∃ r3 : Bool, e = .returned (.bool r3) ∧ 
  K (.bool (!r3)) w2
theorem prop_Prop_Add_1.eq (l_ : Int) (c0_ : Addr) (w : World) (K : Value → World → Prop) : wpF Try.prog Try.f71 .leaf [.int .i64 l_, .pointer (some c0_)] w K = prop_Prop_Add_1.w l_ c0_ w K := by kernel_rfl
theorem prop_Prop_Add_1.ok : fnOk Try.prog Try.f71 2 = true := by kernel_rfl
theorem prop_Prop_Add_1.calls {l_ : Int} {c0_ : Addr} {w : World} {R : Ending → World → Prop} (h : prop_Prop_Add_1.w l_ c0_ w fun v w' => R (.returned v) w') : Calls Try.prog 71 #[.int .i64 l_, .pointer (some c0_)] w R :=
  calls_of mixed Try.func71 prop_Prop_Add_1.ok rfl (fun K => prop_Prop_Add_1.eq l_ c0_ w K) h

/-! ### (*fathom/prop.Prop).is: function 72 (named slots 5) -/
def prop_Prop_is.w (p_ : Option Addr) (l_ : Int) (w : World) (K : Value → World → Prop) : Prop :=
  ∃ W1 : World → Prop, W1 w.drew ∧ 
  cnd (!p_.isNone)
  (∃ a2 : Addr, p_ = some a2 ∧ ∃ x3_p : Option Addr, ∃ x3_n : Nat, ∃ x3_c : Nat, AtW W1 (a2.add 3) (.slice x3_p x3_n x3_c) ∧ 
  cnd (!x3_p.isNone)
  (∀ (n4 : Nat) (w5 : World), New (.cells #[.int .i64 l_] 3) w.drew n4 w5 → 
  W1 w5 ∧ Calls Try.prog 69 #[.slice (some (Addr.mk n4 0 none)) 1 1] w5 fun e w6 => ∃ r7 : Int, e = .returned (.int .i64 r7) ∧ 
  W1 w6 ∧ cnd (r7 == (0 : Int))
  (Calls Try.prog 68 #[.int .i64 l_] w6 fun e w8 => ∃ r9 : Int, e = .returned (.int .i64 r9) ∧ 
  W1 w8 ∧ ∃ a10 : Addr, p_ = some a10 ∧ ∃ x11 : Int, AtW W1 (a10.add 0) (.int .i64 x11) ∧ 
  K (.bool (decide (r9 ≤ x11))) w8)
  (K (.bool false) w6))
  (K (.bool false) w.drew))
  (K (.bool false) w.drew)
theorem prop_Prop_is.eq (p_ : Option Addr) (l_ : Int) (w : World) (K : Value → World → Prop) : wpF Try.prog Try.f72 (.two .leaf (.two .draw .leaf)) [.pointer p_, .int .i64 l_] w K = prop_Prop_is.w p_ l_ w K := by kernel_rfl
theorem prop_Prop_is.ok : fnOk Try.prog Try.f72 2 = true := by kernel_rfl
theorem prop_Prop_is.calls {p_ : Option Addr} {l_ : Int} {w : World} {R : Ending → World → Prop} (h : prop_Prop_is.w p_ l_ w fun v w' => R (.returned v) w') : Calls Try.prog 72 #[.pointer p_, .int .i64 l_] w R :=
  calls_of mixed Try.func72 prop_Prop_is.ok rfl (fun K => prop_Prop_is.eq p_ l_ w K) h

/-! ### fathom/lit.Norm: function 73 (named slots 6) -/
def lit_Norm.w (c__p : Option Addr) (c__n : Nat) (c__c : Nat) (w : World) (K : Value → World → Prop) : Prop :=
  Calls Try.prog 69 #[.slice c__p c__n c__c] w fun e w1 => ∃ r2 : Int, e = .returned (.int .i64 r2) ∧ 
  cnd (r2 != (0 : Int))
  (K (.tuple #[.slice none 0 0, .bool false]) w1)
  (Calls Try.prog 62 #[.slice c__p c__n c__c] w1 fun e w3 => ∃ r4_p : Option Addr, ∃ r4_n : Nat, ∃ r4_c : Nat, e = .returned (.slice r4_p r4_n r4_c) ∧ 
    Calls Try.prog 100 #[.slice r4_p r4_n r4_c, .func (.func 101) #[] #[]] w3 fun e w5 => e = .returned (.tuple #[]) ∧ 
    Calls Try.prog 102 #[.slice r4_p r4_n r4_c] w5 fun e w6 => ∃ r7_p : Option Addr, ∃ r7_n : Nat, ∃ r7_c : Nat, e = .returned (.slice r7_p r7_n r7_c) ∧ 
    ∃ I8 : Int → World → Nat → Prop, (∃ k9, I8 1 w6 k9) ∧
    ∀ (i_11 : Int) (w12 : World) (k9 : Nat) (_ : Fr), I8 i_11 w12 k9 →
    cnd (decide (i_11 < (r7_n : Int)))
      (ixK r7_p r7_n i_11 1 fun a13 =>
        ∃ x14 : Int, w12.drew.cell? a13 = some (.int .i64 x14) ∧ 
        ixK r7_p r7_n (IntKind.i64.wrap (i_11 - (1 : Int))) 1 fun a15 =>
        ∃ x16 : Int, w12.drew.cell? a15 = some (.int .i64 x16) ∧ 
        cnd (x14 == (IntKind.i64.wrap (0 - x16)))
        (K (.tuple #[.slice r7_p r7_n r7_c, .bool true]) w12.drew)
        (∃ k10, k10 < k9 ∧ I8 (IntKind.i64.wrap (i_11 + (1 : Int))) w12.drew k10))
      (K (.tuple #[.slice r7_p r7_n r7_c, .bool false]) w12))
theorem lit_Norm.eq (c__p : Option Addr) (c__n : Nat) (c__c : Nat) (w : World) (K : Value → World → Prop) : wpF Try.prog Try.f73 (.two .leaf (.two .leaf (.two .leaf (.two .leaf (.two .leaf (.two (.two .leaf (.one (.loop [(5, 3)] .leaf))) .leaf)))))) [.slice c__p c__n c__c] w K = lit_Norm.w c__p c__n c__c w K := by kernel_rfl
theorem lit_Norm.ok : fnOk Try.prog Try.f73 1 = true := by kernel_rfl
theorem lit_Norm.calls {c__p : Option Addr} {c__n : Nat} {c__c : Nat} {w : World} {R : Ending → World → Prop} (h : lit_Norm.w c__p c__n c__c w fun v w' => R (.returned v) w') : Calls Try.prog 73 #[.slice c__p c__n c__c] w R :=
  calls_of mixed Try.func73 lit_Norm.ok rfl (fun K => lit_Norm.eq c__p c__n c__c w K) h


end Go.Proofs.Ytdaiolinnpligaa.W
