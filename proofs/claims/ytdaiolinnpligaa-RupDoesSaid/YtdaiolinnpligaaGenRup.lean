/- The functions that the statements reach, printed as what the frame asks of them, each checked by the kernel against the loaded text. -/
import Derived.Test.YtdaiolinnpligaaGenRup3
namespace Go.Proofs.Ytdaiolinnpligaa.W
open Go Go.Fw Go.Proofs
set_option linter.unusedVariables false
set_option maxRecDepth 100000
/-! ### (*fathom/rup.base).note: function 107 (named slots 7) -/
def rup_base_note.w (b_ : Option Addr) (c__p : Option Addr) (c__n : Nat) (c__c : Nat) (w : World) (K : Value → World → Prop) : Prop :=
  ∃ I1 : Int → World → Nat → Prop, (∃ k2, I1 0 w k2) ∧
  ∀ (v4 : Int) (w5 : World) (k2 : Nat) (_ : Fr), I1 v4 w5 k2 →
  cnd (decide (v4 < (c__n : Int)))
    (ixK c__p c__n v4 1 fun a6 =>
      ∃ x7 : Int, w5.cell? a6 = some (.int .i64 x7) ∧ 
      ∃ a8 : Addr, b_ = some a8 ∧ ∃ x9 : Option Nat, w5.cell? (a8.add 1) = some (.map x9) ∧ 
      ∃ w10 : World, ∃ r11 : Int, (Instr.lookup 100 (.map x9) (.int .i64 (imax x7 (IntKind.i64.wrap (0 - x7)))) false).run Try.prog w5 = .ok (.int .i64 r11) w10 ∧ 
      cnd (r11 == (0 : Int))
      (∃ a12 : Addr, b_ = some a12 ∧ ∃ x13 : Option Nat, w10.drew.cell? (a12.add 1) = some (.map x13) ∧ 
        ∃ a14 : Addr, b_ = some a14 ∧ ∃ x15 : Option Nat, w10.drew.cell? (a14.add 1) = some (.map x15) ∧ 
        ∃ n16 : Int, (Builtin.len_ #[100] 3 #[.map x15]).run Try.prog w10.drew = .ok (.int .i64 n16) w10.drew ∧ 
        ∃ w17 : World, (Instr.mapUpdate 100 (.map x13) (.int .i64 (imax x7 (IntKind.i64.wrap (0 - x7)))) (.int .i64 (IntKind.i64.wrap (n16 + (1 : Int))))).run Try.prog w10.drew = .ok () w17 ∧ 
        ∃ k3, k3 < k2 ∧ I1 (IntKind.i64.wrap (v4 + (1 : Int))) w17 k3)
      (∃ k3, k3 < k2 ∧ I1 (IntKind.i64.wrap (v4 + (1 : Int))) w10 k3))
    (K (.tuple #[]) w5)
theorem rup_base_note.eq (b_ : Option Addr) (c__p : Option Addr) (c__n : Nat) (c__c : Nat) (w : World) (K : Value → World → Prop) : wpF Try.prog Try.f107 (.two .leaf (.one (.loop [(9, 3)] .leaf))) [.pointer b_, .slice c__p c__n c__c] w K = rup_base_note.w b_ c__p c__n c__c w K := by kernel_rfl
theorem rup_base_note.ok : fnOk Try.prog Try.f107 2 = true := by kernel_rfl
theorem rup_base_note.calls {b_ : Option Addr} {c__p : Option Addr} {c__n : Nat} {c__c : Nat} {w : World} {R : Ending → World → Prop} (h : rup_base_note.w b_ c__p c__n c__c w fun v w' => R (.returned v) w') : Calls Try.prog 107 #[.pointer b_, .slice c__p c__n c__c] w R :=
  calls_of mixed Try.func107 rup_base_note.ok rfl (fun K => rup_base_note.eq b_ c__p c__n c__c w K) h

/-! ### (*fathom/rup.base).anew: function 108 (named slots 6) -/
def rup_base_anew.w (b_ : Option Addr) (l__p : Option Addr) (l__n : Nat) (l__c : Nat) (w : World) (K : Value → World → Prop) : Prop :=
  ∃ a1 : Addr, b_ = some a1 ∧ ∃ x2 : Option Nat, w.cell? (a1.add 1) = some (.map x2) ∧ 
  ∃ n3 : Int, (Builtin.len_ #[100] 3 #[.map x2]).run Try.prog w = .ok (.int .i64 n3) w ∧ 
  Calls Try.prog 27 #[.agg #[.int .i64 n3, .slice none 0 0]] w fun e w4 => ∃ r5 : Option Addr, ∃ r6 : Int, e = .returned (.tuple #[.pointer r5, .int .i64 r6]) ∧ 
  ∃ a7 : Addr, b_ = some a7 ∧ ∃ w8 : World, StoreAt (a7.add 2) 0 [.pointer r5] w4 w8 ∧ 
  ∀ (n9 : Nat) (w10 : World), New (.map #[] 0) w8 n9 w10 → 
  ∃ a11 : Addr, b_ = some a11 ∧ ∃ w12 : World, StoreAt (a11.add 3) 0 [.slice none 0 0] w10 w12 ∧ 
  ∃ a13 : Addr, b_ = some a13 ∧ ∃ w14 : World, StoreAt (a13.add 4) 0 [.map (some n9)] w12 w14 ∧ 
  ∃ I15 : Int → World → Nat → Prop, (∃ k16, I15 0 w14 k16) ∧
  ∀ (v18 : Int) (w19 : World) (k16 : Nat) (_ : Fr), I15 v18 w19 k16 →
  cnd (decide (v18 < (l__n : Int)))
    (ixK l__p l__n v18 1 fun a20 =>
      ∃ x21_p : Option Addr, ∃ x21_n : Nat, ∃ x21_c : Nat, w19.cell? a20 = some (.slice x21_p x21_n x21_c) ∧ 
      Calls Try.prog 110 #[.pointer b_, .slice x21_p x21_n x21_c] w19 fun e w22 => e = .returned (.tuple #[]) ∧ 
      ∃ k17, k17 < k16 ∧ I15 (IntKind.i64.wrap (v18 + (1 : Int))) w22 k17)
    (K (.tuple #[]) w19)
theorem rup_base_anew.eq (b_ : Option Addr) (l__p : Option Addr) (l__n : Nat) (l__c : Nat) (w : World) (K : Value → World → Prop) : wpF Try.prog Try.f108 (.two .leaf (.two .leaf (.two .leaf (.one (.loop [(28, 3)] .leaf))))) [.pointer b_, .slice l__p l__n l__c] w K = rup_base_anew.w b_ l__p l__n l__c w K := by kernel_rfl
theorem rup_base_anew.ok : fnOk Try.prog Try.f108 2 = true := by kernel_rfl
theorem rup_base_anew.calls {b_ : Option Addr} {l__p : Option Addr} {l__n : Nat} {l__c : Nat} {w : World} {R : Ending → World → Prop} (h : rup_base_anew.w b_ l__p l__n l__c w fun v w' => R (.returned v) w') : Calls Try.prog 108 #[.pointer b_, .slice l__p l__n l__c] w R :=
  calls_of mixed Try.func108 rup_base_anew.ok rfl (fun K => rup_base_anew.eq b_ l__p l__n l__c w K) h

/-! ### (*fathom/rup.base).drop: function 109 (named slots 10) -/
def rup_base_drop.w (b_ : Option Addr) (c__p : Option Addr) (c__n : Nat) (c__c : Nat) (w : World) (K : Value → World → Prop) : Prop :=
  Calls Try.prog 73 #[.slice c__p c__n c__c] w fun e w1 => ∃ r2_p : Option Addr, ∃ r2_n : Nat, ∃ r2_c : Nat, ∃ r3 : Bool, e = .returned (.tuple #[.slice r2_p r2_n r2_c, .bool r3]) ∧ 
  ∃ a4 : Addr, b_ = some a4 ∧ ∃ x5_p : Option Addr, ∃ x5_n : Nat, ∃ x5_c : Nat, w1.cell? (a4.add 3) = some (.slice x5_p x5_n x5_c) ∧ 
  ∃ I6 : Int → World → Nat → Prop, (∃ k7, I6 0 w1 k7) ∧
  ∀ (v9 : Int) (w10 : World) (k7 : Nat) (_ : Fr), I6 v9 w10 k7 →
  cnd (decide (v9 < (x5_n : Int)))
    (ixK x5_p x5_n v9 1 fun a11 =>
      ∃ x12 : Int, w10.cell? a11 = some (.int .i64 x12) ∧ 
      ∃ a13 : Addr, b_ = some a13 ∧ ∃ x14 : Option Nat, w10.cell? (a13.add 4) = some (.map x14) ∧ 
      ∃ w15 : World, ∃ r16_p : Option Addr, ∃ r16_n : Nat, ∃ r16_c : Nat, (Instr.lookup 101 (.map x14) (.int .i64 x12) false).run Try.prog w10 = .ok (.slice r16_p r16_n r16_c) w15 ∧ 
      Calls Try.prog 73 #[.slice r16_p r16_n r16_c] w15 fun e w17 => ∃ r18_p : Option Addr, ∃ r18_n : Nat, ∃ r18_c : Nat, ∃ r19 : Bool, e = .returned (.tuple #[.slice r18_p r18_n r18_c, .bool r19]) ∧ 
      Calls Try.prog 118 #[.slice r18_p r18_n r18_c, .slice r2_p r2_n r2_c] w17 fun e w20 => ∃ r21 : Bool, e = .returned (.bool r21) ∧ 
      cnd r21
      (∃ a22 : Addr, b_ = some a22 ∧ ∃ x23_p : Option Addr, ∃ x23_n : Nat, ∃ x23_c : Nat, w20.cell? (a22.add 3) = some (.slice x23_p x23_n x23_c) ∧ 
        Calls Try.prog 119 #[.slice x23_p x23_n x23_c, .int .i64 v9, .int .i64 (IntKind.i64.wrap (v9 + (1 : Int)))] w20 fun e w24 => ∃ r25_p : Option Addr, ∃ r25_n : Nat, ∃ r25_c : Nat, e = .returned (.slice r25_p r25_n r25_c) ∧ 
        ∃ a26 : Addr, b_ = some a26 ∧ ∃ w27 : World, StoreAt (a26.add 3) 0 [.slice r25_p r25_n r25_c] w24 w27 ∧ 
        ∃ a28 : Addr, b_ = some a28 ∧ ∃ x29 : Option Addr, w27.cell? (a28.add 2) = some (.pointer x29) ∧ 
        Calls Try.prog 32 #[.pointer x29, .int .i64 x12] w27 fun e w30 => ∃ r31 : Int, e = .returned (.int .i64 r31) ∧ 
        K (.tuple #[]) w30)
      (∃ k8, k8 < k7 ∧ I6 (IntKind.i64.wrap (v9 + (1 : Int))) w20 k8))
    (K (.tuple #[]) w10)
theorem rup_base_drop.eq (b_ : Option Addr) (c__p : Option Addr) (c__n : Nat) (c__c : Nat) (w : World) (K : Value → World → Prop) : wpF Try.prog Try.f109 (.two .leaf (.two .leaf (.one (.loop [(20, 3)] .leaf)))) [.pointer b_, .slice c__p c__n c__c] w K = rup_base_drop.w b_ c__p c__n c__c w K := by kernel_rfl
theorem rup_base_drop.ok : fnOk Try.prog Try.f109 2 = true := by kernel_rfl
theorem rup_base_drop.calls {b_ : Option Addr} {c__p : Option Addr} {c__n : Nat} {c__c : Nat} {w : World} {R : Ending → World → Prop} (h : rup_base_drop.w b_ c__p c__n c__c w fun v w' => R (.returned v) w') : Calls Try.prog 109 #[.pointer b_, .slice c__p c__n c__c] w R :=
  calls_of mixed Try.func109 rup_base_drop.ok rfl (fun K => rup_base_drop.eq b_ c__p c__n c__c w K) h

/-! ### (*fathom/rup.base).add: function 110 (named slots 8) -/
def rup_base_add.w (b_ : Option Addr) (c__p : Option Addr) (c__n : Nat) (c__c : Nat) (w : World) (K : Value → World → Prop) : Prop :=
  ∃ W1 : World → Prop, W1 w.drew ∧ 
  ∃ a2 : Addr, b_ = some a2 ∧ ∃ x3 : Option Addr, AtW W1 (a2.add 2) (.pointer x3) ∧ 
  Calls Try.prog 111 #[.pointer b_, .slice c__p c__n c__c] w.drew fun e w4 => ∃ r5_p : Option Addr, ∃ r5_n : Nat, ∃ r5_c : Nat, e = .returned (.slice r5_p r5_n r5_c) ∧ 
  W1 w4 ∧ Calls Try.prog 30 #[.pointer x3, .slice r5_p r5_n r5_c] w4 fun e w6 => ∃ r7 : Int, ∃ r8 : Int, e = .returned (.tuple #[.int .i64 r7, .int .i64 r8]) ∧ 
  cnd (r8 != (0 : Int))
  (Calls Try.prog 90 #[.pointer b_] w6 fun e w9 => ∃ r10_p : Option Addr, ∃ r10_n : Nat, ∃ r10_c : Nat, e = .returned (.slice r10_p r10_n r10_c) ∧ 
    Calls Try.prog 108 #[.pointer b_, .slice r10_p r10_n r10_c] w9 fun e w11 => e = .returned (.tuple #[]) ∧ 
    ∃ W12 : World → Prop, W12 w11.drew ∧ 
    ∃ a13 : Addr, b_ = some a13 ∧ ∃ x14 : Option Addr, AtW W12 (a13.add 2) (.pointer x14) ∧ 
    Calls Try.prog 111 #[.pointer b_, .slice c__p c__n c__c] w11.drew fun e w15 => ∃ r16_p : Option Addr, ∃ r16_n : Nat, ∃ r16_c : Nat, e = .returned (.slice r16_p r16_n r16_c) ∧ 
    W12 w15 ∧ Calls Try.prog 30 #[.pointer x14, .slice r16_p r16_n r16_c] w15 fun e w17 => ∃ r18 : Int, ∃ r19 : Int, e = .returned (.tuple #[.int .i64 r18, .int .i64 r19]) ∧ 
    ∃ a20 : Addr, b_ = some a20 ∧ ∃ x21_p : Option Addr, ∃ x21_n : Nat, ∃ x21_c : Nat, w17.cell? (a20.add 3) = some (.slice x21_p x21_n x21_c) ∧ 
    ∀ (n22 : Nat) (w23 : World), New (.cells #[.int .i64 r18] 3) w17 n22 w23 → 
    ∃ w24 : World, ∃ r25_p : Option Addr, ∃ r25_n : Nat, ∃ r25_c : Nat, (Builtin.append_ #[31, 31] 31 #[.slice x21_p x21_n x21_c, .slice (some (Addr.mk n22 0 none)) 1 1]).run Try.prog w23 = .ok (.slice r25_p r25_n r25_c) w24 ∧ 
    ∃ a26 : Addr, b_ = some a26 ∧ ∃ w27 : World, StoreAt (a26.add 3) 0 [.slice r25_p r25_n r25_c] w24 w27 ∧ 
    ∃ W28 : World → Prop, W28 w27.drew ∧ 
    ∃ a29 : Addr, b_ = some a29 ∧ ∃ x30 : Option Nat, AtW W28 (a29.add 4) (.map x30) ∧ 
    Calls Try.prog 62 #[.slice c__p c__n c__c] w27.drew fun e w31 => ∃ r32_p : Option Addr, ∃ r32_n : Nat, ∃ r32_c : Nat, e = .returned (.slice r32_p r32_n r32_c) ∧ 
    W28 w31 ∧ ∃ w33 : World, (Instr.mapUpdate 101 (.map x30) (.int .i64 r18) (.slice r32_p r32_n r32_c)).run Try.prog w31 = .ok () w33 ∧ 
    ∃ I34 : Int → World → Nat → Prop, (∃ k35, I34 0 w33 k35) ∧
    ∀ (v37 : Int) (w38 : World) (k35 : Nat) (_ : Fr), I34 v37 w38 k35 →
    cnd (decide (v37 < (c__n : Int)))
      (ixK c__p c__n v37 1 fun a39 =>
        ∃ x40 : Int, w38.cell? a39 = some (.int .i64 x40) ∧ 
        ∃ a41 : Addr, b_ = some a41 ∧ ∃ x42 : Int, w38.cell? (a41.add 0) = some (.int .i64 x42) ∧ 
        ∃ a43 : Addr, b_ = some a43 ∧ ∃ w44 : World, StoreAt (a43.add 0) 0 [.int .i64 (imax (imax x42 x40) (IntKind.i64.wrap (0 - x40)))] w38 w44 ∧ 
        ∃ k36, k36 < k35 ∧ I34 (IntKind.i64.wrap (v37 + (1 : Int))) w44 k36)
      (K (.tuple #[]) w38))
  (∃ a45 : Addr, b_ = some a45 ∧ ∃ x46_p : Option Addr, ∃ x46_n : Nat, ∃ x46_c : Nat, w6.cell? (a45.add 3) = some (.slice x46_p x46_n x46_c) ∧ 
    ∀ (n47 : Nat) (w48 : World), New (.cells #[.int .i64 r7] 3) w6 n47 w48 → 
    ∃ w49 : World, ∃ r50_p : Option Addr, ∃ r50_n : Nat, ∃ r50_c : Nat, (Builtin.append_ #[31, 31] 31 #[.slice x46_p x46_n x46_c, .slice (some (Addr.mk n47 0 none)) 1 1]).run Try.prog w48 = .ok (.slice r50_p r50_n r50_c) w49 ∧ 
    ∃ a51 : Addr, b_ = some a51 ∧ ∃ w52 : World, StoreAt (a51.add 3) 0 [.slice r50_p r50_n r50_c] w49 w52 ∧ 
    ∃ W53 : World → Prop, W53 w52.drew ∧ 
    ∃ a54 : Addr, b_ = some a54 ∧ ∃ x55 : Option Nat, AtW W53 (a54.add 4) (.map x55) ∧ 
    Calls Try.prog 62 #[.slice c__p c__n c__c] w52.drew fun e w56 => ∃ r57_p : Option Addr, ∃ r57_n : Nat, ∃ r57_c : Nat, e = .returned (.slice r57_p r57_n r57_c) ∧ 
    W53 w56 ∧ ∃ w58 : World, (Instr.mapUpdate 101 (.map x55) (.int .i64 r7) (.slice r57_p r57_n r57_c)).run Try.prog w56 = .ok () w58 ∧ 
    ∃ I59 : Int → World → Nat → Prop, (∃ k60, I59 0 w58 k60) ∧
    ∀ (v62 : Int) (w63 : World) (k60 : Nat) (_ : Fr), I59 v62 w63 k60 →
    cnd (decide (v62 < (c__n : Int)))
      (ixK c__p c__n v62 1 fun a64 =>
        ∃ x65 : Int, w63.cell? a64 = some (.int .i64 x65) ∧ 
        ∃ a66 : Addr, b_ = some a66 ∧ ∃ x67 : Int, w63.cell? (a66.add 0) = some (.int .i64 x67) ∧ 
        ∃ a68 : Addr, b_ = some a68 ∧ ∃ w69 : World, StoreAt (a68.add 0) 0 [.int .i64 (imax (imax x67 x65) (IntKind.i64.wrap (0 - x65)))] w63 w69 ∧ 
        ∃ k61, k61 < k60 ∧ I59 (IntKind.i64.wrap (v62 + (1 : Int))) w69 k61)
      (K (.tuple #[]) w63))
theorem rup_base_add.eq (b_ : Option Addr) (c__p : Option Addr) (c__n : Nat) (c__c : Nat) (w : World) (K : Value → World → Prop) : wpF Try.prog Try.f110 (.two .draw (.two (.two .leaf (.two (.two .leaf .draw) .leaf)) (.two .leaf (.two .draw (.two .leaf (.one (.loop [(55, 3)] .leaf))))))) [.pointer b_, .slice c__p c__n c__c] w K = rup_base_add.w b_ c__p c__n c__c w K := by kernel_rfl
theorem rup_base_add.ok : fnOk Try.prog Try.f110 2 = true := by kernel_rfl
theorem rup_base_add.calls {b_ : Option Addr} {c__p : Option Addr} {c__n : Nat} {c__c : Nat} {w : World} {R : Ending → World → Prop} (h : rup_base_add.w b_ c__p c__n c__c w fun v w' => R (.returned v) w') : Calls Try.prog 110 #[.pointer b_, .slice c__p c__n c__c] w R :=
  calls_of mixed Try.func110 rup_base_add.ok rfl (fun K => rup_base_add.eq b_ c__p c__n c__c w K) h

/-! ### (*fathom/rup.base).code: function 111 (named slots 9) -/
def rup_base_code.w (b_ : Option Addr) (c__p : Option Addr) (c__n : Nat) (c__c : Nat) (w : World) (K : Value → World → Prop) : Prop :=
  ∃ I1 : Option Addr → Nat → Nat → Int → World → Nat → Prop, (∃ k2, I1 none 0 0 0 w k2) ∧
  ∀ (out_4_p : Option Addr) (out_4_n : Nat) (out_4_c : Nat) (v5 : Int) (w6 : World) (k2 : Nat) (_ : Fr), I1 out_4_p out_4_n out_4_c v5 w6 k2 →
  cnd (decide (v5 < (c__n : Int)))
    (ixK c__p c__n v5 1 fun a7 =>
      ∃ x8 : Int, w6.cell? a7 = some (.int .i64 x8) ∧ 
      ∃ a9 : Addr, b_ = some a9 ∧ ∃ x10 : Option Nat, w6.cell? (a9.add 1) = some (.map x10) ∧ 
      ∃ w11 : World, ∃ r12 : Int, (Instr.lookup 100 (.map x10) (.int .i64 (imax x8 (IntKind.i64.wrap (0 - x8)))) false).run Try.prog w6 = .ok (.int .i64 r12) w11 ∧ 
      cnd (decide (x8 < (0 : Int)))
      (∀ (n13 : Nat) (w14 : World), New (.cells #[.int .i64 (IntKind.i64.wrap (0 - r12))] 3) w11 n13 w14 → 
        ∃ w15 : World, ∃ r16_p : Option Addr, ∃ r16_n : Nat, ∃ r16_c : Nat, (Builtin.append_ #[31, 31] 31 #[.slice out_4_p out_4_n out_4_c, .slice (some (Addr.mk n13 0 none)) 1 1]).run Try.prog w14 = .ok (.slice r16_p r16_n r16_c) w15 ∧ 
        ∃ k3, k3 < k2 ∧ I1 r16_p r16_n r16_c (IntKind.i64.wrap (v5 + (1 : Int))) w15 k3)
      (∀ (n17 : Nat) (w18 : World), New (.cells #[.int .i64 r12] 3) w11 n17 w18 → 
        ∃ w19 : World, ∃ r20_p : Option Addr, ∃ r20_n : Nat, ∃ r20_c : Nat, (Builtin.append_ #[31, 31] 31 #[.slice out_4_p out_4_n out_4_c, .slice (some (Addr.mk n17 0 none)) 1 1]).run Try.prog w18 = .ok (.slice r20_p r20_n r20_c) w19 ∧ 
        ∃ k3, k3 < k2 ∧ I1 r20_p r20_n r20_c (IntKind.i64.wrap (v5 + (1 : Int))) w19 k3))
    (K (.slice out_4_p out_4_n out_4_c) w6)
theorem rup_base_code.eq (b_ : Option Addr) (c__p : Option Addr) (c__n : Nat) (c__c : Nat) (w : World) (K : Value → World → Prop) : wpF Try.prog Try.f111 (.two .leaf (.two .leaf (.two (.two .leaf (.one (.loop [(5, 31), (11, 3)] .leaf))) .leaf))) [.pointer b_, .slice c__p c__n c__c] w K = rup_base_code.w b_ c__p c__n c__c w K := by kernel_rfl
theorem rup_base_code.ok : fnOk Try.prog Try.f111 2 = true := by kernel_rfl
theorem rup_base_code.calls {b_ : Option Addr} {c__p : Option Addr} {c__n : Nat} {c__c : Nat} {w : World} {R : Ending → World → Prop} (h : rup_base_code.w b_ c__p c__n c__c w fun v w' => R (.returned v) w') : Calls Try.prog 111 #[.pointer b_, .slice c__p c__n c__c] w R :=
  calls_of mixed Try.func111 rup_base_code.ok rfl (fun K => rup_base_code.eq b_ c__p c__n c__c w K) h

/-! ### slices.Contains[[]int,int]: function 112 (named slots 5) -/
def slices_Contains_int_int.w (s__p : Option Addr) (s__n : Nat) (s__c : Nat) (v_ : Int) (w : World) (K : Value → World → Prop) : Prop :=
  Calls Try.prog 120 #[.slice s__p s__n s__c, .int .i64 v_] w fun e w1 => ∃ r2 : Int, e = .returned (.int .i64 r2) ∧ 
  K (.bool (decide (r2 ≥ (0 : Int)))) w1
theorem slices_Contains_int_int.eq (s__p : Option Addr) (s__n : Nat) (s__c : Nat) (v_ : Int) (w : World) (K : Value → World → Prop) : wpF Try.prog Try.f112 .leaf [.slice s__p s__n s__c, .int .i64 v_] w K = slices_Contains_int_int.w s__p s__n s__c v_ w K := by kernel_rfl
theorem slices_Contains_int_int.ok : fnOk Try.prog Try.f112 2 = true := by kernel_rfl
theorem slices_Contains_int_int.calls {s__p : Option Addr} {s__n : Nat} {s__c : Nat} {v_ : Int} {w : World} {R : Ending → World → Prop} (h : slices_Contains_int_int.w s__p s__n s__c v_ w fun v w' => R (.returned v) w') : Calls Try.prog 112 #[.slice s__p s__n s__c, .int .i64 v_] w R :=
  calls_of mixed Try.func112 slices_Contains_int_int.ok rfl (fun K => slices_Contains_int_int.eq s__p s__n s__c v_ w K) h

/-! ### fathom/fathomref06.Unit: function 113 (named slots 7) -/
def fathomref06_Unit.w (c__p : Option Addr) (c__n : Nat) (c__c : Nat) (truths__p : Option Addr) (truths__n : Nat) (truths__c : Nat) (w : World) (K : Value → World → Prop) : Prop :=
  ∃ I1 : Int → Int → World → Nat → Prop, (∃ k2, I1 0 0 w k2) ∧
  ∀ (open_4 : Int) (i_5 : Int) (w6 : World) (k2 : Nat) (_ : Fr), I1 open_4 i_5 w6 k2 →
  cnd (decide (i_5 < (c__n : Int)))
    (ixK c__p c__n i_5 1 fun a7 =>
      ∃ x8 : Int, w6.cell? a7 = some (.int .i64 x8) ∧ 
      Calls Try.prog 63 #[.slice truths__p truths__n truths__c, .int .i64 x8] w6 fun e w9 => ∃ r10 : Bool, e = .returned (.bool r10) ∧ 
      cnd r10
      (K (.int .i64 0) w9)
      (ixK c__p c__n i_5 1 fun a11 =>
        ∃ x12 : Int, w9.cell? a11 = some (.int .i64 x12) ∧ 
        Calls Try.prog 63 #[.slice truths__p truths__n truths__c, .int .i64 (IntKind.i64.wrap (0 - x12))] w9 fun e w13 => ∃ r14 : Bool, e = .returned (.bool r14) ∧ 
        cnd r14
        (∃ k3, k3 < k2 ∧ I1 open_4 (IntKind.i64.wrap (i_5 + (1 : Int))) w13 k3)
        (ixK c__p c__n i_5 1 fun a15 =>
        ∃ x16 : Int, w13.cell? a15 = some (.int .i64 x16) ∧ 
        cnd (x16 == open_4)
        (∃ k3, k3 < k2 ∧ I1 open_4 (IntKind.i64.wrap (i_5 + (1 : Int))) w13 k3)
        (cnd (open_4 != (0 : Int))
          (K (.int .i64 0) w13)
          (ixK c__p c__n i_5 1 fun a17 =>
            ∃ x18 : Int, w13.cell? a17 = some (.int .i64 x18) ∧ 
            ∃ k3, k3 < k2 ∧ I1 x18 (IntKind.i64.wrap (i_5 + (1 : Int))) w13 k3)))))
    (K (.int .i64 open_4) w6)
theorem fathomref06_Unit.eq (c__p : Option Addr) (c__n : Nat) (c__c : Nat) (truths__p : Option Addr) (truths__n : Nat) (truths__c : Nat) (w : World) (K : Value → World → Prop) : wpF Try.prog Try.f113 (.two .leaf (.two .leaf (.two (.two .leaf (.one (.loop [(5, 3), (6, 3)] .leaf))) .leaf))) [.slice c__p c__n c__c, .slice truths__p truths__n truths__c] w K = fathomref06_Unit.w c__p c__n c__c truths__p truths__n truths__c w K := by kernel_rfl
theorem fathomref06_Unit.ok : fnOk Try.prog Try.f113 2 = true := by kernel_rfl
theorem fathomref06_Unit.calls {c__p : Option Addr} {c__n : Nat} {c__c : Nat} {truths__p : Option Addr} {truths__n : Nat} {truths__c : Nat} {w : World} {R : Ending → World → Prop} (h : fathomref06_Unit.w c__p c__n c__c truths__p truths__n truths__c w fun v w' => R (.returned v) w') : Calls Try.prog 113 #[.slice c__p c__n c__c, .slice truths__p truths__n truths__c] w R :=
  calls_of mixed Try.func113 fathomref06_Unit.ok rfl (fun K => fathomref06_Unit.eq c__p c__n c__c truths__p truths__n truths__c w K) h

/-! ### fathom/fathomref01.Ahead: function 114 (named slots 5) -/
def fathomref01_Ahead.w (a_ : Int) (b_ : Int) (w : World) (K : Value → World → Prop) : Prop :=
  Calls Try.prog 56 #[.int .i64 a_] w fun e w1 => ∃ r2 : Int, e = .returned (.int .i64 r2) ∧ 
  Calls Try.prog 56 #[.int .i64 b_] w1 fun e w3 => ∃ r4 : Int, e = .returned (.int .i64 r4) ∧ 
  cnd (decide (r2 < r4))
  (K (.bool true) w3)
  (Calls Try.prog 56 #[.int .i64 a_] w3 fun e w5 => ∃ r6 : Int, e = .returned (.int .i64 r6) ∧ 
  Calls Try.prog 56 #[.int .i64 b_] w5 fun e w7 => ∃ r8 : Int, e = .returned (.int .i64 r8) ∧ 
  cnd (r6 == r8)
  (K (.bool (decide (a_ > b_))) w7)
  (K (.bool false) w7))
theorem fathomref01_Ahead.eq (a_ : Int) (b_ : Int) (w : World) (K : Value → World → Prop) : wpF Try.prog Try.f114 .leaf [.int .i64 a_, .int .i64 b_] w K = fathomref01_Ahead.w a_ b_ w K := by kernel_rfl
theorem fathomref01_Ahead.ok : fnOk Try.prog Try.f114 2 = true := by kernel_rfl
theorem fathomref01_Ahead.calls {a_ : Int} {b_ : Int} {w : World} {R : Ending → World → Prop} (h : fathomref01_Ahead.w a_ b_ w fun v w' => R (.returned v) w') : Calls Try.prog 114 #[.int .i64 a_, .int .i64 b_] w R :=
  calls_of mixed Try.func114 fathomref01_Ahead.ok rfl (fun K => fathomref01_Ahead.eq a_ b_ w K) h

/-! ### slices.pdqsortCmpFunc[int]: function 115 (named slots 119) cuts [(2, 117), (2, 92), (4, 79)] -/
def slices_pdqsortCmpFunc_int.w (data__p : Option Addr) (data__n : Nat) (data__c : Nat) (a_ : Int) (b_ : Int) (limit_ : Int) (cmp_f : FuncId) (cmp_v : Array Value) (w : World) (K : Value → World → Prop) : Prop :=
  ∃ I1 : Int → Int → Int → Bool → Bool → World → Nat → Prop, (∃ k2, I1 a_ b_ limit_ true true w k2) ∧
  ∀ (a_4 : Int) (b_5 : Int) (limit_6 : Int) (wasBalanced_7 : Bool) (wasPartitioned_8 : Bool) (w9 : World) (k2 : Nat) (_ : Fr), I1 a_4 b_5 limit_6 wasBalanced_7 wasPartitioned_8 w9 k2 →
  cnd (decide ((IntKind.i64.wrap (b_5 - a_4)) ≤ (12 : Int)))
    (Calls Try.prog 121 #[.slice data__p data__n data__c, .int .i64 a_4, .int .i64 b_5, .func (.func cmp_f) #[] cmp_v] w9 fun e w10 => e = .returned (.tuple #[]) ∧ 
      K (.tuple #[]) w10)
    (cnd (limit_6 == (0 : Int))
      (Calls Try.prog 122 #[.slice data__p data__n data__c, .int .i64 a_4, .int .i64 b_5, .func (.func cmp_f) #[] cmp_v] w9 fun e w11 => e = .returned (.tuple #[]) ∧ 
        K (.tuple #[]) w11)
      (∃ J12 : Int → World → Prop, (cnd (!wasBalanced_7)
        (Calls Try.prog 123 #[.slice data__p data__n data__c, .int .i64 a_4, .int .i64 b_5, .func (.func cmp_f) #[] cmp_v] w9 fun e w13 => e = .returned (.tuple #[]) ∧ 
          J12 (IntKind.i64.wrap (limit_6 - (1 : Int))) w13)
        (J12 limit_6 w9)) ∧
        ∀ (limit_14 : Int) (w15 : World) (_ : Fr), J12 limit_14 w15 → 
        Calls Try.prog 124 #[.slice data__p data__n data__c, .int .i64 a_4, .int .i64 b_5, .func (.func cmp_f) #[] cmp_v] w15 fun e w16 => ∃ r17 : Int, ∃ r18 : Int, e = .returned (.tuple #[.int .i64 r17, .int .i64 r18]) ∧ 
        ∃ J19 : Int → Int → World → Prop, (cnd (r18 == (2 : Int))
        (Calls Try.prog 125 #[.slice data__p data__n data__c, .int .i64 a_4, .int .i64 b_5, .func (.func cmp_f) #[] cmp_v] w16 fun e w20 => e = .returned (.tuple #[]) ∧ 
          J19 (IntKind.i64.wrap ((IntKind.i64.wrap (b_5 - (1 : Int))) - (IntKind.i64.wrap (r17 - a_4)))) 1 w20)
        (J19 r17 r18 w16)) ∧
        ∀ (pivot_21 : Int) (hint_22 : Int) (w23 : World) (_ : Fr), J19 pivot_21 hint_22 w23 → 
        ∃ J24 : World → Prop, (cnd wasBalanced_7
        (cnd wasPartitioned_8
        (cnd (hint_22 == (1 : Int))
        (Calls Try.prog 126 #[.slice data__p data__n data__c, .int .i64 a_4, .int .i64 b_5, .func (.func cmp_f) #[] cmp_v] w23 fun e w25 => ∃ r26 : Bool, e = .returned (.bool r26) ∧ 
          cnd r26
          (K (.tuple #[]) w25)
          (J24 w25))
        (J24 w23))
        (J24 w23))
        (J24 w23)) ∧
        ∀ (w27 : World) (_ : Fr), J24 w27 → 
        cnd (decide (a_4 > (0 : Int)))
        (ixK data__p data__n (IntKind.i64.wrap (a_4 - (1 : Int))) 1 fun a28 =>
        ∃ x29 : Int, w27.drew.cell? a28 = some (.int .i64 x29) ∧ 
        ixK data__p data__n pivot_21 1 fun a30 =>
        ∃ x31 : Int, w27.drew.cell? a30 = some (.int .i64 x31) ∧ 
        cnd (entB Try.prog cmp_f) (Calls Try.prog cmp_f (#[] ++ #[.int .i64 x29, .int .i64 x31] ++ cmp_v) w27.drew fun e w32 => ∃ r33 : Int, e = .returned (.int .i64 r33) ∧ 
        cnd (!(decide (r33 < (0 : Int))))
        (Calls Try.prog 127 #[.slice data__p data__n data__c, .int .i64 a_4, .int .i64 b_5, .int .i64 pivot_21, .func (.func cmp_f) #[] cmp_v] w32 fun e w34 => ∃ r35 : Int, e = .returned (.int .i64 r35) ∧ 
          ∃ k3, k3 < k2 ∧ I1 r35 b_5 limit_14 wasBalanced_7 wasPartitioned_8 w34 k3)
        (Calls Try.prog 128 #[.slice data__p data__n data__c, .int .i64 a_4, .int .i64 b_5, .int .i64 pivot_21, .func (.func cmp_f) #[] cmp_v] w32 fun e w36 => ∃ r37 : Int, ∃ r38 : Bool, e = .returned (.tuple #[.int .i64 r37, .bool r38]) ∧ 
          (8 : Int) ≠ 0 ∧ cnd (decide ((IntKind.i64.wrap (r37 - a_4)) < (IntKind.i64.wrap (b_5 - r37))))
          (Calls Try.prog 115 #[.slice data__p data__n data__c, .int .i64 a_4, .int .i64 r37, .int .i64 limit_14, .func (.func cmp_f) #[] cmp_v] w36 fun e w39 => e = .returned (.tuple #[]) ∧ 
            ∃ k3, k3 < k2 ∧ I1 (IntKind.i64.wrap (r37 + (1 : Int))) b_5 limit_14 (decide ((IntKind.i64.wrap (r37 - a_4)) ≥ (IntKind.i64.wrap ((IntKind.i64.wrap (b_5 - a_4)).tdiv (8 : Int))))) r38 w39 k3)
          (Calls Try.prog 115 #[.slice data__p data__n data__c, .int .i64 (IntKind.i64.wrap (r37 + (1 : Int))), .int .i64 b_5, .int .i64 limit_14, .func (.func cmp_f) #[] cmp_v] w36 fun e w40 => e = .returned (.tuple #[]) ∧ 
            ∃ k3, k3 < k2 ∧ I1 a_4 r37 limit_14 (decide ((IntKind.i64.wrap (b_5 - r37)) ≥ (IntKind.i64.wrap ((IntKind.i64.wrap (b_5 - a_4)).tdiv (8 : Int))))) r38 w40 k3))) False)
        (Calls Try.prog 128 #[.slice data__p data__n data__c, .int .i64 a_4, .int .i64 b_5, .int .i64 pivot_21, .func (.func cmp_f) #[] cmp_v] w27.drew fun e w41 => ∃ r42 : Int, ∃ r43 : Bool, e = .returned (.tuple #[.int .i64 r42, .bool r43]) ∧ 
        (8 : Int) ≠ 0 ∧ cnd (decide ((IntKind.i64.wrap (r42 - a_4)) < (IntKind.i64.wrap (b_5 - r42))))
        (Calls Try.prog 115 #[.slice data__p data__n data__c, .int .i64 a_4, .int .i64 r42, .int .i64 limit_14, .func (.func cmp_f) #[] cmp_v] w41 fun e w44 => e = .returned (.tuple #[]) ∧ 
          ∃ k3, k3 < k2 ∧ I1 (IntKind.i64.wrap (r42 + (1 : Int))) b_5 limit_14 (decide ((IntKind.i64.wrap (r42 - a_4)) ≥ (IntKind.i64.wrap ((IntKind.i64.wrap (b_5 - a_4)).tdiv (8 : Int))))) r43 w44 k3)
        (Calls Try.prog 115 #[.slice data__p data__n data__c, .int .i64 (IntKind.i64.wrap (r42 + (1 : Int))), .int .i64 b_5, .int .i64 limit_14, .func (.func cmp_f) #[] cmp_v] w41 fun e w45 => e = .returned (.tuple #[]) ∧ 
          ∃ k3, k3 < k2 ∧ I1 a_4 r42 limit_14 (decide ((IntKind.i64.wrap (b_5 - r42)) ≥ (IntKind.i64.wrap ((IntKind.i64.wrap (b_5 - a_4)).tdiv (8 : Int))))) r43 w45 k3))))
theorem slices_pdqsortCmpFunc_int.eq (data__p : Option Addr) (data__n : Nat) (data__c : Nat) (a_ : Int) (b_ : Int) (limit_ : Int) (cmp_f : FuncId) (cmp_v : Array Value) (w : World) (K : Value → World → Prop) : wpF Try.prog Try.f115 (.two .leaf (.two .leaf (.one (.loop [(1, 3), (2, 3), (3, 3), (10, 4), (11, 4)] (.one (.two .leaf (.two .leaf (.two .leaf (.cut [(3, 3)] .leaf (.two .leaf (.cut [(13, 3), (14, 120)] .leaf (.cut [] .leaf .leaf)))))))))))) [.slice data__p data__n data__c, .int .i64 a_, .int .i64 b_, .int .i64 limit_, .func (.func cmp_f) #[] cmp_v] w K = slices_pdqsortCmpFunc_int.w data__p data__n data__c a_ b_ limit_ cmp_f cmp_v w K := by kernel_rfl
theorem slices_pdqsortCmpFunc_int.ok : fnOk Try.prog Try.f115 5 = true := by kernel_rfl
theorem slices_pdqsortCmpFunc_int.calls {data__p : Option Addr} {data__n : Nat} {data__c : Nat} {a_ : Int} {b_ : Int} {limit_ : Int} {cmp_f : FuncId} {cmp_v : Array Value} {w : World} {R : Ending → World → Prop} (h : slices_pdqsortCmpFunc_int.w data__p data__n data__c a_ b_ limit_ cmp_f cmp_v w fun v w' => R (.returned v) w') : Calls Try.prog 115 #[.slice data__p data__n data__c, .int .i64 a_, .int .i64 b_, .int .i64 limit_, .func (.func cmp_f) #[] cmp_v] w R :=
  calls_of mixed Try.func115 slices_pdqsortCmpFunc_int.ok rfl (fun K => slices_pdqsortCmpFunc_int.eq data__p data__n data__c a_ b_ limit_ cmp_f cmp_v w K) h

/-! ### math/bits.Len: function 116 (named slots 3) -/
def bits_Len.w (x0_ : Int) (w : World) (K : Value → World → Prop) : Prop :=
  Calls Try.prog 130 #[.int .u64 x0_] w fun e w1 => ∃ r2 : Int, e = .returned (.int .i64 r2) ∧ 
  K (.int .i64 r2) w1
theorem bits_Len.eq (x0_ : Int) (w : World) (K : Value → World → Prop) : wpF Try.prog Try.f116 .leaf [.int .u64 x0_] w K = bits_Len.w x0_ w K := by kernel_rfl
theorem bits_Len.ok : fnOk Try.prog Try.f116 1 = true := by kernel_rfl
theorem bits_Len.calls {x0_ : Int} {w : World} {R : Ending → World → Prop} (h : bits_Len.w x0_ w fun v w' => R (.returned v) w') : Calls Try.prog 116 #[.int .u64 x0_] w R :=
  calls_of mixed Try.func116 bits_Len.ok rfl (fun K => bits_Len.eq x0_ w K) h

/-! ### slices.IndexFunc[[]fathom/api.Step,fathom/api.Step]: function 117 (named slots 75) -/
def slices_IndexFunc_fathom_api_Step_fathom_api_Step.w (s__p : Option Addr) (s__n : Nat) (s__c : Nat) (f_f : FuncId) (f_v : Array Value) (w : World) (K : Value → World → Prop) : Prop :=
  ∃ I1 : Int → World → Nat → Prop, (∃ k2, I1 0 w k2) ∧
  ∀ (v4 : Int) (w5 : World) (k2 : Nat) (_ : Fr), I1 v4 w5 k2 →
  cnd (decide (v4 < (s__n : Int)))
    (ixK s__p s__n v4 2 fun a6 =>
      ∃ x7 : Bool, ∃ x8_p : Option Addr, ∃ x8_n : Nat, ∃ x8_c : Nat, CellsAt w5 a6 0 [.bool x7, .slice x8_p x8_n x8_c] ∧ 
      cnd (entB Try.prog f_f) (Calls Try.prog f_f (#[] ++ #[.agg #[.bool x7, .slice x8_p x8_n x8_c]] ++ f_v) w5 fun e w9 => ∃ r10 : Bool, e = .returned (.bool r10) ∧ 
      cnd r10
      (K (.int .i64 v4) w9)
      (∃ k3, k3 < k2 ∧ I1 (IntKind.i64.wrap (v4 + (1 : Int))) w9 k3)) False)
    (K (.int .i64 (-1)) w5)
theorem slices_IndexFunc_fathom_api_Step_fathom_api_Step.eq (s__p : Option Addr) (s__n : Nat) (s__c : Nat) (f_f : FuncId) (f_v : Array Value) (w : World) (K : Value → World → Prop) : wpF Try.prog Try.f117 (.two .leaf (.two (.two .leaf (.one (.loop [(8, 3)] .leaf))) .leaf)) [.slice s__p s__n s__c, .func (.func f_f) #[] f_v] w K = slices_IndexFunc_fathom_api_Step_fathom_api_Step.w s__p s__n s__c f_f f_v w K := by kernel_rfl
theorem slices_IndexFunc_fathom_api_Step_fathom_api_Step.ok : fnOk Try.prog Try.f117 2 = true := by kernel_rfl
theorem slices_IndexFunc_fathom_api_Step_fathom_api_Step.calls {s__p : Option Addr} {s__n : Nat} {s__c : Nat} {f_f : FuncId} {f_v : Array Value} {w : World} {R : Ending → World → Prop} (h : slices_IndexFunc_fathom_api_Step_fathom_api_Step.w s__p s__n s__c f_f f_v w fun v w' => R (.returned v) w') : Calls Try.prog 117 #[.slice s__p s__n s__c, .func (.func f_f) #[] f_v] w R :=
  calls_of mixed Try.func117 slices_IndexFunc_fathom_api_Step_fathom_api_Step.ok rfl (fun K => slices_IndexFunc_fathom_api_Step_fathom_api_Step.eq s__p s__n s__c f_f f_v w K) h

/-! ### slices.Equal[[]int,int]: function 118 (named slots 5) -/
def slices_Equal_int_int.w (s1__p : Option Addr) (s1__n : Nat) (s1__c : Nat) (s2__p : Option Addr) (s2__n : Nat) (s2__c : Nat) (w : World) (K : Value → World → Prop) : Prop :=
  cnd ((s1__n : Int) != (s2__n : Int))
  (K (.bool false) w)
  (∃ I1 : Int → World → Nat → Prop, (∃ k2, I1 0 w k2) ∧
    ∀ (v4 : Int) (w5 : World) (k2 : Nat) (_ : Fr), I1 v4 w5 k2 →
    cnd (decide (v4 < (s1__n : Int)))
      (ixK s1__p s1__n v4 1 fun a6 =>
        ∃ x7 : Int, w5.drew.cell? a6 = some (.int .i64 x7) ∧ 
        ixK s2__p s2__n v4 1 fun a8 =>
        ∃ x9 : Int, w5.drew.cell? a8 = some (.int .i64 x9) ∧ 
        cnd (x7 != x9)
        (K (.bool false) w5.drew)
        (∃ k3, k3 < k2 ∧ I1 (IntKind.i64.wrap (v4 + (1 : Int))) w5.drew k3))
      (K (.bool true) w5))
theorem slices_Equal_int_int.eq (s1__p : Option Addr) (s1__n : Nat) (s1__c : Nat) (s2__p : Option Addr) (s2__n : Nat) (s2__c : Nat) (w : World) (K : Value → World → Prop) : wpF Try.prog Try.f118 (.two .leaf (.two .leaf (.two (.two .leaf (.one (.loop [(13, 3)] .leaf))) .leaf))) [.slice s1__p s1__n s1__c, .slice s2__p s2__n s2__c] w K = slices_Equal_int_int.w s1__p s1__n s1__c s2__p s2__n s2__c w K := by kernel_rfl
theorem slices_Equal_int_int.ok : fnOk Try.prog Try.f118 2 = true := by kernel_rfl
theorem slices_Equal_int_int.calls {s1__p : Option Addr} {s1__n : Nat} {s1__c : Nat} {s2__p : Option Addr} {s2__n : Nat} {s2__c : Nat} {w : World} {R : Ending → World → Prop} (h : slices_Equal_int_int.w s1__p s1__n s1__c s2__p s2__n s2__c w fun v w' => R (.returned v) w') : Calls Try.prog 118 #[.slice s1__p s1__n s1__c, .slice s2__p s2__n s2__c] w R :=
  calls_of mixed Try.func118 slices_Equal_int_int.ok rfl (fun K => slices_Equal_int_int.eq s1__p s1__n s1__c s2__p s2__n s2__c w K) h

/-! ### slices.Delete[[]int,int]: function 119 (named slots 6) -/
def slices_Delete_int_int.w (s__p : Option Addr) (s__n : Nat) (s__c : Nat) (i_ : Int) (j_ : Int) (w : World) (K : Value → World → Prop) : Prop :=
  slK s__p s__n s__c 1 (some i_) (some j_) (some (s__n : Int)) fun s1_p s1_n s1_c =>
  cnd (i_ == j_)
  (K (.slice s__p s__n s__c) w)
  (slK s__p s__n s__c 1 none (some i_) none fun s2_p s2_n s2_c =>
    slK s__p s__n s__c 1 (some j_) none none fun s3_p s3_n s3_c =>
    ∃ w4 : World, ∃ r5_p : Option Addr, ∃ r5_n : Nat, ∃ r5_c : Nat, (Builtin.append_ #[31, 31] 31 #[.slice s2_p s2_n s2_c, .slice s3_p s3_n s3_c]).run Try.prog w.drew = .ok (.slice r5_p r5_n r5_c) w4 ∧ 
    slK r5_p r5_n r5_c 1 (some (r5_n : Int)) (some (s__n : Int)) none fun s6_p s6_n s6_c =>
    ∃ w7 : World, (Builtin.clear_ #[31] 0 #[.slice s6_p s6_n s6_c]).run Try.prog w4 = .ok (.tuple #[]) w7 ∧ 
    K (.slice r5_p r5_n r5_c) w7)
theorem slices_Delete_int_int.eq (s__p : Option Addr) (s__n : Nat) (s__c : Nat) (i_ : Int) (j_ : Int) (w : World) (K : Value → World → Prop) : wpF Try.prog Try.f119 .leaf [.slice s__p s__n s__c, .int .i64 i_, .int .i64 j_] w K = slices_Delete_int_int.w s__p s__n s__c i_ j_ w K := by kernel_rfl
theorem slices_Delete_int_int.ok : fnOk Try.prog Try.f119 3 = true := by kernel_rfl
theorem slices_Delete_int_int.calls {s__p : Option Addr} {s__n : Nat} {s__c : Nat} {i_ : Int} {j_ : Int} {w : World} {R : Ending → World → Prop} (h : slices_Delete_int_int.w s__p s__n s__c i_ j_ w fun v w' => R (.returned v) w') : Calls Try.prog 119 #[.slice s__p s__n s__c, .int .i64 i_, .int .i64 j_] w R :=
  calls_of mixed Try.func119 slices_Delete_int_int.ok rfl (fun K => slices_Delete_int_int.eq s__p s__n s__c i_ j_ w K) h

/-! ### slices.Index[[]int,int]: function 120 (named slots 5) -/
def slices_Index_int_int.w (s__p : Option Addr) (s__n : Nat) (s__c : Nat) (v_ : Int) (w : World) (K : Value → World → Prop) : Prop :=
  ∃ I1 : Int → World → Nat → Prop, (∃ k2, I1 0 w k2) ∧
  ∀ (v4 : Int) (w5 : World) (k2 : Nat) (_ : Fr), I1 v4 w5 k2 →
  cnd (decide (v4 < (s__n : Int)))
    (ixK s__p s__n v4 1 fun a6 =>
      ∃ x7 : Int, w5.cell? a6 = some (.int .i64 x7) ∧ 
      cnd (v_ == x7)
      (K (.int .i64 v4) w5)
      (∃ k3, k3 < k2 ∧ I1 (IntKind.i64.wrap (v4 + (1 : Int))) w5 k3))
    (K (.int .i64 (-1)) w5)
theorem slices_Index_int_int.eq (s__p : Option Addr) (s__n : Nat) (s__c : Nat) (v_ : Int) (w : World) (K : Value → World → Prop) : wpF Try.prog Try.f120 (.two .leaf (.two (.two .leaf (.one (.loop [(8, 3)] .leaf))) .leaf)) [.slice s__p s__n s__c, .int .i64 v_] w K = slices_Index_int_int.w s__p s__n s__c v_ w K := by kernel_rfl
theorem slices_Index_int_int.ok : fnOk Try.prog Try.f120 2 = true := by kernel_rfl
theorem slices_Index_int_int.calls {s__p : Option Addr} {s__n : Nat} {s__c : Nat} {v_ : Int} {w : World} {R : Ending → World → Prop} (h : slices_Index_int_int.w s__p s__n s__c v_ w fun v w' => R (.returned v) w') : Calls Try.prog 120 #[.slice s__p s__n s__c, .int .i64 v_] w R :=
  calls_of mixed Try.func120 slices_Index_int_int.ok rfl (fun K => slices_Index_int_int.eq s__p s__n s__c v_ w K) h

/-! ### slices.insertionSortCmpFunc[int]: function 121 (named slots 123) -/
def slices_insertionSortCmpFunc_int.w (data__p : Option Addr) (data__n : Nat) (data__c : Nat) (a_ : Int) (b_ : Int) (cmp_f : FuncId) (cmp_v : Array Value) (w : World) (K : Value → World → Prop) : Prop :=
  ∃ I1 : Int → World → Nat → Prop, (∃ k2, I1 (IntKind.i64.wrap (a_ + (1 : Int))) w k2) ∧
  ∀ (i_4 : Int) (w5 : World) (k2 : Nat) (_ : Fr), I1 i_4 w5 k2 →
  cnd (decide (i_4 < b_))
    (∃ I6 : Int → World → Nat → Prop, (∃ k7, I6 i_4 w5 k7) ∧
      ∀ (j_9 : Int) (w10 : World) (k7 : Nat) (_ : Fr), I6 j_9 w10 k7 →
      cnd (decide (j_9 > a_))
        (ixK data__p data__n j_9 1 fun a11 =>
        ∃ x12 : Int, w10.drew.cell? a11 = some (.int .i64 x12) ∧ 
        ixK data__p data__n (IntKind.i64.wrap (j_9 - (1 : Int))) 1 fun a13 =>
        ∃ x14 : Int, w10.drew.cell? a13 = some (.int .i64 x14) ∧ 
        cnd (entB Try.prog cmp_f) (Calls Try.prog cmp_f (#[] ++ #[.int .i64 x12, .int .i64 x14] ++ cmp_v) w10.drew fun e w15 => ∃ r16 : Int, e = .returned (.int .i64 r16) ∧ 
        cnd (decide (r16 < (0 : Int)))
        (ixK data__p data__n (IntKind.i64.wrap (j_9 - (1 : Int))) 1 fun a17 =>
          ∃ x18 : Int, w15.drew.cell? a17 = some (.int .i64 x18) ∧ 
          ixK data__p data__n j_9 1 fun a19 =>
          ∃ x20 : Int, w15.drew.cell? a19 = some (.int .i64 x20) ∧ 
          ixK data__p data__n j_9 1 fun a21 =>
          ∃ w22 : World, StoreAt a21 0 [.int .i64 x18] w15.drew w22 ∧ 
          ixK data__p data__n (IntKind.i64.wrap (j_9 - (1 : Int))) 1 fun a23 =>
          ∃ w24 : World, StoreAt a23 0 [.int .i64 x20] w22 w24 ∧ 
          ∃ k8, k8 < k7 ∧ I6 (IntKind.i64.wrap (j_9 - (1 : Int))) w24 k8)
        (∃ k3, k3 < k2 ∧ I1 (IntKind.i64.wrap (i_4 + (1 : Int))) w15 k3)) False)
        (∃ k3, k3 < k2 ∧ I1 (IntKind.i64.wrap (i_4 + (1 : Int))) w10.drew k3))
    (K (.tuple #[]) w5)
theorem slices_insertionSortCmpFunc_int.eq (data__p : Option Addr) (data__n : Nat) (data__c : Nat) (a_ : Int) (b_ : Int) (cmp_f : FuncId) (cmp_v : Array Value) (w : World) (K : Value → World → Prop) : wpF Try.prog Try.f121 (.two .leaf (.one (.loop [(8, 3)] (.two .leaf (.two (.one (.two .leaf (.one (.loop [(9, 3)] .leaf)))) .leaf))))) [.slice data__p data__n data__c, .int .i64 a_, .int .i64 b_, .func (.func cmp_f) #[] cmp_v] w K = slices_insertionSortCmpFunc_int.w data__p data__n data__c a_ b_ cmp_f cmp_v w K := by kernel_rfl
theorem slices_insertionSortCmpFunc_int.ok : fnOk Try.prog Try.f121 4 = true := by kernel_rfl
theorem slices_insertionSortCmpFunc_int.calls {data__p : Option Addr} {data__n : Nat} {data__c : Nat} {a_ : Int} {b_ : Int} {cmp_f : FuncId} {cmp_v : Array Value} {w : World} {R : Ending → World → Prop} (h : slices_insertionSortCmpFunc_int.w data__p data__n data__c a_ b_ cmp_f cmp_v w fun v w' => R (.returned v) w') : Calls Try.prog 121 #[.slice data__p data__n data__c, .int .i64 a_, .int .i64 b_, .func (.func cmp_f) #[] cmp_v] w R :=
  calls_of mixed Try.func121 slices_insertionSortCmpFunc_int.ok rfl (fun K => slices_insertionSortCmpFunc_int.eq data__p data__n data__c a_ b_ cmp_f cmp_v w K) h

/-! ### slices.heapSortCmpFunc[int]: function 122 (named slots 123) -/
def slices_heapSortCmpFunc_int.w (data__p : Option Addr) (data__n : Nat) (data__c : Nat) (a_ : Int) (b_ : Int) (cmp_f : FuncId) (cmp_v : Array Value) (w : World) (K : Value → World → Prop) : Prop :=
  (2 : Int) ≠ 0 ∧ ∃ I1 : Int → World → Nat → Prop, (∃ k2, I1 (IntKind.i64.wrap ((IntKind.i64.wrap ((IntKind.i64.wrap (b_ - a_)) - (1 : Int))).tdiv (2 : Int))) w k2) ∧
  ∀ (i_4 : Int) (w5 : World) (k2 : Nat) (_ : Fr), I1 i_4 w5 k2 →
  cnd (decide (i_4 ≥ (0 : Int)))
    (Calls Try.prog 131 #[.slice data__p data__n data__c, .int .i64 i_4, .int .i64 (IntKind.i64.wrap (b_ - a_)), .int .i64 a_, .func (.func cmp_f) #[] cmp_v] w5 fun e w6 => e = .returned (.tuple #[]) ∧ 
      ∃ k3, k3 < k2 ∧ I1 (IntKind.i64.wrap (i_4 - (1 : Int))) w6 k3)
    (∃ I7 : Int → World → Nat → Prop, (∃ k8, I7 (IntKind.i64.wrap ((IntKind.i64.wrap (b_ - a_)) - (1 : Int))) w5 k8) ∧
      ∀ (i_10 : Int) (w11 : World) (k8 : Nat) (_ : Fr), I7 i_10 w11 k8 →
      cnd (decide (i_10 ≥ (0 : Int)))
        (ixK data__p data__n (IntKind.i64.wrap (a_ + i_10)) 1 fun a12 =>
          ∃ x13 : Int, w11.drew.cell? a12 = some (.int .i64 x13) ∧ 
          ixK data__p data__n a_ 1 fun a14 =>
          ∃ x15 : Int, w11.drew.cell? a14 = some (.int .i64 x15) ∧ 
          ixK data__p data__n a_ 1 fun a16 =>
          ∃ w17 : World, StoreAt a16 0 [.int .i64 x13] w11.drew w17 ∧ 
          ixK data__p data__n (IntKind.i64.wrap (a_ + i_10)) 1 fun a18 =>
          ∃ w19 : World, StoreAt a18 0 [.int .i64 x15] w17 w19 ∧ 
          Calls Try.prog 131 #[.slice data__p data__n data__c, .int .i64 0, .int .i64 i_10, .int .i64 a_, .func (.func cmp_f) #[] cmp_v] w19 fun e w20 => e = .returned (.tuple #[]) ∧ 
          ∃ k9, k9 < k8 ∧ I7 (IntKind.i64.wrap (i_10 - (1 : Int))) w20 k9)
        (K (.tuple #[]) w11))
theorem slices_heapSortCmpFunc_int.eq (data__p : Option Addr) (data__n : Nat) (data__c : Nat) (a_ : Int) (b_ : Int) (cmp_f : FuncId) (cmp_v : Array Value) (w : World) (K : Value → World → Prop) : wpF Try.prog Try.f122 (.two .leaf (.two .leaf (.two .leaf (.two (.two .leaf (.one (.loop [(11, 3)] .leaf))) (.two .leaf (.one (.loop [(12, 3)] .leaf))))))) [.slice data__p data__n data__c, .int .i64 a_, .int .i64 b_, .func (.func cmp_f) #[] cmp_v] w K = slices_heapSortCmpFunc_int.w data__p data__n data__c a_ b_ cmp_f cmp_v w K := by kernel_rfl
theorem slices_heapSortCmpFunc_int.ok : fnOk Try.prog Try.f122 4 = true := by kernel_rfl
theorem slices_heapSortCmpFunc_int.calls {data__p : Option Addr} {data__n : Nat} {data__c : Nat} {a_ : Int} {b_ : Int} {cmp_f : FuncId} {cmp_v : Array Value} {w : World} {R : Ending → World → Prop} (h : slices_heapSortCmpFunc_int.w data__p data__n data__c a_ b_ cmp_f cmp_v w fun v w' => R (.returned v) w') : Calls Try.prog 122 #[.slice data__p data__n data__c, .int .i64 a_, .int .i64 b_, .func (.func cmp_f) #[] cmp_v] w R :=
  calls_of mixed Try.func122 slices_heapSortCmpFunc_int.ok rfl (fun K => slices_heapSortCmpFunc_int.eq data__p data__n data__c a_ b_ cmp_f cmp_v w K) h

/-! ### slices.breakPatternsCmpFunc[int]: function 123 (named slots 123) -/
def slices_breakPatternsCmpFunc_int.w (data__p : Option Addr) (data__n : Nat) (data__c : Nat) (a_ : Int) (b_ : Int) (cmp_f : FuncId) (cmp_v : Array Value) (w : World) (K : Value → World → Prop) : Prop :=
  cnd (decide ((IntKind.i64.wrap (b_ - a_)) ≥ (8 : Int)))
  (∀ (n1 : Nat) (w2 : World), New (.cells #[.int .u64 0] 131) w n1 w2 → 
    ∃ w3 : World, StoreAt (Addr.mk n1 0 none) 0 [.int .u64 (IntKind.u64.wrap (IntKind.i64.wrap (b_ - a_)))] w2 w3 ∧ 
    Calls Try.prog 132 #[.int .i64 (IntKind.i64.wrap (b_ - a_))] w3 fun e w4 => ∃ r5 : Int, e = .returned (.int .u64 r5) ∧ 
    (4 : Int) ≠ 0 ∧ ∃ I6 : Int → World → Nat → Prop, (∃ k7, I6 (IntKind.i64.wrap ((IntKind.i64.wrap (a_ + (IntKind.i64.wrap ((IntKind.i64.wrap ((IntKind.i64.wrap (b_ - a_)).tdiv (4 : Int))) * (2 : Int))))) - (1 : Int))) w4 k7) ∧
    ∀ (idx_9 : Int) (w10 : World) (k7 : Nat) (_ : Fr), I6 idx_9 w10 k7 →
    (4 : Int) ≠ 0 ∧ cnd (decide (idx_9 ≤ (IntKind.i64.wrap ((IntKind.i64.wrap (a_ + (IntKind.i64.wrap ((IntKind.i64.wrap ((IntKind.i64.wrap (b_ - a_)).tdiv (4 : Int))) * (2 : Int))))) + (1 : Int)))))
      (Calls Try.prog 133 #[.pointer (some (Addr.mk n1 0 none))] w10 fun e w11 => ∃ r12 : Int, e = .returned (.int .u64 r12) ∧ 
        cnd (decide ((IntKind.i64.wrap (IntKind.u64.wrap ((BitVec.ofInt (IntKind.bits .u64) r12 &&& BitVec.ofInt (IntKind.bits .u64) (IntKind.u64.wrap (r5 - (1 : Int)))).toNat))) ≥ (IntKind.i64.wrap (b_ - a_))))
        (ixK data__p data__n (IntKind.i64.wrap (a_ + (IntKind.i64.wrap ((IntKind.i64.wrap (IntKind.u64.wrap ((BitVec.ofInt (IntKind.bits .u64) r12 &&& BitVec.ofInt (IntKind.bits .u64) (IntKind.u64.wrap (r5 - (1 : Int)))).toNat))) - (IntKind.i64.wrap (b_ - a_)))))) 1 fun a13 =>
          ∃ x14 : Int, w11.drew.cell? a13 = some (.int .i64 x14) ∧ 
          ixK data__p data__n idx_9 1 fun a15 =>
          ∃ x16 : Int, w11.drew.cell? a15 = some (.int .i64 x16) ∧ 
          ixK data__p data__n idx_9 1 fun a17 =>
          ∃ w18 : World, StoreAt a17 0 [.int .i64 x14] w11.drew w18 ∧ 
          ixK data__p data__n (IntKind.i64.wrap (a_ + (IntKind.i64.wrap ((IntKind.i64.wrap (IntKind.u64.wrap ((BitVec.ofInt (IntKind.bits .u64) r12 &&& BitVec.ofInt (IntKind.bits .u64) (IntKind.u64.wrap (r5 - (1 : Int)))).toNat))) - (IntKind.i64.wrap (b_ - a_)))))) 1 fun a19 =>
          ∃ w20 : World, StoreAt a19 0 [.int .i64 x16] w18 w20 ∧ 
          ∃ k8, k8 < k7 ∧ I6 (IntKind.i64.wrap (idx_9 + (1 : Int))) w20 k8)
        (ixK data__p data__n (IntKind.i64.wrap (a_ + (IntKind.i64.wrap (IntKind.u64.wrap ((BitVec.ofInt (IntKind.bits .u64) r12 &&& BitVec.ofInt (IntKind.bits .u64) (IntKind.u64.wrap (r5 - (1 : Int)))).toNat))))) 1 fun a21 =>
          ∃ x22 : Int, w11.drew.cell? a21 = some (.int .i64 x22) ∧ 
          ixK data__p data__n idx_9 1 fun a23 =>
          ∃ x24 : Int, w11.drew.cell? a23 = some (.int .i64 x24) ∧ 
          ixK data__p data__n idx_9 1 fun a25 =>
          ∃ w26 : World, StoreAt a25 0 [.int .i64 x22] w11.drew w26 ∧ 
          ixK data__p data__n (IntKind.i64.wrap (a_ + (IntKind.i64.wrap (IntKind.u64.wrap ((BitVec.ofInt (IntKind.bits .u64) r12 &&& BitVec.ofInt (IntKind.bits .u64) (IntKind.u64.wrap (r5 - (1 : Int)))).toNat))))) 1 fun a27 =>
          ∃ w28 : World, StoreAt a27 0 [.int .i64 x24] w26 w28 ∧ 
          ∃ k8, k8 < k7 ∧ I6 (IntKind.i64.wrap (idx_9 + (1 : Int))) w28 k8))
      (K (.tuple #[]) w10))
  (K (.tuple #[]) w)
theorem slices_breakPatternsCmpFunc_int.eq (data__p : Option Addr) (data__n : Nat) (data__c : Nat) (a_ : Int) (b_ : Int) (cmp_f : FuncId) (cmp_v : Array Value) (w : World) (K : Value → World → Prop) : wpF Try.prog Try.f123 (.two .leaf (.two .leaf (.two (.two .leaf (.two .leaf (.two .leaf (.one (.loop [(11, 3)] .leaf))))) .leaf))) [.slice data__p data__n data__c, .int .i64 a_, .int .i64 b_, .func (.func cmp_f) #[] cmp_v] w K = slices_breakPatternsCmpFunc_int.w data__p data__n data__c a_ b_ cmp_f cmp_v w K := by kernel_rfl
theorem slices_breakPatternsCmpFunc_int.ok : fnOk Try.prog Try.f123 4 = true := by kernel_rfl
theorem slices_breakPatternsCmpFunc_int.calls {data__p : Option Addr} {data__n : Nat} {data__c : Nat} {a_ : Int} {b_ : Int} {cmp_f : FuncId} {cmp_v : Array Value} {w : World} {R : Ending → World → Prop} (h : slices_breakPatternsCmpFunc_int.w data__p data__n data__c a_ b_ cmp_f cmp_v w fun v w' => R (.returned v) w') : Calls Try.prog 123 #[.slice data__p data__n data__c, .int .i64 a_, .int .i64 b_, .func (.func cmp_f) #[] cmp_v] w R :=
  calls_of mixed Try.func123 slices_breakPatternsCmpFunc_int.ok rfl (fun K => slices_breakPatternsCmpFunc_int.eq data__p data__n data__c a_ b_ cmp_f cmp_v w K) h

/-! ### slices.choosePivotCmpFunc[int]: function 124 (named slots 126) -/
def slices_choosePivotCmpFunc_int.w (data__p : Option Addr) (data__n : Nat) (data__c : Nat) (a_ : Int) (b_ : Int) (cmp_f : FuncId) (cmp_v : Array Value) (w : World) (K : Value → World → Prop) : Prop :=
  ∀ (n1 : Nat) (w2 : World), New (.cells #[.int .i64 0] 3) w n1 w2 → 
  (4 : Int) ≠ 0 ∧ (4 : Int) ≠ 0 ∧ (4 : Int) ≠ 0 ∧ cnd (decide ((IntKind.i64.wrap (b_ - a_)) ≥ (8 : Int)))
  (cnd (decide ((IntKind.i64.wrap (b_ - a_)) ≥ (50 : Int)))
    (Calls Try.prog 134 #[.slice data__p data__n data__c, .int .i64 (IntKind.i64.wrap (a_ + (IntKind.i64.wrap ((IntKind.i64.wrap ((IntKind.i64.wrap (b_ - a_)).tdiv (4 : Int))) * (1 : Int))))), .pointer (some (Addr.mk n1 0 none)), .func (.func cmp_f) #[] cmp_v] w2 fun e w3 => ∃ r4 : Int, e = .returned (.int .i64 r4) ∧ 
      Calls Try.prog 134 #[.slice data__p data__n data__c, .int .i64 (IntKind.i64.wrap (a_ + (IntKind.i64.wrap ((IntKind.i64.wrap ((IntKind.i64.wrap (b_ - a_)).tdiv (4 : Int))) * (2 : Int))))), .pointer (some (Addr.mk n1 0 none)), .func (.func cmp_f) #[] cmp_v] w3 fun e w5 => ∃ r6 : Int, e = .returned (.int .i64 r6) ∧ 
      Calls Try.prog 134 #[.slice data__p data__n data__c, .int .i64 (IntKind.i64.wrap (a_ + (IntKind.i64.wrap ((IntKind.i64.wrap ((IntKind.i64.wrap (b_ - a_)).tdiv (4 : Int))) * (3 : Int))))), .pointer (some (Addr.mk n1 0 none)), .func (.func cmp_f) #[] cmp_v] w5 fun e w7 => ∃ r8 : Int, e = .returned (.int .i64 r8) ∧ 
      Calls Try.prog 135 #[.slice data__p data__n data__c, .int .i64 r4, .int .i64 r6, .int .i64 r8, .pointer (some (Addr.mk n1 0 none)), .func (.func cmp_f) #[] cmp_v] w7 fun e w9 => ∃ r10 : Int, e = .returned (.int .i64 r10) ∧ 
      ∃ x11 : Int, w9.cell? (Addr.mk n1 0 none) = some (.int .i64 x11) ∧ 
      cnd (x11 == (0 : Int))
      (K (.tuple #[.int .i64 r10, .int .i64 1]) w9)
      (cnd (x11 == (12 : Int))
        (K (.tuple #[.int .i64 r10, .int .i64 2]) w9)
        (K (.tuple #[.int .i64 r10, .int .i64 0]) w9)))
    (Calls Try.prog 135 #[.slice data__p data__n data__c, .int .i64 (IntKind.i64.wrap (a_ + (IntKind.i64.wrap ((IntKind.i64.wrap ((IntKind.i64.wrap (b_ - a_)).tdiv (4 : Int))) * (1 : Int))))), .int .i64 (IntKind.i64.wrap (a_ + (IntKind.i64.wrap ((IntKind.i64.wrap ((IntKind.i64.wrap (b_ - a_)).tdiv (4 : Int))) * (2 : Int))))), .int .i64 (IntKind.i64.wrap (a_ + (IntKind.i64.wrap ((IntKind.i64.wrap ((IntKind.i64.wrap (b_ - a_)).tdiv (4 : Int))) * (3 : Int))))), .pointer (some (Addr.mk n1 0 none)), .func (.func cmp_f) #[] cmp_v] w2 fun e w12 => ∃ r13 : Int, e = .returned (.int .i64 r13) ∧ 
      ∃ x14 : Int, w12.cell? (Addr.mk n1 0 none) = some (.int .i64 x14) ∧ 
      cnd (x14 == (0 : Int))
      (K (.tuple #[.int .i64 r13, .int .i64 1]) w12)
      (cnd (x14 == (12 : Int))
        (K (.tuple #[.int .i64 r13, .int .i64 2]) w12)
        (K (.tuple #[.int .i64 r13, .int .i64 0]) w12))))
  (∃ x15 : Int, w2.cell? (Addr.mk n1 0 none) = some (.int .i64 x15) ∧ 
    cnd (x15 == (0 : Int))
    (K (.tuple #[.int .i64 (IntKind.i64.wrap (a_ + (IntKind.i64.wrap ((IntKind.i64.wrap ((IntKind.i64.wrap (b_ - a_)).tdiv (4 : Int))) * (2 : Int))))), .int .i64 1]) w2)
    (cnd (x15 == (12 : Int))
      (K (.tuple #[.int .i64 (IntKind.i64.wrap (a_ + (IntKind.i64.wrap ((IntKind.i64.wrap ((IntKind.i64.wrap (b_ - a_)).tdiv (4 : Int))) * (2 : Int))))), .int .i64 2]) w2)
      (K (.tuple #[.int .i64 (IntKind.i64.wrap (a_ + (IntKind.i64.wrap ((IntKind.i64.wrap ((IntKind.i64.wrap (b_ - a_)).tdiv (4 : Int))) * (2 : Int))))), .int .i64 0]) w2)))
theorem slices_choosePivotCmpFunc_int.eq (data__p : Option Addr) (data__n : Nat) (data__c : Nat) (a_ : Int) (b_ : Int) (cmp_f : FuncId) (cmp_v : Array Value) (w : World) (K : Value → World → Prop) : wpF Try.prog Try.f124 .leaf [.slice data__p data__n data__c, .int .i64 a_, .int .i64 b_, .func (.func cmp_f) #[] cmp_v] w K = slices_choosePivotCmpFunc_int.w data__p data__n data__c a_ b_ cmp_f cmp_v w K := by kernel_rfl
theorem slices_choosePivotCmpFunc_int.ok : fnOk Try.prog Try.f124 4 = true := by kernel_rfl
theorem slices_choosePivotCmpFunc_int.calls {data__p : Option Addr} {data__n : Nat} {data__c : Nat} {a_ : Int} {b_ : Int} {cmp_f : FuncId} {cmp_v : Array Value} {w : World} {R : Ending → World → Prop} (h : slices_choosePivotCmpFunc_int.w data__p data__n data__c a_ b_ cmp_f cmp_v w fun v w' => R (.returned v) w') : Calls Try.prog 124 #[.slice data__p data__n data__c, .int .i64 a_, .int .i64 b_, .func (.func cmp_f) #[] cmp_v] w R :=
  calls_of mixed Try.func124 slices_choosePivotCmpFunc_int.ok rfl (fun K => slices_choosePivotCmpFunc_int.eq data__p data__n data__c a_ b_ cmp_f cmp_v w K) h

/-! ### slices.reverseRangeCmpFunc[int]: function 125 (named slots 123) -/
def slices_reverseRangeCmpFunc_int.w (data__p : Option Addr) (data__n : Nat) (data__c : Nat) (a_ : Int) (b_ : Int) (cmp_f : FuncId) (cmp_v : Array Value) (w : World) (K : Value → World → Prop) : Prop :=
  ∃ I1 : Int → Int → World → Nat → Prop, (∃ k2, I1 a_ (IntKind.i64.wrap (b_ - (1 : Int))) w k2) ∧
  ∀ (i_4 : Int) (j_5 : Int) (w6 : World) (k2 : Nat) (_ : Fr), I1 i_4 j_5 w6 k2 →
  cnd (decide (i_4 < j_5))
    (ixK data__p data__n j_5 1 fun a7 =>
      ∃ x8 : Int, w6.drew.cell? a7 = some (.int .i64 x8) ∧ 
      ixK data__p data__n i_4 1 fun a9 =>
      ∃ x10 : Int, w6.drew.cell? a9 = some (.int .i64 x10) ∧ 
      ixK data__p data__n i_4 1 fun a11 =>
      ∃ w12 : World, StoreAt a11 0 [.int .i64 x8] w6.drew w12 ∧ 
      ixK data__p data__n j_5 1 fun a13 =>
      ∃ w14 : World, StoreAt a13 0 [.int .i64 x10] w12 w14 ∧ 
      ∃ k3, k3 < k2 ∧ I1 (IntKind.i64.wrap (i_4 + (1 : Int))) (IntKind.i64.wrap (j_5 - (1 : Int))) w14 k3)
    (K (.tuple #[]) w6)
theorem slices_reverseRangeCmpFunc_int.eq (data__p : Option Addr) (data__n : Nat) (data__c : Nat) (a_ : Int) (b_ : Int) (cmp_f : FuncId) (cmp_v : Array Value) (w : World) (K : Value → World → Prop) : wpF Try.prog Try.f125 (.two .leaf (.two .leaf (.one (.loop [(8, 3), (9, 3)] .leaf)))) [.slice data__p data__n data__c, .int .i64 a_, .int .i64 b_, .func (.func cmp_f) #[] cmp_v] w K = slices_reverseRangeCmpFunc_int.w data__p data__n data__c a_ b_ cmp_f cmp_v w K := by kernel_rfl
theorem slices_reverseRangeCmpFunc_int.ok : fnOk Try.prog Try.f125 4 = true := by kernel_rfl
theorem slices_reverseRangeCmpFunc_int.calls {data__p : Option Addr} {data__n : Nat} {data__c : Nat} {a_ : Int} {b_ : Int} {cmp_f : FuncId} {cmp_v : Array Value} {w : World} {R : Ending → World → Prop} (h : slices_reverseRangeCmpFunc_int.w data__p data__n data__c a_ b_ cmp_f cmp_v w fun v w' => R (.returned v) w') : Calls Try.prog 125 #[.slice data__p data__n data__c, .int .i64 a_, .int .i64 b_, .func (.func cmp_f) #[] cmp_v] w R :=
  calls_of mixed Try.func125 slices_reverseRangeCmpFunc_int.ok rfl (fun K => slices_reverseRangeCmpFunc_int.eq data__p data__n data__c a_ b_ cmp_f cmp_v w K) h

/-! ### slices.partialInsertionSortCmpFunc[int]: function 126 (named slots 127) cuts [(2, 114), (3, 44)] -/
def slices_partialInsertionSortCmpFunc_int.w (data__p : Option Addr) (data__n : Nat) (data__c : Nat) (a_ : Int) (b_ : Int) (cmp_f : FuncId) (cmp_v : Array Value) (w : World) (K : Value → World → Prop) : Prop :=
  ∃ I1 : Int → Int → World → Nat → Prop, (∃ k2, I1 (IntKind.i64.wrap (a_ + (1 : Int))) 0 w k2) ∧
  ∀ (i_4 : Int) (j_5 : Int) (w6 : World) (k2 : Nat) (_ : Fr), I1 i_4 j_5 w6 k2 →
  cnd (decide (j_5 < (5 : Int)))
    (∃ J7 : Int → World → Prop, (∃ I8 : Int → World → Nat → Prop, (∃ k9, I8 i_4 w6 k9) ∧
      ∀ (i_11 : Int) (w12 : World) (k9 : Nat) (_ : Fr), I8 i_11 w12 k9 →
      cnd (decide (i_11 < b_))
        (ixK data__p data__n i_11 1 fun a13 =>
        ∃ x14 : Int, w12.drew.cell? a13 = some (.int .i64 x14) ∧ 
        ixK data__p data__n (IntKind.i64.wrap (i_11 - (1 : Int))) 1 fun a15 =>
        ∃ x16 : Int, w12.drew.cell? a15 = some (.int .i64 x16) ∧ 
        cnd (entB Try.prog cmp_f) (Calls Try.prog cmp_f (#[] ++ #[.int .i64 x14, .int .i64 x16] ++ cmp_v) w12.drew fun e w17 => ∃ r18 : Int, e = .returned (.int .i64 r18) ∧ 
        cnd (!(decide (r18 < (0 : Int))))
        (∃ k10, k10 < k9 ∧ I8 (IntKind.i64.wrap (i_11 + (1 : Int))) w17 k10)
        (J7 i_11 w17)) False)
        (J7 i_11 w12.drew)) ∧
      ∀ (i_19 : Int) (w20 : World) (_ : Fr), J7 i_19 w20 → 
      cnd (i_19 == b_)
      (K (.bool true) w20)
      (cnd (decide ((IntKind.i64.wrap (b_ - a_)) < (50 : Int)))
        (K (.bool false) w20)
        (ixK data__p data__n (IntKind.i64.wrap (i_19 - (1 : Int))) 1 fun a21 =>
          ∃ x22 : Int, w20.drew.cell? a21 = some (.int .i64 x22) ∧ 
          ixK data__p data__n i_19 1 fun a23 =>
          ∃ x24 : Int, w20.drew.cell? a23 = some (.int .i64 x24) ∧ 
          ixK data__p data__n i_19 1 fun a25 =>
          ∃ w26 : World, StoreAt a25 0 [.int .i64 x22] w20.drew w26 ∧ 
          ixK data__p data__n (IntKind.i64.wrap (i_19 - (1 : Int))) 1 fun a27 =>
          ∃ w28 : World, StoreAt a27 0 [.int .i64 x24] w26 w28 ∧ 
          ∃ J29 : World → Prop, (cnd (decide ((IntKind.i64.wrap (i_19 - a_)) ≥ (2 : Int)))
          (∃ I30 : Int → World → Nat → Prop, (∃ k31, I30 (IntKind.i64.wrap (i_19 - (1 : Int))) w28 k31) ∧
            ∀ (j_33 : Int) (w34 : World) (k31 : Nat) (_ : Fr), I30 j_33 w34 k31 →
            cnd (decide (j_33 ≥ (1 : Int)))
              (ixK data__p data__n j_33 1 fun a35 =>
                ∃ x36 : Int, w34.drew.cell? a35 = some (.int .i64 x36) ∧ 
                ixK data__p data__n (IntKind.i64.wrap (j_33 - (1 : Int))) 1 fun a37 =>
                ∃ x38 : Int, w34.drew.cell? a37 = some (.int .i64 x38) ∧ 
                cnd (entB Try.prog cmp_f) (Calls Try.prog cmp_f (#[] ++ #[.int .i64 x36, .int .i64 x38] ++ cmp_v) w34.drew fun e w39 => ∃ r40 : Int, e = .returned (.int .i64 r40) ∧ 
                cnd (!(decide (r40 < (0 : Int))))
                (J29 w39)
                (ixK data__p data__n (IntKind.i64.wrap (j_33 - (1 : Int))) 1 fun a41 =>
                  ∃ x42 : Int, w39.drew.cell? a41 = some (.int .i64 x42) ∧ 
                  ixK data__p data__n j_33 1 fun a43 =>
                  ∃ x44 : Int, w39.drew.cell? a43 = some (.int .i64 x44) ∧ 
                  ixK data__p data__n j_33 1 fun a45 =>
                  ∃ w46 : World, StoreAt a45 0 [.int .i64 x42] w39.drew w46 ∧ 
                  ixK data__p data__n (IntKind.i64.wrap (j_33 - (1 : Int))) 1 fun a47 =>
                  ∃ w48 : World, StoreAt a47 0 [.int .i64 x44] w46 w48 ∧ 
                  ∃ k32, k32 < k31 ∧ I30 (IntKind.i64.wrap (j_33 - (1 : Int))) w48 k32)) False)
              (J29 w34))
          (J29 w28)) ∧
          ∀ (w49 : World) (_ : Fr), J29 w49 → 
          cnd (decide ((IntKind.i64.wrap (b_ - i_19)) ≥ (2 : Int)))
          (∃ I50 : Int → World → Nat → Prop, (∃ k51, I50 (IntKind.i64.wrap (i_19 + (1 : Int))) w49 k51) ∧
            ∀ (j_53 : Int) (w54 : World) (k51 : Nat) (_ : Fr), I50 j_53 w54 k51 →
            cnd (decide (j_53 < b_))
              (ixK data__p data__n j_53 1 fun a55 =>
                ∃ x56 : Int, w54.drew.cell? a55 = some (.int .i64 x56) ∧ 
                ixK data__p data__n (IntKind.i64.wrap (j_53 - (1 : Int))) 1 fun a57 =>
                ∃ x58 : Int, w54.drew.cell? a57 = some (.int .i64 x58) ∧ 
                cnd (entB Try.prog cmp_f) (Calls Try.prog cmp_f (#[] ++ #[.int .i64 x56, .int .i64 x58] ++ cmp_v) w54.drew fun e w59 => ∃ r60 : Int, e = .returned (.int .i64 r60) ∧ 
                cnd (!(decide (r60 < (0 : Int))))
                (∃ k3, k3 < k2 ∧ I1 i_19 (IntKind.i64.wrap (j_5 + (1 : Int))) w59 k3)
                (ixK data__p data__n (IntKind.i64.wrap (j_53 - (1 : Int))) 1 fun a61 =>
                  ∃ x62 : Int, w59.drew.cell? a61 = some (.int .i64 x62) ∧ 
                  ixK data__p data__n j_53 1 fun a63 =>
                  ∃ x64 : Int, w59.drew.cell? a63 = some (.int .i64 x64) ∧ 
                  ixK data__p data__n j_53 1 fun a65 =>
                  ∃ w66 : World, StoreAt a65 0 [.int .i64 x62] w59.drew w66 ∧ 
                  ixK data__p data__n (IntKind.i64.wrap (j_53 - (1 : Int))) 1 fun a67 =>
                  ∃ w68 : World, StoreAt a67 0 [.int .i64 x64] w66 w68 ∧ 
                  ∃ k52, k52 < k51 ∧ I50 (IntKind.i64.wrap (j_53 + (1 : Int))) w68 k52)) False)
              (∃ k3, k3 < k2 ∧ I1 i_19 (IntKind.i64.wrap (j_5 + (1 : Int))) w54 k3))
          (∃ k3, k3 < k2 ∧ I1 i_19 (IntKind.i64.wrap (j_5 + (1 : Int))) w49 k3))))
    (K (.bool false) w6)
theorem slices_partialInsertionSortCmpFunc_int.eq (data__p : Option Addr) (data__n : Nat) (data__c : Nat) (a_ : Int) (b_ : Int) (cmp_f : FuncId) (cmp_v : Array Value) (w : World) (K : Value → World → Prop) : wpF Try.prog Try.f126 (.two .leaf (.two .leaf (.two (.two .leaf (.one (.loop [(9, 3), (10, 3)] (.two .leaf (.two (.one (.cut [(9, 3)] (.one (.loop [(9, 3)] .leaf)) (.two .leaf (.two .leaf (.two .leaf (.cut [] (.two .leaf (.two (.two .leaf (.one (.loop [(11, 3)] .leaf))) .leaf)) (.two .leaf (.two (.two .leaf (.one (.loop [(12, 3)] .leaf))) .leaf)))))))) .leaf))))) .leaf))) [.slice data__p data__n data__c, .int .i64 a_, .int .i64 b_, .func (.func cmp_f) #[] cmp_v] w K = slices_partialInsertionSortCmpFunc_int.w data__p data__n data__c a_ b_ cmp_f cmp_v w K := by kernel_rfl
theorem slices_partialInsertionSortCmpFunc_int.ok : fnOk Try.prog Try.f126 4 = true := by kernel_rfl
theorem slices_partialInsertionSortCmpFunc_int.calls {data__p : Option Addr} {data__n : Nat} {data__c : Nat} {a_ : Int} {b_ : Int} {cmp_f : FuncId} {cmp_v : Array Value} {w : World} {R : Ending → World → Prop} (h : slices_partialInsertionSortCmpFunc_int.w data__p data__n data__c a_ b_ cmp_f cmp_v w fun v w' => R (.returned v) w') : Calls Try.prog 126 #[.slice data__p data__n data__c, .int .i64 a_, .int .i64 b_, .func (.func cmp_f) #[] cmp_v] w R :=
  calls_of mixed Try.func126 slices_partialInsertionSortCmpFunc_int.ok rfl (fun K => slices_partialInsertionSortCmpFunc_int.eq data__p data__n data__c a_ b_ cmp_f cmp_v w K) h

/-! ### slices.partitionEqualCmpFunc[int]: function 127 (named slots 129) -/
def slices_partitionEqualCmpFunc_int.w (data__p : Option Addr) (data__n : Nat) (data__c : Nat) (a_ : Int) (b_ : Int) (pivot_ : Int) (cmp_f : FuncId) (cmp_v : Array Value) (w : World) (K : Value → World → Prop) : Prop :=
  ixK data__p data__n pivot_ 1 fun a1 =>
  ∃ x2 : Int, w.drew.cell? a1 = some (.int .i64 x2) ∧ 
  ixK data__p data__n a_ 1 fun a3 =>
  ∃ x4 : Int, w.drew.cell? a3 = some (.int .i64 x4) ∧ 
  ixK data__p data__n a_ 1 fun a5 =>
  ∃ w6 : World, StoreAt a5 0 [.int .i64 x2] w.drew w6 ∧ 
  ixK data__p data__n pivot_ 1 fun a7 =>
  ∃ w8 : World, StoreAt a7 0 [.int .i64 x4] w6 w8 ∧ 
  ∃ I9 : Int → Int → World → Nat → Prop, (∃ k10, I9 (IntKind.i64.wrap (a_ + (1 : Int))) (IntKind.i64.wrap (b_ - (1 : Int))) w8 k10) ∧
  ∀ (i_12 : Int) (j_13 : Int) (w14 : World) (k10 : Nat) (_ : Fr), I9 i_12 j_13 w14 k10 →
  ∃ I15 : Int → World → Nat → Prop, (∃ k16, I15 i_12 w14 k16) ∧
    ∀ (i_18 : Int) (w19 : World) (k16 : Nat) (_ : Fr), I15 i_18 w19 k16 →
    cnd (decide (i_18 ≤ j_13))
      (ixK data__p data__n a_ 1 fun a20 =>
      ∃ x21 : Int, w19.drew.cell? a20 = some (.int .i64 x21) ∧ 
      ixK data__p data__n i_18 1 fun a22 =>
      ∃ x23 : Int, w19.drew.cell? a22 = some (.int .i64 x23) ∧ 
      cnd (entB Try.prog cmp_f) (Calls Try.prog cmp_f (#[] ++ #[.int .i64 x21, .int .i64 x23] ++ cmp_v) w19.drew fun e w24 => ∃ r25 : Int, e = .returned (.int .i64 r25) ∧ 
      cnd (!(decide (r25 < (0 : Int))))
      (∃ k17, k17 < k16 ∧ I15 (IntKind.i64.wrap (i_18 + (1 : Int))) w24 k17)
      (∃ I26 : Int → World → Nat → Prop, (∃ k27, I26 j_13 w24 k27) ∧
        ∀ (j_29 : Int) (w30 : World) (k27 : Nat) (_ : Fr), I26 j_29 w30 k27 →
        cnd (decide (i_18 ≤ j_29))
          (ixK data__p data__n a_ 1 fun a31 =>
          ∃ x32 : Int, w30.drew.cell? a31 = some (.int .i64 x32) ∧ 
          ixK data__p data__n j_29 1 fun a33 =>
          ∃ x34 : Int, w30.drew.cell? a33 = some (.int .i64 x34) ∧ 
          cnd (entB Try.prog cmp_f) (Calls Try.prog cmp_f (#[] ++ #[.int .i64 x32, .int .i64 x34] ++ cmp_v) w30.drew fun e w35 => ∃ r36 : Int, e = .returned (.int .i64 r36) ∧ 
          cnd (decide (r36 < (0 : Int)))
          (∃ k28, k28 < k27 ∧ I26 (IntKind.i64.wrap (j_29 - (1 : Int))) w35 k28)
          (cnd (decide (i_18 > j_29))
            (K (.int .i64 i_18) w35)
            (ixK data__p data__n j_29 1 fun a37 =>
              ∃ x38 : Int, w35.drew.cell? a37 = some (.int .i64 x38) ∧ 
              ixK data__p data__n i_18 1 fun a39 =>
              ∃ x40 : Int, w35.drew.cell? a39 = some (.int .i64 x40) ∧ 
              ixK data__p data__n i_18 1 fun a41 =>
              ∃ w42 : World, StoreAt a41 0 [.int .i64 x38] w35.drew w42 ∧ 
              ixK data__p data__n j_29 1 fun a43 =>
              ∃ w44 : World, StoreAt a43 0 [.int .i64 x40] w42 w44 ∧ 
              ∃ k11, k11 < k10 ∧ I9 (IntKind.i64.wrap (i_18 + (1 : Int))) (IntKind.i64.wrap (j_29 - (1 : Int))) w44 k11))) False)
          (cnd (decide (i_18 > j_29))
          (K (.int .i64 i_18) w30.drew)
          (ixK data__p data__n j_29 1 fun a45 =>
            ∃ x46 : Int, w30.drew.drew.cell? a45 = some (.int .i64 x46) ∧ 
            ixK data__p data__n i_18 1 fun a47 =>
            ∃ x48 : Int, w30.drew.drew.cell? a47 = some (.int .i64 x48) ∧ 
            ixK data__p data__n i_18 1 fun a49 =>
            ∃ w50 : World, StoreAt a49 0 [.int .i64 x46] w30.drew.drew w50 ∧ 
            ixK data__p data__n j_29 1 fun a51 =>
            ∃ w52 : World, StoreAt a51 0 [.int .i64 x48] w50 w52 ∧ 
            ∃ k11, k11 < k10 ∧ I9 (IntKind.i64.wrap (i_18 + (1 : Int))) (IntKind.i64.wrap (j_29 - (1 : Int))) w52 k11)))) False)
      (∃ I53 : Int → World → Nat → Prop, (∃ k54, I53 j_13 w19.drew k54) ∧
      ∀ (j_56 : Int) (w57 : World) (k54 : Nat) (_ : Fr), I53 j_56 w57 k54 →
      cnd (decide (i_18 ≤ j_56))
        (ixK data__p data__n a_ 1 fun a58 =>
        ∃ x59 : Int, w57.drew.cell? a58 = some (.int .i64 x59) ∧ 
        ixK data__p data__n j_56 1 fun a60 =>
        ∃ x61 : Int, w57.drew.cell? a60 = some (.int .i64 x61) ∧ 
        cnd (entB Try.prog cmp_f) (Calls Try.prog cmp_f (#[] ++ #[.int .i64 x59, .int .i64 x61] ++ cmp_v) w57.drew fun e w62 => ∃ r63 : Int, e = .returned (.int .i64 r63) ∧ 
        cnd (decide (r63 < (0 : Int)))
        (∃ k55, k55 < k54 ∧ I53 (IntKind.i64.wrap (j_56 - (1 : Int))) w62 k55)
        (cnd (decide (i_18 > j_56))
          (K (.int .i64 i_18) w62)
          (ixK data__p data__n j_56 1 fun a64 =>
            ∃ x65 : Int, w62.drew.cell? a64 = some (.int .i64 x65) ∧ 
            ixK data__p data__n i_18 1 fun a66 =>
            ∃ x67 : Int, w62.drew.cell? a66 = some (.int .i64 x67) ∧ 
            ixK data__p data__n i_18 1 fun a68 =>
            ∃ w69 : World, StoreAt a68 0 [.int .i64 x65] w62.drew w69 ∧ 
            ixK data__p data__n j_56 1 fun a70 =>
            ∃ w71 : World, StoreAt a70 0 [.int .i64 x67] w69 w71 ∧ 
            ∃ k11, k11 < k10 ∧ I9 (IntKind.i64.wrap (i_18 + (1 : Int))) (IntKind.i64.wrap (j_56 - (1 : Int))) w71 k11))) False)
        (cnd (decide (i_18 > j_56))
        (K (.int .i64 i_18) w57.drew)
        (ixK data__p data__n j_56 1 fun a72 =>
          ∃ x73 : Int, w57.drew.drew.cell? a72 = some (.int .i64 x73) ∧ 
          ixK data__p data__n i_18 1 fun a74 =>
          ∃ x75 : Int, w57.drew.drew.cell? a74 = some (.int .i64 x75) ∧ 
          ixK data__p data__n i_18 1 fun a76 =>
          ∃ w77 : World, StoreAt a76 0 [.int .i64 x73] w57.drew.drew w77 ∧ 
          ixK data__p data__n j_56 1 fun a78 =>
          ∃ w79 : World, StoreAt a78 0 [.int .i64 x75] w77 w79 ∧ 
          ∃ k11, k11 < k10 ∧ I9 (IntKind.i64.wrap (i_18 + (1 : Int))) (IntKind.i64.wrap (j_56 - (1 : Int))) w79 k11)))
theorem slices_partitionEqualCmpFunc_int.eq (data__p : Option Addr) (data__n : Nat) (data__c : Nat) (a_ : Int) (b_ : Int) (pivot_ : Int) (cmp_f : FuncId) (cmp_v : Array Value) (w : World) (K : Value → World → Prop) : wpF Try.prog Try.f127 (.two .leaf (.two .leaf (.two .leaf (.two (.one (.loop [(11, 3), (12, 3)] (.one (.two (.one (.loop [(11, 3)] .leaf)) (.two (.one (.loop [(12, 3)] .leaf)) .leaf))))) .leaf)))) [.slice data__p data__n data__c, .int .i64 a_, .int .i64 b_, .int .i64 pivot_, .func (.func cmp_f) #[] cmp_v] w K = slices_partitionEqualCmpFunc_int.w data__p data__n data__c a_ b_ pivot_ cmp_f cmp_v w K := by kernel_rfl
theorem slices_partitionEqualCmpFunc_int.ok : fnOk Try.prog Try.f127 5 = true := by kernel_rfl
theorem slices_partitionEqualCmpFunc_int.calls {data__p : Option Addr} {data__n : Nat} {data__c : Nat} {a_ : Int} {b_ : Int} {pivot_ : Int} {cmp_f : FuncId} {cmp_v : Array Value} {w : World} {R : Ending → World → Prop} (h : slices_partitionEqualCmpFunc_int.w data__p data__n data__c a_ b_ pivot_ cmp_f cmp_v w fun v w' => R (.returned v) w') : Calls Try.prog 127 #[.slice data__p data__n data__c, .int .i64 a_, .int .i64 b_, .int .i64 pivot_, .func (.func cmp_f) #[] cmp_v] w R :=
  calls_of mixed Try.func127 slices_partitionEqualCmpFunc_int.ok rfl (fun K => slices_partitionEqualCmpFunc_int.eq data__p data__n data__c a_ b_ pivot_ cmp_f cmp_v w K) h

/-! ### slices.partitionCmpFunc[int]: function 128 (named slots 131) cuts [(2, 147), (2, 127)] -/
def slices_partitionCmpFunc_int.w (data__p : Option Addr) (data__n : Nat) (data__c : Nat) (a_ : Int) (b_ : Int) (pivot_ : Int) (cmp_f : FuncId) (cmp_v : Array Value) (w : World) (K : Value → World → Prop) : Prop :=
  ixK data__p data__n pivot_ 1 fun a1 =>
  ∃ x2 : Int, w.drew.cell? a1 = some (.int .i64 x2) ∧ 
  ixK data__p data__n a_ 1 fun a3 =>
  ∃ x4 : Int, w.drew.cell? a3 = some (.int .i64 x4) ∧ 
  ixK data__p data__n a_ 1 fun a5 =>
  ∃ w6 : World, StoreAt a5 0 [.int .i64 x2] w.drew w6 ∧ 
  ixK data__p data__n pivot_ 1 fun a7 =>
  ∃ w8 : World, StoreAt a7 0 [.int .i64 x4] w6 w8 ∧ 
  ∃ J9 : Int → World → Prop, (∃ I10 : Int → World → Nat → Prop, (∃ k11, I10 (IntKind.i64.wrap (a_ + (1 : Int))) w8 k11) ∧
  ∀ (i_13 : Int) (w14 : World) (k11 : Nat) (_ : Fr), I10 i_13 w14 k11 →
  cnd (decide (i_13 ≤ (IntKind.i64.wrap (b_ - (1 : Int)))))
    (ixK data__p data__n i_13 1 fun a15 =>
    ∃ x16 : Int, w14.drew.cell? a15 = some (.int .i64 x16) ∧ 
    ixK data__p data__n a_ 1 fun a17 =>
    ∃ x18 : Int, w14.drew.cell? a17 = some (.int .i64 x18) ∧ 
    cnd (entB Try.prog cmp_f) (Calls Try.prog cmp_f (#[] ++ #[.int .i64 x16, .int .i64 x18] ++ cmp_v) w14.drew fun e w19 => ∃ r20 : Int, e = .returned (.int .i64 r20) ∧ 
    cnd (decide (r20 < (0 : Int)))
    (∃ k12, k12 < k11 ∧ I10 (IntKind.i64.wrap (i_13 + (1 : Int))) w19 k12)
    (J9 i_13 w19)) False)
    (J9 i_13 w14.drew)) ∧
  ∀ (i_21 : Int) (w22 : World) (_ : Fr), J9 i_21 w22 → 
  ∃ J23 : Int → World → Prop, (∃ I24 : Int → World → Nat → Prop, (∃ k25, I24 (IntKind.i64.wrap (b_ - (1 : Int))) w22 k25) ∧
  ∀ (j_27 : Int) (w28 : World) (k25 : Nat) (_ : Fr), I24 j_27 w28 k25 →
  cnd (decide (i_21 ≤ j_27))
    (ixK data__p data__n j_27 1 fun a29 =>
    ∃ x30 : Int, w28.drew.cell? a29 = some (.int .i64 x30) ∧ 
    ixK data__p data__n a_ 1 fun a31 =>
    ∃ x32 : Int, w28.drew.cell? a31 = some (.int .i64 x32) ∧ 
    cnd (entB Try.prog cmp_f) (Calls Try.prog cmp_f (#[] ++ #[.int .i64 x30, .int .i64 x32] ++ cmp_v) w28.drew fun e w33 => ∃ r34 : Int, e = .returned (.int .i64 r34) ∧ 
    cnd (!(decide (r34 < (0 : Int))))
    (∃ k26, k26 < k25 ∧ I24 (IntKind.i64.wrap (j_27 - (1 : Int))) w33 k26)
    (J23 j_27 w33)) False)
    (J23 j_27 w28.drew)) ∧
  ∀ (j_35 : Int) (w36 : World) (_ : Fr), J23 j_35 w36 → 
  cnd (decide (i_21 > j_35))
  (ixK data__p data__n a_ 1 fun a37 =>
    ∃ x38 : Int, w36.drew.cell? a37 = some (.int .i64 x38) ∧ 
    ixK data__p data__n j_35 1 fun a39 =>
    ∃ x40 : Int, w36.drew.cell? a39 = some (.int .i64 x40) ∧ 
    ixK data__p data__n j_35 1 fun a41 =>
    ∃ w42 : World, StoreAt a41 0 [.int .i64 x38] w36.drew w42 ∧ 
    ixK data__p data__n a_ 1 fun a43 =>
    ∃ w44 : World, StoreAt a43 0 [.int .i64 x40] w42 w44 ∧ 
    K (.tuple #[.int .i64 j_35, .bool true]) w44)
  (ixK data__p data__n j_35 1 fun a45 =>
    ∃ x46 : Int, w36.drew.cell? a45 = some (.int .i64 x46) ∧ 
    ixK data__p data__n i_21 1 fun a47 =>
    ∃ x48 : Int, w36.drew.cell? a47 = some (.int .i64 x48) ∧ 
    ixK data__p data__n i_21 1 fun a49 =>
    ∃ w50 : World, StoreAt a49 0 [.int .i64 x46] w36.drew w50 ∧ 
    ixK data__p data__n j_35 1 fun a51 =>
    ∃ w52 : World, StoreAt a51 0 [.int .i64 x48] w50 w52 ∧ 
    ∃ I53 : Int → Int → World → Nat → Prop, (∃ k54, I53 (IntKind.i64.wrap (i_21 + (1 : Int))) (IntKind.i64.wrap (j_35 - (1 : Int))) w52 k54) ∧
    ∀ (i_56 : Int) (j_57 : Int) (w58 : World) (k54 : Nat) (_ : Fr), I53 i_56 j_57 w58 k54 →
    ∃ I59 : Int → World → Nat → Prop, (∃ k60, I59 i_56 w58 k60) ∧
      ∀ (i_62 : Int) (w63 : World) (k60 : Nat) (_ : Fr), I59 i_62 w63 k60 →
      cnd (decide (i_62 ≤ j_57))
        (ixK data__p data__n i_62 1 fun a64 =>
        ∃ x65 : Int, w63.drew.cell? a64 = some (.int .i64 x65) ∧ 
        ixK data__p data__n a_ 1 fun a66 =>
        ∃ x67 : Int, w63.drew.cell? a66 = some (.int .i64 x67) ∧ 
        cnd (entB Try.prog cmp_f) (Calls Try.prog cmp_f (#[] ++ #[.int .i64 x65, .int .i64 x67] ++ cmp_v) w63.drew fun e w68 => ∃ r69 : Int, e = .returned (.int .i64 r69) ∧ 
        cnd (decide (r69 < (0 : Int)))
        (∃ k61, k61 < k60 ∧ I59 (IntKind.i64.wrap (i_62 + (1 : Int))) w68 k61)
        (∃ I70 : Int → World → Nat → Prop, (∃ k71, I70 j_57 w68 k71) ∧
          ∀ (j_73 : Int) (w74 : World) (k71 : Nat) (_ : Fr), I70 j_73 w74 k71 →
          cnd (decide (i_62 ≤ j_73))
            (ixK data__p data__n j_73 1 fun a75 =>
            ∃ x76 : Int, w74.drew.cell? a75 = some (.int .i64 x76) ∧ 
            ixK data__p data__n a_ 1 fun a77 =>
            ∃ x78 : Int, w74.drew.cell? a77 = some (.int .i64 x78) ∧ 
            cnd (entB Try.prog cmp_f) (Calls Try.prog cmp_f (#[] ++ #[.int .i64 x76, .int .i64 x78] ++ cmp_v) w74.drew fun e w79 => ∃ r80 : Int, e = .returned (.int .i64 r80) ∧ 
            cnd (!(decide (r80 < (0 : Int))))
            (∃ k72, k72 < k71 ∧ I70 (IntKind.i64.wrap (j_73 - (1 : Int))) w79 k72)
            (cnd (decide (i_62 > j_73))
              (ixK data__p data__n a_ 1 fun a81 =>
                ∃ x82 : Int, w79.drew.cell? a81 = some (.int .i64 x82) ∧ 
                ixK data__p data__n j_73 1 fun a83 =>
                ∃ x84 : Int, w79.drew.cell? a83 = some (.int .i64 x84) ∧ 
                ixK data__p data__n j_73 1 fun a85 =>
                ∃ w86 : World, StoreAt a85 0 [.int .i64 x82] w79.drew w86 ∧ 
                ixK data__p data__n a_ 1 fun a87 =>
                ∃ w88 : World, StoreAt a87 0 [.int .i64 x84] w86 w88 ∧ 
                K (.tuple #[.int .i64 j_73, .bool false]) w88)
              (ixK data__p data__n j_73 1 fun a89 =>
                ∃ x90 : Int, w79.drew.cell? a89 = some (.int .i64 x90) ∧ 
                ixK data__p data__n i_62 1 fun a91 =>
                ∃ x92 : Int, w79.drew.cell? a91 = some (.int .i64 x92) ∧ 
                ixK data__p data__n i_62 1 fun a93 =>
                ∃ w94 : World, StoreAt a93 0 [.int .i64 x90] w79.drew w94 ∧ 
                ixK data__p data__n j_73 1 fun a95 =>
                ∃ w96 : World, StoreAt a95 0 [.int .i64 x92] w94 w96 ∧ 
                ∃ k55, k55 < k54 ∧ I53 (IntKind.i64.wrap (i_62 + (1 : Int))) (IntKind.i64.wrap (j_73 - (1 : Int))) w96 k55))) False)
            (cnd (decide (i_62 > j_73))
            (ixK data__p data__n a_ 1 fun a97 =>
              ∃ x98 : Int, w74.drew.drew.cell? a97 = some (.int .i64 x98) ∧ 
              ixK data__p data__n j_73 1 fun a99 =>
              ∃ x100 : Int, w74.drew.drew.cell? a99 = some (.int .i64 x100) ∧ 
              ixK data__p data__n j_73 1 fun a101 =>
              ∃ w102 : World, StoreAt a101 0 [.int .i64 x98] w74.drew.drew w102 ∧ 
              ixK data__p data__n a_ 1 fun a103 =>
              ∃ w104 : World, StoreAt a103 0 [.int .i64 x100] w102 w104 ∧ 
              K (.tuple #[.int .i64 j_73, .bool false]) w104)
            (ixK data__p data__n j_73 1 fun a105 =>
              ∃ x106 : Int, w74.drew.drew.cell? a105 = some (.int .i64 x106) ∧ 
              ixK data__p data__n i_62 1 fun a107 =>
              ∃ x108 : Int, w74.drew.drew.cell? a107 = some (.int .i64 x108) ∧ 
              ixK data__p data__n i_62 1 fun a109 =>
              ∃ w110 : World, StoreAt a109 0 [.int .i64 x106] w74.drew.drew w110 ∧ 
              ixK data__p data__n j_73 1 fun a111 =>
              ∃ w112 : World, StoreAt a111 0 [.int .i64 x108] w110 w112 ∧ 
              ∃ k55, k55 < k54 ∧ I53 (IntKind.i64.wrap (i_62 + (1 : Int))) (IntKind.i64.wrap (j_73 - (1 : Int))) w112 k55)))) False)
        (∃ I113 : Int → World → Nat → Prop, (∃ k114, I113 j_57 w63.drew k114) ∧
        ∀ (j_116 : Int) (w117 : World) (k114 : Nat) (_ : Fr), I113 j_116 w117 k114 →
        cnd (decide (i_62 ≤ j_116))
          (ixK data__p data__n j_116 1 fun a118 =>
          ∃ x119 : Int, w117.drew.cell? a118 = some (.int .i64 x119) ∧ 
          ixK data__p data__n a_ 1 fun a120 =>
          ∃ x121 : Int, w117.drew.cell? a120 = some (.int .i64 x121) ∧ 
          cnd (entB Try.prog cmp_f) (Calls Try.prog cmp_f (#[] ++ #[.int .i64 x119, .int .i64 x121] ++ cmp_v) w117.drew fun e w122 => ∃ r123 : Int, e = .returned (.int .i64 r123) ∧ 
          cnd (!(decide (r123 < (0 : Int))))
          (∃ k115, k115 < k114 ∧ I113 (IntKind.i64.wrap (j_116 - (1 : Int))) w122 k115)
          (cnd (decide (i_62 > j_116))
            (ixK data__p data__n a_ 1 fun a124 =>
              ∃ x125 : Int, w122.drew.cell? a124 = some (.int .i64 x125) ∧ 
              ixK data__p data__n j_116 1 fun a126 =>
              ∃ x127 : Int, w122.drew.cell? a126 = some (.int .i64 x127) ∧ 
              ixK data__p data__n j_116 1 fun a128 =>
              ∃ w129 : World, StoreAt a128 0 [.int .i64 x125] w122.drew w129 ∧ 
              ixK data__p data__n a_ 1 fun a130 =>
              ∃ w131 : World, StoreAt a130 0 [.int .i64 x127] w129 w131 ∧ 
              K (.tuple #[.int .i64 j_116, .bool false]) w131)
            (ixK data__p data__n j_116 1 fun a132 =>
              ∃ x133 : Int, w122.drew.cell? a132 = some (.int .i64 x133) ∧ 
              ixK data__p data__n i_62 1 fun a134 =>
              ∃ x135 : Int, w122.drew.cell? a134 = some (.int .i64 x135) ∧ 
              ixK data__p data__n i_62 1 fun a136 =>
              ∃ w137 : World, StoreAt a136 0 [.int .i64 x133] w122.drew w137 ∧ 
              ixK data__p data__n j_116 1 fun a138 =>
              ∃ w139 : World, StoreAt a138 0 [.int .i64 x135] w137 w139 ∧ 
              ∃ k55, k55 < k54 ∧ I53 (IntKind.i64.wrap (i_62 + (1 : Int))) (IntKind.i64.wrap (j_116 - (1 : Int))) w139 k55))) False)
          (cnd (decide (i_62 > j_116))
          (ixK data__p data__n a_ 1 fun a140 =>
            ∃ x141 : Int, w117.drew.drew.cell? a140 = some (.int .i64 x141) ∧ 
            ixK data__p data__n j_116 1 fun a142 =>
            ∃ x143 : Int, w117.drew.drew.cell? a142 = some (.int .i64 x143) ∧ 
            ixK data__p data__n j_116 1 fun a144 =>
            ∃ w145 : World, StoreAt a144 0 [.int .i64 x141] w117.drew.drew w145 ∧ 
            ixK data__p data__n a_ 1 fun a146 =>
            ∃ w147 : World, StoreAt a146 0 [.int .i64 x143] w145 w147 ∧ 
            K (.tuple #[.int .i64 j_116, .bool false]) w147)
          (ixK data__p data__n j_116 1 fun a148 =>
            ∃ x149 : Int, w117.drew.drew.cell? a148 = some (.int .i64 x149) ∧ 
            ixK data__p data__n i_62 1 fun a150 =>
            ∃ x151 : Int, w117.drew.drew.cell? a150 = some (.int .i64 x151) ∧ 
            ixK data__p data__n i_62 1 fun a152 =>
            ∃ w153 : World, StoreAt a152 0 [.int .i64 x149] w117.drew.drew w153 ∧ 
            ixK data__p data__n j_116 1 fun a154 =>
            ∃ w155 : World, StoreAt a154 0 [.int .i64 x151] w153 w155 ∧ 
            ∃ k55, k55 < k54 ∧ I53 (IntKind.i64.wrap (i_62 + (1 : Int))) (IntKind.i64.wrap (j_116 - (1 : Int))) w155 k55))))
theorem slices_partitionCmpFunc_int.eq (data__p : Option Addr) (data__n : Nat) (data__c : Nat) (a_ : Int) (b_ : Int) (pivot_ : Int) (cmp_f : FuncId) (cmp_v : Array Value) (w : World) (K : Value → World → Prop) : wpF Try.prog Try.f128 (.two .leaf (.two .leaf (.two .leaf (.cut [(12, 3)] (.one (.loop [(12, 3)] .leaf)) (.cut [(13, 3)] (.one (.loop [(13, 3)] .leaf)) (.two .leaf (.two .leaf (.two .leaf (.two .leaf (.two (.one (.loop [(12, 3), (13, 3)] (.one (.two (.one (.loop [(12, 3)] .leaf)) (.two (.one (.loop [(13, 3)] .leaf)) .leaf))))) .leaf)))))))))) [.slice data__p data__n data__c, .int .i64 a_, .int .i64 b_, .int .i64 pivot_, .func (.func cmp_f) #[] cmp_v] w K = slices_partitionCmpFunc_int.w data__p data__n data__c a_ b_ pivot_ cmp_f cmp_v w K := by kernel_rfl
theorem slices_partitionCmpFunc_int.ok : fnOk Try.prog Try.f128 5 = true := by kernel_rfl
theorem slices_partitionCmpFunc_int.calls {data__p : Option Addr} {data__n : Nat} {data__c : Nat} {a_ : Int} {b_ : Int} {pivot_ : Int} {cmp_f : FuncId} {cmp_v : Array Value} {w : World} {R : Ending → World → Prop} (h : slices_partitionCmpFunc_int.w data__p data__n data__c a_ b_ pivot_ cmp_f cmp_v w fun v w' => R (.returned v) w') : Calls Try.prog 128 #[.slice data__p data__n data__c, .int .i64 a_, .int .i64 b_, .int .i64 pivot_, .func (.func cmp_f) #[] cmp_v] w R :=
  calls_of mixed Try.func128 slices_partitionCmpFunc_int.ok rfl (fun K => slices_partitionCmpFunc_int.eq data__p data__n data__c a_ b_ pivot_ cmp_f cmp_v w K) h

/-! ### math/bits.Len32: function 129 (named slots 3) -/
def bits_Len32.w (x0_ : Int) (w : World) (K : Value → World → Prop) : Prop :=
  cnd (decide (x0_ ≥ (65536 : Int)))
  (0 ≤ (16 : Int) ∧ cnd (decide ((x0_.fdiv (2 ^ (min (16 : Int).toNat (IntKind.bits .u32)))) ≥ (256 : Int)))
    (0 ≤ (8 : Int) ∧ ∃ b1, 0 ≤ (IntKind.u8.wrap ((x0_.fdiv (2 ^ (min (16 : Int).toNat (IntKind.bits .u32)))).fdiv (2 ^ (min (8 : Int).toNat (IntKind.bits .u32))))) ∧ strtab0[(IntKind.u8.wrap ((x0_.fdiv (2 ^ (min (16 : Int).toNat (IntKind.bits .u32)))).fdiv (2 ^ (min (8 : Int).toNat (IntKind.bits .u32))))).toNat]? = some b1 ∧ 
      K (.int .i64 (IntKind.i64.wrap ((IntKind.i64.wrap ((16 : Int) + (8 : Int))) + (IntKind.i64.wrap (b1.toNat : Int))))) w)
    (∃ b2, 0 ≤ (IntKind.u8.wrap (x0_.fdiv (2 ^ (min (16 : Int).toNat (IntKind.bits .u32))))) ∧ strtab0[(IntKind.u8.wrap (x0_.fdiv (2 ^ (min (16 : Int).toNat (IntKind.bits .u32))))).toNat]? = some b2 ∧ 
      K (.int .i64 (IntKind.i64.wrap ((16 : Int) + (IntKind.i64.wrap (b2.toNat : Int))))) w))
  (cnd (decide (x0_ ≥ (256 : Int)))
    (0 ≤ (8 : Int) ∧ ∃ b3, 0 ≤ (IntKind.u8.wrap (x0_.fdiv (2 ^ (min (8 : Int).toNat (IntKind.bits .u32))))) ∧ strtab0[(IntKind.u8.wrap (x0_.fdiv (2 ^ (min (8 : Int).toNat (IntKind.bits .u32))))).toNat]? = some b3 ∧ 
      K (.int .i64 (IntKind.i64.wrap ((IntKind.i64.wrap ((0 : Int) + (8 : Int))) + (IntKind.i64.wrap (b3.toNat : Int))))) w)
    (∃ b4, 0 ≤ (IntKind.u8.wrap x0_) ∧ strtab0[(IntKind.u8.wrap x0_).toNat]? = some b4 ∧ 
      K (.int .i64 (IntKind.i64.wrap ((0 : Int) + (IntKind.i64.wrap (b4.toNat : Int))))) w))
theorem bits_Len32.eq (x0_ : Int) (w : World) (K : Value → World → Prop) : wpF Try.prog Try.f129 .leaf [.int .u32 x0_] w K = bits_Len32.w x0_ w K := by kernel_rfl
theorem bits_Len32.ok : fnOk Try.prog Try.f129 1 = true := by kernel_rfl
theorem bits_Len32.calls {x0_ : Int} {w : World} {R : Ending → World → Prop} (h : bits_Len32.w x0_ w fun v w' => R (.returned v) w') : Calls Try.prog 129 #[.int .u32 x0_] w R :=
  calls_of mixed Try.func129 bits_Len32.ok rfl (fun K => bits_Len32.eq x0_ w K) h

/-! ### math/bits.Len64: function 130 (named slots 3) -/
def bits_Len64.w (x0_ : Int) (w : World) (K : Value → World → Prop) : Prop :=
  cnd (decide (x0_ ≥ (4294967296 : Int)))
  (0 ≤ (32 : Int) ∧ cnd (decide ((x0_.fdiv (2 ^ (min (32 : Int).toNat (IntKind.bits .u64)))) ≥ (65536 : Int)))
    (0 ≤ (16 : Int) ∧ cnd (decide (((x0_.fdiv (2 ^ (min (32 : Int).toNat (IntKind.bits .u64)))).fdiv (2 ^ (min (16 : Int).toNat (IntKind.bits .u64)))) ≥ (256 : Int)))
      (0 ≤ (8 : Int) ∧ ∃ b1, 0 ≤ (IntKind.u8.wrap (((x0_.fdiv (2 ^ (min (32 : Int).toNat (IntKind.bits .u64)))).fdiv (2 ^ (min (16 : Int).toNat (IntKind.bits .u64)))).fdiv (2 ^ (min (8 : Int).toNat (IntKind.bits .u64))))) ∧ strtab0[(IntKind.u8.wrap (((x0_.fdiv (2 ^ (min (32 : Int).toNat (IntKind.bits .u64)))).fdiv (2 ^ (min (16 : Int).toNat (IntKind.bits .u64)))).fdiv (2 ^ (min (8 : Int).toNat (IntKind.bits .u64))))).toNat]? = some b1 ∧ 
        K (.int .i64 (IntKind.i64.wrap ((IntKind.i64.wrap ((IntKind.i64.wrap ((32 : Int) + (16 : Int))) + (8 : Int))) + (IntKind.i64.wrap (b1.toNat : Int))))) w)
      (∃ b2, 0 ≤ (IntKind.u8.wrap ((x0_.fdiv (2 ^ (min (32 : Int).toNat (IntKind.bits .u64)))).fdiv (2 ^ (min (16 : Int).toNat (IntKind.bits .u64))))) ∧ strtab0[(IntKind.u8.wrap ((x0_.fdiv (2 ^ (min (32 : Int).toNat (IntKind.bits .u64)))).fdiv (2 ^ (min (16 : Int).toNat (IntKind.bits .u64))))).toNat]? = some b2 ∧ 
        K (.int .i64 (IntKind.i64.wrap ((IntKind.i64.wrap ((32 : Int) + (16 : Int))) + (IntKind.i64.wrap (b2.toNat : Int))))) w))
    (cnd (decide ((x0_.fdiv (2 ^ (min (32 : Int).toNat (IntKind.bits .u64)))) ≥ (256 : Int)))
      (0 ≤ (8 : Int) ∧ ∃ b3, 0 ≤ (IntKind.u8.wrap ((x0_.fdiv (2 ^ (min (32 : Int).toNat (IntKind.bits .u64)))).fdiv (2 ^ (min (8 : Int).toNat (IntKind.bits .u64))))) ∧ strtab0[(IntKind.u8.wrap ((x0_.fdiv (2 ^ (min (32 : Int).toNat (IntKind.bits .u64)))).fdiv (2 ^ (min (8 : Int).toNat (IntKind.bits .u64))))).toNat]? = some b3 ∧ 
        K (.int .i64 (IntKind.i64.wrap ((IntKind.i64.wrap ((32 : Int) + (8 : Int))) + (IntKind.i64.wrap (b3.toNat : Int))))) w)
      (∃ b4, 0 ≤ (IntKind.u8.wrap (x0_.fdiv (2 ^ (min (32 : Int).toNat (IntKind.bits .u64))))) ∧ strtab0[(IntKind.u8.wrap (x0_.fdiv (2 ^ (min (32 : Int).toNat (IntKind.bits .u64))))).toNat]? = some b4 ∧ 
        K (.int .i64 (IntKind.i64.wrap ((32 : Int) + (IntKind.i64.wrap (b4.toNat : Int))))) w)))
  (cnd (decide (x0_ ≥ (65536 : Int)))
    (0 ≤ (16 : Int) ∧ cnd (decide ((x0_.fdiv (2 ^ (min (16 : Int).toNat (IntKind.bits .u64)))) ≥ (256 : Int)))
      (0 ≤ (8 : Int) ∧ ∃ b5, 0 ≤ (IntKind.u8.wrap ((x0_.fdiv (2 ^ (min (16 : Int).toNat (IntKind.bits .u64)))).fdiv (2 ^ (min (8 : Int).toNat (IntKind.bits .u64))))) ∧ strtab0[(IntKind.u8.wrap ((x0_.fdiv (2 ^ (min (16 : Int).toNat (IntKind.bits .u64)))).fdiv (2 ^ (min (8 : Int).toNat (IntKind.bits .u64))))).toNat]? = some b5 ∧ 
        K (.int .i64 (IntKind.i64.wrap ((IntKind.i64.wrap ((IntKind.i64.wrap ((0 : Int) + (16 : Int))) + (8 : Int))) + (IntKind.i64.wrap (b5.toNat : Int))))) w)
      (∃ b6, 0 ≤ (IntKind.u8.wrap (x0_.fdiv (2 ^ (min (16 : Int).toNat (IntKind.bits .u64))))) ∧ strtab0[(IntKind.u8.wrap (x0_.fdiv (2 ^ (min (16 : Int).toNat (IntKind.bits .u64))))).toNat]? = some b6 ∧ 
        K (.int .i64 (IntKind.i64.wrap ((IntKind.i64.wrap ((0 : Int) + (16 : Int))) + (IntKind.i64.wrap (b6.toNat : Int))))) w))
    (cnd (decide (x0_ ≥ (256 : Int)))
      (0 ≤ (8 : Int) ∧ ∃ b7, 0 ≤ (IntKind.u8.wrap (x0_.fdiv (2 ^ (min (8 : Int).toNat (IntKind.bits .u64))))) ∧ strtab0[(IntKind.u8.wrap (x0_.fdiv (2 ^ (min (8 : Int).toNat (IntKind.bits .u64))))).toNat]? = some b7 ∧ 
        K (.int .i64 (IntKind.i64.wrap ((IntKind.i64.wrap ((0 : Int) + (8 : Int))) + (IntKind.i64.wrap (b7.toNat : Int))))) w)
      (∃ b8, 0 ≤ (IntKind.u8.wrap x0_) ∧ strtab0[(IntKind.u8.wrap x0_).toNat]? = some b8 ∧ 
        K (.int .i64 (IntKind.i64.wrap ((0 : Int) + (IntKind.i64.wrap (b8.toNat : Int))))) w)))
theorem bits_Len64.eq (x0_ : Int) (w : World) (K : Value → World → Prop) : wpF Try.prog Try.f130 .leaf [.int .u64 x0_] w K = bits_Len64.w x0_ w K := by kernel_rfl
theorem bits_Len64.ok : fnOk Try.prog Try.f130 1 = true := by kernel_rfl
theorem bits_Len64.calls {x0_ : Int} {w : World} {R : Ending → World → Prop} (h : bits_Len64.w x0_ w fun v w' => R (.returned v) w') : Calls Try.prog 130 #[.int .u64 x0_] w R :=
  calls_of mixed Try.func130 bits_Len64.ok rfl (fun K => bits_Len64.eq x0_ w K) h

/-! ### slices.siftDownCmpFunc[int]: function 131 (named slots 119) cuts [(3, 42)] -/
def slices_siftDownCmpFunc_int.w (data__p : Option Addr) (data__n : Nat) (data__c : Nat) (lo_ : Int) (hi_ : Int) (first_ : Int) (cmp_f : FuncId) (cmp_v : Array Value) (w : World) (K : Value → World → Prop) : Prop :=
  ∃ I1 : Int → World → Nat → Prop, (∃ k2, I1 lo_ w k2) ∧
  ∀ (root_4 : Int) (w5 : World) (k2 : Nat) (_ : Fr), I1 root_4 w5 k2 →
  cnd (decide ((IntKind.i64.wrap ((IntKind.i64.wrap ((2 : Int) * root_4)) + (1 : Int))) ≥ hi_))
    (K (.tuple #[]) w5)
    (∃ J6 : Int → World → Prop, (cnd (decide ((IntKind.i64.wrap ((IntKind.i64.wrap ((IntKind.i64.wrap ((2 : Int) * root_4)) + (1 : Int))) + (1 : Int))) < hi_))
      (ixK data__p data__n (IntKind.i64.wrap (first_ + (IntKind.i64.wrap ((IntKind.i64.wrap ((2 : Int) * root_4)) + (1 : Int))))) 1 fun a7 =>
      ∃ x8 : Int, w5.drew.cell? a7 = some (.int .i64 x8) ∧ 
      ixK data__p data__n (IntKind.i64.wrap ((IntKind.i64.wrap (first_ + (IntKind.i64.wrap ((IntKind.i64.wrap ((2 : Int) * root_4)) + (1 : Int))))) + (1 : Int))) 1 fun a9 =>
      ∃ x10 : Int, w5.drew.cell? a9 = some (.int .i64 x10) ∧ 
      cnd (entB Try.prog cmp_f) (Calls Try.prog cmp_f (#[] ++ #[.int .i64 x8, .int .i64 x10] ++ cmp_v) w5.drew fun e w11 => ∃ r12 : Int, e = .returned (.int .i64 r12) ∧ 
      cnd (decide (r12 < (0 : Int)))
      (J6 (IntKind.i64.wrap ((IntKind.i64.wrap ((IntKind.i64.wrap ((2 : Int) * root_4)) + (1 : Int))) + (1 : Int))) w11)
      (J6 (IntKind.i64.wrap ((IntKind.i64.wrap ((2 : Int) * root_4)) + (1 : Int))) w11)) False)
      (J6 (IntKind.i64.wrap ((IntKind.i64.wrap ((2 : Int) * root_4)) + (1 : Int))) w5.drew)) ∧
      ∀ (child_13 : Int) (w14 : World) (_ : Fr), J6 child_13 w14 → 
      ixK data__p data__n (IntKind.i64.wrap (first_ + root_4)) 1 fun a15 =>
      ∃ x16 : Int, w14.drew.cell? a15 = some (.int .i64 x16) ∧ 
      ixK data__p data__n (IntKind.i64.wrap (first_ + child_13)) 1 fun a17 =>
      ∃ x18 : Int, w14.drew.cell? a17 = some (.int .i64 x18) ∧ 
      cnd (entB Try.prog cmp_f) (Calls Try.prog cmp_f (#[] ++ #[.int .i64 x16, .int .i64 x18] ++ cmp_v) w14.drew fun e w19 => ∃ r20 : Int, e = .returned (.int .i64 r20) ∧ 
      cnd (!(decide (r20 < (0 : Int))))
      (K (.tuple #[]) w19)
      (ixK data__p data__n (IntKind.i64.wrap (first_ + child_13)) 1 fun a21 =>
        ∃ x22 : Int, w19.drew.cell? a21 = some (.int .i64 x22) ∧ 
        ixK data__p data__n (IntKind.i64.wrap (first_ + root_4)) 1 fun a23 =>
        ∃ x24 : Int, w19.drew.cell? a23 = some (.int .i64 x24) ∧ 
        ixK data__p data__n (IntKind.i64.wrap (first_ + root_4)) 1 fun a25 =>
        ∃ w26 : World, StoreAt a25 0 [.int .i64 x22] w19.drew w26 ∧ 
        ixK data__p data__n (IntKind.i64.wrap (first_ + child_13)) 1 fun a27 =>
        ∃ w28 : World, StoreAt a27 0 [.int .i64 x24] w26 w28 ∧ 
        ∃ k3, k3 < k2 ∧ I1 child_13 w28 k3)) False)
theorem slices_siftDownCmpFunc_int.eq (data__p : Option Addr) (data__n : Nat) (data__c : Nat) (lo_ : Int) (hi_ : Int) (first_ : Int) (cmp_f : FuncId) (cmp_v : Array Value) (w : World) (K : Value → World → Prop) : wpF Try.prog Try.f131 (.two .leaf (.one (.loop [(10, 3)] (.one (.two .leaf (.two .leaf (.cut [(11, 3)] .leaf .leaf))))))) [.slice data__p data__n data__c, .int .i64 lo_, .int .i64 hi_, .int .i64 first_, .func (.func cmp_f) #[] cmp_v] w K = slices_siftDownCmpFunc_int.w data__p data__n data__c lo_ hi_ first_ cmp_f cmp_v w K := by kernel_rfl
theorem slices_siftDownCmpFunc_int.ok : fnOk Try.prog Try.f131 5 = true := by kernel_rfl
theorem slices_siftDownCmpFunc_int.calls {data__p : Option Addr} {data__n : Nat} {data__c : Nat} {lo_ : Int} {hi_ : Int} {first_ : Int} {cmp_f : FuncId} {cmp_v : Array Value} {w : World} {R : Ending → World → Prop} (h : slices_siftDownCmpFunc_int.w data__p data__n data__c lo_ hi_ first_ cmp_f cmp_v w fun v w' => R (.returned v) w') : Calls Try.prog 131 #[.slice data__p data__n data__c, .int .i64 lo_, .int .i64 hi_, .int .i64 first_, .func (.func cmp_f) #[] cmp_v] w R :=
  calls_of mixed Try.func131 slices_siftDownCmpFunc_int.ok rfl (fun K => slices_siftDownCmpFunc_int.eq data__p data__n data__c lo_ hi_ first_ cmp_f cmp_v w K) h

/-! ### slices.nextPowerOfTwo: function 132 (named slots 3) -/
def slices_nextPowerOfTwo.w (length_ : Int) (w : World) (K : Value → World → Prop) : Prop :=
  Calls Try.prog 116 #[.int .u64 (IntKind.u64.wrap length_)] w fun e w1 => ∃ r2 : Int, e = .returned (.int .i64 r2) ∧ 
  0 ≤ r2 ∧ K (.int .u64 (IntKind.u64.wrap ((1 : Int) * 2 ^ (min r2.toNat (IntKind.bits .u64))))) w1
theorem slices_nextPowerOfTwo.eq (length_ : Int) (w : World) (K : Value → World → Prop) : wpF Try.prog Try.f132 .leaf [.int .i64 length_] w K = slices_nextPowerOfTwo.w length_ w K := by kernel_rfl
theorem slices_nextPowerOfTwo.ok : fnOk Try.prog Try.f132 1 = true := by kernel_rfl
theorem slices_nextPowerOfTwo.calls {length_ : Int} {w : World} {R : Ending → World → Prop} (h : slices_nextPowerOfTwo.w length_ w fun v w' => R (.returned v) w') : Calls Try.prog 132 #[.int .i64 length_] w R :=
  calls_of mixed Try.func132 slices_nextPowerOfTwo.ok rfl (fun K => slices_nextPowerOfTwo.eq length_ w K) h

/-! ### (*slices.xorshift).Next: function 133 (named slots 3) -/
def slices_xorshift_Next.w (r_ : Option Addr) (w : World) (K : Value → World → Prop) : Prop :=
  ∃ a1 : Addr, r_ = some a1 ∧ ∃ x2 : Int, w.drew.cell? a1 = some (.int .u64 x2) ∧ 
  ∃ a3 : Addr, r_ = some a3 ∧ ∃ x4 : Int, w.drew.cell? a3 = some (.int .u64 x4) ∧ 
  0 ≤ (13 : Int) ∧ ∃ a5 : Addr, r_ = some a5 ∧ ∃ w6 : World, StoreAt a5 0 [.int .u64 (IntKind.u64.wrap ((BitVec.ofInt (IntKind.bits .u64) x2 ^^^ BitVec.ofInt (IntKind.bits .u64) (IntKind.u64.wrap (x4 * 2 ^ (min (13 : Int).toNat (IntKind.bits .u64))))).toNat))] w.drew w6 ∧ 
  ∃ a7 : Addr, r_ = some a7 ∧ ∃ x8 : Int, w6.drew.cell? a7 = some (.int .u64 x8) ∧ 
  ∃ a9 : Addr, r_ = some a9 ∧ ∃ x10 : Int, w6.drew.cell? a9 = some (.int .u64 x10) ∧ 
  0 ≤ (7 : Int) ∧ ∃ a11 : Addr, r_ = some a11 ∧ ∃ w12 : World, StoreAt a11 0 [.int .u64 (IntKind.u64.wrap ((BitVec.ofInt (IntKind.bits .u64) x8 ^^^ BitVec.ofInt (IntKind.bits .u64) (x10.fdiv (2 ^ (min (7 : Int).toNat (IntKind.bits .u64))))).toNat))] w6.drew w12 ∧ 
  ∃ a13 : Addr, r_ = some a13 ∧ ∃ x14 : Int, w12.drew.cell? a13 = some (.int .u64 x14) ∧ 
  ∃ a15 : Addr, r_ = some a15 ∧ ∃ x16 : Int, w12.drew.cell? a15 = some (.int .u64 x16) ∧ 
  0 ≤ (17 : Int) ∧ ∃ a17 : Addr, r_ = some a17 ∧ ∃ w18 : World, StoreAt a17 0 [.int .u64 (IntKind.u64.wrap ((BitVec.ofInt (IntKind.bits .u64) x14 ^^^ BitVec.ofInt (IntKind.bits .u64) (IntKind.u64.wrap (x16 * 2 ^ (min (17 : Int).toNat (IntKind.bits .u64))))).toNat))] w12.drew w18 ∧ 
  ∃ a19 : Addr, r_ = some a19 ∧ ∃ x20 : Int, w18.cell? a19 = some (.int .u64 x20) ∧ 
  K (.int .u64 x20) w18
theorem slices_xorshift_Next.eq (r_ : Option Addr) (w : World) (K : Value → World → Prop) : wpF Try.prog Try.f133 .leaf [.pointer r_] w K = slices_xorshift_Next.w r_ w K := by kernel_rfl
theorem slices_xorshift_Next.ok : fnOk Try.prog Try.f133 1 = true := by kernel_rfl
theorem slices_xorshift_Next.calls {r_ : Option Addr} {w : World} {R : Ending → World → Prop} (h : slices_xorshift_Next.w r_ w fun v w' => R (.returned v) w') : Calls Try.prog 133 #[.pointer r_] w R :=
  calls_of mixed Try.func133 slices_xorshift_Next.ok rfl (fun K => slices_xorshift_Next.eq r_ w K) h

/-! ### slices.medianAdjacentCmpFunc[int]: function 134 (named slots 138) -/
def slices_medianAdjacentCmpFunc_int.w (data__p : Option Addr) (data__n : Nat) (data__c : Nat) (a_ : Int) (swaps_ : Option Addr) (cmp_f : FuncId) (cmp_v : Array Value) (w : World) (K : Value → World → Prop) : Prop :=
  Calls Try.prog 135 #[.slice data__p data__n data__c, .int .i64 (IntKind.i64.wrap (a_ - (1 : Int))), .int .i64 a_, .int .i64 (IntKind.i64.wrap (a_ + (1 : Int))), .pointer swaps_, .func (.func cmp_f) #[] cmp_v] w fun e w1 => ∃ r2 : Int, e = .returned (.int .i64 r2) ∧ 
  K (.int .i64 r2) w1
theorem slices_medianAdjacentCmpFunc_int.eq (data__p : Option Addr) (data__n : Nat) (data__c : Nat) (a_ : Int) (swaps_ : Option Addr) (cmp_f : FuncId) (cmp_v : Array Value) (w : World) (K : Value → World → Prop) : wpF Try.prog Try.f134 .leaf [.slice data__p data__n data__c, .int .i64 a_, .pointer swaps_, .func (.func cmp_f) #[] cmp_v] w K = slices_medianAdjacentCmpFunc_int.w data__p data__n data__c a_ swaps_ cmp_f cmp_v w K := by kernel_rfl
theorem slices_medianAdjacentCmpFunc_int.ok : fnOk Try.prog Try.f134 4 = true := by kernel_rfl
theorem slices_medianAdjacentCmpFunc_int.calls {data__p : Option Addr} {data__n : Nat} {data__c : Nat} {a_ : Int} {swaps_ : Option Addr} {cmp_f : FuncId} {cmp_v : Array Value} {w : World} {R : Ending → World → Prop} (h : slices_medianAdjacentCmpFunc_int.w data__p data__n data__c a_ swaps_ cmp_f cmp_v w fun v w' => R (.returned v) w') : Calls Try.prog 134 #[.slice data__p data__n data__c, .int .i64 a_, .pointer swaps_, .func (.func cmp_f) #[] cmp_v] w R :=
  calls_of mixed Try.func134 slices_medianAdjacentCmpFunc_int.ok rfl (fun K => slices_medianAdjacentCmpFunc_int.eq data__p data__n data__c a_ swaps_ cmp_f cmp_v w K) h

/-! ### slices.medianCmpFunc[int]: function 135 (named slots 142) -/
def slices_medianCmpFunc_int.w (data__p : Option Addr) (data__n : Nat) (data__c : Nat) (a_ : Int) (b_ : Int) (c_ : Int) (swaps_ : Option Addr) (cmp_f : FuncId) (cmp_v : Array Value) (w : World) (K : Value → World → Prop) : Prop :=
  Calls Try.prog 136 #[.slice data__p data__n data__c, .int .i64 a_, .int .i64 b_, .pointer swaps_, .func (.func cmp_f) #[] cmp_v] w fun e w1 => ∃ r2 : Int, ∃ r3 : Int, e = .returned (.tuple #[.int .i64 r2, .int .i64 r3]) ∧ 
  Calls Try.prog 136 #[.slice data__p data__n data__c, .int .i64 r3, .int .i64 c_, .pointer swaps_, .func (.func cmp_f) #[] cmp_v] w1 fun e w4 => ∃ r5 : Int, ∃ r6 : Int, e = .returned (.tuple #[.int .i64 r5, .int .i64 r6]) ∧ 
  Calls Try.prog 136 #[.slice data__p data__n data__c, .int .i64 r2, .int .i64 r5, .pointer swaps_, .func (.func cmp_f) #[] cmp_v] w4 fun e w7 => ∃ r8 : Int, ∃ r9 : Int, e = .returned (.tuple #[.int .i64 r8, .int .i64 r9]) ∧ 
  K (.int .i64 r9) w7
theorem slices_medianCmpFunc_int.eq (data__p : Option Addr) (data__n : Nat) (data__c : Nat) (a_ : Int) (b_ : Int) (c_ : Int) (swaps_ : Option Addr) (cmp_f : FuncId) (cmp_v : Array Value) (w : World) (K : Value → World → Prop) : wpF Try.prog Try.f135 .leaf [.slice data__p data__n data__c, .int .i64 a_, .int .i64 b_, .int .i64 c_, .pointer swaps_, .func (.func cmp_f) #[] cmp_v] w K = slices_medianCmpFunc_int.w data__p data__n data__c a_ b_ c_ swaps_ cmp_f cmp_v w K := by kernel_rfl
theorem slices_medianCmpFunc_int.ok : fnOk Try.prog Try.f135 6 = true := by kernel_rfl
theorem slices_medianCmpFunc_int.calls {data__p : Option Addr} {data__n : Nat} {data__c : Nat} {a_ : Int} {b_ : Int} {c_ : Int} {swaps_ : Option Addr} {cmp_f : FuncId} {cmp_v : Array Value} {w : World} {R : Ending → World → Prop} (h : slices_medianCmpFunc_int.w data__p data__n data__c a_ b_ c_ swaps_ cmp_f cmp_v w fun v w' => R (.returned v) w') : Calls Try.prog 135 #[.slice data__p data__n data__c, .int .i64 a_, .int .i64 b_, .int .i64 c_, .pointer swaps_, .func (.func cmp_f) #[] cmp_v] w R :=
  calls_of mixed Try.func135 slices_medianCmpFunc_int.ok rfl (fun K => slices_medianCmpFunc_int.eq data__p data__n data__c a_ b_ c_ swaps_ cmp_f cmp_v w K) h

/-! ### slices.order2CmpFunc[int]: function 136 (named slots 144) -/
def slices_order2CmpFunc_int.w (data__p : Option Addr) (data__n : Nat) (data__c : Nat) (a_ : Int) (b_ : Int) (swaps_ : Option Addr) (cmp_f : FuncId) (cmp_v : Array Value) (w : World) (K : Value → World → Prop) : Prop :=
  ixK data__p data__n b_ 1 fun a1 =>
  ∃ x2 : Int, w.drew.cell? a1 = some (.int .i64 x2) ∧ 
  ixK data__p data__n a_ 1 fun a3 =>
  ∃ x4 : Int, w.drew.cell? a3 = some (.int .i64 x4) ∧ 
  cnd (entB Try.prog cmp_f) (Calls Try.prog cmp_f (#[] ++ #[.int .i64 x2, .int .i64 x4] ++ cmp_v) w.drew fun e w5 => ∃ r6 : Int, e = .returned (.int .i64 r6) ∧ 
  cnd (decide (r6 < (0 : Int)))
  (∃ a7 : Addr, swaps_ = some a7 ∧ ∃ x8 : Int, w5.cell? a7 = some (.int .i64 x8) ∧ 
    ∃ a9 : Addr, swaps_ = some a9 ∧ ∃ w10 : World, StoreAt a9 0 [.int .i64 (IntKind.i64.wrap (x8 + (1 : Int)))] w5 w10 ∧ 
    K (.tuple #[.int .i64 b_, .int .i64 a_]) w10)
  (K (.tuple #[.int .i64 a_, .int .i64 b_]) w5)) False
theorem slices_order2CmpFunc_int.eq (data__p : Option Addr) (data__n : Nat) (data__c : Nat) (a_ : Int) (b_ : Int) (swaps_ : Option Addr) (cmp_f : FuncId) (cmp_v : Array Value) (w : World) (K : Value → World → Prop) : wpF Try.prog Try.f136 .leaf [.slice data__p data__n data__c, .int .i64 a_, .int .i64 b_, .pointer swaps_, .func (.func cmp_f) #[] cmp_v] w K = slices_order2CmpFunc_int.w data__p data__n data__c a_ b_ swaps_ cmp_f cmp_v w K := by kernel_rfl
theorem slices_order2CmpFunc_int.ok : fnOk Try.prog Try.f136 5 = true := by kernel_rfl
theorem slices_order2CmpFunc_int.calls {data__p : Option Addr} {data__n : Nat} {data__c : Nat} {a_ : Int} {b_ : Int} {swaps_ : Option Addr} {cmp_f : FuncId} {cmp_v : Array Value} {w : World} {R : Ending → World → Prop} (h : slices_order2CmpFunc_int.w data__p data__n data__c a_ b_ swaps_ cmp_f cmp_v w fun v w' => R (.returned v) w') : Calls Try.prog 136 #[.slice data__p data__n data__c, .int .i64 a_, .int .i64 b_, .pointer swaps_, .func (.func cmp_f) #[] cmp_v] w R :=
  calls_of mixed Try.func136 slices_order2CmpFunc_int.ok rfl (fun K => slices_order2CmpFunc_int.eq data__p data__n data__c a_ b_ swaps_ cmp_f cmp_v w K) h


end Go.Proofs.Ytdaiolinnpligaa.W
