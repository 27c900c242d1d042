/- The functions that the statements reach, printed as what the frame asks of them, each checked by the kernel against the loaded text. -/
import Derived.Test.YtdaiolinnpligaaGenProp0
namespace Go.Proofs.Ytdaiolinnpligaa.W
open Go Go.Fw Go.Proofs
set_option linter.unusedVariables false
set_option maxRecDepth 100000
/-! ### (*fathom/prop.Prop).Run: function 19 (named slots 11) -/
def prop_Prop_Run.w (p_ : Option Addr) (w : World) (K : Value → World → Prop) : Prop :=
  cnd p_.isNone
  (K (.int .i64 (-1)) w)
  (∃ a1 : Addr, p_ = some a1 ∧ ∃ x2_p : Option Addr, ∃ x2_n : Nat, ∃ x2_c : Nat, w.cell? (a1.add 3) = some (.slice x2_p x2_n x2_c) ∧ 
  cnd x2_p.isNone
  (K (.int .i64 (-1)) w)
  (Calls Try.prog 59 #[.pointer p_] w fun e w3 => ∃ r4 : Int, e = .returned (.int .i64 r4) ∧ 
    cnd (decide (r4 ≥ (0 : Int)))
    (K (.int .i64 r4) w3)
    (∃ I5 : World → Nat → Prop, (∃ k6, I5 w3 k6) ∧
      ∀ (w8 : World) (k6 : Nat) (_ : Fr), I5 w8 k6 →
      ∃ a9 : Addr, p_ = some a9 ∧ ∃ x10 : Int, w8.drew.cell? (a9.add 9) = some (.int .i64 x10) ∧ 
        ∃ a11 : Addr, p_ = some a11 ∧ ∃ x12_p : Option Addr, ∃ x12_n : Nat, ∃ x12_c : Nat, w8.drew.cell? (a11.add 6) = some (.slice x12_p x12_n x12_c) ∧ 
        cnd (decide (x10 < (x12_n : Int)))
        (∃ a13 : Addr, p_ = some a13 ∧ ∃ x14_p : Option Addr, ∃ x14_n : Nat, ∃ x14_c : Nat, w8.drew.drew.cell? (a13.add 6) = some (.slice x14_p x14_n x14_c) ∧ 
          ∃ a15 : Addr, p_ = some a15 ∧ ∃ x16 : Int, w8.drew.drew.cell? (a15.add 9) = some (.int .i64 x16) ∧ 
          ixK x14_p x14_n x16 1 fun a17 =>
          ∃ x18 : Int, w8.drew.drew.cell? a17 = some (.int .i64 x18) ∧ 
          ∃ W19 : World → Prop, W19 w8.drew.drew.drew ∧ 
          ∃ a20 : Addr, p_ = some a20 ∧ ∃ x21_p : Option Addr, ∃ x21_n : Nat, ∃ x21_c : Nat, AtW W19 (a20.add 2) (.slice x21_p x21_n x21_c) ∧ 
          Calls Try.prog 60 #[.int .i64 (IntKind.i64.wrap (0 - x18))] w8.drew.drew.drew fun e w22 => ∃ r23 : Int, e = .returned (.int .i64 r23) ∧ 
          W19 w22 ∧ ixK x21_p x21_n r23 1 fun a24 =>
          ∃ x25_p : Option Addr, ∃ x25_n : Nat, ∃ x25_c : Nat, AtW W19 a24 (.slice x25_p x25_n x25_c) ∧ 
          ∃ I26 : Int → Int → World → Nat → Prop, (∃ k27, I26 0 0 w22 k27) ∧
          ∀ (kept_29 : Int) (v30 : Int) (w31 : World) (k27 : Nat) (_ : Fr), I26 kept_29 v30 w31 k27 →
          cnd (decide (v30 < (x25_n : Int)))
            (ixK x25_p x25_n v30 1 fun a32 =>
              ∃ x33 : Int, w31.cell? a32 = some (.int .i64 x33) ∧ 
              ∃ a34 : Addr, p_ = some a34 ∧ ∃ x35_p : Option Addr, ∃ x35_n : Nat, ∃ x35_c : Nat, w31.cell? (a34.add 1) = some (.slice x35_p x35_n x35_c) ∧ 
              ixK x35_p x35_n x33 3 fun a36 =>
              ∃ x37_p : Option Addr, ∃ x37_n : Nat, ∃ x37_c : Nat, w31.cell? (a36.add 1) = some (.slice x37_p x37_n x37_c) ∧ 
              cnd (decide ((x37_n : Int) < (2 : Int)))
              (ixK x25_p x25_n kept_29 1 fun a38 =>
                ∃ w39 : World, StoreAt a38 0 [.int .i64 x33] w31 w39 ∧ 
                ∃ k28, k28 < k27 ∧ I26 (IntKind.i64.wrap (kept_29 + (1 : Int))) (IntKind.i64.wrap (v30 + (1 : Int))) w39 k28)
              (Calls Try.prog 61 #[.pointer p_, .int .i64 x33, .int .i64 (IntKind.i64.wrap (0 - x18))] w31 fun e w40 => ∃ r41 : Bool, ∃ r42 : Bool, e = .returned (.tuple #[.bool r41, .bool r42]) ∧ 
                cnd r41
                (ixK x25_p x25_n kept_29 1 fun a43 =>
                  ∃ w44 : World, StoreAt a43 0 [.int .i64 x33] w40 w44 ∧ 
                  cnd r42
                  (slK x25_p x25_n x25_c 1 (some (IntKind.i64.wrap (kept_29 + (1 : Int)))) none none fun s45_p s45_n s45_c =>
                    slK x25_p x25_n x25_c 1 (some (IntKind.i64.wrap (v30 + (1 : Int)))) none none fun s46_p s46_n s46_c =>
                    ∃ w47 : World, ∃ r48 : Int, (Builtin.copy_ #[31, 31] 3 #[.slice s45_p s45_n s45_c, .slice s46_p s46_n s46_c]).run Try.prog w44.drew = .ok (.int .i64 r48) w47 ∧ 
                    ∃ W49 : World → Prop, W49 w47.drew ∧ 
                    ∃ a50 : Addr, p_ = some a50 ∧ ∃ x51_p : Option Addr, ∃ x51_n : Nat, ∃ x51_c : Nat, AtW W49 (a50.add 2) (.slice x51_p x51_n x51_c) ∧ 
                    Calls Try.prog 60 #[.int .i64 (IntKind.i64.wrap (0 - x18))] w47.drew fun e w52 => ∃ r53 : Int, e = .returned (.int .i64 r53) ∧ 
                    W49 w52 ∧ slK x25_p x25_n x25_c 1 none (some (IntKind.i64.wrap ((IntKind.i64.wrap (kept_29 + (1 : Int))) + r48))) none fun s54_p s54_n s54_c =>
                    ixK x51_p x51_n r53 1 fun a55 =>
                    ∃ w56 : World, StoreAt a55 0 [.slice s54_p s54_n s54_c] w52 w56 ∧ 
                    K (.int .i64 x33) w56)
                  (∃ k28, k28 < k27 ∧ I26 (IntKind.i64.wrap (kept_29 + (1 : Int))) (IntKind.i64.wrap (v30 + (1 : Int))) w44 k28))
                (cnd r42
                  (slK x25_p x25_n x25_c 1 (some kept_29) none none fun s57_p s57_n s57_c =>
                    slK x25_p x25_n x25_c 1 (some (IntKind.i64.wrap (v30 + (1 : Int)))) none none fun s58_p s58_n s58_c =>
                    ∃ w59 : World, ∃ r60 : Int, (Builtin.copy_ #[31, 31] 3 #[.slice s57_p s57_n s57_c, .slice s58_p s58_n s58_c]).run Try.prog w40.drew = .ok (.int .i64 r60) w59 ∧ 
                    ∃ W61 : World → Prop, W61 w59.drew ∧ 
                    ∃ a62 : Addr, p_ = some a62 ∧ ∃ x63_p : Option Addr, ∃ x63_n : Nat, ∃ x63_c : Nat, AtW W61 (a62.add 2) (.slice x63_p x63_n x63_c) ∧ 
                    Calls Try.prog 60 #[.int .i64 (IntKind.i64.wrap (0 - x18))] w59.drew fun e w64 => ∃ r65 : Int, e = .returned (.int .i64 r65) ∧ 
                    W61 w64 ∧ slK x25_p x25_n x25_c 1 none (some (IntKind.i64.wrap (kept_29 + r60))) none fun s66_p s66_n s66_c =>
                    ixK x63_p x63_n r65 1 fun a67 =>
                    ∃ w68 : World, StoreAt a67 0 [.slice s66_p s66_n s66_c] w64 w68 ∧ 
                    K (.int .i64 x33) w68)
                  (∃ k28, k28 < k27 ∧ I26 kept_29 (IntKind.i64.wrap (v30 + (1 : Int))) w40 k28))))
            (∃ W69 : World → Prop, W69 w31.drew ∧ 
              ∃ a70 : Addr, p_ = some a70 ∧ ∃ x71_p : Option Addr, ∃ x71_n : Nat, ∃ x71_c : Nat, AtW W69 (a70.add 2) (.slice x71_p x71_n x71_c) ∧ 
              Calls Try.prog 60 #[.int .i64 (IntKind.i64.wrap (0 - x18))] w31.drew fun e w72 => ∃ r73 : Int, e = .returned (.int .i64 r73) ∧ 
              W69 w72 ∧ slK x25_p x25_n x25_c 1 none (some kept_29) none fun s74_p s74_n s74_c =>
              ixK x71_p x71_n r73 1 fun a75 =>
              ∃ w76 : World, StoreAt a75 0 [.slice s74_p s74_n s74_c] w72 w76 ∧ 
              ∃ a77 : Addr, p_ = some a77 ∧ ∃ x78 : Int, w76.cell? (a77.add 9) = some (.int .i64 x78) ∧ 
              ∃ a79 : Addr, p_ = some a79 ∧ ∃ w80 : World, StoreAt (a79.add 9) 0 [.int .i64 (IntKind.i64.wrap (x78 + (1 : Int)))] w76 w80 ∧ 
              ∃ k7, k7 < k6 ∧ I5 w80 k7))
        (K (.int .i64 (-1)) w8.drew))))
theorem prop_Prop_Run.eq (p_ : Option Addr) (w : World) (K : Value → World → Prop) : wpF Try.prog Try.f19 (.two .leaf (.one (.two .leaf (.two .leaf (.two .leaf (.two (.one (.loop [] (.two .leaf (.one (.two .leaf (.two .draw (.two .leaf (.two (.two .leaf (.one (.loop [(6, 3), (56, 3)] (.two .leaf (.two .leaf (.two (.one (.two .leaf (.two .leaf (.two .leaf (.two .leaf (.two .leaf (.two (.two .leaf (.two .draw .leaf)) .leaf))))))) .leaf)))))) (.two .draw .leaf))))))))) .leaf)))))) [.pointer p_] w K = prop_Prop_Run.w p_ w K := by kernel_rfl
theorem prop_Prop_Run.ok : fnOk Try.prog Try.f19 1 = true := by kernel_rfl
theorem prop_Prop_Run.calls {p_ : Option Addr} {w : World} {R : Ending → World → Prop} (h : prop_Prop_Run.w p_ w fun v w' => R (.returned v) w') : Calls Try.prog 19 #[.pointer p_] w R :=
  calls_of mixed Try.func19 prop_Prop_Run.ok rfl (fun K => prop_Prop_Run.eq p_ w K) h

/-! ### (*fathom/prop.Prop).Trail: function 20 (named slots 3) -/
def prop_Prop_Trail.w (p_ : Option Addr) (w : World) (K : Value → World → Prop) : Prop :=
  cnd p_.isNone
  (K (.slice none 0 0) w)
  (∃ a1 : Addr, p_ = some a1 ∧ ∃ x2_p : Option Addr, ∃ x2_n : Nat, ∃ x2_c : Nat, w.cell? (a1.add 6) = some (.slice x2_p x2_n x2_c) ∧ 
    Calls Try.prog 62 #[.slice x2_p x2_n x2_c] w fun e w3 => ∃ r4_p : Option Addr, ∃ r4_n : Nat, ∃ r4_c : Nat, e = .returned (.slice r4_p r4_n r4_c) ∧ 
    K (.slice r4_p r4_n r4_c) w3)
theorem prop_Prop_Trail.eq (p_ : Option Addr) (w : World) (K : Value → World → Prop) : wpF Try.prog Try.f20 .leaf [.pointer p_] w K = prop_Prop_Trail.w p_ w K := by kernel_rfl
theorem prop_Prop_Trail.ok : fnOk Try.prog Try.f20 1 = true := by kernel_rfl
theorem prop_Prop_Trail.calls {p_ : Option Addr} {w : World} {R : Ending → World → Prop} (h : prop_Prop_Trail.w p_ w fun v w' => R (.returned v) w') : Calls Try.prog 20 #[.pointer p_] w R :=
  calls_of mixed Try.func20 prop_Prop_Trail.ok rfl (fun K => prop_Prop_Trail.eq p_ w K) h

/-! ### fathom/fathomref01.Ints: function 21 (named slots 6) -/
def fathomref01_Ints.w (a__p : Option Addr) (a__n : Nat) (a__c : Nat) (b__p : Option Addr) (b__n : Nat) (b__c : Nat) (w : World) (K : Value → World → Prop) : Prop :=
  cnd ((a__n : Int) != (b__n : Int))
  (K (.bool false) w)
  (∃ I1 : Int → World → Nat → Prop, (∃ k2, I1 0 w k2) ∧
    ∀ (i_4 : Int) (w5 : World) (k2 : Nat) (_ : Fr), I1 i_4 w5 k2 →
    cnd (decide (i_4 < (a__n : Int)))
      (ixK a__p a__n i_4 1 fun a6 =>
        ∃ x7 : Int, w5.drew.cell? a6 = some (.int .i64 x7) ∧ 
        ixK b__p b__n i_4 1 fun a8 =>
        ∃ x9 : Int, w5.drew.cell? a8 = some (.int .i64 x9) ∧ 
        cnd (x7 != x9)
        (K (.bool false) w5.drew)
        (∃ k3, k3 < k2 ∧ I1 (IntKind.i64.wrap (i_4 + (1 : Int))) w5.drew k3))
      (K (.bool true) w5))
theorem fathomref01_Ints.eq (a__p : Option Addr) (a__n : Nat) (a__c : Nat) (b__p : Option Addr) (b__n : Nat) (b__c : Nat) (w : World) (K : Value → World → Prop) : wpF Try.prog Try.f21 (.two .leaf (.two .leaf (.two (.two .leaf (.one (.loop [(5, 3)] .leaf))) .leaf))) [.slice a__p a__n a__c, .slice b__p b__n b__c] w K = fathomref01_Ints.w a__p a__n a__c b__p b__n b__c w K := by kernel_rfl
theorem fathomref01_Ints.ok : fnOk Try.prog Try.f21 2 = true := by kernel_rfl
theorem fathomref01_Ints.calls {a__p : Option Addr} {a__n : Nat} {a__c : Nat} {b__p : Option Addr} {b__n : Nat} {b__c : Nat} {w : World} {R : Ending → World → Prop} (h : fathomref01_Ints.w a__p a__n a__c b__p b__n b__c w fun v w' => R (.returned v) w') : Calls Try.prog 21 #[.slice a__p a__n a__c, .slice b__p b__n b__c] w R :=
  calls_of mixed Try.func21 fathomref01_Ints.ok rfl (fun K => fathomref01_Ints.eq a__p a__n a__c b__p b__n b__c w K) h

/-! ### fathom/fathomlaw06.there: function 22 (named slots 5) -/
def fathomlaw06_there.w (w0_0 : Option Addr) (w0_1 : Int) (w0_2_p : Option Addr) (w0_2_n : Nat) (w0_2_c : Nat) (w0_3_p : Option Addr) (w0_3_n : Nat) (w0_3_c : Nat) (w0_4_p : Option Addr) (w0_4_n : Nat) (w0_4_c : Nat) (w : World) (K : Value → World → Prop) : Prop :=
  ∀ (n1 : Nat) (w2 : World), New (.cells #[.pointer w0_0, .int .i64 w0_1, .slice w0_2_p w0_2_n w0_2_c, .slice w0_3_p w0_3_n w0_3_c, .slice w0_4_p w0_4_n w0_4_c] 33) w n1 w2 → 
  ∀ (n3 : Nat) (w4 : World), New (.cells #[] 31) w2 n3 w4 → 
  ∃ I5 : Option Addr → Nat → Nat → Int → World → Nat → Prop, (∃ k6, I5 (some (Addr.mk n3 0 none)) 0 0 0 w4 k6) ∧
  ∀ (out_8_p : Option Addr) (out_8_n : Nat) (out_8_c : Nat) (i_9 : Int) (w10 : World) (k6 : Nat) (_ : Fr), I5 out_8_p out_8_n out_8_c i_9 w10 k6 →
  ∃ x11_p : Option Addr, ∃ x11_n : Nat, ∃ x11_c : Nat, w10.cell? ((Addr.mk n1 0 none).add 2) = some (.slice x11_p x11_n x11_c) ∧ 
    cnd (decide (i_9 < (x11_n : Int)))
    (∃ x12_p : Option Addr, ∃ x12_n : Nat, ∃ x12_c : Nat, w10.cell? ((Addr.mk n1 0 none).add 3) = some (.slice x12_p x12_n x12_c) ∧ 
      ixK x12_p x12_n i_9 1 fun a13 =>
      ∃ x14 : Bool, w10.cell? a13 = some (.bool x14) ∧ 
      cnd (!x14)
      (∃ x15_p : Option Addr, ∃ x15_n : Nat, ∃ x15_c : Nat, w10.cell? ((Addr.mk n1 0 none).add 2) = some (.slice x15_p x15_n x15_c) ∧ 
        ixK x15_p x15_n i_9 1 fun a16 =>
        ∃ x17_p : Option Addr, ∃ x17_n : Nat, ∃ x17_c : Nat, w10.cell? a16 = some (.slice x17_p x17_n x17_c) ∧ 
        ∀ (n18 : Nat) (w19 : World), New (.cells #[.slice x17_p x17_n x17_c] 31) w10 n18 w19 → 
        ∃ w20 : World, ∃ r21_p : Option Addr, ∃ r21_n : Nat, ∃ r21_c : Nat, (Builtin.append_ #[22, 22] 22 #[.slice out_8_p out_8_n out_8_c, .slice (some (Addr.mk n18 0 none)) 1 1]).run Try.prog w19 = .ok (.slice r21_p r21_n r21_c) w20 ∧ 
        ∃ k7, k7 < k6 ∧ I5 r21_p r21_n r21_c (IntKind.i64.wrap (i_9 + (1 : Int))) w20 k7)
      (∃ k7, k7 < k6 ∧ I5 out_8_p out_8_n out_8_c (IntKind.i64.wrap (i_9 + (1 : Int))) w10 k7))
    (K (.slice out_8_p out_8_n out_8_c) w10)
theorem fathomlaw06_there.eq (w0_0 : Option Addr) (w0_1 : Int) (w0_2_p : Option Addr) (w0_2_n : Nat) (w0_2_c : Nat) (w0_3_p : Option Addr) (w0_3_n : Nat) (w0_3_c : Nat) (w0_4_p : Option Addr) (w0_4_n : Nat) (w0_4_c : Nat) (w : World) (K : Value → World → Prop) : wpF Try.prog Try.f22 (.two .leaf (.two .leaf (.two (.two .leaf (.one (.loop [(3, 22), (4, 3)] .leaf))) .leaf))) [.agg #[.pointer w0_0, .int .i64 w0_1, .slice w0_2_p w0_2_n w0_2_c, .slice w0_3_p w0_3_n w0_3_c, .slice w0_4_p w0_4_n w0_4_c]] w K = fathomlaw06_there.w w0_0 w0_1 w0_2_p w0_2_n w0_2_c w0_3_p w0_3_n w0_3_c w0_4_p w0_4_n w0_4_c w K := by kernel_rfl
theorem fathomlaw06_there.ok : fnOk Try.prog Try.f22 1 = true := by kernel_rfl
theorem fathomlaw06_there.calls {w0_0 : Option Addr} {w0_1 : Int} {w0_2_p : Option Addr} {w0_2_n : Nat} {w0_2_c : Nat} {w0_3_p : Option Addr} {w0_3_n : Nat} {w0_3_c : Nat} {w0_4_p : Option Addr} {w0_4_n : Nat} {w0_4_c : Nat} {w : World} {R : Ending → World → Prop} (h : fathomlaw06_there.w w0_0 w0_1 w0_2_p w0_2_n w0_2_c w0_3_p w0_3_n w0_3_c w0_4_p w0_4_n w0_4_c w fun v w' => R (.returned v) w') : Calls Try.prog 22 #[.agg #[.pointer w0_0, .int .i64 w0_1, .slice w0_2_p w0_2_n w0_2_c, .slice w0_3_p w0_3_n w0_3_c, .slice w0_4_p w0_4_n w0_4_c]] w R :=
  calls_of mixed Try.func22 fathomlaw06_there.ok rfl (fun K => fathomlaw06_there.eq w0_0 w0_1 w0_2_p w0_2_n w0_2_c w0_3_p w0_3_n w0_3_c w0_4_p w0_4_n w0_4_c w K) h

/-! ### fathom/fathomref06.Alike: function 23 (named slots 7) -/
def fathomref06_Alike.w (a__p : Option Addr) (a__n : Nat) (a__c : Nat) (b__p : Option Addr) (b__n : Nat) (b__c : Nat) (w : World) (K : Value → World → Prop) : Prop :=
  ∃ I1 : Int → World → Nat → Prop, (∃ k2, I1 0 w k2) ∧
  ∀ (i_4 : Int) (w5 : World) (k2 : Nat) (_ : Fr), I1 i_4 w5 k2 →
  cnd (decide (i_4 < (a__n : Int)))
    (ixK a__p a__n i_4 1 fun a6 =>
      ∃ x7 : Int, w5.cell? a6 = some (.int .i64 x7) ∧ 
      Calls Try.prog 63 #[.slice b__p b__n b__c, .int .i64 x7] w5 fun e w8 => ∃ r9 : Bool, e = .returned (.bool r9) ∧ 
      cnd (!r9)
      (K (.bool false) w8)
      (∃ k3, k3 < k2 ∧ I1 (IntKind.i64.wrap (i_4 + (1 : Int))) w8 k3))
    (∃ I10 : Int → World → Nat → Prop, (∃ k11, I10 0 w5 k11) ∧
      ∀ (i_13 : Int) (w14 : World) (k11 : Nat) (_ : Fr), I10 i_13 w14 k11 →
      cnd (decide (i_13 < (b__n : Int)))
        (ixK b__p b__n i_13 1 fun a15 =>
          ∃ x16 : Int, w14.cell? a15 = some (.int .i64 x16) ∧ 
          Calls Try.prog 63 #[.slice a__p a__n a__c, .int .i64 x16] w14 fun e w17 => ∃ r18 : Bool, e = .returned (.bool r18) ∧ 
          cnd (!r18)
          (K (.bool false) w17)
          (∃ k12, k12 < k11 ∧ I10 (IntKind.i64.wrap (i_13 + (1 : Int))) w17 k12))
        (K (.bool ((a__n : Int) == (b__n : Int))) w14))
theorem fathomref06_Alike.eq (a__p : Option Addr) (a__n : Nat) (a__c : Nat) (b__p : Option Addr) (b__n : Nat) (b__c : Nat) (w : World) (K : Value → World → Prop) : wpF Try.prog Try.f23 (.two .leaf (.two (.two .leaf (.one (.loop [(5, 3)] .leaf))) (.two (.two .leaf (.one (.loop [(6, 3)] .leaf))) .leaf))) [.slice a__p a__n a__c, .slice b__p b__n b__c] w K = fathomref06_Alike.w a__p a__n a__c b__p b__n b__c w K := by kernel_rfl
theorem fathomref06_Alike.ok : fnOk Try.prog Try.f23 2 = true := by kernel_rfl
theorem fathomref06_Alike.calls {a__p : Option Addr} {a__n : Nat} {a__c : Nat} {b__p : Option Addr} {b__n : Nat} {b__c : Nat} {w : World} {R : Ending → World → Prop} (h : fathomref06_Alike.w a__p a__n a__c b__p b__n b__c w fun v w' => R (.returned v) w') : Calls Try.prog 23 #[.slice a__p a__n a__c, .slice b__p b__n b__c] w R :=
  calls_of mixed Try.func23 fathomref06_Alike.ok rfl (fun K => fathomref06_Alike.eq a__p a__n a__c b__p b__n b__c w K) h

/-! ### fathom/fathomref01.Holds: function 24 (named slots 6) -/
def fathomref01_Holds.w (f_0 : Int) (f_1_p : Option Addr) (f_1_n : Nat) (f_1_c : Nat) (m__p : Option Addr) (m__n : Nat) (m__c : Nat) (w : World) (K : Value → World → Prop) : Prop :=
  ∀ (n1 : Nat) (w2 : World), New (.cells #[.int .i64 f_0, .slice f_1_p f_1_n f_1_c] 24) w n1 w2 → 
  ∃ I3 : Int → World → Nat → Prop, (∃ k4, I3 0 w2 k4) ∧
  ∀ (i_6 : Int) (w7 : World) (k4 : Nat) (_ : Fr), I3 i_6 w7 k4 →
  ∃ x8_p : Option Addr, ∃ x8_n : Nat, ∃ x8_c : Nat, w7.cell? ((Addr.mk n1 0 none).add 1) = some (.slice x8_p x8_n x8_c) ∧ 
    cnd (decide (i_6 < (x8_n : Int)))
    (∃ x9_p : Option Addr, ∃ x9_n : Nat, ∃ x9_c : Nat, w7.cell? ((Addr.mk n1 0 none).add 1) = some (.slice x9_p x9_n x9_c) ∧ 
      ixK x9_p x9_n i_6 1 fun a10 =>
      ∃ x11_p : Option Addr, ∃ x11_n : Nat, ∃ x11_c : Nat, w7.cell? a10 = some (.slice x11_p x11_n x11_c) ∧ 
      Calls Try.prog 46 #[.slice m__p m__n m__c, .slice x11_p x11_n x11_c] w7 fun e w12 => ∃ r13 : Int, e = .returned (.int .i64 r13) ∧ 
      cnd (r13 != (1 : Int))
      (K (.bool false) w12)
      (∃ k5, k5 < k4 ∧ I3 (IntKind.i64.wrap (i_6 + (1 : Int))) w12 k5))
    (K (.bool true) w7)
theorem fathomref01_Holds.eq (f_0 : Int) (f_1_p : Option Addr) (f_1_n : Nat) (f_1_c : Nat) (m__p : Option Addr) (m__n : Nat) (m__c : Nat) (w : World) (K : Value → World → Prop) : wpF Try.prog Try.f24 (.two .leaf (.two (.two .leaf (.one (.loop [(5, 3)] .leaf))) .leaf)) [.agg #[.int .i64 f_0, .slice f_1_p f_1_n f_1_c], .slice m__p m__n m__c] w K = fathomref01_Holds.w f_0 f_1_p f_1_n f_1_c m__p m__n m__c w K := by kernel_rfl
theorem fathomref01_Holds.ok : fnOk Try.prog Try.f24 2 = true := by kernel_rfl
theorem fathomref01_Holds.calls {f_0 : Int} {f_1_p : Option Addr} {f_1_n : Nat} {f_1_c : Nat} {m__p : Option Addr} {m__n : Nat} {m__c : Nat} {w : World} {R : Ending → World → Prop} (h : fathomref01_Holds.w f_0 f_1_p f_1_n f_1_c m__p m__n m__c w fun v w' => R (.returned v) w') : Calls Try.prog 24 #[.agg #[.int .i64 f_0, .slice f_1_p f_1_n f_1_c], .slice m__p m__n m__c] w R :=
  calls_of mixed Try.func24 fathomref01_Holds.ok rfl (fun K => fathomref01_Holds.eq f_0 f_1_p f_1_n f_1_c m__p m__n m__c w K) h

/-! ### fathom/fathomlaw06.open: function 25 (named slots 5) -/
def fathomlaw06_open.w (w0_0 : Option Addr) (w0_1 : Int) (w0_2_p : Option Addr) (w0_2_n : Nat) (w0_2_c : Nat) (w0_3_p : Option Addr) (w0_3_n : Nat) (w0_3_c : Nat) (w0_4_p : Option Addr) (w0_4_n : Nat) (w0_4_c : Nat) (l_ : Int) (w : World) (K : Value → World → Prop) : Prop :=
  ∀ (n1 : Nat) (w2 : World), New (.cells #[.pointer w0_0, .int .i64 w0_1, .slice w0_2_p w0_2_n w0_2_c, .slice w0_3_p w0_3_n w0_3_c, .slice w0_4_p w0_4_n w0_4_c] 33) w n1 w2 → 
  ∃ W3 : World → Prop, W3 w2.drew ∧ 
  Calls Try.prog 64 #[.int .i64 l_] w2.drew fun e w4 => ∃ r5 : Bool, e = .returned (.bool r5) ∧ 
  W3 w4 ∧ cnd r5
  (Calls Try.prog 56 #[.int .i64 l_] w4 fun e w6 => ∃ r7 : Int, e = .returned (.int .i64 r7) ∧ 
  W3 w6 ∧ ∃ x8 : Int, AtW W3 ((Addr.mk n1 0 none).add 1) (.int .i64 x8) ∧ 
  cnd (decide (r7 ≤ x8))
  (∃ x9 : Option Addr, AtW W3 ((Addr.mk n1 0 none).add 0) (.pointer x9) ∧ 
  Calls Try.prog 20 #[.pointer x9] w6 fun e w10 => ∃ r11_p : Option Addr, ∃ r11_n : Nat, ∃ r11_c : Nat, e = .returned (.slice r11_p r11_n r11_c) ∧ 
  W3 w10 ∧ Calls Try.prog 63 #[.slice r11_p r11_n r11_c, .int .i64 l_] w10 fun e w12 => ∃ r13 : Bool, e = .returned (.bool r13) ∧ 
  W3 w12 ∧ cnd (!r13)
  (∃ x14 : Option Addr, AtW W3 ((Addr.mk n1 0 none).add 0) (.pointer x14) ∧ 
  Calls Try.prog 20 #[.pointer x14] w12 fun e w15 => ∃ r16_p : Option Addr, ∃ r16_n : Nat, ∃ r16_c : Nat, e = .returned (.slice r16_p r16_n r16_c) ∧ 
  Calls Try.prog 63 #[.slice r16_p r16_n r16_c, .int .i64 (IntKind.i64.wrap (0 - l_))] w15 fun e w17 => ∃ r18 : Bool, e = .returned (.bool r18) ∧ 
  K (.bool (!r18)) w17)
  (K (.bool false) w12))
  (K (.bool false) w6))
  (K (.bool false) w4)
theorem fathomlaw06_open.eq (w0_0 : Option Addr) (w0_1 : Int) (w0_2_p : Option Addr) (w0_2_n : Nat) (w0_2_c : Nat) (w0_3_p : Option Addr) (w0_3_n : Nat) (w0_3_c : Nat) (w0_4_p : Option Addr) (w0_4_n : Nat) (w0_4_c : Nat) (l_ : Int) (w : World) (K : Value → World → Prop) : wpF Try.prog Try.f25 (.two .leaf (.two .draw .leaf)) [.agg #[.pointer w0_0, .int .i64 w0_1, .slice w0_2_p w0_2_n w0_2_c, .slice w0_3_p w0_3_n w0_3_c, .slice w0_4_p w0_4_n w0_4_c], .int .i64 l_] w K = fathomlaw06_open.w w0_0 w0_1 w0_2_p w0_2_n w0_2_c w0_3_p w0_3_n w0_3_c w0_4_p w0_4_n w0_4_c l_ w K := by kernel_rfl
theorem fathomlaw06_open.ok : fnOk Try.prog Try.f25 2 = true := by kernel_rfl
theorem fathomlaw06_open.calls {w0_0 : Option Addr} {w0_1 : Int} {w0_2_p : Option Addr} {w0_2_n : Nat} {w0_2_c : Nat} {w0_3_p : Option Addr} {w0_3_n : Nat} {w0_3_c : Nat} {w0_4_p : Option Addr} {w0_4_n : Nat} {w0_4_c : Nat} {l_ : Int} {w : World} {R : Ending → World → Prop} (h : fathomlaw06_open.w w0_0 w0_1 w0_2_p w0_2_n w0_2_c w0_3_p w0_3_n w0_3_c w0_4_p w0_4_n w0_4_c l_ w fun v w' => R (.returned v) w') : Calls Try.prog 25 #[.agg #[.pointer w0_0, .int .i64 w0_1, .slice w0_2_p w0_2_n w0_2_c, .slice w0_3_p w0_3_n w0_3_c, .slice w0_4_p w0_4_n w0_4_c], .int .i64 l_] w R :=
  calls_of mixed Try.func25 fathomlaw06_open.ok rfl (fun K => fathomlaw06_open.eq w0_0 w0_1 w0_2_p w0_2_n w0_2_c w0_3_p w0_3_n w0_3_c w0_4_p w0_4_n w0_4_c l_ w K) h

/-! ### fathom/fathomref01.Value: function 26 (named slots 5) -/
def fathomref01_Value.w (m__p : Option Addr) (m__n : Nat) (m__c : Nat) (l_ : Int) (w : World) (K : Value → World → Prop) : Prop :=
  Calls Try.prog 64 #[.int .i64 l_] w fun e w1 => ∃ r2 : Bool, e = .returned (.bool r2) ∧ 
  cnd (!r2)
  (K (.int .i64 0) w1)
  (Calls Try.prog 56 #[.int .i64 l_] w1 fun e w3 => ∃ r4 : Int, e = .returned (.int .i64 r4) ∧ 
  cnd (decide (r4 > (m__n : Int)))
  (K (.int .i64 0) w3)
  (Calls Try.prog 56 #[.int .i64 l_] w3 fun e w5 => ∃ r6 : Int, e = .returned (.int .i64 r6) ∧ 
  ixK m__p m__n (IntKind.i64.wrap (r6 - (1 : Int))) 1 fun a7 =>
  ∃ x8 : Int, w5.cell? a7 = some (.int .i64 x8) ∧ 
  cnd (x8 == (0 : Int))
  (K (.int .i64 0) w5)
  (Calls Try.prog 56 #[.int .i64 l_] w5 fun e w9 => ∃ r10 : Int, e = .returned (.int .i64 r10) ∧ 
    ixK m__p m__n (IntKind.i64.wrap (r10 - (1 : Int))) 1 fun a11 =>
    ∃ x12 : Int, w9.cell? a11 = some (.int .i64 x12) ∧ 
    cnd ((decide (x12 > (0 : Int))) == (decide (l_ > (0 : Int))))
    (K (.int .i64 1) w9)
    (K (.int .i64 (-1)) w9))))
theorem fathomref01_Value.eq (m__p : Option Addr) (m__n : Nat) (m__c : Nat) (l_ : Int) (w : World) (K : Value → World → Prop) : wpF Try.prog Try.f26 .leaf [.slice m__p m__n m__c, .int .i64 l_] w K = fathomref01_Value.w m__p m__n m__c l_ w K := by kernel_rfl
theorem fathomref01_Value.ok : fnOk Try.prog Try.f26 2 = true := by kernel_rfl
theorem fathomref01_Value.calls {m__p : Option Addr} {m__n : Nat} {m__c : Nat} {l_ : Int} {w : World} {R : Ending → World → Prop} (h : fathomref01_Value.w m__p m__n m__c l_ w fun v w' => R (.returned v) w') : Calls Try.prog 26 #[.slice m__p m__n m__c, .int .i64 l_] w R :=
  calls_of mixed Try.func26 fathomref01_Value.ok rfl (fun K => fathomref01_Value.eq m__p m__n m__c l_ w K) h

/-! ### fathom/prop.New: function 27 (named slots 8) cuts [(24, 16)] -/
def prop_New.w (f_0 : Int) (f_1_p : Option Addr) (f_1_n : Nat) (f_1_c : Nat) (w : World) (K : Value → World → Prop) : Prop :=
  ∀ (n1 : Nat) (w2 : World), New (.cells #[.int .i64 f_0, .slice f_1_p f_1_n f_1_c] 24) w n1 w2 → 
  ∃ x3 : Int, ∃ x4_p : Option Addr, ∃ x4_n : Nat, ∃ x4_c : Nat, CellsAt w2 (Addr.mk n1 0 none) 0 [.int .i64 x3, .slice x4_p x4_n x4_c] ∧ 
  Calls Try.prog 65 #[.agg #[.int .i64 x3, .slice x4_p x4_n x4_c]] w2 fun e w5 => ∃ r6 : Int, e = .returned (.int .i64 r6) ∧ 
  cnd (r6 != (0 : Int))
  (K (.tuple #[.pointer none, .int .i64 1]) w5)
  (∃ x7 : Int, w5.cell? ((Addr.mk n1 0 none).add 0) = some (.int .i64 x7) ∧ 
    ∃ J8 : Option Addr → World → Prop, (∃ W9 : World → Prop, W9 w5.drew ∧ 
    ∃ x10 : Int, AtW W9 ((Addr.mk n1 0 none).add 0) (.int .i64 x10) ∧ 
    (∃ w11 : World, ∃ r12_p : Option Addr, ∃ r12_n : Nat, ∃ r12_c : Nat, (Instr.makeSlice 22 (.int .i64 (IntKind.i64.wrap ((2 : Int) * (IntKind.i64.wrap (x7 + (1 : Int)))))) (.int .i64 (IntKind.i64.wrap ((2 : Int) * (IntKind.i64.wrap (x7 + (1 : Int))))))).run Try.prog w5.drew = .ok (.slice r12_p r12_n r12_c) w11 ∧ 
    W9 w11 ∧ (∃ w13 : World, ∃ r14_p : Option Addr, ∃ r14_n : Nat, ∃ r14_c : Nat, (Instr.makeSlice 53 (.int .i64 (IntKind.i64.wrap (x7 + (1 : Int)))) (.int .i64 (IntKind.i64.wrap (x7 + (1 : Int))))).run Try.prog w11 = .ok (.slice r14_p r14_n r14_c) w13 ∧ 
    W9 w13 ∧ (∃ w15 : World, ∃ r16_p : Option Addr, ∃ r16_n : Nat, ∃ r16_c : Nat, (Instr.makeSlice 31 (.int .i64 (IntKind.i64.wrap (x7 + (1 : Int)))) (.int .i64 (IntKind.i64.wrap (x7 + (1 : Int))))).run Try.prog w13 = .ok (.slice r16_p r16_n r16_c) w15 ∧ 
    W9 w15 ∧ ∃ w17 : World, ∃ r18_p : Option Addr, ∃ r18_n : Nat, ∃ r18_c : Nat, (Instr.makeSlice 31 (.int .i64 (IntKind.i64.wrap (x7 + (1 : Int)))) (.int .i64 (IntKind.i64.wrap (x7 + (1 : Int))))).run Try.prog w15 = .ok (.slice r18_p r18_n r18_c) w17 ∧ 
    W9 w17 ∧ ∀ (n19 : Nat) (w20 : World), New (.cells #[.int .i64 x10, .slice none 0 0, .slice r12_p r12_n r12_c, .slice r14_p r14_n r14_c, .slice r16_p r16_n r16_c, .slice r18_p r18_n r18_c, .slice none 0 0, .slice none 0 0, .slice none 0 0, .int .i64 0, .slice none 0 0] 55) w17 n19 w20 → 
    J8 (some (Addr.mk n19 0 none)) w20) ∧
  (∃ w21 : World, ∃ r22_p : Option Addr, ∃ r22_n : Nat, ∃ r22_c : Nat, (Instr.makeSlice 31 (.int .i64 (IntKind.i64.wrap (x7 + (1 : Int)))) (.int .i64 (IntKind.i64.wrap (x7 + (1 : Int))))).run Try.prog w13 = .ok (.slice r22_p r22_n r22_c) w21 ∧ 
    W9 w21 ∧ ∃ w23 : World, ∃ r24_p : Option Addr, ∃ r24_n : Nat, ∃ r24_c : Nat, (Instr.makeSlice 31 (.int .i64 (IntKind.i64.wrap (x7 + (1 : Int)))) (.int .i64 (IntKind.i64.wrap (x7 + (1 : Int))))).run Try.prog w21 = .ok (.slice r24_p r24_n r24_c) w23 ∧ 
    W9 w23 ∧ ∀ (n25 : Nat) (w26 : World), New (.cells #[.int .i64 x10, .slice none 0 0, .slice r12_p r12_n r12_c, .slice r14_p r14_n r14_c, .slice r24_p r24_n r24_c, .slice r22_p r22_n r22_c, .slice none 0 0, .slice none 0 0, .slice none 0 0, .int .i64 0, .slice none 0 0] 55) w23 n25 w26 → 
    J8 (some (Addr.mk n25 0 none)) w26)) ∧
  (∃ w27 : World, ∃ r28_p : Option Addr, ∃ r28_n : Nat, ∃ r28_c : Nat, (Instr.makeSlice 31 (.int .i64 (IntKind.i64.wrap (x7 + (1 : Int)))) (.int .i64 (IntKind.i64.wrap (x7 + (1 : Int))))).run Try.prog w11 = .ok (.slice r28_p r28_n r28_c) w27 ∧ 
    W9 w27 ∧ (∃ w29 : World, ∃ r30_p : Option Addr, ∃ r30_n : Nat, ∃ r30_c : Nat, (Instr.makeSlice 53 (.int .i64 (IntKind.i64.wrap (x7 + (1 : Int)))) (.int .i64 (IntKind.i64.wrap (x7 + (1 : Int))))).run Try.prog w27 = .ok (.slice r30_p r30_n r30_c) w29 ∧ 
    W9 w29 ∧ ∃ w31 : World, ∃ r32_p : Option Addr, ∃ r32_n : Nat, ∃ r32_c : Nat, (Instr.makeSlice 31 (.int .i64 (IntKind.i64.wrap (x7 + (1 : Int)))) (.int .i64 (IntKind.i64.wrap (x7 + (1 : Int))))).run Try.prog w29 = .ok (.slice r32_p r32_n r32_c) w31 ∧ 
    W9 w31 ∧ ∀ (n33 : Nat) (w34 : World), New (.cells #[.int .i64 x10, .slice none 0 0, .slice r12_p r12_n r12_c, .slice r30_p r30_n r30_c, .slice r28_p r28_n r28_c, .slice r32_p r32_n r32_c, .slice none 0 0, .slice none 0 0, .slice none 0 0, .int .i64 0, .slice none 0 0] 55) w31 n33 w34 → 
    J8 (some (Addr.mk n33 0 none)) w34) ∧
  (∃ w35 : World, ∃ r36_p : Option Addr, ∃ r36_n : Nat, ∃ r36_c : Nat, (Instr.makeSlice 31 (.int .i64 (IntKind.i64.wrap (x7 + (1 : Int)))) (.int .i64 (IntKind.i64.wrap (x7 + (1 : Int))))).run Try.prog w27 = .ok (.slice r36_p r36_n r36_c) w35 ∧ 
    W9 w35 ∧ ∃ w37 : World, ∃ r38_p : Option Addr, ∃ r38_n : Nat, ∃ r38_c : Nat, (Instr.makeSlice 53 (.int .i64 (IntKind.i64.wrap (x7 + (1 : Int)))) (.int .i64 (IntKind.i64.wrap (x7 + (1 : Int))))).run Try.prog w35 = .ok (.slice r38_p r38_n r38_c) w37 ∧ 
    W9 w37 ∧ ∀ (n39 : Nat) (w40 : World), New (.cells #[.int .i64 x10, .slice none 0 0, .slice r12_p r12_n r12_c, .slice r38_p r38_n r38_c, .slice r28_p r28_n r28_c, .slice r36_p r36_n r36_c, .slice none 0 0, .slice none 0 0, .slice none 0 0, .int .i64 0, .slice none 0 0] 55) w37 n39 w40 → 
    J8 (some (Addr.mk n39 0 none)) w40)) ∧
  (∃ w41 : World, ∃ r42_p : Option Addr, ∃ r42_n : Nat, ∃ r42_c : Nat, (Instr.makeSlice 31 (.int .i64 (IntKind.i64.wrap (x7 + (1 : Int)))) (.int .i64 (IntKind.i64.wrap (x7 + (1 : Int))))).run Try.prog w11 = .ok (.slice r42_p r42_n r42_c) w41 ∧ 
    W9 w41 ∧ (∃ w43 : World, ∃ r44_p : Option Addr, ∃ r44_n : Nat, ∃ r44_c : Nat, (Instr.makeSlice 53 (.int .i64 (IntKind.i64.wrap (x7 + (1 : Int)))) (.int .i64 (IntKind.i64.wrap (x7 + (1 : Int))))).run Try.prog w41 = .ok (.slice r44_p r44_n r44_c) w43 ∧ 
    W9 w43 ∧ ∃ w45 : World, ∃ r46_p : Option Addr, ∃ r46_n : Nat, ∃ r46_c : Nat, (Instr.makeSlice 31 (.int .i64 (IntKind.i64.wrap (x7 + (1 : Int)))) (.int .i64 (IntKind.i64.wrap (x7 + (1 : Int))))).run Try.prog w43 = .ok (.slice r46_p r46_n r46_c) w45 ∧ 
    W9 w45 ∧ ∀ (n47 : Nat) (w48 : World), New (.cells #[.int .i64 x10, .slice none 0 0, .slice r12_p r12_n r12_c, .slice r44_p r44_n r44_c, .slice r46_p r46_n r46_c, .slice r42_p r42_n r42_c, .slice none 0 0, .slice none 0 0, .slice none 0 0, .int .i64 0, .slice none 0 0] 55) w45 n47 w48 → 
    J8 (some (Addr.mk n47 0 none)) w48) ∧
  (∃ w49 : World, ∃ r50_p : Option Addr, ∃ r50_n : Nat, ∃ r50_c : Nat, (Instr.makeSlice 31 (.int .i64 (IntKind.i64.wrap (x7 + (1 : Int)))) (.int .i64 (IntKind.i64.wrap (x7 + (1 : Int))))).run Try.prog w41 = .ok (.slice r50_p r50_n r50_c) w49 ∧ 
    W9 w49 ∧ ∃ w51 : World, ∃ r52_p : Option Addr, ∃ r52_n : Nat, ∃ r52_c : Nat, (Instr.makeSlice 53 (.int .i64 (IntKind.i64.wrap (x7 + (1 : Int)))) (.int .i64 (IntKind.i64.wrap (x7 + (1 : Int))))).run Try.prog w49 = .ok (.slice r52_p r52_n r52_c) w51 ∧ 
    W9 w51 ∧ ∀ (n53 : Nat) (w54 : World), New (.cells #[.int .i64 x10, .slice none 0 0, .slice r12_p r12_n r12_c, .slice r52_p r52_n r52_c, .slice r50_p r50_n r50_c, .slice r42_p r42_n r42_c, .slice none 0 0, .slice none 0 0, .slice none 0 0, .int .i64 0, .slice none 0 0] 55) w51 n53 w54 → 
    J8 (some (Addr.mk n53 0 none)) w54))) ∧
  (∃ w55 : World, ∃ r56_p : Option Addr, ∃ r56_n : Nat, ∃ r56_c : Nat, (Instr.makeSlice 53 (.int .i64 (IntKind.i64.wrap (x7 + (1 : Int)))) (.int .i64 (IntKind.i64.wrap (x7 + (1 : Int))))).run Try.prog w5.drew = .ok (.slice r56_p r56_n r56_c) w55 ∧ 
    W9 w55 ∧ (∃ w57 : World, ∃ r58_p : Option Addr, ∃ r58_n : Nat, ∃ r58_c : Nat, (Instr.makeSlice 22 (.int .i64 (IntKind.i64.wrap ((2 : Int) * (IntKind.i64.wrap (x7 + (1 : Int)))))) (.int .i64 (IntKind.i64.wrap ((2 : Int) * (IntKind.i64.wrap (x7 + (1 : Int))))))).run Try.prog w55 = .ok (.slice r58_p r58_n r58_c) w57 ∧ 
    W9 w57 ∧ (∃ w59 : World, ∃ r60_p : Option Addr, ∃ r60_n : Nat, ∃ r60_c : Nat, (Instr.makeSlice 31 (.int .i64 (IntKind.i64.wrap (x7 + (1 : Int)))) (.int .i64 (IntKind.i64.wrap (x7 + (1 : Int))))).run Try.prog w57 = .ok (.slice r60_p r60_n r60_c) w59 ∧ 
    W9 w59 ∧ ∃ w61 : World, ∃ r62_p : Option Addr, ∃ r62_n : Nat, ∃ r62_c : Nat, (Instr.makeSlice 31 (.int .i64 (IntKind.i64.wrap (x7 + (1 : Int)))) (.int .i64 (IntKind.i64.wrap (x7 + (1 : Int))))).run Try.prog w59 = .ok (.slice r62_p r62_n r62_c) w61 ∧ 
    W9 w61 ∧ ∀ (n63 : Nat) (w64 : World), New (.cells #[.int .i64 x10, .slice none 0 0, .slice r58_p r58_n r58_c, .slice r56_p r56_n r56_c, .slice r60_p r60_n r60_c, .slice r62_p r62_n r62_c, .slice none 0 0, .slice none 0 0, .slice none 0 0, .int .i64 0, .slice none 0 0] 55) w61 n63 w64 → 
    J8 (some (Addr.mk n63 0 none)) w64) ∧
  (∃ w65 : World, ∃ r66_p : Option Addr, ∃ r66_n : Nat, ∃ r66_c : Nat, (Instr.makeSlice 31 (.int .i64 (IntKind.i64.wrap (x7 + (1 : Int)))) (.int .i64 (IntKind.i64.wrap (x7 + (1 : Int))))).run Try.prog w57 = .ok (.slice r66_p r66_n r66_c) w65 ∧ 
    W9 w65 ∧ ∃ w67 : World, ∃ r68_p : Option Addr, ∃ r68_n : Nat, ∃ r68_c : Nat, (Instr.makeSlice 31 (.int .i64 (IntKind.i64.wrap (x7 + (1 : Int)))) (.int .i64 (IntKind.i64.wrap (x7 + (1 : Int))))).run Try.prog w65 = .ok (.slice r68_p r68_n r68_c) w67 ∧ 
    W9 w67 ∧ ∀ (n69 : Nat) (w70 : World), New (.cells #[.int .i64 x10, .slice none 0 0, .slice r58_p r58_n r58_c, .slice r56_p r56_n r56_c, .slice r68_p r68_n r68_c, .slice r66_p r66_n r66_c, .slice none 0 0, .slice none 0 0, .slice none 0 0, .int .i64 0, .slice none 0 0] 55) w67 n69 w70 → 
    J8 (some (Addr.mk n69 0 none)) w70)) ∧
  (∃ w71 : World, ∃ r72_p : Option Addr, ∃ r72_n : Nat, ∃ r72_c : Nat, (Instr.makeSlice 31 (.int .i64 (IntKind.i64.wrap (x7 + (1 : Int)))) (.int .i64 (IntKind.i64.wrap (x7 + (1 : Int))))).run Try.prog w55 = .ok (.slice r72_p r72_n r72_c) w71 ∧ 
    W9 w71 ∧ (∃ w73 : World, ∃ r74_p : Option Addr, ∃ r74_n : Nat, ∃ r74_c : Nat, (Instr.makeSlice 22 (.int .i64 (IntKind.i64.wrap ((2 : Int) * (IntKind.i64.wrap (x7 + (1 : Int)))))) (.int .i64 (IntKind.i64.wrap ((2 : Int) * (IntKind.i64.wrap (x7 + (1 : Int))))))).run Try.prog w71 = .ok (.slice r74_p r74_n r74_c) w73 ∧ 
    W9 w73 ∧ ∃ w75 : World, ∃ r76_p : Option Addr, ∃ r76_n : Nat, ∃ r76_c : Nat, (Instr.makeSlice 31 (.int .i64 (IntKind.i64.wrap (x7 + (1 : Int)))) (.int .i64 (IntKind.i64.wrap (x7 + (1 : Int))))).run Try.prog w73 = .ok (.slice r76_p r76_n r76_c) w75 ∧ 
    W9 w75 ∧ ∀ (n77 : Nat) (w78 : World), New (.cells #[.int .i64 x10, .slice none 0 0, .slice r74_p r74_n r74_c, .slice r56_p r56_n r56_c, .slice r72_p r72_n r72_c, .slice r76_p r76_n r76_c, .slice none 0 0, .slice none 0 0, .slice none 0 0, .int .i64 0, .slice none 0 0] 55) w75 n77 w78 → 
    J8 (some (Addr.mk n77 0 none)) w78) ∧
  (∃ w79 : World, ∃ r80_p : Option Addr, ∃ r80_n : Nat, ∃ r80_c : Nat, (Instr.makeSlice 31 (.int .i64 (IntKind.i64.wrap (x7 + (1 : Int)))) (.int .i64 (IntKind.i64.wrap (x7 + (1 : Int))))).run Try.prog w71 = .ok (.slice r80_p r80_n r80_c) w79 ∧ 
    W9 w79 ∧ ∃ w81 : World, ∃ r82_p : Option Addr, ∃ r82_n : Nat, ∃ r82_c : Nat, (Instr.makeSlice 22 (.int .i64 (IntKind.i64.wrap ((2 : Int) * (IntKind.i64.wrap (x7 + (1 : Int)))))) (.int .i64 (IntKind.i64.wrap ((2 : Int) * (IntKind.i64.wrap (x7 + (1 : Int))))))).run Try.prog w79 = .ok (.slice r82_p r82_n r82_c) w81 ∧ 
    W9 w81 ∧ ∀ (n83 : Nat) (w84 : World), New (.cells #[.int .i64 x10, .slice none 0 0, .slice r82_p r82_n r82_c, .slice r56_p r56_n r56_c, .slice r72_p r72_n r72_c, .slice r80_p r80_n r80_c, .slice none 0 0, .slice none 0 0, .slice none 0 0, .int .i64 0, .slice none 0 0] 55) w81 n83 w84 → 
    J8 (some (Addr.mk n83 0 none)) w84)) ∧
  (∃ w85 : World, ∃ r86_p : Option Addr, ∃ r86_n : Nat, ∃ r86_c : Nat, (Instr.makeSlice 31 (.int .i64 (IntKind.i64.wrap (x7 + (1 : Int)))) (.int .i64 (IntKind.i64.wrap (x7 + (1 : Int))))).run Try.prog w55 = .ok (.slice r86_p r86_n r86_c) w85 ∧ 
    W9 w85 ∧ (∃ w87 : World, ∃ r88_p : Option Addr, ∃ r88_n : Nat, ∃ r88_c : Nat, (Instr.makeSlice 22 (.int .i64 (IntKind.i64.wrap ((2 : Int) * (IntKind.i64.wrap (x7 + (1 : Int)))))) (.int .i64 (IntKind.i64.wrap ((2 : Int) * (IntKind.i64.wrap (x7 + (1 : Int))))))).run Try.prog w85 = .ok (.slice r88_p r88_n r88_c) w87 ∧ 
    W9 w87 ∧ ∃ w89 : World, ∃ r90_p : Option Addr, ∃ r90_n : Nat, ∃ r90_c : Nat, (Instr.makeSlice 31 (.int .i64 (IntKind.i64.wrap (x7 + (1 : Int)))) (.int .i64 (IntKind.i64.wrap (x7 + (1 : Int))))).run Try.prog w87 = .ok (.slice r90_p r90_n r90_c) w89 ∧ 
    W9 w89 ∧ ∀ (n91 : Nat) (w92 : World), New (.cells #[.int .i64 x10, .slice none 0 0, .slice r88_p r88_n r88_c, .slice r56_p r56_n r56_c, .slice r90_p r90_n r90_c, .slice r86_p r86_n r86_c, .slice none 0 0, .slice none 0 0, .slice none 0 0, .int .i64 0, .slice none 0 0] 55) w89 n91 w92 → 
    J8 (some (Addr.mk n91 0 none)) w92) ∧
  (∃ w93 : World, ∃ r94_p : Option Addr, ∃ r94_n : Nat, ∃ r94_c : Nat, (Instr.makeSlice 31 (.int .i64 (IntKind.i64.wrap (x7 + (1 : Int)))) (.int .i64 (IntKind.i64.wrap (x7 + (1 : Int))))).run Try.prog w85 = .ok (.slice r94_p r94_n r94_c) w93 ∧ 
    W9 w93 ∧ ∃ w95 : World, ∃ r96_p : Option Addr, ∃ r96_n : Nat, ∃ r96_c : Nat, (Instr.makeSlice 22 (.int .i64 (IntKind.i64.wrap ((2 : Int) * (IntKind.i64.wrap (x7 + (1 : Int)))))) (.int .i64 (IntKind.i64.wrap ((2 : Int) * (IntKind.i64.wrap (x7 + (1 : Int))))))).run Try.prog w93 = .ok (.slice r96_p r96_n r96_c) w95 ∧ 
    W9 w95 ∧ ∀ (n97 : Nat) (w98 : World), New (.cells #[.int .i64 x10, .slice none 0 0, .slice r96_p r96_n r96_c, .slice r56_p r56_n r56_c, .slice r94_p r94_n r94_c, .slice r86_p r86_n r86_c, .slice none 0 0, .slice none 0 0, .slice none 0 0, .int .i64 0, .slice none 0 0] 55) w95 n97 w98 → 
    J8 (some (Addr.mk n97 0 none)) w98))) ∧
  (∃ w99 : World, ∃ r100_p : Option Addr, ∃ r100_n : Nat, ∃ r100_c : Nat, (Instr.makeSlice 31 (.int .i64 (IntKind.i64.wrap (x7 + (1 : Int)))) (.int .i64 (IntKind.i64.wrap (x7 + (1 : Int))))).run Try.prog w5.drew = .ok (.slice r100_p r100_n r100_c) w99 ∧ 
    W9 w99 ∧ (∃ w101 : World, ∃ r102_p : Option Addr, ∃ r102_n : Nat, ∃ r102_c : Nat, (Instr.makeSlice 22 (.int .i64 (IntKind.i64.wrap ((2 : Int) * (IntKind.i64.wrap (x7 + (1 : Int)))))) (.int .i64 (IntKind.i64.wrap ((2 : Int) * (IntKind.i64.wrap (x7 + (1 : Int))))))).run Try.prog w99 = .ok (.slice r102_p r102_n r102_c) w101 ∧ 
    W9 w101 ∧ (∃ w103 : World, ∃ r104_p : Option Addr, ∃ r104_n : Nat, ∃ r104_c : Nat, (Instr.makeSlice 53 (.int .i64 (IntKind.i64.wrap (x7 + (1 : Int)))) (.int .i64 (IntKind.i64.wrap (x7 + (1 : Int))))).run Try.prog w101 = .ok (.slice r104_p r104_n r104_c) w103 ∧ 
    W9 w103 ∧ ∃ w105 : World, ∃ r106_p : Option Addr, ∃ r106_n : Nat, ∃ r106_c : Nat, (Instr.makeSlice 31 (.int .i64 (IntKind.i64.wrap (x7 + (1 : Int)))) (.int .i64 (IntKind.i64.wrap (x7 + (1 : Int))))).run Try.prog w103 = .ok (.slice r106_p r106_n r106_c) w105 ∧ 
    W9 w105 ∧ ∀ (n107 : Nat) (w108 : World), New (.cells #[.int .i64 x10, .slice none 0 0, .slice r102_p r102_n r102_c, .slice r104_p r104_n r104_c, .slice r100_p r100_n r100_c, .slice r106_p r106_n r106_c, .slice none 0 0, .slice none 0 0, .slice none 0 0, .int .i64 0, .slice none 0 0] 55) w105 n107 w108 → 
    J8 (some (Addr.mk n107 0 none)) w108) ∧
  (∃ w109 : World, ∃ r110_p : Option Addr, ∃ r110_n : Nat, ∃ r110_c : Nat, (Instr.makeSlice 31 (.int .i64 (IntKind.i64.wrap (x7 + (1 : Int)))) (.int .i64 (IntKind.i64.wrap (x7 + (1 : Int))))).run Try.prog w101 = .ok (.slice r110_p r110_n r110_c) w109 ∧ 
    W9 w109 ∧ ∃ w111 : World, ∃ r112_p : Option Addr, ∃ r112_n : Nat, ∃ r112_c : Nat, (Instr.makeSlice 53 (.int .i64 (IntKind.i64.wrap (x7 + (1 : Int)))) (.int .i64 (IntKind.i64.wrap (x7 + (1 : Int))))).run Try.prog w109 = .ok (.slice r112_p r112_n r112_c) w111 ∧ 
    W9 w111 ∧ ∀ (n113 : Nat) (w114 : World), New (.cells #[.int .i64 x10, .slice none 0 0, .slice r102_p r102_n r102_c, .slice r112_p r112_n r112_c, .slice r100_p r100_n r100_c, .slice r110_p r110_n r110_c, .slice none 0 0, .slice none 0 0, .slice none 0 0, .int .i64 0, .slice none 0 0] 55) w111 n113 w114 → 
    J8 (some (Addr.mk n113 0 none)) w114)) ∧
  (∃ w115 : World, ∃ r116_p : Option Addr, ∃ r116_n : Nat, ∃ r116_c : Nat, (Instr.makeSlice 53 (.int .i64 (IntKind.i64.wrap (x7 + (1 : Int)))) (.int .i64 (IntKind.i64.wrap (x7 + (1 : Int))))).run Try.prog w99 = .ok (.slice r116_p r116_n r116_c) w115 ∧ 
    W9 w115 ∧ (∃ w117 : World, ∃ r118_p : Option Addr, ∃ r118_n : Nat, ∃ r118_c : Nat, (Instr.makeSlice 22 (.int .i64 (IntKind.i64.wrap ((2 : Int) * (IntKind.i64.wrap (x7 + (1 : Int)))))) (.int .i64 (IntKind.i64.wrap ((2 : Int) * (IntKind.i64.wrap (x7 + (1 : Int))))))).run Try.prog w115 = .ok (.slice r118_p r118_n r118_c) w117 ∧ 
    W9 w117 ∧ ∃ w119 : World, ∃ r120_p : Option Addr, ∃ r120_n : Nat, ∃ r120_c : Nat, (Instr.makeSlice 31 (.int .i64 (IntKind.i64.wrap (x7 + (1 : Int)))) (.int .i64 (IntKind.i64.wrap (x7 + (1 : Int))))).run Try.prog w117 = .ok (.slice r120_p r120_n r120_c) w119 ∧ 
    W9 w119 ∧ ∀ (n121 : Nat) (w122 : World), New (.cells #[.int .i64 x10, .slice none 0 0, .slice r118_p r118_n r118_c, .slice r116_p r116_n r116_c, .slice r100_p r100_n r100_c, .slice r120_p r120_n r120_c, .slice none 0 0, .slice none 0 0, .slice none 0 0, .int .i64 0, .slice none 0 0] 55) w119 n121 w122 → 
    J8 (some (Addr.mk n121 0 none)) w122) ∧
  (∃ w123 : World, ∃ r124_p : Option Addr, ∃ r124_n : Nat, ∃ r124_c : Nat, (Instr.makeSlice 31 (.int .i64 (IntKind.i64.wrap (x7 + (1 : Int)))) (.int .i64 (IntKind.i64.wrap (x7 + (1 : Int))))).run Try.prog w115 = .ok (.slice r124_p r124_n r124_c) w123 ∧ 
    W9 w123 ∧ ∃ w125 : World, ∃ r126_p : Option Addr, ∃ r126_n : Nat, ∃ r126_c : Nat, (Instr.makeSlice 22 (.int .i64 (IntKind.i64.wrap ((2 : Int) * (IntKind.i64.wrap (x7 + (1 : Int)))))) (.int .i64 (IntKind.i64.wrap ((2 : Int) * (IntKind.i64.wrap (x7 + (1 : Int))))))).run Try.prog w123 = .ok (.slice r126_p r126_n r126_c) w125 ∧ 
    W9 w125 ∧ ∀ (n127 : Nat) (w128 : World), New (.cells #[.int .i64 x10, .slice none 0 0, .slice r126_p r126_n r126_c, .slice r116_p r116_n r116_c, .slice r100_p r100_n r100_c, .slice r124_p r124_n r124_c, .slice none 0 0, .slice none 0 0, .slice none 0 0, .int .i64 0, .slice none 0 0] 55) w125 n127 w128 → 
    J8 (some (Addr.mk n127 0 none)) w128)) ∧
  (∃ w129 : World, ∃ r130_p : Option Addr, ∃ r130_n : Nat, ∃ r130_c : Nat, (Instr.makeSlice 31 (.int .i64 (IntKind.i64.wrap (x7 + (1 : Int)))) (.int .i64 (IntKind.i64.wrap (x7 + (1 : Int))))).run Try.prog w99 = .ok (.slice r130_p r130_n r130_c) w129 ∧ 
    W9 w129 ∧ (∃ w131 : World, ∃ r132_p : Option Addr, ∃ r132_n : Nat, ∃ r132_c : Nat, (Instr.makeSlice 22 (.int .i64 (IntKind.i64.wrap ((2 : Int) * (IntKind.i64.wrap (x7 + (1 : Int)))))) (.int .i64 (IntKind.i64.wrap ((2 : Int) * (IntKind.i64.wrap (x7 + (1 : Int))))))).run Try.prog w129 = .ok (.slice r132_p r132_n r132_c) w131 ∧ 
    W9 w131 ∧ ∃ w133 : World, ∃ r134_p : Option Addr, ∃ r134_n : Nat, ∃ r134_c : Nat, (Instr.makeSlice 53 (.int .i64 (IntKind.i64.wrap (x7 + (1 : Int)))) (.int .i64 (IntKind.i64.wrap (x7 + (1 : Int))))).run Try.prog w131 = .ok (.slice r134_p r134_n r134_c) w133 ∧ 
    W9 w133 ∧ ∀ (n135 : Nat) (w136 : World), New (.cells #[.int .i64 x10, .slice none 0 0, .slice r132_p r132_n r132_c, .slice r134_p r134_n r134_c, .slice r100_p r100_n r100_c, .slice r130_p r130_n r130_c, .slice none 0 0, .slice none 0 0, .slice none 0 0, .int .i64 0, .slice none 0 0] 55) w133 n135 w136 → 
    J8 (some (Addr.mk n135 0 none)) w136) ∧
  (∃ w137 : World, ∃ r138_p : Option Addr, ∃ r138_n : Nat, ∃ r138_c : Nat, (Instr.makeSlice 53 (.int .i64 (IntKind.i64.wrap (x7 + (1 : Int)))) (.int .i64 (IntKind.i64.wrap (x7 + (1 : Int))))).run Try.prog w129 = .ok (.slice r138_p r138_n r138_c) w137 ∧ 
    W9 w137 ∧ ∃ w139 : World, ∃ r140_p : Option Addr, ∃ r140_n : Nat, ∃ r140_c : Nat, (Instr.makeSlice 22 (.int .i64 (IntKind.i64.wrap ((2 : Int) * (IntKind.i64.wrap (x7 + (1 : Int)))))) (.int .i64 (IntKind.i64.wrap ((2 : Int) * (IntKind.i64.wrap (x7 + (1 : Int))))))).run Try.prog w137 = .ok (.slice r140_p r140_n r140_c) w139 ∧ 
    W9 w139 ∧ ∀ (n141 : Nat) (w142 : World), New (.cells #[.int .i64 x10, .slice none 0 0, .slice r140_p r140_n r140_c, .slice r138_p r138_n r138_c, .slice r100_p r100_n r100_c, .slice r130_p r130_n r130_c, .slice none 0 0, .slice none 0 0, .slice none 0 0, .int .i64 0, .slice none 0 0] 55) w139 n141 w142 → 
    J8 (some (Addr.mk n141 0 none)) w142))) ∧
  (∃ w143 : World, ∃ r144_p : Option Addr, ∃ r144_n : Nat, ∃ r144_c : Nat, (Instr.makeSlice 31 (.int .i64 (IntKind.i64.wrap (x7 + (1 : Int)))) (.int .i64 (IntKind.i64.wrap (x7 + (1 : Int))))).run Try.prog w5.drew = .ok (.slice r144_p r144_n r144_c) w143 ∧ 
    W9 w143 ∧ (∃ w145 : World, ∃ r146_p : Option Addr, ∃ r146_n : Nat, ∃ r146_c : Nat, (Instr.makeSlice 22 (.int .i64 (IntKind.i64.wrap ((2 : Int) * (IntKind.i64.wrap (x7 + (1 : Int)))))) (.int .i64 (IntKind.i64.wrap ((2 : Int) * (IntKind.i64.wrap (x7 + (1 : Int))))))).run Try.prog w143 = .ok (.slice r146_p r146_n r146_c) w145 ∧ 
    W9 w145 ∧ (∃ w147 : World, ∃ r148_p : Option Addr, ∃ r148_n : Nat, ∃ r148_c : Nat, (Instr.makeSlice 53 (.int .i64 (IntKind.i64.wrap (x7 + (1 : Int)))) (.int .i64 (IntKind.i64.wrap (x7 + (1 : Int))))).run Try.prog w145 = .ok (.slice r148_p r148_n r148_c) w147 ∧ 
    W9 w147 ∧ ∃ w149 : World, ∃ r150_p : Option Addr, ∃ r150_n : Nat, ∃ r150_c : Nat, (Instr.makeSlice 31 (.int .i64 (IntKind.i64.wrap (x7 + (1 : Int)))) (.int .i64 (IntKind.i64.wrap (x7 + (1 : Int))))).run Try.prog w147 = .ok (.slice r150_p r150_n r150_c) w149 ∧ 
    W9 w149 ∧ ∀ (n151 : Nat) (w152 : World), New (.cells #[.int .i64 x10, .slice none 0 0, .slice r146_p r146_n r146_c, .slice r148_p r148_n r148_c, .slice r150_p r150_n r150_c, .slice r144_p r144_n r144_c, .slice none 0 0, .slice none 0 0, .slice none 0 0, .int .i64 0, .slice none 0 0] 55) w149 n151 w152 → 
    J8 (some (Addr.mk n151 0 none)) w152) ∧
  (∃ w153 : World, ∃ r154_p : Option Addr, ∃ r154_n : Nat, ∃ r154_c : Nat, (Instr.makeSlice 31 (.int .i64 (IntKind.i64.wrap (x7 + (1 : Int)))) (.int .i64 (IntKind.i64.wrap (x7 + (1 : Int))))).run Try.prog w145 = .ok (.slice r154_p r154_n r154_c) w153 ∧ 
    W9 w153 ∧ ∃ w155 : World, ∃ r156_p : Option Addr, ∃ r156_n : Nat, ∃ r156_c : Nat, (Instr.makeSlice 53 (.int .i64 (IntKind.i64.wrap (x7 + (1 : Int)))) (.int .i64 (IntKind.i64.wrap (x7 + (1 : Int))))).run Try.prog w153 = .ok (.slice r156_p r156_n r156_c) w155 ∧ 
    W9 w155 ∧ ∀ (n157 : Nat) (w158 : World), New (.cells #[.int .i64 x10, .slice none 0 0, .slice r146_p r146_n r146_c, .slice r156_p r156_n r156_c, .slice r154_p r154_n r154_c, .slice r144_p r144_n r144_c, .slice none 0 0, .slice none 0 0, .slice none 0 0, .int .i64 0, .slice none 0 0] 55) w155 n157 w158 → 
    J8 (some (Addr.mk n157 0 none)) w158)) ∧
  (∃ w159 : World, ∃ r160_p : Option Addr, ∃ r160_n : Nat, ∃ r160_c : Nat, (Instr.makeSlice 53 (.int .i64 (IntKind.i64.wrap (x7 + (1 : Int)))) (.int .i64 (IntKind.i64.wrap (x7 + (1 : Int))))).run Try.prog w143 = .ok (.slice r160_p r160_n r160_c) w159 ∧ 
    W9 w159 ∧ (∃ w161 : World, ∃ r162_p : Option Addr, ∃ r162_n : Nat, ∃ r162_c : Nat, (Instr.makeSlice 22 (.int .i64 (IntKind.i64.wrap ((2 : Int) * (IntKind.i64.wrap (x7 + (1 : Int)))))) (.int .i64 (IntKind.i64.wrap ((2 : Int) * (IntKind.i64.wrap (x7 + (1 : Int))))))).run Try.prog w159 = .ok (.slice r162_p r162_n r162_c) w161 ∧ 
    W9 w161 ∧ ∃ w163 : World, ∃ r164_p : Option Addr, ∃ r164_n : Nat, ∃ r164_c : Nat, (Instr.makeSlice 31 (.int .i64 (IntKind.i64.wrap (x7 + (1 : Int)))) (.int .i64 (IntKind.i64.wrap (x7 + (1 : Int))))).run Try.prog w161 = .ok (.slice r164_p r164_n r164_c) w163 ∧ 
    W9 w163 ∧ ∀ (n165 : Nat) (w166 : World), New (.cells #[.int .i64 x10, .slice none 0 0, .slice r162_p r162_n r162_c, .slice r160_p r160_n r160_c, .slice r164_p r164_n r164_c, .slice r144_p r144_n r144_c, .slice none 0 0, .slice none 0 0, .slice none 0 0, .int .i64 0, .slice none 0 0] 55) w163 n165 w166 → 
    J8 (some (Addr.mk n165 0 none)) w166) ∧
  (∃ w167 : World, ∃ r168_p : Option Addr, ∃ r168_n : Nat, ∃ r168_c : Nat, (Instr.makeSlice 31 (.int .i64 (IntKind.i64.wrap (x7 + (1 : Int)))) (.int .i64 (IntKind.i64.wrap (x7 + (1 : Int))))).run Try.prog w159 = .ok (.slice r168_p r168_n r168_c) w167 ∧ 
    W9 w167 ∧ ∃ w169 : World, ∃ r170_p : Option Addr, ∃ r170_n : Nat, ∃ r170_c : Nat, (Instr.makeSlice 22 (.int .i64 (IntKind.i64.wrap ((2 : Int) * (IntKind.i64.wrap (x7 + (1 : Int)))))) (.int .i64 (IntKind.i64.wrap ((2 : Int) * (IntKind.i64.wrap (x7 + (1 : Int))))))).run Try.prog w167 = .ok (.slice r170_p r170_n r170_c) w169 ∧ 
    W9 w169 ∧ ∀ (n171 : Nat) (w172 : World), New (.cells #[.int .i64 x10, .slice none 0 0, .slice r170_p r170_n r170_c, .slice r160_p r160_n r160_c, .slice r168_p r168_n r168_c, .slice r144_p r144_n r144_c, .slice none 0 0, .slice none 0 0, .slice none 0 0, .int .i64 0, .slice none 0 0] 55) w169 n171 w172 → 
    J8 (some (Addr.mk n171 0 none)) w172)) ∧
  (∃ w173 : World, ∃ r174_p : Option Addr, ∃ r174_n : Nat, ∃ r174_c : Nat, (Instr.makeSlice 31 (.int .i64 (IntKind.i64.wrap (x7 + (1 : Int)))) (.int .i64 (IntKind.i64.wrap (x7 + (1 : Int))))).run Try.prog w143 = .ok (.slice r174_p r174_n r174_c) w173 ∧ 
    W9 w173 ∧ (∃ w175 : World, ∃ r176_p : Option Addr, ∃ r176_n : Nat, ∃ r176_c : Nat, (Instr.makeSlice 22 (.int .i64 (IntKind.i64.wrap ((2 : Int) * (IntKind.i64.wrap (x7 + (1 : Int)))))) (.int .i64 (IntKind.i64.wrap ((2 : Int) * (IntKind.i64.wrap (x7 + (1 : Int))))))).run Try.prog w173 = .ok (.slice r176_p r176_n r176_c) w175 ∧ 
    W9 w175 ∧ ∃ w177 : World, ∃ r178_p : Option Addr, ∃ r178_n : Nat, ∃ r178_c : Nat, (Instr.makeSlice 53 (.int .i64 (IntKind.i64.wrap (x7 + (1 : Int)))) (.int .i64 (IntKind.i64.wrap (x7 + (1 : Int))))).run Try.prog w175 = .ok (.slice r178_p r178_n r178_c) w177 ∧ 
    W9 w177 ∧ ∀ (n179 : Nat) (w180 : World), New (.cells #[.int .i64 x10, .slice none 0 0, .slice r176_p r176_n r176_c, .slice r178_p r178_n r178_c, .slice r174_p r174_n r174_c, .slice r144_p r144_n r144_c, .slice none 0 0, .slice none 0 0, .slice none 0 0, .int .i64 0, .slice none 0 0] 55) w177 n179 w180 → 
    J8 (some (Addr.mk n179 0 none)) w180) ∧
  (∃ w181 : World, ∃ r182_p : Option Addr, ∃ r182_n : Nat, ∃ r182_c : Nat, (Instr.makeSlice 53 (.int .i64 (IntKind.i64.wrap (x7 + (1 : Int)))) (.int .i64 (IntKind.i64.wrap (x7 + (1 : Int))))).run Try.prog w173 = .ok (.slice r182_p r182_n r182_c) w181 ∧ 
    W9 w181 ∧ ∃ w183 : World, ∃ r184_p : Option Addr, ∃ r184_n : Nat, ∃ r184_c : Nat, (Instr.makeSlice 22 (.int .i64 (IntKind.i64.wrap ((2 : Int) * (IntKind.i64.wrap (x7 + (1 : Int)))))) (.int .i64 (IntKind.i64.wrap ((2 : Int) * (IntKind.i64.wrap (x7 + (1 : Int))))))).run Try.prog w181 = .ok (.slice r184_p r184_n r184_c) w183 ∧ 
    W9 w183 ∧ ∀ (n185 : Nat) (w186 : World), New (.cells #[.int .i64 x10, .slice none 0 0, .slice r184_p r184_n r184_c, .slice r182_p r182_n r182_c, .slice r174_p r174_n r174_c, .slice r144_p r144_n r144_c, .slice none 0 0, .slice none 0 0, .slice none 0 0, .int .i64 0, .slice none 0 0] 55) w183 n185 w186 → 
    J8 (some (Addr.mk n185 0 none)) w186)))) ∧
    ∀ (p_187 : Option Addr) (w188 : World) (_ : Fr), J8 p_187 w188 → 
    ∃ x189_p : Option Addr, ∃ x189_n : Nat, ∃ x189_c : Nat, w188.cell? ((Addr.mk n1 0 none).add 1) = some (.slice x189_p x189_n x189_c) ∧ 
    ∃ I190 : Int → World → Nat → Prop, (∃ k191, I190 0 w188 k191) ∧
    ∀ (v193 : Int) (w194 : World) (k191 : Nat) (_ : Fr), I190 v193 w194 k191 →
    cnd (decide (v193 < (x189_n : Int)))
      (ixK x189_p x189_n v193 1 fun a195 =>
        ∃ x196_p : Option Addr, ∃ x196_n : Nat, ∃ x196_c : Nat, w194.cell? a195 = some (.slice x196_p x196_n x196_c) ∧ 
        Calls Try.prog 30 #[.pointer p_187, .slice x196_p x196_n x196_c] w194 fun e w197 => ∃ r198 : Int, ∃ r199 : Int, e = .returned (.tuple #[.int .i64 r198, .int .i64 r199]) ∧ 
        ∃ k192, k192 < k191 ∧ I190 (IntKind.i64.wrap (v193 + (1 : Int))) w197 k192)
      (K (.tuple #[.pointer p_187, .int .i64 0]) w194))
theorem prop_New.eq (f_0 : Int) (f_1_p : Option Addr) (f_1_n : Nat) (f_1_c : Nat) (w : World) (K : Value → World → Prop) : wpF Try.prog Try.f27 (.two .leaf (.two .leaf (.two .leaf (.cut [(5, 29)] .draw (.two (.two .leaf (.one (.loop [(30, 3)] .leaf))) .leaf))))) [.agg #[.int .i64 f_0, .slice f_1_p f_1_n f_1_c]] w K = prop_New.w f_0 f_1_p f_1_n f_1_c w K := by kernel_rfl
theorem prop_New.ok : fnOk Try.prog Try.f27 1 = true := by kernel_rfl
theorem prop_New.calls {f_0 : Int} {f_1_p : Option Addr} {f_1_n : Nat} {f_1_c : Nat} {w : World} {R : Ending → World → Prop} (h : prop_New.w f_0 f_1_p f_1_n f_1_c w fun v w' => R (.returned v) w') : Calls Try.prog 27 #[.agg #[.int .i64 f_0, .slice f_1_p f_1_n f_1_c]] w R :=
  calls_of mixed Try.func27 prop_New.ok rfl (fun K => prop_New.eq f_0 f_1_p f_1_n f_1_c w K) h

/-! ### fathom/fathomlaw06.sound: function 28 (named slots 9) cuts [(4, 64), (3, 37)] -/
def fathomlaw06_sound.w (w0_0 : Option Addr) (w0_1 : Int) (w0_2_p : Option Addr) (w0_2_n : Nat) (w0_2_c : Nat) (w0_3_p : Option Addr) (w0_3_n : Nat) (w0_3_c : Nat) (w0_4_p : Option Addr) (w0_4_n : Nat) (w0_4_c : Nat) (w : World) (K : Value → World → Prop) : Prop :=
  ∀ (n1 : Nat) (w2 : World), New (.cells #[.pointer w0_0, .int .i64 w0_1, .slice w0_2_p w0_2_n w0_2_c, .slice w0_3_p w0_3_n w0_3_c, .slice w0_4_p w0_4_n w0_4_c] 33) w n1 w2 → 
  ∃ x3 : Option Addr, w2.cell? ((Addr.mk n1 0 none).add 0) = some (.pointer x3) ∧ 
  Calls Try.prog 20 #[.pointer x3] w2 fun e w4 => ∃ r5_p : Option Addr, ∃ r5_n : Nat, ∃ r5_c : Nat, e = .returned (.slice r5_p r5_n r5_c) ∧ 
  ∃ I6 : Int → Int → World → Nat → Prop, (∃ k7, I6 0 0 w4 k7) ∧
  ∀ (level_9 : Int) (i_10 : Int) (w11 : World) (k7 : Nat) (_ : Fr), I6 level_9 i_10 w11 k7 →
  cnd (decide (i_10 < (r5_n : Int)))
    (∃ x12 : Option Addr, w11.drew.cell? ((Addr.mk n1 0 none).add 0) = some (.pointer x12) ∧ 
      ixK r5_p r5_n i_10 1 fun a13 =>
      ∃ x14 : Int, w11.drew.cell? a13 = some (.int .i64 x14) ∧ 
      Calls Try.prog 36 #[.pointer x12, .int .i64 x14] w11.drew fun e w15 => ∃ r16 : Int, e = .returned (.int .i64 r16) ∧ 
      ∃ J17 : Int → World → Prop, (∃ J18 : Bool → World → Prop, (∃ x19_p : Option Addr, ∃ x19_n : Nat, ∃ x19_c : Nat, w15.drew.cell? ((Addr.mk n1 0 none).add 4) = some (.slice x19_p x19_n x19_c) ∧ 
      cnd (decide (level_9 < (x19_n : Int)))
      (ixK r5_p r5_n i_10 1 fun a20 =>
      ∃ x21 : Int, w15.drew.cell? a20 = some (.int .i64 x21) ∧ 
      ∃ x22_p : Option Addr, ∃ x22_n : Nat, ∃ x22_c : Nat, w15.drew.cell? ((Addr.mk n1 0 none).add 4) = some (.slice x22_p x22_n x22_c) ∧ 
      ixK x22_p x22_n level_9 1 fun a23 =>
      ∃ x24 : Int, w15.drew.cell? a23 = some (.int .i64 x24) ∧ 
      cnd (x21 == x24)
      (J18 (r16 == (-1)) w15.drew)
      (J18 false w15.drew))
      (J18 false w15.drew)) ∧
      ∀ (v25 : Bool) (w26 : World) (_ : Fr), J18 v25 w26 → 
      cnd v25
      (J17 (IntKind.i64.wrap (level_9 + (1 : Int))) w26)
      (∃ x27 : Option Addr, w26.cell? ((Addr.mk n1 0 none).add 0) = some (.pointer x27) ∧ 
        Calls Try.prog 31 #[.pointer x27, .int .i64 r16] w26 fun e w28 => ∃ r29_p : Option Addr, ∃ r29_n : Nat, ∃ r29_c : Nat, ∃ r30 : Bool, e = .returned (.tuple #[.slice r29_p r29_n r29_c, .bool r30]) ∧ 
        cnd (!r30)
        (K (.bool false) w28.drew)
        (ixK r5_p r5_n i_10 1 fun a31 =>
        ∃ x32 : Int, w28.drew.cell? a31 = some (.int .i64 x32) ∧ 
        Calls Try.prog 63 #[.slice r29_p r29_n r29_c, .int .i64 x32] w28.drew fun e w33 => ∃ r34 : Bool, e = .returned (.bool r34) ∧ 
        cnd (!r34)
        (K (.bool false) w33)
        (ixK r5_p r5_n i_10 1 fun a35 =>
        ∃ x36 : Int, w33.cell? a35 = some (.int .i64 x36) ∧ 
        Calls Try.prog 67 #[.slice r29_p r29_n r29_c, .int .i64 x36] w33 fun e w37 => ∃ r38_p : Option Addr, ∃ r38_n : Nat, ∃ r38_c : Nat, e = .returned (.slice r38_p r38_n r38_c) ∧ 
        slK r5_p r5_n r5_c 1 none (some i_10) none fun s39_p s39_n s39_c =>
        Calls Try.prog 66 #[.slice r38_p r38_n r38_c, .slice s39_p s39_n s39_c] w37 fun e w40 => ∃ r41 : Bool, e = .returned (.bool r41) ∧ 
        cnd (!r41)
        (K (.bool false) w40)
        (J17 level_9 w40))))) ∧
      ∀ (level_42 : Int) (w43 : World) (_ : Fr), J17 level_42 w43 → 
      ∃ x44 : Option Addr, w43.drew.cell? ((Addr.mk n1 0 none).add 0) = some (.pointer x44) ∧ 
      ixK r5_p r5_n i_10 1 fun a45 =>
      ∃ x46 : Int, w43.drew.cell? a45 = some (.int .i64 x46) ∧ 
      Calls Try.prog 35 #[.pointer x44, .int .i64 x46] w43.drew fun e w47 => ∃ r48 : Int, e = .returned (.int .i64 r48) ∧ 
      cnd (r48 != level_42)
      (K (.bool false) w47)
      (∃ x49 : Option Addr, w47.cell? ((Addr.mk n1 0 none).add 0) = some (.pointer x49) ∧ 
      ixK r5_p r5_n i_10 1 fun a50 =>
      ∃ x51 : Int, w47.cell? a50 = some (.int .i64 x51) ∧ 
      Calls Try.prog 35 #[.pointer x49, .int .i64 (IntKind.i64.wrap (0 - x51))] w47 fun e w52 => ∃ r53 : Int, e = .returned (.int .i64 r53) ∧ 
      cnd (r53 != level_42)
      (K (.bool false) w52)
      (∃ x54 : Option Addr, w52.cell? ((Addr.mk n1 0 none).add 0) = some (.pointer x54) ∧ 
      ixK r5_p r5_n i_10 1 fun a55 =>
      ∃ x56 : Int, w52.cell? a55 = some (.int .i64 x56) ∧ 
      Calls Try.prog 34 #[.pointer x54, .int .i64 x56] w52 fun e w57 => ∃ r58 : Int, e = .returned (.int .i64 r58) ∧ 
      cnd (r58 != (1 : Int))
      (K (.bool false) w57)
      (∃ x59 : Option Addr, w57.cell? ((Addr.mk n1 0 none).add 0) = some (.pointer x59) ∧ 
      ixK r5_p r5_n i_10 1 fun a60 =>
      ∃ x61 : Int, w57.cell? a60 = some (.int .i64 x61) ∧ 
      Calls Try.prog 34 #[.pointer x59, .int .i64 (IntKind.i64.wrap (0 - x61))] w57 fun e w62 => ∃ r63 : Int, e = .returned (.int .i64 r63) ∧ 
      cnd (r63 != (-1))
      (K (.bool false) w62)
      (slK r5_p r5_n r5_c 1 none (some i_10) none fun s64_p s64_n s64_c =>
      ixK r5_p r5_n i_10 1 fun a65 =>
      ∃ x66 : Int, w62.cell? a65 = some (.int .i64 x66) ∧ 
      Calls Try.prog 63 #[.slice s64_p s64_n s64_c, .int .i64 x66] w62 fun e w67 => ∃ r68 : Bool, e = .returned (.bool r68) ∧ 
      cnd r68
      (K (.bool false) w67)
      (slK r5_p r5_n r5_c 1 none (some i_10) none fun s69_p s69_n s69_c =>
      ixK r5_p r5_n i_10 1 fun a70 =>
      ∃ x71 : Int, w67.cell? a70 = some (.int .i64 x71) ∧ 
      Calls Try.prog 63 #[.slice s69_p s69_n s69_c, .int .i64 (IntKind.i64.wrap (0 - x71))] w67 fun e w72 => ∃ r73 : Bool, e = .returned (.bool r73) ∧ 
      cnd r73
      (K (.bool false) w72)
      (∃ k8, k8 < k7 ∧ I6 level_42 (IntKind.i64.wrap (i_10 + (1 : Int))) w72 k8)))))))
    (∃ x74_p : Option Addr, ∃ x74_n : Nat, ∃ x74_c : Nat, w11.cell? ((Addr.mk n1 0 none).add 4) = some (.slice x74_p x74_n x74_c) ∧ 
      cnd (level_9 == (x74_n : Int))
      (∃ x75 : Option Addr, w11.cell? ((Addr.mk n1 0 none).add 0) = some (.pointer x75) ∧ 
      Calls Try.prog 37 #[.pointer x75] w11 fun e w76 => ∃ r77 : Int, e = .returned (.int .i64 r77) ∧ 
      K (.bool (r77 == level_9)) w76)
      (K (.bool false) w11))
theorem fathomlaw06_sound.eq (w0_0 : Option Addr) (w0_1 : Int) (w0_2_p : Option Addr) (w0_2_n : Nat) (w0_2_c : Nat) (w0_3_p : Option Addr) (w0_3_n : Nat) (w0_3_c : Nat) (w0_4_p : Option Addr) (w0_4_n : Nat) (w0_4_c : Nat) (w : World) (K : Value → World → Prop) : wpF Try.prog Try.f28 (.two .leaf (.two .leaf (.two .leaf (.two (.two .leaf (.one (.loop [(4, 3), (5, 3)] (.two .leaf (.two (.one (.two .leaf (.cut [(4, 3)] (.cut [(45, 4)] .leaf .leaf) .leaf))) .leaf))))) .leaf)))) [.agg #[.pointer w0_0, .int .i64 w0_1, .slice w0_2_p w0_2_n w0_2_c, .slice w0_3_p w0_3_n w0_3_c, .slice w0_4_p w0_4_n w0_4_c]] w K = fathomlaw06_sound.w w0_0 w0_1 w0_2_p w0_2_n w0_2_c w0_3_p w0_3_n w0_3_c w0_4_p w0_4_n w0_4_c w K := by kernel_rfl
theorem fathomlaw06_sound.ok : fnOk Try.prog Try.f28 1 = true := by kernel_rfl
theorem fathomlaw06_sound.calls {w0_0 : Option Addr} {w0_1 : Int} {w0_2_p : Option Addr} {w0_2_n : Nat} {w0_2_c : Nat} {w0_3_p : Option Addr} {w0_3_n : Nat} {w0_3_c : Nat} {w0_4_p : Option Addr} {w0_4_n : Nat} {w0_4_c : Nat} {w : World} {R : Ending → World → Prop} (h : fathomlaw06_sound.w w0_0 w0_1 w0_2_p w0_2_n w0_2_c w0_3_p w0_3_n w0_3_c w0_4_p w0_4_n w0_4_c w fun v w' => R (.returned v) w') : Calls Try.prog 28 #[.agg #[.pointer w0_0, .int .i64 w0_1, .slice w0_2_p w0_2_n w0_2_c, .slice w0_3_p w0_3_n w0_3_c, .slice w0_4_p w0_4_n w0_4_c]] w R :=
  calls_of mixed Try.func28 fathomlaw06_sound.ok rfl (fun K => fathomlaw06_sound.eq w0_0 w0_1 w0_2_p w0_2_n w0_2_c w0_3_p w0_3_n w0_3_c w0_4_p w0_4_n w0_4_c w K) h

/-! ### (*fathom/prop.Prop).Back: function 29 (named slots 7) -/
def prop_Prop_Back.w (p_ : Option Addr) (level_ : Int) (w : World) (K : Value → World → Prop) : Prop :=
  cnd p_.isNone
  (K (.tuple #[]) w)
  (∃ a1 : Addr, p_ = some a1 ∧ ∃ x2_p : Option Addr, ∃ x2_n : Nat, ∃ x2_c : Nat, w.cell? (a1.add 7) = some (.slice x2_p x2_n x2_c) ∧ 
  cnd (decide ((imax 0 level_) ≥ (x2_n : Int)))
  (K (.tuple #[]) w)
  (∃ a3 : Addr, p_ = some a3 ∧ ∃ x4_p : Option Addr, ∃ x4_n : Nat, ∃ x4_c : Nat, w.cell? (a3.add 7) = some (.slice x4_p x4_n x4_c) ∧ 
    ixK x4_p x4_n (imax 0 level_) 1 fun a5 =>
    ∃ x6 : Int, w.cell? a5 = some (.int .i64 x6) ∧ 
    ∃ a7 : Addr, p_ = some a7 ∧ ∃ x8_p : Option Addr, ∃ x8_n : Nat, ∃ x8_c : Nat, w.cell? (a7.add 6) = some (.slice x8_p x8_n x8_c) ∧ 
    slK x8_p x8_n x8_c 1 (some x6) none none fun s9_p s9_n s9_c =>
    ∃ I10 : Int → World → Nat → Prop, (∃ k11, I10 0 w k11) ∧
    ∀ (v13 : Int) (w14 : World) (k11 : Nat) (_ : Fr), I10 v13 w14 k11 →
    cnd (decide (v13 < (s9_n : Int)))
      (ixK s9_p s9_n v13 1 fun a15 =>
        ∃ x16 : Int, w14.cell? a15 = some (.int .i64 x16) ∧ 
        ∃ W17 : World → Prop, W17 w14.drew ∧ 
        ∃ a18 : Addr, p_ = some a18 ∧ ∃ x19_p : Option Addr, ∃ x19_n : Nat, ∃ x19_c : Nat, AtW W17 (a18.add 3) (.slice x19_p x19_n x19_c) ∧ 
        Calls Try.prog 68 #[.int .i64 x16] w14.drew fun e w20 => ∃ r21 : Int, e = .returned (.int .i64 r21) ∧ 
        W17 w20 ∧ ixK x19_p x19_n r21 1 fun a22 =>
        ∃ w23 : World, StoreAt a22 0 [.int .i8 0] w20 w23 ∧ 
        ∃ k12, k12 < k11 ∧ I10 (IntKind.i64.wrap (v13 + (1 : Int))) w23 k12)
      (∃ a24 : Addr, p_ = some a24 ∧ ∃ x25 : Int, w14.drew.cell? (a24.add 9) = some (.int .i64 x25) ∧ 
        ∃ a26 : Addr, p_ = some a26 ∧ ∃ x27_p : Option Addr, ∃ x27_n : Nat, ∃ x27_c : Nat, w14.drew.cell? (a26.add 8) = some (.slice x27_p x27_n x27_c) ∧ 
        ixK x27_p x27_n (imax 0 level_) 1 fun a28 =>
        ∃ x29 : Int, w14.drew.cell? a28 = some (.int .i64 x29) ∧ 
        ∃ a30 : Addr, p_ = some a30 ∧ ∃ w31 : World, StoreAt (a30.add 9) 0 [.int .i64 (imin (imin x25 x6) x29)] w14.drew w31 ∧ 
        ∃ a32 : Addr, p_ = some a32 ∧ ∃ x33_p : Option Addr, ∃ x33_n : Nat, ∃ x33_c : Nat, w31.drew.cell? (a32.add 6) = some (.slice x33_p x33_n x33_c) ∧ 
        slK x33_p x33_n x33_c 1 none (some x6) none fun s34_p s34_n s34_c =>
        ∃ a35 : Addr, p_ = some a35 ∧ ∃ x36_p : Option Addr, ∃ x36_n : Nat, ∃ x36_c : Nat, w31.drew.cell? (a35.add 7) = some (.slice x36_p x36_n x36_c) ∧ 
        slK x36_p x36_n x36_c 1 none (some (imax 0 level_)) none fun s37_p s37_n s37_c =>
        ∃ a38 : Addr, p_ = some a38 ∧ ∃ x39_p : Option Addr, ∃ x39_n : Nat, ∃ x39_c : Nat, w31.drew.cell? (a38.add 8) = some (.slice x39_p x39_n x39_c) ∧ 
        slK x39_p x39_n x39_c 1 none (some (imax 0 level_)) none fun s40_p s40_n s40_c =>
        ∃ a41 : Addr, p_ = some a41 ∧ ∃ w42 : World, StoreAt (a41.add 6) 0 [.slice s34_p s34_n s34_c] w31.drew w42 ∧ 
        ∃ a43 : Addr, p_ = some a43 ∧ ∃ w44 : World, StoreAt (a43.add 7) 0 [.slice s37_p s37_n s37_c] w42 w44 ∧ 
        ∃ a45 : Addr, p_ = some a45 ∧ ∃ w46 : World, StoreAt (a45.add 8) 0 [.slice s40_p s40_n s40_c] w44 w46 ∧ 
        K (.tuple #[]) w46)))
theorem prop_Prop_Back.eq (p_ : Option Addr) (level_ : Int) (w : World) (K : Value → World → Prop) : wpF Try.prog Try.f29 (.two .leaf (.two .leaf (.two .leaf (.two (.two .leaf (.one (.loop [(34, 3)] (.two .leaf (.two .leaf (.two (.one (.two .leaf .draw)) .leaf)))))) .leaf)))) [.pointer p_, .int .i64 level_] w K = prop_Prop_Back.w p_ level_ w K := by kernel_rfl
theorem prop_Prop_Back.ok : fnOk Try.prog Try.f29 2 = true := by kernel_rfl
theorem prop_Prop_Back.calls {p_ : Option Addr} {level_ : Int} {w : World} {R : Ending → World → Prop} (h : prop_Prop_Back.w p_ level_ w fun v w' => R (.returned v) w') : Calls Try.prog 29 #[.pointer p_, .int .i64 level_] w R :=
  calls_of mixed Try.func29 prop_Prop_Back.ok rfl (fun K => prop_Prop_Back.eq p_ level_ w K) h

/-! ### (*fathom/prop.Prop).Add: function 30 (named slots 9) -/
def prop_Prop_Add.w (p_ : Option Addr) (c__p : Option Addr) (c__n : Nat) (c__c : Nat) (w : World) (K : Value → World → Prop) : Prop :=
  ∀ (n1 : Nat) (w2 : World), New (.cells #[.pointer p_] 29) w n1 w2 → 
  ∃ x3 : Option Addr, w2.cell? (Addr.mk n1 0 none) = some (.pointer x3) ∧ 
  cnd x3.isNone
  (K (.tuple #[.int .i64 0, .int .i64 1]) w2)
  (∃ x4 : Option Addr, w2.cell? (Addr.mk n1 0 none) = some (.pointer x4) ∧ 
  ∃ a5 : Addr, x4 = some a5 ∧ ∃ x6_p : Option Addr, ∃ x6_n : Nat, ∃ x6_c : Nat, w2.cell? (a5.add 3) = some (.slice x6_p x6_n x6_c) ∧ 
  cnd x6_p.isNone
  (K (.tuple #[.int .i64 0, .int .i64 1]) w2)
  (Calls Try.prog 69 #[.slice c__p c__n c__c] w2 fun e w7 => ∃ r8 : Int, e = .returned (.int .i64 r8) ∧ 
  cnd (r8 != (0 : Int))
  (K (.tuple #[.int .i64 0, .int .i64 1]) w7)
  (Calls Try.prog 70 #[.slice c__p c__n c__c, .func (.func 71) #[] #[.pointer (some (Addr.mk n1 0 none))]] w7 fun e w9 => ∃ r10 : Bool, e = .returned (.bool r10) ∧ 
  cnd r10
  (K (.tuple #[.int .i64 0, .int .i64 1]) w9)
  (∃ x11 : Option Addr, w9.cell? (Addr.mk n1 0 none) = some (.pointer x11) ∧ 
    ∃ a12 : Addr, x11 = some a12 ∧ ∃ x13_p : Option Addr, ∃ x13_n : Nat, ∃ x13_c : Nat, w9.cell? (a12.add 1) = some (.slice x13_p x13_n x13_c) ∧ 
    cnd ((x13_n : Int) == (262144 : Int))
    (K (.tuple #[.int .i64 0, .int .i64 5]) w9)
    (Calls Try.prog 73 #[.slice c__p c__n c__c] w9 fun e w14 => ∃ r15_p : Option Addr, ∃ r15_n : Nat, ∃ r15_c : Nat, ∃ r16 : Bool, e = .returned (.tuple #[.slice r15_p r15_n r15_c, .bool r16]) ∧ 
      ∃ x17 : Option Addr, w14.cell? (Addr.mk n1 0 none) = some (.pointer x17) ∧ 
      ∃ a18 : Addr, x17 = some a18 ∧ ∃ x19_p : Option Addr, ∃ x19_n : Nat, ∃ x19_c : Nat, w14.cell? (a18.add 1) = some (.slice x19_p x19_n x19_c) ∧ 
      ∃ W20 : World → Prop, W20 w14.drew ∧ 
      ∃ x21 : Option Addr, AtW W20 (Addr.mk n1 0 none) (.pointer x21) ∧ 
      ∃ x22 : Option Addr, AtW W20 (Addr.mk n1 0 none) (.pointer x22) ∧ 
      ∃ a23 : Addr, x22 = some a23 ∧ ∃ x24_p : Option Addr, ∃ x24_n : Nat, ∃ x24_c : Nat, AtW W20 (a23.add 1) (.slice x24_p x24_n x24_c) ∧ 
      Calls Try.prog 62 #[.slice c__p c__n c__c] w14.drew fun e w25 => ∃ r26_p : Option Addr, ∃ r26_n : Nat, ∃ r26_c : Nat, e = .returned (.slice r26_p r26_n r26_c) ∧ 
      W20 w25 ∧ ∀ (n27 : Nat) (w28 : World), New (.cells #[.slice r26_p r26_n r26_c, .slice r15_p r15_n r15_c, .bool false] 79) w25 n27 w28 → 
      W20 w28 ∧ ∃ w29 : World, ∃ r30_p : Option Addr, ∃ r30_n : Nat, ∃ r30_c : Nat, (Builtin.append_ #[52, 52] 52 #[.slice x24_p x24_n x24_c, .slice (some (Addr.mk n27 0 none)) 1 1]).run Try.prog w28 = .ok (.slice r30_p r30_n r30_c) w29 ∧ 
      W20 w29 ∧ ∃ a31 : Addr, x21 = some a31 ∧ ∃ w32 : World, StoreAt (a31.add 1) 0 [.slice r30_p r30_n r30_c] w29 w32 ∧ 
      ∃ x33 : Option Addr, w32.cell? (Addr.mk n1 0 none) = some (.pointer x33) ∧ 
      Calls Try.prog 74 #[.pointer x33, .int .i64 (x19_n : Int)] w32 fun e w34 => e = .returned (.tuple #[]) ∧ 
      K (.tuple #[.int .i64 (x19_n : Int), .int .i64 0]) w34)))))
theorem prop_Prop_Add.eq (p_ : Option Addr) (c__p : Option Addr) (c__n : Nat) (c__c : Nat) (w : World) (K : Value → World → Prop) : wpF Try.prog Try.f30 (.two .leaf (.two .leaf (.two .leaf (.two .leaf (.two .draw .leaf))))) [.pointer p_, .slice c__p c__n c__c] w K = prop_Prop_Add.w p_ c__p c__n c__c w K := by kernel_rfl
theorem prop_Prop_Add.ok : fnOk Try.prog Try.f30 2 = true := by kernel_rfl
theorem prop_Prop_Add.calls {p_ : Option Addr} {c__p : Option Addr} {c__n : Nat} {c__c : Nat} {w : World} {R : Ending → World → Prop} (h : prop_Prop_Add.w p_ c__p c__n c__c w fun v w' => R (.returned v) w') : Calls Try.prog 30 #[.pointer p_, .slice c__p c__n c__c] w R :=
  calls_of mixed Try.func30 prop_Prop_Add.ok rfl (fun K => prop_Prop_Add.eq p_ c__p c__n c__c w K) h

/-! ### (*fathom/prop.Prop).Clause: function 31 (named slots 6) -/
def prop_Prop_Clause.w (p_ : Option Addr) (i_ : Int) (w : World) (K : Value → World → Prop) : Prop :=
  Calls Try.prog 75 #[.pointer p_, .int .i64 i_] w fun e w1 => ∃ r2 : Bool, e = .returned (.bool r2) ∧ 
  cnd (!r2)
  (K (.tuple #[.slice none 0 0, .bool false]) w1)
  (∃ a3 : Addr, p_ = some a3 ∧ ∃ x4_p : Option Addr, ∃ x4_n : Nat, ∃ x4_c : Nat, w1.cell? (a3.add 1) = some (.slice x4_p x4_n x4_c) ∧ 
    ixK x4_p x4_n i_ 3 fun a5 =>
    ∃ x6_p : Option Addr, ∃ x6_n : Nat, ∃ x6_c : Nat, w1.cell? (a5.add 0) = some (.slice x6_p x6_n x6_c) ∧ 
    Calls Try.prog 62 #[.slice x6_p x6_n x6_c] w1 fun e w7 => ∃ r8_p : Option Addr, ∃ r8_n : Nat, ∃ r8_c : Nat, e = .returned (.slice r8_p r8_n r8_c) ∧ 
    K (.tuple #[.slice r8_p r8_n r8_c, .bool true]) w7)
theorem prop_Prop_Clause.eq (p_ : Option Addr) (i_ : Int) (w : World) (K : Value → World → Prop) : wpF Try.prog Try.f31 .leaf [.pointer p_, .int .i64 i_] w K = prop_Prop_Clause.w p_ i_ w K := by kernel_rfl
theorem prop_Prop_Clause.ok : fnOk Try.prog Try.f31 2 = true := by kernel_rfl
theorem prop_Prop_Clause.calls {p_ : Option Addr} {i_ : Int} {w : World} {R : Ending → World → Prop} (h : prop_Prop_Clause.w p_ i_ w fun v w' => R (.returned v) w') : Calls Try.prog 31 #[.pointer p_, .int .i64 i_] w R :=
  calls_of mixed Try.func31 prop_Prop_Clause.ok rfl (fun K => prop_Prop_Clause.eq p_ i_ w K) h

/-! ### (*fathom/prop.Prop).Drop: function 32 (named slots 7) -/
def prop_Prop_Drop.w (p_ : Option Addr) (i_ : Int) (w : World) (K : Value → World → Prop) : Prop :=
  ∀ (n1 : Nat) (w2 : World), New (.cells #[.int .i64 i_] 3) w n1 w2 → 
  ∃ x3 : Int, w2.cell? (Addr.mk n1 0 none) = some (.int .i64 x3) ∧ 
  Calls Try.prog 75 #[.pointer p_, .int .i64 x3] w2 fun e w4 => ∃ r5 : Bool, e = .returned (.bool r5) ∧ 
  cnd (!r5)
  (K (.int .i64 4) w4)
  (∃ a6 : Addr, p_ = some a6 ∧ ∃ x7_p : Option Addr, ∃ x7_n : Nat, ∃ x7_c : Nat, w4.drew.cell? (a6.add 1) = some (.slice x7_p x7_n x7_c) ∧ 
    ∃ x8 : Int, w4.drew.cell? (Addr.mk n1 0 none) = some (.int .i64 x8) ∧ 
    ixK x7_p x7_n x8 3 fun a9 =>
    ∃ x10_p : Option Addr, ∃ x10_n : Nat, ∃ x10_c : Nat, w4.drew.cell? (a9.add 1) = some (.slice x10_p x10_n x10_c) ∧ 
    ∃ I11 : Int → World → Nat → Prop, (∃ k12, I11 0 w4.drew k12) ∧
    ∀ (v14 : Int) (w15 : World) (k12 : Nat) (_ : Fr), I11 v14 w15 k12 →
    cnd (decide (v14 < (x10_n : Int)))
      (ixK x10_p x10_n v14 1 fun a16 =>
        ∃ x17 : Int, w15.cell? a16 = some (.int .i64 x17) ∧ 
        ∃ W18 : World → Prop, W18 w15.drew ∧ 
        Calls Try.prog 76 #[.pointer p_, .int .i64 x17] w15.drew fun e w19 => ∃ r20 : Int, e = .returned (.int .i8 r20) ∧ 
        W18 w19 ∧ cnd (decide (r20 > (0 : Int)))
        (∃ a21 : Addr, p_ = some a21 ∧ ∃ x22_p : Option Addr, ∃ x22_n : Nat, ∃ x22_c : Nat, AtW W18 (a21.add 5) (.slice x22_p x22_n x22_c) ∧ 
        Calls Try.prog 68 #[.int .i64 x17] w19 fun e w23 => ∃ r24 : Int, e = .returned (.int .i64 r24) ∧ 
        W18 w23 ∧ ixK x22_p x22_n r24 1 fun a25 =>
        ∃ x26 : Int, AtW W18 a25 (.int .i64 x26) ∧ 
        ∃ x27 : Int, AtW W18 (Addr.mk n1 0 none) (.int .i64 x27) ∧ 
        cnd (x26 == x27)
        (K (.int .i64 7) w23)
        (∃ k13, k13 < k12 ∧ I11 (IntKind.i64.wrap (v14 + (1 : Int))) w23 k13))
        (∃ k13, k13 < k12 ∧ I11 (IntKind.i64.wrap (v14 + (1 : Int))) w19 k13))
      (∃ x28 : Int, w15.cell? (Addr.mk n1 0 none) = some (.int .i64 x28) ∧ 
        Calls Try.prog 77 #[.pointer p_, .int .i64 x28] w15 fun e w29 => e = .returned (.tuple #[]) ∧ 
        ∃ a30 : Addr, p_ = some a30 ∧ ∃ x31_p : Option Addr, ∃ x31_n : Nat, ∃ x31_c : Nat, w29.cell? (a30.add 10) = some (.slice x31_p x31_n x31_c) ∧ 
        Calls Try.prog 78 #[.slice x31_p x31_n x31_c, .func (.func 79) #[] #[.pointer (some (Addr.mk n1 0 none))]] w29 fun e w32 => ∃ r33_p : Option Addr, ∃ r33_n : Nat, ∃ r33_c : Nat, e = .returned (.slice r33_p r33_n r33_c) ∧ 
        ∃ a34 : Addr, p_ = some a34 ∧ ∃ w35 : World, StoreAt (a34.add 10) 0 [.slice r33_p r33_n r33_c] w32 w35 ∧ 
        ∃ a36 : Addr, p_ = some a36 ∧ ∃ x37_p : Option Addr, ∃ x37_n : Nat, ∃ x37_c : Nat, w35.drew.cell? (a36.add 1) = some (.slice x37_p x37_n x37_c) ∧ 
        ∃ x38 : Int, w35.drew.cell? (Addr.mk n1 0 none) = some (.int .i64 x38) ∧ 
        ixK x37_p x37_n x38 3 fun a39 =>
        ∃ w40 : World, StoreAt a39 0 [.slice none 0 0, .slice none 0 0, .bool true] w35.drew w40 ∧ 
        K (.int .i64 0) w40))
theorem prop_Prop_Drop.eq (p_ : Option Addr) (i_ : Int) (w : World) (K : Value → World → Prop) : wpF Try.prog Try.f32 (.two .leaf (.two .leaf (.two (.two .leaf (.one (.loop [(20, 3)] (.two .leaf (.two .leaf (.two (.one (.two .leaf (.two .draw .leaf))) .leaf)))))) .leaf))) [.pointer p_, .int .i64 i_] w K = prop_Prop_Drop.w p_ i_ w K := by kernel_rfl
theorem prop_Prop_Drop.ok : fnOk Try.prog Try.f32 2 = true := by kernel_rfl
theorem prop_Prop_Drop.calls {p_ : Option Addr} {i_ : Int} {w : World} {R : Ending → World → Prop} (h : prop_Prop_Drop.w p_ i_ w fun v w' => R (.returned v) w') : Calls Try.prog 32 #[.pointer p_, .int .i64 i_] w R :=
  calls_of mixed Try.func32 prop_Prop_Drop.ok rfl (fun K => prop_Prop_Drop.eq p_ i_ w K) h

/-! ### (*fathom/prop.Prop).Decide: function 33 (named slots 5) -/
def prop_Prop_Decide.w (p_ : Option Addr) (l_ : Int) (w : World) (K : Value → World → Prop) : Prop :=
  Calls Try.prog 72 #[.pointer p_, .int .i64 l_] w fun e w1 => ∃ r2 : Bool, e = .returned (.bool r2) ∧ 
  cnd (!r2)
  (K (.int .i64 1) w1)
  (Calls Try.prog 76 #[.pointer p_, .int .i64 l_] w1 fun e w3 => ∃ r4 : Int, e = .returned (.int .i8 r4) ∧ 
  cnd (r4 != (0 : Int))
  (K (.int .i64 1) w3)
  (∃ W5 : World → Prop, W5 w3.drew ∧ 
    ∃ a6 : Addr, p_ = some a6 ∧ ∃ x7_p : Option Addr, ∃ x7_n : Nat, ∃ x7_c : Nat, AtW W5 (a6.add 7) (.slice x7_p x7_n x7_c) ∧ 
    ∃ a8 : Addr, p_ = some a8 ∧ ∃ x9_p : Option Addr, ∃ x9_n : Nat, ∃ x9_c : Nat, AtW W5 (a8.add 6) (.slice x9_p x9_n x9_c) ∧ 
    ∃ a10 : Addr, p_ = some a10 ∧ ∃ x11_p : Option Addr, ∃ x11_n : Nat, ∃ x11_c : Nat, AtW W5 (a10.add 8) (.slice x11_p x11_n x11_c) ∧ 
    ∃ a12 : Addr, p_ = some a12 ∧ ∃ x13 : Int, AtW W5 (a12.add 9) (.int .i64 x13) ∧ 
    (∀ (n14 : Nat) (w15 : World), New (.cells #[.int .i64 (x9_n : Int)] 3) w3.drew n14 w15 → 
    W5 w15 ∧ (∃ w16 : World, ∃ r17_p : Option Addr, ∃ r17_n : Nat, ∃ r17_c : Nat, (Builtin.append_ #[31, 31] 31 #[.slice x7_p x7_n x7_c, .slice (some (Addr.mk n14 0 none)) 1 1]).run Try.prog w15 = .ok (.slice r17_p r17_n r17_c) w16 ∧ 
    W5 w16 ∧ ∀ (n18 : Nat) (w19 : World), New (.cells #[.int .i64 x13] 3) w16 n18 w19 → 
    W5 w19 ∧ ∃ w20 : World, ∃ r21_p : Option Addr, ∃ r21_n : Nat, ∃ r21_c : Nat, (Builtin.append_ #[31, 31] 31 #[.slice x11_p x11_n x11_c, .slice (some (Addr.mk n18 0 none)) 1 1]).run Try.prog w19 = .ok (.slice r21_p r21_n r21_c) w20 ∧ 
    ∃ a22 : Addr, p_ = some a22 ∧ ∃ w23 : World, StoreAt (a22.add 7) 0 [.slice r17_p r17_n r17_c] w20 w23 ∧ 
    ∃ a24 : Addr, p_ = some a24 ∧ ∃ w25 : World, StoreAt (a24.add 8) 0 [.slice r21_p r21_n r21_c] w23 w25 ∧ 
    Calls Try.prog 80 #[.pointer p_, .int .i64 l_, .int .i64 (-1)] w25 fun e w26 => e = .returned (.tuple #[]) ∧ 
    K (.int .i64 0) w26) ∧
  (∀ (n27 : Nat) (w28 : World), New (.cells #[.int .i64 x13] 3) w15 n27 w28 → 
    W5 w28 ∧ ∃ w29 : World, ∃ r30_p : Option Addr, ∃ r30_n : Nat, ∃ r30_c : Nat, (Builtin.append_ #[31, 31] 31 #[.slice x7_p x7_n x7_c, .slice (some (Addr.mk n14 0 none)) 1 1]).run Try.prog w28 = .ok (.slice r30_p r30_n r30_c) w29 ∧ 
    W5 w29 ∧ ∃ w31 : World, ∃ r32_p : Option Addr, ∃ r32_n : Nat, ∃ r32_c : Nat, (Builtin.append_ #[31, 31] 31 #[.slice x11_p x11_n x11_c, .slice (some (Addr.mk n27 0 none)) 1 1]).run Try.prog w29 = .ok (.slice r32_p r32_n r32_c) w31 ∧ 
    ∃ a33 : Addr, p_ = some a33 ∧ ∃ w34 : World, StoreAt (a33.add 7) 0 [.slice r30_p r30_n r30_c] w31 w34 ∧ 
    ∃ a35 : Addr, p_ = some a35 ∧ ∃ w36 : World, StoreAt (a35.add 8) 0 [.slice r32_p r32_n r32_c] w34 w36 ∧ 
    Calls Try.prog 80 #[.pointer p_, .int .i64 l_, .int .i64 (-1)] w36 fun e w37 => e = .returned (.tuple #[]) ∧ 
    K (.int .i64 0) w37)) ∧
  (∀ (n38 : Nat) (w39 : World), New (.cells #[.int .i64 x13] 3) w3.drew n38 w39 → 
    W5 w39 ∧ ∀ (n40 : Nat) (w41 : World), New (.cells #[.int .i64 (x9_n : Int)] 3) w39 n40 w41 → 
    W5 w41 ∧ ∃ w42 : World, ∃ r43_p : Option Addr, ∃ r43_n : Nat, ∃ r43_c : Nat, (Builtin.append_ #[31, 31] 31 #[.slice x7_p x7_n x7_c, .slice (some (Addr.mk n40 0 none)) 1 1]).run Try.prog w41 = .ok (.slice r43_p r43_n r43_c) w42 ∧ 
    W5 w42 ∧ ∃ w44 : World, ∃ r45_p : Option Addr, ∃ r45_n : Nat, ∃ r45_c : Nat, (Builtin.append_ #[31, 31] 31 #[.slice x11_p x11_n x11_c, .slice (some (Addr.mk n38 0 none)) 1 1]).run Try.prog w42 = .ok (.slice r45_p r45_n r45_c) w44 ∧ 
    ∃ a46 : Addr, p_ = some a46 ∧ ∃ w47 : World, StoreAt (a46.add 7) 0 [.slice r43_p r43_n r43_c] w44 w47 ∧ 
    ∃ a48 : Addr, p_ = some a48 ∧ ∃ w49 : World, StoreAt (a48.add 8) 0 [.slice r45_p r45_n r45_c] w47 w49 ∧ 
    Calls Try.prog 80 #[.pointer p_, .int .i64 l_, .int .i64 (-1)] w49 fun e w50 => e = .returned (.tuple #[]) ∧ 
    K (.int .i64 0) w50)))
theorem prop_Prop_Decide.eq (p_ : Option Addr) (l_ : Int) (w : World) (K : Value → World → Prop) : wpF Try.prog Try.f33 (.two .leaf (.two .leaf (.two .draw .leaf))) [.pointer p_, .int .i64 l_] w K = prop_Prop_Decide.w p_ l_ w K := by kernel_rfl
theorem prop_Prop_Decide.ok : fnOk Try.prog Try.f33 2 = true := by kernel_rfl
theorem prop_Prop_Decide.calls {p_ : Option Addr} {l_ : Int} {w : World} {R : Ending → World → Prop} (h : prop_Prop_Decide.w p_ l_ w fun v w' => R (.returned v) w') : Calls Try.prog 33 #[.pointer p_, .int .i64 l_] w R :=
  calls_of mixed Try.func33 prop_Prop_Decide.ok rfl (fun K => prop_Prop_Decide.eq p_ l_ w K) h

/-! ### (*fathom/prop.Prop).Value: function 34 (named slots 5) -/
def prop_Prop_Value.w (p_ : Option Addr) (l_ : Int) (w : World) (K : Value → World → Prop) : Prop :=
  Calls Try.prog 72 #[.pointer p_, .int .i64 l_] w fun e w1 => ∃ r2 : Bool, e = .returned (.bool r2) ∧ 
  cnd (!r2)
  (K (.int .i64 0) w1)
  (Calls Try.prog 76 #[.pointer p_, .int .i64 l_] w1 fun e w3 => ∃ r4 : Int, e = .returned (.int .i8 r4) ∧ 
    K (.int .i64 (IntKind.i64.wrap r4)) w3)
theorem prop_Prop_Value.eq (p_ : Option Addr) (l_ : Int) (w : World) (K : Value → World → Prop) : wpF Try.prog Try.f34 .leaf [.pointer p_, .int .i64 l_] w K = prop_Prop_Value.w p_ l_ w K := by kernel_rfl
theorem prop_Prop_Value.ok : fnOk Try.prog Try.f34 2 = true := by kernel_rfl
theorem prop_Prop_Value.calls {p_ : Option Addr} {l_ : Int} {w : World} {R : Ending → World → Prop} (h : prop_Prop_Value.w p_ l_ w fun v w' => R (.returned v) w') : Calls Try.prog 34 #[.pointer p_, .int .i64 l_] w R :=
  calls_of mixed Try.func34 prop_Prop_Value.ok rfl (fun K => prop_Prop_Value.eq p_ l_ w K) h

/-! ### (*fathom/prop.Prop).Level: function 35 (named slots 5) -/
def prop_Prop_Level.w (p_ : Option Addr) (l_ : Int) (w : World) (K : Value → World → Prop) : Prop :=
  Calls Try.prog 72 #[.pointer p_, .int .i64 l_] w fun e w1 => ∃ r2 : Bool, e = .returned (.bool r2) ∧ 
  cnd (!r2)
  (K (.int .i64 (-1)) w1)
  (Calls Try.prog 76 #[.pointer p_, .int .i64 l_] w1 fun e w3 => ∃ r4 : Int, e = .returned (.int .i8 r4) ∧ 
  cnd (r4 == (0 : Int))
  (K (.int .i64 (-1)) w3)
  (∃ W5 : World → Prop, W5 w3.drew ∧ 
    ∃ a6 : Addr, p_ = some a6 ∧ ∃ x7_p : Option Addr, ∃ x7_n : Nat, ∃ x7_c : Nat, AtW W5 (a6.add 4) (.slice x7_p x7_n x7_c) ∧ 
    Calls Try.prog 68 #[.int .i64 l_] w3.drew fun e w8 => ∃ r9 : Int, e = .returned (.int .i64 r9) ∧ 
    W5 w8 ∧ ixK x7_p x7_n r9 1 fun a10 =>
    ∃ x11 : Int, AtW W5 a10 (.int .i64 x11) ∧ 
    K (.int .i64 x11) w8))
theorem prop_Prop_Level.eq (p_ : Option Addr) (l_ : Int) (w : World) (K : Value → World → Prop) : wpF Try.prog Try.f35 (.two .leaf (.two .leaf (.two .draw .leaf))) [.pointer p_, .int .i64 l_] w K = prop_Prop_Level.w p_ l_ w K := by kernel_rfl
theorem prop_Prop_Level.ok : fnOk Try.prog Try.f35 2 = true := by kernel_rfl
theorem prop_Prop_Level.calls {p_ : Option Addr} {l_ : Int} {w : World} {R : Ending → World → Prop} (h : prop_Prop_Level.w p_ l_ w fun v w' => R (.returned v) w') : Calls Try.prog 35 #[.pointer p_, .int .i64 l_] w R :=
  calls_of mixed Try.func35 prop_Prop_Level.ok rfl (fun K => prop_Prop_Level.eq p_ l_ w K) h

/-! ### (*fathom/prop.Prop).Reason: function 36 (named slots 5) -/
def prop_Prop_Reason.w (p_ : Option Addr) (l_ : Int) (w : World) (K : Value → World → Prop) : Prop :=
  Calls Try.prog 72 #[.pointer p_, .int .i64 l_] w fun e w1 => ∃ r2 : Bool, e = .returned (.bool r2) ∧ 
  cnd (!r2)
  (K (.int .i64 (-1)) w1)
  (Calls Try.prog 76 #[.pointer p_, .int .i64 l_] w1 fun e w3 => ∃ r4 : Int, e = .returned (.int .i8 r4) ∧ 
  cnd (r4 == (0 : Int))
  (K (.int .i64 (-1)) w3)
  (∃ W5 : World → Prop, W5 w3.drew ∧ 
    ∃ a6 : Addr, p_ = some a6 ∧ ∃ x7_p : Option Addr, ∃ x7_n : Nat, ∃ x7_c : Nat, AtW W5 (a6.add 5) (.slice x7_p x7_n x7_c) ∧ 
    Calls Try.prog 68 #[.int .i64 l_] w3.drew fun e w8 => ∃ r9 : Int, e = .returned (.int .i64 r9) ∧ 
    W5 w8 ∧ ixK x7_p x7_n r9 1 fun a10 =>
    ∃ x11 : Int, AtW W5 a10 (.int .i64 x11) ∧ 
    K (.int .i64 x11) w8))
theorem prop_Prop_Reason.eq (p_ : Option Addr) (l_ : Int) (w : World) (K : Value → World → Prop) : wpF Try.prog Try.f36 (.two .leaf (.two .leaf (.two .draw .leaf))) [.pointer p_, .int .i64 l_] w K = prop_Prop_Reason.w p_ l_ w K := by kernel_rfl
theorem prop_Prop_Reason.ok : fnOk Try.prog Try.f36 2 = true := by kernel_rfl
theorem prop_Prop_Reason.calls {p_ : Option Addr} {l_ : Int} {w : World} {R : Ending → World → Prop} (h : prop_Prop_Reason.w p_ l_ w fun v w' => R (.returned v) w') : Calls Try.prog 36 #[.pointer p_, .int .i64 l_] w R :=
  calls_of mixed Try.func36 prop_Prop_Reason.ok rfl (fun K => prop_Prop_Reason.eq p_ l_ w K) h

/-! ### (*fathom/prop.Prop).Levels: function 37 (named slots 3) -/
def prop_Prop_Levels.w (p_ : Option Addr) (w : World) (K : Value → World → Prop) : Prop :=
  cnd p_.isNone
  (K (.int .i64 0) w)
  (∃ a1 : Addr, p_ = some a1 ∧ ∃ x2_p : Option Addr, ∃ x2_n : Nat, ∃ x2_c : Nat, w.cell? (a1.add 7) = some (.slice x2_p x2_n x2_c) ∧ 
    K (.int .i64 (x2_n : Int)) w)
theorem prop_Prop_Levels.eq (p_ : Option Addr) (w : World) (K : Value → World → Prop) : wpF Try.prog Try.f37 .leaf [.pointer p_] w K = prop_Prop_Levels.w p_ w K := by kernel_rfl
theorem prop_Prop_Levels.ok : fnOk Try.prog Try.f37 1 = true := by kernel_rfl
theorem prop_Prop_Levels.calls {p_ : Option Addr} {w : World} {R : Ending → World → Prop} (h : prop_Prop_Levels.w p_ w fun v w' => R (.returned v) w') : Calls Try.prog 37 #[.pointer p_] w R :=
  calls_of mixed Try.func37 prop_Prop_Levels.ok rfl (fun K => prop_Prop_Levels.eq p_ w K) h

/-! ### fathom/fathomref01.Clause: function 46 (named slots 7) -/
def fathomref01_Clause.w (m__p : Option Addr) (m__n : Nat) (m__c : Nat) (c__p : Option Addr) (c__n : Nat) (c__c : Nat) (w : World) (K : Value → World → Prop) : Prop :=
  ∃ I1 : Bool → Int → World → Nat → Prop, (∃ k2, I1 false 0 w k2) ∧
  ∀ (open_4 : Bool) (i_5 : Int) (w6 : World) (k2 : Nat) (_ : Fr), I1 open_4 i_5 w6 k2 →
  cnd (decide (i_5 < (c__n : Int)))
    (ixK c__p c__n i_5 1 fun a7 =>
      ∃ x8 : Int, w6.cell? a7 = some (.int .i64 x8) ∧ 
      Calls Try.prog 26 #[.slice m__p m__n m__c, .int .i64 x8] w6 fun e w9 => ∃ r10 : Int, e = .returned (.int .i64 r10) ∧ 
      cnd (r10 == (1 : Int))
      (K (.int .i64 1) w9)
      (cnd open_4
        (∃ k3, k3 < k2 ∧ I1 true (IntKind.i64.wrap (i_5 + (1 : Int))) w9 k3)
        (ixK c__p c__n i_5 1 fun a11 =>
        ∃ x12 : Int, w9.cell? a11 = some (.int .i64 x12) ∧ 
        Calls Try.prog 26 #[.slice m__p m__n m__c, .int .i64 x12] w9 fun e w13 => ∃ r14 : Int, e = .returned (.int .i64 r14) ∧ 
        ∃ k3, k3 < k2 ∧ I1 (r14 == (0 : Int)) (IntKind.i64.wrap (i_5 + (1 : Int))) w13 k3)))
    (cnd open_4
      (K (.int .i64 0) w6)
      (K (.int .i64 (-1)) w6))
theorem fathomref01_Clause.eq (m__p : Option Addr) (m__n : Nat) (m__c : Nat) (c__p : Option Addr) (c__n : Nat) (c__c : Nat) (w : World) (K : Value → World → Prop) : wpF Try.prog Try.f46 (.two .leaf (.two .leaf (.two (.two .leaf (.one (.loop [(5, 4), (6, 3)] .leaf))) .leaf))) [.slice m__p m__n m__c, .slice c__p c__n c__c] w K = fathomref01_Clause.w m__p m__n m__c c__p c__n c__c w K := by kernel_rfl
theorem fathomref01_Clause.ok : fnOk Try.prog Try.f46 2 = true := by kernel_rfl
theorem fathomref01_Clause.calls {m__p : Option Addr} {m__n : Nat} {m__c : Nat} {c__p : Option Addr} {c__n : Nat} {c__c : Nat} {w : World} {R : Ending → World → Prop} (h : fathomref01_Clause.w m__p m__n m__c c__p c__n c__c w fun v w' => R (.returned v) w') : Calls Try.prog 46 #[.slice m__p m__n m__c, .slice c__p c__n c__c] w R :=
  calls_of mixed Try.func46 fathomref01_Clause.ok rfl (fun K => fathomref01_Clause.eq m__p m__n m__c c__p c__n c__c w K) h

/-! ### fathom/fathomref01.May: function 48 (named slots 4) -/
def fathomref01_May.w (c__p : Option Addr) (c__n : Nat) (c__c : Nat) (w : World) (K : Value → World → Prop) : Prop :=
  ∃ I1 : Int → World → Nat → Prop, (∃ k2, I1 0 w k2) ∧
  ∀ (i_4 : Int) (w5 : World) (k2 : Nat) (_ : Fr), I1 i_4 w5 k2 →
  cnd (decide (i_4 < (c__n : Int)))
    (ixK c__p c__n i_4 1 fun a6 =>
      ∃ x7 : Int, w5.cell? a6 = some (.int .i64 x7) ∧ 
      Calls Try.prog 64 #[.int .i64 x7] w5 fun e w8 => ∃ r9 : Bool, e = .returned (.bool r9) ∧ 
      cnd (!r9)
      (K (.bool false) w8)
      (∃ k3, k3 < k2 ∧ I1 (IntKind.i64.wrap (i_4 + (1 : Int))) w8 k3))
    (K (.bool (decide ((c__n : Int) ≤ (4096 : Int)))) w5)
theorem fathomref01_May.eq (c__p : Option Addr) (c__n : Nat) (c__c : Nat) (w : World) (K : Value → World → Prop) : wpF Try.prog Try.f48 (.two .leaf (.two (.two .leaf (.one (.loop [(3, 3)] .leaf))) .leaf)) [.slice c__p c__n c__c] w K = fathomref01_May.w c__p c__n c__c w K := by kernel_rfl
theorem fathomref01_May.ok : fnOk Try.prog Try.f48 1 = true := by kernel_rfl
theorem fathomref01_May.calls {c__p : Option Addr} {c__n : Nat} {c__c : Nat} {w : World} {R : Ending → World → Prop} (h : fathomref01_May.w c__p c__n c__c w fun v w' => R (.returned v) w') : Calls Try.prog 48 #[.slice c__p c__n c__c] w R :=
  calls_of mixed Try.func48 fathomref01_May.ok rfl (fun K => fathomref01_May.eq c__p c__n c__c w K) h

/-! ### fathom/fathomref01.Var: function 56 (named slots 3) -/
def fathomref01_Var.w (l_ : Int) (w : World) (K : Value → World → Prop) : Prop :=
  cnd (decide (l_ < (0 : Int)))
  (K (.int .i64 (IntKind.i64.wrap (0 - l_))) w)
  (K (.int .i64 l_) w)
theorem fathomref01_Var.eq (l_ : Int) (w : World) (K : Value → World → Prop) : wpF Try.prog Try.f56 .leaf [.int .i64 l_] w K = fathomref01_Var.w l_ w K := by kernel_rfl
theorem fathomref01_Var.ok : fnOk Try.prog Try.f56 1 = true := by kernel_rfl
theorem fathomref01_Var.calls {l_ : Int} {w : World} {R : Ending → World → Prop} (h : fathomref01_Var.w l_ w fun v w' => R (.returned v) w') : Calls Try.prog 56 #[.int .i64 l_] w R :=
  calls_of mixed Try.func56 fathomref01_Var.ok rfl (fun K => fathomref01_Var.eq l_ w K) h

/-! ### fathom/fathomlaw06.ran: function 57 (named slots 9) -/
def fathomlaw06_ran.w (w0_0 : Option Addr) (w0_1 : Int) (w0_2_p : Option Addr) (w0_2_n : Nat) (w0_2_c : Nat) (w0_3_p : Option Addr) (w0_3_n : Nat) (w0_3_c : Nat) (w0_4_p : Option Addr) (w0_4_n : Nat) (w0_4_c : Nat) (n_ : Int) (w : World) (K : Value → World → Prop) : Prop :=
  ∀ (n1 : Nat) (w2 : World), New (.cells #[.pointer w0_0, .int .i64 w0_1, .slice w0_2_p w0_2_n w0_2_c, .slice w0_3_p w0_3_n w0_3_c, .slice w0_4_p w0_4_n w0_4_c] 33) w n1 w2 → 
  ∃ W3 : World → Prop, W3 w2.drew ∧ 
  ∃ x4 : Option Addr, ∃ x5 : Int, ∃ x6_p : Option Addr, ∃ x6_n : Nat, ∃ x6_c : Nat, ∃ x7_p : Option Addr, ∃ x7_n : Nat, ∃ x7_c : Nat, ∃ x8_p : Option Addr, ∃ x8_n : Nat, ∃ x8_c : Nat, CellsW W3 (Addr.mk n1 0 none) [.pointer x4, .int .i64 x5, .slice x6_p x6_n x6_c, .slice x7_p x7_n x7_c, .slice x8_p x8_n x8_c] ∧ 
  Calls Try.prog 22 #[.agg #[.pointer x4, .int .i64 x5, .slice x6_p x6_n x6_c, .slice x7_p x7_n x7_c, .slice x8_p x8_n x8_c]] w2.drew fun e w9 => ∃ r10_p : Option Addr, ∃ r10_n : Nat, ∃ r10_c : Nat, e = .returned (.slice r10_p r10_n r10_c) ∧ 
  W3 w9 ∧ ∃ x11_p : Option Addr, ∃ x11_n : Nat, ∃ x11_c : Nat, AtW W3 ((Addr.mk n1 0 none).add 4) (.slice x11_p x11_n x11_c) ∧ 
  Calls Try.prog 89 #[.slice r10_p r10_n r10_c, .slice x11_p x11_n x11_c] w9 fun e w12 => ∃ r13_p : Option Addr, ∃ r13_n : Nat, ∃ r13_c : Nat, ∃ r14 : Bool, e = .returned (.tuple #[.slice r13_p r13_n r13_c, .bool r14]) ∧ 
  cnd (decide (n_ ≥ (0 : Int)))
  (∃ x15 : Option Addr, w12.cell? ((Addr.mk n1 0 none).add 0) = some (.pointer x15) ∧ 
    Calls Try.prog 31 #[.pointer x15, .int .i64 n_] w12 fun e w16 => ∃ r17_p : Option Addr, ∃ r17_n : Nat, ∃ r17_c : Nat, ∃ r18 : Bool, e = .returned (.tuple #[.slice r17_p r17_n r17_c, .bool r18]) ∧ 
    cnd r14
    (cnd r18
    (∃ x19 : Option Addr, w16.cell? ((Addr.mk n1 0 none).add 0) = some (.pointer x19) ∧ 
    Calls Try.prog 20 #[.pointer x19] w16 fun e w20 => ∃ r21_p : Option Addr, ∃ r21_n : Nat, ∃ r21_c : Nat, e = .returned (.slice r21_p r21_n r21_c) ∧ 
    Calls Try.prog 66 #[.slice r17_p r17_n r17_c, .slice r21_p r21_n r21_c] w20 fun e w22 => ∃ r23 : Bool, e = .returned (.bool r23) ∧ 
    K (.bool r23) w22)
    (K (.bool false) w16))
    (K (.bool false) w16))
  (cnd (n_ == (-1))
    (cnd (!r14)
    (∃ x24 : Option Addr, w12.cell? ((Addr.mk n1 0 none).add 0) = some (.pointer x24) ∧ 
    Calls Try.prog 20 #[.pointer x24] w12 fun e w25 => ∃ r26_p : Option Addr, ∃ r26_n : Nat, ∃ r26_c : Nat, e = .returned (.slice r26_p r26_n r26_c) ∧ 
    Calls Try.prog 23 #[.slice r26_p r26_n r26_c, .slice r13_p r13_n r13_c] w25 fun e w27 => ∃ r28 : Bool, e = .returned (.bool r28) ∧ 
    K (.bool r28) w27)
    (K (.bool false) w12))
    (K (.bool false) w12))
theorem fathomlaw06_ran.eq (w0_0 : Option Addr) (w0_1 : Int) (w0_2_p : Option Addr) (w0_2_n : Nat) (w0_2_c : Nat) (w0_3_p : Option Addr) (w0_3_n : Nat) (w0_3_c : Nat) (w0_4_p : Option Addr) (w0_4_n : Nat) (w0_4_c : Nat) (n_ : Int) (w : World) (K : Value → World → Prop) : wpF Try.prog Try.f57 (.two .leaf (.two .draw .leaf)) [.agg #[.pointer w0_0, .int .i64 w0_1, .slice w0_2_p w0_2_n w0_2_c, .slice w0_3_p w0_3_n w0_3_c, .slice w0_4_p w0_4_n w0_4_c], .int .i64 n_] w K = fathomlaw06_ran.w w0_0 w0_1 w0_2_p w0_2_n w0_2_c w0_3_p w0_3_n w0_3_c w0_4_p w0_4_n w0_4_c n_ w K := by kernel_rfl
theorem fathomlaw06_ran.ok : fnOk Try.prog Try.f57 2 = true := by kernel_rfl
theorem fathomlaw06_ran.calls {w0_0 : Option Addr} {w0_1 : Int} {w0_2_p : Option Addr} {w0_2_n : Nat} {w0_2_c : Nat} {w0_3_p : Option Addr} {w0_3_n : Nat} {w0_3_c : Nat} {w0_4_p : Option Addr} {w0_4_n : Nat} {w0_4_c : Nat} {n_ : Int} {w : World} {R : Ending → World → Prop} (h : fathomlaw06_ran.w w0_0 w0_1 w0_2_p w0_2_n w0_2_c w0_3_p w0_3_n w0_3_c w0_4_p w0_4_n w0_4_c n_ w fun v w' => R (.returned v) w') : Calls Try.prog 57 #[.agg #[.pointer w0_0, .int .i64 w0_1, .slice w0_2_p w0_2_n w0_2_c, .slice w0_3_p w0_3_n w0_3_c, .slice w0_4_p w0_4_n w0_4_c], .int .i64 n_] w R :=
  calls_of mixed Try.func57 fathomlaw06_ran.ok rfl (fun K => fathomlaw06_ran.eq w0_0 w0_1 w0_2_p w0_2_n w0_2_c w0_3_p w0_3_n w0_3_c w0_4_p w0_4_n w0_4_c n_ w K) h

/-! ### fathom/fathomlaw06.reason: function 58 (named slots 7) -/
def fathomlaw06_reason.w (w0_0 : Option Addr) (w0_1 : Int) (w0_2_p : Option Addr) (w0_2_n : Nat) (w0_2_c : Nat) (w0_3_p : Option Addr) (w0_3_n : Nat) (w0_3_c : Nat) (w0_4_p : Option Addr) (w0_4_n : Nat) (w0_4_c : Nat) (i_ : Int) (w : World) (K : Value → World → Prop) : Prop :=
  ∀ (n1 : Nat) (w2 : World), New (.cells #[.pointer w0_0, .int .i64 w0_1, .slice w0_2_p w0_2_n w0_2_c, .slice w0_3_p w0_3_n w0_3_c, .slice w0_4_p w0_4_n w0_4_c] 33) w n1 w2 → 
  ∃ x3 : Option Addr, w2.cell? ((Addr.mk n1 0 none).add 0) = some (.pointer x3) ∧ 
  Calls Try.prog 20 #[.pointer x3] w2 fun e w4 => ∃ r5_p : Option Addr, ∃ r5_n : Nat, ∃ r5_c : Nat, e = .returned (.slice r5_p r5_n r5_c) ∧ 
  ∃ I6 : Int → World → Nat → Prop, (∃ k7, I6 0 w4 k7) ∧
  ∀ (k_9 : Int) (w10 : World) (k7 : Nat) (_ : Fr), I6 k_9 w10 k7 →
  cnd (decide (k_9 < (r5_n : Int)))
    (∃ x11 : Option Addr, w10.drew.cell? ((Addr.mk n1 0 none).add 0) = some (.pointer x11) ∧ 
      ixK r5_p r5_n k_9 1 fun a12 =>
      ∃ x13 : Int, w10.drew.cell? a12 = some (.int .i64 x13) ∧ 
      Calls Try.prog 36 #[.pointer x11, .int .i64 x13] w10.drew fun e w14 => ∃ r15 : Int, e = .returned (.int .i64 r15) ∧ 
      cnd (r15 == i_)
      (K (.bool true) w14)
      (∃ k8, k8 < k7 ∧ I6 (IntKind.i64.wrap (k_9 + (1 : Int))) w14 k8))
    (K (.bool false) w10)
theorem fathomlaw06_reason.eq (w0_0 : Option Addr) (w0_1 : Int) (w0_2_p : Option Addr) (w0_2_n : Nat) (w0_2_c : Nat) (w0_3_p : Option Addr) (w0_3_n : Nat) (w0_3_c : Nat) (w0_4_p : Option Addr) (w0_4_n : Nat) (w0_4_c : Nat) (i_ : Int) (w : World) (K : Value → World → Prop) : wpF Try.prog Try.f58 (.two .leaf (.two .leaf (.two (.two .leaf (.one (.loop [(6, 3)] .leaf))) .leaf))) [.agg #[.pointer w0_0, .int .i64 w0_1, .slice w0_2_p w0_2_n w0_2_c, .slice w0_3_p w0_3_n w0_3_c, .slice w0_4_p w0_4_n w0_4_c], .int .i64 i_] w K = fathomlaw06_reason.w w0_0 w0_1 w0_2_p w0_2_n w0_2_c w0_3_p w0_3_n w0_3_c w0_4_p w0_4_n w0_4_c i_ w K := by kernel_rfl
theorem fathomlaw06_reason.ok : fnOk Try.prog Try.f58 2 = true := by kernel_rfl
theorem fathomlaw06_reason.calls {w0_0 : Option Addr} {w0_1 : Int} {w0_2_p : Option Addr} {w0_2_n : Nat} {w0_2_c : Nat} {w0_3_p : Option Addr} {w0_3_n : Nat} {w0_3_c : Nat} {w0_4_p : Option Addr} {w0_4_n : Nat} {w0_4_c : Nat} {i_ : Int} {w : World} {R : Ending → World → Prop} (h : fathomlaw06_reason.w w0_0 w0_1 w0_2_p w0_2_n w0_2_c w0_3_p w0_3_n w0_3_c w0_4_p w0_4_n w0_4_c i_ w fun v w' => R (.returned v) w') : Calls Try.prog 58 #[.agg #[.pointer w0_0, .int .i64 w0_1, .slice w0_2_p w0_2_n w0_2_c, .slice w0_3_p w0_3_n w0_3_c, .slice w0_4_p w0_4_n w0_4_c], .int .i64 i_] w R :=
  calls_of mixed Try.func58 fathomlaw06_reason.ok rfl (fun K => fathomlaw06_reason.eq w0_0 w0_1 w0_2_p w0_2_n w0_2_c w0_3_p w0_3_n w0_3_c w0_4_p w0_4_n w0_4_c i_ w K) h

/-! ### (*fathom/prop.Prop).loosely: function 59 (named slots 9) -/
def prop_Prop_loosely.w (p_ : Option Addr) (w : World) (K : Value → World → Prop) : Prop :=
  ∀ (n1 : Nat) (w2 : World), New (.cells #[.pointer p_] 29) w n1 w2 → 
  ∃ x3 : Option Addr, w2.cell? (Addr.mk n1 0 none) = some (.pointer x3) ∧ 
  ∃ a4 : Addr, x3 = some a4 ∧ ∃ x5_p : Option Addr, ∃ x5_n : Nat, ∃ x5_c : Nat, w2.cell? (a4.add 10) = some (.slice x5_p x5_n x5_c) ∧ 
  ∃ I6 : Option Addr → Nat → Nat → Int → Int → World → Nat → Prop, (∃ k7, I6 none 0 0 (-1) 0 w2 k7) ∧
  ∀ (keep_9_p : Option Addr) (keep_9_n : Nat) (keep_9_c : Nat) (broken_10 : Int) (v11 : Int) (w12 : World) (k7 : Nat) (_ : Fr), I6 keep_9_p keep_9_n keep_9_c broken_10 v11 w12 k7 →
  cnd (decide (v11 < (x5_n : Int)))
    (ixK x5_p x5_n v11 1 fun a13 =>
      ∃ x14 : Int, w12.cell? a13 = some (.int .i64 x14) ∧ 
      cnd (decide (broken_10 ≥ (0 : Int)))
      (∃ x15 : Option Addr, w12.cell? (Addr.mk n1 0 none) = some (.pointer x15) ∧ 
        ∃ a16 : Addr, x15 = some a16 ∧ ∃ x17_p : Option Addr, ∃ x17_n : Nat, ∃ x17_c : Nat, w12.cell? (a16.add 10) = some (.slice x17_p x17_n x17_c) ∧ 
        ixK x17_p x17_n v11 1 fun a18 =>
        ∃ x19 : Int, w12.cell? a18 = some (.int .i64 x19) ∧ 
        ∀ (n20 : Nat) (w21 : World), New (.cells #[.int .i64 x19] 3) w12 n20 w21 → 
        ∃ w22 : World, ∃ r23_p : Option Addr, ∃ r23_n : Nat, ∃ r23_c : Nat, (Builtin.append_ #[31, 31] 31 #[.slice keep_9_p keep_9_n keep_9_c, .slice (some (Addr.mk n20 0 none)) 1 1]).run Try.prog w21 = .ok (.slice r23_p r23_n r23_c) w22 ∧ 
        ∃ k8, k8 < k7 ∧ I6 r23_p r23_n r23_c broken_10 (IntKind.i64.wrap (v11 + (1 : Int))) w22 k8)
      (∃ x24 : Option Addr, w12.cell? (Addr.mk n1 0 none) = some (.pointer x24) ∧ 
        ∃ a25 : Addr, x24 = some a25 ∧ ∃ x26_p : Option Addr, ∃ x26_n : Nat, ∃ x26_c : Nat, w12.cell? (a25.add 1) = some (.slice x26_p x26_n x26_c) ∧ 
        ixK x26_p x26_n x14 3 fun a27 =>
        ∃ x28_p : Option Addr, ∃ x28_n : Nat, ∃ x28_c : Nat, w12.cell? (a27.add 1) = some (.slice x28_p x28_n x28_c) ∧ 
        Calls Try.prog 62 #[.slice x28_p x28_n x28_c] w12 fun e w29 => ∃ r30_p : Option Addr, ∃ r30_n : Nat, ∃ r30_c : Nat, e = .returned (.slice r30_p r30_n r30_c) ∧ 
        Calls Try.prog 78 #[.slice r30_p r30_n r30_c, .func (.func 93) #[] #[.pointer (some (Addr.mk n1 0 none))]] w29 fun e w31 => ∃ r32_p : Option Addr, ∃ r32_n : Nat, ∃ r32_c : Nat, e = .returned (.slice r32_p r32_n r32_c) ∧ 
        cnd (decide ((r32_n : Int) > (1 : Int)))
        (∃ x33 : Option Addr, w31.cell? (Addr.mk n1 0 none) = some (.pointer x33) ∧ 
          Calls Try.prog 77 #[.pointer x33, .int .i64 x14] w31 fun e w34 => e = .returned (.tuple #[]) ∧ 
          ∃ x35 : Option Addr, w34.cell? (Addr.mk n1 0 none) = some (.pointer x35) ∧ 
          Calls Try.prog 94 #[.pointer x35, .int .i64 x14] w34 fun e w36 => e = .returned (.tuple #[]) ∧ 
          ∃ k8, k8 < k7 ∧ I6 keep_9_p keep_9_n keep_9_c broken_10 (IntKind.i64.wrap (v11 + (1 : Int))) w36 k8)
        (∀ (n37 : Nat) (w38 : World), New (.cells #[.int .i64 x14] 3) w31 n37 w38 → 
          ∃ w39 : World, ∃ r40_p : Option Addr, ∃ r40_n : Nat, ∃ r40_c : Nat, (Builtin.append_ #[31, 31] 31 #[.slice keep_9_p keep_9_n keep_9_c, .slice (some (Addr.mk n37 0 none)) 1 1]).run Try.prog w38 = .ok (.slice r40_p r40_n r40_c) w39 ∧ 
          cnd ((r32_n : Int) == (0 : Int))
          (∃ k8, k8 < k7 ∧ I6 r40_p r40_n r40_c x14 (IntKind.i64.wrap (v11 + (1 : Int))) w39 k8)
          (∃ x41 : Option Addr, w39.drew.cell? (Addr.mk n1 0 none) = some (.pointer x41) ∧ 
            ixK r32_p r32_n 0 1 fun a42 =>
            ∃ x43 : Int, w39.drew.cell? a42 = some (.int .i64 x43) ∧ 
            Calls Try.prog 76 #[.pointer x41, .int .i64 x43] w39.drew fun e w44 => ∃ r45 : Int, e = .returned (.int .i8 r45) ∧ 
            cnd (r45 == (0 : Int))
            (∃ x46 : Option Addr, w44.drew.cell? (Addr.mk n1 0 none) = some (.pointer x46) ∧ 
              ixK r32_p r32_n 0 1 fun a47 =>
              ∃ x48 : Int, w44.drew.cell? a47 = some (.int .i64 x48) ∧ 
              Calls Try.prog 80 #[.pointer x46, .int .i64 x48, .int .i64 x14] w44.drew fun e w49 => e = .returned (.tuple #[]) ∧ 
              ∃ k8, k8 < k7 ∧ I6 r40_p r40_n r40_c broken_10 (IntKind.i64.wrap (v11 + (1 : Int))) w49 k8)
            (∃ k8, k8 < k7 ∧ I6 r40_p r40_n r40_c broken_10 (IntKind.i64.wrap (v11 + (1 : Int))) w44 k8)))))
    (∃ x50 : Option Addr, w12.cell? (Addr.mk n1 0 none) = some (.pointer x50) ∧ 
      ∃ a51 : Addr, x50 = some a51 ∧ ∃ w52 : World, StoreAt (a51.add 10) 0 [.slice keep_9_p keep_9_n keep_9_c] w12 w52 ∧ 
      K (.int .i64 broken_10) w52)
theorem prop_Prop_loosely.eq (p_ : Option Addr) (w : World) (K : Value → World → Prop) : wpF Try.prog Try.f59 (.two .leaf (.two .leaf (.two .leaf (.two (.two .leaf (.one (.loop [(3, 31), (4, 3), (14, 3)] .leaf))) .leaf)))) [.pointer p_] w K = prop_Prop_loosely.w p_ w K := by kernel_rfl
theorem prop_Prop_loosely.ok : fnOk Try.prog Try.f59 1 = true := by kernel_rfl
theorem prop_Prop_loosely.calls {p_ : Option Addr} {w : World} {R : Ending → World → Prop} (h : prop_Prop_loosely.w p_ w fun v w' => R (.returned v) w') : Calls Try.prog 59 #[.pointer p_] w R :=
  calls_of mixed Try.func59 prop_Prop_loosely.ok rfl (fun K => prop_Prop_loosely.eq p_ w K) h

/-! ### fathom/prop.side: function 60 (named slots 3) -/
def prop_side.w (l_ : Int) (w : World) (K : Value → World → Prop) : Prop :=
  cnd (decide (l_ < (0 : Int)))
  (K (.int .i64 (IntKind.i64.wrap ((IntKind.i64.wrap ((-2) * l_)) + (1 : Int)))) w)
  (K (.int .i64 (IntKind.i64.wrap ((2 : Int) * l_))) w)
theorem prop_side.eq (l_ : Int) (w : World) (K : Value → World → Prop) : wpF Try.prog Try.f60 .leaf [.int .i64 l_] w K = prop_side.w l_ w K := by kernel_rfl
theorem prop_side.ok : fnOk Try.prog Try.f60 1 = true := by kernel_rfl
theorem prop_side.calls {l_ : Int} {w : World} {R : Ending → World → Prop} (h : prop_side.w l_ w fun v w' => R (.returned v) w') : Calls Try.prog 60 #[.int .i64 l_] w R :=
  calls_of mixed Try.func60 prop_side.ok rfl (fun K => prop_side.eq l_ w K) h

/-! ### (*fathom/prop.Prop).visit: function 61 (named slots 10) cuts [(3, 78)] -/
def prop_Prop_visit.w (p_ : Option Addr) (i_ : Int) (falsely_ : Int) (w : World) (K : Value → World → Prop) : Prop :=
  ∃ a1 : Addr, p_ = some a1 ∧ ∃ x2_p : Option Addr, ∃ x2_n : Nat, ∃ x2_c : Nat, w.cell? (a1.add 1) = some (.slice x2_p x2_n x2_c) ∧ 
  ixK x2_p x2_n i_ 3 fun a3 =>
  ∃ x4_p : Option Addr, ∃ x4_n : Nat, ∃ x4_c : Nat, w.cell? (a3.add 1) = some (.slice x4_p x4_n x4_c) ∧ 
  ∃ J5 : World → Prop, (ixK x4_p x4_n 0 1 fun a6 =>
  ∃ x7 : Int, w.cell? a6 = some (.int .i64 x7) ∧ 
  cnd (x7 == falsely_)
  (cnd (decide ((x4_n : Int) > (1 : Int)))
  (ixK x4_p x4_n 1 1 fun a8 =>
    ∃ x9 : Int, w.drew.cell? a8 = some (.int .i64 x9) ∧ 
    ixK x4_p x4_n 0 1 fun a10 =>
    ∃ x11 : Int, w.drew.cell? a10 = some (.int .i64 x11) ∧ 
    ixK x4_p x4_n 0 1 fun a12 =>
    ∃ w13 : World, StoreAt a12 0 [.int .i64 x9] w.drew w13 ∧ 
    ixK x4_p x4_n 1 1 fun a14 =>
    ∃ w15 : World, StoreAt a14 0 [.int .i64 x11] w13 w15 ∧ 
    J5 w15)
  (J5 w))
  (J5 w)) ∧
  ∀ (w16 : World) (_ : Fr), J5 w16 → 
  ixK x4_p x4_n 0 1 fun a17 =>
  ∃ x18 : Int, w16.cell? a17 = some (.int .i64 x18) ∧ 
  Calls Try.prog 76 #[.pointer p_, .int .i64 x18] w16 fun e w19 => ∃ r20 : Int, e = .returned (.int .i8 r20) ∧ 
  cnd (decide (r20 > (0 : Int)))
  (K (.tuple #[.bool true, .bool false]) w19)
  (∃ I21 : Int → World → Nat → Prop, (∃ k22, I21 2 w19 k22) ∧
    ∀ (k_24 : Int) (w25 : World) (k22 : Nat) (_ : Fr), I21 k_24 w25 k22 →
    cnd (decide (k_24 < (x4_n : Int)))
      (ixK x4_p x4_n k_24 1 fun a26 =>
        ∃ x27 : Int, w25.cell? a26 = some (.int .i64 x27) ∧ 
        Calls Try.prog 76 #[.pointer p_, .int .i64 x27] w25 fun e w28 => ∃ r29 : Int, e = .returned (.int .i8 r29) ∧ 
        cnd (decide (r29 ≥ (0 : Int)))
        (ixK x4_p x4_n k_24 1 fun a30 =>
          ∃ x31 : Int, w28.drew.cell? a30 = some (.int .i64 x31) ∧ 
          ixK x4_p x4_n 1 1 fun a32 =>
          ∃ x33 : Int, w28.drew.cell? a32 = some (.int .i64 x33) ∧ 
          ixK x4_p x4_n 1 1 fun a34 =>
          ∃ w35 : World, StoreAt a34 0 [.int .i64 x31] w28.drew w35 ∧ 
          ixK x4_p x4_n k_24 1 fun a36 =>
          ∃ w37 : World, StoreAt a36 0 [.int .i64 x33] w35 w37 ∧ 
          ∃ W38 : World → Prop, W38 w37.drew ∧ 
          ∃ a39 : Addr, p_ = some a39 ∧ ∃ x40_p : Option Addr, ∃ x40_n : Nat, ∃ x40_c : Nat, AtW W38 (a39.add 2) (.slice x40_p x40_n x40_c) ∧ 
          ixK x4_p x4_n 1 1 fun a41 =>
          ∃ x42 : Int, AtW W38 a41 (.int .i64 x42) ∧ 
          ∃ a43 : Addr, p_ = some a43 ∧ ∃ x44_p : Option Addr, ∃ x44_n : Nat, ∃ x44_c : Nat, AtW W38 (a43.add 2) (.slice x44_p x44_n x44_c) ∧ 
          ixK x4_p x4_n 1 1 fun a45 =>
          ∃ x46 : Int, AtW W38 a45 (.int .i64 x46) ∧ 
          (Calls Try.prog 60 #[.int .i64 x42] w37.drew fun e w47 => ∃ r48 : Int, e = .returned (.int .i64 r48) ∧ 
          W38 w47 ∧ (Calls Try.prog 60 #[.int .i64 x46] w47 fun e w49 => ∃ r50 : Int, e = .returned (.int .i64 r50) ∧ 
          W38 w49 ∧ ixK x44_p x44_n r50 1 fun a51 =>
          ∃ x52_p : Option Addr, ∃ x52_n : Nat, ∃ x52_c : Nat, AtW W38 a51 (.slice x52_p x52_n x52_c) ∧ 
          ∀ (n53 : Nat) (w54 : World), New (.cells #[.int .i64 i_] 3) w49 n53 w54 → 
          W38 w54 ∧ ∃ w55 : World, ∃ r56_p : Option Addr, ∃ r56_n : Nat, ∃ r56_c : Nat, (Builtin.append_ #[31, 31] 31 #[.slice x52_p x52_n x52_c, .slice (some (Addr.mk n53 0 none)) 1 1]).run Try.prog w54 = .ok (.slice r56_p r56_n r56_c) w55 ∧ 
          W38 w55 ∧ ixK x40_p x40_n r48 1 fun a57 =>
          ∃ w58 : World, StoreAt a57 0 [.slice r56_p r56_n r56_c] w55 w58 ∧ 
          K (.tuple #[.bool false, .bool false]) w58) ∧
        (∀ (n59 : Nat) (w60 : World), New (.cells #[.int .i64 i_] 3) w47 n59 w60 → 
          W38 w60 ∧ Calls Try.prog 60 #[.int .i64 x46] w60 fun e w61 => ∃ r62 : Int, e = .returned (.int .i64 r62) ∧ 
          W38 w61 ∧ ixK x44_p x44_n r62 1 fun a63 =>
          ∃ x64_p : Option Addr, ∃ x64_n : Nat, ∃ x64_c : Nat, AtW W38 a63 (.slice x64_p x64_n x64_c) ∧ 
          ∃ w65 : World, ∃ r66_p : Option Addr, ∃ r66_n : Nat, ∃ r66_c : Nat, (Builtin.append_ #[31, 31] 31 #[.slice x64_p x64_n x64_c, .slice (some (Addr.mk n59 0 none)) 1 1]).run Try.prog w61 = .ok (.slice r66_p r66_n r66_c) w65 ∧ 
          W38 w65 ∧ ixK x40_p x40_n r48 1 fun a67 =>
          ∃ w68 : World, StoreAt a67 0 [.slice r66_p r66_n r66_c] w65 w68 ∧ 
          K (.tuple #[.bool false, .bool false]) w68)) ∧
        (∀ (n69 : Nat) (w70 : World), New (.cells #[.int .i64 i_] 3) w37.drew n69 w70 → 
          W38 w70 ∧ Calls Try.prog 60 #[.int .i64 x42] w70 fun e w71 => ∃ r72 : Int, e = .returned (.int .i64 r72) ∧ 
          W38 w71 ∧ Calls Try.prog 60 #[.int .i64 x46] w71 fun e w73 => ∃ r74 : Int, e = .returned (.int .i64 r74) ∧ 
          W38 w73 ∧ ixK x44_p x44_n r74 1 fun a75 =>
          ∃ x76_p : Option Addr, ∃ x76_n : Nat, ∃ x76_c : Nat, AtW W38 a75 (.slice x76_p x76_n x76_c) ∧ 
          ∃ w77 : World, ∃ r78_p : Option Addr, ∃ r78_n : Nat, ∃ r78_c : Nat, (Builtin.append_ #[31, 31] 31 #[.slice x76_p x76_n x76_c, .slice (some (Addr.mk n69 0 none)) 1 1]).run Try.prog w73 = .ok (.slice r78_p r78_n r78_c) w77 ∧ 
          W38 w77 ∧ ixK x40_p x40_n r72 1 fun a79 =>
          ∃ w80 : World, StoreAt a79 0 [.slice r78_p r78_n r78_c] w77 w80 ∧ 
          K (.tuple #[.bool false, .bool false]) w80))
        (∃ k23, k23 < k22 ∧ I21 (IntKind.i64.wrap (k_24 + (1 : Int))) w28 k23))
      (ixK x4_p x4_n 0 1 fun a81 =>
        ∃ x82 : Int, w25.cell? a81 = some (.int .i64 x82) ∧ 
        Calls Try.prog 76 #[.pointer p_, .int .i64 x82] w25 fun e w83 => ∃ r84 : Int, e = .returned (.int .i8 r84) ∧ 
        cnd (decide (r84 < (0 : Int)))
        (K (.tuple #[.bool true, .bool true]) w83)
        (ixK x4_p x4_n 0 1 fun a85 =>
          ∃ x86 : Int, w83.cell? a85 = some (.int .i64 x86) ∧ 
          Calls Try.prog 80 #[.pointer p_, .int .i64 x86, .int .i64 i_] w83 fun e w87 => e = .returned (.tuple #[]) ∧ 
          K (.tuple #[.bool true, .bool false]) w87)))
theorem prop_Prop_visit.eq (p_ : Option Addr) (i_ : Int) (falsely_ : Int) (w : World) (K : Value → World → Prop) : wpF Try.prog Try.f61 (.two .leaf (.two .leaf (.cut [] .leaf (.two .leaf (.two (.two .leaf (.one (.loop [(9, 3)] (.two .leaf (.two (.one (.two .leaf (.two (.two .leaf (.two .draw .leaf)) .leaf))) .leaf))))) .leaf))))) [.pointer p_, .int .i64 i_, .int .i64 falsely_] w K = prop_Prop_visit.w p_ i_ falsely_ w K := by kernel_rfl
theorem prop_Prop_visit.ok : fnOk Try.prog Try.f61 3 = true := by kernel_rfl
theorem prop_Prop_visit.calls {p_ : Option Addr} {i_ : Int} {falsely_ : Int} {w : World} {R : Ending → World → Prop} (h : prop_Prop_visit.w p_ i_ falsely_ w fun v w' => R (.returned v) w') : Calls Try.prog 61 #[.pointer p_, .int .i64 i_, .int .i64 falsely_] w R :=
  calls_of mixed Try.func61 prop_Prop_visit.ok rfl (fun K => prop_Prop_visit.eq p_ i_ falsely_ w K) h

/-! ### slices.Clone[[]int,int]: function 62 (named slots 4) -/
def slices_Clone_int_int.w (s__p : Option Addr) (s__n : Nat) (s__c : Nat) (w : World) (K : Value → World → Prop) : Prop :=
  cnd s__p.isNone
  (K (.slice none 0 0) w)
  (∀ (n1 : Nat) (w2 : World), New (.cells #[] 3) w n1 w2 → 
    ∃ w3 : World, ∃ r4_p : Option Addr, ∃ r4_n : Nat, ∃ r4_c : Nat, (Builtin.append_ #[31, 31] 31 #[.slice (some (Addr.mk n1 0 none)) 0 0, .slice s__p s__n s__c]).run Try.prog w2 = .ok (.slice r4_p r4_n r4_c) w3 ∧ 
    K (.slice r4_p r4_n r4_c) w3)
theorem slices_Clone_int_int.eq (s__p : Option Addr) (s__n : Nat) (s__c : Nat) (w : World) (K : Value → World → Prop) : wpF Try.prog Try.f62 .leaf [.slice s__p s__n s__c] w K = slices_Clone_int_int.w s__p s__n s__c w K := by kernel_rfl
theorem slices_Clone_int_int.ok : fnOk Try.prog Try.f62 1 = true := by kernel_rfl
theorem slices_Clone_int_int.calls {s__p : Option Addr} {s__n : Nat} {s__c : Nat} {w : World} {R : Ending → World → Prop} (h : slices_Clone_int_int.w s__p s__n s__c w fun v w' => R (.returned v) w') : Calls Try.prog 62 #[.slice s__p s__n s__c] w R :=
  calls_of mixed Try.func62 slices_Clone_int_int.ok rfl (fun K => slices_Clone_int_int.eq s__p s__n s__c w K) h

/-! ### fathom/fathomref01.Has: function 63 (named slots 6) -/
def fathomref01_Has.w (l__p : Option Addr) (l__n : Nat) (l__c : Nat) (n_ : Int) (w : World) (K : Value → World → Prop) : Prop :=
  ∃ I1 : Int → World → Nat → Prop, (∃ k2, I1 0 w k2) ∧
  ∀ (i_4 : Int) (w5 : World) (k2 : Nat) (_ : Fr), I1 i_4 w5 k2 →
  cnd (decide (i_4 < (l__n : Int)))
    (ixK l__p l__n i_4 1 fun a6 =>
      ∃ x7 : Int, w5.cell? a6 = some (.int .i64 x7) ∧ 
      cnd (x7 == n_)
      (K (.bool true) w5)
      (∃ k3, k3 < k2 ∧ I1 (IntKind.i64.wrap (i_4 + (1 : Int))) w5 k3))
    (K (.bool false) w5)
theorem fathomref01_Has.eq (l__p : Option Addr) (l__n : Nat) (l__c : Nat) (n_ : Int) (w : World) (K : Value → World → Prop) : wpF Try.prog Try.f63 (.two .leaf (.two (.two .leaf (.one (.loop [(5, 3)] .leaf))) .leaf)) [.slice l__p l__n l__c, .int .i64 n_] w K = fathomref01_Has.w l__p l__n l__c n_ w K := by kernel_rfl
theorem fathomref01_Has.ok : fnOk Try.prog Try.f63 2 = true := by kernel_rfl
theorem fathomref01_Has.calls {l__p : Option Addr} {l__n : Nat} {l__c : Nat} {n_ : Int} {w : World} {R : Ending → World → Prop} (h : fathomref01_Has.w l__p l__n l__c n_ w fun v w' => R (.returned v) w') : Calls Try.prog 63 #[.slice l__p l__n l__c, .int .i64 n_] w R :=
  calls_of mixed Try.func63 fathomref01_Has.ok rfl (fun K => fathomref01_Has.eq l__p l__n l__c n_ w K) h

/-! ### fathom/fathomref01.Lit: function 64 (named slots 3) -/
def fathomref01_Lit.w (l_ : Int) (w : World) (K : Value → World → Prop) : Prop :=
  cnd (l_ != (0 : Int))
  (cnd (decide (l_ ≥ (-1048576)))
  (K (.bool (decide (l_ ≤ (1048576 : Int)))) w)
  (K (.bool false) w))
  (K (.bool false) w)
theorem fathomref01_Lit.eq (l_ : Int) (w : World) (K : Value → World → Prop) : wpF Try.prog Try.f64 .leaf [.int .i64 l_] w K = fathomref01_Lit.w l_ w K := by kernel_rfl
theorem fathomref01_Lit.ok : fnOk Try.prog Try.f64 1 = true := by kernel_rfl
theorem fathomref01_Lit.calls {l_ : Int} {w : World} {R : Ending → World → Prop} (h : fathomref01_Lit.w l_ w fun v w' => R (.returned v) w') : Calls Try.prog 64 #[.int .i64 l_] w R :=
  calls_of mixed Try.func64 fathomref01_Lit.ok rfl (fun K => fathomref01_Lit.eq l_ w K) h

/-! ### fathom/lit.CheckCnf: function 65 (named slots 5) -/
def lit_CheckCnf.w (f_0 : Int) (f_1_p : Option Addr) (f_1_n : Nat) (f_1_c : Nat) (w : World) (K : Value → World → Prop) : Prop :=
  ∀ (n1 : Nat) (w2 : World), New (.cells #[.int .i64 f_0, .slice f_1_p f_1_n f_1_c] 24) w n1 w2 → 
  ∃ x3 : Int, w2.cell? ((Addr.mk n1 0 none).add 0) = some (.int .i64 x3) ∧ 
  cnd (decide (x3 < (0 : Int)))
  (K (.int .i64 1) w2)
  (∃ x4 : Int, w2.cell? ((Addr.mk n1 0 none).add 0) = some (.int .i64 x4) ∧ 
  cnd (decide (x4 > (1048576 : Int)))
  (K (.int .i64 1) w2)
  (∃ x5_p : Option Addr, ∃ x5_n : Nat, ∃ x5_c : Nat, w2.cell? ((Addr.mk n1 0 none).add 1) = some (.slice x5_p x5_n x5_c) ∧ 
  cnd (decide ((x5_n : Int) > (262144 : Int)))
  (K (.int .i64 1) w2)
  (∃ x6_p : Option Addr, ∃ x6_n : Nat, ∃ x6_c : Nat, w2.cell? ((Addr.mk n1 0 none).add 1) = some (.slice x6_p x6_n x6_c) ∧ 
    ∃ I7 : Int → World → Nat → Prop, (∃ k8, I7 0 w2 k8) ∧
    ∀ (v10 : Int) (w11 : World) (k8 : Nat) (_ : Fr), I7 v10 w11 k8 →
    cnd (decide (v10 < (x6_n : Int)))
      (ixK x6_p x6_n v10 1 fun a12 =>
        ∃ x13_p : Option Addr, ∃ x13_n : Nat, ∃ x13_c : Nat, w11.cell? a12 = some (.slice x13_p x13_n x13_c) ∧ 
        Calls Try.prog 69 #[.slice x13_p x13_n x13_c] w11 fun e w14 => ∃ r15 : Int, e = .returned (.int .i64 r15) ∧ 
        cnd (r15 != (0 : Int))
        (K (.int .i64 1) w14)
        (Calls Try.prog 70 #[.slice x13_p x13_n x13_c, .func (.func 95) #[] #[.pointer (some (Addr.mk n1 0 none))]] w14 fun e w16 => ∃ r17 : Bool, e = .returned (.bool r17) ∧ 
        cnd r17
        (K (.int .i64 1) w16)
        (∃ k9, k9 < k8 ∧ I7 (IntKind.i64.wrap (v10 + (1 : Int))) w16 k9)))
      (K (.int .i64 0) w11))))
theorem lit_CheckCnf.eq (f_0 : Int) (f_1_p : Option Addr) (f_1_n : Nat) (f_1_c : Nat) (w : World) (K : Value → World → Prop) : wpF Try.prog Try.f65 (.two .leaf (.two .leaf (.two (.two .leaf (.one (.loop [(22, 3)] .leaf))) .leaf))) [.agg #[.int .i64 f_0, .slice f_1_p f_1_n f_1_c]] w K = lit_CheckCnf.w f_0 f_1_p f_1_n f_1_c w K := by kernel_rfl
theorem lit_CheckCnf.ok : fnOk Try.prog Try.f65 1 = true := by kernel_rfl
theorem lit_CheckCnf.calls {f_0 : Int} {f_1_p : Option Addr} {f_1_n : Nat} {f_1_c : Nat} {w : World} {R : Ending → World → Prop} (h : lit_CheckCnf.w f_0 f_1_p f_1_n f_1_c w fun v w' => R (.returned v) w') : Calls Try.prog 65 #[.agg #[.int .i64 f_0, .slice f_1_p f_1_n f_1_c]] w R :=
  calls_of mixed Try.func65 lit_CheckCnf.ok rfl (fun K => lit_CheckCnf.eq f_0 f_1_p f_1_n f_1_c w K) h

/-! ### fathom/fathomref06.Broken: function 66 (named slots 6) -/
def fathomref06_Broken.w (c__p : Option Addr) (c__n : Nat) (c__c : Nat) (truths__p : Option Addr) (truths__n : Nat) (truths__c : Nat) (w : World) (K : Value → World → Prop) : Prop :=
  ∃ I1 : Int → World → Nat → Prop, (∃ k2, I1 0 w k2) ∧
  ∀ (i_4 : Int) (w5 : World) (k2 : Nat) (_ : Fr), I1 i_4 w5 k2 →
  cnd (decide (i_4 < (c__n : Int)))
    (ixK c__p c__n i_4 1 fun a6 =>
      ∃ x7 : Int, w5.cell? a6 = some (.int .i64 x7) ∧ 
      Calls Try.prog 63 #[.slice truths__p truths__n truths__c, .int .i64 (IntKind.i64.wrap (0 - x7))] w5 fun e w8 => ∃ r9 : Bool, e = .returned (.bool r9) ∧ 
      cnd (!r9)
      (K (.bool false) w8)
      (∃ k3, k3 < k2 ∧ I1 (IntKind.i64.wrap (i_4 + (1 : Int))) w8 k3))
    (K (.bool true) w5)
theorem fathomref06_Broken.eq (c__p : Option Addr) (c__n : Nat) (c__c : Nat) (truths__p : Option Addr) (truths__n : Nat) (truths__c : Nat) (w : World) (K : Value → World → Prop) : wpF Try.prog Try.f66 (.two .leaf (.two (.two .leaf (.one (.loop [(5, 3)] .leaf))) .leaf)) [.slice c__p c__n c__c, .slice truths__p truths__n truths__c] w K = fathomref06_Broken.w c__p c__n c__c truths__p truths__n truths__c w K := by kernel_rfl
theorem fathomref06_Broken.ok : fnOk Try.prog Try.f66 2 = true := by kernel_rfl
theorem fathomref06_Broken.calls {c__p : Option Addr} {c__n : Nat} {c__c : Nat} {truths__p : Option Addr} {truths__n : Nat} {truths__c : Nat} {w : World} {R : Ending → World → Prop} (h : fathomref06_Broken.w c__p c__n c__c truths__p truths__n truths__c w fun v w' => R (.returned v) w') : Calls Try.prog 66 #[.slice c__p c__n c__c, .slice truths__p truths__n truths__c] w R :=
  calls_of mixed Try.func66 fathomref06_Broken.ok rfl (fun K => fathomref06_Broken.eq c__p c__n c__c truths__p truths__n truths__c w K) h

/-! ### fathom/fathomref01.Without: function 67 (named slots 7) -/
def fathomref01_Without.w (c__p : Option Addr) (c__n : Nat) (c__c : Nat) (n_ : Int) (w : World) (K : Value → World → Prop) : Prop :=
  ∀ (n1 : Nat) (w2 : World), New (.cells #[] 3) w n1 w2 → 
  ∃ I3 : Option Addr → Nat → Nat → Int → World → Nat → Prop, (∃ k4, I3 (some (Addr.mk n1 0 none)) 0 0 0 w2 k4) ∧
  ∀ (out_6_p : Option Addr) (out_6_n : Nat) (out_6_c : Nat) (i_7 : Int) (w8 : World) (k4 : Nat) (_ : Fr), I3 out_6_p out_6_n out_6_c i_7 w8 k4 →
  cnd (decide (i_7 < (c__n : Int)))
    (ixK c__p c__n i_7 1 fun a9 =>
      ∃ x10 : Int, w8.cell? a9 = some (.int .i64 x10) ∧ 
      cnd (x10 != n_)
      (ixK c__p c__n i_7 1 fun a11 =>
        ∃ x12 : Int, w8.cell? a11 = some (.int .i64 x12) ∧ 
        ∀ (n13 : Nat) (w14 : World), New (.cells #[.int .i64 x12] 3) w8 n13 w14 → 
        ∃ w15 : World, ∃ r16_p : Option Addr, ∃ r16_n : Nat, ∃ r16_c : Nat, (Builtin.append_ #[31, 31] 31 #[.slice out_6_p out_6_n out_6_c, .slice (some (Addr.mk n13 0 none)) 1 1]).run Try.prog w14 = .ok (.slice r16_p r16_n r16_c) w15 ∧ 
        ∃ k5, k5 < k4 ∧ I3 r16_p r16_n r16_c (IntKind.i64.wrap (i_7 + (1 : Int))) w15 k5)
      (∃ k5, k5 < k4 ∧ I3 out_6_p out_6_n out_6_c (IntKind.i64.wrap (i_7 + (1 : Int))) w8 k5))
    (K (.slice out_6_p out_6_n out_6_c) w8)
theorem fathomref01_Without.eq (c__p : Option Addr) (c__n : Nat) (c__c : Nat) (n_ : Int) (w : World) (K : Value → World → Prop) : wpF Try.prog Try.f67 (.two .leaf (.two .leaf (.two (.two .leaf (.one (.loop [(5, 31), (6, 3)] .leaf))) .leaf))) [.slice c__p c__n c__c, .int .i64 n_] w K = fathomref01_Without.w c__p c__n c__c n_ w K := by kernel_rfl
theorem fathomref01_Without.ok : fnOk Try.prog Try.f67 2 = true := by kernel_rfl
theorem fathomref01_Without.calls {c__p : Option Addr} {c__n : Nat} {c__c : Nat} {n_ : Int} {w : World} {R : Ending → World → Prop} (h : fathomref01_Without.w c__p c__n c__c n_ w fun v w' => R (.returned v) w') : Calls Try.prog 67 #[.slice c__p c__n c__c, .int .i64 n_] w R :=
  calls_of mixed Try.func67 fathomref01_Without.ok rfl (fun K => fathomref01_Without.eq c__p c__n c__c n_ w K) h

/-! ### fathom/prop.amount: function 68 (named slots 3) -/
def prop_amount.w (l_ : Int) (w : World) (K : Value → World → Prop) : Prop :=
  K (.int .i64 (imax l_ (IntKind.i64.wrap (0 - l_)))) w
theorem prop_amount.eq (l_ : Int) (w : World) (K : Value → World → Prop) : wpF Try.prog Try.f68 .leaf [.int .i64 l_] w K = prop_amount.w l_ w K := by kernel_rfl
theorem prop_amount.ok : fnOk Try.prog Try.f68 1 = true := by kernel_rfl
theorem prop_amount.calls {l_ : Int} {w : World} {R : Ending → World → Prop} (h : prop_amount.w l_ w fun v w' => R (.returned v) w') : Calls Try.prog 68 #[.int .i64 l_] w R :=
  calls_of mixed Try.func68 prop_amount.ok rfl (fun K => prop_amount.eq l_ w K) h


end Go.Proofs.Ytdaiolinnpligaa.W
