/- The functions that the statements reach, printed as what the frame asks of them, each checked by the kernel against the loaded text. -/
import Derived.Test.YtdaiolinnpligaaGenRup2
namespace Go.Proofs.Ytdaiolinnpligaa.W
open Go Go.Fw Go.Proofs
set_option linter.unusedVariables false
set_option maxRecDepth 100000
/-! ### (*fathom/prop.Prop).settle: function 74 (named slots 10) -/
def prop_Prop_settle.w (p_ : Option Addr) (i_ : Int) (w : World) (K : Value → World → Prop) : Prop :=
  ∃ a1 : Addr, p_ = some a1 ∧ ∃ x2_p : Option Addr, ∃ x2_n : Nat, ∃ x2_c : Nat, w.cell? (a1.add 1) = some (.slice x2_p x2_n x2_c) ∧ 
  ixK x2_p x2_n i_ 3 fun a3 =>
  ∃ x4_p : Option Addr, ∃ x4_n : Nat, ∃ x4_c : Nat, w.cell? (a3.add 1) = some (.slice x4_p x4_n x4_c) ∧ 
  ∃ I5 : Int → World → Nat → Prop, (∃ k6, I5 0 w k6) ∧
  ∀ (k_8 : Int) (w9 : World) (k6 : Nat) (_ : Fr), I5 k_8 w9 k6 →
  cnd (decide (k_8 < (imin 2 (x4_n : Int))))
    (∃ I10 : Int → Int → World → Nat → Prop, (∃ k11, I10 k_8 (IntKind.i64.wrap (k_8 + (1 : Int))) w9 k11) ∧
      ∀ (best_13 : Int) (j_14 : Int) (w15 : World) (k11 : Nat) (_ : Fr), I10 best_13 j_14 w15 k11 →
      cnd (decide (j_14 < (x4_n : Int)))
        (∃ W16 : World → Prop, W16 w15.drew ∧ 
          ixK x4_p x4_n j_14 1 fun a17 =>
          ∃ x18 : Int, AtW W16 a17 (.int .i64 x18) ∧ 
          Calls Try.prog 103 #[.pointer p_, .int .i64 x18] w15.drew fun e w19 => ∃ r20 : Int, e = .returned (.int .i64 r20) ∧ 
          W16 w19 ∧ ixK x4_p x4_n best_13 1 fun a21 =>
          ∃ x22 : Int, AtW W16 a21 (.int .i64 x22) ∧ 
          Calls Try.prog 103 #[.pointer p_, .int .i64 x22] w19 fun e w23 => ∃ r24 : Int, e = .returned (.int .i64 r24) ∧ 
          cnd (decide (r20 > r24))
          (∃ k12, k12 < k11 ∧ I10 j_14 (IntKind.i64.wrap (j_14 + (1 : Int))) w23 k12)
          (∃ k12, k12 < k11 ∧ I10 best_13 (IntKind.i64.wrap (j_14 + (1 : Int))) w23 k12))
        (ixK x4_p x4_n best_13 1 fun a25 =>
          ∃ x26 : Int, w15.drew.cell? a25 = some (.int .i64 x26) ∧ 
          ixK x4_p x4_n k_8 1 fun a27 =>
          ∃ x28 : Int, w15.drew.cell? a27 = some (.int .i64 x28) ∧ 
          ixK x4_p x4_n k_8 1 fun a29 =>
          ∃ w30 : World, StoreAt a29 0 [.int .i64 x26] w15.drew w30 ∧ 
          ixK x4_p x4_n best_13 1 fun a31 =>
          ∃ w32 : World, StoreAt a31 0 [.int .i64 x28] w30 w32 ∧ 
          ∃ k7, k7 < k6 ∧ I5 (IntKind.i64.wrap (k_8 + (1 : Int))) w32 k7))
    (slK x4_p x4_n x4_c 1 none (some (imin 2 (x4_n : Int))) none fun s33_p s33_n s33_c =>
      ∃ I34 : Int → World → Nat → Prop, (∃ k35, I34 0 w9 k35) ∧
      ∀ (v37 : Int) (w38 : World) (k35 : Nat) (_ : Fr), I34 v37 w38 k35 →
      cnd (decide (v37 < (s33_n : Int)))
        (ixK s33_p s33_n v37 1 fun a39 =>
          ∃ x40 : Int, w38.cell? a39 = some (.int .i64 x40) ∧ 
          ∃ W41 : World → Prop, W41 w38.drew ∧ 
          ∃ a42 : Addr, p_ = some a42 ∧ ∃ x43_p : Option Addr, ∃ x43_n : Nat, ∃ x43_c : Nat, AtW W41 (a42.add 2) (.slice x43_p x43_n x43_c) ∧ 
          ∃ a44 : Addr, p_ = some a44 ∧ ∃ x45_p : Option Addr, ∃ x45_n : Nat, ∃ x45_c : Nat, AtW W41 (a44.add 2) (.slice x45_p x45_n x45_c) ∧ 
          (Calls Try.prog 60 #[.int .i64 x40] w38.drew fun e w46 => ∃ r47 : Int, e = .returned (.int .i64 r47) ∧ 
          W41 w46 ∧ (Calls Try.prog 60 #[.int .i64 x40] w46 fun e w48 => ∃ r49 : Int, e = .returned (.int .i64 r49) ∧ 
          W41 w48 ∧ ixK x45_p x45_n r49 1 fun a50 =>
          ∃ x51_p : Option Addr, ∃ x51_n : Nat, ∃ x51_c : Nat, AtW W41 a50 (.slice x51_p x51_n x51_c) ∧ 
          ∀ (n52 : Nat) (w53 : World), New (.cells #[.int .i64 i_] 3) w48 n52 w53 → 
          W41 w53 ∧ ∃ w54 : World, ∃ r55_p : Option Addr, ∃ r55_n : Nat, ∃ r55_c : Nat, (Builtin.append_ #[31, 31] 31 #[.slice x51_p x51_n x51_c, .slice (some (Addr.mk n52 0 none)) 1 1]).run Try.prog w53 = .ok (.slice r55_p r55_n r55_c) w54 ∧ 
          W41 w54 ∧ ixK x43_p x43_n r47 1 fun a56 =>
          ∃ w57 : World, StoreAt a56 0 [.slice r55_p r55_n r55_c] w54 w57 ∧ 
          ∃ k36, k36 < k35 ∧ I34 (IntKind.i64.wrap (v37 + (1 : Int))) w57 k36) ∧
        (∀ (n58 : Nat) (w59 : World), New (.cells #[.int .i64 i_] 3) w46 n58 w59 → 
          W41 w59 ∧ Calls Try.prog 60 #[.int .i64 x40] w59 fun e w60 => ∃ r61 : Int, e = .returned (.int .i64 r61) ∧ 
          W41 w60 ∧ ixK x45_p x45_n r61 1 fun a62 =>
          ∃ x63_p : Option Addr, ∃ x63_n : Nat, ∃ x63_c : Nat, AtW W41 a62 (.slice x63_p x63_n x63_c) ∧ 
          ∃ w64 : World, ∃ r65_p : Option Addr, ∃ r65_n : Nat, ∃ r65_c : Nat, (Builtin.append_ #[31, 31] 31 #[.slice x63_p x63_n x63_c, .slice (some (Addr.mk n58 0 none)) 1 1]).run Try.prog w60 = .ok (.slice r65_p r65_n r65_c) w64 ∧ 
          W41 w64 ∧ ixK x43_p x43_n r47 1 fun a66 =>
          ∃ w67 : World, StoreAt a66 0 [.slice r65_p r65_n r65_c] w64 w67 ∧ 
          ∃ k36, k36 < k35 ∧ I34 (IntKind.i64.wrap (v37 + (1 : Int))) w67 k36)) ∧
        (∀ (n68 : Nat) (w69 : World), New (.cells #[.int .i64 i_] 3) w38.drew n68 w69 → 
          W41 w69 ∧ Calls Try.prog 60 #[.int .i64 x40] w69 fun e w70 => ∃ r71 : Int, e = .returned (.int .i64 r71) ∧ 
          W41 w70 ∧ Calls Try.prog 60 #[.int .i64 x40] w70 fun e w72 => ∃ r73 : Int, e = .returned (.int .i64 r73) ∧ 
          W41 w72 ∧ ixK x45_p x45_n r73 1 fun a74 =>
          ∃ x75_p : Option Addr, ∃ x75_n : Nat, ∃ x75_c : Nat, AtW W41 a74 (.slice x75_p x75_n x75_c) ∧ 
          ∃ w76 : World, ∃ r77_p : Option Addr, ∃ r77_n : Nat, ∃ r77_c : Nat, (Builtin.append_ #[31, 31] 31 #[.slice x75_p x75_n x75_c, .slice (some (Addr.mk n68 0 none)) 1 1]).run Try.prog w72 = .ok (.slice r77_p r77_n r77_c) w76 ∧ 
          W41 w76 ∧ ixK x43_p x43_n r71 1 fun a78 =>
          ∃ w79 : World, StoreAt a78 0 [.slice r77_p r77_n r77_c] w76 w79 ∧ 
          ∃ k36, k36 < k35 ∧ I34 (IntKind.i64.wrap (v37 + (1 : Int))) w79 k36))
        (cnd (decide ((x4_n : Int) < (2 : Int)))
          (∃ a80 : Addr, p_ = some a80 ∧ ∃ x81_p : Option Addr, ∃ x81_n : Nat, ∃ x81_c : Nat, w38.cell? (a80.add 10) = some (.slice x81_p x81_n x81_c) ∧ 
          ∀ (n82 : Nat) (w83 : World), New (.cells #[.int .i64 i_] 3) w38 n82 w83 → 
          ∃ w84 : World, ∃ r85_p : Option Addr, ∃ r85_n : Nat, ∃ r85_c : Nat, (Builtin.append_ #[31, 31] 31 #[.slice x81_p x81_n x81_c, .slice (some (Addr.mk n82 0 none)) 1 1]).run Try.prog w83 = .ok (.slice r85_p r85_n r85_c) w84 ∧ 
          ∃ a86 : Addr, p_ = some a86 ∧ ∃ w87 : World, StoreAt (a86.add 10) 0 [.slice r85_p r85_n r85_c] w84 w87 ∧ 
          K (.tuple #[]) w87)
          (ixK x4_p x4_n 1 1 fun a88 =>
          ∃ x89 : Int, w38.cell? a88 = some (.int .i64 x89) ∧ 
          Calls Try.prog 76 #[.pointer p_, .int .i64 x89] w38 fun e w90 => ∃ r91 : Int, e = .returned (.int .i8 r91) ∧ 
          cnd (decide (r91 < (0 : Int)))
          (∃ a92 : Addr, p_ = some a92 ∧ ∃ x93_p : Option Addr, ∃ x93_n : Nat, ∃ x93_c : Nat, w90.cell? (a92.add 10) = some (.slice x93_p x93_n x93_c) ∧ 
            ∀ (n94 : Nat) (w95 : World), New (.cells #[.int .i64 i_] 3) w90 n94 w95 → 
            ∃ w96 : World, ∃ r97_p : Option Addr, ∃ r97_n : Nat, ∃ r97_c : Nat, (Builtin.append_ #[31, 31] 31 #[.slice x93_p x93_n x93_c, .slice (some (Addr.mk n94 0 none)) 1 1]).run Try.prog w95 = .ok (.slice r97_p r97_n r97_c) w96 ∧ 
            ∃ a98 : Addr, p_ = some a98 ∧ ∃ w99 : World, StoreAt (a98.add 10) 0 [.slice r97_p r97_n r97_c] w96 w99 ∧ 
            K (.tuple #[]) w99)
          (K (.tuple #[]) w90))))
theorem prop_Prop_settle.eq (p_ : Option Addr) (i_ : Int) (w : World) (K : Value → World → Prop) : wpF Try.prog Try.f74 (.two .leaf (.two (.two .leaf (.one (.loop [(5, 3)] (.two .leaf (.two (.one (.two .leaf (.two (.two .leaf (.one (.loop [(6, 3), (7, 3)] (.two .leaf (.two (.one (.two .draw .leaf)) .leaf))))) .leaf))) .leaf))))) (.two (.two .leaf (.one (.loop [(68, 3)] (.two .leaf (.two .leaf (.two (.one (.two .leaf .draw)) .leaf)))))) .leaf))) [.pointer p_, .int .i64 i_] w K = prop_Prop_settle.w p_ i_ w K := by kernel_rfl
theorem prop_Prop_settle.ok : fnOk Try.prog Try.f74 2 = true := by kernel_rfl
theorem prop_Prop_settle.calls {p_ : Option Addr} {i_ : Int} {w : World} {R : Ending → World → Prop} (h : prop_Prop_settle.w p_ i_ w fun v w' => R (.returned v) w') : Calls Try.prog 74 #[.pointer p_, .int .i64 i_] w R :=
  calls_of mixed Try.func74 prop_Prop_settle.ok rfl (fun K => prop_Prop_settle.eq p_ i_ w K) h

/-! ### (*fathom/prop.Prop).there: function 75 (named slots 5) -/
def prop_Prop_there.w (p_ : Option Addr) (i_ : Int) (w : World) (K : Value → World → Prop) : Prop :=
  cnd (!p_.isNone)
  (cnd (decide (i_ ≥ (0 : Int)))
  (∃ a1 : Addr, p_ = some a1 ∧ ∃ x2_p : Option Addr, ∃ x2_n : Nat, ∃ x2_c : Nat, w.cell? (a1.add 1) = some (.slice x2_p x2_n x2_c) ∧ 
  cnd (decide (i_ < (x2_n : Int)))
  (∃ a3 : Addr, p_ = some a3 ∧ ∃ x4_p : Option Addr, ∃ x4_n : Nat, ∃ x4_c : Nat, w.cell? (a3.add 1) = some (.slice x4_p x4_n x4_c) ∧ 
  ixK x4_p x4_n i_ 3 fun a5 =>
  ∃ x6 : Bool, w.cell? (a5.add 2) = some (.bool x6) ∧ 
  K (.bool (!x6)) w)
  (K (.bool false) w))
  (K (.bool false) w))
  (K (.bool false) w)
theorem prop_Prop_there.eq (p_ : Option Addr) (i_ : Int) (w : World) (K : Value → World → Prop) : wpF Try.prog Try.f75 .leaf [.pointer p_, .int .i64 i_] w K = prop_Prop_there.w p_ i_ w K := by kernel_rfl
theorem prop_Prop_there.ok : fnOk Try.prog Try.f75 2 = true := by kernel_rfl
theorem prop_Prop_there.calls {p_ : Option Addr} {i_ : Int} {w : World} {R : Ending → World → Prop} (h : prop_Prop_there.w p_ i_ w fun v w' => R (.returned v) w') : Calls Try.prog 75 #[.pointer p_, .int .i64 i_] w R :=
  calls_of mixed Try.func75 prop_Prop_there.ok rfl (fun K => prop_Prop_there.eq p_ i_ w K) h

/-! ### (*fathom/prop.Prop).val: function 76 (named slots 5) -/
def prop_Prop_val.w (p_ : Option Addr) (l_ : Int) (w : World) (K : Value → World → Prop) : Prop :=
  cnd (decide (l_ < (0 : Int)))
  (∃ a1 : Addr, p_ = some a1 ∧ ∃ x2_p : Option Addr, ∃ x2_n : Nat, ∃ x2_c : Nat, w.cell? (a1.add 3) = some (.slice x2_p x2_n x2_c) ∧ 
    ixK x2_p x2_n (IntKind.i64.wrap (0 - l_)) 1 fun a3 =>
    ∃ x4 : Int, w.cell? a3 = some (.int .i8 x4) ∧ 
    K (.int .i8 (IntKind.i8.wrap (0 - x4))) w)
  (∃ a5 : Addr, p_ = some a5 ∧ ∃ x6_p : Option Addr, ∃ x6_n : Nat, ∃ x6_c : Nat, w.cell? (a5.add 3) = some (.slice x6_p x6_n x6_c) ∧ 
    ixK x6_p x6_n l_ 1 fun a7 =>
    ∃ x8 : Int, w.cell? a7 = some (.int .i8 x8) ∧ 
    K (.int .i8 x8) w)
theorem prop_Prop_val.eq (p_ : Option Addr) (l_ : Int) (w : World) (K : Value → World → Prop) : wpF Try.prog Try.f76 .leaf [.pointer p_, .int .i64 l_] w K = prop_Prop_val.w p_ l_ w K := by kernel_rfl
theorem prop_Prop_val.ok : fnOk Try.prog Try.f76 2 = true := by kernel_rfl
theorem prop_Prop_val.calls {p_ : Option Addr} {l_ : Int} {w : World} {R : Ending → World → Prop} (h : prop_Prop_val.w p_ l_ w fun v w' => R (.returned v) w') : Calls Try.prog 76 #[.pointer p_, .int .i64 l_] w R :=
  calls_of mixed Try.func76 prop_Prop_val.ok rfl (fun K => prop_Prop_val.eq p_ l_ w K) h

/-! ### (*fathom/prop.Prop).unwatch: function 77 (named slots 8) -/
def prop_Prop_unwatch.w (p_ : Option Addr) (i_ : Int) (w : World) (K : Value → World → Prop) : Prop :=
  ∀ (n1 : Nat) (w2 : World), New (.cells #[.int .i64 i_] 3) w n1 w2 → 
  ∃ a3 : Addr, p_ = some a3 ∧ ∃ x4_p : Option Addr, ∃ x4_n : Nat, ∃ x4_c : Nat, w2.drew.cell? (a3.add 1) = some (.slice x4_p x4_n x4_c) ∧ 
  ∃ x5 : Int, w2.drew.cell? (Addr.mk n1 0 none) = some (.int .i64 x5) ∧ 
  ixK x4_p x4_n x5 3 fun a6 =>
  ∃ x7_p : Option Addr, ∃ x7_n : Nat, ∃ x7_c : Nat, w2.drew.cell? (a6.add 1) = some (.slice x7_p x7_n x7_c) ∧ 
  slK x7_p x7_n x7_c 1 none (some (imin 2 (x7_n : Int))) none fun s8_p s8_n s8_c =>
  ∃ I9 : Int → World → Nat → Prop, (∃ k10, I9 0 w2.drew k10) ∧
  ∀ (v12 : Int) (w13 : World) (k10 : Nat) (_ : Fr), I9 v12 w13 k10 →
  cnd (decide (v12 < (s8_n : Int)))
    (ixK s8_p s8_n v12 1 fun a14 =>
      ∃ x15 : Int, w13.cell? a14 = some (.int .i64 x15) ∧ 
      ∃ W16 : World → Prop, W16 w13.drew ∧ 
      ∃ a17 : Addr, p_ = some a17 ∧ ∃ x18_p : Option Addr, ∃ x18_n : Nat, ∃ x18_c : Nat, AtW W16 (a17.add 2) (.slice x18_p x18_n x18_c) ∧ 
      Calls Try.prog 60 #[.int .i64 x15] w13.drew fun e w19 => ∃ r20 : Int, e = .returned (.int .i64 r20) ∧ 
      W16 w19 ∧ ixK x18_p x18_n r20 1 fun a21 =>
      ∃ x22_p : Option Addr, ∃ x22_n : Nat, ∃ x22_c : Nat, AtW W16 a21 (.slice x22_p x22_n x22_c) ∧ 
      ∃ W23 : World → Prop, W23 w19.drew ∧ 
      ∃ a24 : Addr, p_ = some a24 ∧ ∃ x25_p : Option Addr, ∃ x25_n : Nat, ∃ x25_c : Nat, AtW W23 (a24.add 2) (.slice x25_p x25_n x25_c) ∧ 
      Calls Try.prog 60 #[.int .i64 x15] w19.drew fun e w26 => ∃ r27 : Int, e = .returned (.int .i64 r27) ∧ 
      W23 w26 ∧ Calls Try.prog 78 #[.slice x22_p x22_n x22_c, .func (.func 104) #[] #[.pointer (some (Addr.mk n1 0 none))]] w26 fun e w28 => ∃ r29_p : Option Addr, ∃ r29_n : Nat, ∃ r29_c : Nat, e = .returned (.slice r29_p r29_n r29_c) ∧ 
      W23 w28 ∧ ixK x25_p x25_n r27 1 fun a30 =>
      ∃ w31 : World, StoreAt a30 0 [.slice r29_p r29_n r29_c] w28 w31 ∧ 
      ∃ k11, k11 < k10 ∧ I9 (IntKind.i64.wrap (v12 + (1 : Int))) w31 k11)
    (K (.tuple #[]) w13)
theorem prop_Prop_unwatch.eq (p_ : Option Addr) (i_ : Int) (w : World) (K : Value → World → Prop) : wpF Try.prog Try.f77 (.two .leaf (.two .leaf (.two .leaf (.one (.loop [(22, 3)] (.two .leaf (.two .leaf (.two (.one (.two .leaf (.two .draw .draw))) .leaf)))))))) [.pointer p_, .int .i64 i_] w K = prop_Prop_unwatch.w p_ i_ w K := by kernel_rfl
theorem prop_Prop_unwatch.ok : fnOk Try.prog Try.f77 2 = true := by kernel_rfl
theorem prop_Prop_unwatch.calls {p_ : Option Addr} {i_ : Int} {w : World} {R : Ending → World → Prop} (h : prop_Prop_unwatch.w p_ i_ w fun v w' => R (.returned v) w') : Calls Try.prog 77 #[.pointer p_, .int .i64 i_] w R :=
  calls_of mixed Try.func77 prop_Prop_unwatch.ok rfl (fun K => prop_Prop_unwatch.eq p_ i_ w K) h

/-! ### slices.DeleteFunc[[]int,int]: function 78 (named slots 5) -/
def slices_DeleteFunc_int_int.w (s__p : Option Addr) (s__n : Nat) (s__c : Nat) (del_f : FuncId) (del_v : Array Value) (w : World) (K : Value → World → Prop) : Prop :=
  Calls Try.prog 99 #[.slice s__p s__n s__c, .func (.func del_f) #[] del_v] w fun e w1 => ∃ r2 : Int, e = .returned (.int .i64 r2) ∧ 
  cnd (r2 == (-1))
  (K (.slice s__p s__n s__c) w1)
  (∃ I3 : Int → Int → World → Nat → Prop, (∃ k4, I3 r2 (IntKind.i64.wrap (r2 + (1 : Int))) w1 k4) ∧
    ∀ (i_6 : Int) (j_7 : Int) (w8 : World) (k4 : Nat) (_ : Fr), I3 i_6 j_7 w8 k4 →
    cnd (decide (j_7 < (s__n : Int)))
      (ixK s__p s__n j_7 1 fun a9 =>
        ∃ x10 : Int, w8.cell? a9 = some (.int .i64 x10) ∧ 
        cnd (entB Try.prog del_f) (Calls Try.prog del_f (#[] ++ #[.int .i64 x10] ++ del_v) w8 fun e w11 => ∃ r12 : Bool, e = .returned (.bool r12) ∧ 
        cnd (!r12)
        (ixK s__p s__n i_6 1 fun a13 =>
          ∃ w14 : World, StoreAt a13 0 [.int .i64 x10] w11 w14 ∧ 
          ∃ k5, k5 < k4 ∧ I3 (IntKind.i64.wrap (i_6 + (1 : Int))) (IntKind.i64.wrap (j_7 + (1 : Int))) w14 k5)
        (∃ k5, k5 < k4 ∧ I3 i_6 (IntKind.i64.wrap (j_7 + (1 : Int))) w11 k5)) False)
      (slK s__p s__n s__c 1 (some i_6) none none fun s15_p s15_n s15_c =>
        ∃ w16 : World, (Builtin.clear_ #[31] 0 #[.slice s15_p s15_n s15_c]).run Try.prog w8 = .ok (.tuple #[]) w16 ∧ 
        slK s__p s__n s__c 1 none (some i_6) none fun s17_p s17_n s17_c =>
        K (.slice s17_p s17_n s17_c) w16))
theorem slices_DeleteFunc_int_int.eq (s__p : Option Addr) (s__n : Nat) (s__c : Nat) (del_f : FuncId) (del_v : Array Value) (w : World) (K : Value → World → Prop) : wpF Try.prog Try.f78 (.two .leaf (.two .leaf (.two .leaf (.two (.two .leaf (.one (.loop [(5, 3), (6, 3)] .leaf))) .leaf)))) [.slice s__p s__n s__c, .func (.func del_f) #[] del_v] w K = slices_DeleteFunc_int_int.w s__p s__n s__c del_f del_v w K := by kernel_rfl
theorem slices_DeleteFunc_int_int.ok : fnOk Try.prog Try.f78 2 = true := by kernel_rfl
theorem slices_DeleteFunc_int_int.calls {s__p : Option Addr} {s__n : Nat} {s__c : Nat} {del_f : FuncId} {del_v : Array Value} {w : World} {R : Ending → World → Prop} (h : slices_DeleteFunc_int_int.w s__p s__n s__c del_f del_v w fun v w' => R (.returned v) w') : Calls Try.prog 78 #[.slice s__p s__n s__c, .func (.func del_f) #[] del_v] w R :=
  calls_of mixed Try.func78 slices_DeleteFunc_int_int.ok rfl (fun K => slices_DeleteFunc_int_int.eq s__p s__n s__c del_f del_v w K) h

/-! ### (*fathom/prop.Prop).Drop$1: function 79 (named slots 4) -/
def prop_Prop_Drop_1.w (k_ : Int) (c0_ : Addr) (w : World) (K : Value → World → Prop) : Prop :=
  ∃ x1 : Int, w.cell? c0_ = some (.int .i64 x1) ∧ 
  K (.bool (k_ == x1)) w
theorem prop_Prop_Drop_1.eq (k_ : Int) (c0_ : Addr) (w : World) (K : Value → World → Prop) : wpF Try.prog Try.f79 .leaf [.int .i64 k_, .pointer (some c0_)] w K = prop_Prop_Drop_1.w k_ c0_ w K := by kernel_rfl
theorem prop_Prop_Drop_1.ok : fnOk Try.prog Try.f79 2 = true := by kernel_rfl
theorem prop_Prop_Drop_1.calls {k_ : Int} {c0_ : Addr} {w : World} {R : Ending → World → Prop} (h : prop_Prop_Drop_1.w k_ c0_ w fun v w' => R (.returned v) w') : Calls Try.prog 79 #[.int .i64 k_, .pointer (some c0_)] w R :=
  calls_of mixed Try.func79 prop_Prop_Drop_1.ok rfl (fun K => prop_Prop_Drop_1.eq k_ c0_ w K) h

/-! ### (*fathom/prop.Prop).put: function 80 (named slots 6) -/
def prop_Prop_put.w (p_ : Option Addr) (l_ : Int) (reason_ : Int) (w : World) (K : Value → World → Prop) : Prop :=
  ∃ W1 : World → Prop, W1 w.drew ∧ 
  ∃ a2 : Addr, p_ = some a2 ∧ ∃ x3_p : Option Addr, ∃ x3_n : Nat, ∃ x3_c : Nat, AtW W1 (a2.add 3) (.slice x3_p x3_n x3_c) ∧ 
  Calls Try.prog 68 #[.int .i64 l_] w.drew fun e w4 => ∃ r5 : Int, e = .returned (.int .i64 r5) ∧ 
  W1 w4 ∧ ixK x3_p x3_n r5 1 fun a6 =>
  ∃ w7 : World, StoreAt a6 0 [.int .i8 1] w4 w7 ∧ 
  cnd (decide (l_ < (0 : Int)))
  (∃ a8 : Addr, p_ = some a8 ∧ ∃ x9_p : Option Addr, ∃ x9_n : Nat, ∃ x9_c : Nat, w7.cell? (a8.add 3) = some (.slice x9_p x9_n x9_c) ∧ 
    ixK x9_p x9_n (IntKind.i64.wrap (0 - l_)) 1 fun a10 =>
    ∃ w11 : World, StoreAt a10 0 [.int .i8 (-1)] w7 w11 ∧ 
    ∃ W12 : World → Prop, W12 w11.drew ∧ 
    ∃ a13 : Addr, p_ = some a13 ∧ ∃ x14_p : Option Addr, ∃ x14_n : Nat, ∃ x14_c : Nat, AtW W12 (a13.add 4) (.slice x14_p x14_n x14_c) ∧ 
    Calls Try.prog 68 #[.int .i64 l_] w11.drew fun e w15 => ∃ r16 : Int, e = .returned (.int .i64 r16) ∧ 
    W12 w15 ∧ ∃ a17 : Addr, p_ = some a17 ∧ ∃ x18_p : Option Addr, ∃ x18_n : Nat, ∃ x18_c : Nat, AtW W12 (a17.add 5) (.slice x18_p x18_n x18_c) ∧ 
    Calls Try.prog 68 #[.int .i64 l_] w15 fun e w19 => ∃ r20 : Int, e = .returned (.int .i64 r20) ∧ 
    W12 w19 ∧ ∃ a21 : Addr, p_ = some a21 ∧ ∃ x22_p : Option Addr, ∃ x22_n : Nat, ∃ x22_c : Nat, AtW W12 (a21.add 7) (.slice x22_p x22_n x22_c) ∧ 
    ixK x14_p x14_n r16 1 fun a23 =>
    ∃ w24 : World, StoreAt a23 0 [.int .i64 (x22_n : Int)] w19 w24 ∧ 
    ixK x18_p x18_n r20 1 fun a25 =>
    ∃ w26 : World, StoreAt a25 0 [.int .i64 reason_] w24 w26 ∧ 
    ∃ a27 : Addr, p_ = some a27 ∧ ∃ x28_p : Option Addr, ∃ x28_n : Nat, ∃ x28_c : Nat, w26.cell? (a27.add 6) = some (.slice x28_p x28_n x28_c) ∧ 
    ∀ (n29 : Nat) (w30 : World), New (.cells #[.int .i64 l_] 3) w26 n29 w30 → 
    ∃ w31 : World, ∃ r32_p : Option Addr, ∃ r32_n : Nat, ∃ r32_c : Nat, (Builtin.append_ #[31, 31] 31 #[.slice x28_p x28_n x28_c, .slice (some (Addr.mk n29 0 none)) 1 1]).run Try.prog w30 = .ok (.slice r32_p r32_n r32_c) w31 ∧ 
    ∃ a33 : Addr, p_ = some a33 ∧ ∃ w34 : World, StoreAt (a33.add 6) 0 [.slice r32_p r32_n r32_c] w31 w34 ∧ 
    K (.tuple #[]) w34)
  (∃ W35 : World → Prop, W35 w7.drew ∧ 
    ∃ a36 : Addr, p_ = some a36 ∧ ∃ x37_p : Option Addr, ∃ x37_n : Nat, ∃ x37_c : Nat, AtW W35 (a36.add 4) (.slice x37_p x37_n x37_c) ∧ 
    Calls Try.prog 68 #[.int .i64 l_] w7.drew fun e w38 => ∃ r39 : Int, e = .returned (.int .i64 r39) ∧ 
    W35 w38 ∧ ∃ a40 : Addr, p_ = some a40 ∧ ∃ x41_p : Option Addr, ∃ x41_n : Nat, ∃ x41_c : Nat, AtW W35 (a40.add 5) (.slice x41_p x41_n x41_c) ∧ 
    Calls Try.prog 68 #[.int .i64 l_] w38 fun e w42 => ∃ r43 : Int, e = .returned (.int .i64 r43) ∧ 
    W35 w42 ∧ ∃ a44 : Addr, p_ = some a44 ∧ ∃ x45_p : Option Addr, ∃ x45_n : Nat, ∃ x45_c : Nat, AtW W35 (a44.add 7) (.slice x45_p x45_n x45_c) ∧ 
    ixK x37_p x37_n r39 1 fun a46 =>
    ∃ w47 : World, StoreAt a46 0 [.int .i64 (x45_n : Int)] w42 w47 ∧ 
    ixK x41_p x41_n r43 1 fun a48 =>
    ∃ w49 : World, StoreAt a48 0 [.int .i64 reason_] w47 w49 ∧ 
    ∃ a50 : Addr, p_ = some a50 ∧ ∃ x51_p : Option Addr, ∃ x51_n : Nat, ∃ x51_c : Nat, w49.cell? (a50.add 6) = some (.slice x51_p x51_n x51_c) ∧ 
    ∀ (n52 : Nat) (w53 : World), New (.cells #[.int .i64 l_] 3) w49 n52 w53 → 
    ∃ w54 : World, ∃ r55_p : Option Addr, ∃ r55_n : Nat, ∃ r55_c : Nat, (Builtin.append_ #[31, 31] 31 #[.slice x51_p x51_n x51_c, .slice (some (Addr.mk n52 0 none)) 1 1]).run Try.prog w53 = .ok (.slice r55_p r55_n r55_c) w54 ∧ 
    ∃ a56 : Addr, p_ = some a56 ∧ ∃ w57 : World, StoreAt (a56.add 6) 0 [.slice r55_p r55_n r55_c] w54 w57 ∧ 
    K (.tuple #[]) w57)
theorem prop_Prop_put.eq (p_ : Option Addr) (l_ : Int) (reason_ : Int) (w : World) (K : Value → World → Prop) : wpF Try.prog Try.f80 (.two .draw (.two .leaf (.two .draw .leaf))) [.pointer p_, .int .i64 l_, .int .i64 reason_] w K = prop_Prop_put.w p_ l_ reason_ w K := by kernel_rfl
theorem prop_Prop_put.ok : fnOk Try.prog Try.f80 3 = true := by kernel_rfl
theorem prop_Prop_put.calls {p_ : Option Addr} {l_ : Int} {reason_ : Int} {w : World} {R : Ending → World → Prop} (h : prop_Prop_put.w p_ l_ reason_ w fun v w' => R (.returned v) w') : Calls Try.prog 80 #[.pointer p_, .int .i64 l_, .int .i64 reason_] w R :=
  calls_of mixed Try.func80 prop_Prop_put.ok rfl (fun K => prop_Prop_put.eq p_ l_ reason_ w K) h

/-! ### fathom/trace.Check: function 81 (named slots 3) -/
def trace_Check.w (l__p : Option Addr) (l__n : Nat) (l__c : Nat) (w : World) (K : Value → World → Prop) : Prop :=
  cnd (decide ((l__n : Int) > (262144 : Int)))
  (K (.int .i64 1) w)
  (Calls Try.prog 105 #[.slice l__p l__n l__c, .func (.func 106) #[] #[]] w fun e w1 => ∃ r2 : Bool, e = .returned (.bool r2) ∧ 
  cnd r2
  (K (.int .i64 1) w1)
  (K (.int .i64 0) w1))
theorem trace_Check.eq (l__p : Option Addr) (l__n : Nat) (l__c : Nat) (w : World) (K : Value → World → Prop) : wpF Try.prog Try.f81 .leaf [.slice l__p l__n l__c] w K = trace_Check.w l__p l__n l__c w K := by kernel_rfl
theorem trace_Check.ok : fnOk Try.prog Try.f81 1 = true := by kernel_rfl
theorem trace_Check.calls {l__p : Option Addr} {l__n : Nat} {l__c : Nat} {w : World} {R : Ending → World → Prop} (h : trace_Check.w l__p l__n l__c w fun v w' => R (.returned v) w') : Calls Try.prog 81 #[.slice l__p l__n l__c] w R :=
  calls_of mixed Try.func81 trace_Check.ok rfl (fun K => trace_Check.eq l__p l__n l__c w K) h

/-! ### fathom/rup.begin: function 82 (named slots 10) -/
def rup_begin.w (f_0 : Int) (f_1_p : Option Addr) (f_1_n : Nat) (f_1_c : Nat) (more__p : Option Addr) (more__n : Nat) (more__c : Nat) (w : World) (K : Value → World → Prop) : Prop :=
  ∀ (n1 : Nat) (w2 : World), New (.cells #[.int .i64 f_0, .slice f_1_p f_1_n f_1_c] 24) w n1 w2 → 
  ∃ x3 : Int, w2.cell? ((Addr.mk n1 0 none).add 0) = some (.int .i64 x3) ∧ 
  ∀ (n4 : Nat) (w5 : World), New (.map #[] 0) w2 n4 w5 → 
  ∀ (n6 : Nat) (w7 : World), New (.cells #[.int .i64 x3, .map (some n4), .pointer none, .slice none 0 0, .map none] 103) w5 n6 w7 → 
  ∃ x8_p : Option Addr, ∃ x8_n : Nat, ∃ x8_c : Nat, w7.cell? ((Addr.mk n1 0 none).add 1) = some (.slice x8_p x8_n x8_c) ∧ 
  ∃ I9 : Int → World → Nat → Prop, (∃ k10, I9 0 w7 k10) ∧
  ∀ (v12 : Int) (w13 : World) (k10 : Nat) (_ : Fr), I9 v12 w13 k10 →
  cnd (decide (v12 < (x8_n : Int)))
    (ixK x8_p x8_n v12 1 fun a14 =>
      ∃ x15_p : Option Addr, ∃ x15_n : Nat, ∃ x15_c : Nat, w13.cell? a14 = some (.slice x15_p x15_n x15_c) ∧ 
      Calls Try.prog 107 #[.pointer (some (Addr.mk n6 0 none)), .slice x15_p x15_n x15_c] w13 fun e w16 => e = .returned (.tuple #[]) ∧ 
      ∃ k11, k11 < k10 ∧ I9 (IntKind.i64.wrap (v12 + (1 : Int))) w16 k11)
    (∃ I17 : Int → World → Nat → Prop, (∃ k18, I17 0 w13 k18) ∧
      ∀ (v20 : Int) (w21 : World) (k18 : Nat) (_ : Fr), I17 v20 w21 k18 →
      cnd (decide (v20 < (more__n : Int)))
        (ixK more__p more__n v20 1 fun a22 =>
          ∃ x23_p : Option Addr, ∃ x23_n : Nat, ∃ x23_c : Nat, w21.cell? a22 = some (.slice x23_p x23_n x23_c) ∧ 
          Calls Try.prog 107 #[.pointer (some (Addr.mk n6 0 none)), .slice x23_p x23_n x23_c] w21 fun e w24 => e = .returned (.tuple #[]) ∧ 
          ∃ k19, k19 < k18 ∧ I17 (IntKind.i64.wrap (v20 + (1 : Int))) w24 k19)
        (∃ x25_p : Option Addr, ∃ x25_n : Nat, ∃ x25_c : Nat, w21.cell? ((Addr.mk n1 0 none).add 1) = some (.slice x25_p x25_n x25_c) ∧ 
          Calls Try.prog 108 #[.pointer (some (Addr.mk n6 0 none)), .slice x25_p x25_n x25_c] w21 fun e w26 => e = .returned (.tuple #[]) ∧ 
          K (.pointer (some (Addr.mk n6 0 none))) w26))
theorem rup_begin.eq (f_0 : Int) (f_1_p : Option Addr) (f_1_n : Nat) (f_1_c : Nat) (more__p : Option Addr) (more__n : Nat) (more__c : Nat) (w : World) (K : Value → World → Prop) : wpF Try.prog Try.f82 (.two .leaf (.two .leaf (.two (.two .leaf (.one (.loop [(18, 3)] .leaf))) (.two (.two .leaf (.one (.loop [(28, 3)] .leaf))) .leaf)))) [.agg #[.int .i64 f_0, .slice f_1_p f_1_n f_1_c], .slice more__p more__n more__c] w K = rup_begin.w f_0 f_1_p f_1_n f_1_c more__p more__n more__c w K := by kernel_rfl
theorem rup_begin.ok : fnOk Try.prog Try.f82 2 = true := by kernel_rfl
theorem rup_begin.calls {f_0 : Int} {f_1_p : Option Addr} {f_1_n : Nat} {f_1_c : Nat} {more__p : Option Addr} {more__n : Nat} {more__c : Nat} {w : World} {R : Ending → World → Prop} (h : rup_begin.w f_0 f_1_p f_1_n f_1_c more__p more__n more__c w fun v w' => R (.returned v) w') : Calls Try.prog 82 #[.agg #[.int .i64 f_0, .slice f_1_p f_1_n f_1_c], .slice more__p more__n more__c] w R :=
  calls_of mixed Try.func82 rup_begin.ok rfl (fun K => rup_begin.eq f_0 f_1_p f_1_n f_1_c more__p more__n more__c w K) h

/-! ### (*fathom/rup.base).do: function 83 (named slots 5) -/
def rup_base_do.w (b_ : Option Addr) (s_0 : Bool) (s_1_p : Option Addr) (s_1_n : Nat) (s_1_c : Nat) (w : World) (K : Value → World → Prop) : Prop :=
  ∀ (n1 : Nat) (w2 : World), New (.cells #[.bool s_0, .slice s_1_p s_1_n s_1_c] 73) w n1 w2 → 
  ∃ x3 : Bool, w2.cell? ((Addr.mk n1 0 none).add 0) = some (.bool x3) ∧ 
  cnd x3
  (∃ x4_p : Option Addr, ∃ x4_n : Nat, ∃ x4_c : Nat, w2.cell? ((Addr.mk n1 0 none).add 1) = some (.slice x4_p x4_n x4_c) ∧ 
    Calls Try.prog 109 #[.pointer b_, .slice x4_p x4_n x4_c] w2 fun e w5 => e = .returned (.tuple #[]) ∧ 
    K (.int .i64 0) w5)
  (∃ a6 : Addr, b_ = some a6 ∧ ∃ x7_p : Option Addr, ∃ x7_n : Nat, ∃ x7_c : Nat, w2.cell? (a6.add 3) = some (.slice x7_p x7_n x7_c) ∧ 
    cnd ((x7_n : Int) == (262144 : Int))
    (K (.int .i64 3) w2)
    (∃ x8_p : Option Addr, ∃ x8_n : Nat, ∃ x8_c : Nat, w2.cell? ((Addr.mk n1 0 none).add 1) = some (.slice x8_p x8_n x8_c) ∧ 
      Calls Try.prog 85 #[.pointer b_, .slice x8_p x8_n x8_c] w2 fun e w9 => ∃ r10 : Bool, e = .returned (.bool r10) ∧ 
      cnd (!r10)
      (∃ x11_p : Option Addr, ∃ x11_n : Nat, ∃ x11_c : Nat, w9.cell? ((Addr.mk n1 0 none).add 1) = some (.slice x11_p x11_n x11_c) ∧ 
      Calls Try.prog 87 #[.pointer b_, .slice x11_p x11_n x11_c] w9 fun e w12 => ∃ r13 : Bool, e = .returned (.bool r13) ∧ 
      cnd (!r13)
      (K (.int .i64 7) w12)
      (∃ x14_p : Option Addr, ∃ x14_n : Nat, ∃ x14_c : Nat, w12.cell? ((Addr.mk n1 0 none).add 1) = some (.slice x14_p x14_n x14_c) ∧ 
        Calls Try.prog 110 #[.pointer b_, .slice x14_p x14_n x14_c] w12 fun e w15 => e = .returned (.tuple #[]) ∧ 
        K (.int .i64 0) w15))
      (∃ x16_p : Option Addr, ∃ x16_n : Nat, ∃ x16_c : Nat, w9.cell? ((Addr.mk n1 0 none).add 1) = some (.slice x16_p x16_n x16_c) ∧ 
      Calls Try.prog 110 #[.pointer b_, .slice x16_p x16_n x16_c] w9 fun e w17 => e = .returned (.tuple #[]) ∧ 
      K (.int .i64 0) w17)))
theorem rup_base_do.eq (b_ : Option Addr) (s_0 : Bool) (s_1_p : Option Addr) (s_1_n : Nat) (s_1_c : Nat) (w : World) (K : Value → World → Prop) : wpF Try.prog Try.f83 .leaf [.pointer b_, .agg #[.bool s_0, .slice s_1_p s_1_n s_1_c]] w K = rup_base_do.w b_ s_0 s_1_p s_1_n s_1_c w K := by kernel_rfl
theorem rup_base_do.ok : fnOk Try.prog Try.f83 2 = true := by kernel_rfl
theorem rup_base_do.calls {b_ : Option Addr} {s_0 : Bool} {s_1_p : Option Addr} {s_1_n : Nat} {s_1_c : Nat} {w : World} {R : Ending → World → Prop} (h : rup_base_do.w b_ s_0 s_1_p s_1_n s_1_c w fun v w' => R (.returned v) w') : Calls Try.prog 83 #[.pointer b_, .agg #[.bool s_0, .slice s_1_p s_1_n s_1_c]] w R :=
  calls_of mixed Try.func83 rup_base_do.ok rfl (fun K => rup_base_do.eq b_ s_0 s_1_p s_1_n s_1_c w K) h

/-! ### fathom/rup.may: function 84 (named slots 5) -/
def rup_may.w (f_0 : Int) (f_1_p : Option Addr) (f_1_n : Nat) (f_1_c : Nat) (c__p : Option Addr) (c__n : Nat) (c__c : Nat) (w : World) (K : Value → World → Prop) : Prop :=
  ∀ (n1 : Nat) (w2 : World), New (.cells #[.int .i64 f_0, .slice f_1_p f_1_n f_1_c] 24) w n1 w2 → 
  ∃ x3 : Int, ∃ x4_p : Option Addr, ∃ x4_n : Nat, ∃ x4_c : Nat, CellsAt w2 (Addr.mk n1 0 none) 0 [.int .i64 x3, .slice x4_p x4_n x4_c] ∧ 
  Calls Try.prog 65 #[.agg #[.int .i64 x3, .slice x4_p x4_n x4_c]] w2 fun e w5 => ∃ r6 : Int, e = .returned (.int .i64 r6) ∧ 
  cnd (r6 == (0 : Int))
  (Calls Try.prog 69 #[.slice c__p c__n c__c] w5 fun e w7 => ∃ r8 : Int, e = .returned (.int .i64 r8) ∧ 
  K (.bool (r8 == (0 : Int))) w7)
  (K (.bool false) w5)
theorem rup_may.eq (f_0 : Int) (f_1_p : Option Addr) (f_1_n : Nat) (f_1_c : Nat) (c__p : Option Addr) (c__n : Nat) (c__c : Nat) (w : World) (K : Value → World → Prop) : wpF Try.prog Try.f84 .leaf [.agg #[.int .i64 f_0, .slice f_1_p f_1_n f_1_c], .slice c__p c__n c__c] w K = rup_may.w f_0 f_1_p f_1_n f_1_c c__p c__n c__c w K := by kernel_rfl
theorem rup_may.ok : fnOk Try.prog Try.f84 2 = true := by kernel_rfl
theorem rup_may.calls {f_0 : Int} {f_1_p : Option Addr} {f_1_n : Nat} {f_1_c : Nat} {c__p : Option Addr} {c__n : Nat} {c__c : Nat} {w : World} {R : Ending → World → Prop} (h : rup_may.w f_0 f_1_p f_1_n f_1_c c__p c__n c__c w fun v w' => R (.returned v) w') : Calls Try.prog 84 #[.agg #[.int .i64 f_0, .slice f_1_p f_1_n f_1_c], .slice c__p c__n c__c] w R :=
  calls_of mixed Try.func84 rup_may.ok rfl (fun K => rup_may.eq f_0 f_1_p f_1_n f_1_c c__p c__n c__c w K) h

/-! ### (*fathom/rup.base).unit: function 85 (named slots 7) -/
def rup_base_unit.w (b_ : Option Addr) (c__p : Option Addr) (c__n : Nat) (c__c : Nat) (w : World) (K : Value → World → Prop) : Prop :=
  ∃ a1 : Addr, b_ = some a1 ∧ ∃ x2 : Option Addr, w.cell? (a1.add 2) = some (.pointer x2) ∧ 
  Calls Try.prog 111 #[.pointer b_, .slice c__p c__n c__c] w fun e w3 => ∃ r4_p : Option Addr, ∃ r4_n : Nat, ∃ r4_c : Nat, e = .returned (.slice r4_p r4_n r4_c) ∧ 
  ∃ I5 : Int → World → Nat → Prop, (∃ k6, I5 0 w3 k6) ∧
  ∀ (v8 : Int) (w9 : World) (k6 : Nat) (_ : Fr), I5 v8 w9 k6 →
  cnd (decide (v8 < (r4_n : Int)))
    (ixK r4_p r4_n v8 1 fun a10 =>
      ∃ x11 : Int, w9.cell? a10 = some (.int .i64 x11) ∧ 
      ∃ a12 : Addr, b_ = some a12 ∧ ∃ x13 : Option Addr, w9.cell? (a12.add 2) = some (.pointer x13) ∧ 
      Calls Try.prog 34 #[.pointer x13, .int .i64 x11] w9 fun e w14 => ∃ r15 : Int, e = .returned (.int .i64 r15) ∧ 
      cnd (r15 == (1 : Int))
      (CallsD Try.prog 29 #[.pointer x2, .int .i64 0] .returning w14 fun e u17 w16 => u17 = .returning ∧ ∃ v18 : Value, e = .returned v18 ∧ 
        K (.bool true) w16)
      (cnd (r15 == (0 : Int))
        (∃ a19 : Addr, b_ = some a19 ∧ ∃ x20 : Option Addr, w14.cell? (a19.add 2) = some (.pointer x20) ∧ 
          Calls Try.prog 33 #[.pointer x20, .int .i64 (IntKind.i64.wrap (0 - x11))] w14 fun e w21 => ∃ r22 : Int, e = .returned (.int .i64 r22) ∧ 
          ∃ k7, k7 < k6 ∧ I5 (IntKind.i64.wrap (v8 + (1 : Int))) w21 k7)
        (∃ k7, k7 < k6 ∧ I5 (IntKind.i64.wrap (v8 + (1 : Int))) w14 k7)))
    (∃ a23 : Addr, b_ = some a23 ∧ ∃ x24 : Option Addr, w9.cell? (a23.add 2) = some (.pointer x24) ∧ 
      Calls Try.prog 19 #[.pointer x24] w9 fun e w25 => ∃ r26 : Int, e = .returned (.int .i64 r26) ∧ 
      CallsD Try.prog 29 #[.pointer x2, .int .i64 0] .returning w25 fun e u28 w27 => u28 = .returning ∧ ∃ v29 : Value, e = .returned v29 ∧ 
      K (.bool (decide (r26 ≥ (0 : Int)))) w27)
theorem rup_base_unit.eq (b_ : Option Addr) (c__p : Option Addr) (c__n : Nat) (c__c : Nat) (w : World) (K : Value → World → Prop) : wpFD Try.prog Try.f85 (.two .leaf (.two .leaf (.two (.two .leaf (.one (.loop [(15, 3)] .leaf))) .leaf))) [.pointer b_, .slice c__p c__n c__c] w K = rup_base_unit.w b_ c__p c__n c__c w K := by kernel_rfl
theorem rup_base_unit.ok : fnOkD Try.prog Try.f85 2 = true := by kernel_rfl
theorem rup_base_unit.calls {b_ : Option Addr} {c__p : Option Addr} {c__n : Nat} {c__c : Nat} {w : World} {R : Ending → World → Prop} (h : rup_base_unit.w b_ c__p c__n c__c w fun v w' => R (.returned v) w') : Calls Try.prog 85 #[.pointer b_, .slice c__p c__n c__c] w R :=
  calls_ofD mixed Try.func85 rup_base_unit.ok rfl (fun K => rup_base_unit.eq b_ c__p c__n c__c w K) h

/-! ### fathom/fathomref01.Model: function 86 (named slots 7) -/
def fathomref01_Model.w (vars_ : Int) (n_ : Int) (w : World) (K : Value → World → Prop) : Prop :=
  ∀ (n1 : Nat) (w2 : World), New (.cells #[] 3) w n1 w2 → 
  ∃ I3 : Int → Option Addr → Nat → Nat → Int → World → Nat → Prop, (∃ k4, I3 n_ (some (Addr.mk n1 0 none)) 0 0 0 w2 k4) ∧
  ∀ (n_6 : Int) (m_7_p : Option Addr) (m_7_n : Nat) (m_7_c : Nat) (i_8 : Int) (w9 : World) (k4 : Nat) (_ : Fr), I3 n_6 m_7_p m_7_n m_7_c i_8 w9 k4 →
  cnd (decide (i_8 < vars_))
    ((2 : Int) ≠ 0 ∧ cnd ((n_6.tmod (2 : Int)) == (1 : Int))
      (∀ (n10 : Nat) (w11 : World), New (.cells #[.int .i64 1] 3) w9 n10 w11 → 
        ∃ w12 : World, ∃ r13_p : Option Addr, ∃ r13_n : Nat, ∃ r13_c : Nat, (Builtin.append_ #[31, 31] 31 #[.slice m_7_p m_7_n m_7_c, .slice (some (Addr.mk n10 0 none)) 1 1]).run Try.prog w11 = .ok (.slice r13_p r13_n r13_c) w12 ∧ 
        (2 : Int) ≠ 0 ∧ ∃ k5, k5 < k4 ∧ I3 (IntKind.i64.wrap (n_6.tdiv (2 : Int))) r13_p r13_n r13_c (IntKind.i64.wrap (i_8 + (1 : Int))) w12 k5)
      (∀ (n14 : Nat) (w15 : World), New (.cells #[.int .i64 (-1)] 3) w9 n14 w15 → 
        ∃ w16 : World, ∃ r17_p : Option Addr, ∃ r17_n : Nat, ∃ r17_c : Nat, (Builtin.append_ #[31, 31] 31 #[.slice m_7_p m_7_n m_7_c, .slice (some (Addr.mk n14 0 none)) 1 1]).run Try.prog w15 = .ok (.slice r17_p r17_n r17_c) w16 ∧ 
        (2 : Int) ≠ 0 ∧ ∃ k5, k5 < k4 ∧ I3 (IntKind.i64.wrap (n_6.tdiv (2 : Int))) r17_p r17_n r17_c (IntKind.i64.wrap (i_8 + (1 : Int))) w16 k5))
    (K (.slice m_7_p m_7_n m_7_c) w9)
theorem fathomref01_Model.eq (vars_ : Int) (n_ : Int) (w : World) (K : Value → World → Prop) : wpF Try.prog Try.f86 (.two .leaf (.two .leaf (.two (.two .leaf (.one (.loop [(1, 3), (5, 31), (6, 3)] .leaf))) .leaf))) [.int .i64 vars_, .int .i64 n_] w K = fathomref01_Model.w vars_ n_ w K := by kernel_rfl
theorem fathomref01_Model.ok : fnOk Try.prog Try.f86 2 = true := by kernel_rfl
theorem fathomref01_Model.calls {vars_ : Int} {n_ : Int} {w : World} {R : Ending → World → Prop} (h : fathomref01_Model.w vars_ n_ w fun v w' => R (.returned v) w') : Calls Try.prog 86 #[.int .i64 vars_, .int .i64 n_] w R :=
  calls_of mixed Try.func86 fathomref01_Model.ok rfl (fun K => fathomref01_Model.eq vars_ n_ w K) h

/-! ### (*fathom/rup.base).first: function 87 (named slots 10) -/
def rup_base_first.w (b_ : Option Addr) (c__p : Option Addr) (c__n : Nat) (c__c : Nat) (w : World) (K : Value → World → Prop) : Prop :=
  cnd ((c__n : Int) == (0 : Int))
  (K (.bool false) w)
  (∃ a1 : Addr, b_ = some a1 ∧ ∃ x2_p : Option Addr, ∃ x2_n : Nat, ∃ x2_c : Nat, w.cell? (a1.add 3) = some (.slice x2_p x2_n x2_c) ∧ 
    ∃ I3 : Int → World → Nat → Prop, (∃ k4, I3 0 w k4) ∧
    ∀ (v6 : Int) (w7 : World) (k4 : Nat) (_ : Fr), I3 v6 w7 k4 →
    cnd (decide (v6 < (x2_n : Int)))
      (ixK x2_p x2_n v6 1 fun a8 =>
        ∃ x9 : Int, w7.cell? a8 = some (.int .i64 x9) ∧ 
        ∃ W10 : World → Prop, W10 w7.drew ∧ 
        ∃ a11 : Addr, b_ = some a11 ∧ ∃ x12 : Option Nat, AtW W10 (a11.add 4) (.map x12) ∧ 
        ∃ w13 : World, ∃ r14_p : Option Addr, ∃ r14_n : Nat, ∃ r14_c : Nat, (Instr.lookup 101 (.map x12) (.int .i64 x9) false).run Try.prog w7.drew = .ok (.slice r14_p r14_n r14_c) w13 ∧ 
        W10 w13 ∧ ixK c__p c__n 0 1 fun a15 =>
        ∃ x16 : Int, AtW W10 a15 (.int .i64 x16) ∧ 
        Calls Try.prog 112 #[.slice r14_p r14_n r14_c, .int .i64 (IntKind.i64.wrap (0 - x16))] w13 fun e w17 => ∃ r18 : Bool, e = .returned (.bool r18) ∧ 
        cnd (!r18)
        (∃ k5, k5 < k4 ∧ I3 (IntKind.i64.wrap (v6 + (1 : Int))) w17 k5)
        (Calls Try.prog 62 #[.slice c__p c__n c__c] w17 fun e w19 => ∃ r20_p : Option Addr, ∃ r20_n : Nat, ∃ r20_c : Nat, e = .returned (.slice r20_p r20_n r20_c) ∧ 
          ∃ a21 : Addr, b_ = some a21 ∧ ∃ x22 : Option Nat, w19.cell? (a21.add 4) = some (.map x22) ∧ 
          ∃ w23 : World, ∃ r24_p : Option Addr, ∃ r24_n : Nat, ∃ r24_c : Nat, (Instr.lookup 101 (.map x22) (.int .i64 x9) false).run Try.prog w19 = .ok (.slice r24_p r24_n r24_c) w23 ∧ 
          ∃ I25 : Option Addr → Nat → Nat → Int → World → Nat → Prop, (∃ k26, I25 r20_p r20_n r20_c 0 w23 k26) ∧
          ∀ (all_28_p : Option Addr) (all_28_n : Nat) (all_28_c : Nat) (v29 : Int) (w30 : World) (k26 : Nat) (_ : Fr), I25 all_28_p all_28_n all_28_c v29 w30 k26 →
          cnd (decide (v29 < (r24_n : Int)))
            (ixK r24_p r24_n v29 1 fun a31 =>
              ∃ x32 : Int, w30.cell? a31 = some (.int .i64 x32) ∧ 
              ixK c__p c__n 0 1 fun a33 =>
              ∃ x34 : Int, w30.cell? a33 = some (.int .i64 x34) ∧ 
              cnd (x32 != (IntKind.i64.wrap (0 - x34)))
              (∀ (n35 : Nat) (w36 : World), New (.cells #[.int .i64 x32] 3) w30 n35 w36 → 
                ∃ w37 : World, ∃ r38_p : Option Addr, ∃ r38_n : Nat, ∃ r38_c : Nat, (Builtin.append_ #[31, 31] 31 #[.slice all_28_p all_28_n all_28_c, .slice (some (Addr.mk n35 0 none)) 1 1]).run Try.prog w36 = .ok (.slice r38_p r38_n r38_c) w37 ∧ 
                ∃ k27, k27 < k26 ∧ I25 r38_p r38_n r38_c (IntKind.i64.wrap (v29 + (1 : Int))) w37 k27)
              (∃ k27, k27 < k26 ∧ I25 all_28_p all_28_n all_28_c (IntKind.i64.wrap (v29 + (1 : Int))) w30 k27))
            (cnd (decide ((all_28_n : Int) > (4096 : Int)))
              (K (.bool false) w30)
              (Calls Try.prog 85 #[.pointer b_, .slice all_28_p all_28_n all_28_c] w30 fun e w39 => ∃ r40 : Bool, e = .returned (.bool r40) ∧ 
              cnd (!r40)
              (K (.bool false) w39)
              (∃ k5, k5 < k4 ∧ I3 (IntKind.i64.wrap (v6 + (1 : Int))) w39 k5)))))
      (K (.bool true) w7))
theorem rup_base_first.eq (b_ : Option Addr) (c__p : Option Addr) (c__n : Nat) (c__c : Nat) (w : World) (K : Value → World → Prop) : wpF Try.prog Try.f87 (.two .leaf (.two .leaf (.two (.two .leaf (.one (.loop [(18, 3)] (.two .leaf (.two .leaf (.two (.one (.two .leaf (.two (.two .draw .leaf) (.two .leaf (.two (.two .leaf (.one (.loop [(7, 31), (43, 3)] .leaf))) .leaf))))) .leaf)))))) .leaf))) [.pointer b_, .slice c__p c__n c__c] w K = rup_base_first.w b_ c__p c__n c__c w K := by kernel_rfl
theorem rup_base_first.ok : fnOk Try.prog Try.f87 2 = true := by kernel_rfl
theorem rup_base_first.calls {b_ : Option Addr} {c__p : Option Addr} {c__n : Nat} {c__c : Nat} {w : World} {R : Ending → World → Prop} (h : rup_base_first.w b_ c__p c__n c__c w fun v w' => R (.returned v) w') : Calls Try.prog 87 #[.pointer b_, .slice c__p c__n c__c] w R :=
  calls_of mixed Try.func87 rup_base_first.ok rfl (fun K => rup_base_first.eq b_ c__p c__n c__c w K) h

/-! ### fathom/fathomref01.Taut: function 88 (named slots 4) -/
def fathomref01_Taut.w (c__p : Option Addr) (c__n : Nat) (c__c : Nat) (w : World) (K : Value → World → Prop) : Prop :=
  ∃ I1 : Int → World → Nat → Prop, (∃ k2, I1 0 w k2) ∧
  ∀ (i_4 : Int) (w5 : World) (k2 : Nat) (_ : Fr), I1 i_4 w5 k2 →
  cnd (decide (i_4 < (c__n : Int)))
    (ixK c__p c__n i_4 1 fun a6 =>
      ∃ x7 : Int, w5.cell? a6 = some (.int .i64 x7) ∧ 
      Calls Try.prog 63 #[.slice c__p c__n c__c, .int .i64 (IntKind.i64.wrap (0 - x7))] w5 fun e w8 => ∃ r9 : Bool, e = .returned (.bool r9) ∧ 
      cnd r9
      (K (.bool true) w8)
      (∃ k3, k3 < k2 ∧ I1 (IntKind.i64.wrap (i_4 + (1 : Int))) w8 k3))
    (K (.bool false) w5)
theorem fathomref01_Taut.eq (c__p : Option Addr) (c__n : Nat) (c__c : Nat) (w : World) (K : Value → World → Prop) : wpF Try.prog Try.f88 (.two .leaf (.two (.two .leaf (.one (.loop [(3, 3)] .leaf))) .leaf)) [.slice c__p c__n c__c] w K = fathomref01_Taut.w c__p c__n c__c w K := by kernel_rfl
theorem fathomref01_Taut.ok : fnOk Try.prog Try.f88 1 = true := by kernel_rfl
theorem fathomref01_Taut.calls {c__p : Option Addr} {c__n : Nat} {c__c : Nat} {w : World} {R : Ending → World → Prop} (h : fathomref01_Taut.w c__p c__n c__c w fun v w' => R (.returned v) w') : Calls Try.prog 88 #[.slice c__p c__n c__c] w R :=
  calls_of mixed Try.func88 fathomref01_Taut.ok rfl (fun K => fathomref01_Taut.eq c__p c__n c__c w K) h

/-! ### fathom/fathomref06.Follows: function 89 (named slots 10) -/
def fathomref06_Follows.w (clauses__p : Option Addr) (clauses__n : Nat) (clauses__c : Nat) (truths__p : Option Addr) (truths__n : Nat) (truths__c : Nat) (w : World) (K : Value → World → Prop) : Prop :=
  ∀ (n1 : Nat) (w2 : World), New (.cells #[] 3) w n1 w2 → 
  ∃ w3 : World, ∃ r4_p : Option Addr, ∃ r4_n : Nat, ∃ r4_c : Nat, (Builtin.append_ #[31, 31] 31 #[.slice (some (Addr.mk n1 0 none)) 0 0, .slice truths__p truths__n truths__c]).run Try.prog w2 = .ok (.slice r4_p r4_n r4_c) w3 ∧ 
  ∃ I5 : Option Addr → Nat → Nat → Int → World → Nat → Prop, (∃ k6, I5 r4_p r4_n r4_c 0 w3 k6) ∧
  ∀ (t_8_p : Option Addr) (t_8_n : Nat) (t_8_c : Nat) (n_9 : Int) (w10 : World) (k6 : Nat) (_ : Fr), I5 t_8_p t_8_n t_8_c n_9 w10 k6 →
  cnd (decide (n_9 ≤ (100000 : Int)))
    (∃ I11 : Int → Int → World → Nat → Prop, (∃ k12, I11 0 0 w10 k12) ∧
      ∀ (next_14 : Int) (i_15 : Int) (w16 : World) (k12 : Nat) (_ : Fr), I11 next_14 i_15 w16 k12 →
      cnd (decide (i_15 < (clauses__n : Int)))
        (ixK clauses__p clauses__n i_15 1 fun a17 =>
          ∃ x18_p : Option Addr, ∃ x18_n : Nat, ∃ x18_c : Nat, w16.cell? a17 = some (.slice x18_p x18_n x18_c) ∧ 
          Calls Try.prog 66 #[.slice x18_p x18_n x18_c, .slice t_8_p t_8_n t_8_c] w16 fun e w19 => ∃ r20 : Bool, e = .returned (.bool r20) ∧ 
          cnd r20
          (K (.tuple #[.slice t_8_p t_8_n t_8_c, .bool true]) w19)
          (cnd (next_14 == (0 : Int))
            (ixK clauses__p clauses__n i_15 1 fun a21 =>
              ∃ x22_p : Option Addr, ∃ x22_n : Nat, ∃ x22_c : Nat, w19.cell? a21 = some (.slice x22_p x22_n x22_c) ∧ 
              Calls Try.prog 113 #[.slice x22_p x22_n x22_c, .slice t_8_p t_8_n t_8_c] w19 fun e w23 => ∃ r24 : Int, e = .returned (.int .i64 r24) ∧ 
              ∃ k13, k13 < k12 ∧ I11 r24 (IntKind.i64.wrap (i_15 + (1 : Int))) w23 k13)
            (∃ k13, k13 < k12 ∧ I11 next_14 (IntKind.i64.wrap (i_15 + (1 : Int))) w19 k13)))
        (cnd (next_14 == (0 : Int))
          (K (.tuple #[.slice t_8_p t_8_n t_8_c, .bool false]) w16)
          (∀ (n25 : Nat) (w26 : World), New (.cells #[.int .i64 next_14] 3) w16 n25 w26 → 
            ∃ w27 : World, ∃ r28_p : Option Addr, ∃ r28_n : Nat, ∃ r28_c : Nat, (Builtin.append_ #[31, 31] 31 #[.slice t_8_p t_8_n t_8_c, .slice (some (Addr.mk n25 0 none)) 1 1]).run Try.prog w26 = .ok (.slice r28_p r28_n r28_c) w27 ∧ 
            ∃ k7, k7 < k6 ∧ I5 r28_p r28_n r28_c (IntKind.i64.wrap (n_9 + (1 : Int))) w27 k7)))
    (K (.tuple #[.slice t_8_p t_8_n t_8_c, .bool false]) w10)
theorem fathomref06_Follows.eq (clauses__p : Option Addr) (clauses__n : Nat) (clauses__c : Nat) (truths__p : Option Addr) (truths__n : Nat) (truths__c : Nat) (w : World) (K : Value → World → Prop) : wpF Try.prog Try.f89 (.two .leaf (.two .leaf (.two (.two .leaf (.one (.loop [(6, 31), (7, 3)] (.two .leaf (.two (.one (.two .leaf (.two (.two .leaf (.one (.loop [(8, 3), (9, 3)] .leaf))) .leaf))) .leaf))))) .leaf))) [.slice clauses__p clauses__n clauses__c, .slice truths__p truths__n truths__c] w K = fathomref06_Follows.w clauses__p clauses__n clauses__c truths__p truths__n truths__c w K := by kernel_rfl
theorem fathomref06_Follows.ok : fnOk Try.prog Try.f89 2 = true := by kernel_rfl
theorem fathomref06_Follows.calls {clauses__p : Option Addr} {clauses__n : Nat} {clauses__c : Nat} {truths__p : Option Addr} {truths__n : Nat} {truths__c : Nat} {w : World} {R : Ending → World → Prop} (h : fathomref06_Follows.w clauses__p clauses__n clauses__c truths__p truths__n truths__c w fun v w' => R (.returned v) w') : Calls Try.prog 89 #[.slice clauses__p clauses__n clauses__c, .slice truths__p truths__n truths__c] w R :=
  calls_of mixed Try.func89 fathomref06_Follows.ok rfl (fun K => fathomref06_Follows.eq clauses__p clauses__n clauses__c truths__p truths__n truths__c w K) h

/-! ### (*fathom/rup.base).clauses: function 90 (named slots 6) -/
def rup_base_clauses.w (b_ : Option Addr) (w : World) (K : Value → World → Prop) : Prop :=
  ∃ a1 : Addr, b_ = some a1 ∧ ∃ x2_p : Option Addr, ∃ x2_n : Nat, ∃ x2_c : Nat, w.cell? (a1.add 3) = some (.slice x2_p x2_n x2_c) ∧ 
  ∃ I3 : Option Addr → Nat → Nat → Int → World → Nat → Prop, (∃ k4, I3 none 0 0 0 w k4) ∧
  ∀ (l_6_p : Option Addr) (l_6_n : Nat) (l_6_c : Nat) (v7 : Int) (w8 : World) (k4 : Nat) (_ : Fr), I3 l_6_p l_6_n l_6_c v7 w8 k4 →
  cnd (decide (v7 < (x2_n : Int)))
    (ixK x2_p x2_n v7 1 fun a9 =>
      ∃ x10 : Int, w8.cell? a9 = some (.int .i64 x10) ∧ 
      ∃ a11 : Addr, b_ = some a11 ∧ ∃ x12 : Option Nat, w8.cell? (a11.add 4) = some (.map x12) ∧ 
      ∃ w13 : World, ∃ r14_p : Option Addr, ∃ r14_n : Nat, ∃ r14_c : Nat, (Instr.lookup 101 (.map x12) (.int .i64 x10) false).run Try.prog w8 = .ok (.slice r14_p r14_n r14_c) w13 ∧ 
      Calls Try.prog 62 #[.slice r14_p r14_n r14_c] w13 fun e w15 => ∃ r16_p : Option Addr, ∃ r16_n : Nat, ∃ r16_c : Nat, e = .returned (.slice r16_p r16_n r16_c) ∧ 
      ∀ (n17 : Nat) (w18 : World), New (.cells #[.slice r16_p r16_n r16_c] 31) w15 n17 w18 → 
      ∃ w19 : World, ∃ r20_p : Option Addr, ∃ r20_n : Nat, ∃ r20_c : Nat, (Builtin.append_ #[22, 22] 22 #[.slice l_6_p l_6_n l_6_c, .slice (some (Addr.mk n17 0 none)) 1 1]).run Try.prog w18 = .ok (.slice r20_p r20_n r20_c) w19 ∧ 
      ∃ k5, k5 < k4 ∧ I3 r20_p r20_n r20_c (IntKind.i64.wrap (v7 + (1 : Int))) w19 k5)
    (K (.slice l_6_p l_6_n l_6_c) w8)
theorem rup_base_clauses.eq (b_ : Option Addr) (w : World) (K : Value → World → Prop) : wpF Try.prog Try.f90 (.two .leaf (.two .leaf (.two (.two .leaf (.one (.loop [(3, 22), (11, 3)] .leaf))) .leaf))) [.pointer b_] w K = rup_base_clauses.w b_ w K := by kernel_rfl
theorem rup_base_clauses.ok : fnOk Try.prog Try.f90 1 = true := by kernel_rfl
theorem rup_base_clauses.calls {b_ : Option Addr} {w : World} {R : Ending → World → Prop} (h : rup_base_clauses.w b_ w fun v w' => R (.returned v) w') : Calls Try.prog 90 #[.pointer b_] w R :=
  calls_of mixed Try.func90 rup_base_clauses.ok rfl (fun K => rup_base_clauses.eq b_ w K) h

/-! ### fathom/fathomref01.Lists: function 91 (named slots 6) -/
def fathomref01_Lists.w (a__p : Option Addr) (a__n : Nat) (a__c : Nat) (b__p : Option Addr) (b__n : Nat) (b__c : Nat) (w : World) (K : Value → World → Prop) : Prop :=
  cnd ((a__n : Int) != (b__n : Int))
  (K (.bool false) w)
  (∃ I1 : Int → World → Nat → Prop, (∃ k2, I1 0 w k2) ∧
    ∀ (i_4 : Int) (w5 : World) (k2 : Nat) (_ : Fr), I1 i_4 w5 k2 →
    cnd (decide (i_4 < (a__n : Int)))
      (ixK a__p a__n i_4 1 fun a6 =>
        ∃ x7_p : Option Addr, ∃ x7_n : Nat, ∃ x7_c : Nat, w5.drew.cell? a6 = some (.slice x7_p x7_n x7_c) ∧ 
        ixK b__p b__n i_4 1 fun a8 =>
        ∃ x9_p : Option Addr, ∃ x9_n : Nat, ∃ x9_c : Nat, w5.drew.cell? a8 = some (.slice x9_p x9_n x9_c) ∧ 
        Calls Try.prog 21 #[.slice x7_p x7_n x7_c, .slice x9_p x9_n x9_c] w5.drew fun e w10 => ∃ r11 : Bool, e = .returned (.bool r11) ∧ 
        cnd (!r11)
        (K (.bool false) w10)
        (∃ k3, k3 < k2 ∧ I1 (IntKind.i64.wrap (i_4 + (1 : Int))) w10 k3))
      (K (.bool true) w5))
theorem fathomref01_Lists.eq (a__p : Option Addr) (a__n : Nat) (a__c : Nat) (b__p : Option Addr) (b__n : Nat) (b__c : Nat) (w : World) (K : Value → World → Prop) : wpF Try.prog Try.f91 (.two .leaf (.two .leaf (.two (.two .leaf (.one (.loop [(5, 3)] .leaf))) .leaf))) [.slice a__p a__n a__c, .slice b__p b__n b__c] w K = fathomref01_Lists.w a__p a__n a__c b__p b__n b__c w K := by kernel_rfl
theorem fathomref01_Lists.ok : fnOk Try.prog Try.f91 2 = true := by kernel_rfl
theorem fathomref01_Lists.calls {a__p : Option Addr} {a__n : Nat} {a__c : Nat} {b__p : Option Addr} {b__n : Nat} {b__c : Nat} {w : World} {R : Ending → World → Prop} (h : fathomref01_Lists.w a__p a__n a__c b__p b__n b__c w fun v w' => R (.returned v) w') : Calls Try.prog 91 #[.slice a__p a__n a__c, .slice b__p b__n b__c] w R :=
  calls_of mixed Try.func91 fathomref01_Lists.ok rfl (fun K => fathomref01_Lists.eq a__p a__n a__c b__p b__n b__c w K) h

/-! ### fathom/fathomref01.Order: function 92 (named slots 7) -/
def fathomref01_Order.w (c__p : Option Addr) (c__n : Nat) (c__c : Nat) (w : World) (K : Value → World → Prop) : Prop :=
  ∀ (n1 : Nat) (w2 : World), New (.cells #[] 3) w n1 w2 → 
  ∃ I3 : Option Addr → Nat → Nat → Int → World → Nat → Prop, (∃ k4, I3 (some (Addr.mk n1 0 none)) 0 0 0 w2 k4) ∧
  ∀ (out_6_p : Option Addr) (out_6_n : Nat) (out_6_c : Nat) (i_7 : Int) (w8 : World) (k4 : Nat) (_ : Fr), I3 out_6_p out_6_n out_6_c i_7 w8 k4 →
  cnd (decide (i_7 < (c__n : Int)))
    (ixK c__p c__n i_7 1 fun a9 =>
      ∃ x10 : Int, w8.cell? a9 = some (.int .i64 x10) ∧ 
      Calls Try.prog 63 #[.slice out_6_p out_6_n out_6_c, .int .i64 x10] w8 fun e w11 => ∃ r12 : Bool, e = .returned (.bool r12) ∧ 
      cnd r12
      (∃ k5, k5 < k4 ∧ I3 out_6_p out_6_n out_6_c (IntKind.i64.wrap (i_7 + (1 : Int))) w11 k5)
      (∃ I13 : Int → World → Nat → Prop, (∃ k14, I13 0 w11 k14) ∧
        ∀ (at_16 : Int) (w17 : World) (k14 : Nat) (_ : Fr), I13 at_16 w17 k14 →
        cnd (decide (at_16 < (out_6_n : Int)))
          (ixK out_6_p out_6_n at_16 1 fun a18 =>
          ∃ x19 : Int, w17.drew.cell? a18 = some (.int .i64 x19) ∧ 
          ixK c__p c__n i_7 1 fun a20 =>
          ∃ x21 : Int, w17.drew.cell? a20 = some (.int .i64 x21) ∧ 
          Calls Try.prog 114 #[.int .i64 x19, .int .i64 x21] w17.drew fun e w22 => ∃ r23 : Bool, e = .returned (.bool r23) ∧ 
          cnd r23
          (∃ k15, k15 < k14 ∧ I13 (IntKind.i64.wrap (at_16 + (1 : Int))) w22 k15)
          (∀ (n24 : Nat) (w25 : World), New (.cells #[] 3) w22 n24 w25 → 
            slK out_6_p out_6_n out_6_c 1 none (some at_16) none fun s26_p s26_n s26_c =>
            ∃ w27 : World, ∃ r28_p : Option Addr, ∃ r28_n : Nat, ∃ r28_c : Nat, (Builtin.append_ #[31, 31] 31 #[.slice (some (Addr.mk n24 0 none)) 0 0, .slice s26_p s26_n s26_c]).run Try.prog w25 = .ok (.slice r28_p r28_n r28_c) w27 ∧ 
            ixK c__p c__n i_7 1 fun a29 =>
            ∃ x30 : Int, w27.cell? a29 = some (.int .i64 x30) ∧ 
            ∀ (n31 : Nat) (w32 : World), New (.cells #[.int .i64 x30] 3) w27 n31 w32 → 
            ∃ w33 : World, ∃ r34_p : Option Addr, ∃ r34_n : Nat, ∃ r34_c : Nat, (Builtin.append_ #[31, 31] 31 #[.slice r28_p r28_n r28_c, .slice (some (Addr.mk n31 0 none)) 1 1]).run Try.prog w32 = .ok (.slice r34_p r34_n r34_c) w33 ∧ 
            slK out_6_p out_6_n out_6_c 1 (some at_16) none none fun s35_p s35_n s35_c =>
            ∃ w36 : World, ∃ r37_p : Option Addr, ∃ r37_n : Nat, ∃ r37_c : Nat, (Builtin.append_ #[31, 31] 31 #[.slice r34_p r34_n r34_c, .slice s35_p s35_n s35_c]).run Try.prog w33 = .ok (.slice r37_p r37_n r37_c) w36 ∧ 
            ∃ k5, k5 < k4 ∧ I3 r37_p r37_n r37_c (IntKind.i64.wrap (i_7 + (1 : Int))) w36 k5))
          (∀ (n38 : Nat) (w39 : World), New (.cells #[] 3) w17.drew n38 w39 → 
          slK out_6_p out_6_n out_6_c 1 none (some at_16) none fun s40_p s40_n s40_c =>
          ∃ w41 : World, ∃ r42_p : Option Addr, ∃ r42_n : Nat, ∃ r42_c : Nat, (Builtin.append_ #[31, 31] 31 #[.slice (some (Addr.mk n38 0 none)) 0 0, .slice s40_p s40_n s40_c]).run Try.prog w39 = .ok (.slice r42_p r42_n r42_c) w41 ∧ 
          ixK c__p c__n i_7 1 fun a43 =>
          ∃ x44 : Int, w41.cell? a43 = some (.int .i64 x44) ∧ 
          ∀ (n45 : Nat) (w46 : World), New (.cells #[.int .i64 x44] 3) w41 n45 w46 → 
          ∃ w47 : World, ∃ r48_p : Option Addr, ∃ r48_n : Nat, ∃ r48_c : Nat, (Builtin.append_ #[31, 31] 31 #[.slice r42_p r42_n r42_c, .slice (some (Addr.mk n45 0 none)) 1 1]).run Try.prog w46 = .ok (.slice r48_p r48_n r48_c) w47 ∧ 
          slK out_6_p out_6_n out_6_c 1 (some at_16) none none fun s49_p s49_n s49_c =>
          ∃ w50 : World, ∃ r51_p : Option Addr, ∃ r51_n : Nat, ∃ r51_c : Nat, (Builtin.append_ #[31, 31] 31 #[.slice r48_p r48_n r48_c, .slice s49_p s49_n s49_c]).run Try.prog w47 = .ok (.slice r51_p r51_n r51_c) w50 ∧ 
          ∃ k5, k5 < k4 ∧ I3 r51_p r51_n r51_c (IntKind.i64.wrap (i_7 + (1 : Int))) w50 k5)))
    (K (.slice out_6_p out_6_n out_6_c) w8)
theorem fathomref01_Order.eq (c__p : Option Addr) (c__n : Nat) (c__c : Nat) (w : World) (K : Value → World → Prop) : wpF Try.prog Try.f92 (.two .leaf (.two .leaf (.two (.two .leaf (.one (.loop [(3, 31), (4, 3)] (.two .leaf (.two (.one (.two .leaf (.two .leaf (.two (.one (.loop [(5, 3)] .leaf)) .leaf)))) .leaf))))) .leaf))) [.slice c__p c__n c__c] w K = fathomref01_Order.w c__p c__n c__c w K := by kernel_rfl
theorem fathomref01_Order.ok : fnOk Try.prog Try.f92 1 = true := by kernel_rfl
theorem fathomref01_Order.calls {c__p : Option Addr} {c__n : Nat} {c__c : Nat} {w : World} {R : Ending → World → Prop} (h : fathomref01_Order.w c__p c__n c__c w fun v w' => R (.returned v) w') : Calls Try.prog 92 #[.slice c__p c__n c__c] w R :=
  calls_of mixed Try.func92 fathomref01_Order.ok rfl (fun K => fathomref01_Order.eq c__p c__n c__c w K) h

/-! ### (*fathom/prop.Prop).loosely$1: function 93 (named slots 4) -/
def prop_Prop_loosely_1.w (x0_ : Int) (c0_ : Addr) (w : World) (K : Value → World → Prop) : Prop :=
  ∃ x1 : Option Addr, w.cell? c0_ = some (.pointer x1) ∧ 
  Calls Try.prog 76 #[.pointer x1, .int .i64 x0_] w fun e w2 => ∃ r3 : Int, e = .returned (.int .i8 r3) ∧ 
  K (.bool (decide (r3 < (0 : Int)))) w2
theorem prop_Prop_loosely_1.eq (x0_ : Int) (c0_ : Addr) (w : World) (K : Value → World → Prop) : wpF Try.prog Try.f93 .leaf [.int .i64 x0_, .pointer (some c0_)] w K = prop_Prop_loosely_1.w x0_ c0_ w K := by kernel_rfl
theorem prop_Prop_loosely_1.ok : fnOk Try.prog Try.f93 2 = true := by kernel_rfl
theorem prop_Prop_loosely_1.calls {x0_ : Int} {c0_ : Addr} {w : World} {R : Ending → World → Prop} (h : prop_Prop_loosely_1.w x0_ c0_ w fun v w' => R (.returned v) w') : Calls Try.prog 93 #[.int .i64 x0_, .pointer (some c0_)] w R :=
  calls_of mixed Try.func93 prop_Prop_loosely_1.ok rfl (fun K => prop_Prop_loosely_1.eq x0_ c0_ w K) h

/-! ### (*fathom/prop.Prop).again: function 94 (named slots 5) -/
def prop_Prop_again.w (p_ : Option Addr) (i_ : Int) (w : World) (K : Value → World → Prop) : Prop :=
  ∃ a1 : Addr, p_ = some a1 ∧ ∃ x2_p : Option Addr, ∃ x2_n : Nat, ∃ x2_c : Nat, w.cell? (a1.add 10) = some (.slice x2_p x2_n x2_c) ∧ 
  Calls Try.prog 74 #[.pointer p_, .int .i64 i_] w fun e w3 => e = .returned (.tuple #[]) ∧ 
  ∃ a4 : Addr, p_ = some a4 ∧ ∃ w5 : World, StoreAt (a4.add 10) 0 [.slice x2_p x2_n x2_c] w3 w5 ∧ 
  K (.tuple #[]) w5
theorem prop_Prop_again.eq (p_ : Option Addr) (i_ : Int) (w : World) (K : Value → World → Prop) : wpF Try.prog Try.f94 .leaf [.pointer p_, .int .i64 i_] w K = prop_Prop_again.w p_ i_ w K := by kernel_rfl
theorem prop_Prop_again.ok : fnOk Try.prog Try.f94 2 = true := by kernel_rfl
theorem prop_Prop_again.calls {p_ : Option Addr} {i_ : Int} {w : World} {R : Ending → World → Prop} (h : prop_Prop_again.w p_ i_ w fun v w' => R (.returned v) w') : Calls Try.prog 94 #[.pointer p_, .int .i64 i_] w R :=
  calls_of mixed Try.func94 prop_Prop_again.ok rfl (fun K => prop_Prop_again.eq p_ i_ w K) h

/-! ### fathom/lit.CheckCnf$1: function 95 (named slots 4) -/
def lit_CheckCnf_1.w (l_ : Int) (c0_ : Addr) (w : World) (K : Value → World → Prop) : Prop :=
  (Calls Try.prog 96 #[.int .i64 l_] w.drew fun e w1 => ∃ r2 : Int, e = .returned (.int .i64 r2) ∧ 
  ∃ x3 : Int, w1.cell? (c0_.add 0) = some (.int .i64 x3) ∧ 
  K (.bool (decide (r2 > x3))) w1) ∧
(∃ x4 : Int, w.drew.cell? (c0_.add 0) = some (.int .i64 x4) ∧ 
  Calls Try.prog 96 #[.int .i64 l_] w.drew fun e w5 => ∃ r6 : Int, e = .returned (.int .i64 r6) ∧ 
  K (.bool (decide (r6 > x4))) w5)
theorem lit_CheckCnf_1.eq (l_ : Int) (c0_ : Addr) (w : World) (K : Value → World → Prop) : wpF Try.prog Try.f95 .leaf [.int .i64 l_, .pointer (some c0_)] w K = lit_CheckCnf_1.w l_ c0_ w K := by kernel_rfl
theorem lit_CheckCnf_1.ok : fnOk Try.prog Try.f95 2 = true := by kernel_rfl
theorem lit_CheckCnf_1.calls {l_ : Int} {c0_ : Addr} {w : World} {R : Ending → World → Prop} (h : lit_CheckCnf_1.w l_ c0_ w fun v w' => R (.returned v) w') : Calls Try.prog 95 #[.int .i64 l_, .pointer (some c0_)] w R :=
  calls_of mixed Try.func95 lit_CheckCnf_1.ok rfl (fun K => lit_CheckCnf_1.eq l_ c0_ w K) h

/-! ### fathom/lit.amount: function 96 (named slots 3) -/
def lit_amount.w (l_ : Int) (w : World) (K : Value → World → Prop) : Prop :=
  K (.int .i64 (imax l_ (IntKind.i64.wrap (0 - l_)))) w
theorem lit_amount.eq (l_ : Int) (w : World) (K : Value → World → Prop) : wpF Try.prog Try.f96 .leaf [.int .i64 l_] w K = lit_amount.w l_ w K := by kernel_rfl
theorem lit_amount.ok : fnOk Try.prog Try.f96 1 = true := by kernel_rfl
theorem lit_amount.calls {l_ : Int} {w : World} {R : Ending → World → Prop} (h : lit_amount.w l_ w fun v w' => R (.returned v) w') : Calls Try.prog 96 #[.int .i64 l_] w R :=
  calls_of mixed Try.func96 lit_amount.ok rfl (fun K => lit_amount.eq l_ w K) h

/-! ### fathom/lit.Check$1: function 97 (named slots 3) -/
def lit_Check_1.w (l_ : Int) (w : World) (K : Value → World → Prop) : Prop :=
  Calls Try.prog 98 #[.int .i64 l_] w fun e w1 => ∃ r2 : Bool, e = .returned (.bool r2) ∧ 
  K (.bool (!r2)) w1
theorem lit_Check_1.eq (l_ : Int) (w : World) (K : Value → World → Prop) : wpF Try.prog Try.f97 .leaf [.int .i64 l_] w K = lit_Check_1.w l_ w K := by kernel_rfl
theorem lit_Check_1.ok : fnOk Try.prog Try.f97 1 = true := by kernel_rfl
theorem lit_Check_1.calls {l_ : Int} {w : World} {R : Ending → World → Prop} (h : lit_Check_1.w l_ w fun v w' => R (.returned v) w') : Calls Try.prog 97 #[.int .i64 l_] w R :=
  calls_of mixed Try.func97 lit_Check_1.ok rfl (fun K => lit_Check_1.eq l_ w K) h

/-! ### fathom/lit.is: function 98 (named slots 3) -/
def lit_is.w (l_ : Int) (w : World) (K : Value → World → Prop) : Prop :=
  cnd (l_ != (0 : Int))
  (cnd (decide (l_ ≥ (-1048576)))
  (K (.bool (decide (l_ ≤ (1048576 : Int)))) w)
  (K (.bool false) w))
  (K (.bool false) w)
theorem lit_is.eq (l_ : Int) (w : World) (K : Value → World → Prop) : wpF Try.prog Try.f98 .leaf [.int .i64 l_] w K = lit_is.w l_ w K := by kernel_rfl
theorem lit_is.ok : fnOk Try.prog Try.f98 1 = true := by kernel_rfl
theorem lit_is.calls {l_ : Int} {w : World} {R : Ending → World → Prop} (h : lit_is.w l_ w fun v w' => R (.returned v) w') : Calls Try.prog 98 #[.int .i64 l_] w R :=
  calls_of mixed Try.func98 lit_is.ok rfl (fun K => lit_is.eq l_ w K) h

/-! ### slices.IndexFunc[[]int,int]: function 99 (named slots 5) -/
def slices_IndexFunc_int_int.w (s__p : Option Addr) (s__n : Nat) (s__c : Nat) (f_f : FuncId) (f_v : Array Value) (w : World) (K : Value → World → Prop) : Prop :=
  ∃ I1 : Int → World → Nat → Prop, (∃ k2, I1 0 w k2) ∧
  ∀ (v4 : Int) (w5 : World) (k2 : Nat) (_ : Fr), I1 v4 w5 k2 →
  cnd (decide (v4 < (s__n : Int)))
    (ixK s__p s__n v4 1 fun a6 =>
      ∃ x7 : Int, w5.cell? a6 = some (.int .i64 x7) ∧ 
      cnd (entB Try.prog f_f) (Calls Try.prog f_f (#[] ++ #[.int .i64 x7] ++ f_v) w5 fun e w8 => ∃ r9 : Bool, e = .returned (.bool r9) ∧ 
      cnd r9
      (K (.int .i64 v4) w8)
      (∃ k3, k3 < k2 ∧ I1 (IntKind.i64.wrap (v4 + (1 : Int))) w8 k3)) False)
    (K (.int .i64 (-1)) w5)
theorem slices_IndexFunc_int_int.eq (s__p : Option Addr) (s__n : Nat) (s__c : Nat) (f_f : FuncId) (f_v : Array Value) (w : World) (K : Value → World → Prop) : wpF Try.prog Try.f99 (.two .leaf (.two (.two .leaf (.one (.loop [(8, 3)] .leaf))) .leaf)) [.slice s__p s__n s__c, .func (.func f_f) #[] f_v] w K = slices_IndexFunc_int_int.w s__p s__n s__c f_f f_v w K := by kernel_rfl
theorem slices_IndexFunc_int_int.ok : fnOk Try.prog Try.f99 2 = true := by kernel_rfl
theorem slices_IndexFunc_int_int.calls {s__p : Option Addr} {s__n : Nat} {s__c : Nat} {f_f : FuncId} {f_v : Array Value} {w : World} {R : Ending → World → Prop} (h : slices_IndexFunc_int_int.w s__p s__n s__c f_f f_v w fun v w' => R (.returned v) w') : Calls Try.prog 99 #[.slice s__p s__n s__c, .func (.func f_f) #[] f_v] w R :=
  calls_of mixed Try.func99 slices_IndexFunc_int_int.ok rfl (fun K => slices_IndexFunc_int_int.eq s__p s__n s__c f_f f_v w K) h

/-! ### slices.SortFunc[[]int,int]: function 100 (named slots 5) -/
def slices_SortFunc_int_int.w (x0__p : Option Addr) (x0__n : Nat) (x0__c : Nat) (cmp_f : FuncId) (cmp_v : Array Value) (w : World) (K : Value → World → Prop) : Prop :=
  Calls Try.prog 116 #[.int .u64 (IntKind.u64.wrap (x0__n : Int))] w fun e w1 => ∃ r2 : Int, e = .returned (.int .i64 r2) ∧ 
  Calls Try.prog 115 #[.slice x0__p x0__n x0__c, .int .i64 0, .int .i64 (x0__n : Int), .int .i64 r2, .func (.func cmp_f) #[] cmp_v] w1 fun e w3 => e = .returned (.tuple #[]) ∧ 
  K (.tuple #[]) w3
theorem slices_SortFunc_int_int.eq (x0__p : Option Addr) (x0__n : Nat) (x0__c : Nat) (cmp_f : FuncId) (cmp_v : Array Value) (w : World) (K : Value → World → Prop) : wpF Try.prog Try.f100 .leaf [.slice x0__p x0__n x0__c, .func (.func cmp_f) #[] cmp_v] w K = slices_SortFunc_int_int.w x0__p x0__n x0__c cmp_f cmp_v w K := by kernel_rfl
theorem slices_SortFunc_int_int.ok : fnOk Try.prog Try.f100 2 = true := by kernel_rfl
theorem slices_SortFunc_int_int.calls {x0__p : Option Addr} {x0__n : Nat} {x0__c : Nat} {cmp_f : FuncId} {cmp_v : Array Value} {w : World} {R : Ending → World → Prop} (h : slices_SortFunc_int_int.w x0__p x0__n x0__c cmp_f cmp_v w fun v w' => R (.returned v) w') : Calls Try.prog 100 #[.slice x0__p x0__n x0__c, .func (.func cmp_f) #[] cmp_v] w R :=
  calls_of mixed Try.func100 slices_SortFunc_int_int.ok rfl (fun K => slices_SortFunc_int_int.eq x0__p x0__n x0__c cmp_f cmp_v w K) h

/-! ### fathom/lit.before: function 101 (named slots 5) -/
def lit_before.w (a_ : Int) (b_ : Int) (w : World) (K : Value → World → Prop) : Prop :=
  Calls Try.prog 96 #[.int .i64 a_] w fun e w1 => ∃ r2 : Int, e = .returned (.int .i64 r2) ∧ 
  Calls Try.prog 96 #[.int .i64 b_] w1 fun e w3 => ∃ r4 : Int, e = .returned (.int .i64 r4) ∧ 
  cnd (r2 != r4)
  (Calls Try.prog 96 #[.int .i64 a_] w3 fun e w5 => ∃ r6 : Int, e = .returned (.int .i64 r6) ∧ 
    Calls Try.prog 96 #[.int .i64 b_] w5 fun e w7 => ∃ r8 : Int, e = .returned (.int .i64 r8) ∧ 
    K (.int .i64 (IntKind.i64.wrap (r6 - r8))) w7)
  (K (.int .i64 (IntKind.i64.wrap (b_ - a_))) w3)
theorem lit_before.eq (a_ : Int) (b_ : Int) (w : World) (K : Value → World → Prop) : wpF Try.prog Try.f101 .leaf [.int .i64 a_, .int .i64 b_] w K = lit_before.w a_ b_ w K := by kernel_rfl
theorem lit_before.ok : fnOk Try.prog Try.f101 2 = true := by kernel_rfl
theorem lit_before.calls {a_ : Int} {b_ : Int} {w : World} {R : Ending → World → Prop} (h : lit_before.w a_ b_ w fun v w' => R (.returned v) w') : Calls Try.prog 101 #[.int .i64 a_, .int .i64 b_] w R :=
  calls_of mixed Try.func101 lit_before.ok rfl (fun K => lit_before.eq a_ b_ w K) h

/-! ### slices.Compact[[]int,int]: function 102 (named slots 4) -/
def slices_Compact_int_int.w (s__p : Option Addr) (s__n : Nat) (s__c : Nat) (w : World) (K : Value → World → Prop) : Prop :=
  cnd (decide ((s__n : Int) < (2 : Int)))
  (K (.slice s__p s__n s__c) w)
  (∃ I1 : Int → World → Nat → Prop, (∃ k2, I1 1 w k2) ∧
    ∀ (k_4 : Int) (w5 : World) (k2 : Nat) (_ : Fr), I1 k_4 w5 k2 →
    cnd (decide (k_4 < (s__n : Int)))
      (ixK s__p s__n k_4 1 fun a6 =>
        ∃ x7 : Int, w5.drew.cell? a6 = some (.int .i64 x7) ∧ 
        ixK s__p s__n (IntKind.i64.wrap (k_4 - (1 : Int))) 1 fun a8 =>
        ∃ x9 : Int, w5.drew.cell? a8 = some (.int .i64 x9) ∧ 
        cnd (x7 == x9)
        (slK s__p s__n s__c 1 (some k_4) none none fun s10_p s10_n s10_c =>
          ∃ I11 : Int → Int → World → Nat → Prop, (∃ k12, I11 k_4 1 w5.drew k12) ∧
          ∀ (k_14 : Int) (k2_15 : Int) (w16 : World) (k12 : Nat) (_ : Fr), I11 k_14 k2_15 w16 k12 →
          cnd (decide (k2_15 < (s10_n : Int)))
            (ixK s10_p s10_n k2_15 1 fun a17 =>
              ∃ x18 : Int, w16.drew.cell? a17 = some (.int .i64 x18) ∧ 
              ixK s10_p s10_n (IntKind.i64.wrap (k2_15 - (1 : Int))) 1 fun a19 =>
              ∃ x20 : Int, w16.drew.cell? a19 = some (.int .i64 x20) ∧ 
              cnd (x18 != x20)
              (ixK s10_p s10_n k2_15 1 fun a21 =>
                ∃ x22 : Int, w16.drew.cell? a21 = some (.int .i64 x22) ∧ 
                ixK s__p s__n k_14 1 fun a23 =>
                ∃ w24 : World, StoreAt a23 0 [.int .i64 x22] w16.drew w24 ∧ 
                ∃ k13, k13 < k12 ∧ I11 (IntKind.i64.wrap (k_14 + (1 : Int))) (IntKind.i64.wrap (k2_15 + (1 : Int))) w24 k13)
              (∃ k13, k13 < k12 ∧ I11 k_14 (IntKind.i64.wrap (k2_15 + (1 : Int))) w16.drew k13))
            (slK s__p s__n s__c 1 (some k_14) none none fun s25_p s25_n s25_c =>
              ∃ w26 : World, (Builtin.clear_ #[31] 0 #[.slice s25_p s25_n s25_c]).run Try.prog w16 = .ok (.tuple #[]) w26 ∧ 
              slK s__p s__n s__c 1 none (some k_14) none fun s27_p s27_n s27_c =>
              K (.slice s27_p s27_n s27_c) w26))
        (∃ k3, k3 < k2 ∧ I1 (IntKind.i64.wrap (k_4 + (1 : Int))) w5.drew k3))
      (K (.slice s__p s__n s__c) w5))
theorem slices_Compact_int_int.eq (s__p : Option Addr) (s__n : Nat) (s__c : Nat) (w : World) (K : Value → World → Prop) : wpF Try.prog Try.f102 (.two .leaf (.two .leaf (.two (.two .leaf (.one (.loop [(3, 3)] (.two .leaf (.two (.one (.two .leaf (.two (.two .leaf (.two (.two .leaf (.one (.loop [(3, 3), (5, 3)] .leaf))) .leaf)) .leaf))) .leaf))))) .leaf))) [.slice s__p s__n s__c] w K = slices_Compact_int_int.w s__p s__n s__c w K := by kernel_rfl
theorem slices_Compact_int_int.ok : fnOk Try.prog Try.f102 1 = true := by kernel_rfl
theorem slices_Compact_int_int.calls {s__p : Option Addr} {s__n : Nat} {s__c : Nat} {w : World} {R : Ending → World → Prop} (h : slices_Compact_int_int.w s__p s__n s__c w fun v w' => R (.returned v) w') : Calls Try.prog 102 #[.slice s__p s__n s__c] w R :=
  calls_of mixed Try.func102 slices_Compact_int_int.ok rfl (fun K => slices_Compact_int_int.eq s__p s__n s__c w K) h

/-! ### (*fathom/prop.Prop).rank: function 103 (named slots 5) -/
def prop_Prop_rank.w (p_ : Option Addr) (l_ : Int) (w : World) (K : Value → World → Prop) : Prop :=
  Calls Try.prog 76 #[.pointer p_, .int .i64 l_] w fun e w1 => ∃ r2 : Int, e = .returned (.int .i8 r2) ∧ 
  cnd (decide (r2 ≥ (0 : Int)))
  (K (.int .i64 1048577) w1)
  (∃ W3 : World → Prop, W3 w1.drew ∧ 
    ∃ a4 : Addr, p_ = some a4 ∧ ∃ x5_p : Option Addr, ∃ x5_n : Nat, ∃ x5_c : Nat, AtW W3 (a4.add 4) (.slice x5_p x5_n x5_c) ∧ 
    Calls Try.prog 68 #[.int .i64 l_] w1.drew fun e w6 => ∃ r7 : Int, e = .returned (.int .i64 r7) ∧ 
    W3 w6 ∧ ixK x5_p x5_n r7 1 fun a8 =>
    ∃ x9 : Int, AtW W3 a8 (.int .i64 x9) ∧ 
    K (.int .i64 x9) w6)
theorem prop_Prop_rank.eq (p_ : Option Addr) (l_ : Int) (w : World) (K : Value → World → Prop) : wpF Try.prog Try.f103 (.two .leaf (.two .leaf (.two .draw .leaf))) [.pointer p_, .int .i64 l_] w K = prop_Prop_rank.w p_ l_ w K := by kernel_rfl
theorem prop_Prop_rank.ok : fnOk Try.prog Try.f103 2 = true := by kernel_rfl
theorem prop_Prop_rank.calls {p_ : Option Addr} {l_ : Int} {w : World} {R : Ending → World → Prop} (h : prop_Prop_rank.w p_ l_ w fun v w' => R (.returned v) w') : Calls Try.prog 103 #[.pointer p_, .int .i64 l_] w R :=
  calls_of mixed Try.func103 prop_Prop_rank.ok rfl (fun K => prop_Prop_rank.eq p_ l_ w K) h

/-! ### (*fathom/prop.Prop).unwatch$1: function 104 (named slots 4) -/
def prop_Prop_unwatch_1.w (k_ : Int) (c0_ : Addr) (w : World) (K : Value → World → Prop) : Prop :=
  ∃ x1 : Int, w.cell? c0_ = some (.int .i64 x1) ∧ 
  K (.bool (k_ == x1)) w
theorem prop_Prop_unwatch_1.eq (k_ : Int) (c0_ : Addr) (w : World) (K : Value → World → Prop) : wpF Try.prog Try.f104 .leaf [.int .i64 k_, .pointer (some c0_)] w K = prop_Prop_unwatch_1.w k_ c0_ w K := by kernel_rfl
theorem prop_Prop_unwatch_1.ok : fnOk Try.prog Try.f104 2 = true := by kernel_rfl
theorem prop_Prop_unwatch_1.calls {k_ : Int} {c0_ : Addr} {w : World} {R : Ending → World → Prop} (h : prop_Prop_unwatch_1.w k_ c0_ w fun v w' => R (.returned v) w') : Calls Try.prog 104 #[.int .i64 k_, .pointer (some c0_)] w R :=
  calls_of mixed Try.func104 prop_Prop_unwatch_1.ok rfl (fun K => prop_Prop_unwatch_1.eq k_ c0_ w K) h

/-! ### slices.ContainsFunc[[]fathom/api.Step,fathom/api.Step]: function 105 (named slots 75) -/
def slices_ContainsFunc_fathom_api_Step_fathom_api_Step.w (s__p : Option Addr) (s__n : Nat) (s__c : Nat) (f_f : FuncId) (f_v : Array Value) (w : World) (K : Value → World → Prop) : Prop :=
  Calls Try.prog 117 #[.slice s__p s__n s__c, .func (.func f_f) #[] f_v] w fun e w1 => ∃ r2 : Int, e = .returned (.int .i64 r2) ∧ 
  K (.bool (decide (r2 ≥ (0 : Int)))) w1
theorem slices_ContainsFunc_fathom_api_Step_fathom_api_Step.eq (s__p : Option Addr) (s__n : Nat) (s__c : Nat) (f_f : FuncId) (f_v : Array Value) (w : World) (K : Value → World → Prop) : wpF Try.prog Try.f105 .leaf [.slice s__p s__n s__c, .func (.func f_f) #[] f_v] w K = slices_ContainsFunc_fathom_api_Step_fathom_api_Step.w s__p s__n s__c f_f f_v w K := by kernel_rfl
theorem slices_ContainsFunc_fathom_api_Step_fathom_api_Step.ok : fnOk Try.prog Try.f105 2 = true := by kernel_rfl
theorem slices_ContainsFunc_fathom_api_Step_fathom_api_Step.calls {s__p : Option Addr} {s__n : Nat} {s__c : Nat} {f_f : FuncId} {f_v : Array Value} {w : World} {R : Ending → World → Prop} (h : slices_ContainsFunc_fathom_api_Step_fathom_api_Step.w s__p s__n s__c f_f f_v w fun v w' => R (.returned v) w') : Calls Try.prog 105 #[.slice s__p s__n s__c, .func (.func f_f) #[] f_v] w R :=
  calls_of mixed Try.func105 slices_ContainsFunc_fathom_api_Step_fathom_api_Step.ok rfl (fun K => slices_ContainsFunc_fathom_api_Step_fathom_api_Step.eq s__p s__n s__c f_f f_v w K) h

/-! ### fathom/trace.Check$1: function 106 (named slots 3) -/
def trace_Check_1.w (s_0 : Bool) (s_1_p : Option Addr) (s_1_n : Nat) (s_1_c : Nat) (w : World) (K : Value → World → Prop) : Prop :=
  ∀ (n1 : Nat) (w2 : World), New (.cells #[.bool s_0, .slice s_1_p s_1_n s_1_c] 73) w n1 w2 → 
  ∃ x3_p : Option Addr, ∃ x3_n : Nat, ∃ x3_c : Nat, w2.cell? ((Addr.mk n1 0 none).add 1) = some (.slice x3_p x3_n x3_c) ∧ 
  Calls Try.prog 69 #[.slice x3_p x3_n x3_c] w2 fun e w4 => ∃ r5 : Int, e = .returned (.int .i64 r5) ∧ 
  K (.bool (r5 != (0 : Int))) w4
theorem trace_Check_1.eq (s_0 : Bool) (s_1_p : Option Addr) (s_1_n : Nat) (s_1_c : Nat) (w : World) (K : Value → World → Prop) : wpF Try.prog Try.f106 .leaf [.agg #[.bool s_0, .slice s_1_p s_1_n s_1_c]] w K = trace_Check_1.w s_0 s_1_p s_1_n s_1_c w K := by kernel_rfl
theorem trace_Check_1.ok : fnOk Try.prog Try.f106 1 = true := by kernel_rfl
theorem trace_Check_1.calls {s_0 : Bool} {s_1_p : Option Addr} {s_1_n : Nat} {s_1_c : Nat} {w : World} {R : Ending → World → Prop} (h : trace_Check_1.w s_0 s_1_p s_1_n s_1_c w fun v w' => R (.returned v) w') : Calls Try.prog 106 #[.agg #[.bool s_0, .slice s_1_p s_1_n s_1_c]] w R :=
  calls_of mixed Try.func106 trace_Check_1.ok rfl (fun K => trace_Check_1.eq s_0 s_1_p s_1_n s_1_c w K) h


end Go.Proofs.Ytdaiolinnpligaa.W
