/- The functions that the statements reach, printed as what the frame asks of them, each checked by the kernel against the loaded text. -/
import Derived.Test.YtlpmapeojecenaaGenLearn0
namespace Go.Proofs.Ytlpmapeojecenaa.W
open Go Go.Fw Go.Proofs
set_option linter.unusedVariables false
/-! ### (*fathom/learn.study).idle: function 94 (named slots 13) -/
def learn_study_idle.w (s_ : Option Addr) (l_ : Int) (known_ : Option Nat) (w : World) (K : Value → World → Prop) : Prop :=
  Calls Try.prog 97 #[.int .i64 l_] w fun e w1 => ∃ r2 : Int, e = .returned (.int .i64 r2) ∧ 
  ∃ w3 : World, ∃ r4 : Bool, ∃ r5 : Bool, (Instr.lookup 84 (.map known_) (.int .i64 r2) true).run Try.prog w1 = .ok (.tuple #[.bool r4, .bool r5]) w3 ∧ 
  cnd r5
  (K (.bool r4) w3)
  (∃ a6 : Addr, s_ = some a6 ∧ ∃ a7 : Addr, s_ = some a7 ∧ (∃ x8_p : Option Addr, ∃ x8_n : Nat, ∃ x8_c : Nat, w3.drew.cell? (a6.add 0) = some (.slice x8_p x8_n x8_c) ∧ 
    (∃ x9 : Option Nat, w3.drew.cell? (a7.add 1) = some (.map x9) ∧ 
    (Calls Try.prog 97 #[.int .i64 l_] w3.drew fun e w10 => ∃ r11 : Int, e = .returned (.int .i64 r11) ∧ 
    (∃ w12 : World, ∃ r13 : Int, (Instr.lookup 82 (.map x9) (.int .i64 r11) false).run Try.prog w10 = .ok (.int .i64 r13) w12 ∧ 
    ixK x8_p x8_n (IntKind.i64.wrap (r13 - (1 : Int))) 3 fun a14 =>
    (∃ x15 : Int, ∃ x16 : Int, ∃ x17_p : Option Addr, ∃ x17_n : Nat, ∃ x17_c : Nat, CellsAt w12 a14 0 [.int .i64 x15, .int .i64 x16, .slice x17_p x17_n x17_c] ∧ 
    ∀ (n18 : Nat) (w19 : World), New (.cells #[.int .i64 0, .int .i64 0, .slice none 0 0] 73) w12 n18 w19 → 
    ∃ w20 : World, StoreAt (Addr.mk n18 0 none) 0 [.int .i64 x15, .int .i64 x16, .slice x17_p x17_n x17_c] w19 w20 ∧ 
    ∃ x21_p : Option Addr, ∃ x21_n : Nat, ∃ x21_c : Nat, w20.cell? ((Addr.mk n18 0 none).add 2) = some (.slice x21_p x21_n x21_c) ∧ 
    ∃ x22_p : Option Addr, ∃ x22_n : Nat, ∃ x22_c : Nat, w20.cell? ((Addr.mk n18 0 none).add 2) = some (.slice x22_p x22_n x22_c) ∧ 
    ∃ I23 : Bool → Int → World → Nat → Prop, (∃ k24, I23 (decide ((x21_n : Int) > (0 : Int))) 0 w20 k24) ∧
    ∀ (is_26 : Bool) (v27 : Int) (w28 : World) (k24 : Nat) (_ : Fr), I23 is_26 v27 w28 k24 →
    cnd (decide (v27 < (x22_n : Int)))
      (ixK x22_p x22_n v27 1 fun a29 =>
        ∃ x30 : Int, w28.cell? a29 = some (.int .i64 x30) ∧ 
        cnd is_26
        (∃ x31 : Int, w28.cell? ((Addr.mk n18 0 none).add 0) = some (.int .i64 x31) ∧ 
        cnd (x30 != x31)
        (Calls Try.prog 93 #[.pointer s_, .int .i64 x30] w28 fun e w32 => ∃ r33 : Int, e = .returned (.int .i64 r33) ∧ 
          cnd (r33 == (0 : Int))
          (∃ k25, k25 < k24 ∧ I23 true (IntKind.i64.wrap (v27 + (1 : Int))) w32 k25)
          (∃ a34 : Addr, s_ = some a34 ∧ ∃ x35 : Option Nat, w32.cell? (a34.add 2) = some (.map x35) ∧ 
          ∃ w36 : World, ∃ r37 : Bool, (Instr.lookup 84 (.map x35) (.int .i64 x30) false).run Try.prog w32 = .ok (.bool r37) w36 ∧ 
          cnd r37
          (∃ k25, k25 < k24 ∧ I23 true (IntKind.i64.wrap (v27 + (1 : Int))) w36 k25)
          (Calls Try.prog 94 #[.pointer s_, .int .i64 x30, .map known_] w36 fun e w38 => ∃ r39 : Bool, e = .returned (.bool r39) ∧ 
          ∃ k25, k25 < k24 ∧ I23 r39 (IntKind.i64.wrap (v27 + (1 : Int))) w38 k25)))
        (∃ k25, k25 < k24 ∧ I23 is_26 (IntKind.i64.wrap (v27 + (1 : Int))) w28 k25))
        (∃ k25, k25 < k24 ∧ I23 is_26 (IntKind.i64.wrap (v27 + (1 : Int))) w28 k25))
      (Calls Try.prog 97 #[.int .i64 l_] w28 fun e w40 => ∃ r41 : Int, e = .returned (.int .i64 r41) ∧ 
        ∃ w42 : World, (Instr.mapUpdate 84 (.map known_) (.int .i64 r41) (.bool is_26)).run Try.prog w40 = .ok () w42 ∧ 
        K (.bool is_26) w42)) ∧
  (∀ (n43 : Nat) (w44 : World), New (.cells #[.int .i64 0, .int .i64 0, .slice none 0 0] 73) w12 n43 w44 → 
    ∃ x45 : Int, ∃ x46 : Int, ∃ x47_p : Option Addr, ∃ x47_n : Nat, ∃ x47_c : Nat, CellsAt w44 a14 0 [.int .i64 x45, .int .i64 x46, .slice x47_p x47_n x47_c] ∧ 
    ∃ w48 : World, StoreAt (Addr.mk n43 0 none) 0 [.int .i64 x45, .int .i64 x46, .slice x47_p x47_n x47_c] w44 w48 ∧ 
    ∃ x49_p : Option Addr, ∃ x49_n : Nat, ∃ x49_c : Nat, w48.cell? ((Addr.mk n43 0 none).add 2) = some (.slice x49_p x49_n x49_c) ∧ 
    ∃ x50_p : Option Addr, ∃ x50_n : Nat, ∃ x50_c : Nat, w48.cell? ((Addr.mk n43 0 none).add 2) = some (.slice x50_p x50_n x50_c) ∧ 
    ∃ I51 : Bool → Int → World → Nat → Prop, (∃ k52, I51 (decide ((x49_n : Int) > (0 : Int))) 0 w48 k52) ∧
    ∀ (is_54 : Bool) (v55 : Int) (w56 : World) (k52 : Nat) (_ : Fr), I51 is_54 v55 w56 k52 →
    cnd (decide (v55 < (x50_n : Int)))
      (ixK x50_p x50_n v55 1 fun a57 =>
        ∃ x58 : Int, w56.cell? a57 = some (.int .i64 x58) ∧ 
        cnd is_54
        (∃ x59 : Int, w56.cell? ((Addr.mk n43 0 none).add 0) = some (.int .i64 x59) ∧ 
        cnd (x58 != x59)
        (Calls Try.prog 93 #[.pointer s_, .int .i64 x58] w56 fun e w60 => ∃ r61 : Int, e = .returned (.int .i64 r61) ∧ 
          cnd (r61 == (0 : Int))
          (∃ k53, k53 < k52 ∧ I51 true (IntKind.i64.wrap (v55 + (1 : Int))) w60 k53)
          (∃ a62 : Addr, s_ = some a62 ∧ ∃ x63 : Option Nat, w60.cell? (a62.add 2) = some (.map x63) ∧ 
          ∃ w64 : World, ∃ r65 : Bool, (Instr.lookup 84 (.map x63) (.int .i64 x58) false).run Try.prog w60 = .ok (.bool r65) w64 ∧ 
          cnd r65
          (∃ k53, k53 < k52 ∧ I51 true (IntKind.i64.wrap (v55 + (1 : Int))) w64 k53)
          (Calls Try.prog 94 #[.pointer s_, .int .i64 x58, .map known_] w64 fun e w66 => ∃ r67 : Bool, e = .returned (.bool r67) ∧ 
          ∃ k53, k53 < k52 ∧ I51 r67 (IntKind.i64.wrap (v55 + (1 : Int))) w66 k53)))
        (∃ k53, k53 < k52 ∧ I51 is_54 (IntKind.i64.wrap (v55 + (1 : Int))) w56 k53))
        (∃ k53, k53 < k52 ∧ I51 is_54 (IntKind.i64.wrap (v55 + (1 : Int))) w56 k53))
      (Calls Try.prog 97 #[.int .i64 l_] w56 fun e w68 => ∃ r69 : Int, e = .returned (.int .i64 r69) ∧ 
        ∃ w70 : World, (Instr.mapUpdate 84 (.map known_) (.int .i64 r69) (.bool is_54)).run Try.prog w68 = .ok () w70 ∧ 
        K (.bool is_54) w70))) ∧
  (∀ (n71 : Nat) (w72 : World), New (.cells #[.int .i64 0, .int .i64 0, .slice none 0 0] 73) w10 n71 w72 → 
    ∃ w73 : World, ∃ r74 : Int, (Instr.lookup 82 (.map x9) (.int .i64 r11) false).run Try.prog w72 = .ok (.int .i64 r74) w73 ∧ 
    ixK x8_p x8_n (IntKind.i64.wrap (r74 - (1 : Int))) 3 fun a75 =>
    ∃ x76 : Int, ∃ x77 : Int, ∃ x78_p : Option Addr, ∃ x78_n : Nat, ∃ x78_c : Nat, CellsAt w73 a75 0 [.int .i64 x76, .int .i64 x77, .slice x78_p x78_n x78_c] ∧ 
    ∃ w79 : World, StoreAt (Addr.mk n71 0 none) 0 [.int .i64 x76, .int .i64 x77, .slice x78_p x78_n x78_c] w73 w79 ∧ 
    ∃ x80_p : Option Addr, ∃ x80_n : Nat, ∃ x80_c : Nat, w79.cell? ((Addr.mk n71 0 none).add 2) = some (.slice x80_p x80_n x80_c) ∧ 
    ∃ x81_p : Option Addr, ∃ x81_n : Nat, ∃ x81_c : Nat, w79.cell? ((Addr.mk n71 0 none).add 2) = some (.slice x81_p x81_n x81_c) ∧ 
    ∃ I82 : Bool → Int → World → Nat → Prop, (∃ k83, I82 (decide ((x80_n : Int) > (0 : Int))) 0 w79 k83) ∧
    ∀ (is_85 : Bool) (v86 : Int) (w87 : World) (k83 : Nat) (_ : Fr), I82 is_85 v86 w87 k83 →
    cnd (decide (v86 < (x81_n : Int)))
      (ixK x81_p x81_n v86 1 fun a88 =>
        ∃ x89 : Int, w87.cell? a88 = some (.int .i64 x89) ∧ 
        cnd is_85
        (∃ x90 : Int, w87.cell? ((Addr.mk n71 0 none).add 0) = some (.int .i64 x90) ∧ 
        cnd (x89 != x90)
        (Calls Try.prog 93 #[.pointer s_, .int .i64 x89] w87 fun e w91 => ∃ r92 : Int, e = .returned (.int .i64 r92) ∧ 
          cnd (r92 == (0 : Int))
          (∃ k84, k84 < k83 ∧ I82 true (IntKind.i64.wrap (v86 + (1 : Int))) w91 k84)
          (∃ a93 : Addr, s_ = some a93 ∧ ∃ x94 : Option Nat, w91.cell? (a93.add 2) = some (.map x94) ∧ 
          ∃ w95 : World, ∃ r96 : Bool, (Instr.lookup 84 (.map x94) (.int .i64 x89) false).run Try.prog w91 = .ok (.bool r96) w95 ∧ 
          cnd r96
          (∃ k84, k84 < k83 ∧ I82 true (IntKind.i64.wrap (v86 + (1 : Int))) w95 k84)
          (Calls Try.prog 94 #[.pointer s_, .int .i64 x89, .map known_] w95 fun e w97 => ∃ r98 : Bool, e = .returned (.bool r98) ∧ 
          ∃ k84, k84 < k83 ∧ I82 r98 (IntKind.i64.wrap (v86 + (1 : Int))) w97 k84)))
        (∃ k84, k84 < k83 ∧ I82 is_85 (IntKind.i64.wrap (v86 + (1 : Int))) w87 k84))
        (∃ k84, k84 < k83 ∧ I82 is_85 (IntKind.i64.wrap (v86 + (1 : Int))) w87 k84))
      (Calls Try.prog 97 #[.int .i64 l_] w87 fun e w99 => ∃ r100 : Int, e = .returned (.int .i64 r100) ∧ 
        ∃ w101 : World, (Instr.mapUpdate 84 (.map known_) (.int .i64 r100) (.bool is_85)).run Try.prog w99 = .ok () w101 ∧ 
        K (.bool is_85) w101))) ∧
  (∀ (n102 : Nat) (w103 : World), New (.cells #[.int .i64 0, .int .i64 0, .slice none 0 0] 73) w3.drew n102 w103 → 
    Calls Try.prog 97 #[.int .i64 l_] w103 fun e w104 => ∃ r105 : Int, e = .returned (.int .i64 r105) ∧ 
    ∃ w106 : World, ∃ r107 : Int, (Instr.lookup 82 (.map x9) (.int .i64 r105) false).run Try.prog w104 = .ok (.int .i64 r107) w106 ∧ 
    ixK x8_p x8_n (IntKind.i64.wrap (r107 - (1 : Int))) 3 fun a108 =>
    ∃ x109 : Int, ∃ x110 : Int, ∃ x111_p : Option Addr, ∃ x111_n : Nat, ∃ x111_c : Nat, CellsAt w106 a108 0 [.int .i64 x109, .int .i64 x110, .slice x111_p x111_n x111_c] ∧ 
    ∃ w112 : World, StoreAt (Addr.mk n102 0 none) 0 [.int .i64 x109, .int .i64 x110, .slice x111_p x111_n x111_c] w106 w112 ∧ 
    ∃ x113_p : Option Addr, ∃ x113_n : Nat, ∃ x113_c : Nat, w112.cell? ((Addr.mk n102 0 none).add 2) = some (.slice x113_p x113_n x113_c) ∧ 
    ∃ x114_p : Option Addr, ∃ x114_n : Nat, ∃ x114_c : Nat, w112.cell? ((Addr.mk n102 0 none).add 2) = some (.slice x114_p x114_n x114_c) ∧ 
    ∃ I115 : Bool → Int → World → Nat → Prop, (∃ k116, I115 (decide ((x113_n : Int) > (0 : Int))) 0 w112 k116) ∧
    ∀ (is_118 : Bool) (v119 : Int) (w120 : World) (k116 : Nat) (_ : Fr), I115 is_118 v119 w120 k116 →
    cnd (decide (v119 < (x114_n : Int)))
      (ixK x114_p x114_n v119 1 fun a121 =>
        ∃ x122 : Int, w120.cell? a121 = some (.int .i64 x122) ∧ 
        cnd is_118
        (∃ x123 : Int, w120.cell? ((Addr.mk n102 0 none).add 0) = some (.int .i64 x123) ∧ 
        cnd (x122 != x123)
        (Calls Try.prog 93 #[.pointer s_, .int .i64 x122] w120 fun e w124 => ∃ r125 : Int, e = .returned (.int .i64 r125) ∧ 
          cnd (r125 == (0 : Int))
          (∃ k117, k117 < k116 ∧ I115 true (IntKind.i64.wrap (v119 + (1 : Int))) w124 k117)
          (∃ a126 : Addr, s_ = some a126 ∧ ∃ x127 : Option Nat, w124.cell? (a126.add 2) = some (.map x127) ∧ 
          ∃ w128 : World, ∃ r129 : Bool, (Instr.lookup 84 (.map x127) (.int .i64 x122) false).run Try.prog w124 = .ok (.bool r129) w128 ∧ 
          cnd r129
          (∃ k117, k117 < k116 ∧ I115 true (IntKind.i64.wrap (v119 + (1 : Int))) w128 k117)
          (Calls Try.prog 94 #[.pointer s_, .int .i64 x122, .map known_] w128 fun e w130 => ∃ r131 : Bool, e = .returned (.bool r131) ∧ 
          ∃ k117, k117 < k116 ∧ I115 r131 (IntKind.i64.wrap (v119 + (1 : Int))) w130 k117)))
        (∃ k117, k117 < k116 ∧ I115 is_118 (IntKind.i64.wrap (v119 + (1 : Int))) w120 k117))
        (∃ k117, k117 < k116 ∧ I115 is_118 (IntKind.i64.wrap (v119 + (1 : Int))) w120 k117))
      (Calls Try.prog 97 #[.int .i64 l_] w120 fun e w132 => ∃ r133 : Int, e = .returned (.int .i64 r133) ∧ 
        ∃ w134 : World, (Instr.mapUpdate 84 (.map known_) (.int .i64 r133) (.bool is_118)).run Try.prog w132 = .ok () w134 ∧ 
        K (.bool is_118) w134))) ∧
  (Calls Try.prog 97 #[.int .i64 l_] w3.drew fun e w135 => ∃ r136 : Int, e = .returned (.int .i64 r136) ∧ 
    (∃ x137 : Option Nat, w135.cell? (a7.add 1) = some (.map x137) ∧ 
    (∃ w138 : World, ∃ r139 : Int, (Instr.lookup 82 (.map x137) (.int .i64 r136) false).run Try.prog w135 = .ok (.int .i64 r139) w138 ∧ 
    ixK x8_p x8_n (IntKind.i64.wrap (r139 - (1 : Int))) 3 fun a140 =>
    (∃ x141 : Int, ∃ x142 : Int, ∃ x143_p : Option Addr, ∃ x143_n : Nat, ∃ x143_c : Nat, CellsAt w138 a140 0 [.int .i64 x141, .int .i64 x142, .slice x143_p x143_n x143_c] ∧ 
    ∀ (n144 : Nat) (w145 : World), New (.cells #[.int .i64 0, .int .i64 0, .slice none 0 0] 73) w138 n144 w145 → 
    ∃ w146 : World, StoreAt (Addr.mk n144 0 none) 0 [.int .i64 x141, .int .i64 x142, .slice x143_p x143_n x143_c] w145 w146 ∧ 
    ∃ x147_p : Option Addr, ∃ x147_n : Nat, ∃ x147_c : Nat, w146.cell? ((Addr.mk n144 0 none).add 2) = some (.slice x147_p x147_n x147_c) ∧ 
    ∃ x148_p : Option Addr, ∃ x148_n : Nat, ∃ x148_c : Nat, w146.cell? ((Addr.mk n144 0 none).add 2) = some (.slice x148_p x148_n x148_c) ∧ 
    ∃ I149 : Bool → Int → World → Nat → Prop, (∃ k150, I149 (decide ((x147_n : Int) > (0 : Int))) 0 w146 k150) ∧
    ∀ (is_152 : Bool) (v153 : Int) (w154 : World) (k150 : Nat) (_ : Fr), I149 is_152 v153 w154 k150 →
    cnd (decide (v153 < (x148_n : Int)))
      (ixK x148_p x148_n v153 1 fun a155 =>
        ∃ x156 : Int, w154.cell? a155 = some (.int .i64 x156) ∧ 
        cnd is_152
        (∃ x157 : Int, w154.cell? ((Addr.mk n144 0 none).add 0) = some (.int .i64 x157) ∧ 
        cnd (x156 != x157)
        (Calls Try.prog 93 #[.pointer s_, .int .i64 x156] w154 fun e w158 => ∃ r159 : Int, e = .returned (.int .i64 r159) ∧ 
          cnd (r159 == (0 : Int))
          (∃ k151, k151 < k150 ∧ I149 true (IntKind.i64.wrap (v153 + (1 : Int))) w158 k151)
          (∃ a160 : Addr, s_ = some a160 ∧ ∃ x161 : Option Nat, w158.cell? (a160.add 2) = some (.map x161) ∧ 
          ∃ w162 : World, ∃ r163 : Bool, (Instr.lookup 84 (.map x161) (.int .i64 x156) false).run Try.prog w158 = .ok (.bool r163) w162 ∧ 
          cnd r163
          (∃ k151, k151 < k150 ∧ I149 true (IntKind.i64.wrap (v153 + (1 : Int))) w162 k151)
          (Calls Try.prog 94 #[.pointer s_, .int .i64 x156, .map known_] w162 fun e w164 => ∃ r165 : Bool, e = .returned (.bool r165) ∧ 
          ∃ k151, k151 < k150 ∧ I149 r165 (IntKind.i64.wrap (v153 + (1 : Int))) w164 k151)))
        (∃ k151, k151 < k150 ∧ I149 is_152 (IntKind.i64.wrap (v153 + (1 : Int))) w154 k151))
        (∃ k151, k151 < k150 ∧ I149 is_152 (IntKind.i64.wrap (v153 + (1 : Int))) w154 k151))
      (Calls Try.prog 97 #[.int .i64 l_] w154 fun e w166 => ∃ r167 : Int, e = .returned (.int .i64 r167) ∧ 
        ∃ w168 : World, (Instr.mapUpdate 84 (.map known_) (.int .i64 r167) (.bool is_152)).run Try.prog w166 = .ok () w168 ∧ 
        K (.bool is_152) w168)) ∧
  (∀ (n169 : Nat) (w170 : World), New (.cells #[.int .i64 0, .int .i64 0, .slice none 0 0] 73) w138 n169 w170 → 
    ∃ x171 : Int, ∃ x172 : Int, ∃ x173_p : Option Addr, ∃ x173_n : Nat, ∃ x173_c : Nat, CellsAt w170 a140 0 [.int .i64 x171, .int .i64 x172, .slice x173_p x173_n x173_c] ∧ 
    ∃ w174 : World, StoreAt (Addr.mk n169 0 none) 0 [.int .i64 x171, .int .i64 x172, .slice x173_p x173_n x173_c] w170 w174 ∧ 
    ∃ x175_p : Option Addr, ∃ x175_n : Nat, ∃ x175_c : Nat, w174.cell? ((Addr.mk n169 0 none).add 2) = some (.slice x175_p x175_n x175_c) ∧ 
    ∃ x176_p : Option Addr, ∃ x176_n : Nat, ∃ x176_c : Nat, w174.cell? ((Addr.mk n169 0 none).add 2) = some (.slice x176_p x176_n x176_c) ∧ 
    ∃ I177 : Bool → Int → World → Nat → Prop, (∃ k178, I177 (decide ((x175_n : Int) > (0 : Int))) 0 w174 k178) ∧
    ∀ (is_180 : Bool) (v181 : Int) (w182 : World) (k178 : Nat) (_ : Fr), I177 is_180 v181 w182 k178 →
    cnd (decide (v181 < (x176_n : Int)))
      (ixK x176_p x176_n v181 1 fun a183 =>
        ∃ x184 : Int, w182.cell? a183 = some (.int .i64 x184) ∧ 
        cnd is_180
        (∃ x185 : Int, w182.cell? ((Addr.mk n169 0 none).add 0) = some (.int .i64 x185) ∧ 
        cnd (x184 != x185)
        (Calls Try.prog 93 #[.pointer s_, .int .i64 x184] w182 fun e w186 => ∃ r187 : Int, e = .returned (.int .i64 r187) ∧ 
          cnd (r187 == (0 : Int))
          (∃ k179, k179 < k178 ∧ I177 true (IntKind.i64.wrap (v181 + (1 : Int))) w186 k179)
          (∃ a188 : Addr, s_ = some a188 ∧ ∃ x189 : Option Nat, w186.cell? (a188.add 2) = some (.map x189) ∧ 
          ∃ w190 : World, ∃ r191 : Bool, (Instr.lookup 84 (.map x189) (.int .i64 x184) false).run Try.prog w186 = .ok (.bool r191) w190 ∧ 
          cnd r191
          (∃ k179, k179 < k178 ∧ I177 true (IntKind.i64.wrap (v181 + (1 : Int))) w190 k179)
          (Calls Try.prog 94 #[.pointer s_, .int .i64 x184, .map known_] w190 fun e w192 => ∃ r193 : Bool, e = .returned (.bool r193) ∧ 
          ∃ k179, k179 < k178 ∧ I177 r193 (IntKind.i64.wrap (v181 + (1 : Int))) w192 k179)))
        (∃ k179, k179 < k178 ∧ I177 is_180 (IntKind.i64.wrap (v181 + (1 : Int))) w182 k179))
        (∃ k179, k179 < k178 ∧ I177 is_180 (IntKind.i64.wrap (v181 + (1 : Int))) w182 k179))
      (Calls Try.prog 97 #[.int .i64 l_] w182 fun e w194 => ∃ r195 : Int, e = .returned (.int .i64 r195) ∧ 
        ∃ w196 : World, (Instr.mapUpdate 84 (.map known_) (.int .i64 r195) (.bool is_180)).run Try.prog w194 = .ok () w196 ∧ 
        K (.bool is_180) w196))) ∧
  (∀ (n197 : Nat) (w198 : World), New (.cells #[.int .i64 0, .int .i64 0, .slice none 0 0] 73) w135 n197 w198 → 
    ∃ w199 : World, ∃ r200 : Int, (Instr.lookup 82 (.map x137) (.int .i64 r136) false).run Try.prog w198 = .ok (.int .i64 r200) w199 ∧ 
    ixK x8_p x8_n (IntKind.i64.wrap (r200 - (1 : Int))) 3 fun a201 =>
    ∃ x202 : Int, ∃ x203 : Int, ∃ x204_p : Option Addr, ∃ x204_n : Nat, ∃ x204_c : Nat, CellsAt w199 a201 0 [.int .i64 x202, .int .i64 x203, .slice x204_p x204_n x204_c] ∧ 
    ∃ w205 : World, StoreAt (Addr.mk n197 0 none) 0 [.int .i64 x202, .int .i64 x203, .slice x204_p x204_n x204_c] w199 w205 ∧ 
    ∃ x206_p : Option Addr, ∃ x206_n : Nat, ∃ x206_c : Nat, w205.cell? ((Addr.mk n197 0 none).add 2) = some (.slice x206_p x206_n x206_c) ∧ 
    ∃ x207_p : Option Addr, ∃ x207_n : Nat, ∃ x207_c : Nat, w205.cell? ((Addr.mk n197 0 none).add 2) = some (.slice x207_p x207_n x207_c) ∧ 
    ∃ I208 : Bool → Int → World → Nat → Prop, (∃ k209, I208 (decide ((x206_n : Int) > (0 : Int))) 0 w205 k209) ∧
    ∀ (is_211 : Bool) (v212 : Int) (w213 : World) (k209 : Nat) (_ : Fr), I208 is_211 v212 w213 k209 →
    cnd (decide (v212 < (x207_n : Int)))
      (ixK x207_p x207_n v212 1 fun a214 =>
        ∃ x215 : Int, w213.cell? a214 = some (.int .i64 x215) ∧ 
        cnd is_211
        (∃ x216 : Int, w213.cell? ((Addr.mk n197 0 none).add 0) = some (.int .i64 x216) ∧ 
        cnd (x215 != x216)
        (Calls Try.prog 93 #[.pointer s_, .int .i64 x215] w213 fun e w217 => ∃ r218 : Int, e = .returned (.int .i64 r218) ∧ 
          cnd (r218 == (0 : Int))
          (∃ k210, k210 < k209 ∧ I208 true (IntKind.i64.wrap (v212 + (1 : Int))) w217 k210)
          (∃ a219 : Addr, s_ = some a219 ∧ ∃ x220 : Option Nat, w217.cell? (a219.add 2) = some (.map x220) ∧ 
          ∃ w221 : World, ∃ r222 : Bool, (Instr.lookup 84 (.map x220) (.int .i64 x215) false).run Try.prog w217 = .ok (.bool r222) w221 ∧ 
          cnd r222
          (∃ k210, k210 < k209 ∧ I208 true (IntKind.i64.wrap (v212 + (1 : Int))) w221 k210)
          (Calls Try.prog 94 #[.pointer s_, .int .i64 x215, .map known_] w221 fun e w223 => ∃ r224 : Bool, e = .returned (.bool r224) ∧ 
          ∃ k210, k210 < k209 ∧ I208 r224 (IntKind.i64.wrap (v212 + (1 : Int))) w223 k210)))
        (∃ k210, k210 < k209 ∧ I208 is_211 (IntKind.i64.wrap (v212 + (1 : Int))) w213 k210))
        (∃ k210, k210 < k209 ∧ I208 is_211 (IntKind.i64.wrap (v212 + (1 : Int))) w213 k210))
      (Calls Try.prog 97 #[.int .i64 l_] w213 fun e w225 => ∃ r226 : Int, e = .returned (.int .i64 r226) ∧ 
        ∃ w227 : World, (Instr.mapUpdate 84 (.map known_) (.int .i64 r226) (.bool is_211)).run Try.prog w225 = .ok () w227 ∧ 
        K (.bool is_211) w227))) ∧
  (∀ (n228 : Nat) (w229 : World), New (.cells #[.int .i64 0, .int .i64 0, .slice none 0 0] 73) w135 n228 w229 → 
    ∃ x230 : Option Nat, w229.cell? (a7.add 1) = some (.map x230) ∧ 
    ∃ w231 : World, ∃ r232 : Int, (Instr.lookup 82 (.map x230) (.int .i64 r136) false).run Try.prog w229 = .ok (.int .i64 r232) w231 ∧ 
    ixK x8_p x8_n (IntKind.i64.wrap (r232 - (1 : Int))) 3 fun a233 =>
    ∃ x234 : Int, ∃ x235 : Int, ∃ x236_p : Option Addr, ∃ x236_n : Nat, ∃ x236_c : Nat, CellsAt w231 a233 0 [.int .i64 x234, .int .i64 x235, .slice x236_p x236_n x236_c] ∧ 
    ∃ w237 : World, StoreAt (Addr.mk n228 0 none) 0 [.int .i64 x234, .int .i64 x235, .slice x236_p x236_n x236_c] w231 w237 ∧ 
    ∃ x238_p : Option Addr, ∃ x238_n : Nat, ∃ x238_c : Nat, w237.cell? ((Addr.mk n228 0 none).add 2) = some (.slice x238_p x238_n x238_c) ∧ 
    ∃ x239_p : Option Addr, ∃ x239_n : Nat, ∃ x239_c : Nat, w237.cell? ((Addr.mk n228 0 none).add 2) = some (.slice x239_p x239_n x239_c) ∧ 
    ∃ I240 : Bool → Int → World → Nat → Prop, (∃ k241, I240 (decide ((x238_n : Int) > (0 : Int))) 0 w237 k241) ∧
    ∀ (is_243 : Bool) (v244 : Int) (w245 : World) (k241 : Nat) (_ : Fr), I240 is_243 v244 w245 k241 →
    cnd (decide (v244 < (x239_n : Int)))
      (ixK x239_p x239_n v244 1 fun a246 =>
        ∃ x247 : Int, w245.cell? a246 = some (.int .i64 x247) ∧ 
        cnd is_243
        (∃ x248 : Int, w245.cell? ((Addr.mk n228 0 none).add 0) = some (.int .i64 x248) ∧ 
        cnd (x247 != x248)
        (Calls Try.prog 93 #[.pointer s_, .int .i64 x247] w245 fun e w249 => ∃ r250 : Int, e = .returned (.int .i64 r250) ∧ 
          cnd (r250 == (0 : Int))
          (∃ k242, k242 < k241 ∧ I240 true (IntKind.i64.wrap (v244 + (1 : Int))) w249 k242)
          (∃ a251 : Addr, s_ = some a251 ∧ ∃ x252 : Option Nat, w249.cell? (a251.add 2) = some (.map x252) ∧ 
          ∃ w253 : World, ∃ r254 : Bool, (Instr.lookup 84 (.map x252) (.int .i64 x247) false).run Try.prog w249 = .ok (.bool r254) w253 ∧ 
          cnd r254
          (∃ k242, k242 < k241 ∧ I240 true (IntKind.i64.wrap (v244 + (1 : Int))) w253 k242)
          (Calls Try.prog 94 #[.pointer s_, .int .i64 x247, .map known_] w253 fun e w255 => ∃ r256 : Bool, e = .returned (.bool r256) ∧ 
          ∃ k242, k242 < k241 ∧ I240 r256 (IntKind.i64.wrap (v244 + (1 : Int))) w255 k242)))
        (∃ k242, k242 < k241 ∧ I240 is_243 (IntKind.i64.wrap (v244 + (1 : Int))) w245 k242))
        (∃ k242, k242 < k241 ∧ I240 is_243 (IntKind.i64.wrap (v244 + (1 : Int))) w245 k242))
      (Calls Try.prog 97 #[.int .i64 l_] w245 fun e w257 => ∃ r258 : Int, e = .returned (.int .i64 r258) ∧ 
        ∃ w259 : World, (Instr.mapUpdate 84 (.map known_) (.int .i64 r258) (.bool is_243)).run Try.prog w257 = .ok () w259 ∧ 
        K (.bool is_243) w259))) ∧
  (∀ (n260 : Nat) (w261 : World), New (.cells #[.int .i64 0, .int .i64 0, .slice none 0 0] 73) w3.drew n260 w261 → 
    (∃ x262 : Option Nat, w261.cell? (a7.add 1) = some (.map x262) ∧ 
    Calls Try.prog 97 #[.int .i64 l_] w261 fun e w263 => ∃ r264 : Int, e = .returned (.int .i64 r264) ∧ 
    ∃ w265 : World, ∃ r266 : Int, (Instr.lookup 82 (.map x262) (.int .i64 r264) false).run Try.prog w263 = .ok (.int .i64 r266) w265 ∧ 
    ixK x8_p x8_n (IntKind.i64.wrap (r266 - (1 : Int))) 3 fun a267 =>
    ∃ x268 : Int, ∃ x269 : Int, ∃ x270_p : Option Addr, ∃ x270_n : Nat, ∃ x270_c : Nat, CellsAt w265 a267 0 [.int .i64 x268, .int .i64 x269, .slice x270_p x270_n x270_c] ∧ 
    ∃ w271 : World, StoreAt (Addr.mk n260 0 none) 0 [.int .i64 x268, .int .i64 x269, .slice x270_p x270_n x270_c] w265 w271 ∧ 
    ∃ x272_p : Option Addr, ∃ x272_n : Nat, ∃ x272_c : Nat, w271.cell? ((Addr.mk n260 0 none).add 2) = some (.slice x272_p x272_n x272_c) ∧ 
    ∃ x273_p : Option Addr, ∃ x273_n : Nat, ∃ x273_c : Nat, w271.cell? ((Addr.mk n260 0 none).add 2) = some (.slice x273_p x273_n x273_c) ∧ 
    ∃ I274 : Bool → Int → World → Nat → Prop, (∃ k275, I274 (decide ((x272_n : Int) > (0 : Int))) 0 w271 k275) ∧
    ∀ (is_277 : Bool) (v278 : Int) (w279 : World) (k275 : Nat) (_ : Fr), I274 is_277 v278 w279 k275 →
    cnd (decide (v278 < (x273_n : Int)))
      (ixK x273_p x273_n v278 1 fun a280 =>
        ∃ x281 : Int, w279.cell? a280 = some (.int .i64 x281) ∧ 
        cnd is_277
        (∃ x282 : Int, w279.cell? ((Addr.mk n260 0 none).add 0) = some (.int .i64 x282) ∧ 
        cnd (x281 != x282)
        (Calls Try.prog 93 #[.pointer s_, .int .i64 x281] w279 fun e w283 => ∃ r284 : Int, e = .returned (.int .i64 r284) ∧ 
          cnd (r284 == (0 : Int))
          (∃ k276, k276 < k275 ∧ I274 true (IntKind.i64.wrap (v278 + (1 : Int))) w283 k276)
          (∃ a285 : Addr, s_ = some a285 ∧ ∃ x286 : Option Nat, w283.cell? (a285.add 2) = some (.map x286) ∧ 
          ∃ w287 : World, ∃ r288 : Bool, (Instr.lookup 84 (.map x286) (.int .i64 x281) false).run Try.prog w283 = .ok (.bool r288) w287 ∧ 
          cnd r288
          (∃ k276, k276 < k275 ∧ I274 true (IntKind.i64.wrap (v278 + (1 : Int))) w287 k276)
          (Calls Try.prog 94 #[.pointer s_, .int .i64 x281, .map known_] w287 fun e w289 => ∃ r290 : Bool, e = .returned (.bool r290) ∧ 
          ∃ k276, k276 < k275 ∧ I274 r290 (IntKind.i64.wrap (v278 + (1 : Int))) w289 k276)))
        (∃ k276, k276 < k275 ∧ I274 is_277 (IntKind.i64.wrap (v278 + (1 : Int))) w279 k276))
        (∃ k276, k276 < k275 ∧ I274 is_277 (IntKind.i64.wrap (v278 + (1 : Int))) w279 k276))
      (Calls Try.prog 97 #[.int .i64 l_] w279 fun e w291 => ∃ r292 : Int, e = .returned (.int .i64 r292) ∧ 
        ∃ w293 : World, (Instr.mapUpdate 84 (.map known_) (.int .i64 r292) (.bool is_277)).run Try.prog w291 = .ok () w293 ∧ 
        K (.bool is_277) w293)) ∧
  (Calls Try.prog 97 #[.int .i64 l_] w261 fun e w294 => ∃ r295 : Int, e = .returned (.int .i64 r295) ∧ 
    ∃ x296 : Option Nat, w294.cell? (a7.add 1) = some (.map x296) ∧ 
    ∃ w297 : World, ∃ r298 : Int, (Instr.lookup 82 (.map x296) (.int .i64 r295) false).run Try.prog w294 = .ok (.int .i64 r298) w297 ∧ 
    ixK x8_p x8_n (IntKind.i64.wrap (r298 - (1 : Int))) 3 fun a299 =>
    ∃ x300 : Int, ∃ x301 : Int, ∃ x302_p : Option Addr, ∃ x302_n : Nat, ∃ x302_c : Nat, CellsAt w297 a299 0 [.int .i64 x300, .int .i64 x301, .slice x302_p x302_n x302_c] ∧ 
    ∃ w303 : World, StoreAt (Addr.mk n260 0 none) 0 [.int .i64 x300, .int .i64 x301, .slice x302_p x302_n x302_c] w297 w303 ∧ 
    ∃ x304_p : Option Addr, ∃ x304_n : Nat, ∃ x304_c : Nat, w303.cell? ((Addr.mk n260 0 none).add 2) = some (.slice x304_p x304_n x304_c) ∧ 
    ∃ x305_p : Option Addr, ∃ x305_n : Nat, ∃ x305_c : Nat, w303.cell? ((Addr.mk n260 0 none).add 2) = some (.slice x305_p x305_n x305_c) ∧ 
    ∃ I306 : Bool → Int → World → Nat → Prop, (∃ k307, I306 (decide ((x304_n : Int) > (0 : Int))) 0 w303 k307) ∧
    ∀ (is_309 : Bool) (v310 : Int) (w311 : World) (k307 : Nat) (_ : Fr), I306 is_309 v310 w311 k307 →
    cnd (decide (v310 < (x305_n : Int)))
      (ixK x305_p x305_n v310 1 fun a312 =>
        ∃ x313 : Int, w311.cell? a312 = some (.int .i64 x313) ∧ 
        cnd is_309
        (∃ x314 : Int, w311.cell? ((Addr.mk n260 0 none).add 0) = some (.int .i64 x314) ∧ 
        cnd (x313 != x314)
        (Calls Try.prog 93 #[.pointer s_, .int .i64 x313] w311 fun e w315 => ∃ r316 : Int, e = .returned (.int .i64 r316) ∧ 
          cnd (r316 == (0 : Int))
          (∃ k308, k308 < k307 ∧ I306 true (IntKind.i64.wrap (v310 + (1 : Int))) w315 k308)
          (∃ a317 : Addr, s_ = some a317 ∧ ∃ x318 : Option Nat, w315.cell? (a317.add 2) = some (.map x318) ∧ 
          ∃ w319 : World, ∃ r320 : Bool, (Instr.lookup 84 (.map x318) (.int .i64 x313) false).run Try.prog w315 = .ok (.bool r320) w319 ∧ 
          cnd r320
          (∃ k308, k308 < k307 ∧ I306 true (IntKind.i64.wrap (v310 + (1 : Int))) w319 k308)
          (Calls Try.prog 94 #[.pointer s_, .int .i64 x313, .map known_] w319 fun e w321 => ∃ r322 : Bool, e = .returned (.bool r322) ∧ 
          ∃ k308, k308 < k307 ∧ I306 r322 (IntKind.i64.wrap (v310 + (1 : Int))) w321 k308)))
        (∃ k308, k308 < k307 ∧ I306 is_309 (IntKind.i64.wrap (v310 + (1 : Int))) w311 k308))
        (∃ k308, k308 < k307 ∧ I306 is_309 (IntKind.i64.wrap (v310 + (1 : Int))) w311 k308))
      (Calls Try.prog 97 #[.int .i64 l_] w311 fun e w323 => ∃ r324 : Int, e = .returned (.int .i64 r324) ∧ 
        ∃ w325 : World, (Instr.mapUpdate 84 (.map known_) (.int .i64 r324) (.bool is_309)).run Try.prog w323 = .ok () w325 ∧ 
        K (.bool is_309) w325)))) ∧
  (∃ x326 : Option Nat, w3.drew.cell? (a7.add 1) = some (.map x326) ∧ 
    (∃ x327_p : Option Addr, ∃ x327_n : Nat, ∃ x327_c : Nat, w3.drew.cell? (a6.add 0) = some (.slice x327_p x327_n x327_c) ∧ 
    (Calls Try.prog 97 #[.int .i64 l_] w3.drew fun e w328 => ∃ r329 : Int, e = .returned (.int .i64 r329) ∧ 
    (∃ w330 : World, ∃ r331 : Int, (Instr.lookup 82 (.map x326) (.int .i64 r329) false).run Try.prog w328 = .ok (.int .i64 r331) w330 ∧ 
    ixK x327_p x327_n (IntKind.i64.wrap (r331 - (1 : Int))) 3 fun a332 =>
    (∃ x333 : Int, ∃ x334 : Int, ∃ x335_p : Option Addr, ∃ x335_n : Nat, ∃ x335_c : Nat, CellsAt w330 a332 0 [.int .i64 x333, .int .i64 x334, .slice x335_p x335_n x335_c] ∧ 
    ∀ (n336 : Nat) (w337 : World), New (.cells #[.int .i64 0, .int .i64 0, .slice none 0 0] 73) w330 n336 w337 → 
    ∃ w338 : World, StoreAt (Addr.mk n336 0 none) 0 [.int .i64 x333, .int .i64 x334, .slice x335_p x335_n x335_c] w337 w338 ∧ 
    ∃ x339_p : Option Addr, ∃ x339_n : Nat, ∃ x339_c : Nat, w338.cell? ((Addr.mk n336 0 none).add 2) = some (.slice x339_p x339_n x339_c) ∧ 
    ∃ x340_p : Option Addr, ∃ x340_n : Nat, ∃ x340_c : Nat, w338.cell? ((Addr.mk n336 0 none).add 2) = some (.slice x340_p x340_n x340_c) ∧ 
    ∃ I341 : Bool → Int → World → Nat → Prop, (∃ k342, I341 (decide ((x339_n : Int) > (0 : Int))) 0 w338 k342) ∧
    ∀ (is_344 : Bool) (v345 : Int) (w346 : World) (k342 : Nat) (_ : Fr), I341 is_344 v345 w346 k342 →
    cnd (decide (v345 < (x340_n : Int)))
      (ixK x340_p x340_n v345 1 fun a347 =>
        ∃ x348 : Int, w346.cell? a347 = some (.int .i64 x348) ∧ 
        cnd is_344
        (∃ x349 : Int, w346.cell? ((Addr.mk n336 0 none).add 0) = some (.int .i64 x349) ∧ 
        cnd (x348 != x349)
        (Calls Try.prog 93 #[.pointer s_, .int .i64 x348] w346 fun e w350 => ∃ r351 : Int, e = .returned (.int .i64 r351) ∧ 
          cnd (r351 == (0 : Int))
          (∃ k343, k343 < k342 ∧ I341 true (IntKind.i64.wrap (v345 + (1 : Int))) w350 k343)
          (∃ a352 : Addr, s_ = some a352 ∧ ∃ x353 : Option Nat, w350.cell? (a352.add 2) = some (.map x353) ∧ 
          ∃ w354 : World, ∃ r355 : Bool, (Instr.lookup 84 (.map x353) (.int .i64 x348) false).run Try.prog w350 = .ok (.bool r355) w354 ∧ 
          cnd r355
          (∃ k343, k343 < k342 ∧ I341 true (IntKind.i64.wrap (v345 + (1 : Int))) w354 k343)
          (Calls Try.prog 94 #[.pointer s_, .int .i64 x348, .map known_] w354 fun e w356 => ∃ r357 : Bool, e = .returned (.bool r357) ∧ 
          ∃ k343, k343 < k342 ∧ I341 r357 (IntKind.i64.wrap (v345 + (1 : Int))) w356 k343)))
        (∃ k343, k343 < k342 ∧ I341 is_344 (IntKind.i64.wrap (v345 + (1 : Int))) w346 k343))
        (∃ k343, k343 < k342 ∧ I341 is_344 (IntKind.i64.wrap (v345 + (1 : Int))) w346 k343))
      (Calls Try.prog 97 #[.int .i64 l_] w346 fun e w358 => ∃ r359 : Int, e = .returned (.int .i64 r359) ∧ 
        ∃ w360 : World, (Instr.mapUpdate 84 (.map known_) (.int .i64 r359) (.bool is_344)).run Try.prog w358 = .ok () w360 ∧ 
        K (.bool is_344) w360)) ∧
  (∀ (n361 : Nat) (w362 : World), New (.cells #[.int .i64 0, .int .i64 0, .slice none 0 0] 73) w330 n361 w362 → 
    ∃ x363 : Int, ∃ x364 : Int, ∃ x365_p : Option Addr, ∃ x365_n : Nat, ∃ x365_c : Nat, CellsAt w362 a332 0 [.int .i64 x363, .int .i64 x364, .slice x365_p x365_n x365_c] ∧ 
    ∃ w366 : World, StoreAt (Addr.mk n361 0 none) 0 [.int .i64 x363, .int .i64 x364, .slice x365_p x365_n x365_c] w362 w366 ∧ 
    ∃ x367_p : Option Addr, ∃ x367_n : Nat, ∃ x367_c : Nat, w366.cell? ((Addr.mk n361 0 none).add 2) = some (.slice x367_p x367_n x367_c) ∧ 
    ∃ x368_p : Option Addr, ∃ x368_n : Nat, ∃ x368_c : Nat, w366.cell? ((Addr.mk n361 0 none).add 2) = some (.slice x368_p x368_n x368_c) ∧ 
    ∃ I369 : Bool → Int → World → Nat → Prop, (∃ k370, I369 (decide ((x367_n : Int) > (0 : Int))) 0 w366 k370) ∧
    ∀ (is_372 : Bool) (v373 : Int) (w374 : World) (k370 : Nat) (_ : Fr), I369 is_372 v373 w374 k370 →
    cnd (decide (v373 < (x368_n : Int)))
      (ixK x368_p x368_n v373 1 fun a375 =>
        ∃ x376 : Int, w374.cell? a375 = some (.int .i64 x376) ∧ 
        cnd is_372
        (∃ x377 : Int, w374.cell? ((Addr.mk n361 0 none).add 0) = some (.int .i64 x377) ∧ 
        cnd (x376 != x377)
        (Calls Try.prog 93 #[.pointer s_, .int .i64 x376] w374 fun e w378 => ∃ r379 : Int, e = .returned (.int .i64 r379) ∧ 
          cnd (r379 == (0 : Int))
          (∃ k371, k371 < k370 ∧ I369 true (IntKind.i64.wrap (v373 + (1 : Int))) w378 k371)
          (∃ a380 : Addr, s_ = some a380 ∧ ∃ x381 : Option Nat, w378.cell? (a380.add 2) = some (.map x381) ∧ 
          ∃ w382 : World, ∃ r383 : Bool, (Instr.lookup 84 (.map x381) (.int .i64 x376) false).run Try.prog w378 = .ok (.bool r383) w382 ∧ 
          cnd r383
          (∃ k371, k371 < k370 ∧ I369 true (IntKind.i64.wrap (v373 + (1 : Int))) w382 k371)
          (Calls Try.prog 94 #[.pointer s_, .int .i64 x376, .map known_] w382 fun e w384 => ∃ r385 : Bool, e = .returned (.bool r385) ∧ 
          ∃ k371, k371 < k370 ∧ I369 r385 (IntKind.i64.wrap (v373 + (1 : Int))) w384 k371)))
        (∃ k371, k371 < k370 ∧ I369 is_372 (IntKind.i64.wrap (v373 + (1 : Int))) w374 k371))
        (∃ k371, k371 < k370 ∧ I369 is_372 (IntKind.i64.wrap (v373 + (1 : Int))) w374 k371))
      (Calls Try.prog 97 #[.int .i64 l_] w374 fun e w386 => ∃ r387 : Int, e = .returned (.int .i64 r387) ∧ 
        ∃ w388 : World, (Instr.mapUpdate 84 (.map known_) (.int .i64 r387) (.bool is_372)).run Try.prog w386 = .ok () w388 ∧ 
        K (.bool is_372) w388))) ∧
  (∀ (n389 : Nat) (w390 : World), New (.cells #[.int .i64 0, .int .i64 0, .slice none 0 0] 73) w328 n389 w390 → 
    ∃ w391 : World, ∃ r392 : Int, (Instr.lookup 82 (.map x326) (.int .i64 r329) false).run Try.prog w390 = .ok (.int .i64 r392) w391 ∧ 
    ixK x327_p x327_n (IntKind.i64.wrap (r392 - (1 : Int))) 3 fun a393 =>
    ∃ x394 : Int, ∃ x395 : Int, ∃ x396_p : Option Addr, ∃ x396_n : Nat, ∃ x396_c : Nat, CellsAt w391 a393 0 [.int .i64 x394, .int .i64 x395, .slice x396_p x396_n x396_c] ∧ 
    ∃ w397 : World, StoreAt (Addr.mk n389 0 none) 0 [.int .i64 x394, .int .i64 x395, .slice x396_p x396_n x396_c] w391 w397 ∧ 
    ∃ x398_p : Option Addr, ∃ x398_n : Nat, ∃ x398_c : Nat, w397.cell? ((Addr.mk n389 0 none).add 2) = some (.slice x398_p x398_n x398_c) ∧ 
    ∃ x399_p : Option Addr, ∃ x399_n : Nat, ∃ x399_c : Nat, w397.cell? ((Addr.mk n389 0 none).add 2) = some (.slice x399_p x399_n x399_c) ∧ 
    ∃ I400 : Bool → Int → World → Nat → Prop, (∃ k401, I400 (decide ((x398_n : Int) > (0 : Int))) 0 w397 k401) ∧
    ∀ (is_403 : Bool) (v404 : Int) (w405 : World) (k401 : Nat) (_ : Fr), I400 is_403 v404 w405 k401 →
    cnd (decide (v404 < (x399_n : Int)))
      (ixK x399_p x399_n v404 1 fun a406 =>
        ∃ x407 : Int, w405.cell? a406 = some (.int .i64 x407) ∧ 
        cnd is_403
        (∃ x408 : Int, w405.cell? ((Addr.mk n389 0 none).add 0) = some (.int .i64 x408) ∧ 
        cnd (x407 != x408)
        (Calls Try.prog 93 #[.pointer s_, .int .i64 x407] w405 fun e w409 => ∃ r410 : Int, e = .returned (.int .i64 r410) ∧ 
          cnd (r410 == (0 : Int))
          (∃ k402, k402 < k401 ∧ I400 true (IntKind.i64.wrap (v404 + (1 : Int))) w409 k402)
          (∃ a411 : Addr, s_ = some a411 ∧ ∃ x412 : Option Nat, w409.cell? (a411.add 2) = some (.map x412) ∧ 
          ∃ w413 : World, ∃ r414 : Bool, (Instr.lookup 84 (.map x412) (.int .i64 x407) false).run Try.prog w409 = .ok (.bool r414) w413 ∧ 
          cnd r414
          (∃ k402, k402 < k401 ∧ I400 true (IntKind.i64.wrap (v404 + (1 : Int))) w413 k402)
          (Calls Try.prog 94 #[.pointer s_, .int .i64 x407, .map known_] w413 fun e w415 => ∃ r416 : Bool, e = .returned (.bool r416) ∧ 
          ∃ k402, k402 < k401 ∧ I400 r416 (IntKind.i64.wrap (v404 + (1 : Int))) w415 k402)))
        (∃ k402, k402 < k401 ∧ I400 is_403 (IntKind.i64.wrap (v404 + (1 : Int))) w405 k402))
        (∃ k402, k402 < k401 ∧ I400 is_403 (IntKind.i64.wrap (v404 + (1 : Int))) w405 k402))
      (Calls Try.prog 97 #[.int .i64 l_] w405 fun e w417 => ∃ r418 : Int, e = .returned (.int .i64 r418) ∧ 
        ∃ w419 : World, (Instr.mapUpdate 84 (.map known_) (.int .i64 r418) (.bool is_403)).run Try.prog w417 = .ok () w419 ∧ 
        K (.bool is_403) w419))) ∧
  (∀ (n420 : Nat) (w421 : World), New (.cells #[.int .i64 0, .int .i64 0, .slice none 0 0] 73) w3.drew n420 w421 → 
    Calls Try.prog 97 #[.int .i64 l_] w421 fun e w422 => ∃ r423 : Int, e = .returned (.int .i64 r423) ∧ 
    ∃ w424 : World, ∃ r425 : Int, (Instr.lookup 82 (.map x326) (.int .i64 r423) false).run Try.prog w422 = .ok (.int .i64 r425) w424 ∧ 
    ixK x327_p x327_n (IntKind.i64.wrap (r425 - (1 : Int))) 3 fun a426 =>
    ∃ x427 : Int, ∃ x428 : Int, ∃ x429_p : Option Addr, ∃ x429_n : Nat, ∃ x429_c : Nat, CellsAt w424 a426 0 [.int .i64 x427, .int .i64 x428, .slice x429_p x429_n x429_c] ∧ 
    ∃ w430 : World, StoreAt (Addr.mk n420 0 none) 0 [.int .i64 x427, .int .i64 x428, .slice x429_p x429_n x429_c] w424 w430 ∧ 
    ∃ x431_p : Option Addr, ∃ x431_n : Nat, ∃ x431_c : Nat, w430.cell? ((Addr.mk n420 0 none).add 2) = some (.slice x431_p x431_n x431_c) ∧ 
    ∃ x432_p : Option Addr, ∃ x432_n : Nat, ∃ x432_c : Nat, w430.cell? ((Addr.mk n420 0 none).add 2) = some (.slice x432_p x432_n x432_c) ∧ 
    ∃ I433 : Bool → Int → World → Nat → Prop, (∃ k434, I433 (decide ((x431_n : Int) > (0 : Int))) 0 w430 k434) ∧
    ∀ (is_436 : Bool) (v437 : Int) (w438 : World) (k434 : Nat) (_ : Fr), I433 is_436 v437 w438 k434 →
    cnd (decide (v437 < (x432_n : Int)))
      (ixK x432_p x432_n v437 1 fun a439 =>
        ∃ x440 : Int, w438.cell? a439 = some (.int .i64 x440) ∧ 
        cnd is_436
        (∃ x441 : Int, w438.cell? ((Addr.mk n420 0 none).add 0) = some (.int .i64 x441) ∧ 
        cnd (x440 != x441)
        (Calls Try.prog 93 #[.pointer s_, .int .i64 x440] w438 fun e w442 => ∃ r443 : Int, e = .returned (.int .i64 r443) ∧ 
          cnd (r443 == (0 : Int))
          (∃ k435, k435 < k434 ∧ I433 true (IntKind.i64.wrap (v437 + (1 : Int))) w442 k435)
          (∃ a444 : Addr, s_ = some a444 ∧ ∃ x445 : Option Nat, w442.cell? (a444.add 2) = some (.map x445) ∧ 
          ∃ w446 : World, ∃ r447 : Bool, (Instr.lookup 84 (.map x445) (.int .i64 x440) false).run Try.prog w442 = .ok (.bool r447) w446 ∧ 
          cnd r447
          (∃ k435, k435 < k434 ∧ I433 true (IntKind.i64.wrap (v437 + (1 : Int))) w446 k435)
          (Calls Try.prog 94 #[.pointer s_, .int .i64 x440, .map known_] w446 fun e w448 => ∃ r449 : Bool, e = .returned (.bool r449) ∧ 
          ∃ k435, k435 < k434 ∧ I433 r449 (IntKind.i64.wrap (v437 + (1 : Int))) w448 k435)))
        (∃ k435, k435 < k434 ∧ I433 is_436 (IntKind.i64.wrap (v437 + (1 : Int))) w438 k435))
        (∃ k435, k435 < k434 ∧ I433 is_436 (IntKind.i64.wrap (v437 + (1 : Int))) w438 k435))
      (Calls Try.prog 97 #[.int .i64 l_] w438 fun e w450 => ∃ r451 : Int, e = .returned (.int .i64 r451) ∧ 
        ∃ w452 : World, (Instr.mapUpdate 84 (.map known_) (.int .i64 r451) (.bool is_436)).run Try.prog w450 = .ok () w452 ∧ 
        K (.bool is_436) w452))) ∧
  (Calls Try.prog 97 #[.int .i64 l_] w3.drew fun e w453 => ∃ r454 : Int, e = .returned (.int .i64 r454) ∧ 
    (∃ x455_p : Option Addr, ∃ x455_n : Nat, ∃ x455_c : Nat, w453.cell? (a6.add 0) = some (.slice x455_p x455_n x455_c) ∧ 
    (∃ w456 : World, ∃ r457 : Int, (Instr.lookup 82 (.map x326) (.int .i64 r454) false).run Try.prog w453 = .ok (.int .i64 r457) w456 ∧ 
    ixK x455_p x455_n (IntKind.i64.wrap (r457 - (1 : Int))) 3 fun a458 =>
    (∃ x459 : Int, ∃ x460 : Int, ∃ x461_p : Option Addr, ∃ x461_n : Nat, ∃ x461_c : Nat, CellsAt w456 a458 0 [.int .i64 x459, .int .i64 x460, .slice x461_p x461_n x461_c] ∧ 
    ∀ (n462 : Nat) (w463 : World), New (.cells #[.int .i64 0, .int .i64 0, .slice none 0 0] 73) w456 n462 w463 → 
    ∃ w464 : World, StoreAt (Addr.mk n462 0 none) 0 [.int .i64 x459, .int .i64 x460, .slice x461_p x461_n x461_c] w463 w464 ∧ 
    ∃ x465_p : Option Addr, ∃ x465_n : Nat, ∃ x465_c : Nat, w464.cell? ((Addr.mk n462 0 none).add 2) = some (.slice x465_p x465_n x465_c) ∧ 
    ∃ x466_p : Option Addr, ∃ x466_n : Nat, ∃ x466_c : Nat, w464.cell? ((Addr.mk n462 0 none).add 2) = some (.slice x466_p x466_n x466_c) ∧ 
    ∃ I467 : Bool → Int → World → Nat → Prop, (∃ k468, I467 (decide ((x465_n : Int) > (0 : Int))) 0 w464 k468) ∧
    ∀ (is_470 : Bool) (v471 : Int) (w472 : World) (k468 : Nat) (_ : Fr), I467 is_470 v471 w472 k468 →
    cnd (decide (v471 < (x466_n : Int)))
      (ixK x466_p x466_n v471 1 fun a473 =>
        ∃ x474 : Int, w472.cell? a473 = some (.int .i64 x474) ∧ 
        cnd is_470
        (∃ x475 : Int, w472.cell? ((Addr.mk n462 0 none).add 0) = some (.int .i64 x475) ∧ 
        cnd (x474 != x475)
        (Calls Try.prog 93 #[.pointer s_, .int .i64 x474] w472 fun e w476 => ∃ r477 : Int, e = .returned (.int .i64 r477) ∧ 
          cnd (r477 == (0 : Int))
          (∃ k469, k469 < k468 ∧ I467 true (IntKind.i64.wrap (v471 + (1 : Int))) w476 k469)
          (∃ a478 : Addr, s_ = some a478 ∧ ∃ x479 : Option Nat, w476.cell? (a478.add 2) = some (.map x479) ∧ 
          ∃ w480 : World, ∃ r481 : Bool, (Instr.lookup 84 (.map x479) (.int .i64 x474) false).run Try.prog w476 = .ok (.bool r481) w480 ∧ 
          cnd r481
          (∃ k469, k469 < k468 ∧ I467 true (IntKind.i64.wrap (v471 + (1 : Int))) w480 k469)
          (Calls Try.prog 94 #[.pointer s_, .int .i64 x474, .map known_] w480 fun e w482 => ∃ r483 : Bool, e = .returned (.bool r483) ∧ 
          ∃ k469, k469 < k468 ∧ I467 r483 (IntKind.i64.wrap (v471 + (1 : Int))) w482 k469)))
        (∃ k469, k469 < k468 ∧ I467 is_470 (IntKind.i64.wrap (v471 + (1 : Int))) w472 k469))
        (∃ k469, k469 < k468 ∧ I467 is_470 (IntKind.i64.wrap (v471 + (1 : Int))) w472 k469))
      (Calls Try.prog 97 #[.int .i64 l_] w472 fun e w484 => ∃ r485 : Int, e = .returned (.int .i64 r485) ∧ 
        ∃ w486 : World, (Instr.mapUpdate 84 (.map known_) (.int .i64 r485) (.bool is_470)).run Try.prog w484 = .ok () w486 ∧ 
        K (.bool is_470) w486)) ∧
  (∀ (n487 : Nat) (w488 : World), New (.cells #[.int .i64 0, .int .i64 0, .slice none 0 0] 73) w456 n487 w488 → 
    ∃ x489 : Int, ∃ x490 : Int, ∃ x491_p : Option Addr, ∃ x491_n : Nat, ∃ x491_c : Nat, CellsAt w488 a458 0 [.int .i64 x489, .int .i64 x490, .slice x491_p x491_n x491_c] ∧ 
    ∃ w492 : World, StoreAt (Addr.mk n487 0 none) 0 [.int .i64 x489, .int .i64 x490, .slice x491_p x491_n x491_c] w488 w492 ∧ 
    ∃ x493_p : Option Addr, ∃ x493_n : Nat, ∃ x493_c : Nat, w492.cell? ((Addr.mk n487 0 none).add 2) = some (.slice x493_p x493_n x493_c) ∧ 
    ∃ x494_p : Option Addr, ∃ x494_n : Nat, ∃ x494_c : Nat, w492.cell? ((Addr.mk n487 0 none).add 2) = some (.slice x494_p x494_n x494_c) ∧ 
    ∃ I495 : Bool → Int → World → Nat → Prop, (∃ k496, I495 (decide ((x493_n : Int) > (0 : Int))) 0 w492 k496) ∧
    ∀ (is_498 : Bool) (v499 : Int) (w500 : World) (k496 : Nat) (_ : Fr), I495 is_498 v499 w500 k496 →
    cnd (decide (v499 < (x494_n : Int)))
      (ixK x494_p x494_n v499 1 fun a501 =>
        ∃ x502 : Int, w500.cell? a501 = some (.int .i64 x502) ∧ 
        cnd is_498
        (∃ x503 : Int, w500.cell? ((Addr.mk n487 0 none).add 0) = some (.int .i64 x503) ∧ 
        cnd (x502 != x503)
        (Calls Try.prog 93 #[.pointer s_, .int .i64 x502] w500 fun e w504 => ∃ r505 : Int, e = .returned (.int .i64 r505) ∧ 
          cnd (r505 == (0 : Int))
          (∃ k497, k497 < k496 ∧ I495 true (IntKind.i64.wrap (v499 + (1 : Int))) w504 k497)
          (∃ a506 : Addr, s_ = some a506 ∧ ∃ x507 : Option Nat, w504.cell? (a506.add 2) = some (.map x507) ∧ 
          ∃ w508 : World, ∃ r509 : Bool, (Instr.lookup 84 (.map x507) (.int .i64 x502) false).run Try.prog w504 = .ok (.bool r509) w508 ∧ 
          cnd r509
          (∃ k497, k497 < k496 ∧ I495 true (IntKind.i64.wrap (v499 + (1 : Int))) w508 k497)
          (Calls Try.prog 94 #[.pointer s_, .int .i64 x502, .map known_] w508 fun e w510 => ∃ r511 : Bool, e = .returned (.bool r511) ∧ 
          ∃ k497, k497 < k496 ∧ I495 r511 (IntKind.i64.wrap (v499 + (1 : Int))) w510 k497)))
        (∃ k497, k497 < k496 ∧ I495 is_498 (IntKind.i64.wrap (v499 + (1 : Int))) w500 k497))
        (∃ k497, k497 < k496 ∧ I495 is_498 (IntKind.i64.wrap (v499 + (1 : Int))) w500 k497))
      (Calls Try.prog 97 #[.int .i64 l_] w500 fun e w512 => ∃ r513 : Int, e = .returned (.int .i64 r513) ∧ 
        ∃ w514 : World, (Instr.mapUpdate 84 (.map known_) (.int .i64 r513) (.bool is_498)).run Try.prog w512 = .ok () w514 ∧ 
        K (.bool is_498) w514))) ∧
  (∀ (n515 : Nat) (w516 : World), New (.cells #[.int .i64 0, .int .i64 0, .slice none 0 0] 73) w453 n515 w516 → 
    ∃ w517 : World, ∃ r518 : Int, (Instr.lookup 82 (.map x326) (.int .i64 r454) false).run Try.prog w516 = .ok (.int .i64 r518) w517 ∧ 
    ixK x455_p x455_n (IntKind.i64.wrap (r518 - (1 : Int))) 3 fun a519 =>
    ∃ x520 : Int, ∃ x521 : Int, ∃ x522_p : Option Addr, ∃ x522_n : Nat, ∃ x522_c : Nat, CellsAt w517 a519 0 [.int .i64 x520, .int .i64 x521, .slice x522_p x522_n x522_c] ∧ 
    ∃ w523 : World, StoreAt (Addr.mk n515 0 none) 0 [.int .i64 x520, .int .i64 x521, .slice x522_p x522_n x522_c] w517 w523 ∧ 
    ∃ x524_p : Option Addr, ∃ x524_n : Nat, ∃ x524_c : Nat, w523.cell? ((Addr.mk n515 0 none).add 2) = some (.slice x524_p x524_n x524_c) ∧ 
    ∃ x525_p : Option Addr, ∃ x525_n : Nat, ∃ x525_c : Nat, w523.cell? ((Addr.mk n515 0 none).add 2) = some (.slice x525_p x525_n x525_c) ∧ 
    ∃ I526 : Bool → Int → World → Nat → Prop, (∃ k527, I526 (decide ((x524_n : Int) > (0 : Int))) 0 w523 k527) ∧
    ∀ (is_529 : Bool) (v530 : Int) (w531 : World) (k527 : Nat) (_ : Fr), I526 is_529 v530 w531 k527 →
    cnd (decide (v530 < (x525_n : Int)))
      (ixK x525_p x525_n v530 1 fun a532 =>
        ∃ x533 : Int, w531.cell? a532 = some (.int .i64 x533) ∧ 
        cnd is_529
        (∃ x534 : Int, w531.cell? ((Addr.mk n515 0 none).add 0) = some (.int .i64 x534) ∧ 
        cnd (x533 != x534)
        (Calls Try.prog 93 #[.pointer s_, .int .i64 x533] w531 fun e w535 => ∃ r536 : Int, e = .returned (.int .i64 r536) ∧ 
          cnd (r536 == (0 : Int))
          (∃ k528, k528 < k527 ∧ I526 true (IntKind.i64.wrap (v530 + (1 : Int))) w535 k528)
          (∃ a537 : Addr, s_ = some a537 ∧ ∃ x538 : Option Nat, w535.cell? (a537.add 2) = some (.map x538) ∧ 
          ∃ w539 : World, ∃ r540 : Bool, (Instr.lookup 84 (.map x538) (.int .i64 x533) false).run Try.prog w535 = .ok (.bool r540) w539 ∧ 
          cnd r540
          (∃ k528, k528 < k527 ∧ I526 true (IntKind.i64.wrap (v530 + (1 : Int))) w539 k528)
          (Calls Try.prog 94 #[.pointer s_, .int .i64 x533, .map known_] w539 fun e w541 => ∃ r542 : Bool, e = .returned (.bool r542) ∧ 
          ∃ k528, k528 < k527 ∧ I526 r542 (IntKind.i64.wrap (v530 + (1 : Int))) w541 k528)))
        (∃ k528, k528 < k527 ∧ I526 is_529 (IntKind.i64.wrap (v530 + (1 : Int))) w531 k528))
        (∃ k528, k528 < k527 ∧ I526 is_529 (IntKind.i64.wrap (v530 + (1 : Int))) w531 k528))
      (Calls Try.prog 97 #[.int .i64 l_] w531 fun e w543 => ∃ r544 : Int, e = .returned (.int .i64 r544) ∧ 
        ∃ w545 : World, (Instr.mapUpdate 84 (.map known_) (.int .i64 r544) (.bool is_529)).run Try.prog w543 = .ok () w545 ∧ 
        K (.bool is_529) w545))) ∧
  (∃ w546 : World, ∃ r547 : Int, (Instr.lookup 82 (.map x326) (.int .i64 r454) false).run Try.prog w453 = .ok (.int .i64 r547) w546 ∧ 
    (∃ x548_p : Option Addr, ∃ x548_n : Nat, ∃ x548_c : Nat, w546.cell? (a6.add 0) = some (.slice x548_p x548_n x548_c) ∧ 
    ixK x548_p x548_n (IntKind.i64.wrap (r547 - (1 : Int))) 3 fun a549 =>
    (∃ x550 : Int, ∃ x551 : Int, ∃ x552_p : Option Addr, ∃ x552_n : Nat, ∃ x552_c : Nat, CellsAt w546 a549 0 [.int .i64 x550, .int .i64 x551, .slice x552_p x552_n x552_c] ∧ 
    ∀ (n553 : Nat) (w554 : World), New (.cells #[.int .i64 0, .int .i64 0, .slice none 0 0] 73) w546 n553 w554 → 
    ∃ w555 : World, StoreAt (Addr.mk n553 0 none) 0 [.int .i64 x550, .int .i64 x551, .slice x552_p x552_n x552_c] w554 w555 ∧ 
    ∃ x556_p : Option Addr, ∃ x556_n : Nat, ∃ x556_c : Nat, w555.cell? ((Addr.mk n553 0 none).add 2) = some (.slice x556_p x556_n x556_c) ∧ 
    ∃ x557_p : Option Addr, ∃ x557_n : Nat, ∃ x557_c : Nat, w555.cell? ((Addr.mk n553 0 none).add 2) = some (.slice x557_p x557_n x557_c) ∧ 
    ∃ I558 : Bool → Int → World → Nat → Prop, (∃ k559, I558 (decide ((x556_n : Int) > (0 : Int))) 0 w555 k559) ∧
    ∀ (is_561 : Bool) (v562 : Int) (w563 : World) (k559 : Nat) (_ : Fr), I558 is_561 v562 w563 k559 →
    cnd (decide (v562 < (x557_n : Int)))
      (ixK x557_p x557_n v562 1 fun a564 =>
        ∃ x565 : Int, w563.cell? a564 = some (.int .i64 x565) ∧ 
        cnd is_561
        (∃ x566 : Int, w563.cell? ((Addr.mk n553 0 none).add 0) = some (.int .i64 x566) ∧ 
        cnd (x565 != x566)
        (Calls Try.prog 93 #[.pointer s_, .int .i64 x565] w563 fun e w567 => ∃ r568 : Int, e = .returned (.int .i64 r568) ∧ 
          cnd (r568 == (0 : Int))
          (∃ k560, k560 < k559 ∧ I558 true (IntKind.i64.wrap (v562 + (1 : Int))) w567 k560)
          (∃ a569 : Addr, s_ = some a569 ∧ ∃ x570 : Option Nat, w567.cell? (a569.add 2) = some (.map x570) ∧ 
          ∃ w571 : World, ∃ r572 : Bool, (Instr.lookup 84 (.map x570) (.int .i64 x565) false).run Try.prog w567 = .ok (.bool r572) w571 ∧ 
          cnd r572
          (∃ k560, k560 < k559 ∧ I558 true (IntKind.i64.wrap (v562 + (1 : Int))) w571 k560)
          (Calls Try.prog 94 #[.pointer s_, .int .i64 x565, .map known_] w571 fun e w573 => ∃ r574 : Bool, e = .returned (.bool r574) ∧ 
          ∃ k560, k560 < k559 ∧ I558 r574 (IntKind.i64.wrap (v562 + (1 : Int))) w573 k560)))
        (∃ k560, k560 < k559 ∧ I558 is_561 (IntKind.i64.wrap (v562 + (1 : Int))) w563 k560))
        (∃ k560, k560 < k559 ∧ I558 is_561 (IntKind.i64.wrap (v562 + (1 : Int))) w563 k560))
      (Calls Try.prog 97 #[.int .i64 l_] w563 fun e w575 => ∃ r576 : Int, e = .returned (.int .i64 r576) ∧ 
        ∃ w577 : World, (Instr.mapUpdate 84 (.map known_) (.int .i64 r576) (.bool is_561)).run Try.prog w575 = .ok () w577 ∧ 
        K (.bool is_561) w577)) ∧
  (∀ (n578 : Nat) (w579 : World), New (.cells #[.int .i64 0, .int .i64 0, .slice none 0 0] 73) w546 n578 w579 → 
    ∃ x580 : Int, ∃ x581 : Int, ∃ x582_p : Option Addr, ∃ x582_n : Nat, ∃ x582_c : Nat, CellsAt w579 a549 0 [.int .i64 x580, .int .i64 x581, .slice x582_p x582_n x582_c] ∧ 
    ∃ w583 : World, StoreAt (Addr.mk n578 0 none) 0 [.int .i64 x580, .int .i64 x581, .slice x582_p x582_n x582_c] w579 w583 ∧ 
    ∃ x584_p : Option Addr, ∃ x584_n : Nat, ∃ x584_c : Nat, w583.cell? ((Addr.mk n578 0 none).add 2) = some (.slice x584_p x584_n x584_c) ∧ 
    ∃ x585_p : Option Addr, ∃ x585_n : Nat, ∃ x585_c : Nat, w583.cell? ((Addr.mk n578 0 none).add 2) = some (.slice x585_p x585_n x585_c) ∧ 
    ∃ I586 : Bool → Int → World → Nat → Prop, (∃ k587, I586 (decide ((x584_n : Int) > (0 : Int))) 0 w583 k587) ∧
    ∀ (is_589 : Bool) (v590 : Int) (w591 : World) (k587 : Nat) (_ : Fr), I586 is_589 v590 w591 k587 →
    cnd (decide (v590 < (x585_n : Int)))
      (ixK x585_p x585_n v590 1 fun a592 =>
        ∃ x593 : Int, w591.cell? a592 = some (.int .i64 x593) ∧ 
        cnd is_589
        (∃ x594 : Int, w591.cell? ((Addr.mk n578 0 none).add 0) = some (.int .i64 x594) ∧ 
        cnd (x593 != x594)
        (Calls Try.prog 93 #[.pointer s_, .int .i64 x593] w591 fun e w595 => ∃ r596 : Int, e = .returned (.int .i64 r596) ∧ 
          cnd (r596 == (0 : Int))
          (∃ k588, k588 < k587 ∧ I586 true (IntKind.i64.wrap (v590 + (1 : Int))) w595 k588)
          (∃ a597 : Addr, s_ = some a597 ∧ ∃ x598 : Option Nat, w595.cell? (a597.add 2) = some (.map x598) ∧ 
          ∃ w599 : World, ∃ r600 : Bool, (Instr.lookup 84 (.map x598) (.int .i64 x593) false).run Try.prog w595 = .ok (.bool r600) w599 ∧ 
          cnd r600
          (∃ k588, k588 < k587 ∧ I586 true (IntKind.i64.wrap (v590 + (1 : Int))) w599 k588)
          (Calls Try.prog 94 #[.pointer s_, .int .i64 x593, .map known_] w599 fun e w601 => ∃ r602 : Bool, e = .returned (.bool r602) ∧ 
          ∃ k588, k588 < k587 ∧ I586 r602 (IntKind.i64.wrap (v590 + (1 : Int))) w601 k588)))
        (∃ k588, k588 < k587 ∧ I586 is_589 (IntKind.i64.wrap (v590 + (1 : Int))) w591 k588))
        (∃ k588, k588 < k587 ∧ I586 is_589 (IntKind.i64.wrap (v590 + (1 : Int))) w591 k588))
      (Calls Try.prog 97 #[.int .i64 l_] w591 fun e w603 => ∃ r604 : Int, e = .returned (.int .i64 r604) ∧ 
        ∃ w605 : World, (Instr.mapUpdate 84 (.map known_) (.int .i64 r604) (.bool is_589)).run Try.prog w603 = .ok () w605 ∧ 
        K (.bool is_589) w605))) ∧
  (∀ (n606 : Nat) (w607 : World), New (.cells #[.int .i64 0, .int .i64 0, .slice none 0 0] 73) w546 n606 w607 → 
    ∃ x608_p : Option Addr, ∃ x608_n : Nat, ∃ x608_c : Nat, w607.cell? (a6.add 0) = some (.slice x608_p x608_n x608_c) ∧ 
    ixK x608_p x608_n (IntKind.i64.wrap (r547 - (1 : Int))) 3 fun a609 =>
    ∃ x610 : Int, ∃ x611 : Int, ∃ x612_p : Option Addr, ∃ x612_n : Nat, ∃ x612_c : Nat, CellsAt w607 a609 0 [.int .i64 x610, .int .i64 x611, .slice x612_p x612_n x612_c] ∧ 
    ∃ w613 : World, StoreAt (Addr.mk n606 0 none) 0 [.int .i64 x610, .int .i64 x611, .slice x612_p x612_n x612_c] w607 w613 ∧ 
    ∃ x614_p : Option Addr, ∃ x614_n : Nat, ∃ x614_c : Nat, w613.cell? ((Addr.mk n606 0 none).add 2) = some (.slice x614_p x614_n x614_c) ∧ 
    ∃ x615_p : Option Addr, ∃ x615_n : Nat, ∃ x615_c : Nat, w613.cell? ((Addr.mk n606 0 none).add 2) = some (.slice x615_p x615_n x615_c) ∧ 
    ∃ I616 : Bool → Int → World → Nat → Prop, (∃ k617, I616 (decide ((x614_n : Int) > (0 : Int))) 0 w613 k617) ∧
    ∀ (is_619 : Bool) (v620 : Int) (w621 : World) (k617 : Nat) (_ : Fr), I616 is_619 v620 w621 k617 →
    cnd (decide (v620 < (x615_n : Int)))
      (ixK x615_p x615_n v620 1 fun a622 =>
        ∃ x623 : Int, w621.cell? a622 = some (.int .i64 x623) ∧ 
        cnd is_619
        (∃ x624 : Int, w621.cell? ((Addr.mk n606 0 none).add 0) = some (.int .i64 x624) ∧ 
        cnd (x623 != x624)
        (Calls Try.prog 93 #[.pointer s_, .int .i64 x623] w621 fun e w625 => ∃ r626 : Int, e = .returned (.int .i64 r626) ∧ 
          cnd (r626 == (0 : Int))
          (∃ k618, k618 < k617 ∧ I616 true (IntKind.i64.wrap (v620 + (1 : Int))) w625 k618)
          (∃ a627 : Addr, s_ = some a627 ∧ ∃ x628 : Option Nat, w625.cell? (a627.add 2) = some (.map x628) ∧ 
          ∃ w629 : World, ∃ r630 : Bool, (Instr.lookup 84 (.map x628) (.int .i64 x623) false).run Try.prog w625 = .ok (.bool r630) w629 ∧ 
          cnd r630
          (∃ k618, k618 < k617 ∧ I616 true (IntKind.i64.wrap (v620 + (1 : Int))) w629 k618)
          (Calls Try.prog 94 #[.pointer s_, .int .i64 x623, .map known_] w629 fun e w631 => ∃ r632 : Bool, e = .returned (.bool r632) ∧ 
          ∃ k618, k618 < k617 ∧ I616 r632 (IntKind.i64.wrap (v620 + (1 : Int))) w631 k618)))
        (∃ k618, k618 < k617 ∧ I616 is_619 (IntKind.i64.wrap (v620 + (1 : Int))) w621 k618))
        (∃ k618, k618 < k617 ∧ I616 is_619 (IntKind.i64.wrap (v620 + (1 : Int))) w621 k618))
      (Calls Try.prog 97 #[.int .i64 l_] w621 fun e w633 => ∃ r634 : Int, e = .returned (.int .i64 r634) ∧ 
        ∃ w635 : World, (Instr.mapUpdate 84 (.map known_) (.int .i64 r634) (.bool is_619)).run Try.prog w633 = .ok () w635 ∧ 
        K (.bool is_619) w635))) ∧
  (∀ (n636 : Nat) (w637 : World), New (.cells #[.int .i64 0, .int .i64 0, .slice none 0 0] 73) w453 n636 w637 → 
    (∃ x638_p : Option Addr, ∃ x638_n : Nat, ∃ x638_c : Nat, w637.cell? (a6.add 0) = some (.slice x638_p x638_n x638_c) ∧ 
    ∃ w639 : World, ∃ r640 : Int, (Instr.lookup 82 (.map x326) (.int .i64 r454) false).run Try.prog w637 = .ok (.int .i64 r640) w639 ∧ 
    ixK x638_p x638_n (IntKind.i64.wrap (r640 - (1 : Int))) 3 fun a641 =>
    ∃ x642 : Int, ∃ x643 : Int, ∃ x644_p : Option Addr, ∃ x644_n : Nat, ∃ x644_c : Nat, CellsAt w639 a641 0 [.int .i64 x642, .int .i64 x643, .slice x644_p x644_n x644_c] ∧ 
    ∃ w645 : World, StoreAt (Addr.mk n636 0 none) 0 [.int .i64 x642, .int .i64 x643, .slice x644_p x644_n x644_c] w639 w645 ∧ 
    ∃ x646_p : Option Addr, ∃ x646_n : Nat, ∃ x646_c : Nat, w645.cell? ((Addr.mk n636 0 none).add 2) = some (.slice x646_p x646_n x646_c) ∧ 
    ∃ x647_p : Option Addr, ∃ x647_n : Nat, ∃ x647_c : Nat, w645.cell? ((Addr.mk n636 0 none).add 2) = some (.slice x647_p x647_n x647_c) ∧ 
    ∃ I648 : Bool → Int → World → Nat → Prop, (∃ k649, I648 (decide ((x646_n : Int) > (0 : Int))) 0 w645 k649) ∧
    ∀ (is_651 : Bool) (v652 : Int) (w653 : World) (k649 : Nat) (_ : Fr), I648 is_651 v652 w653 k649 →
    cnd (decide (v652 < (x647_n : Int)))
      (ixK x647_p x647_n v652 1 fun a654 =>
        ∃ x655 : Int, w653.cell? a654 = some (.int .i64 x655) ∧ 
        cnd is_651
        (∃ x656 : Int, w653.cell? ((Addr.mk n636 0 none).add 0) = some (.int .i64 x656) ∧ 
        cnd (x655 != x656)
        (Calls Try.prog 93 #[.pointer s_, .int .i64 x655] w653 fun e w657 => ∃ r658 : Int, e = .returned (.int .i64 r658) ∧ 
          cnd (r658 == (0 : Int))
          (∃ k650, k650 < k649 ∧ I648 true (IntKind.i64.wrap (v652 + (1 : Int))) w657 k650)
          (∃ a659 : Addr, s_ = some a659 ∧ ∃ x660 : Option Nat, w657.cell? (a659.add 2) = some (.map x660) ∧ 
          ∃ w661 : World, ∃ r662 : Bool, (Instr.lookup 84 (.map x660) (.int .i64 x655) false).run Try.prog w657 = .ok (.bool r662) w661 ∧ 
          cnd r662
          (∃ k650, k650 < k649 ∧ I648 true (IntKind.i64.wrap (v652 + (1 : Int))) w661 k650)
          (Calls Try.prog 94 #[.pointer s_, .int .i64 x655, .map known_] w661 fun e w663 => ∃ r664 : Bool, e = .returned (.bool r664) ∧ 
          ∃ k650, k650 < k649 ∧ I648 r664 (IntKind.i64.wrap (v652 + (1 : Int))) w663 k650)))
        (∃ k650, k650 < k649 ∧ I648 is_651 (IntKind.i64.wrap (v652 + (1 : Int))) w653 k650))
        (∃ k650, k650 < k649 ∧ I648 is_651 (IntKind.i64.wrap (v652 + (1 : Int))) w653 k650))
      (Calls Try.prog 97 #[.int .i64 l_] w653 fun e w665 => ∃ r666 : Int, e = .returned (.int .i64 r666) ∧ 
        ∃ w667 : World, (Instr.mapUpdate 84 (.map known_) (.int .i64 r666) (.bool is_651)).run Try.prog w665 = .ok () w667 ∧ 
        K (.bool is_651) w667)) ∧
  (∃ w668 : World, ∃ r669 : Int, (Instr.lookup 82 (.map x326) (.int .i64 r454) false).run Try.prog w637 = .ok (.int .i64 r669) w668 ∧ 
    ∃ x670_p : Option Addr, ∃ x670_n : Nat, ∃ x670_c : Nat, w668.cell? (a6.add 0) = some (.slice x670_p x670_n x670_c) ∧ 
    ixK x670_p x670_n (IntKind.i64.wrap (r669 - (1 : Int))) 3 fun a671 =>
    ∃ x672 : Int, ∃ x673 : Int, ∃ x674_p : Option Addr, ∃ x674_n : Nat, ∃ x674_c : Nat, CellsAt w668 a671 0 [.int .i64 x672, .int .i64 x673, .slice x674_p x674_n x674_c] ∧ 
    ∃ w675 : World, StoreAt (Addr.mk n636 0 none) 0 [.int .i64 x672, .int .i64 x673, .slice x674_p x674_n x674_c] w668 w675 ∧ 
    ∃ x676_p : Option Addr, ∃ x676_n : Nat, ∃ x676_c : Nat, w675.cell? ((Addr.mk n636 0 none).add 2) = some (.slice x676_p x676_n x676_c) ∧ 
    ∃ x677_p : Option Addr, ∃ x677_n : Nat, ∃ x677_c : Nat, w675.cell? ((Addr.mk n636 0 none).add 2) = some (.slice x677_p x677_n x677_c) ∧ 
    ∃ I678 : Bool → Int → World → Nat → Prop, (∃ k679, I678 (decide ((x676_n : Int) > (0 : Int))) 0 w675 k679) ∧
    ∀ (is_681 : Bool) (v682 : Int) (w683 : World) (k679 : Nat) (_ : Fr), I678 is_681 v682 w683 k679 →
    cnd (decide (v682 < (x677_n : Int)))
      (ixK x677_p x677_n v682 1 fun a684 =>
        ∃ x685 : Int, w683.cell? a684 = some (.int .i64 x685) ∧ 
        cnd is_681
        (∃ x686 : Int, w683.cell? ((Addr.mk n636 0 none).add 0) = some (.int .i64 x686) ∧ 
        cnd (x685 != x686)
        (Calls Try.prog 93 #[.pointer s_, .int .i64 x685] w683 fun e w687 => ∃ r688 : Int, e = .returned (.int .i64 r688) ∧ 
          cnd (r688 == (0 : Int))
          (∃ k680, k680 < k679 ∧ I678 true (IntKind.i64.wrap (v682 + (1 : Int))) w687 k680)
          (∃ a689 : Addr, s_ = some a689 ∧ ∃ x690 : Option Nat, w687.cell? (a689.add 2) = some (.map x690) ∧ 
          ∃ w691 : World, ∃ r692 : Bool, (Instr.lookup 84 (.map x690) (.int .i64 x685) false).run Try.prog w687 = .ok (.bool r692) w691 ∧ 
          cnd r692
          (∃ k680, k680 < k679 ∧ I678 true (IntKind.i64.wrap (v682 + (1 : Int))) w691 k680)
          (Calls Try.prog 94 #[.pointer s_, .int .i64 x685, .map known_] w691 fun e w693 => ∃ r694 : Bool, e = .returned (.bool r694) ∧ 
          ∃ k680, k680 < k679 ∧ I678 r694 (IntKind.i64.wrap (v682 + (1 : Int))) w693 k680)))
        (∃ k680, k680 < k679 ∧ I678 is_681 (IntKind.i64.wrap (v682 + (1 : Int))) w683 k680))
        (∃ k680, k680 < k679 ∧ I678 is_681 (IntKind.i64.wrap (v682 + (1 : Int))) w683 k680))
      (Calls Try.prog 97 #[.int .i64 l_] w683 fun e w695 => ∃ r696 : Int, e = .returned (.int .i64 r696) ∧ 
        ∃ w697 : World, (Instr.mapUpdate 84 (.map known_) (.int .i64 r696) (.bool is_681)).run Try.prog w695 = .ok () w697 ∧ 
        K (.bool is_681) w697)))) ∧
  (∀ (n698 : Nat) (w699 : World), New (.cells #[.int .i64 0, .int .i64 0, .slice none 0 0] 73) w3.drew n698 w699 → 
    (∃ x700_p : Option Addr, ∃ x700_n : Nat, ∃ x700_c : Nat, w699.cell? (a6.add 0) = some (.slice x700_p x700_n x700_c) ∧ 
    Calls Try.prog 97 #[.int .i64 l_] w699 fun e w701 => ∃ r702 : Int, e = .returned (.int .i64 r702) ∧ 
    ∃ w703 : World, ∃ r704 : Int, (Instr.lookup 82 (.map x326) (.int .i64 r702) false).run Try.prog w701 = .ok (.int .i64 r704) w703 ∧ 
    ixK x700_p x700_n (IntKind.i64.wrap (r704 - (1 : Int))) 3 fun a705 =>
    ∃ x706 : Int, ∃ x707 : Int, ∃ x708_p : Option Addr, ∃ x708_n : Nat, ∃ x708_c : Nat, CellsAt w703 a705 0 [.int .i64 x706, .int .i64 x707, .slice x708_p x708_n x708_c] ∧ 
    ∃ w709 : World, StoreAt (Addr.mk n698 0 none) 0 [.int .i64 x706, .int .i64 x707, .slice x708_p x708_n x708_c] w703 w709 ∧ 
    ∃ x710_p : Option Addr, ∃ x710_n : Nat, ∃ x710_c : Nat, w709.cell? ((Addr.mk n698 0 none).add 2) = some (.slice x710_p x710_n x710_c) ∧ 
    ∃ x711_p : Option Addr, ∃ x711_n : Nat, ∃ x711_c : Nat, w709.cell? ((Addr.mk n698 0 none).add 2) = some (.slice x711_p x711_n x711_c) ∧ 
    ∃ I712 : Bool → Int → World → Nat → Prop, (∃ k713, I712 (decide ((x710_n : Int) > (0 : Int))) 0 w709 k713) ∧
    ∀ (is_715 : Bool) (v716 : Int) (w717 : World) (k713 : Nat) (_ : Fr), I712 is_715 v716 w717 k713 →
    cnd (decide (v716 < (x711_n : Int)))
      (ixK x711_p x711_n v716 1 fun a718 =>
        ∃ x719 : Int, w717.cell? a718 = some (.int .i64 x719) ∧ 
        cnd is_715
        (∃ x720 : Int, w717.cell? ((Addr.mk n698 0 none).add 0) = some (.int .i64 x720) ∧ 
        cnd (x719 != x720)
        (Calls Try.prog 93 #[.pointer s_, .int .i64 x719] w717 fun e w721 => ∃ r722 : Int, e = .returned (.int .i64 r722) ∧ 
          cnd (r722 == (0 : Int))
          (∃ k714, k714 < k713 ∧ I712 true (IntKind.i64.wrap (v716 + (1 : Int))) w721 k714)
          (∃ a723 : Addr, s_ = some a723 ∧ ∃ x724 : Option Nat, w721.cell? (a723.add 2) = some (.map x724) ∧ 
          ∃ w725 : World, ∃ r726 : Bool, (Instr.lookup 84 (.map x724) (.int .i64 x719) false).run Try.prog w721 = .ok (.bool r726) w725 ∧ 
          cnd r726
          (∃ k714, k714 < k713 ∧ I712 true (IntKind.i64.wrap (v716 + (1 : Int))) w725 k714)
          (Calls Try.prog 94 #[.pointer s_, .int .i64 x719, .map known_] w725 fun e w727 => ∃ r728 : Bool, e = .returned (.bool r728) ∧ 
          ∃ k714, k714 < k713 ∧ I712 r728 (IntKind.i64.wrap (v716 + (1 : Int))) w727 k714)))
        (∃ k714, k714 < k713 ∧ I712 is_715 (IntKind.i64.wrap (v716 + (1 : Int))) w717 k714))
        (∃ k714, k714 < k713 ∧ I712 is_715 (IntKind.i64.wrap (v716 + (1 : Int))) w717 k714))
      (Calls Try.prog 97 #[.int .i64 l_] w717 fun e w729 => ∃ r730 : Int, e = .returned (.int .i64 r730) ∧ 
        ∃ w731 : World, (Instr.mapUpdate 84 (.map known_) (.int .i64 r730) (.bool is_715)).run Try.prog w729 = .ok () w731 ∧ 
        K (.bool is_715) w731)) ∧
  (Calls Try.prog 97 #[.int .i64 l_] w699 fun e w732 => ∃ r733 : Int, e = .returned (.int .i64 r733) ∧ 
    (∃ x734_p : Option Addr, ∃ x734_n : Nat, ∃ x734_c : Nat, w732.cell? (a6.add 0) = some (.slice x734_p x734_n x734_c) ∧ 
    ∃ w735 : World, ∃ r736 : Int, (Instr.lookup 82 (.map x326) (.int .i64 r733) false).run Try.prog w732 = .ok (.int .i64 r736) w735 ∧ 
    ixK x734_p x734_n (IntKind.i64.wrap (r736 - (1 : Int))) 3 fun a737 =>
    ∃ x738 : Int, ∃ x739 : Int, ∃ x740_p : Option Addr, ∃ x740_n : Nat, ∃ x740_c : Nat, CellsAt w735 a737 0 [.int .i64 x738, .int .i64 x739, .slice x740_p x740_n x740_c] ∧ 
    ∃ w741 : World, StoreAt (Addr.mk n698 0 none) 0 [.int .i64 x738, .int .i64 x739, .slice x740_p x740_n x740_c] w735 w741 ∧ 
    ∃ x742_p : Option Addr, ∃ x742_n : Nat, ∃ x742_c : Nat, w741.cell? ((Addr.mk n698 0 none).add 2) = some (.slice x742_p x742_n x742_c) ∧ 
    ∃ x743_p : Option Addr, ∃ x743_n : Nat, ∃ x743_c : Nat, w741.cell? ((Addr.mk n698 0 none).add 2) = some (.slice x743_p x743_n x743_c) ∧ 
    ∃ I744 : Bool → Int → World → Nat → Prop, (∃ k745, I744 (decide ((x742_n : Int) > (0 : Int))) 0 w741 k745) ∧
    ∀ (is_747 : Bool) (v748 : Int) (w749 : World) (k745 : Nat) (_ : Fr), I744 is_747 v748 w749 k745 →
    cnd (decide (v748 < (x743_n : Int)))
      (ixK x743_p x743_n v748 1 fun a750 =>
        ∃ x751 : Int, w749.cell? a750 = some (.int .i64 x751) ∧ 
        cnd is_747
        (∃ x752 : Int, w749.cell? ((Addr.mk n698 0 none).add 0) = some (.int .i64 x752) ∧ 
        cnd (x751 != x752)
        (Calls Try.prog 93 #[.pointer s_, .int .i64 x751] w749 fun e w753 => ∃ r754 : Int, e = .returned (.int .i64 r754) ∧ 
          cnd (r754 == (0 : Int))
          (∃ k746, k746 < k745 ∧ I744 true (IntKind.i64.wrap (v748 + (1 : Int))) w753 k746)
          (∃ a755 : Addr, s_ = some a755 ∧ ∃ x756 : Option Nat, w753.cell? (a755.add 2) = some (.map x756) ∧ 
          ∃ w757 : World, ∃ r758 : Bool, (Instr.lookup 84 (.map x756) (.int .i64 x751) false).run Try.prog w753 = .ok (.bool r758) w757 ∧ 
          cnd r758
          (∃ k746, k746 < k745 ∧ I744 true (IntKind.i64.wrap (v748 + (1 : Int))) w757 k746)
          (Calls Try.prog 94 #[.pointer s_, .int .i64 x751, .map known_] w757 fun e w759 => ∃ r760 : Bool, e = .returned (.bool r760) ∧ 
          ∃ k746, k746 < k745 ∧ I744 r760 (IntKind.i64.wrap (v748 + (1 : Int))) w759 k746)))
        (∃ k746, k746 < k745 ∧ I744 is_747 (IntKind.i64.wrap (v748 + (1 : Int))) w749 k746))
        (∃ k746, k746 < k745 ∧ I744 is_747 (IntKind.i64.wrap (v748 + (1 : Int))) w749 k746))
      (Calls Try.prog 97 #[.int .i64 l_] w749 fun e w761 => ∃ r762 : Int, e = .returned (.int .i64 r762) ∧ 
        ∃ w763 : World, (Instr.mapUpdate 84 (.map known_) (.int .i64 r762) (.bool is_747)).run Try.prog w761 = .ok () w763 ∧ 
        K (.bool is_747) w763)) ∧
  (∃ w764 : World, ∃ r765 : Int, (Instr.lookup 82 (.map x326) (.int .i64 r733) false).run Try.prog w732 = .ok (.int .i64 r765) w764 ∧ 
    ∃ x766_p : Option Addr, ∃ x766_n : Nat, ∃ x766_c : Nat, w764.cell? (a6.add 0) = some (.slice x766_p x766_n x766_c) ∧ 
    ixK x766_p x766_n (IntKind.i64.wrap (r765 - (1 : Int))) 3 fun a767 =>
    ∃ x768 : Int, ∃ x769 : Int, ∃ x770_p : Option Addr, ∃ x770_n : Nat, ∃ x770_c : Nat, CellsAt w764 a767 0 [.int .i64 x768, .int .i64 x769, .slice x770_p x770_n x770_c] ∧ 
    ∃ w771 : World, StoreAt (Addr.mk n698 0 none) 0 [.int .i64 x768, .int .i64 x769, .slice x770_p x770_n x770_c] w764 w771 ∧ 
    ∃ x772_p : Option Addr, ∃ x772_n : Nat, ∃ x772_c : Nat, w771.cell? ((Addr.mk n698 0 none).add 2) = some (.slice x772_p x772_n x772_c) ∧ 
    ∃ x773_p : Option Addr, ∃ x773_n : Nat, ∃ x773_c : Nat, w771.cell? ((Addr.mk n698 0 none).add 2) = some (.slice x773_p x773_n x773_c) ∧ 
    ∃ I774 : Bool → Int → World → Nat → Prop, (∃ k775, I774 (decide ((x772_n : Int) > (0 : Int))) 0 w771 k775) ∧
    ∀ (is_777 : Bool) (v778 : Int) (w779 : World) (k775 : Nat) (_ : Fr), I774 is_777 v778 w779 k775 →
    cnd (decide (v778 < (x773_n : Int)))
      (ixK x773_p x773_n v778 1 fun a780 =>
        ∃ x781 : Int, w779.cell? a780 = some (.int .i64 x781) ∧ 
        cnd is_777
        (∃ x782 : Int, w779.cell? ((Addr.mk n698 0 none).add 0) = some (.int .i64 x782) ∧ 
        cnd (x781 != x782)
        (Calls Try.prog 93 #[.pointer s_, .int .i64 x781] w779 fun e w783 => ∃ r784 : Int, e = .returned (.int .i64 r784) ∧ 
          cnd (r784 == (0 : Int))
          (∃ k776, k776 < k775 ∧ I774 true (IntKind.i64.wrap (v778 + (1 : Int))) w783 k776)
          (∃ a785 : Addr, s_ = some a785 ∧ ∃ x786 : Option Nat, w783.cell? (a785.add 2) = some (.map x786) ∧ 
          ∃ w787 : World, ∃ r788 : Bool, (Instr.lookup 84 (.map x786) (.int .i64 x781) false).run Try.prog w783 = .ok (.bool r788) w787 ∧ 
          cnd r788
          (∃ k776, k776 < k775 ∧ I774 true (IntKind.i64.wrap (v778 + (1 : Int))) w787 k776)
          (Calls Try.prog 94 #[.pointer s_, .int .i64 x781, .map known_] w787 fun e w789 => ∃ r790 : Bool, e = .returned (.bool r790) ∧ 
          ∃ k776, k776 < k775 ∧ I774 r790 (IntKind.i64.wrap (v778 + (1 : Int))) w789 k776)))
        (∃ k776, k776 < k775 ∧ I774 is_777 (IntKind.i64.wrap (v778 + (1 : Int))) w779 k776))
        (∃ k776, k776 < k775 ∧ I774 is_777 (IntKind.i64.wrap (v778 + (1 : Int))) w779 k776))
      (Calls Try.prog 97 #[.int .i64 l_] w779 fun e w791 => ∃ r792 : Int, e = .returned (.int .i64 r792) ∧ 
        ∃ w793 : World, (Instr.mapUpdate 84 (.map known_) (.int .i64 r792) (.bool is_777)).run Try.prog w791 = .ok () w793 ∧ 
        K (.bool is_777) w793))))) ∧
  (Calls Try.prog 97 #[.int .i64 l_] w3.drew fun e w794 => ∃ r795 : Int, e = .returned (.int .i64 r795) ∧ 
    (∃ x796_p : Option Addr, ∃ x796_n : Nat, ∃ x796_c : Nat, w794.cell? (a6.add 0) = some (.slice x796_p x796_n x796_c) ∧ 
    (∃ x797 : Option Nat, w794.cell? (a7.add 1) = some (.map x797) ∧ 
    (∃ w798 : World, ∃ r799 : Int, (Instr.lookup 82 (.map x797) (.int .i64 r795) false).run Try.prog w794 = .ok (.int .i64 r799) w798 ∧ 
    ixK x796_p x796_n (IntKind.i64.wrap (r799 - (1 : Int))) 3 fun a800 =>
    (∃ x801 : Int, ∃ x802 : Int, ∃ x803_p : Option Addr, ∃ x803_n : Nat, ∃ x803_c : Nat, CellsAt w798 a800 0 [.int .i64 x801, .int .i64 x802, .slice x803_p x803_n x803_c] ∧ 
    ∀ (n804 : Nat) (w805 : World), New (.cells #[.int .i64 0, .int .i64 0, .slice none 0 0] 73) w798 n804 w805 → 
    ∃ w806 : World, StoreAt (Addr.mk n804 0 none) 0 [.int .i64 x801, .int .i64 x802, .slice x803_p x803_n x803_c] w805 w806 ∧ 
    ∃ x807_p : Option Addr, ∃ x807_n : Nat, ∃ x807_c : Nat, w806.cell? ((Addr.mk n804 0 none).add 2) = some (.slice x807_p x807_n x807_c) ∧ 
    ∃ x808_p : Option Addr, ∃ x808_n : Nat, ∃ x808_c : Nat, w806.cell? ((Addr.mk n804 0 none).add 2) = some (.slice x808_p x808_n x808_c) ∧ 
    ∃ I809 : Bool → Int → World → Nat → Prop, (∃ k810, I809 (decide ((x807_n : Int) > (0 : Int))) 0 w806 k810) ∧
    ∀ (is_812 : Bool) (v813 : Int) (w814 : World) (k810 : Nat) (_ : Fr), I809 is_812 v813 w814 k810 →
    cnd (decide (v813 < (x808_n : Int)))
      (ixK x808_p x808_n v813 1 fun a815 =>
        ∃ x816 : Int, w814.cell? a815 = some (.int .i64 x816) ∧ 
        cnd is_812
        (∃ x817 : Int, w814.cell? ((Addr.mk n804 0 none).add 0) = some (.int .i64 x817) ∧ 
        cnd (x816 != x817)
        (Calls Try.prog 93 #[.pointer s_, .int .i64 x816] w814 fun e w818 => ∃ r819 : Int, e = .returned (.int .i64 r819) ∧ 
          cnd (r819 == (0 : Int))
          (∃ k811, k811 < k810 ∧ I809 true (IntKind.i64.wrap (v813 + (1 : Int))) w818 k811)
          (∃ a820 : Addr, s_ = some a820 ∧ ∃ x821 : Option Nat, w818.cell? (a820.add 2) = some (.map x821) ∧ 
          ∃ w822 : World, ∃ r823 : Bool, (Instr.lookup 84 (.map x821) (.int .i64 x816) false).run Try.prog w818 = .ok (.bool r823) w822 ∧ 
          cnd r823
          (∃ k811, k811 < k810 ∧ I809 true (IntKind.i64.wrap (v813 + (1 : Int))) w822 k811)
          (Calls Try.prog 94 #[.pointer s_, .int .i64 x816, .map known_] w822 fun e w824 => ∃ r825 : Bool, e = .returned (.bool r825) ∧ 
          ∃ k811, k811 < k810 ∧ I809 r825 (IntKind.i64.wrap (v813 + (1 : Int))) w824 k811)))
        (∃ k811, k811 < k810 ∧ I809 is_812 (IntKind.i64.wrap (v813 + (1 : Int))) w814 k811))
        (∃ k811, k811 < k810 ∧ I809 is_812 (IntKind.i64.wrap (v813 + (1 : Int))) w814 k811))
      (Calls Try.prog 97 #[.int .i64 l_] w814 fun e w826 => ∃ r827 : Int, e = .returned (.int .i64 r827) ∧ 
        ∃ w828 : World, (Instr.mapUpdate 84 (.map known_) (.int .i64 r827) (.bool is_812)).run Try.prog w826 = .ok () w828 ∧ 
        K (.bool is_812) w828)) ∧
  (∀ (n829 : Nat) (w830 : World), New (.cells #[.int .i64 0, .int .i64 0, .slice none 0 0] 73) w798 n829 w830 → 
    ∃ x831 : Int, ∃ x832 : Int, ∃ x833_p : Option Addr, ∃ x833_n : Nat, ∃ x833_c : Nat, CellsAt w830 a800 0 [.int .i64 x831, .int .i64 x832, .slice x833_p x833_n x833_c] ∧ 
    ∃ w834 : World, StoreAt (Addr.mk n829 0 none) 0 [.int .i64 x831, .int .i64 x832, .slice x833_p x833_n x833_c] w830 w834 ∧ 
    ∃ x835_p : Option Addr, ∃ x835_n : Nat, ∃ x835_c : Nat, w834.cell? ((Addr.mk n829 0 none).add 2) = some (.slice x835_p x835_n x835_c) ∧ 
    ∃ x836_p : Option Addr, ∃ x836_n : Nat, ∃ x836_c : Nat, w834.cell? ((Addr.mk n829 0 none).add 2) = some (.slice x836_p x836_n x836_c) ∧ 
    ∃ I837 : Bool → Int → World → Nat → Prop, (∃ k838, I837 (decide ((x835_n : Int) > (0 : Int))) 0 w834 k838) ∧
    ∀ (is_840 : Bool) (v841 : Int) (w842 : World) (k838 : Nat) (_ : Fr), I837 is_840 v841 w842 k838 →
    cnd (decide (v841 < (x836_n : Int)))
      (ixK x836_p x836_n v841 1 fun a843 =>
        ∃ x844 : Int, w842.cell? a843 = some (.int .i64 x844) ∧ 
        cnd is_840
        (∃ x845 : Int, w842.cell? ((Addr.mk n829 0 none).add 0) = some (.int .i64 x845) ∧ 
        cnd (x844 != x845)
        (Calls Try.prog 93 #[.pointer s_, .int .i64 x844] w842 fun e w846 => ∃ r847 : Int, e = .returned (.int .i64 r847) ∧ 
          cnd (r847 == (0 : Int))
          (∃ k839, k839 < k838 ∧ I837 true (IntKind.i64.wrap (v841 + (1 : Int))) w846 k839)
          (∃ a848 : Addr, s_ = some a848 ∧ ∃ x849 : Option Nat, w846.cell? (a848.add 2) = some (.map x849) ∧ 
          ∃ w850 : World, ∃ r851 : Bool, (Instr.lookup 84 (.map x849) (.int .i64 x844) false).run Try.prog w846 = .ok (.bool r851) w850 ∧ 
          cnd r851
          (∃ k839, k839 < k838 ∧ I837 true (IntKind.i64.wrap (v841 + (1 : Int))) w850 k839)
          (Calls Try.prog 94 #[.pointer s_, .int .i64 x844, .map known_] w850 fun e w852 => ∃ r853 : Bool, e = .returned (.bool r853) ∧ 
          ∃ k839, k839 < k838 ∧ I837 r853 (IntKind.i64.wrap (v841 + (1 : Int))) w852 k839)))
        (∃ k839, k839 < k838 ∧ I837 is_840 (IntKind.i64.wrap (v841 + (1 : Int))) w842 k839))
        (∃ k839, k839 < k838 ∧ I837 is_840 (IntKind.i64.wrap (v841 + (1 : Int))) w842 k839))
      (Calls Try.prog 97 #[.int .i64 l_] w842 fun e w854 => ∃ r855 : Int, e = .returned (.int .i64 r855) ∧ 
        ∃ w856 : World, (Instr.mapUpdate 84 (.map known_) (.int .i64 r855) (.bool is_840)).run Try.prog w854 = .ok () w856 ∧ 
        K (.bool is_840) w856))) ∧
  (∀ (n857 : Nat) (w858 : World), New (.cells #[.int .i64 0, .int .i64 0, .slice none 0 0] 73) w794 n857 w858 → 
    ∃ w859 : World, ∃ r860 : Int, (Instr.lookup 82 (.map x797) (.int .i64 r795) false).run Try.prog w858 = .ok (.int .i64 r860) w859 ∧ 
    ixK x796_p x796_n (IntKind.i64.wrap (r860 - (1 : Int))) 3 fun a861 =>
    ∃ x862 : Int, ∃ x863 : Int, ∃ x864_p : Option Addr, ∃ x864_n : Nat, ∃ x864_c : Nat, CellsAt w859 a861 0 [.int .i64 x862, .int .i64 x863, .slice x864_p x864_n x864_c] ∧ 
    ∃ w865 : World, StoreAt (Addr.mk n857 0 none) 0 [.int .i64 x862, .int .i64 x863, .slice x864_p x864_n x864_c] w859 w865 ∧ 
    ∃ x866_p : Option Addr, ∃ x866_n : Nat, ∃ x866_c : Nat, w865.cell? ((Addr.mk n857 0 none).add 2) = some (.slice x866_p x866_n x866_c) ∧ 
    ∃ x867_p : Option Addr, ∃ x867_n : Nat, ∃ x867_c : Nat, w865.cell? ((Addr.mk n857 0 none).add 2) = some (.slice x867_p x867_n x867_c) ∧ 
    ∃ I868 : Bool → Int → World → Nat → Prop, (∃ k869, I868 (decide ((x866_n : Int) > (0 : Int))) 0 w865 k869) ∧
    ∀ (is_871 : Bool) (v872 : Int) (w873 : World) (k869 : Nat) (_ : Fr), I868 is_871 v872 w873 k869 →
    cnd (decide (v872 < (x867_n : Int)))
      (ixK x867_p x867_n v872 1 fun a874 =>
        ∃ x875 : Int, w873.cell? a874 = some (.int .i64 x875) ∧ 
        cnd is_871
        (∃ x876 : Int, w873.cell? ((Addr.mk n857 0 none).add 0) = some (.int .i64 x876) ∧ 
        cnd (x875 != x876)
        (Calls Try.prog 93 #[.pointer s_, .int .i64 x875] w873 fun e w877 => ∃ r878 : Int, e = .returned (.int .i64 r878) ∧ 
          cnd (r878 == (0 : Int))
          (∃ k870, k870 < k869 ∧ I868 true (IntKind.i64.wrap (v872 + (1 : Int))) w877 k870)
          (∃ a879 : Addr, s_ = some a879 ∧ ∃ x880 : Option Nat, w877.cell? (a879.add 2) = some (.map x880) ∧ 
          ∃ w881 : World, ∃ r882 : Bool, (Instr.lookup 84 (.map x880) (.int .i64 x875) false).run Try.prog w877 = .ok (.bool r882) w881 ∧ 
          cnd r882
          (∃ k870, k870 < k869 ∧ I868 true (IntKind.i64.wrap (v872 + (1 : Int))) w881 k870)
          (Calls Try.prog 94 #[.pointer s_, .int .i64 x875, .map known_] w881 fun e w883 => ∃ r884 : Bool, e = .returned (.bool r884) ∧ 
          ∃ k870, k870 < k869 ∧ I868 r884 (IntKind.i64.wrap (v872 + (1 : Int))) w883 k870)))
        (∃ k870, k870 < k869 ∧ I868 is_871 (IntKind.i64.wrap (v872 + (1 : Int))) w873 k870))
        (∃ k870, k870 < k869 ∧ I868 is_871 (IntKind.i64.wrap (v872 + (1 : Int))) w873 k870))
      (Calls Try.prog 97 #[.int .i64 l_] w873 fun e w885 => ∃ r886 : Int, e = .returned (.int .i64 r886) ∧ 
        ∃ w887 : World, (Instr.mapUpdate 84 (.map known_) (.int .i64 r886) (.bool is_871)).run Try.prog w885 = .ok () w887 ∧ 
        K (.bool is_871) w887))) ∧
  (∀ (n888 : Nat) (w889 : World), New (.cells #[.int .i64 0, .int .i64 0, .slice none 0 0] 73) w794 n888 w889 → 
    ∃ x890 : Option Nat, w889.cell? (a7.add 1) = some (.map x890) ∧ 
    ∃ w891 : World, ∃ r892 : Int, (Instr.lookup 82 (.map x890) (.int .i64 r795) false).run Try.prog w889 = .ok (.int .i64 r892) w891 ∧ 
    ixK x796_p x796_n (IntKind.i64.wrap (r892 - (1 : Int))) 3 fun a893 =>
    ∃ x894 : Int, ∃ x895 : Int, ∃ x896_p : Option Addr, ∃ x896_n : Nat, ∃ x896_c : Nat, CellsAt w891 a893 0 [.int .i64 x894, .int .i64 x895, .slice x896_p x896_n x896_c] ∧ 
    ∃ w897 : World, StoreAt (Addr.mk n888 0 none) 0 [.int .i64 x894, .int .i64 x895, .slice x896_p x896_n x896_c] w891 w897 ∧ 
    ∃ x898_p : Option Addr, ∃ x898_n : Nat, ∃ x898_c : Nat, w897.cell? ((Addr.mk n888 0 none).add 2) = some (.slice x898_p x898_n x898_c) ∧ 
    ∃ x899_p : Option Addr, ∃ x899_n : Nat, ∃ x899_c : Nat, w897.cell? ((Addr.mk n888 0 none).add 2) = some (.slice x899_p x899_n x899_c) ∧ 
    ∃ I900 : Bool → Int → World → Nat → Prop, (∃ k901, I900 (decide ((x898_n : Int) > (0 : Int))) 0 w897 k901) ∧
    ∀ (is_903 : Bool) (v904 : Int) (w905 : World) (k901 : Nat) (_ : Fr), I900 is_903 v904 w905 k901 →
    cnd (decide (v904 < (x899_n : Int)))
      (ixK x899_p x899_n v904 1 fun a906 =>
        ∃ x907 : Int, w905.cell? a906 = some (.int .i64 x907) ∧ 
        cnd is_903
        (∃ x908 : Int, w905.cell? ((Addr.mk n888 0 none).add 0) = some (.int .i64 x908) ∧ 
        cnd (x907 != x908)
        (Calls Try.prog 93 #[.pointer s_, .int .i64 x907] w905 fun e w909 => ∃ r910 : Int, e = .returned (.int .i64 r910) ∧ 
          cnd (r910 == (0 : Int))
          (∃ k902, k902 < k901 ∧ I900 true (IntKind.i64.wrap (v904 + (1 : Int))) w909 k902)
          (∃ a911 : Addr, s_ = some a911 ∧ ∃ x912 : Option Nat, w909.cell? (a911.add 2) = some (.map x912) ∧ 
          ∃ w913 : World, ∃ r914 : Bool, (Instr.lookup 84 (.map x912) (.int .i64 x907) false).run Try.prog w909 = .ok (.bool r914) w913 ∧ 
          cnd r914
          (∃ k902, k902 < k901 ∧ I900 true (IntKind.i64.wrap (v904 + (1 : Int))) w913 k902)
          (Calls Try.prog 94 #[.pointer s_, .int .i64 x907, .map known_] w913 fun e w915 => ∃ r916 : Bool, e = .returned (.bool r916) ∧ 
          ∃ k902, k902 < k901 ∧ I900 r916 (IntKind.i64.wrap (v904 + (1 : Int))) w915 k902)))
        (∃ k902, k902 < k901 ∧ I900 is_903 (IntKind.i64.wrap (v904 + (1 : Int))) w905 k902))
        (∃ k902, k902 < k901 ∧ I900 is_903 (IntKind.i64.wrap (v904 + (1 : Int))) w905 k902))
      (Calls Try.prog 97 #[.int .i64 l_] w905 fun e w917 => ∃ r918 : Int, e = .returned (.int .i64 r918) ∧ 
        ∃ w919 : World, (Instr.mapUpdate 84 (.map known_) (.int .i64 r918) (.bool is_903)).run Try.prog w917 = .ok () w919 ∧ 
        K (.bool is_903) w919))) ∧
  (∃ x920 : Option Nat, w794.cell? (a7.add 1) = some (.map x920) ∧ 
    (∃ x921_p : Option Addr, ∃ x921_n : Nat, ∃ x921_c : Nat, w794.cell? (a6.add 0) = some (.slice x921_p x921_n x921_c) ∧ 
    (∃ w922 : World, ∃ r923 : Int, (Instr.lookup 82 (.map x920) (.int .i64 r795) false).run Try.prog w794 = .ok (.int .i64 r923) w922 ∧ 
    ixK x921_p x921_n (IntKind.i64.wrap (r923 - (1 : Int))) 3 fun a924 =>
    (∃ x925 : Int, ∃ x926 : Int, ∃ x927_p : Option Addr, ∃ x927_n : Nat, ∃ x927_c : Nat, CellsAt w922 a924 0 [.int .i64 x925, .int .i64 x926, .slice x927_p x927_n x927_c] ∧ 
    ∀ (n928 : Nat) (w929 : World), New (.cells #[.int .i64 0, .int .i64 0, .slice none 0 0] 73) w922 n928 w929 → 
    ∃ w930 : World, StoreAt (Addr.mk n928 0 none) 0 [.int .i64 x925, .int .i64 x926, .slice x927_p x927_n x927_c] w929 w930 ∧ 
    ∃ x931_p : Option Addr, ∃ x931_n : Nat, ∃ x931_c : Nat, w930.cell? ((Addr.mk n928 0 none).add 2) = some (.slice x931_p x931_n x931_c) ∧ 
    ∃ x932_p : Option Addr, ∃ x932_n : Nat, ∃ x932_c : Nat, w930.cell? ((Addr.mk n928 0 none).add 2) = some (.slice x932_p x932_n x932_c) ∧ 
    ∃ I933 : Bool → Int → World → Nat → Prop, (∃ k934, I933 (decide ((x931_n : Int) > (0 : Int))) 0 w930 k934) ∧
    ∀ (is_936 : Bool) (v937 : Int) (w938 : World) (k934 : Nat) (_ : Fr), I933 is_936 v937 w938 k934 →
    cnd (decide (v937 < (x932_n : Int)))
      (ixK x932_p x932_n v937 1 fun a939 =>
        ∃ x940 : Int, w938.cell? a939 = some (.int .i64 x940) ∧ 
        cnd is_936
        (∃ x941 : Int, w938.cell? ((Addr.mk n928 0 none).add 0) = some (.int .i64 x941) ∧ 
        cnd (x940 != x941)
        (Calls Try.prog 93 #[.pointer s_, .int .i64 x940] w938 fun e w942 => ∃ r943 : Int, e = .returned (.int .i64 r943) ∧ 
          cnd (r943 == (0 : Int))
          (∃ k935, k935 < k934 ∧ I933 true (IntKind.i64.wrap (v937 + (1 : Int))) w942 k935)
          (∃ a944 : Addr, s_ = some a944 ∧ ∃ x945 : Option Nat, w942.cell? (a944.add 2) = some (.map x945) ∧ 
          ∃ w946 : World, ∃ r947 : Bool, (Instr.lookup 84 (.map x945) (.int .i64 x940) false).run Try.prog w942 = .ok (.bool r947) w946 ∧ 
          cnd r947
          (∃ k935, k935 < k934 ∧ I933 true (IntKind.i64.wrap (v937 + (1 : Int))) w946 k935)
          (Calls Try.prog 94 #[.pointer s_, .int .i64 x940, .map known_] w946 fun e w948 => ∃ r949 : Bool, e = .returned (.bool r949) ∧ 
          ∃ k935, k935 < k934 ∧ I933 r949 (IntKind.i64.wrap (v937 + (1 : Int))) w948 k935)))
        (∃ k935, k935 < k934 ∧ I933 is_936 (IntKind.i64.wrap (v937 + (1 : Int))) w938 k935))
        (∃ k935, k935 < k934 ∧ I933 is_936 (IntKind.i64.wrap (v937 + (1 : Int))) w938 k935))
      (Calls Try.prog 97 #[.int .i64 l_] w938 fun e w950 => ∃ r951 : Int, e = .returned (.int .i64 r951) ∧ 
        ∃ w952 : World, (Instr.mapUpdate 84 (.map known_) (.int .i64 r951) (.bool is_936)).run Try.prog w950 = .ok () w952 ∧ 
        K (.bool is_936) w952)) ∧
  (∀ (n953 : Nat) (w954 : World), New (.cells #[.int .i64 0, .int .i64 0, .slice none 0 0] 73) w922 n953 w954 → 
    ∃ x955 : Int, ∃ x956 : Int, ∃ x957_p : Option Addr, ∃ x957_n : Nat, ∃ x957_c : Nat, CellsAt w954 a924 0 [.int .i64 x955, .int .i64 x956, .slice x957_p x957_n x957_c] ∧ 
    ∃ w958 : World, StoreAt (Addr.mk n953 0 none) 0 [.int .i64 x955, .int .i64 x956, .slice x957_p x957_n x957_c] w954 w958 ∧ 
    ∃ x959_p : Option Addr, ∃ x959_n : Nat, ∃ x959_c : Nat, w958.cell? ((Addr.mk n953 0 none).add 2) = some (.slice x959_p x959_n x959_c) ∧ 
    ∃ x960_p : Option Addr, ∃ x960_n : Nat, ∃ x960_c : Nat, w958.cell? ((Addr.mk n953 0 none).add 2) = some (.slice x960_p x960_n x960_c) ∧ 
    ∃ I961 : Bool → Int → World → Nat → Prop, (∃ k962, I961 (decide ((x959_n : Int) > (0 : Int))) 0 w958 k962) ∧
    ∀ (is_964 : Bool) (v965 : Int) (w966 : World) (k962 : Nat) (_ : Fr), I961 is_964 v965 w966 k962 →
    cnd (decide (v965 < (x960_n : Int)))
      (ixK x960_p x960_n v965 1 fun a967 =>
        ∃ x968 : Int, w966.cell? a967 = some (.int .i64 x968) ∧ 
        cnd is_964
        (∃ x969 : Int, w966.cell? ((Addr.mk n953 0 none).add 0) = some (.int .i64 x969) ∧ 
        cnd (x968 != x969)
        (Calls Try.prog 93 #[.pointer s_, .int .i64 x968] w966 fun e w970 => ∃ r971 : Int, e = .returned (.int .i64 r971) ∧ 
          cnd (r971 == (0 : Int))
          (∃ k963, k963 < k962 ∧ I961 true (IntKind.i64.wrap (v965 + (1 : Int))) w970 k963)
          (∃ a972 : Addr, s_ = some a972 ∧ ∃ x973 : Option Nat, w970.cell? (a972.add 2) = some (.map x973) ∧ 
          ∃ w974 : World, ∃ r975 : Bool, (Instr.lookup 84 (.map x973) (.int .i64 x968) false).run Try.prog w970 = .ok (.bool r975) w974 ∧ 
          cnd r975
          (∃ k963, k963 < k962 ∧ I961 true (IntKind.i64.wrap (v965 + (1 : Int))) w974 k963)
          (Calls Try.prog 94 #[.pointer s_, .int .i64 x968, .map known_] w974 fun e w976 => ∃ r977 : Bool, e = .returned (.bool r977) ∧ 
          ∃ k963, k963 < k962 ∧ I961 r977 (IntKind.i64.wrap (v965 + (1 : Int))) w976 k963)))
        (∃ k963, k963 < k962 ∧ I961 is_964 (IntKind.i64.wrap (v965 + (1 : Int))) w966 k963))
        (∃ k963, k963 < k962 ∧ I961 is_964 (IntKind.i64.wrap (v965 + (1 : Int))) w966 k963))
      (Calls Try.prog 97 #[.int .i64 l_] w966 fun e w978 => ∃ r979 : Int, e = .returned (.int .i64 r979) ∧ 
        ∃ w980 : World, (Instr.mapUpdate 84 (.map known_) (.int .i64 r979) (.bool is_964)).run Try.prog w978 = .ok () w980 ∧ 
        K (.bool is_964) w980))) ∧
  (∀ (n981 : Nat) (w982 : World), New (.cells #[.int .i64 0, .int .i64 0, .slice none 0 0] 73) w794 n981 w982 → 
    ∃ w983 : World, ∃ r984 : Int, (Instr.lookup 82 (.map x920) (.int .i64 r795) false).run Try.prog w982 = .ok (.int .i64 r984) w983 ∧ 
    ixK x921_p x921_n (IntKind.i64.wrap (r984 - (1 : Int))) 3 fun a985 =>
    ∃ x986 : Int, ∃ x987 : Int, ∃ x988_p : Option Addr, ∃ x988_n : Nat, ∃ x988_c : Nat, CellsAt w983 a985 0 [.int .i64 x986, .int .i64 x987, .slice x988_p x988_n x988_c] ∧ 
    ∃ w989 : World, StoreAt (Addr.mk n981 0 none) 0 [.int .i64 x986, .int .i64 x987, .slice x988_p x988_n x988_c] w983 w989 ∧ 
    ∃ x990_p : Option Addr, ∃ x990_n : Nat, ∃ x990_c : Nat, w989.cell? ((Addr.mk n981 0 none).add 2) = some (.slice x990_p x990_n x990_c) ∧ 
    ∃ x991_p : Option Addr, ∃ x991_n : Nat, ∃ x991_c : Nat, w989.cell? ((Addr.mk n981 0 none).add 2) = some (.slice x991_p x991_n x991_c) ∧ 
    ∃ I992 : Bool → Int → World → Nat → Prop, (∃ k993, I992 (decide ((x990_n : Int) > (0 : Int))) 0 w989 k993) ∧
    ∀ (is_995 : Bool) (v996 : Int) (w997 : World) (k993 : Nat) (_ : Fr), I992 is_995 v996 w997 k993 →
    cnd (decide (v996 < (x991_n : Int)))
      (ixK x991_p x991_n v996 1 fun a998 =>
        ∃ x999 : Int, w997.cell? a998 = some (.int .i64 x999) ∧ 
        cnd is_995
        (∃ x1000 : Int, w997.cell? ((Addr.mk n981 0 none).add 0) = some (.int .i64 x1000) ∧ 
        cnd (x999 != x1000)
        (Calls Try.prog 93 #[.pointer s_, .int .i64 x999] w997 fun e w1001 => ∃ r1002 : Int, e = .returned (.int .i64 r1002) ∧ 
          cnd (r1002 == (0 : Int))
          (∃ k994, k994 < k993 ∧ I992 true (IntKind.i64.wrap (v996 + (1 : Int))) w1001 k994)
          (∃ a1003 : Addr, s_ = some a1003 ∧ ∃ x1004 : Option Nat, w1001.cell? (a1003.add 2) = some (.map x1004) ∧ 
          ∃ w1005 : World, ∃ r1006 : Bool, (Instr.lookup 84 (.map x1004) (.int .i64 x999) false).run Try.prog w1001 = .ok (.bool r1006) w1005 ∧ 
          cnd r1006
          (∃ k994, k994 < k993 ∧ I992 true (IntKind.i64.wrap (v996 + (1 : Int))) w1005 k994)
          (Calls Try.prog 94 #[.pointer s_, .int .i64 x999, .map known_] w1005 fun e w1007 => ∃ r1008 : Bool, e = .returned (.bool r1008) ∧ 
          ∃ k994, k994 < k993 ∧ I992 r1008 (IntKind.i64.wrap (v996 + (1 : Int))) w1007 k994)))
        (∃ k994, k994 < k993 ∧ I992 is_995 (IntKind.i64.wrap (v996 + (1 : Int))) w997 k994))
        (∃ k994, k994 < k993 ∧ I992 is_995 (IntKind.i64.wrap (v996 + (1 : Int))) w997 k994))
      (Calls Try.prog 97 #[.int .i64 l_] w997 fun e w1009 => ∃ r1010 : Int, e = .returned (.int .i64 r1010) ∧ 
        ∃ w1011 : World, (Instr.mapUpdate 84 (.map known_) (.int .i64 r1010) (.bool is_995)).run Try.prog w1009 = .ok () w1011 ∧ 
        K (.bool is_995) w1011))) ∧
  (∃ w1012 : World, ∃ r1013 : Int, (Instr.lookup 82 (.map x920) (.int .i64 r795) false).run Try.prog w794 = .ok (.int .i64 r1013) w1012 ∧ 
    (∃ x1014_p : Option Addr, ∃ x1014_n : Nat, ∃ x1014_c : Nat, w1012.cell? (a6.add 0) = some (.slice x1014_p x1014_n x1014_c) ∧ 
    ixK x1014_p x1014_n (IntKind.i64.wrap (r1013 - (1 : Int))) 3 fun a1015 =>
    (∃ x1016 : Int, ∃ x1017 : Int, ∃ x1018_p : Option Addr, ∃ x1018_n : Nat, ∃ x1018_c : Nat, CellsAt w1012 a1015 0 [.int .i64 x1016, .int .i64 x1017, .slice x1018_p x1018_n x1018_c] ∧ 
    ∀ (n1019 : Nat) (w1020 : World), New (.cells #[.int .i64 0, .int .i64 0, .slice none 0 0] 73) w1012 n1019 w1020 → 
    ∃ w1021 : World, StoreAt (Addr.mk n1019 0 none) 0 [.int .i64 x1016, .int .i64 x1017, .slice x1018_p x1018_n x1018_c] w1020 w1021 ∧ 
    ∃ x1022_p : Option Addr, ∃ x1022_n : Nat, ∃ x1022_c : Nat, w1021.cell? ((Addr.mk n1019 0 none).add 2) = some (.slice x1022_p x1022_n x1022_c) ∧ 
    ∃ x1023_p : Option Addr, ∃ x1023_n : Nat, ∃ x1023_c : Nat, w1021.cell? ((Addr.mk n1019 0 none).add 2) = some (.slice x1023_p x1023_n x1023_c) ∧ 
    ∃ I1024 : Bool → Int → World → Nat → Prop, (∃ k1025, I1024 (decide ((x1022_n : Int) > (0 : Int))) 0 w1021 k1025) ∧
    ∀ (is_1027 : Bool) (v1028 : Int) (w1029 : World) (k1025 : Nat) (_ : Fr), I1024 is_1027 v1028 w1029 k1025 →
    cnd (decide (v1028 < (x1023_n : Int)))
      (ixK x1023_p x1023_n v1028 1 fun a1030 =>
        ∃ x1031 : Int, w1029.cell? a1030 = some (.int .i64 x1031) ∧ 
        cnd is_1027
        (∃ x1032 : Int, w1029.cell? ((Addr.mk n1019 0 none).add 0) = some (.int .i64 x1032) ∧ 
        cnd (x1031 != x1032)
        (Calls Try.prog 93 #[.pointer s_, .int .i64 x1031] w1029 fun e w1033 => ∃ r1034 : Int, e = .returned (.int .i64 r1034) ∧ 
          cnd (r1034 == (0 : Int))
          (∃ k1026, k1026 < k1025 ∧ I1024 true (IntKind.i64.wrap (v1028 + (1 : Int))) w1033 k1026)
          (∃ a1035 : Addr, s_ = some a1035 ∧ ∃ x1036 : Option Nat, w1033.cell? (a1035.add 2) = some (.map x1036) ∧ 
          ∃ w1037 : World, ∃ r1038 : Bool, (Instr.lookup 84 (.map x1036) (.int .i64 x1031) false).run Try.prog w1033 = .ok (.bool r1038) w1037 ∧ 
          cnd r1038
          (∃ k1026, k1026 < k1025 ∧ I1024 true (IntKind.i64.wrap (v1028 + (1 : Int))) w1037 k1026)
          (Calls Try.prog 94 #[.pointer s_, .int .i64 x1031, .map known_] w1037 fun e w1039 => ∃ r1040 : Bool, e = .returned (.bool r1040) ∧ 
          ∃ k1026, k1026 < k1025 ∧ I1024 r1040 (IntKind.i64.wrap (v1028 + (1 : Int))) w1039 k1026)))
        (∃ k1026, k1026 < k1025 ∧ I1024 is_1027 (IntKind.i64.wrap (v1028 + (1 : Int))) w1029 k1026))
        (∃ k1026, k1026 < k1025 ∧ I1024 is_1027 (IntKind.i64.wrap (v1028 + (1 : Int))) w1029 k1026))
      (Calls Try.prog 97 #[.int .i64 l_] w1029 fun e w1041 => ∃ r1042 : Int, e = .returned (.int .i64 r1042) ∧ 
        ∃ w1043 : World, (Instr.mapUpdate 84 (.map known_) (.int .i64 r1042) (.bool is_1027)).run Try.prog w1041 = .ok () w1043 ∧ 
        K (.bool is_1027) w1043)) ∧
  (∀ (n1044 : Nat) (w1045 : World), New (.cells #[.int .i64 0, .int .i64 0, .slice none 0 0] 73) w1012 n1044 w1045 → 
    ∃ x1046 : Int, ∃ x1047 : Int, ∃ x1048_p : Option Addr, ∃ x1048_n : Nat, ∃ x1048_c : Nat, CellsAt w1045 a1015 0 [.int .i64 x1046, .int .i64 x1047, .slice x1048_p x1048_n x1048_c] ∧ 
    ∃ w1049 : World, StoreAt (Addr.mk n1044 0 none) 0 [.int .i64 x1046, .int .i64 x1047, .slice x1048_p x1048_n x1048_c] w1045 w1049 ∧ 
    ∃ x1050_p : Option Addr, ∃ x1050_n : Nat, ∃ x1050_c : Nat, w1049.cell? ((Addr.mk n1044 0 none).add 2) = some (.slice x1050_p x1050_n x1050_c) ∧ 
    ∃ x1051_p : Option Addr, ∃ x1051_n : Nat, ∃ x1051_c : Nat, w1049.cell? ((Addr.mk n1044 0 none).add 2) = some (.slice x1051_p x1051_n x1051_c) ∧ 
    ∃ I1052 : Bool → Int → World → Nat → Prop, (∃ k1053, I1052 (decide ((x1050_n : Int) > (0 : Int))) 0 w1049 k1053) ∧
    ∀ (is_1055 : Bool) (v1056 : Int) (w1057 : World) (k1053 : Nat) (_ : Fr), I1052 is_1055 v1056 w1057 k1053 →
    cnd (decide (v1056 < (x1051_n : Int)))
      (ixK x1051_p x1051_n v1056 1 fun a1058 =>
        ∃ x1059 : Int, w1057.cell? a1058 = some (.int .i64 x1059) ∧ 
        cnd is_1055
        (∃ x1060 : Int, w1057.cell? ((Addr.mk n1044 0 none).add 0) = some (.int .i64 x1060) ∧ 
        cnd (x1059 != x1060)
        (Calls Try.prog 93 #[.pointer s_, .int .i64 x1059] w1057 fun e w1061 => ∃ r1062 : Int, e = .returned (.int .i64 r1062) ∧ 
          cnd (r1062 == (0 : Int))
          (∃ k1054, k1054 < k1053 ∧ I1052 true (IntKind.i64.wrap (v1056 + (1 : Int))) w1061 k1054)
          (∃ a1063 : Addr, s_ = some a1063 ∧ ∃ x1064 : Option Nat, w1061.cell? (a1063.add 2) = some (.map x1064) ∧ 
          ∃ w1065 : World, ∃ r1066 : Bool, (Instr.lookup 84 (.map x1064) (.int .i64 x1059) false).run Try.prog w1061 = .ok (.bool r1066) w1065 ∧ 
          cnd r1066
          (∃ k1054, k1054 < k1053 ∧ I1052 true (IntKind.i64.wrap (v1056 + (1 : Int))) w1065 k1054)
          (Calls Try.prog 94 #[.pointer s_, .int .i64 x1059, .map known_] w1065 fun e w1067 => ∃ r1068 : Bool, e = .returned (.bool r1068) ∧ 
          ∃ k1054, k1054 < k1053 ∧ I1052 r1068 (IntKind.i64.wrap (v1056 + (1 : Int))) w1067 k1054)))
        (∃ k1054, k1054 < k1053 ∧ I1052 is_1055 (IntKind.i64.wrap (v1056 + (1 : Int))) w1057 k1054))
        (∃ k1054, k1054 < k1053 ∧ I1052 is_1055 (IntKind.i64.wrap (v1056 + (1 : Int))) w1057 k1054))
      (Calls Try.prog 97 #[.int .i64 l_] w1057 fun e w1069 => ∃ r1070 : Int, e = .returned (.int .i64 r1070) ∧ 
        ∃ w1071 : World, (Instr.mapUpdate 84 (.map known_) (.int .i64 r1070) (.bool is_1055)).run Try.prog w1069 = .ok () w1071 ∧ 
        K (.bool is_1055) w1071))) ∧
  (∀ (n1072 : Nat) (w1073 : World), New (.cells #[.int .i64 0, .int .i64 0, .slice none 0 0] 73) w1012 n1072 w1073 → 
    ∃ x1074_p : Option Addr, ∃ x1074_n : Nat, ∃ x1074_c : Nat, w1073.cell? (a6.add 0) = some (.slice x1074_p x1074_n x1074_c) ∧ 
    ixK x1074_p x1074_n (IntKind.i64.wrap (r1013 - (1 : Int))) 3 fun a1075 =>
    ∃ x1076 : Int, ∃ x1077 : Int, ∃ x1078_p : Option Addr, ∃ x1078_n : Nat, ∃ x1078_c : Nat, CellsAt w1073 a1075 0 [.int .i64 x1076, .int .i64 x1077, .slice x1078_p x1078_n x1078_c] ∧ 
    ∃ w1079 : World, StoreAt (Addr.mk n1072 0 none) 0 [.int .i64 x1076, .int .i64 x1077, .slice x1078_p x1078_n x1078_c] w1073 w1079 ∧ 
    ∃ x1080_p : Option Addr, ∃ x1080_n : Nat, ∃ x1080_c : Nat, w1079.cell? ((Addr.mk n1072 0 none).add 2) = some (.slice x1080_p x1080_n x1080_c) ∧ 
    ∃ x1081_p : Option Addr, ∃ x1081_n : Nat, ∃ x1081_c : Nat, w1079.cell? ((Addr.mk n1072 0 none).add 2) = some (.slice x1081_p x1081_n x1081_c) ∧ 
    ∃ I1082 : Bool → Int → World → Nat → Prop, (∃ k1083, I1082 (decide ((x1080_n : Int) > (0 : Int))) 0 w1079 k1083) ∧
    ∀ (is_1085 : Bool) (v1086 : Int) (w1087 : World) (k1083 : Nat) (_ : Fr), I1082 is_1085 v1086 w1087 k1083 →
    cnd (decide (v1086 < (x1081_n : Int)))
      (ixK x1081_p x1081_n v1086 1 fun a1088 =>
        ∃ x1089 : Int, w1087.cell? a1088 = some (.int .i64 x1089) ∧ 
        cnd is_1085
        (∃ x1090 : Int, w1087.cell? ((Addr.mk n1072 0 none).add 0) = some (.int .i64 x1090) ∧ 
        cnd (x1089 != x1090)
        (Calls Try.prog 93 #[.pointer s_, .int .i64 x1089] w1087 fun e w1091 => ∃ r1092 : Int, e = .returned (.int .i64 r1092) ∧ 
          cnd (r1092 == (0 : Int))
          (∃ k1084, k1084 < k1083 ∧ I1082 true (IntKind.i64.wrap (v1086 + (1 : Int))) w1091 k1084)
          (∃ a1093 : Addr, s_ = some a1093 ∧ ∃ x1094 : Option Nat, w1091.cell? (a1093.add 2) = some (.map x1094) ∧ 
          ∃ w1095 : World, ∃ r1096 : Bool, (Instr.lookup 84 (.map x1094) (.int .i64 x1089) false).run Try.prog w1091 = .ok (.bool r1096) w1095 ∧ 
          cnd r1096
          (∃ k1084, k1084 < k1083 ∧ I1082 true (IntKind.i64.wrap (v1086 + (1 : Int))) w1095 k1084)
          (Calls Try.prog 94 #[.pointer s_, .int .i64 x1089, .map known_] w1095 fun e w1097 => ∃ r1098 : Bool, e = .returned (.bool r1098) ∧ 
          ∃ k1084, k1084 < k1083 ∧ I1082 r1098 (IntKind.i64.wrap (v1086 + (1 : Int))) w1097 k1084)))
        (∃ k1084, k1084 < k1083 ∧ I1082 is_1085 (IntKind.i64.wrap (v1086 + (1 : Int))) w1087 k1084))
        (∃ k1084, k1084 < k1083 ∧ I1082 is_1085 (IntKind.i64.wrap (v1086 + (1 : Int))) w1087 k1084))
      (Calls Try.prog 97 #[.int .i64 l_] w1087 fun e w1099 => ∃ r1100 : Int, e = .returned (.int .i64 r1100) ∧ 
        ∃ w1101 : World, (Instr.mapUpdate 84 (.map known_) (.int .i64 r1100) (.bool is_1085)).run Try.prog w1099 = .ok () w1101 ∧ 
        K (.bool is_1085) w1101))) ∧
  (∀ (n1102 : Nat) (w1103 : World), New (.cells #[.int .i64 0, .int .i64 0, .slice none 0 0] 73) w794 n1102 w1103 → 
    (∃ x1104_p : Option Addr, ∃ x1104_n : Nat, ∃ x1104_c : Nat, w1103.cell? (a6.add 0) = some (.slice x1104_p x1104_n x1104_c) ∧ 
    ∃ w1105 : World, ∃ r1106 : Int, (Instr.lookup 82 (.map x920) (.int .i64 r795) false).run Try.prog w1103 = .ok (.int .i64 r1106) w1105 ∧ 
    ixK x1104_p x1104_n (IntKind.i64.wrap (r1106 - (1 : Int))) 3 fun a1107 =>
    ∃ x1108 : Int, ∃ x1109 : Int, ∃ x1110_p : Option Addr, ∃ x1110_n : Nat, ∃ x1110_c : Nat, CellsAt w1105 a1107 0 [.int .i64 x1108, .int .i64 x1109, .slice x1110_p x1110_n x1110_c] ∧ 
    ∃ w1111 : World, StoreAt (Addr.mk n1102 0 none) 0 [.int .i64 x1108, .int .i64 x1109, .slice x1110_p x1110_n x1110_c] w1105 w1111 ∧ 
    ∃ x1112_p : Option Addr, ∃ x1112_n : Nat, ∃ x1112_c : Nat, w1111.cell? ((Addr.mk n1102 0 none).add 2) = some (.slice x1112_p x1112_n x1112_c) ∧ 
    ∃ x1113_p : Option Addr, ∃ x1113_n : Nat, ∃ x1113_c : Nat, w1111.cell? ((Addr.mk n1102 0 none).add 2) = some (.slice x1113_p x1113_n x1113_c) ∧ 
    ∃ I1114 : Bool → Int → World → Nat → Prop, (∃ k1115, I1114 (decide ((x1112_n : Int) > (0 : Int))) 0 w1111 k1115) ∧
    ∀ (is_1117 : Bool) (v1118 : Int) (w1119 : World) (k1115 : Nat) (_ : Fr), I1114 is_1117 v1118 w1119 k1115 →
    cnd (decide (v1118 < (x1113_n : Int)))
      (ixK x1113_p x1113_n v1118 1 fun a1120 =>
        ∃ x1121 : Int, w1119.cell? a1120 = some (.int .i64 x1121) ∧ 
        cnd is_1117
        (∃ x1122 : Int, w1119.cell? ((Addr.mk n1102 0 none).add 0) = some (.int .i64 x1122) ∧ 
        cnd (x1121 != x1122)
        (Calls Try.prog 93 #[.pointer s_, .int .i64 x1121] w1119 fun e w1123 => ∃ r1124 : Int, e = .returned (.int .i64 r1124) ∧ 
          cnd (r1124 == (0 : Int))
          (∃ k1116, k1116 < k1115 ∧ I1114 true (IntKind.i64.wrap (v1118 + (1 : Int))) w1123 k1116)
          (∃ a1125 : Addr, s_ = some a1125 ∧ ∃ x1126 : Option Nat, w1123.cell? (a1125.add 2) = some (.map x1126) ∧ 
          ∃ w1127 : World, ∃ r1128 : Bool, (Instr.lookup 84 (.map x1126) (.int .i64 x1121) false).run Try.prog w1123 = .ok (.bool r1128) w1127 ∧ 
          cnd r1128
          (∃ k1116, k1116 < k1115 ∧ I1114 true (IntKind.i64.wrap (v1118 + (1 : Int))) w1127 k1116)
          (Calls Try.prog 94 #[.pointer s_, .int .i64 x1121, .map known_] w1127 fun e w1129 => ∃ r1130 : Bool, e = .returned (.bool r1130) ∧ 
          ∃ k1116, k1116 < k1115 ∧ I1114 r1130 (IntKind.i64.wrap (v1118 + (1 : Int))) w1129 k1116)))
        (∃ k1116, k1116 < k1115 ∧ I1114 is_1117 (IntKind.i64.wrap (v1118 + (1 : Int))) w1119 k1116))
        (∃ k1116, k1116 < k1115 ∧ I1114 is_1117 (IntKind.i64.wrap (v1118 + (1 : Int))) w1119 k1116))
      (Calls Try.prog 97 #[.int .i64 l_] w1119 fun e w1131 => ∃ r1132 : Int, e = .returned (.int .i64 r1132) ∧ 
        ∃ w1133 : World, (Instr.mapUpdate 84 (.map known_) (.int .i64 r1132) (.bool is_1117)).run Try.prog w1131 = .ok () w1133 ∧ 
        K (.bool is_1117) w1133)) ∧
  (∃ w1134 : World, ∃ r1135 : Int, (Instr.lookup 82 (.map x920) (.int .i64 r795) false).run Try.prog w1103 = .ok (.int .i64 r1135) w1134 ∧ 
    ∃ x1136_p : Option Addr, ∃ x1136_n : Nat, ∃ x1136_c : Nat, w1134.cell? (a6.add 0) = some (.slice x1136_p x1136_n x1136_c) ∧ 
    ixK x1136_p x1136_n (IntKind.i64.wrap (r1135 - (1 : Int))) 3 fun a1137 =>
    ∃ x1138 : Int, ∃ x1139 : Int, ∃ x1140_p : Option Addr, ∃ x1140_n : Nat, ∃ x1140_c : Nat, CellsAt w1134 a1137 0 [.int .i64 x1138, .int .i64 x1139, .slice x1140_p x1140_n x1140_c] ∧ 
    ∃ w1141 : World, StoreAt (Addr.mk n1102 0 none) 0 [.int .i64 x1138, .int .i64 x1139, .slice x1140_p x1140_n x1140_c] w1134 w1141 ∧ 
    ∃ x1142_p : Option Addr, ∃ x1142_n : Nat, ∃ x1142_c : Nat, w1141.cell? ((Addr.mk n1102 0 none).add 2) = some (.slice x1142_p x1142_n x1142_c) ∧ 
    ∃ x1143_p : Option Addr, ∃ x1143_n : Nat, ∃ x1143_c : Nat, w1141.cell? ((Addr.mk n1102 0 none).add 2) = some (.slice x1143_p x1143_n x1143_c) ∧ 
    ∃ I1144 : Bool → Int → World → Nat → Prop, (∃ k1145, I1144 (decide ((x1142_n : Int) > (0 : Int))) 0 w1141 k1145) ∧
    ∀ (is_1147 : Bool) (v1148 : Int) (w1149 : World) (k1145 : Nat) (_ : Fr), I1144 is_1147 v1148 w1149 k1145 →
    cnd (decide (v1148 < (x1143_n : Int)))
      (ixK x1143_p x1143_n v1148 1 fun a1150 =>
        ∃ x1151 : Int, w1149.cell? a1150 = some (.int .i64 x1151) ∧ 
        cnd is_1147
        (∃ x1152 : Int, w1149.cell? ((Addr.mk n1102 0 none).add 0) = some (.int .i64 x1152) ∧ 
        cnd (x1151 != x1152)
        (Calls Try.prog 93 #[.pointer s_, .int .i64 x1151] w1149 fun e w1153 => ∃ r1154 : Int, e = .returned (.int .i64 r1154) ∧ 
          cnd (r1154 == (0 : Int))
          (∃ k1146, k1146 < k1145 ∧ I1144 true (IntKind.i64.wrap (v1148 + (1 : Int))) w1153 k1146)
          (∃ a1155 : Addr, s_ = some a1155 ∧ ∃ x1156 : Option Nat, w1153.cell? (a1155.add 2) = some (.map x1156) ∧ 
          ∃ w1157 : World, ∃ r1158 : Bool, (Instr.lookup 84 (.map x1156) (.int .i64 x1151) false).run Try.prog w1153 = .ok (.bool r1158) w1157 ∧ 
          cnd r1158
          (∃ k1146, k1146 < k1145 ∧ I1144 true (IntKind.i64.wrap (v1148 + (1 : Int))) w1157 k1146)
          (Calls Try.prog 94 #[.pointer s_, .int .i64 x1151, .map known_] w1157 fun e w1159 => ∃ r1160 : Bool, e = .returned (.bool r1160) ∧ 
          ∃ k1146, k1146 < k1145 ∧ I1144 r1160 (IntKind.i64.wrap (v1148 + (1 : Int))) w1159 k1146)))
        (∃ k1146, k1146 < k1145 ∧ I1144 is_1147 (IntKind.i64.wrap (v1148 + (1 : Int))) w1149 k1146))
        (∃ k1146, k1146 < k1145 ∧ I1144 is_1147 (IntKind.i64.wrap (v1148 + (1 : Int))) w1149 k1146))
      (Calls Try.prog 97 #[.int .i64 l_] w1149 fun e w1161 => ∃ r1162 : Int, e = .returned (.int .i64 r1162) ∧ 
        ∃ w1163 : World, (Instr.mapUpdate 84 (.map known_) (.int .i64 r1162) (.bool is_1147)).run Try.prog w1161 = .ok () w1163 ∧ 
        K (.bool is_1147) w1163)))) ∧
  (∀ (n1164 : Nat) (w1165 : World), New (.cells #[.int .i64 0, .int .i64 0, .slice none 0 0] 73) w794 n1164 w1165 → 
    ∃ x1166 : Option Nat, w1165.cell? (a7.add 1) = some (.map x1166) ∧ 
    (∃ x1167_p : Option Addr, ∃ x1167_n : Nat, ∃ x1167_c : Nat, w1165.cell? (a6.add 0) = some (.slice x1167_p x1167_n x1167_c) ∧ 
    ∃ w1168 : World, ∃ r1169 : Int, (Instr.lookup 82 (.map x1166) (.int .i64 r795) false).run Try.prog w1165 = .ok (.int .i64 r1169) w1168 ∧ 
    ixK x1167_p x1167_n (IntKind.i64.wrap (r1169 - (1 : Int))) 3 fun a1170 =>
    ∃ x1171 : Int, ∃ x1172 : Int, ∃ x1173_p : Option Addr, ∃ x1173_n : Nat, ∃ x1173_c : Nat, CellsAt w1168 a1170 0 [.int .i64 x1171, .int .i64 x1172, .slice x1173_p x1173_n x1173_c] ∧ 
    ∃ w1174 : World, StoreAt (Addr.mk n1164 0 none) 0 [.int .i64 x1171, .int .i64 x1172, .slice x1173_p x1173_n x1173_c] w1168 w1174 ∧ 
    ∃ x1175_p : Option Addr, ∃ x1175_n : Nat, ∃ x1175_c : Nat, w1174.cell? ((Addr.mk n1164 0 none).add 2) = some (.slice x1175_p x1175_n x1175_c) ∧ 
    ∃ x1176_p : Option Addr, ∃ x1176_n : Nat, ∃ x1176_c : Nat, w1174.cell? ((Addr.mk n1164 0 none).add 2) = some (.slice x1176_p x1176_n x1176_c) ∧ 
    ∃ I1177 : Bool → Int → World → Nat → Prop, (∃ k1178, I1177 (decide ((x1175_n : Int) > (0 : Int))) 0 w1174 k1178) ∧
    ∀ (is_1180 : Bool) (v1181 : Int) (w1182 : World) (k1178 : Nat) (_ : Fr), I1177 is_1180 v1181 w1182 k1178 →
    cnd (decide (v1181 < (x1176_n : Int)))
      (ixK x1176_p x1176_n v1181 1 fun a1183 =>
        ∃ x1184 : Int, w1182.cell? a1183 = some (.int .i64 x1184) ∧ 
        cnd is_1180
        (∃ x1185 : Int, w1182.cell? ((Addr.mk n1164 0 none).add 0) = some (.int .i64 x1185) ∧ 
        cnd (x1184 != x1185)
        (Calls Try.prog 93 #[.pointer s_, .int .i64 x1184] w1182 fun e w1186 => ∃ r1187 : Int, e = .returned (.int .i64 r1187) ∧ 
          cnd (r1187 == (0 : Int))
          (∃ k1179, k1179 < k1178 ∧ I1177 true (IntKind.i64.wrap (v1181 + (1 : Int))) w1186 k1179)
          (∃ a1188 : Addr, s_ = some a1188 ∧ ∃ x1189 : Option Nat, w1186.cell? (a1188.add 2) = some (.map x1189) ∧ 
          ∃ w1190 : World, ∃ r1191 : Bool, (Instr.lookup 84 (.map x1189) (.int .i64 x1184) false).run Try.prog w1186 = .ok (.bool r1191) w1190 ∧ 
          cnd r1191
          (∃ k1179, k1179 < k1178 ∧ I1177 true (IntKind.i64.wrap (v1181 + (1 : Int))) w1190 k1179)
          (Calls Try.prog 94 #[.pointer s_, .int .i64 x1184, .map known_] w1190 fun e w1192 => ∃ r1193 : Bool, e = .returned (.bool r1193) ∧ 
          ∃ k1179, k1179 < k1178 ∧ I1177 r1193 (IntKind.i64.wrap (v1181 + (1 : Int))) w1192 k1179)))
        (∃ k1179, k1179 < k1178 ∧ I1177 is_1180 (IntKind.i64.wrap (v1181 + (1 : Int))) w1182 k1179))
        (∃ k1179, k1179 < k1178 ∧ I1177 is_1180 (IntKind.i64.wrap (v1181 + (1 : Int))) w1182 k1179))
      (Calls Try.prog 97 #[.int .i64 l_] w1182 fun e w1194 => ∃ r1195 : Int, e = .returned (.int .i64 r1195) ∧ 
        ∃ w1196 : World, (Instr.mapUpdate 84 (.map known_) (.int .i64 r1195) (.bool is_1180)).run Try.prog w1194 = .ok () w1196 ∧ 
        K (.bool is_1180) w1196)) ∧
  (∃ w1197 : World, ∃ r1198 : Int, (Instr.lookup 82 (.map x1166) (.int .i64 r795) false).run Try.prog w1165 = .ok (.int .i64 r1198) w1197 ∧ 
    ∃ x1199_p : Option Addr, ∃ x1199_n : Nat, ∃ x1199_c : Nat, w1197.cell? (a6.add 0) = some (.slice x1199_p x1199_n x1199_c) ∧ 
    ixK x1199_p x1199_n (IntKind.i64.wrap (r1198 - (1 : Int))) 3 fun a1200 =>
    ∃ x1201 : Int, ∃ x1202 : Int, ∃ x1203_p : Option Addr, ∃ x1203_n : Nat, ∃ x1203_c : Nat, CellsAt w1197 a1200 0 [.int .i64 x1201, .int .i64 x1202, .slice x1203_p x1203_n x1203_c] ∧ 
    ∃ w1204 : World, StoreAt (Addr.mk n1164 0 none) 0 [.int .i64 x1201, .int .i64 x1202, .slice x1203_p x1203_n x1203_c] w1197 w1204 ∧ 
    ∃ x1205_p : Option Addr, ∃ x1205_n : Nat, ∃ x1205_c : Nat, w1204.cell? ((Addr.mk n1164 0 none).add 2) = some (.slice x1205_p x1205_n x1205_c) ∧ 
    ∃ x1206_p : Option Addr, ∃ x1206_n : Nat, ∃ x1206_c : Nat, w1204.cell? ((Addr.mk n1164 0 none).add 2) = some (.slice x1206_p x1206_n x1206_c) ∧ 
    ∃ I1207 : Bool → Int → World → Nat → Prop, (∃ k1208, I1207 (decide ((x1205_n : Int) > (0 : Int))) 0 w1204 k1208) ∧
    ∀ (is_1210 : Bool) (v1211 : Int) (w1212 : World) (k1208 : Nat) (_ : Fr), I1207 is_1210 v1211 w1212 k1208 →
    cnd (decide (v1211 < (x1206_n : Int)))
      (ixK x1206_p x1206_n v1211 1 fun a1213 =>
        ∃ x1214 : Int, w1212.cell? a1213 = some (.int .i64 x1214) ∧ 
        cnd is_1210
        (∃ x1215 : Int, w1212.cell? ((Addr.mk n1164 0 none).add 0) = some (.int .i64 x1215) ∧ 
        cnd (x1214 != x1215)
        (Calls Try.prog 93 #[.pointer s_, .int .i64 x1214] w1212 fun e w1216 => ∃ r1217 : Int, e = .returned (.int .i64 r1217) ∧ 
          cnd (r1217 == (0 : Int))
          (∃ k1209, k1209 < k1208 ∧ I1207 true (IntKind.i64.wrap (v1211 + (1 : Int))) w1216 k1209)
          (∃ a1218 : Addr, s_ = some a1218 ∧ ∃ x1219 : Option Nat, w1216.cell? (a1218.add 2) = some (.map x1219) ∧ 
          ∃ w1220 : World, ∃ r1221 : Bool, (Instr.lookup 84 (.map x1219) (.int .i64 x1214) false).run Try.prog w1216 = .ok (.bool r1221) w1220 ∧ 
          cnd r1221
          (∃ k1209, k1209 < k1208 ∧ I1207 true (IntKind.i64.wrap (v1211 + (1 : Int))) w1220 k1209)
          (Calls Try.prog 94 #[.pointer s_, .int .i64 x1214, .map known_] w1220 fun e w1222 => ∃ r1223 : Bool, e = .returned (.bool r1223) ∧ 
          ∃ k1209, k1209 < k1208 ∧ I1207 r1223 (IntKind.i64.wrap (v1211 + (1 : Int))) w1222 k1209)))
        (∃ k1209, k1209 < k1208 ∧ I1207 is_1210 (IntKind.i64.wrap (v1211 + (1 : Int))) w1212 k1209))
        (∃ k1209, k1209 < k1208 ∧ I1207 is_1210 (IntKind.i64.wrap (v1211 + (1 : Int))) w1212 k1209))
      (Calls Try.prog 97 #[.int .i64 l_] w1212 fun e w1224 => ∃ r1225 : Int, e = .returned (.int .i64 r1225) ∧ 
        ∃ w1226 : World, (Instr.mapUpdate 84 (.map known_) (.int .i64 r1225) (.bool is_1210)).run Try.prog w1224 = .ok () w1226 ∧ 
        K (.bool is_1210) w1226)))) ∧
  (∀ (n1227 : Nat) (w1228 : World), New (.cells #[.int .i64 0, .int .i64 0, .slice none 0 0] 73) w3.drew n1227 w1228 → 
    (∃ x1229_p : Option Addr, ∃ x1229_n : Nat, ∃ x1229_c : Nat, w1228.cell? (a6.add 0) = some (.slice x1229_p x1229_n x1229_c) ∧ 
    (∃ x1230 : Option Nat, w1228.cell? (a7.add 1) = some (.map x1230) ∧ 
    Calls Try.prog 97 #[.int .i64 l_] w1228 fun e w1231 => ∃ r1232 : Int, e = .returned (.int .i64 r1232) ∧ 
    ∃ w1233 : World, ∃ r1234 : Int, (Instr.lookup 82 (.map x1230) (.int .i64 r1232) false).run Try.prog w1231 = .ok (.int .i64 r1234) w1233 ∧ 
    ixK x1229_p x1229_n (IntKind.i64.wrap (r1234 - (1 : Int))) 3 fun a1235 =>
    ∃ x1236 : Int, ∃ x1237 : Int, ∃ x1238_p : Option Addr, ∃ x1238_n : Nat, ∃ x1238_c : Nat, CellsAt w1233 a1235 0 [.int .i64 x1236, .int .i64 x1237, .slice x1238_p x1238_n x1238_c] ∧ 
    ∃ w1239 : World, StoreAt (Addr.mk n1227 0 none) 0 [.int .i64 x1236, .int .i64 x1237, .slice x1238_p x1238_n x1238_c] w1233 w1239 ∧ 
    ∃ x1240_p : Option Addr, ∃ x1240_n : Nat, ∃ x1240_c : Nat, w1239.cell? ((Addr.mk n1227 0 none).add 2) = some (.slice x1240_p x1240_n x1240_c) ∧ 
    ∃ x1241_p : Option Addr, ∃ x1241_n : Nat, ∃ x1241_c : Nat, w1239.cell? ((Addr.mk n1227 0 none).add 2) = some (.slice x1241_p x1241_n x1241_c) ∧ 
    ∃ I1242 : Bool → Int → World → Nat → Prop, (∃ k1243, I1242 (decide ((x1240_n : Int) > (0 : Int))) 0 w1239 k1243) ∧
    ∀ (is_1245 : Bool) (v1246 : Int) (w1247 : World) (k1243 : Nat) (_ : Fr), I1242 is_1245 v1246 w1247 k1243 →
    cnd (decide (v1246 < (x1241_n : Int)))
      (ixK x1241_p x1241_n v1246 1 fun a1248 =>
        ∃ x1249 : Int, w1247.cell? a1248 = some (.int .i64 x1249) ∧ 
        cnd is_1245
        (∃ x1250 : Int, w1247.cell? ((Addr.mk n1227 0 none).add 0) = some (.int .i64 x1250) ∧ 
        cnd (x1249 != x1250)
        (Calls Try.prog 93 #[.pointer s_, .int .i64 x1249] w1247 fun e w1251 => ∃ r1252 : Int, e = .returned (.int .i64 r1252) ∧ 
          cnd (r1252 == (0 : Int))
          (∃ k1244, k1244 < k1243 ∧ I1242 true (IntKind.i64.wrap (v1246 + (1 : Int))) w1251 k1244)
          (∃ a1253 : Addr, s_ = some a1253 ∧ ∃ x1254 : Option Nat, w1251.cell? (a1253.add 2) = some (.map x1254) ∧ 
          ∃ w1255 : World, ∃ r1256 : Bool, (Instr.lookup 84 (.map x1254) (.int .i64 x1249) false).run Try.prog w1251 = .ok (.bool r1256) w1255 ∧ 
          cnd r1256
          (∃ k1244, k1244 < k1243 ∧ I1242 true (IntKind.i64.wrap (v1246 + (1 : Int))) w1255 k1244)
          (Calls Try.prog 94 #[.pointer s_, .int .i64 x1249, .map known_] w1255 fun e w1257 => ∃ r1258 : Bool, e = .returned (.bool r1258) ∧ 
          ∃ k1244, k1244 < k1243 ∧ I1242 r1258 (IntKind.i64.wrap (v1246 + (1 : Int))) w1257 k1244)))
        (∃ k1244, k1244 < k1243 ∧ I1242 is_1245 (IntKind.i64.wrap (v1246 + (1 : Int))) w1247 k1244))
        (∃ k1244, k1244 < k1243 ∧ I1242 is_1245 (IntKind.i64.wrap (v1246 + (1 : Int))) w1247 k1244))
      (Calls Try.prog 97 #[.int .i64 l_] w1247 fun e w1259 => ∃ r1260 : Int, e = .returned (.int .i64 r1260) ∧ 
        ∃ w1261 : World, (Instr.mapUpdate 84 (.map known_) (.int .i64 r1260) (.bool is_1245)).run Try.prog w1259 = .ok () w1261 ∧ 
        K (.bool is_1245) w1261)) ∧
  (Calls Try.prog 97 #[.int .i64 l_] w1228 fun e w1262 => ∃ r1263 : Int, e = .returned (.int .i64 r1263) ∧ 
    ∃ x1264 : Option Nat, w1262.cell? (a7.add 1) = some (.map x1264) ∧ 
    ∃ w1265 : World, ∃ r1266 : Int, (Instr.lookup 82 (.map x1264) (.int .i64 r1263) false).run Try.prog w1262 = .ok (.int .i64 r1266) w1265 ∧ 
    ixK x1229_p x1229_n (IntKind.i64.wrap (r1266 - (1 : Int))) 3 fun a1267 =>
    ∃ x1268 : Int, ∃ x1269 : Int, ∃ x1270_p : Option Addr, ∃ x1270_n : Nat, ∃ x1270_c : Nat, CellsAt w1265 a1267 0 [.int .i64 x1268, .int .i64 x1269, .slice x1270_p x1270_n x1270_c] ∧ 
    ∃ w1271 : World, StoreAt (Addr.mk n1227 0 none) 0 [.int .i64 x1268, .int .i64 x1269, .slice x1270_p x1270_n x1270_c] w1265 w1271 ∧ 
    ∃ x1272_p : Option Addr, ∃ x1272_n : Nat, ∃ x1272_c : Nat, w1271.cell? ((Addr.mk n1227 0 none).add 2) = some (.slice x1272_p x1272_n x1272_c) ∧ 
    ∃ x1273_p : Option Addr, ∃ x1273_n : Nat, ∃ x1273_c : Nat, w1271.cell? ((Addr.mk n1227 0 none).add 2) = some (.slice x1273_p x1273_n x1273_c) ∧ 
    ∃ I1274 : Bool → Int → World → Nat → Prop, (∃ k1275, I1274 (decide ((x1272_n : Int) > (0 : Int))) 0 w1271 k1275) ∧
    ∀ (is_1277 : Bool) (v1278 : Int) (w1279 : World) (k1275 : Nat) (_ : Fr), I1274 is_1277 v1278 w1279 k1275 →
    cnd (decide (v1278 < (x1273_n : Int)))
      (ixK x1273_p x1273_n v1278 1 fun a1280 =>
        ∃ x1281 : Int, w1279.cell? a1280 = some (.int .i64 x1281) ∧ 
        cnd is_1277
        (∃ x1282 : Int, w1279.cell? ((Addr.mk n1227 0 none).add 0) = some (.int .i64 x1282) ∧ 
        cnd (x1281 != x1282)
        (Calls Try.prog 93 #[.pointer s_, .int .i64 x1281] w1279 fun e w1283 => ∃ r1284 : Int, e = .returned (.int .i64 r1284) ∧ 
          cnd (r1284 == (0 : Int))
          (∃ k1276, k1276 < k1275 ∧ I1274 true (IntKind.i64.wrap (v1278 + (1 : Int))) w1283 k1276)
          (∃ a1285 : Addr, s_ = some a1285 ∧ ∃ x1286 : Option Nat, w1283.cell? (a1285.add 2) = some (.map x1286) ∧ 
          ∃ w1287 : World, ∃ r1288 : Bool, (Instr.lookup 84 (.map x1286) (.int .i64 x1281) false).run Try.prog w1283 = .ok (.bool r1288) w1287 ∧ 
          cnd r1288
          (∃ k1276, k1276 < k1275 ∧ I1274 true (IntKind.i64.wrap (v1278 + (1 : Int))) w1287 k1276)
          (Calls Try.prog 94 #[.pointer s_, .int .i64 x1281, .map known_] w1287 fun e w1289 => ∃ r1290 : Bool, e = .returned (.bool r1290) ∧ 
          ∃ k1276, k1276 < k1275 ∧ I1274 r1290 (IntKind.i64.wrap (v1278 + (1 : Int))) w1289 k1276)))
        (∃ k1276, k1276 < k1275 ∧ I1274 is_1277 (IntKind.i64.wrap (v1278 + (1 : Int))) w1279 k1276))
        (∃ k1276, k1276 < k1275 ∧ I1274 is_1277 (IntKind.i64.wrap (v1278 + (1 : Int))) w1279 k1276))
      (Calls Try.prog 97 #[.int .i64 l_] w1279 fun e w1291 => ∃ r1292 : Int, e = .returned (.int .i64 r1292) ∧ 
        ∃ w1293 : World, (Instr.mapUpdate 84 (.map known_) (.int .i64 r1292) (.bool is_1277)).run Try.prog w1291 = .ok () w1293 ∧ 
        K (.bool is_1277) w1293))) ∧
  (∃ x1294 : Option Nat, w1228.cell? (a7.add 1) = some (.map x1294) ∧ 
    (∃ x1295_p : Option Addr, ∃ x1295_n : Nat, ∃ x1295_c : Nat, w1228.cell? (a6.add 0) = some (.slice x1295_p x1295_n x1295_c) ∧ 
    Calls Try.prog 97 #[.int .i64 l_] w1228 fun e w1296 => ∃ r1297 : Int, e = .returned (.int .i64 r1297) ∧ 
    ∃ w1298 : World, ∃ r1299 : Int, (Instr.lookup 82 (.map x1294) (.int .i64 r1297) false).run Try.prog w1296 = .ok (.int .i64 r1299) w1298 ∧ 
    ixK x1295_p x1295_n (IntKind.i64.wrap (r1299 - (1 : Int))) 3 fun a1300 =>
    ∃ x1301 : Int, ∃ x1302 : Int, ∃ x1303_p : Option Addr, ∃ x1303_n : Nat, ∃ x1303_c : Nat, CellsAt w1298 a1300 0 [.int .i64 x1301, .int .i64 x1302, .slice x1303_p x1303_n x1303_c] ∧ 
    ∃ w1304 : World, StoreAt (Addr.mk n1227 0 none) 0 [.int .i64 x1301, .int .i64 x1302, .slice x1303_p x1303_n x1303_c] w1298 w1304 ∧ 
    ∃ x1305_p : Option Addr, ∃ x1305_n : Nat, ∃ x1305_c : Nat, w1304.cell? ((Addr.mk n1227 0 none).add 2) = some (.slice x1305_p x1305_n x1305_c) ∧ 
    ∃ x1306_p : Option Addr, ∃ x1306_n : Nat, ∃ x1306_c : Nat, w1304.cell? ((Addr.mk n1227 0 none).add 2) = some (.slice x1306_p x1306_n x1306_c) ∧ 
    ∃ I1307 : Bool → Int → World → Nat → Prop, (∃ k1308, I1307 (decide ((x1305_n : Int) > (0 : Int))) 0 w1304 k1308) ∧
    ∀ (is_1310 : Bool) (v1311 : Int) (w1312 : World) (k1308 : Nat) (_ : Fr), I1307 is_1310 v1311 w1312 k1308 →
    cnd (decide (v1311 < (x1306_n : Int)))
      (ixK x1306_p x1306_n v1311 1 fun a1313 =>
        ∃ x1314 : Int, w1312.cell? a1313 = some (.int .i64 x1314) ∧ 
        cnd is_1310
        (∃ x1315 : Int, w1312.cell? ((Addr.mk n1227 0 none).add 0) = some (.int .i64 x1315) ∧ 
        cnd (x1314 != x1315)
        (Calls Try.prog 93 #[.pointer s_, .int .i64 x1314] w1312 fun e w1316 => ∃ r1317 : Int, e = .returned (.int .i64 r1317) ∧ 
          cnd (r1317 == (0 : Int))
          (∃ k1309, k1309 < k1308 ∧ I1307 true (IntKind.i64.wrap (v1311 + (1 : Int))) w1316 k1309)
          (∃ a1318 : Addr, s_ = some a1318 ∧ ∃ x1319 : Option Nat, w1316.cell? (a1318.add 2) = some (.map x1319) ∧ 
          ∃ w1320 : World, ∃ r1321 : Bool, (Instr.lookup 84 (.map x1319) (.int .i64 x1314) false).run Try.prog w1316 = .ok (.bool r1321) w1320 ∧ 
          cnd r1321
          (∃ k1309, k1309 < k1308 ∧ I1307 true (IntKind.i64.wrap (v1311 + (1 : Int))) w1320 k1309)
          (Calls Try.prog 94 #[.pointer s_, .int .i64 x1314, .map known_] w1320 fun e w1322 => ∃ r1323 : Bool, e = .returned (.bool r1323) ∧ 
          ∃ k1309, k1309 < k1308 ∧ I1307 r1323 (IntKind.i64.wrap (v1311 + (1 : Int))) w1322 k1309)))
        (∃ k1309, k1309 < k1308 ∧ I1307 is_1310 (IntKind.i64.wrap (v1311 + (1 : Int))) w1312 k1309))
        (∃ k1309, k1309 < k1308 ∧ I1307 is_1310 (IntKind.i64.wrap (v1311 + (1 : Int))) w1312 k1309))
      (Calls Try.prog 97 #[.int .i64 l_] w1312 fun e w1324 => ∃ r1325 : Int, e = .returned (.int .i64 r1325) ∧ 
        ∃ w1326 : World, (Instr.mapUpdate 84 (.map known_) (.int .i64 r1325) (.bool is_1310)).run Try.prog w1324 = .ok () w1326 ∧ 
        K (.bool is_1310) w1326)) ∧
  (Calls Try.prog 97 #[.int .i64 l_] w1228 fun e w1327 => ∃ r1328 : Int, e = .returned (.int .i64 r1328) ∧ 
    (∃ x1329_p : Option Addr, ∃ x1329_n : Nat, ∃ x1329_c : Nat, w1327.cell? (a6.add 0) = some (.slice x1329_p x1329_n x1329_c) ∧ 
    ∃ w1330 : World, ∃ r1331 : Int, (Instr.lookup 82 (.map x1294) (.int .i64 r1328) false).run Try.prog w1327 = .ok (.int .i64 r1331) w1330 ∧ 
    ixK x1329_p x1329_n (IntKind.i64.wrap (r1331 - (1 : Int))) 3 fun a1332 =>
    ∃ x1333 : Int, ∃ x1334 : Int, ∃ x1335_p : Option Addr, ∃ x1335_n : Nat, ∃ x1335_c : Nat, CellsAt w1330 a1332 0 [.int .i64 x1333, .int .i64 x1334, .slice x1335_p x1335_n x1335_c] ∧ 
    ∃ w1336 : World, StoreAt (Addr.mk n1227 0 none) 0 [.int .i64 x1333, .int .i64 x1334, .slice x1335_p x1335_n x1335_c] w1330 w1336 ∧ 
    ∃ x1337_p : Option Addr, ∃ x1337_n : Nat, ∃ x1337_c : Nat, w1336.cell? ((Addr.mk n1227 0 none).add 2) = some (.slice x1337_p x1337_n x1337_c) ∧ 
    ∃ x1338_p : Option Addr, ∃ x1338_n : Nat, ∃ x1338_c : Nat, w1336.cell? ((Addr.mk n1227 0 none).add 2) = some (.slice x1338_p x1338_n x1338_c) ∧ 
    ∃ I1339 : Bool → Int → World → Nat → Prop, (∃ k1340, I1339 (decide ((x1337_n : Int) > (0 : Int))) 0 w1336 k1340) ∧
    ∀ (is_1342 : Bool) (v1343 : Int) (w1344 : World) (k1340 : Nat) (_ : Fr), I1339 is_1342 v1343 w1344 k1340 →
    cnd (decide (v1343 < (x1338_n : Int)))
      (ixK x1338_p x1338_n v1343 1 fun a1345 =>
        ∃ x1346 : Int, w1344.cell? a1345 = some (.int .i64 x1346) ∧ 
        cnd is_1342
        (∃ x1347 : Int, w1344.cell? ((Addr.mk n1227 0 none).add 0) = some (.int .i64 x1347) ∧ 
        cnd (x1346 != x1347)
        (Calls Try.prog 93 #[.pointer s_, .int .i64 x1346] w1344 fun e w1348 => ∃ r1349 : Int, e = .returned (.int .i64 r1349) ∧ 
          cnd (r1349 == (0 : Int))
          (∃ k1341, k1341 < k1340 ∧ I1339 true (IntKind.i64.wrap (v1343 + (1 : Int))) w1348 k1341)
          (∃ a1350 : Addr, s_ = some a1350 ∧ ∃ x1351 : Option Nat, w1348.cell? (a1350.add 2) = some (.map x1351) ∧ 
          ∃ w1352 : World, ∃ r1353 : Bool, (Instr.lookup 84 (.map x1351) (.int .i64 x1346) false).run Try.prog w1348 = .ok (.bool r1353) w1352 ∧ 
          cnd r1353
          (∃ k1341, k1341 < k1340 ∧ I1339 true (IntKind.i64.wrap (v1343 + (1 : Int))) w1352 k1341)
          (Calls Try.prog 94 #[.pointer s_, .int .i64 x1346, .map known_] w1352 fun e w1354 => ∃ r1355 : Bool, e = .returned (.bool r1355) ∧ 
          ∃ k1341, k1341 < k1340 ∧ I1339 r1355 (IntKind.i64.wrap (v1343 + (1 : Int))) w1354 k1341)))
        (∃ k1341, k1341 < k1340 ∧ I1339 is_1342 (IntKind.i64.wrap (v1343 + (1 : Int))) w1344 k1341))
        (∃ k1341, k1341 < k1340 ∧ I1339 is_1342 (IntKind.i64.wrap (v1343 + (1 : Int))) w1344 k1341))
      (Calls Try.prog 97 #[.int .i64 l_] w1344 fun e w1356 => ∃ r1357 : Int, e = .returned (.int .i64 r1357) ∧ 
        ∃ w1358 : World, (Instr.mapUpdate 84 (.map known_) (.int .i64 r1357) (.bool is_1342)).run Try.prog w1356 = .ok () w1358 ∧ 
        K (.bool is_1342) w1358)) ∧
  (∃ w1359 : World, ∃ r1360 : Int, (Instr.lookup 82 (.map x1294) (.int .i64 r1328) false).run Try.prog w1327 = .ok (.int .i64 r1360) w1359 ∧ 
    ∃ x1361_p : Option Addr, ∃ x1361_n : Nat, ∃ x1361_c : Nat, w1359.cell? (a6.add 0) = some (.slice x1361_p x1361_n x1361_c) ∧ 
    ixK x1361_p x1361_n (IntKind.i64.wrap (r1360 - (1 : Int))) 3 fun a1362 =>
    ∃ x1363 : Int, ∃ x1364 : Int, ∃ x1365_p : Option Addr, ∃ x1365_n : Nat, ∃ x1365_c : Nat, CellsAt w1359 a1362 0 [.int .i64 x1363, .int .i64 x1364, .slice x1365_p x1365_n x1365_c] ∧ 
    ∃ w1366 : World, StoreAt (Addr.mk n1227 0 none) 0 [.int .i64 x1363, .int .i64 x1364, .slice x1365_p x1365_n x1365_c] w1359 w1366 ∧ 
    ∃ x1367_p : Option Addr, ∃ x1367_n : Nat, ∃ x1367_c : Nat, w1366.cell? ((Addr.mk n1227 0 none).add 2) = some (.slice x1367_p x1367_n x1367_c) ∧ 
    ∃ x1368_p : Option Addr, ∃ x1368_n : Nat, ∃ x1368_c : Nat, w1366.cell? ((Addr.mk n1227 0 none).add 2) = some (.slice x1368_p x1368_n x1368_c) ∧ 
    ∃ I1369 : Bool → Int → World → Nat → Prop, (∃ k1370, I1369 (decide ((x1367_n : Int) > (0 : Int))) 0 w1366 k1370) ∧
    ∀ (is_1372 : Bool) (v1373 : Int) (w1374 : World) (k1370 : Nat) (_ : Fr), I1369 is_1372 v1373 w1374 k1370 →
    cnd (decide (v1373 < (x1368_n : Int)))
      (ixK x1368_p x1368_n v1373 1 fun a1375 =>
        ∃ x1376 : Int, w1374.cell? a1375 = some (.int .i64 x1376) ∧ 
        cnd is_1372
        (∃ x1377 : Int, w1374.cell? ((Addr.mk n1227 0 none).add 0) = some (.int .i64 x1377) ∧ 
        cnd (x1376 != x1377)
        (Calls Try.prog 93 #[.pointer s_, .int .i64 x1376] w1374 fun e w1378 => ∃ r1379 : Int, e = .returned (.int .i64 r1379) ∧ 
          cnd (r1379 == (0 : Int))
          (∃ k1371, k1371 < k1370 ∧ I1369 true (IntKind.i64.wrap (v1373 + (1 : Int))) w1378 k1371)
          (∃ a1380 : Addr, s_ = some a1380 ∧ ∃ x1381 : Option Nat, w1378.cell? (a1380.add 2) = some (.map x1381) ∧ 
          ∃ w1382 : World, ∃ r1383 : Bool, (Instr.lookup 84 (.map x1381) (.int .i64 x1376) false).run Try.prog w1378 = .ok (.bool r1383) w1382 ∧ 
          cnd r1383
          (∃ k1371, k1371 < k1370 ∧ I1369 true (IntKind.i64.wrap (v1373 + (1 : Int))) w1382 k1371)
          (Calls Try.prog 94 #[.pointer s_, .int .i64 x1376, .map known_] w1382 fun e w1384 => ∃ r1385 : Bool, e = .returned (.bool r1385) ∧ 
          ∃ k1371, k1371 < k1370 ∧ I1369 r1385 (IntKind.i64.wrap (v1373 + (1 : Int))) w1384 k1371)))
        (∃ k1371, k1371 < k1370 ∧ I1369 is_1372 (IntKind.i64.wrap (v1373 + (1 : Int))) w1374 k1371))
        (∃ k1371, k1371 < k1370 ∧ I1369 is_1372 (IntKind.i64.wrap (v1373 + (1 : Int))) w1374 k1371))
      (Calls Try.prog 97 #[.int .i64 l_] w1374 fun e w1386 => ∃ r1387 : Int, e = .returned (.int .i64 r1387) ∧ 
        ∃ w1388 : World, (Instr.mapUpdate 84 (.map known_) (.int .i64 r1387) (.bool is_1372)).run Try.prog w1386 = .ok () w1388 ∧ 
        K (.bool is_1372) w1388)))) ∧
  (Calls Try.prog 97 #[.int .i64 l_] w1228 fun e w1389 => ∃ r1390 : Int, e = .returned (.int .i64 r1390) ∧ 
    ∃ x1391 : Option Nat, w1389.cell? (a7.add 1) = some (.map x1391) ∧ 
    (∃ x1392_p : Option Addr, ∃ x1392_n : Nat, ∃ x1392_c : Nat, w1389.cell? (a6.add 0) = some (.slice x1392_p x1392_n x1392_c) ∧ 
    ∃ w1393 : World, ∃ r1394 : Int, (Instr.lookup 82 (.map x1391) (.int .i64 r1390) false).run Try.prog w1389 = .ok (.int .i64 r1394) w1393 ∧ 
    ixK x1392_p x1392_n (IntKind.i64.wrap (r1394 - (1 : Int))) 3 fun a1395 =>
    ∃ x1396 : Int, ∃ x1397 : Int, ∃ x1398_p : Option Addr, ∃ x1398_n : Nat, ∃ x1398_c : Nat, CellsAt w1393 a1395 0 [.int .i64 x1396, .int .i64 x1397, .slice x1398_p x1398_n x1398_c] ∧ 
    ∃ w1399 : World, StoreAt (Addr.mk n1227 0 none) 0 [.int .i64 x1396, .int .i64 x1397, .slice x1398_p x1398_n x1398_c] w1393 w1399 ∧ 
    ∃ x1400_p : Option Addr, ∃ x1400_n : Nat, ∃ x1400_c : Nat, w1399.cell? ((Addr.mk n1227 0 none).add 2) = some (.slice x1400_p x1400_n x1400_c) ∧ 
    ∃ x1401_p : Option Addr, ∃ x1401_n : Nat, ∃ x1401_c : Nat, w1399.cell? ((Addr.mk n1227 0 none).add 2) = some (.slice x1401_p x1401_n x1401_c) ∧ 
    ∃ I1402 : Bool → Int → World → Nat → Prop, (∃ k1403, I1402 (decide ((x1400_n : Int) > (0 : Int))) 0 w1399 k1403) ∧
    ∀ (is_1405 : Bool) (v1406 : Int) (w1407 : World) (k1403 : Nat) (_ : Fr), I1402 is_1405 v1406 w1407 k1403 →
    cnd (decide (v1406 < (x1401_n : Int)))
      (ixK x1401_p x1401_n v1406 1 fun a1408 =>
        ∃ x1409 : Int, w1407.cell? a1408 = some (.int .i64 x1409) ∧ 
        cnd is_1405
        (∃ x1410 : Int, w1407.cell? ((Addr.mk n1227 0 none).add 0) = some (.int .i64 x1410) ∧ 
        cnd (x1409 != x1410)
        (Calls Try.prog 93 #[.pointer s_, .int .i64 x1409] w1407 fun e w1411 => ∃ r1412 : Int, e = .returned (.int .i64 r1412) ∧ 
          cnd (r1412 == (0 : Int))
          (∃ k1404, k1404 < k1403 ∧ I1402 true (IntKind.i64.wrap (v1406 + (1 : Int))) w1411 k1404)
          (∃ a1413 : Addr, s_ = some a1413 ∧ ∃ x1414 : Option Nat, w1411.cell? (a1413.add 2) = some (.map x1414) ∧ 
          ∃ w1415 : World, ∃ r1416 : Bool, (Instr.lookup 84 (.map x1414) (.int .i64 x1409) false).run Try.prog w1411 = .ok (.bool r1416) w1415 ∧ 
          cnd r1416
          (∃ k1404, k1404 < k1403 ∧ I1402 true (IntKind.i64.wrap (v1406 + (1 : Int))) w1415 k1404)
          (Calls Try.prog 94 #[.pointer s_, .int .i64 x1409, .map known_] w1415 fun e w1417 => ∃ r1418 : Bool, e = .returned (.bool r1418) ∧ 
          ∃ k1404, k1404 < k1403 ∧ I1402 r1418 (IntKind.i64.wrap (v1406 + (1 : Int))) w1417 k1404)))
        (∃ k1404, k1404 < k1403 ∧ I1402 is_1405 (IntKind.i64.wrap (v1406 + (1 : Int))) w1407 k1404))
        (∃ k1404, k1404 < k1403 ∧ I1402 is_1405 (IntKind.i64.wrap (v1406 + (1 : Int))) w1407 k1404))
      (Calls Try.prog 97 #[.int .i64 l_] w1407 fun e w1419 => ∃ r1420 : Int, e = .returned (.int .i64 r1420) ∧ 
        ∃ w1421 : World, (Instr.mapUpdate 84 (.map known_) (.int .i64 r1420) (.bool is_1405)).run Try.prog w1419 = .ok () w1421 ∧ 
        K (.bool is_1405) w1421)) ∧
  (∃ w1422 : World, ∃ r1423 : Int, (Instr.lookup 82 (.map x1391) (.int .i64 r1390) false).run Try.prog w1389 = .ok (.int .i64 r1423) w1422 ∧ 
    ∃ x1424_p : Option Addr, ∃ x1424_n : Nat, ∃ x1424_c : Nat, w1422.cell? (a6.add 0) = some (.slice x1424_p x1424_n x1424_c) ∧ 
    ixK x1424_p x1424_n (IntKind.i64.wrap (r1423 - (1 : Int))) 3 fun a1425 =>
    ∃ x1426 : Int, ∃ x1427 : Int, ∃ x1428_p : Option Addr, ∃ x1428_n : Nat, ∃ x1428_c : Nat, CellsAt w1422 a1425 0 [.int .i64 x1426, .int .i64 x1427, .slice x1428_p x1428_n x1428_c] ∧ 
    ∃ w1429 : World, StoreAt (Addr.mk n1227 0 none) 0 [.int .i64 x1426, .int .i64 x1427, .slice x1428_p x1428_n x1428_c] w1422 w1429 ∧ 
    ∃ x1430_p : Option Addr, ∃ x1430_n : Nat, ∃ x1430_c : Nat, w1429.cell? ((Addr.mk n1227 0 none).add 2) = some (.slice x1430_p x1430_n x1430_c) ∧ 
    ∃ x1431_p : Option Addr, ∃ x1431_n : Nat, ∃ x1431_c : Nat, w1429.cell? ((Addr.mk n1227 0 none).add 2) = some (.slice x1431_p x1431_n x1431_c) ∧ 
    ∃ I1432 : Bool → Int → World → Nat → Prop, (∃ k1433, I1432 (decide ((x1430_n : Int) > (0 : Int))) 0 w1429 k1433) ∧
    ∀ (is_1435 : Bool) (v1436 : Int) (w1437 : World) (k1433 : Nat) (_ : Fr), I1432 is_1435 v1436 w1437 k1433 →
    cnd (decide (v1436 < (x1431_n : Int)))
      (ixK x1431_p x1431_n v1436 1 fun a1438 =>
        ∃ x1439 : Int, w1437.cell? a1438 = some (.int .i64 x1439) ∧ 
        cnd is_1435
        (∃ x1440 : Int, w1437.cell? ((Addr.mk n1227 0 none).add 0) = some (.int .i64 x1440) ∧ 
        cnd (x1439 != x1440)
        (Calls Try.prog 93 #[.pointer s_, .int .i64 x1439] w1437 fun e w1441 => ∃ r1442 : Int, e = .returned (.int .i64 r1442) ∧ 
          cnd (r1442 == (0 : Int))
          (∃ k1434, k1434 < k1433 ∧ I1432 true (IntKind.i64.wrap (v1436 + (1 : Int))) w1441 k1434)
          (∃ a1443 : Addr, s_ = some a1443 ∧ ∃ x1444 : Option Nat, w1441.cell? (a1443.add 2) = some (.map x1444) ∧ 
          ∃ w1445 : World, ∃ r1446 : Bool, (Instr.lookup 84 (.map x1444) (.int .i64 x1439) false).run Try.prog w1441 = .ok (.bool r1446) w1445 ∧ 
          cnd r1446
          (∃ k1434, k1434 < k1433 ∧ I1432 true (IntKind.i64.wrap (v1436 + (1 : Int))) w1445 k1434)
          (Calls Try.prog 94 #[.pointer s_, .int .i64 x1439, .map known_] w1445 fun e w1447 => ∃ r1448 : Bool, e = .returned (.bool r1448) ∧ 
          ∃ k1434, k1434 < k1433 ∧ I1432 r1448 (IntKind.i64.wrap (v1436 + (1 : Int))) w1447 k1434)))
        (∃ k1434, k1434 < k1433 ∧ I1432 is_1435 (IntKind.i64.wrap (v1436 + (1 : Int))) w1437 k1434))
        (∃ k1434, k1434 < k1433 ∧ I1432 is_1435 (IntKind.i64.wrap (v1436 + (1 : Int))) w1437 k1434))
      (Calls Try.prog 97 #[.int .i64 l_] w1437 fun e w1449 => ∃ r1450 : Int, e = .returned (.int .i64 r1450) ∧ 
        ∃ w1451 : World, (Instr.mapUpdate 84 (.map known_) (.int .i64 r1450) (.bool is_1435)).run Try.prog w1449 = .ok () w1451 ∧ 
        K (.bool is_1435) w1451)))))
theorem learn_study_idle.eq (s_ : Option Addr) (l_ : Int) (known_ : Option Nat) (w : World) (K : Value → World → Prop) : wpF Try.prog Try.f94 (.two .leaf (.two .leaf (.two .leaf (.two .leaf (.two (.two .leaf (.one (.loop [(10, 4), (43, 3)] .leaf))) .leaf))))) [.pointer s_, .int .i64 l_, .map known_] w K = learn_study_idle.w s_ l_ known_ w K := by kernel_rfl
theorem learn_study_idle.ok : fnOk Try.prog Try.f94 3 = true := by kernel_rfl
theorem learn_study_idle.calls {s_ : Option Addr} {l_ : Int} {known_ : Option Nat} {w : World} {R : Ending → World → Prop} (h : learn_study_idle.w s_ l_ known_ w fun v w' => R (.returned v) w') : Calls Try.prog 94 #[.pointer s_, .int .i64 l_, .map known_] w R :=
  calls_of mixed Try.func94 learn_study_idle.ok rfl (fun K => learn_study_idle.eq s_ l_ known_ w K) h

/-! ### fathom/fathomref12.Idle: function 95 (named slots 10) -/
def fathomref12_Idle.w (trail__p : Option Addr) (trail__n : Nat) (trail__c : Nat) (learned__p : Option Addr) (learned__n : Nat) (learned__c : Nat) (l_ : Int) (w : World) (K : Value → World → Prop) : Prop :=
  Calls Try.prog 77 #[.int .i64 l_] w fun e w1 => ∃ r2 : Int, e = .returned (.int .i64 r2) ∧ 
  Calls Try.prog 96 #[.slice trail__p trail__n trail__c, .int .i64 r2] w1 fun e w3 => ∃ r4 : Int, e = .returned (.int .i64 r4) ∧ 
  ixK trail__p trail__n r4 3 fun a5 =>
  ∃ x6 : Int, ∃ x7 : Int, ∃ x8_p : Option Addr, ∃ x8_n : Nat, ∃ x8_c : Nat, CellsAt w3 a5 0 [.int .i64 x6, .int .i64 x7, .slice x8_p x8_n x8_c] ∧ 
  ∀ (n9 : Nat) (w10 : World), New (.cells #[.int .i64 0, .int .i64 0, .slice none 0 0] 73) w3 n9 w10 → 
  ∃ w11 : World, StoreAt (Addr.mk n9 0 none) 0 [.int .i64 x6, .int .i64 x7, .slice x8_p x8_n x8_c] w10 w11 ∧ 
  ∃ I12 : Int → World → Nat → Prop, (∃ k13, I12 0 w11 k13) ∧
  ∀ (i_15 : Int) (w16 : World) (k13 : Nat) (_ : Fr), I12 i_15 w16 k13 →
  ∃ x17_p : Option Addr, ∃ x17_n : Nat, ∃ x17_c : Nat, w16.cell? ((Addr.mk n9 0 none).add 2) = some (.slice x17_p x17_n x17_c) ∧ 
    cnd (decide (i_15 < (x17_n : Int)))
    (∃ x18_p : Option Addr, ∃ x18_n : Nat, ∃ x18_c : Nat, w16.cell? ((Addr.mk n9 0 none).add 2) = some (.slice x18_p x18_n x18_c) ∧ 
      ixK x18_p x18_n i_15 1 fun a19 =>
      ∃ x20 : Int, w16.cell? a19 = some (.int .i64 x20) ∧ 
      ∃ x21 : Int, w16.cell? ((Addr.mk n9 0 none).add 0) = some (.int .i64 x21) ∧ 
      cnd (x20 != x21)
      (Calls Try.prog 61 #[.slice trail__p trail__n trail__c, .int .i64 x20] w16 fun e w22 => ∃ r23 : Int, e = .returned (.int .i64 r23) ∧ 
      cnd (decide (r23 > (0 : Int)))
      (Calls Try.prog 40 #[.slice learned__p learned__n learned__c, .int .i64 x20] w22 fun e w24 => ∃ r25 : Bool, e = .returned (.bool r25) ∧ 
      cnd (!r25)
      (Calls Try.prog 95 #[.slice trail__p trail__n trail__c, .slice learned__p learned__n learned__c, .int .i64 x20] w24 fun e w26 => ∃ r27 : Bool, e = .returned (.bool r27) ∧ 
      cnd (!r27)
      (K (.bool false) w26)
      (∃ k14, k14 < k13 ∧ I12 (IntKind.i64.wrap (i_15 + (1 : Int))) w26 k14))
      (∃ k14, k14 < k13 ∧ I12 (IntKind.i64.wrap (i_15 + (1 : Int))) w24 k14))
      (∃ k14, k14 < k13 ∧ I12 (IntKind.i64.wrap (i_15 + (1 : Int))) w22 k14))
      (∃ k14, k14 < k13 ∧ I12 (IntKind.i64.wrap (i_15 + (1 : Int))) w16 k14))
    (∃ x28_p : Option Addr, ∃ x28_n : Nat, ∃ x28_c : Nat, w16.cell? ((Addr.mk n9 0 none).add 2) = some (.slice x28_p x28_n x28_c) ∧ 
      K (.bool (decide ((x28_n : Int) > (0 : Int)))) w16)
theorem fathomref12_Idle.eq (trail__p : Option Addr) (trail__n : Nat) (trail__c : Nat) (learned__p : Option Addr) (learned__n : Nat) (learned__c : Nat) (l_ : Int) (w : World) (K : Value → World → Prop) : wpF Try.prog Try.f95 (.two .leaf (.two .leaf (.two (.two .leaf (.one (.loop [(8, 3)] .leaf))) .leaf))) [.slice trail__p trail__n trail__c, .slice learned__p learned__n learned__c, .int .i64 l_] w K = fathomref12_Idle.w trail__p trail__n trail__c learned__p learned__n learned__c l_ w K := by kernel_rfl
theorem fathomref12_Idle.ok : fnOk Try.prog Try.f95 3 = true := by kernel_rfl
theorem fathomref12_Idle.calls {trail__p : Option Addr} {trail__n : Nat} {trail__c : Nat} {learned__p : Option Addr} {learned__n : Nat} {learned__c : Nat} {l_ : Int} {w : World} {R : Ending → World → Prop} (h : fathomref12_Idle.w trail__p trail__n trail__c learned__p learned__n learned__c l_ w fun v w' => R (.returned v) w') : Calls Try.prog 95 #[.slice trail__p trail__n trail__c, .slice learned__p learned__n learned__c, .int .i64 l_] w R :=
  calls_of mixed Try.func95 fathomref12_Idle.ok rfl (fun K => fathomref12_Idle.eq trail__p trail__n trail__c learned__p learned__n learned__c l_ w K) h

/-! ### fathom/fathomref12.At: function 96 (named slots 6) -/
def fathomref12_At.w (trail__p : Option Addr) (trail__n : Nat) (trail__c : Nat) (v_ : Int) (w : World) (K : Value → World → Prop) : Prop :=
  ∃ I1 : Int → World → Nat → Prop, (∃ k2, I1 0 w k2) ∧
  ∀ (i_4 : Int) (w5 : World) (k2 : Nat) (_ : Fr), I1 i_4 w5 k2 →
  cnd (decide (i_4 < (trail__n : Int)))
    (ixK trail__p trail__n i_4 3 fun a6 =>
      ∃ x7 : Int, w5.cell? (a6.add 0) = some (.int .i64 x7) ∧ 
      Calls Try.prog 77 #[.int .i64 x7] w5 fun e w8 => ∃ r9 : Int, e = .returned (.int .i64 r9) ∧ 
      cnd (r9 == v_)
      (K (.int .i64 i_4) w8)
      (∃ k3, k3 < k2 ∧ I1 (IntKind.i64.wrap (i_4 + (1 : Int))) w8 k3))
    (K (.int .i64 (-1)) w5)
theorem fathomref12_At.eq (trail__p : Option Addr) (trail__n : Nat) (trail__c : Nat) (v_ : Int) (w : World) (K : Value → World → Prop) : wpF Try.prog Try.f96 (.two .leaf (.two (.two .leaf (.one (.loop [(5, 3)] .leaf))) .leaf)) [.slice trail__p trail__n trail__c, .int .i64 v_] w K = fathomref12_At.w trail__p trail__n trail__c v_ w K := by kernel_rfl
theorem fathomref12_At.ok : fnOk Try.prog Try.f96 2 = true := by kernel_rfl
theorem fathomref12_At.calls {trail__p : Option Addr} {trail__n : Nat} {trail__c : Nat} {v_ : Int} {w : World} {R : Ending → World → Prop} (h : fathomref12_At.w trail__p trail__n trail__c v_ w fun v w' => R (.returned v) w') : Calls Try.prog 96 #[.slice trail__p trail__n trail__c, .int .i64 v_] w R :=
  calls_of mixed Try.func96 fathomref12_At.ok rfl (fun K => fathomref12_At.eq trail__p trail__n trail__c v_ w K) h

/-! ### fathom/learn.amount: function 97 (named slots 3) -/
def learn_amount.w (l_ : Int) (w : World) (K : Value → World → Prop) : Prop :=
  K (.int .i64 (imax l_ (IntKind.i64.wrap (0 - l_)))) w
theorem learn_amount.eq (l_ : Int) (w : World) (K : Value → World → Prop) : wpF Try.prog Try.f97 .leaf [.int .i64 l_] w K = learn_amount.w l_ w K := by kernel_rfl
theorem learn_amount.ok : fnOk Try.prog Try.f97 1 = true := by kernel_rfl
theorem learn_amount.calls {l_ : Int} {w : World} {R : Ending → World → Prop} (h : learn_amount.w l_ w fun v w' => R (.returned v) w') : Calls Try.prog 97 #[.int .i64 l_] w R :=
  calls_of mixed Try.func97 learn_amount.ok rfl (fun K => learn_amount.eq l_ w K) h

/-! ### slices.pdqsortCmpFunc[int]: function 98 (named slots 101) cuts [(2, 117), (2, 92), (4, 79)] -/
def slices_pdqsortCmpFunc_int.w (data__p : Option Addr) (data__n : Nat) (data__c : Nat) (a_ : Int) (b_ : Int) (limit_ : Int) (cmp_f : FuncId) (cmp_v : Array Value) (w : World) (K : Value → World → Prop) : Prop :=
  ∃ I1 : Int → Int → Int → Bool → Bool → World → Nat → Prop, (∃ k2, I1 a_ b_ limit_ true true w k2) ∧
  ∀ (a_4 : Int) (b_5 : Int) (limit_6 : Int) (wasBalanced_7 : Bool) (wasPartitioned_8 : Bool) (w9 : World) (k2 : Nat) (_ : Fr), I1 a_4 b_5 limit_6 wasBalanced_7 wasPartitioned_8 w9 k2 →
  cnd (decide ((IntKind.i64.wrap (b_5 - a_4)) ≤ (12 : Int)))
    (Calls Try.prog 104 #[.slice data__p data__n data__c, .int .i64 a_4, .int .i64 b_5, .func (.func cmp_f) #[] cmp_v] w9 fun e w10 => e = .returned (.tuple #[]) ∧ 
      K (.tuple #[]) w10)
    (cnd (limit_6 == (0 : Int))
      (Calls Try.prog 105 #[.slice data__p data__n data__c, .int .i64 a_4, .int .i64 b_5, .func (.func cmp_f) #[] cmp_v] w9 fun e w11 => e = .returned (.tuple #[]) ∧ 
        K (.tuple #[]) w11)
      (∃ J12 : Int → World → Prop, (cnd (!wasBalanced_7)
        (Calls Try.prog 106 #[.slice data__p data__n data__c, .int .i64 a_4, .int .i64 b_5, .func (.func cmp_f) #[] cmp_v] w9 fun e w13 => e = .returned (.tuple #[]) ∧ 
          J12 (IntKind.i64.wrap (limit_6 - (1 : Int))) w13)
        (J12 limit_6 w9)) ∧
        ∀ (limit_14 : Int) (w15 : World) (_ : Fr), J12 limit_14 w15 → 
        Calls Try.prog 107 #[.slice data__p data__n data__c, .int .i64 a_4, .int .i64 b_5, .func (.func cmp_f) #[] cmp_v] w15 fun e w16 => ∃ r17 : Int, ∃ r18 : Int, e = .returned (.tuple #[.int .i64 r17, .int .i64 r18]) ∧ 
        ∃ J19 : Int → Int → World → Prop, (cnd (r18 == (2 : Int))
        (Calls Try.prog 108 #[.slice data__p data__n data__c, .int .i64 a_4, .int .i64 b_5, .func (.func cmp_f) #[] cmp_v] w16 fun e w20 => e = .returned (.tuple #[]) ∧ 
          J19 (IntKind.i64.wrap ((IntKind.i64.wrap (b_5 - (1 : Int))) - (IntKind.i64.wrap (r17 - a_4)))) 1 w20)
        (J19 r17 r18 w16)) ∧
        ∀ (pivot_21 : Int) (hint_22 : Int) (w23 : World) (_ : Fr), J19 pivot_21 hint_22 w23 → 
        ∃ J24 : World → Prop, (cnd wasBalanced_7
        (cnd wasPartitioned_8
        (cnd (hint_22 == (1 : Int))
        (Calls Try.prog 109 #[.slice data__p data__n data__c, .int .i64 a_4, .int .i64 b_5, .func (.func cmp_f) #[] cmp_v] w23 fun e w25 => ∃ r26 : Bool, e = .returned (.bool r26) ∧ 
          cnd r26
          (K (.tuple #[]) w25)
          (J24 w25))
        (J24 w23))
        (J24 w23))
        (J24 w23)) ∧
        ∀ (w27 : World) (_ : Fr), J24 w27 → 
        cnd (decide (a_4 > (0 : Int)))
        (ixK data__p data__n (IntKind.i64.wrap (a_4 - (1 : Int))) 1 fun a28 =>
        ∃ x29 : Int, w27.drew.cell? a28 = some (.int .i64 x29) ∧ 
        ixK data__p data__n pivot_21 1 fun a30 =>
        ∃ x31 : Int, w27.drew.cell? a30 = some (.int .i64 x31) ∧ 
        cnd (entB Try.prog cmp_f) (Calls Try.prog cmp_f (#[] ++ #[.int .i64 x29, .int .i64 x31] ++ cmp_v) w27.drew fun e w32 => ∃ r33 : Int, e = .returned (.int .i64 r33) ∧ 
        cnd (!(decide (r33 < (0 : Int))))
        (Calls Try.prog 110 #[.slice data__p data__n data__c, .int .i64 a_4, .int .i64 b_5, .int .i64 pivot_21, .func (.func cmp_f) #[] cmp_v] w32 fun e w34 => ∃ r35 : Int, e = .returned (.int .i64 r35) ∧ 
          ∃ k3, k3 < k2 ∧ I1 r35 b_5 limit_14 wasBalanced_7 wasPartitioned_8 w34 k3)
        (Calls Try.prog 111 #[.slice data__p data__n data__c, .int .i64 a_4, .int .i64 b_5, .int .i64 pivot_21, .func (.func cmp_f) #[] cmp_v] w32 fun e w36 => ∃ r37 : Int, ∃ r38 : Bool, e = .returned (.tuple #[.int .i64 r37, .bool r38]) ∧ 
          (8 : Int) ≠ 0 ∧ cnd (decide ((IntKind.i64.wrap (r37 - a_4)) < (IntKind.i64.wrap (b_5 - r37))))
          (Calls Try.prog 98 #[.slice data__p data__n data__c, .int .i64 a_4, .int .i64 r37, .int .i64 limit_14, .func (.func cmp_f) #[] cmp_v] w36 fun e w39 => e = .returned (.tuple #[]) ∧ 
            ∃ k3, k3 < k2 ∧ I1 (IntKind.i64.wrap (r37 + (1 : Int))) b_5 limit_14 (decide ((IntKind.i64.wrap (r37 - a_4)) ≥ (IntKind.i64.wrap ((IntKind.i64.wrap (b_5 - a_4)).tdiv (8 : Int))))) r38 w39 k3)
          (Calls Try.prog 98 #[.slice data__p data__n data__c, .int .i64 (IntKind.i64.wrap (r37 + (1 : Int))), .int .i64 b_5, .int .i64 limit_14, .func (.func cmp_f) #[] cmp_v] w36 fun e w40 => e = .returned (.tuple #[]) ∧ 
            ∃ k3, k3 < k2 ∧ I1 a_4 r37 limit_14 (decide ((IntKind.i64.wrap (b_5 - r37)) ≥ (IntKind.i64.wrap ((IntKind.i64.wrap (b_5 - a_4)).tdiv (8 : Int))))) r38 w40 k3))) False)
        (Calls Try.prog 111 #[.slice data__p data__n data__c, .int .i64 a_4, .int .i64 b_5, .int .i64 pivot_21, .func (.func cmp_f) #[] cmp_v] w27.drew fun e w41 => ∃ r42 : Int, ∃ r43 : Bool, e = .returned (.tuple #[.int .i64 r42, .bool r43]) ∧ 
        (8 : Int) ≠ 0 ∧ cnd (decide ((IntKind.i64.wrap (r42 - a_4)) < (IntKind.i64.wrap (b_5 - r42))))
        (Calls Try.prog 98 #[.slice data__p data__n data__c, .int .i64 a_4, .int .i64 r42, .int .i64 limit_14, .func (.func cmp_f) #[] cmp_v] w41 fun e w44 => e = .returned (.tuple #[]) ∧ 
          ∃ k3, k3 < k2 ∧ I1 (IntKind.i64.wrap (r42 + (1 : Int))) b_5 limit_14 (decide ((IntKind.i64.wrap (r42 - a_4)) ≥ (IntKind.i64.wrap ((IntKind.i64.wrap (b_5 - a_4)).tdiv (8 : Int))))) r43 w44 k3)
        (Calls Try.prog 98 #[.slice data__p data__n data__c, .int .i64 (IntKind.i64.wrap (r42 + (1 : Int))), .int .i64 b_5, .int .i64 limit_14, .func (.func cmp_f) #[] cmp_v] w41 fun e w45 => e = .returned (.tuple #[]) ∧ 
          ∃ k3, k3 < k2 ∧ I1 a_4 r42 limit_14 (decide ((IntKind.i64.wrap (b_5 - r42)) ≥ (IntKind.i64.wrap ((IntKind.i64.wrap (b_5 - a_4)).tdiv (8 : Int))))) r43 w45 k3))))
theorem slices_pdqsortCmpFunc_int.eq (data__p : Option Addr) (data__n : Nat) (data__c : Nat) (a_ : Int) (b_ : Int) (limit_ : Int) (cmp_f : FuncId) (cmp_v : Array Value) (w : World) (K : Value → World → Prop) : wpF Try.prog Try.f98 (.two .leaf (.two .leaf (.one (.loop [(1, 3), (2, 3), (3, 3), (10, 4), (11, 4)] (.one (.two .leaf (.two .leaf (.two .leaf (.cut [(3, 3)] .leaf (.two .leaf (.cut [(13, 3), (14, 103)] .leaf (.cut [] .leaf .leaf)))))))))))) [.slice data__p data__n data__c, .int .i64 a_, .int .i64 b_, .int .i64 limit_, .func (.func cmp_f) #[] cmp_v] w K = slices_pdqsortCmpFunc_int.w data__p data__n data__c a_ b_ limit_ cmp_f cmp_v w K := by kernel_rfl
theorem slices_pdqsortCmpFunc_int.ok : fnOk Try.prog Try.f98 5 = true := by kernel_rfl
theorem slices_pdqsortCmpFunc_int.calls {data__p : Option Addr} {data__n : Nat} {data__c : Nat} {a_ : Int} {b_ : Int} {limit_ : Int} {cmp_f : FuncId} {cmp_v : Array Value} {w : World} {R : Ending → World → Prop} (h : slices_pdqsortCmpFunc_int.w data__p data__n data__c a_ b_ limit_ cmp_f cmp_v w fun v w' => R (.returned v) w') : Calls Try.prog 98 #[.slice data__p data__n data__c, .int .i64 a_, .int .i64 b_, .int .i64 limit_, .func (.func cmp_f) #[] cmp_v] w R :=
  calls_of mixed Try.func98 slices_pdqsortCmpFunc_int.ok rfl (fun K => slices_pdqsortCmpFunc_int.eq data__p data__n data__c a_ b_ limit_ cmp_f cmp_v w K) h

/-! ### math/bits.Len: function 99 (named slots 3) -/
def bits_Len.w (x0_ : Int) (w : World) (K : Value → World → Prop) : Prop :=
  Calls Try.prog 113 #[.int .u64 x0_] w fun e w1 => ∃ r2 : Int, e = .returned (.int .i64 r2) ∧ 
  K (.int .i64 r2) w1
theorem bits_Len.eq (x0_ : Int) (w : World) (K : Value → World → Prop) : wpF Try.prog Try.f99 .leaf [.int .u64 x0_] w K = bits_Len.w x0_ w K := by kernel_rfl
theorem bits_Len.ok : fnOk Try.prog Try.f99 1 = true := by kernel_rfl
theorem bits_Len.calls {x0_ : Int} {w : World} {R : Ending → World → Prop} (h : bits_Len.w x0_ w fun v w' => R (.returned v) w') : Calls Try.prog 99 #[.int .u64 x0_] w R :=
  calls_of mixed Try.func99 bits_Len.ok rfl (fun K => bits_Len.eq x0_ w K) h

/-! ### slices.IndexFunc[[]int,int]: function 100 (named slots 5) -/
def slices_IndexFunc_int_int.w (s__p : Option Addr) (s__n : Nat) (s__c : Nat) (f_f : FuncId) (f_v : Array Value) (w : World) (K : Value → World → Prop) : Prop :=
  ∃ I1 : Int → World → Nat → Prop, (∃ k2, I1 0 w k2) ∧
  ∀ (v4 : Int) (w5 : World) (k2 : Nat) (_ : Fr), I1 v4 w5 k2 →
  cnd (decide (v4 < (s__n : Int)))
    (ixK s__p s__n v4 1 fun a6 =>
      ∃ x7 : Int, w5.cell? a6 = some (.int .i64 x7) ∧ 
      cnd (entB Try.prog f_f) (Calls Try.prog f_f (#[] ++ #[.int .i64 x7] ++ f_v) w5 fun e w8 => ∃ r9 : Bool, e = .returned (.bool r9) ∧ 
      cnd r9
      (K (.int .i64 v4) w8)
      (∃ k3, k3 < k2 ∧ I1 (IntKind.i64.wrap (v4 + (1 : Int))) w8 k3)) False)
    (K (.int .i64 (-1)) w5)
theorem slices_IndexFunc_int_int.eq (s__p : Option Addr) (s__n : Nat) (s__c : Nat) (f_f : FuncId) (f_v : Array Value) (w : World) (K : Value → World → Prop) : wpF Try.prog Try.f100 (.two .leaf (.two (.two .leaf (.one (.loop [(8, 3)] .leaf))) .leaf)) [.slice s__p s__n s__c, .func (.func f_f) #[] f_v] w K = slices_IndexFunc_int_int.w s__p s__n s__c f_f f_v w K := by kernel_rfl
theorem slices_IndexFunc_int_int.ok : fnOk Try.prog Try.f100 2 = true := by kernel_rfl
theorem slices_IndexFunc_int_int.calls {s__p : Option Addr} {s__n : Nat} {s__c : Nat} {f_f : FuncId} {f_v : Array Value} {w : World} {R : Ending → World → Prop} (h : slices_IndexFunc_int_int.w s__p s__n s__c f_f f_v w fun v w' => R (.returned v) w') : Calls Try.prog 100 #[.slice s__p s__n s__c, .func (.func f_f) #[] f_v] w R :=
  calls_of mixed Try.func100 slices_IndexFunc_int_int.ok rfl (fun K => slices_IndexFunc_int_int.eq s__p s__n s__c f_f f_v w K) h

/-! ### slices.Index[[]int,int]: function 101 (named slots 5) -/
def slices_Index_int_int.w (s__p : Option Addr) (s__n : Nat) (s__c : Nat) (v_ : Int) (w : World) (K : Value → World → Prop) : Prop :=
  ∃ I1 : Int → World → Nat → Prop, (∃ k2, I1 0 w k2) ∧
  ∀ (v4 : Int) (w5 : World) (k2 : Nat) (_ : Fr), I1 v4 w5 k2 →
  cnd (decide (v4 < (s__n : Int)))
    (ixK s__p s__n v4 1 fun a6 =>
      ∃ x7 : Int, w5.cell? a6 = some (.int .i64 x7) ∧ 
      cnd (v_ == x7)
      (K (.int .i64 v4) w5)
      (∃ k3, k3 < k2 ∧ I1 (IntKind.i64.wrap (v4 + (1 : Int))) w5 k3))
    (K (.int .i64 (-1)) w5)
theorem slices_Index_int_int.eq (s__p : Option Addr) (s__n : Nat) (s__c : Nat) (v_ : Int) (w : World) (K : Value → World → Prop) : wpF Try.prog Try.f101 (.two .leaf (.two (.two .leaf (.one (.loop [(8, 3)] .leaf))) .leaf)) [.slice s__p s__n s__c, .int .i64 v_] w K = slices_Index_int_int.w s__p s__n s__c v_ w K := by kernel_rfl
theorem slices_Index_int_int.ok : fnOk Try.prog Try.f101 2 = true := by kernel_rfl
theorem slices_Index_int_int.calls {s__p : Option Addr} {s__n : Nat} {s__c : Nat} {v_ : Int} {w : World} {R : Ending → World → Prop} (h : slices_Index_int_int.w s__p s__n s__c v_ w fun v w' => R (.returned v) w') : Calls Try.prog 101 #[.slice s__p s__n s__c, .int .i64 v_] w R :=
  calls_of mixed Try.func101 slices_Index_int_int.ok rfl (fun K => slices_Index_int_int.eq s__p s__n s__c v_ w K) h

/-! ### fathom/learn.reasoned: function 102 (named slots 10) -/
def learn_reasoned.w (trail__p : Option Addr) (trail__n : Nat) (trail__c : Nat) (at_ : Option Nat) (a_0 : Int) (a_1 : Int) (a_2_p : Option Addr) (a_2_n : Nat) (a_2_c : Nat) (w : World) (K : Value → World → Prop) : Prop :=
  ∀ (n1 : Nat) (w2 : World), New (.cells #[.int .i64 a_0, .int .i64 a_1, .slice a_2_p a_2_n a_2_c] 73) w n1 w2 → 
  ∃ x3_p : Option Addr, ∃ x3_n : Nat, ∃ x3_c : Nat, w2.cell? ((Addr.mk n1 0 none).add 2) = some (.slice x3_p x3_n x3_c) ∧ 
  cnd (decide ((x3_n : Int) > (256 : Int)))
  (K (.bool false) w2)
  (∃ x4_p : Option Addr, ∃ x4_n : Nat, ∃ x4_c : Nat, w2.cell? ((Addr.mk n1 0 none).add 2) = some (.slice x4_p x4_n x4_c) ∧ 
  Calls Try.prog 30 #[.slice x4_p x4_n x4_c] w2 fun e w5 => ∃ r6 : Int, e = .returned (.int .i64 r6) ∧ 
  cnd (r6 != (0 : Int))
  (K (.bool false) w5)
  (∃ x7_p : Option Addr, ∃ x7_n : Nat, ∃ x7_c : Nat, w5.cell? ((Addr.mk n1 0 none).add 2) = some (.slice x7_p x7_n x7_c) ∧ 
  ∃ x8 : Int, w5.cell? ((Addr.mk n1 0 none).add 0) = some (.int .i64 x8) ∧ 
  Calls Try.prog 75 #[.slice x7_p x7_n x7_c, .int .i64 x8] w5 fun e w9 => ∃ r10 : Bool, e = .returned (.bool r10) ∧ 
  cnd (!r10)
  (K (.bool false) w9)
  (∃ x11_p : Option Addr, ∃ x11_n : Nat, ∃ x11_c : Nat, w9.cell? ((Addr.mk n1 0 none).add 2) = some (.slice x11_p x11_n x11_c) ∧ 
    ∃ I12 : Int → World → Nat → Prop, (∃ k13, I12 0 w9 k13) ∧
    ∀ (v15 : Int) (w16 : World) (k13 : Nat) (_ : Fr), I12 v15 w16 k13 →
    cnd (decide (v15 < (x11_n : Int)))
      (ixK x11_p x11_n v15 1 fun a17 =>
        ∃ x18 : Int, w16.cell? a17 = some (.int .i64 x18) ∧ 
        ∃ x19 : Int, w16.cell? ((Addr.mk n1 0 none).add 0) = some (.int .i64 x19) ∧ 
        cnd (x18 == x19)
        (∃ k14, k14 < k13 ∧ I12 (IntKind.i64.wrap (v15 + (1 : Int))) w16 k14)
        (Calls Try.prog 97 #[.int .i64 x18] w16 fun e w20 => ∃ r21 : Int, e = .returned (.int .i64 r21) ∧ 
          ∃ w22 : World, ∃ r23 : Int, (Instr.lookup 82 (.map at_) (.int .i64 r21) false).run Try.prog w20 = .ok (.int .i64 r23) w22 ∧ 
          cnd (r23 == (0 : Int))
          (K (.bool false) w22)
          (ixK trail__p trail__n (IntKind.i64.wrap (r23 - (1 : Int))) 3 fun a24 =>
          ∃ x25 : Int, w22.cell? (a24.add 0) = some (.int .i64 x25) ∧ 
          cnd (x25 != (IntKind.i64.wrap (0 - x18)))
          (K (.bool false) w22)
          (∃ k14, k14 < k13 ∧ I12 (IntKind.i64.wrap (v15 + (1 : Int))) w22 k14))))
      (K (.bool true) w16))))
theorem learn_reasoned.eq (trail__p : Option Addr) (trail__n : Nat) (trail__c : Nat) (at_ : Option Nat) (a_0 : Int) (a_1 : Int) (a_2_p : Option Addr) (a_2_n : Nat) (a_2_c : Nat) (w : World) (K : Value → World → Prop) : wpF Try.prog Try.f102 (.two .leaf (.two .leaf (.two (.two .leaf (.one (.loop [(31, 3)] .leaf))) .leaf))) [.slice trail__p trail__n trail__c, .map at_, .agg #[.int .i64 a_0, .int .i64 a_1, .slice a_2_p a_2_n a_2_c]] w K = learn_reasoned.w trail__p trail__n trail__c at_ a_0 a_1 a_2_p a_2_n a_2_c w K := by kernel_rfl
theorem learn_reasoned.ok : fnOk Try.prog Try.f102 3 = true := by kernel_rfl
theorem learn_reasoned.calls {trail__p : Option Addr} {trail__n : Nat} {trail__c : Nat} {at_ : Option Nat} {a_0 : Int} {a_1 : Int} {a_2_p : Option Addr} {a_2_n : Nat} {a_2_c : Nat} {w : World} {R : Ending → World → Prop} (h : learn_reasoned.w trail__p trail__n trail__c at_ a_0 a_1 a_2_p a_2_n a_2_c w fun v w' => R (.returned v) w') : Calls Try.prog 102 #[.slice trail__p trail__n trail__c, .map at_, .agg #[.int .i64 a_0, .int .i64 a_1, .slice a_2_p a_2_n a_2_c]] w R :=
  calls_of mixed Try.func102 learn_reasoned.ok rfl (fun K => learn_reasoned.eq trail__p trail__n trail__c at_ a_0 a_1 a_2_p a_2_n a_2_c w K) h

/-! ### (*fathom/learn.study).ordered$1: function 103 (named slots 6) -/
def learn_study_ordered_1.w (a_ : Int) (b_ : Int) (c0_ : Addr) (w : World) (K : Value → World → Prop) : Prop :=
  ∃ x1 : Option Addr, w.drew.cell? c0_ = some (.pointer x1) ∧ 
  (Calls Try.prog 93 #[.pointer x1, .int .i64 a_] w.drew fun e w2 => ∃ r3 : Int, e = .returned (.int .i64 r3) ∧ 
  ∃ x4 : Option Addr, w2.cell? c0_ = some (.pointer x4) ∧ 
  Calls Try.prog 93 #[.pointer x4, .int .i64 b_] w2 fun e w5 => ∃ r6 : Int, e = .returned (.int .i64 r6) ∧ 
  cnd (r3 != r6)
  (∃ x7 : Option Addr, w5.drew.cell? c0_ = some (.pointer x7) ∧ 
    (Calls Try.prog 93 #[.pointer x7, .int .i64 b_] w5.drew fun e w8 => ∃ r9 : Int, e = .returned (.int .i64 r9) ∧ 
    ∃ x10 : Option Addr, w8.cell? c0_ = some (.pointer x10) ∧ 
    Calls Try.prog 93 #[.pointer x10, .int .i64 a_] w8 fun e w11 => ∃ r12 : Int, e = .returned (.int .i64 r12) ∧ 
    K (.int .i64 (IntKind.i64.wrap (r9 - r12))) w11) ∧
  (∃ x13 : Option Addr, w5.drew.cell? c0_ = some (.pointer x13) ∧ 
    Calls Try.prog 93 #[.pointer x7, .int .i64 b_] w5.drew fun e w14 => ∃ r15 : Int, e = .returned (.int .i64 r15) ∧ 
    Calls Try.prog 93 #[.pointer x13, .int .i64 a_] w14 fun e w16 => ∃ r17 : Int, e = .returned (.int .i64 r17) ∧ 
    K (.int .i64 (IntKind.i64.wrap (r15 - r17))) w16))
  (Calls Try.prog 97 #[.int .i64 a_] w5 fun e w18 => ∃ r19 : Int, e = .returned (.int .i64 r19) ∧ 
    Calls Try.prog 97 #[.int .i64 b_] w18 fun e w20 => ∃ r21 : Int, e = .returned (.int .i64 r21) ∧ 
    K (.int .i64 (IntKind.i64.wrap (r19 - r21))) w20)) ∧
(∃ x22 : Option Addr, w.drew.cell? c0_ = some (.pointer x22) ∧ 
  Calls Try.prog 93 #[.pointer x1, .int .i64 a_] w.drew fun e w23 => ∃ r24 : Int, e = .returned (.int .i64 r24) ∧ 
  Calls Try.prog 93 #[.pointer x22, .int .i64 b_] w23 fun e w25 => ∃ r26 : Int, e = .returned (.int .i64 r26) ∧ 
  cnd (r24 != r26)
  (∃ x27 : Option Addr, w25.drew.cell? c0_ = some (.pointer x27) ∧ 
    (Calls Try.prog 93 #[.pointer x27, .int .i64 b_] w25.drew fun e w28 => ∃ r29 : Int, e = .returned (.int .i64 r29) ∧ 
    ∃ x30 : Option Addr, w28.cell? c0_ = some (.pointer x30) ∧ 
    Calls Try.prog 93 #[.pointer x30, .int .i64 a_] w28 fun e w31 => ∃ r32 : Int, e = .returned (.int .i64 r32) ∧ 
    K (.int .i64 (IntKind.i64.wrap (r29 - r32))) w31) ∧
  (∃ x33 : Option Addr, w25.drew.cell? c0_ = some (.pointer x33) ∧ 
    Calls Try.prog 93 #[.pointer x27, .int .i64 b_] w25.drew fun e w34 => ∃ r35 : Int, e = .returned (.int .i64 r35) ∧ 
    Calls Try.prog 93 #[.pointer x33, .int .i64 a_] w34 fun e w36 => ∃ r37 : Int, e = .returned (.int .i64 r37) ∧ 
    K (.int .i64 (IntKind.i64.wrap (r35 - r37))) w36))
  (Calls Try.prog 97 #[.int .i64 a_] w25 fun e w38 => ∃ r39 : Int, e = .returned (.int .i64 r39) ∧ 
    Calls Try.prog 97 #[.int .i64 b_] w38 fun e w40 => ∃ r41 : Int, e = .returned (.int .i64 r41) ∧ 
    K (.int .i64 (IntKind.i64.wrap (r39 - r41))) w40))
theorem learn_study_ordered_1.eq (a_ : Int) (b_ : Int) (c0_ : Addr) (w : World) (K : Value → World → Prop) : wpF Try.prog Try.f103 .leaf [.int .i64 a_, .int .i64 b_, .pointer (some c0_)] w K = learn_study_ordered_1.w a_ b_ c0_ w K := by kernel_rfl
theorem learn_study_ordered_1.ok : fnOk Try.prog Try.f103 3 = true := by kernel_rfl
theorem learn_study_ordered_1.calls {a_ : Int} {b_ : Int} {c0_ : Addr} {w : World} {R : Ending → World → Prop} (h : learn_study_ordered_1.w a_ b_ c0_ w fun v w' => R (.returned v) w') : Calls Try.prog 103 #[.int .i64 a_, .int .i64 b_, .pointer (some c0_)] w R :=
  calls_of mixed Try.func103 learn_study_ordered_1.ok rfl (fun K => learn_study_ordered_1.eq a_ b_ c0_ w K) h

/-! ### slices.insertionSortCmpFunc[int]: function 104 (named slots 106) -/
def slices_insertionSortCmpFunc_int.w (data__p : Option Addr) (data__n : Nat) (data__c : Nat) (a_ : Int) (b_ : Int) (cmp_f : FuncId) (cmp_v : Array Value) (w : World) (K : Value → World → Prop) : Prop :=
  ∃ I1 : Int → World → Nat → Prop, (∃ k2, I1 (IntKind.i64.wrap (a_ + (1 : Int))) w k2) ∧
  ∀ (i_4 : Int) (w5 : World) (k2 : Nat) (_ : Fr), I1 i_4 w5 k2 →
  cnd (decide (i_4 < b_))
    (∃ I6 : Int → World → Nat → Prop, (∃ k7, I6 i_4 w5 k7) ∧
      ∀ (j_9 : Int) (w10 : World) (k7 : Nat) (_ : Fr), I6 j_9 w10 k7 →
      cnd (decide (j_9 > a_))
        (ixK data__p data__n j_9 1 fun a11 =>
        ∃ x12 : Int, w10.drew.cell? a11 = some (.int .i64 x12) ∧ 
        ixK data__p data__n (IntKind.i64.wrap (j_9 - (1 : Int))) 1 fun a13 =>
        ∃ x14 : Int, w10.drew.cell? a13 = some (.int .i64 x14) ∧ 
        cnd (entB Try.prog cmp_f) (Calls Try.prog cmp_f (#[] ++ #[.int .i64 x12, .int .i64 x14] ++ cmp_v) w10.drew fun e w15 => ∃ r16 : Int, e = .returned (.int .i64 r16) ∧ 
        cnd (decide (r16 < (0 : Int)))
        (ixK data__p data__n (IntKind.i64.wrap (j_9 - (1 : Int))) 1 fun a17 =>
          ∃ x18 : Int, w15.drew.cell? a17 = some (.int .i64 x18) ∧ 
          ixK data__p data__n j_9 1 fun a19 =>
          ∃ x20 : Int, w15.drew.cell? a19 = some (.int .i64 x20) ∧ 
          ixK data__p data__n j_9 1 fun a21 =>
          ∃ w22 : World, StoreAt a21 0 [.int .i64 x18] w15.drew w22 ∧ 
          ixK data__p data__n (IntKind.i64.wrap (j_9 - (1 : Int))) 1 fun a23 =>
          ∃ w24 : World, StoreAt a23 0 [.int .i64 x20] w22 w24 ∧ 
          ∃ k8, k8 < k7 ∧ I6 (IntKind.i64.wrap (j_9 - (1 : Int))) w24 k8)
        (∃ k3, k3 < k2 ∧ I1 (IntKind.i64.wrap (i_4 + (1 : Int))) w15 k3)) False)
        (∃ k3, k3 < k2 ∧ I1 (IntKind.i64.wrap (i_4 + (1 : Int))) w10.drew k3))
    (K (.tuple #[]) w5)
theorem slices_insertionSortCmpFunc_int.eq (data__p : Option Addr) (data__n : Nat) (data__c : Nat) (a_ : Int) (b_ : Int) (cmp_f : FuncId) (cmp_v : Array Value) (w : World) (K : Value → World → Prop) : wpF Try.prog Try.f104 (.two .leaf (.one (.loop [(8, 3)] (.two .leaf (.two (.one (.two .leaf (.one (.loop [(9, 3)] .leaf)))) .leaf))))) [.slice data__p data__n data__c, .int .i64 a_, .int .i64 b_, .func (.func cmp_f) #[] cmp_v] w K = slices_insertionSortCmpFunc_int.w data__p data__n data__c a_ b_ cmp_f cmp_v w K := by kernel_rfl
theorem slices_insertionSortCmpFunc_int.ok : fnOk Try.prog Try.f104 4 = true := by kernel_rfl
theorem slices_insertionSortCmpFunc_int.calls {data__p : Option Addr} {data__n : Nat} {data__c : Nat} {a_ : Int} {b_ : Int} {cmp_f : FuncId} {cmp_v : Array Value} {w : World} {R : Ending → World → Prop} (h : slices_insertionSortCmpFunc_int.w data__p data__n data__c a_ b_ cmp_f cmp_v w fun v w' => R (.returned v) w') : Calls Try.prog 104 #[.slice data__p data__n data__c, .int .i64 a_, .int .i64 b_, .func (.func cmp_f) #[] cmp_v] w R :=
  calls_of mixed Try.func104 slices_insertionSortCmpFunc_int.ok rfl (fun K => slices_insertionSortCmpFunc_int.eq data__p data__n data__c a_ b_ cmp_f cmp_v w K) h

/-! ### slices.heapSortCmpFunc[int]: function 105 (named slots 106) -/
def slices_heapSortCmpFunc_int.w (data__p : Option Addr) (data__n : Nat) (data__c : Nat) (a_ : Int) (b_ : Int) (cmp_f : FuncId) (cmp_v : Array Value) (w : World) (K : Value → World → Prop) : Prop :=
  (2 : Int) ≠ 0 ∧ ∃ I1 : Int → World → Nat → Prop, (∃ k2, I1 (IntKind.i64.wrap ((IntKind.i64.wrap ((IntKind.i64.wrap (b_ - a_)) - (1 : Int))).tdiv (2 : Int))) w k2) ∧
  ∀ (i_4 : Int) (w5 : World) (k2 : Nat) (_ : Fr), I1 i_4 w5 k2 →
  cnd (decide (i_4 ≥ (0 : Int)))
    (Calls Try.prog 114 #[.slice data__p data__n data__c, .int .i64 i_4, .int .i64 (IntKind.i64.wrap (b_ - a_)), .int .i64 a_, .func (.func cmp_f) #[] cmp_v] w5 fun e w6 => e = .returned (.tuple #[]) ∧ 
      ∃ k3, k3 < k2 ∧ I1 (IntKind.i64.wrap (i_4 - (1 : Int))) w6 k3)
    (∃ I7 : Int → World → Nat → Prop, (∃ k8, I7 (IntKind.i64.wrap ((IntKind.i64.wrap (b_ - a_)) - (1 : Int))) w5 k8) ∧
      ∀ (i_10 : Int) (w11 : World) (k8 : Nat) (_ : Fr), I7 i_10 w11 k8 →
      cnd (decide (i_10 ≥ (0 : Int)))
        (ixK data__p data__n (IntKind.i64.wrap (a_ + i_10)) 1 fun a12 =>
          ∃ x13 : Int, w11.drew.cell? a12 = some (.int .i64 x13) ∧ 
          ixK data__p data__n a_ 1 fun a14 =>
          ∃ x15 : Int, w11.drew.cell? a14 = some (.int .i64 x15) ∧ 
          ixK data__p data__n a_ 1 fun a16 =>
          ∃ w17 : World, StoreAt a16 0 [.int .i64 x13] w11.drew w17 ∧ 
          ixK data__p data__n (IntKind.i64.wrap (a_ + i_10)) 1 fun a18 =>
          ∃ w19 : World, StoreAt a18 0 [.int .i64 x15] w17 w19 ∧ 
          Calls Try.prog 114 #[.slice data__p data__n data__c, .int .i64 0, .int .i64 i_10, .int .i64 a_, .func (.func cmp_f) #[] cmp_v] w19 fun e w20 => e = .returned (.tuple #[]) ∧ 
          ∃ k9, k9 < k8 ∧ I7 (IntKind.i64.wrap (i_10 - (1 : Int))) w20 k9)
        (K (.tuple #[]) w11))
theorem slices_heapSortCmpFunc_int.eq (data__p : Option Addr) (data__n : Nat) (data__c : Nat) (a_ : Int) (b_ : Int) (cmp_f : FuncId) (cmp_v : Array Value) (w : World) (K : Value → World → Prop) : wpF Try.prog Try.f105 (.two .leaf (.two .leaf (.two .leaf (.two (.two .leaf (.one (.loop [(11, 3)] .leaf))) (.two .leaf (.one (.loop [(12, 3)] .leaf))))))) [.slice data__p data__n data__c, .int .i64 a_, .int .i64 b_, .func (.func cmp_f) #[] cmp_v] w K = slices_heapSortCmpFunc_int.w data__p data__n data__c a_ b_ cmp_f cmp_v w K := by kernel_rfl
theorem slices_heapSortCmpFunc_int.ok : fnOk Try.prog Try.f105 4 = true := by kernel_rfl
theorem slices_heapSortCmpFunc_int.calls {data__p : Option Addr} {data__n : Nat} {data__c : Nat} {a_ : Int} {b_ : Int} {cmp_f : FuncId} {cmp_v : Array Value} {w : World} {R : Ending → World → Prop} (h : slices_heapSortCmpFunc_int.w data__p data__n data__c a_ b_ cmp_f cmp_v w fun v w' => R (.returned v) w') : Calls Try.prog 105 #[.slice data__p data__n data__c, .int .i64 a_, .int .i64 b_, .func (.func cmp_f) #[] cmp_v] w R :=
  calls_of mixed Try.func105 slices_heapSortCmpFunc_int.ok rfl (fun K => slices_heapSortCmpFunc_int.eq data__p data__n data__c a_ b_ cmp_f cmp_v w K) h

/-! ### slices.breakPatternsCmpFunc[int]: function 106 (named slots 106) -/
def slices_breakPatternsCmpFunc_int.w (data__p : Option Addr) (data__n : Nat) (data__c : Nat) (a_ : Int) (b_ : Int) (cmp_f : FuncId) (cmp_v : Array Value) (w : World) (K : Value → World → Prop) : Prop :=
  cnd (decide ((IntKind.i64.wrap (b_ - a_)) ≥ (8 : Int)))
  (∀ (n1 : Nat) (w2 : World), New (.cells #[.int .u64 0] 114) w n1 w2 → 
    ∃ w3 : World, StoreAt (Addr.mk n1 0 none) 0 [.int .u64 (IntKind.u64.wrap (IntKind.i64.wrap (b_ - a_)))] w2 w3 ∧ 
    Calls Try.prog 115 #[.int .i64 (IntKind.i64.wrap (b_ - a_))] w3 fun e w4 => ∃ r5 : Int, e = .returned (.int .u64 r5) ∧ 
    (4 : Int) ≠ 0 ∧ ∃ I6 : Int → World → Nat → Prop, (∃ k7, I6 (IntKind.i64.wrap ((IntKind.i64.wrap (a_ + (IntKind.i64.wrap ((IntKind.i64.wrap ((IntKind.i64.wrap (b_ - a_)).tdiv (4 : Int))) * (2 : Int))))) - (1 : Int))) w4 k7) ∧
    ∀ (idx_9 : Int) (w10 : World) (k7 : Nat) (_ : Fr), I6 idx_9 w10 k7 →
    (4 : Int) ≠ 0 ∧ cnd (decide (idx_9 ≤ (IntKind.i64.wrap ((IntKind.i64.wrap (a_ + (IntKind.i64.wrap ((IntKind.i64.wrap ((IntKind.i64.wrap (b_ - a_)).tdiv (4 : Int))) * (2 : Int))))) + (1 : Int)))))
      (Calls Try.prog 116 #[.pointer (some (Addr.mk n1 0 none))] w10 fun e w11 => ∃ r12 : Int, e = .returned (.int .u64 r12) ∧ 
        cnd (decide ((IntKind.i64.wrap (IntKind.u64.wrap ((BitVec.ofInt (IntKind.bits .u64) r12 &&& BitVec.ofInt (IntKind.bits .u64) (IntKind.u64.wrap (r5 - (1 : Int)))).toNat))) ≥ (IntKind.i64.wrap (b_ - a_))))
        (ixK data__p data__n (IntKind.i64.wrap (a_ + (IntKind.i64.wrap ((IntKind.i64.wrap (IntKind.u64.wrap ((BitVec.ofInt (IntKind.bits .u64) r12 &&& BitVec.ofInt (IntKind.bits .u64) (IntKind.u64.wrap (r5 - (1 : Int)))).toNat))) - (IntKind.i64.wrap (b_ - a_)))))) 1 fun a13 =>
          ∃ x14 : Int, w11.drew.cell? a13 = some (.int .i64 x14) ∧ 
          ixK data__p data__n idx_9 1 fun a15 =>
          ∃ x16 : Int, w11.drew.cell? a15 = some (.int .i64 x16) ∧ 
          ixK data__p data__n idx_9 1 fun a17 =>
          ∃ w18 : World, StoreAt a17 0 [.int .i64 x14] w11.drew w18 ∧ 
          ixK data__p data__n (IntKind.i64.wrap (a_ + (IntKind.i64.wrap ((IntKind.i64.wrap (IntKind.u64.wrap ((BitVec.ofInt (IntKind.bits .u64) r12 &&& BitVec.ofInt (IntKind.bits .u64) (IntKind.u64.wrap (r5 - (1 : Int)))).toNat))) - (IntKind.i64.wrap (b_ - a_)))))) 1 fun a19 =>
          ∃ w20 : World, StoreAt a19 0 [.int .i64 x16] w18 w20 ∧ 
          ∃ k8, k8 < k7 ∧ I6 (IntKind.i64.wrap (idx_9 + (1 : Int))) w20 k8)
        (ixK data__p data__n (IntKind.i64.wrap (a_ + (IntKind.i64.wrap (IntKind.u64.wrap ((BitVec.ofInt (IntKind.bits .u64) r12 &&& BitVec.ofInt (IntKind.bits .u64) (IntKind.u64.wrap (r5 - (1 : Int)))).toNat))))) 1 fun a21 =>
          ∃ x22 : Int, w11.drew.cell? a21 = some (.int .i64 x22) ∧ 
          ixK data__p data__n idx_9 1 fun a23 =>
          ∃ x24 : Int, w11.drew.cell? a23 = some (.int .i64 x24) ∧ 
          ixK data__p data__n idx_9 1 fun a25 =>
          ∃ w26 : World, StoreAt a25 0 [.int .i64 x22] w11.drew w26 ∧ 
          ixK data__p data__n (IntKind.i64.wrap (a_ + (IntKind.i64.wrap (IntKind.u64.wrap ((BitVec.ofInt (IntKind.bits .u64) r12 &&& BitVec.ofInt (IntKind.bits .u64) (IntKind.u64.wrap (r5 - (1 : Int)))).toNat))))) 1 fun a27 =>
          ∃ w28 : World, StoreAt a27 0 [.int .i64 x24] w26 w28 ∧ 
          ∃ k8, k8 < k7 ∧ I6 (IntKind.i64.wrap (idx_9 + (1 : Int))) w28 k8))
      (K (.tuple #[]) w10))
  (K (.tuple #[]) w)
theorem slices_breakPatternsCmpFunc_int.eq (data__p : Option Addr) (data__n : Nat) (data__c : Nat) (a_ : Int) (b_ : Int) (cmp_f : FuncId) (cmp_v : Array Value) (w : World) (K : Value → World → Prop) : wpF Try.prog Try.f106 (.two .leaf (.two .leaf (.two (.two .leaf (.two .leaf (.two .leaf (.one (.loop [(11, 3)] .leaf))))) .leaf))) [.slice data__p data__n data__c, .int .i64 a_, .int .i64 b_, .func (.func cmp_f) #[] cmp_v] w K = slices_breakPatternsCmpFunc_int.w data__p data__n data__c a_ b_ cmp_f cmp_v w K := by kernel_rfl
theorem slices_breakPatternsCmpFunc_int.ok : fnOk Try.prog Try.f106 4 = true := by kernel_rfl
theorem slices_breakPatternsCmpFunc_int.calls {data__p : Option Addr} {data__n : Nat} {data__c : Nat} {a_ : Int} {b_ : Int} {cmp_f : FuncId} {cmp_v : Array Value} {w : World} {R : Ending → World → Prop} (h : slices_breakPatternsCmpFunc_int.w data__p data__n data__c a_ b_ cmp_f cmp_v w fun v w' => R (.returned v) w') : Calls Try.prog 106 #[.slice data__p data__n data__c, .int .i64 a_, .int .i64 b_, .func (.func cmp_f) #[] cmp_v] w R :=
  calls_of mixed Try.func106 slices_breakPatternsCmpFunc_int.ok rfl (fun K => slices_breakPatternsCmpFunc_int.eq data__p data__n data__c a_ b_ cmp_f cmp_v w K) h

/-! ### slices.choosePivotCmpFunc[int]: function 107 (named slots 109) -/
def slices_choosePivotCmpFunc_int.w (data__p : Option Addr) (data__n : Nat) (data__c : Nat) (a_ : Int) (b_ : Int) (cmp_f : FuncId) (cmp_v : Array Value) (w : World) (K : Value → World → Prop) : Prop :=
  ∀ (n1 : Nat) (w2 : World), New (.cells #[.int .i64 0] 3) w n1 w2 → 
  (4 : Int) ≠ 0 ∧ (4 : Int) ≠ 0 ∧ (4 : Int) ≠ 0 ∧ cnd (decide ((IntKind.i64.wrap (b_ - a_)) ≥ (8 : Int)))
  (cnd (decide ((IntKind.i64.wrap (b_ - a_)) ≥ (50 : Int)))
    (Calls Try.prog 117 #[.slice data__p data__n data__c, .int .i64 (IntKind.i64.wrap (a_ + (IntKind.i64.wrap ((IntKind.i64.wrap ((IntKind.i64.wrap (b_ - a_)).tdiv (4 : Int))) * (1 : Int))))), .pointer (some (Addr.mk n1 0 none)), .func (.func cmp_f) #[] cmp_v] w2 fun e w3 => ∃ r4 : Int, e = .returned (.int .i64 r4) ∧ 
      Calls Try.prog 117 #[.slice data__p data__n data__c, .int .i64 (IntKind.i64.wrap (a_ + (IntKind.i64.wrap ((IntKind.i64.wrap ((IntKind.i64.wrap (b_ - a_)).tdiv (4 : Int))) * (2 : Int))))), .pointer (some (Addr.mk n1 0 none)), .func (.func cmp_f) #[] cmp_v] w3 fun e w5 => ∃ r6 : Int, e = .returned (.int .i64 r6) ∧ 
      Calls Try.prog 117 #[.slice data__p data__n data__c, .int .i64 (IntKind.i64.wrap (a_ + (IntKind.i64.wrap ((IntKind.i64.wrap ((IntKind.i64.wrap (b_ - a_)).tdiv (4 : Int))) * (3 : Int))))), .pointer (some (Addr.mk n1 0 none)), .func (.func cmp_f) #[] cmp_v] w5 fun e w7 => ∃ r8 : Int, e = .returned (.int .i64 r8) ∧ 
      Calls Try.prog 118 #[.slice data__p data__n data__c, .int .i64 r4, .int .i64 r6, .int .i64 r8, .pointer (some (Addr.mk n1 0 none)), .func (.func cmp_f) #[] cmp_v] w7 fun e w9 => ∃ r10 : Int, e = .returned (.int .i64 r10) ∧ 
      ∃ x11 : Int, w9.cell? (Addr.mk n1 0 none) = some (.int .i64 x11) ∧ 
      cnd (x11 == (0 : Int))
      (K (.tuple #[.int .i64 r10, .int .i64 1]) w9)
      (cnd (x11 == (12 : Int))
        (K (.tuple #[.int .i64 r10, .int .i64 2]) w9)
        (K (.tuple #[.int .i64 r10, .int .i64 0]) w9)))
    (Calls Try.prog 118 #[.slice data__p data__n data__c, .int .i64 (IntKind.i64.wrap (a_ + (IntKind.i64.wrap ((IntKind.i64.wrap ((IntKind.i64.wrap (b_ - a_)).tdiv (4 : Int))) * (1 : Int))))), .int .i64 (IntKind.i64.wrap (a_ + (IntKind.i64.wrap ((IntKind.i64.wrap ((IntKind.i64.wrap (b_ - a_)).tdiv (4 : Int))) * (2 : Int))))), .int .i64 (IntKind.i64.wrap (a_ + (IntKind.i64.wrap ((IntKind.i64.wrap ((IntKind.i64.wrap (b_ - a_)).tdiv (4 : Int))) * (3 : Int))))), .pointer (some (Addr.mk n1 0 none)), .func (.func cmp_f) #[] cmp_v] w2 fun e w12 => ∃ r13 : Int, e = .returned (.int .i64 r13) ∧ 
      ∃ x14 : Int, w12.cell? (Addr.mk n1 0 none) = some (.int .i64 x14) ∧ 
      cnd (x14 == (0 : Int))
      (K (.tuple #[.int .i64 r13, .int .i64 1]) w12)
      (cnd (x14 == (12 : Int))
        (K (.tuple #[.int .i64 r13, .int .i64 2]) w12)
        (K (.tuple #[.int .i64 r13, .int .i64 0]) w12))))
  (∃ x15 : Int, w2.cell? (Addr.mk n1 0 none) = some (.int .i64 x15) ∧ 
    cnd (x15 == (0 : Int))
    (K (.tuple #[.int .i64 (IntKind.i64.wrap (a_ + (IntKind.i64.wrap ((IntKind.i64.wrap ((IntKind.i64.wrap (b_ - a_)).tdiv (4 : Int))) * (2 : Int))))), .int .i64 1]) w2)
    (cnd (x15 == (12 : Int))
      (K (.tuple #[.int .i64 (IntKind.i64.wrap (a_ + (IntKind.i64.wrap ((IntKind.i64.wrap ((IntKind.i64.wrap (b_ - a_)).tdiv (4 : Int))) * (2 : Int))))), .int .i64 2]) w2)
      (K (.tuple #[.int .i64 (IntKind.i64.wrap (a_ + (IntKind.i64.wrap ((IntKind.i64.wrap ((IntKind.i64.wrap (b_ - a_)).tdiv (4 : Int))) * (2 : Int))))), .int .i64 0]) w2)))
theorem slices_choosePivotCmpFunc_int.eq (data__p : Option Addr) (data__n : Nat) (data__c : Nat) (a_ : Int) (b_ : Int) (cmp_f : FuncId) (cmp_v : Array Value) (w : World) (K : Value → World → Prop) : wpF Try.prog Try.f107 .leaf [.slice data__p data__n data__c, .int .i64 a_, .int .i64 b_, .func (.func cmp_f) #[] cmp_v] w K = slices_choosePivotCmpFunc_int.w data__p data__n data__c a_ b_ cmp_f cmp_v w K := by kernel_rfl
theorem slices_choosePivotCmpFunc_int.ok : fnOk Try.prog Try.f107 4 = true := by kernel_rfl
theorem slices_choosePivotCmpFunc_int.calls {data__p : Option Addr} {data__n : Nat} {data__c : Nat} {a_ : Int} {b_ : Int} {cmp_f : FuncId} {cmp_v : Array Value} {w : World} {R : Ending → World → Prop} (h : slices_choosePivotCmpFunc_int.w data__p data__n data__c a_ b_ cmp_f cmp_v w fun v w' => R (.returned v) w') : Calls Try.prog 107 #[.slice data__p data__n data__c, .int .i64 a_, .int .i64 b_, .func (.func cmp_f) #[] cmp_v] w R :=
  calls_of mixed Try.func107 slices_choosePivotCmpFunc_int.ok rfl (fun K => slices_choosePivotCmpFunc_int.eq data__p data__n data__c a_ b_ cmp_f cmp_v w K) h

/-! ### slices.reverseRangeCmpFunc[int]: function 108 (named slots 106) -/
def slices_reverseRangeCmpFunc_int.w (data__p : Option Addr) (data__n : Nat) (data__c : Nat) (a_ : Int) (b_ : Int) (cmp_f : FuncId) (cmp_v : Array Value) (w : World) (K : Value → World → Prop) : Prop :=
  ∃ I1 : Int → Int → World → Nat → Prop, (∃ k2, I1 a_ (IntKind.i64.wrap (b_ - (1 : Int))) w k2) ∧
  ∀ (i_4 : Int) (j_5 : Int) (w6 : World) (k2 : Nat) (_ : Fr), I1 i_4 j_5 w6 k2 →
  cnd (decide (i_4 < j_5))
    (ixK data__p data__n j_5 1 fun a7 =>
      ∃ x8 : Int, w6.drew.cell? a7 = some (.int .i64 x8) ∧ 
      ixK data__p data__n i_4 1 fun a9 =>
      ∃ x10 : Int, w6.drew.cell? a9 = some (.int .i64 x10) ∧ 
      ixK data__p data__n i_4 1 fun a11 =>
      ∃ w12 : World, StoreAt a11 0 [.int .i64 x8] w6.drew w12 ∧ 
      ixK data__p data__n j_5 1 fun a13 =>
      ∃ w14 : World, StoreAt a13 0 [.int .i64 x10] w12 w14 ∧ 
      ∃ k3, k3 < k2 ∧ I1 (IntKind.i64.wrap (i_4 + (1 : Int))) (IntKind.i64.wrap (j_5 - (1 : Int))) w14 k3)
    (K (.tuple #[]) w6)
theorem slices_reverseRangeCmpFunc_int.eq (data__p : Option Addr) (data__n : Nat) (data__c : Nat) (a_ : Int) (b_ : Int) (cmp_f : FuncId) (cmp_v : Array Value) (w : World) (K : Value → World → Prop) : wpF Try.prog Try.f108 (.two .leaf (.two .leaf (.one (.loop [(8, 3), (9, 3)] .leaf)))) [.slice data__p data__n data__c, .int .i64 a_, .int .i64 b_, .func (.func cmp_f) #[] cmp_v] w K = slices_reverseRangeCmpFunc_int.w data__p data__n data__c a_ b_ cmp_f cmp_v w K := by kernel_rfl
theorem slices_reverseRangeCmpFunc_int.ok : fnOk Try.prog Try.f108 4 = true := by kernel_rfl
theorem slices_reverseRangeCmpFunc_int.calls {data__p : Option Addr} {data__n : Nat} {data__c : Nat} {a_ : Int} {b_ : Int} {cmp_f : FuncId} {cmp_v : Array Value} {w : World} {R : Ending → World → Prop} (h : slices_reverseRangeCmpFunc_int.w data__p data__n data__c a_ b_ cmp_f cmp_v w fun v w' => R (.returned v) w') : Calls Try.prog 108 #[.slice data__p data__n data__c, .int .i64 a_, .int .i64 b_, .func (.func cmp_f) #[] cmp_v] w R :=
  calls_of mixed Try.func108 slices_reverseRangeCmpFunc_int.ok rfl (fun K => slices_reverseRangeCmpFunc_int.eq data__p data__n data__c a_ b_ cmp_f cmp_v w K) h

/-! ### slices.partialInsertionSortCmpFunc[int]: function 109 (named slots 110) cuts [(2, 114), (3, 44)] -/
def slices_partialInsertionSortCmpFunc_int.w (data__p : Option Addr) (data__n : Nat) (data__c : Nat) (a_ : Int) (b_ : Int) (cmp_f : FuncId) (cmp_v : Array Value) (w : World) (K : Value → World → Prop) : Prop :=
  ∃ I1 : Int → Int → World → Nat → Prop, (∃ k2, I1 (IntKind.i64.wrap (a_ + (1 : Int))) 0 w k2) ∧
  ∀ (i_4 : Int) (j_5 : Int) (w6 : World) (k2 : Nat) (_ : Fr), I1 i_4 j_5 w6 k2 →
  cnd (decide (j_5 < (5 : Int)))
    (∃ J7 : Int → World → Prop, (∃ I8 : Int → World → Nat → Prop, (∃ k9, I8 i_4 w6 k9) ∧
      ∀ (i_11 : Int) (w12 : World) (k9 : Nat) (_ : Fr), I8 i_11 w12 k9 →
      cnd (decide (i_11 < b_))
        (ixK data__p data__n i_11 1 fun a13 =>
        ∃ x14 : Int, w12.drew.cell? a13 = some (.int .i64 x14) ∧ 
        ixK data__p data__n (IntKind.i64.wrap (i_11 - (1 : Int))) 1 fun a15 =>
        ∃ x16 : Int, w12.drew.cell? a15 = some (.int .i64 x16) ∧ 
        cnd (entB Try.prog cmp_f) (Calls Try.prog cmp_f (#[] ++ #[.int .i64 x14, .int .i64 x16] ++ cmp_v) w12.drew fun e w17 => ∃ r18 : Int, e = .returned (.int .i64 r18) ∧ 
        cnd (!(decide (r18 < (0 : Int))))
        (∃ k10, k10 < k9 ∧ I8 (IntKind.i64.wrap (i_11 + (1 : Int))) w17 k10)
        (J7 i_11 w17)) False)
        (J7 i_11 w12.drew)) ∧
      ∀ (i_19 : Int) (w20 : World) (_ : Fr), J7 i_19 w20 → 
      cnd (i_19 == b_)
      (K (.bool true) w20)
      (cnd (decide ((IntKind.i64.wrap (b_ - a_)) < (50 : Int)))
        (K (.bool false) w20)
        (ixK data__p data__n (IntKind.i64.wrap (i_19 - (1 : Int))) 1 fun a21 =>
          ∃ x22 : Int, w20.drew.cell? a21 = some (.int .i64 x22) ∧ 
          ixK data__p data__n i_19 1 fun a23 =>
          ∃ x24 : Int, w20.drew.cell? a23 = some (.int .i64 x24) ∧ 
          ixK data__p data__n i_19 1 fun a25 =>
          ∃ w26 : World, StoreAt a25 0 [.int .i64 x22] w20.drew w26 ∧ 
          ixK data__p data__n (IntKind.i64.wrap (i_19 - (1 : Int))) 1 fun a27 =>
          ∃ w28 : World, StoreAt a27 0 [.int .i64 x24] w26 w28 ∧ 
          ∃ J29 : World → Prop, (cnd (decide ((IntKind.i64.wrap (i_19 - a_)) ≥ (2 : Int)))
          (∃ I30 : Int → World → Nat → Prop, (∃ k31, I30 (IntKind.i64.wrap (i_19 - (1 : Int))) w28 k31) ∧
            ∀ (j_33 : Int) (w34 : World) (k31 : Nat) (_ : Fr), I30 j_33 w34 k31 →
            cnd (decide (j_33 ≥ (1 : Int)))
              (ixK data__p data__n j_33 1 fun a35 =>
                ∃ x36 : Int, w34.drew.cell? a35 = some (.int .i64 x36) ∧ 
                ixK data__p data__n (IntKind.i64.wrap (j_33 - (1 : Int))) 1 fun a37 =>
                ∃ x38 : Int, w34.drew.cell? a37 = some (.int .i64 x38) ∧ 
                cnd (entB Try.prog cmp_f) (Calls Try.prog cmp_f (#[] ++ #[.int .i64 x36, .int .i64 x38] ++ cmp_v) w34.drew fun e w39 => ∃ r40 : Int, e = .returned (.int .i64 r40) ∧ 
                cnd (!(decide (r40 < (0 : Int))))
                (J29 w39)
                (ixK data__p data__n (IntKind.i64.wrap (j_33 - (1 : Int))) 1 fun a41 =>
                  ∃ x42 : Int, w39.drew.cell? a41 = some (.int .i64 x42) ∧ 
                  ixK data__p data__n j_33 1 fun a43 =>
                  ∃ x44 : Int, w39.drew.cell? a43 = some (.int .i64 x44) ∧ 
                  ixK data__p data__n j_33 1 fun a45 =>
                  ∃ w46 : World, StoreAt a45 0 [.int .i64 x42] w39.drew w46 ∧ 
                  ixK data__p data__n (IntKind.i64.wrap (j_33 - (1 : Int))) 1 fun a47 =>
                  ∃ w48 : World, StoreAt a47 0 [.int .i64 x44] w46 w48 ∧ 
                  ∃ k32, k32 < k31 ∧ I30 (IntKind.i64.wrap (j_33 - (1 : Int))) w48 k32)) False)
              (J29 w34))
          (J29 w28)) ∧
          ∀ (w49 : World) (_ : Fr), J29 w49 → 
          cnd (decide ((IntKind.i64.wrap (b_ - i_19)) ≥ (2 : Int)))
          (∃ I50 : Int → World → Nat → Prop, (∃ k51, I50 (IntKind.i64.wrap (i_19 + (1 : Int))) w49 k51) ∧
            ∀ (j_53 : Int) (w54 : World) (k51 : Nat) (_ : Fr), I50 j_53 w54 k51 →
            cnd (decide (j_53 < b_))
              (ixK data__p data__n j_53 1 fun a55 =>
                ∃ x56 : Int, w54.drew.cell? a55 = some (.int .i64 x56) ∧ 
                ixK data__p data__n (IntKind.i64.wrap (j_53 - (1 : Int))) 1 fun a57 =>
                ∃ x58 : Int, w54.drew.cell? a57 = some (.int .i64 x58) ∧ 
                cnd (entB Try.prog cmp_f) (Calls Try.prog cmp_f (#[] ++ #[.int .i64 x56, .int .i64 x58] ++ cmp_v) w54.drew fun e w59 => ∃ r60 : Int, e = .returned (.int .i64 r60) ∧ 
                cnd (!(decide (r60 < (0 : Int))))
                (∃ k3, k3 < k2 ∧ I1 i_19 (IntKind.i64.wrap (j_5 + (1 : Int))) w59 k3)
                (ixK data__p data__n (IntKind.i64.wrap (j_53 - (1 : Int))) 1 fun a61 =>
                  ∃ x62 : Int, w59.drew.cell? a61 = some (.int .i64 x62) ∧ 
                  ixK data__p data__n j_53 1 fun a63 =>
                  ∃ x64 : Int, w59.drew.cell? a63 = some (.int .i64 x64) ∧ 
                  ixK data__p data__n j_53 1 fun a65 =>
                  ∃ w66 : World, StoreAt a65 0 [.int .i64 x62] w59.drew w66 ∧ 
                  ixK data__p data__n (IntKind.i64.wrap (j_53 - (1 : Int))) 1 fun a67 =>
                  ∃ w68 : World, StoreAt a67 0 [.int .i64 x64] w66 w68 ∧ 
                  ∃ k52, k52 < k51 ∧ I50 (IntKind.i64.wrap (j_53 + (1 : Int))) w68 k52)) False)
              (∃ k3, k3 < k2 ∧ I1 i_19 (IntKind.i64.wrap (j_5 + (1 : Int))) w54 k3))
          (∃ k3, k3 < k2 ∧ I1 i_19 (IntKind.i64.wrap (j_5 + (1 : Int))) w49 k3))))
    (K (.bool false) w6)
theorem slices_partialInsertionSortCmpFunc_int.eq (data__p : Option Addr) (data__n : Nat) (data__c : Nat) (a_ : Int) (b_ : Int) (cmp_f : FuncId) (cmp_v : Array Value) (w : World) (K : Value → World → Prop) : wpF Try.prog Try.f109 (.two .leaf (.two .leaf (.two (.two .leaf (.one (.loop [(9, 3), (10, 3)] (.two .leaf (.two (.one (.cut [(9, 3)] (.one (.loop [(9, 3)] .leaf)) (.two .leaf (.two .leaf (.two .leaf (.cut [] (.two .leaf (.two (.two .leaf (.one (.loop [(11, 3)] .leaf))) .leaf)) (.two .leaf (.two (.two .leaf (.one (.loop [(12, 3)] .leaf))) .leaf)))))))) .leaf))))) .leaf))) [.slice data__p data__n data__c, .int .i64 a_, .int .i64 b_, .func (.func cmp_f) #[] cmp_v] w K = slices_partialInsertionSortCmpFunc_int.w data__p data__n data__c a_ b_ cmp_f cmp_v w K := by kernel_rfl
theorem slices_partialInsertionSortCmpFunc_int.ok : fnOk Try.prog Try.f109 4 = true := by kernel_rfl
theorem slices_partialInsertionSortCmpFunc_int.calls {data__p : Option Addr} {data__n : Nat} {data__c : Nat} {a_ : Int} {b_ : Int} {cmp_f : FuncId} {cmp_v : Array Value} {w : World} {R : Ending → World → Prop} (h : slices_partialInsertionSortCmpFunc_int.w data__p data__n data__c a_ b_ cmp_f cmp_v w fun v w' => R (.returned v) w') : Calls Try.prog 109 #[.slice data__p data__n data__c, .int .i64 a_, .int .i64 b_, .func (.func cmp_f) #[] cmp_v] w R :=
  calls_of mixed Try.func109 slices_partialInsertionSortCmpFunc_int.ok rfl (fun K => slices_partialInsertionSortCmpFunc_int.eq data__p data__n data__c a_ b_ cmp_f cmp_v w K) h

/-! ### slices.partitionEqualCmpFunc[int]: function 110 (named slots 112) -/
def slices_partitionEqualCmpFunc_int.w (data__p : Option Addr) (data__n : Nat) (data__c : Nat) (a_ : Int) (b_ : Int) (pivot_ : Int) (cmp_f : FuncId) (cmp_v : Array Value) (w : World) (K : Value → World → Prop) : Prop :=
  ixK data__p data__n pivot_ 1 fun a1 =>
  ∃ x2 : Int, w.drew.cell? a1 = some (.int .i64 x2) ∧ 
  ixK data__p data__n a_ 1 fun a3 =>
  ∃ x4 : Int, w.drew.cell? a3 = some (.int .i64 x4) ∧ 
  ixK data__p data__n a_ 1 fun a5 =>
  ∃ w6 : World, StoreAt a5 0 [.int .i64 x2] w.drew w6 ∧ 
  ixK data__p data__n pivot_ 1 fun a7 =>
  ∃ w8 : World, StoreAt a7 0 [.int .i64 x4] w6 w8 ∧ 
  ∃ I9 : Int → Int → World → Nat → Prop, (∃ k10, I9 (IntKind.i64.wrap (a_ + (1 : Int))) (IntKind.i64.wrap (b_ - (1 : Int))) w8 k10) ∧
  ∀ (i_12 : Int) (j_13 : Int) (w14 : World) (k10 : Nat) (_ : Fr), I9 i_12 j_13 w14 k10 →
  ∃ I15 : Int → World → Nat → Prop, (∃ k16, I15 i_12 w14 k16) ∧
    ∀ (i_18 : Int) (w19 : World) (k16 : Nat) (_ : Fr), I15 i_18 w19 k16 →
    cnd (decide (i_18 ≤ j_13))
      (ixK data__p data__n a_ 1 fun a20 =>
      ∃ x21 : Int, w19.drew.cell? a20 = some (.int .i64 x21) ∧ 
      ixK data__p data__n i_18 1 fun a22 =>
      ∃ x23 : Int, w19.drew.cell? a22 = some (.int .i64 x23) ∧ 
      cnd (entB Try.prog cmp_f) (Calls Try.prog cmp_f (#[] ++ #[.int .i64 x21, .int .i64 x23] ++ cmp_v) w19.drew fun e w24 => ∃ r25 : Int, e = .returned (.int .i64 r25) ∧ 
      cnd (!(decide (r25 < (0 : Int))))
      (∃ k17, k17 < k16 ∧ I15 (IntKind.i64.wrap (i_18 + (1 : Int))) w24 k17)
      (∃ I26 : Int → World → Nat → Prop, (∃ k27, I26 j_13 w24 k27) ∧
        ∀ (j_29 : Int) (w30 : World) (k27 : Nat) (_ : Fr), I26 j_29 w30 k27 →
        cnd (decide (i_18 ≤ j_29))
          (ixK data__p data__n a_ 1 fun a31 =>
          ∃ x32 : Int, w30.drew.cell? a31 = some (.int .i64 x32) ∧ 
          ixK data__p data__n j_29 1 fun a33 =>
          ∃ x34 : Int, w30.drew.cell? a33 = some (.int .i64 x34) ∧ 
          cnd (entB Try.prog cmp_f) (Calls Try.prog cmp_f (#[] ++ #[.int .i64 x32, .int .i64 x34] ++ cmp_v) w30.drew fun e w35 => ∃ r36 : Int, e = .returned (.int .i64 r36) ∧ 
          cnd (decide (r36 < (0 : Int)))
          (∃ k28, k28 < k27 ∧ I26 (IntKind.i64.wrap (j_29 - (1 : Int))) w35 k28)
          (cnd (decide (i_18 > j_29))
            (K (.int .i64 i_18) w35)
            (ixK data__p data__n j_29 1 fun a37 =>
              ∃ x38 : Int, w35.drew.cell? a37 = some (.int .i64 x38) ∧ 
              ixK data__p data__n i_18 1 fun a39 =>
              ∃ x40 : Int, w35.drew.cell? a39 = some (.int .i64 x40) ∧ 
              ixK data__p data__n i_18 1 fun a41 =>
              ∃ w42 : World, StoreAt a41 0 [.int .i64 x38] w35.drew w42 ∧ 
              ixK data__p data__n j_29 1 fun a43 =>
              ∃ w44 : World, StoreAt a43 0 [.int .i64 x40] w42 w44 ∧ 
              ∃ k11, k11 < k10 ∧ I9 (IntKind.i64.wrap (i_18 + (1 : Int))) (IntKind.i64.wrap (j_29 - (1 : Int))) w44 k11))) False)
          (cnd (decide (i_18 > j_29))
          (K (.int .i64 i_18) w30.drew)
          (ixK data__p data__n j_29 1 fun a45 =>
            ∃ x46 : Int, w30.drew.drew.cell? a45 = some (.int .i64 x46) ∧ 
            ixK data__p data__n i_18 1 fun a47 =>
            ∃ x48 : Int, w30.drew.drew.cell? a47 = some (.int .i64 x48) ∧ 
            ixK data__p data__n i_18 1 fun a49 =>
            ∃ w50 : World, StoreAt a49 0 [.int .i64 x46] w30.drew.drew w50 ∧ 
            ixK data__p data__n j_29 1 fun a51 =>
            ∃ w52 : World, StoreAt a51 0 [.int .i64 x48] w50 w52 ∧ 
            ∃ k11, k11 < k10 ∧ I9 (IntKind.i64.wrap (i_18 + (1 : Int))) (IntKind.i64.wrap (j_29 - (1 : Int))) w52 k11)))) False)
      (∃ I53 : Int → World → Nat → Prop, (∃ k54, I53 j_13 w19.drew k54) ∧
      ∀ (j_56 : Int) (w57 : World) (k54 : Nat) (_ : Fr), I53 j_56 w57 k54 →
      cnd (decide (i_18 ≤ j_56))
        (ixK data__p data__n a_ 1 fun a58 =>
        ∃ x59 : Int, w57.drew.cell? a58 = some (.int .i64 x59) ∧ 
        ixK data__p data__n j_56 1 fun a60 =>
        ∃ x61 : Int, w57.drew.cell? a60 = some (.int .i64 x61) ∧ 
        cnd (entB Try.prog cmp_f) (Calls Try.prog cmp_f (#[] ++ #[.int .i64 x59, .int .i64 x61] ++ cmp_v) w57.drew fun e w62 => ∃ r63 : Int, e = .returned (.int .i64 r63) ∧ 
        cnd (decide (r63 < (0 : Int)))
        (∃ k55, k55 < k54 ∧ I53 (IntKind.i64.wrap (j_56 - (1 : Int))) w62 k55)
        (cnd (decide (i_18 > j_56))
          (K (.int .i64 i_18) w62)
          (ixK data__p data__n j_56 1 fun a64 =>
            ∃ x65 : Int, w62.drew.cell? a64 = some (.int .i64 x65) ∧ 
            ixK data__p data__n i_18 1 fun a66 =>
            ∃ x67 : Int, w62.drew.cell? a66 = some (.int .i64 x67) ∧ 
            ixK data__p data__n i_18 1 fun a68 =>
            ∃ w69 : World, StoreAt a68 0 [.int .i64 x65] w62.drew w69 ∧ 
            ixK data__p data__n j_56 1 fun a70 =>
            ∃ w71 : World, StoreAt a70 0 [.int .i64 x67] w69 w71 ∧ 
            ∃ k11, k11 < k10 ∧ I9 (IntKind.i64.wrap (i_18 + (1 : Int))) (IntKind.i64.wrap (j_56 - (1 : Int))) w71 k11))) False)
        (cnd (decide (i_18 > j_56))
        (K (.int .i64 i_18) w57.drew)
        (ixK data__p data__n j_56 1 fun a72 =>
          ∃ x73 : Int, w57.drew.drew.cell? a72 = some (.int .i64 x73) ∧ 
          ixK data__p data__n i_18 1 fun a74 =>
          ∃ x75 : Int, w57.drew.drew.cell? a74 = some (.int .i64 x75) ∧ 
          ixK data__p data__n i_18 1 fun a76 =>
          ∃ w77 : World, StoreAt a76 0 [.int .i64 x73] w57.drew.drew w77 ∧ 
          ixK data__p data__n j_56 1 fun a78 =>
          ∃ w79 : World, StoreAt a78 0 [.int .i64 x75] w77 w79 ∧ 
          ∃ k11, k11 < k10 ∧ I9 (IntKind.i64.wrap (i_18 + (1 : Int))) (IntKind.i64.wrap (j_56 - (1 : Int))) w79 k11)))
theorem slices_partitionEqualCmpFunc_int.eq (data__p : Option Addr) (data__n : Nat) (data__c : Nat) (a_ : Int) (b_ : Int) (pivot_ : Int) (cmp_f : FuncId) (cmp_v : Array Value) (w : World) (K : Value → World → Prop) : wpF Try.prog Try.f110 (.two .leaf (.two .leaf (.two .leaf (.two (.one (.loop [(11, 3), (12, 3)] (.one (.two (.one (.loop [(11, 3)] .leaf)) (.two (.one (.loop [(12, 3)] .leaf)) .leaf))))) .leaf)))) [.slice data__p data__n data__c, .int .i64 a_, .int .i64 b_, .int .i64 pivot_, .func (.func cmp_f) #[] cmp_v] w K = slices_partitionEqualCmpFunc_int.w data__p data__n data__c a_ b_ pivot_ cmp_f cmp_v w K := by kernel_rfl
theorem slices_partitionEqualCmpFunc_int.ok : fnOk Try.prog Try.f110 5 = true := by kernel_rfl
theorem slices_partitionEqualCmpFunc_int.calls {data__p : Option Addr} {data__n : Nat} {data__c : Nat} {a_ : Int} {b_ : Int} {pivot_ : Int} {cmp_f : FuncId} {cmp_v : Array Value} {w : World} {R : Ending → World → Prop} (h : slices_partitionEqualCmpFunc_int.w data__p data__n data__c a_ b_ pivot_ cmp_f cmp_v w fun v w' => R (.returned v) w') : Calls Try.prog 110 #[.slice data__p data__n data__c, .int .i64 a_, .int .i64 b_, .int .i64 pivot_, .func (.func cmp_f) #[] cmp_v] w R :=
  calls_of mixed Try.func110 slices_partitionEqualCmpFunc_int.ok rfl (fun K => slices_partitionEqualCmpFunc_int.eq data__p data__n data__c a_ b_ pivot_ cmp_f cmp_v w K) h

/-! ### slices.partitionCmpFunc[int]: function 111 (named slots 114) cuts [(2, 147), (2, 127)] -/
def slices_partitionCmpFunc_int.w (data__p : Option Addr) (data__n : Nat) (data__c : Nat) (a_ : Int) (b_ : Int) (pivot_ : Int) (cmp_f : FuncId) (cmp_v : Array Value) (w : World) (K : Value → World → Prop) : Prop :=
  ixK data__p data__n pivot_ 1 fun a1 =>
  ∃ x2 : Int, w.drew.cell? a1 = some (.int .i64 x2) ∧ 
  ixK data__p data__n a_ 1 fun a3 =>
  ∃ x4 : Int, w.drew.cell? a3 = some (.int .i64 x4) ∧ 
  ixK data__p data__n a_ 1 fun a5 =>
  ∃ w6 : World, StoreAt a5 0 [.int .i64 x2] w.drew w6 ∧ 
  ixK data__p data__n pivot_ 1 fun a7 =>
  ∃ w8 : World, StoreAt a7 0 [.int .i64 x4] w6 w8 ∧ 
  ∃ J9 : Int → World → Prop, (∃ I10 : Int → World → Nat → Prop, (∃ k11, I10 (IntKind.i64.wrap (a_ + (1 : Int))) w8 k11) ∧
  ∀ (i_13 : Int) (w14 : World) (k11 : Nat) (_ : Fr), I10 i_13 w14 k11 →
  cnd (decide (i_13 ≤ (IntKind.i64.wrap (b_ - (1 : Int)))))
    (ixK data__p data__n i_13 1 fun a15 =>
    ∃ x16 : Int, w14.drew.cell? a15 = some (.int .i64 x16) ∧ 
    ixK data__p data__n a_ 1 fun a17 =>
    ∃ x18 : Int, w14.drew.cell? a17 = some (.int .i64 x18) ∧ 
    cnd (entB Try.prog cmp_f) (Calls Try.prog cmp_f (#[] ++ #[.int .i64 x16, .int .i64 x18] ++ cmp_v) w14.drew fun e w19 => ∃ r20 : Int, e = .returned (.int .i64 r20) ∧ 
    cnd (decide (r20 < (0 : Int)))
    (∃ k12, k12 < k11 ∧ I10 (IntKind.i64.wrap (i_13 + (1 : Int))) w19 k12)
    (J9 i_13 w19)) False)
    (J9 i_13 w14.drew)) ∧
  ∀ (i_21 : Int) (w22 : World) (_ : Fr), J9 i_21 w22 → 
  ∃ J23 : Int → World → Prop, (∃ I24 : Int → World → Nat → Prop, (∃ k25, I24 (IntKind.i64.wrap (b_ - (1 : Int))) w22 k25) ∧
  ∀ (j_27 : Int) (w28 : World) (k25 : Nat) (_ : Fr), I24 j_27 w28 k25 →
  cnd (decide (i_21 ≤ j_27))
    (ixK data__p data__n j_27 1 fun a29 =>
    ∃ x30 : Int, w28.drew.cell? a29 = some (.int .i64 x30) ∧ 
    ixK data__p data__n a_ 1 fun a31 =>
    ∃ x32 : Int, w28.drew.cell? a31 = some (.int .i64 x32) ∧ 
    cnd (entB Try.prog cmp_f) (Calls Try.prog cmp_f (#[] ++ #[.int .i64 x30, .int .i64 x32] ++ cmp_v) w28.drew fun e w33 => ∃ r34 : Int, e = .returned (.int .i64 r34) ∧ 
    cnd (!(decide (r34 < (0 : Int))))
    (∃ k26, k26 < k25 ∧ I24 (IntKind.i64.wrap (j_27 - (1 : Int))) w33 k26)
    (J23 j_27 w33)) False)
    (J23 j_27 w28.drew)) ∧
  ∀ (j_35 : Int) (w36 : World) (_ : Fr), J23 j_35 w36 → 
  cnd (decide (i_21 > j_35))
  (ixK data__p data__n a_ 1 fun a37 =>
    ∃ x38 : Int, w36.drew.cell? a37 = some (.int .i64 x38) ∧ 
    ixK data__p data__n j_35 1 fun a39 =>
    ∃ x40 : Int, w36.drew.cell? a39 = some (.int .i64 x40) ∧ 
    ixK data__p data__n j_35 1 fun a41 =>
    ∃ w42 : World, StoreAt a41 0 [.int .i64 x38] w36.drew w42 ∧ 
    ixK data__p data__n a_ 1 fun a43 =>
    ∃ w44 : World, StoreAt a43 0 [.int .i64 x40] w42 w44 ∧ 
    K (.tuple #[.int .i64 j_35, .bool true]) w44)
  (ixK data__p data__n j_35 1 fun a45 =>
    ∃ x46 : Int, w36.drew.cell? a45 = some (.int .i64 x46) ∧ 
    ixK data__p data__n i_21 1 fun a47 =>
    ∃ x48 : Int, w36.drew.cell? a47 = some (.int .i64 x48) ∧ 
    ixK data__p data__n i_21 1 fun a49 =>
    ∃ w50 : World, StoreAt a49 0 [.int .i64 x46] w36.drew w50 ∧ 
    ixK data__p data__n j_35 1 fun a51 =>
    ∃ w52 : World, StoreAt a51 0 [.int .i64 x48] w50 w52 ∧ 
    ∃ I53 : Int → Int → World → Nat → Prop, (∃ k54, I53 (IntKind.i64.wrap (i_21 + (1 : Int))) (IntKind.i64.wrap (j_35 - (1 : Int))) w52 k54) ∧
    ∀ (i_56 : Int) (j_57 : Int) (w58 : World) (k54 : Nat) (_ : Fr), I53 i_56 j_57 w58 k54 →
    ∃ I59 : Int → World → Nat → Prop, (∃ k60, I59 i_56 w58 k60) ∧
      ∀ (i_62 : Int) (w63 : World) (k60 : Nat) (_ : Fr), I59 i_62 w63 k60 →
      cnd (decide (i_62 ≤ j_57))
        (ixK data__p data__n i_62 1 fun a64 =>
        ∃ x65 : Int, w63.drew.cell? a64 = some (.int .i64 x65) ∧ 
        ixK data__p data__n a_ 1 fun a66 =>
        ∃ x67 : Int, w63.drew.cell? a66 = some (.int .i64 x67) ∧ 
        cnd (entB Try.prog cmp_f) (Calls Try.prog cmp_f (#[] ++ #[.int .i64 x65, .int .i64 x67] ++ cmp_v) w63.drew fun e w68 => ∃ r69 : Int, e = .returned (.int .i64 r69) ∧ 
        cnd (decide (r69 < (0 : Int)))
        (∃ k61, k61 < k60 ∧ I59 (IntKind.i64.wrap (i_62 + (1 : Int))) w68 k61)
        (∃ I70 : Int → World → Nat → Prop, (∃ k71, I70 j_57 w68 k71) ∧
          ∀ (j_73 : Int) (w74 : World) (k71 : Nat) (_ : Fr), I70 j_73 w74 k71 →
          cnd (decide (i_62 ≤ j_73))
            (ixK data__p data__n j_73 1 fun a75 =>
            ∃ x76 : Int, w74.drew.cell? a75 = some (.int .i64 x76) ∧ 
            ixK data__p data__n a_ 1 fun a77 =>
            ∃ x78 : Int, w74.drew.cell? a77 = some (.int .i64 x78) ∧ 
            cnd (entB Try.prog cmp_f) (Calls Try.prog cmp_f (#[] ++ #[.int .i64 x76, .int .i64 x78] ++ cmp_v) w74.drew fun e w79 => ∃ r80 : Int, e = .returned (.int .i64 r80) ∧ 
            cnd (!(decide (r80 < (0 : Int))))
            (∃ k72, k72 < k71 ∧ I70 (IntKind.i64.wrap (j_73 - (1 : Int))) w79 k72)
            (cnd (decide (i_62 > j_73))
              (ixK data__p data__n a_ 1 fun a81 =>
                ∃ x82 : Int, w79.drew.cell? a81 = some (.int .i64 x82) ∧ 
                ixK data__p data__n j_73 1 fun a83 =>
                ∃ x84 : Int, w79.drew.cell? a83 = some (.int .i64 x84) ∧ 
                ixK data__p data__n j_73 1 fun a85 =>
                ∃ w86 : World, StoreAt a85 0 [.int .i64 x82] w79.drew w86 ∧ 
                ixK data__p data__n a_ 1 fun a87 =>
                ∃ w88 : World, StoreAt a87 0 [.int .i64 x84] w86 w88 ∧ 
                K (.tuple #[.int .i64 j_73, .bool false]) w88)
              (ixK data__p data__n j_73 1 fun a89 =>
                ∃ x90 : Int, w79.drew.cell? a89 = some (.int .i64 x90) ∧ 
                ixK data__p data__n i_62 1 fun a91 =>
                ∃ x92 : Int, w79.drew.cell? a91 = some (.int .i64 x92) ∧ 
                ixK data__p data__n i_62 1 fun a93 =>
                ∃ w94 : World, StoreAt a93 0 [.int .i64 x90] w79.drew w94 ∧ 
                ixK data__p data__n j_73 1 fun a95 =>
                ∃ w96 : World, StoreAt a95 0 [.int .i64 x92] w94 w96 ∧ 
                ∃ k55, k55 < k54 ∧ I53 (IntKind.i64.wrap (i_62 + (1 : Int))) (IntKind.i64.wrap (j_73 - (1 : Int))) w96 k55))) False)
            (cnd (decide (i_62 > j_73))
            (ixK data__p data__n a_ 1 fun a97 =>
              ∃ x98 : Int, w74.drew.drew.cell? a97 = some (.int .i64 x98) ∧ 
              ixK data__p data__n j_73 1 fun a99 =>
              ∃ x100 : Int, w74.drew.drew.cell? a99 = some (.int .i64 x100) ∧ 
              ixK data__p data__n j_73 1 fun a101 =>
              ∃ w102 : World, StoreAt a101 0 [.int .i64 x98] w74.drew.drew w102 ∧ 
              ixK data__p data__n a_ 1 fun a103 =>
              ∃ w104 : World, StoreAt a103 0 [.int .i64 x100] w102 w104 ∧ 
              K (.tuple #[.int .i64 j_73, .bool false]) w104)
            (ixK data__p data__n j_73 1 fun a105 =>
              ∃ x106 : Int, w74.drew.drew.cell? a105 = some (.int .i64 x106) ∧ 
              ixK data__p data__n i_62 1 fun a107 =>
              ∃ x108 : Int, w74.drew.drew.cell? a107 = some (.int .i64 x108) ∧ 
              ixK data__p data__n i_62 1 fun a109 =>
              ∃ w110 : World, StoreAt a109 0 [.int .i64 x106] w74.drew.drew w110 ∧ 
              ixK data__p data__n j_73 1 fun a111 =>
              ∃ w112 : World, StoreAt a111 0 [.int .i64 x108] w110 w112 ∧ 
              ∃ k55, k55 < k54 ∧ I53 (IntKind.i64.wrap (i_62 + (1 : Int))) (IntKind.i64.wrap (j_73 - (1 : Int))) w112 k55)))) False)
        (∃ I113 : Int → World → Nat → Prop, (∃ k114, I113 j_57 w63.drew k114) ∧
        ∀ (j_116 : Int) (w117 : World) (k114 : Nat) (_ : Fr), I113 j_116 w117 k114 →
        cnd (decide (i_62 ≤ j_116))
          (ixK data__p data__n j_116 1 fun a118 =>
          ∃ x119 : Int, w117.drew.cell? a118 = some (.int .i64 x119) ∧ 
          ixK data__p data__n a_ 1 fun a120 =>
          ∃ x121 : Int, w117.drew.cell? a120 = some (.int .i64 x121) ∧ 
          cnd (entB Try.prog cmp_f) (Calls Try.prog cmp_f (#[] ++ #[.int .i64 x119, .int .i64 x121] ++ cmp_v) w117.drew fun e w122 => ∃ r123 : Int, e = .returned (.int .i64 r123) ∧ 
          cnd (!(decide (r123 < (0 : Int))))
          (∃ k115, k115 < k114 ∧ I113 (IntKind.i64.wrap (j_116 - (1 : Int))) w122 k115)
          (cnd (decide (i_62 > j_116))
            (ixK data__p data__n a_ 1 fun a124 =>
              ∃ x125 : Int, w122.drew.cell? a124 = some (.int .i64 x125) ∧ 
              ixK data__p data__n j_116 1 fun a126 =>
              ∃ x127 : Int, w122.drew.cell? a126 = some (.int .i64 x127) ∧ 
              ixK data__p data__n j_116 1 fun a128 =>
              ∃ w129 : World, StoreAt a128 0 [.int .i64 x125] w122.drew w129 ∧ 
              ixK data__p data__n a_ 1 fun a130 =>
              ∃ w131 : World, StoreAt a130 0 [.int .i64 x127] w129 w131 ∧ 
              K (.tuple #[.int .i64 j_116, .bool false]) w131)
            (ixK data__p data__n j_116 1 fun a132 =>
              ∃ x133 : Int, w122.drew.cell? a132 = some (.int .i64 x133) ∧ 
              ixK data__p data__n i_62 1 fun a134 =>
              ∃ x135 : Int, w122.drew.cell? a134 = some (.int .i64 x135) ∧ 
              ixK data__p data__n i_62 1 fun a136 =>
              ∃ w137 : World, StoreAt a136 0 [.int .i64 x133] w122.drew w137 ∧ 
              ixK data__p data__n j_116 1 fun a138 =>
              ∃ w139 : World, StoreAt a138 0 [.int .i64 x135] w137 w139 ∧ 
              ∃ k55, k55 < k54 ∧ I53 (IntKind.i64.wrap (i_62 + (1 : Int))) (IntKind.i64.wrap (j_116 - (1 : Int))) w139 k55))) False)
          (cnd (decide (i_62 > j_116))
          (ixK data__p data__n a_ 1 fun a140 =>
            ∃ x141 : Int, w117.drew.drew.cell? a140 = some (.int .i64 x141) ∧ 
            ixK data__p data__n j_116 1 fun a142 =>
            ∃ x143 : Int, w117.drew.drew.cell? a142 = some (.int .i64 x143) ∧ 
            ixK data__p data__n j_116 1 fun a144 =>
            ∃ w145 : World, StoreAt a144 0 [.int .i64 x141] w117.drew.drew w145 ∧ 
            ixK data__p data__n a_ 1 fun a146 =>
            ∃ w147 : World, StoreAt a146 0 [.int .i64 x143] w145 w147 ∧ 
            K (.tuple #[.int .i64 j_116, .bool false]) w147)
          (ixK data__p data__n j_116 1 fun a148 =>
            ∃ x149 : Int, w117.drew.drew.cell? a148 = some (.int .i64 x149) ∧ 
            ixK data__p data__n i_62 1 fun a150 =>
            ∃ x151 : Int, w117.drew.drew.cell? a150 = some (.int .i64 x151) ∧ 
            ixK data__p data__n i_62 1 fun a152 =>
            ∃ w153 : World, StoreAt a152 0 [.int .i64 x149] w117.drew.drew w153 ∧ 
            ixK data__p data__n j_116 1 fun a154 =>
            ∃ w155 : World, StoreAt a154 0 [.int .i64 x151] w153 w155 ∧ 
            ∃ k55, k55 < k54 ∧ I53 (IntKind.i64.wrap (i_62 + (1 : Int))) (IntKind.i64.wrap (j_116 - (1 : Int))) w155 k55))))
theorem slices_partitionCmpFunc_int.eq (data__p : Option Addr) (data__n : Nat) (data__c : Nat) (a_ : Int) (b_ : Int) (pivot_ : Int) (cmp_f : FuncId) (cmp_v : Array Value) (w : World) (K : Value → World → Prop) : wpF Try.prog Try.f111 (.two .leaf (.two .leaf (.two .leaf (.cut [(12, 3)] (.one (.loop [(12, 3)] .leaf)) (.cut [(13, 3)] (.one (.loop [(13, 3)] .leaf)) (.two .leaf (.two .leaf (.two .leaf (.two .leaf (.two (.one (.loop [(12, 3), (13, 3)] (.one (.two (.one (.loop [(12, 3)] .leaf)) (.two (.one (.loop [(13, 3)] .leaf)) .leaf))))) .leaf)))))))))) [.slice data__p data__n data__c, .int .i64 a_, .int .i64 b_, .int .i64 pivot_, .func (.func cmp_f) #[] cmp_v] w K = slices_partitionCmpFunc_int.w data__p data__n data__c a_ b_ pivot_ cmp_f cmp_v w K := by kernel_rfl
theorem slices_partitionCmpFunc_int.ok : fnOk Try.prog Try.f111 5 = true := by kernel_rfl
theorem slices_partitionCmpFunc_int.calls {data__p : Option Addr} {data__n : Nat} {data__c : Nat} {a_ : Int} {b_ : Int} {pivot_ : Int} {cmp_f : FuncId} {cmp_v : Array Value} {w : World} {R : Ending → World → Prop} (h : slices_partitionCmpFunc_int.w data__p data__n data__c a_ b_ pivot_ cmp_f cmp_v w fun v w' => R (.returned v) w') : Calls Try.prog 111 #[.slice data__p data__n data__c, .int .i64 a_, .int .i64 b_, .int .i64 pivot_, .func (.func cmp_f) #[] cmp_v] w R :=
  calls_of mixed Try.func111 slices_partitionCmpFunc_int.ok rfl (fun K => slices_partitionCmpFunc_int.eq data__p data__n data__c a_ b_ pivot_ cmp_f cmp_v w K) h

/-! ### math/bits.Len32: function 112 (named slots 3) -/
def bits_Len32.w (x0_ : Int) (w : World) (K : Value → World → Prop) : Prop :=
  cnd (decide (x0_ ≥ (65536 : Int)))
  (0 ≤ (16 : Int) ∧ cnd (decide ((x0_.fdiv (2 ^ (min (16 : Int).toNat (IntKind.bits .u32)))) ≥ (256 : Int)))
    (0 ≤ (8 : Int) ∧ ∃ b1, 0 ≤ (IntKind.u8.wrap ((x0_.fdiv (2 ^ (min (16 : Int).toNat (IntKind.bits .u32)))).fdiv (2 ^ (min (8 : Int).toNat (IntKind.bits .u32))))) ∧ strtab0[(IntKind.u8.wrap ((x0_.fdiv (2 ^ (min (16 : Int).toNat (IntKind.bits .u32)))).fdiv (2 ^ (min (8 : Int).toNat (IntKind.bits .u32))))).toNat]? = some b1 ∧ 
      K (.int .i64 (IntKind.i64.wrap ((IntKind.i64.wrap ((16 : Int) + (8 : Int))) + (IntKind.i64.wrap (b1.toNat : Int))))) w)
    (∃ b2, 0 ≤ (IntKind.u8.wrap (x0_.fdiv (2 ^ (min (16 : Int).toNat (IntKind.bits .u32))))) ∧ strtab0[(IntKind.u8.wrap (x0_.fdiv (2 ^ (min (16 : Int).toNat (IntKind.bits .u32))))).toNat]? = some b2 ∧ 
      K (.int .i64 (IntKind.i64.wrap ((16 : Int) + (IntKind.i64.wrap (b2.toNat : Int))))) w))
  (cnd (decide (x0_ ≥ (256 : Int)))
    (0 ≤ (8 : Int) ∧ ∃ b3, 0 ≤ (IntKind.u8.wrap (x0_.fdiv (2 ^ (min (8 : Int).toNat (IntKind.bits .u32))))) ∧ strtab0[(IntKind.u8.wrap (x0_.fdiv (2 ^ (min (8 : Int).toNat (IntKind.bits .u32))))).toNat]? = some b3 ∧ 
      K (.int .i64 (IntKind.i64.wrap ((IntKind.i64.wrap ((0 : Int) + (8 : Int))) + (IntKind.i64.wrap (b3.toNat : Int))))) w)
    (∃ b4, 0 ≤ (IntKind.u8.wrap x0_) ∧ strtab0[(IntKind.u8.wrap x0_).toNat]? = some b4 ∧ 
      K (.int .i64 (IntKind.i64.wrap ((0 : Int) + (IntKind.i64.wrap (b4.toNat : Int))))) w))
theorem bits_Len32.eq (x0_ : Int) (w : World) (K : Value → World → Prop) : wpF Try.prog Try.f112 .leaf [.int .u32 x0_] w K = bits_Len32.w x0_ w K := by kernel_rfl
theorem bits_Len32.ok : fnOk Try.prog Try.f112 1 = true := by kernel_rfl
theorem bits_Len32.calls {x0_ : Int} {w : World} {R : Ending → World → Prop} (h : bits_Len32.w x0_ w fun v w' => R (.returned v) w') : Calls Try.prog 112 #[.int .u32 x0_] w R :=
  calls_of mixed Try.func112 bits_Len32.ok rfl (fun K => bits_Len32.eq x0_ w K) h

/-! ### math/bits.Len64: function 113 (named slots 3) -/
def bits_Len64.w (x0_ : Int) (w : World) (K : Value → World → Prop) : Prop :=
  cnd (decide (x0_ ≥ (4294967296 : Int)))
  (0 ≤ (32 : Int) ∧ cnd (decide ((x0_.fdiv (2 ^ (min (32 : Int).toNat (IntKind.bits .u64)))) ≥ (65536 : Int)))
    (0 ≤ (16 : Int) ∧ cnd (decide (((x0_.fdiv (2 ^ (min (32 : Int).toNat (IntKind.bits .u64)))).fdiv (2 ^ (min (16 : Int).toNat (IntKind.bits .u64)))) ≥ (256 : Int)))
      (0 ≤ (8 : Int) ∧ ∃ b1, 0 ≤ (IntKind.u8.wrap (((x0_.fdiv (2 ^ (min (32 : Int).toNat (IntKind.bits .u64)))).fdiv (2 ^ (min (16 : Int).toNat (IntKind.bits .u64)))).fdiv (2 ^ (min (8 : Int).toNat (IntKind.bits .u64))))) ∧ strtab0[(IntKind.u8.wrap (((x0_.fdiv (2 ^ (min (32 : Int).toNat (IntKind.bits .u64)))).fdiv (2 ^ (min (16 : Int).toNat (IntKind.bits .u64)))).fdiv (2 ^ (min (8 : Int).toNat (IntKind.bits .u64))))).toNat]? = some b1 ∧ 
        K (.int .i64 (IntKind.i64.wrap ((IntKind.i64.wrap ((IntKind.i64.wrap ((32 : Int) + (16 : Int))) + (8 : Int))) + (IntKind.i64.wrap (b1.toNat : Int))))) w)
      (∃ b2, 0 ≤ (IntKind.u8.wrap ((x0_.fdiv (2 ^ (min (32 : Int).toNat (IntKind.bits .u64)))).fdiv (2 ^ (min (16 : Int).toNat (IntKind.bits .u64))))) ∧ strtab0[(IntKind.u8.wrap ((x0_.fdiv (2 ^ (min (32 : Int).toNat (IntKind.bits .u64)))).fdiv (2 ^ (min (16 : Int).toNat (IntKind.bits .u64))))).toNat]? = some b2 ∧ 
        K (.int .i64 (IntKind.i64.wrap ((IntKind.i64.wrap ((32 : Int) + (16 : Int))) + (IntKind.i64.wrap (b2.toNat : Int))))) w))
    (cnd (decide ((x0_.fdiv (2 ^ (min (32 : Int).toNat (IntKind.bits .u64)))) ≥ (256 : Int)))
      (0 ≤ (8 : Int) ∧ ∃ b3, 0 ≤ (IntKind.u8.wrap ((x0_.fdiv (2 ^ (min (32 : Int).toNat (IntKind.bits .u64)))).fdiv (2 ^ (min (8 : Int).toNat (IntKind.bits .u64))))) ∧ strtab0[(IntKind.u8.wrap ((x0_.fdiv (2 ^ (min (32 : Int).toNat (IntKind.bits .u64)))).fdiv (2 ^ (min (8 : Int).toNat (IntKind.bits .u64))))).toNat]? = some b3 ∧ 
        K (.int .i64 (IntKind.i64.wrap ((IntKind.i64.wrap ((32 : Int) + (8 : Int))) + (IntKind.i64.wrap (b3.toNat : Int))))) w)
      (∃ b4, 0 ≤ (IntKind.u8.wrap (x0_.fdiv (2 ^ (min (32 : Int).toNat (IntKind.bits .u64))))) ∧ strtab0[(IntKind.u8.wrap (x0_.fdiv (2 ^ (min (32 : Int).toNat (IntKind.bits .u64))))).toNat]? = some b4 ∧ 
        K (.int .i64 (IntKind.i64.wrap ((32 : Int) + (IntKind.i64.wrap (b4.toNat : Int))))) w)))
  (cnd (decide (x0_ ≥ (65536 : Int)))
    (0 ≤ (16 : Int) ∧ cnd (decide ((x0_.fdiv (2 ^ (min (16 : Int).toNat (IntKind.bits .u64)))) ≥ (256 : Int)))
      (0 ≤ (8 : Int) ∧ ∃ b5, 0 ≤ (IntKind.u8.wrap ((x0_.fdiv (2 ^ (min (16 : Int).toNat (IntKind.bits .u64)))).fdiv (2 ^ (min (8 : Int).toNat (IntKind.bits .u64))))) ∧ strtab0[(IntKind.u8.wrap ((x0_.fdiv (2 ^ (min (16 : Int).toNat (IntKind.bits .u64)))).fdiv (2 ^ (min (8 : Int).toNat (IntKind.bits .u64))))).toNat]? = some b5 ∧ 
        K (.int .i64 (IntKind.i64.wrap ((IntKind.i64.wrap ((IntKind.i64.wrap ((0 : Int) + (16 : Int))) + (8 : Int))) + (IntKind.i64.wrap (b5.toNat : Int))))) w)
      (∃ b6, 0 ≤ (IntKind.u8.wrap (x0_.fdiv (2 ^ (min (16 : Int).toNat (IntKind.bits .u64))))) ∧ strtab0[(IntKind.u8.wrap (x0_.fdiv (2 ^ (min (16 : Int).toNat (IntKind.bits .u64))))).toNat]? = some b6 ∧ 
        K (.int .i64 (IntKind.i64.wrap ((IntKind.i64.wrap ((0 : Int) + (16 : Int))) + (IntKind.i64.wrap (b6.toNat : Int))))) w))
    (cnd (decide (x0_ ≥ (256 : Int)))
      (0 ≤ (8 : Int) ∧ ∃ b7, 0 ≤ (IntKind.u8.wrap (x0_.fdiv (2 ^ (min (8 : Int).toNat (IntKind.bits .u64))))) ∧ strtab0[(IntKind.u8.wrap (x0_.fdiv (2 ^ (min (8 : Int).toNat (IntKind.bits .u64))))).toNat]? = some b7 ∧ 
        K (.int .i64 (IntKind.i64.wrap ((IntKind.i64.wrap ((0 : Int) + (8 : Int))) + (IntKind.i64.wrap (b7.toNat : Int))))) w)
      (∃ b8, 0 ≤ (IntKind.u8.wrap x0_) ∧ strtab0[(IntKind.u8.wrap x0_).toNat]? = some b8 ∧ 
        K (.int .i64 (IntKind.i64.wrap ((0 : Int) + (IntKind.i64.wrap (b8.toNat : Int))))) w)))
theorem bits_Len64.eq (x0_ : Int) (w : World) (K : Value → World → Prop) : wpF Try.prog Try.f113 .leaf [.int .u64 x0_] w K = bits_Len64.w x0_ w K := by kernel_rfl
theorem bits_Len64.ok : fnOk Try.prog Try.f113 1 = true := by kernel_rfl
theorem bits_Len64.calls {x0_ : Int} {w : World} {R : Ending → World → Prop} (h : bits_Len64.w x0_ w fun v w' => R (.returned v) w') : Calls Try.prog 113 #[.int .u64 x0_] w R :=
  calls_of mixed Try.func113 bits_Len64.ok rfl (fun K => bits_Len64.eq x0_ w K) h

/-! ### slices.siftDownCmpFunc[int]: function 114 (named slots 101) cuts [(3, 42)] -/
def slices_siftDownCmpFunc_int.w (data__p : Option Addr) (data__n : Nat) (data__c : Nat) (lo_ : Int) (hi_ : Int) (first_ : Int) (cmp_f : FuncId) (cmp_v : Array Value) (w : World) (K : Value → World → Prop) : Prop :=
  ∃ I1 : Int → World → Nat → Prop, (∃ k2, I1 lo_ w k2) ∧
  ∀ (root_4 : Int) (w5 : World) (k2 : Nat) (_ : Fr), I1 root_4 w5 k2 →
  cnd (decide ((IntKind.i64.wrap ((IntKind.i64.wrap ((2 : Int) * root_4)) + (1 : Int))) ≥ hi_))
    (K (.tuple #[]) w5)
    (∃ J6 : Int → World → Prop, (cnd (decide ((IntKind.i64.wrap ((IntKind.i64.wrap ((IntKind.i64.wrap ((2 : Int) * root_4)) + (1 : Int))) + (1 : Int))) < hi_))
      (ixK data__p data__n (IntKind.i64.wrap (first_ + (IntKind.i64.wrap ((IntKind.i64.wrap ((2 : Int) * root_4)) + (1 : Int))))) 1 fun a7 =>
      ∃ x8 : Int, w5.drew.cell? a7 = some (.int .i64 x8) ∧ 
      ixK data__p data__n (IntKind.i64.wrap ((IntKind.i64.wrap (first_ + (IntKind.i64.wrap ((IntKind.i64.wrap ((2 : Int) * root_4)) + (1 : Int))))) + (1 : Int))) 1 fun a9 =>
      ∃ x10 : Int, w5.drew.cell? a9 = some (.int .i64 x10) ∧ 
      cnd (entB Try.prog cmp_f) (Calls Try.prog cmp_f (#[] ++ #[.int .i64 x8, .int .i64 x10] ++ cmp_v) w5.drew fun e w11 => ∃ r12 : Int, e = .returned (.int .i64 r12) ∧ 
      cnd (decide (r12 < (0 : Int)))
      (J6 (IntKind.i64.wrap ((IntKind.i64.wrap ((IntKind.i64.wrap ((2 : Int) * root_4)) + (1 : Int))) + (1 : Int))) w11)
      (J6 (IntKind.i64.wrap ((IntKind.i64.wrap ((2 : Int) * root_4)) + (1 : Int))) w11)) False)
      (J6 (IntKind.i64.wrap ((IntKind.i64.wrap ((2 : Int) * root_4)) + (1 : Int))) w5.drew)) ∧
      ∀ (child_13 : Int) (w14 : World) (_ : Fr), J6 child_13 w14 → 
      ixK data__p data__n (IntKind.i64.wrap (first_ + root_4)) 1 fun a15 =>
      ∃ x16 : Int, w14.drew.cell? a15 = some (.int .i64 x16) ∧ 
      ixK data__p data__n (IntKind.i64.wrap (first_ + child_13)) 1 fun a17 =>
      ∃ x18 : Int, w14.drew.cell? a17 = some (.int .i64 x18) ∧ 
      cnd (entB Try.prog cmp_f) (Calls Try.prog cmp_f (#[] ++ #[.int .i64 x16, .int .i64 x18] ++ cmp_v) w14.drew fun e w19 => ∃ r20 : Int, e = .returned (.int .i64 r20) ∧ 
      cnd (!(decide (r20 < (0 : Int))))
      (K (.tuple #[]) w19)
      (ixK data__p data__n (IntKind.i64.wrap (first_ + child_13)) 1 fun a21 =>
        ∃ x22 : Int, w19.drew.cell? a21 = some (.int .i64 x22) ∧ 
        ixK data__p data__n (IntKind.i64.wrap (first_ + root_4)) 1 fun a23 =>
        ∃ x24 : Int, w19.drew.cell? a23 = some (.int .i64 x24) ∧ 
        ixK data__p data__n (IntKind.i64.wrap (first_ + root_4)) 1 fun a25 =>
        ∃ w26 : World, StoreAt a25 0 [.int .i64 x22] w19.drew w26 ∧ 
        ixK data__p data__n (IntKind.i64.wrap (first_ + child_13)) 1 fun a27 =>
        ∃ w28 : World, StoreAt a27 0 [.int .i64 x24] w26 w28 ∧ 
        ∃ k3, k3 < k2 ∧ I1 child_13 w28 k3)) False)
theorem slices_siftDownCmpFunc_int.eq (data__p : Option Addr) (data__n : Nat) (data__c : Nat) (lo_ : Int) (hi_ : Int) (first_ : Int) (cmp_f : FuncId) (cmp_v : Array Value) (w : World) (K : Value → World → Prop) : wpF Try.prog Try.f114 (.two .leaf (.one (.loop [(10, 3)] (.one (.two .leaf (.two .leaf (.cut [(11, 3)] .leaf .leaf))))))) [.slice data__p data__n data__c, .int .i64 lo_, .int .i64 hi_, .int .i64 first_, .func (.func cmp_f) #[] cmp_v] w K = slices_siftDownCmpFunc_int.w data__p data__n data__c lo_ hi_ first_ cmp_f cmp_v w K := by kernel_rfl
theorem slices_siftDownCmpFunc_int.ok : fnOk Try.prog Try.f114 5 = true := by kernel_rfl
theorem slices_siftDownCmpFunc_int.calls {data__p : Option Addr} {data__n : Nat} {data__c : Nat} {lo_ : Int} {hi_ : Int} {first_ : Int} {cmp_f : FuncId} {cmp_v : Array Value} {w : World} {R : Ending → World → Prop} (h : slices_siftDownCmpFunc_int.w data__p data__n data__c lo_ hi_ first_ cmp_f cmp_v w fun v w' => R (.returned v) w') : Calls Try.prog 114 #[.slice data__p data__n data__c, .int .i64 lo_, .int .i64 hi_, .int .i64 first_, .func (.func cmp_f) #[] cmp_v] w R :=
  calls_of mixed Try.func114 slices_siftDownCmpFunc_int.ok rfl (fun K => slices_siftDownCmpFunc_int.eq data__p data__n data__c lo_ hi_ first_ cmp_f cmp_v w K) h

/-! ### slices.nextPowerOfTwo: function 115 (named slots 3) -/
def slices_nextPowerOfTwo.w (length_ : Int) (w : World) (K : Value → World → Prop) : Prop :=
  Calls Try.prog 99 #[.int .u64 (IntKind.u64.wrap length_)] w fun e w1 => ∃ r2 : Int, e = .returned (.int .i64 r2) ∧ 
  0 ≤ r2 ∧ K (.int .u64 (IntKind.u64.wrap ((1 : Int) * 2 ^ (min r2.toNat (IntKind.bits .u64))))) w1
theorem slices_nextPowerOfTwo.eq (length_ : Int) (w : World) (K : Value → World → Prop) : wpF Try.prog Try.f115 .leaf [.int .i64 length_] w K = slices_nextPowerOfTwo.w length_ w K := by kernel_rfl
theorem slices_nextPowerOfTwo.ok : fnOk Try.prog Try.f115 1 = true := by kernel_rfl
theorem slices_nextPowerOfTwo.calls {length_ : Int} {w : World} {R : Ending → World → Prop} (h : slices_nextPowerOfTwo.w length_ w fun v w' => R (.returned v) w') : Calls Try.prog 115 #[.int .i64 length_] w R :=
  calls_of mixed Try.func115 slices_nextPowerOfTwo.ok rfl (fun K => slices_nextPowerOfTwo.eq length_ w K) h

/-! ### (*slices.xorshift).Next: function 116 (named slots 3) -/
def slices_xorshift_Next.w (r_ : Option Addr) (w : World) (K : Value → World → Prop) : Prop :=
  ∃ a1 : Addr, r_ = some a1 ∧ ∃ x2 : Int, w.drew.cell? a1 = some (.int .u64 x2) ∧ 
  ∃ a3 : Addr, r_ = some a3 ∧ ∃ x4 : Int, w.drew.cell? a3 = some (.int .u64 x4) ∧ 
  0 ≤ (13 : Int) ∧ ∃ a5 : Addr, r_ = some a5 ∧ ∃ w6 : World, StoreAt a5 0 [.int .u64 (IntKind.u64.wrap ((BitVec.ofInt (IntKind.bits .u64) x2 ^^^ BitVec.ofInt (IntKind.bits .u64) (IntKind.u64.wrap (x4 * 2 ^ (min (13 : Int).toNat (IntKind.bits .u64))))).toNat))] w.drew w6 ∧ 
  ∃ a7 : Addr, r_ = some a7 ∧ ∃ x8 : Int, w6.drew.cell? a7 = some (.int .u64 x8) ∧ 
  ∃ a9 : Addr, r_ = some a9 ∧ ∃ x10 : Int, w6.drew.cell? a9 = some (.int .u64 x10) ∧ 
  0 ≤ (7 : Int) ∧ ∃ a11 : Addr, r_ = some a11 ∧ ∃ w12 : World, StoreAt a11 0 [.int .u64 (IntKind.u64.wrap ((BitVec.ofInt (IntKind.bits .u64) x8 ^^^ BitVec.ofInt (IntKind.bits .u64) (x10.fdiv (2 ^ (min (7 : Int).toNat (IntKind.bits .u64))))).toNat))] w6.drew w12 ∧ 
  ∃ a13 : Addr, r_ = some a13 ∧ ∃ x14 : Int, w12.drew.cell? a13 = some (.int .u64 x14) ∧ 
  ∃ a15 : Addr, r_ = some a15 ∧ ∃ x16 : Int, w12.drew.cell? a15 = some (.int .u64 x16) ∧ 
  0 ≤ (17 : Int) ∧ ∃ a17 : Addr, r_ = some a17 ∧ ∃ w18 : World, StoreAt a17 0 [.int .u64 (IntKind.u64.wrap ((BitVec.ofInt (IntKind.bits .u64) x14 ^^^ BitVec.ofInt (IntKind.bits .u64) (IntKind.u64.wrap (x16 * 2 ^ (min (17 : Int).toNat (IntKind.bits .u64))))).toNat))] w12.drew w18 ∧ 
  ∃ a19 : Addr, r_ = some a19 ∧ ∃ x20 : Int, w18.cell? a19 = some (.int .u64 x20) ∧ 
  K (.int .u64 x20) w18
theorem slices_xorshift_Next.eq (r_ : Option Addr) (w : World) (K : Value → World → Prop) : wpF Try.prog Try.f116 .leaf [.pointer r_] w K = slices_xorshift_Next.w r_ w K := by kernel_rfl
theorem slices_xorshift_Next.ok : fnOk Try.prog Try.f116 1 = true := by kernel_rfl
theorem slices_xorshift_Next.calls {r_ : Option Addr} {w : World} {R : Ending → World → Prop} (h : slices_xorshift_Next.w r_ w fun v w' => R (.returned v) w') : Calls Try.prog 116 #[.pointer r_] w R :=
  calls_of mixed Try.func116 slices_xorshift_Next.ok rfl (fun K => slices_xorshift_Next.eq r_ w K) h

/-! ### slices.medianAdjacentCmpFunc[int]: function 117 (named slots 121) -/
def slices_medianAdjacentCmpFunc_int.w (data__p : Option Addr) (data__n : Nat) (data__c : Nat) (a_ : Int) (swaps_ : Option Addr) (cmp_f : FuncId) (cmp_v : Array Value) (w : World) (K : Value → World → Prop) : Prop :=
  Calls Try.prog 118 #[.slice data__p data__n data__c, .int .i64 (IntKind.i64.wrap (a_ - (1 : Int))), .int .i64 a_, .int .i64 (IntKind.i64.wrap (a_ + (1 : Int))), .pointer swaps_, .func (.func cmp_f) #[] cmp_v] w fun e w1 => ∃ r2 : Int, e = .returned (.int .i64 r2) ∧ 
  K (.int .i64 r2) w1
theorem slices_medianAdjacentCmpFunc_int.eq (data__p : Option Addr) (data__n : Nat) (data__c : Nat) (a_ : Int) (swaps_ : Option Addr) (cmp_f : FuncId) (cmp_v : Array Value) (w : World) (K : Value → World → Prop) : wpF Try.prog Try.f117 .leaf [.slice data__p data__n data__c, .int .i64 a_, .pointer swaps_, .func (.func cmp_f) #[] cmp_v] w K = slices_medianAdjacentCmpFunc_int.w data__p data__n data__c a_ swaps_ cmp_f cmp_v w K := by kernel_rfl
theorem slices_medianAdjacentCmpFunc_int.ok : fnOk Try.prog Try.f117 4 = true := by kernel_rfl
theorem slices_medianAdjacentCmpFunc_int.calls {data__p : Option Addr} {data__n : Nat} {data__c : Nat} {a_ : Int} {swaps_ : Option Addr} {cmp_f : FuncId} {cmp_v : Array Value} {w : World} {R : Ending → World → Prop} (h : slices_medianAdjacentCmpFunc_int.w data__p data__n data__c a_ swaps_ cmp_f cmp_v w fun v w' => R (.returned v) w') : Calls Try.prog 117 #[.slice data__p data__n data__c, .int .i64 a_, .pointer swaps_, .func (.func cmp_f) #[] cmp_v] w R :=
  calls_of mixed Try.func117 slices_medianAdjacentCmpFunc_int.ok rfl (fun K => slices_medianAdjacentCmpFunc_int.eq data__p data__n data__c a_ swaps_ cmp_f cmp_v w K) h

/-! ### slices.medianCmpFunc[int]: function 118 (named slots 125) -/
def slices_medianCmpFunc_int.w (data__p : Option Addr) (data__n : Nat) (data__c : Nat) (a_ : Int) (b_ : Int) (c_ : Int) (swaps_ : Option Addr) (cmp_f : FuncId) (cmp_v : Array Value) (w : World) (K : Value → World → Prop) : Prop :=
  Calls Try.prog 119 #[.slice data__p data__n data__c, .int .i64 a_, .int .i64 b_, .pointer swaps_, .func (.func cmp_f) #[] cmp_v] w fun e w1 => ∃ r2 : Int, ∃ r3 : Int, e = .returned (.tuple #[.int .i64 r2, .int .i64 r3]) ∧ 
  Calls Try.prog 119 #[.slice data__p data__n data__c, .int .i64 r3, .int .i64 c_, .pointer swaps_, .func (.func cmp_f) #[] cmp_v] w1 fun e w4 => ∃ r5 : Int, ∃ r6 : Int, e = .returned (.tuple #[.int .i64 r5, .int .i64 r6]) ∧ 
  Calls Try.prog 119 #[.slice data__p data__n data__c, .int .i64 r2, .int .i64 r5, .pointer swaps_, .func (.func cmp_f) #[] cmp_v] w4 fun e w7 => ∃ r8 : Int, ∃ r9 : Int, e = .returned (.tuple #[.int .i64 r8, .int .i64 r9]) ∧ 
  K (.int .i64 r9) w7
theorem slices_medianCmpFunc_int.eq (data__p : Option Addr) (data__n : Nat) (data__c : Nat) (a_ : Int) (b_ : Int) (c_ : Int) (swaps_ : Option Addr) (cmp_f : FuncId) (cmp_v : Array Value) (w : World) (K : Value → World → Prop) : wpF Try.prog Try.f118 .leaf [.slice data__p data__n data__c, .int .i64 a_, .int .i64 b_, .int .i64 c_, .pointer swaps_, .func (.func cmp_f) #[] cmp_v] w K = slices_medianCmpFunc_int.w data__p data__n data__c a_ b_ c_ swaps_ cmp_f cmp_v w K := by kernel_rfl
theorem slices_medianCmpFunc_int.ok : fnOk Try.prog Try.f118 6 = true := by kernel_rfl
theorem slices_medianCmpFunc_int.calls {data__p : Option Addr} {data__n : Nat} {data__c : Nat} {a_ : Int} {b_ : Int} {c_ : Int} {swaps_ : Option Addr} {cmp_f : FuncId} {cmp_v : Array Value} {w : World} {R : Ending → World → Prop} (h : slices_medianCmpFunc_int.w data__p data__n data__c a_ b_ c_ swaps_ cmp_f cmp_v w fun v w' => R (.returned v) w') : Calls Try.prog 118 #[.slice data__p data__n data__c, .int .i64 a_, .int .i64 b_, .int .i64 c_, .pointer swaps_, .func (.func cmp_f) #[] cmp_v] w R :=
  calls_of mixed Try.func118 slices_medianCmpFunc_int.ok rfl (fun K => slices_medianCmpFunc_int.eq data__p data__n data__c a_ b_ c_ swaps_ cmp_f cmp_v w K) h

/-! ### slices.order2CmpFunc[int]: function 119 (named slots 127) -/
def slices_order2CmpFunc_int.w (data__p : Option Addr) (data__n : Nat) (data__c : Nat) (a_ : Int) (b_ : Int) (swaps_ : Option Addr) (cmp_f : FuncId) (cmp_v : Array Value) (w : World) (K : Value → World → Prop) : Prop :=
  ixK data__p data__n b_ 1 fun a1 =>
  ∃ x2 : Int, w.drew.cell? a1 = some (.int .i64 x2) ∧ 
  ixK data__p data__n a_ 1 fun a3 =>
  ∃ x4 : Int, w.drew.cell? a3 = some (.int .i64 x4) ∧ 
  cnd (entB Try.prog cmp_f) (Calls Try.prog cmp_f (#[] ++ #[.int .i64 x2, .int .i64 x4] ++ cmp_v) w.drew fun e w5 => ∃ r6 : Int, e = .returned (.int .i64 r6) ∧ 
  cnd (decide (r6 < (0 : Int)))
  (∃ a7 : Addr, swaps_ = some a7 ∧ ∃ x8 : Int, w5.cell? a7 = some (.int .i64 x8) ∧ 
    ∃ a9 : Addr, swaps_ = some a9 ∧ ∃ w10 : World, StoreAt a9 0 [.int .i64 (IntKind.i64.wrap (x8 + (1 : Int)))] w5 w10 ∧ 
    K (.tuple #[.int .i64 b_, .int .i64 a_]) w10)
  (K (.tuple #[.int .i64 a_, .int .i64 b_]) w5)) False
theorem slices_order2CmpFunc_int.eq (data__p : Option Addr) (data__n : Nat) (data__c : Nat) (a_ : Int) (b_ : Int) (swaps_ : Option Addr) (cmp_f : FuncId) (cmp_v : Array Value) (w : World) (K : Value → World → Prop) : wpF Try.prog Try.f119 .leaf [.slice data__p data__n data__c, .int .i64 a_, .int .i64 b_, .pointer swaps_, .func (.func cmp_f) #[] cmp_v] w K = slices_order2CmpFunc_int.w data__p data__n data__c a_ b_ swaps_ cmp_f cmp_v w K := by kernel_rfl
theorem slices_order2CmpFunc_int.ok : fnOk Try.prog Try.f119 5 = true := by kernel_rfl
theorem slices_order2CmpFunc_int.calls {data__p : Option Addr} {data__n : Nat} {data__c : Nat} {a_ : Int} {b_ : Int} {swaps_ : Option Addr} {cmp_f : FuncId} {cmp_v : Array Value} {w : World} {R : Ending → World → Prop} (h : slices_order2CmpFunc_int.w data__p data__n data__c a_ b_ swaps_ cmp_f cmp_v w fun v w' => R (.returned v) w') : Calls Try.prog 119 #[.slice data__p data__n data__c, .int .i64 a_, .int .i64 b_, .pointer swaps_, .func (.func cmp_f) #[] cmp_v] w R :=
  calls_of mixed Try.func119 slices_order2CmpFunc_int.ok rfl (fun K => slices_order2CmpFunc_int.eq data__p data__n data__c a_ b_ swaps_ cmp_f cmp_v w K) h


end Go.Proofs.Ytlpmapeojecenaa.W
