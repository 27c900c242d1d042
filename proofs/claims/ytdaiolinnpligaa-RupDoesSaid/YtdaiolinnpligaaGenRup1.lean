/- The functions that the statements reach, printed as what the frame asks of them, each checked by the kernel against the loaded text. -/
import Derived.Test.YtdaiolinnpligaaGenRup0
namespace Go.Proofs.Ytdaiolinnpligaa.W
open Go Go.Fw Go.Proofs
set_option linter.unusedVariables false
set_option maxRecDepth 100000
/-! ### fathom/prop.New: function 27 (named slots 8) cuts [(24, 16)] -/
def prop_New.w (f_0 : Int) (f_1_p : Option Addr) (f_1_n : Nat) (f_1_c : Nat) (w : World) (K : Value → World → Prop) : Prop :=
  ∀ (n1 : Nat) (w2 : World), New (.cells #[.int .i64 f_0, .slice f_1_p f_1_n f_1_c] 24) w n1 w2 → 
  ∃ x3 : Int, ∃ x4_p : Option Addr, ∃ x4_n : Nat, ∃ x4_c : Nat, CellsAt w2 (Addr.mk n1 0 none) 0 [.int .i64 x3, .slice x4_p x4_n x4_c] ∧ 
  Calls Try.prog 65 #[.agg #[.int .i64 x3, .slice x4_p x4_n x4_c]] w2 fun e w5 => ∃ r6 : Int, e = .returned (.int .i64 r6) ∧ 
  cnd (r6 != (0 : Int))
  (K (.tuple #[.pointer none, .int .i64 1]) w5)
  (∃ x7 : Int, w5.cell? ((Addr.mk n1 0 none).add 0) = some (.int .i64 x7) ∧ 
    ∃ J8 : Addr → World → Prop, (∃ W9 : World → Prop, W9 w5.drew ∧ 
    ∃ x10 : Int, AtW W9 ((Addr.mk n1 0 none).add 0) (.int .i64 x10) ∧ 
    (∃ w11 : World, ∃ r12_p : Option Addr, ∃ r12_n : Nat, ∃ r12_c : Nat, (Instr.makeSlice 22 (.int .i64 (IntKind.i64.wrap ((2 : Int) * (IntKind.i64.wrap (x7 + (1 : Int)))))) (.int .i64 (IntKind.i64.wrap ((2 : Int) * (IntKind.i64.wrap (x7 + (1 : Int))))))).run Try.prog w5.drew = .ok (.slice r12_p r12_n r12_c) w11 ∧ 
    W9 w11 ∧ (∃ w13 : World, ∃ r14_p : Option Addr, ∃ r14_n : Nat, ∃ r14_c : Nat, (Instr.makeSlice 53 (.int .i64 (IntKind.i64.wrap (x7 + (1 : Int)))) (.int .i64 (IntKind.i64.wrap (x7 + (1 : Int))))).run Try.prog w11 = .ok (.slice r14_p r14_n r14_c) w13 ∧ 
    W9 w13 ∧ (∃ w15 : World, ∃ r16_p : Option Addr, ∃ r16_n : Nat, ∃ r16_c : Nat, (Instr.makeSlice 31 (.int .i64 (IntKind.i64.wrap (x7 + (1 : Int)))) (.int .i64 (IntKind.i64.wrap (x7 + (1 : Int))))).run Try.prog w13 = .ok (.slice r16_p r16_n r16_c) w15 ∧ 
    W9 w15 ∧ ∃ w17 : World, ∃ r18_p : Option Addr, ∃ r18_n : Nat, ∃ r18_c : Nat, (Instr.makeSlice 31 (.int .i64 (IntKind.i64.wrap (x7 + (1 : Int)))) (.int .i64 (IntKind.i64.wrap (x7 + (1 : Int))))).run Try.prog w15 = .ok (.slice r18_p r18_n r18_c) w17 ∧ 
    W9 w17 ∧ ∀ (n19 : Nat) (w20 : World), New (.cells #[.int .i64 x10, .slice none 0 0, .slice r12_p r12_n r12_c, .slice r14_p r14_n r14_c, .slice r16_p r16_n r16_c, .slice r18_p r18_n r18_c, .slice none 0 0, .slice none 0 0, .slice none 0 0, .int .i64 0, .slice none 0 0] 55) w17 n19 w20 → 
    J8 (Addr.mk n19 0 none) w20) ∧
  (∃ w21 : World, ∃ r22_p : Option Addr, ∃ r22_n : Nat, ∃ r22_c : Nat, (Instr.makeSlice 31 (.int .i64 (IntKind.i64.wrap (x7 + (1 : Int)))) (.int .i64 (IntKind.i64.wrap (x7 + (1 : Int))))).run Try.prog w13 = .ok (.slice r22_p r22_n r22_c) w21 ∧ 
    W9 w21 ∧ ∃ w23 : World, ∃ r24_p : Option Addr, ∃ r24_n : Nat, ∃ r24_c : Nat, (Instr.makeSlice 31 (.int .i64 (IntKind.i64.wrap (x7 + (1 : Int)))) (.int .i64 (IntKind.i64.wrap (x7 + (1 : Int))))).run Try.prog w21 = .ok (.slice r24_p r24_n r24_c) w23 ∧ 
    W9 w23 ∧ ∀ (n25 : Nat) (w26 : World), New (.cells #[.int .i64 x10, .slice none 0 0, .slice r12_p r12_n r12_c, .slice r14_p r14_n r14_c, .slice r24_p r24_n r24_c, .slice r22_p r22_n r22_c, .slice none 0 0, .slice none 0 0, .slice none 0 0, .int .i64 0, .slice none 0 0] 55) w23 n25 w26 → 
    J8 (Addr.mk n25 0 none) w26)) ∧
  (∃ w27 : World, ∃ r28_p : Option Addr, ∃ r28_n : Nat, ∃ r28_c : Nat, (Instr.makeSlice 31 (.int .i64 (IntKind.i64.wrap (x7 + (1 : Int)))) (.int .i64 (IntKind.i64.wrap (x7 + (1 : Int))))).run Try.prog w11 = .ok (.slice r28_p r28_n r28_c) w27 ∧ 
    W9 w27 ∧ (∃ w29 : World, ∃ r30_p : Option Addr, ∃ r30_n : Nat, ∃ r30_c : Nat, (Instr.makeSlice 53 (.int .i64 (IntKind.i64.wrap (x7 + (1 : Int)))) (.int .i64 (IntKind.i64.wrap (x7 + (1 : Int))))).run Try.prog w27 = .ok (.slice r30_p r30_n r30_c) w29 ∧ 
    W9 w29 ∧ ∃ w31 : World, ∃ r32_p : Option Addr, ∃ r32_n : Nat, ∃ r32_c : Nat, (Instr.makeSlice 31 (.int .i64 (IntKind.i64.wrap (x7 + (1 : Int)))) (.int .i64 (IntKind.i64.wrap (x7 + (1 : Int))))).run Try.prog w29 = .ok (.slice r32_p r32_n r32_c) w31 ∧ 
    W9 w31 ∧ ∀ (n33 : Nat) (w34 : World), New (.cells #[.int .i64 x10, .slice none 0 0, .slice r12_p r12_n r12_c, .slice r30_p r30_n r30_c, .slice r28_p r28_n r28_c, .slice r32_p r32_n r32_c, .slice none 0 0, .slice none 0 0, .slice none 0 0, .int .i64 0, .slice none 0 0] 55) w31 n33 w34 → 
    J8 (Addr.mk n33 0 none) w34) ∧
  (∃ w35 : World, ∃ r36_p : Option Addr, ∃ r36_n : Nat, ∃ r36_c : Nat, (Instr.makeSlice 31 (.int .i64 (IntKind.i64.wrap (x7 + (1 : Int)))) (.int .i64 (IntKind.i64.wrap (x7 + (1 : Int))))).run Try.prog w27 = .ok (.slice r36_p r36_n r36_c) w35 ∧ 
    W9 w35 ∧ ∃ w37 : World, ∃ r38_p : Option Addr, ∃ r38_n : Nat, ∃ r38_c : Nat, (Instr.makeSlice 53 (.int .i64 (IntKind.i64.wrap (x7 + (1 : Int)))) (.int .i64 (IntKind.i64.wrap (x7 + (1 : Int))))).run Try.prog w35 = .ok (.slice r38_p r38_n r38_c) w37 ∧ 
    W9 w37 ∧ ∀ (n39 : Nat) (w40 : World), New (.cells #[.int .i64 x10, .slice none 0 0, .slice r12_p r12_n r12_c, .slice r38_p r38_n r38_c, .slice r28_p r28_n r28_c, .slice r36_p r36_n r36_c, .slice none 0 0, .slice none 0 0, .slice none 0 0, .int .i64 0, .slice none 0 0] 55) w37 n39 w40 → 
    J8 (Addr.mk n39 0 none) w40)) ∧
  (∃ w41 : World, ∃ r42_p : Option Addr, ∃ r42_n : Nat, ∃ r42_c : Nat, (Instr.makeSlice 31 (.int .i64 (IntKind.i64.wrap (x7 + (1 : Int)))) (.int .i64 (IntKind.i64.wrap (x7 + (1 : Int))))).run Try.prog w11 = .ok (.slice r42_p r42_n r42_c) w41 ∧ 
    W9 w41 ∧ (∃ w43 : World, ∃ r44_p : Option Addr, ∃ r44_n : Nat, ∃ r44_c : Nat, (Instr.makeSlice 53 (.int .i64 (IntKind.i64.wrap (x7 + (1 : Int)))) (.int .i64 (IntKind.i64.wrap (x7 + (1 : Int))))).run Try.prog w41 = .ok (.slice r44_p r44_n r44_c) w43 ∧ 
    W9 w43 ∧ ∃ w45 : World, ∃ r46_p : Option Addr, ∃ r46_n : Nat, ∃ r46_c : Nat, (Instr.makeSlice 31 (.int .i64 (IntKind.i64.wrap (x7 + (1 : Int)))) (.int .i64 (IntKind.i64.wrap (x7 + (1 : Int))))).run Try.prog w43 = .ok (.slice r46_p r46_n r46_c) w45 ∧ 
    W9 w45 ∧ ∀ (n47 : Nat) (w48 : World), New (.cells #[.int .i64 x10, .slice none 0 0, .slice r12_p r12_n r12_c, .slice r44_p r44_n r44_c, .slice r46_p r46_n r46_c, .slice r42_p r42_n r42_c, .slice none 0 0, .slice none 0 0, .slice none 0 0, .int .i64 0, .slice none 0 0] 55) w45 n47 w48 → 
    J8 (Addr.mk n47 0 none) w48) ∧
  (∃ w49 : World, ∃ r50_p : Option Addr, ∃ r50_n : Nat, ∃ r50_c : Nat, (Instr.makeSlice 31 (.int .i64 (IntKind.i64.wrap (x7 + (1 : Int)))) (.int .i64 (IntKind.i64.wrap (x7 + (1 : Int))))).run Try.prog w41 = .ok (.slice r50_p r50_n r50_c) w49 ∧ 
    W9 w49 ∧ ∃ w51 : World, ∃ r52_p : Option Addr, ∃ r52_n : Nat, ∃ r52_c : Nat, (Instr.makeSlice 53 (.int .i64 (IntKind.i64.wrap (x7 + (1 : Int)))) (.int .i64 (IntKind.i64.wrap (x7 + (1 : Int))))).run Try.prog w49 = .ok (.slice r52_p r52_n r52_c) w51 ∧ 
    W9 w51 ∧ ∀ (n53 : Nat) (w54 : World), New (.cells #[.int .i64 x10, .slice none 0 0, .slice r12_p r12_n r12_c, .slice r52_p r52_n r52_c, .slice r50_p r50_n r50_c, .slice r42_p r42_n r42_c, .slice none 0 0, .slice none 0 0, .slice none 0 0, .int .i64 0, .slice none 0 0] 55) w51 n53 w54 → 
    J8 (Addr.mk n53 0 none) w54))) ∧
  (∃ w55 : World, ∃ r56_p : Option Addr, ∃ r56_n : Nat, ∃ r56_c : Nat, (Instr.makeSlice 53 (.int .i64 (IntKind.i64.wrap (x7 + (1 : Int)))) (.int .i64 (IntKind.i64.wrap (x7 + (1 : Int))))).run Try.prog w5.drew = .ok (.slice r56_p r56_n r56_c) w55 ∧ 
    W9 w55 ∧ (∃ w57 : World, ∃ r58_p : Option Addr, ∃ r58_n : Nat, ∃ r58_c : Nat, (Instr.makeSlice 22 (.int .i64 (IntKind.i64.wrap ((2 : Int) * (IntKind.i64.wrap (x7 + (1 : Int)))))) (.int .i64 (IntKind.i64.wrap ((2 : Int) * (IntKind.i64.wrap (x7 + (1 : Int))))))).run Try.prog w55 = .ok (.slice r58_p r58_n r58_c) w57 ∧ 
    W9 w57 ∧ (∃ w59 : World, ∃ r60_p : Option Addr, ∃ r60_n : Nat, ∃ r60_c : Nat, (Instr.makeSlice 31 (.int .i64 (IntKind.i64.wrap (x7 + (1 : Int)))) (.int .i64 (IntKind.i64.wrap (x7 + (1 : Int))))).run Try.prog w57 = .ok (.slice r60_p r60_n r60_c) w59 ∧ 
    W9 w59 ∧ ∃ w61 : World, ∃ r62_p : Option Addr, ∃ r62_n : Nat, ∃ r62_c : Nat, (Instr.makeSlice 31 (.int .i64 (IntKind.i64.wrap (x7 + (1 : Int)))) (.int .i64 (IntKind.i64.wrap (x7 + (1 : Int))))).run Try.prog w59 = .ok (.slice r62_p r62_n r62_c) w61 ∧ 
    W9 w61 ∧ ∀ (n63 : Nat) (w64 : World), New (.cells #[.int .i64 x10, .slice none 0 0, .slice r58_p r58_n r58_c, .slice r56_p r56_n r56_c, .slice r60_p r60_n r60_c, .slice r62_p r62_n r62_c, .slice none 0 0, .slice none 0 0, .slice none 0 0, .int .i64 0, .slice none 0 0] 55) w61 n63 w64 → 
    J8 (Addr.mk n63 0 none) w64) ∧
  (∃ w65 : World, ∃ r66_p : Option Addr, ∃ r66_n : Nat, ∃ r66_c : Nat, (Instr.makeSlice 31 (.int .i64 (IntKind.i64.wrap (x7 + (1 : Int)))) (.int .i64 (IntKind.i64.wrap (x7 + (1 : Int))))).run Try.prog w57 = .ok (.slice r66_p r66_n r66_c) w65 ∧ 
    W9 w65 ∧ ∃ w67 : World, ∃ r68_p : Option Addr, ∃ r68_n : Nat, ∃ r68_c : Nat, (Instr.makeSlice 31 (.int .i64 (IntKind.i64.wrap (x7 + (1 : Int)))) (.int .i64 (IntKind.i64.wrap (x7 + (1 : Int))))).run Try.prog w65 = .ok (.slice r68_p r68_n r68_c) w67 ∧ 
    W9 w67 ∧ ∀ (n69 : Nat) (w70 : World), New (.cells #[.int .i64 x10, .slice none 0 0, .slice r58_p r58_n r58_c, .slice r56_p r56_n r56_c, .slice r68_p r68_n r68_c, .slice r66_p r66_n r66_c, .slice none 0 0, .slice none 0 0, .slice none 0 0, .int .i64 0, .slice none 0 0] 55) w67 n69 w70 → 
    J8 (Addr.mk n69 0 none) w70)) ∧
  (∃ w71 : World, ∃ r72_p : Option Addr, ∃ r72_n : Nat, ∃ r72_c : Nat, (Instr.makeSlice 31 (.int .i64 (IntKind.i64.wrap (x7 + (1 : Int)))) (.int .i64 (IntKind.i64.wrap (x7 + (1 : Int))))).run Try.prog w55 = .ok (.slice r72_p r72_n r72_c) w71 ∧ 
    W9 w71 ∧ (∃ w73 : World, ∃ r74_p : Option Addr, ∃ r74_n : Nat, ∃ r74_c : Nat, (Instr.makeSlice 22 (.int .i64 (IntKind.i64.wrap ((2 : Int) * (IntKind.i64.wrap (x7 + (1 : Int)))))) (.int .i64 (IntKind.i64.wrap ((2 : Int) * (IntKind.i64.wrap (x7 + (1 : Int))))))).run Try.prog w71 = .ok (.slice r74_p r74_n r74_c) w73 ∧ 
    W9 w73 ∧ ∃ w75 : World, ∃ r76_p : Option Addr, ∃ r76_n : Nat, ∃ r76_c : Nat, (Instr.makeSlice 31 (.int .i64 (IntKind.i64.wrap (x7 + (1 : Int)))) (.int .i64 (IntKind.i64.wrap (x7 + (1 : Int))))).run Try.prog w73 = .ok (.slice r76_p r76_n r76_c) w75 ∧ 
    W9 w75 ∧ ∀ (n77 : Nat) (w78 : World), New (.cells #[.int .i64 x10, .slice none 0 0, .slice r74_p r74_n r74_c, .slice r56_p r56_n r56_c, .slice r72_p r72_n r72_c, .slice r76_p r76_n r76_c, .slice none 0 0, .slice none 0 0, .slice none 0 0, .int .i64 0, .slice none 0 0] 55) w75 n77 w78 → 
    J8 (Addr.mk n77 0 none) w78) ∧
  (∃ w79 : World, ∃ r80_p : Option Addr, ∃ r80_n : Nat, ∃ r80_c : Nat, (Instr.makeSlice 31 (.int .i64 (IntKind.i64.wrap (x7 + (1 : Int)))) (.int .i64 (IntKind.i64.wrap (x7 + (1 : Int))))).run Try.prog w71 = .ok (.slice r80_p r80_n r80_c) w79 ∧ 
    W9 w79 ∧ ∃ w81 : World, ∃ r82_p : Option Addr, ∃ r82_n : Nat, ∃ r82_c : Nat, (Instr.makeSlice 22 (.int .i64 (IntKind.i64.wrap ((2 : Int) * (IntKind.i64.wrap (x7 + (1 : Int)))))) (.int .i64 (IntKind.i64.wrap ((2 : Int) * (IntKind.i64.wrap (x7 + (1 : Int))))))).run Try.prog w79 = .ok (.slice r82_p r82_n r82_c) w81 ∧ 
    W9 w81 ∧ ∀ (n83 : Nat) (w84 : World), New (.cells #[.int .i64 x10, .slice none 0 0, .slice r82_p r82_n r82_c, .slice r56_p r56_n r56_c, .slice r72_p r72_n r72_c, .slice r80_p r80_n r80_c, .slice none 0 0, .slice none 0 0, .slice none 0 0, .int .i64 0, .slice none 0 0] 55) w81 n83 w84 → 
    J8 (Addr.mk n83 0 none) w84)) ∧
  (∃ w85 : World, ∃ r86_p : Option Addr, ∃ r86_n : Nat, ∃ r86_c : Nat, (Instr.makeSlice 31 (.int .i64 (IntKind.i64.wrap (x7 + (1 : Int)))) (.int .i64 (IntKind.i64.wrap (x7 + (1 : Int))))).run Try.prog w55 = .ok (.slice r86_p r86_n r86_c) w85 ∧ 
    W9 w85 ∧ (∃ w87 : World, ∃ r88_p : Option Addr, ∃ r88_n : Nat, ∃ r88_c : Nat, (Instr.makeSlice 22 (.int .i64 (IntKind.i64.wrap ((2 : Int) * (IntKind.i64.wrap (x7 + (1 : Int)))))) (.int .i64 (IntKind.i64.wrap ((2 : Int) * (IntKind.i64.wrap (x7 + (1 : Int))))))).run Try.prog w85 = .ok (.slice r88_p r88_n r88_c) w87 ∧ 
    W9 w87 ∧ ∃ w89 : World, ∃ r90_p : Option Addr, ∃ r90_n : Nat, ∃ r90_c : Nat, (Instr.makeSlice 31 (.int .i64 (IntKind.i64.wrap (x7 + (1 : Int)))) (.int .i64 (IntKind.i64.wrap (x7 + (1 : Int))))).run Try.prog w87 = .ok (.slice r90_p r90_n r90_c) w89 ∧ 
    W9 w89 ∧ ∀ (n91 : Nat) (w92 : World), New (.cells #[.int .i64 x10, .slice none 0 0, .slice r88_p r88_n r88_c, .slice r56_p r56_n r56_c, .slice r90_p r90_n r90_c, .slice r86_p r86_n r86_c, .slice none 0 0, .slice none 0 0, .slice none 0 0, .int .i64 0, .slice none 0 0] 55) w89 n91 w92 → 
    J8 (Addr.mk n91 0 none) w92) ∧
  (∃ w93 : World, ∃ r94_p : Option Addr, ∃ r94_n : Nat, ∃ r94_c : Nat, (Instr.makeSlice 31 (.int .i64 (IntKind.i64.wrap (x7 + (1 : Int)))) (.int .i64 (IntKind.i64.wrap (x7 + (1 : Int))))).run Try.prog w85 = .ok (.slice r94_p r94_n r94_c) w93 ∧ 
    W9 w93 ∧ ∃ w95 : World, ∃ r96_p : Option Addr, ∃ r96_n : Nat, ∃ r96_c : Nat, (Instr.makeSlice 22 (.int .i64 (IntKind.i64.wrap ((2 : Int) * (IntKind.i64.wrap (x7 + (1 : Int)))))) (.int .i64 (IntKind.i64.wrap ((2 : Int) * (IntKind.i64.wrap (x7 + (1 : Int))))))).run Try.prog w93 = .ok (.slice r96_p r96_n r96_c) w95 ∧ 
    W9 w95 ∧ ∀ (n97 : Nat) (w98 : World), New (.cells #[.int .i64 x10, .slice none 0 0, .slice r96_p r96_n r96_c, .slice r56_p r56_n r56_c, .slice r94_p r94_n r94_c, .slice r86_p r86_n r86_c, .slice none 0 0, .slice none 0 0, .slice none 0 0, .int .i64 0, .slice none 0 0] 55) w95 n97 w98 → 
    J8 (Addr.mk n97 0 none) w98))) ∧
  (∃ w99 : World, ∃ r100_p : Option Addr, ∃ r100_n : Nat, ∃ r100_c : Nat, (Instr.makeSlice 31 (.int .i64 (IntKind.i64.wrap (x7 + (1 : Int)))) (.int .i64 (IntKind.i64.wrap (x7 + (1 : Int))))).run Try.prog w5.drew = .ok (.slice r100_p r100_n r100_c) w99 ∧ 
    W9 w99 ∧ (∃ w101 : World, ∃ r102_p : Option Addr, ∃ r102_n : Nat, ∃ r102_c : Nat, (Instr.makeSlice 22 (.int .i64 (IntKind.i64.wrap ((2 : Int) * (IntKind.i64.wrap (x7 + (1 : Int)))))) (.int .i64 (IntKind.i64.wrap ((2 : Int) * (IntKind.i64.wrap (x7 + (1 : Int))))))).run Try.prog w99 = .ok (.slice r102_p r102_n r102_c) w101 ∧ 
    W9 w101 ∧ (∃ w103 : World, ∃ r104_p : Option Addr, ∃ r104_n : Nat, ∃ r104_c : Nat, (Instr.makeSlice 53 (.int .i64 (IntKind.i64.wrap (x7 + (1 : Int)))) (.int .i64 (IntKind.i64.wrap (x7 + (1 : Int))))).run Try.prog w101 = .ok (.slice r104_p r104_n r104_c) w103 ∧ 
    W9 w103 ∧ ∃ w105 : World, ∃ r106_p : Option Addr, ∃ r106_n : Nat, ∃ r106_c : Nat, (Instr.makeSlice 31 (.int .i64 (IntKind.i64.wrap (x7 + (1 : Int)))) (.int .i64 (IntKind.i64.wrap (x7 + (1 : Int))))).run Try.prog w103 = .ok (.slice r106_p r106_n r106_c) w105 ∧ 
    W9 w105 ∧ ∀ (n107 : Nat) (w108 : World), New (.cells #[.int .i64 x10, .slice none 0 0, .slice r102_p r102_n r102_c, .slice r104_p r104_n r104_c, .slice r100_p r100_n r100_c, .slice r106_p r106_n r106_c, .slice none 0 0, .slice none 0 0, .slice none 0 0, .int .i64 0, .slice none 0 0] 55) w105 n107 w108 → 
    J8 (Addr.mk n107 0 none) w108) ∧
  (∃ w109 : World, ∃ r110_p : Option Addr, ∃ r110_n : Nat, ∃ r110_c : Nat, (Instr.makeSlice 31 (.int .i64 (IntKind.i64.wrap (x7 + (1 : Int)))) (.int .i64 (IntKind.i64.wrap (x7 + (1 : Int))))).run Try.prog w101 = .ok (.slice r110_p r110_n r110_c) w109 ∧ 
    W9 w109 ∧ ∃ w111 : World, ∃ r112_p : Option Addr, ∃ r112_n : Nat, ∃ r112_c : Nat, (Instr.makeSlice 53 (.int .i64 (IntKind.i64.wrap (x7 + (1 : Int)))) (.int .i64 (IntKind.i64.wrap (x7 + (1 : Int))))).run Try.prog w109 = .ok (.slice r112_p r112_n r112_c) w111 ∧ 
    W9 w111 ∧ ∀ (n113 : Nat) (w114 : World), New (.cells #[.int .i64 x10, .slice none 0 0, .slice r102_p r102_n r102_c, .slice r112_p r112_n r112_c, .slice r100_p r100_n r100_c, .slice r110_p r110_n r110_c, .slice none 0 0, .slice none 0 0, .slice none 0 0, .int .i64 0, .slice none 0 0] 55) w111 n113 w114 → 
    J8 (Addr.mk n113 0 none) w114)) ∧
  (∃ w115 : World, ∃ r116_p : Option Addr, ∃ r116_n : Nat, ∃ r116_c : Nat, (Instr.makeSlice 53 (.int .i64 (IntKind.i64.wrap (x7 + (1 : Int)))) (.int .i64 (IntKind.i64.wrap (x7 + (1 : Int))))).run Try.prog w99 = .ok (.slice r116_p r116_n r116_c) w115 ∧ 
    W9 w115 ∧ (∃ w117 : World, ∃ r118_p : Option Addr, ∃ r118_n : Nat, ∃ r118_c : Nat, (Instr.makeSlice 22 (.int .i64 (IntKind.i64.wrap ((2 : Int) * (IntKind.i64.wrap (x7 + (1 : Int)))))) (.int .i64 (IntKind.i64.wrap ((2 : Int) * (IntKind.i64.wrap (x7 + (1 : Int))))))).run Try.prog w115 = .ok (.slice r118_p r118_n r118_c) w117 ∧ 
    W9 w117 ∧ ∃ w119 : World, ∃ r120_p : Option Addr, ∃ r120_n : Nat, ∃ r120_c : Nat, (Instr.makeSlice 31 (.int .i64 (IntKind.i64.wrap (x7 + (1 : Int)))) (.int .i64 (IntKind.i64.wrap (x7 + (1 : Int))))).run Try.prog w117 = .ok (.slice r120_p r120_n r120_c) w119 ∧ 
    W9 w119 ∧ ∀ (n121 : Nat) (w122 : World), New (.cells #[.int .i64 x10, .slice none 0 0, .slice r118_p r118_n r118_c, .slice r116_p r116_n r116_c, .slice r100_p r100_n r100_c, .slice r120_p r120_n r120_c, .slice none 0 0, .slice none 0 0, .slice none 0 0, .int .i64 0, .slice none 0 0] 55) w119 n121 w122 → 
    J8 (Addr.mk n121 0 none) w122) ∧
  (∃ w123 : World, ∃ r124_p : Option Addr, ∃ r124_n : Nat, ∃ r124_c : Nat, (Instr.makeSlice 31 (.int .i64 (IntKind.i64.wrap (x7 + (1 : Int)))) (.int .i64 (IntKind.i64.wrap (x7 + (1 : Int))))).run Try.prog w115 = .ok (.slice r124_p r124_n r124_c) w123 ∧ 
    W9 w123 ∧ ∃ w125 : World, ∃ r126_p : Option Addr, ∃ r126_n : Nat, ∃ r126_c : Nat, (Instr.makeSlice 22 (.int .i64 (IntKind.i64.wrap ((2 : Int) * (IntKind.i64.wrap (x7 + (1 : Int)))))) (.int .i64 (IntKind.i64.wrap ((2 : Int) * (IntKind.i64.wrap (x7 + (1 : Int))))))).run Try.prog w123 = .ok (.slice r126_p r126_n r126_c) w125 ∧ 
    W9 w125 ∧ ∀ (n127 : Nat) (w128 : World), New (.cells #[.int .i64 x10, .slice none 0 0, .slice r126_p r126_n r126_c, .slice r116_p r116_n r116_c, .slice r100_p r100_n r100_c, .slice r124_p r124_n r124_c, .slice none 0 0, .slice none 0 0, .slice none 0 0, .int .i64 0, .slice none 0 0] 55) w125 n127 w128 → 
    J8 (Addr.mk n127 0 none) w128)) ∧
  (∃ w129 : World, ∃ r130_p : Option Addr, ∃ r130_n : Nat, ∃ r130_c : Nat, (Instr.makeSlice 31 (.int .i64 (IntKind.i64.wrap (x7 + (1 : Int)))) (.int .i64 (IntKind.i64.wrap (x7 + (1 : Int))))).run Try.prog w99 = .ok (.slice r130_p r130_n r130_c) w129 ∧ 
    W9 w129 ∧ (∃ w131 : World, ∃ r132_p : Option Addr, ∃ r132_n : Nat, ∃ r132_c : Nat, (Instr.makeSlice 22 (.int .i64 (IntKind.i64.wrap ((2 : Int) * (IntKind.i64.wrap (x7 + (1 : Int)))))) (.int .i64 (IntKind.i64.wrap ((2 : Int) * (IntKind.i64.wrap (x7 + (1 : Int))))))).run Try.prog w129 = .ok (.slice r132_p r132_n r132_c) w131 ∧ 
    W9 w131 ∧ ∃ w133 : World, ∃ r134_p : Option Addr, ∃ r134_n : Nat, ∃ r134_c : Nat, (Instr.makeSlice 53 (.int .i64 (IntKind.i64.wrap (x7 + (1 : Int)))) (.int .i64 (IntKind.i64.wrap (x7 + (1 : Int))))).run Try.prog w131 = .ok (.slice r134_p r134_n r134_c) w133 ∧ 
    W9 w133 ∧ ∀ (n135 : Nat) (w136 : World), New (.cells #[.int .i64 x10, .slice none 0 0, .slice r132_p r132_n r132_c, .slice r134_p r134_n r134_c, .slice r100_p r100_n r100_c, .slice r130_p r130_n r130_c, .slice none 0 0, .slice none 0 0, .slice none 0 0, .int .i64 0, .slice none 0 0] 55) w133 n135 w136 → 
    J8 (Addr.mk n135 0 none) w136) ∧
  (∃ w137 : World, ∃ r138_p : Option Addr, ∃ r138_n : Nat, ∃ r138_c : Nat, (Instr.makeSlice 53 (.int .i64 (IntKind.i64.wrap (x7 + (1 : Int)))) (.int .i64 (IntKind.i64.wrap (x7 + (1 : Int))))).run Try.prog w129 = .ok (.slice r138_p r138_n r138_c) w137 ∧ 
    W9 w137 ∧ ∃ w139 : World, ∃ r140_p : Option Addr, ∃ r140_n : Nat, ∃ r140_c : Nat, (Instr.makeSlice 22 (.int .i64 (IntKind.i64.wrap ((2 : Int) * (IntKind.i64.wrap (x7 + (1 : Int)))))) (.int .i64 (IntKind.i64.wrap ((2 : Int) * (IntKind.i64.wrap (x7 + (1 : Int))))))).run Try.prog w137 = .ok (.slice r140_p r140_n r140_c) w139 ∧ 
    W9 w139 ∧ ∀ (n141 : Nat) (w142 : World), New (.cells #[.int .i64 x10, .slice none 0 0, .slice r140_p r140_n r140_c, .slice r138_p r138_n r138_c, .slice r100_p r100_n r100_c, .slice r130_p r130_n r130_c, .slice none 0 0, .slice none 0 0, .slice none 0 0, .int .i64 0, .slice none 0 0] 55) w139 n141 w142 → 
    J8 (Addr.mk n141 0 none) w142))) ∧
  (∃ w143 : World, ∃ r144_p : Option Addr, ∃ r144_n : Nat, ∃ r144_c : Nat, (Instr.makeSlice 31 (.int .i64 (IntKind.i64.wrap (x7 + (1 : Int)))) (.int .i64 (IntKind.i64.wrap (x7 + (1 : Int))))).run Try.prog w5.drew = .ok (.slice r144_p r144_n r144_c) w143 ∧ 
    W9 w143 ∧ (∃ w145 : World, ∃ r146_p : Option Addr, ∃ r146_n : Nat, ∃ r146_c : Nat, (Instr.makeSlice 22 (.int .i64 (IntKind.i64.wrap ((2 : Int) * (IntKind.i64.wrap (x7 + (1 : Int)))))) (.int .i64 (IntKind.i64.wrap ((2 : Int) * (IntKind.i64.wrap (x7 + (1 : Int))))))).run Try.prog w143 = .ok (.slice r146_p r146_n r146_c) w145 ∧ 
    W9 w145 ∧ (∃ w147 : World, ∃ r148_p : Option Addr, ∃ r148_n : Nat, ∃ r148_c : Nat, (Instr.makeSlice 53 (.int .i64 (IntKind.i64.wrap (x7 + (1 : Int)))) (.int .i64 (IntKind.i64.wrap (x7 + (1 : Int))))).run Try.prog w145 = .ok (.slice r148_p r148_n r148_c) w147 ∧ 
    W9 w147 ∧ ∃ w149 : World, ∃ r150_p : Option Addr, ∃ r150_n : Nat, ∃ r150_c : Nat, (Instr.makeSlice 31 (.int .i64 (IntKind.i64.wrap (x7 + (1 : Int)))) (.int .i64 (IntKind.i64.wrap (x7 + (1 : Int))))).run Try.prog w147 = .ok (.slice r150_p r150_n r150_c) w149 ∧ 
    W9 w149 ∧ ∀ (n151 : Nat) (w152 : World), New (.cells #[.int .i64 x10, .slice none 0 0, .slice r146_p r146_n r146_c, .slice r148_p r148_n r148_c, .slice r150_p r150_n r150_c, .slice r144_p r144_n r144_c, .slice none 0 0, .slice none 0 0, .slice none 0 0, .int .i64 0, .slice none 0 0] 55) w149 n151 w152 → 
    J8 (Addr.mk n151 0 none) w152) ∧
  (∃ w153 : World, ∃ r154_p : Option Addr, ∃ r154_n : Nat, ∃ r154_c : Nat, (Instr.makeSlice 31 (.int .i64 (IntKind.i64.wrap (x7 + (1 : Int)))) (.int .i64 (IntKind.i64.wrap (x7 + (1 : Int))))).run Try.prog w145 = .ok (.slice r154_p r154_n r154_c) w153 ∧ 
    W9 w153 ∧ ∃ w155 : World, ∃ r156_p : Option Addr, ∃ r156_n : Nat, ∃ r156_c : Nat, (Instr.makeSlice 53 (.int .i64 (IntKind.i64.wrap (x7 + (1 : Int)))) (.int .i64 (IntKind.i64.wrap (x7 + (1 : Int))))).run Try.prog w153 = .ok (.slice r156_p r156_n r156_c) w155 ∧ 
    W9 w155 ∧ ∀ (n157 : Nat) (w158 : World), New (.cells #[.int .i64 x10, .slice none 0 0, .slice r146_p r146_n r146_c, .slice r156_p r156_n r156_c, .slice r154_p r154_n r154_c, .slice r144_p r144_n r144_c, .slice none 0 0, .slice none 0 0, .slice none 0 0, .int .i64 0, .slice none 0 0] 55) w155 n157 w158 → 
    J8 (Addr.mk n157 0 none) w158)) ∧
  (∃ w159 : World, ∃ r160_p : Option Addr, ∃ r160_n : Nat, ∃ r160_c : Nat, (Instr.makeSlice 53 (.int .i64 (IntKind.i64.wrap (x7 + (1 : Int)))) (.int .i64 (IntKind.i64.wrap (x7 + (1 : Int))))).run Try.prog w143 = .ok (.slice r160_p r160_n r160_c) w159 ∧ 
    W9 w159 ∧ (∃ w161 : World, ∃ r162_p : Option Addr, ∃ r162_n : Nat, ∃ r162_c : Nat, (Instr.makeSlice 22 (.int .i64 (IntKind.i64.wrap ((2 : Int) * (IntKind.i64.wrap (x7 + (1 : Int)))))) (.int .i64 (IntKind.i64.wrap ((2 : Int) * (IntKind.i64.wrap (x7 + (1 : Int))))))).run Try.prog w159 = .ok (.slice r162_p r162_n r162_c) w161 ∧ 
    W9 w161 ∧ ∃ w163 : World, ∃ r164_p : Option Addr, ∃ r164_n : Nat, ∃ r164_c : Nat, (Instr.makeSlice 31 (.int .i64 (IntKind.i64.wrap (x7 + (1 : Int)))) (.int .i64 (IntKind.i64.wrap (x7 + (1 : Int))))).run Try.prog w161 = .ok (.slice r164_p r164_n r164_c) w163 ∧ 
    W9 w163 ∧ ∀ (n165 : Nat) (w166 : World), New (.cells #[.int .i64 x10, .slice none 0 0, .slice r162_p r162_n r162_c, .slice r160_p r160_n r160_c, .slice r164_p r164_n r164_c, .slice r144_p r144_n r144_c, .slice none 0 0, .slice none 0 0, .slice none 0 0, .int .i64 0, .slice none 0 0] 55) w163 n165 w166 → 
    J8 (Addr.mk n165 0 none) w166) ∧
  (∃ w167 : World, ∃ r168_p : Option Addr, ∃ r168_n : Nat, ∃ r168_c : Nat, (Instr.makeSlice 31 (.int .i64 (IntKind.i64.wrap (x7 + (1 : Int)))) (.int .i64 (IntKind.i64.wrap (x7 + (1 : Int))))).run Try.prog w159 = .ok (.slice r168_p r168_n r168_c) w167 ∧ 
    W9 w167 ∧ ∃ w169 : World, ∃ r170_p : Option Addr, ∃ r170_n : Nat, ∃ r170_c : Nat, (Instr.makeSlice 22 (.int .i64 (IntKind.i64.wrap ((2 : Int) * (IntKind.i64.wrap (x7 + (1 : Int)))))) (.int .i64 (IntKind.i64.wrap ((2 : Int) * (IntKind.i64.wrap (x7 + (1 : Int))))))).run Try.prog w167 = .ok (.slice r170_p r170_n r170_c) w169 ∧ 
    W9 w169 ∧ ∀ (n171 : Nat) (w172 : World), New (.cells #[.int .i64 x10, .slice none 0 0, .slice r170_p r170_n r170_c, .slice r160_p r160_n r160_c, .slice r168_p r168_n r168_c, .slice r144_p r144_n r144_c, .slice none 0 0, .slice none 0 0, .slice none 0 0, .int .i64 0, .slice none 0 0] 55) w169 n171 w172 → 
    J8 (Addr.mk n171 0 none) w172)) ∧
  (∃ w173 : World, ∃ r174_p : Option Addr, ∃ r174_n : Nat, ∃ r174_c : Nat, (Instr.makeSlice 31 (.int .i64 (IntKind.i64.wrap (x7 + (1 : Int)))) (.int .i64 (IntKind.i64.wrap (x7 + (1 : Int))))).run Try.prog w143 = .ok (.slice r174_p r174_n r174_c) w173 ∧ 
    W9 w173 ∧ (∃ w175 : World, ∃ r176_p : Option Addr, ∃ r176_n : Nat, ∃ r176_c : Nat, (Instr.makeSlice 22 (.int .i64 (IntKind.i64.wrap ((2 : Int) * (IntKind.i64.wrap (x7 + (1 : Int)))))) (.int .i64 (IntKind.i64.wrap ((2 : Int) * (IntKind.i64.wrap (x7 + (1 : Int))))))).run Try.prog w173 = .ok (.slice r176_p r176_n r176_c) w175 ∧ 
    W9 w175 ∧ ∃ w177 : World, ∃ r178_p : Option Addr, ∃ r178_n : Nat, ∃ r178_c : Nat, (Instr.makeSlice 53 (.int .i64 (IntKind.i64.wrap (x7 + (1 : Int)))) (.int .i64 (IntKind.i64.wrap (x7 + (1 : Int))))).run Try.prog w175 = .ok (.slice r178_p r178_n r178_c) w177 ∧ 
    W9 w177 ∧ ∀ (n179 : Nat) (w180 : World), New (.cells #[.int .i64 x10, .slice none 0 0, .slice r176_p r176_n r176_c, .slice r178_p r178_n r178_c, .slice r174_p r174_n r174_c, .slice r144_p r144_n r144_c, .slice none 0 0, .slice none 0 0, .slice none 0 0, .int .i64 0, .slice none 0 0] 55) w177 n179 w180 → 
    J8 (Addr.mk n179 0 none) w180) ∧
  (∃ w181 : World, ∃ r182_p : Option Addr, ∃ r182_n : Nat, ∃ r182_c : Nat, (Instr.makeSlice 53 (.int .i64 (IntKind.i64.wrap (x7 + (1 : Int)))) (.int .i64 (IntKind.i64.wrap (x7 + (1 : Int))))).run Try.prog w173 = .ok (.slice r182_p r182_n r182_c) w181 ∧ 
    W9 w181 ∧ ∃ w183 : World, ∃ r184_p : Option Addr, ∃ r184_n : Nat, ∃ r184_c : Nat, (Instr.makeSlice 22 (.int .i64 (IntKind.i64.wrap ((2 : Int) * (IntKind.i64.wrap (x7 + (1 : Int)))))) (.int .i64 (IntKind.i64.wrap ((2 : Int) * (IntKind.i64.wrap (x7 + (1 : Int))))))).run Try.prog w181 = .ok (.slice r184_p r184_n r184_c) w183 ∧ 
    W9 w183 ∧ ∀ (n185 : Nat) (w186 : World), New (.cells #[.int .i64 x10, .slice none 0 0, .slice r184_p r184_n r184_c, .slice r182_p r182_n r182_c, .slice r174_p r174_n r174_c, .slice r144_p r144_n r144_c, .slice none 0 0, .slice none 0 0, .slice none 0 0, .int .i64 0, .slice none 0 0] 55) w183 n185 w186 → 
    J8 (Addr.mk n185 0 none) w186)))) ∧
    ∀ (p_187 : Addr) (w188 : World) (_ : Fr), J8 p_187 w188 → 
    ∃ x189_p : Option Addr, ∃ x189_n : Nat, ∃ x189_c : Nat, w188.cell? ((Addr.mk n1 0 none).add 1) = some (.slice x189_p x189_n x189_c) ∧ 
    ∃ I190 : Int → World → Nat → Prop, (∃ k191, I190 0 w188 k191) ∧
    ∀ (v193 : Int) (w194 : World) (k191 : Nat) (_ : Fr), I190 v193 w194 k191 →
    cnd (decide (v193 < (x189_n : Int)))
      (ixK x189_p x189_n v193 1 fun a195 =>
        ∃ x196_p : Option Addr, ∃ x196_n : Nat, ∃ x196_c : Nat, w194.cell? a195 = some (.slice x196_p x196_n x196_c) ∧ 
        Calls Try.prog 30 #[.pointer (some p_187), .slice x196_p x196_n x196_c] w194 fun e w197 => ∃ r198 : Int, ∃ r199 : Int, e = .returned (.tuple #[.int .i64 r198, .int .i64 r199]) ∧ 
        ∃ k192, k192 < k191 ∧ I190 (IntKind.i64.wrap (v193 + (1 : Int))) w197 k192)
      (K (.tuple #[.pointer (some p_187), .int .i64 0]) w194))
theorem prop_New.eq (f_0 : Int) (f_1_p : Option Addr) (f_1_n : Nat) (f_1_c : Nat) (w : World) (K : Value → World → Prop) : wpF Try.prog Try.f27 (.two .leaf (.two .leaf (.two .leaf (.cut [(5, 1000000)] .draw (.two (.two .leaf (.one (.loop [(30, 3)] .leaf))) .leaf))))) [.agg #[.int .i64 f_0, .slice f_1_p f_1_n f_1_c]] w K = prop_New.w f_0 f_1_p f_1_n f_1_c w K := by kernel_rfl
theorem prop_New.ok : fnOk Try.prog Try.f27 1 = true := by kernel_rfl
theorem prop_New.calls {f_0 : Int} {f_1_p : Option Addr} {f_1_n : Nat} {f_1_c : Nat} {w : World} {R : Ending → World → Prop} (h : prop_New.w f_0 f_1_p f_1_n f_1_c w fun v w' => R (.returned v) w') : Calls Try.prog 27 #[.agg #[.int .i64 f_0, .slice f_1_p f_1_n f_1_c]] w R :=
  calls_of mixed Try.func27 prop_New.ok rfl (fun K => prop_New.eq f_0 f_1_p f_1_n f_1_c w K) h

/-! ### (*fathom/prop.Prop).Back: function 29 (named slots 7) -/
def prop_Prop_Back.w (p_ : Option Addr) (level_ : Int) (w : World) (K : Value → World → Prop) : Prop :=
  cnd p_.isNone
  (K (.tuple #[]) w)
  (∃ a1 : Addr, p_ = some a1 ∧ ∃ x2_p : Option Addr, ∃ x2_n : Nat, ∃ x2_c : Nat, w.cell? (a1.add 7) = some (.slice x2_p x2_n x2_c) ∧ 
  cnd (decide ((imax 0 level_) ≥ (x2_n : Int)))
  (K (.tuple #[]) w)
  (∃ a3 : Addr, p_ = some a3 ∧ ∃ x4_p : Option Addr, ∃ x4_n : Nat, ∃ x4_c : Nat, w.cell? (a3.add 7) = some (.slice x4_p x4_n x4_c) ∧ 
    ixK x4_p x4_n (imax 0 level_) 1 fun a5 =>
    ∃ x6 : Int, w.cell? a5 = some (.int .i64 x6) ∧ 
    ∃ a7 : Addr, p_ = some a7 ∧ ∃ x8_p : Option Addr, ∃ x8_n : Nat, ∃ x8_c : Nat, w.cell? (a7.add 6) = some (.slice x8_p x8_n x8_c) ∧ 
    slK x8_p x8_n x8_c 1 (some x6) none none fun s9_p s9_n s9_c =>
    ∃ I10 : Int → World → Nat → Prop, (∃ k11, I10 0 w k11) ∧
    ∀ (v13 : Int) (w14 : World) (k11 : Nat) (_ : Fr), I10 v13 w14 k11 →
    cnd (decide (v13 < (s9_n : Int)))
      (ixK s9_p s9_n v13 1 fun a15 =>
        ∃ x16 : Int, w14.cell? a15 = some (.int .i64 x16) ∧ 
        ∃ W17 : World → Prop, W17 w14.drew ∧ 
        ∃ a18 : Addr, p_ = some a18 ∧ ∃ x19_p : Option Addr, ∃ x19_n : Nat, ∃ x19_c : Nat, AtW W17 (a18.add 3) (.slice x19_p x19_n x19_c) ∧ 
        Calls Try.prog 68 #[.int .i64 x16] w14.drew fun e w20 => ∃ r21 : Int, e = .returned (.int .i64 r21) ∧ 
        W17 w20 ∧ ixK x19_p x19_n r21 1 fun a22 =>
        ∃ w23 : World, StoreAt a22 0 [.int .i8 0] w20 w23 ∧ 
        ∃ k12, k12 < k11 ∧ I10 (IntKind.i64.wrap (v13 + (1 : Int))) w23 k12)
      (∃ a24 : Addr, p_ = some a24 ∧ ∃ x25 : Int, w14.drew.cell? (a24.add 9) = some (.int .i64 x25) ∧ 
        ∃ a26 : Addr, p_ = some a26 ∧ ∃ x27_p : Option Addr, ∃ x27_n : Nat, ∃ x27_c : Nat, w14.drew.cell? (a26.add 8) = some (.slice x27_p x27_n x27_c) ∧ 
        ixK x27_p x27_n (imax 0 level_) 1 fun a28 =>
        ∃ x29 : Int, w14.drew.cell? a28 = some (.int .i64 x29) ∧ 
        ∃ a30 : Addr, p_ = some a30 ∧ ∃ w31 : World, StoreAt (a30.add 9) 0 [.int .i64 (imin (imin x25 x6) x29)] w14.drew w31 ∧ 
        ∃ a32 : Addr, p_ = some a32 ∧ ∃ x33_p : Option Addr, ∃ x33_n : Nat, ∃ x33_c : Nat, w31.drew.cell? (a32.add 6) = some (.slice x33_p x33_n x33_c) ∧ 
        slK x33_p x33_n x33_c 1 none (some x6) none fun s34_p s34_n s34_c =>
        ∃ a35 : Addr, p_ = some a35 ∧ ∃ x36_p : Option Addr, ∃ x36_n : Nat, ∃ x36_c : Nat, w31.drew.cell? (a35.add 7) = some (.slice x36_p x36_n x36_c) ∧ 
        slK x36_p x36_n x36_c 1 none (some (imax 0 level_)) none fun s37_p s37_n s37_c =>
        ∃ a38 : Addr, p_ = some a38 ∧ ∃ x39_p : Option Addr, ∃ x39_n : Nat, ∃ x39_c : Nat, w31.drew.cell? (a38.add 8) = some (.slice x39_p x39_n x39_c) ∧ 
        slK x39_p x39_n x39_c 1 none (some (imax 0 level_)) none fun s40_p s40_n s40_c =>
        ∃ a41 : Addr, p_ = some a41 ∧ ∃ w42 : World, StoreAt (a41.add 6) 0 [.slice s34_p s34_n s34_c] w31.drew w42 ∧ 
        ∃ a43 : Addr, p_ = some a43 ∧ ∃ w44 : World, StoreAt (a43.add 7) 0 [.slice s37_p s37_n s37_c] w42 w44 ∧ 
        ∃ a45 : Addr, p_ = some a45 ∧ ∃ w46 : World, StoreAt (a45.add 8) 0 [.slice s40_p s40_n s40_c] w44 w46 ∧ 
        K (.tuple #[]) w46)))
theorem prop_Prop_Back.eq (p_ : Option Addr) (level_ : Int) (w : World) (K : Value → World → Prop) : wpF Try.prog Try.f29 (.two .leaf (.two .leaf (.two .leaf (.two (.two .leaf (.one (.loop [(34, 3)] (.two .leaf (.two .leaf (.two (.one (.two .leaf .draw)) .leaf)))))) .leaf)))) [.pointer p_, .int .i64 level_] w K = prop_Prop_Back.w p_ level_ w K := by kernel_rfl
theorem prop_Prop_Back.ok : fnOk Try.prog Try.f29 2 = true := by kernel_rfl
theorem prop_Prop_Back.calls {p_ : Option Addr} {level_ : Int} {w : World} {R : Ending → World → Prop} (h : prop_Prop_Back.w p_ level_ w fun v w' => R (.returned v) w') : Calls Try.prog 29 #[.pointer p_, .int .i64 level_] w R :=
  calls_of mixed Try.func29 prop_Prop_Back.ok rfl (fun K => prop_Prop_Back.eq p_ level_ w K) h
theorem prop_Prop_Back.callsD {p_ : Option Addr} {level_ : Int} {w : World} {u : FrameMode} {R : Ending → World → Prop} (h : prop_Prop_Back.w p_ level_ w fun v w' => R (.returned v) w') : CallsD Try.prog 29 #[.pointer p_, .int .i64 level_] u w fun e u' w' => u' = u ∧ R e w' :=
  callsD_of mixed Try.func29 prop_Prop_Back.ok rfl (fun K => prop_Prop_Back.eq p_ level_ w K) h

/-! ### (*fathom/prop.Prop).Add: function 30 (named slots 9) -/
def prop_Prop_Add.w (p_ : Option Addr) (c__p : Option Addr) (c__n : Nat) (c__c : Nat) (w : World) (K : Value → World → Prop) : Prop :=
  ∀ (n1 : Nat) (w2 : World), New (.cells #[.pointer p_] 29) w n1 w2 → 
  ∃ x3 : Option Addr, w2.cell? (Addr.mk n1 0 none) = some (.pointer x3) ∧ 
  cnd x3.isNone
  (K (.tuple #[.int .i64 0, .int .i64 1]) w2)
  (∃ x4 : Option Addr, w2.cell? (Addr.mk n1 0 none) = some (.pointer x4) ∧ 
  ∃ a5 : Addr, x4 = some a5 ∧ ∃ x6_p : Option Addr, ∃ x6_n : Nat, ∃ x6_c : Nat, w2.cell? (a5.add 3) = some (.slice x6_p x6_n x6_c) ∧ 
  cnd x6_p.isNone
  (K (.tuple #[.int .i64 0, .int .i64 1]) w2)
  (Calls Try.prog 69 #[.slice c__p c__n c__c] w2 fun e w7 => ∃ r8 : Int, e = .returned (.int .i64 r8) ∧ 
  cnd (r8 != (0 : Int))
  (K (.tuple #[.int .i64 0, .int .i64 1]) w7)
  (Calls Try.prog 70 #[.slice c__p c__n c__c, .func (.func 71) #[] #[.pointer (some (Addr.mk n1 0 none))]] w7 fun e w9 => ∃ r10 : Bool, e = .returned (.bool r10) ∧ 
  cnd r10
  (K (.tuple #[.int .i64 0, .int .i64 1]) w9)
  (∃ x11 : Option Addr, w9.cell? (Addr.mk n1 0 none) = some (.pointer x11) ∧ 
    ∃ a12 : Addr, x11 = some a12 ∧ ∃ x13_p : Option Addr, ∃ x13_n : Nat, ∃ x13_c : Nat, w9.cell? (a12.add 1) = some (.slice x13_p x13_n x13_c) ∧ 
    cnd ((x13_n : Int) == (262144 : Int))
    (K (.tuple #[.int .i64 0, .int .i64 5]) w9)
    (Calls Try.prog 73 #[.slice c__p c__n c__c] w9 fun e w14 => ∃ r15_p : Option Addr, ∃ r15_n : Nat, ∃ r15_c : Nat, ∃ r16 : Bool, e = .returned (.tuple #[.slice r15_p r15_n r15_c, .bool r16]) ∧ 
      ∃ x17 : Option Addr, w14.cell? (Addr.mk n1 0 none) = some (.pointer x17) ∧ 
      ∃ a18 : Addr, x17 = some a18 ∧ ∃ x19_p : Option Addr, ∃ x19_n : Nat, ∃ x19_c : Nat, w14.cell? (a18.add 1) = some (.slice x19_p x19_n x19_c) ∧ 
      ∃ W20 : World → Prop, W20 w14.drew ∧ 
      ∃ x21 : Option Addr, AtW W20 (Addr.mk n1 0 none) (.pointer x21) ∧ 
      ∃ x22 : Option Addr, AtW W20 (Addr.mk n1 0 none) (.pointer x22) ∧ 
      ∃ a23 : Addr, x22 = some a23 ∧ ∃ x24_p : Option Addr, ∃ x24_n : Nat, ∃ x24_c : Nat, AtW W20 (a23.add 1) (.slice x24_p x24_n x24_c) ∧ 
      Calls Try.prog 62 #[.slice c__p c__n c__c] w14.drew fun e w25 => ∃ r26_p : Option Addr, ∃ r26_n : Nat, ∃ r26_c : Nat, e = .returned (.slice r26_p r26_n r26_c) ∧ 
      W20 w25 ∧ ∀ (n27 : Nat) (w28 : World), New (.cells #[.slice r26_p r26_n r26_c, .slice r15_p r15_n r15_c, .bool false] 79) w25 n27 w28 → 
      W20 w28 ∧ ∃ w29 : World, ∃ r30_p : Option Addr, ∃ r30_n : Nat, ∃ r30_c : Nat, (Builtin.append_ #[52, 52] 52 #[.slice x24_p x24_n x24_c, .slice (some (Addr.mk n27 0 none)) 1 1]).run Try.prog w28 = .ok (.slice r30_p r30_n r30_c) w29 ∧ 
      W20 w29 ∧ ∃ a31 : Addr, x21 = some a31 ∧ ∃ w32 : World, StoreAt (a31.add 1) 0 [.slice r30_p r30_n r30_c] w29 w32 ∧ 
      ∃ x33 : Option Addr, w32.cell? (Addr.mk n1 0 none) = some (.pointer x33) ∧ 
      Calls Try.prog 74 #[.pointer x33, .int .i64 (x19_n : Int)] w32 fun e w34 => e = .returned (.tuple #[]) ∧ 
      K (.tuple #[.int .i64 (x19_n : Int), .int .i64 0]) w34)))))
theorem prop_Prop_Add.eq (p_ : Option Addr) (c__p : Option Addr) (c__n : Nat) (c__c : Nat) (w : World) (K : Value → World → Prop) : wpF Try.prog Try.f30 (.two .leaf (.two .leaf (.two .leaf (.two .leaf (.two .draw .leaf))))) [.pointer p_, .slice c__p c__n c__c] w K = prop_Prop_Add.w p_ c__p c__n c__c w K := by kernel_rfl
theorem prop_Prop_Add.ok : fnOk Try.prog Try.f30 2 = true := by kernel_rfl
theorem prop_Prop_Add.calls {p_ : Option Addr} {c__p : Option Addr} {c__n : Nat} {c__c : Nat} {w : World} {R : Ending → World → Prop} (h : prop_Prop_Add.w p_ c__p c__n c__c w fun v w' => R (.returned v) w') : Calls Try.prog 30 #[.pointer p_, .slice c__p c__n c__c] w R :=
  calls_of mixed Try.func30 prop_Prop_Add.ok rfl (fun K => prop_Prop_Add.eq p_ c__p c__n c__c w K) h

/-! ### (*fathom/prop.Prop).Drop: function 32 (named slots 7) -/
def prop_Prop_Drop.w (p_ : Option Addr) (i_ : Int) (w : World) (K : Value → World → Prop) : Prop :=
  ∀ (n1 : Nat) (w2 : World), New (.cells #[.int .i64 i_] 3) w n1 w2 → 
  ∃ x3 : Int, w2.cell? (Addr.mk n1 0 none) = some (.int .i64 x3) ∧ 
  Calls Try.prog 75 #[.pointer p_, .int .i64 x3] w2 fun e w4 => ∃ r5 : Bool, e = .returned (.bool r5) ∧ 
  cnd (!r5)
  (K (.int .i64 4) w4)
  (∃ a6 : Addr, p_ = some a6 ∧ ∃ x7_p : Option Addr, ∃ x7_n : Nat, ∃ x7_c : Nat, w4.drew.cell? (a6.add 1) = some (.slice x7_p x7_n x7_c) ∧ 
    ∃ x8 : Int, w4.drew.cell? (Addr.mk n1 0 none) = some (.int .i64 x8) ∧ 
    ixK x7_p x7_n x8 3 fun a9 =>
    ∃ x10_p : Option Addr, ∃ x10_n : Nat, ∃ x10_c : Nat, w4.drew.cell? (a9.add 1) = some (.slice x10_p x10_n x10_c) ∧ 
    ∃ I11 : Int → World → Nat → Prop, (∃ k12, I11 0 w4.drew k12) ∧
    ∀ (v14 : Int) (w15 : World) (k12 : Nat) (_ : Fr), I11 v14 w15 k12 →
    cnd (decide (v14 < (x10_n : Int)))
      (ixK x10_p x10_n v14 1 fun a16 =>
        ∃ x17 : Int, w15.cell? a16 = some (.int .i64 x17) ∧ 
        ∃ W18 : World → Prop, W18 w15.drew ∧ 
        Calls Try.prog 76 #[.pointer p_, .int .i64 x17] w15.drew fun e w19 => ∃ r20 : Int, e = .returned (.int .i8 r20) ∧ 
        W18 w19 ∧ cnd (decide (r20 > (0 : Int)))
        (∃ a21 : Addr, p_ = some a21 ∧ ∃ x22_p : Option Addr, ∃ x22_n : Nat, ∃ x22_c : Nat, AtW W18 (a21.add 5) (.slice x22_p x22_n x22_c) ∧ 
        Calls Try.prog 68 #[.int .i64 x17] w19 fun e w23 => ∃ r24 : Int, e = .returned (.int .i64 r24) ∧ 
        W18 w23 ∧ ixK x22_p x22_n r24 1 fun a25 =>
        ∃ x26 : Int, AtW W18 a25 (.int .i64 x26) ∧ 
        ∃ x27 : Int, AtW W18 (Addr.mk n1 0 none) (.int .i64 x27) ∧ 
        cnd (x26 == x27)
        (K (.int .i64 7) w23)
        (∃ k13, k13 < k12 ∧ I11 (IntKind.i64.wrap (v14 + (1 : Int))) w23 k13))
        (∃ k13, k13 < k12 ∧ I11 (IntKind.i64.wrap (v14 + (1 : Int))) w19 k13))
      (∃ x28 : Int, w15.cell? (Addr.mk n1 0 none) = some (.int .i64 x28) ∧ 
        Calls Try.prog 77 #[.pointer p_, .int .i64 x28] w15 fun e w29 => e = .returned (.tuple #[]) ∧ 
        ∃ a30 : Addr, p_ = some a30 ∧ ∃ x31_p : Option Addr, ∃ x31_n : Nat, ∃ x31_c : Nat, w29.cell? (a30.add 10) = some (.slice x31_p x31_n x31_c) ∧ 
        Calls Try.prog 78 #[.slice x31_p x31_n x31_c, .func (.func 79) #[] #[.pointer (some (Addr.mk n1 0 none))]] w29 fun e w32 => ∃ r33_p : Option Addr, ∃ r33_n : Nat, ∃ r33_c : Nat, e = .returned (.slice r33_p r33_n r33_c) ∧ 
        ∃ a34 : Addr, p_ = some a34 ∧ ∃ w35 : World, StoreAt (a34.add 10) 0 [.slice r33_p r33_n r33_c] w32 w35 ∧ 
        ∃ a36 : Addr, p_ = some a36 ∧ ∃ x37_p : Option Addr, ∃ x37_n : Nat, ∃ x37_c : Nat, w35.drew.cell? (a36.add 1) = some (.slice x37_p x37_n x37_c) ∧ 
        ∃ x38 : Int, w35.drew.cell? (Addr.mk n1 0 none) = some (.int .i64 x38) ∧ 
        ixK x37_p x37_n x38 3 fun a39 =>
        ∃ w40 : World, StoreAt a39 0 [.slice none 0 0, .slice none 0 0, .bool true] w35.drew w40 ∧ 
        K (.int .i64 0) w40))
theorem prop_Prop_Drop.eq (p_ : Option Addr) (i_ : Int) (w : World) (K : Value → World → Prop) : wpF Try.prog Try.f32 (.two .leaf (.two .leaf (.two (.two .leaf (.one (.loop [(20, 3)] (.two .leaf (.two .leaf (.two (.one (.two .leaf (.two .draw .leaf))) .leaf)))))) .leaf))) [.pointer p_, .int .i64 i_] w K = prop_Prop_Drop.w p_ i_ w K := by kernel_rfl
theorem prop_Prop_Drop.ok : fnOk Try.prog Try.f32 2 = true := by kernel_rfl
theorem prop_Prop_Drop.calls {p_ : Option Addr} {i_ : Int} {w : World} {R : Ending → World → Prop} (h : prop_Prop_Drop.w p_ i_ w fun v w' => R (.returned v) w') : Calls Try.prog 32 #[.pointer p_, .int .i64 i_] w R :=
  calls_of mixed Try.func32 prop_Prop_Drop.ok rfl (fun K => prop_Prop_Drop.eq p_ i_ w K) h

/-! ### (*fathom/prop.Prop).Decide: function 33 (named slots 5) -/
def prop_Prop_Decide.w (p_ : Option Addr) (l_ : Int) (w : World) (K : Value → World → Prop) : Prop :=
  Calls Try.prog 72 #[.pointer p_, .int .i64 l_] w fun e w1 => ∃ r2 : Bool, e = .returned (.bool r2) ∧ 
  cnd (!r2)
  (K (.int .i64 1) w1)
  (Calls Try.prog 76 #[.pointer p_, .int .i64 l_] w1 fun e w3 => ∃ r4 : Int, e = .returned (.int .i8 r4) ∧ 
  cnd (r4 != (0 : Int))
  (K (.int .i64 1) w3)
  (∃ W5 : World → Prop, W5 w3.drew ∧ 
    ∃ a6 : Addr, p_ = some a6 ∧ ∃ x7_p : Option Addr, ∃ x7_n : Nat, ∃ x7_c : Nat, AtW W5 (a6.add 7) (.slice x7_p x7_n x7_c) ∧ 
    ∃ a8 : Addr, p_ = some a8 ∧ ∃ x9_p : Option Addr, ∃ x9_n : Nat, ∃ x9_c : Nat, AtW W5 (a8.add 6) (.slice x9_p x9_n x9_c) ∧ 
    ∃ a10 : Addr, p_ = some a10 ∧ ∃ x11_p : Option Addr, ∃ x11_n : Nat, ∃ x11_c : Nat, AtW W5 (a10.add 8) (.slice x11_p x11_n x11_c) ∧ 
    ∃ a12 : Addr, p_ = some a12 ∧ ∃ x13 : Int, AtW W5 (a12.add 9) (.int .i64 x13) ∧ 
    (∀ (n14 : Nat) (w15 : World), New (.cells #[.int .i64 (x9_n : Int)] 3) w3.drew n14 w15 → 
    W5 w15 ∧ (∃ w16 : World, ∃ r17_p : Option Addr, ∃ r17_n : Nat, ∃ r17_c : Nat, (Builtin.append_ #[31, 31] 31 #[.slice x7_p x7_n x7_c, .slice (some (Addr.mk n14 0 none)) 1 1]).run Try.prog w15 = .ok (.slice r17_p r17_n r17_c) w16 ∧ 
    W5 w16 ∧ ∀ (n18 : Nat) (w19 : World), New (.cells #[.int .i64 x13] 3) w16 n18 w19 → 
    W5 w19 ∧ ∃ w20 : World, ∃ r21_p : Option Addr, ∃ r21_n : Nat, ∃ r21_c : Nat, (Builtin.append_ #[31, 31] 31 #[.slice x11_p x11_n x11_c, .slice (some (Addr.mk n18 0 none)) 1 1]).run Try.prog w19 = .ok (.slice r21_p r21_n r21_c) w20 ∧ 
    ∃ a22 : Addr, p_ = some a22 ∧ ∃ w23 : World, StoreAt (a22.add 7) 0 [.slice r17_p r17_n r17_c] w20 w23 ∧ 
    ∃ a24 : Addr, p_ = some a24 ∧ ∃ w25 : World, StoreAt (a24.add 8) 0 [.slice r21_p r21_n r21_c] w23 w25 ∧ 
    Calls Try.prog 80 #[.pointer p_, .int .i64 l_, .int .i64 (-1)] w25 fun e w26 => e = .returned (.tuple #[]) ∧ 
    K (.int .i64 0) w26) ∧
  (∀ (n27 : Nat) (w28 : World), New (.cells #[.int .i64 x13] 3) w15 n27 w28 → 
    W5 w28 ∧ ∃ w29 : World, ∃ r30_p : Option Addr, ∃ r30_n : Nat, ∃ r30_c : Nat, (Builtin.append_ #[31, 31] 31 #[.slice x7_p x7_n x7_c, .slice (some (Addr.mk n14 0 none)) 1 1]).run Try.prog w28 = .ok (.slice r30_p r30_n r30_c) w29 ∧ 
    W5 w29 ∧ ∃ w31 : World, ∃ r32_p : Option Addr, ∃ r32_n : Nat, ∃ r32_c : Nat, (Builtin.append_ #[31, 31] 31 #[.slice x11_p x11_n x11_c, .slice (some (Addr.mk n27 0 none)) 1 1]).run Try.prog w29 = .ok (.slice r32_p r32_n r32_c) w31 ∧ 
    ∃ a33 : Addr, p_ = some a33 ∧ ∃ w34 : World, StoreAt (a33.add 7) 0 [.slice r30_p r30_n r30_c] w31 w34 ∧ 
    ∃ a35 : Addr, p_ = some a35 ∧ ∃ w36 : World, StoreAt (a35.add 8) 0 [.slice r32_p r32_n r32_c] w34 w36 ∧ 
    Calls Try.prog 80 #[.pointer p_, .int .i64 l_, .int .i64 (-1)] w36 fun e w37 => e = .returned (.tuple #[]) ∧ 
    K (.int .i64 0) w37)) ∧
  (∀ (n38 : Nat) (w39 : World), New (.cells #[.int .i64 x13] 3) w3.drew n38 w39 → 
    W5 w39 ∧ ∀ (n40 : Nat) (w41 : World), New (.cells #[.int .i64 (x9_n : Int)] 3) w39 n40 w41 → 
    W5 w41 ∧ ∃ w42 : World, ∃ r43_p : Option Addr, ∃ r43_n : Nat, ∃ r43_c : Nat, (Builtin.append_ #[31, 31] 31 #[.slice x7_p x7_n x7_c, .slice (some (Addr.mk n40 0 none)) 1 1]).run Try.prog w41 = .ok (.slice r43_p r43_n r43_c) w42 ∧ 
    W5 w42 ∧ ∃ w44 : World, ∃ r45_p : Option Addr, ∃ r45_n : Nat, ∃ r45_c : Nat, (Builtin.append_ #[31, 31] 31 #[.slice x11_p x11_n x11_c, .slice (some (Addr.mk n38 0 none)) 1 1]).run Try.prog w42 = .ok (.slice r45_p r45_n r45_c) w44 ∧ 
    ∃ a46 : Addr, p_ = some a46 ∧ ∃ w47 : World, StoreAt (a46.add 7) 0 [.slice r43_p r43_n r43_c] w44 w47 ∧ 
    ∃ a48 : Addr, p_ = some a48 ∧ ∃ w49 : World, StoreAt (a48.add 8) 0 [.slice r45_p r45_n r45_c] w47 w49 ∧ 
    Calls Try.prog 80 #[.pointer p_, .int .i64 l_, .int .i64 (-1)] w49 fun e w50 => e = .returned (.tuple #[]) ∧ 
    K (.int .i64 0) w50)))
theorem prop_Prop_Decide.eq (p_ : Option Addr) (l_ : Int) (w : World) (K : Value → World → Prop) : wpF Try.prog Try.f33 (.two .leaf (.two .leaf (.two .draw .leaf))) [.pointer p_, .int .i64 l_] w K = prop_Prop_Decide.w p_ l_ w K := by kernel_rfl
theorem prop_Prop_Decide.ok : fnOk Try.prog Try.f33 2 = true := by kernel_rfl
theorem prop_Prop_Decide.calls {p_ : Option Addr} {l_ : Int} {w : World} {R : Ending → World → Prop} (h : prop_Prop_Decide.w p_ l_ w fun v w' => R (.returned v) w') : Calls Try.prog 33 #[.pointer p_, .int .i64 l_] w R :=
  calls_of mixed Try.func33 prop_Prop_Decide.ok rfl (fun K => prop_Prop_Decide.eq p_ l_ w K) h

/-! ### (*fathom/prop.Prop).Value: function 34 (named slots 5) -/
def prop_Prop_Value.w (p_ : Option Addr) (l_ : Int) (w : World) (K : Value → World → Prop) : Prop :=
  Calls Try.prog 72 #[.pointer p_, .int .i64 l_] w fun e w1 => ∃ r2 : Bool, e = .returned (.bool r2) ∧ 
  cnd (!r2)
  (K (.int .i64 0) w1)
  (Calls Try.prog 76 #[.pointer p_, .int .i64 l_] w1 fun e w3 => ∃ r4 : Int, e = .returned (.int .i8 r4) ∧ 
    K (.int .i64 (IntKind.i64.wrap r4)) w3)
theorem prop_Prop_Value.eq (p_ : Option Addr) (l_ : Int) (w : World) (K : Value → World → Prop) : wpF Try.prog Try.f34 .leaf [.pointer p_, .int .i64 l_] w K = prop_Prop_Value.w p_ l_ w K := by kernel_rfl
theorem prop_Prop_Value.ok : fnOk Try.prog Try.f34 2 = true := by kernel_rfl
theorem prop_Prop_Value.calls {p_ : Option Addr} {l_ : Int} {w : World} {R : Ending → World → Prop} (h : prop_Prop_Value.w p_ l_ w fun v w' => R (.returned v) w') : Calls Try.prog 34 #[.pointer p_, .int .i64 l_] w R :=
  calls_of mixed Try.func34 prop_Prop_Value.ok rfl (fun K => prop_Prop_Value.eq p_ l_ w K) h

/-! ### fathom/fathomlaw07.Small: function 38 (named slots 3) -/
def fathomlaw07_Small.w (f_0 : Int) (f_1_p : Option Addr) (f_1_n : Nat) (f_1_c : Nat) (w : World) (K : Value → World → Prop) : Prop :=
  ∀ (n1 : Nat) (w2 : World), New (.cells #[.int .i64 f_0, .slice f_1_p f_1_n f_1_c] 24) w n1 w2 → 
  ∃ x3 : Int, ∃ x4_p : Option Addr, ∃ x4_n : Nat, ∃ x4_c : Nat, CellsAt w2 (Addr.mk n1 0 none) 0 [.int .i64 x3, .slice x4_p x4_n x4_c] ∧ 
  Calls Try.prog 13 #[.agg #[.int .i64 x3, .slice x4_p x4_n x4_c]] w2 fun e w5 => ∃ r6 : Bool, e = .returned (.bool r6) ∧ 
  cnd r6
  (∃ x7_p : Option Addr, ∃ x7_n : Nat, ∃ x7_c : Nat, w5.cell? ((Addr.mk n1 0 none).add 1) = some (.slice x7_p x7_n x7_c) ∧ 
  K (.bool (decide ((x7_n : Int) ≤ (40 : Int)))) w5)
  (K (.bool false) w5)
theorem fathomlaw07_Small.eq (f_0 : Int) (f_1_p : Option Addr) (f_1_n : Nat) (f_1_c : Nat) (w : World) (K : Value → World → Prop) : wpF Try.prog Try.f38 .leaf [.agg #[.int .i64 f_0, .slice f_1_p f_1_n f_1_c]] w K = fathomlaw07_Small.w f_0 f_1_p f_1_n f_1_c w K := by kernel_rfl
theorem fathomlaw07_Small.ok : fnOk Try.prog Try.f38 1 = true := by kernel_rfl
theorem fathomlaw07_Small.calls {f_0 : Int} {f_1_p : Option Addr} {f_1_n : Nat} {f_1_c : Nat} {w : World} {R : Ending → World → Prop} (h : fathomlaw07_Small.w f_0 f_1_p f_1_n f_1_c w fun v w' => R (.returned v) w') : Calls Try.prog 38 #[.agg #[.int .i64 f_0, .slice f_1_p f_1_n f_1_c]] w R :=
  calls_of mixed Try.func38 fathomlaw07_Small.ok rfl (fun K => fathomlaw07_Small.eq f_0 f_1_p f_1_n f_1_c w K) h

/-! ### fathom/fathomlaw04.Light: function 39 (named slots 5) -/
def fathomlaw04_Light.w (l__p : Option Addr) (l__n : Nat) (l__c : Nat) (w : World) (K : Value → World → Prop) : Prop :=
  ∃ I1 : Int → Int → World → Nat → Prop, (∃ k2, I1 0 0 w k2) ∧
  ∀ (n_4 : Int) (i_5 : Int) (w6 : World) (k2 : Nat) (_ : Fr), I1 n_4 i_5 w6 k2 →
  cnd (decide (i_5 < (l__n : Int)))
    (cnd (decide (i_5 ≤ (300 : Int)))
    (ixK l__p l__n i_5 2 fun a7 =>
      ∃ x8_p : Option Addr, ∃ x8_n : Nat, ∃ x8_c : Nat, w6.cell? (a7.add 1) = some (.slice x8_p x8_n x8_c) ∧ 
      cnd (decide ((x8_n : Int) > (5000 : Int)))
      (K (.bool false) w6)
      (ixK l__p l__n i_5 2 fun a9 =>
        ∃ x10_p : Option Addr, ∃ x10_n : Nat, ∃ x10_c : Nat, w6.cell? (a9.add 1) = some (.slice x10_p x10_n x10_c) ∧ 
        ∃ k3, k3 < k2 ∧ I1 (IntKind.i64.wrap (n_4 + (x10_n : Int))) (IntKind.i64.wrap (i_5 + (1 : Int))) w6 k3))
    (cnd (decide ((l__n : Int) ≤ (300 : Int)))
      (K (.bool (decide (n_4 ≤ (6000 : Int)))) w6)
      (K (.bool false) w6)))
    (cnd (decide ((l__n : Int) ≤ (300 : Int)))
    (K (.bool (decide (n_4 ≤ (6000 : Int)))) w6)
    (K (.bool false) w6))
theorem fathomlaw04_Light.eq (l__p : Option Addr) (l__n : Nat) (l__c : Nat) (w : World) (K : Value → World → Prop) : wpF Try.prog Try.f39 (.two .leaf (.two .leaf (.two (.two .leaf (.one (.loop [(3, 3), (4, 3)] .leaf))) .leaf))) [.slice l__p l__n l__c] w K = fathomlaw04_Light.w l__p l__n l__c w K := by kernel_rfl
theorem fathomlaw04_Light.ok : fnOk Try.prog Try.f39 1 = true := by kernel_rfl
theorem fathomlaw04_Light.calls {l__p : Option Addr} {l__n : Nat} {l__c : Nat} {w : World} {R : Ending → World → Prop} (h : fathomlaw04_Light.w l__p l__n l__c w fun v w' => R (.returned v) w') : Calls Try.prog 39 #[.slice l__p l__n l__c] w R :=
  calls_of mixed Try.func39 fathomlaw04_Light.ok rfl (fun K => fathomlaw04_Light.eq l__p l__n l__c w K) h

/-! ### fathom/fathomlaw07.awake: function 40 (named slots 4) -/
def fathomlaw07_awake.w (w : World) (K : Value → World → Prop) : Prop :=
  ∀ (n1 : Nat) (w2 : World), New (.cells #[.int .i64 1, .int .i64 2] 3) w n1 w2 → 
  ∀ (n3 : Nat) (w4 : World), New (.cells #[.int .i64 (-1), .int .i64 2] 3) w2 n3 w4 → 
  ∀ (n5 : Nat) (w6 : World), New (.cells #[.int .i64 1, .int .i64 (-2)] 3) w4 n5 w6 → 
  ∀ (n7 : Nat) (w8 : World), New (.cells #[.int .i64 (-1), .int .i64 (-2)] 3) w6 n7 w8 → 
  ∀ (n9 : Nat) (w10 : World), New (.cells #[.slice (some (Addr.mk n1 0 none)) 2 2, .slice (some (Addr.mk n3 0 none)) 2 2, .slice (some (Addr.mk n5 0 none)) 2 2, .slice (some (Addr.mk n7 0 none)) 2 2] 31) w8 n9 w10 → 
  ∀ (n11 : Nat) (w12 : World), New (.cells #[.int .i64 0, .slice none 0 0] 24) w10 n11 w12 → 
  ∃ w13 : World, StoreAt (Addr.mk n11 0 none) 0 [.int .i64 2, .slice (some (Addr.mk n9 0 none)) 4 4] w12 w13 ∧ 
  ∃ x14 : Int, ∃ x15_p : Option Addr, ∃ x15_n : Nat, ∃ x15_c : Nat, CellsAt w13 (Addr.mk n11 0 none) 0 [.int .i64 x14, .slice x15_p x15_n x15_c] ∧ 
  ∀ (n16 : Nat) (w17 : World), New (.cells #[.int .i64 2] 3) w13 n16 w17 → 
  ∀ (n18 : Nat) (w19 : World), New (.cells #[.bool false, .slice (some (Addr.mk n16 0 none)) 1 1, .bool false, .slice none 0 0] 73) w17 n18 w19 → 
  Calls Try.prog 41 #[.agg #[.int .i64 x14, .slice x15_p x15_n x15_c], .slice (some (Addr.mk n18 0 none)) 2 2] w19 fun e w20 => ∃ r21 : Int, ∃ r22 : Int, e = .returned (.tuple #[.int .i64 r21, .int .i64 r22]) ∧ 
  cnd (r22 == (0 : Int))
  (cnd (r21 == (1 : Int))
  (∃ x23 : Int, ∃ x24_p : Option Addr, ∃ x24_n : Nat, ∃ x24_c : Nat, CellsAt w20 (Addr.mk n11 0 none) 0 [.int .i64 x23, .slice x24_p x24_n x24_c] ∧ 
  Calls Try.prog 52 #[.agg #[.int .i64 x23, .slice x24_p x24_n x24_c]] w20 fun e w25 => ∃ r26 : Bool, e = .returned (.bool r26) ∧ 
  K (.bool (!r26)) w25)
  (K (.bool false) w20))
  (K (.bool false) w20)
theorem fathomlaw07_awake.eq (w : World) (K : Value → World → Prop) : wpF Try.prog Try.f40 .leaf [] w K = fathomlaw07_awake.w  w K := by kernel_rfl
theorem fathomlaw07_awake.ok : fnOk Try.prog Try.f40 0 = true := by kernel_rfl
theorem fathomlaw07_awake.calls {w : World} {R : Ending → World → Prop} (h : fathomlaw07_awake.w  w fun v w' => R (.returned v) w') : Calls Try.prog 40 #[] w R :=
  calls_of mixed Try.func40 fathomlaw07_awake.ok rfl (fun K => fathomlaw07_awake.eq  w K) h

/-! ### fathom/rup.Proves: function 41 (named slots 13) -/
def rup_Proves.w (f_0 : Int) (f_1_p : Option Addr) (f_1_n : Nat) (f_1_c : Nat) (l__p : Option Addr) (l__n : Nat) (l__c : Nat) (w : World) (K : Value → World → Prop) : Prop :=
  ∀ (n1 : Nat) (w2 : World), New (.cells #[.int .i64 f_0, .slice f_1_p f_1_n f_1_c] 24) w n1 w2 → 
  ∃ x3 : Int, ∃ x4_p : Option Addr, ∃ x4_n : Nat, ∃ x4_c : Nat, CellsAt w2 (Addr.mk n1 0 none) 0 [.int .i64 x3, .slice x4_p x4_n x4_c] ∧ 
  Calls Try.prog 65 #[.agg #[.int .i64 x3, .slice x4_p x4_n x4_c]] w2 fun e w5 => ∃ r6 : Int, e = .returned (.int .i64 r6) ∧ 
  cnd (r6 != (0 : Int))
  (K (.tuple #[.int .i64 0, .int .i64 1]) w5)
  (Calls Try.prog 81 #[.slice l__p l__n l__c] w5 fun e w7 => ∃ r8 : Int, e = .returned (.int .i64 r8) ∧ 
  cnd (r8 != (0 : Int))
  (K (.tuple #[.int .i64 0, .int .i64 1]) w7)
  (∃ I9 : Option Addr → Nat → Nat → Int → World → Nat → Prop, (∃ k10, I9 none 0 0 0 w7 k10) ∧
    ∀ (all_12_p : Option Addr) (all_12_n : Nat) (all_12_c : Nat) (v13 : Int) (w14 : World) (k10 : Nat) (_ : Fr), I9 all_12_p all_12_n all_12_c v13 w14 k10 →
    cnd (decide (v13 < (l__n : Int)))
      (ixK l__p l__n v13 2 fun a15 =>
        ∃ x16 : Bool, ∃ x17_p : Option Addr, ∃ x17_n : Nat, ∃ x17_c : Nat, CellsAt w14 a15 0 [.bool x16, .slice x17_p x17_n x17_c] ∧ 
        ∀ (n18 : Nat) (w19 : World), New (.cells #[.bool false, .slice none 0 0] 73) w14 n18 w19 → 
        ∃ w20 : World, StoreAt (Addr.mk n18 0 none) 0 [.bool x16, .slice x17_p x17_n x17_c] w19 w20 ∧ 
        ∃ x21_p : Option Addr, ∃ x21_n : Nat, ∃ x21_c : Nat, w20.cell? ((Addr.mk n18 0 none).add 1) = some (.slice x21_p x21_n x21_c) ∧ 
        ∀ (n22 : Nat) (w23 : World), New (.cells #[.slice x21_p x21_n x21_c] 31) w20 n22 w23 → 
        ∃ w24 : World, ∃ r25_p : Option Addr, ∃ r25_n : Nat, ∃ r25_c : Nat, (Builtin.append_ #[22, 22] 22 #[.slice all_12_p all_12_n all_12_c, .slice (some (Addr.mk n22 0 none)) 1 1]).run Try.prog w23 = .ok (.slice r25_p r25_n r25_c) w24 ∧ 
        ∃ k11, k11 < k10 ∧ I9 r25_p r25_n r25_c (IntKind.i64.wrap (v13 + (1 : Int))) w24 k11)
      (∃ x26 : Int, ∃ x27_p : Option Addr, ∃ x27_n : Nat, ∃ x27_c : Nat, CellsAt w14 (Addr.mk n1 0 none) 0 [.int .i64 x26, .slice x27_p x27_n x27_c] ∧ 
        Calls Try.prog 82 #[.agg #[.int .i64 x26, .slice x27_p x27_n x27_c], .slice all_12_p all_12_n all_12_c] w14 fun e w28 => ∃ r29 : Option Addr, e = .returned (.pointer r29) ∧ 
        ∃ I30 : Int → World → Nat → Prop, (∃ k31, I30 0 w28 k31) ∧
        ∀ (v33 : Int) (w34 : World) (k31 : Nat) (_ : Fr), I30 v33 w34 k31 →
        cnd (decide (v33 < (l__n : Int)))
          (ixK l__p l__n v33 2 fun a35 =>
            ∃ x36 : Bool, ∃ x37_p : Option Addr, ∃ x37_n : Nat, ∃ x37_c : Nat, CellsAt w34 a35 0 [.bool x36, .slice x37_p x37_n x37_c] ∧ 
            ∀ (n38 : Nat) (w39 : World), New (.cells #[.bool false, .slice none 0 0] 73) w34 n38 w39 → 
            ∃ w40 : World, StoreAt (Addr.mk n38 0 none) 0 [.bool x36, .slice x37_p x37_n x37_c] w39 w40 ∧ 
            ∃ x41 : Bool, ∃ x42_p : Option Addr, ∃ x42_n : Nat, ∃ x42_c : Nat, CellsAt w40 (Addr.mk n38 0 none) 0 [.bool x41, .slice x42_p x42_n x42_c] ∧ 
            Calls Try.prog 83 #[.pointer r29, .agg #[.bool x41, .slice x42_p x42_n x42_c]] w40 fun e w43 => ∃ r44 : Int, e = .returned (.int .i64 r44) ∧ 
            cnd (r44 != (0 : Int))
            (K (.tuple #[.int .i64 v33, .int .i64 r44]) w43)
            (∃ x45 : Bool, w43.cell? ((Addr.mk n38 0 none).add 0) = some (.bool x45) ∧ 
              cnd (!x45)
              (∃ x46_p : Option Addr, ∃ x46_n : Nat, ∃ x46_c : Nat, w43.cell? ((Addr.mk n38 0 none).add 1) = some (.slice x46_p x46_n x46_c) ∧ 
              cnd ((x46_n : Int) == (0 : Int))
              (K (.tuple #[.int .i64 v33, .int .i64 0]) w43)
              (∃ k32, k32 < k31 ∧ I30 (IntKind.i64.wrap (v33 + (1 : Int))) w43 k32))
              (∃ k32, k32 < k31 ∧ I30 (IntKind.i64.wrap (v33 + (1 : Int))) w43 k32)))
          (K (.tuple #[.int .i64 (l__n : Int), .int .i64 4]) w34))))
theorem rup_Proves.eq (f_0 : Int) (f_1_p : Option Addr) (f_1_n : Nat) (f_1_c : Nat) (l__p : Option Addr) (l__n : Nat) (l__c : Nat) (w : World) (K : Value → World → Prop) : wpF Try.prog Try.f41 (.two .leaf (.two .leaf (.two .leaf (.two (.two .leaf (.one (.loop [(6, 22), (23, 3)] .leaf))) (.two .leaf (.two (.two .leaf (.one (.loop [(38, 3)] .leaf))) .leaf)))))) [.agg #[.int .i64 f_0, .slice f_1_p f_1_n f_1_c], .slice l__p l__n l__c] w K = rup_Proves.w f_0 f_1_p f_1_n f_1_c l__p l__n l__c w K := by kernel_rfl
theorem rup_Proves.ok : fnOk Try.prog Try.f41 2 = true := by kernel_rfl
theorem rup_Proves.calls {f_0 : Int} {f_1_p : Option Addr} {f_1_n : Nat} {f_1_c : Nat} {l__p : Option Addr} {l__n : Nat} {l__c : Nat} {w : World} {R : Ending → World → Prop} (h : rup_Proves.w f_0 f_1_p f_1_n f_1_c l__p l__n l__c w fun v w' => R (.returned v) w') : Calls Try.prog 41 #[.agg #[.int .i64 f_0, .slice f_1_p f_1_n f_1_c], .slice l__p l__n l__c] w R :=
  calls_of mixed Try.func41 rup_Proves.ok rfl (fun K => rup_Proves.eq f_0 f_1_p f_1_n f_1_c l__p l__n l__c w K) h

/-! ### fathom/fathomref04.May: function 42 (named slots 4) -/
def fathomref04_May.w (l__p : Option Addr) (l__n : Nat) (l__c : Nat) (w : World) (K : Value → World → Prop) : Prop :=
  ∃ I1 : Int → World → Nat → Prop, (∃ k2, I1 0 w k2) ∧
  ∀ (i_4 : Int) (w5 : World) (k2 : Nat) (_ : Fr), I1 i_4 w5 k2 →
  cnd (decide (i_4 < (l__n : Int)))
    (ixK l__p l__n i_4 2 fun a6 =>
      ∃ x7_p : Option Addr, ∃ x7_n : Nat, ∃ x7_c : Nat, w5.cell? (a6.add 1) = some (.slice x7_p x7_n x7_c) ∧ 
      Calls Try.prog 48 #[.slice x7_p x7_n x7_c] w5 fun e w8 => ∃ r9 : Bool, e = .returned (.bool r9) ∧ 
      cnd (!r9)
      (K (.bool false) w8)
      (∃ k3, k3 < k2 ∧ I1 (IntKind.i64.wrap (i_4 + (1 : Int))) w8 k3))
    (K (.bool (decide ((l__n : Int) ≤ (262144 : Int)))) w5)
theorem fathomref04_May.eq (l__p : Option Addr) (l__n : Nat) (l__c : Nat) (w : World) (K : Value → World → Prop) : wpF Try.prog Try.f42 (.two .leaf (.two (.two .leaf (.one (.loop [(3, 3)] .leaf))) .leaf)) [.slice l__p l__n l__c] w K = fathomref04_May.w l__p l__n l__c w K := by kernel_rfl
theorem fathomref04_May.ok : fnOk Try.prog Try.f42 1 = true := by kernel_rfl
theorem fathomref04_May.calls {l__p : Option Addr} {l__n : Nat} {l__c : Nat} {w : World} {R : Ending → World → Prop} (h : fathomref04_May.w l__p l__n l__c w fun v w' => R (.returned v) w') : Calls Try.prog 42 #[.slice l__p l__n l__c] w R :=
  calls_of mixed Try.func42 fathomref04_May.ok rfl (fun K => fathomref04_May.eq l__p l__n l__c w K) h

/-! ### fathom/fathomref07.Proves: function 43 (named slots 9) -/
def fathomref07_Proves.w (f_0 : Int) (f_1_p : Option Addr) (f_1_n : Nat) (f_1_c : Nat) (l__p : Option Addr) (l__n : Nat) (l__c : Nat) (w : World) (K : Value → World → Prop) : Prop :=
  ∀ (n1 : Nat) (w2 : World), New (.cells #[.int .i64 f_0, .slice f_1_p f_1_n f_1_c] 24) w n1 w2 → 
  ∃ I3 : Int → World → Nat → Prop, (∃ k4, I3 0 w2 k4) ∧
  ∀ (i_6 : Int) (w7 : World) (k4 : Nat) (_ : Fr), I3 i_6 w7 k4 →
  cnd (decide (i_6 < (l__n : Int)))
    (∃ W8 : World → Prop, W8 w7.drew ∧ 
      ∃ x9 : Int, ∃ x10_p : Option Addr, ∃ x10_n : Nat, ∃ x10_c : Nat, CellsW W8 (Addr.mk n1 0 none) [.int .i64 x9, .slice x10_p x10_n x10_c] ∧ 
      ixK l__p l__n i_6 2 fun a11 =>
      ∃ x12 : Bool, ∃ x13_p : Option Addr, ∃ x13_n : Nat, ∃ x13_c : Nat, CellsW W8 a11 [.bool x12, .slice x13_p x13_n x13_c] ∧ 
      (Calls Try.prog 55 #[.agg #[.int .i64 x9, .slice x10_p x10_n x10_c], .agg #[.bool x12, .slice x13_p x13_n x13_c]] w7.drew fun e w14 => ∃ r15 : Int, ∃ r16_p : Option Addr, ∃ r16_n : Nat, ∃ r16_c : Nat, ∃ r17 : Int, e = .returned (.tuple #[.agg #[.int .i64 r15, .slice r16_p r16_n r16_c], .int .i64 r17]) ∧ 
      ∀ (n18 : Nat) (w19 : World), New (.cells #[.int .i64 0, .slice none 0 0] 24) w14 n18 w19 → 
      W8 w19 ∧ ∃ w20 : World, StoreAt (Addr.mk n18 0 none) 0 [.int .i64 r15, .slice r16_p r16_n r16_c] w19 w20 ∧ 
      cnd (r17 != (0 : Int))
      (K (.tuple #[.int .i64 i_6, .int .i64 r17]) w20)
      (ixK l__p l__n i_6 2 fun a21 =>
        ∃ x22 : Bool, w20.cell? (a21.add 0) = some (.bool x22) ∧ 
        cnd (!x22)
        (ixK l__p l__n i_6 2 fun a23 =>
        ∃ x24_p : Option Addr, ∃ x24_n : Nat, ∃ x24_c : Nat, w20.cell? (a23.add 1) = some (.slice x24_p x24_n x24_c) ∧ 
        cnd ((x24_n : Int) == (0 : Int))
        (K (.tuple #[.int .i64 i_6, .int .i64 0]) w20)
        (∃ x25 : Int, ∃ x26_p : Option Addr, ∃ x26_n : Nat, ∃ x26_c : Nat, CellsAt w20 (Addr.mk n18 0 none) 0 [.int .i64 x25, .slice x26_p x26_n x26_c] ∧ 
          ∃ w27 : World, StoreAt (Addr.mk n1 0 none) 0 [.int .i64 x25, .slice x26_p x26_n x26_c] w20 w27 ∧ 
          ∃ k5, k5 < k4 ∧ I3 (IntKind.i64.wrap (i_6 + (1 : Int))) w27 k5))
        (∃ x28 : Int, ∃ x29_p : Option Addr, ∃ x29_n : Nat, ∃ x29_c : Nat, CellsAt w20 (Addr.mk n18 0 none) 0 [.int .i64 x28, .slice x29_p x29_n x29_c] ∧ 
        ∃ w30 : World, StoreAt (Addr.mk n1 0 none) 0 [.int .i64 x28, .slice x29_p x29_n x29_c] w20 w30 ∧ 
        ∃ k5, k5 < k4 ∧ I3 (IntKind.i64.wrap (i_6 + (1 : Int))) w30 k5))) ∧
    (∀ (n31 : Nat) (w32 : World), New (.cells #[.int .i64 0, .slice none 0 0] 24) w7.drew n31 w32 → 
      W8 w32 ∧ Calls Try.prog 55 #[.agg #[.int .i64 x9, .slice x10_p x10_n x10_c], .agg #[.bool x12, .slice x13_p x13_n x13_c]] w32 fun e w33 => ∃ r34 : Int, ∃ r35_p : Option Addr, ∃ r35_n : Nat, ∃ r35_c : Nat, ∃ r36 : Int, e = .returned (.tuple #[.agg #[.int .i64 r34, .slice r35_p r35_n r35_c], .int .i64 r36]) ∧ 
      ∃ w37 : World, StoreAt (Addr.mk n31 0 none) 0 [.int .i64 r34, .slice r35_p r35_n r35_c] w33 w37 ∧ 
      cnd (r36 != (0 : Int))
      (K (.tuple #[.int .i64 i_6, .int .i64 r36]) w37)
      (ixK l__p l__n i_6 2 fun a38 =>
        ∃ x39 : Bool, w37.cell? (a38.add 0) = some (.bool x39) ∧ 
        cnd (!x39)
        (ixK l__p l__n i_6 2 fun a40 =>
        ∃ x41_p : Option Addr, ∃ x41_n : Nat, ∃ x41_c : Nat, w37.cell? (a40.add 1) = some (.slice x41_p x41_n x41_c) ∧ 
        cnd ((x41_n : Int) == (0 : Int))
        (K (.tuple #[.int .i64 i_6, .int .i64 0]) w37)
        (∃ x42 : Int, ∃ x43_p : Option Addr, ∃ x43_n : Nat, ∃ x43_c : Nat, CellsAt w37 (Addr.mk n31 0 none) 0 [.int .i64 x42, .slice x43_p x43_n x43_c] ∧ 
          ∃ w44 : World, StoreAt (Addr.mk n1 0 none) 0 [.int .i64 x42, .slice x43_p x43_n x43_c] w37 w44 ∧ 
          ∃ k5, k5 < k4 ∧ I3 (IntKind.i64.wrap (i_6 + (1 : Int))) w44 k5))
        (∃ x45 : Int, ∃ x46_p : Option Addr, ∃ x46_n : Nat, ∃ x46_c : Nat, CellsAt w37 (Addr.mk n31 0 none) 0 [.int .i64 x45, .slice x46_p x46_n x46_c] ∧ 
        ∃ w47 : World, StoreAt (Addr.mk n1 0 none) 0 [.int .i64 x45, .slice x46_p x46_n x46_c] w37 w47 ∧ 
        ∃ k5, k5 < k4 ∧ I3 (IntKind.i64.wrap (i_6 + (1 : Int))) w47 k5))))
    (K (.tuple #[.int .i64 (l__n : Int), .int .i64 4]) w7)
theorem fathomref07_Proves.eq (f_0 : Int) (f_1_p : Option Addr) (f_1_n : Nat) (f_1_c : Nat) (l__p : Option Addr) (l__n : Nat) (l__c : Nat) (w : World) (K : Value → World → Prop) : wpF Try.prog Try.f43 (.two .leaf (.two (.two .leaf (.one (.loop [(6, 3)] (.two .leaf (.two (.one (.two .draw .leaf)) .leaf))))) .leaf)) [.agg #[.int .i64 f_0, .slice f_1_p f_1_n f_1_c], .slice l__p l__n l__c] w K = fathomref07_Proves.w f_0 f_1_p f_1_n f_1_c l__p l__n l__c w K := by kernel_rfl
theorem fathomref07_Proves.ok : fnOk Try.prog Try.f43 2 = true := by kernel_rfl
theorem fathomref07_Proves.calls {f_0 : Int} {f_1_p : Option Addr} {f_1_n : Nat} {f_1_c : Nat} {l__p : Option Addr} {l__n : Nat} {l__c : Nat} {w : World} {R : Ending → World → Prop} (h : fathomref07_Proves.w f_0 f_1_p f_1_n f_1_c l__p l__n l__c w fun v w' => R (.returned v) w') : Calls Try.prog 43 #[.agg #[.int .i64 f_0, .slice f_1_p f_1_n f_1_c], .slice l__p l__n l__c] w R :=
  calls_of mixed Try.func43 fathomref07_Proves.ok rfl (fun K => fathomref07_Proves.eq f_0 f_1_p f_1_n f_1_c l__p l__n l__c w K) h

/-! ### fathom/fathomlaw07.short: function 44 (named slots 3) -/
def fathomlaw07_short.w (c__p : Option Addr) (c__n : Nat) (c__c : Nat) (w : World) (K : Value → World → Prop) : Prop :=
  K (.bool (decide ((c__n : Int) ≤ (60 : Int)))) w
theorem fathomlaw07_short.eq (c__p : Option Addr) (c__n : Nat) (c__c : Nat) (w : World) (K : Value → World → Prop) : wpF Try.prog Try.f44 .leaf [.slice c__p c__n c__c] w K = fathomlaw07_short.w c__p c__n c__c w K := by kernel_rfl
theorem fathomlaw07_short.ok : fnOk Try.prog Try.f44 1 = true := by kernel_rfl
theorem fathomlaw07_short.calls {c__p : Option Addr} {c__n : Nat} {c__c : Nat} {w : World} {R : Ending → World → Prop} (h : fathomlaw07_short.w c__p c__n c__c w fun v w' => R (.returned v) w') : Calls Try.prog 44 #[.slice c__p c__n c__c] w R :=
  calls_of mixed Try.func44 fathomlaw07_short.ok rfl (fun K => fathomlaw07_short.eq c__p c__n c__c w K) h

/-! ### fathom/rup.Unit: function 45 (named slots 5) -/
def rup_Unit.w (f_0 : Int) (f_1_p : Option Addr) (f_1_n : Nat) (f_1_c : Nat) (c__p : Option Addr) (c__n : Nat) (c__c : Nat) (w : World) (K : Value → World → Prop) : Prop :=
  ∀ (n1 : Nat) (w2 : World), New (.cells #[.int .i64 f_0, .slice f_1_p f_1_n f_1_c] 24) w n1 w2 → 
  ∃ x3 : Int, ∃ x4_p : Option Addr, ∃ x4_n : Nat, ∃ x4_c : Nat, CellsAt w2 (Addr.mk n1 0 none) 0 [.int .i64 x3, .slice x4_p x4_n x4_c] ∧ 
  Calls Try.prog 84 #[.agg #[.int .i64 x3, .slice x4_p x4_n x4_c], .slice c__p c__n c__c] w2 fun e w5 => ∃ r6 : Bool, e = .returned (.bool r6) ∧ 
  cnd r6
  (∃ x7 : Int, ∃ x8_p : Option Addr, ∃ x8_n : Nat, ∃ x8_c : Nat, CellsAt w5 (Addr.mk n1 0 none) 0 [.int .i64 x7, .slice x8_p x8_n x8_c] ∧ 
  ∀ (n9 : Nat) (w10 : World), New (.cells #[.slice c__p c__n c__c] 31) w5 n9 w10 → 
  Calls Try.prog 82 #[.agg #[.int .i64 x7, .slice x8_p x8_n x8_c], .slice (some (Addr.mk n9 0 none)) 1 1] w10 fun e w11 => ∃ r12 : Option Addr, e = .returned (.pointer r12) ∧ 
  Calls Try.prog 85 #[.pointer r12, .slice c__p c__n c__c] w11 fun e w13 => ∃ r14 : Bool, e = .returned (.bool r14) ∧ 
  K (.bool r14) w13)
  (K (.bool false) w5)
theorem rup_Unit.eq (f_0 : Int) (f_1_p : Option Addr) (f_1_n : Nat) (f_1_c : Nat) (c__p : Option Addr) (c__n : Nat) (c__c : Nat) (w : World) (K : Value → World → Prop) : wpF Try.prog Try.f45 .leaf [.agg #[.int .i64 f_0, .slice f_1_p f_1_n f_1_c], .slice c__p c__n c__c] w K = rup_Unit.w f_0 f_1_p f_1_n f_1_c c__p c__n c__c w K := by kernel_rfl
theorem rup_Unit.ok : fnOk Try.prog Try.f45 2 = true := by kernel_rfl
theorem rup_Unit.calls {f_0 : Int} {f_1_p : Option Addr} {f_1_n : Nat} {f_1_c : Nat} {c__p : Option Addr} {c__n : Nat} {c__c : Nat} {w : World} {R : Ending → World → Prop} (h : rup_Unit.w f_0 f_1_p f_1_n f_1_c c__p c__n c__c w fun v w' => R (.returned v) w') : Calls Try.prog 45 #[.agg #[.int .i64 f_0, .slice f_1_p f_1_n f_1_c], .slice c__p c__n c__c] w R :=
  calls_of mixed Try.func45 rup_Unit.ok rfl (fun K => rup_Unit.eq f_0 f_1_p f_1_n f_1_c c__p c__n c__c w K) h

/-! ### fathom/fathomref01.Clause: function 46 (named slots 7) -/
def fathomref01_Clause.w (m__p : Option Addr) (m__n : Nat) (m__c : Nat) (c__p : Option Addr) (c__n : Nat) (c__c : Nat) (w : World) (K : Value → World → Prop) : Prop :=
  ∃ I1 : Bool → Int → World → Nat → Prop, (∃ k2, I1 false 0 w k2) ∧
  ∀ (open_4 : Bool) (i_5 : Int) (w6 : World) (k2 : Nat) (_ : Fr), I1 open_4 i_5 w6 k2 →
  cnd (decide (i_5 < (c__n : Int)))
    (ixK c__p c__n i_5 1 fun a7 =>
      ∃ x8 : Int, w6.cell? a7 = some (.int .i64 x8) ∧ 
      Calls Try.prog 26 #[.slice m__p m__n m__c, .int .i64 x8] w6 fun e w9 => ∃ r10 : Int, e = .returned (.int .i64 r10) ∧ 
      cnd (r10 == (1 : Int))
      (K (.int .i64 1) w9)
      (cnd open_4
        (∃ k3, k3 < k2 ∧ I1 true (IntKind.i64.wrap (i_5 + (1 : Int))) w9 k3)
        (ixK c__p c__n i_5 1 fun a11 =>
        ∃ x12 : Int, w9.cell? a11 = some (.int .i64 x12) ∧ 
        Calls Try.prog 26 #[.slice m__p m__n m__c, .int .i64 x12] w9 fun e w13 => ∃ r14 : Int, e = .returned (.int .i64 r14) ∧ 
        ∃ k3, k3 < k2 ∧ I1 (r14 == (0 : Int)) (IntKind.i64.wrap (i_5 + (1 : Int))) w13 k3)))
    (cnd open_4
      (K (.int .i64 0) w6)
      (K (.int .i64 (-1)) w6))
theorem fathomref01_Clause.eq (m__p : Option Addr) (m__n : Nat) (m__c : Nat) (c__p : Option Addr) (c__n : Nat) (c__c : Nat) (w : World) (K : Value → World → Prop) : wpF Try.prog Try.f46 (.two .leaf (.two .leaf (.two (.two .leaf (.one (.loop [(5, 4), (6, 3)] .leaf))) .leaf))) [.slice m__p m__n m__c, .slice c__p c__n c__c] w K = fathomref01_Clause.w m__p m__n m__c c__p c__n c__c w K := by kernel_rfl
theorem fathomref01_Clause.ok : fnOk Try.prog Try.f46 2 = true := by kernel_rfl
theorem fathomref01_Clause.calls {m__p : Option Addr} {m__n : Nat} {m__c : Nat} {c__p : Option Addr} {c__n : Nat} {c__c : Nat} {w : World} {R : Ending → World → Prop} (h : fathomref01_Clause.w m__p m__n m__c c__p c__n c__c w fun v w' => R (.returned v) w') : Calls Try.prog 46 #[.slice m__p m__n m__c, .slice c__p c__n c__c] w R :=
  calls_of mixed Try.func46 fathomref01_Clause.ok rfl (fun K => fathomref01_Clause.eq m__p m__n m__c c__p c__n c__c w K) h

/-! ### fathom/fathomref01.Sat: function 47 (named slots 5) -/
def fathomref01_Sat.w (f_0 : Int) (f_1_p : Option Addr) (f_1_n : Nat) (f_1_c : Nat) (w : World) (K : Value → World → Prop) : Prop :=
  ∀ (n1 : Nat) (w2 : World), New (.cells #[.int .i64 f_0, .slice f_1_p f_1_n f_1_c] 24) w n1 w2 → 
  ∃ I3 : Int → World → Nat → Prop, (∃ k4, I3 0 w2 k4) ∧
  ∀ (n_6 : Int) (w7 : World) (k4 : Nat) (_ : Fr), I3 n_6 w7 k4 →
  ∃ x8 : Int, w7.cell? ((Addr.mk n1 0 none).add 0) = some (.int .i64 x8) ∧ 
    0 ≤ x8 ∧ cnd (decide (n_6 < (IntKind.i64.wrap ((1 : Int) * 2 ^ (min x8.toNat (IntKind.bits .i64))))))
    (∃ x9 : Int, w7.drew.cell? ((Addr.mk n1 0 none).add 0) = some (.int .i64 x9) ∧ 
      (∃ x10 : Int, ∃ x11_p : Option Addr, ∃ x11_n : Nat, ∃ x11_c : Nat, CellsAt w7.drew (Addr.mk n1 0 none) 0 [.int .i64 x10, .slice x11_p x11_n x11_c] ∧ 
      Calls Try.prog 86 #[.int .i64 x9, .int .i64 n_6] w7.drew fun e w12 => ∃ r13_p : Option Addr, ∃ r13_n : Nat, ∃ r13_c : Nat, e = .returned (.slice r13_p r13_n r13_c) ∧ 
      Calls Try.prog 24 #[.agg #[.int .i64 x10, .slice x11_p x11_n x11_c], .slice r13_p r13_n r13_c] w12 fun e w14 => ∃ r15 : Bool, e = .returned (.bool r15) ∧ 
      cnd r15
      (∃ x16 : Int, w14.cell? ((Addr.mk n1 0 none).add 0) = some (.int .i64 x16) ∧ 
        Calls Try.prog 86 #[.int .i64 x16, .int .i64 n_6] w14 fun e w17 => ∃ r18_p : Option Addr, ∃ r18_n : Nat, ∃ r18_c : Nat, e = .returned (.slice r18_p r18_n r18_c) ∧ 
        K (.tuple #[.slice r18_p r18_n r18_c, .bool true]) w17)
      (∃ k5, k5 < k4 ∧ I3 (IntKind.i64.wrap (n_6 + (1 : Int))) w14 k5)) ∧
    (Calls Try.prog 86 #[.int .i64 x9, .int .i64 n_6] w7.drew fun e w19 => ∃ r20_p : Option Addr, ∃ r20_n : Nat, ∃ r20_c : Nat, e = .returned (.slice r20_p r20_n r20_c) ∧ 
      ∃ x21 : Int, ∃ x22_p : Option Addr, ∃ x22_n : Nat, ∃ x22_c : Nat, CellsAt w19 (Addr.mk n1 0 none) 0 [.int .i64 x21, .slice x22_p x22_n x22_c] ∧ 
      Calls Try.prog 24 #[.agg #[.int .i64 x21, .slice x22_p x22_n x22_c], .slice r20_p r20_n r20_c] w19 fun e w23 => ∃ r24 : Bool, e = .returned (.bool r24) ∧ 
      cnd r24
      (∃ x25 : Int, w23.cell? ((Addr.mk n1 0 none).add 0) = some (.int .i64 x25) ∧ 
        Calls Try.prog 86 #[.int .i64 x25, .int .i64 n_6] w23 fun e w26 => ∃ r27_p : Option Addr, ∃ r27_n : Nat, ∃ r27_c : Nat, e = .returned (.slice r27_p r27_n r27_c) ∧ 
        K (.tuple #[.slice r27_p r27_n r27_c, .bool true]) w26)
      (∃ k5, k5 < k4 ∧ I3 (IntKind.i64.wrap (n_6 + (1 : Int))) w23 k5)))
    (K (.tuple #[.slice none 0 0, .bool false]) w7)
theorem fathomref01_Sat.eq (f_0 : Int) (f_1_p : Option Addr) (f_1_n : Nat) (f_1_c : Nat) (w : World) (K : Value → World → Prop) : wpF Try.prog Try.f47 (.two .leaf (.two (.two .leaf (.one (.loop [(4, 3)] .leaf))) .leaf)) [.agg #[.int .i64 f_0, .slice f_1_p f_1_n f_1_c]] w K = fathomref01_Sat.w f_0 f_1_p f_1_n f_1_c w K := by kernel_rfl
theorem fathomref01_Sat.ok : fnOk Try.prog Try.f47 1 = true := by kernel_rfl
theorem fathomref01_Sat.calls {f_0 : Int} {f_1_p : Option Addr} {f_1_n : Nat} {f_1_c : Nat} {w : World} {R : Ending → World → Prop} (h : fathomref01_Sat.w f_0 f_1_p f_1_n f_1_c w fun v w' => R (.returned v) w') : Calls Try.prog 47 #[.agg #[.int .i64 f_0, .slice f_1_p f_1_n f_1_c]] w R :=
  calls_of mixed Try.func47 fathomref01_Sat.ok rfl (fun K => fathomref01_Sat.eq f_0 f_1_p f_1_n f_1_c w K) h


end Go.Proofs.Ytdaiolinnpligaa.W
