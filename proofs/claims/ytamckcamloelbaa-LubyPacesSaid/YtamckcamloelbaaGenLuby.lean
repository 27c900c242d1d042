/- The functions that the statements reach, printed as what the frame asks of them, each checked by the kernel against the loaded text. -/
import Derived.Test.YtamckcamloelbaaProg
import Derived.Test.YtamckcamloelbaaFwSound
namespace Go.Proofs.Ytamckcamloelbaa.W
open Go Go.Fw Go.Proofs
set_option linter.unusedVariables false

theorem mixed : Try.prog.follows .mixedOrders = true := by kernel_rfl

abbrev fathomlaw10_LubyNumbers.id : FuncId := 3
abbrev fathomlaw10_LubyPowers.id : FuncId := 4
abbrev fathomlaw10_LubyTicks.id : FuncId := 5
abbrev fathomlaw10_LubyPaces.id : FuncId := 6
abbrev fathomlaw02_ArenaActs.id : FuncId := 7
abbrev fathomlaw02_ArenaGets.id : FuncId := 8
abbrev fathomlaw02_ArenaPacks.id : FuncId := 9
abbrev fathomlaw02_ArenaNobody.id : FuncId := 10
abbrev fathomlaw09_HeapOrders.id : FuncId := 11
abbrev fathomlaw09_HeapActs.id : FuncId := 12
abbrev fathomlaw09_HeapScales.id : FuncId := 13
abbrev fathomlaw09_HeapNew.id : FuncId := 14
abbrev luby_Number.id : FuncId := 15
abbrev fathomref10_Number.id : FuncId := 16
abbrev luby_Sum.id : FuncId := 17
abbrev fathomlaw10_awake.id : FuncId := 18
abbrev fathomref10_Sum.id : FuncId := 19
abbrev luby_Tick.id : FuncId := 20
abbrev fathomref10_May.id : FuncId := 21
abbrev luby_Check.id : FuncId := 22
abbrev luby_Until.id : FuncId := 23
abbrev fathomref10_Tick.id : FuncId := 24
abbrev luby_Start.id : FuncId := 25
abbrev fathomlaw02_light.id : FuncId := 26
abbrev fathomlaw02_awake.id : FuncId := 27
abbrev fathomlaw02_Play.id : FuncId := 28
abbrev fathomlaw02_like.id : FuncId := 29
abbrev arena_Arena_Get.id : FuncId := 30
abbrev fathomref02_Get.id : FuncId := 31
abbrev fathomref01_Ints.id : FuncId := 32
abbrev arena_Arena_Count.id : FuncId := 33
abbrev arena_Arena_Pack.id : FuncId := 34
abbrev arena_Arena_Waste.id : FuncId := 35
abbrev arena_Arena_Add.id : FuncId := 36
abbrev arena_Arena_Drop.id : FuncId := 37
abbrev arena_Arena_Swap.id : FuncId := 38
abbrev arena_Arena_Places.id : FuncId := 39
abbrev arena_Arena_Words.id : FuncId := 40
abbrev fathomlaw09_play.id : FuncId := 41
abbrev fathomref09_Len.id : FuncId := 42
abbrev heap_Heap_Pop.id : FuncId := 43
abbrev fathomref09_Set.id : FuncId := 44
abbrev heap_Heap_Len.id : FuncId := 45
abbrev fathomlaw09_awake.id : FuncId := 46
abbrev fathomlaw09_like.id : FuncId := 47
abbrev heap_Heap_Score.id : FuncId := 48
abbrev heap_Heap_Decay.id : FuncId := 49
abbrev fathomref09_Decay.id : FuncId := 50
abbrev heap_Heap_Step.id : FuncId := 51
abbrev heap_New.id : FuncId := 52
abbrev heap_Heap_Has.id : FuncId := 53
abbrev heap_Heap_Best.id : FuncId := 54
abbrev heap_Heap_Push.id : FuncId := 55
abbrev heap_Heap_Bump.id : FuncId := 56
abbrev luby_number.id : FuncId := 57
abbrev bits_Len.id : FuncId := 58
abbrev arena_New.id : FuncId := 59
abbrev fathomref02_Add.id : FuncId := 60
abbrev fathomref02_Drop.id : FuncId := 61
abbrev fathomref02_Swap.id : FuncId := 62
abbrev fathomref02_Pack.id : FuncId := 63
abbrev fathomref02_Places.id : FuncId := 64
abbrev fathomref02_Words.id : FuncId := 65
abbrev fathomref02_Waste.id : FuncId := 66
abbrev arena_Arena_has.id : FuncId := 67
abbrev arena_Arena_lits.id : FuncId := 68
abbrev fathomref02_at.id : FuncId := 69
abbrev lit_Check.id : FuncId := 70
abbrev fathomref09_New.id : FuncId := 71
abbrev fathomref09_Bump.id : FuncId := 72
abbrev fathomref09_Best.id : FuncId := 73
abbrev heap_Heap_put.id : FuncId := 74
abbrev heap_Heap_fall.id : FuncId := 75
abbrev heap_Heap_is.id : FuncId := 76
abbrev heap_Heap_scale.id : FuncId := 77
abbrev fathomref09_scaled.id : FuncId := 78
abbrev heap_Heap_up.id : FuncId := 79
abbrev bits_Len32.id : FuncId := 80
abbrev bits_Len64.id : FuncId := 81
abbrev fathomref01_May.id : FuncId := 82
abbrev slices_ContainsFunc_int_int.id : FuncId := 83
abbrev lit_Check_1.id : FuncId := 84
abbrev lit_is.id : FuncId := 85
abbrev heap_Heap_better.id : FuncId := 86
abbrev fathomref01_Lit.id : FuncId := 87
abbrev slices_IndexFunc_int_int.id : FuncId := 88
abbrev ty_int64 : TypeId := 2
theorem ty_int64.und : Try.prog.underlying 2 = some (.int .i64) := by kernel_rfl
theorem ty_int64.info : (Try.prog.info? 2).map (fun i => (i.zero, i.size, i.bytes)) = some (some (.int .i64 0), 1, 8) := by kernel_rfl
abbrev ty_int : TypeId := 3
theorem ty_int.und : Try.prog.underlying 3 = some (.int .i64) := by kernel_rfl
theorem ty_int.info : (Try.prog.info? 3).map (fun i => (i.zero, i.size, i.bytes)) = some (some (.int .i64 0), 1, 8) := by kernel_rfl
abbrev ty_bool : TypeId := 4
theorem ty_bool.und : Try.prog.underlying 4 = some .bool := by kernel_rfl
theorem ty_bool.info : (Try.prog.info? 4).map (fun i => (i.zero, i.size, i.bytes)) = some (some (.bool false), 1, 1) := by kernel_rfl
abbrev ty_uint8 : TypeId := 5
theorem ty_uint8.und : Try.prog.underlying 5 = some (.int .u8) := by kernel_rfl
theorem ty_uint8.info : (Try.prog.info? 5).map (fun i => (i.zero, i.size, i.bytes)) = some (some (.int .u8 0), 1, 1) := by kernel_rfl
abbrev ty_abi_BoundsErrorCode : TypeId := 6
theorem ty_abi_BoundsErrorCode.und : Try.prog.underlying 6 = some (.int .u8) := by kernel_rfl
theorem ty_abi_BoundsErrorCode.info : (Try.prog.info? 6).map (fun i => (i.zero, i.size, i.bytes)) = some (some (.int .u8 0), 1, 1) := by kernel_rfl
abbrev ty_runtime_boundsError : TypeId := 8
theorem ty_runtime_boundsError.info : (Try.prog.info? 8).map (fun i => (i.zero, i.size, i.bytes)) = some (some (.agg #[.int .i64 0, .int .i64 0, .bool false, .int .u8 0]), 4, 24) := by kernel_rfl
abbrev ty_uintptr : TypeId := 12
theorem ty_uintptr.und : Try.prog.underlying 12 = some (.int .u64) := by kernel_rfl
theorem ty_uintptr.info : (Try.prog.info? 12).map (fun i => (i.zero, i.size, i.bytes)) = some (some (.int .u64 0), 1, 8) := by kernel_rfl
abbrev ty_runtime_errorAddressString : TypeId := 14
theorem ty_runtime_errorAddressString.info : (Try.prog.info? 14).map (fun i => (i.zero, i.size, i.bytes)) = some (some (.agg #[.string (ByteArray.mk #[]), .int .u64 0]), 2, 24) := by kernel_rfl
abbrev ty_p_runtime_TypeAssertionError : TypeId := 15
theorem ty_p_runtime_TypeAssertionError.info : (Try.prog.info? 15).map (fun i => (i.zero, i.size, i.bytes)) = some (some (.pointer none), 1, 8) := by kernel_rfl
abbrev ty_p_runtime_PanicNilError : TypeId := 16
theorem ty_p_runtime_PanicNilError.info : (Try.prog.info? 16).map (fun i => (i.zero, i.size, i.bytes)) = some (some (.pointer none), 1, 8) := by kernel_rfl
abbrev ty_p_abi_Type : TypeId := 17
theorem ty_p_abi_Type.info : (Try.prog.info? 17).map (fun i => (i.zero, i.size, i.bytes)) = some (some (.pointer none), 1, 8) := by kernel_rfl
abbrev ty_maps_unhashableTypeError : TypeId := 19
theorem ty_maps_unhashableTypeError.info : (Try.prog.info? 19).map (fun i => (i.zero, i.size, i.bytes)) = some (some (.agg #[.pointer none]), 1, 8) := by kernel_rfl
abbrev ty_int32 : TypeId := 21
theorem ty_int32.und : Try.prog.underlying 21 = some (.int .i32) := by kernel_rfl
theorem ty_int32.info : (Try.prog.info? 21).map (fun i => (i.zero, i.size, i.bytes)) = some (some (.int .i32 0), 1, 4) := by kernel_rfl
abbrev ty_api_Errno : TypeId := 22
theorem ty_api_Errno.und : Try.prog.underlying 22 = some (.int .i64) := by kernel_rfl
theorem ty_api_Errno.info : (Try.prog.info? 22).map (fun i => (i.zero, i.size, i.bytes)) = some (some (.int .i64 0), 1, 8) := by kernel_rfl
abbrev ty_api_Pace : TypeId := 30
theorem ty_api_Pace.info : (Try.prog.info? 30).map (fun i => (i.zero, i.size, i.bytes)) = some (some (.agg #[.int .i64 0, .int .i64 0, .int .i64 0]), 3, 24) := by kernel_rfl
abbrev ty_sl_fathomlaw02_Act : TypeId := 40
theorem ty_sl_fathomlaw02_Act.und : Try.prog.underlying 40 = some (.slice 61) := by kernel_rfl
theorem ty_sl_fathomlaw02_Act.info : (Try.prog.info? 40).map (fun i => (i.zero, i.size, i.bytes)) = some (some (.slice none 0 0), 1, 24) := by kernel_rfl
abbrev ty_p_arena_Arena : TypeId := 42
theorem ty_p_arena_Arena.info : (Try.prog.info? 42).map (fun i => (i.zero, i.size, i.bytes)) = some (some (.pointer none), 1, 8) := by kernel_rfl
abbrev ty_sl_fathomref02_Item : TypeId := 43
theorem ty_sl_fathomref02_Item.und : Try.prog.underlying 43 = some (.slice 105) := by kernel_rfl
theorem ty_sl_fathomref02_Item.info : (Try.prog.info? 43).map (fun i => (i.zero, i.size, i.bytes)) = some (some (.slice none 0 0), 1, 24) := by kernel_rfl
abbrev ty_fathomref02_Arena : TypeId := 45
theorem ty_fathomref02_Arena.info : (Try.prog.info? 45).map (fun i => (i.zero, i.size, i.bytes)) = some (some (.agg #[.slice none 0 0]), 1, 24) := by kernel_rfl
abbrev ty_sl_int : TypeId := 49
theorem ty_sl_int.und : Try.prog.underlying 49 = some (.slice 3) := by kernel_rfl
theorem ty_sl_int.info : (Try.prog.info? 49).map (fun i => (i.zero, i.size, i.bytes)) = some (some (.slice none 0 0), 1, 24) := by kernel_rfl
abbrev ty_sl_api_Move : TypeId := 56
theorem ty_sl_api_Move.und : Try.prog.underlying 56 = some (.slice 59) := by kernel_rfl
theorem ty_sl_api_Move.info : (Try.prog.info? 56).map (fun i => (i.zero, i.size, i.bytes)) = some (some (.slice none 0 0), 1, 24) := by kernel_rfl
abbrev ty_api_Move : TypeId := 59
theorem ty_api_Move.info : (Try.prog.info? 59).map (fun i => (i.zero, i.size, i.bytes)) = some (some (.agg #[.int .i64 0, .int .i64 0]), 2, 16) := by kernel_rfl
abbrev ty_fathomlaw02_Act : TypeId := 61
theorem ty_fathomlaw02_Act.info : (Try.prog.info? 61).map (fun i => (i.zero, i.size, i.bytes)) = some (some (.agg #[.int .i64 0, .slice none 0 0, .int .i64 0, .int .i64 0, .int .i64 0]), 5, 56) := by kernel_rfl
abbrev ty_map_int_bool : TypeId := 62
theorem ty_map_int_bool.und : Try.prog.underlying 62 = some (.map 3 4) := by kernel_rfl
theorem ty_map_int_bool.info : (Try.prog.info? 62).map (fun i => (i.zero, i.size, i.bytes)) = some (some (.map none), 1, 8) := by kernel_rfl
abbrev ty_arena_Arena : TypeId := 64
theorem ty_arena_Arena.info : (Try.prog.info? 64).map (fun i => (i.zero, i.size, i.bytes)) = some (some (.agg #[.bool false, .slice none 0 0, .map none, .int .i64 0, .int .i64 0]), 5, 56) := by kernel_rfl
abbrev ty_sl_fathomlaw09_Act : TypeId := 70
theorem ty_sl_fathomlaw09_Act.und : Try.prog.underlying 70 = some (.slice 109) := by kernel_rfl
theorem ty_sl_fathomlaw09_Act.info : (Try.prog.info? 70).map (fun i => (i.zero, i.size, i.bytes)) = some (some (.slice none 0 0), 1, 24) := by kernel_rfl
abbrev ty_p_heap_Heap : TypeId := 71
theorem ty_p_heap_Heap.info : (Try.prog.info? 71).map (fun i => (i.zero, i.size, i.bytes)) = some (some (.pointer none), 1, 8) := by kernel_rfl
abbrev ty_sl_bool : TypeId := 72
theorem ty_sl_bool.und : Try.prog.underlying 72 = some (.slice 4) := by kernel_rfl
theorem ty_sl_bool.info : (Try.prog.info? 72).map (fun i => (i.zero, i.size, i.bytes)) = some (some (.slice none 0 0), 1, 24) := by kernel_rfl
abbrev ty_fathomref09_Heap : TypeId := 74
theorem ty_fathomref09_Heap.info : (Try.prog.info? 74).map (fun i => (i.zero, i.size, i.bytes)) = some (some (.agg #[.slice none 0 0, .slice none 0 0, .int .i64 0]), 3, 56) := by kernel_rfl
abbrev ty_heap_Heap : TypeId := 89
theorem ty_heap_Heap.info : (Try.prog.info? 89).map (fun i => (i.zero, i.size, i.bytes)) = some (some (.agg #[.slice none 0 0, .slice none 0 0, .slice none 0 0, .int .i64 0]), 4, 80) := by kernel_rfl
abbrev ty_uint : TypeId := 91
theorem ty_uint.und : Try.prog.underlying 91 = some (.int .u64) := by kernel_rfl
theorem ty_uint.info : (Try.prog.info? 91).map (fun i => (i.zero, i.size, i.bytes)) = some (some (.int .u64 0), 1, 8) := by kernel_rfl
abbrev ty_fathomref02_Item : TypeId := 105
theorem ty_fathomref02_Item.info : (Try.prog.info? 105).map (fun i => (i.zero, i.size, i.bytes)) = some (some (.agg #[.slice none 0 0, .bool false]), 2, 32) := by kernel_rfl
abbrev ty_fathomlaw09_Act : TypeId := 109
theorem ty_fathomlaw09_Act.info : (Try.prog.info? 109).map (fun i => (i.zero, i.size, i.bytes)) = some (some (.agg #[.int .i64 0, .int .i64 0, .int .i64 0]), 3, 24) := by kernel_rfl
abbrev ty_uint32 : TypeId := 114
theorem ty_uint32.und : Try.prog.underlying 114 = some (.int .u32) := by kernel_rfl
theorem ty_uint32.info : (Try.prog.info? 114).map (fun i => (i.zero, i.size, i.bytes)) = some (some (.int .u32 0), 1, 4) := by kernel_rfl
abbrev ty_uint64 : TypeId := 116
theorem ty_uint64.und : Try.prog.underlying 116 = some (.int .u64) := by kernel_rfl
theorem ty_uint64.info : (Try.prog.info? 116).map (fun i => (i.zero, i.size, i.bytes)) = some (some (.int .u64 0), 1, 8) := by kernel_rfl
abbrev ty_runtime_TypeAssertionError : TypeId := 122
theorem ty_runtime_TypeAssertionError.info : (Try.prog.info? 122).map (fun i => (i.zero, i.size, i.bytes)) = some (some (.agg #[.pointer none, .pointer none, .pointer none, .string (ByteArray.mk #[])]), 4, 40) := by kernel_rfl
abbrev ty_runtime_PanicNilError : TypeId := 125
theorem ty_runtime_PanicNilError.info : (Try.prog.info? 125).map (fun i => (i.zero, i.size, i.bytes)) = some (some (.agg #[]), 0, 0) := by kernel_rfl
abbrev ty_abi_TFlag : TypeId := 126
theorem ty_abi_TFlag.und : Try.prog.underlying 126 = some (.int .u8) := by kernel_rfl
theorem ty_abi_TFlag.info : (Try.prog.info? 126).map (fun i => (i.zero, i.size, i.bytes)) = some (some (.int .u8 0), 1, 1) := by kernel_rfl
abbrev ty_abi_Kind : TypeId := 127
theorem ty_abi_Kind.und : Try.prog.underlying 127 = some (.int .u8) := by kernel_rfl
theorem ty_abi_Kind.info : (Try.prog.info? 127).map (fun i => (i.zero, i.size, i.bytes)) = some (some (.int .u8 0), 1, 1) := by kernel_rfl
abbrev ty_p_uint8 : TypeId := 129
theorem ty_p_uint8.info : (Try.prog.info? 129).map (fun i => (i.zero, i.size, i.bytes)) = some (some (.pointer none), 1, 8) := by kernel_rfl
abbrev ty_abi_NameOff : TypeId := 130
theorem ty_abi_NameOff.und : Try.prog.underlying 130 = some (.int .i32) := by kernel_rfl
theorem ty_abi_NameOff.info : (Try.prog.info? 130).map (fun i => (i.zero, i.size, i.bytes)) = some (some (.int .i32 0), 1, 4) := by kernel_rfl
abbrev ty_abi_TypeOff : TypeId := 131
theorem ty_abi_TypeOff.und : Try.prog.underlying 131 = some (.int .i32) := by kernel_rfl
theorem ty_abi_TypeOff.info : (Try.prog.info? 131).map (fun i => (i.zero, i.size, i.bytes)) = some (some (.int .i32 0), 1, 4) := by kernel_rfl
abbrev ty_abi_Type : TypeId := 133
theorem ty_abi_Type.info : (Try.prog.info? 133).map (fun i => (i.zero, i.size, i.bytes)) = some (some (.agg #[.int .u64 0, .int .u64 0, .int .u32 0, .int .u8 0, .int .u8 0, .int .u8 0, .int .u8 0, .nilFunc, .pointer none, .int .i32 0, .int .i32 0]), 11, 48) := by kernel_rfl
def strtab0 : ByteArray := (ByteArray.mk #[0, 1, 2, 2, 3, 3, 3, 3, 4, 4, 4, 4, 4, 4, 4, 4, 5, 5, 5, 5, 5, 5, 5, 5, 5, 5, 5, 5, 5, 5, 5, 5, 6, 6, 6, 6, 6, 6, 6, 6, 6, 6, 6, 6, 6, 6, 6, 6, 6, 6, 6, 6, 6, 6, 6, 6, 6, 6, 6, 6, 6, 6, 6, 6, 7, 7, 7, 7, 7, 7, 7, 7, 7, 7, 7, 7, 7, 7, 7, 7, 7, 7, 7, 7, 7, 7, 7, 7, 7, 7, 7, 7, 7, 7, 7, 7, 7, 7, 7, 7, 7, 7, 7, 7, 7, 7, 7, 7, 7, 7, 7, 7, 7, 7, 7, 7, 7, 7, 7, 7, 7, 7, 7, 7, 7, 7, 7, 7, 8, 8, 8, 8, 8, 8, 8, 8, 8, 8, 8, 8, 8, 8, 8, 8, 8, 8, 8, 8, 8, 8, 8, 8, 8, 8, 8, 8, 8, 8, 8, 8, 8, 8, 8, 8, 8, 8, 8, 8, 8, 8, 8, 8, 8, 8, 8, 8, 8, 8, 8, 8, 8, 8, 8, 8, 8, 8, 8, 8, 8, 8, 8, 8, 8, 8, 8, 8, 8, 8, 8, 8, 8, 8, 8, 8, 8, 8, 8, 8, 8, 8, 8, 8, 8, 8, 8, 8, 8, 8, 8, 8, 8, 8, 8, 8, 8, 8, 8, 8, 8, 8, 8, 8, 8, 8, 8, 8, 8, 8, 8, 8, 8, 8, 8, 8, 8, 8, 8, 8, 8, 8, 8, 8, 8, 8, 8, 8])

/-! ### fathom/fathomlaw10.LubyNumbers: function 3 (named slots 9) cuts [(3, 48)] -/
def fathomlaw10_LubyNumbers.w (i_ : Int) (n_ : Int) (w : World) (K : Value → World → Prop) : Prop :=
  Calls Try.prog 15 #[.int .i64 i_] w fun e w1 => ∃ r2 : Int, ∃ r3 : Int, e = .returned (.tuple #[.int .i64 r2, .int .i64 r3]) ∧ 
  ∃ J4 : World → Prop, (cnd (decide (i_ < (1 : Int)))
  (cnd (r3 != (1 : Int))
  (K (.bool false) w1)
  (cnd (r2 != (0 : Int))
  (K (.bool false) w1)
  (J4 w1)))
  (cnd (decide (i_ > (1073741824 : Int)))
  (cnd (r3 != (1 : Int))
    (K (.bool false) w1)
    (cnd (r2 != (0 : Int))
    (K (.bool false) w1)
    (J4 w1)))
  (cnd (r3 != (0 : Int))
    (K (.bool false) w1)
    (Calls Try.prog 16 #[.int .i64 i_] w1 fun e w5 => ∃ r6 : Int, e = .returned (.int .i64 r6) ∧ 
    cnd (r2 != r6)
    (K (.bool false) w5)
    (J4 w5))))) ∧
  ∀ (w7 : World) (_ : Fr), J4 w7 → 
  Calls Try.prog 17 #[.int .i64 n_] w7 fun e w8 => ∃ r9 : Int, ∃ r10 : Int, e = .returned (.tuple #[.int .i64 r9, .int .i64 r10]) ∧ 
  cnd (decide (n_ < (0 : Int)))
  (cnd (r10 == (1 : Int))
  (cnd (r9 == (0 : Int))
  (Calls Try.prog 18 #[] w8 fun e w11 => ∃ r12 : Bool, e = .returned (.bool r12) ∧ 
  K (.bool r12) w11)
  (K (.bool false) w8))
  (K (.bool false) w8))
  (cnd (decide (n_ > (1073741824 : Int)))
  (cnd (r10 == (1 : Int))
    (cnd (r9 == (0 : Int))
    (Calls Try.prog 18 #[] w8 fun e w13 => ∃ r14 : Bool, e = .returned (.bool r14) ∧ 
    K (.bool r14) w13)
    (K (.bool false) w8))
    (K (.bool false) w8))
  (cnd (decide (n_ > (3000 : Int)))
    (cnd (r10 == (0 : Int))
      (cnd (decide (r9 ≥ n_))
      (Calls Try.prog 18 #[] w8 fun e w15 => ∃ r16 : Bool, e = .returned (.bool r16) ∧ 
      K (.bool r16) w15)
      (K (.bool false) w8))
      (K (.bool false) w8))
    (cnd (r10 == (0 : Int))
      (Calls Try.prog 19 #[.int .i64 n_] w8 fun e w17 => ∃ r18 : Int, e = .returned (.int .i64 r18) ∧ 
      cnd (r9 == r18)
      (Calls Try.prog 18 #[] w17 fun e w19 => ∃ r20 : Bool, e = .returned (.bool r20) ∧ 
      K (.bool r20) w19)
      (K (.bool false) w17))
      (K (.bool false) w8))))
theorem fathomlaw10_LubyNumbers.eq (i_ : Int) (n_ : Int) (w : World) (K : Value → World → Prop) : wpF Try.prog Try.f3 (.two .leaf (.two .leaf (.cut [] .leaf .leaf))) [.int .i64 i_, .int .i64 n_] w K = fathomlaw10_LubyNumbers.w i_ n_ w K := by kernel_rfl
theorem fathomlaw10_LubyNumbers.ok : fnOk Try.prog Try.f3 2 = true := by kernel_rfl
theorem fathomlaw10_LubyNumbers.calls {i_ : Int} {n_ : Int} {w : World} {R : Ending → World → Prop} (h : fathomlaw10_LubyNumbers.w i_ n_ w fun v w' => R (.returned v) w') : Calls Try.prog 3 #[.int .i64 i_, .int .i64 n_] w R :=
  calls_of mixed Try.func3 fathomlaw10_LubyNumbers.ok rfl (fun K => fathomlaw10_LubyNumbers.eq i_ n_ w K) h

/-! ### fathom/fathomlaw10.LubyPowers: function 4 (named slots 15) -/
def fathomlaw10_LubyPowers.w (k_ : Int) (i_ : Int) (w : World) (K : Value → World → Prop) : Prop :=
  (29 : Int) ≠ 0 ∧ 0 ≤ (IntKind.i64.wrap ((1 : Int) + (IntKind.i64.wrap (k_.tmod (29 : Int))))) ∧ Calls Try.prog 15 #[.int .i64 (IntKind.i64.wrap ((IntKind.i64.wrap ((1 : Int) * 2 ^ (min (IntKind.i64.wrap ((1 : Int) + (IntKind.i64.wrap (k_.tmod (29 : Int))))).toNat (IntKind.bits .i64)))) - (1 : Int)))] w fun e w1 => ∃ r2 : Int, ∃ r3 : Int, e = .returned (.tuple #[.int .i64 r2, .int .i64 r3]) ∧ 
  Calls Try.prog 17 #[.int .i64 (IntKind.i64.wrap ((IntKind.i64.wrap ((1 : Int) * 2 ^ (min (IntKind.i64.wrap ((1 : Int) + (IntKind.i64.wrap (k_.tmod (29 : Int))))).toNat (IntKind.bits .i64)))) - (1 : Int)))] w1 fun e w4 => ∃ r5 : Int, ∃ r6 : Int, e = .returned (.tuple #[.int .i64 r5, .int .i64 r6]) ∧ 
  0 ≤ (IntKind.i64.wrap ((IntKind.i64.wrap ((1 : Int) + (IntKind.i64.wrap (k_.tmod (29 : Int))))) - (1 : Int))) ∧ cnd (r2 != (IntKind.i64.wrap ((1 : Int) * 2 ^ (min (IntKind.i64.wrap ((IntKind.i64.wrap ((1 : Int) + (IntKind.i64.wrap (k_.tmod (29 : Int))))) - (1 : Int))).toNat (IntKind.bits .i64)))))
  (K (.bool false) w4)
  (cnd (r6 != (0 : Int))
  (K (.bool false) w4)
  (0 ≤ (IntKind.i64.wrap ((IntKind.i64.wrap ((1 : Int) + (IntKind.i64.wrap (k_.tmod (29 : Int))))) - (1 : Int))) ∧ cnd (r5 != (IntKind.i64.wrap ((IntKind.i64.wrap ((1 : Int) + (IntKind.i64.wrap (k_.tmod (29 : Int))))) * (IntKind.i64.wrap ((1 : Int) * 2 ^ (min (IntKind.i64.wrap ((IntKind.i64.wrap ((1 : Int) + (IntKind.i64.wrap (k_.tmod (29 : Int))))) - (1 : Int))).toNat (IntKind.bits .i64)))))))
  (K (.bool false) w4)
  (cnd (decide (i_ < (1 : Int)))
    (Calls Try.prog 18 #[] w4 fun e w7 => ∃ r8 : Bool, e = .returned (.bool r8) ∧ 
    K (.bool r8) w7)
    (cnd (decide (i_ > (IntKind.i64.wrap ((IntKind.i64.wrap ((1 : Int) * 2 ^ (min (IntKind.i64.wrap ((1 : Int) + (IntKind.i64.wrap (k_.tmod (29 : Int))))).toNat (IntKind.bits .i64)))) - (1 : Int)))))
    (Calls Try.prog 18 #[] w4 fun e w9 => ∃ r10 : Bool, e = .returned (.bool r10) ∧ 
      K (.bool r10) w9)
    (Calls Try.prog 15 #[.int .i64 i_] w4 fun e w11 => ∃ r12 : Int, ∃ r13 : Int, e = .returned (.tuple #[.int .i64 r12, .int .i64 r13]) ∧ 
      Calls Try.prog 15 #[.int .i64 (IntKind.i64.wrap ((IntKind.i64.wrap ((IntKind.i64.wrap ((1 : Int) * 2 ^ (min (IntKind.i64.wrap ((1 : Int) + (IntKind.i64.wrap (k_.tmod (29 : Int))))).toNat (IntKind.bits .i64)))) - (1 : Int))) + i_))] w11 fun e w14 => ∃ r15 : Int, ∃ r16 : Int, e = .returned (.tuple #[.int .i64 r15, .int .i64 r16]) ∧ 
      cnd (r16 != (0 : Int))
      (K (.bool false) w14)
      (cnd (r15 != r12)
      (K (.bool false) w14)
      (cnd (decide (r12 ≥ (1 : Int)))
        (cnd ((IntKind.i64.wrap ((BitVec.ofInt (IntKind.bits .i64) r12 &&& BitVec.ofInt (IntKind.bits .i64) (IntKind.i64.wrap (r12 - (1 : Int)))).toNat)) == (0 : Int))
        (Calls Try.prog 18 #[] w14 fun e w17 => ∃ r18 : Bool, e = .returned (.bool r18) ∧ 
        K (.bool r18) w17)
        (K (.bool false) w14))
        (K (.bool false) w14))))))))
theorem fathomlaw10_LubyPowers.eq (k_ : Int) (i_ : Int) (w : World) (K : Value → World → Prop) : wpF Try.prog Try.f4 .leaf [.int .u8 k_, .int .i64 i_] w K = fathomlaw10_LubyPowers.w k_ i_ w K := by kernel_rfl
theorem fathomlaw10_LubyPowers.ok : fnOk Try.prog Try.f4 2 = true := by kernel_rfl
theorem fathomlaw10_LubyPowers.calls {k_ : Int} {i_ : Int} {w : World} {R : Ending → World → Prop} (h : fathomlaw10_LubyPowers.w k_ i_ w fun v w' => R (.returned v) w') : Calls Try.prog 4 #[.int .u8 k_, .int .i64 i_] w R :=
  calls_of mixed Try.func4 fathomlaw10_LubyPowers.ok rfl (fun K => fathomlaw10_LubyPowers.eq k_ i_ w K) h

/-! ### fathom/fathomlaw10.LubyTicks: function 5 (named slots 13) -/
def fathomlaw10_LubyTicks.w (p_0 : Int) (p_1 : Int) (p_2 : Int) (n_ : Int) (w : World) (K : Value → World → Prop) : Prop :=
  ∀ (n1 : Nat) (w2 : World), New (.cells #[.int .i64 p_0, .int .i64 p_1, .int .i64 p_2] 30) w n1 w2 → 
  ∃ x3 : Int, ∃ x4 : Int, ∃ x5 : Int, CellsAt w2 (Addr.mk n1 0 none) 0 [.int .i64 x3, .int .i64 x4, .int .i64 x5] ∧ 
  Calls Try.prog 20 #[.agg #[.int .i64 x3, .int .i64 x4, .int .i64 x5]] w2 fun e w6 => ∃ r7 : Int, ∃ r8 : Int, ∃ r9 : Int, ∃ r10 : Bool, e = .returned (.tuple #[.agg #[.int .i64 r7, .int .i64 r8, .int .i64 r9], .bool r10]) ∧ 
  ∀ (n11 : Nat) (w12 : World), New (.cells #[.int .i64 0, .int .i64 0, .int .i64 0] 30) w6 n11 w12 → 
  ∃ w13 : World, StoreAt (Addr.mk n11 0 none) 0 [.int .i64 r7, .int .i64 r8, .int .i64 r9] w12 w13 ∧ 
  ∃ x14 : Int, ∃ x15 : Int, ∃ x16 : Int, CellsAt w13 (Addr.mk n1 0 none) 0 [.int .i64 x14, .int .i64 x15, .int .i64 x16] ∧ 
  Calls Try.prog 21 #[.agg #[.int .i64 x14, .int .i64 x15, .int .i64 x16]] w13 fun e w17 => ∃ r18 : Bool, e = .returned (.bool r18) ∧ 
  cnd (!r18)
  (∃ x19 : Int, ∃ x20 : Int, ∃ x21 : Int, CellsAt w17 (Addr.mk n1 0 none) 0 [.int .i64 x19, .int .i64 x20, .int .i64 x21] ∧ 
    Calls Try.prog 22 #[.agg #[.int .i64 x19, .int .i64 x20, .int .i64 x21]] w17 fun e w22 => ∃ r23 : Int, e = .returned (.int .i64 r23) ∧ 
    cnd (r23 == (1 : Int))
    (∃ x24 : Int, ∃ x25 : Int, ∃ x26 : Int, CellsAt w22 (Addr.mk n11 0 none) 0 [.int .i64 x24, .int .i64 x25, .int .i64 x26] ∧ 
    ∃ w27 : World, ∃ r28 : Bool, (do eqGuard .eql 30 (.tmp 25) (.tmp 26) (.agg #[.int .i64 x24, .int .i64 x25, .int .i64 x26]) (.agg #[.int .i64 0, .int .i64 0, .int .i64 0]); binOp .eql 30 (.agg #[.int .i64 x24, .int .i64 x25, .int .i64 x26]) (.agg #[.int .i64 0, .int .i64 0, .int .i64 0])).run Try.prog w22 = .ok (.bool r28) w27 ∧ 
    cnd r28
    (cnd (!r10)
    (∃ x29 : Int, ∃ x30 : Int, ∃ x31 : Int, CellsAt w27 (Addr.mk n1 0 none) 0 [.int .i64 x29, .int .i64 x30, .int .i64 x31] ∧ 
    Calls Try.prog 23 #[.agg #[.int .i64 x29, .int .i64 x30, .int .i64 x31]] w27 fun e w32 => ∃ r33 : Int, e = .returned (.int .i64 r33) ∧ 
    cnd (r33 == (0 : Int))
    (Calls Try.prog 18 #[] w32 fun e w34 => ∃ r35 : Bool, e = .returned (.bool r35) ∧ 
    K (.bool r35) w34)
    (K (.bool false) w32))
    (K (.bool false) w27))
    (K (.bool false) w27))
    (K (.bool false) w22))
  (∃ x36 : Int, ∃ x37 : Int, ∃ x38 : Int, CellsAt w17.drew (Addr.mk n1 0 none) 0 [.int .i64 x36, .int .i64 x37, .int .i64 x38] ∧ 
    Calls Try.prog 22 #[.agg #[.int .i64 x36, .int .i64 x37, .int .i64 x38]] w17.drew fun e w39 => ∃ r40 : Int, e = .returned (.int .i64 r40) ∧ 
    cnd (r40 != (0 : Int))
    ((K (.bool false) w39) ∧
  (K (.bool false) w39))
    (∃ x41 : Int, ∃ x42 : Int, ∃ x43 : Int, CellsAt w39 (Addr.mk n1 0 none) 0 [.int .i64 x41, .int .i64 x42, .int .i64 x43] ∧ 
    (Calls Try.prog 23 #[.agg #[.int .i64 x41, .int .i64 x42, .int .i64 x43]] w39 fun e w44 => ∃ r45 : Int, e = .returned (.int .i64 r45) ∧ 
    ∃ x46 : Int, w44.cell? ((Addr.mk n1 0 none).add 2) = some (.int .i64 x46) ∧ 
    cnd (r45 != x46)
    (K (.bool false) w44)
    (∃ x47 : Int, ∃ x48 : Int, ∃ x49 : Int, CellsAt w44 (Addr.mk n1 0 none) 0 [.int .i64 x47, .int .i64 x48, .int .i64 x49] ∧ 
      ∀ (n50 : Nat) (w51 : World), New (.cells #[.int .i64 0, .int .i64 0, .int .i64 0] 30) w44 n50 w51 → 
      ∃ w52 : World, StoreAt (Addr.mk n50 0 none) 0 [.int .i64 x47, .int .i64 x48, .int .i64 x49] w51 w52 ∧ 
      ∃ I53 : Int → World → Nat → Prop, (∃ k54, I53 0 w52 k54) ∧
      ∀ (i_56 : Int) (w57 : World) (k54 : Nat) (_ : Fr), I53 i_56 w57 k54 →
      cnd (decide (i_56 < (IntKind.i64.wrap n_)))
        (∃ x58 : Int, ∃ x59 : Int, ∃ x60 : Int, CellsAt w57 (Addr.mk n1 0 none) 0 [.int .i64 x58, .int .i64 x59, .int .i64 x60] ∧ 
          Calls Try.prog 20 #[.agg #[.int .i64 x58, .int .i64 x59, .int .i64 x60]] w57 fun e w61 => ∃ r62 : Int, ∃ r63 : Int, ∃ r64 : Int, ∃ r65 : Bool, e = .returned (.tuple #[.agg #[.int .i64 r62, .int .i64 r63, .int .i64 r64], .bool r65]) ∧ 
          ∀ (n66 : Nat) (w67 : World), New (.cells #[.int .i64 0, .int .i64 0, .int .i64 0] 30) w61 n66 w67 → 
          ∃ w68 : World, StoreAt (Addr.mk n66 0 none) 0 [.int .i64 r62, .int .i64 r63, .int .i64 r64] w67 w68 ∧ 
          ∃ x69 : Int, ∃ x70 : Int, ∃ x71 : Int, CellsAt w68 (Addr.mk n50 0 none) 0 [.int .i64 x69, .int .i64 x70, .int .i64 x71] ∧ 
          Calls Try.prog 24 #[.agg #[.int .i64 x69, .int .i64 x70, .int .i64 x71]] w68 fun e w72 => ∃ r73 : Int, ∃ r74 : Int, ∃ r75 : Int, ∃ r76 : Bool, e = .returned (.tuple #[.agg #[.int .i64 r73, .int .i64 r74, .int .i64 r75], .bool r76]) ∧ 
          ∀ (n77 : Nat) (w78 : World), New (.cells #[.int .i64 0, .int .i64 0, .int .i64 0] 30) w72 n77 w78 → 
          ∃ w79 : World, StoreAt (Addr.mk n77 0 none) 0 [.int .i64 r73, .int .i64 r74, .int .i64 r75] w78 w79 ∧ 
          ∃ x80 : Int, ∃ x81 : Int, ∃ x82 : Int, CellsAt w79 (Addr.mk n66 0 none) 0 [.int .i64 x80, .int .i64 x81, .int .i64 x82] ∧ 
          ∃ x83 : Int, ∃ x84 : Int, ∃ x85 : Int, CellsAt w79 (Addr.mk n77 0 none) 0 [.int .i64 x83, .int .i64 x84, .int .i64 x85] ∧ 
          ∃ w86 : World, ∃ r87 : Bool, (do eqGuard .neq 30 (.tmp 68) (.tmp 69) (.agg #[.int .i64 x80, .int .i64 x81, .int .i64 x82]) (.agg #[.int .i64 x83, .int .i64 x84, .int .i64 x85]); binOp .neq 30 (.agg #[.int .i64 x80, .int .i64 x81, .int .i64 x82]) (.agg #[.int .i64 x83, .int .i64 x84, .int .i64 x85])).run Try.prog w79 = .ok (.bool r87) w86 ∧ 
          cnd r87
          (K (.bool false) w86)
          (cnd (!(r65 == r76))
          (K (.bool false) w86)
          (∃ x88 : Int, ∃ x89 : Int, ∃ x90 : Int, CellsAt w86.drew (Addr.mk n66 0 none) 0 [.int .i64 x88, .int .i64 x89, .int .i64 x90] ∧ 
            (∃ x91 : Int, ∃ x92 : Int, ∃ x93 : Int, CellsAt w86.drew (Addr.mk n77 0 none) 0 [.int .i64 x91, .int .i64 x92, .int .i64 x93] ∧ 
            ∃ w94 : World, StoreAt (Addr.mk n1 0 none) 0 [.int .i64 x88, .int .i64 x89, .int .i64 x90] w86.drew w94 ∧ 
            ∃ w95 : World, StoreAt (Addr.mk n50 0 none) 0 [.int .i64 x91, .int .i64 x92, .int .i64 x93] w94 w95 ∧ 
            ∃ k55, k55 < k54 ∧ I53 (IntKind.i64.wrap (i_56 + (1 : Int))) w95 k55) ∧
          (∃ w96 : World, StoreAt (Addr.mk n1 0 none) 0 [.int .i64 x88, .int .i64 x89, .int .i64 x90] w86.drew w96 ∧ 
            ∃ x97 : Int, ∃ x98 : Int, ∃ x99 : Int, CellsAt w96 (Addr.mk n77 0 none) 0 [.int .i64 x97, .int .i64 x98, .int .i64 x99] ∧ 
            ∃ w100 : World, StoreAt (Addr.mk n50 0 none) 0 [.int .i64 x97, .int .i64 x98, .int .i64 x99] w96 w100 ∧ 
            ∃ k55, k55 < k54 ∧ I53 (IntKind.i64.wrap (i_56 + (1 : Int))) w100 k55))))
        (Calls Try.prog 18 #[] w57 fun e w101 => ∃ r102 : Bool, e = .returned (.bool r102) ∧ 
          K (.bool r102) w101))) ∧
  (∃ x103 : Int, w39.cell? ((Addr.mk n1 0 none).add 2) = some (.int .i64 x103) ∧ 
    Calls Try.prog 23 #[.agg #[.int .i64 x41, .int .i64 x42, .int .i64 x43]] w39 fun e w104 => ∃ r105 : Int, e = .returned (.int .i64 r105) ∧ 
    cnd (r105 != x103)
    (K (.bool false) w104)
    (∃ x106 : Int, ∃ x107 : Int, ∃ x108 : Int, CellsAt w104 (Addr.mk n1 0 none) 0 [.int .i64 x106, .int .i64 x107, .int .i64 x108] ∧ 
      ∀ (n109 : Nat) (w110 : World), New (.cells #[.int .i64 0, .int .i64 0, .int .i64 0] 30) w104 n109 w110 → 
      ∃ w111 : World, StoreAt (Addr.mk n109 0 none) 0 [.int .i64 x106, .int .i64 x107, .int .i64 x108] w110 w111 ∧ 
      ∃ I112 : Int → World → Nat → Prop, (∃ k113, I112 0 w111 k113) ∧
      ∀ (i_115 : Int) (w116 : World) (k113 : Nat) (_ : Fr), I112 i_115 w116 k113 →
      cnd (decide (i_115 < (IntKind.i64.wrap n_)))
        (∃ x117 : Int, ∃ x118 : Int, ∃ x119 : Int, CellsAt w116 (Addr.mk n1 0 none) 0 [.int .i64 x117, .int .i64 x118, .int .i64 x119] ∧ 
          Calls Try.prog 20 #[.agg #[.int .i64 x117, .int .i64 x118, .int .i64 x119]] w116 fun e w120 => ∃ r121 : Int, ∃ r122 : Int, ∃ r123 : Int, ∃ r124 : Bool, e = .returned (.tuple #[.agg #[.int .i64 r121, .int .i64 r122, .int .i64 r123], .bool r124]) ∧ 
          ∀ (n125 : Nat) (w126 : World), New (.cells #[.int .i64 0, .int .i64 0, .int .i64 0] 30) w120 n125 w126 → 
          ∃ w127 : World, StoreAt (Addr.mk n125 0 none) 0 [.int .i64 r121, .int .i64 r122, .int .i64 r123] w126 w127 ∧ 
          ∃ x128 : Int, ∃ x129 : Int, ∃ x130 : Int, CellsAt w127 (Addr.mk n109 0 none) 0 [.int .i64 x128, .int .i64 x129, .int .i64 x130] ∧ 
          Calls Try.prog 24 #[.agg #[.int .i64 x128, .int .i64 x129, .int .i64 x130]] w127 fun e w131 => ∃ r132 : Int, ∃ r133 : Int, ∃ r134 : Int, ∃ r135 : Bool, e = .returned (.tuple #[.agg #[.int .i64 r132, .int .i64 r133, .int .i64 r134], .bool r135]) ∧ 
          ∀ (n136 : Nat) (w137 : World), New (.cells #[.int .i64 0, .int .i64 0, .int .i64 0] 30) w131 n136 w137 → 
          ∃ w138 : World, StoreAt (Addr.mk n136 0 none) 0 [.int .i64 r132, .int .i64 r133, .int .i64 r134] w137 w138 ∧ 
          ∃ x139 : Int, ∃ x140 : Int, ∃ x141 : Int, CellsAt w138 (Addr.mk n125 0 none) 0 [.int .i64 x139, .int .i64 x140, .int .i64 x141] ∧ 
          ∃ x142 : Int, ∃ x143 : Int, ∃ x144 : Int, CellsAt w138 (Addr.mk n136 0 none) 0 [.int .i64 x142, .int .i64 x143, .int .i64 x144] ∧ 
          ∃ w145 : World, ∃ r146 : Bool, (do eqGuard .neq 30 (.tmp 68) (.tmp 69) (.agg #[.int .i64 x139, .int .i64 x140, .int .i64 x141]) (.agg #[.int .i64 x142, .int .i64 x143, .int .i64 x144]); binOp .neq 30 (.agg #[.int .i64 x139, .int .i64 x140, .int .i64 x141]) (.agg #[.int .i64 x142, .int .i64 x143, .int .i64 x144])).run Try.prog w138 = .ok (.bool r146) w145 ∧ 
          cnd r146
          (K (.bool false) w145)
          (cnd (!(r124 == r135))
          (K (.bool false) w145)
          (∃ x147 : Int, ∃ x148 : Int, ∃ x149 : Int, CellsAt w145.drew (Addr.mk n125 0 none) 0 [.int .i64 x147, .int .i64 x148, .int .i64 x149] ∧ 
            (∃ x150 : Int, ∃ x151 : Int, ∃ x152 : Int, CellsAt w145.drew (Addr.mk n136 0 none) 0 [.int .i64 x150, .int .i64 x151, .int .i64 x152] ∧ 
            ∃ w153 : World, StoreAt (Addr.mk n1 0 none) 0 [.int .i64 x147, .int .i64 x148, .int .i64 x149] w145.drew w153 ∧ 
            ∃ w154 : World, StoreAt (Addr.mk n109 0 none) 0 [.int .i64 x150, .int .i64 x151, .int .i64 x152] w153 w154 ∧ 
            ∃ k114, k114 < k113 ∧ I112 (IntKind.i64.wrap (i_115 + (1 : Int))) w154 k114) ∧
          (∃ w155 : World, StoreAt (Addr.mk n1 0 none) 0 [.int .i64 x147, .int .i64 x148, .int .i64 x149] w145.drew w155 ∧ 
            ∃ x156 : Int, ∃ x157 : Int, ∃ x158 : Int, CellsAt w155 (Addr.mk n136 0 none) 0 [.int .i64 x156, .int .i64 x157, .int .i64 x158] ∧ 
            ∃ w159 : World, StoreAt (Addr.mk n109 0 none) 0 [.int .i64 x156, .int .i64 x157, .int .i64 x158] w155 w159 ∧ 
            ∃ k114, k114 < k113 ∧ I112 (IntKind.i64.wrap (i_115 + (1 : Int))) w159 k114))))
        (Calls Try.prog 18 #[] w116 fun e w160 => ∃ r161 : Bool, e = .returned (.bool r161) ∧ 
          K (.bool r161) w160)))))
theorem fathomlaw10_LubyTicks.eq (p_0 : Int) (p_1 : Int) (p_2 : Int) (n_ : Int) (w : World) (K : Value → World → Prop) : wpF Try.prog Try.f5 (.two .leaf (.two .leaf (.two .leaf (.two .leaf (.two .leaf (.two (.two .leaf (.one (.loop [(8, 3)] .leaf))) .leaf)))))) [.agg #[.int .i64 p_0, .int .i64 p_1, .int .i64 p_2], .int .u8 n_] w K = fathomlaw10_LubyTicks.w p_0 p_1 p_2 n_ w K := by kernel_rfl
theorem fathomlaw10_LubyTicks.ok : fnOk Try.prog Try.f5 2 = true := by kernel_rfl
theorem fathomlaw10_LubyTicks.calls {p_0 : Int} {p_1 : Int} {p_2 : Int} {n_ : Int} {w : World} {R : Ending → World → Prop} (h : fathomlaw10_LubyTicks.w p_0 p_1 p_2 n_ w fun v w' => R (.returned v) w') : Calls Try.prog 5 #[.agg #[.int .i64 p_0, .int .i64 p_1, .int .i64 p_2], .int .u8 n_] w R :=
  calls_of mixed Try.func5 fathomlaw10_LubyTicks.ok rfl (fun K => fathomlaw10_LubyTicks.eq p_0 p_1 p_2 n_ w K) h

/-! ### fathom/fathomlaw10.LubyPaces: function 6 (named slots 10) -/
def fathomlaw10_LubyPaces.w (unit_ : Int) (n_ : Int) (w : World) (K : Value → World → Prop) : Prop :=
  Calls Try.prog 25 #[.int .i64 unit_] w fun e w1 => ∃ r2 : Int, ∃ r3 : Int, ∃ r4 : Int, ∃ r5 : Int, e = .returned (.tuple #[.agg #[.int .i64 r2, .int .i64 r3, .int .i64 r4], .int .i64 r5]) ∧ 
  ∀ (n6 : Nat) (w7 : World), New (.cells #[.int .i64 0, .int .i64 0, .int .i64 0] 30) w1 n6 w7 → 
  ∃ w8 : World, StoreAt (Addr.mk n6 0 none) 0 [.int .i64 r2, .int .i64 r3, .int .i64 r4] w7 w8 ∧ 
  cnd (decide (unit_ < (1 : Int)))
  (cnd (r5 == (1 : Int))
  (∃ x9 : Int, ∃ x10 : Int, ∃ x11 : Int, CellsAt w8 (Addr.mk n6 0 none) 0 [.int .i64 x9, .int .i64 x10, .int .i64 x11] ∧ 
  ∃ w12 : World, ∃ r13 : Bool, (do eqGuard .eql 30 (.tmp 24) (.tmp 25) (.agg #[.int .i64 x9, .int .i64 x10, .int .i64 x11]) (.agg #[.int .i64 0, .int .i64 0, .int .i64 0]); binOp .eql 30 (.agg #[.int .i64 x9, .int .i64 x10, .int .i64 x11]) (.agg #[.int .i64 0, .int .i64 0, .int .i64 0])).run Try.prog w8 = .ok (.bool r13) w12 ∧ 
  cnd r13
  (Calls Try.prog 18 #[] w12 fun e w14 => ∃ r15 : Bool, e = .returned (.bool r15) ∧ 
  K (.bool r15) w14)
  (K (.bool false) w12))
  (K (.bool false) w8))
  (cnd (decide (unit_ > (1048576 : Int)))
  (cnd (r5 == (1 : Int))
    (∃ x16 : Int, ∃ x17 : Int, ∃ x18 : Int, CellsAt w8 (Addr.mk n6 0 none) 0 [.int .i64 x16, .int .i64 x17, .int .i64 x18] ∧ 
    ∃ w19 : World, ∃ r20 : Bool, (do eqGuard .eql 30 (.tmp 24) (.tmp 25) (.agg #[.int .i64 x16, .int .i64 x17, .int .i64 x18]) (.agg #[.int .i64 0, .int .i64 0, .int .i64 0]); binOp .eql 30 (.agg #[.int .i64 x16, .int .i64 x17, .int .i64 x18]) (.agg #[.int .i64 0, .int .i64 0, .int .i64 0])).run Try.prog w8 = .ok (.bool r20) w19 ∧ 
    cnd r20
    (Calls Try.prog 18 #[] w19 fun e w21 => ∃ r22 : Bool, e = .returned (.bool r22) ∧ 
    K (.bool r22) w21)
    (K (.bool false) w19))
    (K (.bool false) w8))
  (cnd (r5 != (0 : Int))
    (K (.bool false) w8)
    (∃ x23 : Int, w8.cell? ((Addr.mk n6 0 none).add 1) = some (.int .i64 x23) ∧ 
    cnd (x23 != (1 : Int))
    (K (.bool false) w8)
    (∃ x24 : Int, w8.cell? ((Addr.mk n6 0 none).add 2) = some (.int .i64 x24) ∧ 
    cnd (x24 != unit_)
    (K (.bool false) w8)
    (cnd (decide (unit_ > (20 : Int)))
      (Calls Try.prog 18 #[] w8 fun e w25 => ∃ r26 : Bool, e = .returned (.bool r26) ∧ 
        K (.bool r26) w25)
      (∃ I27 : Int → World → Nat → Prop, (∃ k28, I27 1 w8 k28) ∧
        ∀ (i_30 : Int) (w31 : World) (k28 : Nat) (_ : Fr), I27 i_30 w31 k28 →
        (40 : Int) ≠ 0 ∧ cnd (decide (i_30 ≤ (IntKind.i64.wrap (n_.tmod (40 : Int)))))
          (Calls Try.prog 16 #[.int .i64 i_30] w31 fun e w32 => ∃ r33 : Int, e = .returned (.int .i64 r33) ∧ 
            ∃ I34 : Bool → Int → World → Nat → Prop, (∃ k35, I34 false (IntKind.i64.wrap (unit_ * r33)) w32 k35) ∧
            ∀ (again_37 : Bool) (k_38 : Int) (w39 : World) (k35 : Nat) (_ : Fr), I34 again_37 k_38 w39 k35 →
            cnd (decide (k_38 > (0 : Int)))
              (cnd again_37
                (K (.bool false) w39)
                (∃ x40 : Int, ∃ x41 : Int, ∃ x42 : Int, CellsAt w39 (Addr.mk n6 0 none) 0 [.int .i64 x40, .int .i64 x41, .int .i64 x42] ∧ 
                  Calls Try.prog 20 #[.agg #[.int .i64 x40, .int .i64 x41, .int .i64 x42]] w39 fun e w43 => ∃ r44 : Int, ∃ r45 : Int, ∃ r46 : Int, ∃ r47 : Bool, e = .returned (.tuple #[.agg #[.int .i64 r44, .int .i64 r45, .int .i64 r46], .bool r47]) ∧ 
                  ∃ w48 : World, StoreAt (Addr.mk n6 0 none) 0 [.int .i64 r44, .int .i64 r45, .int .i64 r46] w43 w48 ∧ 
                  ∃ k36, k36 < k35 ∧ I34 r47 (IntKind.i64.wrap (k_38 - (1 : Int))) w48 k36))
              (cnd (!again_37)
                (K (.bool false) w39)
                (∃ x49 : Int, w39.cell? ((Addr.mk n6 0 none).add 1) = some (.int .i64 x49) ∧ 
                cnd (x49 != (IntKind.i64.wrap (i_30 + (1 : Int))))
                (K (.bool false) w39)
                (∃ k29, k29 < k28 ∧ I27 (IntKind.i64.wrap (i_30 + (1 : Int))) w39 k29))))
          (Calls Try.prog 18 #[] w31 fun e w50 => ∃ r51 : Bool, e = .returned (.bool r51) ∧ 
            K (.bool r51) w50)))))))
theorem fathomlaw10_LubyPaces.eq (unit_ : Int) (n_ : Int) (w : World) (K : Value → World → Prop) : wpF Try.prog Try.f6 (.two .leaf (.two .leaf (.two .leaf (.two .leaf (.two .leaf (.two (.two .leaf (.one (.loop [(7, 3)] (.two .leaf (.two (.one (.two .leaf (.two (.two .leaf (.one (.loop [(8, 4), (9, 3)] .leaf))) .leaf))) .leaf))))) .leaf)))))) [.int .i64 unit_, .int .u8 n_] w K = fathomlaw10_LubyPaces.w unit_ n_ w K := by kernel_rfl
theorem fathomlaw10_LubyPaces.ok : fnOk Try.prog Try.f6 2 = true := by kernel_rfl
theorem fathomlaw10_LubyPaces.calls {unit_ : Int} {n_ : Int} {w : World} {R : Ending → World → Prop} (h : fathomlaw10_LubyPaces.w unit_ n_ w fun v w' => R (.returned v) w') : Calls Try.prog 6 #[.int .i64 unit_, .int .u8 n_] w R :=
  calls_of mixed Try.func6 fathomlaw10_LubyPaces.ok rfl (fun K => fathomlaw10_LubyPaces.eq unit_ n_ w K) h

/-! ### fathom/luby.Number: function 15 (named slots 4) -/
def luby_Number.w (i_ : Int) (w : World) (K : Value → World → Prop) : Prop :=
  cnd (decide (i_ < (1 : Int)))
  (K (.tuple #[.int .i64 0, .int .i64 1]) w)
  (cnd (decide (i_ > (1073741824 : Int)))
  (K (.tuple #[.int .i64 0, .int .i64 1]) w)
  (Calls Try.prog 57 #[.int .i64 i_] w fun e w1 => ∃ r2 : Int, e = .returned (.int .i64 r2) ∧ 
    K (.tuple #[.int .i64 r2, .int .i64 0]) w1))
theorem luby_Number.eq (i_ : Int) (w : World) (K : Value → World → Prop) : wpF Try.prog Try.f15 .leaf [.int .i64 i_] w K = luby_Number.w i_ w K := by kernel_rfl
theorem luby_Number.ok : fnOk Try.prog Try.f15 1 = true := by kernel_rfl
theorem luby_Number.calls {i_ : Int} {w : World} {R : Ending → World → Prop} (h : luby_Number.w i_ w fun v w' => R (.returned v) w') : Calls Try.prog 15 #[.int .i64 i_] w R :=
  calls_of mixed Try.func15 luby_Number.ok rfl (fun K => luby_Number.eq i_ w K) h

/-! ### fathom/fathomref10.Number: function 16 (named slots 5) -/
def fathomref10_Number.w (i_ : Int) (w : World) (K : Value → World → Prop) : Prop :=
  ∃ I1 : Int → Int → World → Nat → Prop, (∃ k2, I1 1 1 w k2) ∧
  ∀ (full_4 : Int) (power_5 : Int) (w6 : World) (k2 : Nat) (_ : Fr), I1 full_4 power_5 w6 k2 →
  cnd (decide (full_4 < i_))
    (∃ k3, k3 < k2 ∧ I1 (IntKind.i64.wrap ((IntKind.i64.wrap ((2 : Int) * full_4)) + (1 : Int))) (IntKind.i64.wrap (power_5 * (2 : Int))) w6 k3)
    (cnd (i_ == full_4)
      (K (.int .i64 power_5) w6)
      ((2 : Int) ≠ 0 ∧ Calls Try.prog 16 #[.int .i64 (IntKind.i64.wrap (i_ - (IntKind.i64.wrap ((IntKind.i64.wrap (full_4 - (1 : Int))).tdiv (2 : Int)))))] w6 fun e w7 => ∃ r8 : Int, e = .returned (.int .i64 r8) ∧ 
        K (.int .i64 r8) w7))
theorem fathomref10_Number.eq (i_ : Int) (w : World) (K : Value → World → Prop) : wpF Try.prog Try.f16 (.two .leaf (.two .leaf (.two (.one (.loop [(3, 3), (4, 3)] .leaf)) .leaf))) [.int .i64 i_] w K = fathomref10_Number.w i_ w K := by kernel_rfl
theorem fathomref10_Number.ok : fnOk Try.prog Try.f16 1 = true := by kernel_rfl
theorem fathomref10_Number.calls {i_ : Int} {w : World} {R : Ending → World → Prop} (h : fathomref10_Number.w i_ w fun v w' => R (.returned v) w') : Calls Try.prog 16 #[.int .i64 i_] w R :=
  calls_of mixed Try.func16 fathomref10_Number.ok rfl (fun K => fathomref10_Number.eq i_ w K) h

/-! ### fathom/luby.Sum: function 17 (named slots 6) -/
def luby_Sum.w (n_ : Int) (w : World) (K : Value → World → Prop) : Prop :=
  cnd (decide (n_ < (0 : Int)))
  (K (.tuple #[.int .i64 0, .int .i64 1]) w)
  (cnd (decide (n_ > (1073741824 : Int)))
  (K (.tuple #[.int .i64 0, .int .i64 1]) w)
  (∃ I1 : Int → Int → World → Nat → Prop, (∃ k2, I1 n_ 0 w k2) ∧
    ∀ (n_4 : Int) (sum_5 : Int) (w6 : World) (k2 : Nat) (_ : Fr), I1 n_4 sum_5 w6 k2 →
    cnd (decide (n_4 > (0 : Int)))
      (Calls Try.prog 58 #[.int .u64 (IntKind.u64.wrap (IntKind.i64.wrap (n_4 + (1 : Int))))] w6 fun e w7 => ∃ r8 : Int, e = .returned (.int .i64 r8) ∧ 
        0 ≤ (IntKind.i64.wrap (r8 - (1 : Int))) ∧ (2 : Int) ≠ 0 ∧ 0 ≤ (IntKind.i64.wrap (r8 - (1 : Int))) ∧ ∃ k3, k3 < k2 ∧ I1 (IntKind.i64.wrap (n_4 - (IntKind.i64.wrap ((IntKind.i64.wrap ((1 : Int) * 2 ^ (min (IntKind.i64.wrap (r8 - (1 : Int))).toNat (IntKind.bits .i64)))) - (1 : Int))))) (IntKind.i64.wrap (sum_5 + (IntKind.i64.wrap ((IntKind.i64.wrap ((IntKind.i64.wrap (r8 - (1 : Int))) * (IntKind.i64.wrap ((1 : Int) * 2 ^ (min (IntKind.i64.wrap (r8 - (1 : Int))).toNat (IntKind.bits .i64)))))).tdiv (2 : Int))))) w7 k3)
      (K (.tuple #[.int .i64 sum_5, .int .i64 0]) w6)))
theorem luby_Sum.eq (n_ : Int) (w : World) (K : Value → World → Prop) : wpF Try.prog Try.f17 (.two .leaf (.two .leaf (.two .leaf (.two (.one (.loop [(0, 3), (4, 3)] .leaf)) .leaf)))) [.int .i64 n_] w K = luby_Sum.w n_ w K := by kernel_rfl
theorem luby_Sum.ok : fnOk Try.prog Try.f17 1 = true := by kernel_rfl
theorem luby_Sum.calls {n_ : Int} {w : World} {R : Ending → World → Prop} (h : luby_Sum.w n_ w fun v w' => R (.returned v) w') : Calls Try.prog 17 #[.int .i64 n_] w R :=
  calls_of mixed Try.func17 luby_Sum.ok rfl (fun K => luby_Sum.eq n_ w K) h

/-! ### fathom/fathomlaw10.awake: function 18 (named slots 5) -/
def fathomlaw10_awake.w (w : World) (K : Value → World → Prop) : Prop :=
  Calls Try.prog 15 #[.int .i64 7] w fun e w1 => ∃ r2 : Int, ∃ r3 : Int, e = .returned (.tuple #[.int .i64 r2, .int .i64 r3]) ∧ 
  Calls Try.prog 17 #[.int .i64 7] w1 fun e w4 => ∃ r5 : Int, ∃ r6 : Int, e = .returned (.tuple #[.int .i64 r5, .int .i64 r6]) ∧ 
  cnd (r3 == (0 : Int))
  (cnd (r6 == (0 : Int))
  (cnd (r2 == (4 : Int))
  (K (.bool (r5 == (12 : Int))) w4)
  (K (.bool false) w4))
  (K (.bool false) w4))
  (K (.bool false) w4)
theorem fathomlaw10_awake.eq (w : World) (K : Value → World → Prop) : wpF Try.prog Try.f18 .leaf [] w K = fathomlaw10_awake.w  w K := by kernel_rfl
theorem fathomlaw10_awake.ok : fnOk Try.prog Try.f18 0 = true := by kernel_rfl
theorem fathomlaw10_awake.calls {w : World} {R : Ending → World → Prop} (h : fathomlaw10_awake.w  w fun v w' => R (.returned v) w') : Calls Try.prog 18 #[] w R :=
  calls_of mixed Try.func18 fathomlaw10_awake.ok rfl (fun K => fathomlaw10_awake.eq  w K) h

/-! ### fathom/fathomref10.Sum: function 19 (named slots 5) -/
def fathomref10_Sum.w (n_ : Int) (w : World) (K : Value → World → Prop) : Prop :=
  ∃ I1 : Int → Int → World → Nat → Prop, (∃ k2, I1 0 1 w k2) ∧
  ∀ (s_4 : Int) (i_5 : Int) (w6 : World) (k2 : Nat) (_ : Fr), I1 s_4 i_5 w6 k2 →
  cnd (decide (i_5 ≤ n_))
    (Calls Try.prog 16 #[.int .i64 i_5] w6 fun e w7 => ∃ r8 : Int, e = .returned (.int .i64 r8) ∧ 
      ∃ k3, k3 < k2 ∧ I1 (IntKind.i64.wrap (s_4 + r8)) (IntKind.i64.wrap (i_5 + (1 : Int))) w7 k3)
    (K (.int .i64 s_4) w6)
theorem fathomref10_Sum.eq (n_ : Int) (w : World) (K : Value → World → Prop) : wpF Try.prog Try.f19 (.two .leaf (.two .leaf (.two (.two .leaf (.one (.loop [(3, 3), (4, 3)] .leaf))) .leaf))) [.int .i64 n_] w K = fathomref10_Sum.w n_ w K := by kernel_rfl
theorem fathomref10_Sum.ok : fnOk Try.prog Try.f19 1 = true := by kernel_rfl
theorem fathomref10_Sum.calls {n_ : Int} {w : World} {R : Ending → World → Prop} (h : fathomref10_Sum.w n_ w fun v w' => R (.returned v) w') : Calls Try.prog 19 #[.int .i64 n_] w R :=
  calls_of mixed Try.func19 fathomref10_Sum.ok rfl (fun K => fathomref10_Sum.eq n_ w K) h

/-! ### fathom/luby.Tick: function 20 (named slots 4) -/
def luby_Tick.w (p_0 : Int) (p_1 : Int) (p_2 : Int) (w : World) (K : Value → World → Prop) : Prop :=
  ∀ (n1 : Nat) (w2 : World), New (.cells #[.int .i64 p_0, .int .i64 p_1, .int .i64 p_2] 30) w n1 w2 → 
  ∀ (n3 : Nat) (w4 : World), New (.cells #[.int .i64 0, .int .i64 0, .int .i64 0] 30) w2 n3 w4 → 
  ∃ x5 : Int, ∃ x6 : Int, ∃ x7 : Int, CellsAt w4 (Addr.mk n1 0 none) 0 [.int .i64 x5, .int .i64 x6, .int .i64 x7] ∧ 
  Calls Try.prog 22 #[.agg #[.int .i64 x5, .int .i64 x6, .int .i64 x7]] w4 fun e w8 => ∃ r9 : Int, e = .returned (.int .i64 r9) ∧ 
  cnd (r9 != (0 : Int))
  (∃ w10 : World, StoreAt (Addr.mk n3 0 none) 0 [.int .i64 0, .int .i64 0, .int .i64 0] w8 w10 ∧ 
    ∃ x11 : Int, ∃ x12 : Int, ∃ x13 : Int, CellsAt w10 (Addr.mk n3 0 none) 0 [.int .i64 x11, .int .i64 x12, .int .i64 x13] ∧ 
    K (.tuple #[.agg #[.int .i64 x11, .int .i64 x12, .int .i64 x13], .bool false]) w10)
  (∃ x14 : Int, w8.cell? ((Addr.mk n1 0 none).add 2) = some (.int .i64 x14) ∧ 
    ∃ w15 : World, StoreAt ((Addr.mk n1 0 none).add 2) 0 [.int .i64 (IntKind.i64.wrap (x14 - (1 : Int)))] w8 w15 ∧ 
    ∃ x16 : Int, w15.cell? ((Addr.mk n1 0 none).add 2) = some (.int .i64 x16) ∧ 
    cnd (decide (x16 > (0 : Int)))
    (∃ x17 : Int, ∃ x18 : Int, ∃ x19 : Int, CellsAt w15 (Addr.mk n1 0 none) 0 [.int .i64 x17, .int .i64 x18, .int .i64 x19] ∧ 
      ∃ w20 : World, StoreAt (Addr.mk n3 0 none) 0 [.int .i64 x17, .int .i64 x18, .int .i64 x19] w15 w20 ∧ 
      ∃ x21 : Int, ∃ x22 : Int, ∃ x23 : Int, CellsAt w20 (Addr.mk n3 0 none) 0 [.int .i64 x21, .int .i64 x22, .int .i64 x23] ∧ 
      K (.tuple #[.agg #[.int .i64 x21, .int .i64 x22, .int .i64 x23], .bool false]) w20)
    (∃ x24 : Int, w15.cell? ((Addr.mk n1 0 none).add 1) = some (.int .i64 x24) ∧ 
      (1073741824 : Int) ≠ 0 ∧ ∃ w25 : World, StoreAt ((Addr.mk n1 0 none).add 1) 0 [.int .i64 (IntKind.i64.wrap ((x24.tmod (1073741824 : Int)) + (1 : Int)))] w15 w25 ∧ 
      ∃ x26 : Int, w25.drew.cell? ((Addr.mk n1 0 none).add 1) = some (.int .i64 x26) ∧ 
      (∃ x27 : Int, w25.drew.cell? ((Addr.mk n1 0 none).add 0) = some (.int .i64 x27) ∧ 
      Calls Try.prog 57 #[.int .i64 x26] w25.drew fun e w28 => ∃ r29 : Int, e = .returned (.int .i64 r29) ∧ 
      ∃ w30 : World, StoreAt ((Addr.mk n1 0 none).add 2) 0 [.int .i64 (IntKind.i64.wrap (x27 * r29))] w28 w30 ∧ 
      ∃ x31 : Int, ∃ x32 : Int, ∃ x33 : Int, CellsAt w30 (Addr.mk n1 0 none) 0 [.int .i64 x31, .int .i64 x32, .int .i64 x33] ∧ 
      ∃ w34 : World, StoreAt (Addr.mk n3 0 none) 0 [.int .i64 x31, .int .i64 x32, .int .i64 x33] w30 w34 ∧ 
      ∃ x35 : Int, ∃ x36 : Int, ∃ x37 : Int, CellsAt w34 (Addr.mk n3 0 none) 0 [.int .i64 x35, .int .i64 x36, .int .i64 x37] ∧ 
      K (.tuple #[.agg #[.int .i64 x35, .int .i64 x36, .int .i64 x37], .bool true]) w34) ∧
    (Calls Try.prog 57 #[.int .i64 x26] w25.drew fun e w38 => ∃ r39 : Int, e = .returned (.int .i64 r39) ∧ 
      ∃ x40 : Int, w38.cell? ((Addr.mk n1 0 none).add 0) = some (.int .i64 x40) ∧ 
      ∃ w41 : World, StoreAt ((Addr.mk n1 0 none).add 2) 0 [.int .i64 (IntKind.i64.wrap (x40 * r39))] w38 w41 ∧ 
      ∃ x42 : Int, ∃ x43 : Int, ∃ x44 : Int, CellsAt w41 (Addr.mk n1 0 none) 0 [.int .i64 x42, .int .i64 x43, .int .i64 x44] ∧ 
      ∃ w45 : World, StoreAt (Addr.mk n3 0 none) 0 [.int .i64 x42, .int .i64 x43, .int .i64 x44] w41 w45 ∧ 
      ∃ x46 : Int, ∃ x47 : Int, ∃ x48 : Int, CellsAt w45 (Addr.mk n3 0 none) 0 [.int .i64 x46, .int .i64 x47, .int .i64 x48] ∧ 
      K (.tuple #[.agg #[.int .i64 x46, .int .i64 x47, .int .i64 x48], .bool true]) w45)))
theorem luby_Tick.eq (p_0 : Int) (p_1 : Int) (p_2 : Int) (w : World) (K : Value → World → Prop) : wpF Try.prog Try.f20 .leaf [.agg #[.int .i64 p_0, .int .i64 p_1, .int .i64 p_2]] w K = luby_Tick.w p_0 p_1 p_2 w K := by kernel_rfl
theorem luby_Tick.ok : fnOk Try.prog Try.f20 1 = true := by kernel_rfl
theorem luby_Tick.calls {p_0 : Int} {p_1 : Int} {p_2 : Int} {w : World} {R : Ending → World → Prop} (h : luby_Tick.w p_0 p_1 p_2 w fun v w' => R (.returned v) w') : Calls Try.prog 20 #[.agg #[.int .i64 p_0, .int .i64 p_1, .int .i64 p_2]] w R :=
  calls_of mixed Try.func20 luby_Tick.ok rfl (fun K => luby_Tick.eq p_0 p_1 p_2 w K) h

/-! ### fathom/fathomref10.May: function 21 (named slots 3) -/
def fathomref10_May.w (p_0 : Int) (p_1 : Int) (p_2 : Int) (w : World) (K : Value → World → Prop) : Prop :=
  ∀ (n1 : Nat) (w2 : World), New (.cells #[.int .i64 p_0, .int .i64 p_1, .int .i64 p_2] 30) w n1 w2 → 
  ∃ x3 : Int, w2.drew.cell? ((Addr.mk n1 0 none).add 0) = some (.int .i64 x3) ∧ 
  cnd (decide (x3 ≥ (1 : Int)))
  (∃ x4 : Int, w2.drew.cell? ((Addr.mk n1 0 none).add 0) = some (.int .i64 x4) ∧ 
  cnd (decide (x4 ≤ (1048576 : Int)))
  (∃ x5 : Int, w2.drew.cell? ((Addr.mk n1 0 none).add 1) = some (.int .i64 x5) ∧ 
  cnd (decide (x5 ≥ (1 : Int)))
  (∃ x6 : Int, w2.drew.cell? ((Addr.mk n1 0 none).add 1) = some (.int .i64 x6) ∧ 
  cnd (decide (x6 ≤ (1073741824 : Int)))
  (∃ x7 : Int, w2.drew.cell? ((Addr.mk n1 0 none).add 2) = some (.int .i64 x7) ∧ 
  cnd (decide (x7 ≥ (1 : Int)))
  (∃ x8 : Int, w2.drew.cell? ((Addr.mk n1 0 none).add 1) = some (.int .i64 x8) ∧ 
  (∃ x9 : Int, w2.drew.cell? ((Addr.mk n1 0 none).add 2) = some (.int .i64 x9) ∧ 
  (∃ x10 : Int, w2.drew.cell? ((Addr.mk n1 0 none).add 0) = some (.int .i64 x10) ∧ 
  Calls Try.prog 16 #[.int .i64 x8] w2.drew fun e w11 => ∃ r12 : Int, e = .returned (.int .i64 r12) ∧ 
  K (.bool (decide (x9 ≤ (IntKind.i64.wrap (x10 * r12))))) w11) ∧
(Calls Try.prog 16 #[.int .i64 x8] w2.drew fun e w13 => ∃ r14 : Int, e = .returned (.int .i64 r14) ∧ 
  ∃ x15 : Int, w13.cell? ((Addr.mk n1 0 none).add 0) = some (.int .i64 x15) ∧ 
  K (.bool (decide (x9 ≤ (IntKind.i64.wrap (x15 * r14))))) w13)) ∧
(∃ x16 : Int, w2.drew.cell? ((Addr.mk n1 0 none).add 0) = some (.int .i64 x16) ∧ 
  (∃ x17 : Int, w2.drew.cell? ((Addr.mk n1 0 none).add 2) = some (.int .i64 x17) ∧ 
  Calls Try.prog 16 #[.int .i64 x8] w2.drew fun e w18 => ∃ r19 : Int, e = .returned (.int .i64 r19) ∧ 
  K (.bool (decide (x17 ≤ (IntKind.i64.wrap (x16 * r19))))) w18) ∧
(Calls Try.prog 16 #[.int .i64 x8] w2.drew fun e w20 => ∃ r21 : Int, e = .returned (.int .i64 r21) ∧ 
  ∃ x22 : Int, w20.cell? ((Addr.mk n1 0 none).add 2) = some (.int .i64 x22) ∧ 
  K (.bool (decide (x22 ≤ (IntKind.i64.wrap (x16 * r21))))) w20)) ∧
(Calls Try.prog 16 #[.int .i64 x8] w2.drew fun e w23 => ∃ r24 : Int, e = .returned (.int .i64 r24) ∧ 
  ∃ x25 : Int, w23.cell? ((Addr.mk n1 0 none).add 2) = some (.int .i64 x25) ∧ 
  ∃ x26 : Int, w23.cell? ((Addr.mk n1 0 none).add 0) = some (.int .i64 x26) ∧ 
  K (.bool (decide (x25 ≤ (IntKind.i64.wrap (x26 * r24))))) w23))
  (((K (.bool false) w2.drew) ∧
(K (.bool false) w2.drew)) ∧
((K (.bool false) w2.drew) ∧
(K (.bool false) w2.drew)) ∧
(K (.bool false) w2.drew)))
  (((K (.bool false) w2.drew) ∧
(K (.bool false) w2.drew)) ∧
((K (.bool false) w2.drew) ∧
(K (.bool false) w2.drew)) ∧
(K (.bool false) w2.drew)))
  (((K (.bool false) w2.drew) ∧
(K (.bool false) w2.drew)) ∧
((K (.bool false) w2.drew) ∧
(K (.bool false) w2.drew)) ∧
(K (.bool false) w2.drew)))
  (((K (.bool false) w2.drew) ∧
(K (.bool false) w2.drew)) ∧
((K (.bool false) w2.drew) ∧
(K (.bool false) w2.drew)) ∧
(K (.bool false) w2.drew)))
  (((K (.bool false) w2.drew) ∧
(K (.bool false) w2.drew)) ∧
((K (.bool false) w2.drew) ∧
(K (.bool false) w2.drew)) ∧
(K (.bool false) w2.drew))
theorem fathomref10_May.eq (p_0 : Int) (p_1 : Int) (p_2 : Int) (w : World) (K : Value → World → Prop) : wpF Try.prog Try.f21 .leaf [.agg #[.int .i64 p_0, .int .i64 p_1, .int .i64 p_2]] w K = fathomref10_May.w p_0 p_1 p_2 w K := by kernel_rfl
theorem fathomref10_May.ok : fnOk Try.prog Try.f21 1 = true := by kernel_rfl
theorem fathomref10_May.calls {p_0 : Int} {p_1 : Int} {p_2 : Int} {w : World} {R : Ending → World → Prop} (h : fathomref10_May.w p_0 p_1 p_2 w fun v w' => R (.returned v) w') : Calls Try.prog 21 #[.agg #[.int .i64 p_0, .int .i64 p_1, .int .i64 p_2]] w R :=
  calls_of mixed Try.func21 fathomref10_May.ok rfl (fun K => fathomref10_May.eq p_0 p_1 p_2 w K) h

/-! ### fathom/luby.Check: function 22 (named slots 3) -/
def luby_Check.w (p_0 : Int) (p_1 : Int) (p_2 : Int) (w : World) (K : Value → World → Prop) : Prop :=
  ∀ (n1 : Nat) (w2 : World), New (.cells #[.int .i64 p_0, .int .i64 p_1, .int .i64 p_2] 30) w n1 w2 → 
  ∃ x3 : Int, w2.drew.cell? ((Addr.mk n1 0 none).add 0) = some (.int .i64 x3) ∧ 
  cnd (decide (x3 < (1 : Int)))
  (((K (.int .i64 1) w2.drew) ∧
(K (.int .i64 1) w2.drew)) ∧
((K (.int .i64 1) w2.drew) ∧
(K (.int .i64 1) w2.drew)) ∧
(K (.int .i64 1) w2.drew))
  (∃ x4 : Int, w2.drew.cell? ((Addr.mk n1 0 none).add 0) = some (.int .i64 x4) ∧ 
  cnd (decide (x4 > (1048576 : Int)))
  (((K (.int .i64 1) w2.drew) ∧
(K (.int .i64 1) w2.drew)) ∧
((K (.int .i64 1) w2.drew) ∧
(K (.int .i64 1) w2.drew)) ∧
(K (.int .i64 1) w2.drew))
  (∃ x5 : Int, w2.drew.cell? ((Addr.mk n1 0 none).add 1) = some (.int .i64 x5) ∧ 
  cnd (decide (x5 < (1 : Int)))
  (((K (.int .i64 1) w2.drew) ∧
(K (.int .i64 1) w2.drew)) ∧
((K (.int .i64 1) w2.drew) ∧
(K (.int .i64 1) w2.drew)) ∧
(K (.int .i64 1) w2.drew))
  (∃ x6 : Int, w2.drew.cell? ((Addr.mk n1 0 none).add 1) = some (.int .i64 x6) ∧ 
  cnd (decide (x6 > (1073741824 : Int)))
  (((K (.int .i64 1) w2.drew) ∧
(K (.int .i64 1) w2.drew)) ∧
((K (.int .i64 1) w2.drew) ∧
(K (.int .i64 1) w2.drew)) ∧
(K (.int .i64 1) w2.drew))
  (∃ x7 : Int, w2.drew.cell? ((Addr.mk n1 0 none).add 2) = some (.int .i64 x7) ∧ 
  cnd (decide (x7 < (1 : Int)))
  (((K (.int .i64 1) w2.drew) ∧
(K (.int .i64 1) w2.drew)) ∧
((K (.int .i64 1) w2.drew) ∧
(K (.int .i64 1) w2.drew)) ∧
(K (.int .i64 1) w2.drew))
  (∃ x8 : Int, w2.drew.cell? ((Addr.mk n1 0 none).add 1) = some (.int .i64 x8) ∧ 
  (∃ x9 : Int, w2.drew.cell? ((Addr.mk n1 0 none).add 2) = some (.int .i64 x9) ∧ 
  (∃ x10 : Int, w2.drew.cell? ((Addr.mk n1 0 none).add 0) = some (.int .i64 x10) ∧ 
  Calls Try.prog 57 #[.int .i64 x8] w2.drew fun e w11 => ∃ r12 : Int, e = .returned (.int .i64 r12) ∧ 
  cnd (decide (x9 > (IntKind.i64.wrap (x10 * r12))))
  (K (.int .i64 1) w11)
  (K (.int .i64 0) w11)) ∧
(Calls Try.prog 57 #[.int .i64 x8] w2.drew fun e w13 => ∃ r14 : Int, e = .returned (.int .i64 r14) ∧ 
  ∃ x15 : Int, w13.cell? ((Addr.mk n1 0 none).add 0) = some (.int .i64 x15) ∧ 
  cnd (decide (x9 > (IntKind.i64.wrap (x15 * r14))))
  (K (.int .i64 1) w13)
  (K (.int .i64 0) w13))) ∧
(∃ x16 : Int, w2.drew.cell? ((Addr.mk n1 0 none).add 0) = some (.int .i64 x16) ∧ 
  (∃ x17 : Int, w2.drew.cell? ((Addr.mk n1 0 none).add 2) = some (.int .i64 x17) ∧ 
  Calls Try.prog 57 #[.int .i64 x8] w2.drew fun e w18 => ∃ r19 : Int, e = .returned (.int .i64 r19) ∧ 
  cnd (decide (x17 > (IntKind.i64.wrap (x16 * r19))))
  (K (.int .i64 1) w18)
  (K (.int .i64 0) w18)) ∧
(Calls Try.prog 57 #[.int .i64 x8] w2.drew fun e w20 => ∃ r21 : Int, e = .returned (.int .i64 r21) ∧ 
  ∃ x22 : Int, w20.cell? ((Addr.mk n1 0 none).add 2) = some (.int .i64 x22) ∧ 
  cnd (decide (x22 > (IntKind.i64.wrap (x16 * r21))))
  (K (.int .i64 1) w20)
  (K (.int .i64 0) w20))) ∧
(Calls Try.prog 57 #[.int .i64 x8] w2.drew fun e w23 => ∃ r24 : Int, e = .returned (.int .i64 r24) ∧ 
  ∃ x25 : Int, w23.cell? ((Addr.mk n1 0 none).add 2) = some (.int .i64 x25) ∧ 
  ∃ x26 : Int, w23.cell? ((Addr.mk n1 0 none).add 0) = some (.int .i64 x26) ∧ 
  cnd (decide (x25 > (IntKind.i64.wrap (x26 * r24))))
  (K (.int .i64 1) w23)
  (K (.int .i64 0) w23)))))))
theorem luby_Check.eq (p_0 : Int) (p_1 : Int) (p_2 : Int) (w : World) (K : Value → World → Prop) : wpF Try.prog Try.f22 .leaf [.agg #[.int .i64 p_0, .int .i64 p_1, .int .i64 p_2]] w K = luby_Check.w p_0 p_1 p_2 w K := by kernel_rfl
theorem luby_Check.ok : fnOk Try.prog Try.f22 1 = true := by kernel_rfl
theorem luby_Check.calls {p_0 : Int} {p_1 : Int} {p_2 : Int} {w : World} {R : Ending → World → Prop} (h : luby_Check.w p_0 p_1 p_2 w fun v w' => R (.returned v) w') : Calls Try.prog 22 #[.agg #[.int .i64 p_0, .int .i64 p_1, .int .i64 p_2]] w R :=
  calls_of mixed Try.func22 luby_Check.ok rfl (fun K => luby_Check.eq p_0 p_1 p_2 w K) h

/-! ### fathom/luby.Until: function 23 (named slots 3) -/
def luby_Until.w (p_0 : Int) (p_1 : Int) (p_2 : Int) (w : World) (K : Value → World → Prop) : Prop :=
  ∀ (n1 : Nat) (w2 : World), New (.cells #[.int .i64 p_0, .int .i64 p_1, .int .i64 p_2] 30) w n1 w2 → 
  ∃ x3 : Int, ∃ x4 : Int, ∃ x5 : Int, CellsAt w2 (Addr.mk n1 0 none) 0 [.int .i64 x3, .int .i64 x4, .int .i64 x5] ∧ 
  Calls Try.prog 22 #[.agg #[.int .i64 x3, .int .i64 x4, .int .i64 x5]] w2 fun e w6 => ∃ r7 : Int, e = .returned (.int .i64 r7) ∧ 
  cnd (r7 != (0 : Int))
  (K (.int .i64 0) w6)
  (∃ x8 : Int, w6.cell? ((Addr.mk n1 0 none).add 2) = some (.int .i64 x8) ∧ 
    K (.int .i64 x8) w6)
theorem luby_Until.eq (p_0 : Int) (p_1 : Int) (p_2 : Int) (w : World) (K : Value → World → Prop) : wpF Try.prog Try.f23 .leaf [.agg #[.int .i64 p_0, .int .i64 p_1, .int .i64 p_2]] w K = luby_Until.w p_0 p_1 p_2 w K := by kernel_rfl
theorem luby_Until.ok : fnOk Try.prog Try.f23 1 = true := by kernel_rfl
theorem luby_Until.calls {p_0 : Int} {p_1 : Int} {p_2 : Int} {w : World} {R : Ending → World → Prop} (h : luby_Until.w p_0 p_1 p_2 w fun v w' => R (.returned v) w') : Calls Try.prog 23 #[.agg #[.int .i64 p_0, .int .i64 p_1, .int .i64 p_2]] w R :=
  calls_of mixed Try.func23 luby_Until.ok rfl (fun K => luby_Until.eq p_0 p_1 p_2 w K) h

/-! ### fathom/fathomref10.Tick: function 24 (named slots 5) -/
def fathomref10_Tick.w (p_0 : Int) (p_1 : Int) (p_2 : Int) (w : World) (K : Value → World → Prop) : Prop :=
  ∀ (n1 : Nat) (w2 : World), New (.cells #[.int .i64 p_0, .int .i64 p_1, .int .i64 p_2] 30) w n1 w2 → 
  ∀ (n3 : Nat) (w4 : World), New (.cells #[.int .i64 0, .int .i64 0, .int .i64 0] 30) w2 n3 w4 → 
  ∃ x5 : Int, w4.cell? ((Addr.mk n1 0 none).add 2) = some (.int .i64 x5) ∧ 
  cnd (decide (x5 > (1 : Int)))
  (∃ x6 : Int, w4.cell? ((Addr.mk n1 0 none).add 0) = some (.int .i64 x6) ∧ 
    ∃ x7 : Int, w4.cell? ((Addr.mk n1 0 none).add 1) = some (.int .i64 x7) ∧ 
    ∃ x8 : Int, w4.cell? ((Addr.mk n1 0 none).add 2) = some (.int .i64 x8) ∧ 
    ∃ w9 : World, StoreAt (Addr.mk n3 0 none) 0 [.int .i64 x6, .int .i64 x7, .int .i64 (IntKind.i64.wrap (x8 - (1 : Int)))] w4 w9 ∧ 
    ∃ x10 : Int, ∃ x11 : Int, ∃ x12 : Int, CellsAt w9 (Addr.mk n3 0 none) 0 [.int .i64 x10, .int .i64 x11, .int .i64 x12] ∧ 
    K (.tuple #[.agg #[.int .i64 x10, .int .i64 x11, .int .i64 x12], .bool false]) w9)
  (∃ x13 : Int, w4.cell? ((Addr.mk n1 0 none).add 1) = some (.int .i64 x13) ∧ 
    cnd (decide ((IntKind.i64.wrap (x13 + (1 : Int))) > (1073741824 : Int)))
    ((∃ x14 : Int, w4.drew.cell? ((Addr.mk n1 0 none).add 0) = some (.int .i64 x14) ∧ 
      (∃ x15 : Int, w4.drew.cell? ((Addr.mk n1 0 none).add 0) = some (.int .i64 x15) ∧ 
      Calls Try.prog 16 #[.int .i64 1] w4.drew fun e w16 => ∃ r17 : Int, e = .returned (.int .i64 r17) ∧ 
      ∃ w18 : World, StoreAt (Addr.mk n3 0 none) 0 [.int .i64 x14, .int .i64 1, .int .i64 (IntKind.i64.wrap (x15 * r17))] w16 w18 ∧ 
      ∃ x19 : Int, ∃ x20 : Int, ∃ x21 : Int, CellsAt w18 (Addr.mk n3 0 none) 0 [.int .i64 x19, .int .i64 x20, .int .i64 x21] ∧ 
      K (.tuple #[.agg #[.int .i64 x19, .int .i64 x20, .int .i64 x21], .bool true]) w18) ∧
    (Calls Try.prog 16 #[.int .i64 1] w4.drew fun e w22 => ∃ r23 : Int, e = .returned (.int .i64 r23) ∧ 
      ∃ x24 : Int, w22.cell? ((Addr.mk n1 0 none).add 0) = some (.int .i64 x24) ∧ 
      ∃ w25 : World, StoreAt (Addr.mk n3 0 none) 0 [.int .i64 x14, .int .i64 1, .int .i64 (IntKind.i64.wrap (x24 * r23))] w22 w25 ∧ 
      ∃ x26 : Int, ∃ x27 : Int, ∃ x28 : Int, CellsAt w25 (Addr.mk n3 0 none) 0 [.int .i64 x26, .int .i64 x27, .int .i64 x28] ∧ 
      K (.tuple #[.agg #[.int .i64 x26, .int .i64 x27, .int .i64 x28], .bool true]) w25)) ∧
    (∃ x29 : Int, w4.drew.cell? ((Addr.mk n1 0 none).add 0) = some (.int .i64 x29) ∧ 
      (∃ x30 : Int, w4.drew.cell? ((Addr.mk n1 0 none).add 0) = some (.int .i64 x30) ∧ 
      Calls Try.prog 16 #[.int .i64 1] w4.drew fun e w31 => ∃ r32 : Int, e = .returned (.int .i64 r32) ∧ 
      ∃ w33 : World, StoreAt (Addr.mk n3 0 none) 0 [.int .i64 x30, .int .i64 1, .int .i64 (IntKind.i64.wrap (x29 * r32))] w31 w33 ∧ 
      ∃ x34 : Int, ∃ x35 : Int, ∃ x36 : Int, CellsAt w33 (Addr.mk n3 0 none) 0 [.int .i64 x34, .int .i64 x35, .int .i64 x36] ∧ 
      K (.tuple #[.agg #[.int .i64 x34, .int .i64 x35, .int .i64 x36], .bool true]) w33) ∧
    (Calls Try.prog 16 #[.int .i64 1] w4.drew fun e w37 => ∃ r38 : Int, e = .returned (.int .i64 r38) ∧ 
      ∃ x39 : Int, w37.cell? ((Addr.mk n1 0 none).add 0) = some (.int .i64 x39) ∧ 
      ∃ w40 : World, StoreAt (Addr.mk n3 0 none) 0 [.int .i64 x39, .int .i64 1, .int .i64 (IntKind.i64.wrap (x29 * r38))] w37 w40 ∧ 
      ∃ x41 : Int, ∃ x42 : Int, ∃ x43 : Int, CellsAt w40 (Addr.mk n3 0 none) 0 [.int .i64 x41, .int .i64 x42, .int .i64 x43] ∧ 
      K (.tuple #[.agg #[.int .i64 x41, .int .i64 x42, .int .i64 x43], .bool true]) w40)) ∧
    (Calls Try.prog 16 #[.int .i64 1] w4.drew fun e w44 => ∃ r45 : Int, e = .returned (.int .i64 r45) ∧ 
      ∃ x46 : Int, w44.cell? ((Addr.mk n1 0 none).add 0) = some (.int .i64 x46) ∧ 
      ∃ x47 : Int, w44.cell? ((Addr.mk n1 0 none).add 0) = some (.int .i64 x47) ∧ 
      ∃ w48 : World, StoreAt (Addr.mk n3 0 none) 0 [.int .i64 x46, .int .i64 1, .int .i64 (IntKind.i64.wrap (x47 * r45))] w44 w48 ∧ 
      ∃ x49 : Int, ∃ x50 : Int, ∃ x51 : Int, CellsAt w48 (Addr.mk n3 0 none) 0 [.int .i64 x49, .int .i64 x50, .int .i64 x51] ∧ 
      K (.tuple #[.agg #[.int .i64 x49, .int .i64 x50, .int .i64 x51], .bool true]) w48))
    ((∃ x52 : Int, w4.drew.cell? ((Addr.mk n1 0 none).add 0) = some (.int .i64 x52) ∧ 
      (∃ x53 : Int, w4.drew.cell? ((Addr.mk n1 0 none).add 0) = some (.int .i64 x53) ∧ 
      Calls Try.prog 16 #[.int .i64 (IntKind.i64.wrap (x13 + (1 : Int)))] w4.drew fun e w54 => ∃ r55 : Int, e = .returned (.int .i64 r55) ∧ 
      ∃ w56 : World, StoreAt (Addr.mk n3 0 none) 0 [.int .i64 x52, .int .i64 (IntKind.i64.wrap (x13 + (1 : Int))), .int .i64 (IntKind.i64.wrap (x53 * r55))] w54 w56 ∧ 
      ∃ x57 : Int, ∃ x58 : Int, ∃ x59 : Int, CellsAt w56 (Addr.mk n3 0 none) 0 [.int .i64 x57, .int .i64 x58, .int .i64 x59] ∧ 
      K (.tuple #[.agg #[.int .i64 x57, .int .i64 x58, .int .i64 x59], .bool true]) w56) ∧
    (Calls Try.prog 16 #[.int .i64 (IntKind.i64.wrap (x13 + (1 : Int)))] w4.drew fun e w60 => ∃ r61 : Int, e = .returned (.int .i64 r61) ∧ 
      ∃ x62 : Int, w60.cell? ((Addr.mk n1 0 none).add 0) = some (.int .i64 x62) ∧ 
      ∃ w63 : World, StoreAt (Addr.mk n3 0 none) 0 [.int .i64 x52, .int .i64 (IntKind.i64.wrap (x13 + (1 : Int))), .int .i64 (IntKind.i64.wrap (x62 * r61))] w60 w63 ∧ 
      ∃ x64 : Int, ∃ x65 : Int, ∃ x66 : Int, CellsAt w63 (Addr.mk n3 0 none) 0 [.int .i64 x64, .int .i64 x65, .int .i64 x66] ∧ 
      K (.tuple #[.agg #[.int .i64 x64, .int .i64 x65, .int .i64 x66], .bool true]) w63)) ∧
    (∃ x67 : Int, w4.drew.cell? ((Addr.mk n1 0 none).add 0) = some (.int .i64 x67) ∧ 
      (∃ x68 : Int, w4.drew.cell? ((Addr.mk n1 0 none).add 0) = some (.int .i64 x68) ∧ 
      Calls Try.prog 16 #[.int .i64 (IntKind.i64.wrap (x13 + (1 : Int)))] w4.drew fun e w69 => ∃ r70 : Int, e = .returned (.int .i64 r70) ∧ 
      ∃ w71 : World, StoreAt (Addr.mk n3 0 none) 0 [.int .i64 x68, .int .i64 (IntKind.i64.wrap (x13 + (1 : Int))), .int .i64 (IntKind.i64.wrap (x67 * r70))] w69 w71 ∧ 
      ∃ x72 : Int, ∃ x73 : Int, ∃ x74 : Int, CellsAt w71 (Addr.mk n3 0 none) 0 [.int .i64 x72, .int .i64 x73, .int .i64 x74] ∧ 
      K (.tuple #[.agg #[.int .i64 x72, .int .i64 x73, .int .i64 x74], .bool true]) w71) ∧
    (Calls Try.prog 16 #[.int .i64 (IntKind.i64.wrap (x13 + (1 : Int)))] w4.drew fun e w75 => ∃ r76 : Int, e = .returned (.int .i64 r76) ∧ 
      ∃ x77 : Int, w75.cell? ((Addr.mk n1 0 none).add 0) = some (.int .i64 x77) ∧ 
      ∃ w78 : World, StoreAt (Addr.mk n3 0 none) 0 [.int .i64 x77, .int .i64 (IntKind.i64.wrap (x13 + (1 : Int))), .int .i64 (IntKind.i64.wrap (x67 * r76))] w75 w78 ∧ 
      ∃ x79 : Int, ∃ x80 : Int, ∃ x81 : Int, CellsAt w78 (Addr.mk n3 0 none) 0 [.int .i64 x79, .int .i64 x80, .int .i64 x81] ∧ 
      K (.tuple #[.agg #[.int .i64 x79, .int .i64 x80, .int .i64 x81], .bool true]) w78)) ∧
    (Calls Try.prog 16 #[.int .i64 (IntKind.i64.wrap (x13 + (1 : Int)))] w4.drew fun e w82 => ∃ r83 : Int, e = .returned (.int .i64 r83) ∧ 
      ∃ x84 : Int, w82.cell? ((Addr.mk n1 0 none).add 0) = some (.int .i64 x84) ∧ 
      ∃ x85 : Int, w82.cell? ((Addr.mk n1 0 none).add 0) = some (.int .i64 x85) ∧ 
      ∃ w86 : World, StoreAt (Addr.mk n3 0 none) 0 [.int .i64 x84, .int .i64 (IntKind.i64.wrap (x13 + (1 : Int))), .int .i64 (IntKind.i64.wrap (x85 * r83))] w82 w86 ∧ 
      ∃ x87 : Int, ∃ x88 : Int, ∃ x89 : Int, CellsAt w86 (Addr.mk n3 0 none) 0 [.int .i64 x87, .int .i64 x88, .int .i64 x89] ∧ 
      K (.tuple #[.agg #[.int .i64 x87, .int .i64 x88, .int .i64 x89], .bool true]) w86)))
theorem fathomref10_Tick.eq (p_0 : Int) (p_1 : Int) (p_2 : Int) (w : World) (K : Value → World → Prop) : wpF Try.prog Try.f24 .leaf [.agg #[.int .i64 p_0, .int .i64 p_1, .int .i64 p_2]] w K = fathomref10_Tick.w p_0 p_1 p_2 w K := by kernel_rfl
theorem fathomref10_Tick.ok : fnOk Try.prog Try.f24 1 = true := by kernel_rfl
theorem fathomref10_Tick.calls {p_0 : Int} {p_1 : Int} {p_2 : Int} {w : World} {R : Ending → World → Prop} (h : fathomref10_Tick.w p_0 p_1 p_2 w fun v w' => R (.returned v) w') : Calls Try.prog 24 #[.agg #[.int .i64 p_0, .int .i64 p_1, .int .i64 p_2]] w R :=
  calls_of mixed Try.func24 fathomref10_Tick.ok rfl (fun K => fathomref10_Tick.eq p_0 p_1 p_2 w K) h

/-! ### fathom/luby.Start: function 25 (named slots 4) -/
def luby_Start.w (u_ : Int) (w : World) (K : Value → World → Prop) : Prop :=
  ∀ (n1 : Nat) (w2 : World), New (.cells #[.int .i64 0, .int .i64 0, .int .i64 0] 30) w n1 w2 → 
  cnd (decide (u_ < (1 : Int)))
  (∃ w3 : World, StoreAt (Addr.mk n1 0 none) 0 [.int .i64 0, .int .i64 0, .int .i64 0] w2 w3 ∧ 
  ∃ x4 : Int, ∃ x5 : Int, ∃ x6 : Int, CellsAt w3 (Addr.mk n1 0 none) 0 [.int .i64 x4, .int .i64 x5, .int .i64 x6] ∧ 
  K (.tuple #[.agg #[.int .i64 x4, .int .i64 x5, .int .i64 x6], .int .i64 1]) w3)
  (cnd (decide (u_ > (1048576 : Int)))
  (∃ w7 : World, StoreAt (Addr.mk n1 0 none) 0 [.int .i64 0, .int .i64 0, .int .i64 0] w2 w7 ∧ 
    ∃ x8 : Int, ∃ x9 : Int, ∃ x10 : Int, CellsAt w7 (Addr.mk n1 0 none) 0 [.int .i64 x8, .int .i64 x9, .int .i64 x10] ∧ 
    K (.tuple #[.agg #[.int .i64 x8, .int .i64 x9, .int .i64 x10], .int .i64 1]) w7)
  (∃ w11 : World, StoreAt (Addr.mk n1 0 none) 0 [.int .i64 u_, .int .i64 1, .int .i64 u_] w2 w11 ∧ 
    ∃ x12 : Int, ∃ x13 : Int, ∃ x14 : Int, CellsAt w11 (Addr.mk n1 0 none) 0 [.int .i64 x12, .int .i64 x13, .int .i64 x14] ∧ 
    K (.tuple #[.agg #[.int .i64 x12, .int .i64 x13, .int .i64 x14], .int .i64 0]) w11))
theorem luby_Start.eq (u_ : Int) (w : World) (K : Value → World → Prop) : wpF Try.prog Try.f25 .leaf [.int .i64 u_] w K = luby_Start.w u_ w K := by kernel_rfl
theorem luby_Start.ok : fnOk Try.prog Try.f25 1 = true := by kernel_rfl
theorem luby_Start.calls {u_ : Int} {w : World} {R : Ending → World → Prop} (h : luby_Start.w u_ w fun v w' => R (.returned v) w') : Calls Try.prog 25 #[.int .i64 u_] w R :=
  calls_of mixed Try.func25 luby_Start.ok rfl (fun K => luby_Start.eq u_ w K) h

/-! ### fathom/luby.number: function 57 (named slots 4) -/
def luby_number.w (i_ : Int) (w : World) (K : Value → World → Prop) : Prop :=
  ∃ I1 : Int → World → Nat → Prop, (∃ k2, I1 i_ w k2) ∧
  ∀ (i_4 : Int) (w5 : World) (k2 : Nat) (_ : Fr), I1 i_4 w5 k2 →
  Calls Try.prog 58 #[.int .u64 (IntKind.u64.wrap i_4)] w5 fun e w6 => ∃ r7 : Int, e = .returned (.int .i64 r7) ∧ 
    0 ≤ r7 ∧ cnd (i_4 == (IntKind.i64.wrap ((IntKind.i64.wrap ((1 : Int) * 2 ^ (min r7.toNat (IntKind.bits .i64)))) - (1 : Int))))
    (0 ≤ (IntKind.i64.wrap (r7 - (1 : Int))) ∧ K (.int .i64 (IntKind.i64.wrap ((1 : Int) * 2 ^ (min (IntKind.i64.wrap (r7 - (1 : Int))).toNat (IntKind.bits .i64))))) w6)
    (0 ≤ (IntKind.i64.wrap (r7 - (1 : Int))) ∧ ∃ k3, k3 < k2 ∧ I1 (IntKind.i64.wrap (i_4 - (IntKind.i64.wrap ((IntKind.i64.wrap ((1 : Int) * 2 ^ (min (IntKind.i64.wrap (r7 - (1 : Int))).toNat (IntKind.bits .i64)))) - (1 : Int))))) w6 k3)
theorem luby_number.eq (i_ : Int) (w : World) (K : Value → World → Prop) : wpF Try.prog Try.f57 (.two .leaf (.one (.loop [(0, 3)] .leaf))) [.int .i64 i_] w K = luby_number.w i_ w K := by kernel_rfl
theorem luby_number.ok : fnOk Try.prog Try.f57 1 = true := by kernel_rfl
theorem luby_number.calls {i_ : Int} {w : World} {R : Ending → World → Prop} (h : luby_number.w i_ w fun v w' => R (.returned v) w') : Calls Try.prog 57 #[.int .i64 i_] w R :=
  calls_of mixed Try.func57 luby_number.ok rfl (fun K => luby_number.eq i_ w K) h

/-! ### math/bits.Len: function 58 (named slots 3) -/
def bits_Len.w (x0_ : Int) (w : World) (K : Value → World → Prop) : Prop :=
  Calls Try.prog 81 #[.int .u64 x0_] w fun e w1 => ∃ r2 : Int, e = .returned (.int .i64 r2) ∧ 
  K (.int .i64 r2) w1
theorem bits_Len.eq (x0_ : Int) (w : World) (K : Value → World → Prop) : wpF Try.prog Try.f58 .leaf [.int .u64 x0_] w K = bits_Len.w x0_ w K := by kernel_rfl
theorem bits_Len.ok : fnOk Try.prog Try.f58 1 = true := by kernel_rfl
theorem bits_Len.calls {x0_ : Int} {w : World} {R : Ending → World → Prop} (h : bits_Len.w x0_ w fun v w' => R (.returned v) w') : Calls Try.prog 58 #[.int .u64 x0_] w R :=
  calls_of mixed Try.func58 bits_Len.ok rfl (fun K => bits_Len.eq x0_ w K) h

/-! ### math/bits.Len32: function 80 (named slots 3) -/
def bits_Len32.w (x0_ : Int) (w : World) (K : Value → World → Prop) : Prop :=
  cnd (decide (x0_ ≥ (65536 : Int)))
  (0 ≤ (16 : Int) ∧ cnd (decide ((x0_.fdiv (2 ^ (min (16 : Int).toNat (IntKind.bits .u32)))) ≥ (256 : Int)))
    (0 ≤ (8 : Int) ∧ ∃ b1, 0 ≤ (IntKind.u8.wrap ((x0_.fdiv (2 ^ (min (16 : Int).toNat (IntKind.bits .u32)))).fdiv (2 ^ (min (8 : Int).toNat (IntKind.bits .u32))))) ∧ strtab0[(IntKind.u8.wrap ((x0_.fdiv (2 ^ (min (16 : Int).toNat (IntKind.bits .u32)))).fdiv (2 ^ (min (8 : Int).toNat (IntKind.bits .u32))))).toNat]? = some b1 ∧ 
      K (.int .i64 (IntKind.i64.wrap ((IntKind.i64.wrap ((16 : Int) + (8 : Int))) + (IntKind.i64.wrap (b1.toNat : Int))))) w)
    (∃ b2, 0 ≤ (IntKind.u8.wrap (x0_.fdiv (2 ^ (min (16 : Int).toNat (IntKind.bits .u32))))) ∧ strtab0[(IntKind.u8.wrap (x0_.fdiv (2 ^ (min (16 : Int).toNat (IntKind.bits .u32))))).toNat]? = some b2 ∧ 
      K (.int .i64 (IntKind.i64.wrap ((16 : Int) + (IntKind.i64.wrap (b2.toNat : Int))))) w))
  (cnd (decide (x0_ ≥ (256 : Int)))
    (0 ≤ (8 : Int) ∧ ∃ b3, 0 ≤ (IntKind.u8.wrap (x0_.fdiv (2 ^ (min (8 : Int).toNat (IntKind.bits .u32))))) ∧ strtab0[(IntKind.u8.wrap (x0_.fdiv (2 ^ (min (8 : Int).toNat (IntKind.bits .u32))))).toNat]? = some b3 ∧ 
      K (.int .i64 (IntKind.i64.wrap ((IntKind.i64.wrap ((0 : Int) + (8 : Int))) + (IntKind.i64.wrap (b3.toNat : Int))))) w)
    (∃ b4, 0 ≤ (IntKind.u8.wrap x0_) ∧ strtab0[(IntKind.u8.wrap x0_).toNat]? = some b4 ∧ 
      K (.int .i64 (IntKind.i64.wrap ((0 : Int) + (IntKind.i64.wrap (b4.toNat : Int))))) w))
theorem bits_Len32.eq (x0_ : Int) (w : World) (K : Value → World → Prop) : wpF Try.prog Try.f80 .leaf [.int .u32 x0_] w K = bits_Len32.w x0_ w K := by kernel_rfl
theorem bits_Len32.ok : fnOk Try.prog Try.f80 1 = true := by kernel_rfl
theorem bits_Len32.calls {x0_ : Int} {w : World} {R : Ending → World → Prop} (h : bits_Len32.w x0_ w fun v w' => R (.returned v) w') : Calls Try.prog 80 #[.int .u32 x0_] w R :=
  calls_of mixed Try.func80 bits_Len32.ok rfl (fun K => bits_Len32.eq x0_ w K) h

/-! ### math/bits.Len64: function 81 (named slots 3) -/
def bits_Len64.w (x0_ : Int) (w : World) (K : Value → World → Prop) : Prop :=
  cnd (decide (x0_ ≥ (4294967296 : Int)))
  (0 ≤ (32 : Int) ∧ cnd (decide ((x0_.fdiv (2 ^ (min (32 : Int).toNat (IntKind.bits .u64)))) ≥ (65536 : Int)))
    (0 ≤ (16 : Int) ∧ cnd (decide (((x0_.fdiv (2 ^ (min (32 : Int).toNat (IntKind.bits .u64)))).fdiv (2 ^ (min (16 : Int).toNat (IntKind.bits .u64)))) ≥ (256 : Int)))
      (0 ≤ (8 : Int) ∧ ∃ b1, 0 ≤ (IntKind.u8.wrap (((x0_.fdiv (2 ^ (min (32 : Int).toNat (IntKind.bits .u64)))).fdiv (2 ^ (min (16 : Int).toNat (IntKind.bits .u64)))).fdiv (2 ^ (min (8 : Int).toNat (IntKind.bits .u64))))) ∧ strtab0[(IntKind.u8.wrap (((x0_.fdiv (2 ^ (min (32 : Int).toNat (IntKind.bits .u64)))).fdiv (2 ^ (min (16 : Int).toNat (IntKind.bits .u64)))).fdiv (2 ^ (min (8 : Int).toNat (IntKind.bits .u64))))).toNat]? = some b1 ∧ 
        K (.int .i64 (IntKind.i64.wrap ((IntKind.i64.wrap ((IntKind.i64.wrap ((32 : Int) + (16 : Int))) + (8 : Int))) + (IntKind.i64.wrap (b1.toNat : Int))))) w)
      (∃ b2, 0 ≤ (IntKind.u8.wrap ((x0_.fdiv (2 ^ (min (32 : Int).toNat (IntKind.bits .u64)))).fdiv (2 ^ (min (16 : Int).toNat (IntKind.bits .u64))))) ∧ strtab0[(IntKind.u8.wrap ((x0_.fdiv (2 ^ (min (32 : Int).toNat (IntKind.bits .u64)))).fdiv (2 ^ (min (16 : Int).toNat (IntKind.bits .u64))))).toNat]? = some b2 ∧ 
        K (.int .i64 (IntKind.i64.wrap ((IntKind.i64.wrap ((32 : Int) + (16 : Int))) + (IntKind.i64.wrap (b2.toNat : Int))))) w))
    (cnd (decide ((x0_.fdiv (2 ^ (min (32 : Int).toNat (IntKind.bits .u64)))) ≥ (256 : Int)))
      (0 ≤ (8 : Int) ∧ ∃ b3, 0 ≤ (IntKind.u8.wrap ((x0_.fdiv (2 ^ (min (32 : Int).toNat (IntKind.bits .u64)))).fdiv (2 ^ (min (8 : Int).toNat (IntKind.bits .u64))))) ∧ strtab0[(IntKind.u8.wrap ((x0_.fdiv (2 ^ (min (32 : Int).toNat (IntKind.bits .u64)))).fdiv (2 ^ (min (8 : Int).toNat (IntKind.bits .u64))))).toNat]? = some b3 ∧ 
        K (.int .i64 (IntKind.i64.wrap ((IntKind.i64.wrap ((32 : Int) + (8 : Int))) + (IntKind.i64.wrap (b3.toNat : Int))))) w)
      (∃ b4, 0 ≤ (IntKind.u8.wrap (x0_.fdiv (2 ^ (min (32 : Int).toNat (IntKind.bits .u64))))) ∧ strtab0[(IntKind.u8.wrap (x0_.fdiv (2 ^ (min (32 : Int).toNat (IntKind.bits .u64))))).toNat]? = some b4 ∧ 
        K (.int .i64 (IntKind.i64.wrap ((32 : Int) + (IntKind.i64.wrap (b4.toNat : Int))))) w)))
  (cnd (decide (x0_ ≥ (65536 : Int)))
    (0 ≤ (16 : Int) ∧ cnd (decide ((x0_.fdiv (2 ^ (min (16 : Int).toNat (IntKind.bits .u64)))) ≥ (256 : Int)))
      (0 ≤ (8 : Int) ∧ ∃ b5, 0 ≤ (IntKind.u8.wrap ((x0_.fdiv (2 ^ (min (16 : Int).toNat (IntKind.bits .u64)))).fdiv (2 ^ (min (8 : Int).toNat (IntKind.bits .u64))))) ∧ strtab0[(IntKind.u8.wrap ((x0_.fdiv (2 ^ (min (16 : Int).toNat (IntKind.bits .u64)))).fdiv (2 ^ (min (8 : Int).toNat (IntKind.bits .u64))))).toNat]? = some b5 ∧ 
        K (.int .i64 (IntKind.i64.wrap ((IntKind.i64.wrap ((IntKind.i64.wrap ((0 : Int) + (16 : Int))) + (8 : Int))) + (IntKind.i64.wrap (b5.toNat : Int))))) w)
      (∃ b6, 0 ≤ (IntKind.u8.wrap (x0_.fdiv (2 ^ (min (16 : Int).toNat (IntKind.bits .u64))))) ∧ strtab0[(IntKind.u8.wrap (x0_.fdiv (2 ^ (min (16 : Int).toNat (IntKind.bits .u64))))).toNat]? = some b6 ∧ 
        K (.int .i64 (IntKind.i64.wrap ((IntKind.i64.wrap ((0 : Int) + (16 : Int))) + (IntKind.i64.wrap (b6.toNat : Int))))) w))
    (cnd (decide (x0_ ≥ (256 : Int)))
      (0 ≤ (8 : Int) ∧ ∃ b7, 0 ≤ (IntKind.u8.wrap (x0_.fdiv (2 ^ (min (8 : Int).toNat (IntKind.bits .u64))))) ∧ strtab0[(IntKind.u8.wrap (x0_.fdiv (2 ^ (min (8 : Int).toNat (IntKind.bits .u64))))).toNat]? = some b7 ∧ 
        K (.int .i64 (IntKind.i64.wrap ((IntKind.i64.wrap ((0 : Int) + (8 : Int))) + (IntKind.i64.wrap (b7.toNat : Int))))) w)
      (∃ b8, 0 ≤ (IntKind.u8.wrap x0_) ∧ strtab0[(IntKind.u8.wrap x0_).toNat]? = some b8 ∧ 
        K (.int .i64 (IntKind.i64.wrap ((0 : Int) + (IntKind.i64.wrap (b8.toNat : Int))))) w)))
theorem bits_Len64.eq (x0_ : Int) (w : World) (K : Value → World → Prop) : wpF Try.prog Try.f81 .leaf [.int .u64 x0_] w K = bits_Len64.w x0_ w K := by kernel_rfl
theorem bits_Len64.ok : fnOk Try.prog Try.f81 1 = true := by kernel_rfl
theorem bits_Len64.calls {x0_ : Int} {w : World} {R : Ending → World → Prop} (h : bits_Len64.w x0_ w fun v w' => R (.returned v) w') : Calls Try.prog 81 #[.int .u64 x0_] w R :=
  calls_of mixed Try.func81 bits_Len64.ok rfl (fun K => bits_Len64.eq x0_ w K) h

end Go.Proofs.Ytamckcamloelbaa.W
