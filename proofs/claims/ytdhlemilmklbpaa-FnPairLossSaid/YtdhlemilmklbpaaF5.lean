/- What is told of the functions that the laws reach: printed by a program of this work. -/
import Derived.Test.YtdhlemilmklbpaaProg
import Derived.KernelRfl
import Derived.Test.YtdhlemilmklbpaaM4

set_option linter.unusedVariables false
set_option linter.unusedSimpArgs false
namespace Go.Pm.PP
open Go.Pm
noncomputable abbrev P : Program := Go.Proofs.Try.prog
abbrev t_int : TypeId := 3
theorem u_int : P.underlying 3 = some (.int .i64) := by kernel_rfl
theorem a_int : (P.underlying 3).map aggD = some false := by kernel_rfl
theorem i_int : (P.info? 3).map (·.size) = some 1 := by kernel_rfl
noncomputable def ti_3 : TypeInfo := (P.info? 3).getD default
@[simp] theorem ti_3_eq : P.info? 3 = some ti_3 := by kernel_rfl
@[simp] theorem ti_3_size : ti_3.size = 1 := by kernel_rfl
@[simp] theorem ti_3_bytes : ti_3.bytes = 8 := by kernel_rfl
@[simp] theorem ti_3_zero : ti_3.zero = some (.int .i64 0) := by kernel_rfl
noncomputable abbrev ti_int := ti_3
theorem e_t_int : P.info? 3 = some ti_3 := ti_3_eq
theorem s_t_int : ti_3.size = 1 := ti_3_size
theorem b_t_int : ti_3.bytes = 8 := ti_3_bytes
theorem z_t_int : zeroP P 3 = some (.int .i64 0) := zero_some ti_3_eq ti_3_zero rfl (by rw [ti_3_size]; rfl)
abbrev t_bool : TypeId := 4
theorem u_bool : P.underlying 4 = some .bool := by kernel_rfl
theorem a_bool : (P.underlying 4).map aggD = some false := by kernel_rfl
theorem i_bool : (P.info? 4).map (·.size) = some 1 := by kernel_rfl
noncomputable def ti_4 : TypeInfo := (P.info? 4).getD default
@[simp] theorem ti_4_eq : P.info? 4 = some ti_4 := by kernel_rfl
@[simp] theorem ti_4_size : ti_4.size = 1 := by kernel_rfl
@[simp] theorem ti_4_bytes : ti_4.bytes = 1 := by kernel_rfl
@[simp] theorem ti_4_zero : ti_4.zero = some (.bool false) := by kernel_rfl
noncomputable abbrev ti_bool := ti_4
theorem e_t_bool : P.info? 4 = some ti_4 := ti_4_eq
theorem s_t_bool : ti_4.size = 1 := ti_4_size
theorem b_t_bool : ti_4.bytes = 1 := ti_4_bytes
theorem z_t_bool : zeroP P 4 = some (.bool false) := zero_some ti_4_eq ti_4_zero rfl (by rw [ti_4_size]; rfl)
abbrev t_u8 : TypeId := 5
theorem u_u8 : P.underlying 5 = some (.int .u8) := by kernel_rfl
theorem a_u8 : (P.underlying 5).map aggD = some false := by kernel_rfl
theorem i_u8 : (P.info? 5).map (·.size) = some 1 := by kernel_rfl
noncomputable def ti_5 : TypeInfo := (P.info? 5).getD default
@[simp] theorem ti_5_eq : P.info? 5 = some ti_5 := by kernel_rfl
@[simp] theorem ti_5_size : ti_5.size = 1 := by kernel_rfl
@[simp] theorem ti_5_bytes : ti_5.bytes = 1 := by kernel_rfl
@[simp] theorem ti_5_zero : ti_5.zero = some (.int .u8 0) := by kernel_rfl
noncomputable abbrev ti_u8 := ti_5
theorem e_t_u8 : P.info? 5 = some ti_5 := ti_5_eq
theorem s_t_u8 : ti_5.size = 1 := ti_5_size
theorem b_t_u8 : ti_5.bytes = 1 := ti_5_bytes
theorem z_t_u8 : zeroP P 5 = some (.int .u8 0) := zero_some ti_5_eq ti_5_zero rfl (by rw [ti_5_size]; rfl)
abbrev t_str : TypeId := 9
theorem u_str : P.underlying 9 = some .string := by kernel_rfl
theorem a_str : (P.underlying 9).map aggD = some false := by kernel_rfl
theorem i_str : (P.info? 9).map (·.size) = some 1 := by kernel_rfl
noncomputable def ti_9 : TypeInfo := (P.info? 9).getD default
@[simp] theorem ti_9_eq : P.info? 9 = some ti_9 := by kernel_rfl
@[simp] theorem ti_9_size : ti_9.size = 1 := by kernel_rfl
@[simp] theorem ti_9_bytes : ti_9.bytes = 16 := by kernel_rfl
@[simp] theorem ti_9_zero : ti_9.zero = some (.string ByteArray.empty) := by kernel_rfl
noncomputable abbrev ti_str := ti_9
theorem e_t_str : P.info? 9 = some ti_9 := ti_9_eq
theorem s_t_str : ti_9.size = 1 := ti_9_size
theorem b_t_str : ti_9.bytes = 16 := ti_9_bytes
theorem z_t_str : zeroP P 9 = some (.string ByteArray.empty) := zero_some ti_9_eq ti_9_zero rfl (by rw [ti_9_size]; rfl)
abbrev t_S_u8 : TypeId := 22
theorem u_S_u8 : P.underlying 22 = some (.slice 5) := by kernel_rfl
theorem a_S_u8 : (P.underlying 22).map aggD = some false := by kernel_rfl
theorem i_S_u8 : (P.info? 22).map (·.size) = some 1 := by kernel_rfl
noncomputable def ti_22 : TypeInfo := (P.info? 22).getD default
@[simp] theorem ti_22_eq : P.info? 22 = some ti_22 := by kernel_rfl
@[simp] theorem ti_22_size : ti_22.size = 1 := by kernel_rfl
@[simp] theorem ti_22_bytes : ti_22.bytes = 24 := by kernel_rfl
@[simp] theorem ti_22_zero : ti_22.zero = some (.slice none 0 0) := by kernel_rfl
noncomputable abbrev ti_S_u8 := ti_22
theorem e_t_S_u8 : P.info? 22 = some ti_22 := ti_22_eq
theorem s_t_S_u8 : ti_22.size = 1 := ti_22_size
theorem b_t_S_u8 : ti_22.bytes = 24 := ti_22_bytes
theorem z_t_S_u8 : zeroP P 22 = some (.slice none 0 0) := zero_some ti_22_eq ti_22_zero rfl (by rw [ti_22_size]; rfl)
abbrev t_S_impl_Job : TypeId := 24
theorem u_S_impl_Job : P.underlying 24 = some (.slice 109) := by kernel_rfl
theorem a_S_impl_Job : (P.underlying 24).map aggD = some false := by kernel_rfl
theorem i_S_impl_Job : (P.info? 24).map (·.size) = some 1 := by kernel_rfl
noncomputable def ti_24 : TypeInfo := (P.info? 24).getD default
@[simp] theorem ti_24_eq : P.info? 24 = some ti_24 := by kernel_rfl
@[simp] theorem ti_24_size : ti_24.size = 1 := by kernel_rfl
@[simp] theorem ti_24_bytes : ti_24.bytes = 24 := by kernel_rfl
@[simp] theorem ti_24_zero : ti_24.zero = some (.slice none 0 0) := by kernel_rfl
noncomputable abbrev ti_S_impl_Job := ti_24
theorem e_t_S_impl_Job : P.info? 24 = some ti_24 := ti_24_eq
theorem s_t_S_impl_Job : ti_24.size = 1 := ti_24_size
theorem b_t_S_impl_Job : ti_24.bytes = 24 := ti_24_bytes
theorem z_t_S_impl_Job : zeroP P 24 = some (.slice none 0 0) := zero_some ti_24_eq ti_24_zero rfl (by rw [ti_24_size]; rfl)
abbrev t_S_int : TypeId := 25
theorem u_S_int : P.underlying 25 = some (.slice 3) := by kernel_rfl
theorem a_S_int : (P.underlying 25).map aggD = some false := by kernel_rfl
theorem i_S_int : (P.info? 25).map (·.size) = some 1 := by kernel_rfl
noncomputable def ti_25 : TypeInfo := (P.info? 25).getD default
@[simp] theorem ti_25_eq : P.info? 25 = some ti_25 := by kernel_rfl
@[simp] theorem ti_25_size : ti_25.size = 1 := by kernel_rfl
@[simp] theorem ti_25_bytes : ti_25.bytes = 24 := by kernel_rfl
@[simp] theorem ti_25_zero : ti_25.zero = some (.slice none 0 0) := by kernel_rfl
noncomputable abbrev ti_S_int := ti_25
theorem e_t_S_int : P.info? 25 = some ti_25 := ti_25_eq
theorem s_t_S_int : ti_25.size = 1 := ti_25_size
theorem b_t_S_int : ti_25.bytes = 24 := ti_25_bytes
theorem z_t_S_int : zeroP P 25 = some (.slice none 0 0) := zero_some ti_25_eq ti_25_zero rfl (by rw [ti_25_size]; rfl)
abbrev t_S_S_impl_Job : TypeId := 38
theorem u_S_S_impl_Job : P.underlying 38 = some (.slice 24) := by kernel_rfl
theorem a_S_S_impl_Job : (P.underlying 38).map aggD = some false := by kernel_rfl
theorem i_S_S_impl_Job : (P.info? 38).map (·.size) = some 1 := by kernel_rfl
noncomputable def ti_38 : TypeInfo := (P.info? 38).getD default
@[simp] theorem ti_38_eq : P.info? 38 = some ti_38 := by kernel_rfl
@[simp] theorem ti_38_size : ti_38.size = 1 := by kernel_rfl
@[simp] theorem ti_38_bytes : ti_38.bytes = 24 := by kernel_rfl
@[simp] theorem ti_38_zero : ti_38.zero = some (.slice none 0 0) := by kernel_rfl
noncomputable abbrev ti_S_S_impl_Job := ti_38
theorem e_t_S_S_impl_Job : P.info? 38 = some ti_38 := ti_38_eq
theorem s_t_S_S_impl_Job : ti_38.size = 1 := ti_38_size
theorem b_t_S_S_impl_Job : ti_38.bytes = 24 := ti_38_bytes
theorem z_t_S_S_impl_Job : zeroP P 38 = some (.slice none 0 0) := zero_some ti_38_eq ti_38_zero rfl (by rw [ti_38_size]; rfl)
abbrev t_S_A2_int : TypeId := 69
theorem u_S_A2_int : P.underlying 69 = some (.slice 130) := by kernel_rfl
theorem a_S_A2_int : (P.underlying 69).map aggD = some false := by kernel_rfl
theorem i_S_A2_int : (P.info? 69).map (·.size) = some 1 := by kernel_rfl
noncomputable def ti_69 : TypeInfo := (P.info? 69).getD default
@[simp] theorem ti_69_eq : P.info? 69 = some ti_69 := by kernel_rfl
@[simp] theorem ti_69_size : ti_69.size = 1 := by kernel_rfl
@[simp] theorem ti_69_bytes : ti_69.bytes = 24 := by kernel_rfl
@[simp] theorem ti_69_zero : ti_69.zero = some (.slice none 0 0) := by kernel_rfl
noncomputable abbrev ti_S_A2_int := ti_69
theorem e_t_S_A2_int : P.info? 69 = some ti_69 := ti_69_eq
theorem s_t_S_A2_int : ti_69.size = 1 := ti_69_size
theorem b_t_S_A2_int : ti_69.bytes = 24 := ti_69_bytes
theorem z_t_S_A2_int : zeroP P 69 = some (.slice none 0 0) := zero_some ti_69_eq ti_69_zero rfl (by rw [ti_69_size]; rfl)
abbrev t_P_spec_l1Cur : TypeId := 74
theorem a_P_spec_l1Cur : (P.underlying 74).map aggD = some false := by kernel_rfl
theorem i_P_spec_l1Cur : (P.info? 74).map (·.size) = some 1 := by kernel_rfl
noncomputable def ti_74 : TypeInfo := (P.info? 74).getD default
@[simp] theorem ti_74_eq : P.info? 74 = some ti_74 := by kernel_rfl
@[simp] theorem ti_74_size : ti_74.size = 1 := by kernel_rfl
@[simp] theorem ti_74_bytes : ti_74.bytes = 8 := by kernel_rfl
@[simp] theorem ti_74_zero : ti_74.zero = some (.pointer none) := by kernel_rfl
noncomputable abbrev ti_P_spec_l1Cur := ti_74
theorem e_t_P_spec_l1Cur : P.info? 74 = some ti_74 := ti_74_eq
theorem s_t_P_spec_l1Cur : ti_74.size = 1 := ti_74_size
theorem b_t_P_spec_l1Cur : ti_74.bytes = 8 := ti_74_bytes
theorem z_t_P_spec_l1Cur : zeroP P 74 = some (.pointer none) := zero_some ti_74_eq ti_74_zero rfl (by rw [ti_74_size]; rfl)
abbrev t_u64 : TypeId := 75
theorem u_u64 : P.underlying 75 = some (.int .u64) := by kernel_rfl
theorem a_u64 : (P.underlying 75).map aggD = some false := by kernel_rfl
theorem i_u64 : (P.info? 75).map (·.size) = some 1 := by kernel_rfl
noncomputable def ti_75 : TypeInfo := (P.info? 75).getD default
@[simp] theorem ti_75_eq : P.info? 75 = some ti_75 := by kernel_rfl
@[simp] theorem ti_75_size : ti_75.size = 1 := by kernel_rfl
@[simp] theorem ti_75_bytes : ti_75.bytes = 8 := by kernel_rfl
@[simp] theorem ti_75_zero : ti_75.zero = some (.int .u64 0) := by kernel_rfl
noncomputable abbrev ti_u64 := ti_75
theorem e_t_u64 : P.info? 75 = some ti_75 := ti_75_eq
theorem s_t_u64 : ti_75.size = 1 := ti_75_size
theorem b_t_u64 : ti_75.bytes = 8 := ti_75_bytes
theorem z_t_u64 : zeroP P 75 = some (.int .u64 0) := zero_some ti_75_eq ti_75_zero rfl (by rw [ti_75_size]; rfl)
abbrev t_spec_l1Cur : TypeId := 77
theorem a_spec_l1Cur : (P.underlying 77).map aggD = some true := by kernel_rfl
theorem i_spec_l1Cur : (P.info? 77).map (·.size) = some 3 := by kernel_rfl
noncomputable def ti_77 : TypeInfo := (P.info? 77).getD default
@[simp] theorem ti_77_eq : P.info? 77 = some ti_77 := by kernel_rfl
@[simp] theorem ti_77_size : ti_77.size = 3 := by kernel_rfl
@[simp] theorem ti_77_bytes : ti_77.bytes = 40 := by kernel_rfl
@[simp] theorem ti_77_zero : ti_77.zero = some (.agg #[.slice none 0 0, .int .i64 0, .int .u64 0]) := by kernel_rfl
noncomputable abbrev ti_spec_l1Cur := ti_77
theorem e_t_spec_l1Cur : P.info? 77 = some ti_77 := ti_77_eq
theorem s_t_spec_l1Cur : ti_77.size = 3 := ti_77_size
theorem b_t_spec_l1Cur : ti_77.bytes = 40 := ti_77_bytes
theorem z_t_spec_l1Cur : zeroP P 77 = some (.agg #[.slice none 0 0, .int .i64 0, .int .u64 0]) := zero_some ti_77_eq ti_77_zero rfl (by rw [ti_77_size]; rfl)
abbrev t_spec_l2Search : TypeId := 90
theorem a_spec_l2Search : (P.underlying 90).map aggD = some true := by kernel_rfl
theorem i_spec_l2Search : (P.info? 90).map (·.size) = some 3 := by kernel_rfl
noncomputable def ti_90 : TypeInfo := (P.info? 90).getD default
@[simp] theorem ti_90_eq : P.info? 90 = some ti_90 := by kernel_rfl
@[simp] theorem ti_90_size : ti_90.size = 3 := by kernel_rfl
@[simp] theorem ti_90_bytes : ti_90.bytes = 40 := by kernel_rfl
@[simp] theorem ti_90_zero : ti_90.zero = some (.agg #[.slice none 0 0, .int .i64 0, .int .i64 0]) := by kernel_rfl
noncomputable abbrev ti_spec_l2Search := ti_90
theorem e_t_spec_l2Search : P.info? 90 = some ti_90 := ti_90_eq
theorem s_t_spec_l2Search : ti_90.size = 3 := ti_90_size
theorem b_t_spec_l2Search : ti_90.bytes = 40 := ti_90_bytes
theorem z_t_spec_l2Search : zeroP P 90 = some (.agg #[.slice none 0 0, .int .i64 0, .int .i64 0]) := zero_some ti_90_eq ti_90_zero rfl (by rw [ti_90_size]; rfl)
abbrev t_func_int__int__bool : TypeId := 106
theorem a_func_int__int__bool : (P.underlying 106).map aggD = some false := by kernel_rfl
theorem i_func_int__int__bool : (P.info? 106).map (·.size) = some 1 := by kernel_rfl
noncomputable def ti_106 : TypeInfo := (P.info? 106).getD default
@[simp] theorem ti_106_eq : P.info? 106 = some ti_106 := by kernel_rfl
@[simp] theorem ti_106_size : ti_106.size = 1 := by kernel_rfl
@[simp] theorem ti_106_bytes : ti_106.bytes = 8 := by kernel_rfl
@[simp] theorem ti_106_zero : ti_106.zero = some (.nilFunc) := by kernel_rfl
noncomputable abbrev ti_func_int__int__bool := ti_106
theorem e_t_func_int__int__bool : P.info? 106 = some ti_106 := ti_106_eq
theorem s_t_func_int__int__bool : ti_106.size = 1 := ti_106_size
theorem b_t_func_int__int__bool : ti_106.bytes = 8 := ti_106_bytes
abbrev t_impl_Job : TypeId := 109
theorem a_impl_Job : (P.underlying 109).map aggD = some true := by kernel_rfl
theorem i_impl_Job : (P.info? 109).map (·.size) = some 4 := by kernel_rfl
noncomputable def ti_109 : TypeInfo := (P.info? 109).getD default
@[simp] theorem ti_109_eq : P.info? 109 = some ti_109 := by kernel_rfl
@[simp] theorem ti_109_size : ti_109.size = 4 := by kernel_rfl
@[simp] theorem ti_109_bytes : ti_109.bytes = 32 := by kernel_rfl
@[simp] theorem ti_109_zero : ti_109.zero = some (.agg #[.int .i64 0, .int .i64 0, .int .i64 0, .int .i64 0]) := by kernel_rfl
noncomputable abbrev ti_impl_Job := ti_109
theorem e_t_impl_Job : P.info? 109 = some ti_109 := ti_109_eq
theorem s_t_impl_Job : ti_109.size = 4 := ti_109_size
theorem b_t_impl_Job : ti_109.bytes = 32 := ti_109_bytes
theorem z_t_impl_Job : zeroP P 109 = some (.agg #[.int .i64 0, .int .i64 0, .int .i64 0, .int .i64 0]) := zero_some ti_109_eq ti_109_zero rfl (by rw [ti_109_size]; rfl)
abbrev t_S_str : TypeId := 110
theorem u_S_str : P.underlying 110 = some (.slice 9) := by kernel_rfl
theorem a_S_str : (P.underlying 110).map aggD = some false := by kernel_rfl
theorem i_S_str : (P.info? 110).map (·.size) = some 1 := by kernel_rfl
noncomputable def ti_110 : TypeInfo := (P.info? 110).getD default
@[simp] theorem ti_110_eq : P.info? 110 = some ti_110 := by kernel_rfl
@[simp] theorem ti_110_size : ti_110.size = 1 := by kernel_rfl
@[simp] theorem ti_110_bytes : ti_110.bytes = 24 := by kernel_rfl
@[simp] theorem ti_110_zero : ti_110.zero = some (.slice none 0 0) := by kernel_rfl
noncomputable abbrev ti_S_str := ti_110
theorem e_t_S_str : P.info? 110 = some ti_110 := ti_110_eq
theorem s_t_S_str : ti_110.size = 1 := ti_110_size
theorem b_t_S_str : ti_110.bytes = 24 := ti_110_bytes
theorem z_t_S_str : zeroP P 110 = some (.slice none 0 0) := zero_some ti_110_eq ti_110_zero rfl (by rw [ti_110_size]; rfl)
abbrev t_A4_int : TypeId := 115
theorem u_A4_int : P.underlying 115 = some (.array 4 3) := by kernel_rfl
theorem a_A4_int : (P.underlying 115).map aggD = some true := by kernel_rfl
theorem i_A4_int : (P.info? 115).map (·.size) = some 4 := by kernel_rfl
noncomputable def ti_115 : TypeInfo := (P.info? 115).getD default
@[simp] theorem ti_115_eq : P.info? 115 = some ti_115 := by kernel_rfl
@[simp] theorem ti_115_size : ti_115.size = 4 := by kernel_rfl
@[simp] theorem ti_115_bytes : ti_115.bytes = 32 := by kernel_rfl
@[simp] theorem ti_115_zero : ti_115.zero = some (.agg #[.int .i64 0, .int .i64 0, .int .i64 0, .int .i64 0]) := by kernel_rfl
noncomputable abbrev ti_A4_int := ti_115
theorem e_t_A4_int : P.info? 115 = some ti_115 := ti_115_eq
theorem s_t_A4_int : ti_115.size = 4 := ti_115_size
theorem b_t_A4_int : ti_115.bytes = 32 := ti_115_bytes
theorem z_t_A4_int : zeroP P 115 = some (.agg #[.int .i64 0, .int .i64 0, .int .i64 0, .int .i64 0]) := zero_some ti_115_eq ti_115_zero rfl (by rw [ti_115_size]; rfl)
abbrev t_A2_int : TypeId := 130
theorem u_A2_int : P.underlying 130 = some (.array 2 3) := by kernel_rfl
theorem a_A2_int : (P.underlying 130).map aggD = some true := by kernel_rfl
theorem i_A2_int : (P.info? 130).map (·.size) = some 2 := by kernel_rfl
noncomputable def ti_130 : TypeInfo := (P.info? 130).getD default
@[simp] theorem ti_130_eq : P.info? 130 = some ti_130 := by kernel_rfl
@[simp] theorem ti_130_size : ti_130.size = 2 := by kernel_rfl
@[simp] theorem ti_130_bytes : ti_130.bytes = 16 := by kernel_rfl
@[simp] theorem ti_130_zero : ti_130.zero = some (.agg #[.int .i64 0, .int .i64 0]) := by kernel_rfl
noncomputable abbrev ti_A2_int := ti_130
theorem e_t_A2_int : P.info? 130 = some ti_130 := ti_130_eq
theorem s_t_A2_int : ti_130.size = 2 := ti_130_size
theorem b_t_A2_int : ti_130.bytes = 16 := ti_130_bytes
theorem z_t_A2_int : zeroP P 130 = some (.agg #[.int .i64 0, .int .i64 0]) := zero_some ti_130_eq ti_130_zero rfl (by rw [ti_130_size]; rfl)
abbrev t_func___int_ : TypeId := 136
theorem a_func___int_ : (P.underlying 136).map aggD = some false := by kernel_rfl
theorem i_func___int_ : (P.info? 136).map (·.size) = some 1 := by kernel_rfl
noncomputable def ti_136 : TypeInfo := (P.info? 136).getD default
@[simp] theorem ti_136_eq : P.info? 136 = some ti_136 := by kernel_rfl
@[simp] theorem ti_136_size : ti_136.size = 1 := by kernel_rfl
@[simp] theorem ti_136_bytes : ti_136.bytes = 8 := by kernel_rfl
@[simp] theorem ti_136_zero : ti_136.zero = some (.nilFunc) := by kernel_rfl
noncomputable abbrev ti_func___int_ := ti_136
theorem e_t_func___int_ : P.info? 136 = some ti_136 := ti_136_eq
theorem s_t_func___int_ : ti_136.size = 1 := ti_136_size
theorem b_t_func___int_ : ti_136.bytes = 8 := ti_136_bytes
def G : FuncId → GI
  | 173 => ⟨[], [(2, 9), (3, 8), (6, 9)], []⟩
  | 158 => ⟨[(4, [0, 1, 2, 7, 8]), (11, [0, 1, 7])], [], []⟩
  | 77 => ⟨[(3, [0, 1, 5, 6])], [], [(6, 11, [(7, 4)])]⟩
  | 84 => ⟨[(4, [8, 9, 10])], [], []⟩
  | 195 => ⟨[(2, [1, 7, 8, 9])], [], []⟩
  | 170 => ⟨[(2, [0, 1, 7, 8, 9])], [], []⟩
  | 161 => ⟨[(4, [0, 5, 6, 12, 13, 14])], [(6, 12)], []⟩
  | 160 => ⟨[(3, [1, 2, 7, 10, 11, 12])], [(5, 9)], []⟩
  | 87 => ⟨[(2, [0, 3])], [], []⟩
  | 172 => ⟨[(2, [0, 1, 5])], [], []⟩
  | 117 => ⟨[(4, [0, 1, 5])], [], []⟩
  | 193 => ⟨[(3, [0, 1, 5, 6, 7])], [(5, 15), (6, 15)], []⟩
  | 163 => ⟨[(3, [0, 5, 6])], [(5, 12)], []⟩
  | 162 => ⟨[(3, [0, 1, 2, 7, 8])], [(6, 11)], []⟩
  | 134 => ⟨[(3, [0, 3, 4])], [], []⟩
  | 194 => ⟨[(2, [0, 3]), (7, [0, 3, 4]), (11, [0, 5, 6])], [(2, 12), (7, 8), (9, 13), (13, 13)], []⟩
  | 165 => ⟨[(1, [1, 4])], [], []⟩
  | 86 => ⟨[], [(4, 5)], []⟩
  | 168 => ⟨[(9, [0, 1, 2, 7, 8, 10])], [], [(12, 8, [(5, 2)])]⟩
  | 88 => ⟨[], [(2, 5)], []⟩
  | 15 => ⟨[(4, [0, 1, 5])], [(6, 8)], []⟩
  | 93 => ⟨[], [(2, 15)], []⟩
  | 92 => ⟨[(2, [0, 1, 2, 7])], [], []⟩
  | 19 => ⟨[(5, [0, 2, 9, 10, 11])], [], []⟩
  | 95 => ⟨[(2, [0, 1, 2, 7])], [], []⟩
  | 20 => ⟨[(5, [0, 2, 9, 10, 11])], [], []⟩
  | 169 => ⟨[(4, [0, 3, 4, 5]), (8, [0, 3, 4, 5, 6, 7]), (18, [3, 4])], [], []⟩
  | 34 => ⟨[(4, [0, 9, 10, 11])], [], []⟩
  | 101 => ⟨[(3, [1, 2, 7, 10, 11, 12])], [], []⟩
  | 102 => ⟨[(3, [1, 5, 11, 12, 13])], [], []⟩
  | 100 => ⟨[(3, [1, 6, 7, 17, 18, 19])], [(1, 6)], []⟩
  | 108 => ⟨[(2, [0, 3])], [(4, 16)], []⟩
  | 105 => ⟨[(3, [0, 1, 2, 7, 8])], [], []⟩
  | 106 => ⟨[(3, [0, 1, 5, 6])], [], []⟩
  | 104 => ⟨[(3, [0, 1, 6, 7])], [(5, 18), (7, 11)], []⟩
  | 171 => ⟨[], [(0, 10)], []⟩
  | 107 => ⟨[], [(4, 3)], []⟩
  | 109 => ⟨[(7, [0, 1, 2, 3, 9, 10, 13])], [], [(10, 9, [(5, 2)])]⟩
  | 29 => ⟨[], [(4, 5)], []⟩
  | 31 => ⟨[], [(4, 5)], []⟩
  | 4 => ⟨[(30, [3, 5, 6, 7, 12, 17, 22, 23, 28, 32, 33])], [], []⟩
  | 39 => ⟨[(6, [0, 1, 2, 9, 30, 31, 32])], [(12, 7)], []⟩
  | 41 => ⟨[], [(4, 8)], [(5, 13, [(9, 3)])]⟩
  | 43 => ⟨[(5, [1, 6, 17, 18, 19])], [], []⟩
  | 44 => ⟨[(5, [0, 1, 6, 7])], [(7, 27)], []⟩
  | 45 => ⟨[(4, [0, 1, 5])], [(6, 8)], []⟩
  | 174 => ⟨[(4, [0, 3])], [], []⟩
  | 121 => ⟨[(3, [1, 5, 8, 9, 10])], [], []⟩
  | 120 => ⟨[(3, [1, 5, 8, 9, 10])], [], []⟩
  | 46 => ⟨[(7, [4, 13, 14, 15])], [], []⟩
  | 175 => ⟨[], [(5, 9)], []⟩
  | 122 => ⟨[(3, [0, 3, 4])], [(7, 31)], []⟩
  | 123 => ⟨[(4, [0, 1, 5, 6, 7])], [], []⟩
  | 124 => ⟨[(5, [0, 4, 5])], [], []⟩
  | 48 => ⟨[(5, [4, 16, 17, 18]), (12, [4, 8, 16, 17, 18, 27, 28, 29])], [], []⟩
  | 126 => ⟨[], [(7, 8), (9, 9), (10, 7)], []⟩
  | 127 => ⟨[(4, [0, 1, 5, 6, 7])], [], []⟩
  | 176 => ⟨[(8, [0, 4, 5, 6])], [], []⟩
  | 50 => ⟨[(6, [0, 4, 5, 6])], [], []⟩
  | 177 => ⟨[(2, [0, 3])], [], []⟩
  | 182 => ⟨[(3, [0, 1, 5, 6])], [], []⟩
  | 196 => ⟨[], [(1, 10), (2, 10), (3, 10), (4, 10)], []⟩
  | 178 => ⟨[(3, [0, 1, 5, 6]), (6, [0, 1, 5, 6, 7])], [(6, 14)], [(8, 14, [(10, 4)])]⟩
  | 179 => ⟨[(2, [5, 6, 7])], [], []⟩
  | 181 => ⟨[], [(1, 10)], []⟩
  | 180 => ⟨[(3, [1, 5, 9, 10, 11]), (6, [1, 5, 7, 8, 9, 10, 11])], [(9, 7)], []⟩
  | 133 => ⟨[(3, [2, 5, 10, 11, 12])], [], []⟩
  | 52 => ⟨[(5, [0, 1, 6, 20, 21])], [], []⟩
  | 135 => ⟨[(3, [0, 5, 6, 7])], [], []⟩
  | 53 => ⟨[(5, [0, 1, 6, 7])], [(7, 15)], []⟩
  | 184 => ⟨[], [(1, 34)], []⟩
  | 143 => ⟨[(3, [0, 3, 4])], [], []⟩
  | 145 => ⟨[(3, [0, 5, 9, 10, 11])], [], []⟩
  | 140 => ⟨[(3, [0, 1, 2, 7, 8]), (8, [0, 1, 2, 7, 8, 9, 32, 33, 34])], [(10, 13)], []⟩
  | 187 => ⟨[(3, [0, 1, 5, 6])], [], []⟩
  | 146 => ⟨[], [(1, 16)], []⟩
  | 142 => ⟨[(3, [0, 1, 5, 6]), (7, [0, 1, 5, 6, 7, 8])], [], []⟩
  | 60 => ⟨[(7, [0, 1, 6, 7, 8, 9]), (10, [0, 1, 6, 7, 8, 9, 38, 39, 40])], [(12, 20)], []⟩
  | 61 => ⟨[(6, [0, 1, 6, 7, 8]), (8, [0, 1, 6, 7, 8, 9])], [(8, 16)], []⟩
  | 147 => ⟨[(3, [3, 6, 7, 8])], [], []⟩
  | 148 => ⟨[(3, [0, 3, 4])], [], []⟩
  | 7 => ⟨[(24, [3, 5, 23]), (27, [3, 5, 23, 24])], [(29, 17)], []⟩
  | 149 => ⟨[(5, [0, 3, 4])], [], []⟩
  | 151 => ⟨[(3, [0, 1, 2, 7, 12, 13, 14]), (6, [0, 1, 2, 7, 9, 12, 13, 14, 22, 23, 24])], [(8, 9)], []⟩
  | 66 => ⟨[(5, [0, 6, 15, 16, 17])], [(7, 12)], []⟩
  | 199 => ⟨[(2, [0, 3])], [], []⟩
  | 155 => ⟨[], [(1, 10)], []⟩
  | 154 => ⟨[(3, [0, 1, 2, 7, 8]), (6, [0, 1, 2, 7, 8, 9])], [(8, 10), (9, 11)], []⟩
  | 67 => ⟨[(6, [0, 6, 7, 8])], [(8, 13)], []⟩
  | 190 => ⟨[(3, [0, 1, 5, 6]), (6, [0, 1, 5, 6, 7])], [], [(8, 10, [(6, 3)])]⟩
  | 72 => ⟨[(4, [0, 1, 5])], [(6, 8)], []⟩
  | 73 => ⟨[(4, [0, 1, 2, 8])], [(6, 16)], []⟩
  | 75 => ⟨[], [(3, 9)], []⟩
  | 8 => ⟨[(22, [3, 4, 22])], [(25, 15)], []⟩
  | _ => ⟨[], [], []⟩
noncomputable def c_laws_rBig : Code := Go.Proofs.Try.f9.body.getD .skip
abbrev n_laws_rBig : FuncId := 9
theorem g_laws_rBig : G 9 = ⟨[], [], []⟩ := rfl
attribute [simp] c_laws_rBig g_laws_rBig Go.Proofs.Try.f9
theorem e_laws_rBig : enterG P (G 9) 9 = some (c_laws_rBig, 6, #[.tmp 2]) := by kernel_rfl
noncomputable def c_spec_l1Cur_next : Code := Go.Proofs.Try.f173.body.getD .skip
abbrev n_spec_l1Cur_next : FuncId := 173
theorem g_spec_l1Cur_next : G 173 = ⟨[], [(2, 9), (3, 8), (6, 9)], []⟩ := rfl
attribute [simp] c_spec_l1Cur_next g_spec_l1Cur_next Go.Proofs.Try.f173
theorem e_spec_l1Cur_next : enterG P (G 173) 173 = some (c_spec_l1Cur_next, 62, #[.tmp 2]) := by kernel_rfl
noncomputable def c_spec_l1Cur_pick : Code := Go.Proofs.Try.f111.body.getD .skip
abbrev n_spec_l1Cur_pick : FuncId := 111
theorem g_spec_l1Cur_pick : G 111 = ⟨[], [], []⟩ := rfl
attribute [simp] c_spec_l1Cur_pick g_spec_l1Cur_pick Go.Proofs.Try.f111
theorem e_spec_l1Cur_pick : enterG P (G 111) 111 = some (c_spec_l1Cur_pick, 20, #[.tmp 4]) := by kernel_rfl
noncomputable def c_spec_l1Cur_one : Code := Go.Proofs.Try.f125.body.getD .skip
abbrev n_spec_l1Cur_one : FuncId := 125
theorem g_spec_l1Cur_one : G 125 = ⟨[], [], []⟩ := rfl
attribute [simp] c_spec_l1Cur_one g_spec_l1Cur_one Go.Proofs.Try.f125
theorem e_spec_l1Cur_one : enterG P (G 125) 125 = some (c_spec_l1Cur_one, 9, #[.tmp 4]) := by kernel_rfl
noncomputable def c_spec_l1Cur_among : Code := Go.Proofs.Try.f119.body.getD .skip
abbrev n_spec_l1Cur_among : FuncId := 119
theorem g_spec_l1Cur_among : G 119 = ⟨[], [], []⟩ := rfl
attribute [simp] c_spec_l1Cur_among g_spec_l1Cur_among Go.Proofs.Try.f119
theorem e_spec_l1Cur_among : enterG P (G 119) 119 = some (c_spec_l1Cur_among, 12, #[.tmp 4]) := by kernel_rfl
noncomputable def c_spec_l1Cur_job : Code := Go.Proofs.Try.f191.body.getD .skip
abbrev n_spec_l1Cur_job : FuncId := 191
theorem g_spec_l1Cur_job : G 191 = ⟨[], [], []⟩ := rfl
attribute [simp] c_spec_l1Cur_job g_spec_l1Cur_job Go.Proofs.Try.f191
theorem e_spec_l1Cur_job : enterG P (G 191) 191 = some (c_spec_l1Cur_job, 20, #[.cell 4 109]) := by kernel_rfl
noncomputable def c_spec_l1Cur_spoiltJob : Code := Go.Proofs.Try.f192.body.getD .skip
abbrev n_spec_l1Cur_spoiltJob : FuncId := 192
theorem g_spec_l1Cur_spoiltJob : G 192 = ⟨[], [], []⟩ := rfl
attribute [simp] c_spec_l1Cur_spoiltJob g_spec_l1Cur_spoiltJob Go.Proofs.Try.f192
theorem e_spec_l1Cur_spoiltJob : enterG P (G 192) 192 = some (c_spec_l1Cur_spoiltJob, 30, #[.cell 4 109]) := by kernel_rfl
noncomputable def c_spec_l1Cur_someJobs : Code := Go.Proofs.Try.f158.body.getD .skip
abbrev n_spec_l1Cur_someJobs : FuncId := 158
theorem g_spec_l1Cur_someJobs : G 158 = ⟨[(4, [0, 1, 2, 7, 8]), (11, [0, 1, 7])], [], []⟩ := rfl
attribute [simp] c_spec_l1Cur_someJobs g_spec_l1Cur_someJobs Go.Proofs.Try.f158
theorem e_spec_l1Cur_someJobs : enterG P (G 158) 158 = some (c_spec_l1Cur_someJobs, 71, #[.tmp 6]) := by kernel_rfl
noncomputable def c_spec_l1Cur_jobs : Code := Go.Proofs.Try.f76.body.getD .skip
abbrev n_spec_l1Cur_jobs : FuncId := 76
theorem g_spec_l1Cur_jobs : G 76 = ⟨[], [], []⟩ := rfl
attribute [simp] c_spec_l1Cur_jobs g_spec_l1Cur_jobs Go.Proofs.Try.f76
theorem e_spec_l1Cur_jobs : enterG P (G 76) 76 = some (c_spec_l1Cur_jobs, 7, #[.tmp 2]) := by kernel_rfl
noncomputable def c_spec_l1Cur_order : Code := Go.Proofs.Try.f77.body.getD .skip
abbrev n_spec_l1Cur_order : FuncId := 77
theorem g_spec_l1Cur_order : G 77 = ⟨[(3, [0, 1, 5, 6])], [], [(6, 11, [(7, 4)])]⟩ := rfl
attribute [simp] c_spec_l1Cur_order g_spec_l1Cur_order Go.Proofs.Try.f77
theorem e_spec_l1Cur_order : enterG P (G 77) 77 = some (c_spec_l1Cur_order, 41, #[.tmp 4]) := by kernel_rfl
noncomputable def c_spec_l1Cur_objective : Code := Go.Proofs.Try.f78.body.getD .skip
abbrev n_spec_l1Cur_objective : FuncId := 78
theorem g_spec_l1Cur_objective : G 78 = ⟨[], [], []⟩ := rfl
attribute [simp] c_spec_l1Cur_objective g_spec_l1Cur_objective Go.Proofs.Try.f78
theorem e_spec_l1Cur_objective : enterG P (G 78) 78 = some (c_spec_l1Cur_objective, 11, #[.tmp 2]) := by kernel_rfl
noncomputable def c_spec_DrawExchangeDown : Code := Go.Proofs.Try.f10.body.getD .skip
abbrev n_spec_DrawExchangeDown : FuncId := 10
theorem g_spec_DrawExchangeDown : G 10 = ⟨[], [], []⟩ := rfl
attribute [simp] c_spec_DrawExchangeDown g_spec_DrawExchangeDown Go.Proofs.Try.f10
theorem e_spec_DrawExchangeDown : enterG P (G 10) 10 = some (c_spec_DrawExchangeDown, 19, #[.tmp 2, .tmp 3, .tmp 4]) := by kernel_rfl
noncomputable def c_impl_within : Code := Go.Proofs.Try.f110.body.getD .skip
abbrev n_impl_within : FuncId := 110
theorem g_impl_within : G 110 = ⟨[], [], []⟩ := rfl
attribute [simp] c_impl_within g_impl_within Go.Proofs.Try.f110
theorem e_impl_within : enterG P (G 110) 110 = some (c_impl_within, 15, #[.tmp 6]) := by kernel_rfl
noncomputable def c_impl_isDate : Code := Go.Proofs.Try.f164.body.getD .skip
abbrev n_impl_isDate : FuncId := 164
theorem g_impl_isDate : G 164 = ⟨[], [], []⟩ := rfl
attribute [simp] c_impl_isDate g_impl_isDate Go.Proofs.Try.f164
theorem e_impl_isDate : enterG P (G 164) 164 = some (c_impl_isDate, 5, #[.tmp 2]) := by kernel_rfl
noncomputable def c_impl_IsJobs : Code := Go.Proofs.Try.f84.body.getD .skip
abbrev n_impl_IsJobs : FuncId := 84
theorem g_impl_IsJobs : G 84 = ⟨[(4, [8, 9, 10])], [], []⟩ := rfl
attribute [simp] c_impl_IsJobs g_impl_IsJobs Go.Proofs.Try.f84
theorem e_impl_IsJobs : enterG P (G 84) 84 = some (c_impl_IsJobs, 37, #[.tmp 2]) := by kernel_rfl
noncomputable def c_impl_isNumber : Code := Go.Proofs.Try.f116.body.getD .skip
abbrev n_impl_isNumber : FuncId := 116
theorem g_impl_isNumber : G 116 = ⟨[], [], []⟩ := rfl
attribute [simp] c_impl_isNumber g_impl_isNumber Go.Proofs.Try.f116
theorem e_impl_isNumber : enterG P (G 116) 116 = some (c_impl_isNumber, 9, #[.tmp 4]) := by kernel_rfl
noncomputable def c_impl_has : Code := Go.Proofs.Try.f195.body.getD .skip
abbrev n_impl_has : FuncId := 195
theorem g_impl_has : G 195 = ⟨[(2, [1, 7, 8, 9])], [], []⟩ := rfl
attribute [simp] c_impl_has g_impl_has Go.Proofs.Try.f195
theorem e_impl_has : enterG P (G 195) 195 = some (c_impl_has, 17, #[.tmp 4]) := by kernel_rfl
noncomputable def c_impl_areDifferent : Code := Go.Proofs.Try.f170.body.getD .skip
abbrev n_impl_areDifferent : FuncId := 170
theorem g_impl_areDifferent : G 170 = ⟨[(2, [0, 1, 7, 8, 9])], [], []⟩ := rfl
attribute [simp] c_impl_areDifferent g_impl_areDifferent Go.Proofs.Try.f170
theorem e_impl_areDifferent : enterG P (G 170) 170 = some (c_impl_areDifferent, 26, #[.tmp 4]) := by kernel_rfl
noncomputable def c_impl_isOrder : Code := Go.Proofs.Try.f99.body.getD .skip
abbrev n_impl_isOrder : FuncId := 99
theorem g_impl_isOrder : G 99 = ⟨[], [], []⟩ := rfl
attribute [simp] c_impl_isOrder g_impl_isOrder Go.Proofs.Try.f99
theorem e_impl_isOrder : enterG P (G 99) 99 = some (c_impl_isOrder, 14, #[.tmp 4]) := by kernel_rfl
noncomputable def c_impl_isScheduled : Code := Go.Proofs.Try.f159.body.getD .skip
abbrev n_impl_isScheduled : FuncId := 159
theorem g_impl_isScheduled : G 159 = ⟨[], [], []⟩ := rfl
attribute [simp] c_impl_isScheduled g_impl_isScheduled Go.Proofs.Try.f159
theorem e_impl_isScheduled : enterG P (G 159) 159 = some (c_impl_isScheduled, 13, #[.tmp 4]) := by kernel_rfl
noncomputable def c_impl_isObjective : Code := Go.Proofs.Try.f85.body.getD .skip
abbrev n_impl_isObjective : FuncId := 85
theorem g_impl_isObjective : G 85 = ⟨[], [], []⟩ := rfl
attribute [simp] c_impl_isObjective g_impl_isObjective Go.Proofs.Try.f85
theorem e_impl_isObjective : enterG P (G 85) 85 = some (c_impl_isObjective, 5, #[.tmp 2]) := by kernel_rfl
noncomputable def c_impl_isValued : Code := Go.Proofs.Try.f79.body.getD .skip
abbrev n_impl_isValued : FuncId := 79
theorem g_impl_isValued : G 79 = ⟨[], [], []⟩ := rfl
attribute [simp] c_impl_isValued g_impl_isValued Go.Proofs.Try.f79
theorem e_impl_isValued : enterG P (G 79) 79 = some (c_impl_isValued, 14, #[.tmp 6]) := by kernel_rfl
noncomputable def c_impl_endsOf : Code := Go.Proofs.Try.f161.body.getD .skip
abbrev n_impl_endsOf : FuncId := 161
theorem g_impl_endsOf : G 161 = ⟨[(4, [0, 5, 6, 12, 13, 14])], [(6, 12)], []⟩ := rfl
attribute [simp] c_impl_endsOf g_impl_endsOf Go.Proofs.Try.f161
theorem e_impl_endsOf : enterG P (G 161) 161 = some (c_impl_endsOf, 37, #[.tmp 4]) := by kernel_rfl
noncomputable def c_impl_add : Code := Go.Proofs.Try.f144.body.getD .skip
abbrev n_impl_add : FuncId := 144
theorem g_impl_add : G 144 = ⟨[], [], []⟩ := rfl
attribute [simp] c_impl_add g_impl_add Go.Proofs.Try.f144
theorem e_impl_add : enterG P (G 144) 144 = some (c_impl_add, 70, #[.tmp 10]) := by kernel_rfl
noncomputable def c_impl_valueOfEnds : Code := Go.Proofs.Try.f160.body.getD .skip
abbrev n_impl_valueOfEnds : FuncId := 160
theorem g_impl_valueOfEnds : G 160 = ⟨[(3, [1, 2, 7, 10, 11, 12])], [(5, 9)], []⟩ := rfl
attribute [simp] c_impl_valueOfEnds g_impl_valueOfEnds Go.Proofs.Try.f160
theorem e_impl_valueOfEnds : enterG P (G 160) 160 = some (c_impl_valueOfEnds, 29, #[.tmp 6]) := by kernel_rfl
noncomputable def c_impl_valueOf : Code := Go.Proofs.Try.f80.body.getD .skip
abbrev n_impl_valueOf : FuncId := 80
theorem g_impl_valueOf : G 80 = ⟨[], [], []⟩ := rfl
attribute [simp] c_impl_valueOf g_impl_valueOf Go.Proofs.Try.f80
theorem e_impl_valueOf : enterG P (G 80) 80 = some (c_impl_valueOf, 13, #[.tmp 6]) := by kernel_rfl
noncomputable def c_impl_ValueOf : Code := Go.Proofs.Try.f11.body.getD .skip
abbrev n_impl_ValueOf : FuncId := 11
theorem g_impl_ValueOf : G 11 = ⟨[], [], []⟩ := rfl
attribute [simp] c_impl_ValueOf g_impl_ValueOf Go.Proofs.Try.f11
theorem e_impl_ValueOf : enterG P (G 11) 11 = some (c_impl_ValueOf, 17, #[.tmp 6, .tmp 7]) := by kernel_rfl
noncomputable def c_spec_l1In : Code := Go.Proofs.Try.f113.body.getD .skip
abbrev n_spec_l1In : FuncId := 113
theorem g_spec_l1In : G 113 = ⟨[], [], []⟩ := rfl
attribute [simp] c_spec_l1In g_spec_l1In Go.Proofs.Try.f113
theorem e_spec_l1In : enterG P (G 113) 113 = some (c_spec_l1In, 15, #[.tmp 6]) := by kernel_rfl
noncomputable def c_spec_l2Job : Code := Go.Proofs.Try.f167.body.getD .skip
abbrev n_spec_l2Job : FuncId := 167
theorem g_spec_l2Job : G 167 = ⟨[], [], []⟩ := rfl
attribute [simp] c_spec_l2Job g_spec_l2Job Go.Proofs.Try.f167
theorem e_spec_l2Job : enterG P (G 167) 167 = some (c_spec_l2Job, 21, #[.tmp 2]) := by kernel_rfl
noncomputable def c_spec_l2Good : Code := Go.Proofs.Try.f87.body.getD .skip
abbrev n_spec_l2Good : FuncId := 87
theorem g_spec_l2Good : G 87 = ⟨[(2, [0, 3])], [], []⟩ := rfl
attribute [simp] c_spec_l2Good g_spec_l2Good Go.Proofs.Try.f87
theorem e_spec_l2Good : enterG P (G 87) 87 = some (c_spec_l2Good, 19, #[.tmp 2]) := by kernel_rfl
noncomputable def c_spec_l1Has : Code := Go.Proofs.Try.f172.body.getD .skip
abbrev n_spec_l1Has : FuncId := 172
theorem g_spec_l1Has : G 172 = ⟨[(2, [0, 1, 5])], [], []⟩ := rfl
attribute [simp] c_spec_l1Has g_spec_l1Has Go.Proofs.Try.f172
theorem e_spec_l1Has : enterG P (G 172) 172 = some (c_spec_l1Has, 18, #[.tmp 4]) := by kernel_rfl
noncomputable def c_spec_l2Order : Code := Go.Proofs.Try.f117.body.getD .skip
abbrev n_spec_l2Order : FuncId := 117
theorem g_spec_l2Order : G 117 = ⟨[(4, [0, 1, 5])], [], []⟩ := rfl
attribute [simp] c_spec_l2Order g_spec_l2Order Go.Proofs.Try.f117
theorem e_spec_l2Order : enterG P (G 117) 117 = some (c_spec_l2Order, 24, #[.tmp 4]) := by kernel_rfl
noncomputable def c_spec_l2Two : Code := Go.Proofs.Try.f81.body.getD .skip
abbrev n_spec_l2Two : FuncId := 81
theorem g_spec_l2Two : G 81 = ⟨[], [], []⟩ := rfl
attribute [simp] c_spec_l2Two g_spec_l2Two Go.Proofs.Try.f81
theorem e_spec_l2Two : enterG P (G 81) 81 = some (c_spec_l2Two, 13, #[.tmp 4]) := by kernel_rfl
noncomputable def c_spec_l2Objective : Code := Go.Proofs.Try.f82.body.getD .skip
abbrev n_spec_l2Objective : FuncId := 82
theorem g_spec_l2Objective : G 82 = ⟨[], [], []⟩ := rfl
attribute [simp] c_spec_l2Objective g_spec_l2Objective Go.Proofs.Try.f82
theorem e_spec_l2Objective : enterG P (G 82) 82 = some (c_spec_l2Objective, 5, #[.tmp 2]) := by kernel_rfl
noncomputable def c_spec_l1Most : Code := Go.Proofs.Try.f198.body.getD .skip
abbrev n_spec_l1Most : FuncId := 198
theorem g_spec_l1Most : G 198 = ⟨[], [], []⟩ := rfl
attribute [simp] c_spec_l1Most g_spec_l1Most Go.Proofs.Try.f198
theorem e_spec_l1Most : enterG P (G 198) 198 = some (c_spec_l1Most, 10, #[.tmp 4]) := by kernel_rfl
noncomputable def c_spec_l2Starts : Code := Go.Proofs.Try.f193.body.getD .skip
abbrev n_spec_l2Starts : FuncId := 193
theorem g_spec_l2Starts : G 193 = ⟨[(3, [0, 1, 5, 6, 7])], [(5, 15), (6, 15)], []⟩ := rfl
attribute [simp] c_spec_l2Starts g_spec_l2Starts Go.Proofs.Try.f193
theorem e_spec_l2Starts : enterG P (G 193) 193 = some (c_spec_l2Starts, 50, #[.tmp 4]) := by kernel_rfl
noncomputable def c_spec_l2Ends : Code := Go.Proofs.Try.f163.body.getD .skip
abbrev n_spec_l2Ends : FuncId := 163
theorem g_spec_l2Ends : G 163 = ⟨[(3, [0, 5, 6])], [(5, 12)], []⟩ := rfl
attribute [simp] c_spec_l2Ends g_spec_l2Ends Go.Proofs.Try.f163
theorem e_spec_l2Ends : enterG P (G 163) 163 = some (c_spec_l2Ends, 30, #[.tmp 4]) := by kernel_rfl
noncomputable def c_spec_l2Greatest : Code := Go.Proofs.Try.f185.body.getD .skip
abbrev n_spec_l2Greatest : FuncId := 185
theorem g_spec_l2Greatest : G 185 = ⟨[], [], []⟩ := rfl
attribute [simp] c_spec_l2Greatest g_spec_l2Greatest Go.Proofs.Try.f185
theorem e_spec_l2Greatest : enterG P (G 185) 185 = some (c_spec_l2Greatest, 9, #[.tmp 2]) := by kernel_rfl
noncomputable def c_spec_l2Cost : Code := Go.Proofs.Try.f186.body.getD .skip
abbrev n_spec_l2Cost : FuncId := 186
theorem g_spec_l2Cost : G 186 = ⟨[], [], []⟩ := rfl
attribute [simp] c_spec_l2Cost g_spec_l2Cost Go.Proofs.Try.f186
theorem e_spec_l2Cost : enterG P (G 186) 186 = some (c_spec_l2Cost, 38, #[.tmp 6]) := by kernel_rfl
noncomputable def c_spec_l2Of : Code := Go.Proofs.Try.f162.body.getD .skip
abbrev n_spec_l2Of : FuncId := 162
theorem g_spec_l2Of : G 162 = ⟨[(3, [0, 1, 2, 7, 8])], [(6, 11)], []⟩ := rfl
attribute [simp] c_spec_l2Of g_spec_l2Of Go.Proofs.Try.f162
theorem e_spec_l2Of : enterG P (G 162) 162 = some (c_spec_l2Of, 53, #[.tmp 6]) := by kernel_rfl
noncomputable def c_spec_l2Value : Code := Go.Proofs.Try.f83.body.getD .skip
abbrev n_spec_l2Value : FuncId := 83
theorem g_spec_l2Value : G 83 = ⟨[], [], []⟩ := rfl
attribute [simp] c_spec_l2Value g_spec_l2Value Go.Proofs.Try.f83
theorem e_spec_l2Value : enterG P (G 83) 83 = some (c_spec_l2Value, 13, #[.tmp 6]) := by kernel_rfl
noncomputable def c_spec_ValueOf : Code := Go.Proofs.Try.f12.body.getD .skip
abbrev n_spec_ValueOf : FuncId := 12
theorem g_spec_ValueOf : G 12 = ⟨[], [], []⟩ := rfl
attribute [simp] c_spec_ValueOf g_spec_ValueOf Go.Proofs.Try.f12
theorem e_spec_ValueOf : enterG P (G 12) 12 = some (c_spec_ValueOf, 21, #[.tmp 6, .tmp 7]) := by kernel_rfl
noncomputable def c_impl_copyInts : Code := Go.Proofs.Try.f91.body.getD .skip
abbrev n_impl_copyInts : FuncId := 91
theorem g_impl_copyInts : G 91 = ⟨[], [], []⟩ := rfl
attribute [simp] c_impl_copyInts g_impl_copyInts Go.Proofs.Try.f91
theorem e_impl_copyInts : enterG P (G 91) 91 = some (c_impl_copyInts, 6, #[.tmp 2]) := by kernel_rfl
noncomputable def c_impl_best_1 : Code := Go.Proofs.Try.f166.body.getD .skip
abbrev n_impl_best_1 : FuncId := 166
theorem g_impl_best_1 : G 166 = ⟨[], [], []⟩ := rfl
attribute [simp] c_impl_best_1 g_impl_best_1 Go.Proofs.Try.f166
theorem e_impl_best_1 : enterG P (G 166) 166 = some (c_impl_best_1, 29, #[]) := by kernel_rfl
noncomputable def c_impl_numbersTo : Code := Go.Proofs.Try.f134.body.getD .skip
abbrev n_impl_numbersTo : FuncId := 134
theorem g_impl_numbersTo : G 134 = ⟨[(3, [0, 3, 4])], [], []⟩ := rfl
attribute [simp] c_impl_numbersTo g_impl_numbersTo Go.Proofs.Try.f134
theorem e_impl_numbersTo : enterG P (G 134) 134 = some (c_impl_numbersTo, 15, #[.tmp 2]) := by kernel_rfl
noncomputable def c_impl_nextOrder : Code := Go.Proofs.Try.f194.body.getD .skip
abbrev n_impl_nextOrder : FuncId := 194
theorem g_impl_nextOrder : G 194 = ⟨[(2, [0, 3]), (7, [0, 3, 4]), (11, [0, 5, 6])], [(2, 12), (7, 8), (9, 13), (13, 13)], []⟩ := rfl
attribute [simp] c_impl_nextOrder g_impl_nextOrder Go.Proofs.Try.f194
theorem e_impl_nextOrder : enterG P (G 194) 194 = some (c_impl_nextOrder, 82, #[.tmp 2]) := by kernel_rfl
noncomputable def c_impl_eachOrder : Code := Go.Proofs.Try.f165.body.getD .skip
abbrev n_impl_eachOrder : FuncId := 165
theorem g_impl_eachOrder : G 165 = ⟨[(1, [1, 4])], [], []⟩ := rfl
attribute [simp] c_impl_eachOrder g_impl_eachOrder Go.Proofs.Try.f165
theorem e_impl_eachOrder : enterG P (G 165) 165 = some (c_impl_eachOrder, 13, #[]) := by kernel_rfl
noncomputable def c_impl_best : Code := Go.Proofs.Try.f86.body.getD .skip
abbrev n_impl_best : FuncId := 86
theorem g_impl_best : G 86 = ⟨[], [(4, 5)], []⟩ := rfl
attribute [simp] c_impl_best g_impl_best Go.Proofs.Try.f86
theorem e_impl_best : enterG P (G 86) 86 = some (c_impl_best, 17, #[.tmp 4, .tmp 5, .tmp 6]) := by kernel_rfl
noncomputable def c_impl_BestOrder : Code := Go.Proofs.Try.f13.body.getD .skip
abbrev n_impl_BestOrder : FuncId := 13
theorem g_impl_BestOrder : G 13 = ⟨[], [], []⟩ := rfl
attribute [simp] c_impl_BestOrder g_impl_BestOrder Go.Proofs.Try.f13
theorem e_impl_BestOrder : enterG P (G 13) 13 = some (c_impl_BestOrder, 25, #[.tmp 4, .tmp 5]) := by kernel_rfl
noncomputable def c_spec_l1Own : Code := Go.Proofs.Try.f94.body.getD .skip
abbrev n_spec_l1Own : FuncId := 94
theorem g_spec_l1Own : G 94 = ⟨[], [], []⟩ := rfl
attribute [simp] c_spec_l1Own g_spec_l1Own Go.Proofs.Try.f94
theorem e_spec_l1Own : enterG P (G 94) 94 = some (c_spec_l1Own, 6, #[.tmp 2]) := by kernel_rfl
noncomputable def c_spec_l2Try : Code := Go.Proofs.Try.f168.body.getD .skip
abbrev n_spec_l2Try : FuncId := 168
theorem g_spec_l2Try : G 168 = ⟨[(9, [0, 1, 2, 7, 8, 10])], [], [(12, 8, [(5, 2)])]⟩ := rfl
attribute [simp] c_spec_l2Try g_spec_l2Try Go.Proofs.Try.f168
theorem e_spec_l2Try : enterG P (G 168) 168 = some (c_spec_l2Try, 62, #[.cell 8 90]) := by kernel_rfl
noncomputable def c_spec_l2All : Code := Go.Proofs.Try.f90.body.getD .skip
abbrev n_spec_l2All : FuncId := 90
theorem g_spec_l2All : G 90 = ⟨[], [], []⟩ := rfl
attribute [simp] c_spec_l2All g_spec_l2All Go.Proofs.Try.f90
theorem e_spec_l2All : enterG P (G 90) 90 = some (c_spec_l2All, 10, #[.cell 4 90]) := by kernel_rfl
noncomputable def c_spec_l2Best : Code := Go.Proofs.Try.f88.body.getD .skip
abbrev n_spec_l2Best : FuncId := 88
theorem g_spec_l2Best : G 88 = ⟨[], [(2, 5)], []⟩ := rfl
attribute [simp] c_spec_l2Best g_spec_l2Best Go.Proofs.Try.f88
theorem e_spec_l2Best : enterG P (G 88) 88 = some (c_spec_l2Best, 14, #[.tmp 4, .tmp 5]) := by kernel_rfl
noncomputable def c_spec_BestOrder : Code := Go.Proofs.Try.f14.body.getD .skip
abbrev n_spec_BestOrder : FuncId := 14
theorem g_spec_BestOrder : G 14 = ⟨[], [], []⟩ := rfl
attribute [simp] c_spec_BestOrder g_spec_BestOrder Go.Proofs.Try.f14
theorem e_spec_BestOrder : enterG P (G 14) 14 = some (c_spec_BestOrder, 24, #[.tmp 4, .tmp 5]) := by kernel_rfl
noncomputable def c_laws_rInts : Code := Go.Proofs.Try.f15.body.getD .skip
abbrev n_laws_rInts : FuncId := 15
theorem g_laws_rInts : G 15 = ⟨[(4, [0, 1, 5])], [(6, 8)], []⟩ := rfl
attribute [simp] c_laws_rInts g_laws_rInts Go.Proofs.Try.f15
theorem e_laws_rInts : enterG P (G 15) 15 = some (c_laws_rInts, 26, #[.tmp 4]) := by kernel_rfl
noncomputable def c_impl_BestValue : Code := Go.Proofs.Try.f74.body.getD .skip
abbrev n_impl_BestValue : FuncId := 74
theorem g_impl_BestValue : G 74 = ⟨[], [], []⟩ := rfl
attribute [simp] c_impl_BestValue g_impl_BestValue Go.Proofs.Try.f74
theorem e_impl_BestValue : enterG P (G 74) 74 = some (c_impl_BestValue, 25, #[.tmp 4, .tmp 5]) := by kernel_rfl
noncomputable def c_spec_BestValue : Code := Go.Proofs.Try.f89.body.getD .skip
abbrev n_spec_BestValue : FuncId := 89
theorem g_spec_BestValue : G 89 = ⟨[], [], []⟩ := rfl
attribute [simp] c_spec_BestValue g_spec_BestValue Go.Proofs.Try.f89
theorem e_spec_BestValue : enterG P (G 89) 89 = some (c_spec_BestValue, 23, #[.tmp 4, .tmp 5]) := by kernel_rfl
noncomputable def c_laws_rBest : Code := Go.Proofs.Try.f16.body.getD .skip
abbrev n_laws_rBest : FuncId := 16
theorem g_laws_rBest : G 16 = ⟨[], [], []⟩ := rfl
attribute [simp] c_laws_rBest g_laws_rBest Go.Proofs.Try.f16
theorem e_laws_rBest : enterG P (G 16) 16 = some (c_laws_rBest, 31, #[.tmp 4, .tmp 5]) := by kernel_rfl
noncomputable def c_impl_CountBest : Code := Go.Proofs.Try.f17.body.getD .skip
abbrev n_impl_CountBest : FuncId := 17
theorem g_impl_CountBest : G 17 = ⟨[], [], []⟩ := rfl
attribute [simp] c_impl_CountBest g_impl_CountBest Go.Proofs.Try.f17
theorem e_impl_CountBest : enterG P (G 17) 17 = some (c_impl_CountBest, 25, #[.tmp 4, .tmp 5]) := by kernel_rfl
noncomputable def c_spec_CountBest : Code := Go.Proofs.Try.f18.body.getD .skip
abbrev n_spec_CountBest : FuncId := 18
theorem g_spec_CountBest : G 18 = ⟨[], [], []⟩ := rfl
attribute [simp] c_spec_CountBest g_spec_CountBest Go.Proofs.Try.f18
theorem e_spec_CountBest : enterG P (G 18) 18 = some (c_spec_CountBest, 18, #[.tmp 4, .tmp 5]) := by kernel_rfl
noncomputable def c_impl_exchanged : Code := Go.Proofs.Try.f93.body.getD .skip
abbrev n_impl_exchanged : FuncId := 93
theorem g_impl_exchanged : G 93 = ⟨[], [(2, 15)], []⟩ := rfl
attribute [simp] c_impl_exchanged g_impl_exchanged Go.Proofs.Try.f93
theorem e_impl_exchanged : enterG P (G 93) 93 = some (c_impl_exchanged, 25, #[.tmp 4]) := by kernel_rfl
noncomputable def c_impl_gain : Code := Go.Proofs.Try.f112.body.getD .skip
abbrev n_impl_gain : FuncId := 112
theorem g_impl_gain : G 112 = ⟨[], [], []⟩ := rfl
attribute [simp] c_impl_gain g_impl_gain Go.Proofs.Try.f112
theorem e_impl_gain : enterG P (G 112) 112 = some (c_impl_gain, 20, #[.tmp 8]) := by kernel_rfl
noncomputable def c_impl_nextExchange : Code := Go.Proofs.Try.f92.body.getD .skip
abbrev n_impl_nextExchange : FuncId := 92
theorem g_impl_nextExchange : G 92 = ⟨[(2, [0, 1, 2, 7])], [], []⟩ := rfl
attribute [simp] c_impl_nextExchange g_impl_nextExchange Go.Proofs.Try.f92
theorem e_impl_nextExchange : enterG P (G 92) 92 = some (c_impl_nextExchange, 22, #[.tmp 6]) := by kernel_rfl
noncomputable def c_impl_ExchangeDown : Code := Go.Proofs.Try.f19.body.getD .skip
abbrev n_impl_ExchangeDown : FuncId := 19
theorem g_impl_ExchangeDown : G 19 = ⟨[(5, [0, 2, 9, 10, 11])], [], []⟩ := rfl
attribute [simp] c_impl_ExchangeDown g_impl_ExchangeDown Go.Proofs.Try.f19
theorem e_impl_ExchangeDown : enterG P (G 19) 19 = some (c_impl_ExchangeDown, 36, #[.tmp 6, .tmp 7, .tmp 8]) := by kernel_rfl
noncomputable def c_spec_l2Swap : Code := Go.Proofs.Try.f96.body.getD .skip
abbrev n_spec_l2Swap : FuncId := 96
theorem g_spec_l2Swap : G 96 = ⟨[], [], []⟩ := rfl
attribute [simp] c_spec_l2Swap g_spec_l2Swap Go.Proofs.Try.f96
theorem e_spec_l2Swap : enterG P (G 96) 96 = some (c_spec_l2Swap, 25, #[.tmp 4]) := by kernel_rfl
noncomputable def c_spec_l2Gain : Code := Go.Proofs.Try.f114.body.getD .skip
abbrev n_spec_l2Gain : FuncId := 114
theorem g_spec_l2Gain : G 114 = ⟨[], [], []⟩ := rfl
attribute [simp] c_spec_l2Gain g_spec_l2Gain Go.Proofs.Try.f114
theorem e_spec_l2Gain : enterG P (G 114) 114 = some (c_spec_l2Gain, 20, #[.tmp 8]) := by kernel_rfl
noncomputable def c_spec_l2Next : Code := Go.Proofs.Try.f95.body.getD .skip
abbrev n_spec_l2Next : FuncId := 95
theorem g_spec_l2Next : G 95 = ⟨[(2, [0, 1, 2, 7])], [], []⟩ := rfl
attribute [simp] c_spec_l2Next g_spec_l2Next Go.Proofs.Try.f95
theorem e_spec_l2Next : enterG P (G 95) 95 = some (c_spec_l2Next, 22, #[.tmp 6]) := by kernel_rfl
noncomputable def c_spec_ExchangeDown : Code := Go.Proofs.Try.f20.body.getD .skip
abbrev n_spec_ExchangeDown : FuncId := 20
theorem g_spec_ExchangeDown : G 20 = ⟨[(5, [0, 2, 9, 10, 11])], [], []⟩ := rfl
attribute [simp] c_spec_ExchangeDown g_spec_ExchangeDown Go.Proofs.Try.f20
theorem e_spec_ExchangeDown : enterG P (G 20) 20 = some (c_spec_ExchangeDown, 41, #[.tmp 6, .tmp 7, .tmp 8]) := by kernel_rfl
noncomputable def c_impl_IsBestOrder : Code := Go.Proofs.Try.f21.body.getD .skip
abbrev n_impl_IsBestOrder : FuncId := 21
theorem g_impl_IsBestOrder : G 21 = ⟨[], [], []⟩ := rfl
attribute [simp] c_impl_IsBestOrder g_impl_IsBestOrder Go.Proofs.Try.f21
theorem e_impl_IsBestOrder : enterG P (G 21) 21 = some (c_impl_IsBestOrder, 29, #[.tmp 6, .tmp 7]) := by kernel_rfl
noncomputable def c_impl_NextExchange : Code := Go.Proofs.Try.f22.body.getD .skip
abbrev n_impl_NextExchange : FuncId := 22
theorem g_impl_NextExchange : G 22 = ⟨[], [], []⟩ := rfl
attribute [simp] c_impl_NextExchange g_impl_NextExchange Go.Proofs.Try.f22
theorem e_impl_NextExchange : enterG P (G 22) 22 = some (c_impl_NextExchange, 21, #[.tmp 6, .tmp 7]) := by kernel_rfl
noncomputable def c_laws_FnBestOrders : Code := Go.Proofs.Try.f3.body.getD .skip
abbrev n_laws_FnBestOrders : FuncId := 3
theorem g_laws_FnBestOrders : G 3 = ⟨[], [], []⟩ := rfl
attribute [simp] c_laws_FnBestOrders g_laws_FnBestOrders Go.Proofs.Try.f3
theorem e_laws_FnBestOrders : enterG P (G 3) 3 = some (c_laws_FnBestOrders, 241, #[.tmp 2]) := by kernel_rfl
noncomputable def c_spec_l1Cur_scenarios : Code := Go.Proofs.Try.f169.body.getD .skip
abbrev n_spec_l1Cur_scenarios : FuncId := 169
theorem g_spec_l1Cur_scenarios : G 169 = ⟨[(4, [0, 3, 4, 5]), (8, [0, 3, 4, 5, 6, 7]), (18, [3, 4])], [], []⟩ := rfl
attribute [simp] c_spec_l1Cur_scenarios g_spec_l1Cur_scenarios Go.Proofs.Try.f169
theorem e_spec_l1Cur_scenarios : enterG P (G 169) 169 = some (c_spec_l1Cur_scenarios, 75, #[.tmp 2]) := by kernel_rfl
noncomputable def c_spec_DrawScenarioValues : Code := Go.Proofs.Try.f97.body.getD .skip
abbrev n_spec_DrawScenarioValues : FuncId := 97
theorem g_spec_DrawScenarioValues : G 97 = ⟨[], [], []⟩ := rfl
attribute [simp] c_spec_DrawScenarioValues g_spec_DrawScenarioValues Go.Proofs.Try.f97
theorem e_spec_DrawScenarioValues : enterG P (G 97) 97 = some (c_spec_DrawScenarioValues, 26, #[.tmp 2, .tmp 3, .tmp 4]) := by kernel_rfl
noncomputable def c_spec_DrawGreatestRegret : Code := Go.Proofs.Try.f23.body.getD .skip
abbrev n_spec_DrawGreatestRegret : FuncId := 23
theorem g_spec_DrawGreatestRegret : G 23 = ⟨[], [], []⟩ := rfl
attribute [simp] c_spec_DrawGreatestRegret g_spec_DrawGreatestRegret Go.Proofs.Try.f23
theorem e_spec_DrawGreatestRegret : enterG P (G 23) 23 = some (c_spec_DrawGreatestRegret, 10, #[.tmp 2, .tmp 3, .tmp 4]) := by kernel_rfl
noncomputable def c_impl_AreScenarios : Code := Go.Proofs.Try.f34.body.getD .skip
abbrev n_impl_AreScenarios : FuncId := 34
theorem g_impl_AreScenarios : G 34 = ⟨[(4, [0, 9, 10, 11])], [], []⟩ := rfl
attribute [simp] c_impl_AreScenarios g_impl_AreScenarios Go.Proofs.Try.f34
theorem e_impl_AreScenarios : enterG P (G 34) 34 = some (c_impl_AreScenarios, 28, #[.tmp 2]) := by kernel_rfl
noncomputable def c_impl_areRobust : Code := Go.Proofs.Try.f98.body.getD .skip
abbrev n_impl_areRobust : FuncId := 98
theorem g_impl_areRobust : G 98 = ⟨[], [], []⟩ := rfl
attribute [simp] c_impl_areRobust g_impl_areRobust Go.Proofs.Try.f98
theorem e_impl_areRobust : enterG P (G 98) 98 = some (c_impl_areRobust, 11, #[.tmp 4]) := by kernel_rfl
noncomputable def c_impl_scenarioValues : Code := Go.Proofs.Try.f101.body.getD .skip
abbrev n_impl_scenarioValues : FuncId := 101
theorem g_impl_scenarioValues : G 101 = ⟨[(3, [1, 2, 7, 10, 11, 12])], [], []⟩ := rfl
attribute [simp] c_impl_scenarioValues g_impl_scenarioValues Go.Proofs.Try.f101
theorem e_impl_scenarioValues : enterG P (G 101) 101 = some (c_impl_scenarioValues, 25, #[.tmp 6]) := by kernel_rfl
noncomputable def c_impl_bestValues : Code := Go.Proofs.Try.f102.body.getD .skip
abbrev n_impl_bestValues : FuncId := 102
theorem g_impl_bestValues : G 102 = ⟨[(3, [1, 5, 11, 12, 13])], [], []⟩ := rfl
attribute [simp] c_impl_bestValues g_impl_bestValues Go.Proofs.Try.f102
theorem e_impl_bestValues : enterG P (G 102) 102 = some (c_impl_bestValues, 30, #[.tmp 4]) := by kernel_rfl
noncomputable def c_impl_greatest : Code := Go.Proofs.Try.f100.body.getD .skip
abbrev n_impl_greatest : FuncId := 100
theorem g_impl_greatest : G 100 = ⟨[(3, [1, 6, 7, 17, 18, 19])], [(1, 6)], []⟩ := rfl
attribute [simp] c_impl_greatest g_impl_greatest Go.Proofs.Try.f100
theorem e_impl_greatest : enterG P (G 100) 100 = some (c_impl_greatest, 42, #[.tmp 4, .tmp 5]) := by kernel_rfl
noncomputable def c_impl_GreatestRegret : Code := Go.Proofs.Try.f24.body.getD .skip
abbrev n_impl_GreatestRegret : FuncId := 24
theorem g_impl_GreatestRegret : G 24 = ⟨[], [], []⟩ := rfl
attribute [simp] c_impl_GreatestRegret g_impl_GreatestRegret Go.Proofs.Try.f24
theorem e_impl_GreatestRegret : enterG P (G 24) 24 = some (c_impl_GreatestRegret, 37, #[.tmp 6, .tmp 7, .tmp 8]) := by kernel_rfl
noncomputable def c_spec_l11Lists : Code := Go.Proofs.Try.f108.body.getD .skip
abbrev n_spec_l11Lists : FuncId := 108
theorem g_spec_l11Lists : G 108 = ⟨[(2, [0, 3])], [(4, 16)], []⟩ := rfl
attribute [simp] c_spec_l11Lists g_spec_l11Lists Go.Proofs.Try.f108
theorem e_spec_l11Lists : enterG P (G 108) 108 = some (c_spec_l11Lists, 31, #[.tmp 2]) := by kernel_rfl
noncomputable def c_spec_l11Fits : Code := Go.Proofs.Try.f103.body.getD .skip
abbrev n_spec_l11Fits : FuncId := 103
theorem g_spec_l11Fits : G 103 = ⟨[], [], []⟩ := rfl
attribute [simp] c_spec_l11Fits g_spec_l11Fits Go.Proofs.Try.f103
theorem e_spec_l11Fits : enterG P (G 103) 103 = some (c_spec_l11Fits, 21, #[.tmp 6]) := by kernel_rfl
noncomputable def c_spec_l11Values : Code := Go.Proofs.Try.f105.body.getD .skip
abbrev n_spec_l11Values : FuncId := 105
theorem g_spec_l11Values : G 105 = ⟨[(3, [0, 1, 2, 7, 8])], [], []⟩ := rfl
attribute [simp] c_spec_l11Values g_spec_l11Values Go.Proofs.Try.f105
theorem e_spec_l11Values : enterG P (G 105) 105 = some (c_spec_l11Values, 27, #[.tmp 6]) := by kernel_rfl
noncomputable def c_spec_l11Bests : Code := Go.Proofs.Try.f106.body.getD .skip
abbrev n_spec_l11Bests : FuncId := 106
theorem g_spec_l11Bests : G 106 = ⟨[(3, [0, 1, 5, 6])], [], []⟩ := rfl
attribute [simp] c_spec_l11Bests g_spec_l11Bests Go.Proofs.Try.f106
theorem e_spec_l11Bests : enterG P (G 106) 106 = some (c_spec_l11Bests, 30, #[.tmp 4]) := by kernel_rfl
noncomputable def c_spec_l11Worst : Code := Go.Proofs.Try.f104.body.getD .skip
abbrev n_spec_l11Worst : FuncId := 104
theorem g_spec_l11Worst : G 104 = ⟨[(3, [0, 1, 6, 7])], [(5, 18), (7, 11)], []⟩ := rfl
attribute [simp] c_spec_l11Worst g_spec_l11Worst Go.Proofs.Try.f104
theorem e_spec_l11Worst : enterG P (G 104) 104 = some (c_spec_l11Worst, 44, #[.tmp 4, .tmp 5]) := by kernel_rfl
noncomputable def c_spec_GreatestRegret : Code := Go.Proofs.Try.f25.body.getD .skip
abbrev n_spec_GreatestRegret : FuncId := 25
theorem g_spec_GreatestRegret : G 25 = ⟨[], [], []⟩ := rfl
attribute [simp] c_spec_GreatestRegret g_spec_GreatestRegret Go.Proofs.Try.f25
theorem e_spec_GreatestRegret : enterG P (G 25) 25 = some (c_spec_GreatestRegret, 29, #[.tmp 6, .tmp 7, .tmp 8]) := by kernel_rfl
noncomputable def c_impl_ScenarioValues : Code := Go.Proofs.Try.f26.body.getD .skip
abbrev n_impl_ScenarioValues : FuncId := 26
theorem g_impl_ScenarioValues : G 26 = ⟨[], [], []⟩ := rfl
attribute [simp] c_impl_ScenarioValues g_impl_ScenarioValues Go.Proofs.Try.f26
theorem e_impl_ScenarioValues : enterG P (G 26) 26 = some (c_impl_ScenarioValues, 25, #[.tmp 6, .tmp 7]) := by kernel_rfl
noncomputable def c_spec_ScenarioValues : Code := Go.Proofs.Try.f27.body.getD .skip
abbrev n_spec_ScenarioValues : FuncId := 27
theorem g_spec_ScenarioValues : G 27 = ⟨[], [], []⟩ := rfl
attribute [simp] c_spec_ScenarioValues g_spec_ScenarioValues Go.Proofs.Try.f27
theorem e_spec_ScenarioValues : enterG P (G 27) 27 = some (c_spec_ScenarioValues, 18, #[.tmp 6, .tmp 7]) := by kernel_rfl
noncomputable def c_impl_leastGreatest_1 : Code := Go.Proofs.Try.f171.body.getD .skip
abbrev n_impl_leastGreatest_1 : FuncId := 171
theorem g_impl_leastGreatest_1 : G 171 = ⟨[], [(0, 10)], []⟩ := rfl
attribute [simp] c_impl_leastGreatest_1 g_impl_leastGreatest_1 Go.Proofs.Try.f171
theorem e_impl_leastGreatest_1 : enterG P (G 171) 171 = some (c_impl_leastGreatest_1, 29, #[]) := by kernel_rfl
noncomputable def c_impl_leastGreatest : Code := Go.Proofs.Try.f107.body.getD .skip
abbrev n_impl_leastGreatest : FuncId := 107
theorem g_impl_leastGreatest : G 107 = ⟨[], [(4, 3)], []⟩ := rfl
attribute [simp] c_impl_leastGreatest g_impl_leastGreatest Go.Proofs.Try.f107
theorem e_impl_leastGreatest : enterG P (G 107) 107 = some (c_impl_leastGreatest, 19, #[.tmp 6, .tmp 7]) := by kernel_rfl
noncomputable def c_impl_LeastWorst : Code := Go.Proofs.Try.f28.body.getD .skip
abbrev n_impl_LeastWorst : FuncId := 28
theorem g_impl_LeastWorst : G 28 = ⟨[], [], []⟩ := rfl
attribute [simp] c_impl_LeastWorst g_impl_LeastWorst Go.Proofs.Try.f28
theorem e_impl_LeastWorst : enterG P (G 28) 28 = some (c_impl_LeastWorst, 24, #[.tmp 4, .tmp 5, .tmp 6]) := by kernel_rfl
noncomputable def c_spec_l11Least : Code := Go.Proofs.Try.f109.body.getD .skip
abbrev n_spec_l11Least : FuncId := 109
theorem g_spec_l11Least : G 109 = ⟨[(7, [0, 1, 2, 3, 9, 10, 13])], [], [(10, 9, [(5, 2)])]⟩ := rfl
attribute [simp] c_spec_l11Least g_spec_l11Least Go.Proofs.Try.f109
theorem e_spec_l11Least : enterG P (G 109) 109 = some (c_spec_l11Least, 66, #[.cell 10 90]) := by kernel_rfl
noncomputable def c_spec_LeastWorst : Code := Go.Proofs.Try.f29.body.getD .skip
abbrev n_spec_LeastWorst : FuncId := 29
theorem g_spec_LeastWorst : G 29 = ⟨[], [(4, 5)], []⟩ := rfl
attribute [simp] c_spec_LeastWorst g_spec_LeastWorst Go.Proofs.Try.f29
theorem e_spec_LeastWorst : enterG P (G 29) 29 = some (c_spec_LeastWorst, 29, #[.tmp 4, .tmp 5, .tmp 6]) := by kernel_rfl
noncomputable def c_impl_LeastRegret : Code := Go.Proofs.Try.f30.body.getD .skip
abbrev n_impl_LeastRegret : FuncId := 30
theorem g_impl_LeastRegret : G 30 = ⟨[], [], []⟩ := rfl
attribute [simp] c_impl_LeastRegret g_impl_LeastRegret Go.Proofs.Try.f30
theorem e_impl_LeastRegret : enterG P (G 30) 30 = some (c_impl_LeastRegret, 24, #[.tmp 4, .tmp 5, .tmp 6]) := by kernel_rfl
noncomputable def c_spec_LeastRegret : Code := Go.Proofs.Try.f31.body.getD .skip
abbrev n_spec_LeastRegret : FuncId := 31
theorem g_spec_LeastRegret : G 31 = ⟨[], [(4, 5)], []⟩ := rfl
attribute [simp] c_spec_LeastRegret g_spec_LeastRegret Go.Proofs.Try.f31
theorem e_spec_LeastRegret : enterG P (G 31) 31 = some (c_spec_LeastRegret, 29, #[.tmp 4, .tmp 5, .tmp 6]) := by kernel_rfl
noncomputable def c_impl_RegretBound : Code := Go.Proofs.Try.f32.body.getD .skip
abbrev n_impl_RegretBound : FuncId := 32
theorem g_impl_RegretBound : G 32 = ⟨[], [], []⟩ := rfl
attribute [simp] c_impl_RegretBound g_impl_RegretBound Go.Proofs.Try.f32
theorem e_impl_RegretBound : enterG P (G 32) 32 = some (c_impl_RegretBound, 48, #[.tmp 6, .tmp 7]) := by kernel_rfl
noncomputable def c_spec_RegretBound : Code := Go.Proofs.Try.f33.body.getD .skip
abbrev n_spec_RegretBound : FuncId := 33
theorem g_spec_RegretBound : G 33 = ⟨[], [], []⟩ := rfl
attribute [simp] c_spec_RegretBound g_spec_RegretBound Go.Proofs.Try.f33
theorem e_spec_RegretBound : enterG P (G 33) 33 = some (c_spec_RegretBound, 37, #[.tmp 6, .tmp 7]) := by kernel_rfl
noncomputable def c_spec_AreScenarios : Code := Go.Proofs.Try.f35.body.getD .skip
abbrev n_spec_AreScenarios : FuncId := 35
theorem g_spec_AreScenarios : G 35 = ⟨[], [], []⟩ := rfl
attribute [simp] c_spec_AreScenarios g_spec_AreScenarios Go.Proofs.Try.f35
theorem e_spec_AreScenarios : enterG P (G 35) 35 = some (c_spec_AreScenarios, 5, #[.tmp 2]) := by kernel_rfl
noncomputable def c_laws_FnScenarios : Code := Go.Proofs.Try.f4.body.getD .skip
abbrev n_laws_FnScenarios : FuncId := 4
theorem g_laws_FnScenarios : G 4 = ⟨[(30, [3, 5, 6, 7, 12, 17, 22, 23, 28, 32, 33])], [], []⟩ := rfl
attribute [simp] c_laws_FnScenarios g_laws_FnScenarios Go.Proofs.Try.f4
theorem e_laws_FnScenarios : enterG P (G 4) 4 = some (c_laws_FnScenarios, 302, #[.tmp 2]) := by kernel_rfl
noncomputable def c_spec_DrawExchangeGain : Code := Go.Proofs.Try.f36.body.getD .skip
abbrev n_spec_DrawExchangeGain : FuncId := 36
theorem g_spec_DrawExchangeGain : G 36 = ⟨[], [], []⟩ := rfl
attribute [simp] c_spec_DrawExchangeGain g_spec_DrawExchangeGain Go.Proofs.Try.f36
theorem e_spec_DrawExchangeGain : enterG P (G 36) 36 = some (c_spec_DrawExchangeGain, 28, #[.tmp 2, .tmp 3, .tmp 4, .tmp 5]) := by kernel_rfl
noncomputable def c_impl_ExchangeGain : Code := Go.Proofs.Try.f37.body.getD .skip
abbrev n_impl_ExchangeGain : FuncId := 37
theorem g_impl_ExchangeGain : G 37 = ⟨[], [], []⟩ := rfl
attribute [simp] c_impl_ExchangeGain g_impl_ExchangeGain Go.Proofs.Try.f37
theorem e_impl_ExchangeGain : enterG P (G 37) 37 = some (c_impl_ExchangeGain, 28, #[.tmp 8, .tmp 9]) := by kernel_rfl
noncomputable def c_spec_ExchangeGain : Code := Go.Proofs.Try.f38.body.getD .skip
abbrev n_spec_ExchangeGain : FuncId := 38
theorem g_spec_ExchangeGain : G 38 = ⟨[], [], []⟩ := rfl
attribute [simp] c_spec_ExchangeGain g_spec_ExchangeGain Go.Proofs.Try.f38
theorem e_spec_ExchangeGain : enterG P (G 38) 38 = some (c_spec_ExchangeGain, 32, #[.tmp 8, .tmp 9]) := by kernel_rfl
noncomputable def c_impl_IsOrder : Code := Go.Proofs.Try.f115.body.getD .skip
abbrev n_impl_IsOrder : FuncId := 115
theorem g_impl_IsOrder : G 115 = ⟨[], [], []⟩ := rfl
attribute [simp] c_impl_IsOrder g_impl_IsOrder Go.Proofs.Try.f115
theorem e_impl_IsOrder : enterG P (G 115) 115 = some (c_impl_IsOrder, 12, #[.tmp 4]) := by kernel_rfl
noncomputable def c_impl_InsertJob : Code := Go.Proofs.Try.f39.body.getD .skip
abbrev n_impl_InsertJob : FuncId := 39
theorem g_impl_InsertJob : G 39 = ⟨[(6, [0, 1, 2, 9, 30, 31, 32])], [(12, 7)], []⟩ := rfl
attribute [simp] c_impl_InsertJob g_impl_InsertJob Go.Proofs.Try.f39
theorem e_impl_InsertJob : enterG P (G 39) 39 = some (c_impl_InsertJob, 64, #[.tmp 6, .tmp 7]) := by kernel_rfl
noncomputable def c_spec_DrawInsertJob : Code := Go.Proofs.Try.f40.body.getD .skip
abbrev n_spec_DrawInsertJob : FuncId := 40
theorem g_spec_DrawInsertJob : G 40 = ⟨[], [], []⟩ := rfl
attribute [simp] c_spec_DrawInsertJob g_spec_DrawInsertJob Go.Proofs.Try.f40
theorem e_spec_DrawInsertJob : enterG P (G 40) 40 = some (c_spec_DrawInsertJob, 31, #[.tmp 2, .tmp 3, .tmp 4]) := by kernel_rfl
noncomputable def c_spec_InsertJob : Code := Go.Proofs.Try.f41.body.getD .skip
abbrev n_spec_InsertJob : FuncId := 41
theorem g_spec_InsertJob : G 41 = ⟨[], [(4, 8)], [(5, 13, [(9, 3)])]⟩ := rfl
attribute [simp] c_spec_InsertJob g_spec_InsertJob Go.Proofs.Try.f41
theorem e_spec_InsertJob : enterG P (G 41) 41 = some (c_spec_InsertJob, 54, #[.tmp 6, .tmp 7]) := by kernel_rfl
noncomputable def c_spec_l1Cur_manyJobs : Code := Go.Proofs.Try.f118.body.getD .skip
abbrev n_spec_l1Cur_manyJobs : FuncId := 118
theorem g_spec_l1Cur_manyJobs : G 118 = ⟨[], [], []⟩ := rfl
attribute [simp] c_spec_l1Cur_manyJobs g_spec_l1Cur_manyJobs Go.Proofs.Try.f118
theorem e_spec_l1Cur_manyJobs : enterG P (G 118) 118 = some (c_spec_l1Cur_manyJobs, 7, #[.tmp 2]) := by kernel_rfl
noncomputable def c_spec_DrawMirrorJobs : Code := Go.Proofs.Try.f42.body.getD .skip
abbrev n_spec_DrawMirrorJobs : FuncId := 42
theorem g_spec_DrawMirrorJobs : G 42 = ⟨[], [], []⟩ := rfl
attribute [simp] c_spec_DrawMirrorJobs g_spec_DrawMirrorJobs Go.Proofs.Try.f42
theorem e_spec_DrawMirrorJobs : enterG P (G 42) 42 = some (c_spec_DrawMirrorJobs, 13, #[.tmp 2, .tmp 3]) := by kernel_rfl
noncomputable def c_impl_MirrorJobs : Code := Go.Proofs.Try.f43.body.getD .skip
abbrev n_impl_MirrorJobs : FuncId := 43
theorem g_impl_MirrorJobs : G 43 = ⟨[(5, [1, 6, 17, 18, 19])], [], []⟩ := rfl
attribute [simp] c_impl_MirrorJobs g_impl_MirrorJobs Go.Proofs.Try.f43
theorem e_impl_MirrorJobs : enterG P (G 43) 43 = some (c_impl_MirrorJobs, 44, #[.tmp 4, .tmp 5]) := by kernel_rfl
noncomputable def c_spec_MirrorJobs : Code := Go.Proofs.Try.f44.body.getD .skip
abbrev n_spec_MirrorJobs : FuncId := 44
theorem g_spec_MirrorJobs : G 44 = ⟨[(5, [0, 1, 6, 7])], [(7, 27)], []⟩ := rfl
attribute [simp] c_spec_MirrorJobs g_spec_MirrorJobs Go.Proofs.Try.f44
theorem e_spec_MirrorJobs : enterG P (G 44) 44 = some (c_spec_MirrorJobs, 57, #[.tmp 4, .tmp 5]) := by kernel_rfl
noncomputable def c_laws_rJobs : Code := Go.Proofs.Try.f45.body.getD .skip
abbrev n_laws_rJobs : FuncId := 45
theorem g_laws_rJobs : G 45 = ⟨[(4, [0, 1, 5])], [(6, 8)], []⟩ := rfl
attribute [simp] c_laws_rJobs g_laws_rJobs Go.Proofs.Try.f45
theorem e_laws_rJobs : enterG P (G 45) 45 = some (c_laws_rJobs, 26, #[.tmp 4]) := by kernel_rfl
noncomputable def c_impl_text : Code := Go.Proofs.Try.f174.body.getD .skip
abbrev n_impl_text : FuncId := 174
theorem g_impl_text : G 174 = ⟨[(4, [0, 3])], [], []⟩ := rfl
attribute [simp] c_impl_text g_impl_text Go.Proofs.Try.f174
theorem e_impl_text : enterG P (G 174) 174 = some (c_impl_text, 23, #[.tmp 2]) := by kernel_rfl
noncomputable def c_impl_join : Code := Go.Proofs.Try.f121.body.getD .skip
abbrev n_impl_join : FuncId := 121
theorem g_impl_join : G 121 = ⟨[(3, [1, 5, 8, 9, 10])], [], []⟩ := rfl
attribute [simp] c_impl_join g_impl_join Go.Proofs.Try.f121
theorem e_impl_join : enterG P (G 121) 121 = some (c_impl_join, 25, #[.tmp 4]) := by kernel_rfl
noncomputable def c_impl_numberText : Code := Go.Proofs.Try.f120.body.getD .skip
abbrev n_impl_numberText : FuncId := 120
theorem g_impl_numberText : G 120 = ⟨[(3, [1, 5, 8, 9, 10])], [], []⟩ := rfl
attribute [simp] c_impl_numberText g_impl_numberText Go.Proofs.Try.f120
theorem e_impl_numberText : enterG P (G 120) 120 = some (c_impl_numberText, 23, #[.tmp 4]) := by kernel_rfl
noncomputable def c_impl_JobsText : Code := Go.Proofs.Try.f46.body.getD .skip
abbrev n_impl_JobsText : FuncId := 46
theorem g_impl_JobsText : G 46 = ⟨[(7, [4, 13, 14, 15])], [], []⟩ := rfl
attribute [simp] c_impl_JobsText g_impl_JobsText Go.Proofs.Try.f46
theorem e_impl_JobsText : enterG P (G 46) 46 = some (c_impl_JobsText, 35, #[.tmp 2, .tmp 3]) := by kernel_rfl
noncomputable def c_spec_l1Num : Code := Go.Proofs.Try.f175.body.getD .skip
abbrev n_spec_l1Num : FuncId := 175
theorem g_spec_l1Num : G 175 = ⟨[], [(5, 9)], []⟩ := rfl
attribute [simp] c_spec_l1Num g_spec_l1Num Go.Proofs.Try.f175
theorem e_spec_l1Num : enterG P (G 175) 175 = some (c_spec_l1Num, 25, #[.tmp 2]) := by kernel_rfl
noncomputable def c_spec_l2Text : Code := Go.Proofs.Try.f122.body.getD .skip
abbrev n_spec_l2Text : FuncId := 122
theorem g_spec_l2Text : G 122 = ⟨[(3, [0, 3, 4])], [(7, 31)], []⟩ := rfl
attribute [simp] c_spec_l2Text g_spec_l2Text Go.Proofs.Try.f122
theorem e_spec_l2Text : enterG P (G 122) 122 = some (c_spec_l2Text, 51, #[.tmp 2]) := by kernel_rfl
noncomputable def c_spec_JobsText : Code := Go.Proofs.Try.f47.body.getD .skip
abbrev n_spec_JobsText : FuncId := 47
theorem g_spec_JobsText : G 47 = ⟨[], [], []⟩ := rfl
attribute [simp] c_spec_JobsText g_spec_JobsText Go.Proofs.Try.f47
theorem e_spec_JobsText : enterG P (G 47) 47 = some (c_spec_JobsText, 9, #[.tmp 2, .tmp 3]) := by kernel_rfl
noncomputable def c_impl_split : Code := Go.Proofs.Try.f123.body.getD .skip
abbrev n_impl_split : FuncId := 123
theorem g_impl_split : G 123 = ⟨[(4, [0, 1, 5, 6, 7])], [], []⟩ := rfl
attribute [simp] c_impl_split g_impl_split Go.Proofs.Try.f123
theorem e_impl_split : enterG P (G 123) 123 = some (c_impl_split, 34, #[.tmp 4]) := by kernel_rfl
noncomputable def c_impl_number : Code := Go.Proofs.Try.f124.body.getD .skip
abbrev n_impl_number : FuncId := 124
theorem g_impl_number : G 124 = ⟨[(5, [0, 4, 5])], [], []⟩ := rfl
attribute [simp] c_impl_number g_impl_number Go.Proofs.Try.f124
theorem e_impl_number : enterG P (G 124) 124 = some (c_impl_number, 49, #[.tmp 2, .tmp 3]) := by kernel_rfl
noncomputable def c_impl_ParseJobs : Code := Go.Proofs.Try.f48.body.getD .skip
abbrev n_impl_ParseJobs : FuncId := 48
theorem g_impl_ParseJobs : G 48 = ⟨[(5, [4, 16, 17, 18]), (12, [4, 8, 16, 17, 18, 27, 28, 29])], [], []⟩ := rfl
attribute [simp] c_impl_ParseJobs g_impl_ParseJobs Go.Proofs.Try.f48
theorem e_impl_ParseJobs : enterG P (G 48) 48 = some (c_impl_ParseJobs, 62, #[.tmp 2, .tmp 3]) := by kernel_rfl
noncomputable def c_spec_l1Cur_spoilt : Code := Go.Proofs.Try.f126.body.getD .skip
abbrev n_spec_l1Cur_spoilt : FuncId := 126
theorem g_spec_l1Cur_spoilt : G 126 = ⟨[], [(7, 8), (9, 9), (10, 7)], []⟩ := rfl
attribute [simp] c_spec_l1Cur_spoilt g_spec_l1Cur_spoilt Go.Proofs.Try.f126
theorem e_spec_l1Cur_spoilt : enterG P (G 126) 126 = some (c_spec_l1Cur_spoilt, 57, #[.tmp 6]) := by kernel_rfl
noncomputable def c_spec_DrawParseJobs : Code := Go.Proofs.Try.f49.body.getD .skip
abbrev n_spec_DrawParseJobs : FuncId := 49
theorem g_spec_DrawParseJobs : G 49 = ⟨[], [], []⟩ := rfl
attribute [simp] c_spec_DrawParseJobs g_spec_DrawParseJobs Go.Proofs.Try.f49
theorem e_spec_DrawParseJobs : enterG P (G 49) 49 = some (c_spec_DrawParseJobs, 21, #[.tmp 2]) := by kernel_rfl
noncomputable def c_spec_l1Split : Code := Go.Proofs.Try.f127.body.getD .skip
abbrev n_spec_l1Split : FuncId := 127
theorem g_spec_l1Split : G 127 = ⟨[(4, [0, 1, 5, 6, 7])], [], []⟩ := rfl
attribute [simp] c_spec_l1Split g_spec_l1Split Go.Proofs.Try.f127
theorem e_spec_l1Split : enterG P (G 127) 127 = some (c_spec_l1Split, 35, #[.tmp 4]) := by kernel_rfl
noncomputable def c_spec_l1Read : Code := Go.Proofs.Try.f176.body.getD .skip
abbrev n_spec_l1Read : FuncId := 176
theorem g_spec_l1Read : G 176 = ⟨[(8, [0, 4, 5, 6])], [], []⟩ := rfl
attribute [simp] c_spec_l1Read g_spec_l1Read Go.Proofs.Try.f176
theorem e_spec_l1Read : enterG P (G 176) 176 = some (c_spec_l1Read, 58, #[.tmp 2, .tmp 3]) := by kernel_rfl
noncomputable def c_spec_l2Read : Code := Go.Proofs.Try.f128.body.getD .skip
abbrev n_spec_l2Read : FuncId := 128
theorem g_spec_l2Read : G 128 = ⟨[], [], []⟩ := rfl
attribute [simp] c_spec_l2Read g_spec_l2Read Go.Proofs.Try.f128
theorem e_spec_l2Read : enterG P (G 128) 128 = some (c_spec_l2Read, 62, #[.cell 2 109, .tmp 3]) := by kernel_rfl
noncomputable def c_spec_ParseJobs : Code := Go.Proofs.Try.f50.body.getD .skip
abbrev n_spec_ParseJobs : FuncId := 50
theorem g_spec_ParseJobs : G 50 = ⟨[(6, [0, 4, 5, 6])], [], []⟩ := rfl
attribute [simp] c_spec_ParseJobs g_spec_ParseJobs Go.Proofs.Try.f50
theorem e_spec_ParseJobs : enterG P (G 50) 50 = some (c_spec_ParseJobs, 51, #[.tmp 2, .tmp 3]) := by kernel_rfl
noncomputable def c_laws_FnExchanges : Code := Go.Proofs.Try.f5.body.getD .skip
abbrev n_laws_FnExchanges : FuncId := 5
theorem g_laws_FnExchanges : G 5 = ⟨[], [], []⟩ := rfl
attribute [simp] c_laws_FnExchanges g_laws_FnExchanges Go.Proofs.Try.f5
theorem e_laws_FnExchanges : enterG P (G 5) 5 = some (c_laws_FnExchanges, 276, #[.tmp 2]) := by kernel_rfl
noncomputable def c_spec_l1Cur_plainJobs : Code := Go.Proofs.Try.f129.body.getD .skip
abbrev n_spec_l1Cur_plainJobs : FuncId := 129
theorem g_spec_l1Cur_plainJobs : G 129 = ⟨[], [], []⟩ := rfl
attribute [simp] c_spec_l1Cur_plainJobs g_spec_l1Cur_plainJobs Go.Proofs.Try.f129
theorem e_spec_l1Cur_plainJobs : enterG P (G 129) 129 = some (c_spec_l1Cur_plainJobs, 10, #[.tmp 4]) := by kernel_rfl
noncomputable def c_spec_l4Free : Code := Go.Proofs.Try.f177.body.getD .skip
abbrev n_spec_l4Free : FuncId := 177
theorem g_spec_l4Free : G 177 = ⟨[(2, [0, 3])], [], []⟩ := rfl
attribute [simp] c_spec_l4Free g_spec_l4Free Go.Proofs.Try.f177
theorem e_spec_l4Free : enterG P (G 177) 177 = some (c_spec_l4Free, 16, #[.tmp 2]) := by kernel_rfl
noncomputable def c_spec_l6Good : Code := Go.Proofs.Try.f130.body.getD .skip
abbrev n_spec_l6Good : FuncId := 130
theorem g_spec_l6Good : G 130 = ⟨[], [], []⟩ := rfl
attribute [simp] c_spec_l6Good g_spec_l6Good Go.Proofs.Try.f130
theorem e_spec_l6Good : enterG P (G 130) 130 = some (c_spec_l6Good, 9, #[.tmp 2]) := by kernel_rfl
noncomputable def c_spec_l4Set : Code := Go.Proofs.Try.f182.body.getD .skip
abbrev n_spec_l4Set : FuncId := 182
theorem g_spec_l4Set : G 182 = ⟨[(3, [0, 1, 5, 6])], [], []⟩ := rfl
attribute [simp] c_spec_l4Set g_spec_l4Set Go.Proofs.Try.f182
theorem e_spec_l4Set : enterG P (G 182) 182 = some (c_spec_l4Set, 23, #[.tmp 4]) := by kernel_rfl
noncomputable def c_spec_l6All : Code := Go.Proofs.Try.f136.body.getD .skip
abbrev n_spec_l6All : FuncId := 136
theorem g_spec_l6All : G 136 = ⟨[], [], []⟩ := rfl
attribute [simp] c_spec_l6All g_spec_l6All Go.Proofs.Try.f136
theorem e_spec_l6All : enterG P (G 136) 136 = some (c_spec_l6All, 10, #[.tmp 2]) := by kernel_rfl
noncomputable def c_spec_l6Sooner : Code := Go.Proofs.Try.f196.body.getD .skip
abbrev n_spec_l6Sooner : FuncId := 196
theorem g_spec_l6Sooner : G 196 = ⟨[], [(1, 10), (2, 10), (3, 10), (4, 10)], []⟩ := rfl
attribute [simp] c_spec_l6Sooner g_spec_l6Sooner Go.Proofs.Try.f196
theorem e_spec_l6Sooner : enterG P (G 196) 196 = some (c_spec_l6Sooner, 54, #[.tmp 6]) := by kernel_rfl
noncomputable def c_spec_l6Due : Code := Go.Proofs.Try.f178.body.getD .skip
abbrev n_spec_l6Due : FuncId := 178
theorem g_spec_l6Due : G 178 = ⟨[(3, [0, 1, 5, 6]), (6, [0, 1, 5, 6, 7])], [(6, 14)], [(8, 14, [(10, 4)])]⟩ := rfl
attribute [simp] c_spec_l6Due g_spec_l6Due Go.Proofs.Try.f178
theorem e_spec_l6Due : enterG P (G 178) 178 = some (c_spec_l6Due, 49, #[.tmp 4]) := by kernel_rfl
noncomputable def c_spec_l6Latest : Code := Go.Proofs.Try.f131.body.getD .skip
abbrev n_spec_l6Latest : FuncId := 131
theorem g_spec_l6Latest : G 131 = ⟨[], [], []⟩ := rfl
attribute [simp] c_spec_l6Latest g_spec_l6Latest Go.Proofs.Try.f131
theorem e_spec_l6Latest : enterG P (G 131) 131 = some (c_spec_l6Latest, 9, #[.tmp 2]) := by kernel_rfl
noncomputable def c_spec_DrawTimelyAfter : Code := Go.Proofs.Try.f51.body.getD .skip
abbrev n_spec_DrawTimelyAfter : FuncId := 51
theorem g_spec_DrawTimelyAfter : G 51 = ⟨[], [], []⟩ := rfl
attribute [simp] c_spec_DrawTimelyAfter g_spec_DrawTimelyAfter Go.Proofs.Try.f51
theorem e_spec_DrawTimelyAfter : enterG P (G 51) 51 = some (c_spec_DrawTimelyAfter, 31, #[.tmp 2, .tmp 3]) := by kernel_rfl
noncomputable def c_impl_isPlain : Code := Go.Proofs.Try.f179.body.getD .skip
abbrev n_impl_isPlain : FuncId := 179
theorem g_impl_isPlain : G 179 = ⟨[(2, [5, 6, 7])], [], []⟩ := rfl
attribute [simp] c_impl_isPlain g_impl_isPlain Go.Proofs.Try.f179
theorem e_impl_isPlain : enterG P (G 179) 179 = some (c_impl_isPlain, 15, #[.tmp 2]) := by kernel_rfl
noncomputable def c_impl_IsPlain : Code := Go.Proofs.Try.f132.body.getD .skip
abbrev n_impl_IsPlain : FuncId := 132
theorem g_impl_IsPlain : G 132 = ⟨[], [], []⟩ := rfl
attribute [simp] c_impl_IsPlain g_impl_IsPlain Go.Proofs.Try.f132
theorem e_impl_IsPlain : enterG P (G 132) 132 = some (c_impl_IsPlain, 9, #[.tmp 2]) := by kernel_rfl
noncomputable def c_impl_onTime_1 : Code := Go.Proofs.Try.f181.body.getD .skip
abbrev n_impl_onTime_1 : FuncId := 181
theorem g_impl_onTime_1 : G 181 = ⟨[], [(1, 10)], []⟩ := rfl
attribute [simp] c_impl_onTime_1 g_impl_onTime_1 Go.Proofs.Try.f181
theorem e_impl_onTime_1 : enterG P (G 181) 181 = some (c_impl_onTime_1, 17, #[.tmp 5]) := by kernel_rfl
noncomputable def c_impl_sortedBy : Code := Go.Proofs.Try.f180.body.getD .skip
abbrev n_impl_sortedBy : FuncId := 180
theorem g_impl_sortedBy : G 180 = ⟨[(3, [1, 5, 9, 10, 11]), (6, [1, 5, 7, 8, 9, 10, 11])], [(9, 7)], []⟩ := rfl
attribute [simp] c_impl_sortedBy g_impl_sortedBy Go.Proofs.Try.f180
theorem e_impl_sortedBy : enterG P (G 180) 180 = some (c_impl_sortedBy, 48, #[.tmp 4]) := by kernel_rfl
noncomputable def c_impl_onTime : Code := Go.Proofs.Try.f133.body.getD .skip
abbrev n_impl_onTime : FuncId := 133
theorem g_impl_onTime : G 133 = ⟨[(3, [2, 5, 10, 11, 12])], [], []⟩ := rfl
attribute [simp] c_impl_onTime g_impl_onTime Go.Proofs.Try.f133
theorem e_impl_onTime : enterG P (G 133) 133 = some (c_impl_onTime, 31, #[.tmp 4]) := by kernel_rfl
noncomputable def c_impl_TimelyAfter : Code := Go.Proofs.Try.f52.body.getD .skip
abbrev n_impl_TimelyAfter : FuncId := 52
theorem g_impl_TimelyAfter : G 52 = ⟨[(5, [0, 1, 6, 20, 21])], [], []⟩ := rfl
attribute [simp] c_impl_TimelyAfter g_impl_TimelyAfter Go.Proofs.Try.f52
theorem e_impl_TimelyAfter : enterG P (G 52) 52 = some (c_impl_TimelyAfter, 39, #[.tmp 4, .tmp 5]) := by kernel_rfl
noncomputable def c_spec_l6Timely : Code := Go.Proofs.Try.f135.body.getD .skip
abbrev n_spec_l6Timely : FuncId := 135
theorem g_spec_l6Timely : G 135 = ⟨[(3, [0, 5, 6, 7])], [], []⟩ := rfl
attribute [simp] c_spec_l6Timely g_spec_l6Timely Go.Proofs.Try.f135
theorem e_spec_l6Timely : enterG P (G 135) 135 = some (c_spec_l6Timely, 37, #[.tmp 4]) := by kernel_rfl
noncomputable def c_spec_TimelyAfter : Code := Go.Proofs.Try.f53.body.getD .skip
abbrev n_spec_TimelyAfter : FuncId := 53
theorem g_spec_TimelyAfter : G 53 = ⟨[(5, [0, 1, 6, 7])], [(7, 15)], []⟩ := rfl
attribute [simp] c_spec_TimelyAfter g_spec_TimelyAfter Go.Proofs.Try.f53
theorem e_spec_TimelyAfter : enterG P (G 53) 53 = some (c_spec_TimelyAfter, 43, #[.tmp 4, .tmp 5]) := by kernel_rfl
noncomputable def c_impl_ascending_1 : Code := Go.Proofs.Try.f197.body.getD .skip
abbrev n_impl_ascending_1 : FuncId := 197
theorem g_impl_ascending_1 : G 197 = ⟨[], [], []⟩ := rfl
attribute [simp] c_impl_ascending_1 g_impl_ascending_1 Go.Proofs.Try.f197
theorem e_impl_ascending_1 : enterG P (G 197) 197 = some (c_impl_ascending_1, 8, #[.tmp 4]) := by kernel_rfl
noncomputable def c_impl_ascending : Code := Go.Proofs.Try.f183.body.getD .skip
abbrev n_impl_ascending : FuncId := 183
theorem g_impl_ascending : G 183 = ⟨[], [], []⟩ := rfl
attribute [simp] c_impl_ascending g_impl_ascending Go.Proofs.Try.f183
theorem e_impl_ascending : enterG P (G 183) 183 = some (c_impl_ascending, 5, #[.tmp 2]) := by kernel_rfl
noncomputable def c_impl_inDueOrder_1 : Code := Go.Proofs.Try.f184.body.getD .skip
abbrev n_impl_inDueOrder_1 : FuncId := 184
theorem g_impl_inDueOrder_1 : G 184 = ⟨[], [(1, 34)], []⟩ := rfl
attribute [simp] c_impl_inDueOrder_1 g_impl_inDueOrder_1 Go.Proofs.Try.f184
theorem e_impl_inDueOrder_1 : enterG P (G 184) 184 = some (c_impl_inDueOrder_1, 43, #[.tmp 5]) := by kernel_rfl
noncomputable def c_impl_inDueOrder : Code := Go.Proofs.Try.f137.body.getD .skip
abbrev n_impl_inDueOrder : FuncId := 137
theorem g_impl_inDueOrder : G 137 = ⟨[], [], []⟩ := rfl
attribute [simp] c_impl_inDueOrder g_impl_inDueOrder Go.Proofs.Try.f137
theorem e_impl_inDueOrder : enterG P (G 137) 137 = some (c_impl_inDueOrder, 9, #[.tmp 4]) := by kernel_rfl
noncomputable def c_impl_EarliestLatest : Code := Go.Proofs.Try.f54.body.getD .skip
abbrev n_impl_EarliestLatest : FuncId := 54
theorem g_impl_EarliestLatest : G 54 = ⟨[], [], []⟩ := rfl
attribute [simp] c_impl_EarliestLatest g_impl_EarliestLatest Go.Proofs.Try.f54
theorem e_impl_EarliestLatest : enterG P (G 54) 54 = some (c_impl_EarliestLatest, 14, #[.tmp 2, .tmp 3]) := by kernel_rfl
noncomputable def c_spec_EarliestLatest : Code := Go.Proofs.Try.f55.body.getD .skip
abbrev n_spec_EarliestLatest : FuncId := 55
theorem g_spec_EarliestLatest : G 55 = ⟨[], [], []⟩ := rfl
attribute [simp] c_spec_EarliestLatest g_spec_EarliestLatest Go.Proofs.Try.f55
theorem e_spec_EarliestLatest : enterG P (G 55) 55 = some (c_spec_EarliestLatest, 9, #[.tmp 2, .tmp 3]) := by kernel_rfl
noncomputable def c_impl_DueOrder : Code := Go.Proofs.Try.f56.body.getD .skip
abbrev n_impl_DueOrder : FuncId := 56
theorem g_impl_DueOrder : G 56 = ⟨[], [], []⟩ := rfl
attribute [simp] c_impl_DueOrder g_impl_DueOrder Go.Proofs.Try.f56
theorem e_impl_DueOrder : enterG P (G 56) 56 = some (c_impl_DueOrder, 12, #[.tmp 2, .tmp 3]) := by kernel_rfl
noncomputable def c_laws_FnLateness : Code := Go.Proofs.Try.f6.body.getD .skip
abbrev n_laws_FnLateness : FuncId := 6
theorem g_laws_FnLateness : G 6 = ⟨[], [], []⟩ := rfl
attribute [simp] c_laws_FnLateness g_laws_FnLateness Go.Proofs.Try.f6
theorem e_laws_FnLateness : enterG P (G 6) 6 = some (c_laws_FnLateness, 112, #[.tmp 2]) := by kernel_rfl
noncomputable def c_spec_l1Cur_sums : Code := Go.Proofs.Try.f138.body.getD .skip
abbrev n_spec_l1Cur_sums : FuncId := 138
theorem g_spec_l1Cur_sums : G 138 = ⟨[], [], []⟩ := rfl
attribute [simp] c_spec_l1Cur_sums g_spec_l1Cur_sums Go.Proofs.Try.f138
theorem e_spec_l1Cur_sums : enterG P (G 138) 138 = some (c_spec_l1Cur_sums, 10, #[.tmp 2]) := by kernel_rfl
noncomputable def c_spec_DrawSetValues : Code := Go.Proofs.Try.f57.body.getD .skip
abbrev n_spec_DrawSetValues : FuncId := 57
theorem g_spec_DrawSetValues : G 57 = ⟨[], [], []⟩ := rfl
attribute [simp] c_spec_DrawSetValues g_spec_DrawSetValues Go.Proofs.Try.f57
theorem e_spec_DrawSetValues : enterG P (G 57) 57 = some (c_spec_DrawSetValues, 14, #[.tmp 2, .tmp 3]) := by kernel_rfl
noncomputable def c_impl_isSumObjective : Code := Go.Proofs.Try.f139.body.getD .skip
abbrev n_impl_isSumObjective : FuncId := 139
theorem g_impl_isSumObjective : G 139 = ⟨[], [], []⟩ := rfl
attribute [simp] c_impl_isSumObjective g_impl_isSumObjective Go.Proofs.Try.f139
theorem e_impl_isSumObjective : enterG P (G 139) 139 = some (c_impl_isSumObjective, 13, #[.tmp 2]) := by kernel_rfl
noncomputable def c_impl_listOf : Code := Go.Proofs.Try.f143.body.getD .skip
abbrev n_impl_listOf : FuncId := 143
theorem g_impl_listOf : G 143 = ⟨[(3, [0, 3, 4])], [], []⟩ := rfl
attribute [simp] c_impl_listOf g_impl_listOf Go.Proofs.Try.f143
theorem e_impl_listOf : enterG P (G 143) 143 = some (c_impl_listOf, 21, #[.tmp 2]) := by kernel_rfl
noncomputable def c_impl_timeOf : Code := Go.Proofs.Try.f145.body.getD .skip
abbrev n_impl_timeOf : FuncId := 145
theorem g_impl_timeOf : G 145 = ⟨[(3, [0, 5, 9, 10, 11])], [], []⟩ := rfl
attribute [simp] c_impl_timeOf g_impl_timeOf Go.Proofs.Try.f145
theorem e_impl_timeOf : enterG P (G 145) 145 = some (c_impl_timeOf, 24, #[.tmp 4]) := by kernel_rfl
noncomputable def c_impl_setValues : Code := Go.Proofs.Try.f140.body.getD .skip
abbrev n_impl_setValues : FuncId := 140
theorem g_impl_setValues : G 140 = ⟨[(3, [0, 1, 2, 7, 8]), (8, [0, 1, 2, 7, 8, 9, 32, 33, 34])], [(10, 13)], []⟩ := rfl
attribute [simp] c_impl_setValues g_impl_setValues Go.Proofs.Try.f140
theorem e_impl_setValues : enterG P (G 140) 140 = some (c_impl_setValues, 71, #[.tmp 6]) := by kernel_rfl
noncomputable def c_impl_SetValues : Code := Go.Proofs.Try.f58.body.getD .skip
abbrev n_impl_SetValues : FuncId := 58
theorem g_impl_SetValues : G 58 = ⟨[], [], []⟩ := rfl
attribute [simp] c_impl_SetValues g_impl_SetValues Go.Proofs.Try.f58
theorem e_impl_SetValues : enterG P (G 58) 58 = some (c_impl_SetValues, 17, #[.tmp 4, .tmp 5]) := by kernel_rfl
noncomputable def c_spec_l6Sum : Code := Go.Proofs.Try.f141.body.getD .skip
abbrev n_spec_l6Sum : FuncId := 141
theorem g_spec_l6Sum : G 141 = ⟨[], [], []⟩ := rfl
attribute [simp] c_spec_l6Sum g_spec_l6Sum Go.Proofs.Try.f141
theorem e_spec_l6Sum : enterG P (G 141) 141 = some (c_spec_l6Sum, 10, #[.tmp 2]) := by kernel_rfl
noncomputable def c_spec_l6Times : Code := Go.Proofs.Try.f187.body.getD .skip
abbrev n_spec_l6Times : FuncId := 187
theorem g_spec_l6Times : G 187 = ⟨[(3, [0, 1, 5, 6])], [], []⟩ := rfl
attribute [simp] c_spec_l6Times g_spec_l6Times Go.Proofs.Try.f187
theorem e_spec_l6Times : enterG P (G 187) 187 = some (c_spec_l6Times, 26, #[.tmp 4]) := by kernel_rfl
noncomputable def c_spec_l6Last : Code := Go.Proofs.Try.f146.body.getD .skip
abbrev n_spec_l6Last : FuncId := 146
theorem g_spec_l6Last : G 146 = ⟨[], [(1, 16)], []⟩ := rfl
attribute [simp] c_spec_l6Last g_spec_l6Last Go.Proofs.Try.f146
theorem e_spec_l6Last : enterG P (G 146) 146 = some (c_spec_l6Last, 28, #[.tmp 10]) := by kernel_rfl
noncomputable def c_spec_l6Values : Code := Go.Proofs.Try.f142.body.getD .skip
abbrev n_spec_l6Values : FuncId := 142
theorem g_spec_l6Values : G 142 = ⟨[(3, [0, 1, 5, 6]), (7, [0, 1, 5, 6, 7, 8])], [], []⟩ := rfl
attribute [simp] c_spec_l6Values g_spec_l6Values Go.Proofs.Try.f142
theorem e_spec_l6Values : enterG P (G 142) 142 = some (c_spec_l6Values, 48, #[.tmp 4]) := by kernel_rfl
noncomputable def c_spec_SetValues : Code := Go.Proofs.Try.f59.body.getD .skip
abbrev n_spec_SetValues : FuncId := 59
theorem g_spec_SetValues : G 59 = ⟨[], [], []⟩ := rfl
attribute [simp] c_spec_SetValues g_spec_SetValues Go.Proofs.Try.f59
theorem e_spec_SetValues : enterG P (G 59) 59 = some (c_spec_SetValues, 18, #[.tmp 4, .tmp 5]) := by kernel_rfl
noncomputable def c_impl_SetOrder : Code := Go.Proofs.Try.f60.body.getD .skip
abbrev n_impl_SetOrder : FuncId := 60
theorem g_impl_SetOrder : G 60 = ⟨[(7, [0, 1, 6, 7, 8, 9]), (10, [0, 1, 6, 7, 8, 9, 38, 39, 40])], [(12, 20)], []⟩ := rfl
attribute [simp] c_impl_SetOrder g_impl_SetOrder Go.Proofs.Try.f60
theorem e_impl_SetOrder : enterG P (G 60) 60 = some (c_impl_SetOrder, 75, #[.tmp 4, .tmp 5]) := by kernel_rfl
noncomputable def c_spec_SetOrder : Code := Go.Proofs.Try.f61.body.getD .skip
abbrev n_spec_SetOrder : FuncId := 61
theorem g_spec_SetOrder : G 61 = ⟨[(6, [0, 1, 6, 7, 8]), (8, [0, 1, 6, 7, 8, 9])], [(8, 16)], []⟩ := rfl
attribute [simp] c_spec_SetOrder g_spec_SetOrder Go.Proofs.Try.f61
theorem e_spec_SetOrder : enterG P (G 61) 61 = some (c_spec_SetOrder, 58, #[.tmp 4, .tmp 5]) := by kernel_rfl
noncomputable def c_impl_totalOf : Code := Go.Proofs.Try.f147.body.getD .skip
abbrev n_impl_totalOf : FuncId := 147
theorem g_impl_totalOf : G 147 = ⟨[(3, [3, 6, 7, 8])], [], []⟩ := rfl
attribute [simp] c_impl_totalOf g_impl_totalOf Go.Proofs.Try.f147
theorem e_impl_totalOf : enterG P (G 147) 147 = some (c_impl_totalOf, 18, #[.tmp 2]) := by kernel_rfl
noncomputable def c_impl_TotalTime : Code := Go.Proofs.Try.f62.body.getD .skip
abbrev n_impl_TotalTime : FuncId := 62
theorem g_impl_TotalTime : G 62 = ⟨[], [], []⟩ := rfl
attribute [simp] c_impl_TotalTime g_impl_TotalTime Go.Proofs.Try.f62
theorem e_impl_TotalTime : enterG P (G 62) 62 = some (c_impl_TotalTime, 9, #[.tmp 2, .tmp 3]) := by kernel_rfl
noncomputable def c_spec_l2Times : Code := Go.Proofs.Try.f148.body.getD .skip
abbrev n_spec_l2Times : FuncId := 148
theorem g_spec_l2Times : G 148 = ⟨[(3, [0, 3, 4])], [], []⟩ := rfl
attribute [simp] c_spec_l2Times g_spec_l2Times Go.Proofs.Try.f148
theorem e_spec_l2Times : enterG P (G 148) 148 = some (c_spec_l2Times, 19, #[.tmp 2]) := by kernel_rfl
noncomputable def c_spec_TotalTime : Code := Go.Proofs.Try.f63.body.getD .skip
abbrev n_spec_TotalTime : FuncId := 63
theorem g_spec_TotalTime : G 63 = ⟨[], [], []⟩ := rfl
attribute [simp] c_spec_TotalTime g_spec_TotalTime Go.Proofs.Try.f63
theorem e_spec_TotalTime : enterG P (G 63) 63 = some (c_spec_TotalTime, 9, #[.tmp 2, .tmp 3]) := by kernel_rfl
noncomputable def c_laws_FnSetValues : Code := Go.Proofs.Try.f7.body.getD .skip
abbrev n_laws_FnSetValues : FuncId := 7
theorem g_laws_FnSetValues : G 7 = ⟨[(24, [3, 5, 23]), (27, [3, 5, 23, 24])], [(29, 17)], []⟩ := rfl
attribute [simp] c_laws_FnSetValues g_laws_FnSetValues Go.Proofs.Try.f7
theorem e_laws_FnSetValues : enterG P (G 7) 7 = some (c_laws_FnSetValues, 187, #[.tmp 2]) := by kernel_rfl
noncomputable def c_laws_vBig : Code := Go.Proofs.Try.f64.body.getD .skip
abbrev n_laws_vBig : FuncId := 64
theorem g_laws_vBig : G 64 = ⟨[], [], []⟩ := rfl
attribute [simp] c_laws_vBig g_laws_vBig Go.Proofs.Try.f64
theorem e_laws_vBig : enterG P (G 64) 64 = some (c_laws_vBig, 6, #[.tmp 2]) := by kernel_rfl
noncomputable def c_spec_l1Cur_plain3 : Code := Go.Proofs.Try.f149.body.getD .skip
abbrev n_spec_l1Cur_plain3 : FuncId := 149
theorem g_spec_l1Cur_plain3 : G 149 = ⟨[(5, [0, 3, 4])], [], []⟩ := rfl
attribute [simp] c_spec_l1Cur_plain3 g_spec_l1Cur_plain3 Go.Proofs.Try.f149
theorem e_spec_l1Cur_plain3 : enterG P (G 149) 149 = some (c_spec_l1Cur_plain3, 47, #[.tmp 2]) := by kernel_rfl
noncomputable def c_spec_DrawPairLoss : Code := Go.Proofs.Try.f65.body.getD .skip
abbrev n_spec_DrawPairLoss : FuncId := 65
theorem g_spec_DrawPairLoss : G 65 = ⟨[], [], []⟩ := rfl
attribute [simp] c_spec_DrawPairLoss g_spec_DrawPairLoss Go.Proofs.Try.f65
theorem e_spec_DrawPairLoss : enterG P (G 65) 65 = some (c_spec_DrawPairLoss, 16, #[.tmp 2, .tmp 3]) := by kernel_rfl
noncomputable def c_impl_isRuled : Code := Go.Proofs.Try.f157.body.getD .skip
abbrev n_impl_isRuled : FuncId := 157
theorem g_impl_isRuled : G 157 = ⟨[], [], []⟩ := rfl
attribute [simp] c_impl_isRuled g_impl_isRuled Go.Proofs.Try.f157
theorem e_impl_isRuled : enterG P (G 157) 157 = some (c_impl_isRuled, 19, #[.tmp 4]) := by kernel_rfl
noncomputable def c_impl_isRuledAndOrdered : Code := Go.Proofs.Try.f150.body.getD .skip
abbrev n_impl_isRuledAndOrdered : FuncId := 150
theorem g_impl_isRuledAndOrdered : G 150 = ⟨[], [], []⟩ := rfl
attribute [simp] c_impl_isRuledAndOrdered g_impl_isRuledAndOrdered Go.Proofs.Try.f150
theorem e_impl_isRuledAndOrdered : enterG P (G 150) 150 = some (c_impl_isRuledAndOrdered, 16, #[.tmp 6]) := by kernel_rfl
noncomputable def c_impl_difference : Code := Go.Proofs.Try.f152.body.getD .skip
abbrev n_impl_difference : FuncId := 152
theorem g_impl_difference : G 152 = ⟨[], [], []⟩ := rfl
attribute [simp] c_impl_difference g_impl_difference Go.Proofs.Try.f152
theorem e_impl_difference : enterG P (G 152) 152 = some (c_impl_difference, 40, #[.tmp 6]) := by kernel_rfl
noncomputable def c_impl_inversions : Code := Go.Proofs.Try.f151.body.getD .skip
abbrev n_impl_inversions : FuncId := 151
theorem g_impl_inversions : G 151 = ⟨[(3, [0, 1, 2, 7, 12, 13, 14]), (6, [0, 1, 2, 7, 9, 12, 13, 14, 22, 23, 24])], [(8, 9)], []⟩ := rfl
attribute [simp] c_impl_inversions g_impl_inversions Go.Proofs.Try.f151
theorem e_impl_inversions : enterG P (G 151) 151 = some (c_impl_inversions, 48, #[.tmp 6]) := by kernel_rfl
noncomputable def c_impl_PairLoss : Code := Go.Proofs.Try.f66.body.getD .skip
abbrev n_impl_PairLoss : FuncId := 66
theorem g_impl_PairLoss : G 66 = ⟨[(5, [0, 6, 15, 16, 17])], [(7, 12)], []⟩ := rfl
attribute [simp] c_impl_PairLoss g_impl_PairLoss Go.Proofs.Try.f66
theorem e_impl_PairLoss : enterG P (G 66) 66 = some (c_impl_PairLoss, 36, #[.tmp 4, .tmp 5]) := by kernel_rfl
noncomputable def c_spec_l3Plain : Code := Go.Proofs.Try.f199.body.getD .skip
abbrev n_spec_l3Plain : FuncId := 199
theorem g_spec_l3Plain : G 199 = ⟨[(2, [0, 3])], [], []⟩ := rfl
attribute [simp] c_spec_l3Plain g_spec_l3Plain Go.Proofs.Try.f199
theorem e_spec_l3Plain : enterG P (G 199) 199 = some (c_spec_l3Plain, 16, #[.tmp 2]) := by kernel_rfl
noncomputable def c_spec_l3Ruled : Code := Go.Proofs.Try.f188.body.getD .skip
abbrev n_spec_l3Ruled : FuncId := 188
theorem g_spec_l3Ruled : G 188 = ⟨[], [], []⟩ := rfl
attribute [simp] c_spec_l3Ruled g_spec_l3Ruled Go.Proofs.Try.f188
theorem e_spec_l3Ruled : enterG P (G 188) 188 = some (c_spec_l3Ruled, 19, #[.tmp 4]) := by kernel_rfl
noncomputable def c_spec_l3Both : Code := Go.Proofs.Try.f153.body.getD .skip
abbrev n_spec_l3Both : FuncId := 153
theorem g_spec_l3Both : G 153 = ⟨[], [], []⟩ := rfl
attribute [simp] c_spec_l3Both g_spec_l3Both Go.Proofs.Try.f153
theorem e_spec_l3Both : enterG P (G 153) 153 = some (c_spec_l3Both, 16, #[.tmp 6]) := by kernel_rfl
noncomputable def c_spec_l3Gap : Code := Go.Proofs.Try.f155.body.getD .skip
abbrev n_spec_l3Gap : FuncId := 155
theorem g_spec_l3Gap : G 155 = ⟨[], [(1, 10)], []⟩ := rfl
attribute [simp] c_spec_l3Gap g_spec_l3Gap Go.Proofs.Try.f155
theorem e_spec_l3Gap : enterG P (G 155) 155 = some (c_spec_l3Gap, 52, #[.tmp 8]) := by kernel_rfl
noncomputable def c_spec_l3Inversions : Code := Go.Proofs.Try.f154.body.getD .skip
abbrev n_spec_l3Inversions : FuncId := 154
theorem g_spec_l3Inversions : G 154 = ⟨[(3, [0, 1, 2, 7, 8]), (6, [0, 1, 2, 7, 8, 9])], [(8, 10), (9, 11)], []⟩ := rfl
attribute [simp] c_spec_l3Inversions g_spec_l3Inversions Go.Proofs.Try.f154
theorem e_spec_l3Inversions : enterG P (G 154) 154 = some (c_spec_l3Inversions, 50, #[.tmp 6]) := by kernel_rfl
noncomputable def c_spec_PairLoss : Code := Go.Proofs.Try.f67.body.getD .skip
abbrev n_spec_PairLoss : FuncId := 67
theorem g_spec_PairLoss : G 67 = ⟨[(6, [0, 6, 7, 8])], [(8, 13)], []⟩ := rfl
attribute [simp] c_spec_PairLoss g_spec_PairLoss Go.Proofs.Try.f67
theorem e_spec_PairLoss : enterG P (G 67) 67 = some (c_spec_PairLoss, 37, #[.tmp 4, .tmp 5]) := by kernel_rfl
noncomputable def c_laws_vCut : Code := Go.Proofs.Try.f69.body.getD .skip
abbrev n_laws_vCut : FuncId := 69
theorem g_laws_vCut : G 69 = ⟨[], [], []⟩ := rfl
attribute [simp] c_laws_vCut g_laws_vCut Go.Proofs.Try.f69
theorem e_laws_vCut : enterG P (G 69) 69 = some (c_laws_vCut, 20, #[.tmp 4]) := by kernel_rfl
noncomputable def c_spec_l1Cur_ruled3 : Code := Go.Proofs.Try.f189.body.getD .skip
abbrev n_spec_l1Cur_ruled3 : FuncId := 189
theorem g_spec_l1Cur_ruled3 : G 189 = ⟨[], [], []⟩ := rfl
attribute [simp] c_spec_l1Cur_ruled3 g_spec_l1Cur_ruled3 Go.Proofs.Try.f189
theorem e_spec_l1Cur_ruled3 : enterG P (G 189) 189 = some (c_spec_l1Cur_ruled3, 21, #[.tmp 2, .tmp 3]) := by kernel_rfl
noncomputable def c_spec_l3Order : Code := Go.Proofs.Try.f190.body.getD .skip
abbrev n_spec_l3Order : FuncId := 190
theorem g_spec_l3Order : G 190 = ⟨[(3, [0, 1, 5, 6]), (6, [0, 1, 5, 6, 7])], [], [(8, 10, [(6, 3)])]⟩ := rfl
attribute [simp] c_spec_l3Order g_spec_l3Order Go.Proofs.Try.f190
theorem e_spec_l3Order : enterG P (G 190) 190 = some (c_spec_l3Order, 44, #[.tmp 4]) := by kernel_rfl
noncomputable def c_spec_DrawIsRuledOrder : Code := Go.Proofs.Try.f156.body.getD .skip
abbrev n_spec_DrawIsRuledOrder : FuncId := 156
theorem g_spec_DrawIsRuledOrder : G 156 = ⟨[], [], []⟩ := rfl
attribute [simp] c_spec_DrawIsRuledOrder g_spec_DrawIsRuledOrder Go.Proofs.Try.f156
theorem e_spec_DrawIsRuledOrder : enterG P (G 156) 156 = some (c_spec_DrawIsRuledOrder, 48, #[.tmp 2, .tmp 3, .tmp 4]) := by kernel_rfl
noncomputable def c_spec_DrawInversionsOf : Code := Go.Proofs.Try.f68.body.getD .skip
abbrev n_spec_DrawInversionsOf : FuncId := 68
theorem g_spec_DrawInversionsOf : G 68 = ⟨[], [], []⟩ := rfl
attribute [simp] c_spec_DrawInversionsOf g_spec_DrawInversionsOf Go.Proofs.Try.f68
theorem e_spec_DrawInversionsOf : enterG P (G 68) 68 = some (c_spec_DrawInversionsOf, 10, #[.tmp 2, .tmp 3, .tmp 4]) := by kernel_rfl
noncomputable def c_impl_InversionsOf : Code := Go.Proofs.Try.f70.body.getD .skip
abbrev n_impl_InversionsOf : FuncId := 70
theorem g_impl_InversionsOf : G 70 = ⟨[], [], []⟩ := rfl
attribute [simp] c_impl_InversionsOf g_impl_InversionsOf Go.Proofs.Try.f70
theorem e_impl_InversionsOf : enterG P (G 70) 70 = some (c_impl_InversionsOf, 17, #[.tmp 6, .tmp 7]) := by kernel_rfl
noncomputable def c_spec_InversionsOf : Code := Go.Proofs.Try.f71.body.getD .skip
abbrev n_spec_InversionsOf : FuncId := 71
theorem g_spec_InversionsOf : G 71 = ⟨[], [], []⟩ := rfl
attribute [simp] c_spec_InversionsOf g_spec_InversionsOf Go.Proofs.Try.f71
theorem e_spec_InversionsOf : enterG P (G 71) 71 = some (c_spec_InversionsOf, 18, #[.tmp 6, .tmp 7]) := by kernel_rfl
noncomputable def c_laws_vPairs : Code := Go.Proofs.Try.f72.body.getD .skip
abbrev n_laws_vPairs : FuncId := 72
theorem g_laws_vPairs : G 72 = ⟨[(4, [0, 1, 5])], [(6, 8)], []⟩ := rfl
attribute [simp] c_laws_vPairs g_laws_vPairs Go.Proofs.Try.f72
theorem e_laws_vPairs : enterG P (G 72) 72 = some (c_laws_vPairs, 26, #[.tmp 4]) := by kernel_rfl
noncomputable def c_impl_IsRuledOrder : Code := Go.Proofs.Try.f73.body.getD .skip
abbrev n_impl_IsRuledOrder : FuncId := 73
theorem g_impl_IsRuledOrder : G 73 = ⟨[(4, [0, 1, 2, 8])], [(6, 16)], []⟩ := rfl
attribute [simp] c_impl_IsRuledOrder g_impl_IsRuledOrder Go.Proofs.Try.f73
theorem e_impl_IsRuledOrder : enterG P (G 73) 73 = some (c_impl_IsRuledOrder, 38, #[.tmp 6, .tmp 7]) := by kernel_rfl
noncomputable def c_impl_RuleDifference : Code := Go.Proofs.Try.f75.body.getD .skip
abbrev n_impl_RuleDifference : FuncId := 75
theorem g_impl_RuleDifference : G 75 = ⟨[], [(3, 9)], []⟩ := rfl
attribute [simp] c_impl_RuleDifference g_impl_RuleDifference Go.Proofs.Try.f75
theorem e_impl_RuleDifference : enterG P (G 75) 75 = some (c_impl_RuleDifference, 38, #[.tmp 8, .tmp 9]) := by kernel_rfl
noncomputable def c_laws_FnPairLoss : Code := Go.Proofs.Try.f8.body.getD .skip
abbrev n_laws_FnPairLoss : FuncId := 8
theorem g_laws_FnPairLoss : G 8 = ⟨[(22, [3, 4, 22])], [(25, 15)], []⟩ := rfl
attribute [simp] c_laws_FnPairLoss g_laws_FnPairLoss Go.Proofs.Try.f8
theorem e_laws_FnPairLoss : enterG P (G 8) 8 = some (c_laws_FnPairLoss, 148, #[.tmp 2]) := by kernel_rfl
end Go.Pm.PP
