/- What is told of the functions that the laws reach: printed by a program of this work. -/
import Derived.Test.YtcmbjbddjlamaaaProg
import Derived.KernelRfl
import Derived.Test.YtcmbjbddjlamaaaM4

set_option linter.unusedVariables false
set_option linter.unusedSimpArgs false
namespace Go.Pm.PP
open Go.Pm
noncomputable abbrev P : Program := Go.Proofs.Try.prog
abbrev t_int : TypeId := 3
theorem u_int : P.underlying 3 = some (.int .i64) := by kernel_rfl
theorem a_int : (P.underlying 3).map aggD = some false := by kernel_rfl
theorem i_int : (P.info? 3).map (·.size) = some 1 := by kernel_rfl
noncomputable def ti_3 : TypeInfo := (P.info? 3).getD default
@[simp] theorem ti_3_eq : P.info? 3 = some ti_3 := by kernel_rfl
@[simp] theorem ti_3_size : ti_3.size = 1 := by kernel_rfl
@[simp] theorem ti_3_bytes : ti_3.bytes = 8 := by kernel_rfl
@[simp] theorem ti_3_zero : ti_3.zero = some (.int .i64 0) := by kernel_rfl
noncomputable abbrev ti_int := ti_3
theorem e_t_int : P.info? 3 = some ti_3 := ti_3_eq
theorem s_t_int : ti_3.size = 1 := ti_3_size
theorem b_t_int : ti_3.bytes = 8 := ti_3_bytes
theorem z_t_int : zeroP P 3 = some (.int .i64 0) := zero_some ti_3_eq ti_3_zero rfl (by rw [ti_3_size]; rfl)
abbrev t_bool : TypeId := 4
theorem u_bool : P.underlying 4 = some .bool := by kernel_rfl
theorem a_bool : (P.underlying 4).map aggD = some false := by kernel_rfl
theorem i_bool : (P.info? 4).map (·.size) = some 1 := by kernel_rfl
noncomputable def ti_4 : TypeInfo := (P.info? 4).getD default
@[simp] theorem ti_4_eq : P.info? 4 = some ti_4 := by kernel_rfl
@[simp] theorem ti_4_size : ti_4.size = 1 := by kernel_rfl
@[simp] theorem ti_4_bytes : ti_4.bytes = 1 := by kernel_rfl
@[simp] theorem ti_4_zero : ti_4.zero = some (.bool false) := by kernel_rfl
noncomputable abbrev ti_bool := ti_4
theorem e_t_bool : P.info? 4 = some ti_4 := ti_4_eq
theorem s_t_bool : ti_4.size = 1 := ti_4_size
theorem b_t_bool : ti_4.bytes = 1 := ti_4_bytes
theorem z_t_bool : zeroP P 4 = some (.bool false) := zero_some ti_4_eq ti_4_zero rfl (by rw [ti_4_size]; rfl)
abbrev t_u8 : TypeId := 5
theorem u_u8 : P.underlying 5 = some (.int .u8) := by kernel_rfl
theorem a_u8 : (P.underlying 5).map aggD = some false := by kernel_rfl
theorem i_u8 : (P.info? 5).map (·.size) = some 1 := by kernel_rfl
noncomputable def ti_5 : TypeInfo := (P.info? 5).getD default
@[simp] theorem ti_5_eq : P.info? 5 = some ti_5 := by kernel_rfl
@[simp] theorem ti_5_size : ti_5.size = 1 := by kernel_rfl
@[simp] theorem ti_5_bytes : ti_5.bytes = 1 := by kernel_rfl
@[simp] theorem ti_5_zero : ti_5.zero = some (.int .u8 0) := by kernel_rfl
noncomputable abbrev ti_u8 := ti_5
theorem e_t_u8 : P.info? 5 = some ti_5 := ti_5_eq
theorem s_t_u8 : ti_5.size = 1 := ti_5_size
theorem b_t_u8 : ti_5.bytes = 1 := ti_5_bytes
theorem z_t_u8 : zeroP P 5 = some (.int .u8 0) := zero_some ti_5_eq ti_5_zero rfl (by rw [ti_5_size]; rfl)
abbrev t_S_u8 : TypeId := 22
theorem u_S_u8 : P.underlying 22 = some (.slice 5) := by kernel_rfl
theorem a_S_u8 : (P.underlying 22).map aggD = some false := by kernel_rfl
theorem i_S_u8 : (P.info? 22).map (·.size) = some 1 := by kernel_rfl
noncomputable def ti_22 : TypeInfo := (P.info? 22).getD default
@[simp] theorem ti_22_eq : P.info? 22 = some ti_22 := by kernel_rfl
@[simp] theorem ti_22_size : ti_22.size = 1 := by kernel_rfl
@[simp] theorem ti_22_bytes : ti_22.bytes = 24 := by kernel_rfl
@[simp] theorem ti_22_zero : ti_22.zero = some (.slice none 0 0) := by kernel_rfl
noncomputable abbrev ti_S_u8 := ti_22
theorem e_t_S_u8 : P.info? 22 = some ti_22 := ti_22_eq
theorem s_t_S_u8 : ti_22.size = 1 := ti_22_size
theorem b_t_S_u8 : ti_22.bytes = 24 := ti_22_bytes
theorem z_t_S_u8 : zeroP P 22 = some (.slice none 0 0) := zero_some ti_22_eq ti_22_zero rfl (by rw [ti_22_size]; rfl)
abbrev t_S_impl_Job : TypeId := 24
theorem u_S_impl_Job : P.underlying 24 = some (.slice 85) := by kernel_rfl
theorem a_S_impl_Job : (P.underlying 24).map aggD = some false := by kernel_rfl
theorem i_S_impl_Job : (P.info? 24).map (·.size) = some 1 := by kernel_rfl
noncomputable def ti_24 : TypeInfo := (P.info? 24).getD default
@[simp] theorem ti_24_eq : P.info? 24 = some ti_24 := by kernel_rfl
@[simp] theorem ti_24_size : ti_24.size = 1 := by kernel_rfl
@[simp] theorem ti_24_bytes : ti_24.bytes = 24 := by kernel_rfl
@[simp] theorem ti_24_zero : ti_24.zero = some (.slice none 0 0) := by kernel_rfl
noncomputable abbrev ti_S_impl_Job := ti_24
theorem e_t_S_impl_Job : P.info? 24 = some ti_24 := ti_24_eq
theorem s_t_S_impl_Job : ti_24.size = 1 := ti_24_size
theorem b_t_S_impl_Job : ti_24.bytes = 24 := ti_24_bytes
theorem z_t_S_impl_Job : zeroP P 24 = some (.slice none 0 0) := zero_some ti_24_eq ti_24_zero rfl (by rw [ti_24_size]; rfl)
abbrev t_S_int : TypeId := 25
theorem u_S_int : P.underlying 25 = some (.slice 3) := by kernel_rfl
theorem a_S_int : (P.underlying 25).map aggD = some false := by kernel_rfl
theorem i_S_int : (P.info? 25).map (·.size) = some 1 := by kernel_rfl
noncomputable def ti_25 : TypeInfo := (P.info? 25).getD default
@[simp] theorem ti_25_eq : P.info? 25 = some ti_25 := by kernel_rfl
@[simp] theorem ti_25_size : ti_25.size = 1 := by kernel_rfl
@[simp] theorem ti_25_bytes : ti_25.bytes = 24 := by kernel_rfl
@[simp] theorem ti_25_zero : ti_25.zero = some (.slice none 0 0) := by kernel_rfl
noncomputable abbrev ti_S_int := ti_25
theorem e_t_S_int : P.info? 25 = some ti_25 := ti_25_eq
theorem s_t_S_int : ti_25.size = 1 := ti_25_size
theorem b_t_S_int : ti_25.bytes = 24 := ti_25_bytes
theorem z_t_S_int : zeroP P 25 = some (.slice none 0 0) := zero_some ti_25_eq ti_25_zero rfl (by rw [ti_25_size]; rfl)
abbrev t_S_impl_Span : TypeId := 44
theorem u_S_impl_Span : P.underlying 44 = some (.slice 168) := by kernel_rfl
theorem a_S_impl_Span : (P.underlying 44).map aggD = some false := by kernel_rfl
theorem i_S_impl_Span : (P.info? 44).map (·.size) = some 1 := by kernel_rfl
noncomputable def ti_44 : TypeInfo := (P.info? 44).getD default
@[simp] theorem ti_44_eq : P.info? 44 = some ti_44 := by kernel_rfl
@[simp] theorem ti_44_size : ti_44.size = 1 := by kernel_rfl
@[simp] theorem ti_44_bytes : ti_44.bytes = 24 := by kernel_rfl
@[simp] theorem ti_44_zero : ti_44.zero = some (.slice none 0 0) := by kernel_rfl
noncomputable abbrev ti_S_impl_Span := ti_44
theorem e_t_S_impl_Span : P.info? 44 = some ti_44 := ti_44_eq
theorem s_t_S_impl_Span : ti_44.size = 1 := ti_44_size
theorem b_t_S_impl_Span : ti_44.bytes = 24 := ti_44_bytes
theorem z_t_S_impl_Span : zeroP P 44 = some (.slice none 0 0) := zero_some ti_44_eq ti_44_zero rfl (by rw [ti_44_size]; rfl)
abbrev t_S_A2_int : TypeId := 49
theorem u_S_A2_int : P.underlying 49 = some (.slice 58) := by kernel_rfl
theorem a_S_A2_int : (P.underlying 49).map aggD = some false := by kernel_rfl
theorem i_S_A2_int : (P.info? 49).map (·.size) = some 1 := by kernel_rfl
noncomputable def ti_49 : TypeInfo := (P.info? 49).getD default
@[simp] theorem ti_49_eq : P.info? 49 = some ti_49 := by kernel_rfl
@[simp] theorem ti_49_size : ti_49.size = 1 := by kernel_rfl
@[simp] theorem ti_49_bytes : ti_49.bytes = 24 := by kernel_rfl
@[simp] theorem ti_49_zero : ti_49.zero = some (.slice none 0 0) := by kernel_rfl
noncomputable abbrev ti_S_A2_int := ti_49
theorem e_t_S_A2_int : P.info? 49 = some ti_49 := ti_49_eq
theorem s_t_S_A2_int : ti_49.size = 1 := ti_49_size
theorem b_t_S_A2_int : ti_49.bytes = 24 := ti_49_bytes
theorem z_t_S_A2_int : zeroP P 49 = some (.slice none 0 0) := zero_some ti_49_eq ti_49_zero rfl (by rw [ti_49_size]; rfl)
abbrev t_A2_int : TypeId := 58
theorem u_A2_int : P.underlying 58 = some (.array 2 3) := by kernel_rfl
theorem a_A2_int : (P.underlying 58).map aggD = some true := by kernel_rfl
theorem i_A2_int : (P.info? 58).map (·.size) = some 2 := by kernel_rfl
noncomputable def ti_58 : TypeInfo := (P.info? 58).getD default
@[simp] theorem ti_58_eq : P.info? 58 = some ti_58 := by kernel_rfl
@[simp] theorem ti_58_size : ti_58.size = 2 := by kernel_rfl
@[simp] theorem ti_58_bytes : ti_58.bytes = 16 := by kernel_rfl
@[simp] theorem ti_58_zero : ti_58.zero = some (.agg #[.int .i64 0, .int .i64 0]) := by kernel_rfl
noncomputable abbrev ti_A2_int := ti_58
theorem e_t_A2_int : P.info? 58 = some ti_58 := ti_58_eq
theorem s_t_A2_int : ti_58.size = 2 := ti_58_size
theorem b_t_A2_int : ti_58.bytes = 16 := ti_58_bytes
theorem z_t_A2_int : zeroP P 58 = some (.agg #[.int .i64 0, .int .i64 0]) := zero_some ti_58_eq ti_58_zero rfl (by rw [ti_58_size]; rfl)
abbrev t_S_S_int : TypeId := 80
theorem u_S_S_int : P.underlying 80 = some (.slice 25) := by kernel_rfl
theorem a_S_S_int : (P.underlying 80).map aggD = some false := by kernel_rfl
theorem i_S_S_int : (P.info? 80).map (·.size) = some 1 := by kernel_rfl
noncomputable def ti_80 : TypeInfo := (P.info? 80).getD default
@[simp] theorem ti_80_eq : P.info? 80 = some ti_80 := by kernel_rfl
@[simp] theorem ti_80_size : ti_80.size = 1 := by kernel_rfl
@[simp] theorem ti_80_bytes : ti_80.bytes = 24 := by kernel_rfl
@[simp] theorem ti_80_zero : ti_80.zero = some (.slice none 0 0) := by kernel_rfl
noncomputable abbrev ti_S_S_int := ti_80
theorem e_t_S_S_int : P.info? 80 = some ti_80 := ti_80_eq
theorem s_t_S_S_int : ti_80.size = 1 := ti_80_size
theorem b_t_S_S_int : ti_80.bytes = 24 := ti_80_bytes
theorem z_t_S_S_int : zeroP P 80 = some (.slice none 0 0) := zero_some ti_80_eq ti_80_zero rfl (by rw [ti_80_size]; rfl)
abbrev t_impl_Job : TypeId := 85
theorem a_impl_Job : (P.underlying 85).map aggD = some true := by kernel_rfl
theorem i_impl_Job : (P.info? 85).map (·.size) = some 4 := by kernel_rfl
noncomputable def ti_85 : TypeInfo := (P.info? 85).getD default
@[simp] theorem ti_85_eq : P.info? 85 = some ti_85 := by kernel_rfl
@[simp] theorem ti_85_size : ti_85.size = 4 := by kernel_rfl
@[simp] theorem ti_85_bytes : ti_85.bytes = 32 := by kernel_rfl
@[simp] theorem ti_85_zero : ti_85.zero = some (.agg #[.int .i64 0, .int .i64 0, .int .i64 0, .int .i64 0]) := by kernel_rfl
noncomputable abbrev ti_impl_Job := ti_85
theorem e_t_impl_Job : P.info? 85 = some ti_85 := ti_85_eq
theorem s_t_impl_Job : ti_85.size = 4 := ti_85_size
theorem b_t_impl_Job : ti_85.bytes = 32 := ti_85_bytes
theorem z_t_impl_Job : zeroP P 85 = some (.agg #[.int .i64 0, .int .i64 0, .int .i64 0, .int .i64 0]) := zero_some ti_85_eq ti_85_zero rfl (by rw [ti_85_size]; rfl)
abbrev t_S_bool : TypeId := 87
theorem u_S_bool : P.underlying 87 = some (.slice 4) := by kernel_rfl
theorem a_S_bool : (P.underlying 87).map aggD = some false := by kernel_rfl
theorem i_S_bool : (P.info? 87).map (·.size) = some 1 := by kernel_rfl
noncomputable def ti_87 : TypeInfo := (P.info? 87).getD default
@[simp] theorem ti_87_eq : P.info? 87 = some ti_87 := by kernel_rfl
@[simp] theorem ti_87_size : ti_87.size = 1 := by kernel_rfl
@[simp] theorem ti_87_bytes : ti_87.bytes = 24 := by kernel_rfl
@[simp] theorem ti_87_zero : ti_87.zero = some (.slice none 0 0) := by kernel_rfl
noncomputable abbrev ti_S_bool := ti_87
theorem e_t_S_bool : P.info? 87 = some ti_87 := ti_87_eq
theorem s_t_S_bool : ti_87.size = 1 := ti_87_size
theorem b_t_S_bool : ti_87.bytes = 24 := ti_87_bytes
theorem z_t_S_bool : zeroP P 87 = some (.slice none 0 0) := zero_some ti_87_eq ti_87_zero rfl (by rw [ti_87_size]; rfl)
abbrev t_P_spec_l1Cur : TypeId := 92
theorem a_P_spec_l1Cur : (P.underlying 92).map aggD = some false := by kernel_rfl
theorem i_P_spec_l1Cur : (P.info? 92).map (·.size) = some 1 := by kernel_rfl
noncomputable def ti_92 : TypeInfo := (P.info? 92).getD default
@[simp] theorem ti_92_eq : P.info? 92 = some ti_92 := by kernel_rfl
@[simp] theorem ti_92_size : ti_92.size = 1 := by kernel_rfl
@[simp] theorem ti_92_bytes : ti_92.bytes = 8 := by kernel_rfl
@[simp] theorem ti_92_zero : ti_92.zero = some (.pointer none) := by kernel_rfl
noncomputable abbrev ti_P_spec_l1Cur := ti_92
theorem e_t_P_spec_l1Cur : P.info? 92 = some ti_92 := ti_92_eq
theorem s_t_P_spec_l1Cur : ti_92.size = 1 := ti_92_size
theorem b_t_P_spec_l1Cur : ti_92.bytes = 8 := ti_92_bytes
theorem z_t_P_spec_l1Cur : zeroP P 92 = some (.pointer none) := zero_some ti_92_eq ti_92_zero rfl (by rw [ti_92_size]; rfl)
abbrev t_u64 : TypeId := 93
theorem u_u64 : P.underlying 93 = some (.int .u64) := by kernel_rfl
theorem a_u64 : (P.underlying 93).map aggD = some false := by kernel_rfl
theorem i_u64 : (P.info? 93).map (·.size) = some 1 := by kernel_rfl
noncomputable def ti_93 : TypeInfo := (P.info? 93).getD default
@[simp] theorem ti_93_eq : P.info? 93 = some ti_93 := by kernel_rfl
@[simp] theorem ti_93_size : ti_93.size = 1 := by kernel_rfl
@[simp] theorem ti_93_bytes : ti_93.bytes = 8 := by kernel_rfl
@[simp] theorem ti_93_zero : ti_93.zero = some (.int .u64 0) := by kernel_rfl
noncomputable abbrev ti_u64 := ti_93
theorem e_t_u64 : P.info? 93 = some ti_93 := ti_93_eq
theorem s_t_u64 : ti_93.size = 1 := ti_93_size
theorem b_t_u64 : ti_93.bytes = 8 := ti_93_bytes
theorem z_t_u64 : zeroP P 93 = some (.int .u64 0) := zero_some ti_93_eq ti_93_zero rfl (by rw [ti_93_size]; rfl)
abbrev t_spec_l1Cur : TypeId := 95
theorem a_spec_l1Cur : (P.underlying 95).map aggD = some true := by kernel_rfl
theorem i_spec_l1Cur : (P.info? 95).map (·.size) = some 3 := by kernel_rfl
noncomputable def ti_95 : TypeInfo := (P.info? 95).getD default
@[simp] theorem ti_95_eq : P.info? 95 = some ti_95 := by kernel_rfl
@[simp] theorem ti_95_size : ti_95.size = 3 := by kernel_rfl
@[simp] theorem ti_95_bytes : ti_95.bytes = 40 := by kernel_rfl
@[simp] theorem ti_95_zero : ti_95.zero = some (.agg #[.slice none 0 0, .int .i64 0, .int .u64 0]) := by kernel_rfl
noncomputable abbrev ti_spec_l1Cur := ti_95
theorem e_t_spec_l1Cur : P.info? 95 = some ti_95 := ti_95_eq
theorem s_t_spec_l1Cur : ti_95.size = 3 := ti_95_size
theorem b_t_spec_l1Cur : ti_95.bytes = 40 := ti_95_bytes
theorem z_t_spec_l1Cur : zeroP P 95 = some (.agg #[.slice none 0 0, .int .i64 0, .int .u64 0]) := zero_some ti_95_eq ti_95_zero rfl (by rw [ti_95_size]; rfl)
abbrev t_func_int__int__bool : TypeId := 107
theorem a_func_int__int__bool : (P.underlying 107).map aggD = some false := by kernel_rfl
theorem i_func_int__int__bool : (P.info? 107).map (·.size) = some 1 := by kernel_rfl
noncomputable def ti_107 : TypeInfo := (P.info? 107).getD default
@[simp] theorem ti_107_eq : P.info? 107 = some ti_107 := by kernel_rfl
@[simp] theorem ti_107_size : ti_107.size = 1 := by kernel_rfl
@[simp] theorem ti_107_bytes : ti_107.bytes = 8 := by kernel_rfl
@[simp] theorem ti_107_zero : ti_107.zero = some (.nilFunc) := by kernel_rfl
noncomputable abbrev ti_func_int__int__bool := ti_107
theorem e_t_func_int__int__bool : P.info? 107 = some ti_107 := ti_107_eq
theorem s_t_func_int__int__bool : ti_107.size = 1 := ti_107_size
theorem b_t_func_int__int__bool : ti_107.bytes = 8 := ti_107_bytes
abbrev t_spec_l3Late : TypeId := 124
theorem a_spec_l3Late : (P.underlying 124).map aggD = some true := by kernel_rfl
theorem i_spec_l3Late : (P.info? 124).map (·.size) = some 3 := by kernel_rfl
noncomputable def ti_124 : TypeInfo := (P.info? 124).getD default
@[simp] theorem ti_124_eq : P.info? 124 = some ti_124 := by kernel_rfl
@[simp] theorem ti_124_size : ti_124.size = 3 := by kernel_rfl
@[simp] theorem ti_124_bytes : ti_124.bytes = 72 := by kernel_rfl
@[simp] theorem ti_124_zero : ti_124.zero = some (.agg #[.slice none 0 0, .slice none 0 0, .slice none 0 0]) := by kernel_rfl
noncomputable abbrev ti_spec_l3Late := ti_124
theorem e_t_spec_l3Late : P.info? 124 = some ti_124 := ti_124_eq
theorem s_t_spec_l3Late : ti_124.size = 3 := ti_124_size
theorem b_t_spec_l3Late : ti_124.bytes = 72 := ti_124_bytes
theorem z_t_spec_l3Late : zeroP P 124 = some (.agg #[.slice none 0 0, .slice none 0 0, .slice none 0 0]) := zero_some ti_124_eq ti_124_zero rfl (by rw [ti_124_size]; rfl)
abbrev t_S_S_bool : TypeId := 133
theorem u_S_S_bool : P.underlying 133 = some (.slice 87) := by kernel_rfl
theorem a_S_S_bool : (P.underlying 133).map aggD = some false := by kernel_rfl
theorem i_S_S_bool : (P.info? 133).map (·.size) = some 1 := by kernel_rfl
noncomputable def ti_133 : TypeInfo := (P.info? 133).getD default
@[simp] theorem ti_133_eq : P.info? 133 = some ti_133 := by kernel_rfl
@[simp] theorem ti_133_size : ti_133.size = 1 := by kernel_rfl
@[simp] theorem ti_133_bytes : ti_133.bytes = 24 := by kernel_rfl
@[simp] theorem ti_133_zero : ti_133.zero = some (.slice none 0 0) := by kernel_rfl
noncomputable abbrev ti_S_S_bool := ti_133
theorem e_t_S_S_bool : P.info? 133 = some ti_133 := ti_133_eq
theorem s_t_S_S_bool : ti_133.size = 1 := ti_133_size
theorem b_t_S_S_bool : ti_133.bytes = 24 := ti_133_bytes
theorem z_t_S_S_bool : zeroP P 133 = some (.slice none 0 0) := zero_some ti_133_eq ti_133_zero rfl (by rw [ti_133_size]; rfl)
abbrev t_func___int_ : TypeId := 137
theorem a_func___int_ : (P.underlying 137).map aggD = some false := by kernel_rfl
theorem i_func___int_ : (P.info? 137).map (·.size) = some 1 := by kernel_rfl
noncomputable def ti_137 : TypeInfo := (P.info? 137).getD default
@[simp] theorem ti_137_eq : P.info? 137 = some ti_137 := by kernel_rfl
@[simp] theorem ti_137_size : ti_137.size = 1 := by kernel_rfl
@[simp] theorem ti_137_bytes : ti_137.bytes = 8 := by kernel_rfl
@[simp] theorem ti_137_zero : ti_137.zero = some (.nilFunc) := by kernel_rfl
noncomputable abbrev ti_func___int_ := ti_137
theorem e_t_func___int_ : P.info? 137 = some ti_137 := ti_137_eq
theorem s_t_func___int_ : ti_137.size = 1 := ti_137_size
theorem b_t_func___int_ : ti_137.bytes = 8 := ti_137_bytes
abbrev t_spec_l2Search : TypeId := 148
theorem a_spec_l2Search : (P.underlying 148).map aggD = some true := by kernel_rfl
theorem i_spec_l2Search : (P.info? 148).map (·.size) = some 3 := by kernel_rfl
noncomputable def ti_148 : TypeInfo := (P.info? 148).getD default
@[simp] theorem ti_148_eq : P.info? 148 = some ti_148 := by kernel_rfl
@[simp] theorem ti_148_size : ti_148.size = 3 := by kernel_rfl
@[simp] theorem ti_148_bytes : ti_148.bytes = 40 := by kernel_rfl
@[simp] theorem ti_148_zero : ti_148.zero = some (.agg #[.slice none 0 0, .int .i64 0, .int .i64 0]) := by kernel_rfl
noncomputable abbrev ti_spec_l2Search := ti_148
theorem e_t_spec_l2Search : P.info? 148 = some ti_148 := ti_148_eq
theorem s_t_spec_l2Search : ti_148.size = 3 := ti_148_size
theorem b_t_spec_l2Search : ti_148.bytes = 40 := ti_148_bytes
theorem z_t_spec_l2Search : zeroP P 148 = some (.agg #[.slice none 0 0, .int .i64 0, .int .i64 0]) := zero_some ti_148_eq ti_148_zero rfl (by rw [ti_148_size]; rfl)
abbrev t_impl_Span : TypeId := 168
theorem a_impl_Span : (P.underlying 168).map aggD = some true := by kernel_rfl
theorem i_impl_Span : (P.info? 168).map (·.size) = some 3 := by kernel_rfl
noncomputable def ti_168 : TypeInfo := (P.info? 168).getD default
@[simp] theorem ti_168_eq : P.info? 168 = some ti_168 := by kernel_rfl
@[simp] theorem ti_168_size : ti_168.size = 3 := by kernel_rfl
@[simp] theorem ti_168_bytes : ti_168.bytes = 24 := by kernel_rfl
@[simp] theorem ti_168_zero : ti_168.zero = some (.agg #[.int .i64 0, .int .i64 0, .int .i64 0]) := by kernel_rfl
noncomputable abbrev ti_impl_Span := ti_168
theorem e_t_impl_Span : P.info? 168 = some ti_168 := ti_168_eq
theorem s_t_impl_Span : ti_168.size = 3 := ti_168_size
theorem b_t_impl_Span : ti_168.bytes = 24 := ti_168_bytes
theorem z_t_impl_Span : zeroP P 168 = some (.agg #[.int .i64 0, .int .i64 0, .int .i64 0]) := zero_some ti_168_eq ti_168_zero rfl (by rw [ti_168_size]; rfl)
def G : FuncId → GI
  | 297 => ⟨[], [(2, 9), (3, 8), (6, 9)], []⟩
  | 219 => ⟨[(4, [0, 1, 2, 7, 8]), (11, [0, 1, 7])], [], []⟩
  | 162 => ⟨[(5, [0, 3, 4])], [], []⟩
  | 149 => ⟨[(3, [0, 1, 5, 6])], [], [(6, 11, [(7, 4)])]⟩
  | 169 => ⟨[(2, [0, 3])], [], []⟩
  | 170 => ⟨[(2, [0, 3])], [], []⟩
  | 166 => ⟨[], [(1, 10)], []⟩
  | 152 => ⟨[(3, [0, 1, 5, 6]), (6, [0, 1, 5, 6, 7])], [], [(8, 10, [(6, 3)])]⟩
  | 167 => ⟨[(4, [8, 9, 10])], [], []⟩
  | 168 => ⟨[(2, [5, 6, 7])], [], []⟩
  | 281 => ⟨[(2, [1, 7, 8, 9])], [], []⟩
  | 305 => ⟨[(2, [0, 1, 7, 8, 9])], [], []⟩
  | 17 => ⟨[(4, [0, 1, 2, 8])], [(6, 16)], []⟩
  | 196 => ⟨[(2, [0, 1, 5])], [], []⟩
  | 298 => ⟨[(4, [0, 1, 5])], [], []⟩
  | 158 => ⟨[(2, [0, 1, 2, 7])], [(4, 11)], []⟩
  | 247 => ⟨[(3, [0, 3, 4])], [], []⟩
  | 299 => ⟨[], [(1, 9)], []⟩
  | 272 => ⟨[(3, [1, 5, 9, 10, 11]), (6, [1, 5, 7, 8, 9, 10, 11])], [(9, 7)], []⟩
  | 24 => ⟨[], [(3, 9)], []⟩
  | 26 => ⟨[(4, [0, 1, 5])], [(6, 8)], []⟩
  | 206 => ⟨[(4, [0, 5, 6, 12, 13, 14])], [(6, 12)], []⟩
  | 187 => ⟨[(3, [1, 2, 7, 10, 11, 12])], [(5, 9)], []⟩
  | 312 => ⟨[(2, [0, 3]), (7, [0, 3, 4]), (11, [0, 5, 6])], [(2, 12), (7, 8), (9, 13), (13, 13)], []⟩
  | 211 => ⟨[(1, [1, 4])], [], []⟩
  | 172 => ⟨[], [(4, 5)], []⟩
  | 174 => ⟨[(3, [0, 3, 4])], [], []⟩
  | 30 => ⟨[(5, [4, 5, 6, 7])], [], []⟩
  | 304 => ⟨[(2, [0, 3])], [(4, 9)], []⟩
  | 177 => ⟨[(3, [0, 5, 6, 7, 10, 11, 12])], [], []⟩
  | 178 => ⟨[(2, [0, 1, 2, 7])], [(4, 21)], []⟩
  | 306 => ⟨[(3, [0, 1, 5, 6])], [], []⟩
  | 179 => ⟨[(3, [0, 1, 5, 6, 7])], [(1, 15)], []⟩
  | 180 => ⟨[(3, [0, 3, 4])], [], []⟩
  | 181 => ⟨[(2, [0, 1, 5])], [(4, 8), (5, 8)], []⟩
  | 33 => ⟨[(5, [0, 4, 5])], [], []⟩
  | 182 => ⟨[(3, [0, 1, 5, 6])], [], []⟩
  | 183 => ⟨[(2, [0, 1, 5])], [(4, 8), (5, 8)], []⟩
  | 34 => ⟨[(5, [0, 4, 5])], [], []⟩
  | 184 => ⟨[(5, [0, 1, 2, 8, 9, 10, 11, 27, 28, 29]), (12, [0, 2, 8, 9, 10, 11, 48, 49, 50]), (18, [0, 2, 8, 9, 10, 11, 16]), (22, [0, 2, 8, 9, 10, 11, 16, 17, 76, 77, 78])], [(14, 12), (25, 28)], []⟩
  | 185 => ⟨[(3, [0, 1, 5, 13, 14, 15]), (12, [5, 97, 98, 99])], [(5, 22), (7, 31), (9, 10), (14, 6)], []⟩
  | 188 => ⟨[(3, [5, 11, 12, 13])], [], []⟩
  | 191 => ⟨[(4, [0, 3, 4, 5])], [], []⟩
  | 192 => ⟨[(5, [0, 6, 7, 8, 18, 19, 20]), (13, [0, 6, 7, 8, 10, 12, 18, 19, 20, 42, 43, 44])], [(15, 13), (20, 7)], []⟩
  | 193 => ⟨[(3, [0, 1, 5, 6])], [], []⟩
  | 307 => ⟨[(3, [0, 1, 5, 6])], [(5, 16)], []⟩
  | 202 => ⟨[], [(1, 8)], []⟩
  | 194 => ⟨[(4, [0, 2, 3, 4, 5])], [(6, 7), (8, 12), (13, 9)], []⟩
  | 41 => ⟨[(6, [0, 4, 5, 6])], [], []⟩
  | 200 => ⟨[(2, [0, 1, 5])], [], [(6, 11, [(7, 4)])]⟩
  | 201 => ⟨[(2, [0, 1, 5])], [], []⟩
  | 48 => ⟨[(6, [1, 6, 7, 8]), (10, [1, 6, 7, 9])], [], []⟩
  | 49 => ⟨[(5, [4, 5, 6, 7])], [], []⟩
  | 309 => ⟨[], [(1, 10)], []⟩
  | 203 => ⟨[(3, [2, 5, 10, 11, 12])], [], []⟩
  | 204 => ⟨[(4, [0, 1, 5, 6, 7])], [], []⟩
  | 52 => ⟨[(4, [0, 1, 5])], [(6, 8)], []⟩
  | 53 => ⟨[(5, [0, 6, 15, 16, 17])], [], []⟩
  | 54 => ⟨[(2, [0, 1, 5])], [], []⟩
  | 55 => ⟨[(3, [0, 1, 5, 6])], [], []⟩
  | 5 => ⟨[(28, [16, 17, 18, 32, 34, 35]), (35, [16, 18, 34, 38]), (40, [16, 18, 34, 38, 39, 40, 41])], [], []⟩
  | 58 => ⟨[], [(3, 10)], []⟩
  | 310 => ⟨[(2, [0, 3])], [], []⟩
  | 59 => ⟨[], [(4, 28)], []⟩
  | 210 => ⟨[(3, [0, 1, 5, 15, 16]), (8, [0, 5, 25, 26, 27]), (13, [0, 5, 9]), (16, [0, 5, 9, 10]), (19, [0, 5, 9, 10, 11])], [(10, 7), (21, 30)], []⟩
  | 311 => ⟨[(4, [0, 1, 17, 18, 19]), (13, [7, 83, 84])], [(8, 31)], []⟩
  | 213 => ⟨[(2, [0, 1, 9, 10, 11]), (5, [0, 1, 6, 9, 10, 11, 18, 19, 20])], [], []⟩
  | 336 => ⟨[(2, [0, 1, 5])], [(4, 46)], []⟩
  | 315 => ⟨[(3, [0, 1, 5, 6]), (7, [0, 1, 5, 7]), (11, [0, 5, 8]), (14, [0, 5, 8, 9]), (17, [0, 5, 8, 9, 10])], [(9, 13)], []⟩
  | 313 => ⟨[(5, [0, 5, 6])], [], []⟩
  | 329 => ⟨[(3, [0, 1, 5, 6, 7])], [(5, 15), (6, 15)], []⟩
  | 255 => ⟨[(3, [0, 5, 6])], [(5, 12)], []⟩
  | 321 => ⟨[(3, [0, 1, 2, 7, 8])], [(6, 11)], []⟩
  | 337 => ⟨[(2, [0, 1, 2, 7])], [], []⟩
  | 314 => ⟨[(7, [0, 1, 2, 3, 9, 10, 12])], [], [(10, 9, [(6, 3)])]⟩
  | 217 => ⟨[], [(2, 5)], []⟩
  | 62 => ⟨[(4, [0, 1, 5])], [(6, 8)], []⟩
  | 343 => ⟨[(9, [0, 1, 2, 7, 8, 10])], [], [(12, 8, [(5, 2)])]⟩
  | 316 => ⟨[], [(2, 5)], []⟩
  | 241 => ⟨[(3, [0, 3, 5, 6]), (9, [0, 3, 5, 7, 8])], [(5, 12), (11, 5), (12, 10)], []⟩
  | 318 => ⟨[(4, [0, 1, 2, 3, 4, 11])], [], []⟩
  | 223 => ⟨[(4, [0, 1, 2, 3, 9, 12])], [(2, 9)], [(7, 14, [(5, 2)])]⟩
  | 319 => ⟨[(3, [4, 6, 7, 16, 17, 18]), (10, [4, 6, 7, 10])], [(10, 11), (13, 7)], []⟩
  | 68 => ⟨[(4, [0, 1, 5])], [(6, 8)], []⟩
  | 69 => ⟨[(5, [10, 33, 34, 35])], [], []⟩
  | 229 => ⟨[(2, [0, 3, 5])], [(4, 5)], []⟩
  | 231 => ⟨[], [(0, 12)], []⟩
  | 7 => ⟨[(19, [3, 5, 6, 7, 11, 15, 16, 19]), (24, [3, 5, 6, 7, 11, 15, 16, 20]), (39, [7, 11, 15, 31, 32])], [(21, 24), (29, 22), (41, 18), (42, 5)], []⟩
  | 233 => ⟨[(8, [0, 1, 2, 3, 4, 5, 13, 14, 17])], [], [(11, 11, [(5, 2)])]⟩
  | 78 => ⟨[(6, [8, 9, 26, 27, 28]), (10, [8, 9, 10, 11, 12, 26, 27, 28, 35, 36, 37]), (13, [8, 9, 10, 11, 12, 14, 26, 27, 28, 35, 36, 37, 44, 45, 46])], [], []⟩
  | 234 => ⟨[(2, [0, 1, 5]), (5, [0, 1, 5, 6])], [(7, 12)], []⟩
  | 79 => ⟨[(6, [8, 9, 10])], [], []⟩
  | 235 => ⟨[], [], [(2, 5, [(1000, 4), (1001, 2), (1001, 3)])]⟩
  | 81 => ⟨[], [(6, 3)], []⟩
  | 236 => ⟨[(7, [0, 1, 2, 3, 4, 11, 12, 14])], [], [(10, 10, [(5, 2)])]⟩
  | 82 => ⟨[], [(4, 7)], []⟩
  | 8 => ⟨[(19, [0, 6, 7, 8, 12, 16, 20, 21]), (26, [0, 6, 7, 8, 12, 16, 22]), (31, [0, 6, 7, 8, 12, 16, 22, 23, 24]), (48, [28, 33, 35, 36, 37])], [(21, 33), (23, 19), (28, 16), (33, 10), (51, 15)], []⟩
  | 264 => ⟨[(3, [0, 1, 5, 6])], [], []⟩
  | 331 => ⟨[], [(1, 10), (2, 10), (3, 10), (4, 10)], []⟩
  | 261 => ⟨[(3, [0, 1, 5, 6]), (6, [0, 1, 5, 6, 7])], [(6, 14)], [(8, 14, [(10, 4)])]⟩
  | 238 => ⟨[(3, [0, 5, 9, 10, 11])], [], []⟩
  | 84 => ⟨[(6, [0, 1, 6, 7, 8]), (10, [0, 1, 6, 7, 8, 9, 35, 36, 37])], [(12, 25)], []⟩
  | 324 => ⟨[(3, [0, 1, 4, 5, 6])], [(5, 22)], []⟩
  | 262 => ⟨[(3, [0, 1, 5, 6])], [], []⟩
  | 239 => ⟨[(2, [0, 1, 6, 7]), (5, [0, 1, 6, 7, 8, 9, 10])], [(8, 17)], []⟩
  | 240 => ⟨[(3, [3, 6, 7, 8])], [], []⟩
  | 89 => ⟨[(5, [0, 4, 5, 6])], [], []⟩
  | 242 => ⟨[(9, [0, 1, 5, 8])], [], [(7, 11, [(1000, 7), (1001, 4), (1001, 5)])]⟩
  | 326 => ⟨[(2, [1, 2, 9, 10, 11])], [], []⟩
  | 328 => ⟨[], [(1, 8)], []⟩
  | 248 => ⟨[(3, [0, 1, 7, 10, 11, 12])], [(5, 11)], []⟩
  | 249 => ⟨[(3, [0, 5, 6, 9, 10, 11])], [(6, 12)], []⟩
  | 244 => ⟨[(3, [0, 1, 6, 12, 13])], [], []⟩
  | 245 => ⟨[(2, [0, 1, 5])], [], []⟩
  | 256 => ⟨[(3, [0, 3, 4]), (6, [0, 3, 4, 5])], [(6, 16)], [(8, 11, [(7, 4)])]⟩
  | 327 => ⟨[(3, [0, 3, 4])], [], []⟩
  | 251 => ⟨[(3, [0, 1, 2, 7, 8])], [(5, 17)], []⟩
  | 252 => ⟨[(3, [0, 1, 5, 6, 7])], [(6, 18)], []⟩
  | 246 => ⟨[(3, [0, 1, 5, 6])], [], []⟩
  | 254 => ⟨[(4, [0, 1, 5])], [(6, 8)], []⟩
  | 101 => ⟨[(5, [1, 2, 3, 4, 12, 47, 48])], [(7, 12)], []⟩
  | 102 => ⟨[(5, [1, 2, 3, 4, 12, 13])], [(7, 12)], []⟩
  | 10 => ⟨[(18, [0, 3, 4, 5, 6, 17]), (22, [0, 3, 4, 5, 6, 17, 18, 19])], [], []⟩
  | 259 => ⟨[(3, [0, 5, 6, 7])], [], []⟩
  | 330 => ⟨[], [(1, 34)], []⟩
  | 263 => ⟨[(3, [3, 7, 8, 9]), (6, [3, 5, 6, 7, 8, 9])], [(9, 7)], []⟩
  | 108 => ⟨[(5, [0, 4, 5])], [], []⟩
  | 265 => ⟨[(4, [0, 1, 5])], [(6, 8), (7, 8)], []⟩
  | 109 => ⟨[(5, [0, 4, 5]), (9, [0, 4, 5, 6, 7])], [], [(11, 11, [(7, 4)])]⟩
  | 110 => ⟨[(4, [0, 1, 5])], [(6, 8)], []⟩
  | 268 => ⟨[(3, [0, 4, 5, 8, 9, 10])], [(5, 7), (6, 7)], []⟩
  | 266 => ⟨[(3, [0, 3, 9, 10]), (7, [0, 3, 4])], [(12, 11)], []⟩
  | 332 => ⟨[(3, [0, 3, 4])], [], []⟩
  | 267 => ⟨[(3, [0, 3, 4, 5]), (7, [0, 3, 4, 6]), (11, [0, 3, 4, 6, 7, 8])], [(14, 17)], []⟩
  | 113 => ⟨[(5, [0, 4, 11, 12, 13])], [], []⟩
  | 269 => ⟨[(3, [0, 3, 4])], [], []⟩
  | 114 => ⟨[(5, [0, 4, 5])], [], []⟩
  | 115 => ⟨[(2, [0, 1, 5])], [], []⟩
  | 11 => ⟨[(29, [3, 4, 5, 6, 9, 13, 14, 17, 21, 25, 27]), (40, [3, 4, 5, 6, 13, 17, 21, 30, 31, 32]), (45, [3, 4, 5, 6, 13, 17, 21, 30, 31, 33, 34]), (49, [3, 4, 5, 6, 13, 17, 21, 30, 31, 33, 34, 35, 36, 37])], [], []⟩
  | 270 => ⟨[(3, [0, 3, 4])], [], []⟩
  | 271 => ⟨[(4, [8, 9, 10])], [], []⟩
  | 273 => ⟨[], [(1, 10)], []⟩
  | 274 => ⟨[(2, [0, 1, 5])], [(7, 7)], []⟩
  | 117 => ⟨[(5, [1, 4, 15, 16, 17])], [], []⟩
  | 275 => ⟨[(2, [0, 3])], [], []⟩
  | 118 => ⟨[(5, [0, 4, 5]), (8, [0, 4, 5, 6])], [], []⟩
  | 276 => ⟨[(3, [3, 6, 7, 8])], [], []⟩
  | 119 => ⟨[(5, [0, 6, 7, 8])], [], []⟩
  | 278 => ⟨[(3, [0, 1, 5, 6])], [], []⟩
  | 279 => ⟨[(6, [1, 5, 6, 7])], [], []⟩
  | 122 => ⟨[(5, [5, 6, 7, 8])], [], []⟩
  | 282 => ⟨[(3, [1, 5, 8, 9, 10])], [], []⟩
  | 123 => ⟨[(8, [0, 2, 8, 9, 47, 48, 49])], [], []⟩
  | 124 => ⟨[(5, [0, 1, 2, 8, 9])], [], []⟩
  | 283 => ⟨[], [(1, 10)], []⟩
  | 126 => ⟨[(7, [1, 2, 6, 7, 8, 9]), (10, [1, 2, 6, 7, 8, 9, 10]), (16, [6, 11, 67, 68, 69])], [(9, 5)], []⟩
  | 127 => ⟨[(5, [0, 1, 6, 7, 8, 9]), (8, [0, 1, 6, 7, 8, 9, 10]), (12, [0, 1, 6, 7, 8, 11]), (18, [1, 8, 12, 13])], [(3, 6), (8, 21)], [(10, 14, [(10, 4)])]⟩
  | 12 => ⟨[(11, [0, 3, 4, 8, 9]), (19, [0, 3, 8, 10, 14]), (23, [0, 3, 8, 10, 14, 15, 16]), (35, [0, 19, 20, 21, 22, 25]), (51, [0, 29, 32, 38]), (63, [42, 43, 44, 45, 48]), (69, [42, 43, 44, 45, 49, 50, 51]), (73, [42, 43, 44, 45, 49, 50, 51, 52, 53]), (78, [42, 43, 44, 45, 49, 50, 51, 52, 54])], [(37, 9), (53, 9), (65, 28), (67, 5), (75, 25)], []⟩
  | 285 => ⟨[(3, [0, 1, 2, 7, 8]), (8, [0, 1, 2, 7, 8, 9, 32, 33, 34])], [(10, 13)], []⟩
  | 129 => ⟨[(6, [0, 5, 6, 35, 36, 37]), (15, [0, 6, 9, 10, 11, 60, 61, 62]), (22, [0, 6, 9, 10, 11, 14, 15])], [(8, 10), (25, 8), (26, 9), (27, 10)], []⟩
  | 287 => ⟨[(3, [0, 1, 5, 6])], [(5, 13)], []⟩
  | 344 => ⟨[(3, [0, 1, 5, 6])], [], []⟩
  | 341 => ⟨[], [(1, 16)], []⟩
  | 333 => ⟨[(3, [0, 1, 5, 6]), (7, [0, 1, 5, 6, 7, 8])], [], []⟩
  | 334 => ⟨[(5, [0, 1, 2, 7, 8])], [(8, 20)], []⟩
  | 289 => ⟨[(3, [0, 1, 2, 3, 9, 10])], [(7, 22)], []⟩
  | 130 => ⟨[(8, [0, 5, 7, 8, 9, 10])], [], []⟩
  | 131 => ⟨[], [(3, 6)], []⟩
  | 133 => ⟨[(5, [0, 4, 5, 14, 15, 16]), (12, [4, 5, 8, 9, 36, 37])], [(7, 9)], []⟩
  | 290 => ⟨[(3, [0, 3, 4]), (6, [0, 3, 4, 5])], [(6, 13)], [(8, 14, [(10, 4)])]⟩
  | 134 => ⟨[(5, [0, 4, 5, 6, 7, 8]), (12, [0, 4, 5, 6, 7, 9])], [], []⟩
  | 137 => ⟨[(3, [0, 1, 2, 7, 8])], [(5, 9), (7, 15)], []⟩
  | 291 => ⟨[(5, [0, 3, 4])], [(7, 12)], []⟩
  | 139 => ⟨[(4, [0, 11, 12, 13]), (7, [0, 5, 11, 12, 13, 17, 18, 19])], [], []⟩
  | 140 => ⟨[(4, [0, 4]), (7, [0, 4, 5])], [(9, 22)], []⟩
  | 13 => ⟨[(27, [0, 3, 4, 5, 6, 10, 18, 24]), (34, [0, 3, 4, 5, 10, 18, 25, 26, 27]), (40, [0, 3, 4, 5, 10, 25, 26, 28, 29])], [(29, 10), (43, 22)], []⟩
  | 293 => ⟨[(3, [0, 3, 4]), (7, [0, 3, 4, 5, 6, 21, 22, 23]), (13, [0, 3, 6, 9, 37, 38, 39])], [(15, 21)], []⟩
  | 335 => ⟨[(3, [0, 1, 2, 7, 8])], [(5, 27)], []⟩
  | 294 => ⟨[(3, [0, 3, 4])], [], []⟩
  | 295 => ⟨[(5, [0, 3, 4, 5, 14, 15, 16]), (11, [0, 3, 4, 5, 8])], [(7, 26), (11, 27)], []⟩
  | 296 => ⟨[(5, [0, 3, 4, 5, 6, 7]), (10, [3, 4, 5, 6, 8])], [(7, 32), (10, 18)], []⟩
  | 146 => ⟨[(6, [0, 4, 5, 6])], [(8, 13)], []⟩
  | 147 => ⟨[(6, [0, 4, 5, 6])], [(8, 13)], []⟩
  | 14 => ⟨[(18, [3, 4, 8, 16, 18, 19])], [], []⟩
  | _ => ⟨[], [], []⟩
noncomputable def c_laws_vBig : Code := Go.Proofs.Try.f15.body.getD .skip
abbrev n_laws_vBig : FuncId := 15
theorem g_laws_vBig : G 15 = ⟨[], [], []⟩ := rfl
attribute [simp] c_laws_vBig g_laws_vBig Go.Proofs.Try.f15
theorem e_laws_vBig : enterG P (G 15) 15 = some (c_laws_vBig, 6, #[.tmp 2]) := by kernel_rfl
noncomputable def c_spec_l1Cur_next : Code := Go.Proofs.Try.f297.body.getD .skip
abbrev n_spec_l1Cur_next : FuncId := 297
theorem g_spec_l1Cur_next : G 297 = ⟨[], [(2, 9), (3, 8), (6, 9)], []⟩ := rfl
attribute [simp] c_spec_l1Cur_next g_spec_l1Cur_next Go.Proofs.Try.f297
theorem e_spec_l1Cur_next : enterG P (G 297) 297 = some (c_spec_l1Cur_next, 62, #[.tmp 2]) := by kernel_rfl
noncomputable def c_spec_l1Cur_pick : Code := Go.Proofs.Try.f154.body.getD .skip
abbrev n_spec_l1Cur_pick : FuncId := 154
theorem g_spec_l1Cur_pick : G 154 = ⟨[], [], []⟩ := rfl
attribute [simp] c_spec_l1Cur_pick g_spec_l1Cur_pick Go.Proofs.Try.f154
theorem e_spec_l1Cur_pick : enterG P (G 154) 154 = some (c_spec_l1Cur_pick, 20, #[.tmp 4]) := by kernel_rfl
noncomputable def c_spec_l1Cur_one : Code := Go.Proofs.Try.f151.body.getD .skip
abbrev n_spec_l1Cur_one : FuncId := 151
theorem g_spec_l1Cur_one : G 151 = ⟨[], [], []⟩ := rfl
attribute [simp] c_spec_l1Cur_one g_spec_l1Cur_one Go.Proofs.Try.f151
theorem e_spec_l1Cur_one : enterG P (G 151) 151 = some (c_spec_l1Cur_one, 9, #[.tmp 4]) := by kernel_rfl
noncomputable def c_spec_l1Cur_among : Code := Go.Proofs.Try.f175.body.getD .skip
abbrev n_spec_l1Cur_among : FuncId := 175
theorem g_spec_l1Cur_among : G 175 = ⟨[], [], []⟩ := rfl
attribute [simp] c_spec_l1Cur_among g_spec_l1Cur_among Go.Proofs.Try.f175
theorem e_spec_l1Cur_among : enterG P (G 175) 175 = some (c_spec_l1Cur_among, 12, #[.tmp 4]) := by kernel_rfl
noncomputable def c_spec_l1Cur_job : Code := Go.Proofs.Try.f317.body.getD .skip
abbrev n_spec_l1Cur_job : FuncId := 317
theorem g_spec_l1Cur_job : G 317 = ⟨[], [], []⟩ := rfl
attribute [simp] c_spec_l1Cur_job g_spec_l1Cur_job Go.Proofs.Try.f317
theorem e_spec_l1Cur_job : enterG P (G 317) 317 = some (c_spec_l1Cur_job, 20, #[.cell 4 85]) := by kernel_rfl
noncomputable def c_spec_l1Cur_spoiltJob : Code := Go.Proofs.Try.f303.body.getD .skip
abbrev n_spec_l1Cur_spoiltJob : FuncId := 303
theorem g_spec_l1Cur_spoiltJob : G 303 = ⟨[], [], []⟩ := rfl
attribute [simp] c_spec_l1Cur_spoiltJob g_spec_l1Cur_spoiltJob Go.Proofs.Try.f303
theorem e_spec_l1Cur_spoiltJob : enterG P (G 303) 303 = some (c_spec_l1Cur_spoiltJob, 30, #[.cell 4 85]) := by kernel_rfl
noncomputable def c_spec_l1Cur_someJobs : Code := Go.Proofs.Try.f219.body.getD .skip
abbrev n_spec_l1Cur_someJobs : FuncId := 219
theorem g_spec_l1Cur_someJobs : G 219 = ⟨[(4, [0, 1, 2, 7, 8]), (11, [0, 1, 7])], [], []⟩ := rfl
attribute [simp] c_spec_l1Cur_someJobs g_spec_l1Cur_someJobs Go.Proofs.Try.f219
theorem e_spec_l1Cur_someJobs : enterG P (G 219) 219 = some (c_spec_l1Cur_someJobs, 71, #[.tmp 6]) := by kernel_rfl
noncomputable def c_spec_l1Cur_jobs : Code := Go.Proofs.Try.f161.body.getD .skip
abbrev n_spec_l1Cur_jobs : FuncId := 161
theorem g_spec_l1Cur_jobs : G 161 = ⟨[], [], []⟩ := rfl
attribute [simp] c_spec_l1Cur_jobs g_spec_l1Cur_jobs Go.Proofs.Try.f161
theorem e_spec_l1Cur_jobs : enterG P (G 161) 161 = some (c_spec_l1Cur_jobs, 7, #[.tmp 2]) := by kernel_rfl
noncomputable def c_spec_l1Cur_plain3 : Code := Go.Proofs.Try.f162.body.getD .skip
abbrev n_spec_l1Cur_plain3 : FuncId := 162
theorem g_spec_l1Cur_plain3 : G 162 = ⟨[(5, [0, 3, 4])], [], []⟩ := rfl
attribute [simp] c_spec_l1Cur_plain3 g_spec_l1Cur_plain3 Go.Proofs.Try.f162
theorem e_spec_l1Cur_plain3 : enterG P (G 162) 162 = some (c_spec_l1Cur_plain3, 47, #[.tmp 2]) := by kernel_rfl
noncomputable def c_spec_l1Cur_ruled3 : Code := Go.Proofs.Try.f148.body.getD .skip
abbrev n_spec_l1Cur_ruled3 : FuncId := 148
theorem g_spec_l1Cur_ruled3 : G 148 = ⟨[], [], []⟩ := rfl
attribute [simp] c_spec_l1Cur_ruled3 g_spec_l1Cur_ruled3 Go.Proofs.Try.f148
theorem e_spec_l1Cur_ruled3 : enterG P (G 148) 148 = some (c_spec_l1Cur_ruled3, 21, #[.tmp 2, .tmp 3]) := by kernel_rfl
noncomputable def c_spec_l1Cur_order : Code := Go.Proofs.Try.f149.body.getD .skip
abbrev n_spec_l1Cur_order : FuncId := 149
theorem g_spec_l1Cur_order : G 149 = ⟨[(3, [0, 1, 5, 6])], [], [(6, 11, [(7, 4)])]⟩ := rfl
attribute [simp] c_spec_l1Cur_order g_spec_l1Cur_order Go.Proofs.Try.f149
theorem e_spec_l1Cur_order : enterG P (G 149) 149 = some (c_spec_l1Cur_order, 41, #[.tmp 4]) := by kernel_rfl
noncomputable def c_spec_l1In : Code := Go.Proofs.Try.f199.body.getD .skip
abbrev n_spec_l1In : FuncId := 199
theorem g_spec_l1In : G 199 = ⟨[], [], []⟩ := rfl
attribute [simp] c_spec_l1In g_spec_l1In Go.Proofs.Try.f199
theorem e_spec_l1In : enterG P (G 199) 199 = some (c_spec_l1In, 15, #[.tmp 6]) := by kernel_rfl
noncomputable def c_spec_l2Job : Code := Go.Proofs.Try.f301.body.getD .skip
abbrev n_spec_l2Job : FuncId := 301
theorem g_spec_l2Job : G 301 = ⟨[], [], []⟩ := rfl
attribute [simp] c_spec_l2Job g_spec_l2Job Go.Proofs.Try.f301
theorem e_spec_l2Job : enterG P (G 301) 301 = some (c_spec_l2Job, 21, #[.tmp 2]) := by kernel_rfl
noncomputable def c_spec_l2Good : Code := Go.Proofs.Try.f169.body.getD .skip
abbrev n_spec_l2Good : FuncId := 169
theorem g_spec_l2Good : G 169 = ⟨[(2, [0, 3])], [], []⟩ := rfl
attribute [simp] c_spec_l2Good g_spec_l2Good Go.Proofs.Try.f169
theorem e_spec_l2Good : enterG P (G 169) 169 = some (c_spec_l2Good, 19, #[.tmp 2]) := by kernel_rfl
noncomputable def c_spec_l3Plain : Code := Go.Proofs.Try.f170.body.getD .skip
abbrev n_spec_l3Plain : FuncId := 170
theorem g_spec_l3Plain : G 170 = ⟨[(2, [0, 3])], [], []⟩ := rfl
attribute [simp] c_spec_l3Plain g_spec_l3Plain Go.Proofs.Try.f170
theorem e_spec_l3Plain : enterG P (G 170) 170 = some (c_spec_l3Plain, 16, #[.tmp 2]) := by kernel_rfl
noncomputable def c_spec_l3Ruled : Code := Go.Proofs.Try.f150.body.getD .skip
abbrev n_spec_l3Ruled : FuncId := 150
theorem g_spec_l3Ruled : G 150 = ⟨[], [], []⟩ := rfl
attribute [simp] c_spec_l3Ruled g_spec_l3Ruled Go.Proofs.Try.f150
theorem e_spec_l3Ruled : enterG P (G 150) 150 = some (c_spec_l3Ruled, 19, #[.tmp 4]) := by kernel_rfl
noncomputable def c_spec_l3Gap : Code := Go.Proofs.Try.f166.body.getD .skip
abbrev n_spec_l3Gap : FuncId := 166
theorem g_spec_l3Gap : G 166 = ⟨[], [(1, 10)], []⟩ := rfl
attribute [simp] c_spec_l3Gap g_spec_l3Gap Go.Proofs.Try.f166
theorem e_spec_l3Gap : enterG P (G 166) 166 = some (c_spec_l3Gap, 52, #[.tmp 8]) := by kernel_rfl
noncomputable def c_spec_l1Own : Code := Go.Proofs.Try.f195.body.getD .skip
abbrev n_spec_l1Own : FuncId := 195
theorem g_spec_l1Own : G 195 = ⟨[], [], []⟩ := rfl
attribute [simp] c_spec_l1Own g_spec_l1Own Go.Proofs.Try.f195
theorem e_spec_l1Own : enterG P (G 195) 195 = some (c_spec_l1Own, 6, #[.tmp 2]) := by kernel_rfl
noncomputable def c_spec_l3Order : Code := Go.Proofs.Try.f152.body.getD .skip
abbrev n_spec_l3Order : FuncId := 152
theorem g_spec_l3Order : G 152 = ⟨[(3, [0, 1, 5, 6]), (6, [0, 1, 5, 6, 7])], [], [(8, 10, [(6, 3)])]⟩ := rfl
attribute [simp] c_spec_l3Order g_spec_l3Order Go.Proofs.Try.f152
theorem e_spec_l3Order : enterG P (G 152) 152 = some (c_spec_l3Order, 44, #[.tmp 4]) := by kernel_rfl
noncomputable def c_spec_l2Swap : Code := Go.Proofs.Try.f153.body.getD .skip
abbrev n_spec_l2Swap : FuncId := 153
theorem g_spec_l2Swap : G 153 = ⟨[], [], []⟩ := rfl
attribute [simp] c_spec_l2Swap g_spec_l2Swap Go.Proofs.Try.f153
theorem e_spec_l2Swap : enterG P (G 153) 153 = some (c_spec_l2Swap, 25, #[.tmp 4]) := by kernel_rfl
noncomputable def c_spec_DrawIsRuledOrder : Code := Go.Proofs.Try.f16.body.getD .skip
abbrev n_spec_DrawIsRuledOrder : FuncId := 16
theorem g_spec_DrawIsRuledOrder : G 16 = ⟨[], [], []⟩ := rfl
attribute [simp] c_spec_DrawIsRuledOrder g_spec_DrawIsRuledOrder Go.Proofs.Try.f16
theorem e_spec_DrawIsRuledOrder : enterG P (G 16) 16 = some (c_spec_DrawIsRuledOrder, 48, #[.tmp 2, .tmp 3, .tmp 4]) := by kernel_rfl
noncomputable def c_impl_within : Code := Go.Proofs.Try.f197.body.getD .skip
abbrev n_impl_within : FuncId := 197
theorem g_impl_within : G 197 = ⟨[], [], []⟩ := rfl
attribute [simp] c_impl_within g_impl_within Go.Proofs.Try.f197
theorem e_impl_within : enterG P (G 197) 197 = some (c_impl_within, 15, #[.tmp 6]) := by kernel_rfl
noncomputable def c_impl_isDate : Code := Go.Proofs.Try.f300.body.getD .skip
abbrev n_impl_isDate : FuncId := 300
theorem g_impl_isDate : G 300 = ⟨[], [], []⟩ := rfl
attribute [simp] c_impl_isDate g_impl_isDate Go.Proofs.Try.f300
theorem e_impl_isDate : enterG P (G 300) 300 = some (c_impl_isDate, 5, #[.tmp 2]) := by kernel_rfl
noncomputable def c_impl_IsJobs : Code := Go.Proofs.Try.f167.body.getD .skip
abbrev n_impl_IsJobs : FuncId := 167
theorem g_impl_IsJobs : G 167 = ⟨[(4, [8, 9, 10])], [], []⟩ := rfl
attribute [simp] c_impl_IsJobs g_impl_IsJobs Go.Proofs.Try.f167
theorem e_impl_IsJobs : enterG P (G 167) 167 = some (c_impl_IsJobs, 37, #[.tmp 2]) := by kernel_rfl
noncomputable def c_impl_isPlain : Code := Go.Proofs.Try.f168.body.getD .skip
abbrev n_impl_isPlain : FuncId := 168
theorem g_impl_isPlain : G 168 = ⟨[(2, [5, 6, 7])], [], []⟩ := rfl
attribute [simp] c_impl_isPlain g_impl_isPlain Go.Proofs.Try.f168
theorem e_impl_isPlain : enterG P (G 168) 168 = some (c_impl_isPlain, 15, #[.tmp 2]) := by kernel_rfl
noncomputable def c_impl_isRuled : Code := Go.Proofs.Try.f159.body.getD .skip
abbrev n_impl_isRuled : FuncId := 159
theorem g_impl_isRuled : G 159 = ⟨[], [], []⟩ := rfl
attribute [simp] c_impl_isRuled g_impl_isRuled Go.Proofs.Try.f159
theorem e_impl_isRuled : enterG P (G 159) 159 = some (c_impl_isRuled, 19, #[.tmp 4]) := by kernel_rfl
noncomputable def c_impl_isNumber : Code := Go.Proofs.Try.f164.body.getD .skip
abbrev n_impl_isNumber : FuncId := 164
theorem g_impl_isNumber : G 164 = ⟨[], [], []⟩ := rfl
attribute [simp] c_impl_isNumber g_impl_isNumber Go.Proofs.Try.f164
theorem e_impl_isNumber : enterG P (G 164) 164 = some (c_impl_isNumber, 9, #[.tmp 4]) := by kernel_rfl
noncomputable def c_impl_has : Code := Go.Proofs.Try.f281.body.getD .skip
abbrev n_impl_has : FuncId := 281
theorem g_impl_has : G 281 = ⟨[(2, [1, 7, 8, 9])], [], []⟩ := rfl
attribute [simp] c_impl_has g_impl_has Go.Proofs.Try.f281
theorem e_impl_has : enterG P (G 281) 281 = some (c_impl_has, 17, #[.tmp 4]) := by kernel_rfl
noncomputable def c_impl_areDifferent : Code := Go.Proofs.Try.f305.body.getD .skip
abbrev n_impl_areDifferent : FuncId := 305
theorem g_impl_areDifferent : G 305 = ⟨[(2, [0, 1, 7, 8, 9])], [], []⟩ := rfl
attribute [simp] c_impl_areDifferent g_impl_areDifferent Go.Proofs.Try.f305
theorem e_impl_areDifferent : enterG P (G 305) 305 = some (c_impl_areDifferent, 26, #[.tmp 4]) := by kernel_rfl
noncomputable def c_impl_isOrder : Code := Go.Proofs.Try.f226.body.getD .skip
abbrev n_impl_isOrder : FuncId := 226
theorem g_impl_isOrder : G 226 = ⟨[], [], []⟩ := rfl
attribute [simp] c_impl_isOrder g_impl_isOrder Go.Proofs.Try.f226
theorem e_impl_isOrder : enterG P (G 226) 226 = some (c_impl_isOrder, 14, #[.tmp 4]) := by kernel_rfl
noncomputable def c_impl_isRuledAndOrdered : Code := Go.Proofs.Try.f155.body.getD .skip
abbrev n_impl_isRuledAndOrdered : FuncId := 155
theorem g_impl_isRuledAndOrdered : G 155 = ⟨[], [], []⟩ := rfl
attribute [simp] c_impl_isRuledAndOrdered g_impl_isRuledAndOrdered Go.Proofs.Try.f155
theorem e_impl_isRuledAndOrdered : enterG P (G 155) 155 = some (c_impl_isRuledAndOrdered, 16, #[.tmp 6]) := by kernel_rfl
noncomputable def c_impl_difference : Code := Go.Proofs.Try.f156.body.getD .skip
abbrev n_impl_difference : FuncId := 156
theorem g_impl_difference : G 156 = ⟨[], [], []⟩ := rfl
attribute [simp] c_impl_difference g_impl_difference Go.Proofs.Try.f156
theorem e_impl_difference : enterG P (G 156) 156 = some (c_impl_difference, 40, #[.tmp 6]) := by kernel_rfl
noncomputable def c_impl_IsRuledOrder : Code := Go.Proofs.Try.f17.body.getD .skip
abbrev n_impl_IsRuledOrder : FuncId := 17
theorem g_impl_IsRuledOrder : G 17 = ⟨[(4, [0, 1, 2, 8])], [(6, 16)], []⟩ := rfl
attribute [simp] c_impl_IsRuledOrder g_impl_IsRuledOrder Go.Proofs.Try.f17
theorem e_impl_IsRuledOrder : enterG P (G 17) 17 = some (c_impl_IsRuledOrder, 38, #[.tmp 6, .tmp 7]) := by kernel_rfl
noncomputable def c_spec_l1Has : Code := Go.Proofs.Try.f196.body.getD .skip
abbrev n_spec_l1Has : FuncId := 196
theorem g_spec_l1Has : G 196 = ⟨[(2, [0, 1, 5])], [], []⟩ := rfl
attribute [simp] c_spec_l1Has g_spec_l1Has Go.Proofs.Try.f196
theorem e_spec_l1Has : enterG P (G 196) 196 = some (c_spec_l1Has, 18, #[.tmp 4]) := by kernel_rfl
noncomputable def c_spec_l2Order : Code := Go.Proofs.Try.f298.body.getD .skip
abbrev n_spec_l2Order : FuncId := 298
theorem g_spec_l2Order : G 298 = ⟨[(4, [0, 1, 5])], [], []⟩ := rfl
attribute [simp] c_spec_l2Order g_spec_l2Order Go.Proofs.Try.f298
theorem e_spec_l2Order : enterG P (G 298) 298 = some (c_spec_l2Order, 24, #[.tmp 4]) := by kernel_rfl
noncomputable def c_spec_l3Both : Code := Go.Proofs.Try.f157.body.getD .skip
abbrev n_spec_l3Both : FuncId := 157
theorem g_spec_l3Both : G 157 = ⟨[], [], []⟩ := rfl
attribute [simp] c_spec_l3Both g_spec_l3Both Go.Proofs.Try.f157
theorem e_spec_l3Both : enterG P (G 157) 157 = some (c_spec_l3Both, 16, #[.tmp 6]) := by kernel_rfl
noncomputable def c_spec_l3Wrong : Code := Go.Proofs.Try.f158.body.getD .skip
abbrev n_spec_l3Wrong : FuncId := 158
theorem g_spec_l3Wrong : G 158 = ⟨[(2, [0, 1, 2, 7])], [(4, 11)], []⟩ := rfl
attribute [simp] c_spec_l3Wrong g_spec_l3Wrong Go.Proofs.Try.f158
theorem e_spec_l3Wrong : enterG P (G 158) 158 = some (c_spec_l3Wrong, 29, #[.tmp 6]) := by kernel_rfl
noncomputable def c_spec_IsRuledOrder : Code := Go.Proofs.Try.f18.body.getD .skip
abbrev n_spec_IsRuledOrder : FuncId := 18
theorem g_spec_IsRuledOrder : G 18 = ⟨[], [], []⟩ := rfl
attribute [simp] c_spec_IsRuledOrder g_spec_IsRuledOrder Go.Proofs.Try.f18
theorem e_spec_IsRuledOrder : enterG P (G 18) 18 = some (c_spec_IsRuledOrder, 18, #[.tmp 6, .tmp 7]) := by kernel_rfl
noncomputable def c_impl_numbersTo : Code := Go.Proofs.Try.f247.body.getD .skip
abbrev n_impl_numbersTo : FuncId := 247
theorem g_impl_numbersTo : G 247 = ⟨[(3, [0, 3, 4])], [], []⟩ := rfl
attribute [simp] c_impl_numbersTo g_impl_numbersTo Go.Proofs.Try.f247
theorem e_impl_numbersTo : enterG P (G 247) 247 = some (c_impl_numbersTo, 15, #[.tmp 2]) := by kernel_rfl
noncomputable def c_impl_ruledOrder_1 : Code := Go.Proofs.Try.f299.body.getD .skip
abbrev n_impl_ruledOrder_1 : FuncId := 299
theorem g_impl_ruledOrder_1 : G 299 = ⟨[], [(1, 9)], []⟩ := rfl
attribute [simp] c_impl_ruledOrder_1 g_impl_ruledOrder_1 Go.Proofs.Try.f299
theorem e_impl_ruledOrder_1 : enterG P (G 299) 299 = some (c_impl_ruledOrder_1, 18, #[.tmp 6]) := by kernel_rfl
noncomputable def c_impl_sortedBy : Code := Go.Proofs.Try.f272.body.getD .skip
abbrev n_impl_sortedBy : FuncId := 272
theorem g_impl_sortedBy : G 272 = ⟨[(3, [1, 5, 9, 10, 11]), (6, [1, 5, 7, 8, 9, 10, 11])], [(9, 7)], []⟩ := rfl
attribute [simp] c_impl_sortedBy g_impl_sortedBy Go.Proofs.Try.f272
theorem e_impl_sortedBy : enterG P (G 272) 272 = some (c_impl_sortedBy, 48, #[.tmp 4]) := by kernel_rfl
noncomputable def c_impl_ruledOrder : Code := Go.Proofs.Try.f160.body.getD .skip
abbrev n_impl_ruledOrder : FuncId := 160
theorem g_impl_ruledOrder : G 160 = ⟨[], [], []⟩ := rfl
attribute [simp] c_impl_ruledOrder g_impl_ruledOrder Go.Proofs.Try.f160
theorem e_impl_ruledOrder : enterG P (G 160) 160 = some (c_impl_ruledOrder, 10, #[.tmp 4]) := by kernel_rfl
noncomputable def c_impl_RuledOrder : Code := Go.Proofs.Try.f19.body.getD .skip
abbrev n_impl_RuledOrder : FuncId := 19
theorem g_impl_RuledOrder : G 19 = ⟨[], [], []⟩ := rfl
attribute [simp] c_impl_RuledOrder g_impl_RuledOrder Go.Proofs.Try.f19
theorem e_impl_RuledOrder : enterG P (G 19) 19 = some (c_impl_RuledOrder, 13, #[.tmp 4, .tmp 5]) := by kernel_rfl
noncomputable def c_spec_RuledOrder : Code := Go.Proofs.Try.f20.body.getD .skip
abbrev n_spec_RuledOrder : FuncId := 20
theorem g_spec_RuledOrder : G 20 = ⟨[], [], []⟩ := rfl
attribute [simp] c_spec_RuledOrder g_spec_RuledOrder Go.Proofs.Try.f20
theorem e_spec_RuledOrder : enterG P (G 20) 20 = some (c_spec_RuledOrder, 14, #[.tmp 4, .tmp 5]) := by kernel_rfl
noncomputable def c_laws_vCut : Code := Go.Proofs.Try.f22.body.getD .skip
abbrev n_laws_vCut : FuncId := 22
theorem g_laws_vCut : G 22 = ⟨[], [], []⟩ := rfl
attribute [simp] c_laws_vCut g_laws_vCut Go.Proofs.Try.f22
theorem e_laws_vCut : enterG P (G 22) 22 = some (c_laws_vCut, 20, #[.tmp 4]) := by kernel_rfl
noncomputable def c_spec_DrawIsPlain : Code := Go.Proofs.Try.f21.body.getD .skip
abbrev n_spec_DrawIsPlain : FuncId := 21
theorem g_spec_DrawIsPlain : G 21 = ⟨[], [], []⟩ := rfl
attribute [simp] c_spec_DrawIsPlain g_spec_DrawIsPlain Go.Proofs.Try.f21
theorem e_spec_DrawIsPlain : enterG P (G 21) 21 = some (c_spec_DrawIsPlain, 13, #[.tmp 2]) := by kernel_rfl
noncomputable def c_spec_l1Most : Code := Go.Proofs.Try.f163.body.getD .skip
abbrev n_spec_l1Most : FuncId := 163
theorem g_spec_l1Most : G 163 = ⟨[], [], []⟩ := rfl
attribute [simp] c_spec_l1Most g_spec_l1Most Go.Proofs.Try.f163
theorem e_spec_l1Most : enterG P (G 163) 163 = some (c_spec_l1Most, 10, #[.tmp 4]) := by kernel_rfl
noncomputable def c_spec_DrawRuleDifference : Code := Go.Proofs.Try.f23.body.getD .skip
abbrev n_spec_DrawRuleDifference : FuncId := 23
theorem g_spec_DrawRuleDifference : G 23 = ⟨[], [], []⟩ := rfl
attribute [simp] c_spec_DrawRuleDifference g_spec_DrawRuleDifference Go.Proofs.Try.f23
theorem e_spec_DrawRuleDifference : enterG P (G 23) 23 = some (c_spec_DrawRuleDifference, 30, #[.tmp 2, .tmp 3, .tmp 4, .tmp 5]) := by kernel_rfl
noncomputable def c_impl_RuleDifference : Code := Go.Proofs.Try.f24.body.getD .skip
abbrev n_impl_RuleDifference : FuncId := 24
theorem g_impl_RuleDifference : G 24 = ⟨[], [(3, 9)], []⟩ := rfl
attribute [simp] c_impl_RuleDifference g_impl_RuleDifference Go.Proofs.Try.f24
theorem e_impl_RuleDifference : enterG P (G 24) 24 = some (c_impl_RuleDifference, 38, #[.tmp 8, .tmp 9]) := by kernel_rfl
noncomputable def c_spec_l3Job : Code := Go.Proofs.Try.f165.body.getD .skip
abbrev n_spec_l3Job : FuncId := 165
theorem g_spec_l3Job : G 165 = ⟨[], [], []⟩ := rfl
attribute [simp] c_spec_l3Job g_spec_l3Job Go.Proofs.Try.f165
theorem e_spec_l3Job : enterG P (G 165) 165 = some (c_spec_l3Job, 10, #[.tmp 4]) := by kernel_rfl
noncomputable def c_spec_RuleDifference : Code := Go.Proofs.Try.f25.body.getD .skip
abbrev n_spec_RuleDifference : FuncId := 25
theorem g_spec_RuleDifference : G 25 = ⟨[], [], []⟩ := rfl
attribute [simp] c_spec_RuleDifference g_spec_RuleDifference Go.Proofs.Try.f25
theorem e_spec_RuleDifference : enterG P (G 25) 25 = some (c_spec_RuleDifference, 31, #[.tmp 8, .tmp 9]) := by kernel_rfl
noncomputable def c_laws_vInts : Code := Go.Proofs.Try.f26.body.getD .skip
abbrev n_laws_vInts : FuncId := 26
theorem g_laws_vInts : G 26 = ⟨[(4, [0, 1, 5])], [(6, 8)], []⟩ := rfl
attribute [simp] c_laws_vInts g_laws_vInts Go.Proofs.Try.f26
theorem e_laws_vInts : enterG P (G 26) 26 = some (c_laws_vInts, 26, #[.tmp 4]) := by kernel_rfl
noncomputable def c_impl_IsPlain : Code := Go.Proofs.Try.f27.body.getD .skip
abbrev n_impl_IsPlain : FuncId := 27
theorem g_impl_IsPlain : G 27 = ⟨[], [], []⟩ := rfl
attribute [simp] c_impl_IsPlain g_impl_IsPlain Go.Proofs.Try.f27
theorem e_impl_IsPlain : enterG P (G 27) 27 = some (c_impl_IsPlain, 9, #[.tmp 2]) := by kernel_rfl
noncomputable def c_spec_IsPlain : Code := Go.Proofs.Try.f28.body.getD .skip
abbrev n_spec_IsPlain : FuncId := 28
theorem g_spec_IsPlain : G 28 = ⟨[], [], []⟩ := rfl
attribute [simp] c_spec_IsPlain g_spec_IsPlain Go.Proofs.Try.f28
theorem e_spec_IsPlain : enterG P (G 28) 28 = some (c_spec_IsPlain, 9, #[.tmp 2]) := by kernel_rfl
noncomputable def c_impl_isScheduled : Code := Go.Proofs.Try.f205.body.getD .skip
abbrev n_impl_isScheduled : FuncId := 205
theorem g_impl_isScheduled : G 205 = ⟨[], [], []⟩ := rfl
attribute [simp] c_impl_isScheduled g_impl_isScheduled Go.Proofs.Try.f205
theorem e_impl_isScheduled : enterG P (G 205) 205 = some (c_impl_isScheduled, 13, #[.tmp 4]) := by kernel_rfl
noncomputable def c_impl_isObjective : Code := Go.Proofs.Try.f186.body.getD .skip
abbrev n_impl_isObjective : FuncId := 186
theorem g_impl_isObjective : G 186 = ⟨[], [], []⟩ := rfl
attribute [simp] c_impl_isObjective g_impl_isObjective Go.Proofs.Try.f186
theorem e_impl_isObjective : enterG P (G 186) 186 = some (c_impl_isObjective, 5, #[.tmp 2]) := by kernel_rfl
noncomputable def c_impl_isValued : Code := Go.Proofs.Try.f171.body.getD .skip
abbrev n_impl_isValued : FuncId := 171
theorem g_impl_isValued : G 171 = ⟨[], [], []⟩ := rfl
attribute [simp] c_impl_isValued g_impl_isValued Go.Proofs.Try.f171
theorem e_impl_isValued : enterG P (G 171) 171 = some (c_impl_isValued, 14, #[.tmp 6]) := by kernel_rfl
noncomputable def c_impl_endsOf : Code := Go.Proofs.Try.f206.body.getD .skip
abbrev n_impl_endsOf : FuncId := 206
theorem g_impl_endsOf : G 206 = ⟨[(4, [0, 5, 6, 12, 13, 14])], [(6, 12)], []⟩ := rfl
attribute [simp] c_impl_endsOf g_impl_endsOf Go.Proofs.Try.f206
theorem e_impl_endsOf : enterG P (G 206) 206 = some (c_impl_endsOf, 37, #[.tmp 4]) := by kernel_rfl
noncomputable def c_impl_add : Code := Go.Proofs.Try.f286.body.getD .skip
abbrev n_impl_add : FuncId := 286
theorem g_impl_add : G 286 = ⟨[], [], []⟩ := rfl
attribute [simp] c_impl_add g_impl_add Go.Proofs.Try.f286
theorem e_impl_add : enterG P (G 286) 286 = some (c_impl_add, 70, #[.tmp 10]) := by kernel_rfl
noncomputable def c_impl_valueOfEnds : Code := Go.Proofs.Try.f187.body.getD .skip
abbrev n_impl_valueOfEnds : FuncId := 187
theorem g_impl_valueOfEnds : G 187 = ⟨[(3, [1, 2, 7, 10, 11, 12])], [(5, 9)], []⟩ := rfl
attribute [simp] c_impl_valueOfEnds g_impl_valueOfEnds Go.Proofs.Try.f187
theorem e_impl_valueOfEnds : enterG P (G 187) 187 = some (c_impl_valueOfEnds, 29, #[.tmp 6]) := by kernel_rfl
noncomputable def c_impl_valueOf : Code := Go.Proofs.Try.f173.body.getD .skip
abbrev n_impl_valueOf : FuncId := 173
theorem g_impl_valueOf : G 173 = ⟨[], [], []⟩ := rfl
attribute [simp] c_impl_valueOf g_impl_valueOf Go.Proofs.Try.f173
theorem e_impl_valueOf : enterG P (G 173) 173 = some (c_impl_valueOf, 13, #[.tmp 6]) := by kernel_rfl
noncomputable def c_impl_copyInts : Code := Go.Proofs.Try.f214.body.getD .skip
abbrev n_impl_copyInts : FuncId := 214
theorem g_impl_copyInts : G 214 = ⟨[], [], []⟩ := rfl
attribute [simp] c_impl_copyInts g_impl_copyInts Go.Proofs.Try.f214
theorem e_impl_copyInts : enterG P (G 214) 214 = some (c_impl_copyInts, 6, #[.tmp 2]) := by kernel_rfl
noncomputable def c_impl_best_1 : Code := Go.Proofs.Try.f302.body.getD .skip
abbrev n_impl_best_1 : FuncId := 302
theorem g_impl_best_1 : G 302 = ⟨[], [], []⟩ := rfl
attribute [simp] c_impl_best_1 g_impl_best_1 Go.Proofs.Try.f302
theorem e_impl_best_1 : enterG P (G 302) 302 = some (c_impl_best_1, 29, #[]) := by kernel_rfl
noncomputable def c_impl_nextOrder : Code := Go.Proofs.Try.f312.body.getD .skip
abbrev n_impl_nextOrder : FuncId := 312
theorem g_impl_nextOrder : G 312 = ⟨[(2, [0, 3]), (7, [0, 3, 4]), (11, [0, 5, 6])], [(2, 12), (7, 8), (9, 13), (13, 13)], []⟩ := rfl
attribute [simp] c_impl_nextOrder g_impl_nextOrder Go.Proofs.Try.f312
theorem e_impl_nextOrder : enterG P (G 312) 312 = some (c_impl_nextOrder, 82, #[.tmp 2]) := by kernel_rfl
noncomputable def c_impl_eachOrder : Code := Go.Proofs.Try.f211.body.getD .skip
abbrev n_impl_eachOrder : FuncId := 211
theorem g_impl_eachOrder : G 211 = ⟨[(1, [1, 4])], [], []⟩ := rfl
attribute [simp] c_impl_eachOrder g_impl_eachOrder Go.Proofs.Try.f211
theorem e_impl_eachOrder : enterG P (G 211) 211 = some (c_impl_eachOrder, 13, #[]) := by kernel_rfl
noncomputable def c_impl_best : Code := Go.Proofs.Try.f172.body.getD .skip
abbrev n_impl_best : FuncId := 172
theorem g_impl_best : G 172 = ⟨[], [(4, 5)], []⟩ := rfl
attribute [simp] c_impl_best g_impl_best Go.Proofs.Try.f172
theorem e_impl_best : enterG P (G 172) 172 = some (c_impl_best, 17, #[.tmp 4, .tmp 5, .tmp 6]) := by kernel_rfl
noncomputable def c_impl_IsBestOrder : Code := Go.Proofs.Try.f29.body.getD .skip
abbrev n_impl_IsBestOrder : FuncId := 29
theorem g_impl_IsBestOrder : G 29 = ⟨[], [], []⟩ := rfl
attribute [simp] c_impl_IsBestOrder g_impl_IsBestOrder Go.Proofs.Try.f29
theorem e_impl_IsBestOrder : enterG P (G 29) 29 = some (c_impl_IsBestOrder, 29, #[.tmp 6, .tmp 7]) := by kernel_rfl
noncomputable def c_laws_FnRuledOrders : Code := Go.Proofs.Try.f3.body.getD .skip
abbrev n_laws_FnRuledOrders : FuncId := 3
theorem g_laws_FnRuledOrders : G 3 = ⟨[], [], []⟩ := rfl
attribute [simp] c_laws_FnRuledOrders g_laws_FnRuledOrders Go.Proofs.Try.f3
theorem e_laws_FnRuledOrders : enterG P (G 3) 3 = some (c_laws_FnRuledOrders, 204, #[.tmp 2]) := by kernel_rfl
noncomputable def c_spec_l1Cur_some5 : Code := Go.Proofs.Try.f174.body.getD .skip
abbrev n_spec_l1Cur_some5 : FuncId := 174
theorem g_spec_l1Cur_some5 : G 174 = ⟨[(3, [0, 3, 4])], [], []⟩ := rfl
attribute [simp] c_spec_l1Cur_some5 g_spec_l1Cur_some5 Go.Proofs.Try.f174
theorem e_spec_l1Cur_some5 : enterG P (G 174) 174 = some (c_spec_l1Cur_some5, 52, #[.tmp 2]) := by kernel_rfl
noncomputable def c_spec_DrawLatenessBound : Code := Go.Proofs.Try.f30.body.getD .skip
abbrev n_spec_DrawLatenessBound : FuncId := 30
theorem g_spec_DrawLatenessBound : G 30 = ⟨[(5, [4, 5, 6, 7])], [], []⟩ := rfl
attribute [simp] c_spec_DrawLatenessBound g_spec_DrawLatenessBound Go.Proofs.Try.f30
theorem e_spec_DrawLatenessBound : enterG P (G 30) 30 = some (c_spec_DrawLatenessBound, 38, #[.tmp 2, .tmp 3]) := by kernel_rfl
noncomputable def c_impl_isRising : Code := Go.Proofs.Try.f304.body.getD .skip
abbrev n_impl_isRising : FuncId := 304
theorem g_impl_isRising : G 304 = ⟨[(2, [0, 3])], [(4, 9)], []⟩ := rfl
attribute [simp] c_impl_isRising g_impl_isRising Go.Proofs.Try.f304
theorem e_impl_isRising : enterG P (G 304) 304 = some (c_impl_isRising, 20, #[.tmp 2]) := by kernel_rfl
noncomputable def c_impl_isSet : Code := Go.Proofs.Try.f176.body.getD .skip
abbrev n_impl_isSet : FuncId := 176
theorem g_impl_isSet : G 176 = ⟨[], [], []⟩ := rfl
attribute [simp] c_impl_isSet g_impl_isSet Go.Proofs.Try.f176
theorem e_impl_isSet : enterG P (G 176) 176 = some (c_impl_isSet, 12, #[.tmp 4]) := by kernel_rfl
-- regions without a head: impl_latenessBound [5]
noncomputable def c_impl_latenessBound : Code := Go.Proofs.Try.f177.body.getD .skip
abbrev n_impl_latenessBound : FuncId := 177
theorem g_impl_latenessBound : G 177 = ⟨[(3, [0, 5, 6, 7, 10, 11, 12])], [], []⟩ := rfl
attribute [simp] c_impl_latenessBound g_impl_latenessBound Go.Proofs.Try.f177
theorem e_impl_latenessBound : enterG P (G 177) 177 = some (c_impl_latenessBound, 43, #[.tmp 4]) := by kernel_rfl
noncomputable def c_impl_LatenessBound : Code := Go.Proofs.Try.f31.body.getD .skip
abbrev n_impl_LatenessBound : FuncId := 31
theorem g_impl_LatenessBound : G 31 = ⟨[], [], []⟩ := rfl
attribute [simp] c_impl_LatenessBound g_impl_LatenessBound Go.Proofs.Try.f31
theorem e_impl_LatenessBound : enterG P (G 31) 31 = some (c_impl_LatenessBound, 24, #[.tmp 4, .tmp 5]) := by kernel_rfl
noncomputable def c_spec_l1Rising : Code := Go.Proofs.Try.f178.body.getD .skip
abbrev n_spec_l1Rising : FuncId := 178
theorem g_spec_l1Rising : G 178 = ⟨[(2, [0, 1, 2, 7])], [(4, 21)], []⟩ := rfl
attribute [simp] c_spec_l1Rising g_spec_l1Rising Go.Proofs.Try.f178
theorem e_spec_l1Rising : enterG P (G 178) 178 = some (c_spec_l1Rising, 38, #[.tmp 6]) := by kernel_rfl
noncomputable def c_spec_l1Least : Code := Go.Proofs.Try.f284.body.getD .skip
abbrev n_spec_l1Least : FuncId := 284
theorem g_spec_l1Least : G 284 = ⟨[], [], []⟩ := rfl
attribute [simp] c_spec_l1Least g_spec_l1Least Go.Proofs.Try.f284
theorem e_spec_l1Least : enterG P (G 284) 284 = some (c_spec_l1Least, 10, #[.tmp 4]) := by kernel_rfl
noncomputable def c_spec_l3Total : Code := Go.Proofs.Try.f306.body.getD .skip
abbrev n_spec_l3Total : FuncId := 306
theorem g_spec_l3Total : G 306 = ⟨[(3, [0, 1, 5, 6])], [], []⟩ := rfl
attribute [simp] c_spec_l3Total g_spec_l3Total Go.Proofs.Try.f306
theorem e_spec_l3Total : enterG P (G 306) 306 = some (c_spec_l3Total, 24, #[.tmp 4]) := by kernel_rfl
noncomputable def c_spec_l5Set : Code := Go.Proofs.Try.f179.body.getD .skip
abbrev n_spec_l5Set : FuncId := 179
theorem g_spec_l5Set : G 179 = ⟨[(3, [0, 1, 5, 6, 7])], [(1, 15)], []⟩ := rfl
attribute [simp] c_spec_l5Set g_spec_l5Set Go.Proofs.Try.f179
theorem e_spec_l5Set : enterG P (G 179) 179 = some (c_spec_l5Set, 55, #[.tmp 4]) := by kernel_rfl
noncomputable def c_spec_LatenessBound : Code := Go.Proofs.Try.f32.body.getD .skip
abbrev n_spec_LatenessBound : FuncId := 32
theorem g_spec_LatenessBound : G 32 = ⟨[], [], []⟩ := rfl
attribute [simp] c_spec_LatenessBound g_spec_LatenessBound Go.Proofs.Try.f32
theorem e_spec_LatenessBound : enterG P (G 32) 32 = some (c_spec_LatenessBound, 25, #[.tmp 4, .tmp 5]) := by kernel_rfl
noncomputable def c_impl_listOf : Code := Go.Proofs.Try.f180.body.getD .skip
abbrev n_impl_listOf : FuncId := 180
theorem g_impl_listOf : G 180 = ⟨[(3, [0, 3, 4])], [], []⟩ := rfl
attribute [simp] c_impl_listOf g_impl_listOf Go.Proofs.Try.f180
theorem e_impl_listOf : enterG P (G 180) 180 = some (c_impl_listOf, 21, #[.tmp 2]) := by kernel_rfl
noncomputable def c_impl_compareLists : Code := Go.Proofs.Try.f181.body.getD .skip
abbrev n_impl_compareLists : FuncId := 181
theorem g_impl_compareLists : G 181 = ⟨[(2, [0, 1, 5])], [(4, 8), (5, 8)], []⟩ := rfl
attribute [simp] c_impl_compareLists g_impl_compareLists Go.Proofs.Try.f181
theorem e_impl_compareLists : enterG P (G 181) 181 = some (c_impl_compareLists, 41, #[.tmp 4]) := by kernel_rfl
noncomputable def c_impl_LatenessProof : Code := Go.Proofs.Try.f33.body.getD .skip
abbrev n_impl_LatenessProof : FuncId := 33
theorem g_impl_LatenessProof : G 33 = ⟨[(5, [0, 4, 5])], [], []⟩ := rfl
attribute [simp] c_impl_LatenessProof g_impl_LatenessProof Go.Proofs.Try.f33
theorem e_impl_LatenessProof : enterG P (G 33) 33 = some (c_impl_LatenessProof, 49, #[.tmp 2, .tmp 3]) := by kernel_rfl
noncomputable def c_spec_l5Subset : Code := Go.Proofs.Try.f182.body.getD .skip
abbrev n_spec_l5Subset : FuncId := 182
theorem g_spec_l5Subset : G 182 = ⟨[(3, [0, 1, 5, 6])], [], []⟩ := rfl
attribute [simp] c_spec_l5Subset g_spec_l5Subset Go.Proofs.Try.f182
theorem e_spec_l5Subset : enterG P (G 182) 182 = some (c_spec_l5Subset, 23, #[.tmp 4]) := by kernel_rfl
noncomputable def c_spec_l5Less : Code := Go.Proofs.Try.f183.body.getD .skip
abbrev n_spec_l5Less : FuncId := 183
theorem g_spec_l5Less : G 183 = ⟨[(2, [0, 1, 5])], [(4, 8), (5, 8)], []⟩ := rfl
attribute [simp] c_spec_l5Less g_spec_l5Less Go.Proofs.Try.f183
theorem e_spec_l5Less : enterG P (G 183) 183 = some (c_spec_l5Less, 41, #[.tmp 4]) := by kernel_rfl
noncomputable def c_spec_LatenessProof : Code := Go.Proofs.Try.f34.body.getD .skip
abbrev n_spec_LatenessProof : FuncId := 34
theorem g_spec_LatenessProof : G 34 = ⟨[(5, [0, 4, 5])], [], []⟩ := rfl
attribute [simp] c_spec_LatenessProof g_spec_LatenessProof Go.Proofs.Try.f34
theorem e_spec_LatenessProof : enterG P (G 34) 34 = some (c_spec_LatenessProof, 56, #[.tmp 2, .tmp 3]) := by kernel_rfl
noncomputable def c_impl_choose : Code := Go.Proofs.Try.f184.body.getD .skip
abbrev n_impl_choose : FuncId := 184
theorem g_impl_choose : G 184 = ⟨[(5, [0, 1, 2, 8, 9, 10, 11, 27, 28, 29]), (12, [0, 2, 8, 9, 10, 11, 48, 49, 50]), (18, [0, 2, 8, 9, 10, 11, 16]), (22, [0, 2, 8, 9, 10, 11, 16, 17, 76, 77, 78])], [(14, 12), (25, 28)], []⟩ := rfl
attribute [simp] c_impl_choose g_impl_choose Go.Proofs.Try.f184
theorem e_impl_choose : enterG P (G 184) 184 = some (c_impl_choose, 183, #[.tmp 6, .tmp 7]) := by kernel_rfl
noncomputable def c_impl_ByEarliestDate : Code := Go.Proofs.Try.f35.body.getD .skip
abbrev n_impl_ByEarliestDate : FuncId := 35
theorem g_impl_ByEarliestDate : G 35 = ⟨[], [], []⟩ := rfl
attribute [simp] c_impl_ByEarliestDate g_impl_ByEarliestDate Go.Proofs.Try.f35
theorem e_impl_ByEarliestDate : enterG P (G 35) 35 = some (c_impl_ByEarliestDate, 15, #[.tmp 2, .tmp 3]) := by kernel_rfl
noncomputable def c_impl_isSplit : Code := Go.Proofs.Try.f185.body.getD .skip
abbrev n_impl_isSplit : FuncId := 185
theorem g_impl_isSplit : G 185 = ⟨[(3, [0, 1, 5, 13, 14, 15]), (12, [5, 97, 98, 99])], [(5, 22), (7, 31), (9, 10), (14, 6)], []⟩ := rfl
attribute [simp] c_impl_isSplit g_impl_isSplit Go.Proofs.Try.f185
theorem e_impl_isSplit : enterG P (G 185) 185 = some (c_impl_isSplit, 112, #[.tmp 4]) := by kernel_rfl
noncomputable def c_impl_splitEnds : Code := Go.Proofs.Try.f188.body.getD .skip
abbrev n_impl_splitEnds : FuncId := 188
theorem g_impl_splitEnds : G 188 = ⟨[(3, [5, 11, 12, 13])], [], []⟩ := rfl
attribute [simp] c_impl_splitEnds g_impl_splitEnds Go.Proofs.Try.f188
theorem e_impl_splitEnds : enterG P (G 188) 188 = some (c_impl_splitEnds, 25, #[.tmp 4]) := by kernel_rfl
noncomputable def c_impl_SplitValue : Code := Go.Proofs.Try.f36.body.getD .skip
abbrev n_impl_SplitValue : FuncId := 36
theorem g_impl_SplitValue : G 36 = ⟨[], [], []⟩ := rfl
attribute [simp] c_impl_SplitValue g_impl_SplitValue Go.Proofs.Try.f36
theorem e_impl_SplitValue : enterG P (G 36) 36 = some (c_impl_SplitValue, 28, #[.tmp 6, .tmp 7]) := by kernel_rfl
noncomputable def c_impl_isSplitObjective : Code := Go.Proofs.Try.f189.body.getD .skip
abbrev n_impl_isSplitObjective : FuncId := 189
theorem g_impl_isSplitObjective : G 189 = ⟨[], [], []⟩ := rfl
attribute [simp] c_impl_isSplitObjective g_impl_isSplitObjective Go.Proofs.Try.f189
theorem e_impl_isSplitObjective : enterG P (G 189) 189 = some (c_impl_isSplitObjective, 9, #[.tmp 2]) := by kernel_rfl
noncomputable def c_impl_prefixBound : Code := Go.Proofs.Try.f190.body.getD .skip
abbrev n_impl_prefixBound : FuncId := 190
theorem g_impl_prefixBound : G 190 = ⟨[], [], []⟩ := rfl
attribute [simp] c_impl_prefixBound g_impl_prefixBound Go.Proofs.Try.f190
theorem e_impl_prefixBound : enterG P (G 190) 190 = some (c_impl_prefixBound, 20, #[.tmp 6]) := by kernel_rfl
noncomputable def c_impl_SplitGain : Code := Go.Proofs.Try.f37.body.getD .skip
abbrev n_impl_SplitGain : FuncId := 37
theorem g_impl_SplitGain : G 37 = ⟨[], [], []⟩ := rfl
attribute [simp] c_impl_SplitGain g_impl_SplitGain Go.Proofs.Try.f37
theorem e_impl_SplitGain : enterG P (G 37) 37 = some (c_impl_SplitGain, 29, #[.tmp 4, .tmp 5]) := by kernel_rfl
noncomputable def c_impl_BestValue : Code := Go.Proofs.Try.f38.body.getD .skip
abbrev n_impl_BestValue : FuncId := 38
theorem g_impl_BestValue : G 38 = ⟨[], [], []⟩ := rfl
attribute [simp] c_impl_BestValue g_impl_BestValue Go.Proofs.Try.f38
theorem e_impl_BestValue : enterG P (G 38) 38 = some (c_impl_BestValue, 25, #[.tmp 4, .tmp 5]) := by kernel_rfl
noncomputable def c_laws_FnLatenessProof : Code := Go.Proofs.Try.f4.body.getD .skip
abbrev n_laws_FnLatenessProof : FuncId := 4
theorem g_laws_FnLatenessProof : G 4 = ⟨[], [], []⟩ := rfl
attribute [simp] c_laws_FnLatenessProof g_laws_FnLatenessProof Go.Proofs.Try.f4
theorem e_laws_FnLatenessProof : enterG P (G 4) 4 = some (c_laws_FnLatenessProof, 132, #[.tmp 2]) := by kernel_rfl
noncomputable def c_spec_l1Cur_tight3 : Code := Go.Proofs.Try.f191.body.getD .skip
abbrev n_spec_l1Cur_tight3 : FuncId := 191
theorem g_spec_l1Cur_tight3 : G 191 = ⟨[(4, [0, 3, 4, 5])], [], []⟩ := rfl
attribute [simp] c_spec_l1Cur_tight3 g_spec_l1Cur_tight3 Go.Proofs.Try.f191
theorem e_spec_l1Cur_tight3 : enterG P (G 191) 191 = some (c_spec_l1Cur_tight3, 36, #[.tmp 2]) := by kernel_rfl
noncomputable def c_spec_DrawLateRule : Code := Go.Proofs.Try.f39.body.getD .skip
abbrev n_spec_DrawLateRule : FuncId := 39
theorem g_spec_DrawLateRule : G 39 = ⟨[], [], []⟩ := rfl
attribute [simp] c_spec_DrawLateRule g_spec_DrawLateRule Go.Proofs.Try.f39
theorem e_spec_DrawLateRule : enterG P (G 39) 39 = some (c_spec_DrawLateRule, 9, #[.tmp 2]) := by kernel_rfl
noncomputable def c_impl_lateRule : Code := Go.Proofs.Try.f192.body.getD .skip
abbrev n_impl_lateRule : FuncId := 192
theorem g_impl_lateRule : G 192 = ⟨[(5, [0, 6, 7, 8, 18, 19, 20]), (13, [0, 6, 7, 8, 10, 12, 18, 19, 20, 42, 43, 44])], [(15, 13), (20, 7)], []⟩ := rfl
attribute [simp] c_impl_lateRule g_impl_lateRule Go.Proofs.Try.f192
theorem e_impl_lateRule : enterG P (G 192) 192 = some (c_impl_lateRule, 93, #[.tmp 4, .tmp 5]) := by kernel_rfl
noncomputable def c_impl_others : Code := Go.Proofs.Try.f193.body.getD .skip
abbrev n_impl_others : FuncId := 193
theorem g_impl_others : G 193 = ⟨[(3, [0, 1, 5, 6])], [], []⟩ := rfl
attribute [simp] c_impl_others g_impl_others Go.Proofs.Try.f193
theorem e_impl_others : enterG P (G 193) 193 = some (c_impl_others, 21, #[.tmp 4]) := by kernel_rfl
noncomputable def c_impl_LateRule : Code := Go.Proofs.Try.f40.body.getD .skip
abbrev n_impl_LateRule : FuncId := 40
theorem g_impl_LateRule : G 40 = ⟨[], [], []⟩ := rfl
attribute [simp] c_impl_LateRule g_impl_LateRule Go.Proofs.Try.f40
theorem e_impl_LateRule : enterG P (G 40) 40 = some (c_impl_LateRule, 22, #[.tmp 2, .tmp 3]) := by kernel_rfl
noncomputable def c_spec_l3Longest : Code := Go.Proofs.Try.f307.body.getD .skip
abbrev n_spec_l3Longest : FuncId := 307
theorem g_spec_l3Longest : G 307 = ⟨[(3, [0, 1, 5, 6])], [(5, 16)], []⟩ := rfl
attribute [simp] c_spec_l3Longest g_spec_l3Longest Go.Proofs.Try.f307
theorem e_spec_l3Longest : enterG P (G 307) 307 = some (c_spec_l3Longest, 32, #[.tmp 4]) := by kernel_rfl
noncomputable def c_spec_l3Without : Code := Go.Proofs.Try.f202.body.getD .skip
abbrev n_spec_l3Without : FuncId := 202
theorem g_spec_l3Without : G 202 = ⟨[], [(1, 8)], []⟩ := rfl
attribute [simp] c_spec_l3Without g_spec_l3Without Go.Proofs.Try.f202
theorem e_spec_l3Without : enterG P (G 202) 202 = some (c_spec_l3Without, 14, #[.tmp 4]) := by kernel_rfl
noncomputable def c_spec_l3Rule : Code := Go.Proofs.Try.f194.body.getD .skip
abbrev n_spec_l3Rule : FuncId := 194
theorem g_spec_l3Rule : G 194 = ⟨[(4, [0, 2, 3, 4, 5])], [(6, 7), (8, 12), (13, 9)], []⟩ := rfl
attribute [simp] c_spec_l3Rule g_spec_l3Rule Go.Proofs.Try.f194
theorem e_spec_l3Rule : enterG P (G 194) 194 = some (c_spec_l3Rule, 74, #[.cell 2 124]) := by kernel_rfl
noncomputable def c_spec_LateRule : Code := Go.Proofs.Try.f41.body.getD .skip
abbrev n_spec_LateRule : FuncId := 41
theorem g_spec_LateRule : G 41 = ⟨[(6, [0, 4, 5, 6])], [], []⟩ := rfl
attribute [simp] c_spec_LateRule g_spec_LateRule Go.Proofs.Try.f41
theorem e_spec_LateRule : enterG P (G 41) 41 = some (c_spec_LateRule, 31, #[.tmp 2, .tmp 3]) := by kernel_rfl
noncomputable def c_impl_LateSteps : Code := Go.Proofs.Try.f42.body.getD .skip
abbrev n_impl_LateSteps : FuncId := 42
theorem g_impl_LateSteps : G 42 = ⟨[], [], []⟩ := rfl
attribute [simp] c_impl_LateSteps g_impl_LateSteps Go.Proofs.Try.f42
theorem e_impl_LateSteps : enterG P (G 42) 42 = some (c_impl_LateSteps, 17, #[.tmp 2, .tmp 3]) := by kernel_rfl
noncomputable def c_spec_LateSteps : Code := Go.Proofs.Try.f43.body.getD .skip
abbrev n_spec_LateSteps : FuncId := 43
theorem g_spec_LateSteps : G 43 = ⟨[], [], []⟩ := rfl
attribute [simp] c_spec_LateSteps g_spec_LateSteps Go.Proofs.Try.f43
theorem e_spec_LateSteps : enterG P (G 43) 43 = some (c_spec_LateSteps, 11, #[.tmp 2, .tmp 3]) := by kernel_rfl
noncomputable def c_impl_FewestLate : Code := Go.Proofs.Try.f44.body.getD .skip
abbrev n_impl_FewestLate : FuncId := 44
theorem g_impl_FewestLate : G 44 = ⟨[], [], []⟩ := rfl
attribute [simp] c_impl_FewestLate g_impl_FewestLate Go.Proofs.Try.f44
theorem e_impl_FewestLate : enterG P (G 44) 44 = some (c_impl_FewestLate, 21, #[.tmp 2, .tmp 3]) := by kernel_rfl
noncomputable def c_spec_FewestLate : Code := Go.Proofs.Try.f45.body.getD .skip
abbrev n_spec_FewestLate : FuncId := 45
theorem g_spec_FewestLate : G 45 = ⟨[], [], []⟩ := rfl
attribute [simp] c_spec_FewestLate g_spec_FewestLate Go.Proofs.Try.f45
theorem e_spec_FewestLate : enterG P (G 45) 45 = some (c_spec_FewestLate, 11, #[.tmp 2, .tmp 3]) := by kernel_rfl
noncomputable def c_spec_DrawLeftAfter : Code := Go.Proofs.Try.f46.body.getD .skip
abbrev n_spec_DrawLeftAfter : FuncId := 46
theorem g_spec_DrawLeftAfter : G 46 = ⟨[], [], []⟩ := rfl
attribute [simp] c_spec_DrawLeftAfter g_spec_DrawLeftAfter Go.Proofs.Try.f46
theorem e_spec_DrawLeftAfter : enterG P (G 46) 46 = some (c_spec_DrawLeftAfter, 18, #[.tmp 2, .tmp 3]) := by kernel_rfl
noncomputable def c_impl_ascending_1 : Code := Go.Proofs.Try.f308.body.getD .skip
abbrev n_impl_ascending_1 : FuncId := 308
theorem g_impl_ascending_1 : G 308 = ⟨[], [], []⟩ := rfl
attribute [simp] c_impl_ascending_1 g_impl_ascending_1 Go.Proofs.Try.f308
theorem e_impl_ascending_1 : enterG P (G 308) 308 = some (c_impl_ascending_1, 8, #[.tmp 4]) := by kernel_rfl
noncomputable def c_impl_ascending : Code := Go.Proofs.Try.f198.body.getD .skip
abbrev n_impl_ascending : FuncId := 198
theorem g_impl_ascending : G 198 = ⟨[], [], []⟩ := rfl
attribute [simp] c_impl_ascending g_impl_ascending Go.Proofs.Try.f198
theorem e_impl_ascending : enterG P (G 198) 198 = some (c_impl_ascending, 5, #[.tmp 2]) := by kernel_rfl
noncomputable def c_impl_LeftAfter : Code := Go.Proofs.Try.f47.body.getD .skip
abbrev n_impl_LeftAfter : FuncId := 47
theorem g_impl_LeftAfter : G 47 = ⟨[], [], []⟩ := rfl
attribute [simp] c_impl_LeftAfter g_impl_LeftAfter Go.Proofs.Try.f47
theorem e_impl_LeftAfter : enterG P (G 47) 47 = some (c_impl_LeftAfter, 26, #[.tmp 4, .tmp 5]) := by kernel_rfl
noncomputable def c_spec_l1Put : Code := Go.Proofs.Try.f200.body.getD .skip
abbrev n_spec_l1Put : FuncId := 200
theorem g_spec_l1Put : G 200 = ⟨[(2, [0, 1, 5])], [], [(6, 11, [(7, 4)])]⟩ := rfl
attribute [simp] c_spec_l1Put g_spec_l1Put Go.Proofs.Try.f200
theorem e_spec_l1Put : enterG P (G 200) 200 = some (c_spec_l1Put, 45, #[.tmp 4]) := by kernel_rfl
noncomputable def c_spec_l3At : Code := Go.Proofs.Try.f201.body.getD .skip
abbrev n_spec_l3At : FuncId := 201
theorem g_spec_l3At : G 201 = ⟨[(2, [0, 1, 5])], [], []⟩ := rfl
attribute [simp] c_spec_l3At g_spec_l3At Go.Proofs.Try.f201
theorem e_spec_l3At : enterG P (G 201) 201 = some (c_spec_l3At, 19, #[.tmp 4]) := by kernel_rfl
noncomputable def c_spec_LeftAfter : Code := Go.Proofs.Try.f48.body.getD .skip
abbrev n_spec_LeftAfter : FuncId := 48
theorem g_spec_LeftAfter : G 48 = ⟨[(6, [1, 6, 7, 8]), (10, [1, 6, 7, 9])], [], []⟩ := rfl
attribute [simp] c_spec_LeftAfter g_spec_LeftAfter Go.Proofs.Try.f48
theorem e_spec_LeftAfter : enterG P (G 48) 48 = some (c_spec_LeftAfter, 56, #[.tmp 4, .tmp 5]) := by kernel_rfl
noncomputable def c_spec_DrawOnTime : Code := Go.Proofs.Try.f49.body.getD .skip
abbrev n_spec_DrawOnTime : FuncId := 49
theorem g_spec_DrawOnTime : G 49 = ⟨[(5, [4, 5, 6, 7])], [], []⟩ := rfl
attribute [simp] c_spec_DrawOnTime g_spec_DrawOnTime Go.Proofs.Try.f49
theorem e_spec_DrawOnTime : enterG P (G 49) 49 = some (c_spec_DrawOnTime, 38, #[.tmp 2, .tmp 3]) := by kernel_rfl
noncomputable def c_impl_onTime_1 : Code := Go.Proofs.Try.f309.body.getD .skip
abbrev n_impl_onTime_1 : FuncId := 309
theorem g_impl_onTime_1 : G 309 = ⟨[], [(1, 10)], []⟩ := rfl
attribute [simp] c_impl_onTime_1 g_impl_onTime_1 Go.Proofs.Try.f309
theorem e_impl_onTime_1 : enterG P (G 309) 309 = some (c_impl_onTime_1, 17, #[.tmp 5]) := by kernel_rfl
noncomputable def c_impl_onTime : Code := Go.Proofs.Try.f203.body.getD .skip
abbrev n_impl_onTime : FuncId := 203
theorem g_impl_onTime : G 203 = ⟨[(3, [2, 5, 10, 11, 12])], [], []⟩ := rfl
attribute [simp] c_impl_onTime g_impl_onTime Go.Proofs.Try.f203
theorem e_impl_onTime : enterG P (G 203) 203 = some (c_impl_onTime, 31, #[.tmp 4]) := by kernel_rfl
noncomputable def c_impl_OnTime : Code := Go.Proofs.Try.f50.body.getD .skip
abbrev n_impl_OnTime : FuncId := 50
theorem g_impl_OnTime : G 50 = ⟨[], [], []⟩ := rfl
attribute [simp] c_impl_OnTime g_impl_OnTime Go.Proofs.Try.f50
theorem e_impl_OnTime : enterG P (G 50) 50 = some (c_impl_OnTime, 19, #[.tmp 4, .tmp 5]) := by kernel_rfl
noncomputable def c_spec_l3OnTime : Code := Go.Proofs.Try.f204.body.getD .skip
abbrev n_spec_l3OnTime : FuncId := 204
theorem g_spec_l3OnTime : G 204 = ⟨[(4, [0, 1, 5, 6, 7])], [], []⟩ := rfl
attribute [simp] c_spec_l3OnTime g_spec_l3OnTime Go.Proofs.Try.f204
theorem e_spec_l3OnTime : enterG P (G 204) 204 = some (c_spec_l3OnTime, 42, #[.tmp 4]) := by kernel_rfl
noncomputable def c_spec_OnTime : Code := Go.Proofs.Try.f51.body.getD .skip
abbrev n_spec_OnTime : FuncId := 51
theorem g_spec_OnTime : G 51 = ⟨[], [], []⟩ := rfl
attribute [simp] c_spec_OnTime g_spec_OnTime Go.Proofs.Try.f51
theorem e_spec_OnTime : enterG P (G 51) 51 = some (c_spec_OnTime, 20, #[.tmp 4, .tmp 5]) := by kernel_rfl
noncomputable def c_laws_vPairs : Code := Go.Proofs.Try.f52.body.getD .skip
abbrev n_laws_vPairs : FuncId := 52
theorem g_laws_vPairs : G 52 = ⟨[(4, [0, 1, 5])], [(6, 8)], []⟩ := rfl
attribute [simp] c_laws_vPairs g_laws_vPairs Go.Proofs.Try.f52
theorem e_laws_vPairs : enterG P (G 52) 52 = some (c_laws_vPairs, 26, #[.tmp 4]) := by kernel_rfl
noncomputable def c_impl_LateJobs : Code := Go.Proofs.Try.f53.body.getD .skip
abbrev n_impl_LateJobs : FuncId := 53
theorem g_impl_LateJobs : G 53 = ⟨[(5, [0, 6, 15, 16, 17])], [], []⟩ := rfl
attribute [simp] c_impl_LateJobs g_impl_LateJobs Go.Proofs.Try.f53
theorem e_impl_LateJobs : enterG P (G 53) 53 = some (c_impl_LateJobs, 35, #[.tmp 4, .tmp 5]) := by kernel_rfl
noncomputable def c_laws_vHas : Code := Go.Proofs.Try.f54.body.getD .skip
abbrev n_laws_vHas : FuncId := 54
theorem g_laws_vHas : G 54 = ⟨[(2, [0, 1, 5])], [], []⟩ := rfl
attribute [simp] c_laws_vHas g_laws_vHas Go.Proofs.Try.f54
theorem e_laws_vHas : enterG P (G 54) 54 = some (c_laws_vHas, 18, #[.tmp 4]) := by kernel_rfl
noncomputable def c_laws_vTimes : Code := Go.Proofs.Try.f55.body.getD .skip
abbrev n_laws_vTimes : FuncId := 55
theorem g_laws_vTimes : G 55 = ⟨[(3, [0, 1, 5, 6])], [], []⟩ := rfl
attribute [simp] c_laws_vTimes g_laws_vTimes Go.Proofs.Try.f55
theorem e_laws_vTimes : enterG P (G 55) 55 = some (c_laws_vTimes, 24, #[.tmp 4]) := by kernel_rfl
noncomputable def c_laws_FnLateRule : Code := Go.Proofs.Try.f5.body.getD .skip
abbrev n_laws_FnLateRule : FuncId := 5
theorem g_laws_FnLateRule : G 5 = ⟨[(28, [16, 17, 18, 32, 34, 35]), (35, [16, 18, 34, 38]), (40, [16, 18, 34, 38, 39, 40, 41])], [], []⟩ := rfl
attribute [simp] c_laws_FnLateRule g_laws_FnLateRule Go.Proofs.Try.f5
theorem e_laws_FnLateRule : enterG P (G 5) 5 = some (c_laws_FnLateRule, 284, #[.tmp 2]) := by kernel_rfl
noncomputable def c_laws_rBig : Code := Go.Proofs.Try.f56.body.getD .skip
abbrev n_laws_rBig : FuncId := 56
theorem g_laws_rBig : G 56 = ⟨[], [], []⟩ := rfl
attribute [simp] c_laws_rBig g_laws_rBig Go.Proofs.Try.f56
theorem e_laws_rBig : enterG P (G 56) 56 = some (c_laws_rBig, 6, #[.tmp 2]) := by kernel_rfl
noncomputable def c_spec_l1Cur_plainJobs : Code := Go.Proofs.Try.f207.body.getD .skip
abbrev n_spec_l1Cur_plainJobs : FuncId := 207
theorem g_spec_l1Cur_plainJobs : G 207 = ⟨[], [], []⟩ := rfl
attribute [simp] c_spec_l1Cur_plainJobs g_spec_l1Cur_plainJobs Go.Proofs.Try.f207
theorem e_spec_l1Cur_plainJobs : enterG P (G 207) 207 = some (c_spec_l1Cur_plainJobs, 10, #[.tmp 4]) := by kernel_rfl
noncomputable def c_spec_DrawComesBefore : Code := Go.Proofs.Try.f57.body.getD .skip
abbrev n_spec_DrawComesBefore : FuncId := 57
theorem g_spec_DrawComesBefore : G 57 = ⟨[], [], []⟩ := rfl
attribute [simp] c_spec_DrawComesBefore g_spec_DrawComesBefore Go.Proofs.Try.f57
theorem e_spec_DrawComesBefore : enterG P (G 57) 57 = some (c_spec_DrawComesBefore, 30, #[.tmp 2, .tmp 3, .tmp 4]) := by kernel_rfl
noncomputable def c_impl_ComesBefore : Code := Go.Proofs.Try.f58.body.getD .skip
abbrev n_impl_ComesBefore : FuncId := 58
theorem g_impl_ComesBefore : G 58 = ⟨[], [(3, 10)], []⟩ := rfl
attribute [simp] c_impl_ComesBefore g_impl_ComesBefore Go.Proofs.Try.f58
theorem e_impl_ComesBefore : enterG P (G 58) 58 = some (c_impl_ComesBefore, 55, #[.tmp 6, .tmp 7]) := by kernel_rfl
noncomputable def c_spec_l4Free : Code := Go.Proofs.Try.f310.body.getD .skip
abbrev n_spec_l4Free : FuncId := 310
theorem g_spec_l4Free : G 310 = ⟨[(2, [0, 3])], [], []⟩ := rfl
attribute [simp] c_spec_l4Free g_spec_l4Free Go.Proofs.Try.f310
theorem e_spec_l4Free : enterG P (G 310) 310 = some (c_spec_l4Free, 16, #[.tmp 2]) := by kernel_rfl
noncomputable def c_spec_l6Good : Code := Go.Proofs.Try.f208.body.getD .skip
abbrev n_spec_l6Good : FuncId := 208
theorem g_spec_l6Good : G 208 = ⟨[], [], []⟩ := rfl
attribute [simp] c_spec_l6Good g_spec_l6Good Go.Proofs.Try.f208
theorem e_spec_l6Good : enterG P (G 208) 208 = some (c_spec_l6Good, 9, #[.tmp 2]) := by kernel_rfl
noncomputable def c_spec_ComesBefore : Code := Go.Proofs.Try.f59.body.getD .skip
abbrev n_spec_ComesBefore : FuncId := 59
theorem g_spec_ComesBefore : G 59 = ⟨[], [(4, 28)], []⟩ := rfl
attribute [simp] c_spec_ComesBefore g_spec_ComesBefore Go.Proofs.Try.f59
theorem e_spec_ComesBefore : enterG P (G 59) 59 = some (c_spec_ComesBefore, 63, #[.tmp 6, .tmp 7]) := by kernel_rfl
noncomputable def c_impl_closure : Code := Go.Proofs.Try.f210.body.getD .skip
abbrev n_impl_closure : FuncId := 210
theorem g_impl_closure : G 210 = ⟨[(3, [0, 1, 5, 15, 16]), (8, [0, 5, 25, 26, 27]), (13, [0, 5, 9]), (16, [0, 5, 9, 10]), (19, [0, 5, 9, 10, 11])], [(10, 7), (21, 30)], []⟩ := rfl
attribute [simp] c_impl_closure g_impl_closure Go.Proofs.Try.f210
theorem e_impl_closure : enterG P (G 210) 210 = some (c_impl_closure, 87, #[.tmp 4]) := by kernel_rfl
noncomputable def c_impl_IsPrecedence : Code := Go.Proofs.Try.f311.body.getD .skip
abbrev n_impl_IsPrecedence : FuncId := 311
theorem g_impl_IsPrecedence : G 311 = ⟨[(4, [0, 1, 17, 18, 19]), (13, [7, 83, 84])], [(8, 31)], []⟩ := rfl
attribute [simp] c_impl_IsPrecedence g_impl_IsPrecedence Go.Proofs.Try.f311
theorem e_impl_IsPrecedence : enterG P (G 311) 311 = some (c_impl_IsPrecedence, 95, #[.tmp 4]) := by kernel_rfl
noncomputable def c_impl_isPreceded : Code := Go.Proofs.Try.f209.body.getD .skip
abbrev n_impl_isPreceded : FuncId := 209
theorem g_impl_isPreceded : G 209 = ⟨[], [], []⟩ := rfl
attribute [simp] c_impl_isPreceded g_impl_isPreceded Go.Proofs.Try.f209
theorem e_impl_isPreceded : enterG P (G 209) 209 = some (c_impl_isPreceded, 13, #[.tmp 4]) := by kernel_rfl
noncomputable def c_impl_extends : Code := Go.Proofs.Try.f213.body.getD .skip
abbrev n_impl_extends : FuncId := 213
theorem g_impl_extends : G 213 = ⟨[(2, [0, 1, 9, 10, 11]), (5, [0, 1, 6, 9, 10, 11, 18, 19, 20])], [], []⟩ := rfl
attribute [simp] c_impl_extends g_impl_extends Go.Proofs.Try.f213
theorem e_impl_extends : enterG P (G 213) 213 = some (c_impl_extends, 33, #[.tmp 4]) := by kernel_rfl
noncomputable def c_impl_BestExtension_1 : Code := Go.Proofs.Try.f212.body.getD .skip
abbrev n_impl_BestExtension_1 : FuncId := 212
theorem g_impl_BestExtension_1 : G 212 = ⟨[], [], []⟩ := rfl
attribute [simp] c_impl_BestExtension_1 g_impl_BestExtension_1 Go.Proofs.Try.f212
theorem e_impl_BestExtension_1 : enterG P (G 212) 212 = some (c_impl_BestExtension_1, 27, #[]) := by kernel_rfl
noncomputable def c_impl_BestExtension : Code := Go.Proofs.Try.f60.body.getD .skip
abbrev n_impl_BestExtension : FuncId := 60
theorem g_impl_BestExtension : G 60 = ⟨[], [], []⟩ := rfl
attribute [simp] c_impl_BestExtension g_impl_BestExtension Go.Proofs.Try.f60
theorem e_impl_BestExtension : enterG P (G 60) 60 = some (c_impl_BestExtension, 30, #[.tmp 6, .tmp 7]) := by kernel_rfl
noncomputable def c_spec_l4Before : Code := Go.Proofs.Try.f342.body.getD .skip
abbrev n_spec_l4Before : FuncId := 342
theorem g_spec_l4Before : G 342 = ⟨[], [], []⟩ := rfl
attribute [simp] c_spec_l4Before g_spec_l4Before Go.Proofs.Try.f342
theorem e_spec_l4Before : enterG P (G 342) 342 = some (c_spec_l4Before, 24, #[.tmp 4]) := by kernel_rfl
noncomputable def c_spec_l4Pairs : Code := Go.Proofs.Try.f336.body.getD .skip
abbrev n_spec_l4Pairs : FuncId := 336
theorem g_spec_l4Pairs : G 336 = ⟨[(2, [0, 1, 5])], [(4, 46)], []⟩ := rfl
attribute [simp] c_spec_l4Pairs g_spec_l4Pairs Go.Proofs.Try.f336
theorem e_spec_l4Pairs : enterG P (G 336) 336 = some (c_spec_l4Pairs, 69, #[.tmp 4]) := by kernel_rfl
noncomputable def c_spec_l4Table : Code := Go.Proofs.Try.f315.body.getD .skip
abbrev n_spec_l4Table : FuncId := 315
theorem g_spec_l4Table : G 315 = ⟨[(3, [0, 1, 5, 6]), (7, [0, 1, 5, 7]), (11, [0, 5, 8]), (14, [0, 5, 8, 9]), (17, [0, 5, 8, 9, 10])], [(9, 13)], []⟩ := rfl
attribute [simp] c_spec_l4Table g_spec_l4Table Go.Proofs.Try.f315
theorem e_spec_l4Table : enterG P (G 315) 315 = some (c_spec_l4Table, 80, #[.tmp 4]) := by kernel_rfl
noncomputable def c_spec_l4Good : Code := Go.Proofs.Try.f313.body.getD .skip
abbrev n_spec_l4Good : FuncId := 313
theorem g_spec_l4Good : G 313 = ⟨[(5, [0, 5, 6])], [], []⟩ := rfl
attribute [simp] c_spec_l4Good g_spec_l4Good Go.Proofs.Try.f313
theorem e_spec_l4Good : enterG P (G 313) 313 = some (c_spec_l4Good, 26, #[.tmp 4]) := by kernel_rfl
noncomputable def c_spec_l4Two : Code := Go.Proofs.Try.f215.body.getD .skip
abbrev n_spec_l4Two : FuncId := 215
theorem g_spec_l4Two : G 215 = ⟨[], [], []⟩ := rfl
attribute [simp] c_spec_l4Two g_spec_l4Two Go.Proofs.Try.f215
theorem e_spec_l4Two : enterG P (G 215) 215 = some (c_spec_l4Two, 13, #[.tmp 4]) := by kernel_rfl
noncomputable def c_spec_l2Objective : Code := Go.Proofs.Try.f216.body.getD .skip
abbrev n_spec_l2Objective : FuncId := 216
theorem g_spec_l2Objective : G 216 = ⟨[], [], []⟩ := rfl
attribute [simp] c_spec_l2Objective g_spec_l2Objective Go.Proofs.Try.f216
theorem e_spec_l2Objective : enterG P (G 216) 216 = some (c_spec_l2Objective, 5, #[.tmp 2]) := by kernel_rfl
noncomputable def c_spec_l2Starts : Code := Go.Proofs.Try.f329.body.getD .skip
abbrev n_spec_l2Starts : FuncId := 329
theorem g_spec_l2Starts : G 329 = ⟨[(3, [0, 1, 5, 6, 7])], [(5, 15), (6, 15)], []⟩ := rfl
attribute [simp] c_spec_l2Starts g_spec_l2Starts Go.Proofs.Try.f329
theorem e_spec_l2Starts : enterG P (G 329) 329 = some (c_spec_l2Starts, 50, #[.tmp 4]) := by kernel_rfl
noncomputable def c_spec_l2Ends : Code := Go.Proofs.Try.f255.body.getD .skip
abbrev n_spec_l2Ends : FuncId := 255
theorem g_spec_l2Ends : G 255 = ⟨[(3, [0, 5, 6])], [(5, 12)], []⟩ := rfl
attribute [simp] c_spec_l2Ends g_spec_l2Ends Go.Proofs.Try.f255
theorem e_spec_l2Ends : enterG P (G 255) 255 = some (c_spec_l2Ends, 30, #[.tmp 4]) := by kernel_rfl
noncomputable def c_spec_l2Greatest : Code := Go.Proofs.Try.f339.body.getD .skip
abbrev n_spec_l2Greatest : FuncId := 339
theorem g_spec_l2Greatest : G 339 = ⟨[], [], []⟩ := rfl
attribute [simp] c_spec_l2Greatest g_spec_l2Greatest Go.Proofs.Try.f339
theorem e_spec_l2Greatest : enterG P (G 339) 339 = some (c_spec_l2Greatest, 9, #[.tmp 2]) := by kernel_rfl
noncomputable def c_spec_l2Cost : Code := Go.Proofs.Try.f340.body.getD .skip
abbrev n_spec_l2Cost : FuncId := 340
theorem g_spec_l2Cost : G 340 = ⟨[], [], []⟩ := rfl
attribute [simp] c_spec_l2Cost g_spec_l2Cost Go.Proofs.Try.f340
theorem e_spec_l2Cost : enterG P (G 340) 340 = some (c_spec_l2Cost, 38, #[.tmp 6]) := by kernel_rfl
noncomputable def c_spec_l2Of : Code := Go.Proofs.Try.f321.body.getD .skip
abbrev n_spec_l2Of : FuncId := 321
theorem g_spec_l2Of : G 321 = ⟨[(3, [0, 1, 2, 7, 8])], [(6, 11)], []⟩ := rfl
attribute [simp] c_spec_l2Of g_spec_l2Of Go.Proofs.Try.f321
theorem e_spec_l2Of : enterG P (G 321) 321 = some (c_spec_l2Of, 53, #[.tmp 6]) := by kernel_rfl
noncomputable def c_spec_l2Value : Code := Go.Proofs.Try.f323.body.getD .skip
abbrev n_spec_l2Value : FuncId := 323
theorem g_spec_l2Value : G 323 = ⟨[], [], []⟩ := rfl
attribute [simp] c_spec_l2Value g_spec_l2Value Go.Proofs.Try.f323
theorem e_spec_l2Value : enterG P (G 323) 323 = some (c_spec_l2Value, 13, #[.tmp 6]) := by kernel_rfl
noncomputable def c_spec_l4Ready : Code := Go.Proofs.Try.f337.body.getD .skip
abbrev n_spec_l4Ready : FuncId := 337
theorem g_spec_l4Ready : G 337 = ⟨[(2, [0, 1, 2, 7])], [], []⟩ := rfl
attribute [simp] c_spec_l4Ready g_spec_l4Ready Go.Proofs.Try.f337
theorem e_spec_l4Ready : enterG P (G 337) 337 = some (c_spec_l4Ready, 31, #[.tmp 6]) := by kernel_rfl
noncomputable def c_spec_l4Try : Code := Go.Proofs.Try.f314.body.getD .skip
abbrev n_spec_l4Try : FuncId := 314
theorem g_spec_l4Try : G 314 = ⟨[(7, [0, 1, 2, 3, 9, 10, 12])], [], [(10, 9, [(6, 3)])]⟩ := rfl
attribute [simp] c_spec_l4Try g_spec_l4Try Go.Proofs.Try.f314
theorem e_spec_l4Try : enterG P (G 314) 314 = some (c_spec_l4Try, 57, #[.cell 10 148]) := by kernel_rfl
noncomputable def c_spec_l4Best : Code := Go.Proofs.Try.f217.body.getD .skip
abbrev n_spec_l4Best : FuncId := 217
theorem g_spec_l4Best : G 217 = ⟨[], [(2, 5)], []⟩ := rfl
attribute [simp] c_spec_l4Best g_spec_l4Best Go.Proofs.Try.f217
theorem e_spec_l4Best : enterG P (G 217) 217 = some (c_spec_l4Best, 22, #[.tmp 6, .tmp 7]) := by kernel_rfl
noncomputable def c_spec_BestExtension : Code := Go.Proofs.Try.f61.body.getD .skip
abbrev n_spec_BestExtension : FuncId := 61
theorem g_spec_BestExtension : G 61 = ⟨[], [], []⟩ := rfl
attribute [simp] c_spec_BestExtension g_spec_BestExtension Go.Proofs.Try.f61
theorem e_spec_BestExtension : enterG P (G 61) 61 = some (c_spec_BestExtension, 28, #[.tmp 6, .tmp 7]) := by kernel_rfl
noncomputable def c_laws_rInts : Code := Go.Proofs.Try.f62.body.getD .skip
abbrev n_laws_rInts : FuncId := 62
theorem g_laws_rInts : G 62 = ⟨[(4, [0, 1, 5])], [(6, 8)], []⟩ := rfl
attribute [simp] c_laws_rInts g_laws_rInts Go.Proofs.Try.f62
theorem e_laws_rInts : enterG P (G 62) 62 = some (c_laws_rInts, 26, #[.tmp 4]) := by kernel_rfl
noncomputable def c_impl_ValueOf : Code := Go.Proofs.Try.f63.body.getD .skip
abbrev n_impl_ValueOf : FuncId := 63
theorem g_impl_ValueOf : G 63 = ⟨[], [], []⟩ := rfl
attribute [simp] c_impl_ValueOf g_impl_ValueOf Go.Proofs.Try.f63
theorem e_impl_ValueOf : enterG P (G 63) 63 = some (c_impl_ValueOf, 17, #[.tmp 6, .tmp 7]) := by kernel_rfl
noncomputable def c_spec_l2Try : Code := Go.Proofs.Try.f343.body.getD .skip
abbrev n_spec_l2Try : FuncId := 343
theorem g_spec_l2Try : G 343 = ⟨[(9, [0, 1, 2, 7, 8, 10])], [], [(12, 8, [(5, 2)])]⟩ := rfl
attribute [simp] c_spec_l2Try g_spec_l2Try Go.Proofs.Try.f343
theorem e_spec_l2Try : enterG P (G 343) 343 = some (c_spec_l2Try, 62, #[.cell 8 148]) := by kernel_rfl
noncomputable def c_spec_l2All : Code := Go.Proofs.Try.f338.body.getD .skip
abbrev n_spec_l2All : FuncId := 338
theorem g_spec_l2All : G 338 = ⟨[], [], []⟩ := rfl
attribute [simp] c_spec_l2All g_spec_l2All Go.Proofs.Try.f338
theorem e_spec_l2All : enterG P (G 338) 338 = some (c_spec_l2All, 10, #[.cell 4 148]) := by kernel_rfl
noncomputable def c_spec_l2Best : Code := Go.Proofs.Try.f316.body.getD .skip
abbrev n_spec_l2Best : FuncId := 316
theorem g_spec_l2Best : G 316 = ⟨[], [(2, 5)], []⟩ := rfl
attribute [simp] c_spec_l2Best g_spec_l2Best Go.Proofs.Try.f316
theorem e_spec_l2Best : enterG P (G 316) 316 = some (c_spec_l2Best, 14, #[.tmp 4, .tmp 5]) := by kernel_rfl
noncomputable def c_spec_BestValue : Code := Go.Proofs.Try.f218.body.getD .skip
abbrev n_spec_BestValue : FuncId := 218
theorem g_spec_BestValue : G 218 = ⟨[], [], []⟩ := rfl
attribute [simp] c_spec_BestValue g_spec_BestValue Go.Proofs.Try.f218
theorem e_spec_BestValue : enterG P (G 218) 218 = some (c_spec_BestValue, 23, #[.tmp 4, .tmp 5]) := by kernel_rfl
noncomputable def c_laws_rBest : Code := Go.Proofs.Try.f64.body.getD .skip
abbrev n_laws_rBest : FuncId := 64
theorem g_laws_rBest : G 64 = ⟨[], [], []⟩ := rfl
attribute [simp] c_laws_rBest g_laws_rBest Go.Proofs.Try.f64
theorem e_laws_rBest : enterG P (G 64) 64 = some (c_laws_rBest, 31, #[.tmp 4, .tmp 5]) := by kernel_rfl
noncomputable def c_laws_FnComesBefore : Code := Go.Proofs.Try.f6.body.getD .skip
abbrev n_laws_FnComesBefore : FuncId := 6
theorem g_laws_FnComesBefore : G 6 = ⟨[], [], []⟩ := rfl
attribute [simp] c_laws_FnComesBefore g_laws_FnComesBefore Go.Proofs.Try.f6
theorem e_laws_FnComesBefore : enterG P (G 6) 6 = some (c_laws_FnComesBefore, 100, #[.tmp 2]) := by kernel_rfl
noncomputable def c_spec_l1Cur_objective : Code := Go.Proofs.Try.f220.body.getD .skip
abbrev n_spec_l1Cur_objective : FuncId := 220
theorem g_spec_l1Cur_objective : G 220 = ⟨[], [], []⟩ := rfl
attribute [simp] c_spec_l1Cur_objective g_spec_l1Cur_objective Go.Proofs.Try.f220
theorem e_spec_l1Cur_objective : enterG P (G 220) 220 = some (c_spec_l1Cur_objective, 11, #[.tmp 2]) := by kernel_rfl
noncomputable def c_spec_l11Two : Code := Go.Proofs.Try.f221.body.getD .skip
abbrev n_spec_l11Two : FuncId := 221
theorem g_spec_l11Two : G 221 = ⟨[], [], []⟩ := rfl
attribute [simp] c_spec_l11Two g_spec_l11Two Go.Proofs.Try.f221
theorem e_spec_l11Two : enterG P (G 221) 221 = some (c_spec_l11Two, 11, #[.tmp 4]) := by kernel_rfl
noncomputable def c_spec_l11Point : Code := Go.Proofs.Try.f230.body.getD .skip
abbrev n_spec_l11Point : FuncId := 230
theorem g_spec_l11Point : G 230 = ⟨[], [], []⟩ := rfl
attribute [simp] c_spec_l11Point g_spec_l11Point Go.Proofs.Try.f230
theorem e_spec_l11Point : enterG P (G 230) 230 = some (c_spec_l11Point, 22, #[.cell 8 58]) := by kernel_rfl
noncomputable def c_spec_l11Dominates : Code := Go.Proofs.Try.f325.body.getD .skip
abbrev n_spec_l11Dominates : FuncId := 325
theorem g_spec_l11Dominates : G 325 = ⟨[], [], []⟩ := rfl
attribute [simp] c_spec_l11Dominates g_spec_l11Dominates Go.Proofs.Try.f325
theorem e_spec_l11Dominates : enterG P (G 325) 325 = some (c_spec_l11Dominates, 22, #[.tmp 4]) := by kernel_rfl
noncomputable def c_spec_l11Put : Code := Go.Proofs.Try.f241.body.getD .skip
abbrev n_spec_l11Put : FuncId := 241
theorem g_spec_l11Put : G 241 = ⟨[(3, [0, 3, 5, 6]), (9, [0, 3, 5, 7, 8])], [(5, 12), (11, 5), (12, 10)], []⟩ := rfl
attribute [simp] c_spec_l11Put g_spec_l11Put Go.Proofs.Try.f241
theorem e_spec_l11Put : enterG P (G 241) 241 = some (c_spec_l11Put, 73, #[.tmp 4]) := by kernel_rfl
noncomputable def c_spec_l11Try : Code := Go.Proofs.Try.f318.body.getD .skip
abbrev n_spec_l11Try : FuncId := 318
theorem g_spec_l11Try : G 318 = ⟨[(4, [0, 1, 2, 3, 4, 11])], [], []⟩ := rfl
attribute [simp] c_spec_l11Try g_spec_l11Try Go.Proofs.Try.f318
theorem e_spec_l11Try : enterG P (G 318) 318 = some (c_spec_l11Try, 45, #[.tmp 10]) := by kernel_rfl
noncomputable def c_spec_l11Front : Code := Go.Proofs.Try.f222.body.getD .skip
abbrev n_spec_l11Front : FuncId := 222
theorem g_spec_l11Front : G 222 = ⟨[], [], []⟩ := rfl
attribute [simp] c_spec_l11Front g_spec_l11Front Go.Proofs.Try.f222
theorem e_spec_l11Front : enterG P (G 222) 222 = some (c_spec_l11Front, 13, #[.tmp 6]) := by kernel_rfl
noncomputable def c_spec_l11First : Code := Go.Proofs.Try.f223.body.getD .skip
abbrev n_spec_l11First : FuncId := 223
theorem g_spec_l11First : G 223 = ⟨[(4, [0, 1, 2, 3, 9, 12])], [(2, 9)], [(7, 14, [(5, 2)])]⟩ := rfl
attribute [simp] c_spec_l11First g_spec_l11First Go.Proofs.Try.f223
theorem e_spec_l11First : enterG P (G 223) 223 = some (c_spec_l11First, 53, #[.tmp 10, .tmp 11]) := by kernel_rfl
noncomputable def c_spec_DrawIsUndominated : Code := Go.Proofs.Try.f65.body.getD .skip
abbrev n_spec_DrawIsUndominated : FuncId := 65
theorem g_spec_DrawIsUndominated : G 65 = ⟨[], [], []⟩ := rfl
attribute [simp] c_spec_DrawIsUndominated g_spec_DrawIsUndominated Go.Proofs.Try.f65
theorem e_spec_DrawIsUndominated : enterG P (G 65) 65 = some (c_spec_DrawIsUndominated, 61, #[.tmp 2, .tmp 3, .tmp 4, .tmp 5]) := by kernel_rfl
noncomputable def c_impl_areTwo : Code := Go.Proofs.Try.f224.body.getD .skip
abbrev n_impl_areTwo : FuncId := 224
theorem g_impl_areTwo : G 224 = ⟨[], [], []⟩ := rfl
attribute [simp] c_impl_areTwo g_impl_areTwo Go.Proofs.Try.f224
theorem e_impl_areTwo : enterG P (G 224) 224 = some (c_impl_areTwo, 17, #[.tmp 6]) := by kernel_rfl
noncomputable def c_impl_pointOf : Code := Go.Proofs.Try.f227.body.getD .skip
abbrev n_impl_pointOf : FuncId := 227
theorem g_impl_pointOf : G 227 = ⟨[], [], []⟩ := rfl
attribute [simp] c_impl_pointOf g_impl_pointOf Go.Proofs.Try.f227
theorem e_impl_pointOf : enterG P (G 227) 227 = some (c_impl_pointOf, 22, #[.cell 8 58]) := by kernel_rfl
noncomputable def c_impl_dominates : Code := Go.Proofs.Try.f320.body.getD .skip
abbrev n_impl_dominates : FuncId := 320
theorem g_impl_dominates : G 320 = ⟨[], [], []⟩ := rfl
attribute [simp] c_impl_dominates g_impl_dominates Go.Proofs.Try.f320
theorem e_impl_dominates : enterG P (G 320) 320 = some (c_impl_dominates, 22, #[.tmp 4]) := by kernel_rfl
noncomputable def c_impl_frontOf_1 : Code := Go.Proofs.Try.f319.body.getD .skip
abbrev n_impl_frontOf_1 : FuncId := 319
theorem g_impl_frontOf_1 : G 319 = ⟨[(3, [4, 6, 7, 16, 17, 18]), (10, [4, 6, 7, 10])], [(10, 11), (13, 7)], []⟩ := rfl
attribute [simp] c_impl_frontOf_1 g_impl_frontOf_1 Go.Proofs.Try.f319
theorem e_impl_frontOf_1 : enterG P (G 319) 319 = some (c_impl_frontOf_1, 73, #[]) := by kernel_rfl
noncomputable def c_impl_frontOf : Code := Go.Proofs.Try.f225.body.getD .skip
abbrev n_impl_frontOf : FuncId := 225
theorem g_impl_frontOf : G 225 = ⟨[], [], []⟩ := rfl
attribute [simp] c_impl_frontOf g_impl_frontOf Go.Proofs.Try.f225
theorem e_impl_frontOf : enterG P (G 225) 225 = some (c_impl_frontOf, 13, #[.tmp 6]) := by kernel_rfl
noncomputable def c_impl_FrontOf : Code := Go.Proofs.Try.f66.body.getD .skip
abbrev n_impl_FrontOf : FuncId := 66
theorem g_impl_FrontOf : G 66 = ⟨[], [], []⟩ := rfl
attribute [simp] c_impl_FrontOf g_impl_FrontOf Go.Proofs.Try.f66
theorem e_impl_FrontOf : enterG P (G 66) 66 = some (c_impl_FrontOf, 17, #[.tmp 6, .tmp 7]) := by kernel_rfl
noncomputable def c_spec_FrontOf : Code := Go.Proofs.Try.f67.body.getD .skip
abbrev n_spec_FrontOf : FuncId := 67
theorem g_spec_FrontOf : G 67 = ⟨[], [], []⟩ := rfl
attribute [simp] c_spec_FrontOf g_spec_FrontOf Go.Proofs.Try.f67
theorem e_spec_FrontOf : enterG P (G 67) 67 = some (c_spec_FrontOf, 22, #[.tmp 6, .tmp 7]) := by kernel_rfl
noncomputable def c_laws_rPairs : Code := Go.Proofs.Try.f68.body.getD .skip
abbrev n_laws_rPairs : FuncId := 68
theorem g_laws_rPairs : G 68 = ⟨[(4, [0, 1, 5])], [(6, 8)], []⟩ := rfl
attribute [simp] c_laws_rPairs g_laws_rPairs Go.Proofs.Try.f68
theorem e_laws_rPairs : enterG P (G 68) 68 = some (c_laws_rPairs, 26, #[.tmp 4]) := by kernel_rfl
noncomputable def c_impl_IsUndominated : Code := Go.Proofs.Try.f69.body.getD .skip
abbrev n_impl_IsUndominated : FuncId := 69
theorem g_impl_IsUndominated : G 69 = ⟨[(5, [10, 33, 34, 35])], [], []⟩ := rfl
attribute [simp] c_impl_IsUndominated g_impl_IsUndominated Go.Proofs.Try.f69
theorem e_impl_IsUndominated : enterG P (G 69) 69 = some (c_impl_IsUndominated, 43, #[.tmp 8, .tmp 9]) := by kernel_rfl
noncomputable def c_spec_l2Two : Code := Go.Proofs.Try.f228.body.getD .skip
abbrev n_spec_l2Two : FuncId := 228
theorem g_spec_l2Two : G 228 = ⟨[], [], []⟩ := rfl
attribute [simp] c_spec_l2Two g_spec_l2Two Go.Proofs.Try.f228
theorem e_spec_l2Two : enterG P (G 228) 228 = some (c_spec_l2Two, 13, #[.tmp 4]) := by kernel_rfl
noncomputable def c_spec_l11Has : Code := Go.Proofs.Try.f229.body.getD .skip
abbrev n_spec_l11Has : FuncId := 229
theorem g_spec_l11Has : G 229 = ⟨[(2, [0, 3, 5])], [(4, 5)], []⟩ := rfl
attribute [simp] c_spec_l11Has g_spec_l11Has Go.Proofs.Try.f229
theorem e_spec_l11Has : enterG P (G 229) 229 = some (c_spec_l11Has, 18, #[.tmp 4]) := by kernel_rfl
noncomputable def c_spec_IsUndominated : Code := Go.Proofs.Try.f70.body.getD .skip
abbrev n_spec_IsUndominated : FuncId := 70
theorem g_spec_IsUndominated : G 70 = ⟨[], [], []⟩ := rfl
attribute [simp] c_spec_IsUndominated g_spec_IsUndominated Go.Proofs.Try.f70
theorem e_spec_IsUndominated : enterG P (G 70) 70 = some (c_spec_IsUndominated, 30, #[.tmp 8, .tmp 9]) := by kernel_rfl
noncomputable def c_impl_PointOf : Code := Go.Proofs.Try.f71.body.getD .skip
abbrev n_impl_PointOf : FuncId := 71
theorem g_impl_PointOf : G 71 = ⟨[], [], []⟩ := rfl
attribute [simp] c_impl_PointOf g_impl_PointOf Go.Proofs.Try.f71
theorem e_impl_PointOf : enterG P (G 71) 71 = some (c_impl_PointOf, 28, #[.cell 8 58, .tmp 9]) := by kernel_rfl
noncomputable def c_spec_PointOf : Code := Go.Proofs.Try.f72.body.getD .skip
abbrev n_spec_PointOf : FuncId := 72
theorem g_spec_PointOf : G 72 = ⟨[], [], []⟩ := rfl
attribute [simp] c_spec_PointOf g_spec_PointOf Go.Proofs.Try.f72
theorem e_spec_PointOf : enterG P (G 72) 72 = some (c_spec_PointOf, 26, #[.cell 8 58, .tmp 9]) := by kernel_rfl
noncomputable def c_impl_FrontOrder_1 : Code := Go.Proofs.Try.f231.body.getD .skip
abbrev n_impl_FrontOrder_1 : FuncId := 231
theorem g_impl_FrontOrder_1 : G 231 = ⟨[], [(0, 12)], []⟩ := rfl
attribute [simp] c_impl_FrontOrder_1 g_impl_FrontOrder_1 Go.Proofs.Try.f231
theorem e_impl_FrontOrder_1 : enterG P (G 231) 231 = some (c_impl_FrontOrder_1, 25, #[]) := by kernel_rfl
noncomputable def c_impl_FrontOrder : Code := Go.Proofs.Try.f73.body.getD .skip
abbrev n_impl_FrontOrder : FuncId := 73
theorem g_impl_FrontOrder : G 73 = ⟨[], [], []⟩ := rfl
attribute [simp] c_impl_FrontOrder g_impl_FrontOrder Go.Proofs.Try.f73
theorem e_impl_FrontOrder : enterG P (G 73) 73 = some (c_impl_FrontOrder, 32, #[.tmp 8, .tmp 9]) := by kernel_rfl
noncomputable def c_spec_FrontOrder : Code := Go.Proofs.Try.f74.body.getD .skip
abbrev n_spec_FrontOrder : FuncId := 74
theorem g_spec_FrontOrder : G 74 = ⟨[], [], []⟩ := rfl
attribute [simp] c_spec_FrontOrder g_spec_FrontOrder Go.Proofs.Try.f74
theorem e_spec_FrontOrder : enterG P (G 74) 74 = some (c_spec_FrontOrder, 43, #[.tmp 8, .tmp 9]) := by kernel_rfl
noncomputable def c_laws_FnFronts : Code := Go.Proofs.Try.f7.body.getD .skip
abbrev n_laws_FnFronts : FuncId := 7
theorem g_laws_FnFronts : G 7 = ⟨[(19, [3, 5, 6, 7, 11, 15, 16, 19]), (24, [3, 5, 6, 7, 11, 15, 16, 20]), (39, [7, 11, 15, 31, 32])], [(21, 24), (29, 22), (41, 18), (42, 5)], []⟩ := rfl
attribute [simp] c_laws_FnFronts g_laws_FnFronts Go.Proofs.Try.f7
theorem e_laws_FnFronts : enterG P (G 7) 7 = some (c_laws_FnFronts, 290, #[.tmp 2]) := by kernel_rfl
noncomputable def c_spec_DrawLeastMix : Code := Go.Proofs.Try.f75.body.getD .skip
abbrev n_spec_DrawLeastMix : FuncId := 75
theorem g_spec_DrawLeastMix : G 75 = ⟨[], [], []⟩ := rfl
attribute [simp] c_spec_DrawLeastMix g_spec_DrawLeastMix Go.Proofs.Try.f75
theorem e_spec_DrawLeastMix : enterG P (G 75) 75 = some (c_spec_DrawLeastMix, 31, #[.tmp 2, .tmp 3, .tmp 4, .tmp 5, .tmp 6]) := by kernel_rfl
noncomputable def c_impl_LeastMix_1 : Code := Go.Proofs.Try.f232.body.getD .skip
abbrev n_impl_LeastMix_1 : FuncId := 232
theorem g_impl_LeastMix_1 : G 232 = ⟨[], [], []⟩ := rfl
attribute [simp] c_impl_LeastMix_1 g_impl_LeastMix_1 Go.Proofs.Try.f232
theorem e_impl_LeastMix_1 : enterG P (G 232) 232 = some (c_impl_LeastMix_1, 33, #[]) := by kernel_rfl
noncomputable def c_impl_LeastMix : Code := Go.Proofs.Try.f76.body.getD .skip
abbrev n_impl_LeastMix : FuncId := 76
theorem g_impl_LeastMix : G 76 = ⟨[], [], []⟩ := rfl
attribute [simp] c_impl_LeastMix g_impl_LeastMix Go.Proofs.Try.f76
theorem e_impl_LeastMix : enterG P (G 76) 76 = some (c_impl_LeastMix, 34, #[.tmp 10, .tmp 11]) := by kernel_rfl
noncomputable def c_spec_l11Mix : Code := Go.Proofs.Try.f233.body.getD .skip
abbrev n_spec_l11Mix : FuncId := 233
theorem g_spec_l11Mix : G 233 = ⟨[(8, [0, 1, 2, 3, 4, 5, 13, 14, 17])], [], [(11, 11, [(5, 2)])]⟩ := rfl
attribute [simp] c_spec_l11Mix g_spec_l11Mix Go.Proofs.Try.f233
theorem e_spec_l11Mix : enterG P (G 233) 233 = some (c_spec_l11Mix, 73, #[.cell 14 148]) := by kernel_rfl
noncomputable def c_spec_LeastMix : Code := Go.Proofs.Try.f77.body.getD .skip
abbrev n_spec_LeastMix : FuncId := 77
theorem g_spec_LeastMix : G 77 = ⟨[], [], []⟩ := rfl
attribute [simp] c_spec_LeastMix g_spec_LeastMix Go.Proofs.Try.f77
theorem e_spec_LeastMix : enterG P (G 77) 77 = some (c_spec_LeastMix, 40, #[.tmp 10, .tmp 11]) := by kernel_rfl
noncomputable def c_impl_SupportedPoints : Code := Go.Proofs.Try.f78.body.getD .skip
abbrev n_impl_SupportedPoints : FuncId := 78
theorem g_impl_SupportedPoints : G 78 = ⟨[(6, [8, 9, 26, 27, 28]), (10, [8, 9, 10, 11, 12, 26, 27, 28, 35, 36, 37]), (13, [8, 9, 10, 11, 12, 14, 26, 27, 28, 35, 36, 37, 44, 45, 46])], [], []⟩ := rfl
attribute [simp] c_impl_SupportedPoints g_impl_SupportedPoints Go.Proofs.Try.f78
theorem e_impl_SupportedPoints : enterG P (G 78) 78 = some (c_impl_SupportedPoints, 85, #[.tmp 6, .tmp 7]) := by kernel_rfl
noncomputable def c_spec_l11Below : Code := Go.Proofs.Try.f322.body.getD .skip
abbrev n_spec_l11Below : FuncId := 322
theorem g_spec_l11Below : G 322 = ⟨[], [], []⟩ := rfl
attribute [simp] c_spec_l11Below g_spec_l11Below Go.Proofs.Try.f322
theorem e_spec_l11Below : enterG P (G 322) 322 = some (c_spec_l11Below, 30, #[.tmp 6]) := by kernel_rfl
noncomputable def c_spec_l11Supported : Code := Go.Proofs.Try.f234.body.getD .skip
abbrev n_spec_l11Supported : FuncId := 234
theorem g_spec_l11Supported : G 234 = ⟨[(2, [0, 1, 5]), (5, [0, 1, 5, 6])], [(7, 12)], []⟩ := rfl
attribute [simp] c_spec_l11Supported g_spec_l11Supported Go.Proofs.Try.f234
theorem e_spec_l11Supported : enterG P (G 234) 234 = some (c_spec_l11Supported, 34, #[.tmp 4]) := by kernel_rfl
noncomputable def c_spec_SupportedPoints : Code := Go.Proofs.Try.f79.body.getD .skip
abbrev n_spec_SupportedPoints : FuncId := 79
theorem g_spec_SupportedPoints : G 79 = ⟨[(6, [8, 9, 10])], [], []⟩ := rfl
attribute [simp] c_spec_SupportedPoints g_spec_SupportedPoints Go.Proofs.Try.f79
theorem e_spec_SupportedPoints : enterG P (G 79) 79 = some (c_spec_SupportedPoints, 43, #[.tmp 6, .tmp 7]) := by kernel_rfl
noncomputable def c_spec_DrawBestUnder : Code := Go.Proofs.Try.f80.body.getD .skip
abbrev n_spec_DrawBestUnder : FuncId := 80
theorem g_spec_DrawBestUnder : G 80 = ⟨[], [], []⟩ := rfl
attribute [simp] c_spec_DrawBestUnder g_spec_DrawBestUnder Go.Proofs.Try.f80
theorem e_spec_DrawBestUnder : enterG P (G 80) 80 = some (c_spec_DrawBestUnder, 27, #[.tmp 2, .tmp 3, .tmp 4, .tmp 5]) := by kernel_rfl
noncomputable def c_impl_BestUnder_1 : Code := Go.Proofs.Try.f235.body.getD .skip
abbrev n_impl_BestUnder_1 : FuncId := 235
theorem g_impl_BestUnder_1 : G 235 = ⟨[], [], [(2, 5, [(1000, 4), (1001, 2), (1001, 3)])]⟩ := rfl
attribute [simp] c_impl_BestUnder_1 g_impl_BestUnder_1 Go.Proofs.Try.f235
theorem e_impl_BestUnder_1 : enterG P (G 235) 235 = some (c_impl_BestUnder_1, 33, #[]) := by kernel_rfl
noncomputable def c_impl_BestUnder : Code := Go.Proofs.Try.f81.body.getD .skip
abbrev n_impl_BestUnder : FuncId := 81
theorem g_impl_BestUnder : G 81 = ⟨[], [(6, 3)], []⟩ := rfl
attribute [simp] c_impl_BestUnder g_impl_BestUnder Go.Proofs.Try.f81
theorem e_impl_BestUnder : enterG P (G 81) 81 = some (c_impl_BestUnder, 24, #[.tmp 8, .tmp 9]) := by kernel_rfl
noncomputable def c_spec_l11Under : Code := Go.Proofs.Try.f236.body.getD .skip
abbrev n_spec_l11Under : FuncId := 236
theorem g_spec_l11Under : G 236 = ⟨[(7, [0, 1, 2, 3, 4, 11, 12, 14])], [], [(10, 10, [(5, 2)])]⟩ := rfl
attribute [simp] c_spec_l11Under g_spec_l11Under Go.Proofs.Try.f236
theorem e_spec_l11Under : enterG P (G 236) 236 = some (c_spec_l11Under, 68, #[.cell 12 148]) := by kernel_rfl
noncomputable def c_spec_BestUnder : Code := Go.Proofs.Try.f82.body.getD .skip
abbrev n_spec_BestUnder : FuncId := 82
theorem g_spec_BestUnder : G 82 = ⟨[], [(4, 7)], []⟩ := rfl
attribute [simp] c_spec_BestUnder g_spec_BestUnder Go.Proofs.Try.f82
theorem e_spec_BestUnder : enterG P (G 82) 82 = some (c_spec_BestUnder, 34, #[.tmp 8, .tmp 9]) := by kernel_rfl
noncomputable def c_laws_FnMixtures : Code := Go.Proofs.Try.f8.body.getD .skip
abbrev n_laws_FnMixtures : FuncId := 8
theorem g_laws_FnMixtures : G 8 = ⟨[(19, [0, 6, 7, 8, 12, 16, 20, 21]), (26, [0, 6, 7, 8, 12, 16, 22]), (31, [0, 6, 7, 8, 12, 16, 22, 23, 24]), (48, [28, 33, 35, 36, 37])], [(21, 33), (23, 19), (28, 16), (33, 10), (51, 15)], []⟩ := rfl
attribute [simp] c_laws_FnMixtures g_laws_FnMixtures Go.Proofs.Try.f8
theorem e_laws_FnMixtures : enterG P (G 8) 8 = some (c_laws_FnMixtures, 337, #[.tmp 2]) := by kernel_rfl
noncomputable def c_spec_l4Set : Code := Go.Proofs.Try.f264.body.getD .skip
abbrev n_spec_l4Set : FuncId := 264
theorem g_spec_l4Set : G 264 = ⟨[(3, [0, 1, 5, 6])], [], []⟩ := rfl
attribute [simp] c_spec_l4Set g_spec_l4Set Go.Proofs.Try.f264
theorem e_spec_l4Set : enterG P (G 264) 264 = some (c_spec_l4Set, 23, #[.tmp 4]) := by kernel_rfl
noncomputable def c_spec_l6All : Code := Go.Proofs.Try.f250.body.getD .skip
abbrev n_spec_l6All : FuncId := 250
theorem g_spec_l6All : G 250 = ⟨[], [], []⟩ := rfl
attribute [simp] c_spec_l6All g_spec_l6All Go.Proofs.Try.f250
theorem e_spec_l6All : enterG P (G 250) 250 = some (c_spec_l6All, 10, #[.tmp 2]) := by kernel_rfl
noncomputable def c_spec_l6Sooner : Code := Go.Proofs.Try.f331.body.getD .skip
abbrev n_spec_l6Sooner : FuncId := 331
theorem g_spec_l6Sooner : G 331 = ⟨[], [(1, 10), (2, 10), (3, 10), (4, 10)], []⟩ := rfl
attribute [simp] c_spec_l6Sooner g_spec_l6Sooner Go.Proofs.Try.f331
theorem e_spec_l6Sooner : enterG P (G 331) 331 = some (c_spec_l6Sooner, 54, #[.tmp 6]) := by kernel_rfl
noncomputable def c_spec_l6Due : Code := Go.Proofs.Try.f261.body.getD .skip
abbrev n_spec_l6Due : FuncId := 261
theorem g_spec_l6Due : G 261 = ⟨[(3, [0, 1, 5, 6]), (6, [0, 1, 5, 6, 7])], [(6, 14)], [(8, 14, [(10, 4)])]⟩ := rfl
attribute [simp] c_spec_l6Due g_spec_l6Due Go.Proofs.Try.f261
theorem e_spec_l6Due : enterG P (G 261) 261 = some (c_spec_l6Due, 49, #[.tmp 4]) := by kernel_rfl
noncomputable def c_spec_l6Latest : Code := Go.Proofs.Try.f237.body.getD .skip
abbrev n_spec_l6Latest : FuncId := 237
theorem g_spec_l6Latest : G 237 = ⟨[], [], []⟩ := rfl
attribute [simp] c_spec_l6Latest g_spec_l6Latest Go.Proofs.Try.f237
theorem e_spec_l6Latest : enterG P (G 237) 237 = some (c_spec_l6Latest, 9, #[.tmp 2]) := by kernel_rfl
noncomputable def c_spec_DrawBackwardOrder : Code := Go.Proofs.Try.f83.body.getD .skip
abbrev n_spec_DrawBackwardOrder : FuncId := 83
theorem g_spec_DrawBackwardOrder : G 83 = ⟨[], [], []⟩ := rfl
attribute [simp] c_spec_DrawBackwardOrder g_spec_DrawBackwardOrder Go.Proofs.Try.f83
theorem e_spec_DrawBackwardOrder : enterG P (G 83) 83 = some (c_spec_DrawBackwardOrder, 31, #[.tmp 2, .tmp 3]) := by kernel_rfl
noncomputable def c_impl_timeOf : Code := Go.Proofs.Try.f238.body.getD .skip
abbrev n_impl_timeOf : FuncId := 238
theorem g_impl_timeOf : G 238 = ⟨[(3, [0, 5, 9, 10, 11])], [], []⟩ := rfl
attribute [simp] c_impl_timeOf g_impl_timeOf Go.Proofs.Try.f238
theorem e_impl_timeOf : enterG P (G 238) 238 = some (c_impl_timeOf, 24, #[.tmp 4]) := by kernel_rfl
noncomputable def c_impl_BackwardOrder : Code := Go.Proofs.Try.f84.body.getD .skip
abbrev n_impl_BackwardOrder : FuncId := 84
theorem g_impl_BackwardOrder : G 84 = ⟨[(6, [0, 1, 6, 7, 8]), (10, [0, 1, 6, 7, 8, 9, 35, 36, 37])], [(12, 25)], []⟩ := rfl
attribute [simp] c_impl_BackwardOrder g_impl_BackwardOrder Go.Proofs.Try.f84
theorem e_impl_BackwardOrder : enterG P (G 84) 84 = some (c_impl_BackwardOrder, 82, #[.tmp 4, .tmp 5]) := by kernel_rfl
noncomputable def c_spec_l4Sums : Code := Go.Proofs.Try.f324.body.getD .skip
abbrev n_spec_l4Sums : FuncId := 324
theorem g_spec_l4Sums : G 324 = ⟨[(3, [0, 1, 4, 5, 6])], [(5, 22)], []⟩ := rfl
attribute [simp] c_spec_l4Sums g_spec_l4Sums Go.Proofs.Try.f324
theorem e_spec_l4Sums : enterG P (G 324) 324 = some (c_spec_l4Sums, 38, #[.cell 4 58]) := by kernel_rfl
noncomputable def c_spec_l4Rest : Code := Go.Proofs.Try.f262.body.getD .skip
abbrev n_spec_l4Rest : FuncId := 262
theorem g_spec_l4Rest : G 262 = ⟨[(3, [0, 1, 5, 6])], [], []⟩ := rfl
attribute [simp] c_spec_l4Rest g_spec_l4Rest Go.Proofs.Try.f262
theorem e_spec_l4Rest : enterG P (G 262) 262 = some (c_spec_l4Rest, 29, #[.tmp 4]) := by kernel_rfl
noncomputable def c_spec_l11Back : Code := Go.Proofs.Try.f239.body.getD .skip
abbrev n_spec_l11Back : FuncId := 239
theorem g_spec_l11Back : G 239 = ⟨[(2, [0, 1, 6, 7]), (5, [0, 1, 6, 7, 8, 9, 10])], [(8, 17)], []⟩ := rfl
attribute [simp] c_spec_l11Back g_spec_l11Back Go.Proofs.Try.f239
theorem e_spec_l11Back : enterG P (G 239) 239 = some (c_spec_l11Back, 71, #[.tmp 4, .tmp 5]) := by kernel_rfl
noncomputable def c_spec_BackwardOrder : Code := Go.Proofs.Try.f85.body.getD .skip
abbrev n_spec_BackwardOrder : FuncId := 85
theorem g_spec_BackwardOrder : G 85 = ⟨[], [], []⟩ := rfl
attribute [simp] c_spec_BackwardOrder g_spec_BackwardOrder Go.Proofs.Try.f85
theorem e_spec_BackwardOrder : enterG P (G 85) 85 = some (c_spec_BackwardOrder, 20, #[.tmp 4, .tmp 5]) := by kernel_rfl
noncomputable def c_impl_totalOf : Code := Go.Proofs.Try.f240.body.getD .skip
abbrev n_impl_totalOf : FuncId := 240
theorem g_impl_totalOf : G 240 = ⟨[(3, [3, 6, 7, 8])], [], []⟩ := rfl
attribute [simp] c_impl_totalOf g_impl_totalOf Go.Proofs.Try.f240
theorem e_impl_totalOf : enterG P (G 240) 240 = some (c_impl_totalOf, 18, #[.tmp 2]) := by kernel_rfl
noncomputable def c_impl_TotalTime : Code := Go.Proofs.Try.f86.body.getD .skip
abbrev n_impl_TotalTime : FuncId := 86
theorem g_impl_TotalTime : G 86 = ⟨[], [], []⟩ := rfl
attribute [simp] c_impl_TotalTime g_impl_TotalTime Go.Proofs.Try.f86
theorem e_impl_TotalTime : enterG P (G 86) 86 = some (c_impl_TotalTime, 9, #[.tmp 2, .tmp 3]) := by kernel_rfl
noncomputable def c_spec_DrawLatenessFront : Code := Go.Proofs.Try.f87.body.getD .skip
abbrev n_spec_DrawLatenessFront : FuncId := 87
theorem g_spec_DrawLatenessFront : G 87 = ⟨[], [], []⟩ := rfl
attribute [simp] c_spec_DrawLatenessFront g_spec_DrawLatenessFront Go.Proofs.Try.f87
theorem e_spec_DrawLatenessFront : enterG P (G 87) 87 = some (c_spec_DrawLatenessFront, 9, #[.tmp 2]) := by kernel_rfl
noncomputable def c_impl_LatenessFront : Code := Go.Proofs.Try.f88.body.getD .skip
abbrev n_impl_LatenessFront : FuncId := 88
theorem g_impl_LatenessFront : G 88 = ⟨[], [], []⟩ := rfl
attribute [simp] c_impl_LatenessFront g_impl_LatenessFront Go.Proofs.Try.f88
theorem e_impl_LatenessFront : enterG P (G 88) 88 = some (c_impl_LatenessFront, 9, #[.tmp 2, .tmp 3]) := by kernel_rfl
noncomputable def c_spec_LatenessFront : Code := Go.Proofs.Try.f89.body.getD .skip
abbrev n_spec_LatenessFront : FuncId := 89
theorem g_spec_LatenessFront : G 89 = ⟨[(5, [0, 4, 5, 6])], [], []⟩ := rfl
attribute [simp] c_spec_LatenessFront g_spec_LatenessFront Go.Proofs.Try.f89
theorem e_spec_LatenessFront : enterG P (G 89) 89 = some (c_spec_LatenessFront, 38, #[.tmp 2, .tmp 3]) := by kernel_rfl
noncomputable def c_laws_FnLatenessFront : Code := Go.Proofs.Try.f9.body.getD .skip
abbrev n_laws_FnLatenessFront : FuncId := 9
theorem g_laws_FnLatenessFront : G 9 = ⟨[], [], []⟩ := rfl
attribute [simp] c_laws_FnLatenessFront g_laws_FnLatenessFront Go.Proofs.Try.f9
theorem e_laws_FnLatenessFront : enterG P (G 9) 9 = some (c_laws_FnLatenessFront, 174, #[.tmp 2]) := by kernel_rfl
noncomputable def c_spec_l1Cur_ends : Code := Go.Proofs.Try.f242.body.getD .skip
abbrev n_spec_l1Cur_ends : FuncId := 242
theorem g_spec_l1Cur_ends : G 242 = ⟨[(9, [0, 1, 5, 8])], [], [(7, 11, [(1000, 7), (1001, 4), (1001, 5)])]⟩ := rfl
attribute [simp] c_spec_l1Cur_ends g_spec_l1Cur_ends Go.Proofs.Try.f242
theorem e_spec_l1Cur_ends : enterG P (G 242) 242 = some (c_spec_l1Cur_ends, 81, #[.tmp 4]) := by kernel_rfl
noncomputable def c_spec_DrawShortSet : Code := Go.Proofs.Try.f90.body.getD .skip
abbrev n_spec_DrawShortSet : FuncId := 90
theorem g_spec_DrawShortSet : G 90 = ⟨[], [], []⟩ := rfl
attribute [simp] c_spec_DrawShortSet g_spec_DrawShortSet Go.Proofs.Try.f90
theorem e_spec_DrawShortSet : enterG P (G 90) 90 = some (c_spec_DrawShortSet, 15, #[.tmp 2, .tmp 3]) := by kernel_rfl
noncomputable def c_impl_allWithin : Code := Go.Proofs.Try.f326.body.getD .skip
abbrev n_impl_allWithin : FuncId := 326
theorem g_impl_allWithin : G 326 = ⟨[(2, [1, 2, 9, 10, 11])], [], []⟩ := rfl
attribute [simp] c_impl_allWithin g_impl_allWithin Go.Proofs.Try.f326
theorem e_impl_allWithin : enterG P (G 326) 326 = some (c_impl_allWithin, 21, #[.tmp 6]) := by kernel_rfl
noncomputable def c_impl_isVector : Code := Go.Proofs.Try.f243.body.getD .skip
abbrev n_impl_isVector : FuncId := 243
theorem g_impl_isVector : G 243 = ⟨[], [], []⟩ := rfl
attribute [simp] c_impl_isVector g_impl_isVector Go.Proofs.Try.f243
theorem e_impl_isVector : enterG P (G 243) 243 = some (c_impl_isVector, 14, #[.tmp 4]) := by kernel_rfl
noncomputable def c_impl_byEnds_1 : Code := Go.Proofs.Try.f328.body.getD .skip
abbrev n_impl_byEnds_1 : FuncId := 328
theorem g_impl_byEnds_1 : G 328 = ⟨[], [(1, 8)], []⟩ := rfl
attribute [simp] c_impl_byEnds_1 g_impl_byEnds_1 Go.Proofs.Try.f328
theorem e_impl_byEnds_1 : enterG P (G 328) 328 = some (c_impl_byEnds_1, 15, #[.tmp 5]) := by kernel_rfl
noncomputable def c_impl_byEnds : Code := Go.Proofs.Try.f253.body.getD .skip
abbrev n_impl_byEnds : FuncId := 253
theorem g_impl_byEnds : G 253 = ⟨[], [], []⟩ := rfl
attribute [simp] c_impl_byEnds g_impl_byEnds Go.Proofs.Try.f253
theorem e_impl_byEnds : enterG P (G 253) 253 = some (c_impl_byEnds, 8, #[.tmp 2]) := by kernel_rfl
noncomputable def c_impl_supplyOf : Code := Go.Proofs.Try.f248.body.getD .skip
abbrev n_impl_supplyOf : FuncId := 248
theorem g_impl_supplyOf : G 248 = ⟨[(3, [0, 1, 7, 10, 11, 12])], [(5, 11)], []⟩ := rfl
attribute [simp] c_impl_supplyOf g_impl_supplyOf Go.Proofs.Try.f248
theorem e_impl_supplyOf : enterG P (G 248) 248 = some (c_impl_supplyOf, 30, #[.tmp 6]) := by kernel_rfl
noncomputable def c_impl_demandOf : Code := Go.Proofs.Try.f249.body.getD .skip
abbrev n_impl_demandOf : FuncId := 249
theorem g_impl_demandOf : G 249 = ⟨[(3, [0, 5, 6, 9, 10, 11])], [(6, 12)], []⟩ := rfl
attribute [simp] c_impl_demandOf g_impl_demandOf Go.Proofs.Try.f249
theorem e_impl_demandOf : enterG P (G 249) 249 = some (c_impl_demandOf, 42, #[.tmp 4]) := by kernel_rfl
noncomputable def c_impl_shortSet : Code := Go.Proofs.Try.f244.body.getD .skip
abbrev n_impl_shortSet : FuncId := 244
theorem g_impl_shortSet : G 244 = ⟨[(3, [0, 1, 6, 12, 13])], [], []⟩ := rfl
attribute [simp] c_impl_shortSet g_impl_shortSet Go.Proofs.Try.f244
theorem e_impl_shortSet : enterG P (G 244) 244 = some (c_impl_shortSet, 31, #[.tmp 4, .tmp 5]) := by kernel_rfl
noncomputable def c_impl_ShortSet : Code := Go.Proofs.Try.f91.body.getD .skip
abbrev n_impl_ShortSet : FuncId := 91
theorem g_impl_ShortSet : G 91 = ⟨[], [], []⟩ := rfl
attribute [simp] c_impl_ShortSet g_impl_ShortSet Go.Proofs.Try.f91
theorem e_impl_ShortSet : enterG P (G 91) 91 = some (c_impl_ShortSet, 20, #[.tmp 4, .tmp 5]) := by kernel_rfl
noncomputable def c_spec_l10Vector : Code := Go.Proofs.Try.f245.body.getD .skip
abbrev n_spec_l10Vector : FuncId := 245
theorem g_spec_l10Vector : G 245 = ⟨[(2, [0, 1, 5])], [], []⟩ := rfl
attribute [simp] c_spec_l10Vector g_spec_l10Vector Go.Proofs.Try.f245
theorem e_spec_l10Vector : enterG P (G 245) 245 = some (c_spec_l10Vector, 23, #[.tmp 4]) := by kernel_rfl
noncomputable def c_spec_l10Sorted : Code := Go.Proofs.Try.f256.body.getD .skip
abbrev n_spec_l10Sorted : FuncId := 256
theorem g_spec_l10Sorted : G 256 = ⟨[(3, [0, 3, 4]), (6, [0, 3, 4, 5])], [(6, 16)], [(8, 11, [(7, 4)])]⟩ := rfl
attribute [simp] c_spec_l10Sorted g_spec_l10Sorted Go.Proofs.Try.f256
theorem e_spec_l10Sorted : enterG P (G 256) 256 = some (c_spec_l10Sorted, 46, #[.tmp 2]) := by kernel_rfl
noncomputable def c_spec_l6Ascending : Code := Go.Proofs.Try.f327.body.getD .skip
abbrev n_spec_l6Ascending : FuncId := 327
theorem g_spec_l6Ascending : G 327 = ⟨[(3, [0, 3, 4])], [], []⟩ := rfl
attribute [simp] c_spec_l6Ascending g_spec_l6Ascending Go.Proofs.Try.f327
theorem e_spec_l6Ascending : enterG P (G 327) 327 = some (c_spec_l6Ascending, 19, #[.tmp 2]) := by kernel_rfl
noncomputable def c_spec_l10Supply : Code := Go.Proofs.Try.f251.body.getD .skip
abbrev n_spec_l10Supply : FuncId := 251
theorem g_spec_l10Supply : G 251 = ⟨[(3, [0, 1, 2, 7, 8])], [(5, 17)], []⟩ := rfl
attribute [simp] c_spec_l10Supply g_spec_l10Supply Go.Proofs.Try.f251
theorem e_spec_l10Supply : enterG P (G 251) 251 = some (c_spec_l10Supply, 34, #[.tmp 6]) := by kernel_rfl
noncomputable def c_spec_l10Demand : Code := Go.Proofs.Try.f252.body.getD .skip
abbrev n_spec_l10Demand : FuncId := 252
theorem g_spec_l10Demand : G 252 = ⟨[(3, [0, 1, 5, 6, 7])], [(6, 18)], []⟩ := rfl
attribute [simp] c_spec_l10Demand g_spec_l10Demand Go.Proofs.Try.f252
theorem e_spec_l10Demand : enterG P (G 252) 252 = some (c_spec_l10Demand, 49, #[.tmp 4]) := by kernel_rfl
noncomputable def c_spec_l10Short : Code := Go.Proofs.Try.f246.body.getD .skip
abbrev n_spec_l10Short : FuncId := 246
theorem g_spec_l10Short : G 246 = ⟨[(3, [0, 1, 5, 6])], [], []⟩ := rfl
attribute [simp] c_spec_l10Short g_spec_l10Short Go.Proofs.Try.f246
theorem e_spec_l10Short : enterG P (G 246) 246 = some (c_spec_l10Short, 30, #[.tmp 4]) := by kernel_rfl
noncomputable def c_spec_ShortSet : Code := Go.Proofs.Try.f92.body.getD .skip
abbrev n_spec_ShortSet : FuncId := 92
theorem g_spec_ShortSet : G 92 = ⟨[], [], []⟩ := rfl
attribute [simp] c_spec_ShortSet g_spec_ShortSet Go.Proofs.Try.f92
theorem e_spec_ShortSet : enterG P (G 92) 92 = some (c_spec_ShortSet, 24, #[.tmp 4, .tmp 5]) := by kernel_rfl
noncomputable def c_impl_IsBalanced : Code := Go.Proofs.Try.f93.body.getD .skip
abbrev n_impl_IsBalanced : FuncId := 93
theorem g_impl_IsBalanced : G 93 = ⟨[], [], []⟩ := rfl
attribute [simp] c_impl_IsBalanced g_impl_IsBalanced Go.Proofs.Try.f93
theorem e_impl_IsBalanced : enterG P (G 93) 93 = some (c_impl_IsBalanced, 39, #[.tmp 4, .tmp 5]) := by kernel_rfl
noncomputable def c_spec_IsBalanced : Code := Go.Proofs.Try.f94.body.getD .skip
abbrev n_spec_IsBalanced : FuncId := 94
theorem g_spec_IsBalanced : G 94 = ⟨[], [], []⟩ := rfl
attribute [simp] c_spec_IsBalanced g_spec_IsBalanced Go.Proofs.Try.f94
theorem e_spec_IsBalanced : enterG P (G 94) 94 = some (c_spec_IsBalanced, 33, #[.tmp 4, .tmp 5]) := by kernel_rfl
noncomputable def c_impl_IsOrderVector : Code := Go.Proofs.Try.f95.body.getD .skip
abbrev n_impl_IsOrderVector : FuncId := 95
theorem g_impl_IsOrderVector : G 95 = ⟨[], [], []⟩ := rfl
attribute [simp] c_impl_IsOrderVector g_impl_IsOrderVector Go.Proofs.Try.f95
theorem e_impl_IsOrderVector : enterG P (G 95) 95 = some (c_impl_IsOrderVector, 22, #[.tmp 4, .tmp 5]) := by kernel_rfl
noncomputable def c_spec_l1Same : Code := Go.Proofs.Try.f254.body.getD .skip
abbrev n_spec_l1Same : FuncId := 254
theorem g_spec_l1Same : G 254 = ⟨[(4, [0, 1, 5])], [(6, 8)], []⟩ := rfl
attribute [simp] c_spec_l1Same g_spec_l1Same Go.Proofs.Try.f254
theorem e_spec_l1Same : enterG P (G 254) 254 = some (c_spec_l1Same, 26, #[.tmp 4]) := by kernel_rfl
noncomputable def c_spec_IsOrderVector : Code := Go.Proofs.Try.f96.body.getD .skip
abbrev n_spec_IsOrderVector : FuncId := 96
theorem g_spec_IsOrderVector : G 96 = ⟨[], [], []⟩ := rfl
attribute [simp] c_spec_IsOrderVector g_spec_IsOrderVector Go.Proofs.Try.f96
theorem e_spec_IsOrderVector : enterG P (G 96) 96 = some (c_spec_IsOrderVector, 21, #[.tmp 4, .tmp 5]) := by kernel_rfl
noncomputable def c_impl_DemandOf : Code := Go.Proofs.Try.f97.body.getD .skip
abbrev n_impl_DemandOf : FuncId := 97
theorem g_impl_DemandOf : G 97 = ⟨[], [], []⟩ := rfl
attribute [simp] c_impl_DemandOf g_impl_DemandOf Go.Proofs.Try.f97
theorem e_impl_DemandOf : enterG P (G 97) 97 = some (c_impl_DemandOf, 19, #[.tmp 4, .tmp 5]) := by kernel_rfl
noncomputable def c_impl_SupplyOf : Code := Go.Proofs.Try.f98.body.getD .skip
abbrev n_impl_SupplyOf : FuncId := 98
theorem g_impl_SupplyOf : G 98 = ⟨[], [], []⟩ := rfl
attribute [simp] c_impl_SupplyOf g_impl_SupplyOf Go.Proofs.Try.f98
theorem e_impl_SupplyOf : enterG P (G 98) 98 = some (c_impl_SupplyOf, 28, #[.tmp 6, .tmp 7]) := by kernel_rfl
noncomputable def c_spec_l6Set : Code := Go.Proofs.Try.f257.body.getD .skip
abbrev n_spec_l6Set : FuncId := 257
theorem g_spec_l6Set : G 257 = ⟨[], [], []⟩ := rfl
attribute [simp] c_spec_l6Set g_spec_l6Set Go.Proofs.Try.f257
theorem e_spec_l6Set : enterG P (G 257) 257 = some (c_spec_l6Set, 10, #[.tmp 4]) := by kernel_rfl
noncomputable def c_spec_DemandOf : Code := Go.Proofs.Try.f99.body.getD .skip
abbrev n_spec_DemandOf : FuncId := 99
theorem g_spec_DemandOf : G 99 = ⟨[], [], []⟩ := rfl
attribute [simp] c_spec_DemandOf g_spec_DemandOf Go.Proofs.Try.f99
theorem e_spec_DemandOf : enterG P (G 99) 99 = some (c_spec_DemandOf, 18, #[.tmp 4, .tmp 5]) := by kernel_rfl
noncomputable def c_spec_DrawMixVectors : Code := Go.Proofs.Try.f100.body.getD .skip
abbrev n_spec_DrawMixVectors : FuncId := 100
theorem g_spec_DrawMixVectors : G 100 = ⟨[], [], []⟩ := rfl
attribute [simp] c_spec_DrawMixVectors g_spec_DrawMixVectors Go.Proofs.Try.f100
theorem e_spec_DrawMixVectors : enterG P (G 100) 100 = some (c_spec_DrawMixVectors, 40, #[.tmp 2, .tmp 3, .tmp 4, .tmp 5, .tmp 6]) := by kernel_rfl
noncomputable def c_impl_MixVectors : Code := Go.Proofs.Try.f101.body.getD .skip
abbrev n_impl_MixVectors : FuncId := 101
theorem g_impl_MixVectors : G 101 = ⟨[(5, [1, 2, 3, 4, 12, 47, 48])], [(7, 12)], []⟩ := rfl
attribute [simp] c_impl_MixVectors g_impl_MixVectors Go.Proofs.Try.f101
theorem e_impl_MixVectors : enterG P (G 101) 101 = some (c_impl_MixVectors, 80, #[.tmp 10, .tmp 11]) := by kernel_rfl
noncomputable def c_spec_MixVectors : Code := Go.Proofs.Try.f102.body.getD .skip
abbrev n_spec_MixVectors : FuncId := 102
theorem g_spec_MixVectors : G 102 = ⟨[(5, [1, 2, 3, 4, 12, 13])], [(7, 12)], []⟩ := rfl
attribute [simp] c_spec_MixVectors g_spec_MixVectors Go.Proofs.Try.f102
theorem e_spec_MixVectors : enterG P (G 102) 102 = some (c_spec_MixVectors, 83, #[.tmp 10, .tmp 11]) := by kernel_rfl
noncomputable def c_laws_FnVectors : Code := Go.Proofs.Try.f10.body.getD .skip
abbrev n_laws_FnVectors : FuncId := 10
theorem g_laws_FnVectors : G 10 = ⟨[(18, [0, 3, 4, 5, 6, 17]), (22, [0, 3, 4, 5, 6, 17, 18, 19])], [], []⟩ := rfl
attribute [simp] c_laws_FnVectors g_laws_FnVectors Go.Proofs.Try.f10
theorem e_laws_FnVectors : enterG P (G 10) 10 = some (c_laws_FnVectors, 280, #[.tmp 2]) := by kernel_rfl
noncomputable def c_spec_DrawIsTimely : Code := Go.Proofs.Try.f258.body.getD .skip
abbrev n_spec_DrawIsTimely : FuncId := 258
theorem g_spec_DrawIsTimely : G 258 = ⟨[], [], []⟩ := rfl
attribute [simp] c_spec_DrawIsTimely g_spec_DrawIsTimely Go.Proofs.Try.f258
theorem e_spec_DrawIsTimely : enterG P (G 258) 258 = some (c_spec_DrawIsTimely, 33, #[.tmp 2, .tmp 3]) := by kernel_rfl
noncomputable def c_spec_DrawTimelyOrder : Code := Go.Proofs.Try.f103.body.getD .skip
abbrev n_spec_DrawTimelyOrder : FuncId := 103
theorem g_spec_DrawTimelyOrder : G 103 = ⟨[], [], []⟩ := rfl
attribute [simp] c_spec_DrawTimelyOrder g_spec_DrawTimelyOrder Go.Proofs.Try.f103
theorem e_spec_DrawTimelyOrder : enterG P (G 103) 103 = some (c_spec_DrawTimelyOrder, 8, #[.tmp 2, .tmp 3]) := by kernel_rfl
noncomputable def c_impl_IsTimely : Code := Go.Proofs.Try.f104.body.getD .skip
abbrev n_impl_IsTimely : FuncId := 104
theorem g_impl_IsTimely : G 104 = ⟨[], [], []⟩ := rfl
attribute [simp] c_impl_IsTimely g_impl_IsTimely Go.Proofs.Try.f104
theorem e_impl_IsTimely : enterG P (G 104) 104 = some (c_impl_IsTimely, 11, #[.tmp 4, .tmp 5]) := by kernel_rfl
noncomputable def c_spec_l6Timely : Code := Go.Proofs.Try.f259.body.getD .skip
abbrev n_spec_l6Timely : FuncId := 259
theorem g_spec_l6Timely : G 259 = ⟨[(3, [0, 5, 6, 7])], [], []⟩ := rfl
attribute [simp] c_spec_l6Timely g_spec_l6Timely Go.Proofs.Try.f259
theorem e_spec_l6Timely : enterG P (G 259) 259 = some (c_spec_l6Timely, 37, #[.tmp 4]) := by kernel_rfl
noncomputable def c_spec_IsTimely : Code := Go.Proofs.Try.f105.body.getD .skip
abbrev n_spec_IsTimely : FuncId := 105
theorem g_spec_IsTimely : G 105 = ⟨[], [], []⟩ := rfl
attribute [simp] c_spec_IsTimely g_spec_IsTimely Go.Proofs.Try.f105
theorem e_spec_IsTimely : enterG P (G 105) 105 = some (c_spec_IsTimely, 18, #[.tmp 4, .tmp 5]) := by kernel_rfl
noncomputable def c_impl_inDueOrder_1 : Code := Go.Proofs.Try.f330.body.getD .skip
abbrev n_impl_inDueOrder_1 : FuncId := 330
theorem g_impl_inDueOrder_1 : G 330 = ⟨[], [(1, 34)], []⟩ := rfl
attribute [simp] c_impl_inDueOrder_1 g_impl_inDueOrder_1 Go.Proofs.Try.f330
theorem e_impl_inDueOrder_1 : enterG P (G 330) 330 = some (c_impl_inDueOrder_1, 43, #[.tmp 5]) := by kernel_rfl
noncomputable def c_impl_inDueOrder : Code := Go.Proofs.Try.f260.body.getD .skip
abbrev n_impl_inDueOrder : FuncId := 260
theorem g_impl_inDueOrder : G 260 = ⟨[], [], []⟩ := rfl
attribute [simp] c_impl_inDueOrder g_impl_inDueOrder Go.Proofs.Try.f260
theorem e_impl_inDueOrder : enterG P (G 260) 260 = some (c_impl_inDueOrder, 9, #[.tmp 4]) := by kernel_rfl
noncomputable def c_impl_TimelyOrder : Code := Go.Proofs.Try.f106.body.getD .skip
abbrev n_impl_TimelyOrder : FuncId := 106
theorem g_impl_TimelyOrder : G 106 = ⟨[], [], []⟩ := rfl
attribute [simp] c_impl_TimelyOrder g_impl_TimelyOrder Go.Proofs.Try.f106
theorem e_impl_TimelyOrder : enterG P (G 106) 106 = some (c_impl_TimelyOrder, 30, #[.tmp 4, .tmp 5]) := by kernel_rfl
noncomputable def c_spec_TimelyOrder : Code := Go.Proofs.Try.f107.body.getD .skip
abbrev n_spec_TimelyOrder : FuncId := 107
theorem g_spec_TimelyOrder : G 107 = ⟨[], [], []⟩ := rfl
attribute [simp] c_spec_TimelyOrder g_spec_TimelyOrder Go.Proofs.Try.f107
theorem e_spec_TimelyOrder : enterG P (G 107) 107 = some (c_spec_TimelyOrder, 30, #[.tmp 4, .tmp 5]) := by kernel_rfl
noncomputable def c_impl_orderedSets : Code := Go.Proofs.Try.f263.body.getD .skip
abbrev n_impl_orderedSets : FuncId := 263
theorem g_impl_orderedSets : G 263 = ⟨[(3, [3, 7, 8, 9]), (6, [3, 5, 6, 7, 8, 9])], [(9, 7)], []⟩ := rfl
attribute [simp] c_impl_orderedSets g_impl_orderedSets Go.Proofs.Try.f263
theorem e_impl_orderedSets : enterG P (G 263) 263 = some (c_impl_orderedSets, 68, #[.tmp 2]) := by kernel_rfl
noncomputable def c_impl_TimelySets : Code := Go.Proofs.Try.f108.body.getD .skip
abbrev n_impl_TimelySets : FuncId := 108
theorem g_impl_TimelySets : G 108 = ⟨[(5, [0, 4, 5])], [], []⟩ := rfl
attribute [simp] c_impl_TimelySets g_impl_TimelySets Go.Proofs.Try.f108
theorem e_impl_TimelySets : enterG P (G 108) 108 = some (c_impl_TimelySets, 28, #[.tmp 2, .tmp 3]) := by kernel_rfl
noncomputable def c_spec_l4Less : Code := Go.Proofs.Try.f265.body.getD .skip
abbrev n_spec_l4Less : FuncId := 265
theorem g_spec_l4Less : G 265 = ⟨[(4, [0, 1, 5])], [(6, 8), (7, 8)], []⟩ := rfl
attribute [simp] c_spec_l4Less g_spec_l4Less Go.Proofs.Try.f265
theorem e_spec_l4Less : enterG P (G 265) 265 = some (c_spec_l4Less, 40, #[.tmp 4]) := by kernel_rfl
noncomputable def c_spec_TimelySets : Code := Go.Proofs.Try.f109.body.getD .skip
abbrev n_spec_TimelySets : FuncId := 109
theorem g_spec_TimelySets : G 109 = ⟨[(5, [0, 4, 5]), (9, [0, 4, 5, 6, 7])], [], [(11, 11, [(7, 4)])]⟩ := rfl
attribute [simp] c_spec_TimelySets g_spec_TimelySets Go.Proofs.Try.f109
theorem e_spec_TimelySets : enterG P (G 109) 109 = some (c_spec_TimelySets, 55, #[.tmp 2, .tmp 3]) := by kernel_rfl
noncomputable def c_laws_rTable : Code := Go.Proofs.Try.f110.body.getD .skip
abbrev n_laws_rTable : FuncId := 110
theorem g_laws_rTable : G 110 = ⟨[(4, [0, 1, 5])], [(6, 8)], []⟩ := rfl
attribute [simp] c_laws_rTable g_laws_rTable Go.Proofs.Try.f110
theorem e_laws_rTable : enterG P (G 110) 110 = some (c_laws_rTable, 27, #[.tmp 4]) := by kernel_rfl
noncomputable def c_impl_ratioOf : Code := Go.Proofs.Try.f268.body.getD .skip
abbrev n_impl_ratioOf : FuncId := 268
theorem g_impl_ratioOf : G 268 = ⟨[(3, [0, 4, 5, 8, 9, 10])], [(5, 7), (6, 7)], []⟩ := rfl
attribute [simp] c_impl_ratioOf g_impl_ratioOf Go.Proofs.Try.f268
theorem e_impl_ratioOf : enterG P (G 268) 268 = some (c_impl_ratioOf, 34, #[.cell 4 58]) := by kernel_rfl
noncomputable def c_impl_weightTable : Code := Go.Proofs.Try.f266.body.getD .skip
abbrev n_impl_weightTable : FuncId := 266
theorem g_impl_weightTable : G 266 = ⟨[(3, [0, 3, 9, 10]), (7, [0, 3, 4])], [(12, 11)], []⟩ := rfl
attribute [simp] c_impl_weightTable g_impl_weightTable Go.Proofs.Try.f266
theorem e_impl_weightTable : enterG P (G 266) 266 = some (c_impl_weightTable, 44, #[.tmp 2]) := by kernel_rfl
noncomputable def c_impl_WeightTable : Code := Go.Proofs.Try.f111.body.getD .skip
abbrev n_impl_WeightTable : FuncId := 111
theorem g_impl_WeightTable : G 111 = ⟨[], [], []⟩ := rfl
attribute [simp] c_impl_WeightTable g_impl_WeightTable Go.Proofs.Try.f111
theorem e_impl_WeightTable : enterG P (G 111) 111 = some (c_impl_WeightTable, 9, #[.tmp 2, .tmp 3]) := by kernel_rfl
noncomputable def c_spec_l2Times : Code := Go.Proofs.Try.f332.body.getD .skip
abbrev n_spec_l2Times : FuncId := 332
theorem g_spec_l2Times : G 332 = ⟨[(3, [0, 3, 4])], [], []⟩ := rfl
attribute [simp] c_spec_l2Times g_spec_l2Times Go.Proofs.Try.f332
theorem e_spec_l2Times : enterG P (G 332) 332 = some (c_spec_l2Times, 19, #[.tmp 2]) := by kernel_rfl
noncomputable def c_spec_l6Table : Code := Go.Proofs.Try.f267.body.getD .skip
abbrev n_spec_l6Table : FuncId := 267
theorem g_spec_l6Table : G 267 = ⟨[(3, [0, 3, 4, 5]), (7, [0, 3, 4, 6]), (11, [0, 3, 4, 6, 7, 8])], [(14, 17)], []⟩ := rfl
attribute [simp] c_spec_l6Table g_spec_l6Table Go.Proofs.Try.f267
theorem e_spec_l6Table : enterG P (G 267) 267 = some (c_spec_l6Table, 75, #[.tmp 2]) := by kernel_rfl
noncomputable def c_spec_WeightTable : Code := Go.Proofs.Try.f112.body.getD .skip
abbrev n_spec_WeightTable : FuncId := 112
theorem g_spec_WeightTable : G 112 = ⟨[], [], []⟩ := rfl
attribute [simp] c_spec_WeightTable g_spec_WeightTable Go.Proofs.Try.f112
theorem e_spec_WeightTable : enterG P (G 112) 112 = some (c_spec_WeightTable, 10, #[.tmp 2, .tmp 3]) := by kernel_rfl
noncomputable def c_impl_LeastLateWeight : Code := Go.Proofs.Try.f113.body.getD .skip
abbrev n_impl_LeastLateWeight : FuncId := 113
theorem g_impl_LeastLateWeight : G 113 = ⟨[(5, [0, 4, 11, 12, 13])], [], []⟩ := rfl
attribute [simp] c_impl_LeastLateWeight g_impl_LeastLateWeight Go.Proofs.Try.f113
theorem e_impl_LeastLateWeight : enterG P (G 113) 113 = some (c_impl_LeastLateWeight, 29, #[.tmp 2, .tmp 3]) := by kernel_rfl
noncomputable def c_spec_l2Last : Code := Go.Proofs.Try.f269.body.getD .skip
abbrev n_spec_l2Last : FuncId := 269
theorem g_spec_l2Last : G 269 = ⟨[(3, [0, 3, 4])], [], []⟩ := rfl
attribute [simp] c_spec_l2Last g_spec_l2Last Go.Proofs.Try.f269
theorem e_spec_l2Last : enterG P (G 269) 269 = some (c_spec_l2Last, 18, #[.tmp 2]) := by kernel_rfl
noncomputable def c_spec_LeastLateWeight : Code := Go.Proofs.Try.f114.body.getD .skip
abbrev n_spec_LeastLateWeight : FuncId := 114
theorem g_spec_LeastLateWeight : G 114 = ⟨[(5, [0, 4, 5])], [], []⟩ := rfl
attribute [simp] c_spec_LeastLateWeight g_spec_LeastLateWeight Go.Proofs.Try.f114
theorem e_spec_LeastLateWeight : enterG P (G 114) 114 = some (c_spec_LeastLateWeight, 27, #[.tmp 2, .tmp 3]) := by kernel_rfl
noncomputable def c_laws_rHas : Code := Go.Proofs.Try.f115.body.getD .skip
abbrev n_laws_rHas : FuncId := 115
theorem g_laws_rHas : G 115 = ⟨[(2, [0, 1, 5])], [], []⟩ := rfl
attribute [simp] c_laws_rHas g_laws_rHas Go.Proofs.Try.f115
theorem e_laws_rHas : enterG P (G 115) 115 = some (c_laws_rHas, 18, #[.tmp 4]) := by kernel_rfl
noncomputable def c_laws_FnTimely : Code := Go.Proofs.Try.f11.body.getD .skip
abbrev n_laws_FnTimely : FuncId := 11
theorem g_laws_FnTimely : G 11 = ⟨[(29, [3, 4, 5, 6, 9, 13, 14, 17, 21, 25, 27]), (40, [3, 4, 5, 6, 13, 17, 21, 30, 31, 32]), (45, [3, 4, 5, 6, 13, 17, 21, 30, 31, 33, 34]), (49, [3, 4, 5, 6, 13, 17, 21, 30, 31, 33, 34, 35, 36, 37])], [], []⟩ := rfl
attribute [simp] c_laws_FnTimely g_laws_FnTimely Go.Proofs.Try.f11
theorem e_laws_FnTimely : enterG P (G 11) 11 = some (c_laws_FnTimely, 286, #[.tmp 2]) := by kernel_rfl
noncomputable def c_spec_l1Cur_units : Code := Go.Proofs.Try.f270.body.getD .skip
abbrev n_spec_l1Cur_units : FuncId := 270
theorem g_spec_l1Cur_units : G 270 = ⟨[(3, [0, 3, 4])], [], []⟩ := rfl
attribute [simp] c_spec_l1Cur_units g_spec_l1Cur_units Go.Proofs.Try.f270
theorem e_spec_l1Cur_units : enterG P (G 270) 270 = some (c_spec_l1Cur_units, 43, #[.tmp 2]) := by kernel_rfl
noncomputable def c_spec_DrawUnitGreedy : Code := Go.Proofs.Try.f116.body.getD .skip
abbrev n_spec_DrawUnitGreedy : FuncId := 116
theorem g_spec_DrawUnitGreedy : G 116 = ⟨[], [], []⟩ := rfl
attribute [simp] c_spec_DrawUnitGreedy g_spec_DrawUnitGreedy Go.Proofs.Try.f116
theorem e_spec_DrawUnitGreedy : enterG P (G 116) 116 = some (c_spec_DrawUnitGreedy, 9, #[.tmp 2]) := by kernel_rfl
noncomputable def c_impl_areUnit : Code := Go.Proofs.Try.f271.body.getD .skip
abbrev n_impl_areUnit : FuncId := 271
theorem g_impl_areUnit : G 271 = ⟨[(4, [8, 9, 10])], [], []⟩ := rfl
attribute [simp] c_impl_areUnit g_impl_areUnit Go.Proofs.Try.f271
theorem e_impl_areUnit : enterG P (G 271) 271 = some (c_impl_areUnit, 18, #[.tmp 2]) := by kernel_rfl
noncomputable def c_impl_UnitGreedy_1 : Code := Go.Proofs.Try.f273.body.getD .skip
abbrev n_impl_UnitGreedy_1 : FuncId := 273
theorem g_impl_UnitGreedy_1 : G 273 = ⟨[], [(1, 10)], []⟩ := rfl
attribute [simp] c_impl_UnitGreedy_1 g_impl_UnitGreedy_1 Go.Proofs.Try.f273
theorem e_impl_UnitGreedy_1 : enterG P (G 273) 273 = some (c_impl_UnitGreedy_1, 17, #[.tmp 5]) := by kernel_rfl
noncomputable def c_impl_putInt : Code := Go.Proofs.Try.f274.body.getD .skip
abbrev n_impl_putInt : FuncId := 274
theorem g_impl_putInt : G 274 = ⟨[(2, [0, 1, 5])], [(7, 7)], []⟩ := rfl
attribute [simp] c_impl_putInt g_impl_putInt Go.Proofs.Try.f274
theorem e_impl_putInt : enterG P (G 274) 274 = some (c_impl_putInt, 49, #[.tmp 4]) := by kernel_rfl
noncomputable def c_impl_UnitGreedy : Code := Go.Proofs.Try.f117.body.getD .skip
abbrev n_impl_UnitGreedy : FuncId := 117
theorem g_impl_UnitGreedy : G 117 = ⟨[(5, [1, 4, 15, 16, 17])], [], []⟩ := rfl
attribute [simp] c_impl_UnitGreedy g_impl_UnitGreedy Go.Proofs.Try.f117
theorem e_impl_UnitGreedy : enterG P (G 117) 117 = some (c_impl_UnitGreedy, 31, #[.tmp 2, .tmp 3]) := by kernel_rfl
noncomputable def c_spec_l10Unit : Code := Go.Proofs.Try.f275.body.getD .skip
abbrev n_spec_l10Unit : FuncId := 275
theorem g_spec_l10Unit : G 275 = ⟨[(2, [0, 3])], [], []⟩ := rfl
attribute [simp] c_spec_l10Unit g_spec_l10Unit Go.Proofs.Try.f275
theorem e_spec_l10Unit : enterG P (G 275) 275 = some (c_spec_l10Unit, 18, #[.tmp 2]) := by kernel_rfl
noncomputable def c_spec_UnitGreedy : Code := Go.Proofs.Try.f118.body.getD .skip
abbrev n_spec_UnitGreedy : FuncId := 118
theorem g_spec_UnitGreedy : G 118 = ⟨[(5, [0, 4, 5]), (8, [0, 4, 5, 6])], [], []⟩ := rfl
attribute [simp] c_spec_UnitGreedy g_spec_UnitGreedy Go.Proofs.Try.f118
theorem e_spec_UnitGreedy : enterG P (G 118) 118 = some (c_spec_UnitGreedy, 38, #[.tmp 2, .tmp 3]) := by kernel_rfl
noncomputable def c_impl_setOf : Code := Go.Proofs.Try.f276.body.getD .skip
abbrev n_impl_setOf : FuncId := 276
theorem g_impl_setOf : G 276 = ⟨[(3, [3, 6, 7, 8])], [], []⟩ := rfl
attribute [simp] c_impl_setOf g_impl_setOf Go.Proofs.Try.f276
theorem e_impl_setOf : enterG P (G 276) 276 = some (c_impl_setOf, 18, #[.tmp 2]) := by kernel_rfl
noncomputable def c_impl_UnitRank : Code := Go.Proofs.Try.f119.body.getD .skip
abbrev n_impl_UnitRank : FuncId := 119
theorem g_impl_UnitRank : G 119 = ⟨[(5, [0, 6, 7, 8])], [], []⟩ := rfl
attribute [simp] c_impl_UnitRank g_impl_UnitRank Go.Proofs.Try.f119
theorem e_impl_UnitRank : enterG P (G 119) 119 = some (c_impl_UnitRank, 47, #[.tmp 4, .tmp 5]) := by kernel_rfl
noncomputable def c_spec_l1Cur_subset : Code := Go.Proofs.Try.f277.body.getD .skip
abbrev n_spec_l1Cur_subset : FuncId := 277
theorem g_spec_l1Cur_subset : G 277 = ⟨[], [], []⟩ := rfl
attribute [simp] c_spec_l1Cur_subset g_spec_l1Cur_subset Go.Proofs.Try.f277
theorem e_spec_l1Cur_subset : enterG P (G 277) 277 = some (c_spec_l1Cur_subset, 23, #[.tmp 4]) := by kernel_rfl
noncomputable def c_spec_DrawUnitRank : Code := Go.Proofs.Try.f120.body.getD .skip
abbrev n_spec_DrawUnitRank : FuncId := 120
theorem g_spec_DrawUnitRank : G 120 = ⟨[], [], []⟩ := rfl
attribute [simp] c_spec_DrawUnitRank g_spec_DrawUnitRank Go.Proofs.Try.f120
theorem e_spec_DrawUnitRank : enterG P (G 120) 120 = some (c_spec_DrawUnitRank, 15, #[.tmp 2, .tmp 3]) := by kernel_rfl
noncomputable def c_spec_l10Rank : Code := Go.Proofs.Try.f278.body.getD .skip
abbrev n_spec_l10Rank : FuncId := 278
theorem g_spec_l10Rank : G 278 = ⟨[(3, [0, 1, 5, 6])], [], []⟩ := rfl
attribute [simp] c_spec_l10Rank g_spec_l10Rank Go.Proofs.Try.f278
theorem e_spec_l10Rank : enterG P (G 278) 278 = some (c_spec_l10Rank, 27, #[.tmp 4]) := by kernel_rfl
noncomputable def c_spec_UnitRank : Code := Go.Proofs.Try.f121.body.getD .skip
abbrev n_spec_UnitRank : FuncId := 121
theorem g_spec_UnitRank : G 121 = ⟨[], [], []⟩ := rfl
attribute [simp] c_spec_UnitRank g_spec_UnitRank Go.Proofs.Try.f121
theorem e_spec_UnitRank : enterG P (G 121) 121 = some (c_spec_UnitRank, 18, #[.tmp 4, .tmp 5]) := by kernel_rfl
noncomputable def c_spec_l1Cur_free : Code := Go.Proofs.Try.f279.body.getD .skip
abbrev n_spec_l1Cur_free : FuncId := 279
theorem g_spec_l1Cur_free : G 279 = ⟨[(6, [1, 5, 6, 7])], [], []⟩ := rfl
attribute [simp] c_spec_l1Cur_free g_spec_l1Cur_free Go.Proofs.Try.f279
theorem e_spec_l1Cur_free : enterG P (G 279) 279 = some (c_spec_l1Cur_free, 44, #[.tmp 4]) := by kernel_rfl
noncomputable def c_spec_l10Free : Code := Go.Proofs.Try.f280.body.getD .skip
abbrev n_spec_l10Free : FuncId := 280
theorem g_spec_l10Free : G 280 = ⟨[], [], []⟩ := rfl
attribute [simp] c_spec_l10Free g_spec_l10Free Go.Proofs.Try.f280
theorem e_spec_l10Free : enterG P (G 280) 280 = some (c_spec_l10Free, 17, #[.tmp 4]) := by kernel_rfl
noncomputable def c_spec_DrawUnitCircuit : Code := Go.Proofs.Try.f122.body.getD .skip
abbrev n_spec_DrawUnitCircuit : FuncId := 122
theorem g_spec_DrawUnitCircuit : G 122 = ⟨[(5, [5, 6, 7, 8])], [], []⟩ := rfl
attribute [simp] c_spec_DrawUnitCircuit g_spec_DrawUnitCircuit Go.Proofs.Try.f122
theorem e_spec_DrawUnitCircuit : enterG P (G 122) 122 = some (c_spec_DrawUnitCircuit, 56, #[.tmp 2, .tmp 3, .tmp 4]) := by kernel_rfl
noncomputable def c_impl_without : Code := Go.Proofs.Try.f282.body.getD .skip
abbrev n_impl_without : FuncId := 282
theorem g_impl_without : G 282 = ⟨[(3, [1, 5, 8, 9, 10])], [], []⟩ := rfl
attribute [simp] c_impl_without g_impl_without Go.Proofs.Try.f282
theorem e_impl_without : enterG P (G 282) 282 = some (c_impl_without, 23, #[.tmp 4]) := by kernel_rfl
noncomputable def c_impl_UnitCircuit : Code := Go.Proofs.Try.f123.body.getD .skip
abbrev n_impl_UnitCircuit : FuncId := 123
theorem g_impl_UnitCircuit : G 123 = ⟨[(8, [0, 2, 8, 9, 47, 48, 49])], [], []⟩ := rfl
attribute [simp] c_impl_UnitCircuit g_impl_UnitCircuit Go.Proofs.Try.f123
theorem e_impl_UnitCircuit : enterG P (G 123) 123 = some (c_impl_UnitCircuit, 69, #[.tmp 6, .tmp 7]) := by kernel_rfl
noncomputable def c_spec_UnitCircuit : Code := Go.Proofs.Try.f124.body.getD .skip
abbrev n_spec_UnitCircuit : FuncId := 124
theorem g_spec_UnitCircuit : G 124 = ⟨[(5, [0, 1, 2, 8, 9])], [], []⟩ := rfl
attribute [simp] c_spec_UnitCircuit g_spec_UnitCircuit Go.Proofs.Try.f124
theorem e_spec_UnitCircuit : enterG P (G 124) 124 = some (c_spec_UnitCircuit, 61, #[.tmp 6, .tmp 7]) := by kernel_rfl
noncomputable def c_spec_DrawUnitSlots : Code := Go.Proofs.Try.f125.body.getD .skip
abbrev n_spec_DrawUnitSlots : FuncId := 125
theorem g_spec_DrawUnitSlots : G 125 = ⟨[], [], []⟩ := rfl
attribute [simp] c_spec_DrawUnitSlots g_spec_DrawUnitSlots Go.Proofs.Try.f125
theorem e_spec_DrawUnitSlots : enterG P (G 125) 125 = some (c_spec_DrawUnitSlots, 15, #[.tmp 2, .tmp 3]) := by kernel_rfl
noncomputable def c_impl_UnitSlots_1 : Code := Go.Proofs.Try.f283.body.getD .skip
abbrev n_impl_UnitSlots_1 : FuncId := 283
theorem g_impl_UnitSlots_1 : G 283 = ⟨[], [(1, 10)], []⟩ := rfl
attribute [simp] c_impl_UnitSlots_1 g_impl_UnitSlots_1 Go.Proofs.Try.f283
theorem e_impl_UnitSlots_1 : enterG P (G 283) 283 = some (c_impl_UnitSlots_1, 17, #[.tmp 5]) := by kernel_rfl
noncomputable def c_impl_UnitSlots : Code := Go.Proofs.Try.f126.body.getD .skip
abbrev n_impl_UnitSlots : FuncId := 126
theorem g_impl_UnitSlots : G 126 = ⟨[(7, [1, 2, 6, 7, 8, 9]), (10, [1, 2, 6, 7, 8, 9, 10]), (16, [6, 11, 67, 68, 69])], [(9, 5)], []⟩ := rfl
attribute [simp] c_impl_UnitSlots g_impl_UnitSlots Go.Proofs.Try.f126
theorem e_impl_UnitSlots : enterG P (G 126) 126 = some (c_impl_UnitSlots, 82, #[.tmp 4, .tmp 5]) := by kernel_rfl
noncomputable def c_spec_UnitSlots : Code := Go.Proofs.Try.f127.body.getD .skip
abbrev n_spec_UnitSlots : FuncId := 127
theorem g_spec_UnitSlots : G 127 = ⟨[(5, [0, 1, 6, 7, 8, 9]), (8, [0, 1, 6, 7, 8, 9, 10]), (12, [0, 1, 6, 7, 8, 11]), (18, [1, 8, 12, 13])], [(3, 6), (8, 21)], [(10, 14, [(10, 4)])]⟩ := rfl
attribute [simp] c_spec_UnitSlots g_spec_UnitSlots Go.Proofs.Try.f127
theorem e_spec_UnitSlots : enterG P (G 127) 127 = some (c_spec_UnitSlots, 112, #[.tmp 4, .tmp 5]) := by kernel_rfl
noncomputable def c_laws_FnUnitJobs : Code := Go.Proofs.Try.f12.body.getD .skip
abbrev n_laws_FnUnitJobs : FuncId := 12
theorem g_laws_FnUnitJobs : G 12 = ⟨[(11, [0, 3, 4, 8, 9]), (19, [0, 3, 8, 10, 14]), (23, [0, 3, 8, 10, 14, 15, 16]), (35, [0, 19, 20, 21, 22, 25]), (51, [0, 29, 32, 38]), (63, [42, 43, 44, 45, 48]), (69, [42, 43, 44, 45, 49, 50, 51]), (73, [42, 43, 44, 45, 49, 50, 51, 52, 53]), (78, [42, 43, 44, 45, 49, 50, 51, 52, 54])], [(37, 9), (53, 9), (65, 28), (67, 5), (75, 25)], []⟩ := rfl
attribute [simp] c_laws_FnUnitJobs g_laws_FnUnitJobs Go.Proofs.Try.f12
theorem e_laws_FnUnitJobs : enterG P (G 12) 12 = some (c_laws_FnUnitJobs, 441, #[.tmp 2]) := by kernel_rfl
noncomputable def c_spec_DrawSplitPlaces : Code := Go.Proofs.Try.f128.body.getD .skip
abbrev n_spec_DrawSplitPlaces : FuncId := 128
theorem g_spec_DrawSplitPlaces : G 128 = ⟨[], [], []⟩ := rfl
attribute [simp] c_spec_DrawSplitPlaces g_spec_DrawSplitPlaces Go.Proofs.Try.f128
theorem e_spec_DrawSplitPlaces : enterG P (G 128) 128 = some (c_spec_DrawSplitPlaces, 9, #[.tmp 2]) := by kernel_rfl
noncomputable def c_impl_setValues : Code := Go.Proofs.Try.f285.body.getD .skip
abbrev n_impl_setValues : FuncId := 285
theorem g_impl_setValues : G 285 = ⟨[(3, [0, 1, 2, 7, 8]), (8, [0, 1, 2, 7, 8, 9, 32, 33, 34])], [(10, 13)], []⟩ := rfl
attribute [simp] c_impl_setValues g_impl_setValues Go.Proofs.Try.f285
theorem e_impl_setValues : enterG P (G 285) 285 = some (c_impl_setValues, 71, #[.tmp 6]) := by kernel_rfl
noncomputable def c_impl_SplitPlaces : Code := Go.Proofs.Try.f129.body.getD .skip
abbrev n_impl_SplitPlaces : FuncId := 129
theorem g_impl_SplitPlaces : G 129 = ⟨[(6, [0, 5, 6, 35, 36, 37]), (15, [0, 6, 9, 10, 11, 60, 61, 62]), (22, [0, 6, 9, 10, 11, 14, 15])], [(8, 10), (25, 8), (26, 9), (27, 10)], []⟩ := rfl
attribute [simp] c_impl_SplitPlaces g_impl_SplitPlaces Go.Proofs.Try.f129
theorem e_impl_SplitPlaces : enterG P (G 129) 129 = some (c_impl_SplitPlaces, 126, #[.tmp 2, .tmp 3, .tmp 4]) := by kernel_rfl
noncomputable def c_spec_l6Longest : Code := Go.Proofs.Try.f287.body.getD .skip
abbrev n_spec_l6Longest : FuncId := 287
theorem g_spec_l6Longest : G 287 = ⟨[(3, [0, 1, 5, 6])], [(5, 13)], []⟩ := rfl
attribute [simp] c_spec_l6Longest g_spec_l6Longest Go.Proofs.Try.f287
theorem e_spec_l6Longest : enterG P (G 287) 287 = some (c_spec_l6Longest, 35, #[.tmp 4]) := by kernel_rfl
noncomputable def c_spec_l6Times : Code := Go.Proofs.Try.f344.body.getD .skip
abbrev n_spec_l6Times : FuncId := 344
theorem g_spec_l6Times : G 344 = ⟨[(3, [0, 1, 5, 6])], [], []⟩ := rfl
attribute [simp] c_spec_l6Times g_spec_l6Times Go.Proofs.Try.f344
theorem e_spec_l6Times : enterG P (G 344) 344 = some (c_spec_l6Times, 26, #[.tmp 4]) := by kernel_rfl
noncomputable def c_spec_l6Last : Code := Go.Proofs.Try.f341.body.getD .skip
abbrev n_spec_l6Last : FuncId := 341
theorem g_spec_l6Last : G 341 = ⟨[], [(1, 16)], []⟩ := rfl
attribute [simp] c_spec_l6Last g_spec_l6Last Go.Proofs.Try.f341
theorem e_spec_l6Last : enterG P (G 341) 341 = some (c_spec_l6Last, 28, #[.tmp 10]) := by kernel_rfl
noncomputable def c_spec_l6Values : Code := Go.Proofs.Try.f333.body.getD .skip
abbrev n_spec_l6Values : FuncId := 333
theorem g_spec_l6Values : G 333 = ⟨[(3, [0, 1, 5, 6]), (7, [0, 1, 5, 6, 7, 8])], [], []⟩ := rfl
attribute [simp] c_spec_l6Values g_spec_l6Values Go.Proofs.Try.f333
theorem e_spec_l6Values : enterG P (G 333) 333 = some (c_spec_l6Values, 48, #[.tmp 4]) := by kernel_rfl
noncomputable def c_spec_l6Tardiness : Code := Go.Proofs.Try.f288.body.getD .skip
abbrev n_spec_l6Tardiness : FuncId := 288
theorem g_spec_l6Tardiness : G 288 = ⟨[], [], []⟩ := rfl
attribute [simp] c_spec_l6Tardiness g_spec_l6Tardiness Go.Proofs.Try.f288
theorem e_spec_l6Tardiness : enterG P (G 288) 288 = some (c_spec_l6Tardiness, 12, #[.tmp 2]) := by kernel_rfl
noncomputable def c_spec_l6Least : Code := Go.Proofs.Try.f334.body.getD .skip
abbrev n_spec_l6Least : FuncId := 334
theorem g_spec_l6Least : G 334 = ⟨[(5, [0, 1, 2, 7, 8])], [(8, 20)], []⟩ := rfl
attribute [simp] c_spec_l6Least g_spec_l6Least Go.Proofs.Try.f334
theorem e_spec_l6Least : enterG P (G 334) 334 = some (c_spec_l6Least, 58, #[.tmp 6]) := by kernel_rfl
noncomputable def c_spec_l6Split : Code := Go.Proofs.Try.f289.body.getD .skip
abbrev n_spec_l6Split : FuncId := 289
theorem g_spec_l6Split : G 289 = ⟨[(3, [0, 1, 2, 3, 9, 10])], [(7, 22)], []⟩ := rfl
attribute [simp] c_spec_l6Split g_spec_l6Split Go.Proofs.Try.f289
theorem e_spec_l6Split : enterG P (G 289) 289 = some (c_spec_l6Split, 57, #[.tmp 8]) := by kernel_rfl
noncomputable def c_spec_SplitPlaces : Code := Go.Proofs.Try.f130.body.getD .skip
abbrev n_spec_SplitPlaces : FuncId := 130
theorem g_spec_SplitPlaces : G 130 = ⟨[(8, [0, 5, 7, 8, 9, 10])], [], []⟩ := rfl
attribute [simp] c_spec_SplitPlaces g_spec_SplitPlaces Go.Proofs.Try.f130
theorem e_spec_SplitPlaces : enterG P (G 130) 130 = some (c_spec_SplitPlaces, 53, #[.tmp 2, .tmp 3, .tmp 4]) := by kernel_rfl
noncomputable def c_impl_LeastTardiness : Code := Go.Proofs.Try.f131.body.getD .skip
abbrev n_impl_LeastTardiness : FuncId := 131
theorem g_impl_LeastTardiness : G 131 = ⟨[], [(3, 6)], []⟩ := rfl
attribute [simp] c_impl_LeastTardiness g_impl_LeastTardiness Go.Proofs.Try.f131
theorem e_impl_LeastTardiness : enterG P (G 131) 131 = some (c_impl_LeastTardiness, 15, #[.tmp 2, .tmp 3]) := by kernel_rfl
noncomputable def c_spec_LeastTardiness : Code := Go.Proofs.Try.f132.body.getD .skip
abbrev n_spec_LeastTardiness : FuncId := 132
theorem g_spec_LeastTardiness : G 132 = ⟨[], [], []⟩ := rfl
attribute [simp] c_spec_LeastTardiness g_spec_LeastTardiness Go.Proofs.Try.f132
theorem e_spec_LeastTardiness : enterG P (G 132) 132 = some (c_spec_LeastTardiness, 9, #[.tmp 2, .tmp 3]) := by kernel_rfl
noncomputable def c_impl_TardinessBound : Code := Go.Proofs.Try.f133.body.getD .skip
abbrev n_impl_TardinessBound : FuncId := 133
theorem g_impl_TardinessBound : G 133 = ⟨[(5, [0, 4, 5, 14, 15, 16]), (12, [4, 5, 8, 9, 36, 37])], [(7, 9)], []⟩ := rfl
attribute [simp] c_impl_TardinessBound g_impl_TardinessBound Go.Proofs.Try.f133
theorem e_impl_TardinessBound : enterG P (G 133) 133 = some (c_impl_TardinessBound, 57, #[.tmp 2, .tmp 3]) := by kernel_rfl
noncomputable def c_spec_l6Sorted : Code := Go.Proofs.Try.f290.body.getD .skip
abbrev n_spec_l6Sorted : FuncId := 290
theorem g_spec_l6Sorted : G 290 = ⟨[(3, [0, 3, 4]), (6, [0, 3, 4, 5])], [(6, 13)], [(8, 14, [(10, 4)])]⟩ := rfl
attribute [simp] c_spec_l6Sorted g_spec_l6Sorted Go.Proofs.Try.f290
theorem e_spec_l6Sorted : enterG P (G 290) 290 = some (c_spec_l6Sorted, 46, #[.tmp 2]) := by kernel_rfl
noncomputable def c_spec_TardinessBound : Code := Go.Proofs.Try.f134.body.getD .skip
abbrev n_spec_TardinessBound : FuncId := 134
theorem g_spec_TardinessBound : G 134 = ⟨[(5, [0, 4, 5, 6, 7, 8]), (12, [0, 4, 5, 6, 7, 9])], [], []⟩ := rfl
attribute [simp] c_spec_TardinessBound g_spec_TardinessBound Go.Proofs.Try.f134
theorem e_spec_TardinessBound : enterG P (G 134) 134 = some (c_spec_TardinessBound, 63, #[.tmp 2, .tmp 3]) := by kernel_rfl
noncomputable def c_impl_DueOrder : Code := Go.Proofs.Try.f135.body.getD .skip
abbrev n_impl_DueOrder : FuncId := 135
theorem g_impl_DueOrder : G 135 = ⟨[], [], []⟩ := rfl
attribute [simp] c_impl_DueOrder g_impl_DueOrder Go.Proofs.Try.f135
theorem e_impl_DueOrder : enterG P (G 135) 135 = some (c_impl_DueOrder, 12, #[.tmp 2, .tmp 3]) := by kernel_rfl
noncomputable def c_spec_DueOrder : Code := Go.Proofs.Try.f136.body.getD .skip
abbrev n_spec_DueOrder : FuncId := 136
theorem g_spec_DueOrder : G 136 = ⟨[], [], []⟩ := rfl
attribute [simp] c_spec_DueOrder g_spec_DueOrder Go.Proofs.Try.f136
theorem e_spec_DueOrder : enterG P (G 136) 136 = some (c_spec_DueOrder, 12, #[.tmp 2, .tmp 3]) := by kernel_rfl
noncomputable def c_laws_rLeastFrom : Code := Go.Proofs.Try.f137.body.getD .skip
abbrev n_laws_rLeastFrom : FuncId := 137
theorem g_laws_rLeastFrom : G 137 = ⟨[(3, [0, 1, 2, 7, 8])], [(5, 9), (7, 15)], []⟩ := rfl
attribute [simp] c_laws_rLeastFrom g_laws_rLeastFrom Go.Proofs.Try.f137
theorem e_laws_rLeastFrom : enterG P (G 137) 137 = some (c_laws_rLeastFrom, 64, #[.tmp 6]) := by kernel_rfl
noncomputable def c_spec_l1Cur_agreeable : Code := Go.Proofs.Try.f291.body.getD .skip
abbrev n_spec_l1Cur_agreeable : FuncId := 291
theorem g_spec_l1Cur_agreeable : G 291 = ⟨[(5, [0, 3, 4])], [(7, 12)], []⟩ := rfl
attribute [simp] c_spec_l1Cur_agreeable g_spec_l1Cur_agreeable Go.Proofs.Try.f291
theorem e_spec_l1Cur_agreeable : enterG P (G 291) 291 = some (c_spec_l1Cur_agreeable, 31, #[.tmp 2]) := by kernel_rfl
noncomputable def c_spec_DrawAreAgreeable : Code := Go.Proofs.Try.f138.body.getD .skip
abbrev n_spec_DrawAreAgreeable : FuncId := 138
theorem g_spec_DrawAreAgreeable : G 138 = ⟨[], [], []⟩ := rfl
attribute [simp] c_spec_DrawAreAgreeable g_spec_DrawAreAgreeable Go.Proofs.Try.f138
theorem e_spec_DrawAreAgreeable : enterG P (G 138) 138 = some (c_spec_DrawAreAgreeable, 9, #[.tmp 2]) := by kernel_rfl
noncomputable def c_impl_AreAgreeable : Code := Go.Proofs.Try.f139.body.getD .skip
abbrev n_impl_AreAgreeable : FuncId := 139
theorem g_impl_AreAgreeable : G 139 = ⟨[(4, [0, 11, 12, 13]), (7, [0, 5, 11, 12, 13, 17, 18, 19])], [], []⟩ := rfl
attribute [simp] c_impl_AreAgreeable g_impl_AreAgreeable Go.Proofs.Try.f139
theorem e_impl_AreAgreeable : enterG P (G 139) 139 = some (c_impl_AreAgreeable, 37, #[.tmp 2, .tmp 3]) := by kernel_rfl
noncomputable def c_spec_AreAgreeable : Code := Go.Proofs.Try.f140.body.getD .skip
abbrev n_spec_AreAgreeable : FuncId := 140
theorem g_spec_AreAgreeable : G 140 = ⟨[(4, [0, 4]), (7, [0, 4, 5])], [(9, 22)], []⟩ := rfl
attribute [simp] c_spec_AreAgreeable g_spec_AreAgreeable Go.Proofs.Try.f140
theorem e_spec_AreAgreeable : enterG P (G 140) 140 = some (c_spec_AreAgreeable, 45, #[.tmp 2, .tmp 3]) := by kernel_rfl
noncomputable def c_laws_FnTardiness : Code := Go.Proofs.Try.f13.body.getD .skip
abbrev n_laws_FnTardiness : FuncId := 13
theorem g_laws_FnTardiness : G 13 = ⟨[(27, [0, 3, 4, 5, 6, 10, 18, 24]), (34, [0, 3, 4, 5, 10, 18, 25, 26, 27]), (40, [0, 3, 4, 5, 10, 25, 26, 28, 29])], [(29, 10), (43, 22)], []⟩ := rfl
attribute [simp] c_laws_FnTardiness g_laws_FnTardiness Go.Proofs.Try.f13
theorem e_laws_FnTardiness : enterG P (G 13) 13 = some (c_laws_FnTardiness, 326, #[.tmp 2]) := by kernel_rfl
noncomputable def c_spec_DrawByLeastRest : Code := Go.Proofs.Try.f292.body.getD .skip
abbrev n_spec_DrawByLeastRest : FuncId := 292
theorem g_spec_DrawByLeastRest : G 292 = ⟨[], [], []⟩ := rfl
attribute [simp] c_spec_DrawByLeastRest g_spec_DrawByLeastRest Go.Proofs.Try.f292
theorem e_spec_DrawByLeastRest : enterG P (G 292) 292 = some (c_spec_DrawByLeastRest, 9, #[.tmp 2]) := by kernel_rfl
noncomputable def c_spec_DrawGreedyOrder : Code := Go.Proofs.Try.f141.body.getD .skip
abbrev n_spec_DrawGreedyOrder : FuncId := 141
theorem g_spec_DrawGreedyOrder : G 141 = ⟨[], [], []⟩ := rfl
attribute [simp] c_spec_DrawGreedyOrder g_spec_DrawGreedyOrder Go.Proofs.Try.f141
theorem e_spec_DrawGreedyOrder : enterG P (G 141) 141 = some (c_spec_DrawGreedyOrder, 5, #[.tmp 2]) := by kernel_rfl
noncomputable def c_impl_greedyOrder : Code := Go.Proofs.Try.f293.body.getD .skip
abbrev n_impl_greedyOrder : FuncId := 293
theorem g_impl_greedyOrder : G 293 = ⟨[(3, [0, 3, 4]), (7, [0, 3, 4, 5, 6, 21, 22, 23]), (13, [0, 3, 6, 9, 37, 38, 39])], [(15, 21)], []⟩ := rfl
attribute [simp] c_impl_greedyOrder g_impl_greedyOrder Go.Proofs.Try.f293
theorem e_impl_greedyOrder : enterG P (G 293) 293 = some (c_impl_greedyOrder, 81, #[.tmp 2]) := by kernel_rfl
noncomputable def c_impl_GreedyOrder : Code := Go.Proofs.Try.f142.body.getD .skip
abbrev n_impl_GreedyOrder : FuncId := 142
theorem g_impl_GreedyOrder : G 142 = ⟨[], [], []⟩ := rfl
attribute [simp] c_impl_GreedyOrder g_impl_GreedyOrder Go.Proofs.Try.f142
theorem e_impl_GreedyOrder : enterG P (G 142) 142 = some (c_impl_GreedyOrder, 9, #[.tmp 2, .tmp 3]) := by kernel_rfl
noncomputable def c_spec_l5Next : Code := Go.Proofs.Try.f335.body.getD .skip
abbrev n_spec_l5Next : FuncId := 335
theorem g_spec_l5Next : G 335 = ⟨[(3, [0, 1, 2, 7, 8])], [(5, 27)], []⟩ := rfl
attribute [simp] c_spec_l5Next g_spec_l5Next Go.Proofs.Try.f335
theorem e_spec_l5Next : enterG P (G 335) 335 = some (c_spec_l5Next, 47, #[.tmp 6]) := by kernel_rfl
noncomputable def c_spec_l5Greedy : Code := Go.Proofs.Try.f294.body.getD .skip
abbrev n_spec_l5Greedy : FuncId := 294
theorem g_spec_l5Greedy : G 294 = ⟨[(3, [0, 3, 4])], [], []⟩ := rfl
attribute [simp] c_spec_l5Greedy g_spec_l5Greedy Go.Proofs.Try.f294
theorem e_spec_l5Greedy : enterG P (G 294) 294 = some (c_spec_l5Greedy, 32, #[.tmp 2]) := by kernel_rfl
noncomputable def c_spec_GreedyOrder : Code := Go.Proofs.Try.f143.body.getD .skip
abbrev n_spec_GreedyOrder : FuncId := 143
theorem g_spec_GreedyOrder : G 143 = ⟨[], [], []⟩ := rfl
attribute [simp] c_spec_GreedyOrder g_spec_GreedyOrder Go.Proofs.Try.f143
theorem e_spec_GreedyOrder : enterG P (G 143) 143 = some (c_spec_GreedyOrder, 10, #[.tmp 2, .tmp 3]) := by kernel_rfl
noncomputable def c_impl_criticalPart : Code := Go.Proofs.Try.f295.body.getD .skip
abbrev n_impl_criticalPart : FuncId := 295
theorem g_impl_criticalPart : G 295 = ⟨[(5, [0, 3, 4, 5, 14, 15, 16]), (11, [0, 3, 4, 5, 8])], [(7, 26), (11, 27)], []⟩ := rfl
attribute [simp] c_impl_criticalPart g_impl_criticalPart Go.Proofs.Try.f295
theorem e_impl_criticalPart : enterG P (G 295) 295 = some (c_impl_criticalPart, 87, #[.tmp 2]) := by kernel_rfl
noncomputable def c_impl_CriticalPart : Code := Go.Proofs.Try.f144.body.getD .skip
abbrev n_impl_CriticalPart : FuncId := 144
theorem g_impl_CriticalPart : G 144 = ⟨[], [], []⟩ := rfl
attribute [simp] c_impl_CriticalPart g_impl_CriticalPart Go.Proofs.Try.f144
theorem e_impl_CriticalPart : enterG P (G 144) 144 = some (c_impl_CriticalPart, 14, #[.tmp 2, .tmp 3]) := by kernel_rfl
noncomputable def c_spec_l5Part : Code := Go.Proofs.Try.f296.body.getD .skip
abbrev n_spec_l5Part : FuncId := 296
theorem g_spec_l5Part : G 296 = ⟨[(5, [0, 3, 4, 5, 6, 7]), (10, [3, 4, 5, 6, 8])], [(7, 32), (10, 18)], []⟩ := rfl
attribute [simp] c_spec_l5Part g_spec_l5Part Go.Proofs.Try.f296
theorem e_spec_l5Part : enterG P (G 296) 296 = some (c_spec_l5Part, 86, #[.tmp 2]) := by kernel_rfl
noncomputable def c_spec_CriticalPart : Code := Go.Proofs.Try.f145.body.getD .skip
abbrev n_spec_CriticalPart : FuncId := 145
theorem g_spec_CriticalPart : G 145 = ⟨[], [], []⟩ := rfl
attribute [simp] c_spec_CriticalPart g_spec_CriticalPart Go.Proofs.Try.f145
theorem e_spec_CriticalPart : enterG P (G 145) 145 = some (c_spec_CriticalPart, 15, #[.tmp 2, .tmp 3]) := by kernel_rfl
noncomputable def c_impl_BlockingJob : Code := Go.Proofs.Try.f146.body.getD .skip
abbrev n_impl_BlockingJob : FuncId := 146
theorem g_impl_BlockingJob : G 146 = ⟨[(6, [0, 4, 5, 6])], [(8, 13)], []⟩ := rfl
attribute [simp] c_impl_BlockingJob g_impl_BlockingJob Go.Proofs.Try.f146
theorem e_impl_BlockingJob : enterG P (G 146) 146 = some (c_impl_BlockingJob, 48, #[.tmp 2, .tmp 3]) := by kernel_rfl
noncomputable def c_spec_BlockingJob : Code := Go.Proofs.Try.f147.body.getD .skip
abbrev n_spec_BlockingJob : FuncId := 147
theorem g_spec_BlockingJob : G 147 = ⟨[(6, [0, 4, 5, 6])], [(8, 13)], []⟩ := rfl
attribute [simp] c_spec_BlockingJob g_spec_BlockingJob Go.Proofs.Try.f147
theorem e_spec_BlockingJob : enterG P (G 147) 147 = some (c_spec_BlockingJob, 48, #[.tmp 2, .tmp 3]) := by kernel_rfl
noncomputable def c_laws_FnGreedyOrder : Code := Go.Proofs.Try.f14.body.getD .skip
abbrev n_laws_FnGreedyOrder : FuncId := 14
theorem g_laws_FnGreedyOrder : G 14 = ⟨[(18, [3, 4, 8, 16, 18, 19])], [], []⟩ := rfl
attribute [simp] c_laws_FnGreedyOrder g_laws_FnGreedyOrder Go.Proofs.Try.f14
theorem e_laws_FnGreedyOrder : enterG P (G 14) 14 = some (c_laws_FnGreedyOrder, 159, #[.tmp 2]) := by kernel_rfl
end Go.Pm.PP
