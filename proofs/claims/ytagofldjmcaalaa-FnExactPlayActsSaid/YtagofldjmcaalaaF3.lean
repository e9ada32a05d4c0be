/- What is told of the functions that the laws reach: printed by a program of this work. -/
import Derived.Test.YtagofldjmcaalaaProg
import Derived.KernelRfl
import Derived.Test.YtagofldjmcaalaaM2

set_option linter.unusedVariables false
set_option linter.unusedSimpArgs false
namespace Go.Pm.PP
open Go.Pm
noncomputable abbrev P : Program := Go.Proofs.Try.prog
abbrev t_int : TypeId := 3
theorem u_int : P.underlying 3 = some (.int .i64) := by kernel_rfl
theorem a_int : (P.underlying 3).map aggD = some false := by kernel_rfl
theorem i_int : (P.info? 3).map (·.size) = some 1 := by kernel_rfl
noncomputable def ti_3 : TypeInfo := (P.info? 3).getD default
@[simp] theorem ti_3_eq : P.info? 3 = some ti_3 := by kernel_rfl
@[simp] theorem ti_3_size : ti_3.size = 1 := by kernel_rfl
@[simp] theorem ti_3_bytes : ti_3.bytes = 8 := by kernel_rfl
@[simp] theorem ti_3_zero : ti_3.zero = some (.int .i64 0) := by kernel_rfl
noncomputable abbrev ti_int := ti_3
theorem e_t_int : P.info? 3 = some ti_3 := ti_3_eq
theorem z_t_int : zeroP P 3 = some (.int .i64 0) := zero_some ti_3_eq ti_3_zero rfl (by rw [ti_3_size]; rfl)
abbrev t_bool : TypeId := 4
theorem u_bool : P.underlying 4 = some .bool := by kernel_rfl
theorem a_bool : (P.underlying 4).map aggD = some false := by kernel_rfl
theorem i_bool : (P.info? 4).map (·.size) = some 1 := by kernel_rfl
noncomputable def ti_4 : TypeInfo := (P.info? 4).getD default
@[simp] theorem ti_4_eq : P.info? 4 = some ti_4 := by kernel_rfl
@[simp] theorem ti_4_size : ti_4.size = 1 := by kernel_rfl
@[simp] theorem ti_4_bytes : ti_4.bytes = 1 := by kernel_rfl
@[simp] theorem ti_4_zero : ti_4.zero = some (.bool false) := by kernel_rfl
noncomputable abbrev ti_bool := ti_4
theorem e_t_bool : P.info? 4 = some ti_4 := ti_4_eq
theorem z_t_bool : zeroP P 4 = some (.bool false) := zero_some ti_4_eq ti_4_zero rfl (by rw [ti_4_size]; rfl)
abbrev t_u8 : TypeId := 5
theorem u_u8 : P.underlying 5 = some (.int .u8) := by kernel_rfl
theorem a_u8 : (P.underlying 5).map aggD = some false := by kernel_rfl
theorem i_u8 : (P.info? 5).map (·.size) = some 1 := by kernel_rfl
noncomputable def ti_5 : TypeInfo := (P.info? 5).getD default
@[simp] theorem ti_5_eq : P.info? 5 = some ti_5 := by kernel_rfl
@[simp] theorem ti_5_size : ti_5.size = 1 := by kernel_rfl
@[simp] theorem ti_5_bytes : ti_5.bytes = 1 := by kernel_rfl
@[simp] theorem ti_5_zero : ti_5.zero = some (.int .u8 0) := by kernel_rfl
noncomputable abbrev ti_u8 := ti_5
theorem e_t_u8 : P.info? 5 = some ti_5 := ti_5_eq
theorem z_t_u8 : zeroP P 5 = some (.int .u8 0) := zero_some ti_5_eq ti_5_zero rfl (by rw [ti_5_size]; rfl)
abbrev t_S_laws_Job : TypeId := 22
theorem u_S_laws_Job : P.underlying 22 = some (.slice 89) := by kernel_rfl
theorem a_S_laws_Job : (P.underlying 22).map aggD = some false := by kernel_rfl
theorem i_S_laws_Job : (P.info? 22).map (·.size) = some 1 := by kernel_rfl
noncomputable def ti_22 : TypeInfo := (P.info? 22).getD default
@[simp] theorem ti_22_eq : P.info? 22 = some ti_22 := by kernel_rfl
@[simp] theorem ti_22_size : ti_22.size = 1 := by kernel_rfl
@[simp] theorem ti_22_bytes : ti_22.bytes = 24 := by kernel_rfl
@[simp] theorem ti_22_zero : ti_22.zero = some (.slice none 0 0) := by kernel_rfl
noncomputable abbrev ti_S_laws_Job := ti_22
theorem e_t_S_laws_Job : P.info? 22 = some ti_22 := ti_22_eq
theorem z_t_S_laws_Job : zeroP P 22 = some (.slice none 0 0) := zero_some ti_22_eq ti_22_zero rfl (by rw [ti_22_size]; rfl)
abbrev t_S_laws_SetPrice : TypeId := 23
theorem u_S_laws_SetPrice : P.underlying 23 = some (.slice 102) := by kernel_rfl
theorem a_S_laws_SetPrice : (P.underlying 23).map aggD = some false := by kernel_rfl
theorem i_S_laws_SetPrice : (P.info? 23).map (·.size) = some 1 := by kernel_rfl
noncomputable def ti_23 : TypeInfo := (P.info? 23).getD default
@[simp] theorem ti_23_eq : P.info? 23 = some ti_23 := by kernel_rfl
@[simp] theorem ti_23_size : ti_23.size = 1 := by kernel_rfl
@[simp] theorem ti_23_bytes : ti_23.bytes = 24 := by kernel_rfl
@[simp] theorem ti_23_zero : ti_23.zero = some (.slice none 0 0) := by kernel_rfl
noncomputable abbrev ti_S_laws_SetPrice := ti_23
theorem e_t_S_laws_SetPrice : P.info? 23 = some ti_23 := ti_23_eq
theorem z_t_S_laws_SetPrice : zeroP P 23 = some (.slice none 0 0) := zero_some ti_23_eq ti_23_zero rfl (by rw [ti_23_size]; rfl)
abbrev t_S_int : TypeId := 24
theorem u_S_int : P.underlying 24 = some (.slice 3) := by kernel_rfl
theorem a_S_int : (P.underlying 24).map aggD = some false := by kernel_rfl
theorem i_S_int : (P.info? 24).map (·.size) = some 1 := by kernel_rfl
noncomputable def ti_24 : TypeInfo := (P.info? 24).getD default
@[simp] theorem ti_24_eq : P.info? 24 = some ti_24 := by kernel_rfl
@[simp] theorem ti_24_size : ti_24.size = 1 := by kernel_rfl
@[simp] theorem ti_24_bytes : ti_24.bytes = 24 := by kernel_rfl
@[simp] theorem ti_24_zero : ti_24.zero = some (.slice none 0 0) := by kernel_rfl
noncomputable abbrev ti_S_int := ti_24
theorem e_t_S_int : P.info? 24 = some ti_24 := ti_24_eq
theorem z_t_S_int : zeroP P 24 = some (.slice none 0 0) := zero_some ti_24_eq ti_24_zero rfl (by rw [ti_24_size]; rfl)
abbrev t_S_impl_Job : TypeId := 29
theorem u_S_impl_Job : P.underlying 29 = some (.slice 58) := by kernel_rfl
theorem a_S_impl_Job : (P.underlying 29).map aggD = some false := by kernel_rfl
theorem i_S_impl_Job : (P.info? 29).map (·.size) = some 1 := by kernel_rfl
noncomputable def ti_29 : TypeInfo := (P.info? 29).getD default
@[simp] theorem ti_29_eq : P.info? 29 = some ti_29 := by kernel_rfl
@[simp] theorem ti_29_size : ti_29.size = 1 := by kernel_rfl
@[simp] theorem ti_29_bytes : ti_29.bytes = 24 := by kernel_rfl
@[simp] theorem ti_29_zero : ti_29.zero = some (.slice none 0 0) := by kernel_rfl
noncomputable abbrev ti_S_impl_Job := ti_29
theorem e_t_S_impl_Job : P.info? 29 = some ti_29 := ti_29_eq
theorem z_t_S_impl_Job : zeroP P 29 = some (.slice none 0 0) := zero_some ti_29_eq ti_29_zero rfl (by rw [ti_29_size]; rfl)
abbrev t_S_impl_SetPrice : TypeId := 31
theorem u_S_impl_SetPrice : P.underlying 31 = some (.slice 108) := by kernel_rfl
theorem a_S_impl_SetPrice : (P.underlying 31).map aggD = some false := by kernel_rfl
theorem i_S_impl_SetPrice : (P.info? 31).map (·.size) = some 1 := by kernel_rfl
noncomputable def ti_31 : TypeInfo := (P.info? 31).getD default
@[simp] theorem ti_31_eq : P.info? 31 = some ti_31 := by kernel_rfl
@[simp] theorem ti_31_size : ti_31.size = 1 := by kernel_rfl
@[simp] theorem ti_31_bytes : ti_31.bytes = 24 := by kernel_rfl
@[simp] theorem ti_31_zero : ti_31.zero = some (.slice none 0 0) := by kernel_rfl
noncomputable abbrev ti_S_impl_SetPrice := ti_31
theorem e_t_S_impl_SetPrice : P.info? 31 = some ti_31 := ti_31_eq
theorem z_t_S_impl_SetPrice : zeroP P 31 = some (.slice none 0 0) := zero_some ti_31_eq ti_31_zero rfl (by rw [ti_31_size]; rfl)
abbrev t_S_laws_Task : TypeId := 38
theorem u_S_laws_Task : P.underlying 38 = some (.slice 159) := by kernel_rfl
theorem a_S_laws_Task : (P.underlying 38).map aggD = some false := by kernel_rfl
theorem i_S_laws_Task : (P.info? 38).map (·.size) = some 1 := by kernel_rfl
noncomputable def ti_38 : TypeInfo := (P.info? 38).getD default
@[simp] theorem ti_38_eq : P.info? 38 = some ti_38 := by kernel_rfl
@[simp] theorem ti_38_size : ti_38.size = 1 := by kernel_rfl
@[simp] theorem ti_38_bytes : ti_38.bytes = 24 := by kernel_rfl
@[simp] theorem ti_38_zero : ti_38.zero = some (.slice none 0 0) := by kernel_rfl
noncomputable abbrev ti_S_laws_Task := ti_38
theorem e_t_S_laws_Task : P.info? 38 = some ti_38 := ti_38_eq
theorem z_t_S_laws_Task : zeroP P 38 = some (.slice none 0 0) := zero_some ti_38_eq ti_38_zero rfl (by rw [ti_38_size]; rfl)
abbrev t_laws_Dispatcher : TypeId := 40
theorem a_laws_Dispatcher : (P.underlying 40).map aggD = some true := by kernel_rfl
theorem i_laws_Dispatcher : (P.info? 40).map (·.size) = some 5 := by kernel_rfl
noncomputable def ti_40 : TypeInfo := (P.info? 40).getD default
@[simp] theorem ti_40_eq : P.info? 40 = some ti_40 := by kernel_rfl
@[simp] theorem ti_40_size : ti_40.size = 5 := by kernel_rfl
@[simp] theorem ti_40_bytes : ti_40.bytes = 72 := by kernel_rfl
@[simp] theorem ti_40_zero : ti_40.zero = some (.agg #[.int .i64 0, .int .i64 0, .int .i64 0, .slice none 0 0, .slice none 0 0]) := by kernel_rfl
noncomputable abbrev ti_laws_Dispatcher := ti_40
theorem e_t_laws_Dispatcher : P.info? 40 = some ti_40 := ti_40_eq
theorem z_t_laws_Dispatcher : zeroP P 40 = some (.agg #[.int .i64 0, .int .i64 0, .int .i64 0, .slice none 0 0, .slice none 0 0]) := zero_some ti_40_eq ti_40_zero rfl (by rw [ti_40_size]; rfl)
abbrev t_S_impl_Task : TypeId := 42
theorem u_S_impl_Task : P.underlying 42 = some (.slice 134) := by kernel_rfl
theorem a_S_impl_Task : (P.underlying 42).map aggD = some false := by kernel_rfl
theorem i_S_impl_Task : (P.info? 42).map (·.size) = some 1 := by kernel_rfl
noncomputable def ti_42 : TypeInfo := (P.info? 42).getD default
@[simp] theorem ti_42_eq : P.info? 42 = some ti_42 := by kernel_rfl
@[simp] theorem ti_42_size : ti_42.size = 1 := by kernel_rfl
@[simp] theorem ti_42_bytes : ti_42.bytes = 24 := by kernel_rfl
@[simp] theorem ti_42_zero : ti_42.zero = some (.slice none 0 0) := by kernel_rfl
noncomputable abbrev ti_S_impl_Task := ti_42
theorem e_t_S_impl_Task : P.info? 42 = some ti_42 := ti_42_eq
theorem z_t_S_impl_Task : zeroP P 42 = some (.slice none 0 0) := zero_some ti_42_eq ti_42_zero rfl (by rw [ti_42_size]; rfl)
abbrev t_impl_Dispatcher : TypeId := 44
theorem a_impl_Dispatcher : (P.underlying 44).map aggD = some true := by kernel_rfl
theorem i_impl_Dispatcher : (P.info? 44).map (·.size) = some 5 := by kernel_rfl
noncomputable def ti_44 : TypeInfo := (P.info? 44).getD default
@[simp] theorem ti_44_eq : P.info? 44 = some ti_44 := by kernel_rfl
@[simp] theorem ti_44_size : ti_44.size = 5 := by kernel_rfl
@[simp] theorem ti_44_bytes : ti_44.bytes = 72 := by kernel_rfl
@[simp] theorem ti_44_zero : ti_44.zero = some (.agg #[.int .i64 0, .int .i64 0, .int .i64 0, .slice none 0 0, .slice none 0 0]) := by kernel_rfl
noncomputable abbrev ti_impl_Dispatcher := ti_44
theorem e_t_impl_Dispatcher : P.info? 44 = some ti_44 := ti_44_eq
theorem z_t_impl_Dispatcher : zeroP P 44 = some (.agg #[.int .i64 0, .int .i64 0, .int .i64 0, .slice none 0 0, .slice none 0 0]) := zero_some ti_44_eq ti_44_zero rfl (by rw [ti_44_size]; rfl)
abbrev t_S_u8 : TypeId := 51
theorem u_S_u8 : P.underlying 51 = some (.slice 5) := by kernel_rfl
theorem a_S_u8 : (P.underlying 51).map aggD = some false := by kernel_rfl
theorem i_S_u8 : (P.info? 51).map (·.size) = some 1 := by kernel_rfl
noncomputable def ti_51 : TypeInfo := (P.info? 51).getD default
@[simp] theorem ti_51_eq : P.info? 51 = some ti_51 := by kernel_rfl
@[simp] theorem ti_51_size : ti_51.size = 1 := by kernel_rfl
@[simp] theorem ti_51_bytes : ti_51.bytes = 24 := by kernel_rfl
@[simp] theorem ti_51_zero : ti_51.zero = some (.slice none 0 0) := by kernel_rfl
noncomputable abbrev ti_S_u8 := ti_51
theorem e_t_S_u8 : P.info? 51 = some ti_51 := ti_51_eq
theorem z_t_S_u8 : zeroP P 51 = some (.slice none 0 0) := zero_some ti_51_eq ti_51_zero rfl (by rw [ti_51_size]; rfl)
abbrev t_impl_Job : TypeId := 58
theorem a_impl_Job : (P.underlying 58).map aggD = some true := by kernel_rfl
theorem i_impl_Job : (P.info? 58).map (·.size) = some 4 := by kernel_rfl
noncomputable def ti_58 : TypeInfo := (P.info? 58).getD default
@[simp] theorem ti_58_eq : P.info? 58 = some ti_58 := by kernel_rfl
@[simp] theorem ti_58_size : ti_58.size = 4 := by kernel_rfl
@[simp] theorem ti_58_bytes : ti_58.bytes = 32 := by kernel_rfl
@[simp] theorem ti_58_zero : ti_58.zero = some (.agg #[.int .i64 0, .int .i64 0, .int .i64 0, .int .i64 0]) := by kernel_rfl
noncomputable abbrev ti_impl_Job := ti_58
theorem e_t_impl_Job : P.info? 58 = some ti_58 := ti_58_eq
theorem z_t_impl_Job : zeroP P 58 = some (.agg #[.int .i64 0, .int .i64 0, .int .i64 0, .int .i64 0]) := zero_some ti_58_eq ti_58_zero rfl (by rw [ti_58_size]; rfl)
abbrev t_impl_Act : TypeId := 61
theorem a_impl_Act : (P.underlying 61).map aggD = some true := by kernel_rfl
theorem i_impl_Act : (P.info? 61).map (·.size) = some 7 := by kernel_rfl
noncomputable def ti_61 : TypeInfo := (P.info? 61).getD default
@[simp] theorem ti_61_eq : P.info? 61 = some ti_61 := by kernel_rfl
@[simp] theorem ti_61_size : ti_61.size = 7 := by kernel_rfl
@[simp] theorem ti_61_bytes : ti_61.bytes = 56 := by kernel_rfl
@[simp] theorem ti_61_zero : ti_61.zero = some (.agg #[.int .i64 0, .int .i64 0, .int .i64 0, .int .i64 0, .int .i64 0, .int .i64 0, .int .i64 0]) := by kernel_rfl
noncomputable abbrev ti_impl_Act := ti_61
theorem e_t_impl_Act : P.info? 61 = some ti_61 := ti_61_eq
theorem z_t_impl_Act : zeroP P 61 = some (.agg #[.int .i64 0, .int .i64 0, .int .i64 0, .int .i64 0, .int .i64 0, .int .i64 0, .int .i64 0]) := zero_some ti_61_eq ti_61_zero rfl (by rw [ti_61_size]; rfl)
abbrev t_S_impl_Act : TypeId := 68
theorem u_S_impl_Act : P.underlying 68 = some (.slice 61) := by kernel_rfl
theorem a_S_impl_Act : (P.underlying 68).map aggD = some false := by kernel_rfl
theorem i_S_impl_Act : (P.info? 68).map (·.size) = some 1 := by kernel_rfl
noncomputable def ti_68 : TypeInfo := (P.info? 68).getD default
@[simp] theorem ti_68_eq : P.info? 68 = some ti_68 := by kernel_rfl
@[simp] theorem ti_68_size : ti_68.size = 1 := by kernel_rfl
@[simp] theorem ti_68_bytes : ti_68.bytes = 24 := by kernel_rfl
@[simp] theorem ti_68_zero : ti_68.zero = some (.slice none 0 0) := by kernel_rfl
noncomputable abbrev ti_S_impl_Act := ti_68
theorem e_t_S_impl_Act : P.info? 68 = some ti_68 := ti_68_eq
theorem z_t_S_impl_Act : zeroP P 68 = some (.slice none 0 0) := zero_some ti_68_eq ti_68_zero rfl (by rw [ti_68_size]; rfl)
abbrev t_S_impl_Span : TypeId := 74
theorem u_S_impl_Span : P.underlying 74 = some (.slice 146) := by kernel_rfl
theorem a_S_impl_Span : (P.underlying 74).map aggD = some false := by kernel_rfl
theorem i_S_impl_Span : (P.info? 74).map (·.size) = some 1 := by kernel_rfl
noncomputable def ti_74 : TypeInfo := (P.info? 74).getD default
@[simp] theorem ti_74_eq : P.info? 74 = some ti_74 := by kernel_rfl
@[simp] theorem ti_74_size : ti_74.size = 1 := by kernel_rfl
@[simp] theorem ti_74_bytes : ti_74.bytes = 24 := by kernel_rfl
@[simp] theorem ti_74_zero : ti_74.zero = some (.slice none 0 0) := by kernel_rfl
noncomputable abbrev ti_S_impl_Span := ti_74
theorem e_t_S_impl_Span : P.info? 74 = some ti_74 := ti_74_eq
theorem z_t_S_impl_Span : zeroP P 74 = some (.slice none 0 0) := zero_some ti_74_eq ti_74_zero rfl (by rw [ti_74_size]; rfl)
abbrev t_laws_Job : TypeId := 89
theorem a_laws_Job : (P.underlying 89).map aggD = some true := by kernel_rfl
theorem i_laws_Job : (P.info? 89).map (·.size) = some 4 := by kernel_rfl
noncomputable def ti_89 : TypeInfo := (P.info? 89).getD default
@[simp] theorem ti_89_eq : P.info? 89 = some ti_89 := by kernel_rfl
@[simp] theorem ti_89_size : ti_89.size = 4 := by kernel_rfl
@[simp] theorem ti_89_bytes : ti_89.bytes = 32 := by kernel_rfl
@[simp] theorem ti_89_zero : ti_89.zero = some (.agg #[.int .i64 0, .int .i64 0, .int .i64 0, .int .i64 0]) := by kernel_rfl
noncomputable abbrev ti_laws_Job := ti_89
theorem e_t_laws_Job : P.info? 89 = some ti_89 := ti_89_eq
theorem z_t_laws_Job : zeroP P 89 = some (.agg #[.int .i64 0, .int .i64 0, .int .i64 0, .int .i64 0]) := zero_some ti_89_eq ti_89_zero rfl (by rw [ti_89_size]; rfl)
abbrev t_laws_Act : TypeId := 91
theorem a_laws_Act : (P.underlying 91).map aggD = some true := by kernel_rfl
theorem i_laws_Act : (P.info? 91).map (·.size) = some 7 := by kernel_rfl
noncomputable def ti_91 : TypeInfo := (P.info? 91).getD default
@[simp] theorem ti_91_eq : P.info? 91 = some ti_91 := by kernel_rfl
@[simp] theorem ti_91_size : ti_91.size = 7 := by kernel_rfl
@[simp] theorem ti_91_bytes : ti_91.bytes = 56 := by kernel_rfl
@[simp] theorem ti_91_zero : ti_91.zero = some (.agg #[.int .i64 0, .int .i64 0, .int .i64 0, .int .i64 0, .int .i64 0, .int .i64 0, .int .i64 0]) := by kernel_rfl
noncomputable abbrev ti_laws_Act := ti_91
theorem e_t_laws_Act : P.info? 91 = some ti_91 := ti_91_eq
theorem z_t_laws_Act : zeroP P 91 = some (.agg #[.int .i64 0, .int .i64 0, .int .i64 0, .int .i64 0, .int .i64 0, .int .i64 0, .int .i64 0]) := zero_some ti_91_eq ti_91_zero rfl (by rw [ti_91_size]; rfl)
abbrev t_S_laws_Act : TypeId := 94
theorem u_S_laws_Act : P.underlying 94 = some (.slice 91) := by kernel_rfl
theorem a_S_laws_Act : (P.underlying 94).map aggD = some false := by kernel_rfl
theorem i_S_laws_Act : (P.info? 94).map (·.size) = some 1 := by kernel_rfl
noncomputable def ti_94 : TypeInfo := (P.info? 94).getD default
@[simp] theorem ti_94_eq : P.info? 94 = some ti_94 := by kernel_rfl
@[simp] theorem ti_94_size : ti_94.size = 1 := by kernel_rfl
@[simp] theorem ti_94_bytes : ti_94.bytes = 24 := by kernel_rfl
@[simp] theorem ti_94_zero : ti_94.zero = some (.slice none 0 0) := by kernel_rfl
noncomputable abbrev ti_S_laws_Act := ti_94
theorem e_t_S_laws_Act : P.info? 94 = some ti_94 := ti_94_eq
theorem z_t_S_laws_Act : zeroP P 94 = some (.slice none 0 0) := zero_some ti_94_eq ti_94_zero rfl (by rw [ti_94_size]; rfl)
abbrev t_laws_SetPrice : TypeId := 102
theorem a_laws_SetPrice : (P.underlying 102).map aggD = some true := by kernel_rfl
theorem i_laws_SetPrice : (P.info? 102).map (·.size) = some 2 := by kernel_rfl
noncomputable def ti_102 : TypeInfo := (P.info? 102).getD default
@[simp] theorem ti_102_eq : P.info? 102 = some ti_102 := by kernel_rfl
@[simp] theorem ti_102_size : ti_102.size = 2 := by kernel_rfl
@[simp] theorem ti_102_bytes : ti_102.bytes = 32 := by kernel_rfl
@[simp] theorem ti_102_zero : ti_102.zero = some (.agg #[.slice none 0 0, .int .i64 0]) := by kernel_rfl
noncomputable abbrev ti_laws_SetPrice := ti_102
theorem e_t_laws_SetPrice : P.info? 102 = some ti_102 := ti_102_eq
theorem z_t_laws_SetPrice : zeroP P 102 = some (.agg #[.slice none 0 0, .int .i64 0]) := zero_some ti_102_eq ti_102_zero rfl (by rw [ti_102_size]; rfl)
abbrev t_impl_SetPrice : TypeId := 108
theorem a_impl_SetPrice : (P.underlying 108).map aggD = some true := by kernel_rfl
theorem i_impl_SetPrice : (P.info? 108).map (·.size) = some 2 := by kernel_rfl
noncomputable def ti_108 : TypeInfo := (P.info? 108).getD default
@[simp] theorem ti_108_eq : P.info? 108 = some ti_108 := by kernel_rfl
@[simp] theorem ti_108_size : ti_108.size = 2 := by kernel_rfl
@[simp] theorem ti_108_bytes : ti_108.bytes = 32 := by kernel_rfl
@[simp] theorem ti_108_zero : ti_108.zero = some (.agg #[.slice none 0 0, .int .i64 0]) := by kernel_rfl
noncomputable abbrev ti_impl_SetPrice := ti_108
theorem e_t_impl_SetPrice : P.info? 108 = some ti_108 := ti_108_eq
theorem z_t_impl_SetPrice : zeroP P 108 = some (.agg #[.slice none 0 0, .int .i64 0]) := zero_some ti_108_eq ti_108_zero rfl (by rw [ti_108_size]; rfl)
abbrev t_P_spec_l1Cur : TypeId := 126
theorem a_P_spec_l1Cur : (P.underlying 126).map aggD = some false := by kernel_rfl
theorem i_P_spec_l1Cur : (P.info? 126).map (·.size) = some 1 := by kernel_rfl
noncomputable def ti_126 : TypeInfo := (P.info? 126).getD default
@[simp] theorem ti_126_eq : P.info? 126 = some ti_126 := by kernel_rfl
@[simp] theorem ti_126_size : ti_126.size = 1 := by kernel_rfl
@[simp] theorem ti_126_bytes : ti_126.bytes = 8 := by kernel_rfl
@[simp] theorem ti_126_zero : ti_126.zero = some (.pointer none) := by kernel_rfl
noncomputable abbrev ti_P_spec_l1Cur := ti_126
theorem e_t_P_spec_l1Cur : P.info? 126 = some ti_126 := ti_126_eq
theorem z_t_P_spec_l1Cur : zeroP P 126 = some (.pointer none) := zero_some ti_126_eq ti_126_zero rfl (by rw [ti_126_size]; rfl)
abbrev t_u64 : TypeId := 127
theorem u_u64 : P.underlying 127 = some (.int .u64) := by kernel_rfl
theorem a_u64 : (P.underlying 127).map aggD = some false := by kernel_rfl
theorem i_u64 : (P.info? 127).map (·.size) = some 1 := by kernel_rfl
noncomputable def ti_127 : TypeInfo := (P.info? 127).getD default
@[simp] theorem ti_127_eq : P.info? 127 = some ti_127 := by kernel_rfl
@[simp] theorem ti_127_size : ti_127.size = 1 := by kernel_rfl
@[simp] theorem ti_127_bytes : ti_127.bytes = 8 := by kernel_rfl
@[simp] theorem ti_127_zero : ti_127.zero = some (.int .u64 0) := by kernel_rfl
noncomputable abbrev ti_u64 := ti_127
theorem e_t_u64 : P.info? 127 = some ti_127 := ti_127_eq
theorem z_t_u64 : zeroP P 127 = some (.int .u64 0) := zero_some ti_127_eq ti_127_zero rfl (by rw [ti_127_size]; rfl)
abbrev t_spec_l1Cur : TypeId := 129
theorem a_spec_l1Cur : (P.underlying 129).map aggD = some true := by kernel_rfl
theorem i_spec_l1Cur : (P.info? 129).map (·.size) = some 3 := by kernel_rfl
noncomputable def ti_129 : TypeInfo := (P.info? 129).getD default
@[simp] theorem ti_129_eq : P.info? 129 = some ti_129 := by kernel_rfl
@[simp] theorem ti_129_size : ti_129.size = 3 := by kernel_rfl
@[simp] theorem ti_129_bytes : ti_129.bytes = 40 := by kernel_rfl
@[simp] theorem ti_129_zero : ti_129.zero = some (.agg #[.slice none 0 0, .int .i64 0, .int .u64 0]) := by kernel_rfl
noncomputable abbrev ti_spec_l1Cur := ti_129
theorem e_t_spec_l1Cur : P.info? 129 = some ti_129 := ti_129_eq
theorem z_t_spec_l1Cur : zeroP P 129 = some (.agg #[.slice none 0 0, .int .i64 0, .int .u64 0]) := zero_some ti_129_eq ti_129_zero rfl (by rw [ti_129_size]; rfl)
abbrev t_impl_Task : TypeId := 134
theorem a_impl_Task : (P.underlying 134).map aggD = some true := by kernel_rfl
theorem i_impl_Task : (P.info? 134).map (·.size) = some 3 := by kernel_rfl
noncomputable def ti_134 : TypeInfo := (P.info? 134).getD default
@[simp] theorem ti_134_eq : P.info? 134 = some ti_134 := by kernel_rfl
@[simp] theorem ti_134_size : ti_134.size = 3 := by kernel_rfl
@[simp] theorem ti_134_bytes : ti_134.bytes = 24 := by kernel_rfl
@[simp] theorem ti_134_zero : ti_134.zero = some (.agg #[.int .i64 0, .int .i64 0, .int .i64 0]) := by kernel_rfl
noncomputable abbrev ti_impl_Task := ti_134
theorem e_t_impl_Task : P.info? 134 = some ti_134 := ti_134_eq
theorem z_t_impl_Task : zeroP P 134 = some (.agg #[.int .i64 0, .int .i64 0, .int .i64 0]) := zero_some ti_134_eq ti_134_zero rfl (by rw [ti_134_size]; rfl)
abbrev t_impl_Span : TypeId := 146
theorem a_impl_Span : (P.underlying 146).map aggD = some true := by kernel_rfl
theorem i_impl_Span : (P.info? 146).map (·.size) = some 3 := by kernel_rfl
noncomputable def ti_146 : TypeInfo := (P.info? 146).getD default
@[simp] theorem ti_146_eq : P.info? 146 = some ti_146 := by kernel_rfl
@[simp] theorem ti_146_size : ti_146.size = 3 := by kernel_rfl
@[simp] theorem ti_146_bytes : ti_146.bytes = 24 := by kernel_rfl
@[simp] theorem ti_146_zero : ti_146.zero = some (.agg #[.int .i64 0, .int .i64 0, .int .i64 0]) := by kernel_rfl
noncomputable abbrev ti_impl_Span := ti_146
theorem e_t_impl_Span : P.info? 146 = some ti_146 := ti_146_eq
theorem z_t_impl_Span : zeroP P 146 = some (.agg #[.int .i64 0, .int .i64 0, .int .i64 0]) := zero_some ti_146_eq ti_146_zero rfl (by rw [ti_146_size]; rfl)
abbrev t_laws_Task : TypeId := 159
theorem a_laws_Task : (P.underlying 159).map aggD = some true := by kernel_rfl
theorem i_laws_Task : (P.info? 159).map (·.size) = some 3 := by kernel_rfl
noncomputable def ti_159 : TypeInfo := (P.info? 159).getD default
@[simp] theorem ti_159_eq : P.info? 159 = some ti_159 := by kernel_rfl
@[simp] theorem ti_159_size : ti_159.size = 3 := by kernel_rfl
@[simp] theorem ti_159_bytes : ti_159.bytes = 24 := by kernel_rfl
@[simp] theorem ti_159_zero : ti_159.zero = some (.agg #[.int .i64 0, .int .i64 0, .int .i64 0]) := by kernel_rfl
noncomputable abbrev ti_laws_Task := ti_159
theorem e_t_laws_Task : P.info? 159 = some ti_159 := ti_159_eq
theorem z_t_laws_Task : zeroP P 159 = some (.agg #[.int .i64 0, .int .i64 0, .int .i64 0]) := zero_some ti_159_eq ti_159_zero rfl (by rw [ti_159_size]; rfl)
def G : FuncId → GI
  | 11 => ⟨[(5, [0, 1, 5])], [], []⟩
  | 13 => ⟨[(3, [0, 3, 4])], [], []⟩
  | 15 => ⟨[(3, [0, 3, 4])], [], []⟩
  | 14 => ⟨[(3, [0, 3, 4])], [], []⟩
  | 124 => ⟨[(2, [0, 3])], [], []⟩
  | 184 => ⟨[(2, [0, 3])], [], []⟩
  | 194 => ⟨[(2, [0, 1, 2, 7])], [(4, 21)], []⟩
  | 186 => ⟨[(4, [0, 1, 5])], [(6, 8), (7, 8)], []⟩
  | 146 => ⟨[(2, [0, 1, 5])], [(6, 14)], []⟩
  | 148 => ⟨[(2, [0, 1, 5])], [], []⟩
  | 75 => ⟨[(4, [0, 1, 5])], [], []⟩
  | 76 => ⟨[(2, [0, 1, 2, 7]), (6, [0, 1, 2, 7, 8, 9])], [(10, 14)], []⟩
  | 149 => ⟨[(3, [0, 1, 5, 6, 7])], [(6, 18)], []⟩
  | 77 => ⟨[(3, [0, 1, 5, 6])], [(5, 14)], []⟩
  | 137 => ⟨[(3, [0, 1, 5, 6, 7])], [(5, 15), (6, 15)], []⟩
  | 138 => ⟨[(3, [0, 5, 6])], [(5, 12)], []⟩
  | 131 => ⟨[(3, [0, 1, 2, 7, 8])], [(6, 11)], []⟩
  | 117 => ⟨[(4, [8, 9, 10])], [], []⟩
  | 150 => ⟨[(2, [5, 6, 7])], [], []⟩
  | 187 => ⟨[(2, [0, 3])], [(4, 9)], []⟩
  | 154 => ⟨[(2, [1, 7, 8, 9])], [], []⟩
  | 153 => ⟨[(2, [0, 1, 7, 8, 9])], [], []⟩
  | 152 => ⟨[(2, [0, 1, 5])], [(4, 8), (5, 8)], []⟩
  | 82 => ⟨[(2, [0, 1, 8, 9, 10])], [], []⟩
  | 85 => ⟨[(2, [1, 2, 12, 13, 14]), (6, [1, 2, 7, 8, 9, 12, 13, 14, 19, 20, 21])], [], []⟩
  | 155 => ⟨[(3, [0, 5, 6, 9, 10, 11])], [(6, 12)], []⟩
  | 86 => ⟨[(3, [0, 5, 8, 9, 10])], [(5, 8)], []⟩
  | 135 => ⟨[(4, [0, 5, 6, 12, 13, 14])], [(6, 12)], []⟩
  | 127 => ⟨[(3, [1, 2, 7, 10, 11, 12])], [(5, 9)], []⟩
  | 17 => ⟨[(4, [0, 1, 5])], [(6, 8)], []⟩
  | 19 => ⟨[(4, [0, 1, 5])], [(6, 8)], []⟩
  | 18 => ⟨[(4, [0, 1, 5])], [(6, 8)], []⟩
  | 94 => ⟨[(3, [0, 3, 4])], [], []⟩
  | 156 => ⟨[(2, [1, 3]), (8, [1, 3, 4, 5])], [(5, 32), (11, 24), (13, 34)], []⟩
  | 92 => ⟨[], [(1, 14)], []⟩
  | 162 => ⟨[(2, [1, 2, 5])], [], []⟩
  | 106 => ⟨[(3, [1, 3, 4])], [(5, 12)], []⟩
  | 195 => ⟨[], [(1, 10)], []⟩
  | 157 => ⟨[(6, [1, 3, 4, 5])], [(8, 6)], []⟩
  | 108 => ⟨[(2, [1, 2, 5])], [(5, 24)], []⟩
  | 93 => ⟨[(3, [1, 2, 3, 4])], [], []⟩
  | 21 => ⟨[(4, [2, 4])], [], []⟩
  | 119 => ⟨[], [(1, 9)], []⟩
  | 48 => ⟨[(4, [1, 30, 31, 32]), (11, [1, 4, 30, 31, 32, 109, 110, 111])], [(6, 28), (8, 34), (13, 17)], []⟩
  | 107 => ⟨[(3, [1, 3, 4]), (7, [1, 3, 4, 5, 15, 16, 17])], [(9, 17)], []⟩
  | 161 => ⟨[(2, [1, 8, 9, 10])], [], []⟩
  | 105 => ⟨[(3, [1, 3, 7, 8, 9])], [], []⟩
  | 189 => ⟨[(3, [1, 3, 7, 8, 9])], [(5, 19)], []⟩
  | 159 => ⟨[(2, [1, 2, 7, 8, 9])], [], []⟩
  | 96 => ⟨[(1, [1, 2])], [], []⟩
  | 97 => ⟨[(4, [0, 1, 5])], [(6, 8)], []⟩
  | 98 => ⟨[(2, [0, 1, 5])], [], []⟩
  | 99 => ⟨[(2, [0, 1, 5])], [], []⟩
  | 100 => ⟨[(2, [0, 1, 5])], [], []⟩
  | 101 => ⟨[(2, [0, 1, 5])], [], []⟩
  | 4 => ⟨[], [(10, 3)], []⟩
  | 165 => ⟨[], [(2, 9), (3, 8), (6, 9)], []⟩
  | 192 => ⟨[(2, [1, 2, 5])], [], []⟩
  | 171 => ⟨[(3, [1, 4, 5, 6])], [], []⟩
  | 172 => ⟨[(4, [1, 4, 5, 6])], [(2, 11), (7, 10)], []⟩
  | 111 => ⟨[(3, [0, 2, 3, 4])], [(5, 9), (18, 13), (21, 6), (24, 8), (27, 10)], []⟩
  | 103 => ⟨[(3, [1, 3, 8, 9]), (7, [1, 3, 16, 17, 18])], [(9, 6)], []⟩
  | 104 => ⟨[(3, [1, 3, 4]), (7, [1, 3, 5])], [(10, 13)], []⟩
  | 34 => ⟨[(5, [1, 4, 5])], [], []⟩
  | 35 => ⟨[(4, [0, 1, 5])], [(6, 8)], []⟩
  | 190 => ⟨[(3, [1, 2, 4, 19, 20, 21])], [(1, 9)], []⟩
  | 164 => ⟨[(12, [2, 3, 4, 7]), (29, [2, 4, 96, 97, 98])], [], []⟩
  | 109 => ⟨[], [], [(3, 9, [(3, 1), (8, 7)])]⟩
  | 5 => ⟨[(15, [3, 4, 8, 12, 16]), (21, [3, 4, 8, 12, 17, 18])], [(17, 20), (25, 9)], []⟩
  | 41 => ⟨[], [(3, 4)], []⟩
  | 44 => ⟨[(5, [2, 4, 5, 6, 7])], [], []⟩
  | 45 => ⟨[(5, [1, 4, 7, 18, 19, 20])], [], []⟩
  | 46 => ⟨[(5, [1, 4, 7, 8])], [(7, 10)], []⟩
  | 114 => ⟨[(4, [0, 1, 5])], [(6, 8)], []⟩
  | 115 => ⟨[(4, [0, 1, 5])], [(6, 8)], []⟩
  | 6 => ⟨[], [(12, 40)], []⟩
  | 174 => ⟨[(4, [0, 1, 2, 7, 8]), (11, [0, 1, 7])], [], []⟩
  | 120 => ⟨[(3, [0, 3, 4])], [], []⟩
  | 142 => ⟨[(3, [0, 3, 4])], [], []⟩
  | 183 => ⟨[(3, [0, 1, 2, 3, 9, 10])], [(6, 31)], []⟩
  | 141 => ⟨[(5, [0, 2, 3, 9, 10, 11, 12]), (9, [0, 3, 9, 10, 11, 13])], [], []⟩
  | 133 => ⟨[(3, [0, 1, 5, 6])], [(6, 11)], []⟩
  | 61 => ⟨[(6, [1, 6, 7, 8, 9])], [(8, 21)], []⟩
  | 121 => ⟨[(24, [5, 8])], [(12, 11), (14, 11), (18, 10), (19, 18), (21, 13)], []⟩
  | 123 => ⟨[(3, [0, 1, 5, 13, 14, 15]), (12, [5, 97, 98, 99])], [(5, 22), (7, 31), (9, 10), (14, 6)], []⟩
  | 125 => ⟨[(4, [0, 1, 5, 6, 7, 8]), (13, [0, 5, 10])], [(7, 38), (9, 14), (15, 9)], []⟩
  | 128 => ⟨[(3, [5, 11, 12, 13])], [], []⟩
  | 132 => ⟨[(3, [1, 5, 6])], [(5, 11)], []⟩
  | 60 => ⟨[(6, [0, 6, 7, 17, 18, 19])], [(8, 18)], []⟩
  | 62 => ⟨[(4, [0, 1, 5])], [(6, 8)], []⟩
  | 140 => ⟨[(5, [0, 1, 2, 8, 9, 10, 11, 27, 28, 29]), (12, [0, 2, 8, 9, 10, 11, 48, 49, 50]), (18, [0, 2, 8, 9, 10, 11, 16]), (22, [0, 2, 8, 9, 10, 11, 16, 17, 76, 77, 78])], [(14, 12), (25, 28)], []⟩
  | 8 => ⟨[], [(5, 9), (7, 8), (10, 3), (24, 9)], []⟩
  | 70 => ⟨[(3, [0, 3, 4])], [], []⟩
  | 71 => ⟨[(4, [0, 1, 5])], [(6, 8)], []⟩
  | 72 => ⟨[(2, [0, 1, 5])], [], []⟩
  | 9 => ⟨[], [(14, 3)], []⟩
  | _ => ⟨[], [], []⟩
noncomputable def c_laws_szJobS : Code := Go.Proofs.Try.f10.body.getD .skip
abbrev n_laws_szJobS : FuncId := 10
theorem g_laws_szJobS : G 10 = ⟨[], [], []⟩ := rfl
attribute [simp] c_laws_szJobS g_laws_szJobS Go.Proofs.Try.f10
theorem e_laws_szJobS : enterG P (G 10) 10 = some (c_laws_szJobS, 12, #[.tmp 4]) := by kernel_rfl
noncomputable def c_laws_szIntS : Code := Go.Proofs.Try.f144.body.getD .skip
abbrev n_laws_szIntS : FuncId := 144
theorem g_laws_szIntS : G 144 = ⟨[], [], []⟩ := rfl
attribute [simp] c_laws_szIntS g_laws_szIntS Go.Proofs.Try.f144
theorem e_laws_szIntS : enterG P (G 144) 144 = some (c_laws_szIntS, 12, #[.tmp 4]) := by kernel_rfl
noncomputable def c_laws_szSetPrice : Code := Go.Proofs.Try.f73.body.getD .skip
abbrev n_laws_szSetPrice : FuncId := 73
theorem g_laws_szSetPrice : G 73 = ⟨[], [], []⟩ := rfl
attribute [simp] c_laws_szSetPrice g_laws_szSetPrice Go.Proofs.Try.f73
theorem e_laws_szSetPrice : enterG P (G 73) 73 = some (c_laws_szSetPrice, 12, #[.tmp 4]) := by kernel_rfl
noncomputable def c_laws_szSetPriceS : Code := Go.Proofs.Try.f11.body.getD .skip
abbrev n_laws_szSetPriceS : FuncId := 11
theorem g_laws_szSetPriceS : G 11 = ⟨[(5, [0, 1, 5])], [], []⟩ := rfl
attribute [simp] c_laws_szSetPriceS g_laws_szSetPriceS Go.Proofs.Try.f11
theorem e_laws_szSetPriceS : enterG P (G 11) 11 = some (c_laws_szSetPriceS, 27, #[.tmp 4]) := by kernel_rfl
noncomputable def c_laws_toJob : Code := Go.Proofs.Try.f79.body.getD .skip
abbrev n_laws_toJob : FuncId := 79
theorem g_laws_toJob : G 79 = ⟨[], [], []⟩ := rfl
attribute [simp] c_laws_toJob g_laws_toJob Go.Proofs.Try.f79
theorem e_laws_toJob : enterG P (G 79) 79 = some (c_laws_toJob, 17, #[.cell 2 58]) := by kernel_rfl
noncomputable def c_laws_toJobS : Code := Go.Proofs.Try.f13.body.getD .skip
abbrev n_laws_toJobS : FuncId := 13
theorem g_laws_toJobS : G 13 = ⟨[(3, [0, 3, 4])], [], []⟩ := rfl
attribute [simp] c_laws_toJobS g_laws_toJobS Go.Proofs.Try.f13
theorem e_laws_toJobS : enterG P (G 13) 13 = some (c_laws_toJobS, 23, #[.tmp 2]) := by kernel_rfl
noncomputable def c_laws_toIntS : Code := Go.Proofs.Try.f15.body.getD .skip
abbrev n_laws_toIntS : FuncId := 15
theorem g_laws_toIntS : G 15 = ⟨[(3, [0, 3, 4])], [], []⟩ := rfl
attribute [simp] c_laws_toIntS g_laws_toIntS Go.Proofs.Try.f15
theorem e_laws_toIntS : enterG P (G 15) 15 = some (c_laws_toIntS, 22, #[.tmp 2]) := by kernel_rfl
noncomputable def c_laws_toSetPrice : Code := Go.Proofs.Try.f80.body.getD .skip
abbrev n_laws_toSetPrice : FuncId := 80
theorem g_laws_toSetPrice : G 80 = ⟨[], [], []⟩ := rfl
attribute [simp] c_laws_toSetPrice g_laws_toSetPrice Go.Proofs.Try.f80
theorem e_laws_toSetPrice : enterG P (G 80) 80 = some (c_laws_toSetPrice, 12, #[.cell 2 108]) := by kernel_rfl
noncomputable def c_laws_toSetPriceS : Code := Go.Proofs.Try.f14.body.getD .skip
abbrev n_laws_toSetPriceS : FuncId := 14
theorem g_laws_toSetPriceS : G 14 = ⟨[(3, [0, 3, 4])], [], []⟩ := rfl
attribute [simp] c_laws_toSetPriceS g_laws_toSetPriceS Go.Proofs.Try.f14
theorem e_laws_toSetPriceS : enterG P (G 14) 14 = some (c_laws_toSetPriceS, 23, #[.tmp 2]) := by kernel_rfl
noncomputable def c_spec_l1In : Code := Go.Proofs.Try.f147.body.getD .skip
abbrev n_spec_l1In : FuncId := 147
theorem g_spec_l1In : G 147 = ⟨[], [], []⟩ := rfl
attribute [simp] c_spec_l1In g_spec_l1In Go.Proofs.Try.f147
theorem e_spec_l1In : enterG P (G 147) 147 = some (c_spec_l1In, 15, #[.tmp 6]) := by kernel_rfl
noncomputable def c_spec_l2Job : Code := Go.Proofs.Try.f177.body.getD .skip
abbrev n_spec_l2Job : FuncId := 177
theorem g_spec_l2Job : G 177 = ⟨[], [], []⟩ := rfl
attribute [simp] c_spec_l2Job g_spec_l2Job Go.Proofs.Try.f177
theorem e_spec_l2Job : enterG P (G 177) 177 = some (c_spec_l2Job, 21, #[.tmp 2]) := by kernel_rfl
noncomputable def c_spec_l2Good : Code := Go.Proofs.Try.f124.body.getD .skip
abbrev n_spec_l2Good : FuncId := 124
theorem g_spec_l2Good : G 124 = ⟨[(2, [0, 3])], [], []⟩ := rfl
attribute [simp] c_spec_l2Good g_spec_l2Good Go.Proofs.Try.f124
theorem e_spec_l2Good : enterG P (G 124) 124 = some (c_spec_l2Good, 19, #[.tmp 2]) := by kernel_rfl
noncomputable def c_spec_l4Free : Code := Go.Proofs.Try.f184.body.getD .skip
abbrev n_spec_l4Free : FuncId := 184
theorem g_spec_l4Free : G 184 = ⟨[(2, [0, 3])], [], []⟩ := rfl
attribute [simp] c_spec_l4Free g_spec_l4Free Go.Proofs.Try.f184
theorem e_spec_l4Free : enterG P (G 184) 184 = some (c_spec_l4Free, 16, #[.tmp 2]) := by kernel_rfl
noncomputable def c_spec_l6Good : Code := Go.Proofs.Try.f145.body.getD .skip
abbrev n_spec_l6Good : FuncId := 145
theorem g_spec_l6Good : G 145 = ⟨[], [], []⟩ := rfl
attribute [simp] c_spec_l6Good g_spec_l6Good Go.Proofs.Try.f145
theorem e_spec_l6Good : enterG P (G 145) 145 = some (c_spec_l6Good, 9, #[.tmp 2]) := by kernel_rfl
noncomputable def c_spec_l1Rising : Code := Go.Proofs.Try.f194.body.getD .skip
abbrev n_spec_l1Rising : FuncId := 194
theorem g_spec_l1Rising : G 194 = ⟨[(2, [0, 1, 2, 7])], [(4, 21)], []⟩ := rfl
attribute [simp] c_spec_l1Rising g_spec_l1Rising Go.Proofs.Try.f194
theorem e_spec_l1Rising : enterG P (G 194) 194 = some (c_spec_l1Rising, 38, #[.tmp 6]) := by kernel_rfl
noncomputable def c_spec_l6Set : Code := Go.Proofs.Try.f185.body.getD .skip
abbrev n_spec_l6Set : FuncId := 185
theorem g_spec_l6Set : G 185 = ⟨[], [], []⟩ := rfl
attribute [simp] c_spec_l6Set g_spec_l6Set Go.Proofs.Try.f185
theorem e_spec_l6Set : enterG P (G 185) 185 = some (c_spec_l6Set, 10, #[.tmp 4]) := by kernel_rfl
noncomputable def c_spec_l4Less : Code := Go.Proofs.Try.f186.body.getD .skip
abbrev n_spec_l4Less : FuncId := 186
theorem g_spec_l4Less : G 186 = ⟨[(4, [0, 1, 5])], [(6, 8), (7, 8)], []⟩ := rfl
attribute [simp] c_spec_l4Less g_spec_l4Less Go.Proofs.Try.f186
theorem e_spec_l4Less : enterG P (G 186) 186 = some (c_spec_l4Less, 40, #[.tmp 4]) := by kernel_rfl
noncomputable def c_spec_l10Prices : Code := Go.Proofs.Try.f146.body.getD .skip
abbrev n_spec_l10Prices : FuncId := 146
theorem g_spec_l10Prices : G 146 = ⟨[(2, [0, 1, 5])], [(6, 14)], []⟩ := rfl
attribute [simp] c_spec_l10Prices g_spec_l10Prices Go.Proofs.Try.f146
theorem e_spec_l10Prices : enterG P (G 146) 146 = some (c_spec_l10Prices, 55, #[.tmp 4]) := by kernel_rfl
noncomputable def c_spec_l10Scaled : Code := Go.Proofs.Try.f74.body.getD .skip
abbrev n_spec_l10Scaled : FuncId := 74
theorem g_spec_l10Scaled : G 74 = ⟨[], [], []⟩ := rfl
attribute [simp] c_spec_l10Scaled g_spec_l10Scaled Go.Proofs.Try.f74
theorem e_spec_l10Scaled : enterG P (G 74) 74 = some (c_spec_l10Scaled, 18, #[.tmp 6]) := by kernel_rfl
noncomputable def c_spec_l1Has : Code := Go.Proofs.Try.f148.body.getD .skip
abbrev n_spec_l1Has : FuncId := 148
theorem g_spec_l1Has : G 148 = ⟨[(2, [0, 1, 5])], [], []⟩ := rfl
attribute [simp] c_spec_l1Has g_spec_l1Has Go.Proofs.Try.f148
theorem e_spec_l1Has : enterG P (G 148) 148 = some (c_spec_l1Has, 18, #[.tmp 4]) := by kernel_rfl
noncomputable def c_spec_l2Order : Code := Go.Proofs.Try.f75.body.getD .skip
abbrev n_spec_l2Order : FuncId := 75
theorem g_spec_l2Order : G 75 = ⟨[(4, [0, 1, 5])], [], []⟩ := rfl
attribute [simp] c_spec_l2Order g_spec_l2Order Go.Proofs.Try.f75
theorem e_spec_l2Order : enterG P (G 75) 75 = some (c_spec_l2Order, 24, #[.tmp 4]) := by kernel_rfl
noncomputable def c_spec_l10Fair : Code := Go.Proofs.Try.f76.body.getD .skip
abbrev n_spec_l10Fair : FuncId := 76
theorem g_spec_l10Fair : G 76 = ⟨[(2, [0, 1, 2, 7]), (6, [0, 1, 2, 7, 8, 9])], [(10, 14)], []⟩ := rfl
attribute [simp] c_spec_l10Fair g_spec_l10Fair Go.Proofs.Try.f76
theorem e_spec_l10Fair : enterG P (G 76) 76 = some (c_spec_l10Fair, 51, #[.tmp 6]) := by kernel_rfl
noncomputable def c_spec_l10Demand : Code := Go.Proofs.Try.f149.body.getD .skip
abbrev n_spec_l10Demand : FuncId := 149
theorem g_spec_l10Demand : G 149 = ⟨[(3, [0, 1, 5, 6, 7])], [(6, 18)], []⟩ := rfl
attribute [simp] c_spec_l10Demand g_spec_l10Demand Go.Proofs.Try.f149
theorem e_spec_l10Demand : enterG P (G 149) 149 = some (c_spec_l10Demand, 49, #[.tmp 4]) := by kernel_rfl
noncomputable def c_spec_l10Yield : Code := Go.Proofs.Try.f77.body.getD .skip
abbrev n_spec_l10Yield : FuncId := 77
theorem g_spec_l10Yield : G 77 = ⟨[(3, [0, 1, 5, 6])], [(5, 14)], []⟩ := rfl
attribute [simp] c_spec_l10Yield g_spec_l10Yield Go.Proofs.Try.f77
theorem e_spec_l10Yield : enterG P (G 77) 77 = some (c_spec_l10Yield, 29, #[.tmp 4]) := by kernel_rfl
noncomputable def c_spec_l1Most : Code := Go.Proofs.Try.f167.body.getD .skip
abbrev n_spec_l1Most : FuncId := 167
theorem g_spec_l1Most : G 167 = ⟨[], [], []⟩ := rfl
attribute [simp] c_spec_l1Most g_spec_l1Most Go.Proofs.Try.f167
theorem e_spec_l1Most : enterG P (G 167) 167 = some (c_spec_l1Most, 10, #[.tmp 4]) := by kernel_rfl
noncomputable def c_spec_l2Starts : Code := Go.Proofs.Try.f137.body.getD .skip
abbrev n_spec_l2Starts : FuncId := 137
theorem g_spec_l2Starts : G 137 = ⟨[(3, [0, 1, 5, 6, 7])], [(5, 15), (6, 15)], []⟩ := rfl
attribute [simp] c_spec_l2Starts g_spec_l2Starts Go.Proofs.Try.f137
theorem e_spec_l2Starts : enterG P (G 137) 137 = some (c_spec_l2Starts, 50, #[.tmp 4]) := by kernel_rfl
noncomputable def c_spec_l2Ends : Code := Go.Proofs.Try.f138.body.getD .skip
abbrev n_spec_l2Ends : FuncId := 138
theorem g_spec_l2Ends : G 138 = ⟨[(3, [0, 5, 6])], [(5, 12)], []⟩ := rfl
attribute [simp] c_spec_l2Ends g_spec_l2Ends Go.Proofs.Try.f138
theorem e_spec_l2Ends : enterG P (G 138) 138 = some (c_spec_l2Ends, 30, #[.tmp 4]) := by kernel_rfl
noncomputable def c_spec_l2Greatest : Code := Go.Proofs.Try.f180.body.getD .skip
abbrev n_spec_l2Greatest : FuncId := 180
theorem g_spec_l2Greatest : G 180 = ⟨[], [], []⟩ := rfl
attribute [simp] c_spec_l2Greatest g_spec_l2Greatest Go.Proofs.Try.f180
theorem e_spec_l2Greatest : enterG P (G 180) 180 = some (c_spec_l2Greatest, 9, #[.tmp 2]) := by kernel_rfl
noncomputable def c_spec_l2Cost : Code := Go.Proofs.Try.f181.body.getD .skip
abbrev n_spec_l2Cost : FuncId := 181
theorem g_spec_l2Cost : G 181 = ⟨[], [], []⟩ := rfl
attribute [simp] c_spec_l2Cost g_spec_l2Cost Go.Proofs.Try.f181
theorem e_spec_l2Cost : enterG P (G 181) 181 = some (c_spec_l2Cost, 38, #[.tmp 6]) := by kernel_rfl
noncomputable def c_spec_l2Of : Code := Go.Proofs.Try.f131.body.getD .skip
abbrev n_spec_l2Of : FuncId := 131
theorem g_spec_l2Of : G 131 = ⟨[(3, [0, 1, 2, 7, 8])], [(6, 11)], []⟩ := rfl
attribute [simp] c_spec_l2Of g_spec_l2Of Go.Proofs.Try.f131
theorem e_spec_l2Of : enterG P (G 131) 131 = some (c_spec_l2Of, 53, #[.tmp 6]) := by kernel_rfl
noncomputable def c_spec_l2Value : Code := Go.Proofs.Try.f78.body.getD .skip
abbrev n_spec_l2Value : FuncId := 78
theorem g_spec_l2Value : G 78 = ⟨[], [], []⟩ := rfl
attribute [simp] c_spec_l2Value g_spec_l2Value Go.Proofs.Try.f78
theorem e_spec_l2Value : enterG P (G 78) 78 = some (c_spec_l2Value, 13, #[.tmp 6]) := by kernel_rfl
noncomputable def c_spec_PriceProof : Code := Go.Proofs.Try.f12.body.getD .skip
abbrev n_spec_PriceProof : FuncId := 12
theorem g_spec_PriceProof : G 12 = ⟨[], [], []⟩ := rfl
attribute [simp] c_spec_PriceProof g_spec_PriceProof Go.Proofs.Try.f12
theorem e_spec_PriceProof : enterG P (G 12) 12 = some (c_spec_PriceProof, 37, #[.tmp 8, .tmp 9]) := by kernel_rfl
noncomputable def c_impl_within : Code := Go.Proofs.Try.f116.body.getD .skip
abbrev n_impl_within : FuncId := 116
theorem g_impl_within : G 116 = ⟨[], [], []⟩ := rfl
attribute [simp] c_impl_within g_impl_within Go.Proofs.Try.f116
theorem e_impl_within : enterG P (G 116) 116 = some (c_impl_within, 15, #[.tmp 6]) := by kernel_rfl
noncomputable def c_impl_isDate : Code := Go.Proofs.Try.f173.body.getD .skip
abbrev n_impl_isDate : FuncId := 173
theorem g_impl_isDate : G 173 = ⟨[], [], []⟩ := rfl
attribute [simp] c_impl_isDate g_impl_isDate Go.Proofs.Try.f173
theorem e_impl_isDate : enterG P (G 173) 173 = some (c_impl_isDate, 5, #[.tmp 2]) := by kernel_rfl
noncomputable def c_impl_IsJobs : Code := Go.Proofs.Try.f117.body.getD .skip
abbrev n_impl_IsJobs : FuncId := 117
theorem g_impl_IsJobs : G 117 = ⟨[(4, [8, 9, 10])], [], []⟩ := rfl
attribute [simp] c_impl_IsJobs g_impl_IsJobs Go.Proofs.Try.f117
theorem e_impl_IsJobs : enterG P (G 117) 117 = some (c_impl_IsJobs, 37, #[.tmp 2]) := by kernel_rfl
noncomputable def c_impl_isPlain : Code := Go.Proofs.Try.f150.body.getD .skip
abbrev n_impl_isPlain : FuncId := 150
theorem g_impl_isPlain : G 150 = ⟨[(2, [5, 6, 7])], [], []⟩ := rfl
attribute [simp] c_impl_isPlain g_impl_isPlain Go.Proofs.Try.f150
theorem e_impl_isPlain : enterG P (G 150) 150 = some (c_impl_isPlain, 15, #[.tmp 2]) := by kernel_rfl
noncomputable def c_impl_IsPlain : Code := Go.Proofs.Try.f81.body.getD .skip
abbrev n_impl_IsPlain : FuncId := 81
theorem g_impl_IsPlain : G 81 = ⟨[], [], []⟩ := rfl
attribute [simp] c_impl_IsPlain g_impl_IsPlain Go.Proofs.Try.f81
theorem e_impl_IsPlain : enterG P (G 81) 81 = some (c_impl_IsPlain, 9, #[.tmp 2]) := by kernel_rfl
noncomputable def c_impl_isRising : Code := Go.Proofs.Try.f187.body.getD .skip
abbrev n_impl_isRising : FuncId := 187
theorem g_impl_isRising : G 187 = ⟨[(2, [0, 3])], [(4, 9)], []⟩ := rfl
attribute [simp] c_impl_isRising g_impl_isRising Go.Proofs.Try.f187
theorem e_impl_isRising : enterG P (G 187) 187 = some (c_impl_isRising, 20, #[.tmp 2]) := by kernel_rfl
noncomputable def c_impl_isNumber : Code := Go.Proofs.Try.f118.body.getD .skip
abbrev n_impl_isNumber : FuncId := 118
theorem g_impl_isNumber : G 118 = ⟨[], [], []⟩ := rfl
attribute [simp] c_impl_isNumber g_impl_isNumber Go.Proofs.Try.f118
theorem e_impl_isNumber : enterG P (G 118) 118 = some (c_impl_isNumber, 9, #[.tmp 4]) := by kernel_rfl
noncomputable def c_impl_has : Code := Go.Proofs.Try.f154.body.getD .skip
abbrev n_impl_has : FuncId := 154
theorem g_impl_has : G 154 = ⟨[(2, [1, 7, 8, 9])], [], []⟩ := rfl
attribute [simp] c_impl_has g_impl_has Go.Proofs.Try.f154
theorem e_impl_has : enterG P (G 154) 154 = some (c_impl_has, 17, #[.tmp 4]) := by kernel_rfl
noncomputable def c_impl_areDifferent : Code := Go.Proofs.Try.f153.body.getD .skip
abbrev n_impl_areDifferent : FuncId := 153
theorem g_impl_areDifferent : G 153 = ⟨[(2, [0, 1, 7, 8, 9])], [], []⟩ := rfl
attribute [simp] c_impl_areDifferent g_impl_areDifferent Go.Proofs.Try.f153
theorem e_impl_areDifferent : enterG P (G 153) 153 = some (c_impl_areDifferent, 26, #[.tmp 4]) := by kernel_rfl
noncomputable def c_impl_isSet : Code := Go.Proofs.Try.f151.body.getD .skip
abbrev n_impl_isSet : FuncId := 151
theorem g_impl_isSet : G 151 = ⟨[], [], []⟩ := rfl
attribute [simp] c_impl_isSet g_impl_isSet Go.Proofs.Try.f151
theorem e_impl_isSet : enterG P (G 151) 151 = some (c_impl_isSet, 12, #[.tmp 4]) := by kernel_rfl
noncomputable def c_impl_compareLists : Code := Go.Proofs.Try.f152.body.getD .skip
abbrev n_impl_compareLists : FuncId := 152
theorem g_impl_compareLists : G 152 = ⟨[(2, [0, 1, 5])], [(4, 8), (5, 8)], []⟩ := rfl
attribute [simp] c_impl_compareLists g_impl_compareLists Go.Proofs.Try.f152
theorem e_impl_compareLists : enterG P (G 152) 152 = some (c_impl_compareLists, 41, #[.tmp 4]) := by kernel_rfl
noncomputable def c_impl_arePrices : Code := Go.Proofs.Try.f82.body.getD .skip
abbrev n_impl_arePrices : FuncId := 82
theorem g_impl_arePrices : G 82 = ⟨[(2, [0, 1, 8, 9, 10])], [], []⟩ := rfl
attribute [simp] c_impl_arePrices g_impl_arePrices Go.Proofs.Try.f82
theorem e_impl_arePrices : enterG P (G 82) 82 = some (c_impl_arePrices, 63, #[.tmp 4]) := by kernel_rfl
noncomputable def c_impl_isScale : Code := Go.Proofs.Try.f83.body.getD .skip
abbrev n_impl_isScale : FuncId := 83
theorem g_impl_isScale : G 83 = ⟨[], [], []⟩ := rfl
attribute [simp] c_impl_isScale g_impl_isScale Go.Proofs.Try.f83
theorem e_impl_isScale : enterG P (G 83) 83 = some (c_impl_isScale, 5, #[.tmp 2]) := by kernel_rfl
noncomputable def c_impl_isOrder : Code := Go.Proofs.Try.f84.body.getD .skip
abbrev n_impl_isOrder : FuncId := 84
theorem g_impl_isOrder : G 84 = ⟨[], [], []⟩ := rfl
attribute [simp] c_impl_isOrder g_impl_isOrder Go.Proofs.Try.f84
theorem e_impl_isOrder : enterG P (G 84) 84 = some (c_impl_isOrder, 14, #[.tmp 4]) := by kernel_rfl
noncomputable def c_impl_isFair : Code := Go.Proofs.Try.f85.body.getD .skip
abbrev n_impl_isFair : FuncId := 85
theorem g_impl_isFair : G 85 = ⟨[(2, [1, 2, 12, 13, 14]), (6, [1, 2, 7, 8, 9, 12, 13, 14, 19, 20, 21])], [], []⟩ := rfl
attribute [simp] c_impl_isFair g_impl_isFair Go.Proofs.Try.f85
theorem e_impl_isFair : enterG P (G 85) 85 = some (c_impl_isFair, 44, #[.tmp 6]) := by kernel_rfl
noncomputable def c_impl_demandOf : Code := Go.Proofs.Try.f155.body.getD .skip
abbrev n_impl_demandOf : FuncId := 155
theorem g_impl_demandOf : G 155 = ⟨[(3, [0, 5, 6, 9, 10, 11])], [(6, 12)], []⟩ := rfl
attribute [simp] c_impl_demandOf g_impl_demandOf Go.Proofs.Try.f155
theorem e_impl_demandOf : enterG P (G 155) 155 = some (c_impl_demandOf, 42, #[.tmp 4]) := by kernel_rfl
noncomputable def c_impl_yieldOf : Code := Go.Proofs.Try.f86.body.getD .skip
abbrev n_impl_yieldOf : FuncId := 86
theorem g_impl_yieldOf : G 86 = ⟨[(3, [0, 5, 8, 9, 10])], [(5, 8)], []⟩ := rfl
attribute [simp] c_impl_yieldOf g_impl_yieldOf Go.Proofs.Try.f86
theorem e_impl_yieldOf : enterG P (G 86) 86 = some (c_impl_yieldOf, 25, #[.tmp 4]) := by kernel_rfl
noncomputable def c_impl_endsOf : Code := Go.Proofs.Try.f135.body.getD .skip
abbrev n_impl_endsOf : FuncId := 135
theorem g_impl_endsOf : G 135 = ⟨[(4, [0, 5, 6, 12, 13, 14])], [(6, 12)], []⟩ := rfl
attribute [simp] c_impl_endsOf g_impl_endsOf Go.Proofs.Try.f135
theorem e_impl_endsOf : enterG P (G 135) 135 = some (c_impl_endsOf, 37, #[.tmp 4]) := by kernel_rfl
noncomputable def c_impl_add : Code := Go.Proofs.Try.f179.body.getD .skip
abbrev n_impl_add : FuncId := 179
theorem g_impl_add : G 179 = ⟨[], [], []⟩ := rfl
attribute [simp] c_impl_add g_impl_add Go.Proofs.Try.f179
theorem e_impl_add : enterG P (G 179) 179 = some (c_impl_add, 70, #[.tmp 10]) := by kernel_rfl
noncomputable def c_impl_valueOfEnds : Code := Go.Proofs.Try.f127.body.getD .skip
abbrev n_impl_valueOfEnds : FuncId := 127
theorem g_impl_valueOfEnds : G 127 = ⟨[(3, [1, 2, 7, 10, 11, 12])], [(5, 9)], []⟩ := rfl
attribute [simp] c_impl_valueOfEnds g_impl_valueOfEnds Go.Proofs.Try.f127
theorem e_impl_valueOfEnds : enterG P (G 127) 127 = some (c_impl_valueOfEnds, 29, #[.tmp 6]) := by kernel_rfl
noncomputable def c_impl_valueOf : Code := Go.Proofs.Try.f87.body.getD .skip
abbrev n_impl_valueOf : FuncId := 87
theorem g_impl_valueOf : G 87 = ⟨[], [], []⟩ := rfl
attribute [simp] c_impl_valueOf g_impl_valueOf Go.Proofs.Try.f87
theorem e_impl_valueOf : enterG P (G 87) 87 = some (c_impl_valueOf, 13, #[.tmp 6]) := by kernel_rfl
noncomputable def c_impl_PriceProof : Code := Go.Proofs.Try.f16.body.getD .skip
abbrev n_impl_PriceProof : FuncId := 16
theorem g_impl_PriceProof : G 16 = ⟨[], [], []⟩ := rfl
attribute [simp] c_impl_PriceProof g_impl_PriceProof Go.Proofs.Try.f16
theorem e_impl_PriceProof : enterG P (G 16) 16 = some (c_impl_PriceProof, 46, #[.tmp 8, .tmp 9]) := by kernel_rfl
noncomputable def c_laws_eqJob : Code := Go.Proofs.Try.f88.body.getD .skip
abbrev n_laws_eqJob : FuncId := 88
theorem g_laws_eqJob : G 88 = ⟨[], [], []⟩ := rfl
attribute [simp] c_laws_eqJob g_laws_eqJob Go.Proofs.Try.f88
theorem e_laws_eqJob : enterG P (G 88) 88 = some (c_laws_eqJob, 25, #[.tmp 4]) := by kernel_rfl
noncomputable def c_laws_eqJobS : Code := Go.Proofs.Try.f17.body.getD .skip
abbrev n_laws_eqJobS : FuncId := 17
theorem g_laws_eqJobS : G 17 = ⟨[(4, [0, 1, 5])], [(6, 8)], []⟩ := rfl
attribute [simp] c_laws_eqJobS g_laws_eqJobS Go.Proofs.Try.f17
theorem e_laws_eqJobS : enterG P (G 17) 17 = some (c_laws_eqJobS, 27, #[.tmp 4]) := by kernel_rfl
noncomputable def c_laws_eqIntS : Code := Go.Proofs.Try.f19.body.getD .skip
abbrev n_laws_eqIntS : FuncId := 19
theorem g_laws_eqIntS : G 19 = ⟨[(4, [0, 1, 5])], [(6, 8)], []⟩ := rfl
attribute [simp] c_laws_eqIntS g_laws_eqIntS Go.Proofs.Try.f19
theorem e_laws_eqIntS : enterG P (G 19) 19 = some (c_laws_eqIntS, 26, #[.tmp 4]) := by kernel_rfl
noncomputable def c_laws_eqSetPrice : Code := Go.Proofs.Try.f89.body.getD .skip
abbrev n_laws_eqSetPrice : FuncId := 89
theorem g_laws_eqSetPrice : G 89 = ⟨[], [], []⟩ := rfl
attribute [simp] c_laws_eqSetPrice g_laws_eqSetPrice Go.Proofs.Try.f89
theorem e_laws_eqSetPrice : enterG P (G 89) 89 = some (c_laws_eqSetPrice, 16, #[.tmp 4]) := by kernel_rfl
noncomputable def c_laws_eqSetPriceS : Code := Go.Proofs.Try.f18.body.getD .skip
abbrev n_laws_eqSetPriceS : FuncId := 18
theorem g_laws_eqSetPriceS : G 18 = ⟨[(4, [0, 1, 5])], [(6, 8)], []⟩ := rfl
attribute [simp] c_laws_eqSetPriceS g_laws_eqSetPriceS Go.Proofs.Try.f18
theorem e_laws_eqSetPriceS : enterG P (G 18) 18 = some (c_laws_eqSetPriceS, 27, #[.tmp 4]) := by kernel_rfl
noncomputable def c_laws_FnExactPriceProof : Code := Go.Proofs.Try.f3.body.getD .skip
abbrev n_laws_FnExactPriceProof : FuncId := 3
theorem g_laws_FnExactPriceProof : G 3 = ⟨[], [], []⟩ := rfl
attribute [simp] c_laws_FnExactPriceProof g_laws_FnExactPriceProof Go.Proofs.Try.f3
theorem e_laws_FnExactPriceProof : enterG P (G 3) 3 = some (c_laws_FnExactPriceProof, 78, #[.tmp 8]) := by kernel_rfl
noncomputable def c_laws_szTaskS : Code := Go.Proofs.Try.f90.body.getD .skip
abbrev n_laws_szTaskS : FuncId := 90
theorem g_laws_szTaskS : G 90 = ⟨[], [], []⟩ := rfl
attribute [simp] c_laws_szTaskS g_laws_szTaskS Go.Proofs.Try.f90
theorem e_laws_szTaskS : enterG P (G 90) 90 = some (c_laws_szTaskS, 12, #[.tmp 4]) := by kernel_rfl
noncomputable def c_laws_szDispatcher : Code := Go.Proofs.Try.f20.body.getD .skip
abbrev n_laws_szDispatcher : FuncId := 20
theorem g_laws_szDispatcher : G 20 = ⟨[], [], []⟩ := rfl
attribute [simp] c_laws_szDispatcher g_laws_szDispatcher Go.Proofs.Try.f20
theorem e_laws_szDispatcher : enterG P (G 20) 20 = some (c_laws_szDispatcher, 18, #[.tmp 4]) := by kernel_rfl
noncomputable def c_laws_toTask : Code := Go.Proofs.Try.f158.body.getD .skip
abbrev n_laws_toTask : FuncId := 158
theorem g_laws_toTask : G 158 = ⟨[], [], []⟩ := rfl
attribute [simp] c_laws_toTask g_laws_toTask Go.Proofs.Try.f158
theorem e_laws_toTask : enterG P (G 158) 158 = some (c_laws_toTask, 14, #[.cell 2 134]) := by kernel_rfl
noncomputable def c_laws_toTaskS : Code := Go.Proofs.Try.f94.body.getD .skip
abbrev n_laws_toTaskS : FuncId := 94
theorem g_laws_toTaskS : G 94 = ⟨[(3, [0, 3, 4])], [], []⟩ := rfl
attribute [simp] c_laws_toTaskS g_laws_toTaskS Go.Proofs.Try.f94
theorem e_laws_toTaskS : enterG P (G 94) 94 = some (c_laws_toTaskS, 23, #[.tmp 2]) := by kernel_rfl
noncomputable def c_laws_toDispatcher : Code := Go.Proofs.Try.f22.body.getD .skip
abbrev n_laws_toDispatcher : FuncId := 22
theorem g_laws_toDispatcher : G 22 = ⟨[], [], []⟩ := rfl
attribute [simp] c_laws_toDispatcher g_laws_toDispatcher Go.Proofs.Try.f22
theorem e_laws_toDispatcher : enterG P (G 22) 22 = some (c_laws_toDispatcher, 22, #[.cell 2 44]) := by kernel_rfl
noncomputable def c_spec_l3Job : Code := Go.Proofs.Try.f178.body.getD .skip
abbrev n_spec_l3Job : FuncId := 178
theorem g_spec_l3Job : G 178 = ⟨[], [], []⟩ := rfl
attribute [simp] c_spec_l3Job g_spec_l3Job Go.Proofs.Try.f178
theorem e_spec_l3Job : enterG P (G 178) 178 = some (c_spec_l3Job, 10, #[.tmp 4]) := by kernel_rfl
noncomputable def c_spec_l12Tasks : Code := Go.Proofs.Try.f156.body.getD .skip
abbrev n_spec_l12Tasks : FuncId := 156
theorem g_spec_l12Tasks : G 156 = ⟨[(2, [1, 3]), (8, [1, 3, 4, 5])], [(5, 32), (11, 24), (13, 34)], []⟩ := rfl
attribute [simp] c_spec_l12Tasks g_spec_l12Tasks Go.Proofs.Try.f156
theorem e_spec_l12Tasks : enterG P (G 156) 156 = some (c_spec_l12Tasks, 128, #[.tmp 2]) := by kernel_rfl
noncomputable def c_spec_l12Good : Code := Go.Proofs.Try.f91.body.getD .skip
abbrev n_spec_l12Good : FuncId := 91
theorem g_spec_l12Good : G 91 = ⟨[], [], []⟩ := rfl
attribute [simp] c_spec_l12Good g_spec_l12Good Go.Proofs.Try.f91
theorem e_spec_l12Good : enterG P (G 91) 91 = some (c_spec_l12Good, 25, #[.tmp 2]) := by kernel_rfl
noncomputable def c_spec_l12Own : Code := Go.Proofs.Try.f92.body.getD .skip
abbrev n_spec_l12Own : FuncId := 92
theorem g_spec_l12Own : G 92 = ⟨[], [(1, 14)], []⟩ := rfl
attribute [simp] c_spec_l12Own g_spec_l12Own Go.Proofs.Try.f92
theorem e_spec_l12Own : enterG P (G 92) 92 = some (c_spec_l12Own, 18, #[.cell 2 44]) := by kernel_rfl
noncomputable def c_spec_l12Task : Code := Go.Proofs.Try.f162.body.getD .skip
abbrev n_spec_l12Task : FuncId := 162
theorem g_spec_l12Task : G 162 = ⟨[(2, [1, 2, 5])], [], []⟩ := rfl
attribute [simp] c_spec_l12Task g_spec_l12Task Go.Proofs.Try.f162
theorem e_spec_l12Task : enterG P (G 162) 162 = some (c_spec_l12Task, 21, #[.tmp 4]) := by kernel_rfl
noncomputable def c_spec_l12Waiting : Code := Go.Proofs.Try.f106.body.getD .skip
abbrev n_spec_l12Waiting : FuncId := 106
theorem g_spec_l12Waiting : G 106 = ⟨[(3, [1, 3, 4])], [(5, 12)], []⟩ := rfl
attribute [simp] c_spec_l12Waiting g_spec_l12Waiting Go.Proofs.Try.f106
theorem e_spec_l12Waiting : enterG P (G 106) 106 = some (c_spec_l12Waiting, 33, #[.tmp 2]) := by kernel_rfl
noncomputable def c_spec_l3Gap : Code := Go.Proofs.Try.f195.body.getD .skip
abbrev n_spec_l3Gap : FuncId := 195
theorem g_spec_l3Gap : G 195 = ⟨[], [(1, 10)], []⟩ := rfl
attribute [simp] c_spec_l3Gap g_spec_l3Gap Go.Proofs.Try.f195
theorem e_spec_l3Gap : enterG P (G 195) 195 = some (c_spec_l3Gap, 52, #[.tmp 8]) := by kernel_rfl
noncomputable def c_spec_l12Ahead : Code := Go.Proofs.Try.f188.body.getD .skip
abbrev n_spec_l12Ahead : FuncId := 188
theorem g_spec_l12Ahead : G 188 = ⟨[], [], []⟩ := rfl
attribute [simp] c_spec_l12Ahead g_spec_l12Ahead Go.Proofs.Try.f188
theorem e_spec_l12Ahead : enterG P (G 188) 188 = some (c_spec_l12Ahead, 33, #[.tmp 6]) := by kernel_rfl
noncomputable def c_spec_l12First : Code := Go.Proofs.Try.f157.body.getD .skip
abbrev n_spec_l12First : FuncId := 157
theorem g_spec_l12First : G 157 = ⟨[(6, [1, 3, 4, 5])], [(8, 6)], []⟩ := rfl
attribute [simp] c_spec_l12First g_spec_l12First Go.Proofs.Try.f157
theorem e_spec_l12First : enterG P (G 157) 157 = some (c_spec_l12First, 33, #[.tmp 2]) := by kernel_rfl
noncomputable def c_spec_l12Running : Code := Go.Proofs.Try.f108.body.getD .skip
abbrev n_spec_l12Running : FuncId := 108
theorem g_spec_l12Running : G 108 = ⟨[(2, [1, 2, 5])], [(5, 24)], []⟩ := rfl
attribute [simp] c_spec_l12Running g_spec_l12Running Go.Proofs.Try.f108
theorem e_spec_l12Running : enterG P (G 108) 108 = some (c_spec_l12Running, 47, #[.tmp 4]) := by kernel_rfl
noncomputable def c_spec_l12Step : Code := Go.Proofs.Try.f93.body.getD .skip
abbrev n_spec_l12Step : FuncId := 93
theorem g_spec_l12Step : G 93 = ⟨[(3, [1, 2, 3, 4])], [], []⟩ := rfl
attribute [simp] c_spec_l12Step g_spec_l12Step Go.Proofs.Try.f93
theorem e_spec_l12Step : enterG P (G 93) 93 = some (c_spec_l12Step, 39, #[.cell 2 44]) := by kernel_rfl
noncomputable def c_spec_FinishAll : Code := Go.Proofs.Try.f21.body.getD .skip
abbrev n_spec_FinishAll : FuncId := 21
theorem g_spec_FinishAll : G 21 = ⟨[(4, [2, 4])], [], []⟩ := rfl
attribute [simp] c_spec_FinishAll g_spec_FinishAll Go.Proofs.Try.f21
theorem e_spec_FinishAll : enterG P (G 21) 21 = some (c_spec_FinishAll, 25, #[.cell 2 44, .tmp 3]) := by kernel_rfl
noncomputable def c_impl_Dispatcher_endOf : Code := Go.Proofs.Try.f119.body.getD .skip
abbrev n_impl_Dispatcher_endOf : FuncId := 119
theorem g_impl_Dispatcher_endOf : G 119 = ⟨[], [(1, 9)], []⟩ := rfl
attribute [simp] c_impl_Dispatcher_endOf g_impl_Dispatcher_endOf Go.Proofs.Try.f119
theorem e_impl_Dispatcher_endOf : enterG P (G 119) 119 = some (c_impl_Dispatcher_endOf, 15, #[.tmp 4]) := by kernel_rfl
noncomputable def c_impl_IsDispatcher : Code := Go.Proofs.Try.f48.body.getD .skip
abbrev n_impl_IsDispatcher : FuncId := 48
theorem g_impl_IsDispatcher : G 48 = ⟨[(4, [1, 30, 31, 32]), (11, [1, 4, 30, 31, 32, 109, 110, 111])], [(6, 28), (8, 34), (13, 17)], []⟩ := rfl
attribute [simp] c_impl_IsDispatcher g_impl_IsDispatcher Go.Proofs.Try.f48
theorem e_impl_IsDispatcher : enterG P (G 48) 48 = some (c_impl_IsDispatcher, 137, #[.tmp 2]) := by kernel_rfl
noncomputable def c_impl_Dispatcher_own : Code := Go.Proofs.Try.f95.body.getD .skip
abbrev n_impl_Dispatcher_own : FuncId := 95
theorem g_impl_Dispatcher_own : G 95 = ⟨[], [], []⟩ := rfl
attribute [simp] c_impl_Dispatcher_own g_impl_Dispatcher_own Go.Proofs.Try.f95
theorem e_impl_Dispatcher_own : enterG P (G 95) 95 = some (c_impl_Dispatcher_own, 14, #[.cell 2 44]) := by kernel_rfl
noncomputable def c_impl_Dispatcher_running : Code := Go.Proofs.Try.f107.body.getD .skip
abbrev n_impl_Dispatcher_running : FuncId := 107
theorem g_impl_Dispatcher_running : G 107 = ⟨[(3, [1, 3, 4]), (7, [1, 3, 4, 5, 15, 16, 17])], [(9, 17)], []⟩ := rfl
attribute [simp] c_impl_Dispatcher_running g_impl_Dispatcher_running Go.Proofs.Try.f107
theorem e_impl_Dispatcher_running : enterG P (G 107) 107 = some (c_impl_Dispatcher_running, 48, #[.tmp 2]) := by kernel_rfl
noncomputable def c_impl_Dispatcher_has : Code := Go.Proofs.Try.f161.body.getD .skip
abbrev n_impl_Dispatcher_has : FuncId := 161
theorem g_impl_Dispatcher_has : G 161 = ⟨[(2, [1, 8, 9, 10])], [], []⟩ := rfl
attribute [simp] c_impl_Dispatcher_has g_impl_Dispatcher_has Go.Proofs.Try.f161
theorem e_impl_Dispatcher_has : enterG P (G 161) 161 = some (c_impl_Dispatcher_has, 19, #[.tmp 4]) := by kernel_rfl
noncomputable def c_impl_Dispatcher_waiting : Code := Go.Proofs.Try.f105.body.getD .skip
abbrev n_impl_Dispatcher_waiting : FuncId := 105
theorem g_impl_Dispatcher_waiting : G 105 = ⟨[(3, [1, 3, 7, 8, 9])], [], []⟩ := rfl
attribute [simp] c_impl_Dispatcher_waiting g_impl_Dispatcher_waiting Go.Proofs.Try.f105
theorem e_impl_Dispatcher_waiting : enterG P (G 105) 105 = some (c_impl_Dispatcher_waiting, 31, #[.tmp 2]) := by kernel_rfl
noncomputable def c_impl_Dispatcher_rule : Code := Go.Proofs.Try.f197.body.getD .skip
abbrev n_impl_Dispatcher_rule : FuncId := 197
theorem g_impl_Dispatcher_rule : G 197 = ⟨[], [], []⟩ := rfl
attribute [simp] c_impl_Dispatcher_rule g_impl_Dispatcher_rule Go.Proofs.Try.f197
theorem e_impl_Dispatcher_rule : enterG P (G 197) 197 = some (c_impl_Dispatcher_rule, 9, #[.tmp 2]) := by kernel_rfl
noncomputable def c_impl_difference : Code := Go.Proofs.Try.f196.body.getD .skip
abbrev n_impl_difference : FuncId := 196
theorem g_impl_difference : G 196 = ⟨[], [], []⟩ := rfl
attribute [simp] c_impl_difference g_impl_difference Go.Proofs.Try.f196
theorem e_impl_difference : enterG P (G 196) 196 = some (c_impl_difference, 40, #[.tmp 6]) := by kernel_rfl
noncomputable def c_impl_Dispatcher_picked : Code := Go.Proofs.Try.f189.body.getD .skip
abbrev n_impl_Dispatcher_picked : FuncId := 189
theorem g_impl_Dispatcher_picked : G 189 = ⟨[(3, [1, 3, 7, 8, 9])], [(5, 19)], []⟩ := rfl
attribute [simp] c_impl_Dispatcher_picked g_impl_Dispatcher_picked Go.Proofs.Try.f189
theorem e_impl_Dispatcher_picked : enterG P (G 189) 189 = some (c_impl_Dispatcher_picked, 39, #[.tmp 2]) := by kernel_rfl
noncomputable def c_impl_Dispatcher_step : Code := Go.Proofs.Try.f159.body.getD .skip
abbrev n_impl_Dispatcher_step : FuncId := 159
theorem g_impl_Dispatcher_step : G 159 = ⟨[(2, [1, 2, 7, 8, 9])], [], []⟩ := rfl
attribute [simp] c_impl_Dispatcher_step g_impl_Dispatcher_step Go.Proofs.Try.f159
theorem e_impl_Dispatcher_step : enterG P (G 159) 159 = some (c_impl_Dispatcher_step, 36, #[.cell 2 44]) := by kernel_rfl
noncomputable def c_impl_Dispatcher_finished : Code := Go.Proofs.Try.f96.body.getD .skip
abbrev n_impl_Dispatcher_finished : FuncId := 96
theorem g_impl_Dispatcher_finished : G 96 = ⟨[(1, [1, 2])], [], []⟩ := rfl
attribute [simp] c_impl_Dispatcher_finished g_impl_Dispatcher_finished Go.Proofs.Try.f96
theorem e_impl_Dispatcher_finished : enterG P (G 96) 96 = some (c_impl_Dispatcher_finished, 18, #[.cell 2 44, .tmp 3]) := by kernel_rfl
noncomputable def c_impl_FinishAll : Code := Go.Proofs.Try.f23.body.getD .skip
abbrev n_impl_FinishAll : FuncId := 23
theorem g_impl_FinishAll : G 23 = ⟨[], [], []⟩ := rfl
attribute [simp] c_impl_FinishAll g_impl_FinishAll Go.Proofs.Try.f23
theorem e_impl_FinishAll : enterG P (G 23) 23 = some (c_impl_FinishAll, 13, #[.cell 2 44, .tmp 3]) := by kernel_rfl
noncomputable def c_laws_eqTask : Code := Go.Proofs.Try.f160.body.getD .skip
abbrev n_laws_eqTask : FuncId := 160
theorem g_laws_eqTask : G 160 = ⟨[], [], []⟩ := rfl
attribute [simp] c_laws_eqTask g_laws_eqTask Go.Proofs.Try.f160
theorem e_laws_eqTask : enterG P (G 160) 160 = some (c_laws_eqTask, 20, #[.tmp 4]) := by kernel_rfl
noncomputable def c_laws_eqTaskS : Code := Go.Proofs.Try.f97.body.getD .skip
abbrev n_laws_eqTaskS : FuncId := 97
theorem g_laws_eqTaskS : G 97 = ⟨[(4, [0, 1, 5])], [(6, 8)], []⟩ := rfl
attribute [simp] c_laws_eqTaskS g_laws_eqTaskS Go.Proofs.Try.f97
theorem e_laws_eqTaskS : enterG P (G 97) 97 = some (c_laws_eqTaskS, 27, #[.tmp 4]) := by kernel_rfl
noncomputable def c_laws_eqDispatcher : Code := Go.Proofs.Try.f24.body.getD .skip
abbrev n_laws_eqDispatcher : FuncId := 24
theorem g_laws_eqDispatcher : G 24 = ⟨[], [], []⟩ := rfl
attribute [simp] c_laws_eqDispatcher g_laws_eqDispatcher Go.Proofs.Try.f24
theorem e_laws_eqDispatcher : enterG P (G 24) 24 = some (c_laws_eqDispatcher, 32, #[.tmp 4]) := by kernel_rfl
noncomputable def c_laws_markJobS : Code := Go.Proofs.Try.f98.body.getD .skip
abbrev n_laws_markJobS : FuncId := 98
theorem g_laws_markJobS : G 98 = ⟨[(2, [0, 1, 5])], [], []⟩ := rfl
attribute [simp] c_laws_markJobS g_laws_markJobS Go.Proofs.Try.f98
theorem e_laws_markJobS : enterG P (G 98) 98 = some (c_laws_markJobS, 41, #[.tmp 4]) := by kernel_rfl
noncomputable def c_laws_markTaskS : Code := Go.Proofs.Try.f99.body.getD .skip
abbrev n_laws_markTaskS : FuncId := 99
theorem g_laws_markTaskS : G 99 = ⟨[(2, [0, 1, 5])], [], []⟩ := rfl
attribute [simp] c_laws_markTaskS g_laws_markTaskS Go.Proofs.Try.f99
theorem e_laws_markTaskS : enterG P (G 99) 99 = some (c_laws_markTaskS, 34, #[.tmp 4]) := by kernel_rfl
noncomputable def c_laws_markDispatcher : Code := Go.Proofs.Try.f25.body.getD .skip
abbrev n_laws_markDispatcher : FuncId := 25
theorem g_laws_markDispatcher : G 25 = ⟨[], [], []⟩ := rfl
attribute [simp] c_laws_markDispatcher g_laws_markDispatcher Go.Proofs.Try.f25
theorem e_laws_markDispatcher : enterG P (G 25) 25 = some (c_laws_markDispatcher, 14, #[.tmp 4]) := by kernel_rfl
noncomputable def c_laws_heldJobS : Code := Go.Proofs.Try.f100.body.getD .skip
abbrev n_laws_heldJobS : FuncId := 100
theorem g_laws_heldJobS : G 100 = ⟨[(2, [0, 1, 5])], [], []⟩ := rfl
attribute [simp] c_laws_heldJobS g_laws_heldJobS Go.Proofs.Try.f100
theorem e_laws_heldJobS : enterG P (G 100) 100 = some (c_laws_heldJobS, 49, #[.tmp 4]) := by kernel_rfl
noncomputable def c_laws_heldTaskS : Code := Go.Proofs.Try.f101.body.getD .skip
abbrev n_laws_heldTaskS : FuncId := 101
theorem g_laws_heldTaskS : G 101 = ⟨[(2, [0, 1, 5])], [], []⟩ := rfl
attribute [simp] c_laws_heldTaskS g_laws_heldTaskS Go.Proofs.Try.f101
theorem e_laws_heldTaskS : enterG P (G 101) 101 = some (c_laws_heldTaskS, 40, #[.tmp 4]) := by kernel_rfl
noncomputable def c_laws_heldDispatcher : Code := Go.Proofs.Try.f26.body.getD .skip
abbrev n_laws_heldDispatcher : FuncId := 26
theorem g_laws_heldDispatcher : G 26 = ⟨[], [], []⟩ := rfl
attribute [simp] c_laws_heldDispatcher g_laws_heldDispatcher Go.Proofs.Try.f26
theorem e_laws_heldDispatcher : enterG P (G 26) 26 = some (c_laws_heldDispatcher, 18, #[.tmp 4]) := by kernel_rfl
noncomputable def c_laws_FnExactFinishAll : Code := Go.Proofs.Try.f4.body.getD .skip
abbrev n_laws_FnExactFinishAll : FuncId := 4
theorem g_laws_FnExactFinishAll : G 4 = ⟨[], [(10, 3)], []⟩ := rfl
attribute [simp] c_laws_FnExactFinishAll g_laws_FnExactFinishAll Go.Proofs.Try.f4
theorem e_laws_FnExactFinishAll : enterG P (G 4) 4 = some (c_laws_FnExactFinishAll, 96, #[.tmp 2]) := by kernel_rfl
noncomputable def c_laws_vBig : Code := Go.Proofs.Try.f27.body.getD .skip
abbrev n_laws_vBig : FuncId := 27
theorem g_laws_vBig : G 27 = ⟨[], [], []⟩ := rfl
attribute [simp] c_laws_vBig g_laws_vBig Go.Proofs.Try.f27
theorem e_laws_vBig : enterG P (G 27) 27 = some (c_laws_vBig, 6, #[.tmp 2]) := by kernel_rfl
noncomputable def c_spec_l1Cur_next : Code := Go.Proofs.Try.f165.body.getD .skip
abbrev n_spec_l1Cur_next : FuncId := 165
theorem g_spec_l1Cur_next : G 165 = ⟨[], [(2, 9), (3, 8), (6, 9)], []⟩ := rfl
attribute [simp] c_spec_l1Cur_next g_spec_l1Cur_next Go.Proofs.Try.f165
theorem e_spec_l1Cur_next : enterG P (G 165) 165 = some (c_spec_l1Cur_next, 62, #[.tmp 2]) := by kernel_rfl
noncomputable def c_spec_l1Cur_pick : Code := Go.Proofs.Try.f110.body.getD .skip
abbrev n_spec_l1Cur_pick : FuncId := 110
theorem g_spec_l1Cur_pick : G 110 = ⟨[], [], []⟩ := rfl
attribute [simp] c_spec_l1Cur_pick g_spec_l1Cur_pick Go.Proofs.Try.f110
theorem e_spec_l1Cur_pick : enterG P (G 110) 110 = some (c_spec_l1Cur_pick, 20, #[.tmp 4]) := by kernel_rfl
noncomputable def c_spec_l1Cur_among : Code := Go.Proofs.Try.f166.body.getD .skip
abbrev n_spec_l1Cur_among : FuncId := 166
theorem g_spec_l1Cur_among : G 166 = ⟨[], [], []⟩ := rfl
attribute [simp] c_spec_l1Cur_among g_spec_l1Cur_among Go.Proofs.Try.f166
theorem e_spec_l1Cur_among : enterG P (G 166) 166 = some (c_spec_l1Cur_among, 12, #[.tmp 4]) := by kernel_rfl
noncomputable def c_spec_l1Cur_job12 : Code := Go.Proofs.Try.f168.body.getD .skip
abbrev n_spec_l1Cur_job12 : FuncId := 168
theorem g_spec_l1Cur_job12 : G 168 = ⟨[], [], []⟩ := rfl
attribute [simp] c_spec_l1Cur_job12 g_spec_l1Cur_job12 Go.Proofs.Try.f168
theorem e_spec_l1Cur_job12 : enterG P (G 168) 168 = some (c_spec_l1Cur_job12, 20, #[.cell 4 58]) := by kernel_rfl
noncomputable def c_spec_l1Cur_act12 : Code := Go.Proofs.Try.f112.body.getD .skip
abbrev n_spec_l1Cur_act12 : FuncId := 112
theorem g_spec_l1Cur_act12 : G 112 = ⟨[], [], []⟩ := rfl
attribute [simp] c_spec_l1Cur_act12 g_spec_l1Cur_act12 Go.Proofs.Try.f112
theorem e_spec_l1Cur_act12 : enterG P (G 112) 112 = some (c_spec_l1Cur_act12, 77, #[.cell 4 61]) := by kernel_rfl
noncomputable def c_spec_l12Plain : Code := Go.Proofs.Try.f169.body.getD .skip
abbrev n_spec_l12Plain : FuncId := 169
theorem g_spec_l12Plain : G 169 = ⟨[], [], []⟩ := rfl
attribute [simp] c_spec_l12Plain g_spec_l12Plain Go.Proofs.Try.f169
theorem e_spec_l12Plain : enterG P (G 169) 169 = some (c_spec_l12Plain, 54, #[.tmp 2]) := by kernel_rfl
noncomputable def c_spec_l12Idle : Code := Go.Proofs.Try.f191.body.getD .skip
abbrev n_spec_l12Idle : FuncId := 191
theorem g_spec_l12Idle : G 191 = ⟨[], [], []⟩ := rfl
attribute [simp] c_spec_l12Idle g_spec_l12Idle Go.Proofs.Try.f191
theorem e_spec_l12Idle : enterG P (G 191) 191 = some (c_spec_l12Idle, 15, #[.tmp 4]) := by kernel_rfl
noncomputable def c_spec_l12Used : Code := Go.Proofs.Try.f192.body.getD .skip
abbrev n_spec_l12Used : FuncId := 192
theorem g_spec_l12Used : G 192 = ⟨[(2, [1, 2, 5])], [], []⟩ := rfl
attribute [simp] c_spec_l12Used g_spec_l12Used Go.Proofs.Try.f192
theorem e_spec_l12Used : enterG P (G 192) 192 = some (c_spec_l12Used, 21, #[.tmp 4]) := by kernel_rfl
noncomputable def c_spec_l12May : Code := Go.Proofs.Try.f170.body.getD .skip
abbrev n_spec_l12May : FuncId := 170
theorem g_spec_l12May : G 170 = ⟨[], [], []⟩ := rfl
attribute [simp] c_spec_l12May g_spec_l12May Go.Proofs.Try.f170
theorem e_spec_l12May : enterG P (G 170) 170 = some (c_spec_l12May, 38, #[.tmp 4]) := by kernel_rfl
noncomputable def c_spec_l12Run : Code := Go.Proofs.Try.f171.body.getD .skip
abbrev n_spec_l12Run : FuncId := 171
theorem g_spec_l12Run : G 171 = ⟨[(3, [1, 4, 5, 6])], [], []⟩ := rfl
attribute [simp] c_spec_l12Run g_spec_l12Run Go.Proofs.Try.f171
theorem e_spec_l12Run : enterG P (G 171) 171 = some (c_spec_l12Run, 17, #[.cell 4 44]) := by kernel_rfl
noncomputable def c_spec_l12Cancel : Code := Go.Proofs.Try.f172.body.getD .skip
abbrev n_spec_l12Cancel : FuncId := 172
theorem g_spec_l12Cancel : G 172 = ⟨[(4, [1, 4, 5, 6])], [(2, 11), (7, 10)], []⟩ := rfl
attribute [simp] c_spec_l12Cancel g_spec_l12Cancel Go.Proofs.Try.f172
theorem e_spec_l12Cancel : enterG P (G 172) 172 = some (c_spec_l12Cancel, 50, #[.cell 4 44]) := by kernel_rfl
noncomputable def c_spec_l12Act : Code := Go.Proofs.Try.f113.body.getD .skip
abbrev n_spec_l12Act : FuncId := 113
theorem g_spec_l12Act : G 113 = ⟨[], [], []⟩ := rfl
attribute [simp] c_spec_l12Act g_spec_l12Act Go.Proofs.Try.f113
theorem e_spec_l12Act : enterG P (G 113) 113 = some (c_spec_l12Act, 74, #[.cell 4 44, .tmp 5]) := by kernel_rfl
noncomputable def c_spec_l1Cur_dispatcher : Code := Go.Proofs.Try.f111.body.getD .skip
abbrev n_spec_l1Cur_dispatcher : FuncId := 111
theorem g_spec_l1Cur_dispatcher : G 111 = ⟨[(3, [0, 2, 3, 4])], [(5, 9), (18, 13), (21, 6), (24, 8), (27, 10)], []⟩ := rfl
attribute [simp] c_spec_l1Cur_dispatcher g_spec_l1Cur_dispatcher Go.Proofs.Try.f111
theorem e_spec_l1Cur_dispatcher : enterG P (G 111) 111 = some (c_spec_l1Cur_dispatcher, 127, #[.cell 2 44]) := by kernel_rfl
noncomputable def c_spec_DrawIsDispatcher : Code := Go.Proofs.Try.f102.body.getD .skip
abbrev n_spec_DrawIsDispatcher : FuncId := 102
theorem g_spec_DrawIsDispatcher : G 102 = ⟨[], [], []⟩ := rfl
attribute [simp] c_spec_DrawIsDispatcher g_spec_DrawIsDispatcher Go.Proofs.Try.f102
theorem e_spec_DrawIsDispatcher : enterG P (G 102) 102 = some (c_spec_DrawIsDispatcher, 9, #[.cell 2 44]) := by kernel_rfl
noncomputable def c_spec_DrawEndsSoFar : Code := Go.Proofs.Try.f28.body.getD .skip
abbrev n_spec_DrawEndsSoFar : FuncId := 28
theorem g_spec_DrawEndsSoFar : G 28 = ⟨[], [], []⟩ := rfl
attribute [simp] c_spec_DrawEndsSoFar g_spec_DrawEndsSoFar Go.Proofs.Try.f28
theorem e_spec_DrawEndsSoFar : enterG P (G 28) 28 = some (c_spec_DrawEndsSoFar, 5, #[.cell 2 44]) := by kernel_rfl
noncomputable def c_impl_Dispatcher_ends : Code := Go.Proofs.Try.f103.body.getD .skip
abbrev n_impl_Dispatcher_ends : FuncId := 103
theorem g_impl_Dispatcher_ends : G 103 = ⟨[(3, [1, 3, 8, 9]), (7, [1, 3, 16, 17, 18])], [(9, 6)], []⟩ := rfl
attribute [simp] c_impl_Dispatcher_ends g_impl_Dispatcher_ends Go.Proofs.Try.f103
theorem e_impl_Dispatcher_ends : enterG P (G 103) 103 = some (c_impl_Dispatcher_ends, 31, #[.tmp 2]) := by kernel_rfl
noncomputable def c_impl_EndsSoFar : Code := Go.Proofs.Try.f29.body.getD .skip
abbrev n_impl_EndsSoFar : FuncId := 29
theorem g_impl_EndsSoFar : G 29 = ⟨[], [], []⟩ := rfl
attribute [simp] c_impl_EndsSoFar g_impl_EndsSoFar Go.Proofs.Try.f29
theorem e_impl_EndsSoFar : enterG P (G 29) 29 = some (c_impl_EndsSoFar, 9, #[.tmp 2, .tmp 3]) := by kernel_rfl
noncomputable def c_spec_l12Ends : Code := Go.Proofs.Try.f104.body.getD .skip
abbrev n_spec_l12Ends : FuncId := 104
theorem g_spec_l12Ends : G 104 = ⟨[(3, [1, 3, 4]), (7, [1, 3, 5])], [(10, 13)], []⟩ := rfl
attribute [simp] c_spec_l12Ends g_spec_l12Ends Go.Proofs.Try.f104
theorem e_spec_l12Ends : enterG P (G 104) 104 = some (c_spec_l12Ends, 45, #[.tmp 2]) := by kernel_rfl
noncomputable def c_spec_EndsSoFar : Code := Go.Proofs.Try.f30.body.getD .skip
abbrev n_spec_EndsSoFar : FuncId := 30
theorem g_spec_EndsSoFar : G 30 = ⟨[], [], []⟩ := rfl
attribute [simp] c_spec_EndsSoFar g_spec_EndsSoFar Go.Proofs.Try.f30
theorem e_spec_EndsSoFar : enterG P (G 30) 30 = some (c_spec_EndsSoFar, 10, #[.tmp 2, .tmp 3]) := by kernel_rfl
noncomputable def c_impl_WaitingJobs : Code := Go.Proofs.Try.f31.body.getD .skip
abbrev n_impl_WaitingJobs : FuncId := 31
theorem g_impl_WaitingJobs : G 31 = ⟨[], [], []⟩ := rfl
attribute [simp] c_impl_WaitingJobs g_impl_WaitingJobs Go.Proofs.Try.f31
theorem e_impl_WaitingJobs : enterG P (G 31) 31 = some (c_impl_WaitingJobs, 9, #[.tmp 2, .tmp 3]) := by kernel_rfl
noncomputable def c_spec_WaitingJobs : Code := Go.Proofs.Try.f32.body.getD .skip
abbrev n_spec_WaitingJobs : FuncId := 32
theorem g_spec_WaitingJobs : G 32 = ⟨[], [], []⟩ := rfl
attribute [simp] c_spec_WaitingJobs g_spec_WaitingJobs Go.Proofs.Try.f32
theorem e_spec_WaitingJobs : enterG P (G 32) 32 = some (c_spec_WaitingJobs, 10, #[.tmp 2, .tmp 3]) := by kernel_rfl
noncomputable def c_impl_RunningJobs : Code := Go.Proofs.Try.f33.body.getD .skip
abbrev n_impl_RunningJobs : FuncId := 33
theorem g_impl_RunningJobs : G 33 = ⟨[], [], []⟩ := rfl
attribute [simp] c_impl_RunningJobs g_impl_RunningJobs Go.Proofs.Try.f33
theorem e_impl_RunningJobs : enterG P (G 33) 33 = some (c_impl_RunningJobs, 9, #[.tmp 2, .tmp 3]) := by kernel_rfl
noncomputable def c_spec_RunningJobs : Code := Go.Proofs.Try.f34.body.getD .skip
abbrev n_spec_RunningJobs : FuncId := 34
theorem g_spec_RunningJobs : G 34 = ⟨[(5, [1, 4, 5])], [], []⟩ := rfl
attribute [simp] c_spec_RunningJobs g_spec_RunningJobs Go.Proofs.Try.f34
theorem e_spec_RunningJobs : enterG P (G 34) 34 = some (c_spec_RunningJobs, 24, #[.tmp 2, .tmp 3]) := by kernel_rfl
noncomputable def c_laws_vInts : Code := Go.Proofs.Try.f35.body.getD .skip
abbrev n_laws_vInts : FuncId := 35
theorem g_laws_vInts : G 35 = ⟨[(4, [0, 1, 5])], [(6, 8)], []⟩ := rfl
attribute [simp] c_laws_vInts g_laws_vInts Go.Proofs.Try.f35
theorem e_laws_vInts : enterG P (G 35) 35 = some (c_laws_vInts, 26, #[.tmp 4]) := by kernel_rfl
noncomputable def c_spec_IsDispatcher : Code := Go.Proofs.Try.f36.body.getD .skip
abbrev n_spec_IsDispatcher : FuncId := 36
theorem g_spec_IsDispatcher : G 36 = ⟨[], [], []⟩ := rfl
attribute [simp] c_spec_IsDispatcher g_spec_IsDispatcher Go.Proofs.Try.f36
theorem e_spec_IsDispatcher : enterG P (G 36) 36 = some (c_spec_IsDispatcher, 5, #[.tmp 2]) := by kernel_rfl
noncomputable def c_impl_Act_named : Code := Go.Proofs.Try.f163.body.getD .skip
abbrev n_impl_Act_named : FuncId := 163
theorem g_impl_Act_named : G 163 = ⟨[], [], []⟩ := rfl
attribute [simp] c_impl_Act_named g_impl_Act_named Go.Proofs.Try.f163
theorem e_impl_Act_named : enterG P (G 163) 163 = some (c_impl_Act_named, 24, #[.tmp 2]) := by kernel_rfl
noncomputable def c_impl_Dispatcher_without : Code := Go.Proofs.Try.f190.body.getD .skip
abbrev n_impl_Dispatcher_without : FuncId := 190
theorem g_impl_Dispatcher_without : G 190 = ⟨[(3, [1, 2, 4, 19, 20, 21])], [(1, 9)], []⟩ := rfl
attribute [simp] c_impl_Dispatcher_without g_impl_Dispatcher_without Go.Proofs.Try.f190
theorem e_impl_Dispatcher_without : enterG P (G 190) 190 = some (c_impl_Dispatcher_without, 41, #[.cell 4 44]) := by kernel_rfl
noncomputable def c_impl_Dispatcher_done : Code := Go.Proofs.Try.f164.body.getD .skip
abbrev n_impl_Dispatcher_done : FuncId := 164
theorem g_impl_Dispatcher_done : G 164 = ⟨[(12, [2, 3, 4, 7]), (29, [2, 4, 96, 97, 98])], [], []⟩ := rfl
attribute [simp] c_impl_Dispatcher_done g_impl_Dispatcher_done Go.Proofs.Try.f164
theorem e_impl_Dispatcher_done : enterG P (G 164) 164 = some (c_impl_Dispatcher_done, 115, #[.cell 4 44, .tmp 5]) := by kernel_rfl
noncomputable def c_impl_Dispatcher_acted : Code := Go.Proofs.Try.f109.body.getD .skip
abbrev n_impl_Dispatcher_acted : FuncId := 109
theorem g_impl_Dispatcher_acted : G 109 = ⟨[], [], [(3, 9, [(3, 1), (8, 7)])]⟩ := rfl
attribute [simp] c_impl_Dispatcher_acted g_impl_Dispatcher_acted Go.Proofs.Try.f109
theorem e_impl_Dispatcher_acted : enterG P (G 109) 109 = some (c_impl_Dispatcher_acted, 28, #[.cell 4 44, .tmp 5]) := by kernel_rfl
noncomputable def c_impl_ActDispatcher : Code := Go.Proofs.Try.f37.body.getD .skip
abbrev n_impl_ActDispatcher : FuncId := 37
theorem g_impl_ActDispatcher : G 37 = ⟨[], [], []⟩ := rfl
attribute [simp] c_impl_ActDispatcher g_impl_ActDispatcher Go.Proofs.Try.f37
theorem e_impl_ActDispatcher : enterG P (G 37) 37 = some (c_impl_ActDispatcher, 15, #[.cell 4 44, .tmp 5]) := by kernel_rfl
noncomputable def c_laws_FnDispatchTimes : Code := Go.Proofs.Try.f5.body.getD .skip
abbrev n_laws_FnDispatchTimes : FuncId := 5
theorem g_laws_FnDispatchTimes : G 5 = ⟨[(15, [3, 4, 8, 12, 16]), (21, [3, 4, 8, 12, 17, 18])], [(17, 20), (25, 9)], []⟩ := rfl
attribute [simp] c_laws_FnDispatchTimes g_laws_FnDispatchTimes Go.Proofs.Try.f5
theorem e_laws_FnDispatchTimes : enterG P (G 5) 5 = some (c_laws_FnDispatchTimes, 186, #[.tmp 2]) := by kernel_rfl
noncomputable def c_spec_DrawNewDispatcher : Code := Go.Proofs.Try.f38.body.getD .skip
abbrev n_spec_DrawNewDispatcher : FuncId := 38
theorem g_spec_DrawNewDispatcher : G 38 = ⟨[], [], []⟩ := rfl
attribute [simp] c_spec_DrawNewDispatcher g_spec_DrawNewDispatcher Go.Proofs.Try.f38
theorem e_spec_DrawNewDispatcher : enterG P (G 38) 38 = some (c_spec_DrawNewDispatcher, 13, #[.tmp 2, .tmp 3]) := by kernel_rfl
noncomputable def c_impl_NewDispatcher : Code := Go.Proofs.Try.f39.body.getD .skip
abbrev n_impl_NewDispatcher : FuncId := 39
theorem g_impl_NewDispatcher : G 39 = ⟨[], [], []⟩ := rfl
attribute [simp] c_impl_NewDispatcher g_impl_NewDispatcher Go.Proofs.Try.f39
theorem e_impl_NewDispatcher : enterG P (G 39) 39 = some (c_impl_NewDispatcher, 15, #[.cell 4 44, .tmp 5]) := by kernel_rfl
noncomputable def c_spec_NewDispatcher : Code := Go.Proofs.Try.f40.body.getD .skip
abbrev n_spec_NewDispatcher : FuncId := 40
theorem g_spec_NewDispatcher : G 40 = ⟨[], [], []⟩ := rfl
attribute [simp] c_spec_NewDispatcher g_spec_NewDispatcher Go.Proofs.Try.f40
theorem e_spec_NewDispatcher : enterG P (G 40) 40 = some (c_spec_NewDispatcher, 15, #[.cell 4 44, .tmp 5]) := by kernel_rfl
noncomputable def c_laws_vCut : Code := Go.Proofs.Try.f42.body.getD .skip
abbrev n_laws_vCut : FuncId := 42
theorem g_laws_vCut : G 42 = ⟨[], [], []⟩ := rfl
attribute [simp] c_laws_vCut g_laws_vCut Go.Proofs.Try.f42
theorem e_laws_vCut : enterG P (G 42) 42 = some (c_laws_vCut, 20, #[.tmp 4]) := by kernel_rfl
noncomputable def c_spec_DrawActDispatcher : Code := Go.Proofs.Try.f41.body.getD .skip
abbrev n_spec_DrawActDispatcher : FuncId := 41
theorem g_spec_DrawActDispatcher : G 41 = ⟨[], [(3, 4)], []⟩ := rfl
attribute [simp] c_spec_DrawActDispatcher g_spec_DrawActDispatcher Go.Proofs.Try.f41
theorem e_spec_DrawActDispatcher : enterG P (G 41) 41 = some (c_spec_DrawActDispatcher, 15, #[.cell 2 44, .cell 3 61]) := by kernel_rfl
noncomputable def c_spec_ActDispatcher : Code := Go.Proofs.Try.f43.body.getD .skip
abbrev n_spec_ActDispatcher : FuncId := 43
theorem g_spec_ActDispatcher : G 43 = ⟨[], [], []⟩ := rfl
attribute [simp] c_spec_ActDispatcher g_spec_ActDispatcher Go.Proofs.Try.f43
theorem e_spec_ActDispatcher : enterG P (G 43) 43 = some (c_spec_ActDispatcher, 15, #[.cell 4 44, .tmp 5]) := by kernel_rfl
noncomputable def c_spec_DrawPlayActs : Code := Go.Proofs.Try.f44.body.getD .skip
abbrev n_spec_DrawPlayActs : FuncId := 44
theorem g_spec_DrawPlayActs : G 44 = ⟨[(5, [2, 4, 5, 6, 7])], [], []⟩ := rfl
attribute [simp] c_spec_DrawPlayActs g_spec_DrawPlayActs Go.Proofs.Try.f44
theorem e_spec_DrawPlayActs : enterG P (G 44) 44 = some (c_spec_DrawPlayActs, 28, #[.cell 2 44, .tmp 3]) := by kernel_rfl
noncomputable def c_impl_PlayActs : Code := Go.Proofs.Try.f45.body.getD .skip
abbrev n_impl_PlayActs : FuncId := 45
theorem g_impl_PlayActs : G 45 = ⟨[(5, [1, 4, 7, 18, 19, 20])], [], []⟩ := rfl
attribute [simp] c_impl_PlayActs g_impl_PlayActs Go.Proofs.Try.f45
theorem e_impl_PlayActs : enterG P (G 45) 45 = some (c_impl_PlayActs, 40, #[.cell 4 44, .tmp 5, .tmp 6]) := by kernel_rfl
noncomputable def c_spec_PlayActs : Code := Go.Proofs.Try.f46.body.getD .skip
abbrev n_spec_PlayActs : FuncId := 46
theorem g_spec_PlayActs : G 46 = ⟨[(5, [1, 4, 7, 8])], [(7, 10)], []⟩ := rfl
attribute [simp] c_spec_PlayActs g_spec_PlayActs Go.Proofs.Try.f46
theorem e_spec_PlayActs : enterG P (G 46) 46 = some (c_spec_PlayActs, 40, #[.cell 4 44, .tmp 5, .tmp 6]) := by kernel_rfl
noncomputable def c_laws_vJobs : Code := Go.Proofs.Try.f114.body.getD .skip
abbrev n_laws_vJobs : FuncId := 114
theorem g_laws_vJobs : G 114 = ⟨[(4, [0, 1, 5])], [(6, 8)], []⟩ := rfl
attribute [simp] c_laws_vJobs g_laws_vJobs Go.Proofs.Try.f114
theorem e_laws_vJobs : enterG P (G 114) 114 = some (c_laws_vJobs, 26, #[.tmp 4]) := by kernel_rfl
noncomputable def c_laws_vTasks : Code := Go.Proofs.Try.f115.body.getD .skip
abbrev n_laws_vTasks : FuncId := 115
theorem g_laws_vTasks : G 115 = ⟨[(4, [0, 1, 5])], [(6, 8)], []⟩ := rfl
attribute [simp] c_laws_vTasks g_laws_vTasks Go.Proofs.Try.f115
theorem e_laws_vTasks : enterG P (G 115) 115 = some (c_laws_vTasks, 26, #[.tmp 4]) := by kernel_rfl
noncomputable def c_laws_vDispatcher : Code := Go.Proofs.Try.f47.body.getD .skip
abbrev n_laws_vDispatcher : FuncId := 47
theorem g_laws_vDispatcher : G 47 = ⟨[], [], []⟩ := rfl
attribute [simp] c_laws_vDispatcher g_laws_vDispatcher Go.Proofs.Try.f47
theorem e_laws_vDispatcher : enterG P (G 47) 47 = some (c_laws_vDispatcher, 38, #[.tmp 4]) := by kernel_rfl
noncomputable def c_laws_vAt : Code := Go.Proofs.Try.f49.body.getD .skip
abbrev n_laws_vAt : FuncId := 49
theorem g_laws_vAt : G 49 = ⟨[], [], []⟩ := rfl
attribute [simp] c_laws_vAt g_laws_vAt Go.Proofs.Try.f49
theorem e_laws_vAt : enterG P (G 49) 49 = some (c_laws_vAt, 20, #[.tmp 4]) := by kernel_rfl
noncomputable def c_laws_FnDispatchers : Code := Go.Proofs.Try.f6.body.getD .skip
abbrev n_laws_FnDispatchers : FuncId := 6
theorem g_laws_FnDispatchers : G 6 = ⟨[], [(12, 40)], []⟩ := rfl
attribute [simp] c_laws_FnDispatchers g_laws_FnDispatchers Go.Proofs.Try.f6
theorem e_laws_FnDispatchers : enterG P (G 6) 6 = some (c_laws_FnDispatchers, 191, #[.tmp 2]) := by kernel_rfl
noncomputable def c_spec_l1Cur_one : Code := Go.Proofs.Try.f175.body.getD .skip
abbrev n_spec_l1Cur_one : FuncId := 175
theorem g_spec_l1Cur_one : G 175 = ⟨[], [], []⟩ := rfl
attribute [simp] c_spec_l1Cur_one g_spec_l1Cur_one Go.Proofs.Try.f175
theorem e_spec_l1Cur_one : enterG P (G 175) 175 = some (c_spec_l1Cur_one, 9, #[.tmp 4]) := by kernel_rfl
noncomputable def c_spec_l1Cur_job : Code := Go.Proofs.Try.f193.body.getD .skip
abbrev n_spec_l1Cur_job : FuncId := 193
theorem g_spec_l1Cur_job : G 193 = ⟨[], [], []⟩ := rfl
attribute [simp] c_spec_l1Cur_job g_spec_l1Cur_job Go.Proofs.Try.f193
theorem e_spec_l1Cur_job : enterG P (G 193) 193 = some (c_spec_l1Cur_job, 20, #[.cell 4 58]) := by kernel_rfl
noncomputable def c_spec_l1Cur_spoiltJob : Code := Go.Proofs.Try.f176.body.getD .skip
abbrev n_spec_l1Cur_spoiltJob : FuncId := 176
theorem g_spec_l1Cur_spoiltJob : G 176 = ⟨[], [], []⟩ := rfl
attribute [simp] c_spec_l1Cur_spoiltJob g_spec_l1Cur_spoiltJob Go.Proofs.Try.f176
theorem e_spec_l1Cur_spoiltJob : enterG P (G 176) 176 = some (c_spec_l1Cur_spoiltJob, 30, #[.cell 4 58]) := by kernel_rfl
noncomputable def c_spec_l1Cur_someJobs : Code := Go.Proofs.Try.f174.body.getD .skip
abbrev n_spec_l1Cur_someJobs : FuncId := 174
theorem g_spec_l1Cur_someJobs : G 174 = ⟨[(4, [0, 1, 2, 7, 8]), (11, [0, 1, 7])], [], []⟩ := rfl
attribute [simp] c_spec_l1Cur_someJobs g_spec_l1Cur_someJobs Go.Proofs.Try.f174
theorem e_spec_l1Cur_someJobs : enterG P (G 174) 174 = some (c_spec_l1Cur_someJobs, 71, #[.tmp 6]) := by kernel_rfl
noncomputable def c_spec_l1Cur_some5 : Code := Go.Proofs.Try.f120.body.getD .skip
abbrev n_spec_l1Cur_some5 : FuncId := 120
theorem g_spec_l1Cur_some5 : G 120 = ⟨[(3, [0, 3, 4])], [], []⟩ := rfl
attribute [simp] c_spec_l1Cur_some5 g_spec_l1Cur_some5 Go.Proofs.Try.f120
theorem e_spec_l1Cur_some5 : enterG P (G 120) 120 = some (c_spec_l1Cur_some5, 52, #[.tmp 2]) := by kernel_rfl
noncomputable def c_spec_l5Rests : Code := Go.Proofs.Try.f142.body.getD .skip
abbrev n_spec_l5Rests : FuncId := 142
theorem g_spec_l5Rests : G 142 = ⟨[(3, [0, 3, 4])], [], []⟩ := rfl
attribute [simp] c_spec_l5Rests g_spec_l5Rests Go.Proofs.Try.f142
theorem e_spec_l5Rests : enterG P (G 142) 142 = some (c_spec_l5Rests, 21, #[.tmp 2]) := by kernel_rfl
noncomputable def c_spec_l1Own : Code := Go.Proofs.Try.f182.body.getD .skip
abbrev n_spec_l1Own : FuncId := 182
theorem g_spec_l1Own : G 182 = ⟨[], [], []⟩ := rfl
attribute [simp] c_spec_l1Own g_spec_l1Own Go.Proofs.Try.f182
theorem e_spec_l1Own : enterG P (G 182) 182 = some (c_spec_l1Own, 6, #[.tmp 2]) := by kernel_rfl
noncomputable def c_spec_l5Pick : Code := Go.Proofs.Try.f183.body.getD .skip
abbrev n_spec_l5Pick : FuncId := 183
theorem g_spec_l5Pick : G 183 = ⟨[(3, [0, 1, 2, 3, 9, 10])], [(6, 31)], []⟩ := rfl
attribute [simp] c_spec_l5Pick g_spec_l5Pick Go.Proofs.Try.f183
theorem e_spec_l5Pick : enterG P (G 183) 183 = some (c_spec_l5Pick, 67, #[.tmp 8]) := by kernel_rfl
noncomputable def c_spec_l5Choose : Code := Go.Proofs.Try.f141.body.getD .skip
abbrev n_spec_l5Choose : FuncId := 141
theorem g_spec_l5Choose : G 141 = ⟨[(5, [0, 2, 3, 9, 10, 11, 12]), (9, [0, 3, 9, 10, 11, 13])], [], []⟩ := rfl
attribute [simp] c_spec_l5Choose g_spec_l5Choose Go.Proofs.Try.f141
theorem e_spec_l5Choose : enterG P (G 141) 141 = some (c_spec_l5Choose, 91, #[.tmp 8]) := by kernel_rfl
noncomputable def c_spec_l1Cur_order : Code := Go.Proofs.Try.f133.body.getD .skip
abbrev n_spec_l1Cur_order : FuncId := 133
theorem g_spec_l1Cur_order : G 133 = ⟨[(3, [0, 1, 5, 6])], [(6, 11)], []⟩ := rfl
attribute [simp] c_spec_l1Cur_order g_spec_l1Cur_order Go.Proofs.Try.f133
theorem e_spec_l1Cur_order : enterG P (G 133) 133 = some (c_spec_l1Cur_order, 41, #[.tmp 4]) := by kernel_rfl
noncomputable def c_spec_l2Two : Code := Go.Proofs.Try.f136.body.getD .skip
abbrev n_spec_l2Two : FuncId := 136
theorem g_spec_l2Two : G 136 = ⟨[], [], []⟩ := rfl
attribute [simp] c_spec_l2Two g_spec_l2Two Go.Proofs.Try.f136
theorem e_spec_l2Two : enterG P (G 136) 136 = some (c_spec_l2Two, 13, #[.tmp 4]) := by kernel_rfl
noncomputable def c_spec_SplitOf : Code := Go.Proofs.Try.f61.body.getD .skip
abbrev n_spec_SplitOf : FuncId := 61
theorem g_spec_SplitOf : G 61 = ⟨[(6, [1, 6, 7, 8, 9])], [(8, 21)], []⟩ := rfl
attribute [simp] c_spec_SplitOf g_spec_SplitOf Go.Proofs.Try.f61
theorem e_spec_SplitOf : enterG P (G 61) 61 = some (c_spec_SplitOf, 51, #[.tmp 4, .tmp 5]) := by kernel_rfl
noncomputable def c_spec_l1Cur_spans : Code := Go.Proofs.Try.f121.body.getD .skip
abbrev n_spec_l1Cur_spans : FuncId := 121
theorem g_spec_l1Cur_spans : G 121 = ⟨[(24, [5, 8])], [(12, 11), (14, 11), (18, 10), (19, 18), (21, 13)], []⟩ := rfl
attribute [simp] c_spec_l1Cur_spans g_spec_l1Cur_spans Go.Proofs.Try.f121
theorem e_spec_l1Cur_spans : enterG P (G 121) 121 = some (c_spec_l1Cur_spans, 168, #[.tmp 4]) := by kernel_rfl
noncomputable def c_spec_l1Cur_objective : Code := Go.Proofs.Try.f122.body.getD .skip
abbrev n_spec_l1Cur_objective : FuncId := 122
theorem g_spec_l1Cur_objective : G 122 = ⟨[], [], []⟩ := rfl
attribute [simp] c_spec_l1Cur_objective g_spec_l1Cur_objective Go.Proofs.Try.f122
theorem e_spec_l1Cur_objective : enterG P (G 122) 122 = some (c_spec_l1Cur_objective, 11, #[.tmp 2]) := by kernel_rfl
noncomputable def c_spec_DrawSplitValue : Code := Go.Proofs.Try.f50.body.getD .skip
abbrev n_spec_DrawSplitValue : FuncId := 50
theorem g_spec_DrawSplitValue : G 50 = ⟨[], [], []⟩ := rfl
attribute [simp] c_spec_DrawSplitValue g_spec_DrawSplitValue Go.Proofs.Try.f50
theorem e_spec_DrawSplitValue : enterG P (G 50) 50 = some (c_spec_DrawSplitValue, 18, #[.tmp 2, .tmp 3, .tmp 4]) := by kernel_rfl
noncomputable def c_impl_isSplit : Code := Go.Proofs.Try.f123.body.getD .skip
abbrev n_impl_isSplit : FuncId := 123
theorem g_impl_isSplit : G 123 = ⟨[(3, [0, 1, 5, 13, 14, 15]), (12, [5, 97, 98, 99])], [(5, 22), (7, 31), (9, 10), (14, 6)], []⟩ := rfl
attribute [simp] c_impl_isSplit g_impl_isSplit Go.Proofs.Try.f123
theorem e_impl_isSplit : enterG P (G 123) 123 = some (c_impl_isSplit, 112, #[.tmp 4]) := by kernel_rfl
noncomputable def c_impl_IsSplit : Code := Go.Proofs.Try.f51.body.getD .skip
abbrev n_impl_IsSplit : FuncId := 51
theorem g_impl_IsSplit : G 51 = ⟨[], [], []⟩ := rfl
attribute [simp] c_impl_IsSplit g_impl_IsSplit Go.Proofs.Try.f51
theorem e_impl_IsSplit : enterG P (G 51) 51 = some (c_impl_IsSplit, 12, #[.tmp 4, .tmp 5]) := by kernel_rfl
noncomputable def c_spec_l5Split : Code := Go.Proofs.Try.f125.body.getD .skip
abbrev n_spec_l5Split : FuncId := 125
theorem g_spec_l5Split : G 125 = ⟨[(4, [0, 1, 5, 6, 7, 8]), (13, [0, 5, 10])], [(7, 38), (9, 14), (15, 9)], []⟩ := rfl
attribute [simp] c_spec_l5Split g_spec_l5Split Go.Proofs.Try.f125
theorem e_spec_l5Split : enterG P (G 125) 125 = some (c_spec_l5Split, 105, #[.tmp 4]) := by kernel_rfl
noncomputable def c_spec_IsSplit : Code := Go.Proofs.Try.f52.body.getD .skip
abbrev n_spec_IsSplit : FuncId := 52
theorem g_spec_IsSplit : G 52 = ⟨[], [], []⟩ := rfl
attribute [simp] c_spec_IsSplit g_spec_IsSplit Go.Proofs.Try.f52
theorem e_spec_IsSplit : enterG P (G 52) 52 = some (c_spec_IsSplit, 12, #[.tmp 4, .tmp 5]) := by kernel_rfl
noncomputable def c_impl_isObjective : Code := Go.Proofs.Try.f126.body.getD .skip
abbrev n_impl_isObjective : FuncId := 126
theorem g_impl_isObjective : G 126 = ⟨[], [], []⟩ := rfl
attribute [simp] c_impl_isObjective g_impl_isObjective Go.Proofs.Try.f126
theorem e_impl_isObjective : enterG P (G 126) 126 = some (c_impl_isObjective, 5, #[.tmp 2]) := by kernel_rfl
noncomputable def c_impl_splitEnds : Code := Go.Proofs.Try.f128.body.getD .skip
abbrev n_impl_splitEnds : FuncId := 128
theorem g_impl_splitEnds : G 128 = ⟨[(3, [5, 11, 12, 13])], [], []⟩ := rfl
attribute [simp] c_impl_splitEnds g_impl_splitEnds Go.Proofs.Try.f128
theorem e_impl_splitEnds : enterG P (G 128) 128 = some (c_impl_splitEnds, 25, #[.tmp 4]) := by kernel_rfl
noncomputable def c_impl_SplitValue : Code := Go.Proofs.Try.f53.body.getD .skip
abbrev n_impl_SplitValue : FuncId := 53
theorem g_impl_SplitValue : G 53 = ⟨[], [], []⟩ := rfl
attribute [simp] c_impl_SplitValue g_impl_SplitValue Go.Proofs.Try.f53
theorem e_impl_SplitValue : enterG P (G 53) 53 = some (c_impl_SplitValue, 28, #[.tmp 6, .tmp 7]) := by kernel_rfl
noncomputable def c_spec_l5Both : Code := Go.Proofs.Try.f129.body.getD .skip
abbrev n_spec_l5Both : FuncId := 129
theorem g_spec_l5Both : G 129 = ⟨[], [], []⟩ := rfl
attribute [simp] c_spec_l5Both g_spec_l5Both Go.Proofs.Try.f129
theorem e_spec_l5Both : enterG P (G 129) 129 = some (c_spec_l5Both, 12, #[.tmp 4]) := by kernel_rfl
noncomputable def c_spec_l2Objective : Code := Go.Proofs.Try.f130.body.getD .skip
abbrev n_spec_l2Objective : FuncId := 130
theorem g_spec_l2Objective : G 130 = ⟨[], [], []⟩ := rfl
attribute [simp] c_spec_l2Objective g_spec_l2Objective Go.Proofs.Try.f130
theorem e_spec_l2Objective : enterG P (G 130) 130 = some (c_spec_l2Objective, 5, #[.tmp 2]) := by kernel_rfl
noncomputable def c_spec_l5Ends : Code := Go.Proofs.Try.f132.body.getD .skip
abbrev n_spec_l5Ends : FuncId := 132
theorem g_spec_l5Ends : G 132 = ⟨[(3, [1, 5, 6])], [(5, 11)], []⟩ := rfl
attribute [simp] c_spec_l5Ends g_spec_l5Ends Go.Proofs.Try.f132
theorem e_spec_l5Ends : enterG P (G 132) 132 = some (c_spec_l5Ends, 29, #[.tmp 4]) := by kernel_rfl
noncomputable def c_spec_SplitValue : Code := Go.Proofs.Try.f54.body.getD .skip
abbrev n_spec_SplitValue : FuncId := 54
theorem g_spec_SplitValue : G 54 = ⟨[], [], []⟩ := rfl
attribute [simp] c_spec_SplitValue g_spec_SplitValue Go.Proofs.Try.f54
theorem e_spec_SplitValue : enterG P (G 54) 54 = some (c_spec_SplitValue, 23, #[.tmp 6, .tmp 7]) := by kernel_rfl
noncomputable def c_impl_SplitEnds : Code := Go.Proofs.Try.f55.body.getD .skip
abbrev n_impl_SplitEnds : FuncId := 55
theorem g_impl_SplitEnds : G 55 = ⟨[], [], []⟩ := rfl
attribute [simp] c_impl_SplitEnds g_impl_SplitEnds Go.Proofs.Try.f55
theorem e_impl_SplitEnds : enterG P (G 55) 55 = some (c_impl_SplitEnds, 18, #[.tmp 4, .tmp 5]) := by kernel_rfl
noncomputable def c_spec_SplitEnds : Code := Go.Proofs.Try.f56.body.getD .skip
abbrev n_spec_SplitEnds : FuncId := 56
theorem g_spec_SplitEnds : G 56 = ⟨[], [], []⟩ := rfl
attribute [simp] c_spec_SplitEnds g_spec_SplitEnds Go.Proofs.Try.f56
theorem e_spec_SplitEnds : enterG P (G 56) 56 = some (c_spec_SplitEnds, 14, #[.tmp 4, .tmp 5]) := by kernel_rfl
noncomputable def c_impl_CountBreaks : Code := Go.Proofs.Try.f57.body.getD .skip
abbrev n_impl_CountBreaks : FuncId := 57
theorem g_impl_CountBreaks : G 57 = ⟨[], [], []⟩ := rfl
attribute [simp] c_impl_CountBreaks g_impl_CountBreaks Go.Proofs.Try.f57
theorem e_impl_CountBreaks : enterG P (G 57) 57 = some (c_impl_CountBreaks, 20, #[.tmp 4, .tmp 5]) := by kernel_rfl
noncomputable def c_spec_CountBreaks : Code := Go.Proofs.Try.f58.body.getD .skip
abbrev n_spec_CountBreaks : FuncId := 58
theorem g_spec_CountBreaks : G 58 = ⟨[], [], []⟩ := rfl
attribute [simp] c_spec_CountBreaks g_spec_CountBreaks Go.Proofs.Try.f58
theorem e_spec_CountBreaks : enterG P (G 58) 58 = some (c_spec_CountBreaks, 15, #[.tmp 4, .tmp 5]) := by kernel_rfl
noncomputable def c_spec_DrawSplitOf : Code := Go.Proofs.Try.f59.body.getD .skip
abbrev n_spec_DrawSplitOf : FuncId := 59
theorem g_spec_DrawSplitOf : G 59 = ⟨[], [], []⟩ := rfl
attribute [simp] c_spec_DrawSplitOf g_spec_DrawSplitOf Go.Proofs.Try.f59
theorem e_spec_DrawSplitOf : enterG P (G 59) 59 = some (c_spec_DrawSplitOf, 16, #[.tmp 2, .tmp 3]) := by kernel_rfl
noncomputable def c_impl_isScheduled : Code := Go.Proofs.Try.f134.body.getD .skip
abbrev n_impl_isScheduled : FuncId := 134
theorem g_impl_isScheduled : G 134 = ⟨[], [], []⟩ := rfl
attribute [simp] c_impl_isScheduled g_impl_isScheduled Go.Proofs.Try.f134
theorem e_impl_isScheduled : enterG P (G 134) 134 = some (c_impl_isScheduled, 13, #[.tmp 4]) := by kernel_rfl
noncomputable def c_impl_SplitOf : Code := Go.Proofs.Try.f60.body.getD .skip
abbrev n_impl_SplitOf : FuncId := 60
theorem g_impl_SplitOf : G 60 = ⟨[(6, [0, 6, 7, 17, 18, 19])], [(8, 18)], []⟩ := rfl
attribute [simp] c_impl_SplitOf g_impl_SplitOf Go.Proofs.Try.f60
theorem e_impl_SplitOf : enterG P (G 60) 60 = some (c_impl_SplitOf, 44, #[.tmp 4, .tmp 5]) := by kernel_rfl
noncomputable def c_laws_vSpans : Code := Go.Proofs.Try.f62.body.getD .skip
abbrev n_laws_vSpans : FuncId := 62
theorem g_laws_vSpans : G 62 = ⟨[(4, [0, 1, 5])], [(6, 8)], []⟩ := rfl
attribute [simp] c_laws_vSpans g_laws_vSpans Go.Proofs.Try.f62
theorem e_laws_vSpans : enterG P (G 62) 62 = some (c_laws_vSpans, 26, #[.tmp 4]) := by kernel_rfl
noncomputable def c_impl_isValued : Code := Go.Proofs.Try.f139.body.getD .skip
abbrev n_impl_isValued : FuncId := 139
theorem g_impl_isValued : G 139 = ⟨[], [], []⟩ := rfl
attribute [simp] c_impl_isValued g_impl_isValued Go.Proofs.Try.f139
theorem e_impl_isValued : enterG P (G 139) 139 = some (c_impl_isValued, 14, #[.tmp 6]) := by kernel_rfl
noncomputable def c_impl_ValueOf : Code := Go.Proofs.Try.f63.body.getD .skip
abbrev n_impl_ValueOf : FuncId := 63
theorem g_impl_ValueOf : G 63 = ⟨[], [], []⟩ := rfl
attribute [simp] c_impl_ValueOf g_impl_ValueOf Go.Proofs.Try.f63
theorem e_impl_ValueOf : enterG P (G 63) 63 = some (c_impl_ValueOf, 17, #[.tmp 6, .tmp 7]) := by kernel_rfl
noncomputable def c_impl_choose : Code := Go.Proofs.Try.f140.body.getD .skip
abbrev n_impl_choose : FuncId := 140
theorem g_impl_choose : G 140 = ⟨[(5, [0, 1, 2, 8, 9, 10, 11, 27, 28, 29]), (12, [0, 2, 8, 9, 10, 11, 48, 49, 50]), (18, [0, 2, 8, 9, 10, 11, 16]), (22, [0, 2, 8, 9, 10, 11, 16, 17, 76, 77, 78])], [(14, 12), (25, 28)], []⟩ := rfl
attribute [simp] c_impl_choose g_impl_choose Go.Proofs.Try.f140
theorem e_impl_choose : enterG P (G 140) 140 = some (c_impl_choose, 183, #[.tmp 6, .tmp 7]) := by kernel_rfl
noncomputable def c_impl_ByLeastRest : Code := Go.Proofs.Try.f64.body.getD .skip
abbrev n_impl_ByLeastRest : FuncId := 64
theorem g_impl_ByLeastRest : G 64 = ⟨[], [], []⟩ := rfl
attribute [simp] c_impl_ByLeastRest g_impl_ByLeastRest Go.Proofs.Try.f64
theorem e_impl_ByLeastRest : enterG P (G 64) 64 = some (c_impl_ByLeastRest, 15, #[.tmp 2, .tmp 3]) := by kernel_rfl
noncomputable def c_spec_ByLeastRest : Code := Go.Proofs.Try.f65.body.getD .skip
abbrev n_spec_ByLeastRest : FuncId := 65
theorem g_spec_ByLeastRest : G 65 = ⟨[], [], []⟩ := rfl
attribute [simp] c_spec_ByLeastRest g_spec_ByLeastRest Go.Proofs.Try.f65
theorem e_spec_ByLeastRest : enterG P (G 65) 65 = some (c_spec_ByLeastRest, 12, #[.tmp 2, .tmp 3]) := by kernel_rfl
noncomputable def c_impl_ByEarliestDate : Code := Go.Proofs.Try.f66.body.getD .skip
abbrev n_impl_ByEarliestDate : FuncId := 66
theorem g_impl_ByEarliestDate : G 66 = ⟨[], [], []⟩ := rfl
attribute [simp] c_impl_ByEarliestDate g_impl_ByEarliestDate Go.Proofs.Try.f66
theorem e_impl_ByEarliestDate : enterG P (G 66) 66 = some (c_impl_ByEarliestDate, 15, #[.tmp 2, .tmp 3]) := by kernel_rfl
noncomputable def c_spec_ByEarliestDate : Code := Go.Proofs.Try.f67.body.getD .skip
abbrev n_spec_ByEarliestDate : FuncId := 67
theorem g_spec_ByEarliestDate : G 67 = ⟨[], [], []⟩ := rfl
attribute [simp] c_spec_ByEarliestDate g_spec_ByEarliestDate Go.Proofs.Try.f67
theorem e_spec_ByEarliestDate : enterG P (G 67) 67 = some (c_spec_ByEarliestDate, 12, #[.tmp 2, .tmp 3]) := by kernel_rfl
noncomputable def c_laws_FnSplits : Code := Go.Proofs.Try.f7.body.getD .skip
abbrev n_laws_FnSplits : FuncId := 7
theorem g_laws_FnSplits : G 7 = ⟨[], [], []⟩ := rfl
attribute [simp] c_laws_FnSplits g_laws_FnSplits Go.Proofs.Try.f7
theorem e_laws_FnSplits : enterG P (G 7) 7 = some (c_laws_FnSplits, 293, #[.tmp 2]) := by kernel_rfl
noncomputable def c_laws_toAct : Code := Go.Proofs.Try.f68.body.getD .skip
abbrev n_laws_toAct : FuncId := 68
theorem g_laws_toAct : G 68 = ⟨[], [], []⟩ := rfl
attribute [simp] c_laws_toAct g_laws_toAct Go.Proofs.Try.f68
theorem e_laws_toAct : enterG P (G 68) 68 = some (c_laws_toAct, 18, #[.cell 2 61]) := by kernel_rfl
noncomputable def c_laws_FnExactActDispatcher : Code := Go.Proofs.Try.f8.body.getD .skip
abbrev n_laws_FnExactActDispatcher : FuncId := 8
theorem g_laws_FnExactActDispatcher : G 8 = ⟨[], [(5, 9), (7, 8), (10, 3), (24, 9)], []⟩ := rfl
attribute [simp] c_laws_FnExactActDispatcher g_laws_FnExactActDispatcher Go.Proofs.Try.f8
theorem e_laws_FnExactActDispatcher : enterG P (G 8) 8 = some (c_laws_FnExactActDispatcher, 104, #[.tmp 4]) := by kernel_rfl
noncomputable def c_laws_szActS : Code := Go.Proofs.Try.f69.body.getD .skip
abbrev n_laws_szActS : FuncId := 69
theorem g_laws_szActS : G 69 = ⟨[], [], []⟩ := rfl
attribute [simp] c_laws_szActS g_laws_szActS Go.Proofs.Try.f69
theorem e_laws_szActS : enterG P (G 69) 69 = some (c_laws_szActS, 12, #[.tmp 4]) := by kernel_rfl
noncomputable def c_laws_toActS : Code := Go.Proofs.Try.f70.body.getD .skip
abbrev n_laws_toActS : FuncId := 70
theorem g_laws_toActS : G 70 = ⟨[(3, [0, 3, 4])], [], []⟩ := rfl
attribute [simp] c_laws_toActS g_laws_toActS Go.Proofs.Try.f70
theorem e_laws_toActS : enterG P (G 70) 70 = some (c_laws_toActS, 23, #[.tmp 2]) := by kernel_rfl
noncomputable def c_laws_eqAct : Code := Go.Proofs.Try.f143.body.getD .skip
abbrev n_laws_eqAct : FuncId := 143
theorem g_laws_eqAct : G 143 = ⟨[], [], []⟩ := rfl
attribute [simp] c_laws_eqAct g_laws_eqAct Go.Proofs.Try.f143
theorem e_laws_eqAct : enterG P (G 143) 143 = some (c_laws_eqAct, 26, #[.tmp 4]) := by kernel_rfl
noncomputable def c_laws_eqActS : Code := Go.Proofs.Try.f71.body.getD .skip
abbrev n_laws_eqActS : FuncId := 71
theorem g_laws_eqActS : G 71 = ⟨[(4, [0, 1, 5])], [(6, 8)], []⟩ := rfl
attribute [simp] c_laws_eqActS g_laws_eqActS Go.Proofs.Try.f71
theorem e_laws_eqActS : enterG P (G 71) 71 = some (c_laws_eqActS, 27, #[.tmp 4]) := by kernel_rfl
noncomputable def c_laws_markActS : Code := Go.Proofs.Try.f72.body.getD .skip
abbrev n_laws_markActS : FuncId := 72
theorem g_laws_markActS : G 72 = ⟨[(2, [0, 1, 5])], [], []⟩ := rfl
attribute [simp] c_laws_markActS g_laws_markActS Go.Proofs.Try.f72
theorem e_laws_markActS : enterG P (G 72) 72 = some (c_laws_markActS, 66, #[.tmp 4]) := by kernel_rfl
noncomputable def c_laws_FnExactPlayActs : Code := Go.Proofs.Try.f9.body.getD .skip
abbrev n_laws_FnExactPlayActs : FuncId := 9
theorem g_laws_FnExactPlayActs : G 9 = ⟨[], [(14, 3)], []⟩ := rfl
attribute [simp] c_laws_FnExactPlayActs g_laws_FnExactPlayActs Go.Proofs.Try.f9
theorem e_laws_FnExactPlayActs : enterG P (G 9) 9 = some (c_laws_FnExactPlayActs, 140, #[.tmp 4]) := by kernel_rfl
end Go.Pm.PP
