/- What is told of the functions that the laws reach: printed by a program of this work. -/
import Derived.Test.YtlieeolnnehncaaProg
import Derived.KernelRfl
import Derived.Test.YtlieeolnnehncaaM4

set_option linter.unusedVariables false
set_option linter.unusedSimpArgs false
namespace Go.Pm.PP
open Go.Pm
noncomputable abbrev P : Program := Go.Proofs.Try.prog
abbrev t_int : TypeId := 3
theorem u_int : P.underlying 3 = some (.int .i64) := by kernel_rfl
theorem a_int : (P.underlying 3).map aggD = some false := by kernel_rfl
theorem i_int : (P.info? 3).map (·.size) = some 1 := by kernel_rfl
noncomputable def ti_3 : TypeInfo := (P.info? 3).getD default
@[simp] theorem ti_3_eq : P.info? 3 = some ti_3 := by kernel_rfl
@[simp] theorem ti_3_size : ti_3.size = 1 := by kernel_rfl
@[simp] theorem ti_3_bytes : ti_3.bytes = 8 := by kernel_rfl
@[simp] theorem ti_3_zero : ti_3.zero = some (.int .i64 0) := by kernel_rfl
noncomputable abbrev ti_int := ti_3
theorem e_t_int : P.info? 3 = some ti_3 := ti_3_eq
theorem s_t_int : ti_3.size = 1 := ti_3_size
theorem b_t_int : ti_3.bytes = 8 := ti_3_bytes
theorem z_t_int : zeroP P 3 = some (.int .i64 0) := zero_some ti_3_eq ti_3_zero rfl (by rw [ti_3_size]; rfl)
abbrev t_bool : TypeId := 4
theorem u_bool : P.underlying 4 = some .bool := by kernel_rfl
theorem a_bool : (P.underlying 4).map aggD = some false := by kernel_rfl
theorem i_bool : (P.info? 4).map (·.size) = some 1 := by kernel_rfl
noncomputable def ti_4 : TypeInfo := (P.info? 4).getD default
@[simp] theorem ti_4_eq : P.info? 4 = some ti_4 := by kernel_rfl
@[simp] theorem ti_4_size : ti_4.size = 1 := by kernel_rfl
@[simp] theorem ti_4_bytes : ti_4.bytes = 1 := by kernel_rfl
@[simp] theorem ti_4_zero : ti_4.zero = some (.bool false) := by kernel_rfl
noncomputable abbrev ti_bool := ti_4
theorem e_t_bool : P.info? 4 = some ti_4 := ti_4_eq
theorem s_t_bool : ti_4.size = 1 := ti_4_size
theorem b_t_bool : ti_4.bytes = 1 := ti_4_bytes
theorem z_t_bool : zeroP P 4 = some (.bool false) := zero_some ti_4_eq ti_4_zero rfl (by rw [ti_4_size]; rfl)
abbrev t_S_S_laws_Op : TypeId := 22
theorem u_S_S_laws_Op : P.underlying 22 = some (.slice 129) := by kernel_rfl
theorem a_S_S_laws_Op : (P.underlying 22).map aggD = some false := by kernel_rfl
theorem i_S_S_laws_Op : (P.info? 22).map (·.size) = some 1 := by kernel_rfl
noncomputable def ti_22 : TypeInfo := (P.info? 22).getD default
@[simp] theorem ti_22_eq : P.info? 22 = some ti_22 := by kernel_rfl
@[simp] theorem ti_22_size : ti_22.size = 1 := by kernel_rfl
@[simp] theorem ti_22_bytes : ti_22.bytes = 24 := by kernel_rfl
@[simp] theorem ti_22_zero : ti_22.zero = some (.slice none 0 0) := by kernel_rfl
noncomputable abbrev ti_S_S_laws_Op := ti_22
theorem e_t_S_S_laws_Op : P.info? 22 = some ti_22 := ti_22_eq
theorem s_t_S_S_laws_Op : ti_22.size = 1 := ti_22_size
theorem b_t_S_S_laws_Op : ti_22.bytes = 24 := ti_22_bytes
theorem z_t_S_S_laws_Op : zeroP P 22 = some (.slice none 0 0) := zero_some ti_22_eq ti_22_zero rfl (by rw [ti_22_size]; rfl)
abbrev t_laws_JobShop : TypeId := 24
theorem a_laws_JobShop : (P.underlying 24).map aggD = some true := by kernel_rfl
theorem i_laws_JobShop : (P.info? 24).map (·.size) = some 2 := by kernel_rfl
noncomputable def ti_24 : TypeInfo := (P.info? 24).getD default
@[simp] theorem ti_24_eq : P.info? 24 = some ti_24 := by kernel_rfl
@[simp] theorem ti_24_size : ti_24.size = 2 := by kernel_rfl
@[simp] theorem ti_24_bytes : ti_24.bytes = 32 := by kernel_rfl
@[simp] theorem ti_24_zero : ti_24.zero = some (.agg #[.int .i64 0, .slice none 0 0]) := by kernel_rfl
noncomputable abbrev ti_laws_JobShop := ti_24
theorem e_t_laws_JobShop : P.info? 24 = some ti_24 := ti_24_eq
theorem s_t_laws_JobShop : ti_24.size = 2 := ti_24_size
theorem b_t_laws_JobShop : ti_24.bytes = 32 := ti_24_bytes
theorem z_t_laws_JobShop : zeroP P 24 = some (.agg #[.int .i64 0, .slice none 0 0]) := zero_some ti_24_eq ti_24_zero rfl (by rw [ti_24_size]; rfl)
abbrev t_S_S_int : TypeId := 25
theorem u_S_S_int : P.underlying 25 = some (.slice 28) := by kernel_rfl
theorem a_S_S_int : (P.underlying 25).map aggD = some false := by kernel_rfl
theorem i_S_S_int : (P.info? 25).map (·.size) = some 1 := by kernel_rfl
noncomputable def ti_25 : TypeInfo := (P.info? 25).getD default
@[simp] theorem ti_25_eq : P.info? 25 = some ti_25 := by kernel_rfl
@[simp] theorem ti_25_size : ti_25.size = 1 := by kernel_rfl
@[simp] theorem ti_25_bytes : ti_25.bytes = 24 := by kernel_rfl
@[simp] theorem ti_25_zero : ti_25.zero = some (.slice none 0 0) := by kernel_rfl
noncomputable abbrev ti_S_S_int := ti_25
theorem e_t_S_S_int : P.info? 25 = some ti_25 := ti_25_eq
theorem s_t_S_S_int : ti_25.size = 1 := ti_25_size
theorem b_t_S_S_int : ti_25.bytes = 24 := ti_25_bytes
theorem z_t_S_S_int : zeroP P 25 = some (.slice none 0 0) := zero_some ti_25_eq ti_25_zero rfl (by rw [ti_25_size]; rfl)
abbrev t_S_int : TypeId := 28
theorem u_S_int : P.underlying 28 = some (.slice 3) := by kernel_rfl
theorem a_S_int : (P.underlying 28).map aggD = some false := by kernel_rfl
theorem i_S_int : (P.info? 28).map (·.size) = some 1 := by kernel_rfl
noncomputable def ti_28 : TypeInfo := (P.info? 28).getD default
@[simp] theorem ti_28_eq : P.info? 28 = some ti_28 := by kernel_rfl
@[simp] theorem ti_28_size : ti_28.size = 1 := by kernel_rfl
@[simp] theorem ti_28_bytes : ti_28.bytes = 24 := by kernel_rfl
@[simp] theorem ti_28_zero : ti_28.zero = some (.slice none 0 0) := by kernel_rfl
noncomputable abbrev ti_S_int := ti_28
theorem e_t_S_int : P.info? 28 = some ti_28 := ti_28_eq
theorem s_t_S_int : ti_28.size = 1 := ti_28_size
theorem b_t_S_int : ti_28.bytes = 24 := ti_28_bytes
theorem z_t_S_int : zeroP P 28 = some (.slice none 0 0) := zero_some ti_28_eq ti_28_zero rfl (by rw [ti_28_size]; rfl)
abbrev t_S_S_impl_Op : TypeId := 31
theorem u_S_S_impl_Op : P.underlying 31 = some (.slice 78) := by kernel_rfl
theorem a_S_S_impl_Op : (P.underlying 31).map aggD = some false := by kernel_rfl
theorem i_S_S_impl_Op : (P.info? 31).map (·.size) = some 1 := by kernel_rfl
noncomputable def ti_31 : TypeInfo := (P.info? 31).getD default
@[simp] theorem ti_31_eq : P.info? 31 = some ti_31 := by kernel_rfl
@[simp] theorem ti_31_size : ti_31.size = 1 := by kernel_rfl
@[simp] theorem ti_31_bytes : ti_31.bytes = 24 := by kernel_rfl
@[simp] theorem ti_31_zero : ti_31.zero = some (.slice none 0 0) := by kernel_rfl
noncomputable abbrev ti_S_S_impl_Op := ti_31
theorem e_t_S_S_impl_Op : P.info? 31 = some ti_31 := ti_31_eq
theorem s_t_S_S_impl_Op : ti_31.size = 1 := ti_31_size
theorem b_t_S_S_impl_Op : ti_31.bytes = 24 := ti_31_bytes
theorem z_t_S_S_impl_Op : zeroP P 31 = some (.slice none 0 0) := zero_some ti_31_eq ti_31_zero rfl (by rw [ti_31_size]; rfl)
abbrev t_impl_JobShop : TypeId := 33
theorem a_impl_JobShop : (P.underlying 33).map aggD = some true := by kernel_rfl
theorem i_impl_JobShop : (P.info? 33).map (·.size) = some 2 := by kernel_rfl
noncomputable def ti_33 : TypeInfo := (P.info? 33).getD default
@[simp] theorem ti_33_eq : P.info? 33 = some ti_33 := by kernel_rfl
@[simp] theorem ti_33_size : ti_33.size = 2 := by kernel_rfl
@[simp] theorem ti_33_bytes : ti_33.bytes = 32 := by kernel_rfl
@[simp] theorem ti_33_zero : ti_33.zero = some (.agg #[.int .i64 0, .slice none 0 0]) := by kernel_rfl
noncomputable abbrev ti_impl_JobShop := ti_33
theorem e_t_impl_JobShop : P.info? 33 = some ti_33 := ti_33_eq
theorem s_t_impl_JobShop : ti_33.size = 2 := ti_33_size
theorem b_t_impl_JobShop : ti_33.bytes = 32 := ti_33_bytes
theorem z_t_impl_JobShop : zeroP P 33 = some (.agg #[.int .i64 0, .slice none 0 0]) := zero_some ti_33_eq ti_33_zero rfl (by rw [ti_33_size]; rfl)
abbrev t_S_A2_int : TypeId := 47
theorem u_S_A2_int : P.underlying 47 = some (.slice 98) := by kernel_rfl
theorem a_S_A2_int : (P.underlying 47).map aggD = some false := by kernel_rfl
theorem i_S_A2_int : (P.info? 47).map (·.size) = some 1 := by kernel_rfl
noncomputable def ti_47 : TypeInfo := (P.info? 47).getD default
@[simp] theorem ti_47_eq : P.info? 47 = some ti_47 := by kernel_rfl
@[simp] theorem ti_47_size : ti_47.size = 1 := by kernel_rfl
@[simp] theorem ti_47_bytes : ti_47.bytes = 24 := by kernel_rfl
@[simp] theorem ti_47_zero : ti_47.zero = some (.slice none 0 0) := by kernel_rfl
noncomputable abbrev ti_S_A2_int := ti_47
theorem e_t_S_A2_int : P.info? 47 = some ti_47 := ti_47_eq
theorem s_t_S_A2_int : ti_47.size = 1 := ti_47_size
theorem b_t_S_A2_int : ti_47.bytes = 24 := ti_47_bytes
theorem z_t_S_A2_int : zeroP P 47 = some (.slice none 0 0) := zero_some ti_47_eq ti_47_zero rfl (by rw [ti_47_size]; rfl)
abbrev t_S_laws_Job : TypeId := 59
theorem u_S_laws_Job : P.underlying 59 = some (.slice 122) := by kernel_rfl
theorem a_S_laws_Job : (P.underlying 59).map aggD = some false := by kernel_rfl
theorem i_S_laws_Job : (P.info? 59).map (·.size) = some 1 := by kernel_rfl
noncomputable def ti_59 : TypeInfo := (P.info? 59).getD default
@[simp] theorem ti_59_eq : P.info? 59 = some ti_59 := by kernel_rfl
@[simp] theorem ti_59_size : ti_59.size = 1 := by kernel_rfl
@[simp] theorem ti_59_bytes : ti_59.bytes = 24 := by kernel_rfl
@[simp] theorem ti_59_zero : ti_59.zero = some (.slice none 0 0) := by kernel_rfl
noncomputable abbrev ti_S_laws_Job := ti_59
theorem e_t_S_laws_Job : P.info? 59 = some ti_59 := ti_59_eq
theorem s_t_S_laws_Job : ti_59.size = 1 := ti_59_size
theorem b_t_S_laws_Job : ti_59.bytes = 24 := ti_59_bytes
theorem z_t_S_laws_Job : zeroP P 59 = some (.slice none 0 0) := zero_some ti_59_eq ti_59_zero rfl (by rw [ti_59_size]; rfl)
abbrev t_S_impl_Job : TypeId := 62
theorem u_S_impl_Job : P.underlying 62 = some (.slice 120) := by kernel_rfl
theorem a_S_impl_Job : (P.underlying 62).map aggD = some false := by kernel_rfl
theorem i_S_impl_Job : (P.info? 62).map (·.size) = some 1 := by kernel_rfl
noncomputable def ti_62 : TypeInfo := (P.info? 62).getD default
@[simp] theorem ti_62_eq : P.info? 62 = some ti_62 := by kernel_rfl
@[simp] theorem ti_62_size : ti_62.size = 1 := by kernel_rfl
@[simp] theorem ti_62_bytes : ti_62.bytes = 24 := by kernel_rfl
@[simp] theorem ti_62_zero : ti_62.zero = some (.slice none 0 0) := by kernel_rfl
noncomputable abbrev ti_S_impl_Job := ti_62
theorem e_t_S_impl_Job : P.info? 62 = some ti_62 := ti_62_eq
theorem s_t_S_impl_Job : ti_62.size = 1 := ti_62_size
theorem b_t_S_impl_Job : ti_62.bytes = 24 := ti_62_bytes
theorem z_t_S_impl_Job : zeroP P 62 = some (.slice none 0 0) := zero_some ti_62_eq ti_62_zero rfl (by rw [ti_62_size]; rfl)
abbrev t_S_impl_Task : TypeId := 69
theorem u_S_impl_Task : P.underlying 69 = some (.slice 118) := by kernel_rfl
theorem a_S_impl_Task : (P.underlying 69).map aggD = some false := by kernel_rfl
theorem i_S_impl_Task : (P.info? 69).map (·.size) = some 1 := by kernel_rfl
noncomputable def ti_69 : TypeInfo := (P.info? 69).getD default
@[simp] theorem ti_69_eq : P.info? 69 = some ti_69 := by kernel_rfl
@[simp] theorem ti_69_size : ti_69.size = 1 := by kernel_rfl
@[simp] theorem ti_69_bytes : ti_69.bytes = 24 := by kernel_rfl
@[simp] theorem ti_69_zero : ti_69.zero = some (.slice none 0 0) := by kernel_rfl
noncomputable abbrev ti_S_impl_Task := ti_69
theorem e_t_S_impl_Task : P.info? 69 = some ti_69 := ti_69_eq
theorem s_t_S_impl_Task : ti_69.size = 1 := ti_69_size
theorem b_t_S_impl_Task : ti_69.bytes = 24 := ti_69_bytes
theorem z_t_S_impl_Task : zeroP P 69 = some (.slice none 0 0) := zero_some ti_69_eq ti_69_zero rfl (by rw [ti_69_size]; rfl)
abbrev t_S_impl_Op : TypeId := 78
theorem u_S_impl_Op : P.underlying 78 = some (.slice 97) := by kernel_rfl
theorem a_S_impl_Op : (P.underlying 78).map aggD = some false := by kernel_rfl
theorem i_S_impl_Op : (P.info? 78).map (·.size) = some 1 := by kernel_rfl
noncomputable def ti_78 : TypeInfo := (P.info? 78).getD default
@[simp] theorem ti_78_eq : P.info? 78 = some ti_78 := by kernel_rfl
@[simp] theorem ti_78_size : ti_78.size = 1 := by kernel_rfl
@[simp] theorem ti_78_bytes : ti_78.bytes = 24 := by kernel_rfl
@[simp] theorem ti_78_zero : ti_78.zero = some (.slice none 0 0) := by kernel_rfl
noncomputable abbrev ti_S_impl_Op := ti_78
theorem e_t_S_impl_Op : P.info? 78 = some ti_78 := ti_78_eq
theorem s_t_S_impl_Op : ti_78.size = 1 := ti_78_size
theorem b_t_S_impl_Op : ti_78.bytes = 24 := ti_78_bytes
theorem z_t_S_impl_Op : zeroP P 78 = some (.slice none 0 0) := zero_some ti_78_eq ti_78_zero rfl (by rw [ti_78_size]; rfl)
abbrev t_impl_flat : TypeId := 80
theorem a_impl_flat : (P.underlying 80).map aggD = some true := by kernel_rfl
theorem i_impl_flat : (P.info? 80).map (·.size) = some 3 := by kernel_rfl
noncomputable def ti_80 : TypeInfo := (P.info? 80).getD default
@[simp] theorem ti_80_eq : P.info? 80 = some ti_80 := by kernel_rfl
@[simp] theorem ti_80_size : ti_80.size = 3 := by kernel_rfl
@[simp] theorem ti_80_bytes : ti_80.bytes = 72 := by kernel_rfl
@[simp] theorem ti_80_zero : ti_80.zero = some (.agg #[.slice none 0 0, .slice none 0 0, .slice none 0 0]) := by kernel_rfl
noncomputable abbrev ti_impl_flat := ti_80
theorem e_t_impl_flat : P.info? 80 = some ti_80 := ti_80_eq
theorem s_t_impl_flat : ti_80.size = 3 := ti_80_size
theorem b_t_impl_flat : ti_80.bytes = 72 := ti_80_bytes
theorem z_t_impl_flat : zeroP P 80 = some (.agg #[.slice none 0 0, .slice none 0 0, .slice none 0 0]) := zero_some ti_80_eq ti_80_zero rfl (by rw [ti_80_size]; rfl)
abbrev t_impl_selected : TypeId := 82
theorem a_impl_selected : (P.underlying 82).map aggD = some true := by kernel_rfl
theorem i_impl_selected : (P.info? 82).map (·.size) = some 7 := by kernel_rfl
noncomputable def ti_82 : TypeInfo := (P.info? 82).getD default
@[simp] theorem ti_82_eq : P.info? 82 = some ti_82 := by kernel_rfl
@[simp] theorem ti_82_size : ti_82.size = 7 := by kernel_rfl
@[simp] theorem ti_82_bytes : ti_82.bytes = 152 := by kernel_rfl
@[simp] theorem ti_82_zero : ti_82.zero = some (.agg #[.slice none 0 0, .slice none 0 0, .slice none 0 0, .slice none 0 0, .slice none 0 0, .slice none 0 0, .int .i64 0]) := by kernel_rfl
noncomputable abbrev ti_impl_selected := ti_82
theorem e_t_impl_selected : P.info? 82 = some ti_82 := ti_82_eq
theorem s_t_impl_selected : ti_82.size = 7 := ti_82_size
theorem b_t_impl_selected : ti_82.bytes = 152 := ti_82_bytes
theorem z_t_impl_selected : zeroP P 82 = some (.agg #[.slice none 0 0, .slice none 0 0, .slice none 0 0, .slice none 0 0, .slice none 0 0, .slice none 0 0, .int .i64 0]) := zero_some ti_82_eq ti_82_zero rfl (by rw [ti_82_size]; rfl)
abbrev t_func_int__int__bool : TypeId := 92
theorem a_func_int__int__bool : (P.underlying 92).map aggD = some false := by kernel_rfl
theorem i_func_int__int__bool : (P.info? 92).map (·.size) = some 1 := by kernel_rfl
noncomputable def ti_92 : TypeInfo := (P.info? 92).getD default
@[simp] theorem ti_92_eq : P.info? 92 = some ti_92 := by kernel_rfl
@[simp] theorem ti_92_size : ti_92.size = 1 := by kernel_rfl
@[simp] theorem ti_92_bytes : ti_92.bytes = 8 := by kernel_rfl
@[simp] theorem ti_92_zero : ti_92.zero = some (.nilFunc) := by kernel_rfl
noncomputable abbrev ti_func_int__int__bool := ti_92
theorem e_t_func_int__int__bool : P.info? 92 = some ti_92 := ti_92_eq
theorem s_t_func_int__int__bool : ti_92.size = 1 := ti_92_size
theorem b_t_func_int__int__bool : ti_92.bytes = 8 := ti_92_bytes
abbrev t_impl_Op : TypeId := 97
theorem a_impl_Op : (P.underlying 97).map aggD = some true := by kernel_rfl
theorem i_impl_Op : (P.info? 97).map (·.size) = some 2 := by kernel_rfl
noncomputable def ti_97 : TypeInfo := (P.info? 97).getD default
@[simp] theorem ti_97_eq : P.info? 97 = some ti_97 := by kernel_rfl
@[simp] theorem ti_97_size : ti_97.size = 2 := by kernel_rfl
@[simp] theorem ti_97_bytes : ti_97.bytes = 16 := by kernel_rfl
@[simp] theorem ti_97_zero : ti_97.zero = some (.agg #[.int .i64 0, .int .i64 0]) := by kernel_rfl
noncomputable abbrev ti_impl_Op := ti_97
theorem e_t_impl_Op : P.info? 97 = some ti_97 := ti_97_eq
theorem s_t_impl_Op : ti_97.size = 2 := ti_97_size
theorem b_t_impl_Op : ti_97.bytes = 16 := ti_97_bytes
theorem z_t_impl_Op : zeroP P 97 = some (.agg #[.int .i64 0, .int .i64 0]) := zero_some ti_97_eq ti_97_zero rfl (by rw [ti_97_size]; rfl)
abbrev t_A2_int : TypeId := 98
theorem u_A2_int : P.underlying 98 = some (.array 2 3) := by kernel_rfl
theorem a_A2_int : (P.underlying 98).map aggD = some true := by kernel_rfl
theorem i_A2_int : (P.info? 98).map (·.size) = some 2 := by kernel_rfl
noncomputable def ti_98 : TypeInfo := (P.info? 98).getD default
@[simp] theorem ti_98_eq : P.info? 98 = some ti_98 := by kernel_rfl
@[simp] theorem ti_98_size : ti_98.size = 2 := by kernel_rfl
@[simp] theorem ti_98_bytes : ti_98.bytes = 16 := by kernel_rfl
@[simp] theorem ti_98_zero : ti_98.zero = some (.agg #[.int .i64 0, .int .i64 0]) := by kernel_rfl
noncomputable abbrev ti_A2_int := ti_98
theorem e_t_A2_int : P.info? 98 = some ti_98 := ti_98_eq
theorem s_t_A2_int : ti_98.size = 2 := ti_98_size
theorem b_t_A2_int : ti_98.bytes = 16 := ti_98_bytes
theorem z_t_A2_int : zeroP P 98 = some (.agg #[.int .i64 0, .int .i64 0]) := zero_some ti_98_eq ti_98_zero rfl (by rw [ti_98_size]; rfl)
abbrev t_spec_l9Search : TypeId := 105
theorem a_spec_l9Search : (P.underlying 105).map aggD = some true := by kernel_rfl
theorem i_spec_l9Search : (P.info? 105).map (·.size) = some 2 := by kernel_rfl
noncomputable def ti_105 : TypeInfo := (P.info? 105).getD default
@[simp] theorem ti_105_eq : P.info? 105 = some ti_105 := by kernel_rfl
@[simp] theorem ti_105_size : ti_105.size = 2 := by kernel_rfl
@[simp] theorem ti_105_bytes : ti_105.bytes = 32 := by kernel_rfl
@[simp] theorem ti_105_zero : ti_105.zero = some (.agg #[.slice none 0 0, .int .i64 0]) := by kernel_rfl
noncomputable abbrev ti_spec_l9Search := ti_105
theorem e_t_spec_l9Search : P.info? 105 = some ti_105 := ti_105_eq
theorem s_t_spec_l9Search : ti_105.size = 2 := ti_105_size
theorem b_t_spec_l9Search : ti_105.bytes = 32 := ti_105_bytes
theorem z_t_spec_l9Search : zeroP P 105 = some (.agg #[.slice none 0 0, .int .i64 0]) := zero_some ti_105_eq ti_105_zero rfl (by rw [ti_105_size]; rfl)
abbrev t_S_S_bool : TypeId := 114
theorem u_S_S_bool : P.underlying 114 = some (.slice 116) := by kernel_rfl
theorem a_S_S_bool : (P.underlying 114).map aggD = some false := by kernel_rfl
theorem i_S_S_bool : (P.info? 114).map (·.size) = some 1 := by kernel_rfl
noncomputable def ti_114 : TypeInfo := (P.info? 114).getD default
@[simp] theorem ti_114_eq : P.info? 114 = some ti_114 := by kernel_rfl
@[simp] theorem ti_114_size : ti_114.size = 1 := by kernel_rfl
@[simp] theorem ti_114_bytes : ti_114.bytes = 24 := by kernel_rfl
@[simp] theorem ti_114_zero : ti_114.zero = some (.slice none 0 0) := by kernel_rfl
noncomputable abbrev ti_S_S_bool := ti_114
theorem e_t_S_S_bool : P.info? 114 = some ti_114 := ti_114_eq
theorem s_t_S_S_bool : ti_114.size = 1 := ti_114_size
theorem b_t_S_S_bool : ti_114.bytes = 24 := ti_114_bytes
theorem z_t_S_S_bool : zeroP P 114 = some (.slice none 0 0) := zero_some ti_114_eq ti_114_zero rfl (by rw [ti_114_size]; rfl)
abbrev t_S_bool : TypeId := 116
theorem u_S_bool : P.underlying 116 = some (.slice 4) := by kernel_rfl
theorem a_S_bool : (P.underlying 116).map aggD = some false := by kernel_rfl
theorem i_S_bool : (P.info? 116).map (·.size) = some 1 := by kernel_rfl
noncomputable def ti_116 : TypeInfo := (P.info? 116).getD default
@[simp] theorem ti_116_eq : P.info? 116 = some ti_116 := by kernel_rfl
@[simp] theorem ti_116_size : ti_116.size = 1 := by kernel_rfl
@[simp] theorem ti_116_bytes : ti_116.bytes = 24 := by kernel_rfl
@[simp] theorem ti_116_zero : ti_116.zero = some (.slice none 0 0) := by kernel_rfl
noncomputable abbrev ti_S_bool := ti_116
theorem e_t_S_bool : P.info? 116 = some ti_116 := ti_116_eq
theorem s_t_S_bool : ti_116.size = 1 := ti_116_size
theorem b_t_S_bool : ti_116.bytes = 24 := ti_116_bytes
theorem z_t_S_bool : zeroP P 116 = some (.slice none 0 0) := zero_some ti_116_eq ti_116_zero rfl (by rw [ti_116_size]; rfl)
abbrev t_impl_Task : TypeId := 118
theorem a_impl_Task : (P.underlying 118).map aggD = some true := by kernel_rfl
theorem i_impl_Task : (P.info? 118).map (·.size) = some 3 := by kernel_rfl
noncomputable def ti_118 : TypeInfo := (P.info? 118).getD default
@[simp] theorem ti_118_eq : P.info? 118 = some ti_118 := by kernel_rfl
@[simp] theorem ti_118_size : ti_118.size = 3 := by kernel_rfl
@[simp] theorem ti_118_bytes : ti_118.bytes = 24 := by kernel_rfl
@[simp] theorem ti_118_zero : ti_118.zero = some (.agg #[.int .i64 0, .int .i64 0, .int .i64 0]) := by kernel_rfl
noncomputable abbrev ti_impl_Task := ti_118
theorem e_t_impl_Task : P.info? 118 = some ti_118 := ti_118_eq
theorem s_t_impl_Task : ti_118.size = 3 := ti_118_size
theorem b_t_impl_Task : ti_118.bytes = 24 := ti_118_bytes
theorem z_t_impl_Task : zeroP P 118 = some (.agg #[.int .i64 0, .int .i64 0, .int .i64 0]) := zero_some ti_118_eq ti_118_zero rfl (by rw [ti_118_size]; rfl)
abbrev t_impl_Job : TypeId := 120
theorem a_impl_Job : (P.underlying 120).map aggD = some true := by kernel_rfl
theorem i_impl_Job : (P.info? 120).map (·.size) = some 4 := by kernel_rfl
noncomputable def ti_120 : TypeInfo := (P.info? 120).getD default
@[simp] theorem ti_120_eq : P.info? 120 = some ti_120 := by kernel_rfl
@[simp] theorem ti_120_size : ti_120.size = 4 := by kernel_rfl
@[simp] theorem ti_120_bytes : ti_120.bytes = 32 := by kernel_rfl
@[simp] theorem ti_120_zero : ti_120.zero = some (.agg #[.int .i64 0, .int .i64 0, .int .i64 0, .int .i64 0]) := by kernel_rfl
noncomputable abbrev ti_impl_Job := ti_120
theorem e_t_impl_Job : P.info? 120 = some ti_120 := ti_120_eq
theorem s_t_impl_Job : ti_120.size = 4 := ti_120_size
theorem b_t_impl_Job : ti_120.bytes = 32 := ti_120_bytes
theorem z_t_impl_Job : zeroP P 120 = some (.agg #[.int .i64 0, .int .i64 0, .int .i64 0, .int .i64 0]) := zero_some ti_120_eq ti_120_zero rfl (by rw [ti_120_size]; rfl)
abbrev t_laws_Job : TypeId := 122
theorem a_laws_Job : (P.underlying 122).map aggD = some true := by kernel_rfl
theorem i_laws_Job : (P.info? 122).map (·.size) = some 4 := by kernel_rfl
noncomputable def ti_122 : TypeInfo := (P.info? 122).getD default
@[simp] theorem ti_122_eq : P.info? 122 = some ti_122 := by kernel_rfl
@[simp] theorem ti_122_size : ti_122.size = 4 := by kernel_rfl
@[simp] theorem ti_122_bytes : ti_122.bytes = 32 := by kernel_rfl
@[simp] theorem ti_122_zero : ti_122.zero = some (.agg #[.int .i64 0, .int .i64 0, .int .i64 0, .int .i64 0]) := by kernel_rfl
noncomputable abbrev ti_laws_Job := ti_122
theorem e_t_laws_Job : P.info? 122 = some ti_122 := ti_122_eq
theorem s_t_laws_Job : ti_122.size = 4 := ti_122_size
theorem b_t_laws_Job : ti_122.bytes = 32 := ti_122_bytes
theorem z_t_laws_Job : zeroP P 122 = some (.agg #[.int .i64 0, .int .i64 0, .int .i64 0, .int .i64 0]) := zero_some ti_122_eq ti_122_zero rfl (by rw [ti_122_size]; rfl)
abbrev t_func_int__bool : TypeId := 124
theorem a_func_int__bool : (P.underlying 124).map aggD = some false := by kernel_rfl
theorem i_func_int__bool : (P.info? 124).map (·.size) = some 1 := by kernel_rfl
noncomputable def ti_124 : TypeInfo := (P.info? 124).getD default
@[simp] theorem ti_124_eq : P.info? 124 = some ti_124 := by kernel_rfl
@[simp] theorem ti_124_size : ti_124.size = 1 := by kernel_rfl
@[simp] theorem ti_124_bytes : ti_124.bytes = 8 := by kernel_rfl
@[simp] theorem ti_124_zero : ti_124.zero = some (.nilFunc) := by kernel_rfl
noncomputable abbrev ti_func_int__bool := ti_124
theorem e_t_func_int__bool : P.info? 124 = some ti_124 := ti_124_eq
theorem s_t_func_int__bool : ti_124.size = 1 := ti_124_size
theorem b_t_func_int__bool : ti_124.bytes = 8 := ti_124_bytes
abbrev t_S_laws_Op : TypeId := 129
theorem u_S_laws_Op : P.underlying 129 = some (.slice 158) := by kernel_rfl
theorem a_S_laws_Op : (P.underlying 129).map aggD = some false := by kernel_rfl
theorem i_S_laws_Op : (P.info? 129).map (·.size) = some 1 := by kernel_rfl
noncomputable def ti_129 : TypeInfo := (P.info? 129).getD default
@[simp] theorem ti_129_eq : P.info? 129 = some ti_129 := by kernel_rfl
@[simp] theorem ti_129_size : ti_129.size = 1 := by kernel_rfl
@[simp] theorem ti_129_bytes : ti_129.bytes = 24 := by kernel_rfl
@[simp] theorem ti_129_zero : ti_129.zero = some (.slice none 0 0) := by kernel_rfl
noncomputable abbrev ti_S_laws_Op := ti_129
theorem e_t_S_laws_Op : P.info? 129 = some ti_129 := ti_129_eq
theorem s_t_S_laws_Op : ti_129.size = 1 := ti_129_size
theorem b_t_S_laws_Op : ti_129.bytes = 24 := ti_129_bytes
theorem z_t_S_laws_Op : zeroP P 129 = some (.slice none 0 0) := zero_some ti_129_eq ti_129_zero rfl (by rw [ti_129_size]; rfl)
abbrev t_func_____int_ : TypeId := 149
theorem a_func_____int_ : (P.underlying 149).map aggD = some false := by kernel_rfl
theorem i_func_____int_ : (P.info? 149).map (·.size) = some 1 := by kernel_rfl
noncomputable def ti_149 : TypeInfo := (P.info? 149).getD default
@[simp] theorem ti_149_eq : P.info? 149 = some ti_149 := by kernel_rfl
@[simp] theorem ti_149_size : ti_149.size = 1 := by kernel_rfl
@[simp] theorem ti_149_bytes : ti_149.bytes = 8 := by kernel_rfl
@[simp] theorem ti_149_zero : ti_149.zero = some (.nilFunc) := by kernel_rfl
noncomputable abbrev ti_func_____int_ := ti_149
theorem e_t_func_____int_ : P.info? 149 = some ti_149 := ti_149_eq
theorem s_t_func_____int_ : ti_149.size = 1 := ti_149_size
theorem b_t_func_____int_ : ti_149.bytes = 8 := ti_149_bytes
abbrev t_laws_Op : TypeId := 158
theorem a_laws_Op : (P.underlying 158).map aggD = some true := by kernel_rfl
theorem i_laws_Op : (P.info? 158).map (·.size) = some 2 := by kernel_rfl
noncomputable def ti_158 : TypeInfo := (P.info? 158).getD default
@[simp] theorem ti_158_eq : P.info? 158 = some ti_158 := by kernel_rfl
@[simp] theorem ti_158_size : ti_158.size = 2 := by kernel_rfl
@[simp] theorem ti_158_bytes : ti_158.bytes = 16 := by kernel_rfl
@[simp] theorem ti_158_zero : ti_158.zero = some (.agg #[.int .i64 0, .int .i64 0]) := by kernel_rfl
noncomputable abbrev ti_laws_Op := ti_158
theorem e_t_laws_Op : P.info? 158 = some ti_158 := ti_158_eq
theorem s_t_laws_Op : ti_158.size = 2 := ti_158_size
theorem b_t_laws_Op : ti_158.bytes = 16 := ti_158_bytes
theorem z_t_laws_Op : zeroP P 158 = some (.agg #[.int .i64 0, .int .i64 0]) := zero_some ti_158_eq ti_158_zero rfl (by rw [ti_158_size]; rfl)
def G : FuncId → GI
  | 64 => ⟨[(5, [0, 1, 5])], [], []⟩
  | 16 => ⟨[(5, [0, 1, 5])], [], []⟩
  | 115 => ⟨[(3, [0, 3, 4])], [], []⟩
  | 68 => ⟨[(3, [0, 3, 4])], [], []⟩
  | 55 => ⟨[(3, [0, 3, 4])], [], []⟩
  | 19 => ⟨[(3, [0, 3, 4])], [], []⟩
  | 156 => ⟨[(2, [0, 1, 5])], [], []⟩
  | 128 => ⟨[(3, [0, 1, 5, 6])], [], []⟩
  | 129 => ⟨[(3, [1, 3, 4])], [], []⟩
  | 91 => ⟨[(4, [1, 3])], [(6, 7)], []⟩
  | 84 => ⟨[(3, [1, 3, 4])], [], []⟩
  | 130 => ⟨[(4, [1, 5, 6, 7])], [], []⟩
  | 164 => ⟨[(4, [1, 2, 5]), (8, [1, 2, 5, 6, 7])], [(10, 8)], []⟩
  | 155 => ⟨[(3, [1, 3, 4]), (6, [1, 3, 4, 5])], [], []⟩
  | 124 => ⟨[(4, [3, 4, 5])], [(6, 11)], []⟩
  | 73 => ⟨[(3, [1, 5, 6]), (6, [1, 5, 6, 7])], [(8, 18)], []⟩
  | 114 => ⟨[(4, [1, 6, 7, 8]), (8, [1, 6, 7, 8, 9, 10])], [(10, 11), (11, 14), (12, 12)], []⟩
  | 113 => ⟨[], [(3, 9)], []⟩
  | 67 => ⟨[], [(1, 9)], []⟩
  | 132 => ⟨[(2, [1, 7, 8, 9])], [], []⟩
  | 94 => ⟨[(5, [1, 3, 20, 21, 22]), (9, [1, 3, 5, 6, 20, 21, 22, 26, 27, 28])], [], []⟩
  | 97 => ⟨[(3, [2, 3, 9, 10, 11]), (6, [2, 3, 4, 9, 10, 11, 16, 17, 18])], [], []⟩
  | 150 => ⟨[(2, [0, 1, 7, 8, 9])], [], []⟩
  | 165 => ⟨[(3, [1, 5, 9, 10, 11]), (6, [1, 5, 7, 8, 9, 10, 11])], [(9, 7)], []⟩
  | 134 => ⟨[(3, [1, 5, 9, 10, 11])], [], []⟩
  | 151 => ⟨[(2, [0, 1, 5])], [(4, 8), (5, 8)], []⟩
  | 116 => ⟨[(5, [5, 15, 16, 17])], [(7, 11)], []⟩
  | 117 => ⟨[(3, [3, 7, 8, 9]), (6, [3, 5, 6, 7, 8, 9])], [(8, 12)], []⟩
  | 153 => ⟨[], [(1, 18)], []⟩
  | 118 => ⟨[(3, [2, 6, 19, 20]), (11, [2, 6, 9, 42, 43]), (14, [2, 6, 9, 10, 42, 43, 45, 46, 47])], [(16, 12)], []⟩
  | 119 => ⟨[(3, [1, 2, 5, 18, 19, 20]), (8, [1, 2, 5, 33, 34]), (10, [1, 2, 5, 33, 34, 37, 38, 39]), (16, [1, 2, 5, 8, 9, 33, 34, 37, 38, 39, 64, 65, 66])], [(14, 14), (19, 15)], []⟩
  | 120 => ⟨[(3, [2, 5, 8, 9, 10])], [], []⟩
  | 21 => ⟨[(4, [0, 1, 5])], [(6, 8)], []⟩
  | 121 => ⟨[(4, [0, 1, 5])], [(6, 8)], []⟩
  | 70 => ⟨[(4, [0, 1, 5])], [(6, 8)], []⟩
  | 23 => ⟨[(4, [0, 1, 5])], [(6, 8)], []⟩
  | 122 => ⟨[(2, [0, 1, 5])], [], []⟩
  | 71 => ⟨[(2, [0, 1, 5])], [], []⟩
  | 26 => ⟨[(2, [0, 1, 5])], [], []⟩
  | 25 => ⟨[(2, [0, 1, 5])], [], []⟩
  | 27 => ⟨[(2, [0, 1, 5])], [], []⟩
  | 3 => ⟨[], [(14, 3)], []⟩
  | 72 => ⟨[(4, [1, 5, 6, 7]), (8, [1, 5, 6, 8]), (11, [1, 5, 6, 8, 9])], [(13, 11), (14, 17)], []⟩
  | 28 => ⟨[], [(3, 4)], []⟩
  | 4 => ⟨[], [(14, 3)], []⟩
  | 85 => ⟨[(3, [0, 3, 4])], [], []⟩
  | 30 => ⟨[], [(3, 4)], []⟩
  | 5 => ⟨[], [(14, 3)], []⟩
  | 32 => ⟨[(5, [1, 2, 3, 4, 10, 11])], [], []⟩
  | 81 => ⟨[], [(2, 15)], []⟩
  | 33 => ⟨[(6, [2, 3, 4, 12, 43, 44, 45])], [], []⟩
  | 34 => ⟨[(2, [0, 1, 5])], [], []⟩
  | 6 => ⟨[], [(14, 3)], []⟩
  | 125 => ⟨[(2, [0, 1, 2, 7])], [], []⟩
  | 82 => ⟨[(5, [5, 6, 7, 8, 9]), (7, [5, 6, 7, 8, 9, 10])], [(1, 4)], []⟩
  | 126 => ⟨[(4, [1, 2, 16, 17, 18])], [], []⟩
  | 83 => ⟨[(3, [1, 3, 4]), (5, [1, 3, 4, 13, 14])], [(7, 36)], []⟩
  | 7 => ⟨[], [(14, 3)], []⟩
  | 37 => ⟨[(8, [1, 6, 8, 9, 10, 11, 12]), (11, [1, 6, 8, 9, 10, 11, 12, 13])], [(4, 4), (5, 5), (13, 16), (14, 16)], []⟩
  | 38 => ⟨[(6, [6, 8, 22, 23, 24]), (9, [6, 8, 9, 10, 11, 22, 23, 24])], [(11, 10), (12, 49)], []⟩
  | 86 => ⟨[(2, [2, 3, 5])], [(4, 6)], []⟩
  | 39 => ⟨[(4, [0, 1, 5])], [(6, 8)], []⟩
  | 40 => ⟨[(2, [0, 1, 5]), (5, [0, 1, 5, 6])], [], []⟩
  | 41 => ⟨[(2, [0, 1, 5]), (5, [0, 1, 5, 6])], [], []⟩
  | 8 => ⟨[], [(14, 3)], []⟩
  | 87 => ⟨[(4, [5, 6, 7, 8])], [(2, 4), (6, 20), (7, 15)], []⟩
  | 127 => ⟨[(2, [0, 1, 5])], [], []⟩
  | 42 => ⟨[(5, [2, 3, 8, 9]), (10, [2, 3, 8, 9, 10, 11, 12])], [(7, 8), (8, 14), (12, 9)], []⟩
  | 89 => ⟨[(4, [1, 3, 4, 9, 10, 11])], [(6, 21)], []⟩
  | 90 => ⟨[(2, [1, 7, 8, 9])], [], []⟩
  | 43 => ⟨[(6, [2, 8, 39, 40, 41]), (11, [2, 8, 14, 15, 16, 39, 40, 41, 70, 71, 72])], [(8, 10), (9, 12)], []⟩
  | 9 => ⟨[], [(18, 3)], []⟩
  | 10 => ⟨[], [(14, 3)], []⟩
  | 92 => ⟨[(3, [1, 3, 4]), (6, [1, 3, 4, 5])], [], []⟩
  | 157 => ⟨[], [(1, 8)], []⟩
  | 131 => ⟨[(5, [0, 3, 4]), (9, [0, 3, 4, 5, 6])], [], [(11, 12, [(10, 5)])]⟩
  | 93 => ⟨[(10, [1, 3, 5, 6, 11, 12])], [], [(12, 11, [(9, 3)])]⟩
  | 133 => ⟨[(2, [0, 3])], [], []⟩
  | 136 => ⟨[], [(0, 8)], []⟩
  | 158 => ⟨[(2, [0, 3]), (7, [0, 3, 4]), (11, [0, 5, 6])], [(2, 12), (7, 8), (9, 13), (13, 13)], []⟩
  | 135 => ⟨[(4, [2, 3, 4, 5, 8])], [], [(4, 10, [(8, 4)])]⟩
  | 95 => ⟨[(4, [1, 5, 6, 7])], [(12, 3)], []⟩
  | 11 => ⟨[], [(10, 3)], []⟩
  | 138 => ⟨[(3, [1, 4, 5, 6]), (6, [1, 4, 5, 6, 7])], [(8, 22)], []⟩
  | 96 => ⟨[], [], [(5, 14, [(8, 5)]), (6, 18, [(12, 5)])]⟩
  | 48 => ⟨[], [(4, 7)], []⟩
  | 98 => ⟨[(6, [1, 2, 3, 4, 30, 31]), (9, [1, 2, 3, 4, 10, 11, 30, 31]), (14, [1, 2, 3, 4, 10, 11, 12, 30, 31, 56, 57, 58])], [(11, 12), (19, 17), (22, 10)], []⟩
  | 12 => ⟨[], [(10, 3)], []⟩
  | 53 => ⟨[(3, [0, 3, 4])], [], []⟩
  | 103 => ⟨[(3, [1, 2, 3, 4])], [], []⟩
  | 54 => ⟨[(3, [0, 3, 4])], [], []⟩
  | 159 => ⟨[(2, [0, 3])], [], []⟩
  | 160 => ⟨[(2, [0, 3])], [], []⟩
  | 168 => ⟨[(2, [0, 1, 5])], [(4, 46)], []⟩
  | 101 => ⟨[(3, [0, 1, 5, 6]), (7, [0, 1, 5, 7]), (11, [0, 5, 8]), (14, [0, 5, 8, 9]), (17, [0, 5, 8, 9, 10])], [(9, 13)], []⟩
  | 161 => ⟨[(5, [0, 5, 6])], [], []⟩
  | 142 => ⟨[(4, [0, 1, 5])], [], []⟩
  | 143 => ⟨[(2, [0, 1, 2, 3, 9]), (7, [0, 1, 2, 3, 9, 10, 11])], [(9, 22)], []⟩
  | 144 => ⟨[(3, [0, 1, 5, 6])], [], []⟩
  | 100 => ⟨[(6, [0, 1, 3, 9, 10, 11, 12, 13]), (12, [0, 1, 3, 10, 11, 12, 14, 15, 16]), (14, [0, 1, 3, 10, 11, 12, 14, 15, 16, 17])], [], []⟩
  | 52 => ⟨[(5, [0, 10, 11, 12]), (7, [0, 10, 11, 12, 13, 14])], [(9, 11), (10, 25)], []⟩
  | 169 => ⟨[(4, [8, 9, 10])], [], []⟩
  | 170 => ⟨[(2, [5, 6, 7])], [], []⟩
  | 105 => ⟨[(3, [0, 1, 5, 15, 16]), (8, [0, 5, 25, 26, 27]), (13, [0, 5, 9]), (16, [0, 5, 9, 10]), (19, [0, 5, 9, 10, 11])], [(10, 7), (21, 30)], []⟩
  | 163 => ⟨[(4, [0, 1, 17, 18, 19]), (13, [7, 83, 84])], [(8, 31)], []⟩
  | 147 => ⟨[(4, [0, 1, 2, 3, 4, 5, 15, 16])], [(6, 26)], []⟩
  | 106 => ⟨[(7, [3, 4, 10, 11, 12, 13, 14, 15]), (10, [3, 4, 10, 11, 12, 13, 14, 15, 39, 40]), (14, [3, 4, 10, 11, 12, 13, 14, 15, 16, 39, 40, 49, 50, 51])], [(6, 3)], []⟩
  | 107 => ⟨[(3, [0, 1, 2, 5, 8, 9])], [(5, 29)], []⟩
  | 109 => ⟨[], [(1, 5)], []⟩
  | 56 => ⟨[(8, [10, 12, 13, 14]), (14, [13, 16, 17])], [], []⟩
  | 57 => ⟨[(4, [0, 1, 5])], [(6, 8)], []⟩
  | 58 => ⟨[(2, [0, 1, 5])], [], []⟩
  | 61 => ⟨[(4, [0, 1, 5])], [(6, 8)], []⟩
  | 62 => ⟨[(2, [0, 1, 5])], [], []⟩
  | 63 => ⟨[(2, [0, 1, 5])], [], []⟩
  | _ => ⟨[], [], []⟩
noncomputable def c_laws_szOpS : Code := Go.Proofs.Try.f112.body.getD .skip
abbrev n_laws_szOpS : FuncId := 112
theorem g_laws_szOpS : G 112 = ⟨[], [], []⟩ := rfl
attribute [simp] c_laws_szOpS g_laws_szOpS Go.Proofs.Try.f112
theorem e_laws_szOpS : enterG P (G 112) 112 = some (c_laws_szOpS, 12, #[.tmp 4]) := by kernel_rfl
noncomputable def c_laws_szOpSS : Code := Go.Proofs.Try.f64.body.getD .skip
abbrev n_laws_szOpSS : FuncId := 64
theorem g_laws_szOpSS : G 64 = ⟨[(5, [0, 1, 5])], [], []⟩ := rfl
attribute [simp] c_laws_szOpSS g_laws_szOpSS Go.Proofs.Try.f64
theorem e_laws_szOpSS : enterG P (G 64) 64 = some (c_laws_szOpSS, 27, #[.tmp 4]) := by kernel_rfl
noncomputable def c_laws_szJobShop : Code := Go.Proofs.Try.f15.body.getD .skip
abbrev n_laws_szJobShop : FuncId := 15
theorem g_laws_szJobShop : G 15 = ⟨[], [], []⟩ := rfl
attribute [simp] c_laws_szJobShop g_laws_szJobShop Go.Proofs.Try.f15
theorem e_laws_szJobShop : enterG P (G 15) 15 = some (c_laws_szJobShop, 12, #[.tmp 4]) := by kernel_rfl
noncomputable def c_laws_szIntS : Code := Go.Proofs.Try.f65.body.getD .skip
abbrev n_laws_szIntS : FuncId := 65
theorem g_laws_szIntS : G 65 = ⟨[], [], []⟩ := rfl
attribute [simp] c_laws_szIntS g_laws_szIntS Go.Proofs.Try.f65
theorem e_laws_szIntS : enterG P (G 65) 65 = some (c_laws_szIntS, 12, #[.tmp 4]) := by kernel_rfl
noncomputable def c_laws_szIntSS : Code := Go.Proofs.Try.f16.body.getD .skip
abbrev n_laws_szIntSS : FuncId := 16
theorem g_laws_szIntSS : G 16 = ⟨[(5, [0, 1, 5])], [], []⟩ := rfl
attribute [simp] c_laws_szIntSS g_laws_szIntSS Go.Proofs.Try.f16
theorem e_laws_szIntSS : enterG P (G 16) 16 = some (c_laws_szIntSS, 27, #[.tmp 4]) := by kernel_rfl
noncomputable def c_laws_toOp : Code := Go.Proofs.Try.f149.body.getD .skip
abbrev n_laws_toOp : FuncId := 149
theorem g_laws_toOp : G 149 = ⟨[], [], []⟩ := rfl
attribute [simp] c_laws_toOp g_laws_toOp Go.Proofs.Try.f149
theorem e_laws_toOp : enterG P (G 149) 149 = some (c_laws_toOp, 11, #[.cell 2 97]) := by kernel_rfl
noncomputable def c_laws_toOpS : Code := Go.Proofs.Try.f115.body.getD .skip
abbrev n_laws_toOpS : FuncId := 115
theorem g_laws_toOpS : G 115 = ⟨[(3, [0, 3, 4])], [], []⟩ := rfl
attribute [simp] c_laws_toOpS g_laws_toOpS Go.Proofs.Try.f115
theorem e_laws_toOpS : enterG P (G 115) 115 = some (c_laws_toOpS, 23, #[.tmp 2]) := by kernel_rfl
noncomputable def c_laws_toOpSS : Code := Go.Proofs.Try.f68.body.getD .skip
abbrev n_laws_toOpSS : FuncId := 68
theorem g_laws_toOpSS : G 68 = ⟨[(3, [0, 3, 4])], [], []⟩ := rfl
attribute [simp] c_laws_toOpSS g_laws_toOpSS Go.Proofs.Try.f68
theorem e_laws_toOpSS : enterG P (G 68) 68 = some (c_laws_toOpSS, 23, #[.tmp 2]) := by kernel_rfl
noncomputable def c_laws_toJobShop : Code := Go.Proofs.Try.f18.body.getD .skip
abbrev n_laws_toJobShop : FuncId := 18
theorem g_laws_toJobShop : G 18 = ⟨[], [], []⟩ := rfl
attribute [simp] c_laws_toJobShop g_laws_toJobShop Go.Proofs.Try.f18
theorem e_laws_toJobShop : enterG P (G 18) 18 = some (c_laws_toJobShop, 12, #[.cell 2 33]) := by kernel_rfl
noncomputable def c_laws_toIntS : Code := Go.Proofs.Try.f55.body.getD .skip
abbrev n_laws_toIntS : FuncId := 55
theorem g_laws_toIntS : G 55 = ⟨[(3, [0, 3, 4])], [], []⟩ := rfl
attribute [simp] c_laws_toIntS g_laws_toIntS Go.Proofs.Try.f55
theorem e_laws_toIntS : enterG P (G 55) 55 = some (c_laws_toIntS, 22, #[.tmp 2]) := by kernel_rfl
noncomputable def c_laws_toIntSS : Code := Go.Proofs.Try.f19.body.getD .skip
abbrev n_laws_toIntSS : FuncId := 19
theorem g_laws_toIntSS : G 19 = ⟨[(3, [0, 3, 4])], [], []⟩ := rfl
attribute [simp] c_laws_toIntSS g_laws_toIntSS Go.Proofs.Try.f19
theorem e_laws_toIntSS : enterG P (G 19) 19 = some (c_laws_toIntSS, 23, #[.tmp 2]) := by kernel_rfl
noncomputable def c_spec_l1In : Code := Go.Proofs.Try.f75.body.getD .skip
abbrev n_spec_l1In : FuncId := 75
theorem g_spec_l1In : G 75 = ⟨[], [], []⟩ := rfl
attribute [simp] c_spec_l1In g_spec_l1In Go.Proofs.Try.f75
theorem e_spec_l1In : enterG P (G 75) 75 = some (c_spec_l1In, 15, #[.tmp 6]) := by kernel_rfl
noncomputable def c_spec_l1Has : Code := Go.Proofs.Try.f156.body.getD .skip
abbrev n_spec_l1Has : FuncId := 156
theorem g_spec_l1Has : G 156 = ⟨[(2, [0, 1, 5])], [], []⟩ := rfl
attribute [simp] c_spec_l1Has g_spec_l1Has Go.Proofs.Try.f156
theorem e_spec_l1Has : enterG P (G 156) 156 = some (c_spec_l1Has, 18, #[.tmp 4]) := by kernel_rfl
noncomputable def c_spec_l9Route : Code := Go.Proofs.Try.f128.body.getD .skip
abbrev n_spec_l9Route : FuncId := 128
theorem g_spec_l9Route : G 128 = ⟨[(3, [0, 1, 5, 6])], [], []⟩ := rfl
attribute [simp] c_spec_l9Route g_spec_l9Route Go.Proofs.Try.f128
theorem e_spec_l9Route : enterG P (G 128) 128 = some (c_spec_l9Route, 42, #[.tmp 4]) := by kernel_rfl
noncomputable def c_spec_l9Count : Code := Go.Proofs.Try.f129.body.getD .skip
abbrev n_spec_l9Count : FuncId := 129
theorem g_spec_l9Count : G 129 = ⟨[(3, [1, 3, 4])], [], []⟩ := rfl
attribute [simp] c_spec_l9Count g_spec_l9Count Go.Proofs.Try.f129
theorem e_spec_l9Count : enterG P (G 129) 129 = some (c_spec_l9Count, 21, #[.tmp 2]) := by kernel_rfl
noncomputable def c_spec_l9Good : Code := Go.Proofs.Try.f91.body.getD .skip
abbrev n_spec_l9Good : FuncId := 91
theorem g_spec_l9Good : G 91 = ⟨[(4, [1, 3])], [(6, 7)], []⟩ := rfl
attribute [simp] c_spec_l9Good g_spec_l9Good Go.Proofs.Try.f91
theorem e_spec_l9Good : enterG P (G 91) 91 = some (c_spec_l9Good, 33, #[.tmp 2]) := by kernel_rfl
noncomputable def c_spec_l9All : Code := Go.Proofs.Try.f84.body.getD .skip
abbrev n_spec_l9All : FuncId := 84
theorem g_spec_l9All : G 84 = ⟨[(3, [1, 3, 4])], [], []⟩ := rfl
attribute [simp] c_spec_l9All g_spec_l9All Go.Proofs.Try.f84
theorem e_spec_l9All : enterG P (G 84) 84 = some (c_spec_l9All, 21, #[.tmp 2]) := by kernel_rfl
noncomputable def c_spec_l9On : Code := Go.Proofs.Try.f130.body.getD .skip
abbrev n_spec_l9On : FuncId := 130
theorem g_spec_l9On : G 130 = ⟨[(4, [1, 5, 6, 7])], [], []⟩ := rfl
attribute [simp] c_spec_l9On g_spec_l9On Go.Proofs.Try.f130
theorem e_spec_l9On : enterG P (G 130) 130 = some (c_spec_l9On, 29, #[.tmp 4]) := by kernel_rfl
noncomputable def c_spec_l9Selects : Code := Go.Proofs.Try.f164.body.getD .skip
abbrev n_spec_l9Selects : FuncId := 164
theorem g_spec_l9Selects : G 164 = ⟨[(4, [1, 2, 5]), (8, [1, 2, 5, 6, 7])], [(10, 8)], []⟩ := rfl
attribute [simp] c_spec_l9Selects g_spec_l9Selects Go.Proofs.Try.f164
theorem e_spec_l9Selects : enterG P (G 164) 164 = some (c_spec_l9Selects, 46, #[.tmp 4]) := by kernel_rfl
noncomputable def c_spec_l9Selected : Code := Go.Proofs.Try.f148.body.getD .skip
abbrev n_spec_l9Selected : FuncId := 148
theorem g_spec_l9Selected : G 148 = ⟨[], [], []⟩ := rfl
attribute [simp] c_spec_l9Selected g_spec_l9Selected Go.Proofs.Try.f148
theorem e_spec_l9Selected : enterG P (G 148) 148 = some (c_spec_l9Selected, 12, #[.tmp 4]) := by kernel_rfl
noncomputable def c_spec_l9Ops : Code := Go.Proofs.Try.f155.body.getD .skip
abbrev n_spec_l9Ops : FuncId := 155
theorem g_spec_l9Ops : G 155 = ⟨[(3, [1, 3, 4]), (6, [1, 3, 4, 5])], [], []⟩ := rfl
attribute [simp] c_spec_l9Ops g_spec_l9Ops Go.Proofs.Try.f155
theorem e_spec_l9Ops : enterG P (G 155) 155 = some (c_spec_l9Ops, 31, #[.tmp 2]) := by kernel_rfl
noncomputable def c_spec_l9Next : Code := Go.Proofs.Try.f124.body.getD .skip
abbrev n_spec_l9Next : FuncId := 124
theorem g_spec_l9Next : G 124 = ⟨[(4, [3, 4, 5])], [(6, 11)], []⟩ := rfl
attribute [simp] c_spec_l9Next g_spec_l9Next Go.Proofs.Try.f124
theorem e_spec_l9Next : enterG P (G 124) 124 = some (c_spec_l9Next, 36, #[.tmp 2]) := by kernel_rfl
noncomputable def c_spec_l9Arcs : Code := Go.Proofs.Try.f73.body.getD .skip
abbrev n_spec_l9Arcs : FuncId := 73
theorem g_spec_l9Arcs : G 73 = ⟨[(3, [1, 5, 6]), (6, [1, 5, 6, 7])], [(8, 18)], []⟩ := rfl
attribute [simp] c_spec_l9Arcs g_spec_l9Arcs Go.Proofs.Try.f73
theorem e_spec_l9Arcs : enterG P (G 73) 73 = some (c_spec_l9Arcs, 46, #[.tmp 4]) := by kernel_rfl
noncomputable def c_spec_l9Starts : Code := Go.Proofs.Try.f114.body.getD .skip
abbrev n_spec_l9Starts : FuncId := 114
theorem g_spec_l9Starts : G 114 = ⟨[(4, [1, 6, 7, 8]), (8, [1, 6, 7, 8, 9, 10])], [(10, 11), (11, 14), (12, 12)], []⟩ := rfl
attribute [simp] c_spec_l9Starts g_spec_l9Starts Go.Proofs.Try.f114
theorem e_spec_l9Starts : enterG P (G 114) 114 = some (c_spec_l9Starts, 72, #[.tmp 4, .tmp 5]) := by kernel_rfl
noncomputable def c_spec_IsAcyclic : Code := Go.Proofs.Try.f113.body.getD .skip
abbrev n_spec_IsAcyclic : FuncId := 113
theorem g_spec_IsAcyclic : G 113 = ⟨[], [(3, 9)], []⟩ := rfl
attribute [simp] c_spec_IsAcyclic g_spec_IsAcyclic Go.Proofs.Try.f113
theorem e_spec_IsAcyclic : enterG P (G 113) 113 = some (c_spec_IsAcyclic, 21, #[.tmp 4, .tmp 5]) := by kernel_rfl
noncomputable def c_spec_l9Open : Code := Go.Proofs.Try.f66.body.getD .skip
abbrev n_spec_l9Open : FuncId := 66
theorem g_spec_l9Open : G 66 = ⟨[], [], []⟩ := rfl
attribute [simp] c_spec_l9Open g_spec_l9Open Go.Proofs.Try.f66
theorem e_spec_l9Open : enterG P (G 66) 66 = some (c_spec_l9Open, 17, #[.tmp 4]) := by kernel_rfl
noncomputable def c_spec_l9Heads : Code := Go.Proofs.Try.f67.body.getD .skip
abbrev n_spec_l9Heads : FuncId := 67
theorem g_spec_l9Heads : G 67 = ⟨[], [(1, 9)], []⟩ := rfl
attribute [simp] c_spec_l9Heads g_spec_l9Heads Go.Proofs.Try.f67
theorem e_spec_l9Heads : enterG P (G 67) 67 = some (c_spec_l9Heads, 16, #[.tmp 4]) := by kernel_rfl
noncomputable def c_spec_HeadsOf : Code := Go.Proofs.Try.f17.body.getD .skip
abbrev n_spec_HeadsOf : FuncId := 17
theorem g_spec_HeadsOf : G 17 = ⟨[], [], []⟩ := rfl
attribute [simp] c_spec_HeadsOf g_spec_HeadsOf Go.Proofs.Try.f17
theorem e_spec_HeadsOf : enterG P (G 17) 17 = some (c_spec_HeadsOf, 14, #[.tmp 4, .tmp 5]) := by kernel_rfl
noncomputable def c_impl_within : Code := Go.Proofs.Try.f79.body.getD .skip
abbrev n_impl_within : FuncId := 79
theorem g_impl_within : G 79 = ⟨[], [], []⟩ := rfl
attribute [simp] c_impl_within g_impl_within Go.Proofs.Try.f79
theorem e_impl_within : enterG P (G 79) 79 = some (c_impl_within, 15, #[.tmp 6]) := by kernel_rfl
noncomputable def c_impl_isNumber : Code := Go.Proofs.Try.f78.body.getD .skip
abbrev n_impl_isNumber : FuncId := 78
theorem g_impl_isNumber : G 78 = ⟨[], [], []⟩ := rfl
attribute [simp] c_impl_isNumber g_impl_isNumber Go.Proofs.Try.f78
theorem e_impl_isNumber : enterG P (G 78) 78 = some (c_impl_isNumber, 9, #[.tmp 4]) := by kernel_rfl
noncomputable def c_impl_has : Code := Go.Proofs.Try.f132.body.getD .skip
abbrev n_impl_has : FuncId := 132
theorem g_impl_has : G 132 = ⟨[(2, [1, 7, 8, 9])], [], []⟩ := rfl
attribute [simp] c_impl_has g_impl_has Go.Proofs.Try.f132
theorem e_impl_has : enterG P (G 132) 132 = some (c_impl_has, 17, #[.tmp 4]) := by kernel_rfl
noncomputable def c_impl_IsJobShop : Code := Go.Proofs.Try.f94.body.getD .skip
abbrev n_impl_IsJobShop : FuncId := 94
theorem g_impl_IsJobShop : G 94 = ⟨[(5, [1, 3, 20, 21, 22]), (9, [1, 3, 5, 6, 20, 21, 22, 26, 27, 28])], [], []⟩ := rfl
attribute [simp] c_impl_IsJobShop g_impl_IsJobShop Go.Proofs.Try.f94
theorem e_impl_IsJobShop : enterG P (G 94) 94 = some (c_impl_IsJobShop, 63, #[.tmp 2]) := by kernel_rfl
noncomputable def c_impl_flatOf : Code := Go.Proofs.Try.f97.body.getD .skip
abbrev n_impl_flatOf : FuncId := 97
theorem g_impl_flatOf : G 97 = ⟨[(3, [2, 3, 9, 10, 11]), (6, [2, 3, 4, 9, 10, 11, 16, 17, 18])], [], []⟩ := rfl
attribute [simp] c_impl_flatOf g_impl_flatOf Go.Proofs.Try.f97
theorem e_impl_flatOf : enterG P (G 97) 97 = some (c_impl_flatOf, 44, #[.cell 2 80]) := by kernel_rfl
noncomputable def c_impl_areDifferent : Code := Go.Proofs.Try.f150.body.getD .skip
abbrev n_impl_areDifferent : FuncId := 150
theorem g_impl_areDifferent : G 150 = ⟨[(2, [0, 1, 7, 8, 9])], [], []⟩ := rfl
attribute [simp] c_impl_areDifferent g_impl_areDifferent Go.Proofs.Try.f150
theorem e_impl_areDifferent : enterG P (G 150) 150 = some (c_impl_areDifferent, 26, #[.tmp 4]) := by kernel_rfl
noncomputable def c_impl_sortedBy : Code := Go.Proofs.Try.f165.body.getD .skip
abbrev n_impl_sortedBy : FuncId := 165
theorem g_impl_sortedBy : G 165 = ⟨[(3, [1, 5, 9, 10, 11]), (6, [1, 5, 7, 8, 9, 10, 11])], [(9, 7)], []⟩ := rfl
attribute [simp] c_impl_sortedBy g_impl_sortedBy Go.Proofs.Try.f165
theorem e_impl_sortedBy : enterG P (G 165) 165 = some (c_impl_sortedBy, 48, #[.tmp 4]) := by kernel_rfl
noncomputable def c_impl_ascending_1 : Code := Go.Proofs.Try.f166.body.getD .skip
abbrev n_impl_ascending_1 : FuncId := 166
theorem g_impl_ascending_1 : G 166 = ⟨[], [], []⟩ := rfl
attribute [simp] c_impl_ascending_1 g_impl_ascending_1 Go.Proofs.Try.f166
theorem e_impl_ascending_1 : enterG P (G 166) 166 = some (c_impl_ascending_1, 8, #[.tmp 4]) := by kernel_rfl
noncomputable def c_impl_ascending : Code := Go.Proofs.Try.f152.body.getD .skip
abbrev n_impl_ascending : FuncId := 152
theorem g_impl_ascending : G 152 = ⟨[], [], []⟩ := rfl
attribute [simp] c_impl_ascending g_impl_ascending Go.Proofs.Try.f152
theorem e_impl_ascending : enterG P (G 152) 152 = some (c_impl_ascending, 5, #[.tmp 2]) := by kernel_rfl
noncomputable def c_impl_flat_on : Code := Go.Proofs.Try.f134.body.getD .skip
abbrev n_impl_flat_on : FuncId := 134
theorem g_impl_flat_on : G 134 = ⟨[(3, [1, 5, 9, 10, 11])], [], []⟩ := rfl
attribute [simp] c_impl_flat_on g_impl_flat_on Go.Proofs.Try.f134
theorem e_impl_flat_on : enterG P (G 134) 134 = some (c_impl_flat_on, 26, #[.tmp 4]) := by kernel_rfl
noncomputable def c_impl_compareLists : Code := Go.Proofs.Try.f151.body.getD .skip
abbrev n_impl_compareLists : FuncId := 151
theorem g_impl_compareLists : G 151 = ⟨[(2, [0, 1, 5])], [(4, 8), (5, 8)], []⟩ := rfl
attribute [simp] c_impl_compareLists g_impl_compareLists Go.Proofs.Try.f151
theorem e_impl_compareLists : enterG P (G 151) 151 = some (c_impl_compareLists, 41, #[.tmp 4]) := by kernel_rfl
noncomputable def c_impl_isSelection : Code := Go.Proofs.Try.f116.body.getD .skip
abbrev n_impl_isSelection : FuncId := 116
theorem g_impl_isSelection : G 116 = ⟨[(5, [5, 15, 16, 17])], [(7, 11)], []⟩ := rfl
attribute [simp] c_impl_isSelection g_impl_isSelection Go.Proofs.Try.f116
theorem e_impl_isSelection : enterG P (G 116) 116 = some (c_impl_isSelection, 38, #[.tmp 4]) := by kernel_rfl
noncomputable def c_impl_arcsOf : Code := Go.Proofs.Try.f117.body.getD .skip
abbrev n_impl_arcsOf : FuncId := 117
theorem g_impl_arcsOf : G 117 = ⟨[(3, [3, 7, 8, 9]), (6, [3, 5, 6, 7, 8, 9])], [(8, 12)], []⟩ := rfl
attribute [simp] c_impl_arcsOf g_impl_arcsOf Go.Proofs.Try.f117
theorem e_impl_arcsOf : enterG P (G 117) 117 = some (c_impl_arcsOf, 34, #[.tmp 2]) := by kernel_rfl
noncomputable def c_impl_flat_next : Code := Go.Proofs.Try.f153.body.getD .skip
abbrev n_impl_flat_next : FuncId := 153
theorem g_impl_flat_next : G 153 = ⟨[], [(1, 18)], []⟩ := rfl
attribute [simp] c_impl_flat_next g_impl_flat_next Go.Proofs.Try.f153
theorem e_impl_flat_next : enterG P (G 153) 153 = some (c_impl_flat_next, 27, #[.tmp 4]) := by kernel_rfl
noncomputable def c_impl_flat_headsWith : Code := Go.Proofs.Try.f118.body.getD .skip
abbrev n_impl_flat_headsWith : FuncId := 118
theorem g_impl_flat_headsWith : G 118 = ⟨[(3, [2, 6, 19, 20]), (11, [2, 6, 9, 42, 43]), (14, [2, 6, 9, 10, 42, 43, 45, 46, 47])], [(16, 12)], []⟩ := rfl
attribute [simp] c_impl_flat_headsWith g_impl_flat_headsWith Go.Proofs.Try.f118
theorem e_impl_flat_headsWith : enterG P (G 118) 118 = some (c_impl_flat_headsWith, 81, #[.tmp 4, .tmp 5]) := by kernel_rfl
noncomputable def c_impl_flat_tailsWith : Code := Go.Proofs.Try.f119.body.getD .skip
abbrev n_impl_flat_tailsWith : FuncId := 119
theorem g_impl_flat_tailsWith : G 119 = ⟨[(3, [1, 2, 5, 18, 19, 20]), (8, [1, 2, 5, 33, 34]), (10, [1, 2, 5, 33, 34, 37, 38, 39]), (16, [1, 2, 5, 8, 9, 33, 34, 37, 38, 39, 64, 65, 66])], [(14, 14), (19, 15)], []⟩ := rfl
attribute [simp] c_impl_flat_tailsWith g_impl_flat_tailsWith Go.Proofs.Try.f119
theorem e_impl_flat_tailsWith : enterG P (G 119) 119 = some (c_impl_flat_tailsWith, 94, #[.tmp 4]) := by kernel_rfl
noncomputable def c_impl_flat_boundOf : Code := Go.Proofs.Try.f120.body.getD .skip
abbrev n_impl_flat_boundOf : FuncId := 120
theorem g_impl_flat_boundOf : G 120 = ⟨[(3, [2, 5, 8, 9, 10])], [], []⟩ := rfl
attribute [simp] c_impl_flat_boundOf g_impl_flat_boundOf Go.Proofs.Try.f120
theorem e_impl_flat_boundOf : enterG P (G 120) 120 = some (c_impl_flat_boundOf, 27, #[.tmp 4]) := by kernel_rfl
noncomputable def c_impl_selectedBy : Code := Go.Proofs.Try.f69.body.getD .skip
abbrev n_impl_selectedBy : FuncId := 69
theorem g_impl_selectedBy : G 69 = ⟨[], [], []⟩ := rfl
attribute [simp] c_impl_selectedBy g_impl_selectedBy Go.Proofs.Try.f69
theorem e_impl_selectedBy : enterG P (G 69) 69 = some (c_impl_selectedBy, 49, #[.cell 4 82, .tmp 5]) := by kernel_rfl
noncomputable def c_impl_HeadsOf : Code := Go.Proofs.Try.f20.body.getD .skip
abbrev n_impl_HeadsOf : FuncId := 20
theorem g_impl_HeadsOf : G 20 = ⟨[], [], []⟩ := rfl
attribute [simp] c_impl_HeadsOf g_impl_HeadsOf Go.Proofs.Try.f20
theorem e_impl_HeadsOf : enterG P (G 20) 20 = some (c_impl_HeadsOf, 17, #[.tmp 4, .tmp 5]) := by kernel_rfl
noncomputable def c_laws_eqIntS : Code := Go.Proofs.Try.f21.body.getD .skip
abbrev n_laws_eqIntS : FuncId := 21
theorem g_laws_eqIntS : G 21 = ⟨[(4, [0, 1, 5])], [(6, 8)], []⟩ := rfl
attribute [simp] c_laws_eqIntS g_laws_eqIntS Go.Proofs.Try.f21
theorem e_laws_eqIntS : enterG P (G 21) 21 = some (c_laws_eqIntS, 26, #[.tmp 4]) := by kernel_rfl
noncomputable def c_laws_eqOp : Code := Go.Proofs.Try.f154.body.getD .skip
abbrev n_laws_eqOp : FuncId := 154
theorem g_laws_eqOp : G 154 = ⟨[], [], []⟩ := rfl
attribute [simp] c_laws_eqOp g_laws_eqOp Go.Proofs.Try.f154
theorem e_laws_eqOp : enterG P (G 154) 154 = some (c_laws_eqOp, 15, #[.tmp 4]) := by kernel_rfl
noncomputable def c_laws_eqOpS : Code := Go.Proofs.Try.f121.body.getD .skip
abbrev n_laws_eqOpS : FuncId := 121
theorem g_laws_eqOpS : G 121 = ⟨[(4, [0, 1, 5])], [(6, 8)], []⟩ := rfl
attribute [simp] c_laws_eqOpS g_laws_eqOpS Go.Proofs.Try.f121
theorem e_laws_eqOpS : enterG P (G 121) 121 = some (c_laws_eqOpS, 27, #[.tmp 4]) := by kernel_rfl
noncomputable def c_laws_eqOpSS : Code := Go.Proofs.Try.f70.body.getD .skip
abbrev n_laws_eqOpSS : FuncId := 70
theorem g_laws_eqOpSS : G 70 = ⟨[(4, [0, 1, 5])], [(6, 8)], []⟩ := rfl
attribute [simp] c_laws_eqOpSS g_laws_eqOpSS Go.Proofs.Try.f70
theorem e_laws_eqOpSS : enterG P (G 70) 70 = some (c_laws_eqOpSS, 27, #[.tmp 4]) := by kernel_rfl
noncomputable def c_laws_eqJobShop : Code := Go.Proofs.Try.f22.body.getD .skip
abbrev n_laws_eqJobShop : FuncId := 22
theorem g_laws_eqJobShop : G 22 = ⟨[], [], []⟩ := rfl
attribute [simp] c_laws_eqJobShop g_laws_eqJobShop Go.Proofs.Try.f22
theorem e_laws_eqJobShop : enterG P (G 22) 22 = some (c_laws_eqJobShop, 16, #[.tmp 4]) := by kernel_rfl
noncomputable def c_laws_eqIntSS : Code := Go.Proofs.Try.f23.body.getD .skip
abbrev n_laws_eqIntSS : FuncId := 23
theorem g_laws_eqIntSS : G 23 = ⟨[(4, [0, 1, 5])], [(6, 8)], []⟩ := rfl
attribute [simp] c_laws_eqIntSS g_laws_eqIntSS Go.Proofs.Try.f23
theorem e_laws_eqIntSS : enterG P (G 23) 23 = some (c_laws_eqIntSS, 27, #[.tmp 4]) := by kernel_rfl
noncomputable def c_laws_markOpS : Code := Go.Proofs.Try.f122.body.getD .skip
abbrev n_laws_markOpS : FuncId := 122
theorem g_laws_markOpS : G 122 = ⟨[(2, [0, 1, 5])], [], []⟩ := rfl
attribute [simp] c_laws_markOpS g_laws_markOpS Go.Proofs.Try.f122
theorem e_laws_markOpS : enterG P (G 122) 122 = some (c_laws_markOpS, 27, #[.tmp 4]) := by kernel_rfl
noncomputable def c_laws_markOpSS : Code := Go.Proofs.Try.f71.body.getD .skip
abbrev n_laws_markOpSS : FuncId := 71
theorem g_laws_markOpSS : G 71 = ⟨[(2, [0, 1, 5])], [], []⟩ := rfl
attribute [simp] c_laws_markOpSS g_laws_markOpSS Go.Proofs.Try.f71
theorem e_laws_markOpSS : enterG P (G 71) 71 = some (c_laws_markOpSS, 19, #[.tmp 4]) := by kernel_rfl
noncomputable def c_laws_markJobShop : Code := Go.Proofs.Try.f24.body.getD .skip
abbrev n_laws_markJobShop : FuncId := 24
theorem g_laws_markJobShop : G 24 = ⟨[], [], []⟩ := rfl
attribute [simp] c_laws_markJobShop g_laws_markJobShop Go.Proofs.Try.f24
theorem e_laws_markJobShop : enterG P (G 24) 24 = some (c_laws_markJobShop, 10, #[.tmp 4]) := by kernel_rfl
noncomputable def c_laws_markIntS : Code := Go.Proofs.Try.f26.body.getD .skip
abbrev n_laws_markIntS : FuncId := 26
theorem g_laws_markIntS : G 26 = ⟨[(2, [0, 1, 5])], [], []⟩ := rfl
attribute [simp] c_laws_markIntS g_laws_markIntS Go.Proofs.Try.f26
theorem e_laws_markIntS : enterG P (G 26) 26 = some (c_laws_markIntS, 19, #[.tmp 4]) := by kernel_rfl
noncomputable def c_laws_markIntSS : Code := Go.Proofs.Try.f25.body.getD .skip
abbrev n_laws_markIntSS : FuncId := 25
theorem g_laws_markIntSS : G 25 = ⟨[(2, [0, 1, 5])], [], []⟩ := rfl
attribute [simp] c_laws_markIntSS g_laws_markIntSS Go.Proofs.Try.f25
theorem e_laws_markIntSS : enterG P (G 25) 25 = some (c_laws_markIntSS, 19, #[.tmp 4]) := by kernel_rfl
noncomputable def c_laws_heldIntS : Code := Go.Proofs.Try.f27.body.getD .skip
abbrev n_laws_heldIntS : FuncId := 27
theorem g_laws_heldIntS : G 27 = ⟨[(2, [0, 1, 5])], [], []⟩ := rfl
attribute [simp] c_laws_heldIntS g_laws_heldIntS Go.Proofs.Try.f27
theorem e_laws_heldIntS : enterG P (G 27) 27 = some (c_laws_heldIntS, 21, #[.tmp 4]) := by kernel_rfl
noncomputable def c_laws_FnExactHeadsOf : Code := Go.Proofs.Try.f3.body.getD .skip
abbrev n_laws_FnExactHeadsOf : FuncId := 3
theorem g_laws_FnExactHeadsOf : G 3 = ⟨[], [(14, 3)], []⟩ := rfl
attribute [simp] c_laws_FnExactHeadsOf g_laws_FnExactHeadsOf Go.Proofs.Try.f3
theorem e_laws_FnExactHeadsOf : enterG P (G 3) 3 = some (c_laws_FnExactHeadsOf, 119, #[.tmp 4]) := by kernel_rfl
noncomputable def c_spec_l1Most : Code := Go.Proofs.Try.f123.body.getD .skip
abbrev n_spec_l1Most : FuncId := 123
theorem g_spec_l1Most : G 123 = ⟨[], [], []⟩ := rfl
attribute [simp] c_spec_l1Most g_spec_l1Most Go.Proofs.Try.f123
theorem e_spec_l1Most : enterG P (G 123) 123 = some (c_spec_l1Most, 10, #[.tmp 4]) := by kernel_rfl
noncomputable def c_spec_l9Tails : Code := Go.Proofs.Try.f72.body.getD .skip
abbrev n_spec_l9Tails : FuncId := 72
theorem g_spec_l9Tails : G 72 = ⟨[(4, [1, 5, 6, 7]), (8, [1, 5, 6, 8]), (11, [1, 5, 6, 8, 9])], [(13, 11), (14, 17)], []⟩ := rfl
attribute [simp] c_spec_l9Tails g_spec_l9Tails Go.Proofs.Try.f72
theorem e_spec_l9Tails : enterG P (G 72) 72 = some (c_spec_l9Tails, 70, #[.tmp 4]) := by kernel_rfl
noncomputable def c_spec_OpTails : Code := Go.Proofs.Try.f28.body.getD .skip
abbrev n_spec_OpTails : FuncId := 28
theorem g_spec_OpTails : G 28 = ⟨[], [(3, 4)], []⟩ := rfl
attribute [simp] c_spec_OpTails g_spec_OpTails Go.Proofs.Try.f28
theorem e_spec_OpTails : enterG P (G 28) 28 = some (c_spec_OpTails, 16, #[.tmp 4, .tmp 5]) := by kernel_rfl
noncomputable def c_impl_OpTails : Code := Go.Proofs.Try.f29.body.getD .skip
abbrev n_impl_OpTails : FuncId := 29
theorem g_impl_OpTails : G 29 = ⟨[], [], []⟩ := rfl
attribute [simp] c_impl_OpTails g_impl_OpTails Go.Proofs.Try.f29
theorem e_impl_OpTails : enterG P (G 29) 29 = some (c_impl_OpTails, 17, #[.tmp 4, .tmp 5]) := by kernel_rfl
noncomputable def c_laws_FnExactOpTails : Code := Go.Proofs.Try.f4.body.getD .skip
abbrev n_laws_FnExactOpTails : FuncId := 4
theorem g_laws_FnExactOpTails : G 4 = ⟨[], [(14, 3)], []⟩ := rfl
attribute [simp] c_laws_FnExactOpTails g_laws_FnExactOpTails Go.Proofs.Try.f4
theorem e_laws_FnExactOpTails : enterG P (G 4) 4 = some (c_laws_FnExactOpTails, 119, #[.tmp 4]) := by kernel_rfl
noncomputable def c_spec_l2Last : Code := Go.Proofs.Try.f85.body.getD .skip
abbrev n_spec_l2Last : FuncId := 85
theorem g_spec_l2Last : G 85 = ⟨[(3, [0, 3, 4])], [], []⟩ := rfl
attribute [simp] c_spec_l2Last g_spec_l2Last Go.Proofs.Try.f85
theorem e_spec_l2Last : enterG P (G 85) 85 = some (c_spec_l2Last, 18, #[.tmp 2]) := by kernel_rfl
noncomputable def c_spec_l9Length : Code := Go.Proofs.Try.f74.body.getD .skip
abbrev n_spec_l9Length : FuncId := 74
theorem g_spec_l9Length : G 74 = ⟨[], [], []⟩ := rfl
attribute [simp] c_spec_l9Length g_spec_l9Length Go.Proofs.Try.f74
theorem e_spec_l9Length : enterG P (G 74) 74 = some (c_spec_l9Length, 9, #[.tmp 4]) := by kernel_rfl
noncomputable def c_spec_ShopLength : Code := Go.Proofs.Try.f30.body.getD .skip
abbrev n_spec_ShopLength : FuncId := 30
theorem g_spec_ShopLength : G 30 = ⟨[], [(3, 4)], []⟩ := rfl
attribute [simp] c_spec_ShopLength g_spec_ShopLength Go.Proofs.Try.f30
theorem e_spec_ShopLength : enterG P (G 30) 30 = some (c_spec_ShopLength, 15, #[.tmp 4, .tmp 5]) := by kernel_rfl
noncomputable def c_impl_ShopLength : Code := Go.Proofs.Try.f31.body.getD .skip
abbrev n_impl_ShopLength : FuncId := 31
theorem g_impl_ShopLength : G 31 = ⟨[], [], []⟩ := rfl
attribute [simp] c_impl_ShopLength g_impl_ShopLength Go.Proofs.Try.f31
theorem e_impl_ShopLength : enterG P (G 31) 31 = some (c_impl_ShopLength, 17, #[.tmp 4, .tmp 5]) := by kernel_rfl
noncomputable def c_laws_FnExactShopLength : Code := Go.Proofs.Try.f5.body.getD .skip
abbrev n_laws_FnExactShopLength : FuncId := 5
theorem g_laws_FnExactShopLength : G 5 = ⟨[], [(14, 3)], []⟩ := rfl
attribute [simp] c_laws_FnExactShopLength g_laws_FnExactShopLength Go.Proofs.Try.f5
theorem e_laws_FnExactShopLength : enterG P (G 5) 5 = some (c_laws_FnExactShopLength, 58, #[.tmp 4]) := by kernel_rfl
noncomputable def c_spec_l1Own : Code := Go.Proofs.Try.f76.body.getD .skip
abbrev n_spec_l1Own : FuncId := 76
theorem g_spec_l1Own : G 76 = ⟨[], [], []⟩ := rfl
attribute [simp] c_spec_l1Own g_spec_l1Own Go.Proofs.Try.f76
theorem e_spec_l1Own : enterG P (G 76) 76 = some (c_spec_l1Own, 6, #[.tmp 2]) := by kernel_rfl
noncomputable def c_spec_l2Swap : Code := Go.Proofs.Try.f77.body.getD .skip
abbrev n_spec_l2Swap : FuncId := 77
theorem g_spec_l2Swap : G 77 = ⟨[], [], []⟩ := rfl
attribute [simp] c_spec_l2Swap g_spec_l2Swap Go.Proofs.Try.f77
theorem e_spec_l2Swap : enterG P (G 77) 77 = some (c_spec_l2Swap, 25, #[.tmp 4]) := by kernel_rfl
noncomputable def c_spec_SwapOps : Code := Go.Proofs.Try.f32.body.getD .skip
abbrev n_spec_SwapOps : FuncId := 32
theorem g_spec_SwapOps : G 32 = ⟨[(5, [1, 2, 3, 4, 10, 11])], [], []⟩ := rfl
attribute [simp] c_spec_SwapOps g_spec_SwapOps Go.Proofs.Try.f32
theorem e_spec_SwapOps : enterG P (G 32) 32 = some (c_spec_SwapOps, 66, #[.tmp 8, .tmp 9]) := by kernel_rfl
noncomputable def c_impl_copyInts : Code := Go.Proofs.Try.f80.body.getD .skip
abbrev n_impl_copyInts : FuncId := 80
theorem g_impl_copyInts : G 80 = ⟨[], [], []⟩ := rfl
attribute [simp] c_impl_copyInts g_impl_copyInts Go.Proofs.Try.f80
theorem e_impl_copyInts : enterG P (G 80) 80 = some (c_impl_copyInts, 6, #[.tmp 2]) := by kernel_rfl
noncomputable def c_impl_exchanged : Code := Go.Proofs.Try.f81.body.getD .skip
abbrev n_impl_exchanged : FuncId := 81
theorem g_impl_exchanged : G 81 = ⟨[], [(2, 15)], []⟩ := rfl
attribute [simp] c_impl_exchanged g_impl_exchanged Go.Proofs.Try.f81
theorem e_impl_exchanged : enterG P (G 81) 81 = some (c_impl_exchanged, 25, #[.tmp 4]) := by kernel_rfl
noncomputable def c_impl_SwapOps : Code := Go.Proofs.Try.f33.body.getD .skip
abbrev n_impl_SwapOps : FuncId := 33
theorem g_impl_SwapOps : G 33 = ⟨[(6, [2, 3, 4, 12, 43, 44, 45])], [], []⟩ := rfl
attribute [simp] c_impl_SwapOps g_impl_SwapOps Go.Proofs.Try.f33
theorem e_impl_SwapOps : enterG P (G 33) 33 = some (c_impl_SwapOps, 73, #[.tmp 8, .tmp 9]) := by kernel_rfl
noncomputable def c_laws_heldIntSS : Code := Go.Proofs.Try.f34.body.getD .skip
abbrev n_laws_heldIntSS : FuncId := 34
theorem g_laws_heldIntSS : G 34 = ⟨[(2, [0, 1, 5])], [], []⟩ := rfl
attribute [simp] c_laws_heldIntSS g_laws_heldIntSS Go.Proofs.Try.f34
theorem e_laws_heldIntSS : enterG P (G 34) 34 = some (c_laws_heldIntSS, 21, #[.tmp 4]) := by kernel_rfl
noncomputable def c_laws_FnExactSwapOps : Code := Go.Proofs.Try.f6.body.getD .skip
abbrev n_laws_FnExactSwapOps : FuncId := 6
theorem g_laws_FnExactSwapOps : G 6 = ⟨[], [(14, 3)], []⟩ := rfl
attribute [simp] c_laws_FnExactSwapOps g_laws_FnExactSwapOps Go.Proofs.Try.f6
theorem e_laws_FnExactSwapOps : enterG P (G 6) 6 = some (c_laws_FnExactSwapOps, 129, #[.tmp 8]) := by kernel_rfl
noncomputable def c_spec_l9Leads : Code := Go.Proofs.Try.f125.body.getD .skip
abbrev n_spec_l9Leads : FuncId := 125
theorem g_spec_l9Leads : G 125 = ⟨[(2, [0, 1, 2, 7])], [], []⟩ := rfl
attribute [simp] c_spec_l9Leads g_spec_l9Leads Go.Proofs.Try.f125
theorem e_spec_l9Leads : enterG P (G 125) 125 = some (c_spec_l9Leads, 22, #[.tmp 6]) := by kernel_rfl
noncomputable def c_spec_l9Path : Code := Go.Proofs.Try.f82.body.getD .skip
abbrev n_spec_l9Path : FuncId := 82
theorem g_spec_l9Path : G 82 = ⟨[(5, [5, 6, 7, 8, 9]), (7, [5, 6, 7, 8, 9, 10])], [(1, 4)], []⟩ := rfl
attribute [simp] c_spec_l9Path g_spec_l9Path Go.Proofs.Try.f82
theorem e_spec_l9Path : enterG P (G 82) 82 = some (c_spec_l9Path, 61, #[.tmp 4]) := by kernel_rfl
noncomputable def c_spec_CriticalPath : Code := Go.Proofs.Try.f35.body.getD .skip
abbrev n_spec_CriticalPath : FuncId := 35
theorem g_spec_CriticalPath : G 35 = ⟨[], [], []⟩ := rfl
attribute [simp] c_spec_CriticalPath g_spec_CriticalPath Go.Proofs.Try.f35
theorem e_spec_CriticalPath : enterG P (G 35) 35 = some (c_spec_CriticalPath, 14, #[.tmp 4, .tmp 5]) := by kernel_rfl
noncomputable def c_impl_selected_leads : Code := Go.Proofs.Try.f126.body.getD .skip
abbrev n_impl_selected_leads : FuncId := 126
theorem g_impl_selected_leads : G 126 = ⟨[(4, [1, 2, 16, 17, 18])], [], []⟩ := rfl
attribute [simp] c_impl_selected_leads g_impl_selected_leads Go.Proofs.Try.f126
theorem e_impl_selected_leads : enterG P (G 126) 126 = some (c_impl_selected_leads, 28, #[.tmp 6]) := by kernel_rfl
noncomputable def c_impl_selected_path : Code := Go.Proofs.Try.f83.body.getD .skip
abbrev n_impl_selected_path : FuncId := 83
theorem g_impl_selected_path : G 83 = ⟨[(3, [1, 3, 4]), (5, [1, 3, 4, 13, 14])], [(7, 36)], []⟩ := rfl
attribute [simp] c_impl_selected_path g_impl_selected_path Go.Proofs.Try.f83
theorem e_impl_selected_path : enterG P (G 83) 83 = some (c_impl_selected_path, 71, #[.tmp 2]) := by kernel_rfl
noncomputable def c_impl_CriticalPath : Code := Go.Proofs.Try.f36.body.getD .skip
abbrev n_impl_CriticalPath : FuncId := 36
theorem g_impl_CriticalPath : G 36 = ⟨[], [], []⟩ := rfl
attribute [simp] c_impl_CriticalPath g_impl_CriticalPath Go.Proofs.Try.f36
theorem e_impl_CriticalPath : enterG P (G 36) 36 = some (c_impl_CriticalPath, 18, #[.tmp 4, .tmp 5]) := by kernel_rfl
noncomputable def c_laws_FnExactCriticalPath : Code := Go.Proofs.Try.f7.body.getD .skip
abbrev n_laws_FnExactCriticalPath : FuncId := 7
theorem g_laws_FnExactCriticalPath : G 7 = ⟨[], [(14, 3)], []⟩ := rfl
attribute [simp] c_laws_FnExactCriticalPath g_laws_FnExactCriticalPath Go.Proofs.Try.f7
theorem e_laws_FnExactCriticalPath : enterG P (G 7) 7 = some (c_laws_FnExactCriticalPath, 119, #[.tmp 4]) := by kernel_rfl
noncomputable def c_spec_CriticalSwaps : Code := Go.Proofs.Try.f37.body.getD .skip
abbrev n_spec_CriticalSwaps : FuncId := 37
theorem g_spec_CriticalSwaps : G 37 = ⟨[(8, [1, 6, 8, 9, 10, 11, 12]), (11, [1, 6, 8, 9, 10, 11, 12, 13])], [(4, 4), (5, 5), (13, 16), (14, 16)], []⟩ := rfl
attribute [simp] c_spec_CriticalSwaps g_spec_CriticalSwaps Go.Proofs.Try.f37
theorem e_spec_CriticalSwaps : enterG P (G 37) 37 = some (c_spec_CriticalSwaps, 90, #[.tmp 4, .tmp 5]) := by kernel_rfl
noncomputable def c_impl_CriticalSwaps : Code := Go.Proofs.Try.f38.body.getD .skip
abbrev n_impl_CriticalSwaps : FuncId := 38
theorem g_impl_CriticalSwaps : G 38 = ⟨[(6, [6, 8, 22, 23, 24]), (9, [6, 8, 9, 10, 11, 22, 23, 24])], [(11, 10), (12, 49)], []⟩ := rfl
attribute [simp] c_impl_CriticalSwaps g_impl_CriticalSwaps Go.Proofs.Try.f38
theorem e_impl_CriticalSwaps : enterG P (G 38) 38 = some (c_impl_CriticalSwaps, 104, #[.tmp 4, .tmp 5]) := by kernel_rfl
noncomputable def c_laws_eqIntA2 : Code := Go.Proofs.Try.f86.body.getD .skip
abbrev n_laws_eqIntA2 : FuncId := 86
theorem g_laws_eqIntA2 : G 86 = ⟨[(2, [2, 3, 5])], [(4, 6)], []⟩ := rfl
attribute [simp] c_laws_eqIntA2 g_laws_eqIntA2 Go.Proofs.Try.f86
theorem e_laws_eqIntA2 : enterG P (G 86) 86 = some (c_laws_eqIntA2, 17, #[.tmp 4]) := by kernel_rfl
noncomputable def c_laws_eqIntA2S : Code := Go.Proofs.Try.f39.body.getD .skip
abbrev n_laws_eqIntA2S : FuncId := 39
theorem g_laws_eqIntA2S : G 39 = ⟨[(4, [0, 1, 5])], [(6, 8)], []⟩ := rfl
attribute [simp] c_laws_eqIntA2S g_laws_eqIntA2S Go.Proofs.Try.f39
theorem e_laws_eqIntA2S : enterG P (G 39) 39 = some (c_laws_eqIntA2S, 27, #[.tmp 4]) := by kernel_rfl
noncomputable def c_laws_markIntA2S : Code := Go.Proofs.Try.f40.body.getD .skip
abbrev n_laws_markIntA2S : FuncId := 40
theorem g_laws_markIntA2S : G 40 = ⟨[(2, [0, 1, 5]), (5, [0, 1, 5, 6])], [], []⟩ := rfl
attribute [simp] c_laws_markIntA2S g_laws_markIntA2S Go.Proofs.Try.f40
theorem e_laws_markIntA2S : enterG P (G 40) 40 = some (c_laws_markIntA2S, 26, #[.tmp 4]) := by kernel_rfl
noncomputable def c_laws_heldIntA2S : Code := Go.Proofs.Try.f41.body.getD .skip
abbrev n_laws_heldIntA2S : FuncId := 41
theorem g_laws_heldIntA2S : G 41 = ⟨[(2, [0, 1, 5]), (5, [0, 1, 5, 6])], [], []⟩ := rfl
attribute [simp] c_laws_heldIntA2S g_laws_heldIntA2S Go.Proofs.Try.f41
theorem e_laws_heldIntA2S : enterG P (G 41) 41 = some (c_laws_heldIntA2S, 28, #[.tmp 4]) := by kernel_rfl
noncomputable def c_laws_FnExactCriticalSwaps : Code := Go.Proofs.Try.f8.body.getD .skip
abbrev n_laws_FnExactCriticalSwaps : FuncId := 8
theorem g_laws_FnExactCriticalSwaps : G 8 = ⟨[], [(14, 3)], []⟩ := rfl
attribute [simp] c_laws_FnExactCriticalSwaps g_laws_FnExactCriticalSwaps Go.Proofs.Try.f8
theorem e_laws_FnExactCriticalSwaps : enterG P (G 8) 8 = some (c_laws_FnExactCriticalSwaps, 119, #[.tmp 4]) := by kernel_rfl
noncomputable def c_spec_l9Blocks : Code := Go.Proofs.Try.f87.body.getD .skip
abbrev n_spec_l9Blocks : FuncId := 87
theorem g_spec_l9Blocks : G 87 = ⟨[(4, [5, 6, 7, 8])], [(2, 4), (6, 20), (7, 15)], []⟩ := rfl
attribute [simp] c_spec_l9Blocks g_spec_l9Blocks Go.Proofs.Try.f87
theorem e_spec_l9Blocks : enterG P (G 87) 87 = some (c_spec_l9Blocks, 69, #[.tmp 4]) := by kernel_rfl
noncomputable def c_spec_l3At : Code := Go.Proofs.Try.f127.body.getD .skip
abbrev n_spec_l3At : FuncId := 127
theorem g_spec_l3At : G 127 = ⟨[(2, [0, 1, 5])], [], []⟩ := rfl
attribute [simp] c_spec_l3At g_spec_l3At Go.Proofs.Try.f127
theorem e_spec_l3At : enterG P (G 127) 127 = some (c_spec_l3At, 19, #[.tmp 4]) := by kernel_rfl
noncomputable def c_spec_l9Place : Code := Go.Proofs.Try.f88.body.getD .skip
abbrev n_spec_l9Place : FuncId := 88
theorem g_spec_l9Place : G 88 = ⟨[], [], []⟩ := rfl
attribute [simp] c_spec_l9Place g_spec_l9Place Go.Proofs.Try.f88
theorem e_spec_l9Place : enterG P (G 88) 88 = some (c_spec_l9Place, 18, #[.tmp 6]) := by kernel_rfl
noncomputable def c_spec_LeavesBlocks : Code := Go.Proofs.Try.f42.body.getD .skip
abbrev n_spec_LeavesBlocks : FuncId := 42
theorem g_spec_LeavesBlocks : G 42 = ⟨[(5, [2, 3, 8, 9]), (10, [2, 3, 8, 9, 10, 11, 12])], [(7, 8), (8, 14), (12, 9)], []⟩ := rfl
attribute [simp] c_spec_LeavesBlocks g_spec_LeavesBlocks Go.Proofs.Try.f42
theorem e_spec_LeavesBlocks : enterG P (G 42) 42 = some (c_spec_LeavesBlocks, 84, #[.tmp 6, .tmp 7]) := by kernel_rfl
noncomputable def c_impl_selected_blocks : Code := Go.Proofs.Try.f89.body.getD .skip
abbrev n_impl_selected_blocks : FuncId := 89
theorem g_impl_selected_blocks : G 89 = ⟨[(4, [1, 3, 4, 9, 10, 11])], [(6, 21)], []⟩ := rfl
attribute [simp] c_impl_selected_blocks g_impl_selected_blocks Go.Proofs.Try.f89
theorem e_impl_selected_blocks : enterG P (G 89) 89 = some (c_impl_selected_blocks, 58, #[.tmp 2]) := by kernel_rfl
noncomputable def c_impl_placeIn : Code := Go.Proofs.Try.f90.body.getD .skip
abbrev n_impl_placeIn : FuncId := 90
theorem g_impl_placeIn : G 90 = ⟨[(2, [1, 7, 8, 9])], [], []⟩ := rfl
attribute [simp] c_impl_placeIn g_impl_placeIn Go.Proofs.Try.f90
theorem e_impl_placeIn : enterG P (G 90) 90 = some (c_impl_placeIn, 19, #[.tmp 4]) := by kernel_rfl
noncomputable def c_impl_LeavesBlocks : Code := Go.Proofs.Try.f43.body.getD .skip
abbrev n_impl_LeavesBlocks : FuncId := 43
theorem g_impl_LeavesBlocks : G 43 = ⟨[(6, [2, 8, 39, 40, 41]), (11, [2, 8, 14, 15, 16, 39, 40, 41, 70, 71, 72])], [(8, 10), (9, 12)], []⟩ := rfl
attribute [simp] c_impl_LeavesBlocks g_impl_LeavesBlocks Go.Proofs.Try.f43
theorem e_impl_LeavesBlocks : enterG P (G 43) 43 = some (c_impl_LeavesBlocks, 89, #[.tmp 6, .tmp 7]) := by kernel_rfl
noncomputable def c_laws_FnExactLeavesBlocks : Code := Go.Proofs.Try.f9.body.getD .skip
abbrev n_laws_FnExactLeavesBlocks : FuncId := 9
theorem g_laws_FnExactLeavesBlocks : G 9 = ⟨[], [(18, 3)], []⟩ := rfl
attribute [simp] c_laws_FnExactLeavesBlocks g_laws_FnExactLeavesBlocks Go.Proofs.Try.f9
theorem e_laws_FnExactLeavesBlocks : enterG P (G 9) 9 = some (c_laws_FnExactLeavesBlocks, 76, #[.tmp 6]) := by kernel_rfl
noncomputable def c_spec_CriticalBlocks : Code := Go.Proofs.Try.f44.body.getD .skip
abbrev n_spec_CriticalBlocks : FuncId := 44
theorem g_spec_CriticalBlocks : G 44 = ⟨[], [], []⟩ := rfl
attribute [simp] c_spec_CriticalBlocks g_spec_CriticalBlocks Go.Proofs.Try.f44
theorem e_spec_CriticalBlocks : enterG P (G 44) 44 = some (c_spec_CriticalBlocks, 14, #[.tmp 4, .tmp 5]) := by kernel_rfl
noncomputable def c_impl_CriticalBlocks : Code := Go.Proofs.Try.f45.body.getD .skip
abbrev n_impl_CriticalBlocks : FuncId := 45
theorem g_impl_CriticalBlocks : G 45 = ⟨[], [], []⟩ := rfl
attribute [simp] c_impl_CriticalBlocks g_impl_CriticalBlocks Go.Proofs.Try.f45
theorem e_impl_CriticalBlocks : enterG P (G 45) 45 = some (c_impl_CriticalBlocks, 18, #[.tmp 4, .tmp 5]) := by kernel_rfl
noncomputable def c_laws_FnExactCriticalBlocks : Code := Go.Proofs.Try.f10.body.getD .skip
abbrev n_laws_FnExactCriticalBlocks : FuncId := 10
theorem g_laws_FnExactCriticalBlocks : G 10 = ⟨[], [(14, 3)], []⟩ := rfl
attribute [simp] c_laws_FnExactCriticalBlocks g_laws_FnExactCriticalBlocks Go.Proofs.Try.f10
theorem e_laws_FnExactCriticalBlocks : enterG P (G 10) 10 = some (c_laws_FnExactCriticalBlocks, 119, #[.tmp 4]) := by kernel_rfl
noncomputable def c_spec_l9Few : Code := Go.Proofs.Try.f92.body.getD .skip
abbrev n_spec_l9Few : FuncId := 92
theorem g_spec_l9Few : G 92 = ⟨[(3, [1, 3, 4]), (6, [1, 3, 4, 5])], [], []⟩ := rfl
attribute [simp] c_spec_l9Few g_spec_l9Few Go.Proofs.Try.f92
theorem e_spec_l9Few : enterG P (G 92) 92 = some (c_spec_l9Few, 25, #[.tmp 2]) := by kernel_rfl
noncomputable def c_spec_l3Without : Code := Go.Proofs.Try.f157.body.getD .skip
abbrev n_spec_l3Without : FuncId := 157
theorem g_spec_l3Without : G 157 = ⟨[], [(1, 8)], []⟩ := rfl
attribute [simp] c_spec_l3Without g_spec_l3Without Go.Proofs.Try.f157
theorem e_spec_l3Without : enterG P (G 157) 157 = some (c_spec_l3Without, 14, #[.tmp 4]) := by kernel_rfl
noncomputable def c_spec_l9Orders : Code := Go.Proofs.Try.f131.body.getD .skip
abbrev n_spec_l9Orders : FuncId := 131
theorem g_spec_l9Orders : G 131 = ⟨[(5, [0, 3, 4]), (9, [0, 3, 4, 5, 6])], [], [(11, 12, [(10, 5)])]⟩ := rfl
attribute [simp] c_spec_l9Orders g_spec_l9Orders Go.Proofs.Try.f131
theorem e_spec_l9Orders : enterG P (G 131) 131 = some (c_spec_l9Orders, 43, #[.tmp 2]) := by kernel_rfl
noncomputable def c_spec_l9Try : Code := Go.Proofs.Try.f93.body.getD .skip
abbrev n_spec_l9Try : FuncId := 93
theorem g_spec_l9Try : G 93 = ⟨[(10, [1, 3, 5, 6, 11, 12])], [], [(12, 11, [(9, 3)])]⟩ := rfl
attribute [simp] c_spec_l9Try g_spec_l9Try Go.Proofs.Try.f93
theorem e_spec_l9Try : enterG P (G 93) 93 = some (c_spec_l9Try, 71, #[.cell 6 105]) := by kernel_rfl
noncomputable def c_spec_BestSelection : Code := Go.Proofs.Try.f46.body.getD .skip
abbrev n_spec_BestSelection : FuncId := 46
theorem g_spec_BestSelection : G 46 = ⟨[], [], []⟩ := rfl
attribute [simp] c_spec_BestSelection g_spec_BestSelection Go.Proofs.Try.f46
theorem e_spec_BestSelection : enterG P (G 46) 46 = some (c_spec_BestSelection, 18, #[.tmp 2, .tmp 3]) := by kernel_rfl
noncomputable def c_impl_factorial : Code := Go.Proofs.Try.f133.body.getD .skip
abbrev n_impl_factorial : FuncId := 133
theorem g_impl_factorial : G 133 = ⟨[(2, [0, 3])], [], []⟩ := rfl
attribute [simp] c_impl_factorial g_impl_factorial Go.Proofs.Try.f133
theorem e_impl_factorial : enterG P (G 133) 133 = some (c_impl_factorial, 12, #[.tmp 2]) := by kernel_rfl
noncomputable def c_impl_bestSelection_1 : Code := Go.Proofs.Try.f136.body.getD .skip
abbrev n_impl_bestSelection_1 : FuncId := 136
theorem g_impl_bestSelection_1 : G 136 = ⟨[], [(0, 8)], []⟩ := rfl
attribute [simp] c_impl_bestSelection_1 g_impl_bestSelection_1 Go.Proofs.Try.f136
theorem e_impl_bestSelection_1 : enterG P (G 136) 136 = some (c_impl_bestSelection_1, 29, #[]) := by kernel_rfl
noncomputable def c_impl_nextOrder : Code := Go.Proofs.Try.f158.body.getD .skip
abbrev n_impl_nextOrder : FuncId := 158
theorem g_impl_nextOrder : G 158 = ⟨[(2, [0, 3]), (7, [0, 3, 4]), (11, [0, 5, 6])], [(2, 12), (7, 8), (9, 13), (13, 13)], []⟩ := rfl
attribute [simp] c_impl_nextOrder g_impl_nextOrder Go.Proofs.Try.f158
theorem e_impl_nextOrder : enterG P (G 158) 158 = some (c_impl_nextOrder, 82, #[.tmp 2]) := by kernel_rfl
noncomputable def c_impl_eachSelection : Code := Go.Proofs.Try.f135.body.getD .skip
abbrev n_impl_eachSelection : FuncId := 135
theorem g_impl_eachSelection : G 135 = ⟨[(4, [2, 3, 4, 5, 8])], [], [(4, 10, [(8, 4)])]⟩ := rfl
attribute [simp] c_impl_eachSelection g_impl_eachSelection Go.Proofs.Try.f135
theorem e_impl_eachSelection : enterG P (G 135) 135 = some (c_impl_eachSelection, 35, #[]) := by kernel_rfl
noncomputable def c_impl_bestSelection : Code := Go.Proofs.Try.f95.body.getD .skip
abbrev n_impl_bestSelection : FuncId := 95
theorem g_impl_bestSelection : G 95 = ⟨[(4, [1, 5, 6, 7])], [(12, 3)], []⟩ := rfl
attribute [simp] c_impl_bestSelection g_impl_bestSelection Go.Proofs.Try.f95
theorem e_impl_bestSelection : enterG P (G 95) 95 = some (c_impl_bestSelection, 33, #[.tmp 2, .tmp 3, .tmp 4]) := by kernel_rfl
noncomputable def c_impl_BestSelection : Code := Go.Proofs.Try.f47.body.getD .skip
abbrev n_impl_BestSelection : FuncId := 47
theorem g_impl_BestSelection : G 47 = ⟨[], [], []⟩ := rfl
attribute [simp] c_impl_BestSelection g_impl_BestSelection Go.Proofs.Try.f47
theorem e_impl_BestSelection : enterG P (G 47) 47 = some (c_impl_BestSelection, 18, #[.tmp 2, .tmp 3]) := by kernel_rfl
noncomputable def c_laws_FnExactBestSelection : Code := Go.Proofs.Try.f11.body.getD .skip
abbrev n_laws_FnExactBestSelection : FuncId := 11
theorem g_laws_FnExactBestSelection : G 11 = ⟨[], [(10, 3)], []⟩ := rfl
attribute [simp] c_laws_FnExactBestSelection g_laws_FnExactBestSelection Go.Proofs.Try.f11
theorem e_laws_FnExactBestSelection : enterG P (G 11) 11 = some (c_laws_FnExactBestSelection, 96, #[.tmp 2]) := by kernel_rfl
noncomputable def c_spec_l9Done : Code := Go.Proofs.Try.f137.body.getD .skip
abbrev n_spec_l9Done : FuncId := 137
theorem g_spec_l9Done : G 137 = ⟨[], [], []⟩ := rfl
attribute [simp] c_spec_l9Done g_spec_l9Done Go.Proofs.Try.f137
theorem e_spec_l9Done : enterG P (G 137) 137 = some (c_spec_l9Done, 29, #[.tmp 6]) := by kernel_rfl
noncomputable def c_spec_l9Free : Code := Go.Proofs.Try.f138.body.getD .skip
abbrev n_spec_l9Free : FuncId := 138
theorem g_spec_l9Free : G 138 = ⟨[(3, [1, 4, 5, 6]), (6, [1, 4, 5, 6, 7])], [(8, 22)], []⟩ := rfl
attribute [simp] c_spec_l9Free g_spec_l9Free Go.Proofs.Try.f138
theorem e_spec_l9Free : enterG P (G 138) 138 = some (c_spec_l9Free, 53, #[.cell 4 98]) := by kernel_rfl
noncomputable def c_spec_l9Prove : Code := Go.Proofs.Try.f96.body.getD .skip
abbrev n_spec_l9Prove : FuncId := 96
theorem g_spec_l9Prove : G 96 = ⟨[], [], [(5, 14, [(8, 5)]), (6, 18, [(12, 5)])]⟩ := rfl
attribute [simp] c_spec_l9Prove g_spec_l9Prove Go.Proofs.Try.f96
theorem e_spec_l9Prove : enterG P (G 96) 96 = some (c_spec_l9Prove, 60, #[.tmp 8]) := by kernel_rfl
noncomputable def c_spec_FindShopProof : Code := Go.Proofs.Try.f48.body.getD .skip
abbrev n_spec_FindShopProof : FuncId := 48
theorem g_spec_FindShopProof : G 48 = ⟨[], [(4, 7)], []⟩ := rfl
attribute [simp] c_spec_FindShopProof g_spec_FindShopProof Go.Proofs.Try.f48
theorem e_spec_FindShopProof : enterG P (G 48) 48 = some (c_spec_FindShopProof, 28, #[.tmp 2, .tmp 3]) := by kernel_rfl
noncomputable def c_impl_flat_mayEnd : Code := Go.Proofs.Try.f139.body.getD .skip
abbrev n_impl_flat_mayEnd : FuncId := 139
theorem g_impl_flat_mayEnd : G 139 = ⟨[], [], []⟩ := rfl
attribute [simp] c_impl_flat_mayEnd g_impl_flat_mayEnd Go.Proofs.Try.f139
theorem e_impl_flat_mayEnd : enterG P (G 139) 139 = some (c_impl_flat_mayEnd, 24, #[.tmp 6]) := by kernel_rfl
noncomputable def c_impl_withArc : Code := Go.Proofs.Try.f140.body.getD .skip
abbrev n_impl_withArc : FuncId := 140
theorem g_impl_withArc : G 140 = ⟨[], [], []⟩ := rfl
attribute [simp] c_impl_withArc g_impl_withArc Go.Proofs.Try.f140
theorem e_impl_withArc : enterG P (G 140) 140 = some (c_impl_withArc, 15, #[.tmp 6]) := by kernel_rfl
noncomputable def c_impl_flat_prove : Code := Go.Proofs.Try.f98.body.getD .skip
abbrev n_impl_flat_prove : FuncId := 98
theorem g_impl_flat_prove : G 98 = ⟨[(6, [1, 2, 3, 4, 30, 31]), (9, [1, 2, 3, 4, 10, 11, 30, 31]), (14, [1, 2, 3, 4, 10, 11, 12, 30, 31, 56, 57, 58])], [(11, 12), (19, 17), (22, 10)], []⟩ := rfl
attribute [simp] c_impl_flat_prove g_impl_flat_prove Go.Proofs.Try.f98
theorem e_impl_flat_prove : enterG P (G 98) 98 = some (c_impl_flat_prove, 109, #[.tmp 8, .tmp 9]) := by kernel_rfl
noncomputable def c_impl_FindShopProof : Code := Go.Proofs.Try.f49.body.getD .skip
abbrev n_impl_FindShopProof : FuncId := 49
theorem g_impl_FindShopProof : G 49 = ⟨[], [], []⟩ := rfl
attribute [simp] c_impl_FindShopProof g_impl_FindShopProof Go.Proofs.Try.f49
theorem e_impl_FindShopProof : enterG P (G 49) 49 = some (c_impl_FindShopProof, 24, #[.tmp 2, .tmp 3]) := by kernel_rfl
noncomputable def c_laws_FnExactFindShopProof : Code := Go.Proofs.Try.f12.body.getD .skip
abbrev n_laws_FnExactFindShopProof : FuncId := 12
theorem g_laws_FnExactFindShopProof : G 12 = ⟨[], [(10, 3)], []⟩ := rfl
attribute [simp] c_laws_FnExactFindShopProof g_laws_FnExactFindShopProof Go.Proofs.Try.f12
theorem e_laws_FnExactFindShopProof : enterG P (G 12) 12 = some (c_laws_FnExactFindShopProof, 96, #[.tmp 2]) := by kernel_rfl
noncomputable def c_laws_szJobS : Code := Go.Proofs.Try.f50.body.getD .skip
abbrev n_laws_szJobS : FuncId := 50
theorem g_laws_szJobS : G 50 = ⟨[], [], []⟩ := rfl
attribute [simp] c_laws_szJobS g_laws_szJobS Go.Proofs.Try.f50
theorem e_laws_szJobS : enterG P (G 50) 50 = some (c_laws_szJobS, 12, #[.tmp 4]) := by kernel_rfl
noncomputable def c_laws_szIntA2S : Code := Go.Proofs.Try.f51.body.getD .skip
abbrev n_laws_szIntA2S : FuncId := 51
theorem g_laws_szIntA2S : G 51 = ⟨[], [], []⟩ := rfl
attribute [simp] c_laws_szIntA2S g_laws_szIntA2S Go.Proofs.Try.f51
theorem e_laws_szIntA2S : enterG P (G 51) 51 = some (c_laws_szIntA2S, 12, #[.tmp 4]) := by kernel_rfl
noncomputable def c_laws_toJob : Code := Go.Proofs.Try.f102.body.getD .skip
abbrev n_laws_toJob : FuncId := 102
theorem g_laws_toJob : G 102 = ⟨[], [], []⟩ := rfl
attribute [simp] c_laws_toJob g_laws_toJob Go.Proofs.Try.f102
theorem e_laws_toJob : enterG P (G 102) 102 = some (c_laws_toJob, 17, #[.cell 2 120]) := by kernel_rfl
noncomputable def c_laws_toJobS : Code := Go.Proofs.Try.f53.body.getD .skip
abbrev n_laws_toJobS : FuncId := 53
theorem g_laws_toJobS : G 53 = ⟨[(3, [0, 3, 4])], [], []⟩ := rfl
attribute [simp] c_laws_toJobS g_laws_toJobS Go.Proofs.Try.f53
theorem e_laws_toJobS : enterG P (G 53) 53 = some (c_laws_toJobS, 23, #[.tmp 2]) := by kernel_rfl
noncomputable def c_laws_toIntA2 : Code := Go.Proofs.Try.f103.body.getD .skip
abbrev n_laws_toIntA2 : FuncId := 103
theorem g_laws_toIntA2 : G 103 = ⟨[(3, [1, 2, 3, 4])], [], []⟩ := rfl
attribute [simp] c_laws_toIntA2 g_laws_toIntA2 Go.Proofs.Try.f103
theorem e_laws_toIntA2 : enterG P (G 103) 103 = some (c_laws_toIntA2, 15, #[.cell 2 98]) := by kernel_rfl
noncomputable def c_laws_toIntA2S : Code := Go.Proofs.Try.f54.body.getD .skip
abbrev n_laws_toIntA2S : FuncId := 54
theorem g_laws_toIntA2S : G 54 = ⟨[(3, [0, 3, 4])], [], []⟩ := rfl
attribute [simp] c_laws_toIntA2S g_laws_toIntA2S Go.Proofs.Try.f54
theorem e_laws_toIntA2S : enterG P (G 54) 54 = some (c_laws_toIntA2S, 23, #[.tmp 2]) := by kernel_rfl
noncomputable def c_spec_l2Job : Code := Go.Proofs.Try.f167.body.getD .skip
abbrev n_spec_l2Job : FuncId := 167
theorem g_spec_l2Job : G 167 = ⟨[], [], []⟩ := rfl
attribute [simp] c_spec_l2Job g_spec_l2Job Go.Proofs.Try.f167
theorem e_spec_l2Job : enterG P (G 167) 167 = some (c_spec_l2Job, 21, #[.tmp 2]) := by kernel_rfl
noncomputable def c_spec_l2Good : Code := Go.Proofs.Try.f159.body.getD .skip
abbrev n_spec_l2Good : FuncId := 159
theorem g_spec_l2Good : G 159 = ⟨[(2, [0, 3])], [], []⟩ := rfl
attribute [simp] c_spec_l2Good g_spec_l2Good Go.Proofs.Try.f159
theorem e_spec_l2Good : enterG P (G 159) 159 = some (c_spec_l2Good, 19, #[.tmp 2]) := by kernel_rfl
noncomputable def c_spec_l3Plain : Code := Go.Proofs.Try.f160.body.getD .skip
abbrev n_spec_l3Plain : FuncId := 160
theorem g_spec_l3Plain : G 160 = ⟨[(2, [0, 3])], [], []⟩ := rfl
attribute [simp] c_spec_l3Plain g_spec_l3Plain Go.Proofs.Try.f160
theorem e_spec_l3Plain : enterG P (G 160) 160 = some (c_spec_l3Plain, 16, #[.tmp 2]) := by kernel_rfl
noncomputable def c_spec_l4Before : Code := Go.Proofs.Try.f171.body.getD .skip
abbrev n_spec_l4Before : FuncId := 171
theorem g_spec_l4Before : G 171 = ⟨[], [], []⟩ := rfl
attribute [simp] c_spec_l4Before g_spec_l4Before Go.Proofs.Try.f171
theorem e_spec_l4Before : enterG P (G 171) 171 = some (c_spec_l4Before, 24, #[.tmp 4]) := by kernel_rfl
noncomputable def c_spec_l4Pairs : Code := Go.Proofs.Try.f168.body.getD .skip
abbrev n_spec_l4Pairs : FuncId := 168
theorem g_spec_l4Pairs : G 168 = ⟨[(2, [0, 1, 5])], [(4, 46)], []⟩ := rfl
attribute [simp] c_spec_l4Pairs g_spec_l4Pairs Go.Proofs.Try.f168
theorem e_spec_l4Pairs : enterG P (G 168) 168 = some (c_spec_l4Pairs, 69, #[.tmp 4]) := by kernel_rfl
noncomputable def c_spec_l4Table : Code := Go.Proofs.Try.f101.body.getD .skip
abbrev n_spec_l4Table : FuncId := 101
theorem g_spec_l4Table : G 101 = ⟨[(3, [0, 1, 5, 6]), (7, [0, 1, 5, 7]), (11, [0, 5, 8]), (14, [0, 5, 8, 9]), (17, [0, 5, 8, 9, 10])], [(9, 13)], []⟩ := rfl
attribute [simp] c_spec_l4Table g_spec_l4Table Go.Proofs.Try.f101
theorem e_spec_l4Table : enterG P (G 101) 101 = some (c_spec_l4Table, 80, #[.tmp 4]) := by kernel_rfl
noncomputable def c_spec_l4Good : Code := Go.Proofs.Try.f161.body.getD .skip
abbrev n_spec_l4Good : FuncId := 161
theorem g_spec_l4Good : G 161 = ⟨[(5, [0, 5, 6])], [], []⟩ := rfl
attribute [simp] c_spec_l4Good g_spec_l4Good Go.Proofs.Try.f161
theorem e_spec_l4Good : enterG P (G 161) 161 = some (c_spec_l4Good, 26, #[.tmp 4]) := by kernel_rfl
noncomputable def c_spec_l7Good : Code := Go.Proofs.Try.f141.body.getD .skip
abbrev n_spec_l7Good : FuncId := 141
theorem g_spec_l7Good : G 141 = ⟨[], [], []⟩ := rfl
attribute [simp] c_spec_l7Good g_spec_l7Good Go.Proofs.Try.f141
theorem e_spec_l7Good : enterG P (G 141) 141 = some (c_spec_l7Good, 23, #[.tmp 6]) := by kernel_rfl
noncomputable def c_spec_l2Order : Code := Go.Proofs.Try.f142.body.getD .skip
abbrev n_spec_l2Order : FuncId := 142
theorem g_spec_l2Order : G 142 = ⟨[(4, [0, 1, 5])], [], []⟩ := rfl
attribute [simp] c_spec_l2Order g_spec_l2Order Go.Proofs.Try.f142
theorem e_spec_l2Order : enterG P (G 142) 142 = some (c_spec_l2Order, 24, #[.tmp 4]) := by kernel_rfl
noncomputable def c_spec_l7Ordered : Code := Go.Proofs.Try.f99.body.getD .skip
abbrev n_spec_l7Ordered : FuncId := 99
theorem g_spec_l7Ordered : G 99 = ⟨[], [], []⟩ := rfl
attribute [simp] c_spec_l7Ordered g_spec_l7Ordered Go.Proofs.Try.f99
theorem e_spec_l7Ordered : enterG P (G 99) 99 = some (c_spec_l7Ordered, 19, #[.tmp 8]) := by kernel_rfl
noncomputable def c_spec_l7Next : Code := Go.Proofs.Try.f143.body.getD .skip
abbrev n_spec_l7Next : FuncId := 143
theorem g_spec_l7Next : G 143 = ⟨[(2, [0, 1, 2, 3, 9]), (7, [0, 1, 2, 3, 9, 10, 11])], [(9, 22)], []⟩ := rfl
attribute [simp] c_spec_l7Next g_spec_l7Next Go.Proofs.Try.f143
theorem e_spec_l7Next : enterG P (G 143) 143 = some (c_spec_l7Next, 62, #[.tmp 8]) := by kernel_rfl
noncomputable def c_spec_l7Soon : Code := Go.Proofs.Try.f144.body.getD .skip
abbrev n_spec_l7Soon : FuncId := 144
theorem g_spec_l7Soon : G 144 = ⟨[(3, [0, 1, 5, 6])], [], []⟩ := rfl
attribute [simp] c_spec_l7Soon g_spec_l7Soon Go.Proofs.Try.f144
theorem e_spec_l7Soon : enterG P (G 144) 144 = some (c_spec_l7Soon, 36, #[.tmp 4]) := by kernel_rfl
noncomputable def c_spec_l7List : Code := Go.Proofs.Try.f100.body.getD .skip
abbrev n_spec_l7List : FuncId := 100
theorem g_spec_l7List : G 100 = ⟨[(6, [0, 1, 3, 9, 10, 11, 12, 13]), (12, [0, 1, 3, 10, 11, 12, 14, 15, 16]), (14, [0, 1, 3, 10, 11, 12, 14, 15, 16, 17])], [], []⟩ := rfl
attribute [simp] c_spec_l7List g_spec_l7List Go.Proofs.Try.f100
theorem e_spec_l7List : enterG P (G 100) 100 = some (c_spec_l7List, 89, #[.tmp 8]) := by kernel_rfl
noncomputable def c_spec_IdleChain : Code := Go.Proofs.Try.f52.body.getD .skip
abbrev n_spec_IdleChain : FuncId := 52
theorem g_spec_IdleChain : G 52 = ⟨[(5, [0, 10, 11, 12]), (7, [0, 10, 11, 12, 13, 14])], [(9, 11), (10, 25)], []⟩ := rfl
attribute [simp] c_spec_IdleChain g_spec_IdleChain Go.Proofs.Try.f52
theorem e_spec_IdleChain : enterG P (G 52) 52 = some (c_spec_IdleChain, 93, #[.tmp 8, .tmp 9]) := by kernel_rfl
noncomputable def c_impl_isDate : Code := Go.Proofs.Try.f172.body.getD .skip
abbrev n_impl_isDate : FuncId := 172
theorem g_impl_isDate : G 172 = ⟨[], [], []⟩ := rfl
attribute [simp] c_impl_isDate g_impl_isDate Go.Proofs.Try.f172
theorem e_impl_isDate : enterG P (G 172) 172 = some (c_impl_isDate, 5, #[.tmp 2]) := by kernel_rfl
noncomputable def c_impl_IsJobs : Code := Go.Proofs.Try.f169.body.getD .skip
abbrev n_impl_IsJobs : FuncId := 169
theorem g_impl_IsJobs : G 169 = ⟨[(4, [8, 9, 10])], [], []⟩ := rfl
attribute [simp] c_impl_IsJobs g_impl_IsJobs Go.Proofs.Try.f169
theorem e_impl_IsJobs : enterG P (G 169) 169 = some (c_impl_IsJobs, 37, #[.tmp 2]) := by kernel_rfl
noncomputable def c_impl_isPlain : Code := Go.Proofs.Try.f170.body.getD .skip
abbrev n_impl_isPlain : FuncId := 170
theorem g_impl_isPlain : G 170 = ⟨[(2, [5, 6, 7])], [], []⟩ := rfl
attribute [simp] c_impl_isPlain g_impl_isPlain Go.Proofs.Try.f170
theorem e_impl_isPlain : enterG P (G 170) 170 = some (c_impl_isPlain, 15, #[.tmp 2]) := by kernel_rfl
noncomputable def c_impl_IsPlain : Code := Go.Proofs.Try.f162.body.getD .skip
abbrev n_impl_IsPlain : FuncId := 162
theorem g_impl_IsPlain : G 162 = ⟨[], [], []⟩ := rfl
attribute [simp] c_impl_IsPlain g_impl_IsPlain Go.Proofs.Try.f162
theorem e_impl_IsPlain : enterG P (G 162) 162 = some (c_impl_IsPlain, 9, #[.tmp 2]) := by kernel_rfl
noncomputable def c_impl_closure : Code := Go.Proofs.Try.f105.body.getD .skip
abbrev n_impl_closure : FuncId := 105
theorem g_impl_closure : G 105 = ⟨[(3, [0, 1, 5, 15, 16]), (8, [0, 5, 25, 26, 27]), (13, [0, 5, 9]), (16, [0, 5, 9, 10]), (19, [0, 5, 9, 10, 11])], [(10, 7), (21, 30)], []⟩ := rfl
attribute [simp] c_impl_closure g_impl_closure Go.Proofs.Try.f105
theorem e_impl_closure : enterG P (G 105) 105 = some (c_impl_closure, 87, #[.tmp 4]) := by kernel_rfl
noncomputable def c_impl_IsPrecedence : Code := Go.Proofs.Try.f163.body.getD .skip
abbrev n_impl_IsPrecedence : FuncId := 163
theorem g_impl_IsPrecedence : G 163 = ⟨[(4, [0, 1, 17, 18, 19]), (13, [7, 83, 84])], [(8, 31)], []⟩ := rfl
attribute [simp] c_impl_IsPrecedence g_impl_IsPrecedence Go.Proofs.Try.f163
theorem e_impl_IsPrecedence : enterG P (G 163) 163 = some (c_impl_IsPrecedence, 95, #[.tmp 4]) := by kernel_rfl
noncomputable def c_impl_isParallel : Code := Go.Proofs.Try.f145.body.getD .skip
abbrev n_impl_isParallel : FuncId := 145
theorem g_impl_isParallel : G 145 = ⟨[], [], []⟩ := rfl
attribute [simp] c_impl_isParallel g_impl_isParallel Go.Proofs.Try.f145
theorem e_impl_isParallel : enterG P (G 145) 145 = some (c_impl_isParallel, 19, #[.tmp 6]) := by kernel_rfl
noncomputable def c_impl_isOrder : Code := Go.Proofs.Try.f146.body.getD .skip
abbrev n_impl_isOrder : FuncId := 146
theorem g_impl_isOrder : G 146 = ⟨[], [], []⟩ := rfl
attribute [simp] c_impl_isOrder g_impl_isOrder Go.Proofs.Try.f146
theorem e_impl_isOrder : enterG P (G 146) 146 = some (c_impl_isOrder, 14, #[.tmp 4]) := by kernel_rfl
noncomputable def c_impl_isListed : Code := Go.Proofs.Try.f104.body.getD .skip
abbrev n_impl_isListed : FuncId := 104
theorem g_impl_isListed : G 104 = ⟨[], [], []⟩ := rfl
attribute [simp] c_impl_isListed g_impl_isListed Go.Proofs.Try.f104
theorem e_impl_isListed : enterG P (G 104) 104 = some (c_impl_isListed, 19, #[.tmp 8]) := by kernel_rfl
noncomputable def c_impl_listPlan_1 : Code := Go.Proofs.Try.f147.body.getD .skip
abbrev n_impl_listPlan_1 : FuncId := 147
theorem g_impl_listPlan_1 : G 147 = ⟨[(4, [0, 1, 2, 3, 4, 5, 15, 16])], [(6, 26)], []⟩ := rfl
attribute [simp] c_impl_listPlan_1 g_impl_listPlan_1 Go.Proofs.Try.f147
theorem e_impl_listPlan_1 : enterG P (G 147) 147 = some (c_impl_listPlan_1, 49, #[.tmp 8]) := by kernel_rfl
noncomputable def c_impl_listPlan : Code := Go.Proofs.Try.f106.body.getD .skip
abbrev n_impl_listPlan : FuncId := 106
theorem g_impl_listPlan : G 106 = ⟨[(7, [3, 4, 10, 11, 12, 13, 14, 15]), (10, [3, 4, 10, 11, 12, 13, 14, 15, 39, 40]), (14, [3, 4, 10, 11, 12, 13, 14, 15, 16, 39, 40, 49, 50, 51])], [(6, 3)], []⟩ := rfl
attribute [simp] c_impl_listPlan g_impl_listPlan Go.Proofs.Try.f106
theorem e_impl_listPlan : enterG P (G 106) 106 = some (c_impl_listPlan, 84, #[.tmp 8]) := by kernel_rfl
noncomputable def c_impl_IdleChain_1 : Code := Go.Proofs.Try.f107.body.getD .skip
abbrev n_impl_IdleChain_1 : FuncId := 107
theorem g_impl_IdleChain_1 : G 107 = ⟨[(3, [0, 1, 2, 5, 8, 9])], [(5, 29)], []⟩ := rfl
attribute [simp] c_impl_IdleChain_1 g_impl_IdleChain_1 Go.Proofs.Try.f107
theorem e_impl_IdleChain_1 : enterG P (G 107) 107 = some (c_impl_IdleChain_1, 47, #[.tmp 4]) := by kernel_rfl
noncomputable def c_impl_IdleChain_2 : Code := Go.Proofs.Try.f108.body.getD .skip
abbrev n_impl_IdleChain_2 : FuncId := 108
theorem g_impl_IdleChain_2 : G 108 = ⟨[], [], []⟩ := rfl
attribute [simp] c_impl_IdleChain_2 g_impl_IdleChain_2 Go.Proofs.Try.f108
theorem e_impl_IdleChain_2 : enterG P (G 108) 108 = some (c_impl_IdleChain_2, 3, #[.tmp 2]) := by kernel_rfl
noncomputable def c_impl_IdleChain_3 : Code := Go.Proofs.Try.f109.body.getD .skip
abbrev n_impl_IdleChain_3 : FuncId := 109
theorem g_impl_IdleChain_3 : G 109 = ⟨[], [(1, 5)], []⟩ := rfl
attribute [simp] c_impl_IdleChain_3 g_impl_IdleChain_3 Go.Proofs.Try.f109
theorem e_impl_IdleChain_3 : enterG P (G 109) 109 = some (c_impl_IdleChain_3, 12, #[.tmp 4]) := by kernel_rfl
noncomputable def c_impl_IdleChain : Code := Go.Proofs.Try.f56.body.getD .skip
abbrev n_impl_IdleChain : FuncId := 56
theorem g_impl_IdleChain : G 56 = ⟨[(8, [10, 12, 13, 14]), (14, [13, 16, 17])], [], []⟩ := rfl
attribute [simp] c_impl_IdleChain g_impl_IdleChain Go.Proofs.Try.f56
theorem e_impl_IdleChain : enterG P (G 56) 56 = some (c_impl_IdleChain, 66, #[.tmp 8, .tmp 9]) := by kernel_rfl
noncomputable def c_laws_eqJob : Code := Go.Proofs.Try.f110.body.getD .skip
abbrev n_laws_eqJob : FuncId := 110
theorem g_laws_eqJob : G 110 = ⟨[], [], []⟩ := rfl
attribute [simp] c_laws_eqJob g_laws_eqJob Go.Proofs.Try.f110
theorem e_laws_eqJob : enterG P (G 110) 110 = some (c_laws_eqJob, 25, #[.tmp 4]) := by kernel_rfl
noncomputable def c_laws_eqJobS : Code := Go.Proofs.Try.f57.body.getD .skip
abbrev n_laws_eqJobS : FuncId := 57
theorem g_laws_eqJobS : G 57 = ⟨[(4, [0, 1, 5])], [(6, 8)], []⟩ := rfl
attribute [simp] c_laws_eqJobS g_laws_eqJobS Go.Proofs.Try.f57
theorem e_laws_eqJobS : enterG P (G 57) 57 = some (c_laws_eqJobS, 27, #[.tmp 4]) := by kernel_rfl
noncomputable def c_laws_markJobS : Code := Go.Proofs.Try.f58.body.getD .skip
abbrev n_laws_markJobS : FuncId := 58
theorem g_laws_markJobS : G 58 = ⟨[(2, [0, 1, 5])], [], []⟩ := rfl
attribute [simp] c_laws_markJobS g_laws_markJobS Go.Proofs.Try.f58
theorem e_laws_markJobS : enterG P (G 58) 58 = some (c_laws_markJobS, 41, #[.tmp 4]) := by kernel_rfl
noncomputable def c_laws_FnExactIdleChain : Code := Go.Proofs.Try.f13.body.getD .skip
abbrev n_laws_FnExactIdleChain : FuncId := 13
theorem g_laws_FnExactIdleChain : G 13 = ⟨[], [], []⟩ := rfl
attribute [simp] c_laws_FnExactIdleChain g_laws_FnExactIdleChain Go.Proofs.Try.f13
theorem e_laws_FnExactIdleChain : enterG P (G 13) 13 = some (c_laws_FnExactIdleChain, 145, #[.tmp 8]) := by kernel_rfl
noncomputable def c_spec_ListPlan : Code := Go.Proofs.Try.f59.body.getD .skip
abbrev n_spec_ListPlan : FuncId := 59
theorem g_spec_ListPlan : G 59 = ⟨[], [], []⟩ := rfl
attribute [simp] c_spec_ListPlan g_spec_ListPlan Go.Proofs.Try.f59
theorem e_spec_ListPlan : enterG P (G 59) 59 = some (c_spec_ListPlan, 22, #[.tmp 8, .tmp 9]) := by kernel_rfl
noncomputable def c_impl_ListPlan : Code := Go.Proofs.Try.f60.body.getD .skip
abbrev n_impl_ListPlan : FuncId := 60
theorem g_impl_ListPlan : G 60 = ⟨[], [], []⟩ := rfl
attribute [simp] c_impl_ListPlan g_impl_ListPlan Go.Proofs.Try.f60
theorem e_impl_ListPlan : enterG P (G 60) 60 = some (c_impl_ListPlan, 21, #[.tmp 8, .tmp 9]) := by kernel_rfl
noncomputable def c_laws_eqTask : Code := Go.Proofs.Try.f111.body.getD .skip
abbrev n_laws_eqTask : FuncId := 111
theorem g_laws_eqTask : G 111 = ⟨[], [], []⟩ := rfl
attribute [simp] c_laws_eqTask g_laws_eqTask Go.Proofs.Try.f111
theorem e_laws_eqTask : enterG P (G 111) 111 = some (c_laws_eqTask, 20, #[.tmp 4]) := by kernel_rfl
noncomputable def c_laws_eqTaskS : Code := Go.Proofs.Try.f61.body.getD .skip
abbrev n_laws_eqTaskS : FuncId := 61
theorem g_laws_eqTaskS : G 61 = ⟨[(4, [0, 1, 5])], [(6, 8)], []⟩ := rfl
attribute [simp] c_laws_eqTaskS g_laws_eqTaskS Go.Proofs.Try.f61
theorem e_laws_eqTaskS : enterG P (G 61) 61 = some (c_laws_eqTaskS, 27, #[.tmp 4]) := by kernel_rfl
noncomputable def c_laws_markTaskS : Code := Go.Proofs.Try.f62.body.getD .skip
abbrev n_laws_markTaskS : FuncId := 62
theorem g_laws_markTaskS : G 62 = ⟨[(2, [0, 1, 5])], [], []⟩ := rfl
attribute [simp] c_laws_markTaskS g_laws_markTaskS Go.Proofs.Try.f62
theorem e_laws_markTaskS : enterG P (G 62) 62 = some (c_laws_markTaskS, 34, #[.tmp 4]) := by kernel_rfl
noncomputable def c_laws_heldTaskS : Code := Go.Proofs.Try.f63.body.getD .skip
abbrev n_laws_heldTaskS : FuncId := 63
theorem g_laws_heldTaskS : G 63 = ⟨[(2, [0, 1, 5])], [], []⟩ := rfl
attribute [simp] c_laws_heldTaskS g_laws_heldTaskS Go.Proofs.Try.f63
theorem e_laws_heldTaskS : enterG P (G 63) 63 = some (c_laws_heldTaskS, 40, #[.tmp 4]) := by kernel_rfl
noncomputable def c_laws_FnExactListPlan : Code := Go.Proofs.Try.f14.body.getD .skip
abbrev n_laws_FnExactListPlan : FuncId := 14
theorem g_laws_FnExactListPlan : G 14 = ⟨[], [], []⟩ := rfl
attribute [simp] c_laws_FnExactListPlan g_laws_FnExactListPlan Go.Proofs.Try.f14
theorem e_laws_FnExactListPlan : enterG P (G 14) 14 = some (c_laws_FnExactListPlan, 145, #[.tmp 8]) := by kernel_rfl
end Go.Pm.PP
