/- What is told of the functions that the laws reach: printed by a program of this work. -/
import Derived.Test.YtakgmbfmbeeadaaProg
import Derived.KernelRfl
import Derived.Test.YtakgmbfmbeeadaaM4

set_option linter.unusedVariables false
set_option linter.unusedSimpArgs false
namespace Go.Pm.PP
open Go.Pm
noncomputable abbrev P : Program := Go.Proofs.Try.prog
abbrev t_int : TypeId := 3
theorem u_int : P.underlying 3 = some (.int .i64) := by kernel_rfl
theorem a_int : (P.underlying 3).map aggD = some false := by kernel_rfl
theorem i_int : (P.info? 3).map (·.size) = some 1 := by kernel_rfl
noncomputable def ti_3 : TypeInfo := (P.info? 3).getD default
@[simp] theorem ti_3_eq : P.info? 3 = some ti_3 := by kernel_rfl
@[simp] theorem ti_3_size : ti_3.size = 1 := by kernel_rfl
@[simp] theorem ti_3_bytes : ti_3.bytes = 8 := by kernel_rfl
@[simp] theorem ti_3_zero : ti_3.zero = some (.int .i64 0) := by kernel_rfl
noncomputable abbrev ti_int := ti_3
theorem e_t_int : P.info? 3 = some ti_3 := ti_3_eq
theorem s_t_int : ti_3.size = 1 := ti_3_size
theorem b_t_int : ti_3.bytes = 8 := ti_3_bytes
theorem z_t_int : zeroP P 3 = some (.int .i64 0) := zero_some ti_3_eq ti_3_zero rfl (by rw [ti_3_size]; rfl)
abbrev t_bool : TypeId := 4
theorem u_bool : P.underlying 4 = some .bool := by kernel_rfl
theorem a_bool : (P.underlying 4).map aggD = some false := by kernel_rfl
theorem i_bool : (P.info? 4).map (·.size) = some 1 := by kernel_rfl
noncomputable def ti_4 : TypeInfo := (P.info? 4).getD default
@[simp] theorem ti_4_eq : P.info? 4 = some ti_4 := by kernel_rfl
@[simp] theorem ti_4_size : ti_4.size = 1 := by kernel_rfl
@[simp] theorem ti_4_bytes : ti_4.bytes = 1 := by kernel_rfl
@[simp] theorem ti_4_zero : ti_4.zero = some (.bool false) := by kernel_rfl
noncomputable abbrev ti_bool := ti_4
theorem e_t_bool : P.info? 4 = some ti_4 := ti_4_eq
theorem s_t_bool : ti_4.size = 1 := ti_4_size
theorem b_t_bool : ti_4.bytes = 1 := ti_4_bytes
theorem z_t_bool : zeroP P 4 = some (.bool false) := zero_some ti_4_eq ti_4_zero rfl (by rw [ti_4_size]; rfl)
abbrev t_S_S_laws_Job : TypeId := 22
theorem u_S_S_laws_Job : P.underlying 22 = some (.slice 33) := by kernel_rfl
theorem a_S_S_laws_Job : (P.underlying 22).map aggD = some false := by kernel_rfl
theorem i_S_S_laws_Job : (P.info? 22).map (·.size) = some 1 := by kernel_rfl
noncomputable def ti_22 : TypeInfo := (P.info? 22).getD default
@[simp] theorem ti_22_eq : P.info? 22 = some ti_22 := by kernel_rfl
@[simp] theorem ti_22_size : ti_22.size = 1 := by kernel_rfl
@[simp] theorem ti_22_bytes : ti_22.bytes = 24 := by kernel_rfl
@[simp] theorem ti_22_zero : ti_22.zero = some (.slice none 0 0) := by kernel_rfl
noncomputable abbrev ti_S_S_laws_Job := ti_22
theorem e_t_S_S_laws_Job : P.info? 22 = some ti_22 := ti_22_eq
theorem s_t_S_S_laws_Job : ti_22.size = 1 := ti_22_size
theorem b_t_S_S_laws_Job : ti_22.bytes = 24 := ti_22_bytes
theorem z_t_S_S_laws_Job : zeroP P 22 = some (.slice none 0 0) := zero_some ti_22_eq ti_22_zero rfl (by rw [ti_22_size]; rfl)
abbrev t_S_int : TypeId := 23
theorem u_S_int : P.underlying 23 = some (.slice 3) := by kernel_rfl
theorem a_S_int : (P.underlying 23).map aggD = some false := by kernel_rfl
theorem i_S_int : (P.info? 23).map (·.size) = some 1 := by kernel_rfl
noncomputable def ti_23 : TypeInfo := (P.info? 23).getD default
@[simp] theorem ti_23_eq : P.info? 23 = some ti_23 := by kernel_rfl
@[simp] theorem ti_23_size : ti_23.size = 1 := by kernel_rfl
@[simp] theorem ti_23_bytes : ti_23.bytes = 24 := by kernel_rfl
@[simp] theorem ti_23_zero : ti_23.zero = some (.slice none 0 0) := by kernel_rfl
noncomputable abbrev ti_S_int := ti_23
theorem e_t_S_int : P.info? 23 = some ti_23 := ti_23_eq
theorem s_t_S_int : ti_23.size = 1 := ti_23_size
theorem b_t_S_int : ti_23.bytes = 24 := ti_23_bytes
theorem z_t_S_int : zeroP P 23 = some (.slice none 0 0) := zero_some ti_23_eq ti_23_zero rfl (by rw [ti_23_size]; rfl)
abbrev t_S_S_impl_Job : TypeId := 27
theorem u_S_S_impl_Job : P.underlying 27 = some (.slice 38) := by kernel_rfl
theorem a_S_S_impl_Job : (P.underlying 27).map aggD = some false := by kernel_rfl
theorem i_S_S_impl_Job : (P.info? 27).map (·.size) = some 1 := by kernel_rfl
noncomputable def ti_27 : TypeInfo := (P.info? 27).getD default
@[simp] theorem ti_27_eq : P.info? 27 = some ti_27 := by kernel_rfl
@[simp] theorem ti_27_size : ti_27.size = 1 := by kernel_rfl
@[simp] theorem ti_27_bytes : ti_27.bytes = 24 := by kernel_rfl
@[simp] theorem ti_27_zero : ti_27.zero = some (.slice none 0 0) := by kernel_rfl
noncomputable abbrev ti_S_S_impl_Job := ti_27
theorem e_t_S_S_impl_Job : P.info? 27 = some ti_27 := ti_27_eq
theorem s_t_S_S_impl_Job : ti_27.size = 1 := ti_27_size
theorem b_t_S_S_impl_Job : ti_27.bytes = 24 := ti_27_bytes
theorem z_t_S_S_impl_Job : zeroP P 27 = some (.slice none 0 0) := zero_some ti_27_eq ti_27_zero rfl (by rw [ti_27_size]; rfl)
abbrev t_S_laws_Job : TypeId := 33
theorem u_S_laws_Job : P.underlying 33 = some (.slice 71) := by kernel_rfl
theorem a_S_laws_Job : (P.underlying 33).map aggD = some false := by kernel_rfl
theorem i_S_laws_Job : (P.info? 33).map (·.size) = some 1 := by kernel_rfl
noncomputable def ti_33 : TypeInfo := (P.info? 33).getD default
@[simp] theorem ti_33_eq : P.info? 33 = some ti_33 := by kernel_rfl
@[simp] theorem ti_33_size : ti_33.size = 1 := by kernel_rfl
@[simp] theorem ti_33_bytes : ti_33.bytes = 24 := by kernel_rfl
@[simp] theorem ti_33_zero : ti_33.zero = some (.slice none 0 0) := by kernel_rfl
noncomputable abbrev ti_S_laws_Job := ti_33
theorem e_t_S_laws_Job : P.info? 33 = some ti_33 := ti_33_eq
theorem s_t_S_laws_Job : ti_33.size = 1 := ti_33_size
theorem b_t_S_laws_Job : ti_33.bytes = 24 := ti_33_bytes
theorem z_t_S_laws_Job : zeroP P 33 = some (.slice none 0 0) := zero_some ti_33_eq ti_33_zero rfl (by rw [ti_33_size]; rfl)
abbrev t_S_S_int : TypeId := 35
theorem u_S_S_int : P.underlying 35 = some (.slice 23) := by kernel_rfl
theorem a_S_S_int : (P.underlying 35).map aggD = some false := by kernel_rfl
theorem i_S_S_int : (P.info? 35).map (·.size) = some 1 := by kernel_rfl
noncomputable def ti_35 : TypeInfo := (P.info? 35).getD default
@[simp] theorem ti_35_eq : P.info? 35 = some ti_35 := by kernel_rfl
@[simp] theorem ti_35_size : ti_35.size = 1 := by kernel_rfl
@[simp] theorem ti_35_bytes : ti_35.bytes = 24 := by kernel_rfl
@[simp] theorem ti_35_zero : ti_35.zero = some (.slice none 0 0) := by kernel_rfl
noncomputable abbrev ti_S_S_int := ti_35
theorem e_t_S_S_int : P.info? 35 = some ti_35 := ti_35_eq
theorem s_t_S_S_int : ti_35.size = 1 := ti_35_size
theorem b_t_S_S_int : ti_35.bytes = 24 := ti_35_bytes
theorem z_t_S_S_int : zeroP P 35 = some (.slice none 0 0) := zero_some ti_35_eq ti_35_zero rfl (by rw [ti_35_size]; rfl)
abbrev t_S_impl_Job : TypeId := 38
theorem u_S_impl_Job : P.underlying 38 = some (.slice 69) := by kernel_rfl
theorem a_S_impl_Job : (P.underlying 38).map aggD = some false := by kernel_rfl
theorem i_S_impl_Job : (P.info? 38).map (·.size) = some 1 := by kernel_rfl
noncomputable def ti_38 : TypeInfo := (P.info? 38).getD default
@[simp] theorem ti_38_eq : P.info? 38 = some ti_38 := by kernel_rfl
@[simp] theorem ti_38_size : ti_38.size = 1 := by kernel_rfl
@[simp] theorem ti_38_bytes : ti_38.bytes = 24 := by kernel_rfl
@[simp] theorem ti_38_zero : ti_38.zero = some (.slice none 0 0) := by kernel_rfl
noncomputable abbrev ti_S_impl_Job := ti_38
theorem e_t_S_impl_Job : P.info? 38 = some ti_38 := ti_38_eq
theorem s_t_S_impl_Job : ti_38.size = 1 := ti_38_size
theorem b_t_S_impl_Job : ti_38.bytes = 24 := ti_38_bytes
theorem z_t_S_impl_Job : zeroP P 38 = some (.slice none 0 0) := zero_some ti_38_eq ti_38_zero rfl (by rw [ti_38_size]; rfl)
abbrev t_S_A2_int : TypeId := 45
theorem u_S_A2_int : P.underlying 45 = some (.slice 84) := by kernel_rfl
theorem a_S_A2_int : (P.underlying 45).map aggD = some false := by kernel_rfl
theorem i_S_A2_int : (P.info? 45).map (·.size) = some 1 := by kernel_rfl
noncomputable def ti_45 : TypeInfo := (P.info? 45).getD default
@[simp] theorem ti_45_eq : P.info? 45 = some ti_45 := by kernel_rfl
@[simp] theorem ti_45_size : ti_45.size = 1 := by kernel_rfl
@[simp] theorem ti_45_bytes : ti_45.bytes = 24 := by kernel_rfl
@[simp] theorem ti_45_zero : ti_45.zero = some (.slice none 0 0) := by kernel_rfl
noncomputable abbrev ti_S_A2_int := ti_45
theorem e_t_S_A2_int : P.info? 45 = some ti_45 := ti_45_eq
theorem s_t_S_A2_int : ti_45.size = 1 := ti_45_size
theorem b_t_S_A2_int : ti_45.bytes = 24 := ti_45_bytes
theorem z_t_S_A2_int : zeroP P 45 = some (.slice none 0 0) := zero_some ti_45_eq ti_45_zero rfl (by rw [ti_45_size]; rfl)
abbrev t_spec_l2Search : TypeId := 59
theorem a_spec_l2Search : (P.underlying 59).map aggD = some true := by kernel_rfl
theorem i_spec_l2Search : (P.info? 59).map (·.size) = some 3 := by kernel_rfl
noncomputable def ti_59 : TypeInfo := (P.info? 59).getD default
@[simp] theorem ti_59_eq : P.info? 59 = some ti_59 := by kernel_rfl
@[simp] theorem ti_59_size : ti_59.size = 3 := by kernel_rfl
@[simp] theorem ti_59_bytes : ti_59.bytes = 40 := by kernel_rfl
@[simp] theorem ti_59_zero : ti_59.zero = some (.agg #[.slice none 0 0, .int .i64 0, .int .i64 0]) := by kernel_rfl
noncomputable abbrev ti_spec_l2Search := ti_59
theorem e_t_spec_l2Search : P.info? 59 = some ti_59 := ti_59_eq
theorem s_t_spec_l2Search : ti_59.size = 3 := ti_59_size
theorem b_t_spec_l2Search : ti_59.bytes = 40 := ti_59_bytes
theorem z_t_spec_l2Search : zeroP P 59 = some (.agg #[.slice none 0 0, .int .i64 0, .int .i64 0]) := zero_some ti_59_eq ti_59_zero rfl (by rw [ti_59_size]; rfl)
abbrev t_impl_Job : TypeId := 69
theorem a_impl_Job : (P.underlying 69).map aggD = some true := by kernel_rfl
theorem i_impl_Job : (P.info? 69).map (·.size) = some 4 := by kernel_rfl
noncomputable def ti_69 : TypeInfo := (P.info? 69).getD default
@[simp] theorem ti_69_eq : P.info? 69 = some ti_69 := by kernel_rfl
@[simp] theorem ti_69_size : ti_69.size = 4 := by kernel_rfl
@[simp] theorem ti_69_bytes : ti_69.bytes = 32 := by kernel_rfl
@[simp] theorem ti_69_zero : ti_69.zero = some (.agg #[.int .i64 0, .int .i64 0, .int .i64 0, .int .i64 0]) := by kernel_rfl
noncomputable abbrev ti_impl_Job := ti_69
theorem e_t_impl_Job : P.info? 69 = some ti_69 := ti_69_eq
theorem s_t_impl_Job : ti_69.size = 4 := ti_69_size
theorem b_t_impl_Job : ti_69.bytes = 32 := ti_69_bytes
theorem z_t_impl_Job : zeroP P 69 = some (.agg #[.int .i64 0, .int .i64 0, .int .i64 0, .int .i64 0]) := zero_some ti_69_eq ti_69_zero rfl (by rw [ti_69_size]; rfl)
abbrev t_laws_Job : TypeId := 71
theorem a_laws_Job : (P.underlying 71).map aggD = some true := by kernel_rfl
theorem i_laws_Job : (P.info? 71).map (·.size) = some 4 := by kernel_rfl
noncomputable def ti_71 : TypeInfo := (P.info? 71).getD default
@[simp] theorem ti_71_eq : P.info? 71 = some ti_71 := by kernel_rfl
@[simp] theorem ti_71_size : ti_71.size = 4 := by kernel_rfl
@[simp] theorem ti_71_bytes : ti_71.bytes = 32 := by kernel_rfl
@[simp] theorem ti_71_zero : ti_71.zero = some (.agg #[.int .i64 0, .int .i64 0, .int .i64 0, .int .i64 0]) := by kernel_rfl
noncomputable abbrev ti_laws_Job := ti_71
theorem e_t_laws_Job : P.info? 71 = some ti_71 := ti_71_eq
theorem s_t_laws_Job : ti_71.size = 4 := ti_71_size
theorem b_t_laws_Job : ti_71.bytes = 32 := ti_71_bytes
theorem z_t_laws_Job : zeroP P 71 = some (.agg #[.int .i64 0, .int .i64 0, .int .i64 0, .int .i64 0]) := zero_some ti_71_eq ti_71_zero rfl (by rw [ti_71_size]; rfl)
abbrev t_S_S_bool : TypeId := 80
theorem u_S_S_bool : P.underlying 80 = some (.slice 97) := by kernel_rfl
theorem a_S_S_bool : (P.underlying 80).map aggD = some false := by kernel_rfl
theorem i_S_S_bool : (P.info? 80).map (·.size) = some 1 := by kernel_rfl
noncomputable def ti_80 : TypeInfo := (P.info? 80).getD default
@[simp] theorem ti_80_eq : P.info? 80 = some ti_80 := by kernel_rfl
@[simp] theorem ti_80_size : ti_80.size = 1 := by kernel_rfl
@[simp] theorem ti_80_bytes : ti_80.bytes = 24 := by kernel_rfl
@[simp] theorem ti_80_zero : ti_80.zero = some (.slice none 0 0) := by kernel_rfl
noncomputable abbrev ti_S_S_bool := ti_80
theorem e_t_S_S_bool : P.info? 80 = some ti_80 := ti_80_eq
theorem s_t_S_S_bool : ti_80.size = 1 := ti_80_size
theorem b_t_S_S_bool : ti_80.bytes = 24 := ti_80_bytes
theorem z_t_S_S_bool : zeroP P 80 = some (.slice none 0 0) := zero_some ti_80_eq ti_80_zero rfl (by rw [ti_80_size]; rfl)
abbrev t_A2_int : TypeId := 84
theorem u_A2_int : P.underlying 84 = some (.array 2 3) := by kernel_rfl
theorem a_A2_int : (P.underlying 84).map aggD = some true := by kernel_rfl
theorem i_A2_int : (P.info? 84).map (·.size) = some 2 := by kernel_rfl
noncomputable def ti_84 : TypeInfo := (P.info? 84).getD default
@[simp] theorem ti_84_eq : P.info? 84 = some ti_84 := by kernel_rfl
@[simp] theorem ti_84_size : ti_84.size = 2 := by kernel_rfl
@[simp] theorem ti_84_bytes : ti_84.bytes = 16 := by kernel_rfl
@[simp] theorem ti_84_zero : ti_84.zero = some (.agg #[.int .i64 0, .int .i64 0]) := by kernel_rfl
noncomputable abbrev ti_A2_int := ti_84
theorem e_t_A2_int : P.info? 84 = some ti_84 := ti_84_eq
theorem s_t_A2_int : ti_84.size = 2 := ti_84_size
theorem b_t_A2_int : ti_84.bytes = 16 := ti_84_bytes
theorem z_t_A2_int : zeroP P 84 = some (.agg #[.int .i64 0, .int .i64 0]) := zero_some ti_84_eq ti_84_zero rfl (by rw [ti_84_size]; rfl)
abbrev t_func___int_ : TypeId := 92
theorem a_func___int_ : (P.underlying 92).map aggD = some false := by kernel_rfl
theorem i_func___int_ : (P.info? 92).map (·.size) = some 1 := by kernel_rfl
noncomputable def ti_92 : TypeInfo := (P.info? 92).getD default
@[simp] theorem ti_92_eq : P.info? 92 = some ti_92 := by kernel_rfl
@[simp] theorem ti_92_size : ti_92.size = 1 := by kernel_rfl
@[simp] theorem ti_92_bytes : ti_92.bytes = 8 := by kernel_rfl
@[simp] theorem ti_92_zero : ti_92.zero = some (.nilFunc) := by kernel_rfl
noncomputable abbrev ti_func___int_ := ti_92
theorem e_t_func___int_ : P.info? 92 = some ti_92 := ti_92_eq
theorem s_t_func___int_ : ti_92.size = 1 := ti_92_size
theorem b_t_func___int_ : ti_92.bytes = 8 := ti_92_bytes
abbrev t_S_bool : TypeId := 97
theorem u_S_bool : P.underlying 97 = some (.slice 4) := by kernel_rfl
theorem a_S_bool : (P.underlying 97).map aggD = some false := by kernel_rfl
theorem i_S_bool : (P.info? 97).map (·.size) = some 1 := by kernel_rfl
noncomputable def ti_97 : TypeInfo := (P.info? 97).getD default
@[simp] theorem ti_97_eq : P.info? 97 = some ti_97 := by kernel_rfl
@[simp] theorem ti_97_size : ti_97.size = 1 := by kernel_rfl
@[simp] theorem ti_97_bytes : ti_97.bytes = 24 := by kernel_rfl
@[simp] theorem ti_97_zero : ti_97.zero = some (.slice none 0 0) := by kernel_rfl
noncomputable abbrev ti_S_bool := ti_97
theorem e_t_S_bool : P.info? 97 = some ti_97 := ti_97_eq
theorem s_t_S_bool : ti_97.size = 1 := ti_97_size
theorem b_t_S_bool : ti_97.bytes = 24 := ti_97_bytes
theorem z_t_S_bool : zeroP P 97 = some (.slice none 0 0) := zero_some ti_97_eq ti_97_zero rfl (by rw [ti_97_size]; rfl)
abbrev t_func_int__int__bool : TypeId := 102
theorem a_func_int__int__bool : (P.underlying 102).map aggD = some false := by kernel_rfl
theorem i_func_int__int__bool : (P.info? 102).map (·.size) = some 1 := by kernel_rfl
noncomputable def ti_102 : TypeInfo := (P.info? 102).getD default
@[simp] theorem ti_102_eq : P.info? 102 = some ti_102 := by kernel_rfl
@[simp] theorem ti_102_size : ti_102.size = 1 := by kernel_rfl
@[simp] theorem ti_102_bytes : ti_102.bytes = 8 := by kernel_rfl
@[simp] theorem ti_102_zero : ti_102.zero = some (.nilFunc) := by kernel_rfl
noncomputable abbrev ti_func_int__int__bool := ti_102
theorem e_t_func_int__int__bool : P.info? 102 = some ti_102 := ti_102_eq
theorem s_t_func_int__int__bool : ti_102.size = 1 := ti_102_size
theorem b_t_func_int__int__bool : ti_102.bytes = 8 := ti_102_bytes
abbrev t_S_impl_Span : TypeId := 113
theorem u_S_impl_Span : P.underlying 113 = some (.slice 116) := by kernel_rfl
theorem a_S_impl_Span : (P.underlying 113).map aggD = some false := by kernel_rfl
theorem i_S_impl_Span : (P.info? 113).map (·.size) = some 1 := by kernel_rfl
noncomputable def ti_113 : TypeInfo := (P.info? 113).getD default
@[simp] theorem ti_113_eq : P.info? 113 = some ti_113 := by kernel_rfl
@[simp] theorem ti_113_size : ti_113.size = 1 := by kernel_rfl
@[simp] theorem ti_113_bytes : ti_113.bytes = 24 := by kernel_rfl
@[simp] theorem ti_113_zero : ti_113.zero = some (.slice none 0 0) := by kernel_rfl
noncomputable abbrev ti_S_impl_Span := ti_113
theorem e_t_S_impl_Span : P.info? 113 = some ti_113 := ti_113_eq
theorem s_t_S_impl_Span : ti_113.size = 1 := ti_113_size
theorem b_t_S_impl_Span : ti_113.bytes = 24 := ti_113_bytes
theorem z_t_S_impl_Span : zeroP P 113 = some (.slice none 0 0) := zero_some ti_113_eq ti_113_zero rfl (by rw [ti_113_size]; rfl)
abbrev t_impl_Span : TypeId := 116
theorem a_impl_Span : (P.underlying 116).map aggD = some true := by kernel_rfl
theorem i_impl_Span : (P.info? 116).map (·.size) = some 3 := by kernel_rfl
noncomputable def ti_116 : TypeInfo := (P.info? 116).getD default
@[simp] theorem ti_116_eq : P.info? 116 = some ti_116 := by kernel_rfl
@[simp] theorem ti_116_size : ti_116.size = 3 := by kernel_rfl
@[simp] theorem ti_116_bytes : ti_116.bytes = 24 := by kernel_rfl
@[simp] theorem ti_116_zero : ti_116.zero = some (.agg #[.int .i64 0, .int .i64 0, .int .i64 0]) := by kernel_rfl
noncomputable abbrev ti_impl_Span := ti_116
theorem e_t_impl_Span : P.info? 116 = some ti_116 := ti_116_eq
theorem s_t_impl_Span : ti_116.size = 3 := ti_116_size
theorem b_t_impl_Span : ti_116.bytes = 24 := ti_116_bytes
theorem z_t_impl_Span : zeroP P 116 = some (.agg #[.int .i64 0, .int .i64 0, .int .i64 0]) := zero_some ti_116_eq ti_116_zero rfl (by rw [ti_116_size]; rfl)
def G : FuncId → GI
  | 6 => ⟨[(5, [0, 1, 5])], [], []⟩
  | 15 => ⟨[(3, [0, 3, 4])], [], []⟩
  | 8 => ⟨[(3, [0, 3, 4])], [], []⟩
  | 9 => ⟨[(3, [0, 3, 4])], [], []⟩
  | 77 => ⟨[(2, [0, 3])], [], []⟩
  | 64 => ⟨[(2, [0, 3])], [(4, 16)], []⟩
  | 68 => ⟨[(2, [0, 1, 5])], [], []⟩
  | 65 => ⟨[(4, [0, 1, 5])], [], []⟩
  | 121 => ⟨[(3, [0, 1, 5, 6, 7])], [(5, 15), (6, 15)], []⟩
  | 101 => ⟨[(3, [0, 5, 6])], [(5, 12)], []⟩
  | 100 => ⟨[(3, [0, 1, 2, 7, 8])], [(6, 11)], []⟩
  | 108 => ⟨[(9, [0, 1, 2, 7, 8, 10])], [], [(12, 8, [(5, 2)])]⟩
  | 42 => ⟨[], [(2, 5)], []⟩
  | 31 => ⟨[(3, [0, 1, 5, 6])], [], []⟩
  | 33 => ⟨[(3, [0, 1, 2, 7, 8])], [], []⟩
  | 32 => ⟨[(3, [0, 1, 6, 7])], [(5, 18), (7, 11)], []⟩
  | 34 => ⟨[(7, [0, 1, 2, 3, 9, 10, 13])], [], [(10, 9, [(5, 2)])]⟩
  | 45 => ⟨[(4, [8, 9, 10])], [], []⟩
  | 70 => ⟨[(4, [0, 9, 10, 11])], [], []⟩
  | 103 => ⟨[(2, [1, 7, 8, 9])], [], []⟩
  | 72 => ⟨[(2, [0, 1, 7, 8, 9])], [], []⟩
  | 105 => ⟨[(4, [0, 5, 6, 12, 13, 14])], [(6, 12)], []⟩
  | 104 => ⟨[(3, [1, 2, 7, 10, 11, 12])], [(5, 9)], []⟩
  | 62 => ⟨[(3, [0, 3, 4])], [], []⟩
  | 106 => ⟨[(2, [0, 3]), (7, [0, 3, 4]), (11, [0, 5, 6])], [(2, 12), (7, 8), (9, 13), (13, 13)], []⟩
  | 74 => ⟨[(1, [1, 4])], [], []⟩
  | 47 => ⟨[], [(4, 5)], []⟩
  | 37 => ⟨[(3, [1, 5, 11, 12, 13])], [], []⟩
  | 39 => ⟨[(3, [1, 2, 7, 10, 11, 12])], [], []⟩
  | 38 => ⟨[(3, [1, 6, 7, 17, 18, 19])], [(1, 6)], []⟩
  | 75 => ⟨[], [(0, 10)], []⟩
  | 40 => ⟨[], [(4, 3)], []⟩
  | 18 => ⟨[(4, [0, 1, 5])], [(6, 8)], []⟩
  | 11 => ⟨[(4, [0, 1, 5])], [(6, 8)], []⟩
  | 12 => ⟨[(4, [0, 1, 5])], [(6, 8)], []⟩
  | 109 => ⟨[(3, [0, 3, 4])], [], []⟩
  | 123 => ⟨[(3, [0, 1, 2, 3, 9, 10])], [(6, 31)], []⟩
  | 111 => ⟨[(5, [0, 2, 3, 9, 10, 11, 12]), (9, [0, 3, 9, 10, 11, 13])], [], []⟩
  | 79 => ⟨[(4, [0, 1, 2, 7, 8, 9, 10]), (12, [0, 2, 9, 12, 13])], [(7, 12), (14, 11)], []⟩
  | 43 => ⟨[(5, [0, 1, 2, 3, 4, 11, 12])], [], []⟩
  | 112 => ⟨[(5, [0, 1, 2, 8, 9, 10, 11, 27, 28, 29]), (12, [0, 2, 8, 9, 10, 11, 48, 49, 50]), (18, [0, 2, 8, 9, 10, 11, 16]), (22, [0, 2, 8, 9, 10, 11, 16, 17, 76, 77, 78])], [(14, 12), (25, 28)], []⟩
  | 84 => ⟨[(3, [0, 1, 5, 6])], [], []⟩
  | 48 => ⟨[(5, [0, 1, 2, 3, 4, 31, 32, 33])], [], []⟩
  | 17 => ⟨[(4, [0, 1, 5])], [(6, 8)], []⟩
  | 19 => ⟨[(2, [0, 1, 5])], [], []⟩
  | 28 => ⟨[(2, [0, 1, 5])], [], []⟩
  | 20 => ⟨[(2, [0, 1, 5])], [], []⟩
  | 29 => ⟨[(2, [0, 1, 5])], [], []⟩
  | 21 => ⟨[(2, [0, 1, 5])], [], []⟩
  | 56 => ⟨[(3, [1, 2, 3, 4])], [], []⟩
  | 24 => ⟨[(3, [0, 3, 4])], [], []⟩
  | 113 => ⟨[(2, [0, 1, 5])], [(4, 46)], []⟩
  | 53 => ⟨[(3, [0, 1, 5, 6]), (7, [0, 1, 5, 7]), (11, [0, 5, 8]), (14, [0, 5, 8, 9]), (17, [0, 5, 8, 9, 10])], [(9, 13)], []⟩
  | 85 => ⟨[(5, [0, 5, 6])], [], []⟩
  | 51 => ⟨[(2, [0, 3])], [], []⟩
  | 52 => ⟨[(3, [0, 3, 4])], [(5, 25)], []⟩
  | 55 => ⟨[(3, [0, 1, 5, 6])], [], []⟩
  | 125 => ⟨[(2, [0, 1, 5])], [(6, 11)], []⟩
  | 114 => ⟨[(3, [0, 1, 2, 7, 8]), (6, [0, 1, 2, 7, 8, 9]), (9, [0, 1, 2, 7, 8, 9, 10])], [(11, 21)], []⟩
  | 115 => ⟨[(3, [0, 1, 5, 6])], [], []⟩
  | 87 => ⟨[(2, [0, 1, 2, 7]), (5, [0, 1, 2, 7, 8, 9])], [(5, 19), (7, 11)], []⟩
  | 117 => ⟨[(3, [0, 1, 4, 5, 6])], [(5, 22)], []⟩
  | 88 => ⟨[(2, [0, 1, 2, 7, 8, 9])], [(3, 21)], []⟩
  | 89 => ⟨[(2, [0, 1, 5])], [(4, 12), (5, 10), (6, 13)], []⟩
  | 54 => ⟨[(9, [0, 1, 7, 8, 9, 10])], [], []⟩
  | 23 => ⟨[(6, [6, 7, 8])], [(4, 12)], []⟩
  | 59 => ⟨[(3, [0, 1, 5, 15, 16]), (8, [0, 5, 25, 26, 27]), (13, [0, 5, 9]), (16, [0, 5, 9, 10]), (19, [0, 5, 9, 10, 11])], [(10, 7), (21, 30)], []⟩
  | 90 => ⟨[(4, [0, 1, 17, 18, 19]), (13, [7, 83, 84])], [(8, 31)], []⟩
  | 58 => ⟨[(2, [5, 6, 7])], [], []⟩
  | 60 => ⟨[(4, [1, 3, 4, 5]), (7, [1, 3, 4, 5, 6]), (10, [1, 3, 4, 5, 6, 7]), (13, [1, 3, 4, 5, 6, 7, 8])], [], []⟩
  | 97 => ⟨[(3, [1, 5, 9, 10, 11]), (6, [1, 5, 7, 8, 9, 10, 11])], [(9, 7)], []⟩
  | 93 => ⟨[(4, [0, 1, 5, 6, 13, 14, 15]), (9, [0, 1, 5, 6, 9, 10, 13, 14, 15]), (12, [0, 1, 5, 6, 9, 10, 13, 14, 15, 30, 31, 32])], [], []⟩
  | 95 => ⟨[(3, [0, 4, 5, 8, 9, 10])], [(5, 7), (6, 7)], []⟩
  | 98 => ⟨[], [(1, 15)], []⟩
  | 61 => ⟨[(8, [0, 4, 9, 34, 35, 36]), (11, [0, 4, 9, 34, 35, 36, 43, 44, 45]), (14, [0, 4, 9, 13, 14, 34, 35, 36, 43, 44, 45]), (26, [0, 4, 15, 17, 95, 96, 97]), (31, [0, 17, 20])], [(17, 7), (28, 8), (32, 12)], [(36, 13, [(11, 5)])]⟩
  | 25 => ⟨[(10, [7, 34, 35, 36])], [], []⟩
  | 63 => ⟨[(2, [2, 3, 5])], [(4, 6)], []⟩
  | 26 => ⟨[(4, [0, 1, 5])], [(6, 8)], []⟩
  | 27 => ⟨[(2, [0, 1, 5]), (5, [0, 1, 5, 6])], [], []⟩
  | _ => ⟨[], [], []⟩
noncomputable def c_laws_szJobS : Code := Go.Proofs.Try.f13.body.getD .skip
abbrev n_laws_szJobS : FuncId := 13
theorem g_laws_szJobS : G 13 = ⟨[], [], []⟩ := rfl
attribute [simp] c_laws_szJobS g_laws_szJobS Go.Proofs.Try.f13
theorem e_laws_szJobS : enterG P (G 13) 13 = some (c_laws_szJobS, 12, #[.tmp 4]) := by kernel_rfl
noncomputable def c_laws_szJobSS : Code := Go.Proofs.Try.f6.body.getD .skip
abbrev n_laws_szJobSS : FuncId := 6
theorem g_laws_szJobSS : G 6 = ⟨[(5, [0, 1, 5])], [], []⟩ := rfl
attribute [simp] c_laws_szJobSS g_laws_szJobSS Go.Proofs.Try.f6
theorem e_laws_szJobSS : enterG P (G 6) 6 = some (c_laws_szJobSS, 27, #[.tmp 4]) := by kernel_rfl
noncomputable def c_laws_toJob : Code := Go.Proofs.Try.f44.body.getD .skip
abbrev n_laws_toJob : FuncId := 44
theorem g_laws_toJob : G 44 = ⟨[], [], []⟩ := rfl
attribute [simp] c_laws_toJob g_laws_toJob Go.Proofs.Try.f44
theorem e_laws_toJob : enterG P (G 44) 44 = some (c_laws_toJob, 17, #[.cell 2 69]) := by kernel_rfl
noncomputable def c_laws_toJobS : Code := Go.Proofs.Try.f15.body.getD .skip
abbrev n_laws_toJobS : FuncId := 15
theorem g_laws_toJobS : G 15 = ⟨[(3, [0, 3, 4])], [], []⟩ := rfl
attribute [simp] c_laws_toJobS g_laws_toJobS Go.Proofs.Try.f15
theorem e_laws_toJobS : enterG P (G 15) 15 = some (c_laws_toJobS, 23, #[.tmp 2]) := by kernel_rfl
noncomputable def c_laws_toJobSS : Code := Go.Proofs.Try.f8.body.getD .skip
abbrev n_laws_toJobSS : FuncId := 8
theorem g_laws_toJobSS : G 8 = ⟨[(3, [0, 3, 4])], [], []⟩ := rfl
attribute [simp] c_laws_toJobSS g_laws_toJobSS Go.Proofs.Try.f8
theorem e_laws_toJobSS : enterG P (G 8) 8 = some (c_laws_toJobSS, 23, #[.tmp 2]) := by kernel_rfl
noncomputable def c_laws_toIntS : Code := Go.Proofs.Try.f9.body.getD .skip
abbrev n_laws_toIntS : FuncId := 9
theorem g_laws_toIntS : G 9 = ⟨[(3, [0, 3, 4])], [], []⟩ := rfl
attribute [simp] c_laws_toIntS g_laws_toIntS Go.Proofs.Try.f9
theorem e_laws_toIntS : enterG P (G 9) 9 = some (c_laws_toIntS, 22, #[.tmp 2]) := by kernel_rfl
noncomputable def c_spec_l1In : Code := Go.Proofs.Try.f99.body.getD .skip
abbrev n_spec_l1In : FuncId := 99
theorem g_spec_l1In : G 99 = ⟨[], [], []⟩ := rfl
attribute [simp] c_spec_l1In g_spec_l1In Go.Proofs.Try.f99
theorem e_spec_l1In : enterG P (G 99) 99 = some (c_spec_l1In, 15, #[.tmp 6]) := by kernel_rfl
noncomputable def c_spec_l2Job : Code := Go.Proofs.Try.f107.body.getD .skip
abbrev n_spec_l2Job : FuncId := 107
theorem g_spec_l2Job : G 107 = ⟨[], [], []⟩ := rfl
attribute [simp] c_spec_l2Job g_spec_l2Job Go.Proofs.Try.f107
theorem e_spec_l2Job : enterG P (G 107) 107 = some (c_spec_l2Job, 21, #[.tmp 2]) := by kernel_rfl
noncomputable def c_spec_l2Good : Code := Go.Proofs.Try.f77.body.getD .skip
abbrev n_spec_l2Good : FuncId := 77
theorem g_spec_l2Good : G 77 = ⟨[(2, [0, 3])], [], []⟩ := rfl
attribute [simp] c_spec_l2Good g_spec_l2Good Go.Proofs.Try.f77
theorem e_spec_l2Good : enterG P (G 77) 77 = some (c_spec_l2Good, 19, #[.tmp 2]) := by kernel_rfl
noncomputable def c_spec_l11Lists : Code := Go.Proofs.Try.f64.body.getD .skip
abbrev n_spec_l11Lists : FuncId := 64
theorem g_spec_l11Lists : G 64 = ⟨[(2, [0, 3])], [(4, 16)], []⟩ := rfl
attribute [simp] c_spec_l11Lists g_spec_l11Lists Go.Proofs.Try.f64
theorem e_spec_l11Lists : enterG P (G 64) 64 = some (c_spec_l11Lists, 31, #[.tmp 2]) := by kernel_rfl
noncomputable def c_spec_l1Has : Code := Go.Proofs.Try.f68.body.getD .skip
abbrev n_spec_l1Has : FuncId := 68
theorem g_spec_l1Has : G 68 = ⟨[(2, [0, 1, 5])], [], []⟩ := rfl
attribute [simp] c_spec_l1Has g_spec_l1Has Go.Proofs.Try.f68
theorem e_spec_l1Has : enterG P (G 68) 68 = some (c_spec_l1Has, 18, #[.tmp 4]) := by kernel_rfl
noncomputable def c_spec_l2Order : Code := Go.Proofs.Try.f65.body.getD .skip
abbrev n_spec_l2Order : FuncId := 65
theorem g_spec_l2Order : G 65 = ⟨[(4, [0, 1, 5])], [], []⟩ := rfl
attribute [simp] c_spec_l2Order g_spec_l2Order Go.Proofs.Try.f65
theorem e_spec_l2Order : enterG P (G 65) 65 = some (c_spec_l2Order, 24, #[.tmp 4]) := by kernel_rfl
noncomputable def c_spec_l2Objective : Code := Go.Proofs.Try.f66.body.getD .skip
abbrev n_spec_l2Objective : FuncId := 66
theorem g_spec_l2Objective : G 66 = ⟨[], [], []⟩ := rfl
attribute [simp] c_spec_l2Objective g_spec_l2Objective Go.Proofs.Try.f66
theorem e_spec_l2Objective : enterG P (G 66) 66 = some (c_spec_l2Objective, 5, #[.tmp 2]) := by kernel_rfl
noncomputable def c_spec_l11Fits : Code := Go.Proofs.Try.f30.body.getD .skip
abbrev n_spec_l11Fits : FuncId := 30
theorem g_spec_l11Fits : G 30 = ⟨[], [], []⟩ := rfl
attribute [simp] c_spec_l11Fits g_spec_l11Fits Go.Proofs.Try.f30
theorem e_spec_l11Fits : enterG P (G 30) 30 = some (c_spec_l11Fits, 21, #[.tmp 6]) := by kernel_rfl
noncomputable def c_spec_l1Most : Code := Go.Proofs.Try.f110.body.getD .skip
abbrev n_spec_l1Most : FuncId := 110
theorem g_spec_l1Most : G 110 = ⟨[], [], []⟩ := rfl
attribute [simp] c_spec_l1Most g_spec_l1Most Go.Proofs.Try.f110
theorem e_spec_l1Most : enterG P (G 110) 110 = some (c_spec_l1Most, 10, #[.tmp 4]) := by kernel_rfl
noncomputable def c_spec_l2Starts : Code := Go.Proofs.Try.f121.body.getD .skip
abbrev n_spec_l2Starts : FuncId := 121
theorem g_spec_l2Starts : G 121 = ⟨[(3, [0, 1, 5, 6, 7])], [(5, 15), (6, 15)], []⟩ := rfl
attribute [simp] c_spec_l2Starts g_spec_l2Starts Go.Proofs.Try.f121
theorem e_spec_l2Starts : enterG P (G 121) 121 = some (c_spec_l2Starts, 50, #[.tmp 4]) := by kernel_rfl
noncomputable def c_spec_l2Ends : Code := Go.Proofs.Try.f101.body.getD .skip
abbrev n_spec_l2Ends : FuncId := 101
theorem g_spec_l2Ends : G 101 = ⟨[(3, [0, 5, 6])], [(5, 12)], []⟩ := rfl
attribute [simp] c_spec_l2Ends g_spec_l2Ends Go.Proofs.Try.f101
theorem e_spec_l2Ends : enterG P (G 101) 101 = some (c_spec_l2Ends, 30, #[.tmp 4]) := by kernel_rfl
noncomputable def c_spec_l2Greatest : Code := Go.Proofs.Try.f119.body.getD .skip
abbrev n_spec_l2Greatest : FuncId := 119
theorem g_spec_l2Greatest : G 119 = ⟨[], [], []⟩ := rfl
attribute [simp] c_spec_l2Greatest g_spec_l2Greatest Go.Proofs.Try.f119
theorem e_spec_l2Greatest : enterG P (G 119) 119 = some (c_spec_l2Greatest, 9, #[.tmp 2]) := by kernel_rfl
noncomputable def c_spec_l2Cost : Code := Go.Proofs.Try.f120.body.getD .skip
abbrev n_spec_l2Cost : FuncId := 120
theorem g_spec_l2Cost : G 120 = ⟨[], [], []⟩ := rfl
attribute [simp] c_spec_l2Cost g_spec_l2Cost Go.Proofs.Try.f120
theorem e_spec_l2Cost : enterG P (G 120) 120 = some (c_spec_l2Cost, 38, #[.tmp 6]) := by kernel_rfl
noncomputable def c_spec_l2Of : Code := Go.Proofs.Try.f100.body.getD .skip
abbrev n_spec_l2Of : FuncId := 100
theorem g_spec_l2Of : G 100 = ⟨[(3, [0, 1, 2, 7, 8])], [(6, 11)], []⟩ := rfl
attribute [simp] c_spec_l2Of g_spec_l2Of Go.Proofs.Try.f100
theorem e_spec_l2Of : enterG P (G 100) 100 = some (c_spec_l2Of, 53, #[.tmp 6]) := by kernel_rfl
noncomputable def c_spec_l2Value : Code := Go.Proofs.Try.f67.body.getD .skip
abbrev n_spec_l2Value : FuncId := 67
theorem g_spec_l2Value : G 67 = ⟨[], [], []⟩ := rfl
attribute [simp] c_spec_l2Value g_spec_l2Value Go.Proofs.Try.f67
theorem e_spec_l2Value : enterG P (G 67) 67 = some (c_spec_l2Value, 13, #[.tmp 6]) := by kernel_rfl
noncomputable def c_spec_l1Own : Code := Go.Proofs.Try.f69.body.getD .skip
abbrev n_spec_l1Own : FuncId := 69
theorem g_spec_l1Own : G 69 = ⟨[], [], []⟩ := rfl
attribute [simp] c_spec_l1Own g_spec_l1Own Go.Proofs.Try.f69
theorem e_spec_l1Own : enterG P (G 69) 69 = some (c_spec_l1Own, 6, #[.tmp 2]) := by kernel_rfl
noncomputable def c_spec_l2Try : Code := Go.Proofs.Try.f108.body.getD .skip
abbrev n_spec_l2Try : FuncId := 108
theorem g_spec_l2Try : G 108 = ⟨[(9, [0, 1, 2, 7, 8, 10])], [], [(12, 8, [(5, 2)])]⟩ := rfl
attribute [simp] c_spec_l2Try g_spec_l2Try Go.Proofs.Try.f108
theorem e_spec_l2Try : enterG P (G 108) 108 = some (c_spec_l2Try, 62, #[.cell 8 59]) := by kernel_rfl
noncomputable def c_spec_l2All : Code := Go.Proofs.Try.f78.body.getD .skip
abbrev n_spec_l2All : FuncId := 78
theorem g_spec_l2All : G 78 = ⟨[], [], []⟩ := rfl
attribute [simp] c_spec_l2All g_spec_l2All Go.Proofs.Try.f78
theorem e_spec_l2All : enterG P (G 78) 78 = some (c_spec_l2All, 10, #[.cell 4 59]) := by kernel_rfl
noncomputable def c_spec_l2Best : Code := Go.Proofs.Try.f42.body.getD .skip
abbrev n_spec_l2Best : FuncId := 42
theorem g_spec_l2Best : G 42 = ⟨[], [(2, 5)], []⟩ := rfl
attribute [simp] c_spec_l2Best g_spec_l2Best Go.Proofs.Try.f42
theorem e_spec_l2Best : enterG P (G 42) 42 = some (c_spec_l2Best, 14, #[.tmp 4, .tmp 5]) := by kernel_rfl
noncomputable def c_spec_l11Bests : Code := Go.Proofs.Try.f31.body.getD .skip
abbrev n_spec_l11Bests : FuncId := 31
theorem g_spec_l11Bests : G 31 = ⟨[(3, [0, 1, 5, 6])], [], []⟩ := rfl
attribute [simp] c_spec_l11Bests g_spec_l11Bests Go.Proofs.Try.f31
theorem e_spec_l11Bests : enterG P (G 31) 31 = some (c_spec_l11Bests, 30, #[.tmp 4]) := by kernel_rfl
noncomputable def c_spec_l11Values : Code := Go.Proofs.Try.f33.body.getD .skip
abbrev n_spec_l11Values : FuncId := 33
theorem g_spec_l11Values : G 33 = ⟨[(3, [0, 1, 2, 7, 8])], [], []⟩ := rfl
attribute [simp] c_spec_l11Values g_spec_l11Values Go.Proofs.Try.f33
theorem e_spec_l11Values : enterG P (G 33) 33 = some (c_spec_l11Values, 27, #[.tmp 6]) := by kernel_rfl
noncomputable def c_spec_l11Worst : Code := Go.Proofs.Try.f32.body.getD .skip
abbrev n_spec_l11Worst : FuncId := 32
theorem g_spec_l11Worst : G 32 = ⟨[(3, [0, 1, 6, 7])], [(5, 18), (7, 11)], []⟩ := rfl
attribute [simp] c_spec_l11Worst g_spec_l11Worst Go.Proofs.Try.f32
theorem e_spec_l11Worst : enterG P (G 32) 32 = some (c_spec_l11Worst, 44, #[.tmp 4, .tmp 5]) := by kernel_rfl
noncomputable def c_spec_l11Least : Code := Go.Proofs.Try.f34.body.getD .skip
abbrev n_spec_l11Least : FuncId := 34
theorem g_spec_l11Least : G 34 = ⟨[(7, [0, 1, 2, 3, 9, 10, 13])], [], [(10, 9, [(5, 2)])]⟩ := rfl
attribute [simp] c_spec_l11Least g_spec_l11Least Go.Proofs.Try.f34
theorem e_spec_l11Least : enterG P (G 34) 34 = some (c_spec_l11Least, 66, #[.cell 10 59]) := by kernel_rfl
noncomputable def c_spec_RegretBound : Code := Go.Proofs.Try.f7.body.getD .skip
abbrev n_spec_RegretBound : FuncId := 7
theorem g_spec_RegretBound : G 7 = ⟨[], [], []⟩ := rfl
attribute [simp] c_spec_RegretBound g_spec_RegretBound Go.Proofs.Try.f7
theorem e_spec_RegretBound : enterG P (G 7) 7 = some (c_spec_RegretBound, 37, #[.tmp 6, .tmp 7]) := by kernel_rfl
noncomputable def c_impl_within : Code := Go.Proofs.Try.f80.body.getD .skip
abbrev n_impl_within : FuncId := 80
theorem g_impl_within : G 80 = ⟨[], [], []⟩ := rfl
attribute [simp] c_impl_within g_impl_within Go.Proofs.Try.f80
theorem e_impl_within : enterG P (G 80) 80 = some (c_impl_within, 15, #[.tmp 6]) := by kernel_rfl
noncomputable def c_impl_isDate : Code := Go.Proofs.Try.f81.body.getD .skip
abbrev n_impl_isDate : FuncId := 81
theorem g_impl_isDate : G 81 = ⟨[], [], []⟩ := rfl
attribute [simp] c_impl_isDate g_impl_isDate Go.Proofs.Try.f81
theorem e_impl_isDate : enterG P (G 81) 81 = some (c_impl_isDate, 5, #[.tmp 2]) := by kernel_rfl
noncomputable def c_impl_IsJobs : Code := Go.Proofs.Try.f45.body.getD .skip
abbrev n_impl_IsJobs : FuncId := 45
theorem g_impl_IsJobs : G 45 = ⟨[(4, [8, 9, 10])], [], []⟩ := rfl
attribute [simp] c_impl_IsJobs g_impl_IsJobs Go.Proofs.Try.f45
theorem e_impl_IsJobs : enterG P (G 45) 45 = some (c_impl_IsJobs, 37, #[.tmp 2]) := by kernel_rfl
noncomputable def c_impl_AreScenarios : Code := Go.Proofs.Try.f70.body.getD .skip
abbrev n_impl_AreScenarios : FuncId := 70
theorem g_impl_AreScenarios : G 70 = ⟨[(4, [0, 9, 10, 11])], [], []⟩ := rfl
attribute [simp] c_impl_AreScenarios g_impl_AreScenarios Go.Proofs.Try.f70
theorem e_impl_AreScenarios : enterG P (G 70) 70 = some (c_impl_AreScenarios, 28, #[.tmp 2]) := by kernel_rfl
noncomputable def c_impl_isObjective : Code := Go.Proofs.Try.f71.body.getD .skip
abbrev n_impl_isObjective : FuncId := 71
theorem g_impl_isObjective : G 71 = ⟨[], [], []⟩ := rfl
attribute [simp] c_impl_isObjective g_impl_isObjective Go.Proofs.Try.f71
theorem e_impl_isObjective : enterG P (G 71) 71 = some (c_impl_isObjective, 5, #[.tmp 2]) := by kernel_rfl
noncomputable def c_impl_areRobust : Code := Go.Proofs.Try.f35.body.getD .skip
abbrev n_impl_areRobust : FuncId := 35
theorem g_impl_areRobust : G 35 = ⟨[], [], []⟩ := rfl
attribute [simp] c_impl_areRobust g_impl_areRobust Go.Proofs.Try.f35
theorem e_impl_areRobust : enterG P (G 35) 35 = some (c_impl_areRobust, 11, #[.tmp 4]) := by kernel_rfl
noncomputable def c_impl_isNumber : Code := Go.Proofs.Try.f102.body.getD .skip
abbrev n_impl_isNumber : FuncId := 102
theorem g_impl_isNumber : G 102 = ⟨[], [], []⟩ := rfl
attribute [simp] c_impl_isNumber g_impl_isNumber Go.Proofs.Try.f102
theorem e_impl_isNumber : enterG P (G 102) 102 = some (c_impl_isNumber, 9, #[.tmp 4]) := by kernel_rfl
noncomputable def c_impl_has : Code := Go.Proofs.Try.f103.body.getD .skip
abbrev n_impl_has : FuncId := 103
theorem g_impl_has : G 103 = ⟨[(2, [1, 7, 8, 9])], [], []⟩ := rfl
attribute [simp] c_impl_has g_impl_has Go.Proofs.Try.f103
theorem e_impl_has : enterG P (G 103) 103 = some (c_impl_has, 17, #[.tmp 4]) := by kernel_rfl
noncomputable def c_impl_areDifferent : Code := Go.Proofs.Try.f72.body.getD .skip
abbrev n_impl_areDifferent : FuncId := 72
theorem g_impl_areDifferent : G 72 = ⟨[(2, [0, 1, 7, 8, 9])], [], []⟩ := rfl
attribute [simp] c_impl_areDifferent g_impl_areDifferent Go.Proofs.Try.f72
theorem e_impl_areDifferent : enterG P (G 72) 72 = some (c_impl_areDifferent, 26, #[.tmp 4]) := by kernel_rfl
noncomputable def c_impl_isOrder : Code := Go.Proofs.Try.f36.body.getD .skip
abbrev n_impl_isOrder : FuncId := 36
theorem g_impl_isOrder : G 36 = ⟨[], [], []⟩ := rfl
attribute [simp] c_impl_isOrder g_impl_isOrder Go.Proofs.Try.f36
theorem e_impl_isOrder : enterG P (G 36) 36 = some (c_impl_isOrder, 14, #[.tmp 4]) := by kernel_rfl
noncomputable def c_impl_endsOf : Code := Go.Proofs.Try.f105.body.getD .skip
abbrev n_impl_endsOf : FuncId := 105
theorem g_impl_endsOf : G 105 = ⟨[(4, [0, 5, 6, 12, 13, 14])], [(6, 12)], []⟩ := rfl
attribute [simp] c_impl_endsOf g_impl_endsOf Go.Proofs.Try.f105
theorem e_impl_endsOf : enterG P (G 105) 105 = some (c_impl_endsOf, 37, #[.tmp 4]) := by kernel_rfl
noncomputable def c_impl_add : Code := Go.Proofs.Try.f122.body.getD .skip
abbrev n_impl_add : FuncId := 122
theorem g_impl_add : G 122 = ⟨[], [], []⟩ := rfl
attribute [simp] c_impl_add g_impl_add Go.Proofs.Try.f122
theorem e_impl_add : enterG P (G 122) 122 = some (c_impl_add, 70, #[.tmp 10]) := by kernel_rfl
noncomputable def c_impl_valueOfEnds : Code := Go.Proofs.Try.f104.body.getD .skip
abbrev n_impl_valueOfEnds : FuncId := 104
theorem g_impl_valueOfEnds : G 104 = ⟨[(3, [1, 2, 7, 10, 11, 12])], [(5, 9)], []⟩ := rfl
attribute [simp] c_impl_valueOfEnds g_impl_valueOfEnds Go.Proofs.Try.f104
theorem e_impl_valueOfEnds : enterG P (G 104) 104 = some (c_impl_valueOfEnds, 29, #[.tmp 6]) := by kernel_rfl
noncomputable def c_impl_valueOf : Code := Go.Proofs.Try.f73.body.getD .skip
abbrev n_impl_valueOf : FuncId := 73
theorem g_impl_valueOf : G 73 = ⟨[], [], []⟩ := rfl
attribute [simp] c_impl_valueOf g_impl_valueOf Go.Proofs.Try.f73
theorem e_impl_valueOf : enterG P (G 73) 73 = some (c_impl_valueOf, 13, #[.tmp 6]) := by kernel_rfl
noncomputable def c_impl_copyInts : Code := Go.Proofs.Try.f76.body.getD .skip
abbrev n_impl_copyInts : FuncId := 76
theorem g_impl_copyInts : G 76 = ⟨[], [], []⟩ := rfl
attribute [simp] c_impl_copyInts g_impl_copyInts Go.Proofs.Try.f76
theorem e_impl_copyInts : enterG P (G 76) 76 = some (c_impl_copyInts, 6, #[.tmp 2]) := by kernel_rfl
noncomputable def c_impl_best_1 : Code := Go.Proofs.Try.f82.body.getD .skip
abbrev n_impl_best_1 : FuncId := 82
theorem g_impl_best_1 : G 82 = ⟨[], [], []⟩ := rfl
attribute [simp] c_impl_best_1 g_impl_best_1 Go.Proofs.Try.f82
theorem e_impl_best_1 : enterG P (G 82) 82 = some (c_impl_best_1, 29, #[]) := by kernel_rfl
noncomputable def c_impl_numbersTo : Code := Go.Proofs.Try.f62.body.getD .skip
abbrev n_impl_numbersTo : FuncId := 62
theorem g_impl_numbersTo : G 62 = ⟨[(3, [0, 3, 4])], [], []⟩ := rfl
attribute [simp] c_impl_numbersTo g_impl_numbersTo Go.Proofs.Try.f62
theorem e_impl_numbersTo : enterG P (G 62) 62 = some (c_impl_numbersTo, 15, #[.tmp 2]) := by kernel_rfl
noncomputable def c_impl_nextOrder : Code := Go.Proofs.Try.f106.body.getD .skip
abbrev n_impl_nextOrder : FuncId := 106
theorem g_impl_nextOrder : G 106 = ⟨[(2, [0, 3]), (7, [0, 3, 4]), (11, [0, 5, 6])], [(2, 12), (7, 8), (9, 13), (13, 13)], []⟩ := rfl
attribute [simp] c_impl_nextOrder g_impl_nextOrder Go.Proofs.Try.f106
theorem e_impl_nextOrder : enterG P (G 106) 106 = some (c_impl_nextOrder, 82, #[.tmp 2]) := by kernel_rfl
noncomputable def c_impl_eachOrder : Code := Go.Proofs.Try.f74.body.getD .skip
abbrev n_impl_eachOrder : FuncId := 74
theorem g_impl_eachOrder : G 74 = ⟨[(1, [1, 4])], [], []⟩ := rfl
attribute [simp] c_impl_eachOrder g_impl_eachOrder Go.Proofs.Try.f74
theorem e_impl_eachOrder : enterG P (G 74) 74 = some (c_impl_eachOrder, 13, #[]) := by kernel_rfl
noncomputable def c_impl_best : Code := Go.Proofs.Try.f47.body.getD .skip
abbrev n_impl_best : FuncId := 47
theorem g_impl_best : G 47 = ⟨[], [(4, 5)], []⟩ := rfl
attribute [simp] c_impl_best g_impl_best Go.Proofs.Try.f47
theorem e_impl_best : enterG P (G 47) 47 = some (c_impl_best, 17, #[.tmp 4, .tmp 5, .tmp 6]) := by kernel_rfl
noncomputable def c_impl_bestValues : Code := Go.Proofs.Try.f37.body.getD .skip
abbrev n_impl_bestValues : FuncId := 37
theorem g_impl_bestValues : G 37 = ⟨[(3, [1, 5, 11, 12, 13])], [], []⟩ := rfl
attribute [simp] c_impl_bestValues g_impl_bestValues Go.Proofs.Try.f37
theorem e_impl_bestValues : enterG P (G 37) 37 = some (c_impl_bestValues, 30, #[.tmp 4]) := by kernel_rfl
noncomputable def c_impl_scenarioValues : Code := Go.Proofs.Try.f39.body.getD .skip
abbrev n_impl_scenarioValues : FuncId := 39
theorem g_impl_scenarioValues : G 39 = ⟨[(3, [1, 2, 7, 10, 11, 12])], [], []⟩ := rfl
attribute [simp] c_impl_scenarioValues g_impl_scenarioValues Go.Proofs.Try.f39
theorem e_impl_scenarioValues : enterG P (G 39) 39 = some (c_impl_scenarioValues, 25, #[.tmp 6]) := by kernel_rfl
noncomputable def c_impl_greatest : Code := Go.Proofs.Try.f38.body.getD .skip
abbrev n_impl_greatest : FuncId := 38
theorem g_impl_greatest : G 38 = ⟨[(3, [1, 6, 7, 17, 18, 19])], [(1, 6)], []⟩ := rfl
attribute [simp] c_impl_greatest g_impl_greatest Go.Proofs.Try.f38
theorem e_impl_greatest : enterG P (G 38) 38 = some (c_impl_greatest, 42, #[.tmp 4, .tmp 5]) := by kernel_rfl
noncomputable def c_impl_leastGreatest_1 : Code := Go.Proofs.Try.f75.body.getD .skip
abbrev n_impl_leastGreatest_1 : FuncId := 75
theorem g_impl_leastGreatest_1 : G 75 = ⟨[], [(0, 10)], []⟩ := rfl
attribute [simp] c_impl_leastGreatest_1 g_impl_leastGreatest_1 Go.Proofs.Try.f75
theorem e_impl_leastGreatest_1 : enterG P (G 75) 75 = some (c_impl_leastGreatest_1, 29, #[]) := by kernel_rfl
noncomputable def c_impl_leastGreatest : Code := Go.Proofs.Try.f40.body.getD .skip
abbrev n_impl_leastGreatest : FuncId := 40
theorem g_impl_leastGreatest : G 40 = ⟨[], [(4, 3)], []⟩ := rfl
attribute [simp] c_impl_leastGreatest g_impl_leastGreatest Go.Proofs.Try.f40
theorem e_impl_leastGreatest : enterG P (G 40) 40 = some (c_impl_leastGreatest, 19, #[.tmp 6, .tmp 7]) := by kernel_rfl
noncomputable def c_impl_RegretBound : Code := Go.Proofs.Try.f10.body.getD .skip
abbrev n_impl_RegretBound : FuncId := 10
theorem g_impl_RegretBound : G 10 = ⟨[], [], []⟩ := rfl
attribute [simp] c_impl_RegretBound g_impl_RegretBound Go.Proofs.Try.f10
theorem e_impl_RegretBound : enterG P (G 10) 10 = some (c_impl_RegretBound, 48, #[.tmp 6, .tmp 7]) := by kernel_rfl
noncomputable def c_laws_eqJob : Code := Go.Proofs.Try.f49.body.getD .skip
abbrev n_laws_eqJob : FuncId := 49
theorem g_laws_eqJob : G 49 = ⟨[], [], []⟩ := rfl
attribute [simp] c_laws_eqJob g_laws_eqJob Go.Proofs.Try.f49
theorem e_laws_eqJob : enterG P (G 49) 49 = some (c_laws_eqJob, 25, #[.tmp 4]) := by kernel_rfl
noncomputable def c_laws_eqJobS : Code := Go.Proofs.Try.f18.body.getD .skip
abbrev n_laws_eqJobS : FuncId := 18
theorem g_laws_eqJobS : G 18 = ⟨[(4, [0, 1, 5])], [(6, 8)], []⟩ := rfl
attribute [simp] c_laws_eqJobS g_laws_eqJobS Go.Proofs.Try.f18
theorem e_laws_eqJobS : enterG P (G 18) 18 = some (c_laws_eqJobS, 27, #[.tmp 4]) := by kernel_rfl
noncomputable def c_laws_eqJobSS : Code := Go.Proofs.Try.f11.body.getD .skip
abbrev n_laws_eqJobSS : FuncId := 11
theorem g_laws_eqJobSS : G 11 = ⟨[(4, [0, 1, 5])], [(6, 8)], []⟩ := rfl
attribute [simp] c_laws_eqJobSS g_laws_eqJobSS Go.Proofs.Try.f11
theorem e_laws_eqJobSS : enterG P (G 11) 11 = some (c_laws_eqJobSS, 27, #[.tmp 4]) := by kernel_rfl
noncomputable def c_laws_eqIntS : Code := Go.Proofs.Try.f12.body.getD .skip
abbrev n_laws_eqIntS : FuncId := 12
theorem g_laws_eqIntS : G 12 = ⟨[(4, [0, 1, 5])], [(6, 8)], []⟩ := rfl
attribute [simp] c_laws_eqIntS g_laws_eqIntS Go.Proofs.Try.f12
theorem e_laws_eqIntS : enterG P (G 12) 12 = some (c_laws_eqIntS, 26, #[.tmp 4]) := by kernel_rfl
noncomputable def c_laws_FnExactRegretBound : Code := Go.Proofs.Try.f3.body.getD .skip
abbrev n_laws_FnExactRegretBound : FuncId := 3
theorem g_laws_FnExactRegretBound : G 3 = ⟨[], [], []⟩ := rfl
attribute [simp] c_laws_FnExactRegretBound g_laws_FnExactRegretBound Go.Proofs.Try.f3
theorem e_laws_FnExactRegretBound : enterG P (G 3) 3 = some (c_laws_FnExactRegretBound, 60, #[.tmp 6]) := by kernel_rfl
noncomputable def c_spec_l5Two : Code := Go.Proofs.Try.f41.body.getD .skip
abbrev n_spec_l5Two : FuncId := 41
theorem g_spec_l5Two : G 41 = ⟨[], [], []⟩ := rfl
attribute [simp] c_spec_l5Two g_spec_l5Two Go.Proofs.Try.f41
theorem e_spec_l5Two : enterG P (G 41) 41 = some (c_spec_l5Two, 15, #[.tmp 4]) := by kernel_rfl
noncomputable def c_spec_l5Rests : Code := Go.Proofs.Try.f109.body.getD .skip
abbrev n_spec_l5Rests : FuncId := 109
theorem g_spec_l5Rests : G 109 = ⟨[(3, [0, 3, 4])], [], []⟩ := rfl
attribute [simp] c_spec_l5Rests g_spec_l5Rests Go.Proofs.Try.f109
theorem e_spec_l5Rests : enterG P (G 109) 109 = some (c_spec_l5Rests, 21, #[.tmp 2]) := by kernel_rfl
noncomputable def c_spec_l5Pick : Code := Go.Proofs.Try.f123.body.getD .skip
abbrev n_spec_l5Pick : FuncId := 123
theorem g_spec_l5Pick : G 123 = ⟨[(3, [0, 1, 2, 3, 9, 10])], [(6, 31)], []⟩ := rfl
attribute [simp] c_spec_l5Pick g_spec_l5Pick Go.Proofs.Try.f123
theorem e_spec_l5Pick : enterG P (G 123) 123 = some (c_spec_l5Pick, 67, #[.tmp 8]) := by kernel_rfl
noncomputable def c_spec_l5Choose : Code := Go.Proofs.Try.f111.body.getD .skip
abbrev n_spec_l5Choose : FuncId := 111
theorem g_spec_l5Choose : G 111 = ⟨[(5, [0, 2, 3, 9, 10, 11, 12]), (9, [0, 3, 9, 10, 11, 13])], [], []⟩ := rfl
attribute [simp] c_spec_l5Choose g_spec_l5Choose Go.Proofs.Try.f111
theorem e_spec_l5Choose : enterG P (G 111) 111 = some (c_spec_l5Choose, 91, #[.tmp 8]) := by kernel_rfl
noncomputable def c_spec_l5Bound : Code := Go.Proofs.Try.f79.body.getD .skip
abbrev n_spec_l5Bound : FuncId := 79
theorem g_spec_l5Bound : G 79 = ⟨[(4, [0, 1, 2, 7, 8, 9, 10]), (12, [0, 2, 9, 12, 13])], [(7, 12), (14, 11)], []⟩ := rfl
attribute [simp] c_spec_l5Bound g_spec_l5Bound Go.Proofs.Try.f79
theorem e_spec_l5Bound : enterG P (G 79) 79 = some (c_spec_l5Bound, 76, #[.tmp 6]) := by kernel_rfl
noncomputable def c_spec_l5Find : Code := Go.Proofs.Try.f43.body.getD .skip
abbrev n_spec_l5Find : FuncId := 43
theorem g_spec_l5Find : G 43 = ⟨[(5, [0, 1, 2, 3, 4, 11, 12])], [], []⟩ := rfl
attribute [simp] c_spec_l5Find g_spec_l5Find Go.Proofs.Try.f43
theorem e_spec_l5Find : enterG P (G 43) 43 = some (c_spec_l5Find, 55, #[.tmp 10]) := by kernel_rfl
noncomputable def c_spec_FindCases : Code := Go.Proofs.Try.f14.body.getD .skip
abbrev n_spec_FindCases : FuncId := 14
theorem g_spec_FindCases : G 14 = ⟨[], [], []⟩ := rfl
attribute [simp] c_spec_FindCases g_spec_FindCases Go.Proofs.Try.f14
theorem e_spec_FindCases : enterG P (G 14) 14 = some (c_spec_FindCases, 30, #[.tmp 4, .tmp 5]) := by kernel_rfl
noncomputable def c_impl_isSplitObjective : Code := Go.Proofs.Try.f46.body.getD .skip
abbrev n_impl_isSplitObjective : FuncId := 46
theorem g_impl_isSplitObjective : G 46 = ⟨[], [], []⟩ := rfl
attribute [simp] c_impl_isSplitObjective g_impl_isSplitObjective Go.Proofs.Try.f46
theorem e_impl_isSplitObjective : enterG P (G 46) 46 = some (c_impl_isSplitObjective, 9, #[.tmp 2]) := by kernel_rfl
noncomputable def c_impl_choose : Code := Go.Proofs.Try.f112.body.getD .skip
abbrev n_impl_choose : FuncId := 112
theorem g_impl_choose : G 112 = ⟨[(5, [0, 1, 2, 8, 9, 10, 11, 27, 28, 29]), (12, [0, 2, 8, 9, 10, 11, 48, 49, 50]), (18, [0, 2, 8, 9, 10, 11, 16]), (22, [0, 2, 8, 9, 10, 11, 16, 17, 76, 77, 78])], [(14, 12), (25, 28)], []⟩ := rfl
attribute [simp] c_impl_choose g_impl_choose Go.Proofs.Try.f112
theorem e_impl_choose : enterG P (G 112) 112 = some (c_impl_choose, 183, #[.tmp 6, .tmp 7]) := by kernel_rfl
noncomputable def c_impl_prefixBound : Code := Go.Proofs.Try.f83.body.getD .skip
abbrev n_impl_prefixBound : FuncId := 83
theorem g_impl_prefixBound : G 83 = ⟨[], [], []⟩ := rfl
attribute [simp] c_impl_prefixBound g_impl_prefixBound Go.Proofs.Try.f83
theorem e_impl_prefixBound : enterG P (G 83) 83 = some (c_impl_prefixBound, 20, #[.tmp 6]) := by kernel_rfl
noncomputable def c_impl_others : Code := Go.Proofs.Try.f84.body.getD .skip
abbrev n_impl_others : FuncId := 84
theorem g_impl_others : G 84 = ⟨[(3, [0, 1, 5, 6])], [], []⟩ := rfl
attribute [simp] c_impl_others g_impl_others Go.Proofs.Try.f84
theorem e_impl_others : enterG P (G 84) 84 = some (c_impl_others, 21, #[.tmp 4]) := by kernel_rfl
noncomputable def c_impl_findCases : Code := Go.Proofs.Try.f48.body.getD .skip
abbrev n_impl_findCases : FuncId := 48
theorem g_impl_findCases : G 48 = ⟨[(5, [0, 1, 2, 3, 4, 31, 32, 33])], [], []⟩ := rfl
attribute [simp] c_impl_findCases g_impl_findCases Go.Proofs.Try.f48
theorem e_impl_findCases : enterG P (G 48) 48 = some (c_impl_findCases, 54, #[.tmp 10, .tmp 11]) := by kernel_rfl
noncomputable def c_impl_FindCases : Code := Go.Proofs.Try.f16.body.getD .skip
abbrev n_impl_FindCases : FuncId := 16
theorem g_impl_FindCases : G 16 = ⟨[], [], []⟩ := rfl
attribute [simp] c_impl_FindCases g_impl_FindCases Go.Proofs.Try.f16
theorem e_impl_FindCases : enterG P (G 16) 16 = some (c_impl_FindCases, 36, #[.tmp 4, .tmp 5]) := by kernel_rfl
noncomputable def c_laws_eqIntSS : Code := Go.Proofs.Try.f17.body.getD .skip
abbrev n_laws_eqIntSS : FuncId := 17
theorem g_laws_eqIntSS : G 17 = ⟨[(4, [0, 1, 5])], [(6, 8)], []⟩ := rfl
attribute [simp] c_laws_eqIntSS g_laws_eqIntSS Go.Proofs.Try.f17
theorem e_laws_eqIntSS : enterG P (G 17) 17 = some (c_laws_eqIntSS, 27, #[.tmp 4]) := by kernel_rfl
noncomputable def c_laws_markJobS : Code := Go.Proofs.Try.f19.body.getD .skip
abbrev n_laws_markJobS : FuncId := 19
theorem g_laws_markJobS : G 19 = ⟨[(2, [0, 1, 5])], [], []⟩ := rfl
attribute [simp] c_laws_markJobS g_laws_markJobS Go.Proofs.Try.f19
theorem e_laws_markJobS : enterG P (G 19) 19 = some (c_laws_markJobS, 41, #[.tmp 4]) := by kernel_rfl
noncomputable def c_laws_markIntS : Code := Go.Proofs.Try.f28.body.getD .skip
abbrev n_laws_markIntS : FuncId := 28
theorem g_laws_markIntS : G 28 = ⟨[(2, [0, 1, 5])], [], []⟩ := rfl
attribute [simp] c_laws_markIntS g_laws_markIntS Go.Proofs.Try.f28
theorem e_laws_markIntS : enterG P (G 28) 28 = some (c_laws_markIntS, 19, #[.tmp 4]) := by kernel_rfl
noncomputable def c_laws_markIntSS : Code := Go.Proofs.Try.f20.body.getD .skip
abbrev n_laws_markIntSS : FuncId := 20
theorem g_laws_markIntSS : G 20 = ⟨[(2, [0, 1, 5])], [], []⟩ := rfl
attribute [simp] c_laws_markIntSS g_laws_markIntSS Go.Proofs.Try.f20
theorem e_laws_markIntSS : enterG P (G 20) 20 = some (c_laws_markIntSS, 19, #[.tmp 4]) := by kernel_rfl
noncomputable def c_laws_heldIntS : Code := Go.Proofs.Try.f29.body.getD .skip
abbrev n_laws_heldIntS : FuncId := 29
theorem g_laws_heldIntS : G 29 = ⟨[(2, [0, 1, 5])], [], []⟩ := rfl
attribute [simp] c_laws_heldIntS g_laws_heldIntS Go.Proofs.Try.f29
theorem e_laws_heldIntS : enterG P (G 29) 29 = some (c_laws_heldIntS, 21, #[.tmp 4]) := by kernel_rfl
noncomputable def c_laws_heldIntSS : Code := Go.Proofs.Try.f21.body.getD .skip
abbrev n_laws_heldIntSS : FuncId := 21
theorem g_laws_heldIntSS : G 21 = ⟨[(2, [0, 1, 5])], [], []⟩ := rfl
attribute [simp] c_laws_heldIntSS g_laws_heldIntSS Go.Proofs.Try.f21
theorem e_laws_heldIntSS : enterG P (G 21) 21 = some (c_laws_heldIntSS, 21, #[.tmp 4]) := by kernel_rfl
noncomputable def c_laws_FnExactFindCases : Code := Go.Proofs.Try.f4.body.getD .skip
abbrev n_laws_FnExactFindCases : FuncId := 4
theorem g_laws_FnExactFindCases : G 4 = ⟨[], [], []⟩ := rfl
attribute [simp] c_laws_FnExactFindCases g_laws_FnExactFindCases Go.Proofs.Try.f4
theorem e_laws_FnExactFindCases : enterG P (G 4) 4 = some (c_laws_FnExactFindCases, 101, #[.tmp 4]) := by kernel_rfl
noncomputable def c_laws_szIntA2S : Code := Go.Proofs.Try.f22.body.getD .skip
abbrev n_laws_szIntA2S : FuncId := 22
theorem g_laws_szIntA2S : G 22 = ⟨[], [], []⟩ := rfl
attribute [simp] c_laws_szIntA2S g_laws_szIntA2S Go.Proofs.Try.f22
theorem e_laws_szIntA2S : enterG P (G 22) 22 = some (c_laws_szIntA2S, 12, #[.tmp 4]) := by kernel_rfl
noncomputable def c_laws_toIntA2 : Code := Go.Proofs.Try.f56.body.getD .skip
abbrev n_laws_toIntA2 : FuncId := 56
theorem g_laws_toIntA2 : G 56 = ⟨[(3, [1, 2, 3, 4])], [], []⟩ := rfl
attribute [simp] c_laws_toIntA2 g_laws_toIntA2 Go.Proofs.Try.f56
theorem e_laws_toIntA2 : enterG P (G 56) 56 = some (c_laws_toIntA2, 15, #[.cell 2 84]) := by kernel_rfl
noncomputable def c_laws_toIntA2S : Code := Go.Proofs.Try.f24.body.getD .skip
abbrev n_laws_toIntA2S : FuncId := 24
theorem g_laws_toIntA2S : G 24 = ⟨[(3, [0, 3, 4])], [], []⟩ := rfl
attribute [simp] c_laws_toIntA2S g_laws_toIntA2S Go.Proofs.Try.f24
theorem e_laws_toIntA2S : enterG P (G 24) 24 = some (c_laws_toIntA2S, 23, #[.tmp 2]) := by kernel_rfl
noncomputable def c_spec_l4Before : Code := Go.Proofs.Try.f124.body.getD .skip
abbrev n_spec_l4Before : FuncId := 124
theorem g_spec_l4Before : G 124 = ⟨[], [], []⟩ := rfl
attribute [simp] c_spec_l4Before g_spec_l4Before Go.Proofs.Try.f124
theorem e_spec_l4Before : enterG P (G 124) 124 = some (c_spec_l4Before, 24, #[.tmp 4]) := by kernel_rfl
noncomputable def c_spec_l4Pairs : Code := Go.Proofs.Try.f113.body.getD .skip
abbrev n_spec_l4Pairs : FuncId := 113
theorem g_spec_l4Pairs : G 113 = ⟨[(2, [0, 1, 5])], [(4, 46)], []⟩ := rfl
attribute [simp] c_spec_l4Pairs g_spec_l4Pairs Go.Proofs.Try.f113
theorem e_spec_l4Pairs : enterG P (G 113) 113 = some (c_spec_l4Pairs, 69, #[.tmp 4]) := by kernel_rfl
noncomputable def c_spec_l4Table : Code := Go.Proofs.Try.f53.body.getD .skip
abbrev n_spec_l4Table : FuncId := 53
theorem g_spec_l4Table : G 53 = ⟨[(3, [0, 1, 5, 6]), (7, [0, 1, 5, 7]), (11, [0, 5, 8]), (14, [0, 5, 8, 9]), (17, [0, 5, 8, 9, 10])], [(9, 13)], []⟩ := rfl
attribute [simp] c_spec_l4Table g_spec_l4Table Go.Proofs.Try.f53
theorem e_spec_l4Table : enterG P (G 53) 53 = some (c_spec_l4Table, 80, #[.tmp 4]) := by kernel_rfl
noncomputable def c_spec_l4Good : Code := Go.Proofs.Try.f85.body.getD .skip
abbrev n_spec_l4Good : FuncId := 85
theorem g_spec_l4Good : G 85 = ⟨[(5, [0, 5, 6])], [], []⟩ := rfl
attribute [simp] c_spec_l4Good g_spec_l4Good Go.Proofs.Try.f85
theorem e_spec_l4Good : enterG P (G 85) 85 = some (c_spec_l4Good, 26, #[.tmp 4]) := by kernel_rfl
noncomputable def c_spec_l4Two : Code := Go.Proofs.Try.f50.body.getD .skip
abbrev n_spec_l4Two : FuncId := 50
theorem g_spec_l4Two : G 50 = ⟨[], [], []⟩ := rfl
attribute [simp] c_spec_l4Two g_spec_l4Two Go.Proofs.Try.f50
theorem e_spec_l4Two : enterG P (G 50) 50 = some (c_spec_l4Two, 13, #[.tmp 4]) := by kernel_rfl
noncomputable def c_spec_l4Free : Code := Go.Proofs.Try.f51.body.getD .skip
abbrev n_spec_l4Free : FuncId := 51
theorem g_spec_l4Free : G 51 = ⟨[(2, [0, 3])], [], []⟩ := rfl
attribute [simp] c_spec_l4Free g_spec_l4Free Go.Proofs.Try.f51
theorem e_spec_l4Free : enterG P (G 51) 51 = some (c_spec_l4Free, 16, #[.tmp 2]) := by kernel_rfl
noncomputable def c_spec_l4Apart : Code := Go.Proofs.Try.f86.body.getD .skip
abbrev n_spec_l4Apart : FuncId := 86
theorem g_spec_l4Apart : G 86 = ⟨[], [], []⟩ := rfl
attribute [simp] c_spec_l4Apart g_spec_l4Apart Go.Proofs.Try.f86
theorem e_spec_l4Apart : enterG P (G 86) 86 = some (c_spec_l4Apart, 30, #[.tmp 6]) := by kernel_rfl
noncomputable def c_spec_l4Parallel : Code := Go.Proofs.Try.f52.body.getD .skip
abbrev n_spec_l4Parallel : FuncId := 52
theorem g_spec_l4Parallel : G 52 = ⟨[(3, [0, 3, 4])], [(5, 25)], []⟩ := rfl
attribute [simp] c_spec_l4Parallel g_spec_l4Parallel Go.Proofs.Try.f52
theorem e_spec_l4Parallel : enterG P (G 52) 52 = some (c_spec_l4Parallel, 87, #[.tmp 2]) := by kernel_rfl
noncomputable def c_spec_l4Set : Code := Go.Proofs.Try.f55.body.getD .skip
abbrev n_spec_l4Set : FuncId := 55
theorem g_spec_l4Set : G 55 = ⟨[(3, [0, 1, 5, 6])], [], []⟩ := rfl
attribute [simp] c_spec_l4Set g_spec_l4Set Go.Proofs.Try.f55
theorem e_spec_l4Set : enterG P (G 55) 55 = some (c_spec_l4Set, 23, #[.tmp 4]) := by kernel_rfl
noncomputable def c_spec_l1Put : Code := Go.Proofs.Try.f125.body.getD .skip
abbrev n_spec_l1Put : FuncId := 125
theorem g_spec_l1Put : G 125 = ⟨[(2, [0, 1, 5])], [(6, 11)], []⟩ := rfl
attribute [simp] c_spec_l1Put g_spec_l1Put Go.Proofs.Try.f125
theorem e_spec_l1Put : enterG P (G 125) 125 = some (c_spec_l1Put, 45, #[.tmp 4]) := by kernel_rfl
noncomputable def c_spec_l4Joined : Code := Go.Proofs.Try.f114.body.getD .skip
abbrev n_spec_l4Joined : FuncId := 114
theorem g_spec_l4Joined : G 114 = ⟨[(3, [0, 1, 2, 7, 8]), (6, [0, 1, 2, 7, 8, 9]), (9, [0, 1, 2, 7, 8, 9, 10])], [(11, 21)], []⟩ := rfl
attribute [simp] c_spec_l4Joined g_spec_l4Joined Go.Proofs.Try.f114
theorem e_spec_l4Joined : enterG P (G 114) 114 = some (c_spec_l4Joined, 72, #[.tmp 6]) := by kernel_rfl
noncomputable def c_spec_l4Rest : Code := Go.Proofs.Try.f115.body.getD .skip
abbrev n_spec_l4Rest : FuncId := 115
theorem g_spec_l4Rest : G 115 = ⟨[(3, [0, 1, 5, 6])], [], []⟩ := rfl
attribute [simp] c_spec_l4Rest g_spec_l4Rest Go.Proofs.Try.f115
theorem e_spec_l4Rest : enterG P (G 115) 115 = some (c_spec_l4Rest, 29, #[.tmp 4]) := by kernel_rfl
noncomputable def c_spec_l4Parts : Code := Go.Proofs.Try.f87.body.getD .skip
abbrev n_spec_l4Parts : FuncId := 87
theorem g_spec_l4Parts : G 87 = ⟨[(2, [0, 1, 2, 7]), (5, [0, 1, 2, 7, 8, 9])], [(5, 19), (7, 11)], []⟩ := rfl
attribute [simp] c_spec_l4Parts g_spec_l4Parts Go.Proofs.Try.f87
theorem e_spec_l4Parts : enterG P (G 87) 87 = some (c_spec_l4Parts, 60, #[.tmp 6]) := by kernel_rfl
noncomputable def c_spec_l4Sums : Code := Go.Proofs.Try.f117.body.getD .skip
abbrev n_spec_l4Sums : FuncId := 117
theorem g_spec_l4Sums : G 117 = ⟨[(3, [0, 1, 4, 5, 6])], [(5, 22)], []⟩ := rfl
attribute [simp] c_spec_l4Sums g_spec_l4Sums Go.Proofs.Try.f117
theorem e_spec_l4Sums : enterG P (G 117) 117 = some (c_spec_l4Sums, 38, #[.cell 4 84]) := by kernel_rfl
noncomputable def c_spec_l4Ratio : Code := Go.Proofs.Try.f116.body.getD .skip
abbrev n_spec_l4Ratio : FuncId := 116
theorem g_spec_l4Ratio : G 116 = ⟨[], [], []⟩ := rfl
attribute [simp] c_spec_l4Ratio g_spec_l4Ratio Go.Proofs.Try.f116
theorem e_spec_l4Ratio : enterG P (G 116) 116 = some (c_spec_l4Ratio, 16, #[.tmp 4]) := by kernel_rfl
noncomputable def c_spec_l4Merged : Code := Go.Proofs.Try.f88.body.getD .skip
abbrev n_spec_l4Merged : FuncId := 88
theorem g_spec_l4Merged : G 88 = ⟨[(2, [0, 1, 2, 7, 8, 9])], [(3, 21)], []⟩ := rfl
attribute [simp] c_spec_l4Merged g_spec_l4Merged Go.Proofs.Try.f88
theorem e_spec_l4Merged : enterG P (G 88) 88 = some (c_spec_l4Merged, 66, #[.tmp 6]) := by kernel_rfl
noncomputable def c_spec_l4Pooled : Code := Go.Proofs.Try.f89.body.getD .skip
abbrev n_spec_l4Pooled : FuncId := 89
theorem g_spec_l4Pooled : G 89 = ⟨[(2, [0, 1, 5])], [(4, 12), (5, 10), (6, 13)], []⟩ := rfl
attribute [simp] c_spec_l4Pooled g_spec_l4Pooled Go.Proofs.Try.f89
theorem e_spec_l4Pooled : enterG P (G 89) 89 = some (c_spec_l4Pooled, 56, #[.tmp 4]) := by kernel_rfl
noncomputable def c_spec_l4Strings : Code := Go.Proofs.Try.f54.body.getD .skip
abbrev n_spec_l4Strings : FuncId := 54
theorem g_spec_l4Strings : G 54 = ⟨[(9, [0, 1, 7, 8, 9, 10])], [], []⟩ := rfl
attribute [simp] c_spec_l4Strings g_spec_l4Strings Go.Proofs.Try.f54
theorem e_spec_l4Strings : enterG P (G 54) 54 = some (c_spec_l4Strings, 53, #[.tmp 6]) := by kernel_rfl
noncomputable def c_spec_SeriesOrder : Code := Go.Proofs.Try.f23.body.getD .skip
abbrev n_spec_SeriesOrder : FuncId := 23
theorem g_spec_SeriesOrder : G 23 = ⟨[(6, [6, 7, 8])], [(4, 12)], []⟩ := rfl
attribute [simp] c_spec_SeriesOrder g_spec_SeriesOrder Go.Proofs.Try.f23
theorem e_spec_SeriesOrder : enterG P (G 23) 23 = some (c_spec_SeriesOrder, 54, #[.tmp 4, .tmp 5]) := by kernel_rfl
noncomputable def c_impl_closure : Code := Go.Proofs.Try.f59.body.getD .skip
abbrev n_impl_closure : FuncId := 59
theorem g_impl_closure : G 59 = ⟨[(3, [0, 1, 5, 15, 16]), (8, [0, 5, 25, 26, 27]), (13, [0, 5, 9]), (16, [0, 5, 9, 10]), (19, [0, 5, 9, 10, 11])], [(10, 7), (21, 30)], []⟩ := rfl
attribute [simp] c_impl_closure g_impl_closure Go.Proofs.Try.f59
theorem e_impl_closure : enterG P (G 59) 59 = some (c_impl_closure, 87, #[.tmp 4]) := by kernel_rfl
noncomputable def c_impl_IsPrecedence : Code := Go.Proofs.Try.f90.body.getD .skip
abbrev n_impl_IsPrecedence : FuncId := 90
theorem g_impl_IsPrecedence : G 90 = ⟨[(4, [0, 1, 17, 18, 19]), (13, [7, 83, 84])], [(8, 31)], []⟩ := rfl
attribute [simp] c_impl_IsPrecedence g_impl_IsPrecedence Go.Proofs.Try.f90
theorem e_impl_IsPrecedence : enterG P (G 90) 90 = some (c_impl_IsPrecedence, 95, #[.tmp 4]) := by kernel_rfl
noncomputable def c_impl_isPreceded : Code := Go.Proofs.Try.f57.body.getD .skip
abbrev n_impl_isPreceded : FuncId := 57
theorem g_impl_isPreceded : G 57 = ⟨[], [], []⟩ := rfl
attribute [simp] c_impl_isPreceded g_impl_isPreceded Go.Proofs.Try.f57
theorem e_impl_isPreceded : enterG P (G 57) 57 = some (c_impl_isPreceded, 13, #[.tmp 4]) := by kernel_rfl
noncomputable def c_impl_isPlain : Code := Go.Proofs.Try.f58.body.getD .skip
abbrev n_impl_isPlain : FuncId := 58
theorem g_impl_isPlain : G 58 = ⟨[(2, [5, 6, 7])], [], []⟩ := rfl
attribute [simp] c_impl_isPlain g_impl_isPlain Go.Proofs.Try.f58
theorem e_impl_isPlain : enterG P (G 58) 58 = some (c_impl_isPlain, 15, #[.tmp 2]) := by kernel_rfl
noncomputable def c_impl_isSeriesParallel_1 : Code := Go.Proofs.Try.f91.body.getD .skip
abbrev n_impl_isSeriesParallel_1 : FuncId := 91
theorem g_impl_isSeriesParallel_1 : G 91 = ⟨[], [], []⟩ := rfl
attribute [simp] c_impl_isSeriesParallel_1 g_impl_isSeriesParallel_1 Go.Proofs.Try.f91
theorem e_impl_isSeriesParallel_1 : enterG P (G 91) 91 = some (c_impl_isSeriesParallel_1, 29, #[.tmp 5]) := by kernel_rfl
noncomputable def c_impl_isSeriesParallel : Code := Go.Proofs.Try.f60.body.getD .skip
abbrev n_impl_isSeriesParallel : FuncId := 60
theorem g_impl_isSeriesParallel : G 60 = ⟨[(4, [1, 3, 4, 5]), (7, [1, 3, 4, 5, 6]), (10, [1, 3, 4, 5, 6, 7]), (13, [1, 3, 4, 5, 6, 7, 8])], [], []⟩ := rfl
attribute [simp] c_impl_isSeriesParallel g_impl_isSeriesParallel Go.Proofs.Try.f60
theorem e_impl_isSeriesParallel : enterG P (G 60) 60 = some (c_impl_isSeriesParallel, 75, #[.tmp 2]) := by kernel_rfl
noncomputable def c_impl_stringsOf_1 : Code := Go.Proofs.Try.f92.body.getD .skip
abbrev n_impl_stringsOf_1 : FuncId := 92
theorem g_impl_stringsOf_1 : G 92 = ⟨[], [], []⟩ := rfl
attribute [simp] c_impl_stringsOf_1 g_impl_stringsOf_1 Go.Proofs.Try.f92
theorem e_impl_stringsOf_1 : enterG P (G 92) 92 = some (c_impl_stringsOf_1, 22, #[.tmp 5]) := by kernel_rfl
noncomputable def c_impl_sortedBy : Code := Go.Proofs.Try.f97.body.getD .skip
abbrev n_impl_sortedBy : FuncId := 97
theorem g_impl_sortedBy : G 97 = ⟨[(3, [1, 5, 9, 10, 11]), (6, [1, 5, 7, 8, 9, 10, 11])], [(9, 7)], []⟩ := rfl
attribute [simp] c_impl_sortedBy g_impl_sortedBy Go.Proofs.Try.f97
theorem e_impl_sortedBy : enterG P (G 97) 97 = some (c_impl_sortedBy, 48, #[.tmp 4]) := by kernel_rfl
noncomputable def c_impl_ascending_1 : Code := Go.Proofs.Try.f126.body.getD .skip
abbrev n_impl_ascending_1 : FuncId := 126
theorem g_impl_ascending_1 : G 126 = ⟨[], [], []⟩ := rfl
attribute [simp] c_impl_ascending_1 g_impl_ascending_1 Go.Proofs.Try.f126
theorem e_impl_ascending_1 : enterG P (G 126) 126 = some (c_impl_ascending_1, 8, #[.tmp 4]) := by kernel_rfl
noncomputable def c_impl_ascending : Code := Go.Proofs.Try.f118.body.getD .skip
abbrev n_impl_ascending : FuncId := 118
theorem g_impl_ascending : G 118 = ⟨[], [], []⟩ := rfl
attribute [simp] c_impl_ascending g_impl_ascending Go.Proofs.Try.f118
theorem e_impl_ascending : enterG P (G 118) 118 = some (c_impl_ascending, 5, #[.tmp 2]) := by kernel_rfl
noncomputable def c_impl_fallApart : Code := Go.Proofs.Try.f93.body.getD .skip
abbrev n_impl_fallApart : FuncId := 93
theorem g_impl_fallApart : G 93 = ⟨[(4, [0, 1, 5, 6, 13, 14, 15]), (9, [0, 1, 5, 6, 9, 10, 13, 14, 15]), (12, [0, 1, 5, 6, 9, 10, 13, 14, 15, 30, 31, 32])], [], []⟩ := rfl
attribute [simp] c_impl_fallApart g_impl_fallApart Go.Proofs.Try.f93
theorem e_impl_fallApart : enterG P (G 93) 93 = some (c_impl_fallApart, 64, #[.tmp 4]) := by kernel_rfl
noncomputable def c_impl_ratioOf : Code := Go.Proofs.Try.f95.body.getD .skip
abbrev n_impl_ratioOf : FuncId := 95
theorem g_impl_ratioOf : G 95 = ⟨[(3, [0, 4, 5, 8, 9, 10])], [(5, 7), (6, 7)], []⟩ := rfl
attribute [simp] c_impl_ratioOf g_impl_ratioOf Go.Proofs.Try.f95
theorem e_impl_ratioOf : enterG P (G 95) 95 = some (c_impl_ratioOf, 34, #[.cell 4 84]) := by kernel_rfl
noncomputable def c_impl_compareRatios : Code := Go.Proofs.Try.f94.body.getD .skip
abbrev n_impl_compareRatios : FuncId := 94
theorem g_impl_compareRatios : G 94 = ⟨[], [], []⟩ := rfl
attribute [simp] c_impl_compareRatios g_impl_compareRatios Go.Proofs.Try.f94
theorem e_impl_compareRatios : enterG P (G 94) 94 = some (c_impl_compareRatios, 16, #[.tmp 4]) := by kernel_rfl
noncomputable def c_impl_stringsOf_2 : Code := Go.Proofs.Try.f96.body.getD .skip
abbrev n_impl_stringsOf_2 : FuncId := 96
theorem g_impl_stringsOf_2 : G 96 = ⟨[], [], []⟩ := rfl
attribute [simp] c_impl_stringsOf_2 g_impl_stringsOf_2 Go.Proofs.Try.f96
theorem e_impl_stringsOf_2 : enterG P (G 96) 96 = some (c_impl_stringsOf_2, 16, #[.tmp 5]) := by kernel_rfl
noncomputable def c_impl_stringsOf_3 : Code := Go.Proofs.Try.f98.body.getD .skip
abbrev n_impl_stringsOf_3 : FuncId := 98
theorem g_impl_stringsOf_3 : G 98 = ⟨[], [(1, 15)], []⟩ := rfl
attribute [simp] c_impl_stringsOf_3 g_impl_stringsOf_3 Go.Proofs.Try.f98
theorem e_impl_stringsOf_3 : enterG P (G 98) 98 = some (c_impl_stringsOf_3, 24, #[.tmp 6]) := by kernel_rfl
noncomputable def c_impl_stringsOf : Code := Go.Proofs.Try.f61.body.getD .skip
abbrev n_impl_stringsOf : FuncId := 61
theorem g_impl_stringsOf : G 61 = ⟨[(8, [0, 4, 9, 34, 35, 36]), (11, [0, 4, 9, 34, 35, 36, 43, 44, 45]), (14, [0, 4, 9, 13, 14, 34, 35, 36, 43, 44, 45]), (26, [0, 4, 15, 17, 95, 96, 97]), (31, [0, 17, 20])], [(17, 7), (28, 8), (32, 12)], [(36, 13, [(11, 5)])]⟩ := rfl
attribute [simp] c_impl_stringsOf g_impl_stringsOf Go.Proofs.Try.f61
theorem e_impl_stringsOf : enterG P (G 61) 61 = some (c_impl_stringsOf, 159, #[.tmp 6]) := by kernel_rfl
noncomputable def c_impl_SeriesOrder : Code := Go.Proofs.Try.f25.body.getD .skip
abbrev n_impl_SeriesOrder : FuncId := 25
theorem g_impl_SeriesOrder : G 25 = ⟨[(10, [7, 34, 35, 36])], [], []⟩ := rfl
attribute [simp] c_impl_SeriesOrder g_impl_SeriesOrder Go.Proofs.Try.f25
theorem e_impl_SeriesOrder : enterG P (G 25) 25 = some (c_impl_SeriesOrder, 45, #[.tmp 4, .tmp 5]) := by kernel_rfl
noncomputable def c_laws_eqIntA2 : Code := Go.Proofs.Try.f63.body.getD .skip
abbrev n_laws_eqIntA2 : FuncId := 63
theorem g_laws_eqIntA2 : G 63 = ⟨[(2, [2, 3, 5])], [(4, 6)], []⟩ := rfl
attribute [simp] c_laws_eqIntA2 g_laws_eqIntA2 Go.Proofs.Try.f63
theorem e_laws_eqIntA2 : enterG P (G 63) 63 = some (c_laws_eqIntA2, 17, #[.tmp 4]) := by kernel_rfl
noncomputable def c_laws_eqIntA2S : Code := Go.Proofs.Try.f26.body.getD .skip
abbrev n_laws_eqIntA2S : FuncId := 26
theorem g_laws_eqIntA2S : G 26 = ⟨[(4, [0, 1, 5])], [(6, 8)], []⟩ := rfl
attribute [simp] c_laws_eqIntA2S g_laws_eqIntA2S Go.Proofs.Try.f26
theorem e_laws_eqIntA2S : enterG P (G 26) 26 = some (c_laws_eqIntA2S, 27, #[.tmp 4]) := by kernel_rfl
noncomputable def c_laws_markIntA2S : Code := Go.Proofs.Try.f27.body.getD .skip
abbrev n_laws_markIntA2S : FuncId := 27
theorem g_laws_markIntA2S : G 27 = ⟨[(2, [0, 1, 5]), (5, [0, 1, 5, 6])], [], []⟩ := rfl
attribute [simp] c_laws_markIntA2S g_laws_markIntA2S Go.Proofs.Try.f27
theorem e_laws_markIntA2S : enterG P (G 27) 27 = some (c_laws_markIntA2S, 26, #[.tmp 4]) := by kernel_rfl
noncomputable def c_laws_FnExactSeriesOrder : Code := Go.Proofs.Try.f5.body.getD .skip
abbrev n_laws_FnExactSeriesOrder : FuncId := 5
theorem g_laws_FnExactSeriesOrder : G 5 = ⟨[], [], []⟩ := rfl
attribute [simp] c_laws_FnExactSeriesOrder g_laws_FnExactSeriesOrder Go.Proofs.Try.f5
theorem e_laws_FnExactSeriesOrder : enterG P (G 5) 5 = some (c_laws_FnExactSeriesOrder, 119, #[.tmp 4]) := by kernel_rfl
end Go.Pm.PP
