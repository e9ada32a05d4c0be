/- What is told of the functions that the laws reach: printed by a program of this work. -/
import Derived.Test.YtjjjalkfpajckaaProg
import Derived.KernelRfl
import Derived.Test.YtjjjalkfpajckaaM4

set_option linter.unusedVariables false
set_option linter.unusedSimpArgs false
namespace Go.Pm.PP
open Go.Pm
noncomputable abbrev P : Program := Go.Proofs.Try.prog
abbrev t_int : TypeId := 3
theorem u_int : P.underlying 3 = some (.int .i64) := by kernel_rfl
theorem a_int : (P.underlying 3).map aggD = some false := by kernel_rfl
theorem i_int : (P.info? 3).map (·.size) = some 1 := by kernel_rfl
noncomputable def ti_3 : TypeInfo := (P.info? 3).getD default
@[simp] theorem ti_3_eq : P.info? 3 = some ti_3 := by kernel_rfl
@[simp] theorem ti_3_size : ti_3.size = 1 := by kernel_rfl
@[simp] theorem ti_3_bytes : ti_3.bytes = 8 := by kernel_rfl
@[simp] theorem ti_3_zero : ti_3.zero = some (.int .i64 0) := by kernel_rfl
theorem e_t_int : P.info? 3 = some ti_3 := ti_3_eq
theorem s_t_int : ti_3.size = 1 := ti_3_size
theorem b_t_int : ti_3.bytes = 8 := ti_3_bytes
theorem z_t_int : zeroP P 3 = some (.int .i64 0) := zero_some ti_3_eq ti_3_zero rfl (by rw [ti_3_size]; rfl)
noncomputable def ti_4 : TypeInfo := (P.info? 4).getD default
@[simp] theorem ti_4_eq : P.info? 4 = some ti_4 := by kernel_rfl
@[simp] theorem ti_4_size : ti_4.size = 1 := by kernel_rfl
@[simp] theorem ti_4_bytes : ti_4.bytes = 1 := by kernel_rfl
@[simp] theorem ti_4_zero : ti_4.zero = some (.bool false) := by kernel_rfl
abbrev t_u8 : TypeId := 5
theorem u_u8 : P.underlying 5 = some (.int .u8) := by kernel_rfl
theorem a_u8 : (P.underlying 5).map aggD = some false := by kernel_rfl
theorem i_u8 : (P.info? 5).map (·.size) = some 1 := by kernel_rfl
noncomputable def ti_5 : TypeInfo := (P.info? 5).getD default
@[simp] theorem ti_5_eq : P.info? 5 = some ti_5 := by kernel_rfl
@[simp] theorem ti_5_size : ti_5.size = 1 := by kernel_rfl
@[simp] theorem ti_5_bytes : ti_5.bytes = 1 := by kernel_rfl
@[simp] theorem ti_5_zero : ti_5.zero = some (.int .u8 0) := by kernel_rfl
theorem e_t_u8 : P.info? 5 = some ti_5 := ti_5_eq
theorem s_t_u8 : ti_5.size = 1 := ti_5_size
theorem b_t_u8 : ti_5.bytes = 1 := ti_5_bytes
theorem z_t_u8 : zeroP P 5 = some (.int .u8 0) := zero_some ti_5_eq ti_5_zero rfl (by rw [ti_5_size]; rfl)
abbrev t_S_u8 : TypeId := 22
theorem u_S_u8 : P.underlying 22 = some (.slice 5) := by kernel_rfl
noncomputable def ti_22 : TypeInfo := (P.info? 22).getD default
@[simp] theorem ti_22_eq : P.info? 22 = some ti_22 := by kernel_rfl
@[simp] theorem ti_22_size : ti_22.size = 1 := by kernel_rfl
@[simp] theorem ti_22_bytes : ti_22.bytes = 24 := by kernel_rfl
@[simp] theorem ti_22_zero : ti_22.zero = some (.slice none 0 0) := by kernel_rfl
abbrev t_S_impl_Job : TypeId := 24
theorem u_S_impl_Job : P.underlying 24 = some (.slice 77) := by kernel_rfl
noncomputable def ti_24 : TypeInfo := (P.info? 24).getD default
@[simp] theorem ti_24_eq : P.info? 24 = some ti_24 := by kernel_rfl
@[simp] theorem ti_24_size : ti_24.size = 1 := by kernel_rfl
@[simp] theorem ti_24_bytes : ti_24.bytes = 24 := by kernel_rfl
@[simp] theorem ti_24_zero : ti_24.zero = some (.slice none 0 0) := by kernel_rfl
abbrev t_S_impl_Span : TypeId := 25
theorem u_S_impl_Span : P.underlying 25 = some (.slice 128) := by kernel_rfl
noncomputable def ti_25 : TypeInfo := (P.info? 25).getD default
@[simp] theorem ti_25_eq : P.info? 25 = some ti_25 := by kernel_rfl
@[simp] theorem ti_25_size : ti_25.size = 1 := by kernel_rfl
@[simp] theorem ti_25_bytes : ti_25.bytes = 24 := by kernel_rfl
@[simp] theorem ti_25_zero : ti_25.zero = some (.slice none 0 0) := by kernel_rfl
abbrev t_S_int : TypeId := 32
theorem u_S_int : P.underlying 32 = some (.slice 3) := by kernel_rfl
theorem a_S_int : (P.underlying 32).map aggD = some false := by kernel_rfl
theorem i_S_int : (P.info? 32).map (·.size) = some 1 := by kernel_rfl
noncomputable def ti_32 : TypeInfo := (P.info? 32).getD default
@[simp] theorem ti_32_eq : P.info? 32 = some ti_32 := by kernel_rfl
@[simp] theorem ti_32_size : ti_32.size = 1 := by kernel_rfl
@[simp] theorem ti_32_bytes : ti_32.bytes = 24 := by kernel_rfl
@[simp] theorem ti_32_zero : ti_32.zero = some (.slice none 0 0) := by kernel_rfl
theorem e_t_S_int : P.info? 32 = some ti_32 := ti_32_eq
theorem s_t_S_int : ti_32.size = 1 := ti_32_size
theorem b_t_S_int : ti_32.bytes = 24 := ti_32_bytes
theorem z_t_S_int : zeroP P 32 = some (.slice none 0 0) := zero_some ti_32_eq ti_32_zero rfl (by rw [ti_32_size]; rfl)
abbrev t_S_S_int : TypeId := 46
theorem u_S_S_int : P.underlying 46 = some (.slice 32) := by kernel_rfl
noncomputable def ti_46 : TypeInfo := (P.info? 46).getD default
@[simp] theorem ti_46_eq : P.info? 46 = some ti_46 := by kernel_rfl
@[simp] theorem ti_46_size : ti_46.size = 1 := by kernel_rfl
@[simp] theorem ti_46_bytes : ti_46.bytes = 24 := by kernel_rfl
@[simp] theorem ti_46_zero : ti_46.zero = some (.slice none 0 0) := by kernel_rfl
noncomputable def ti_60 : TypeInfo := (P.info? 60).getD default
@[simp] theorem ti_60_eq : P.info? 60 = some ti_60 := by kernel_rfl
@[simp] theorem ti_60_size : ti_60.size = 1 := by kernel_rfl
@[simp] theorem ti_60_bytes : ti_60.bytes = 24 := by kernel_rfl
@[simp] theorem ti_60_zero : ti_60.zero = some (.slice none 0 0) := by kernel_rfl
noncomputable def ti_70 : TypeInfo := (P.info? 70).getD default
@[simp] theorem ti_70_eq : P.info? 70 = some ti_70 := by kernel_rfl
@[simp] theorem ti_70_size : ti_70.size = 2 := by kernel_rfl
@[simp] theorem ti_70_bytes : ti_70.bytes = 16 := by kernel_rfl
@[simp] theorem ti_70_zero : ti_70.zero = some (.agg #[.int .i64 0, .int .i64 0]) := by kernel_rfl
abbrev t_impl_Job : TypeId := 77
theorem a_impl_Job : (P.underlying 77).map aggD = some true := by kernel_rfl
theorem i_impl_Job : (P.info? 77).map (·.size) = some 4 := by kernel_rfl
noncomputable def ti_77 : TypeInfo := (P.info? 77).getD default
@[simp] theorem ti_77_eq : P.info? 77 = some ti_77 := by kernel_rfl
@[simp] theorem ti_77_size : ti_77.size = 4 := by kernel_rfl
@[simp] theorem ti_77_bytes : ti_77.bytes = 32 := by kernel_rfl
@[simp] theorem ti_77_zero : ti_77.zero = some (.agg #[.int .i64 0, .int .i64 0, .int .i64 0, .int .i64 0]) := by kernel_rfl
theorem e_t_impl_Job : P.info? 77 = some ti_77 := ti_77_eq
theorem s_t_impl_Job : ti_77.size = 4 := ti_77_size
theorem b_t_impl_Job : ti_77.bytes = 32 := ti_77_bytes
theorem z_t_impl_Job : zeroP P 77 = some (.agg #[.int .i64 0, .int .i64 0, .int .i64 0, .int .i64 0]) := zero_some ti_77_eq ti_77_zero rfl (by rw [ti_77_size]; rfl)
noncomputable def ti_93 : TypeInfo := (P.info? 93).getD default
@[simp] theorem ti_93_eq : P.info? 93 = some ti_93 := by kernel_rfl
@[simp] theorem ti_93_size : ti_93.size = 1 := by kernel_rfl
@[simp] theorem ti_93_bytes : ti_93.bytes = 24 := by kernel_rfl
@[simp] theorem ti_93_zero : ti_93.zero = some (.slice none 0 0) := by kernel_rfl
noncomputable def ti_104 : TypeInfo := (P.info? 104).getD default
@[simp] theorem ti_104_eq : P.info? 104 = some ti_104 := by kernel_rfl
@[simp] theorem ti_104_size : ti_104.size = 3 := by kernel_rfl
@[simp] theorem ti_104_bytes : ti_104.bytes = 24 := by kernel_rfl
@[simp] theorem ti_104_zero : ti_104.zero = some (.agg #[.int .i64 0, .int .i64 0, .int .i64 0]) := by kernel_rfl
noncomputable def ti_112 : TypeInfo := (P.info? 112).getD default
@[simp] theorem ti_112_eq : P.info? 112 = some ti_112 := by kernel_rfl
@[simp] theorem ti_112_size : ti_112.size = 1 := by kernel_rfl
@[simp] theorem ti_112_bytes : ti_112.bytes = 8 := by kernel_rfl
@[simp] theorem ti_112_zero : ti_112.zero = some (.pointer none) := by kernel_rfl
abbrev t_u64 : TypeId := 113
theorem u_u64 : P.underlying 113 = some (.int .u64) := by kernel_rfl
noncomputable def ti_113 : TypeInfo := (P.info? 113).getD default
@[simp] theorem ti_113_eq : P.info? 113 = some ti_113 := by kernel_rfl
@[simp] theorem ti_113_size : ti_113.size = 1 := by kernel_rfl
@[simp] theorem ti_113_bytes : ti_113.bytes = 8 := by kernel_rfl
@[simp] theorem ti_113_zero : ti_113.zero = some (.int .u64 0) := by kernel_rfl
theorem e_t_u64 : P.info? 113 = some ti_113 := ti_113_eq
noncomputable def ti_115 : TypeInfo := (P.info? 115).getD default
@[simp] theorem ti_115_eq : P.info? 115 = some ti_115 := by kernel_rfl
@[simp] theorem ti_115_size : ti_115.size = 3 := by kernel_rfl
@[simp] theorem ti_115_bytes : ti_115.bytes = 40 := by kernel_rfl
@[simp] theorem ti_115_zero : ti_115.zero = some (.agg #[.slice none 0 0, .int .i64 0, .int .u64 0]) := by kernel_rfl
noncomputable def ti_121 : TypeInfo := (P.info? 121).getD default
@[simp] theorem ti_121_eq : P.info? 121 = some ti_121 := by kernel_rfl
@[simp] theorem ti_121_size : ti_121.size = 1 := by kernel_rfl
@[simp] theorem ti_121_bytes : ti_121.bytes = 8 := by kernel_rfl
@[simp] theorem ti_121_zero : ti_121.zero = some (.nilFunc) := by kernel_rfl
abbrev t_impl_Span : TypeId := 128
theorem a_impl_Span : (P.underlying 128).map aggD = some true := by kernel_rfl
theorem i_impl_Span : (P.info? 128).map (·.size) = some 3 := by kernel_rfl
noncomputable def ti_128 : TypeInfo := (P.info? 128).getD default
@[simp] theorem ti_128_eq : P.info? 128 = some ti_128 := by kernel_rfl
@[simp] theorem ti_128_size : ti_128.size = 3 := by kernel_rfl
@[simp] theorem ti_128_bytes : ti_128.bytes = 24 := by kernel_rfl
@[simp] theorem ti_128_zero : ti_128.zero = some (.agg #[.int .i64 0, .int .i64 0, .int .i64 0]) := by kernel_rfl
theorem e_t_impl_Span : P.info? 128 = some ti_128 := ti_128_eq
theorem s_t_impl_Span : ti_128.size = 3 := ti_128_size
theorem b_t_impl_Span : ti_128.bytes = 24 := ti_128_bytes
theorem z_t_impl_Span : zeroP P 128 = some (.agg #[.int .i64 0, .int .i64 0, .int .i64 0]) := zero_some ti_128_eq ti_128_zero rfl (by rw [ti_128_size]; rfl)
noncomputable def ti_149 : TypeInfo := (P.info? 149).getD default
@[simp] theorem ti_149_eq : P.info? 149 = some ti_149 := by kernel_rfl
@[simp] theorem ti_149_size : ti_149.size = 1 := by kernel_rfl
@[simp] theorem ti_149_bytes : ti_149.bytes = 24 := by kernel_rfl
@[simp] theorem ti_149_zero : ti_149.zero = some (.slice none 0 0) := by kernel_rfl
noncomputable def ti_153 : TypeInfo := (P.info? 153).getD default
@[simp] theorem ti_153_eq : P.info? 153 = some ti_153 := by kernel_rfl
@[simp] theorem ti_153_size : ti_153.size = 1 := by kernel_rfl
@[simp] theorem ti_153_bytes : ti_153.bytes = 8 := by kernel_rfl
@[simp] theorem ti_153_zero : ti_153.zero = some (.nilFunc) := by kernel_rfl
noncomputable def ti_154 : TypeInfo := (P.info? 154).getD default
@[simp] theorem ti_154_eq : P.info? 154 = some ti_154 := by kernel_rfl
@[simp] theorem ti_154_size : ti_154.size = 1 := by kernel_rfl
@[simp] theorem ti_154_bytes : ti_154.bytes = 24 := by kernel_rfl
@[simp] theorem ti_154_zero : ti_154.zero = some (.slice none 0 0) := by kernel_rfl
noncomputable def ti_165 : TypeInfo := (P.info? 165).getD default
@[simp] theorem ti_165_eq : P.info? 165 = some ti_165 := by kernel_rfl
@[simp] theorem ti_165_size : ti_165.size = 1 := by kernel_rfl
@[simp] theorem ti_165_bytes : ti_165.bytes = 8 := by kernel_rfl
@[simp] theorem ti_165_zero : ti_165.zero = some (.nilFunc) := by kernel_rfl
abbrev t_spec_l2Search : TypeId := 175
noncomputable def ti_175 : TypeInfo := (P.info? 175).getD default
@[simp] theorem ti_175_eq : P.info? 175 = some ti_175 := by kernel_rfl
@[simp] theorem ti_175_size : ti_175.size = 3 := by kernel_rfl
@[simp] theorem ti_175_bytes : ti_175.bytes = 40 := by kernel_rfl
@[simp] theorem ti_175_zero : ti_175.zero = some (.agg #[.slice none 0 0, .int .i64 0, .int .i64 0]) := by kernel_rfl
theorem e_t_spec_l2Search : P.info? 175 = some ti_175 := ti_175_eq
def G : FuncId → GI
  | 258 => ⟨[], [(2, 9), (3, 8), (6, 9)], []⟩
  | 185 => ⟨[(4, [0, 1, 2, 7, 8]), (11, [0, 1, 7])], [], []⟩
  | 118 => ⟨[(3, [0, 3, 4])], [], []⟩
  | 123 => ⟨[(2, [0, 3])], [], []⟩
  | 142 => ⟨[(3, [0, 3, 4])], [], []⟩
  | 257 => ⟨[(3, [0, 1, 2, 3, 9, 10])], [(6, 31)], []⟩
  | 141 => ⟨[(5, [0, 2, 3, 9, 10, 11, 12]), (9, [0, 3, 9, 10, 11, 13])], [], []⟩
  | 132 => ⟨[(3, [0, 1, 5, 6])], [], [(6, 11, [(7, 4)])]⟩
  | 237 => ⟨[(2, [0, 1, 5])], [], []⟩
  | 170 => ⟨[(4, [0, 1, 5])], [], []⟩
  | 136 => ⟨[(3, [0, 1, 5, 6, 7])], [(5, 15), (6, 15)], []⟩
  | 137 => ⟨[(3, [0, 5, 6])], [(5, 12)], []⟩
  | 26 => ⟨[(6, [1, 6, 7, 8, 9])], [(8, 21)], []⟩
  | 119 => ⟨[(24, [5, 8])], [(18, 10), (19, 18)], [(21, 13, [(8, 5)]), (12, 11, [(1000, 8), (1001, 4), (1001, 6)]), (14, 11, [(1000, 8), (1001, 4), (1001, 6)])]⟩
  | 121 => ⟨[(4, [8, 9, 10])], [], []⟩
  | 122 => ⟨[(3, [0, 1, 5, 13, 14, 15]), (12, [5, 97, 98, 99])], [(5, 22), (7, 31), (9, 10), (14, 6)], []⟩
  | 124 => ⟨[(4, [0, 1, 5, 6, 7, 8]), (13, [0, 5, 10])], [(7, 38), (9, 14), (15, 9)], []⟩
  | 127 => ⟨[(3, [5, 11, 12, 13])], [], []⟩
  | 126 => ⟨[(3, [1, 2, 7, 10, 11, 12])], [(5, 9)], []⟩
  | 131 => ⟨[(3, [1, 5, 6])], [(5, 11)], []⟩
  | 130 => ⟨[(3, [0, 1, 2, 7, 8])], [(6, 11)], []⟩
  | 22 => ⟨[(4, [0, 1, 5])], [(6, 8)], []⟩
  | 256 => ⟨[(2, [1, 7, 8, 9])], [], []⟩
  | 150 => ⟨[(2, [0, 1, 7, 8, 9])], [], []⟩
  | 134 => ⟨[(4, [0, 5, 6, 12, 13, 14])], [(6, 12)], []⟩
  | 25 => ⟨[(6, [0, 6, 7, 17, 18, 19])], [(8, 18)], []⟩
  | 27 => ⟨[(4, [0, 1, 5])], [(6, 8)], []⟩
  | 140 => ⟨[(5, [0, 1, 2, 8, 9, 10, 11, 27, 28, 29]), (12, [0, 2, 8, 9, 10, 11, 48, 49, 50]), (18, [0, 2, 8, 9, 10, 11, 16]), (22, [0, 2, 8, 9, 10, 11, 16, 17, 76, 77, 78])], [(14, 12), (25, 28)], []⟩
  | 296 => ⟨[(9, [0, 1, 2, 7, 8, 10])], [], [(12, 8, [(5, 2)])]⟩
  | 146 => ⟨[], [(2, 5)], []⟩
  | 158 => ⟨[(4, [0, 1, 2, 7, 8, 9, 10]), (12, [0, 2, 9, 12, 13])], [(7, 12), (14, 11)], []⟩
  | 162 => ⟨[(5, [0, 1, 2, 3, 4, 11, 12])], [], []⟩
  | 34 => ⟨[], [(14, 10), (19, 13)], []⟩
  | 152 => ⟨[(2, [0, 1, 5])], [(4, 8), (5, 8)], []⟩
  | 154 => ⟨[(2, [0, 3])], [], []⟩
  | 35 => ⟨[(7, [0, 1, 2, 3, 10, 24, 25, 26])], [], []⟩
  | 157 => ⟨[(2, [0, 1, 5])], [(4, 15)], []⟩
  | 297 => ⟨[(4, [0, 1, 5])], [(6, 8)], []⟩
  | 260 => ⟨[(6, [0, 1, 2, 8])], [], []⟩
  | 156 => ⟨[(4, [0, 1, 2, 3, 9])], [], []⟩
  | 245 => ⟨[(3, [0, 3, 4])], [], []⟩
  | 267 => ⟨[(2, [0, 3]), (7, [0, 3, 4]), (11, [0, 5, 6])], [(2, 12), (7, 8), (9, 13), (13, 13)], []⟩
  | 191 => ⟨[(1, [1, 4])], [], []⟩
  | 160 => ⟨[], [(4, 5)], []⟩
  | 262 => ⟨[(3, [0, 1, 5, 6])], [], []⟩
  | 161 => ⟨[(5, [0, 1, 2, 3, 4, 31, 32, 33])], [], []⟩
  | 45 => ⟨[(4, [0, 1, 5])], [(6, 8)], []⟩
  | 48 => ⟨[(2, [0, 1, 5])], [], []⟩
  | 4 => ⟨[(23, [11, 12, 13, 14, 18, 19, 20, 21, 24, 30, 31])], [], []⟩
  | 163 => ⟨[(3, [0, 1, 5, 6, 7, 8]), (6, [0, 1, 5, 6, 7, 8, 9])], [], []⟩
  | 263 => ⟨[(2, [0, 1, 5])], [(4, 46)], []⟩
  | 175 => ⟨[(3, [0, 1, 5, 6]), (7, [0, 1, 5, 7]), (11, [0, 5, 8]), (14, [0, 5, 8, 9]), (17, [0, 5, 8, 9, 10])], [(9, 13)], []⟩
  | 164 => ⟨[(5, [0, 5, 6])], [], []⟩
  | 265 => ⟨[(2, [0, 1, 2, 7])], [], []⟩
  | 264 => ⟨[(7, [0, 1, 2, 3, 9, 10, 12])], [], [(10, 9, [(6, 3)])]⟩
  | 166 => ⟨[], [(2, 5)], []⟩
  | 169 => ⟨[(3, [0, 1, 5, 15, 16]), (8, [0, 5, 25, 26, 27]), (13, [0, 5, 9]), (16, [0, 5, 9, 10]), (19, [0, 5, 9, 10, 11])], [(10, 7), (21, 30)], []⟩
  | 53 => ⟨[(4, [0, 1, 17, 18, 19]), (13, [7, 83, 84])], [(8, 31)], []⟩
  | 168 => ⟨[(2, [0, 1, 9, 10, 11]), (5, [0, 1, 6, 9, 10, 11, 18, 19, 20])], [], []⟩
  | 171 => ⟨[(2, [0, 1, 5]), (6, [0, 1, 5, 6, 7, 8])], [(8, 9), (10, 9)], []⟩
  | 174 => ⟨[(3, [3, 8, 9, 10]), (6, [3, 4, 8, 9, 10, 15, 16, 17])], [], []⟩
  | 55 => ⟨[(6, [0, 6, 7, 8]), (9, [0, 6, 7, 8, 9])], [], []⟩
  | 56 => ⟨[(4, [0, 1, 5])], [(6, 8)], []⟩
  | 176 => ⟨[(3, [0, 3, 9, 10, 11]), (7, [0, 3, 5, 6, 9, 10, 11, 16, 17])], [(9, 17)], []⟩
  | 177 => ⟨[(2, [0, 1, 2, 7])], [], []⟩
  | 58 => ⟨[(6, [0, 6, 7, 8]), (9, [0, 6, 7, 8, 9])], [], []⟩
  | 178 => ⟨[(2, [0, 1, 2, 10, 11]), (5, [0, 1, 2, 7, 10, 11, 15, 16])], [], []⟩
  | 179 => ⟨[(3, [0, 3, 4])], [], []⟩
  | 180 => ⟨[(3, [3, 7, 8, 9]), (6, [3, 5, 6, 7, 8, 9])], [(9, 7)], []⟩
  | 59 => ⟨[(6, [0, 6, 7, 8])], [], []⟩
  | 181 => ⟨[(3, [0, 1, 5, 6])], [], []⟩
  | 182 => ⟨[(2, [0, 1, 2, 7]), (5, [0, 1, 2, 7, 8])], [(7, 19)], []⟩
  | 183 => ⟨[(4, [0, 1, 5])], [(6, 8), (7, 8)], []⟩
  | 60 => ⟨[(6, [0, 6, 7, 8, 9]), (10, [0, 6, 7, 8, 9, 10, 11])], [(4, 7)], [(12, 11, [(7, 4)])]⟩
  | 64 => ⟨[(4, [0, 1, 5])], [(6, 8)], []⟩
  | 61 => ⟨[(4, [0, 1, 5])], [(6, 8)], []⟩
  | 62 => ⟨[(7, [0, 6, 7, 8]), (11, [0, 6, 7, 8, 9])], [(14, 11)], []⟩
  | 184 => ⟨[(5, [0, 1, 5, 6])], [], []⟩
  | 5 => ⟨[(28, [3, 4, 5, 6, 7, 11, 15, 19, 23, 27]), (32, [3, 4, 5, 6, 7, 11, 15, 19, 23, 27, 28, 29]), (44, [3, 5, 6, 11, 19, 34]), (48, [3, 5, 6, 11, 19, 34, 35, 36]), (52, [3, 5, 6, 11, 19, 34, 35, 36, 37, 38, 39]), (59, [3, 5, 6, 11, 19, 34, 35, 40, 41]), (62, [3, 5, 6, 11, 19, 34, 35, 40, 41, 42]), (68, [3, 5, 6, 11, 19, 34, 35, 40, 43, 44])], [(34, 10), (54, 11), (55, 11)], []⟩
  | 187 => ⟨[(2, [5, 6, 7])], [], []⟩
  | 66 => ⟨[(7, [0, 6, 7, 8, 9]), (11, [0, 6, 7, 8, 9, 10, 44, 45, 46]), (15, [0, 6, 7, 8, 9, 10, 12, 13, 44, 45, 46, 51, 52, 53])], [(19, 15)], []⟩
  | 189 => ⟨[(2, [0, 3])], [], []⟩
  | 190 => ⟨[(2, [0, 1, 2, 7])], [], []⟩
  | 67 => ⟨[(5, [0, 6, 7]), (8, [0, 6, 7, 8, 9])], [(10, 18)], []⟩
  | 68 => ⟨[(6, [0, 6, 7, 20, 21, 22]), (11, [0, 6, 7, 33, 34]), (13, [0, 6, 7, 33, 34, 37, 38]), (16, [0, 6, 7, 10, 33, 34, 37, 38, 42, 43])], [(19, 17)], []⟩
  | 69 => ⟨[(6, [0, 6, 7, 8]), (10, [0, 6, 7, 9]), (13, [0, 6, 7, 9, 10]), (16, [0, 6, 7, 9, 10, 11])], [(19, 17)], []⟩
  | 6 => ⟨[(25, [3, 9, 17, 23, 25])], [(27, 21)], []⟩
  | 268 => ⟨[(4, [0, 1, 2, 7, 8]), (8, [0, 1, 2, 7, 8, 9, 10]), (21, [7])], [(17, 7)], []⟩
  | 73 => ⟨[(5, [5, 6, 7, 8, 9, 10])], [], []⟩
  | 271 => ⟨[(2, [1, 2, 9, 10, 11])], [], []⟩
  | 208 => ⟨[(4, [0, 8, 9, 10])], [], []⟩
  | 197 => ⟨[(5, [0, 5, 25, 26, 27])], [], []⟩
  | 198 => ⟨[(3, [0, 1, 7, 8, 12, 13, 14]), (6, [0, 1, 7, 9, 10, 11, 12, 13, 14])], [], []⟩
  | 211 => ⟨[(3, [0, 3, 4]), (8, [0, 3, 4, 5])], [], []⟩
  | 200 => ⟨[(2, [0, 1, 5])], [(4, 22)], []⟩
  | 201 => ⟨[(3, [0, 1, 2, 7, 8, 9]), (6, [0, 1, 2, 7, 9, 10])], [], []⟩
  | 204 => ⟨[(4, [0, 5, 6, 18, 19, 20]), (8, [0, 5, 6, 8, 9, 18, 19, 20, 27, 28, 29])], [], []⟩
  | 269 => ⟨[(3, [3, 6, 7, 8])], [], []⟩
  | 202 => ⟨[(3, [5, 10, 11, 12])], [], []⟩
  | 205 => ⟨[(3, [0, 1, 5, 6, 7]), (7, [0, 1, 5, 6, 7, 8, 9, 10])], [(1, 7), (9, 16)], []⟩
  | 270 => ⟨[(3, [0, 3, 4])], [], []⟩
  | 203 => ⟨[], [(3, 9)], []⟩
  | 206 => ⟨[(7, [0, 1, 2, 3, 11])], [], []⟩
  | 81 => ⟨[(6, [0, 1, 6, 7, 8, 9]), (10, [0, 1, 6, 7, 8, 9, 10, 11]), (13, [0, 1, 6, 7, 8, 9, 10, 11, 12]), (18, [0, 1, 7, 8, 13])], [], []⟩
  | 210 => ⟨[(3, [3, 6, 7, 8])], [], []⟩
  | 82 => ⟨[(5, [0, 4, 5]), (9, [0, 4, 5, 6, 7, 8, 27, 28, 29])], [(11, 8)], []⟩
  | 212 => ⟨[(3, [0, 3, 4])], [], []⟩
  | 83 => ⟨[(5, [0, 4, 5]), (9, [0, 4, 5, 6, 7, 8, 9])], [], []⟩
  | 85 => ⟨[], [(6, 3)], []⟩
  | 214 => ⟨[(7, [0, 1, 5, 6, 8])], [], [(10, 7, [(5, 2)])]⟩
  | 86 => ⟨[], [(4, 5)], []⟩
  | 276 => ⟨[(5, [0, 3, 4])], [], []⟩
  | 224 => ⟨[(3, [0, 3, 4])], [], []⟩
  | 272 => ⟨[(4, [0, 1, 2, 3, 4, 5, 15, 16])], [(6, 26)], []⟩
  | 218 => ⟨[(7, [3, 4, 10, 11, 12, 13, 14, 15]), (10, [3, 4, 10, 11, 12, 13, 14, 15, 39, 40]), (14, [3, 4, 10, 11, 12, 13, 14, 15, 16, 39, 40, 49, 50, 51])], [(6, 3)], []⟩
  | 217 => ⟨[(3, [0, 5, 8, 9, 10])], [(5, 10)], []⟩
  | 277 => ⟨[(2, [0, 3])], [], []⟩
  | 273 => ⟨[(2, [0, 1, 2, 3, 9]), (7, [0, 1, 2, 3, 9, 10, 11])], [(9, 22)], []⟩
  | 274 => ⟨[(3, [0, 1, 5, 6])], [], []⟩
  | 221 => ⟨[(6, [0, 1, 3, 9, 10, 11, 12, 13]), (12, [0, 1, 3, 10, 11, 12, 14, 15, 16]), (14, [0, 1, 3, 10, 11, 12, 14, 15, 16, 17])], [], []⟩
  | 220 => ⟨[(3, [0, 1, 5, 6])], [(5, 12)], []⟩
  | 90 => ⟨[(5, [0, 1, 2, 3, 8, 10, 28, 29, 30])], [(7, 9)], []⟩
  | 91 => ⟨[(5, [0, 1, 2, 3, 8, 10, 11])], [(7, 9)], []⟩
  | 223 => ⟨[(5, [0, 1, 3, 9, 26, 27, 28]), (11, [0, 3, 9, 51, 52, 53]), (14, [0, 3, 9, 12, 13, 51, 52, 53, 58, 59, 60])], [(16, 10), (19, 25)], []⟩
  | 8 => ⟨[(23, [3, 4, 5, 6, 11, 17, 23, 24])], [(25, 5)], []⟩
  | 94 => ⟨[], [(12, 11)], []⟩
  | 228 => ⟨[(5, [0, 1, 3, 9, 10]), (11, [0, 3, 9, 12]), (14, [0, 3, 9, 12, 13])], [(16, 10), (17, 10), (18, 37)], []⟩
  | 229 => ⟨[(3, [0, 1, 2, 5, 8, 9])], [(5, 29)], []⟩
  | 231 => ⟨[], [(1, 5)], []⟩
  | 100 => ⟨[(8, [10, 12, 13, 14]), (14, [13, 16, 17])], [], []⟩
  | 101 => ⟨[(5, [0, 10, 11, 12]), (7, [0, 10, 11, 12, 13, 14])], [(9, 11), (10, 25)], []⟩
  | 278 => ⟨[(4, [0, 5, 6, 18, 19]), (6, [0, 5, 6, 18, 19, 21, 22, 23]), (10, [0, 5, 6, 7, 8, 18, 19, 21, 22, 23, 39, 40])], [(8, 9), (13, 14)], []⟩
  | 280 => ⟨[(3, [3, 6, 7, 8])], [], []⟩
  | 303 => ⟨[(3, [0, 1, 2, 7, 8])], [], []⟩
  | 281 => ⟨[(4, [0, 5, 6, 7])], [], []⟩
  | 282 => ⟨[(3, [0, 3, 4])], [], []⟩
  | 104 => ⟨[(4, [0, 1, 5])], [(6, 8)], []⟩
  | 9 => ⟨[(26, [15, 16, 19, 23, 33, 35]), (30, [15, 16, 19, 23, 33, 35, 36, 37, 38])], [(32, 20)], []⟩
  | 239 => ⟨[(3, [0, 4, 5, 8, 9, 10])], [(5, 7), (6, 7)], []⟩
  | 236 => ⟨[(3, [3, 6, 7, 8])], [], []⟩
  | 234 => ⟨[(4, [0, 5, 6, 7]), (7, [0, 5, 6, 7, 8, 9])], [(100004, 0)], []⟩
  | 241 => ⟨[(3, [0, 1, 4, 5, 6])], [(5, 22)], []⟩
  | 284 => ⟨[(3, [0, 1, 2, 7, 8]), (7, [0, 1, 2, 7, 8, 9, 10, 11])], [], []⟩
  | 235 => ⟨[(2, [0, 5, 6, 7]), (5, [0, 5, 6, 7, 8, 9, 10])], [], []⟩
  | 108 => ⟨[(7, [2, 8, 31, 32, 33])], [], []⟩
  | 109 => ⟨[(5, [1, 2, 8, 9, 10]), (8, [1, 2, 8, 9, 10, 11])], [(10, 8)], []⟩
  | 285 => ⟨[(2, [0, 3])], [(4, 9)], []⟩
  | 240 => ⟨[(2, [0, 1, 2, 7])], [(4, 21)], []⟩
  | 112 => ⟨[(2, [0, 3, 5])], [(2, 30), (4, 10)], [(6, 11, [(7, 4)])]⟩
  | 10 => ⟨[(16, [3, 4, 5, 6, 10, 14, 15]), (24, [3, 4, 5, 6, 10, 20]), (41, [3, 4, 6, 25, 29, 30]), (45, [3, 6, 25, 29, 31]), (48, [3, 6, 25, 29, 31, 32]), (51, [3, 6, 25, 29, 31, 32, 33]), (54, [3, 6, 25, 29, 31, 32, 33, 34])], [(56, 16)], []⟩
  | 246 => ⟨[(3, [0, 3, 4])], [(5, 25)], []⟩
  | 242 => ⟨[(7, [1, 8, 9]), (10, [1, 8, 9, 10])], [], []⟩
  | 243 => ⟨[(4, [1, 3, 4, 5]), (7, [1, 3, 4, 5, 6]), (10, [1, 3, 4, 5, 6, 7]), (13, [1, 3, 4, 5, 6, 7, 8])], [], []⟩
  | 290 => ⟨[(3, [1, 5, 9, 10, 11]), (6, [1, 5, 7, 8, 9, 10, 11])], [(9, 7)], []⟩
  | 288 => ⟨[(4, [0, 1, 5, 6, 13, 14, 15]), (9, [0, 1, 5, 6, 9, 10, 13, 14, 15]), (12, [0, 1, 5, 6, 9, 10, 13, 14, 15, 30, 31, 32])], [], []⟩
  | 291 => ⟨[], [(1, 15)], []⟩
  | 244 => ⟨[(8, [0, 4, 9, 34, 35, 36]), (11, [0, 4, 9, 34, 35, 36, 43, 44, 45]), (14, [0, 4, 9, 13, 14, 34, 35, 36, 43, 44, 45]), (26, [0, 4, 15, 17, 95, 96, 97]), (31, [0, 17, 20])], [(17, 7), (28, 8), (32, 12)], [(36, 13, [(11, 5)])]⟩
  | 114 => ⟨[(10, [7, 34, 35, 36])], [], []⟩
  | 309 => ⟨[(2, [0, 1, 5])], [], [(6, 11, [(7, 4)])]⟩
  | 306 => ⟨[(3, [0, 1, 2, 7, 8]), (6, [0, 1, 2, 7, 8, 9]), (9, [0, 1, 2, 7, 8, 9, 10])], [(11, 21)], []⟩
  | 307 => ⟨[(3, [0, 1, 5, 6])], [], []⟩
  | 293 => ⟨[(2, [0, 1, 2, 7]), (5, [0, 1, 2, 7, 8, 9])], [(5, 19)], [(7, 11, [(7, 4)])]⟩
  | 294 => ⟨[(2, [0, 1, 2, 7, 8, 9])], [(3, 21)], []⟩
  | 295 => ⟨[(2, [0, 1, 5])], [(4, 12), (5, 10)], []⟩
  | 247 => ⟨[(9, [0, 1, 7, 8, 9, 10])], [], []⟩
  | 115 => ⟨[(6, [6, 7, 8])], [(4, 12)], []⟩
  | _ => ⟨[], [], []⟩
noncomputable def c_laws_vBig : Code := Go.Proofs.Try.f12.body.getD .skip
abbrev n_laws_vBig : FuncId := 12
theorem g_laws_vBig : G 12 = ⟨[], [], []⟩ := rfl
attribute [simp] c_laws_vBig g_laws_vBig Go.Proofs.Try.f12
theorem e_laws_vBig : enterG P (G 12) 12 = some (c_laws_vBig, 6, #[.tmp 2]) := by kernel_rfl
noncomputable def c_spec_l1Cur_next : Code := Go.Proofs.Try.f258.body.getD .skip
abbrev n_spec_l1Cur_next : FuncId := 258
theorem g_spec_l1Cur_next : G 258 = ⟨[], [(2, 9), (3, 8), (6, 9)], []⟩ := rfl
attribute [simp] c_spec_l1Cur_next g_spec_l1Cur_next Go.Proofs.Try.f258
theorem e_spec_l1Cur_next : enterG P (G 258) 258 = some (c_spec_l1Cur_next, 62, #[.tmp 2]) := by kernel_rfl
noncomputable def c_spec_l1Cur_pick : Code := Go.Proofs.Try.f144.body.getD .skip
abbrev n_spec_l1Cur_pick : FuncId := 144
theorem g_spec_l1Cur_pick : G 144 = ⟨[], [], []⟩ := rfl
attribute [simp] c_spec_l1Cur_pick g_spec_l1Cur_pick Go.Proofs.Try.f144
theorem e_spec_l1Cur_pick : enterG P (G 144) 144 = some (c_spec_l1Cur_pick, 20, #[.tmp 4]) := by kernel_rfl
noncomputable def c_spec_l1Cur_among : Code := Go.Proofs.Try.f226.body.getD .skip
abbrev n_spec_l1Cur_among : FuncId := 226
theorem g_spec_l1Cur_among : G 226 = ⟨[], [], []⟩ := rfl
attribute [simp] c_spec_l1Cur_among g_spec_l1Cur_among Go.Proofs.Try.f226
theorem e_spec_l1Cur_among : enterG P (G 226) 226 = some (c_spec_l1Cur_among, 12, #[.tmp 4]) := by kernel_rfl
noncomputable def c_spec_l1Cur_one : Code := Go.Proofs.Try.f165.body.getD .skip
abbrev n_spec_l1Cur_one : FuncId := 165
theorem g_spec_l1Cur_one : G 165 = ⟨[], [], []⟩ := rfl
attribute [simp] c_spec_l1Cur_one g_spec_l1Cur_one Go.Proofs.Try.f165
theorem e_spec_l1Cur_one : enterG P (G 165) 165 = some (c_spec_l1Cur_one, 9, #[.tmp 4]) := by kernel_rfl
noncomputable def c_spec_l1Cur_job : Code := Go.Proofs.Try.f266.body.getD .skip
abbrev n_spec_l1Cur_job : FuncId := 266
theorem g_spec_l1Cur_job : G 266 = ⟨[], [], []⟩ := rfl
attribute [simp] c_spec_l1Cur_job g_spec_l1Cur_job Go.Proofs.Try.f266
theorem e_spec_l1Cur_job : enterG P (G 266) 266 = some (c_spec_l1Cur_job, 20, #[.cell 4 77]) := by kernel_rfl
noncomputable def c_spec_l1Cur_spoiltJob : Code := Go.Proofs.Try.f248.body.getD .skip
abbrev n_spec_l1Cur_spoiltJob : FuncId := 248
theorem g_spec_l1Cur_spoiltJob : G 248 = ⟨[], [], []⟩ := rfl
attribute [simp] c_spec_l1Cur_spoiltJob g_spec_l1Cur_spoiltJob Go.Proofs.Try.f248
theorem e_spec_l1Cur_spoiltJob : enterG P (G 248) 248 = some (c_spec_l1Cur_spoiltJob, 30, #[.cell 4 77]) := by kernel_rfl
noncomputable def c_spec_l1Cur_someJobs : Code := Go.Proofs.Try.f185.body.getD .skip
abbrev n_spec_l1Cur_someJobs : FuncId := 185
theorem g_spec_l1Cur_someJobs : G 185 = ⟨[(4, [0, 1, 2, 7, 8]), (11, [0, 1, 7])], [], []⟩ := rfl
attribute [simp] c_spec_l1Cur_someJobs g_spec_l1Cur_someJobs Go.Proofs.Try.f185
theorem e_spec_l1Cur_someJobs : enterG P (G 185) 185 = some (c_spec_l1Cur_someJobs, 71, #[.tmp 6]) := by kernel_rfl
noncomputable def c_spec_l1Cur_some5 : Code := Go.Proofs.Try.f118.body.getD .skip
abbrev n_spec_l1Cur_some5 : FuncId := 118
theorem g_spec_l1Cur_some5 : G 118 = ⟨[(3, [0, 3, 4])], [], []⟩ := rfl
attribute [simp] c_spec_l1Cur_some5 g_spec_l1Cur_some5 Go.Proofs.Try.f118
theorem e_spec_l1Cur_some5 : enterG P (G 118) 118 = some (c_spec_l1Cur_some5, 52, #[.tmp 2]) := by kernel_rfl
noncomputable def c_spec_l1In : Code := Go.Proofs.Try.f253.body.getD .skip
abbrev n_spec_l1In : FuncId := 253
theorem g_spec_l1In : G 253 = ⟨[], [], []⟩ := rfl
attribute [simp] c_spec_l1In g_spec_l1In Go.Proofs.Try.f253
theorem e_spec_l1In : enterG P (G 253) 253 = some (c_spec_l1In, 15, #[.tmp 6]) := by kernel_rfl
noncomputable def c_spec_l2Job : Code := Go.Proofs.Try.f250.body.getD .skip
abbrev n_spec_l2Job : FuncId := 250
theorem g_spec_l2Job : G 250 = ⟨[], [], []⟩ := rfl
attribute [simp] c_spec_l2Job g_spec_l2Job Go.Proofs.Try.f250
theorem e_spec_l2Job : enterG P (G 250) 250 = some (c_spec_l2Job, 21, #[.tmp 2]) := by kernel_rfl
noncomputable def c_spec_l2Good : Code := Go.Proofs.Try.f123.body.getD .skip
abbrev n_spec_l2Good : FuncId := 123
theorem g_spec_l2Good : G 123 = ⟨[(2, [0, 3])], [], []⟩ := rfl
attribute [simp] c_spec_l2Good g_spec_l2Good Go.Proofs.Try.f123
theorem e_spec_l2Good : enterG P (G 123) 123 = some (c_spec_l2Good, 19, #[.tmp 2]) := by kernel_rfl
noncomputable def c_spec_l5Rests : Code := Go.Proofs.Try.f142.body.getD .skip
abbrev n_spec_l5Rests : FuncId := 142
theorem g_spec_l5Rests : G 142 = ⟨[(3, [0, 3, 4])], [], []⟩ := rfl
attribute [simp] c_spec_l5Rests g_spec_l5Rests Go.Proofs.Try.f142
theorem e_spec_l5Rests : enterG P (G 142) 142 = some (c_spec_l5Rests, 21, #[.tmp 2]) := by kernel_rfl
noncomputable def c_spec_l1Own : Code := Go.Proofs.Try.f207.body.getD .skip
abbrev n_spec_l1Own : FuncId := 207
theorem g_spec_l1Own : G 207 = ⟨[], [], []⟩ := rfl
attribute [simp] c_spec_l1Own g_spec_l1Own Go.Proofs.Try.f207
theorem e_spec_l1Own : enterG P (G 207) 207 = some (c_spec_l1Own, 6, #[.tmp 2]) := by kernel_rfl
noncomputable def c_spec_l5Pick : Code := Go.Proofs.Try.f257.body.getD .skip
abbrev n_spec_l5Pick : FuncId := 257
theorem g_spec_l5Pick : G 257 = ⟨[(3, [0, 1, 2, 3, 9, 10])], [(6, 31)], []⟩ := rfl
attribute [simp] c_spec_l5Pick g_spec_l5Pick Go.Proofs.Try.f257
theorem e_spec_l5Pick : enterG P (G 257) 257 = some (c_spec_l5Pick, 67, #[.tmp 8]) := by kernel_rfl
noncomputable def c_spec_l5Choose : Code := Go.Proofs.Try.f141.body.getD .skip
abbrev n_spec_l5Choose : FuncId := 141
theorem g_spec_l5Choose : G 141 = ⟨[(5, [0, 2, 3, 9, 10, 11, 12]), (9, [0, 3, 9, 10, 11, 13])], [], []⟩ := rfl
attribute [simp] c_spec_l5Choose g_spec_l5Choose Go.Proofs.Try.f141
theorem e_spec_l5Choose : enterG P (G 141) 141 = some (c_spec_l5Choose, 91, #[.tmp 8]) := by kernel_rfl
noncomputable def c_spec_l1Cur_order : Code := Go.Proofs.Try.f132.body.getD .skip
abbrev n_spec_l1Cur_order : FuncId := 132
theorem g_spec_l1Cur_order : G 132 = ⟨[(3, [0, 1, 5, 6])], [], [(6, 11, [(7, 4)])]⟩ := rfl
attribute [simp] c_spec_l1Cur_order g_spec_l1Cur_order Go.Proofs.Try.f132
theorem e_spec_l1Cur_order : enterG P (G 132) 132 = some (c_spec_l1Cur_order, 41, #[.tmp 4]) := by kernel_rfl
noncomputable def c_spec_l1Has : Code := Go.Proofs.Try.f237.body.getD .skip
abbrev n_spec_l1Has : FuncId := 237
theorem g_spec_l1Has : G 237 = ⟨[(2, [0, 1, 5])], [], []⟩ := rfl
attribute [simp] c_spec_l1Has g_spec_l1Has Go.Proofs.Try.f237
theorem e_spec_l1Has : enterG P (G 237) 237 = some (c_spec_l1Has, 18, #[.tmp 4]) := by kernel_rfl
noncomputable def c_spec_l1Most : Code := Go.Proofs.Try.f147.body.getD .skip
abbrev n_spec_l1Most : FuncId := 147
theorem g_spec_l1Most : G 147 = ⟨[], [], []⟩ := rfl
attribute [simp] c_spec_l1Most g_spec_l1Most Go.Proofs.Try.f147
theorem e_spec_l1Most : enterG P (G 147) 147 = some (c_spec_l1Most, 10, #[.tmp 4]) := by kernel_rfl
noncomputable def c_spec_l2Starts : Code := Go.Proofs.Try.f136.body.getD .skip
abbrev n_spec_l2Starts : FuncId := 136
theorem g_spec_l2Starts : G 136 = ⟨[(3, [0, 1, 5, 6, 7])], [(5, 15), (6, 15)], []⟩ := rfl
attribute [simp] c_spec_l2Starts g_spec_l2Starts Go.Proofs.Try.f136
theorem e_spec_l2Starts : enterG P (G 136) 136 = some (c_spec_l2Starts, 50, #[.tmp 4]) := by kernel_rfl
noncomputable def c_spec_l2Ends : Code := Go.Proofs.Try.f137.body.getD .skip
abbrev n_spec_l2Ends : FuncId := 137
theorem g_spec_l2Ends : G 137 = ⟨[(3, [0, 5, 6])], [(5, 12)], []⟩ := rfl
attribute [simp] c_spec_l2Ends g_spec_l2Ends Go.Proofs.Try.f137
theorem e_spec_l2Ends : enterG P (G 137) 137 = some (c_spec_l2Ends, 30, #[.tmp 4]) := by kernel_rfl
noncomputable def c_impl_within : Code := Go.Proofs.Try.f172.body.getD .skip
abbrev n_impl_within : FuncId := 172
theorem g_impl_within : G 172 = ⟨[], [], []⟩ := rfl
attribute [simp] c_impl_within g_impl_within Go.Proofs.Try.f172
theorem e_impl_within : enterG P (G 172) 172 = some (c_impl_within, 15, #[.tmp 6]) := by kernel_rfl
noncomputable def c_impl_isDate : Code := Go.Proofs.Try.f249.body.getD .skip
abbrev n_impl_isDate : FuncId := 249
theorem g_impl_isDate : G 249 = ⟨[], [], []⟩ := rfl
attribute [simp] c_impl_isDate g_impl_isDate Go.Proofs.Try.f249
theorem e_impl_isDate : enterG P (G 249) 249 = some (c_impl_isDate, 5, #[.tmp 2]) := by kernel_rfl
noncomputable def c_impl_IsJobs : Code := Go.Proofs.Try.f121.body.getD .skip
abbrev n_impl_IsJobs : FuncId := 121
theorem g_impl_IsJobs : G 121 = ⟨[(4, [8, 9, 10])], [], []⟩ := rfl
attribute [simp] c_impl_IsJobs g_impl_IsJobs Go.Proofs.Try.f121
theorem e_impl_IsJobs : enterG P (G 121) 121 = some (c_impl_IsJobs, 37, #[.tmp 2]) := by kernel_rfl
noncomputable def c_impl_isNumber : Code := Go.Proofs.Try.f173.body.getD .skip
abbrev n_impl_isNumber : FuncId := 173
theorem g_impl_isNumber : G 173 = ⟨[], [], []⟩ := rfl
attribute [simp] c_impl_isNumber g_impl_isNumber Go.Proofs.Try.f173
theorem e_impl_isNumber : enterG P (G 173) 173 = some (c_impl_isNumber, 9, #[.tmp 4]) := by kernel_rfl
noncomputable def c_spec_l3Job : Code := Go.Proofs.Try.f251.body.getD .skip
abbrev n_spec_l3Job : FuncId := 251
theorem g_spec_l3Job : G 251 = ⟨[], [], []⟩ := rfl
attribute [simp] c_spec_l3Job g_spec_l3Job Go.Proofs.Try.f251
theorem e_spec_l3Job : enterG P (G 251) 251 = some (c_spec_l3Job, 10, #[.tmp 4]) := by kernel_rfl
noncomputable def c_impl_isObjective : Code := Go.Proofs.Try.f125.body.getD .skip
abbrev n_impl_isObjective : FuncId := 125
theorem g_impl_isObjective : G 125 = ⟨[], [], []⟩ := rfl
attribute [simp] c_impl_isObjective g_impl_isObjective Go.Proofs.Try.f125
theorem e_impl_isObjective : enterG P (G 125) 125 = some (c_impl_isObjective, 5, #[.tmp 2]) := by kernel_rfl
noncomputable def c_impl_add : Code := Go.Proofs.Try.f252.body.getD .skip
abbrev n_impl_add : FuncId := 252
theorem g_impl_add : G 252 = ⟨[], [], []⟩ := rfl
attribute [simp] c_impl_add g_impl_add Go.Proofs.Try.f252
theorem e_impl_add : enterG P (G 252) 252 = some (c_impl_add, 70, #[.tmp 10]) := by kernel_rfl
noncomputable def c_impl_valueOfEnds : Code := Go.Proofs.Try.f126.body.getD .skip
abbrev n_impl_valueOfEnds : FuncId := 126
theorem g_impl_valueOfEnds : G 126 = ⟨[(3, [1, 2, 7, 10, 11, 12])], [(5, 9)], []⟩ := rfl
attribute [simp] c_impl_valueOfEnds g_impl_valueOfEnds Go.Proofs.Try.f126
theorem e_impl_valueOfEnds : enterG P (G 126) 126 = some (c_impl_valueOfEnds, 29, #[.tmp 6]) := by kernel_rfl
noncomputable def c_spec_l2Greatest : Code := Go.Proofs.Try.f254.body.getD .skip
abbrev n_spec_l2Greatest : FuncId := 254
theorem g_spec_l2Greatest : G 254 = ⟨[], [], []⟩ := rfl
attribute [simp] c_spec_l2Greatest g_spec_l2Greatest Go.Proofs.Try.f254
theorem e_spec_l2Greatest : enterG P (G 254) 254 = some (c_spec_l2Greatest, 9, #[.tmp 2]) := by kernel_rfl
noncomputable def c_spec_l2Cost : Code := Go.Proofs.Try.f255.body.getD .skip
abbrev n_spec_l2Cost : FuncId := 255
theorem g_spec_l2Cost : G 255 = ⟨[], [], []⟩ := rfl
attribute [simp] c_spec_l2Cost g_spec_l2Cost Go.Proofs.Try.f255
theorem e_spec_l2Cost : enterG P (G 255) 255 = some (c_spec_l2Cost, 38, #[.tmp 6]) := by kernel_rfl
noncomputable def c_spec_l2Of : Code := Go.Proofs.Try.f130.body.getD .skip
abbrev n_spec_l2Of : FuncId := 130
theorem g_spec_l2Of : G 130 = ⟨[(3, [0, 1, 2, 7, 8])], [(6, 11)], []⟩ := rfl
attribute [simp] c_spec_l2Of g_spec_l2Of Go.Proofs.Try.f130
theorem e_spec_l2Of : enterG P (G 130) 130 = some (c_spec_l2Of, 53, #[.tmp 6]) := by kernel_rfl
noncomputable def c_laws_vInts : Code := Go.Proofs.Try.f22.body.getD .skip
abbrev n_laws_vInts : FuncId := 22
theorem g_laws_vInts : G 22 = ⟨[(4, [0, 1, 5])], [(6, 8)], []⟩ := rfl
attribute [simp] c_laws_vInts g_laws_vInts Go.Proofs.Try.f22
theorem e_laws_vInts : enterG P (G 22) 22 = some (c_laws_vInts, 26, #[.tmp 4]) := by kernel_rfl
noncomputable def c_laws_vCut : Code := Go.Proofs.Try.f24.body.getD .skip
abbrev n_laws_vCut : FuncId := 24
theorem g_laws_vCut : G 24 = ⟨[], [], []⟩ := rfl
attribute [simp] c_laws_vCut g_laws_vCut Go.Proofs.Try.f24
theorem e_laws_vCut : enterG P (G 24) 24 = some (c_laws_vCut, 20, #[.tmp 4]) := by kernel_rfl
noncomputable def c_impl_has : Code := Go.Proofs.Try.f256.body.getD .skip
abbrev n_impl_has : FuncId := 256
theorem g_impl_has : G 256 = ⟨[(2, [1, 7, 8, 9])], [], []⟩ := rfl
attribute [simp] c_impl_has g_impl_has Go.Proofs.Try.f256
theorem e_impl_has : enterG P (G 256) 256 = some (c_impl_has, 17, #[.tmp 4]) := by kernel_rfl
noncomputable def c_impl_areDifferent : Code := Go.Proofs.Try.f150.body.getD .skip
abbrev n_impl_areDifferent : FuncId := 150
theorem g_impl_areDifferent : G 150 = ⟨[(2, [0, 1, 7, 8, 9])], [], []⟩ := rfl
attribute [simp] c_impl_areDifferent g_impl_areDifferent Go.Proofs.Try.f150
theorem e_impl_areDifferent : enterG P (G 150) 150 = some (c_impl_areDifferent, 26, #[.tmp 4]) := by kernel_rfl
noncomputable def c_impl_isOrder : Code := Go.Proofs.Try.f167.body.getD .skip
abbrev n_impl_isOrder : FuncId := 167
theorem g_impl_isOrder : G 167 = ⟨[], [], []⟩ := rfl
attribute [simp] c_impl_isOrder g_impl_isOrder Go.Proofs.Try.f167
theorem e_impl_isOrder : enterG P (G 167) 167 = some (c_impl_isOrder, 14, #[.tmp 4]) := by kernel_rfl
noncomputable def c_impl_isScheduled : Code := Go.Proofs.Try.f133.body.getD .skip
abbrev n_impl_isScheduled : FuncId := 133
theorem g_impl_isScheduled : G 133 = ⟨[], [], []⟩ := rfl
attribute [simp] c_impl_isScheduled g_impl_isScheduled Go.Proofs.Try.f133
theorem e_impl_isScheduled : enterG P (G 133) 133 = some (c_impl_isScheduled, 13, #[.tmp 4]) := by kernel_rfl
noncomputable def c_impl_endsOf : Code := Go.Proofs.Try.f134.body.getD .skip
abbrev n_impl_endsOf : FuncId := 134
theorem g_impl_endsOf : G 134 = ⟨[(4, [0, 5, 6, 12, 13, 14])], [(6, 12)], []⟩ := rfl
attribute [simp] c_impl_endsOf g_impl_endsOf Go.Proofs.Try.f134
theorem e_impl_endsOf : enterG P (G 134) 134 = some (c_impl_endsOf, 37, #[.tmp 4]) := by kernel_rfl
noncomputable def c_impl_isValued : Code := Go.Proofs.Try.f138.body.getD .skip
abbrev n_impl_isValued : FuncId := 138
theorem g_impl_isValued : G 138 = ⟨[], [], []⟩ := rfl
attribute [simp] c_impl_isValued g_impl_isValued Go.Proofs.Try.f138
theorem e_impl_isValued : enterG P (G 138) 138 = some (c_impl_isValued, 14, #[.tmp 6]) := by kernel_rfl
noncomputable def c_impl_valueOf : Code := Go.Proofs.Try.f139.body.getD .skip
abbrev n_impl_valueOf : FuncId := 139
theorem g_impl_valueOf : G 139 = ⟨[], [], []⟩ := rfl
attribute [simp] c_impl_valueOf g_impl_valueOf Go.Proofs.Try.f139
theorem e_impl_valueOf : enterG P (G 139) 139 = some (c_impl_valueOf, 13, #[.tmp 6]) := by kernel_rfl
noncomputable def c_impl_ValueOf : Code := Go.Proofs.Try.f29.body.getD .skip
abbrev n_impl_ValueOf : FuncId := 29
theorem g_impl_ValueOf : G 29 = ⟨[], [], []⟩ := rfl
attribute [simp] c_impl_ValueOf g_impl_ValueOf Go.Proofs.Try.f29
theorem e_impl_ValueOf : enterG P (G 29) 29 = some (c_impl_ValueOf, 17, #[.tmp 6, .tmp 7]) := by kernel_rfl
noncomputable def c_impl_choose : Code := Go.Proofs.Try.f140.body.getD .skip
abbrev n_impl_choose : FuncId := 140
theorem g_impl_choose : G 140 = ⟨[(5, [0, 1, 2, 8, 9, 10, 11, 27, 28, 29]), (12, [0, 2, 8, 9, 10, 11, 48, 49, 50]), (18, [0, 2, 8, 9, 10, 11, 16]), (22, [0, 2, 8, 9, 10, 11, 16, 17, 76, 77, 78])], [(14, 12), (25, 28)], []⟩ := rfl
attribute [simp] c_impl_choose g_impl_choose Go.Proofs.Try.f140
theorem e_impl_choose : enterG P (G 140) 140 = some (c_impl_choose, 183, #[.tmp 6, .tmp 7]) := by kernel_rfl
noncomputable def c_spec_l1Cur_one5 : Code := Go.Proofs.Try.f143.body.getD .skip
abbrev n_spec_l1Cur_one5 : FuncId := 143
theorem g_spec_l1Cur_one5 : G 143 = ⟨[], [], []⟩ := rfl
attribute [simp] c_spec_l1Cur_one5 g_spec_l1Cur_one5 Go.Proofs.Try.f143
theorem e_spec_l1Cur_one5 : enterG P (G 143) 143 = some (c_spec_l1Cur_one5, 11, #[.tmp 2]) := by kernel_rfl
noncomputable def c_spec_l5Two : Code := Go.Proofs.Try.f155.body.getD .skip
abbrev n_spec_l5Two : FuncId := 155
theorem g_spec_l5Two : G 155 = ⟨[], [], []⟩ := rfl
attribute [simp] c_spec_l5Two g_spec_l5Two Go.Proofs.Try.f155
theorem e_spec_l5Two : enterG P (G 155) 155 = some (c_spec_l5Two, 15, #[.tmp 4]) := by kernel_rfl
noncomputable def c_spec_l2Value : Code := Go.Proofs.Try.f300.body.getD .skip
abbrev n_spec_l2Value : FuncId := 300
theorem g_spec_l2Value : G 300 = ⟨[], [], []⟩ := rfl
attribute [simp] c_spec_l2Value g_spec_l2Value Go.Proofs.Try.f300
theorem e_spec_l2Value : enterG P (G 300) 300 = some (c_spec_l2Value, 13, #[.tmp 6]) := by kernel_rfl
noncomputable def c_spec_l2Try : Code := Go.Proofs.Try.f296.body.getD .skip
abbrev n_spec_l2Try : FuncId := 296
theorem g_spec_l2Try : G 296 = ⟨[(9, [0, 1, 2, 7, 8, 10])], [], [(12, 8, [(5, 2)])]⟩ := rfl
attribute [simp] c_spec_l2Try g_spec_l2Try Go.Proofs.Try.f296
theorem e_spec_l2Try : enterG P (G 296) 296 = some (c_spec_l2Try, 62, #[.cell 8 175]) := by kernel_rfl
noncomputable def c_spec_l2All : Code := Go.Proofs.Try.f259.body.getD .skip
abbrev n_spec_l2All : FuncId := 259
theorem g_spec_l2All : G 259 = ⟨[], [], []⟩ := rfl
attribute [simp] c_spec_l2All g_spec_l2All Go.Proofs.Try.f259
theorem e_spec_l2All : enterG P (G 259) 259 = some (c_spec_l2All, 10, #[.cell 4 175]) := by kernel_rfl
noncomputable def c_spec_l2Best : Code := Go.Proofs.Try.f146.body.getD .skip
abbrev n_spec_l2Best : FuncId := 146
theorem g_spec_l2Best : G 146 = ⟨[], [(2, 5)], []⟩ := rfl
attribute [simp] c_spec_l2Best g_spec_l2Best Go.Proofs.Try.f146
theorem e_spec_l2Best : enterG P (G 146) 146 = some (c_spec_l2Best, 14, #[.tmp 4, .tmp 5]) := by kernel_rfl
noncomputable def c_spec_l5Bound : Code := Go.Proofs.Try.f158.body.getD .skip
abbrev n_spec_l5Bound : FuncId := 158
theorem g_spec_l5Bound : G 158 = ⟨[(4, [0, 1, 2, 7, 8, 9, 10]), (12, [0, 2, 9, 12, 13])], [(7, 12), (14, 11)], []⟩ := rfl
attribute [simp] c_spec_l5Bound g_spec_l5Bound Go.Proofs.Try.f158
theorem e_spec_l5Bound : enterG P (G 158) 158 = some (c_spec_l5Bound, 76, #[.tmp 6]) := by kernel_rfl
noncomputable def c_spec_l5Find : Code := Go.Proofs.Try.f162.body.getD .skip
abbrev n_spec_l5Find : FuncId := 162
theorem g_spec_l5Find : G 162 = ⟨[(5, [0, 1, 2, 3, 4, 11, 12])], [], []⟩ := rfl
attribute [simp] c_spec_l5Find g_spec_l5Find Go.Proofs.Try.f162
theorem e_spec_l5Find : enterG P (G 162) 162 = some (c_spec_l5Find, 55, #[.tmp 10]) := by kernel_rfl
noncomputable def c_spec_FindCases : Code := Go.Proofs.Try.f42.body.getD .skip
abbrev n_spec_FindCases : FuncId := 42
theorem g_spec_FindCases : G 42 = ⟨[], [], []⟩ := rfl
attribute [simp] c_spec_FindCases g_spec_FindCases Go.Proofs.Try.f42
theorem e_spec_FindCases : enterG P (G 42) 42 = some (c_spec_FindCases, 30, #[.tmp 4, .tmp 5]) := by kernel_rfl
noncomputable def c_spec_l1Cur_prefix5 : Code := Go.Proofs.Try.f145.body.getD .skip
abbrev n_spec_l1Cur_prefix5 : FuncId := 145
theorem g_spec_l1Cur_prefix5 : G 145 = ⟨[], [], []⟩ := rfl
attribute [simp] c_spec_l1Cur_prefix5 g_spec_l1Cur_prefix5 Go.Proofs.Try.f145
theorem e_spec_l1Cur_prefix5 : enterG P (G 145) 145 = some (c_spec_l1Cur_prefix5, 17, #[.tmp 4]) := by kernel_rfl
noncomputable def c_spec_l1Least : Code := Go.Proofs.Try.f148.body.getD .skip
abbrev n_spec_l1Least : FuncId := 148
theorem g_spec_l1Least : G 148 = ⟨[], [], []⟩ := rfl
attribute [simp] c_spec_l1Least g_spec_l1Least Go.Proofs.Try.f148
theorem e_spec_l1Least : enterG P (G 148) 148 = some (c_spec_l1Least, 10, #[.tmp 4]) := by kernel_rfl
noncomputable def c_spec_DrawIsCases : Code := Go.Proofs.Try.f34.body.getD .skip
abbrev n_spec_DrawIsCases : FuncId := 34
theorem g_spec_DrawIsCases : G 34 = ⟨[], [(14, 10), (19, 13)], []⟩ := rfl
attribute [simp] c_spec_DrawIsCases g_spec_DrawIsCases Go.Proofs.Try.f34
theorem e_spec_DrawIsCases : enterG P (G 34) 34 = some (c_spec_DrawIsCases, 114, #[.tmp 2, .tmp 3, .tmp 4, .tmp 5]) := by kernel_rfl
noncomputable def c_impl_isSplitObjective : Code := Go.Proofs.Try.f149.body.getD .skip
abbrev n_impl_isSplitObjective : FuncId := 149
theorem g_impl_isSplitObjective : G 149 = ⟨[], [], []⟩ := rfl
attribute [simp] c_impl_isSplitObjective g_impl_isSplitObjective Go.Proofs.Try.f149
theorem e_impl_isSplitObjective : enterG P (G 149) 149 = some (c_impl_isSplitObjective, 9, #[.tmp 2]) := by kernel_rfl
noncomputable def c_impl_prefixBound : Code := Go.Proofs.Try.f151.body.getD .skip
abbrev n_impl_prefixBound : FuncId := 151
theorem g_impl_prefixBound : G 151 = ⟨[], [], []⟩ := rfl
attribute [simp] c_impl_prefixBound g_impl_prefixBound Go.Proofs.Try.f151
theorem e_impl_prefixBound : enterG P (G 151) 151 = some (c_impl_prefixBound, 20, #[.tmp 6]) := by kernel_rfl
noncomputable def c_impl_compareLists : Code := Go.Proofs.Try.f152.body.getD .skip
abbrev n_impl_compareLists : FuncId := 152
theorem g_impl_compareLists : G 152 = ⟨[(2, [0, 1, 5])], [(4, 8), (5, 8)], []⟩ := rfl
attribute [simp] c_impl_compareLists g_impl_compareLists Go.Proofs.Try.f152
theorem e_impl_compareLists : enterG P (G 152) 152 = some (c_impl_compareLists, 41, #[.tmp 4]) := by kernel_rfl
noncomputable def c_impl_beginsWith : Code := Go.Proofs.Try.f153.body.getD .skip
abbrev n_impl_beginsWith : FuncId := 153
theorem g_impl_beginsWith : G 153 = ⟨[], [], []⟩ := rfl
attribute [simp] c_impl_beginsWith g_impl_beginsWith Go.Proofs.Try.f153
theorem e_impl_beginsWith : enterG P (G 153) 153 = some (c_impl_beginsWith, 19, #[.tmp 4]) := by kernel_rfl
noncomputable def c_impl_factorial : Code := Go.Proofs.Try.f154.body.getD .skip
abbrev n_impl_factorial : FuncId := 154
theorem g_impl_factorial : G 154 = ⟨[(2, [0, 3])], [], []⟩ := rfl
attribute [simp] c_impl_factorial g_impl_factorial Go.Proofs.Try.f154
theorem e_impl_factorial : enterG P (G 154) 154 = some (c_impl_factorial, 12, #[.tmp 2]) := by kernel_rfl
noncomputable def c_impl_IsCases : Code := Go.Proofs.Try.f35.body.getD .skip
abbrev n_impl_IsCases : FuncId := 35
theorem g_impl_IsCases : G 35 = ⟨[(7, [0, 1, 2, 3, 10, 24, 25, 26])], [], []⟩ := rfl
attribute [simp] c_impl_IsCases g_impl_IsCases Go.Proofs.Try.f35
theorem e_impl_IsCases : enterG P (G 35) 35 = some (c_impl_IsCases, 79, #[.tmp 8, .tmp 9]) := by kernel_rfl
noncomputable def c_spec_l5Prefix : Code := Go.Proofs.Try.f157.body.getD .skip
abbrev n_spec_l5Prefix : FuncId := 157
theorem g_spec_l5Prefix : G 157 = ⟨[(2, [0, 1, 5])], [(4, 15)], []⟩ := rfl
attribute [simp] c_spec_l5Prefix g_spec_l5Prefix Go.Proofs.Try.f157
theorem e_spec_l5Prefix : enterG P (G 157) 157 = some (c_spec_l5Prefix, 29, #[.tmp 4]) := by kernel_rfl
noncomputable def c_spec_l1Same : Code := Go.Proofs.Try.f297.body.getD .skip
abbrev n_spec_l1Same : FuncId := 297
theorem g_spec_l1Same : G 297 = ⟨[(4, [0, 1, 5])], [(6, 8)], []⟩ := rfl
attribute [simp] c_spec_l1Same g_spec_l1Same Go.Proofs.Try.f297
theorem e_spec_l1Same : enterG P (G 297) 297 = some (c_spec_l1Same, 26, #[.tmp 4]) := by kernel_rfl
noncomputable def c_spec_l5Begins : Code := Go.Proofs.Try.f298.body.getD .skip
abbrev n_spec_l5Begins : FuncId := 298
theorem g_spec_l5Begins : G 298 = ⟨[], [], []⟩ := rfl
attribute [simp] c_spec_l5Begins g_spec_l5Begins Go.Proofs.Try.f298
theorem e_spec_l5Begins : enterG P (G 298) 298 = some (c_spec_l5Begins, 18, #[.tmp 4]) := by kernel_rfl
noncomputable def c_spec_l5Covers : Code := Go.Proofs.Try.f260.body.getD .skip
abbrev n_spec_l5Covers : FuncId := 260
theorem g_spec_l5Covers : G 260 = ⟨[(6, [0, 1, 2, 8])], [], []⟩ := rfl
attribute [simp] c_spec_l5Covers g_spec_l5Covers Go.Proofs.Try.f260
theorem e_spec_l5Covers : enterG P (G 260) 260 = some (c_spec_l5Covers, 66, #[.tmp 6, .tmp 7]) := by kernel_rfl
noncomputable def c_spec_l5Cases : Code := Go.Proofs.Try.f156.body.getD .skip
abbrev n_spec_l5Cases : FuncId := 156
theorem g_spec_l5Cases : G 156 = ⟨[(4, [0, 1, 2, 3, 9])], [], []⟩ := rfl
attribute [simp] c_spec_l5Cases g_spec_l5Cases Go.Proofs.Try.f156
theorem e_spec_l5Cases : enterG P (G 156) 156 = some (c_spec_l5Cases, 52, #[.tmp 8]) := by kernel_rfl
noncomputable def c_spec_IsCases : Code := Go.Proofs.Try.f36.body.getD .skip
abbrev n_spec_IsCases : FuncId := 36
theorem g_spec_IsCases : G 36 = ⟨[], [], []⟩ := rfl
attribute [simp] c_spec_IsCases g_spec_IsCases Go.Proofs.Try.f36
theorem e_spec_IsCases : enterG P (G 36) 36 = some (c_spec_IsCases, 19, #[.tmp 8, .tmp 9]) := by kernel_rfl
noncomputable def c_spec_DrawPrefixBound : Code := Go.Proofs.Try.f37.body.getD .skip
abbrev n_spec_DrawPrefixBound : FuncId := 37
theorem g_spec_DrawPrefixBound : G 37 = ⟨[], [], []⟩ := rfl
attribute [simp] c_spec_DrawPrefixBound g_spec_DrawPrefixBound Go.Proofs.Try.f37
theorem e_spec_DrawPrefixBound : enterG P (G 37) 37 = some (c_spec_DrawPrefixBound, 18, #[.tmp 2, .tmp 3, .tmp 4]) := by kernel_rfl
noncomputable def c_impl_PrefixBound : Code := Go.Proofs.Try.f38.body.getD .skip
abbrev n_impl_PrefixBound : FuncId := 38
theorem g_impl_PrefixBound : G 38 = ⟨[], [], []⟩ := rfl
attribute [simp] c_impl_PrefixBound g_impl_PrefixBound Go.Proofs.Try.f38
theorem e_impl_PrefixBound : enterG P (G 38) 38 = some (c_impl_PrefixBound, 27, #[.tmp 6, .tmp 7]) := by kernel_rfl
noncomputable def c_spec_PrefixBound : Code := Go.Proofs.Try.f39.body.getD .skip
abbrev n_spec_PrefixBound : FuncId := 39
theorem g_spec_PrefixBound : G 39 = ⟨[], [], []⟩ := rfl
attribute [simp] c_spec_PrefixBound g_spec_PrefixBound Go.Proofs.Try.f39
theorem e_spec_PrefixBound : enterG P (G 39) 39 = some (c_spec_PrefixBound, 22, #[.tmp 6, .tmp 7]) := by kernel_rfl
noncomputable def c_spec_DrawSplitGain : Code := Go.Proofs.Try.f159.body.getD .skip
abbrev n_spec_DrawSplitGain : FuncId := 159
theorem g_spec_DrawSplitGain : G 159 = ⟨[], [], []⟩ := rfl
attribute [simp] c_spec_DrawSplitGain g_spec_DrawSplitGain Go.Proofs.Try.f159
theorem e_spec_DrawSplitGain : enterG P (G 159) 159 = some (c_spec_DrawSplitGain, 12, #[.tmp 2, .tmp 3]) := by kernel_rfl
noncomputable def c_spec_DrawFindCases : Code := Go.Proofs.Try.f40.body.getD .skip
abbrev n_spec_DrawFindCases : FuncId := 40
theorem g_spec_DrawFindCases : G 40 = ⟨[], [], []⟩ := rfl
attribute [simp] c_spec_DrawFindCases g_spec_DrawFindCases Go.Proofs.Try.f40
theorem e_spec_DrawFindCases : enterG P (G 40) 40 = some (c_spec_DrawFindCases, 8, #[.tmp 2, .tmp 3]) := by kernel_rfl
noncomputable def c_impl_copyInts : Code := Go.Proofs.Try.f193.body.getD .skip
abbrev n_impl_copyInts : FuncId := 193
theorem g_impl_copyInts : G 193 = ⟨[], [], []⟩ := rfl
attribute [simp] c_impl_copyInts g_impl_copyInts Go.Proofs.Try.f193
theorem e_impl_copyInts : enterG P (G 193) 193 = some (c_impl_copyInts, 6, #[.tmp 2]) := by kernel_rfl
noncomputable def c_impl_best_1 : Code := Go.Proofs.Try.f261.body.getD .skip
abbrev n_impl_best_1 : FuncId := 261
theorem g_impl_best_1 : G 261 = ⟨[], [], []⟩ := rfl
attribute [simp] c_impl_best_1 g_impl_best_1 Go.Proofs.Try.f261
theorem e_impl_best_1 : enterG P (G 261) 261 = some (c_impl_best_1, 29, #[]) := by kernel_rfl
noncomputable def c_impl_numbersTo : Code := Go.Proofs.Try.f245.body.getD .skip
abbrev n_impl_numbersTo : FuncId := 245
theorem g_impl_numbersTo : G 245 = ⟨[(3, [0, 3, 4])], [], []⟩ := rfl
attribute [simp] c_impl_numbersTo g_impl_numbersTo Go.Proofs.Try.f245
theorem e_impl_numbersTo : enterG P (G 245) 245 = some (c_impl_numbersTo, 15, #[.tmp 2]) := by kernel_rfl
noncomputable def c_impl_nextOrder : Code := Go.Proofs.Try.f267.body.getD .skip
abbrev n_impl_nextOrder : FuncId := 267
theorem g_impl_nextOrder : G 267 = ⟨[(2, [0, 3]), (7, [0, 3, 4]), (11, [0, 5, 6])], [(2, 12), (7, 8), (9, 13), (13, 13)], []⟩ := rfl
attribute [simp] c_impl_nextOrder g_impl_nextOrder Go.Proofs.Try.f267
theorem e_impl_nextOrder : enterG P (G 267) 267 = some (c_impl_nextOrder, 82, #[.tmp 2]) := by kernel_rfl
noncomputable def c_impl_eachOrder : Code := Go.Proofs.Try.f191.body.getD .skip
abbrev n_impl_eachOrder : FuncId := 191
theorem g_impl_eachOrder : G 191 = ⟨[(1, [1, 4])], [], []⟩ := rfl
attribute [simp] c_impl_eachOrder g_impl_eachOrder Go.Proofs.Try.f191
theorem e_impl_eachOrder : enterG P (G 191) 191 = some (c_impl_eachOrder, 13, #[]) := by kernel_rfl
noncomputable def c_impl_best : Code := Go.Proofs.Try.f160.body.getD .skip
abbrev n_impl_best : FuncId := 160
theorem g_impl_best : G 160 = ⟨[], [(4, 5)], []⟩ := rfl
attribute [simp] c_impl_best g_impl_best Go.Proofs.Try.f160
theorem e_impl_best : enterG P (G 160) 160 = some (c_impl_best, 17, #[.tmp 4, .tmp 5, .tmp 6]) := by kernel_rfl
noncomputable def c_impl_others : Code := Go.Proofs.Try.f262.body.getD .skip
abbrev n_impl_others : FuncId := 262
theorem g_impl_others : G 262 = ⟨[(3, [0, 1, 5, 6])], [], []⟩ := rfl
attribute [simp] c_impl_others g_impl_others Go.Proofs.Try.f262
theorem e_impl_others : enterG P (G 262) 262 = some (c_impl_others, 21, #[.tmp 4]) := by kernel_rfl
noncomputable def c_impl_findCases : Code := Go.Proofs.Try.f161.body.getD .skip
abbrev n_impl_findCases : FuncId := 161
theorem g_impl_findCases : G 161 = ⟨[(5, [0, 1, 2, 3, 4, 31, 32, 33])], [], []⟩ := rfl
attribute [simp] c_impl_findCases g_impl_findCases Go.Proofs.Try.f161
theorem e_impl_findCases : enterG P (G 161) 161 = some (c_impl_findCases, 54, #[.tmp 10, .tmp 11]) := by kernel_rfl
noncomputable def c_impl_FindCases : Code := Go.Proofs.Try.f41.body.getD .skip
abbrev n_impl_FindCases : FuncId := 41
theorem g_impl_FindCases : G 41 = ⟨[], [], []⟩ := rfl
attribute [simp] c_impl_FindCases g_impl_FindCases Go.Proofs.Try.f41
theorem e_impl_FindCases : enterG P (G 41) 41 = some (c_impl_FindCases, 36, #[.tmp 4, .tmp 5]) := by kernel_rfl
noncomputable def c_impl_SplitGain : Code := Go.Proofs.Try.f43.body.getD .skip
abbrev n_impl_SplitGain : FuncId := 43
theorem g_impl_SplitGain : G 43 = ⟨[], [], []⟩ := rfl
attribute [simp] c_impl_SplitGain g_impl_SplitGain Go.Proofs.Try.f43
theorem e_impl_SplitGain : enterG P (G 43) 43 = some (c_impl_SplitGain, 29, #[.tmp 4, .tmp 5]) := by kernel_rfl
noncomputable def c_spec_SplitGain : Code := Go.Proofs.Try.f44.body.getD .skip
abbrev n_spec_SplitGain : FuncId := 44
theorem g_spec_SplitGain : G 44 = ⟨[], [], []⟩ := rfl
attribute [simp] c_spec_SplitGain g_spec_SplitGain Go.Proofs.Try.f44
theorem e_spec_SplitGain : enterG P (G 44) 44 = some (c_spec_SplitGain, 24, #[.tmp 4, .tmp 5]) := by kernel_rfl
noncomputable def c_laws_vTable : Code := Go.Proofs.Try.f45.body.getD .skip
abbrev n_laws_vTable : FuncId := 45
theorem g_laws_vTable : G 45 = ⟨[(4, [0, 1, 5])], [(6, 8)], []⟩ := rfl
attribute [simp] c_laws_vTable g_laws_vTable Go.Proofs.Try.f45
theorem e_laws_vTable : enterG P (G 45) 45 = some (c_laws_vTable, 27, #[.tmp 4]) := by kernel_rfl
noncomputable def c_impl_BestValue : Code := Go.Proofs.Try.f46.body.getD .skip
abbrev n_impl_BestValue : FuncId := 46
theorem g_impl_BestValue : G 46 = ⟨[], [], []⟩ := rfl
attribute [simp] c_impl_BestValue g_impl_BestValue Go.Proofs.Try.f46
theorem e_impl_BestValue : enterG P (G 46) 46 = some (c_impl_BestValue, 25, #[.tmp 4, .tmp 5]) := by kernel_rfl
noncomputable def c_laws_vOwn : Code := Go.Proofs.Try.f47.body.getD .skip
abbrev n_laws_vOwn : FuncId := 47
theorem g_laws_vOwn : G 47 = ⟨[], [], []⟩ := rfl
attribute [simp] c_laws_vOwn g_laws_vOwn Go.Proofs.Try.f47
theorem e_laws_vOwn : enterG P (G 47) 47 = some (c_laws_vOwn, 6, #[.tmp 2]) := by kernel_rfl
noncomputable def c_laws_vHas : Code := Go.Proofs.Try.f48.body.getD .skip
abbrev n_laws_vHas : FuncId := 48
theorem g_laws_vHas : G 48 = ⟨[(2, [0, 1, 5])], [], []⟩ := rfl
attribute [simp] c_laws_vHas g_laws_vHas Go.Proofs.Try.f48
theorem e_laws_vHas : enterG P (G 48) 48 = some (c_laws_vHas, 18, #[.tmp 4]) := by kernel_rfl
noncomputable def c_laws_FnCases : Code := Go.Proofs.Try.f4.body.getD .skip
abbrev n_laws_FnCases : FuncId := 4
theorem g_laws_FnCases : G 4 = ⟨[(23, [11, 12, 13, 14, 18, 19, 20, 21, 24, 30, 31])], [], []⟩ := rfl
attribute [simp] c_laws_FnCases g_laws_FnCases Go.Proofs.Try.f4
theorem e_laws_FnCases : enterG P (G 4) 4 = some (c_laws_FnCases, 214, #[.tmp 2]) := by kernel_rfl
end Go.Pm.PP
