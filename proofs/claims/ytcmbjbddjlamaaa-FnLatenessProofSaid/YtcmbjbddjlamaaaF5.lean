/- What is told of the functions that the laws reach: printed by a program of this work. -/
import Derived.Test.YtcmbjbddjlamaaaProg
import Derived.KernelRfl
import Derived.Test.YtcmbjbddjlamaaaM4

set_option linter.unusedVariables false
set_option linter.unusedSimpArgs false
namespace Go.Pm.PP
open Go.Pm
noncomputable abbrev P : Program := Go.Proofs.Try.prog
abbrev t_int : TypeId := 3
theorem u_int : P.underlying 3 = some (.int .i64) := by kernel_rfl
theorem a_int : (P.underlying 3).map aggD = some false := by kernel_rfl
theorem i_int : (P.info? 3).map (·.size) = some 1 := by kernel_rfl
noncomputable def ti_3 : TypeInfo := (P.info? 3).getD default
@[simp] theorem ti_3_eq : P.info? 3 = some ti_3 := by kernel_rfl
@[simp] theorem ti_3_size : ti_3.size = 1 := by kernel_rfl
@[simp] theorem ti_3_bytes : ti_3.bytes = 8 := by kernel_rfl
@[simp] theorem ti_3_zero : ti_3.zero = some (.int .i64 0) := by kernel_rfl
theorem e_t_int : P.info? 3 = some ti_3 := ti_3_eq
theorem s_t_int : ti_3.size = 1 := ti_3_size
theorem b_t_int : ti_3.bytes = 8 := ti_3_bytes
theorem z_t_int : zeroP P 3 = some (.int .i64 0) := zero_some ti_3_eq ti_3_zero rfl (by rw [ti_3_size]; rfl)
noncomputable def ti_4 : TypeInfo := (P.info? 4).getD default
@[simp] theorem ti_4_eq : P.info? 4 = some ti_4 := by kernel_rfl
@[simp] theorem ti_4_size : ti_4.size = 1 := by kernel_rfl
@[simp] theorem ti_4_bytes : ti_4.bytes = 1 := by kernel_rfl
@[simp] theorem ti_4_zero : ti_4.zero = some (.bool false) := by kernel_rfl
abbrev t_u8 : TypeId := 5
theorem u_u8 : P.underlying 5 = some (.int .u8) := by kernel_rfl
theorem a_u8 : (P.underlying 5).map aggD = some false := by kernel_rfl
theorem i_u8 : (P.info? 5).map (·.size) = some 1 := by kernel_rfl
noncomputable def ti_5 : TypeInfo := (P.info? 5).getD default
@[simp] theorem ti_5_eq : P.info? 5 = some ti_5 := by kernel_rfl
@[simp] theorem ti_5_size : ti_5.size = 1 := by kernel_rfl
@[simp] theorem ti_5_bytes : ti_5.bytes = 1 := by kernel_rfl
@[simp] theorem ti_5_zero : ti_5.zero = some (.int .u8 0) := by kernel_rfl
abbrev t_S_u8 : TypeId := 22
theorem u_S_u8 : P.underlying 22 = some (.slice 5) := by kernel_rfl
noncomputable def ti_22 : TypeInfo := (P.info? 22).getD default
@[simp] theorem ti_22_eq : P.info? 22 = some ti_22 := by kernel_rfl
@[simp] theorem ti_22_size : ti_22.size = 1 := by kernel_rfl
@[simp] theorem ti_22_bytes : ti_22.bytes = 24 := by kernel_rfl
@[simp] theorem ti_22_zero : ti_22.zero = some (.slice none 0 0) := by kernel_rfl
abbrev t_S_impl_Job : TypeId := 24
theorem u_S_impl_Job : P.underlying 24 = some (.slice 85) := by kernel_rfl
noncomputable def ti_24 : TypeInfo := (P.info? 24).getD default
@[simp] theorem ti_24_eq : P.info? 24 = some ti_24 := by kernel_rfl
@[simp] theorem ti_24_size : ti_24.size = 1 := by kernel_rfl
@[simp] theorem ti_24_bytes : ti_24.bytes = 24 := by kernel_rfl
@[simp] theorem ti_24_zero : ti_24.zero = some (.slice none 0 0) := by kernel_rfl
abbrev t_S_int : TypeId := 25
theorem u_S_int : P.underlying 25 = some (.slice 3) := by kernel_rfl
noncomputable def ti_25 : TypeInfo := (P.info? 25).getD default
@[simp] theorem ti_25_eq : P.info? 25 = some ti_25 := by kernel_rfl
@[simp] theorem ti_25_size : ti_25.size = 1 := by kernel_rfl
@[simp] theorem ti_25_bytes : ti_25.bytes = 24 := by kernel_rfl
@[simp] theorem ti_25_zero : ti_25.zero = some (.slice none 0 0) := by kernel_rfl
theorem e_t_S_int : P.info? 25 = some ti_25 := ti_25_eq
abbrev t_S_impl_Span : TypeId := 44
theorem u_S_impl_Span : P.underlying 44 = some (.slice 168) := by kernel_rfl
noncomputable def ti_44 : TypeInfo := (P.info? 44).getD default
@[simp] theorem ti_44_eq : P.info? 44 = some ti_44 := by kernel_rfl
@[simp] theorem ti_44_size : ti_44.size = 1 := by kernel_rfl
@[simp] theorem ti_44_bytes : ti_44.bytes = 24 := by kernel_rfl
@[simp] theorem ti_44_zero : ti_44.zero = some (.slice none 0 0) := by kernel_rfl
noncomputable def ti_49 : TypeInfo := (P.info? 49).getD default
@[simp] theorem ti_49_eq : P.info? 49 = some ti_49 := by kernel_rfl
@[simp] theorem ti_49_size : ti_49.size = 1 := by kernel_rfl
@[simp] theorem ti_49_bytes : ti_49.bytes = 24 := by kernel_rfl
@[simp] theorem ti_49_zero : ti_49.zero = some (.slice none 0 0) := by kernel_rfl
noncomputable def ti_58 : TypeInfo := (P.info? 58).getD default
@[simp] theorem ti_58_eq : P.info? 58 = some ti_58 := by kernel_rfl
@[simp] theorem ti_58_size : ti_58.size = 2 := by kernel_rfl
@[simp] theorem ti_58_bytes : ti_58.bytes = 16 := by kernel_rfl
@[simp] theorem ti_58_zero : ti_58.zero = some (.agg #[.int .i64 0, .int .i64 0]) := by kernel_rfl
noncomputable def ti_80 : TypeInfo := (P.info? 80).getD default
@[simp] theorem ti_80_eq : P.info? 80 = some ti_80 := by kernel_rfl
@[simp] theorem ti_80_size : ti_80.size = 1 := by kernel_rfl
@[simp] theorem ti_80_bytes : ti_80.bytes = 24 := by kernel_rfl
@[simp] theorem ti_80_zero : ti_80.zero = some (.slice none 0 0) := by kernel_rfl
abbrev t_impl_Job : TypeId := 85
theorem a_impl_Job : (P.underlying 85).map aggD = some true := by kernel_rfl
theorem i_impl_Job : (P.info? 85).map (·.size) = some 4 := by kernel_rfl
noncomputable def ti_85 : TypeInfo := (P.info? 85).getD default
@[simp] theorem ti_85_eq : P.info? 85 = some ti_85 := by kernel_rfl
@[simp] theorem ti_85_size : ti_85.size = 4 := by kernel_rfl
@[simp] theorem ti_85_bytes : ti_85.bytes = 32 := by kernel_rfl
@[simp] theorem ti_85_zero : ti_85.zero = some (.agg #[.int .i64 0, .int .i64 0, .int .i64 0, .int .i64 0]) := by kernel_rfl
theorem e_t_impl_Job : P.info? 85 = some ti_85 := ti_85_eq
theorem s_t_impl_Job : ti_85.size = 4 := ti_85_size
theorem b_t_impl_Job : ti_85.bytes = 32 := ti_85_bytes
theorem z_t_impl_Job : zeroP P 85 = some (.agg #[.int .i64 0, .int .i64 0, .int .i64 0, .int .i64 0]) := zero_some ti_85_eq ti_85_zero rfl (by rw [ti_85_size]; rfl)
noncomputable def ti_87 : TypeInfo := (P.info? 87).getD default
@[simp] theorem ti_87_eq : P.info? 87 = some ti_87 := by kernel_rfl
@[simp] theorem ti_87_size : ti_87.size = 1 := by kernel_rfl
@[simp] theorem ti_87_bytes : ti_87.bytes = 24 := by kernel_rfl
@[simp] theorem ti_87_zero : ti_87.zero = some (.slice none 0 0) := by kernel_rfl
noncomputable def ti_92 : TypeInfo := (P.info? 92).getD default
@[simp] theorem ti_92_eq : P.info? 92 = some ti_92 := by kernel_rfl
@[simp] theorem ti_92_size : ti_92.size = 1 := by kernel_rfl
@[simp] theorem ti_92_bytes : ti_92.bytes = 8 := by kernel_rfl
@[simp] theorem ti_92_zero : ti_92.zero = some (.pointer none) := by kernel_rfl
abbrev t_u64 : TypeId := 93
theorem u_u64 : P.underlying 93 = some (.int .u64) := by kernel_rfl
noncomputable def ti_93 : TypeInfo := (P.info? 93).getD default
@[simp] theorem ti_93_eq : P.info? 93 = some ti_93 := by kernel_rfl
@[simp] theorem ti_93_size : ti_93.size = 1 := by kernel_rfl
@[simp] theorem ti_93_bytes : ti_93.bytes = 8 := by kernel_rfl
@[simp] theorem ti_93_zero : ti_93.zero = some (.int .u64 0) := by kernel_rfl
theorem e_t_u64 : P.info? 93 = some ti_93 := ti_93_eq
noncomputable def ti_95 : TypeInfo := (P.info? 95).getD default
@[simp] theorem ti_95_eq : P.info? 95 = some ti_95 := by kernel_rfl
@[simp] theorem ti_95_size : ti_95.size = 3 := by kernel_rfl
@[simp] theorem ti_95_bytes : ti_95.bytes = 40 := by kernel_rfl
@[simp] theorem ti_95_zero : ti_95.zero = some (.agg #[.slice none 0 0, .int .i64 0, .int .u64 0]) := by kernel_rfl
noncomputable def ti_107 : TypeInfo := (P.info? 107).getD default
@[simp] theorem ti_107_eq : P.info? 107 = some ti_107 := by kernel_rfl
@[simp] theorem ti_107_size : ti_107.size = 1 := by kernel_rfl
@[simp] theorem ti_107_bytes : ti_107.bytes = 8 := by kernel_rfl
@[simp] theorem ti_107_zero : ti_107.zero = some (.nilFunc) := by kernel_rfl
noncomputable def ti_124 : TypeInfo := (P.info? 124).getD default
@[simp] theorem ti_124_eq : P.info? 124 = some ti_124 := by kernel_rfl
@[simp] theorem ti_124_size : ti_124.size = 3 := by kernel_rfl
@[simp] theorem ti_124_bytes : ti_124.bytes = 72 := by kernel_rfl
@[simp] theorem ti_124_zero : ti_124.zero = some (.agg #[.slice none 0 0, .slice none 0 0, .slice none 0 0]) := by kernel_rfl
noncomputable def ti_133 : TypeInfo := (P.info? 133).getD default
@[simp] theorem ti_133_eq : P.info? 133 = some ti_133 := by kernel_rfl
@[simp] theorem ti_133_size : ti_133.size = 1 := by kernel_rfl
@[simp] theorem ti_133_bytes : ti_133.bytes = 24 := by kernel_rfl
@[simp] theorem ti_133_zero : ti_133.zero = some (.slice none 0 0) := by kernel_rfl
noncomputable def ti_137 : TypeInfo := (P.info? 137).getD default
@[simp] theorem ti_137_eq : P.info? 137 = some ti_137 := by kernel_rfl
@[simp] theorem ti_137_size : ti_137.size = 1 := by kernel_rfl
@[simp] theorem ti_137_bytes : ti_137.bytes = 8 := by kernel_rfl
@[simp] theorem ti_137_zero : ti_137.zero = some (.nilFunc) := by kernel_rfl
noncomputable def ti_148 : TypeInfo := (P.info? 148).getD default
@[simp] theorem ti_148_eq : P.info? 148 = some ti_148 := by kernel_rfl
@[simp] theorem ti_148_size : ti_148.size = 3 := by kernel_rfl
@[simp] theorem ti_148_bytes : ti_148.bytes = 40 := by kernel_rfl
@[simp] theorem ti_148_zero : ti_148.zero = some (.agg #[.slice none 0 0, .int .i64 0, .int .i64 0]) := by kernel_rfl
abbrev t_impl_Span : TypeId := 168
theorem a_impl_Span : (P.underlying 168).map aggD = some true := by kernel_rfl
theorem i_impl_Span : (P.info? 168).map (·.size) = some 3 := by kernel_rfl
noncomputable def ti_168 : TypeInfo := (P.info? 168).getD default
@[simp] theorem ti_168_eq : P.info? 168 = some ti_168 := by kernel_rfl
@[simp] theorem ti_168_size : ti_168.size = 3 := by kernel_rfl
@[simp] theorem ti_168_bytes : ti_168.bytes = 24 := by kernel_rfl
@[simp] theorem ti_168_zero : ti_168.zero = some (.agg #[.int .i64 0, .int .i64 0, .int .i64 0]) := by kernel_rfl
theorem e_t_impl_Span : P.info? 168 = some ti_168 := ti_168_eq
theorem s_t_impl_Span : ti_168.size = 3 := ti_168_size
theorem b_t_impl_Span : ti_168.bytes = 24 := ti_168_bytes
theorem z_t_impl_Span : zeroP P 168 = some (.agg #[.int .i64 0, .int .i64 0, .int .i64 0]) := zero_some ti_168_eq ti_168_zero rfl (by rw [ti_168_size]; rfl)
def G : FuncId → GI
  | 297 => ⟨[], [(2, 9), (3, 8), (6, 9)], []⟩
  | 219 => ⟨[(4, [0, 1, 2, 7, 8]), (11, [0, 1, 7])], [], []⟩
  | 162 => ⟨[(5, [0, 3, 4])], [], []⟩
  | 149 => ⟨[(3, [0, 1, 5, 6])], [], [(6, 11, [(7, 4)])]⟩
  | 169 => ⟨[(2, [0, 3])], [], []⟩
  | 170 => ⟨[(2, [0, 3])], [], []⟩
  | 166 => ⟨[], [(1, 10)], []⟩
  | 152 => ⟨[(3, [0, 1, 5, 6]), (6, [0, 1, 5, 6, 7])], [], [(8, 10, [(6, 3)])]⟩
  | 167 => ⟨[(4, [8, 9, 10])], [], []⟩
  | 168 => ⟨[(2, [5, 6, 7])], [], []⟩
  | 281 => ⟨[(2, [1, 7, 8, 9])], [], []⟩
  | 305 => ⟨[(2, [0, 1, 7, 8, 9])], [], []⟩
  | 17 => ⟨[(4, [0, 1, 2, 8])], [(6, 16)], []⟩
  | 196 => ⟨[(2, [0, 1, 5])], [], []⟩
  | 298 => ⟨[(4, [0, 1, 5])], [], []⟩
  | 158 => ⟨[(2, [0, 1, 2, 7])], [(4, 11)], []⟩
  | 247 => ⟨[(3, [0, 3, 4])], [], []⟩
  | 299 => ⟨[], [(1, 9)], []⟩
  | 272 => ⟨[(3, [1, 5, 9, 10, 11]), (6, [1, 5, 7, 8, 9, 10, 11])], [(9, 7)], []⟩
  | 24 => ⟨[], [(3, 9)], []⟩
  | 26 => ⟨[(4, [0, 1, 5])], [(6, 8)], []⟩
  | 206 => ⟨[(4, [0, 5, 6, 12, 13, 14])], [(6, 12)], []⟩
  | 187 => ⟨[(3, [1, 2, 7, 10, 11, 12])], [(5, 9)], []⟩
  | 312 => ⟨[(2, [0, 3]), (7, [0, 3, 4]), (11, [0, 5, 6])], [(2, 12), (7, 8), (9, 13), (13, 13)], []⟩
  | 211 => ⟨[(1, [1, 4])], [], []⟩
  | 172 => ⟨[], [(4, 5)], []⟩
  | 174 => ⟨[(3, [0, 3, 4])], [], []⟩
  | 30 => ⟨[(5, [4, 5, 6, 7])], [], []⟩
  | 304 => ⟨[(2, [0, 3])], [(4, 9)], []⟩
  | 177 => ⟨[(3, [0, 5, 6, 7, 10, 11, 12])], [(5, 15)], []⟩
  | 178 => ⟨[(2, [0, 1, 2, 7])], [(4, 21)], []⟩
  | 306 => ⟨[(3, [0, 1, 5, 6])], [], []⟩
  | 179 => ⟨[(3, [0, 1, 5, 6, 7])], [(1, 15)], []⟩
  | 180 => ⟨[(3, [0, 3, 4])], [], []⟩
  | 181 => ⟨[(2, [0, 1, 5])], [(4, 8), (5, 8)], []⟩
  | 33 => ⟨[(5, [0, 4, 5])], [(100003, 0)], []⟩
  | 182 => ⟨[(3, [0, 1, 5, 6])], [], []⟩
  | 183 => ⟨[(2, [0, 1, 5])], [(4, 8), (5, 8)], []⟩
  | 34 => ⟨[(5, [0, 4, 5])], [], []⟩
  | 184 => ⟨[(5, [0, 1, 2, 8, 9, 10, 11, 27, 28, 29]), (12, [0, 2, 8, 9, 10, 11, 48, 49, 50]), (18, [0, 2, 8, 9, 10, 11, 16]), (22, [0, 2, 8, 9, 10, 11, 16, 17, 76, 77, 78])], [(14, 12), (25, 28)], []⟩
  | 185 => ⟨[(3, [0, 1, 5, 13, 14, 15]), (12, [5, 97, 98, 99])], [(5, 22), (7, 31), (9, 10), (14, 6)], []⟩
  | 188 => ⟨[(3, [5, 11, 12, 13])], [], []⟩
  | 191 => ⟨[(4, [0, 3, 4, 5])], [], []⟩
  | 192 => ⟨[(5, [0, 6, 7, 8, 18, 19, 20]), (13, [0, 6, 7, 8, 10, 12, 18, 19, 20, 42, 43, 44])], [(15, 13), (20, 7)], []⟩
  | 193 => ⟨[(3, [0, 1, 5, 6])], [], []⟩
  | 307 => ⟨[(3, [0, 1, 5, 6])], [(5, 16)], []⟩
  | 202 => ⟨[], [(1, 8)], []⟩
  | 194 => ⟨[(4, [0, 2, 3, 4, 5])], [(6, 7), (8, 12), (13, 9)], []⟩
  | 41 => ⟨[(6, [0, 4, 5, 6])], [], []⟩
  | 200 => ⟨[(2, [0, 1, 5])], [], [(6, 11, [(7, 4)])]⟩
  | 201 => ⟨[(2, [0, 1, 5])], [], []⟩
  | 48 => ⟨[(6, [1, 6, 7, 8]), (10, [1, 6, 7, 9])], [], []⟩
  | 49 => ⟨[(5, [4, 5, 6, 7])], [], []⟩
  | 309 => ⟨[], [(1, 10)], []⟩
  | 203 => ⟨[(3, [2, 5, 10, 11, 12])], [], []⟩
  | 204 => ⟨[(4, [0, 1, 5, 6, 7])], [], []⟩
  | 52 => ⟨[(4, [0, 1, 5])], [(6, 8)], []⟩
  | 53 => ⟨[(5, [0, 6, 15, 16, 17])], [], []⟩
  | 54 => ⟨[(2, [0, 1, 5])], [], []⟩
  | 55 => ⟨[(3, [0, 1, 5, 6])], [], []⟩
  | 5 => ⟨[(28, [16, 17, 18, 32, 34, 35]), (35, [16, 18, 34, 38]), (40, [16, 18, 34, 38, 39, 40, 41])], [], []⟩
  | 58 => ⟨[], [(3, 10)], []⟩
  | 310 => ⟨[(2, [0, 3])], [], []⟩
  | 59 => ⟨[], [(4, 28)], []⟩
  | 210 => ⟨[(3, [0, 1, 5, 15, 16]), (8, [0, 5, 25, 26, 27]), (13, [0, 5, 9]), (16, [0, 5, 9, 10]), (19, [0, 5, 9, 10, 11])], [(10, 7), (21, 30)], []⟩
  | 311 => ⟨[(4, [0, 1, 17, 18, 19]), (13, [7, 83, 84])], [(8, 31)], []⟩
  | 213 => ⟨[(2, [0, 1, 9, 10, 11]), (5, [0, 1, 6, 9, 10, 11, 18, 19, 20])], [], []⟩
  | 336 => ⟨[(2, [0, 1, 5])], [(4, 46)], []⟩
  | 315 => ⟨[(3, [0, 1, 5, 6]), (7, [0, 1, 5, 7]), (11, [0, 5, 8]), (14, [0, 5, 8, 9]), (17, [0, 5, 8, 9, 10])], [(9, 13)], []⟩
  | 313 => ⟨[(5, [0, 5, 6])], [], []⟩
  | 329 => ⟨[(3, [0, 1, 5, 6, 7])], [(5, 15), (6, 15)], []⟩
  | 255 => ⟨[(3, [0, 5, 6])], [(5, 12)], []⟩
  | 321 => ⟨[(3, [0, 1, 2, 7, 8])], [(6, 11)], []⟩
  | 337 => ⟨[(2, [0, 1, 2, 7])], [], []⟩
  | 314 => ⟨[(7, [0, 1, 2, 3, 9, 10, 12])], [], [(10, 9, [(6, 3)])]⟩
  | 217 => ⟨[], [(2, 5)], []⟩
  | 62 => ⟨[(4, [0, 1, 5])], [(6, 8)], []⟩
  | 343 => ⟨[(9, [0, 1, 2, 7, 8, 10])], [], [(12, 8, [(5, 2)])]⟩
  | 316 => ⟨[], [(2, 5)], []⟩
  | 241 => ⟨[(3, [0, 3, 5, 6]), (9, [0, 3, 5, 7, 8])], [(5, 12), (11, 5), (12, 10)], []⟩
  | 318 => ⟨[(4, [0, 1, 2, 3, 4, 11])], [], []⟩
  | 223 => ⟨[(4, [0, 1, 2, 3, 9, 12])], [(2, 9)], [(7, 14, [(5, 2)])]⟩
  | 319 => ⟨[(3, [4, 6, 7, 16, 17, 18]), (10, [4, 6, 7, 10])], [(10, 11), (13, 7)], []⟩
  | 68 => ⟨[(4, [0, 1, 5])], [(6, 8)], []⟩
  | 69 => ⟨[(5, [10, 33, 34, 35])], [], []⟩
  | 229 => ⟨[(2, [0, 3, 5])], [(4, 5)], []⟩
  | 231 => ⟨[], [(0, 12)], []⟩
  | 7 => ⟨[(19, [3, 5, 6, 7, 11, 15, 16, 19]), (24, [3, 5, 6, 7, 11, 15, 16, 20]), (39, [7, 11, 15, 31, 32])], [(21, 24), (29, 22), (41, 18), (42, 5)], []⟩
  | 233 => ⟨[(8, [0, 1, 2, 3, 4, 5, 13, 14, 17])], [], [(11, 11, [(5, 2)])]⟩
  | 78 => ⟨[(6, [8, 9, 26, 27, 28]), (10, [8, 9, 10, 11, 12, 26, 27, 28, 35, 36, 37]), (13, [8, 9, 10, 11, 12, 14, 26, 27, 28, 35, 36, 37, 44, 45, 46])], [], []⟩
  | 234 => ⟨[(2, [0, 1, 5]), (5, [0, 1, 5, 6])], [(7, 12)], []⟩
  | 79 => ⟨[(6, [8, 9, 10])], [], []⟩
  | 235 => ⟨[], [], [(2, 5, [(1000, 4), (1001, 2), (1001, 3)])]⟩
  | 81 => ⟨[], [(6, 3)], []⟩
  | 236 => ⟨[(7, [0, 1, 2, 3, 4, 11, 12, 14])], [], [(10, 10, [(5, 2)])]⟩
  | 82 => ⟨[], [(4, 7)], []⟩
  | 8 => ⟨[(19, [0, 6, 7, 8, 12, 16, 20, 21]), (26, [0, 6, 7, 8, 12, 16, 22]), (31, [0, 6, 7, 8, 12, 16, 22, 23, 24]), (48, [28, 33, 35, 36, 37])], [(21, 33), (23, 19), (28, 16), (33, 10), (51, 15)], []⟩
  | 264 => ⟨[(3, [0, 1, 5, 6])], [], []⟩
  | 331 => ⟨[], [(1, 10), (2, 10), (3, 10), (4, 10)], []⟩
  | 261 => ⟨[(3, [0, 1, 5, 6]), (6, [0, 1, 5, 6, 7])], [(6, 14)], [(8, 14, [(10, 4)])]⟩
  | 238 => ⟨[(3, [0, 5, 9, 10, 11])], [], []⟩
  | 84 => ⟨[(6, [0, 1, 6, 7, 8]), (10, [0, 1, 6, 7, 8, 9, 35, 36, 37])], [(12, 25)], []⟩
  | 324 => ⟨[(3, [0, 1, 4, 5, 6])], [(5, 22)], []⟩
  | 262 => ⟨[(3, [0, 1, 5, 6])], [], []⟩
  | 239 => ⟨[(2, [0, 1, 6, 7]), (5, [0, 1, 6, 7, 8, 9, 10])], [(8, 17)], []⟩
  | 240 => ⟨[(3, [3, 6, 7, 8])], [], []⟩
  | 89 => ⟨[(5, [0, 4, 5, 6])], [], []⟩
  | 242 => ⟨[(9, [0, 1, 5, 8])], [], [(7, 11, [(1000, 7), (1001, 4), (1001, 5)])]⟩
  | 326 => ⟨[(2, [1, 2, 9, 10, 11])], [], []⟩
  | 328 => ⟨[], [(1, 8)], []⟩
  | 248 => ⟨[(3, [0, 1, 7, 10, 11, 12])], [(5, 11)], []⟩
  | 249 => ⟨[(3, [0, 5, 6, 9, 10, 11])], [(6, 12)], []⟩
  | 244 => ⟨[(3, [0, 1, 6, 12, 13])], [], []⟩
  | 245 => ⟨[(2, [0, 1, 5])], [], []⟩
  | 256 => ⟨[(3, [0, 3, 4]), (6, [0, 3, 4, 5])], [(6, 16)], [(8, 11, [(7, 4)])]⟩
  | 327 => ⟨[(3, [0, 3, 4])], [], []⟩
  | 251 => ⟨[(3, [0, 1, 2, 7, 8])], [(5, 17)], []⟩
  | 252 => ⟨[(3, [0, 1, 5, 6, 7])], [(6, 18)], []⟩
  | 246 => ⟨[(3, [0, 1, 5, 6])], [], []⟩
  | 254 => ⟨[(4, [0, 1, 5])], [(6, 8)], []⟩
  | 101 => ⟨[(5, [1, 2, 3, 4, 12, 47, 48])], [(7, 12)], []⟩
  | 102 => ⟨[(5, [1, 2, 3, 4, 12, 13])], [(7, 12)], []⟩
  | 10 => ⟨[(18, [0, 3, 4, 5, 6, 17]), (22, [0, 3, 4, 5, 6, 17, 18, 19])], [], []⟩
  | 259 => ⟨[(3, [0, 5, 6, 7])], [], []⟩
  | 330 => ⟨[], [(1, 34)], []⟩
  | 263 => ⟨[(3, [3, 7, 8, 9]), (6, [3, 5, 6, 7, 8, 9])], [(9, 7)], []⟩
  | 108 => ⟨[(5, [0, 4, 5])], [], []⟩
  | 265 => ⟨[(4, [0, 1, 5])], [(6, 8), (7, 8)], []⟩
  | 109 => ⟨[(5, [0, 4, 5]), (9, [0, 4, 5, 6, 7])], [], [(11, 11, [(7, 4)])]⟩
  | 110 => ⟨[(4, [0, 1, 5])], [(6, 8)], []⟩
  | 268 => ⟨[(3, [0, 4, 5, 8, 9, 10])], [(5, 7), (6, 7)], []⟩
  | 266 => ⟨[(3, [0, 3, 9, 10]), (7, [0, 3, 4])], [(12, 11)], []⟩
  | 332 => ⟨[(3, [0, 3, 4])], [], []⟩
  | 267 => ⟨[(3, [0, 3, 4, 5]), (7, [0, 3, 4, 6]), (11, [0, 3, 4, 6, 7, 8])], [(14, 17)], []⟩
  | 113 => ⟨[(5, [0, 4, 11, 12, 13])], [], []⟩
  | 269 => ⟨[(3, [0, 3, 4])], [], []⟩
  | 114 => ⟨[(5, [0, 4, 5])], [], []⟩
  | 115 => ⟨[(2, [0, 1, 5])], [], []⟩
  | 11 => ⟨[(29, [3, 4, 5, 6, 9, 13, 14, 17, 21, 25, 27]), (40, [3, 4, 5, 6, 13, 17, 21, 30, 31, 32]), (45, [3, 4, 5, 6, 13, 17, 21, 30, 31, 33, 34]), (49, [3, 4, 5, 6, 13, 17, 21, 30, 31, 33, 34, 35, 36, 37])], [], []⟩
  | 270 => ⟨[(3, [0, 3, 4])], [], []⟩
  | 271 => ⟨[(4, [8, 9, 10])], [], []⟩
  | 273 => ⟨[], [(1, 10)], []⟩
  | 274 => ⟨[(2, [0, 1, 5])], [(7, 7)], []⟩
  | 117 => ⟨[(5, [1, 4, 15, 16, 17])], [], []⟩
  | 275 => ⟨[(2, [0, 3])], [], []⟩
  | 118 => ⟨[(5, [0, 4, 5]), (8, [0, 4, 5, 6])], [], []⟩
  | 276 => ⟨[(3, [3, 6, 7, 8])], [], []⟩
  | 119 => ⟨[(5, [0, 6, 7, 8])], [], []⟩
  | 278 => ⟨[(3, [0, 1, 5, 6])], [], []⟩
  | 279 => ⟨[(6, [1, 5, 6, 7])], [], []⟩
  | 122 => ⟨[(5, [5, 6, 7, 8])], [], []⟩
  | 282 => ⟨[(3, [1, 5, 8, 9, 10])], [], []⟩
  | 123 => ⟨[(8, [0, 2, 8, 9, 47, 48, 49])], [], []⟩
  | 124 => ⟨[(5, [0, 1, 2, 8, 9])], [], []⟩
  | 283 => ⟨[], [(1, 10)], []⟩
  | 126 => ⟨[(7, [1, 2, 6, 7, 8, 9]), (10, [1, 2, 6, 7, 8, 9, 10]), (16, [6, 11, 67, 68, 69])], [(9, 5)], []⟩
  | 127 => ⟨[(5, [0, 1, 6, 7, 8, 9]), (8, [0, 1, 6, 7, 8, 9, 10]), (12, [0, 1, 6, 7, 8, 11]), (18, [1, 8, 12, 13])], [(3, 6), (8, 21)], [(10, 14, [(10, 4)])]⟩
  | 12 => ⟨[(11, [0, 3, 4, 8, 9]), (19, [0, 3, 8, 10, 14]), (23, [0, 3, 8, 10, 14, 15, 16]), (35, [0, 19, 20, 21, 22, 25]), (51, [0, 29, 32, 38]), (63, [42, 43, 44, 45, 48]), (69, [42, 43, 44, 45, 49, 50, 51]), (73, [42, 43, 44, 45, 49, 50, 51, 52, 53]), (78, [42, 43, 44, 45, 49, 50, 51, 52, 54])], [(37, 9), (53, 9), (65, 28), (67, 5), (75, 25)], []⟩
  | 285 => ⟨[(3, [0, 1, 2, 7, 8]), (8, [0, 1, 2, 7, 8, 9, 32, 33, 34])], [(10, 13)], []⟩
  | 129 => ⟨[(6, [0, 5, 6, 35, 36, 37]), (15, [0, 6, 9, 10, 11, 60, 61, 62]), (22, [0, 6, 9, 10, 11, 14, 15])], [(8, 10), (25, 8), (26, 9), (27, 10)], []⟩
  | 287 => ⟨[(3, [0, 1, 5, 6])], [(5, 13)], []⟩
  | 344 => ⟨[(3, [0, 1, 5, 6])], [], []⟩
  | 341 => ⟨[], [(1, 16)], []⟩
  | 333 => ⟨[(3, [0, 1, 5, 6]), (7, [0, 1, 5, 6, 7, 8])], [], []⟩
  | 334 => ⟨[(5, [0, 1, 2, 7, 8])], [(8, 20)], []⟩
  | 289 => ⟨[(3, [0, 1, 2, 3, 9, 10])], [(7, 22)], []⟩
  | 130 => ⟨[(8, [0, 5, 7, 8, 9, 10])], [], []⟩
  | 131 => ⟨[], [(3, 6)], []⟩
  | 133 => ⟨[(5, [0, 4, 5, 14, 15, 16]), (12, [4, 5, 8, 9, 36, 37])], [(7, 9)], []⟩
  | 290 => ⟨[(3, [0, 3, 4]), (6, [0, 3, 4, 5])], [(6, 13)], [(8, 14, [(10, 4)])]⟩
  | 134 => ⟨[(5, [0, 4, 5, 6, 7, 8]), (12, [0, 4, 5, 6, 7, 9])], [], []⟩
  | 137 => ⟨[(3, [0, 1, 2, 7, 8])], [(5, 9), (7, 15)], []⟩
  | 291 => ⟨[(5, [0, 3, 4])], [], [(7, 12, [(1000, 10), (1001, 4), (1001, 5), (1001, 6)])]⟩
  | 139 => ⟨[(4, [0, 11, 12, 13]), (7, [0, 5, 11, 12, 13, 17, 18, 19])], [], []⟩
  | 140 => ⟨[(4, [0, 4]), (7, [0, 4, 5])], [(9, 22)], []⟩
  | 13 => ⟨[(27, [0, 3, 4, 5, 6, 10, 18, 24]), (34, [0, 3, 4, 5, 10, 18, 25, 26, 27]), (40, [0, 3, 4, 5, 10, 25, 26, 28, 29])], [(29, 10), (43, 22)], []⟩
  | 293 => ⟨[(3, [0, 3, 4]), (7, [0, 3, 4, 5, 6, 21, 22, 23]), (13, [0, 3, 6, 9, 37, 38, 39])], [(15, 21)], []⟩
  | 335 => ⟨[(3, [0, 1, 2, 7, 8])], [(5, 27)], []⟩
  | 294 => ⟨[(3, [0, 3, 4])], [], []⟩
  | 295 => ⟨[(5, [0, 3, 4, 5, 14, 15, 16]), (11, [0, 3, 4, 5, 8])], [(7, 26), (11, 27)], []⟩
  | 296 => ⟨[(5, [0, 3, 4, 5, 6, 7]), (10, [3, 4, 5, 6, 8])], [(7, 32), (10, 18)], []⟩
  | 146 => ⟨[(6, [0, 4, 5, 6])], [(8, 13)], []⟩
  | 147 => ⟨[(6, [0, 4, 5, 6])], [(8, 13)], []⟩
  | 14 => ⟨[(18, [3, 4, 8, 16, 18, 19])], [], []⟩
  | _ => ⟨[], [], []⟩
noncomputable def c_laws_vBig : Code := Go.Proofs.Try.f15.body.getD .skip
abbrev n_laws_vBig : FuncId := 15
theorem g_laws_vBig : G 15 = ⟨[], [], []⟩ := rfl
attribute [simp] c_laws_vBig g_laws_vBig Go.Proofs.Try.f15
theorem e_laws_vBig : enterG P (G 15) 15 = some (c_laws_vBig, 6, #[.tmp 2]) := by kernel_rfl
noncomputable def c_spec_l1Cur_next : Code := Go.Proofs.Try.f297.body.getD .skip
abbrev n_spec_l1Cur_next : FuncId := 297
theorem g_spec_l1Cur_next : G 297 = ⟨[], [(2, 9), (3, 8), (6, 9)], []⟩ := rfl
attribute [simp] c_spec_l1Cur_next g_spec_l1Cur_next Go.Proofs.Try.f297
theorem e_spec_l1Cur_next : enterG P (G 297) 297 = some (c_spec_l1Cur_next, 62, #[.tmp 2]) := by kernel_rfl
noncomputable def c_spec_l1Cur_pick : Code := Go.Proofs.Try.f154.body.getD .skip
abbrev n_spec_l1Cur_pick : FuncId := 154
theorem g_spec_l1Cur_pick : G 154 = ⟨[], [], []⟩ := rfl
attribute [simp] c_spec_l1Cur_pick g_spec_l1Cur_pick Go.Proofs.Try.f154
theorem e_spec_l1Cur_pick : enterG P (G 154) 154 = some (c_spec_l1Cur_pick, 20, #[.tmp 4]) := by kernel_rfl
noncomputable def c_spec_l1Cur_one : Code := Go.Proofs.Try.f151.body.getD .skip
abbrev n_spec_l1Cur_one : FuncId := 151
theorem g_spec_l1Cur_one : G 151 = ⟨[], [], []⟩ := rfl
attribute [simp] c_spec_l1Cur_one g_spec_l1Cur_one Go.Proofs.Try.f151
theorem e_spec_l1Cur_one : enterG P (G 151) 151 = some (c_spec_l1Cur_one, 9, #[.tmp 4]) := by kernel_rfl
noncomputable def c_spec_l1Cur_among : Code := Go.Proofs.Try.f175.body.getD .skip
abbrev n_spec_l1Cur_among : FuncId := 175
theorem g_spec_l1Cur_among : G 175 = ⟨[], [], []⟩ := rfl
attribute [simp] c_spec_l1Cur_among g_spec_l1Cur_among Go.Proofs.Try.f175
theorem e_spec_l1Cur_among : enterG P (G 175) 175 = some (c_spec_l1Cur_among, 12, #[.tmp 4]) := by kernel_rfl
noncomputable def c_spec_l1Cur_job : Code := Go.Proofs.Try.f317.body.getD .skip
abbrev n_spec_l1Cur_job : FuncId := 317
theorem g_spec_l1Cur_job : G 317 = ⟨[], [], []⟩ := rfl
attribute [simp] c_spec_l1Cur_job g_spec_l1Cur_job Go.Proofs.Try.f317
theorem e_spec_l1Cur_job : enterG P (G 317) 317 = some (c_spec_l1Cur_job, 20, #[.cell 4 85]) := by kernel_rfl
noncomputable def c_spec_l1Cur_spoiltJob : Code := Go.Proofs.Try.f303.body.getD .skip
abbrev n_spec_l1Cur_spoiltJob : FuncId := 303
theorem g_spec_l1Cur_spoiltJob : G 303 = ⟨[], [], []⟩ := rfl
attribute [simp] c_spec_l1Cur_spoiltJob g_spec_l1Cur_spoiltJob Go.Proofs.Try.f303
theorem e_spec_l1Cur_spoiltJob : enterG P (G 303) 303 = some (c_spec_l1Cur_spoiltJob, 30, #[.cell 4 85]) := by kernel_rfl
noncomputable def c_spec_l1Cur_someJobs : Code := Go.Proofs.Try.f219.body.getD .skip
abbrev n_spec_l1Cur_someJobs : FuncId := 219
theorem g_spec_l1Cur_someJobs : G 219 = ⟨[(4, [0, 1, 2, 7, 8]), (11, [0, 1, 7])], [], []⟩ := rfl
attribute [simp] c_spec_l1Cur_someJobs g_spec_l1Cur_someJobs Go.Proofs.Try.f219
theorem e_spec_l1Cur_someJobs : enterG P (G 219) 219 = some (c_spec_l1Cur_someJobs, 71, #[.tmp 6]) := by kernel_rfl
noncomputable def c_spec_l1In : Code := Go.Proofs.Try.f199.body.getD .skip
abbrev n_spec_l1In : FuncId := 199
theorem g_spec_l1In : G 199 = ⟨[], [], []⟩ := rfl
attribute [simp] c_spec_l1In g_spec_l1In Go.Proofs.Try.f199
theorem e_spec_l1In : enterG P (G 199) 199 = some (c_spec_l1In, 15, #[.tmp 6]) := by kernel_rfl
noncomputable def c_spec_l2Job : Code := Go.Proofs.Try.f301.body.getD .skip
abbrev n_spec_l2Job : FuncId := 301
theorem g_spec_l2Job : G 301 = ⟨[], [], []⟩ := rfl
attribute [simp] c_spec_l2Job g_spec_l2Job Go.Proofs.Try.f301
theorem e_spec_l2Job : enterG P (G 301) 301 = some (c_spec_l2Job, 21, #[.tmp 2]) := by kernel_rfl
noncomputable def c_spec_l2Good : Code := Go.Proofs.Try.f169.body.getD .skip
abbrev n_spec_l2Good : FuncId := 169
theorem g_spec_l2Good : G 169 = ⟨[(2, [0, 3])], [], []⟩ := rfl
attribute [simp] c_spec_l2Good g_spec_l2Good Go.Proofs.Try.f169
theorem e_spec_l2Good : enterG P (G 169) 169 = some (c_spec_l2Good, 19, #[.tmp 2]) := by kernel_rfl
noncomputable def c_impl_within : Code := Go.Proofs.Try.f197.body.getD .skip
abbrev n_impl_within : FuncId := 197
theorem g_impl_within : G 197 = ⟨[], [], []⟩ := rfl
attribute [simp] c_impl_within g_impl_within Go.Proofs.Try.f197
theorem e_impl_within : enterG P (G 197) 197 = some (c_impl_within, 15, #[.tmp 6]) := by kernel_rfl
noncomputable def c_impl_isDate : Code := Go.Proofs.Try.f300.body.getD .skip
abbrev n_impl_isDate : FuncId := 300
theorem g_impl_isDate : G 300 = ⟨[], [], []⟩ := rfl
attribute [simp] c_impl_isDate g_impl_isDate Go.Proofs.Try.f300
theorem e_impl_isDate : enterG P (G 300) 300 = some (c_impl_isDate, 5, #[.tmp 2]) := by kernel_rfl
noncomputable def c_impl_IsJobs : Code := Go.Proofs.Try.f167.body.getD .skip
abbrev n_impl_IsJobs : FuncId := 167
theorem g_impl_IsJobs : G 167 = ⟨[(4, [8, 9, 10])], [], []⟩ := rfl
attribute [simp] c_impl_IsJobs g_impl_IsJobs Go.Proofs.Try.f167
theorem e_impl_IsJobs : enterG P (G 167) 167 = some (c_impl_IsJobs, 37, #[.tmp 2]) := by kernel_rfl
noncomputable def c_impl_isNumber : Code := Go.Proofs.Try.f164.body.getD .skip
abbrev n_impl_isNumber : FuncId := 164
theorem g_impl_isNumber : G 164 = ⟨[], [], []⟩ := rfl
attribute [simp] c_impl_isNumber g_impl_isNumber Go.Proofs.Try.f164
theorem e_impl_isNumber : enterG P (G 164) 164 = some (c_impl_isNumber, 9, #[.tmp 4]) := by kernel_rfl
noncomputable def c_impl_has : Code := Go.Proofs.Try.f281.body.getD .skip
abbrev n_impl_has : FuncId := 281
theorem g_impl_has : G 281 = ⟨[(2, [1, 7, 8, 9])], [], []⟩ := rfl
attribute [simp] c_impl_has g_impl_has Go.Proofs.Try.f281
theorem e_impl_has : enterG P (G 281) 281 = some (c_impl_has, 17, #[.tmp 4]) := by kernel_rfl
noncomputable def c_impl_areDifferent : Code := Go.Proofs.Try.f305.body.getD .skip
abbrev n_impl_areDifferent : FuncId := 305
theorem g_impl_areDifferent : G 305 = ⟨[(2, [0, 1, 7, 8, 9])], [], []⟩ := rfl
attribute [simp] c_impl_areDifferent g_impl_areDifferent Go.Proofs.Try.f305
theorem e_impl_areDifferent : enterG P (G 305) 305 = some (c_impl_areDifferent, 26, #[.tmp 4]) := by kernel_rfl
noncomputable def c_impl_numbersTo : Code := Go.Proofs.Try.f247.body.getD .skip
abbrev n_impl_numbersTo : FuncId := 247
theorem g_impl_numbersTo : G 247 = ⟨[(3, [0, 3, 4])], [], []⟩ := rfl
attribute [simp] c_impl_numbersTo g_impl_numbersTo Go.Proofs.Try.f247
theorem e_impl_numbersTo : enterG P (G 247) 247 = some (c_impl_numbersTo, 15, #[.tmp 2]) := by kernel_rfl
noncomputable def c_spec_l1Most : Code := Go.Proofs.Try.f163.body.getD .skip
abbrev n_spec_l1Most : FuncId := 163
theorem g_spec_l1Most : G 163 = ⟨[], [], []⟩ := rfl
attribute [simp] c_spec_l1Most g_spec_l1Most Go.Proofs.Try.f163
theorem e_spec_l1Most : enterG P (G 163) 163 = some (c_spec_l1Most, 10, #[.tmp 4]) := by kernel_rfl
noncomputable def c_laws_vInts : Code := Go.Proofs.Try.f26.body.getD .skip
abbrev n_laws_vInts : FuncId := 26
theorem g_laws_vInts : G 26 = ⟨[(4, [0, 1, 5])], [(6, 8)], []⟩ := rfl
attribute [simp] c_laws_vInts g_laws_vInts Go.Proofs.Try.f26
theorem e_laws_vInts : enterG P (G 26) 26 = some (c_laws_vInts, 26, #[.tmp 4]) := by kernel_rfl
noncomputable def c_impl_isObjective : Code := Go.Proofs.Try.f186.body.getD .skip
abbrev n_impl_isObjective : FuncId := 186
theorem g_impl_isObjective : G 186 = ⟨[], [], []⟩ := rfl
attribute [simp] c_impl_isObjective g_impl_isObjective Go.Proofs.Try.f186
theorem e_impl_isObjective : enterG P (G 186) 186 = some (c_impl_isObjective, 5, #[.tmp 2]) := by kernel_rfl
noncomputable def c_impl_endsOf : Code := Go.Proofs.Try.f206.body.getD .skip
abbrev n_impl_endsOf : FuncId := 206
theorem g_impl_endsOf : G 206 = ⟨[(4, [0, 5, 6, 12, 13, 14])], [(6, 12)], []⟩ := rfl
attribute [simp] c_impl_endsOf g_impl_endsOf Go.Proofs.Try.f206
theorem e_impl_endsOf : enterG P (G 206) 206 = some (c_impl_endsOf, 37, #[.tmp 4]) := by kernel_rfl
noncomputable def c_impl_add : Code := Go.Proofs.Try.f286.body.getD .skip
abbrev n_impl_add : FuncId := 286
theorem g_impl_add : G 286 = ⟨[], [], []⟩ := rfl
attribute [simp] c_impl_add g_impl_add Go.Proofs.Try.f286
theorem e_impl_add : enterG P (G 286) 286 = some (c_impl_add, 70, #[.tmp 10]) := by kernel_rfl
noncomputable def c_impl_valueOfEnds : Code := Go.Proofs.Try.f187.body.getD .skip
abbrev n_impl_valueOfEnds : FuncId := 187
theorem g_impl_valueOfEnds : G 187 = ⟨[(3, [1, 2, 7, 10, 11, 12])], [(5, 9)], []⟩ := rfl
attribute [simp] c_impl_valueOfEnds g_impl_valueOfEnds Go.Proofs.Try.f187
theorem e_impl_valueOfEnds : enterG P (G 187) 187 = some (c_impl_valueOfEnds, 29, #[.tmp 6]) := by kernel_rfl
noncomputable def c_impl_valueOf : Code := Go.Proofs.Try.f173.body.getD .skip
abbrev n_impl_valueOf : FuncId := 173
theorem g_impl_valueOf : G 173 = ⟨[], [], []⟩ := rfl
attribute [simp] c_impl_valueOf g_impl_valueOf Go.Proofs.Try.f173
theorem e_impl_valueOf : enterG P (G 173) 173 = some (c_impl_valueOf, 13, #[.tmp 6]) := by kernel_rfl
noncomputable def c_impl_copyInts : Code := Go.Proofs.Try.f214.body.getD .skip
abbrev n_impl_copyInts : FuncId := 214
theorem g_impl_copyInts : G 214 = ⟨[], [], []⟩ := rfl
attribute [simp] c_impl_copyInts g_impl_copyInts Go.Proofs.Try.f214
theorem e_impl_copyInts : enterG P (G 214) 214 = some (c_impl_copyInts, 6, #[.tmp 2]) := by kernel_rfl
noncomputable def c_impl_best_1 : Code := Go.Proofs.Try.f302.body.getD .skip
abbrev n_impl_best_1 : FuncId := 302
theorem g_impl_best_1 : G 302 = ⟨[], [], []⟩ := rfl
attribute [simp] c_impl_best_1 g_impl_best_1 Go.Proofs.Try.f302
theorem e_impl_best_1 : enterG P (G 302) 302 = some (c_impl_best_1, 29, #[]) := by kernel_rfl
noncomputable def c_impl_nextOrder : Code := Go.Proofs.Try.f312.body.getD .skip
abbrev n_impl_nextOrder : FuncId := 312
theorem g_impl_nextOrder : G 312 = ⟨[(2, [0, 3]), (7, [0, 3, 4]), (11, [0, 5, 6])], [(2, 12), (7, 8), (9, 13), (13, 13)], []⟩ := rfl
attribute [simp] c_impl_nextOrder g_impl_nextOrder Go.Proofs.Try.f312
theorem e_impl_nextOrder : enterG P (G 312) 312 = some (c_impl_nextOrder, 82, #[.tmp 2]) := by kernel_rfl
noncomputable def c_impl_eachOrder : Code := Go.Proofs.Try.f211.body.getD .skip
abbrev n_impl_eachOrder : FuncId := 211
theorem g_impl_eachOrder : G 211 = ⟨[(1, [1, 4])], [], []⟩ := rfl
attribute [simp] c_impl_eachOrder g_impl_eachOrder Go.Proofs.Try.f211
theorem e_impl_eachOrder : enterG P (G 211) 211 = some (c_impl_eachOrder, 13, #[]) := by kernel_rfl
noncomputable def c_impl_best : Code := Go.Proofs.Try.f172.body.getD .skip
abbrev n_impl_best : FuncId := 172
theorem g_impl_best : G 172 = ⟨[], [(4, 5)], []⟩ := rfl
attribute [simp] c_impl_best g_impl_best Go.Proofs.Try.f172
theorem e_impl_best : enterG P (G 172) 172 = some (c_impl_best, 17, #[.tmp 4, .tmp 5, .tmp 6]) := by kernel_rfl
noncomputable def c_spec_l1Cur_some5 : Code := Go.Proofs.Try.f174.body.getD .skip
abbrev n_spec_l1Cur_some5 : FuncId := 174
theorem g_spec_l1Cur_some5 : G 174 = ⟨[(3, [0, 3, 4])], [], []⟩ := rfl
attribute [simp] c_spec_l1Cur_some5 g_spec_l1Cur_some5 Go.Proofs.Try.f174
theorem e_spec_l1Cur_some5 : enterG P (G 174) 174 = some (c_spec_l1Cur_some5, 52, #[.tmp 2]) := by kernel_rfl
noncomputable def c_spec_DrawLatenessBound : Code := Go.Proofs.Try.f30.body.getD .skip
abbrev n_spec_DrawLatenessBound : FuncId := 30
theorem g_spec_DrawLatenessBound : G 30 = ⟨[(5, [4, 5, 6, 7])], [], []⟩ := rfl
attribute [simp] c_spec_DrawLatenessBound g_spec_DrawLatenessBound Go.Proofs.Try.f30
theorem e_spec_DrawLatenessBound : enterG P (G 30) 30 = some (c_spec_DrawLatenessBound, 38, #[.tmp 2, .tmp 3]) := by kernel_rfl
noncomputable def c_impl_isRising : Code := Go.Proofs.Try.f304.body.getD .skip
abbrev n_impl_isRising : FuncId := 304
theorem g_impl_isRising : G 304 = ⟨[(2, [0, 3])], [(4, 9)], []⟩ := rfl
attribute [simp] c_impl_isRising g_impl_isRising Go.Proofs.Try.f304
theorem e_impl_isRising : enterG P (G 304) 304 = some (c_impl_isRising, 20, #[.tmp 2]) := by kernel_rfl
noncomputable def c_impl_isSet : Code := Go.Proofs.Try.f176.body.getD .skip
abbrev n_impl_isSet : FuncId := 176
theorem g_impl_isSet : G 176 = ⟨[], [], []⟩ := rfl
attribute [simp] c_impl_isSet g_impl_isSet Go.Proofs.Try.f176
theorem e_impl_isSet : enterG P (G 176) 176 = some (c_impl_isSet, 12, #[.tmp 4]) := by kernel_rfl
noncomputable def c_impl_latenessBound : Code := Go.Proofs.Try.f177.body.getD .skip
abbrev n_impl_latenessBound : FuncId := 177
theorem g_impl_latenessBound : G 177 = ⟨[(3, [0, 5, 6, 7, 10, 11, 12])], [(5, 15)], []⟩ := rfl
attribute [simp] c_impl_latenessBound g_impl_latenessBound Go.Proofs.Try.f177
theorem e_impl_latenessBound : enterG P (G 177) 177 = some (c_impl_latenessBound, 43, #[.tmp 4]) := by kernel_rfl
noncomputable def c_impl_LatenessBound : Code := Go.Proofs.Try.f31.body.getD .skip
abbrev n_impl_LatenessBound : FuncId := 31
theorem g_impl_LatenessBound : G 31 = ⟨[], [], []⟩ := rfl
attribute [simp] c_impl_LatenessBound g_impl_LatenessBound Go.Proofs.Try.f31
theorem e_impl_LatenessBound : enterG P (G 31) 31 = some (c_impl_LatenessBound, 24, #[.tmp 4, .tmp 5]) := by kernel_rfl
noncomputable def c_spec_l1Rising : Code := Go.Proofs.Try.f178.body.getD .skip
abbrev n_spec_l1Rising : FuncId := 178
theorem g_spec_l1Rising : G 178 = ⟨[(2, [0, 1, 2, 7])], [(4, 21)], []⟩ := rfl
attribute [simp] c_spec_l1Rising g_spec_l1Rising Go.Proofs.Try.f178
theorem e_spec_l1Rising : enterG P (G 178) 178 = some (c_spec_l1Rising, 38, #[.tmp 6]) := by kernel_rfl
noncomputable def c_spec_l1Least : Code := Go.Proofs.Try.f284.body.getD .skip
abbrev n_spec_l1Least : FuncId := 284
theorem g_spec_l1Least : G 284 = ⟨[], [], []⟩ := rfl
attribute [simp] c_spec_l1Least g_spec_l1Least Go.Proofs.Try.f284
theorem e_spec_l1Least : enterG P (G 284) 284 = some (c_spec_l1Least, 10, #[.tmp 4]) := by kernel_rfl
noncomputable def c_spec_l3Total : Code := Go.Proofs.Try.f306.body.getD .skip
abbrev n_spec_l3Total : FuncId := 306
theorem g_spec_l3Total : G 306 = ⟨[(3, [0, 1, 5, 6])], [], []⟩ := rfl
attribute [simp] c_spec_l3Total g_spec_l3Total Go.Proofs.Try.f306
theorem e_spec_l3Total : enterG P (G 306) 306 = some (c_spec_l3Total, 24, #[.tmp 4]) := by kernel_rfl
noncomputable def c_spec_l5Set : Code := Go.Proofs.Try.f179.body.getD .skip
abbrev n_spec_l5Set : FuncId := 179
theorem g_spec_l5Set : G 179 = ⟨[(3, [0, 1, 5, 6, 7])], [(1, 15)], []⟩ := rfl
attribute [simp] c_spec_l5Set g_spec_l5Set Go.Proofs.Try.f179
theorem e_spec_l5Set : enterG P (G 179) 179 = some (c_spec_l5Set, 55, #[.tmp 4]) := by kernel_rfl
noncomputable def c_spec_LatenessBound : Code := Go.Proofs.Try.f32.body.getD .skip
abbrev n_spec_LatenessBound : FuncId := 32
theorem g_spec_LatenessBound : G 32 = ⟨[], [], []⟩ := rfl
attribute [simp] c_spec_LatenessBound g_spec_LatenessBound Go.Proofs.Try.f32
theorem e_spec_LatenessBound : enterG P (G 32) 32 = some (c_spec_LatenessBound, 25, #[.tmp 4, .tmp 5]) := by kernel_rfl
noncomputable def c_impl_listOf : Code := Go.Proofs.Try.f180.body.getD .skip
abbrev n_impl_listOf : FuncId := 180
theorem g_impl_listOf : G 180 = ⟨[(3, [0, 3, 4])], [], []⟩ := rfl
attribute [simp] c_impl_listOf g_impl_listOf Go.Proofs.Try.f180
theorem e_impl_listOf : enterG P (G 180) 180 = some (c_impl_listOf, 21, #[.tmp 2]) := by kernel_rfl
noncomputable def c_impl_compareLists : Code := Go.Proofs.Try.f181.body.getD .skip
abbrev n_impl_compareLists : FuncId := 181
theorem g_impl_compareLists : G 181 = ⟨[(2, [0, 1, 5])], [(4, 8), (5, 8)], []⟩ := rfl
attribute [simp] c_impl_compareLists g_impl_compareLists Go.Proofs.Try.f181
theorem e_impl_compareLists : enterG P (G 181) 181 = some (c_impl_compareLists, 41, #[.tmp 4]) := by kernel_rfl
noncomputable def c_impl_LatenessProof : Code := Go.Proofs.Try.f33.body.getD .skip
abbrev n_impl_LatenessProof : FuncId := 33
theorem g_impl_LatenessProof : G 33 = ⟨[(5, [0, 4, 5])], [(100003, 0)], []⟩ := rfl
attribute [simp] c_impl_LatenessProof g_impl_LatenessProof Go.Proofs.Try.f33
theorem e_impl_LatenessProof : enterG P (G 33) 33 = some (c_impl_LatenessProof, 49, #[.tmp 2, .tmp 3]) := by kernel_rfl
noncomputable def c_spec_l5Subset : Code := Go.Proofs.Try.f182.body.getD .skip
abbrev n_spec_l5Subset : FuncId := 182
theorem g_spec_l5Subset : G 182 = ⟨[(3, [0, 1, 5, 6])], [], []⟩ := rfl
attribute [simp] c_spec_l5Subset g_spec_l5Subset Go.Proofs.Try.f182
theorem e_spec_l5Subset : enterG P (G 182) 182 = some (c_spec_l5Subset, 23, #[.tmp 4]) := by kernel_rfl
noncomputable def c_spec_l5Less : Code := Go.Proofs.Try.f183.body.getD .skip
abbrev n_spec_l5Less : FuncId := 183
theorem g_spec_l5Less : G 183 = ⟨[(2, [0, 1, 5])], [(4, 8), (5, 8)], []⟩ := rfl
attribute [simp] c_spec_l5Less g_spec_l5Less Go.Proofs.Try.f183
theorem e_spec_l5Less : enterG P (G 183) 183 = some (c_spec_l5Less, 41, #[.tmp 4]) := by kernel_rfl
noncomputable def c_spec_LatenessProof : Code := Go.Proofs.Try.f34.body.getD .skip
abbrev n_spec_LatenessProof : FuncId := 34
theorem g_spec_LatenessProof : G 34 = ⟨[(5, [0, 4, 5])], [], []⟩ := rfl
attribute [simp] c_spec_LatenessProof g_spec_LatenessProof Go.Proofs.Try.f34
theorem e_spec_LatenessProof : enterG P (G 34) 34 = some (c_spec_LatenessProof, 56, #[.tmp 2, .tmp 3]) := by kernel_rfl
noncomputable def c_impl_choose : Code := Go.Proofs.Try.f184.body.getD .skip
abbrev n_impl_choose : FuncId := 184
theorem g_impl_choose : G 184 = ⟨[(5, [0, 1, 2, 8, 9, 10, 11, 27, 28, 29]), (12, [0, 2, 8, 9, 10, 11, 48, 49, 50]), (18, [0, 2, 8, 9, 10, 11, 16]), (22, [0, 2, 8, 9, 10, 11, 16, 17, 76, 77, 78])], [(14, 12), (25, 28)], []⟩ := rfl
attribute [simp] c_impl_choose g_impl_choose Go.Proofs.Try.f184
theorem e_impl_choose : enterG P (G 184) 184 = some (c_impl_choose, 183, #[.tmp 6, .tmp 7]) := by kernel_rfl
noncomputable def c_impl_ByEarliestDate : Code := Go.Proofs.Try.f35.body.getD .skip
abbrev n_impl_ByEarliestDate : FuncId := 35
theorem g_impl_ByEarliestDate : G 35 = ⟨[], [], []⟩ := rfl
attribute [simp] c_impl_ByEarliestDate g_impl_ByEarliestDate Go.Proofs.Try.f35
theorem e_impl_ByEarliestDate : enterG P (G 35) 35 = some (c_impl_ByEarliestDate, 15, #[.tmp 2, .tmp 3]) := by kernel_rfl
noncomputable def c_impl_isSplit : Code := Go.Proofs.Try.f185.body.getD .skip
abbrev n_impl_isSplit : FuncId := 185
theorem g_impl_isSplit : G 185 = ⟨[(3, [0, 1, 5, 13, 14, 15]), (12, [5, 97, 98, 99])], [(5, 22), (7, 31), (9, 10), (14, 6)], []⟩ := rfl
attribute [simp] c_impl_isSplit g_impl_isSplit Go.Proofs.Try.f185
theorem e_impl_isSplit : enterG P (G 185) 185 = some (c_impl_isSplit, 112, #[.tmp 4]) := by kernel_rfl
noncomputable def c_impl_splitEnds : Code := Go.Proofs.Try.f188.body.getD .skip
abbrev n_impl_splitEnds : FuncId := 188
theorem g_impl_splitEnds : G 188 = ⟨[(3, [5, 11, 12, 13])], [], []⟩ := rfl
attribute [simp] c_impl_splitEnds g_impl_splitEnds Go.Proofs.Try.f188
theorem e_impl_splitEnds : enterG P (G 188) 188 = some (c_impl_splitEnds, 25, #[.tmp 4]) := by kernel_rfl
noncomputable def c_impl_SplitValue : Code := Go.Proofs.Try.f36.body.getD .skip
abbrev n_impl_SplitValue : FuncId := 36
theorem g_impl_SplitValue : G 36 = ⟨[], [], []⟩ := rfl
attribute [simp] c_impl_SplitValue g_impl_SplitValue Go.Proofs.Try.f36
theorem e_impl_SplitValue : enterG P (G 36) 36 = some (c_impl_SplitValue, 28, #[.tmp 6, .tmp 7]) := by kernel_rfl
noncomputable def c_impl_isSplitObjective : Code := Go.Proofs.Try.f189.body.getD .skip
abbrev n_impl_isSplitObjective : FuncId := 189
theorem g_impl_isSplitObjective : G 189 = ⟨[], [], []⟩ := rfl
attribute [simp] c_impl_isSplitObjective g_impl_isSplitObjective Go.Proofs.Try.f189
theorem e_impl_isSplitObjective : enterG P (G 189) 189 = some (c_impl_isSplitObjective, 9, #[.tmp 2]) := by kernel_rfl
noncomputable def c_impl_prefixBound : Code := Go.Proofs.Try.f190.body.getD .skip
abbrev n_impl_prefixBound : FuncId := 190
theorem g_impl_prefixBound : G 190 = ⟨[], [], []⟩ := rfl
attribute [simp] c_impl_prefixBound g_impl_prefixBound Go.Proofs.Try.f190
theorem e_impl_prefixBound : enterG P (G 190) 190 = some (c_impl_prefixBound, 20, #[.tmp 6]) := by kernel_rfl
noncomputable def c_impl_SplitGain : Code := Go.Proofs.Try.f37.body.getD .skip
abbrev n_impl_SplitGain : FuncId := 37
theorem g_impl_SplitGain : G 37 = ⟨[], [], []⟩ := rfl
attribute [simp] c_impl_SplitGain g_impl_SplitGain Go.Proofs.Try.f37
theorem e_impl_SplitGain : enterG P (G 37) 37 = some (c_impl_SplitGain, 29, #[.tmp 4, .tmp 5]) := by kernel_rfl
noncomputable def c_impl_BestValue : Code := Go.Proofs.Try.f38.body.getD .skip
abbrev n_impl_BestValue : FuncId := 38
theorem g_impl_BestValue : G 38 = ⟨[], [], []⟩ := rfl
attribute [simp] c_impl_BestValue g_impl_BestValue Go.Proofs.Try.f38
theorem e_impl_BestValue : enterG P (G 38) 38 = some (c_impl_BestValue, 25, #[.tmp 4, .tmp 5]) := by kernel_rfl
noncomputable def c_laws_FnLatenessProof : Code := Go.Proofs.Try.f4.body.getD .skip
abbrev n_laws_FnLatenessProof : FuncId := 4
theorem g_laws_FnLatenessProof : G 4 = ⟨[], [], []⟩ := rfl
attribute [simp] c_laws_FnLatenessProof g_laws_FnLatenessProof Go.Proofs.Try.f4
theorem e_laws_FnLatenessProof : enterG P (G 4) 4 = some (c_laws_FnLatenessProof, 132, #[.tmp 2]) := by kernel_rfl
end Go.Pm.PP
