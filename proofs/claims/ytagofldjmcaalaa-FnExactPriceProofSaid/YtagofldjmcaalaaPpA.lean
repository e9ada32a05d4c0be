/- What is told of the functions that the law reaches: printed by a program of this work. -/
import Derived.Test.YtagofldjmcaalaaPmR
import Derived.Test.YtagofldjmcaalaaProg
import Derived.KernelRfl
set_option linter.unusedVariables false
set_option linter.unusedSimpArgs false
namespace Go.Pm.PP
open Go.Pm
noncomputable abbrev P : Program := Go.Proofs.Try.prog
noncomputable def ti_3 : TypeInfo := (P.info? 3).getD default
@[simp] theorem ti_3_eq : P.info? 3 = some ti_3 := by kernel_rfl
@[simp] theorem ti_3_size : ti_3.size = 1 := by kernel_rfl
@[simp] theorem ti_3_bytes : ti_3.bytes = 8 := by kernel_rfl
@[simp] theorem ti_3_zero : ti_3.zero = some (.int .i64 0) := by kernel_rfl
noncomputable def ti_4 : TypeInfo := (P.info? 4).getD default
@[simp] theorem ti_4_eq : P.info? 4 = some ti_4 := by kernel_rfl
@[simp] theorem ti_4_size : ti_4.size = 1 := by kernel_rfl
@[simp] theorem ti_4_bytes : ti_4.bytes = 1 := by kernel_rfl
@[simp] theorem ti_4_zero : ti_4.zero = some (.bool false) := by kernel_rfl
noncomputable def ti_22 : TypeInfo := (P.info? 22).getD default
@[simp] theorem ti_22_eq : P.info? 22 = some ti_22 := by kernel_rfl
@[simp] theorem ti_22_size : ti_22.size = 1 := by kernel_rfl
@[simp] theorem ti_22_bytes : ti_22.bytes = 24 := by kernel_rfl
@[simp] theorem ti_22_zero : ti_22.zero = some (.slice none 0 0) := by kernel_rfl
noncomputable def ti_23 : TypeInfo := (P.info? 23).getD default
@[simp] theorem ti_23_eq : P.info? 23 = some ti_23 := by kernel_rfl
@[simp] theorem ti_23_size : ti_23.size = 1 := by kernel_rfl
@[simp] theorem ti_23_bytes : ti_23.bytes = 24 := by kernel_rfl
@[simp] theorem ti_23_zero : ti_23.zero = some (.slice none 0 0) := by kernel_rfl
noncomputable def ti_24 : TypeInfo := (P.info? 24).getD default
@[simp] theorem ti_24_eq : P.info? 24 = some ti_24 := by kernel_rfl
@[simp] theorem ti_24_size : ti_24.size = 1 := by kernel_rfl
@[simp] theorem ti_24_bytes : ti_24.bytes = 24 := by kernel_rfl
@[simp] theorem ti_24_zero : ti_24.zero = some (.slice none 0 0) := by kernel_rfl
noncomputable def ti_29 : TypeInfo := (P.info? 29).getD default
@[simp] theorem ti_29_eq : P.info? 29 = some ti_29 := by kernel_rfl
@[simp] theorem ti_29_size : ti_29.size = 1 := by kernel_rfl
@[simp] theorem ti_29_bytes : ti_29.bytes = 24 := by kernel_rfl
@[simp] theorem ti_29_zero : ti_29.zero = some (.slice none 0 0) := by kernel_rfl
noncomputable def ti_31 : TypeInfo := (P.info? 31).getD default
@[simp] theorem ti_31_eq : P.info? 31 = some ti_31 := by kernel_rfl
@[simp] theorem ti_31_size : ti_31.size = 1 := by kernel_rfl
@[simp] theorem ti_31_bytes : ti_31.bytes = 24 := by kernel_rfl
@[simp] theorem ti_31_zero : ti_31.zero = some (.slice none 0 0) := by kernel_rfl
noncomputable def ti_58 : TypeInfo := (P.info? 58).getD default
@[simp] theorem ti_58_eq : P.info? 58 = some ti_58 := by kernel_rfl
@[simp] theorem ti_58_size : ti_58.size = 4 := by kernel_rfl
@[simp] theorem ti_58_bytes : ti_58.bytes = 32 := by kernel_rfl
@[simp] theorem ti_58_zero : ti_58.zero = some (.agg #[.int .i64 0, .int .i64 0, .int .i64 0, .int .i64 0]) := by kernel_rfl
noncomputable def ti_89 : TypeInfo := (P.info? 89).getD default
@[simp] theorem ti_89_eq : P.info? 89 = some ti_89 := by kernel_rfl
@[simp] theorem ti_89_size : ti_89.size = 4 := by kernel_rfl
@[simp] theorem ti_89_bytes : ti_89.bytes = 32 := by kernel_rfl
@[simp] theorem ti_89_zero : ti_89.zero = some (.agg #[.int .i64 0, .int .i64 0, .int .i64 0, .int .i64 0]) := by kernel_rfl
noncomputable def ti_102 : TypeInfo := (P.info? 102).getD default
@[simp] theorem ti_102_eq : P.info? 102 = some ti_102 := by kernel_rfl
@[simp] theorem ti_102_size : ti_102.size = 2 := by kernel_rfl
@[simp] theorem ti_102_bytes : ti_102.bytes = 32 := by kernel_rfl
@[simp] theorem ti_102_zero : ti_102.zero = some (.agg #[.slice none 0 0, .int .i64 0]) := by kernel_rfl
noncomputable def ti_108 : TypeInfo := (P.info? 108).getD default
@[simp] theorem ti_108_eq : P.info? 108 = some ti_108 := by kernel_rfl
@[simp] theorem ti_108_size : ti_108.size = 2 := by kernel_rfl
@[simp] theorem ti_108_bytes : ti_108.bytes = 32 := by kernel_rfl
@[simp] theorem ti_108_zero : ti_108.zero = some (.agg #[.slice none 0 0, .int .i64 0]) := by kernel_rfl
def G : FuncId → GI
  | 11 => ⟨[(5, [0, 1, 5])], []⟩
  | 13 => ⟨[(3, [0, 3, 4])], []⟩
  | 15 => ⟨[(3, [0, 3, 4])], []⟩
  | 14 => ⟨[(3, [0, 3, 4])], []⟩
  | 124 => ⟨[(2, [0, 3])], []⟩
  | 184 => ⟨[(2, [0, 3])], []⟩
  | 194 => ⟨[(2, [0, 1, 2, 7])], [(4, 21)]⟩
  | 186 => ⟨[(4, [0, 1, 5])], [(6, 8), (7, 8)]⟩
  | 146 => ⟨[(2, [0, 1, 5])], [(6, 14)]⟩
  | 148 => ⟨[(2, [0, 1, 5])], []⟩
  | 75 => ⟨[(4, [0, 1, 5])], []⟩
  | 76 => ⟨[(2, [0, 1, 2, 7]), (6, [0, 1, 2, 7, 8, 9])], [(10, 14)]⟩
  | 149 => ⟨[(3, [0, 1, 5, 6, 7])], [(6, 18)]⟩
  | 77 => ⟨[(3, [0, 1, 5, 6])], [(5, 14)]⟩
  | 137 => ⟨[(3, [0, 1, 5, 6, 7])], [(5, 15), (6, 15)]⟩
  | 138 => ⟨[(3, [0, 5, 6])], [(5, 12)]⟩
  | 131 => ⟨[(3, [0, 1, 2, 7, 8])], [(6, 11)]⟩
  | 117 => ⟨[(4, [8, 9, 10])], []⟩
  | 150 => ⟨[(2, [5, 6, 7])], []⟩
  | 187 => ⟨[(2, [0, 3])], [(4, 9)]⟩
  | 154 => ⟨[(2, [1, 7, 8, 9])], []⟩
  | 153 => ⟨[(2, [0, 1, 7, 8, 9])], []⟩
  | 152 => ⟨[(2, [0, 1, 5])], [(4, 8), (5, 8)]⟩
  | 82 => ⟨[(2, [0, 1, 8, 9, 10])], []⟩
  | 85 => ⟨[(2, [1, 2, 12, 13, 14]), (6, [1, 2, 7, 8, 9, 12, 13, 14, 19, 20, 21])], []⟩
  | 155 => ⟨[(3, [0, 5, 6, 9, 10, 11])], [(6, 12)]⟩
  | 86 => ⟨[(3, [0, 5, 8, 9, 10])], [(5, 8)]⟩
  | 135 => ⟨[(4, [0, 5, 6, 12, 13, 14])], [(6, 12)]⟩
  | 127 => ⟨[(3, [1, 2, 7, 10, 11, 12])], [(5, 9)]⟩
  | 17 => ⟨[(4, [0, 1, 5])], [(6, 8)]⟩
  | 19 => ⟨[(4, [0, 1, 5])], [(6, 8)]⟩
  | 18 => ⟨[(4, [0, 1, 5])], [(6, 8)]⟩
  | _ => ⟨[], []⟩
noncomputable def c_laws_szJobS : Code := Go.Proofs.Try.f10.body.getD .skip
abbrev n_laws_szJobS : FuncId := 10
theorem g_laws_szJobS : G 10 = ⟨[], []⟩ := rfl
attribute [simp] c_laws_szJobS g_laws_szJobS Go.Proofs.Try.f10
theorem e_laws_szJobS : enterG P (G 10) 10 = some (c_laws_szJobS, 12, #[.tmp 4]) := by kernel_rfl
noncomputable def c_laws_szIntS : Code := Go.Proofs.Try.f144.body.getD .skip
abbrev n_laws_szIntS : FuncId := 144
theorem g_laws_szIntS : G 144 = ⟨[], []⟩ := rfl
attribute [simp] c_laws_szIntS g_laws_szIntS Go.Proofs.Try.f144
theorem e_laws_szIntS : enterG P (G 144) 144 = some (c_laws_szIntS, 12, #[.tmp 4]) := by kernel_rfl
noncomputable def c_laws_szSetPrice : Code := Go.Proofs.Try.f73.body.getD .skip
abbrev n_laws_szSetPrice : FuncId := 73
theorem g_laws_szSetPrice : G 73 = ⟨[], []⟩ := rfl
attribute [simp] c_laws_szSetPrice g_laws_szSetPrice Go.Proofs.Try.f73
theorem e_laws_szSetPrice : enterG P (G 73) 73 = some (c_laws_szSetPrice, 12, #[.tmp 4]) := by kernel_rfl
noncomputable def c_laws_szSetPriceS : Code := Go.Proofs.Try.f11.body.getD .skip
abbrev n_laws_szSetPriceS : FuncId := 11
theorem g_laws_szSetPriceS : G 11 = ⟨[(5, [0, 1, 5])], []⟩ := rfl
attribute [simp] c_laws_szSetPriceS g_laws_szSetPriceS Go.Proofs.Try.f11
theorem e_laws_szSetPriceS : enterG P (G 11) 11 = some (c_laws_szSetPriceS, 27, #[.tmp 4]) := by kernel_rfl
noncomputable def c_laws_toJob : Code := Go.Proofs.Try.f79.body.getD .skip
abbrev n_laws_toJob : FuncId := 79
theorem g_laws_toJob : G 79 = ⟨[], []⟩ := rfl
attribute [simp] c_laws_toJob g_laws_toJob Go.Proofs.Try.f79
theorem e_laws_toJob : enterG P (G 79) 79 = some (c_laws_toJob, 17, #[.cell 2 58]) := by kernel_rfl
noncomputable def c_laws_toJobS : Code := Go.Proofs.Try.f13.body.getD .skip
abbrev n_laws_toJobS : FuncId := 13
theorem g_laws_toJobS : G 13 = ⟨[(3, [0, 3, 4])], []⟩ := rfl
attribute [simp] c_laws_toJobS g_laws_toJobS Go.Proofs.Try.f13
theorem e_laws_toJobS : enterG P (G 13) 13 = some (c_laws_toJobS, 23, #[.tmp 2]) := by kernel_rfl
noncomputable def c_laws_toIntS : Code := Go.Proofs.Try.f15.body.getD .skip
abbrev n_laws_toIntS : FuncId := 15
theorem g_laws_toIntS : G 15 = ⟨[(3, [0, 3, 4])], []⟩ := rfl
attribute [simp] c_laws_toIntS g_laws_toIntS Go.Proofs.Try.f15
theorem e_laws_toIntS : enterG P (G 15) 15 = some (c_laws_toIntS, 22, #[.tmp 2]) := by kernel_rfl
noncomputable def c_laws_toSetPrice : Code := Go.Proofs.Try.f80.body.getD .skip
abbrev n_laws_toSetPrice : FuncId := 80
theorem g_laws_toSetPrice : G 80 = ⟨[], []⟩ := rfl
attribute [simp] c_laws_toSetPrice g_laws_toSetPrice Go.Proofs.Try.f80
theorem e_laws_toSetPrice : enterG P (G 80) 80 = some (c_laws_toSetPrice, 12, #[.cell 2 108]) := by kernel_rfl
noncomputable def c_laws_toSetPriceS : Code := Go.Proofs.Try.f14.body.getD .skip
abbrev n_laws_toSetPriceS : FuncId := 14
theorem g_laws_toSetPriceS : G 14 = ⟨[(3, [0, 3, 4])], []⟩ := rfl
attribute [simp] c_laws_toSetPriceS g_laws_toSetPriceS Go.Proofs.Try.f14
theorem e_laws_toSetPriceS : enterG P (G 14) 14 = some (c_laws_toSetPriceS, 23, #[.tmp 2]) := by kernel_rfl
noncomputable def c_spec_l1In : Code := Go.Proofs.Try.f147.body.getD .skip
abbrev n_spec_l1In : FuncId := 147
theorem g_spec_l1In : G 147 = ⟨[], []⟩ := rfl
attribute [simp] c_spec_l1In g_spec_l1In Go.Proofs.Try.f147
theorem e_spec_l1In : enterG P (G 147) 147 = some (c_spec_l1In, 15, #[.tmp 6]) := by kernel_rfl
noncomputable def c_spec_l2Job : Code := Go.Proofs.Try.f177.body.getD .skip
abbrev n_spec_l2Job : FuncId := 177
theorem g_spec_l2Job : G 177 = ⟨[], []⟩ := rfl
attribute [simp] c_spec_l2Job g_spec_l2Job Go.Proofs.Try.f177
theorem e_spec_l2Job : enterG P (G 177) 177 = some (c_spec_l2Job, 21, #[.tmp 2]) := by kernel_rfl
noncomputable def c_spec_l2Good : Code := Go.Proofs.Try.f124.body.getD .skip
abbrev n_spec_l2Good : FuncId := 124
theorem g_spec_l2Good : G 124 = ⟨[(2, [0, 3])], []⟩ := rfl
attribute [simp] c_spec_l2Good g_spec_l2Good Go.Proofs.Try.f124
theorem e_spec_l2Good : enterG P (G 124) 124 = some (c_spec_l2Good, 19, #[.tmp 2]) := by kernel_rfl
noncomputable def c_spec_l4Free : Code := Go.Proofs.Try.f184.body.getD .skip
abbrev n_spec_l4Free : FuncId := 184
theorem g_spec_l4Free : G 184 = ⟨[(2, [0, 3])], []⟩ := rfl
attribute [simp] c_spec_l4Free g_spec_l4Free Go.Proofs.Try.f184
theorem e_spec_l4Free : enterG P (G 184) 184 = some (c_spec_l4Free, 16, #[.tmp 2]) := by kernel_rfl
noncomputable def c_spec_l6Good : Code := Go.Proofs.Try.f145.body.getD .skip
abbrev n_spec_l6Good : FuncId := 145
theorem g_spec_l6Good : G 145 = ⟨[], []⟩ := rfl
attribute [simp] c_spec_l6Good g_spec_l6Good Go.Proofs.Try.f145
theorem e_spec_l6Good : enterG P (G 145) 145 = some (c_spec_l6Good, 9, #[.tmp 2]) := by kernel_rfl
noncomputable def c_spec_l1Rising : Code := Go.Proofs.Try.f194.body.getD .skip
abbrev n_spec_l1Rising : FuncId := 194
theorem g_spec_l1Rising : G 194 = ⟨[(2, [0, 1, 2, 7])], [(4, 21)]⟩ := rfl
attribute [simp] c_spec_l1Rising g_spec_l1Rising Go.Proofs.Try.f194
theorem e_spec_l1Rising : enterG P (G 194) 194 = some (c_spec_l1Rising, 38, #[.tmp 6]) := by kernel_rfl
noncomputable def c_spec_l6Set : Code := Go.Proofs.Try.f185.body.getD .skip
abbrev n_spec_l6Set : FuncId := 185
theorem g_spec_l6Set : G 185 = ⟨[], []⟩ := rfl
attribute [simp] c_spec_l6Set g_spec_l6Set Go.Proofs.Try.f185
theorem e_spec_l6Set : enterG P (G 185) 185 = some (c_spec_l6Set, 10, #[.tmp 4]) := by kernel_rfl
noncomputable def c_spec_l4Less : Code := Go.Proofs.Try.f186.body.getD .skip
abbrev n_spec_l4Less : FuncId := 186
theorem g_spec_l4Less : G 186 = ⟨[(4, [0, 1, 5])], [(6, 8), (7, 8)]⟩ := rfl
attribute [simp] c_spec_l4Less g_spec_l4Less Go.Proofs.Try.f186
theorem e_spec_l4Less : enterG P (G 186) 186 = some (c_spec_l4Less, 40, #[.tmp 4]) := by kernel_rfl
noncomputable def c_spec_l10Prices : Code := Go.Proofs.Try.f146.body.getD .skip
abbrev n_spec_l10Prices : FuncId := 146
theorem g_spec_l10Prices : G 146 = ⟨[(2, [0, 1, 5])], [(6, 14)]⟩ := rfl
attribute [simp] c_spec_l10Prices g_spec_l10Prices Go.Proofs.Try.f146
theorem e_spec_l10Prices : enterG P (G 146) 146 = some (c_spec_l10Prices, 55, #[.tmp 4]) := by kernel_rfl
noncomputable def c_spec_l10Scaled : Code := Go.Proofs.Try.f74.body.getD .skip
abbrev n_spec_l10Scaled : FuncId := 74
theorem g_spec_l10Scaled : G 74 = ⟨[], []⟩ := rfl
attribute [simp] c_spec_l10Scaled g_spec_l10Scaled Go.Proofs.Try.f74
theorem e_spec_l10Scaled : enterG P (G 74) 74 = some (c_spec_l10Scaled, 18, #[.tmp 6]) := by kernel_rfl
noncomputable def c_spec_l1Has : Code := Go.Proofs.Try.f148.body.getD .skip
abbrev n_spec_l1Has : FuncId := 148
theorem g_spec_l1Has : G 148 = ⟨[(2, [0, 1, 5])], []⟩ := rfl
attribute [simp] c_spec_l1Has g_spec_l1Has Go.Proofs.Try.f148
theorem e_spec_l1Has : enterG P (G 148) 148 = some (c_spec_l1Has, 18, #[.tmp 4]) := by kernel_rfl
noncomputable def c_spec_l2Order : Code := Go.Proofs.Try.f75.body.getD .skip
abbrev n_spec_l2Order : FuncId := 75
theorem g_spec_l2Order : G 75 = ⟨[(4, [0, 1, 5])], []⟩ := rfl
attribute [simp] c_spec_l2Order g_spec_l2Order Go.Proofs.Try.f75
theorem e_spec_l2Order : enterG P (G 75) 75 = some (c_spec_l2Order, 24, #[.tmp 4]) := by kernel_rfl
noncomputable def c_spec_l10Fair : Code := Go.Proofs.Try.f76.body.getD .skip
abbrev n_spec_l10Fair : FuncId := 76
theorem g_spec_l10Fair : G 76 = ⟨[(2, [0, 1, 2, 7]), (6, [0, 1, 2, 7, 8, 9])], [(10, 14)]⟩ := rfl
attribute [simp] c_spec_l10Fair g_spec_l10Fair Go.Proofs.Try.f76
theorem e_spec_l10Fair : enterG P (G 76) 76 = some (c_spec_l10Fair, 51, #[.tmp 6]) := by kernel_rfl
noncomputable def c_spec_l10Demand : Code := Go.Proofs.Try.f149.body.getD .skip
abbrev n_spec_l10Demand : FuncId := 149
theorem g_spec_l10Demand : G 149 = ⟨[(3, [0, 1, 5, 6, 7])], [(6, 18)]⟩ := rfl
attribute [simp] c_spec_l10Demand g_spec_l10Demand Go.Proofs.Try.f149
theorem e_spec_l10Demand : enterG P (G 149) 149 = some (c_spec_l10Demand, 49, #[.tmp 4]) := by kernel_rfl
noncomputable def c_spec_l10Yield : Code := Go.Proofs.Try.f77.body.getD .skip
abbrev n_spec_l10Yield : FuncId := 77
theorem g_spec_l10Yield : G 77 = ⟨[(3, [0, 1, 5, 6])], [(5, 14)]⟩ := rfl
attribute [simp] c_spec_l10Yield g_spec_l10Yield Go.Proofs.Try.f77
theorem e_spec_l10Yield : enterG P (G 77) 77 = some (c_spec_l10Yield, 29, #[.tmp 4]) := by kernel_rfl
noncomputable def c_spec_l1Most : Code := Go.Proofs.Try.f167.body.getD .skip
abbrev n_spec_l1Most : FuncId := 167
theorem g_spec_l1Most : G 167 = ⟨[], []⟩ := rfl
attribute [simp] c_spec_l1Most g_spec_l1Most Go.Proofs.Try.f167
theorem e_spec_l1Most : enterG P (G 167) 167 = some (c_spec_l1Most, 10, #[.tmp 4]) := by kernel_rfl
noncomputable def c_spec_l2Starts : Code := Go.Proofs.Try.f137.body.getD .skip
abbrev n_spec_l2Starts : FuncId := 137
theorem g_spec_l2Starts : G 137 = ⟨[(3, [0, 1, 5, 6, 7])], [(5, 15), (6, 15)]⟩ := rfl
attribute [simp] c_spec_l2Starts g_spec_l2Starts Go.Proofs.Try.f137
theorem e_spec_l2Starts : enterG P (G 137) 137 = some (c_spec_l2Starts, 50, #[.tmp 4]) := by kernel_rfl
noncomputable def c_spec_l2Ends : Code := Go.Proofs.Try.f138.body.getD .skip
abbrev n_spec_l2Ends : FuncId := 138
theorem g_spec_l2Ends : G 138 = ⟨[(3, [0, 5, 6])], [(5, 12)]⟩ := rfl
attribute [simp] c_spec_l2Ends g_spec_l2Ends Go.Proofs.Try.f138
theorem e_spec_l2Ends : enterG P (G 138) 138 = some (c_spec_l2Ends, 30, #[.tmp 4]) := by kernel_rfl
noncomputable def c_spec_l2Greatest : Code := Go.Proofs.Try.f180.body.getD .skip
abbrev n_spec_l2Greatest : FuncId := 180
theorem g_spec_l2Greatest : G 180 = ⟨[], []⟩ := rfl
attribute [simp] c_spec_l2Greatest g_spec_l2Greatest Go.Proofs.Try.f180
theorem e_spec_l2Greatest : enterG P (G 180) 180 = some (c_spec_l2Greatest, 9, #[.tmp 2]) := by kernel_rfl
noncomputable def c_spec_l2Cost : Code := Go.Proofs.Try.f181.body.getD .skip
abbrev n_spec_l2Cost : FuncId := 181
theorem g_spec_l2Cost : G 181 = ⟨[], []⟩ := rfl
attribute [simp] c_spec_l2Cost g_spec_l2Cost Go.Proofs.Try.f181
theorem e_spec_l2Cost : enterG P (G 181) 181 = some (c_spec_l2Cost, 38, #[.tmp 6]) := by kernel_rfl
noncomputable def c_spec_l2Of : Code := Go.Proofs.Try.f131.body.getD .skip
abbrev n_spec_l2Of : FuncId := 131
theorem g_spec_l2Of : G 131 = ⟨[(3, [0, 1, 2, 7, 8])], [(6, 11)]⟩ := rfl
attribute [simp] c_spec_l2Of g_spec_l2Of Go.Proofs.Try.f131
theorem e_spec_l2Of : enterG P (G 131) 131 = some (c_spec_l2Of, 53, #[.tmp 6]) := by kernel_rfl
noncomputable def c_spec_l2Value : Code := Go.Proofs.Try.f78.body.getD .skip
abbrev n_spec_l2Value : FuncId := 78
theorem g_spec_l2Value : G 78 = ⟨[], []⟩ := rfl
attribute [simp] c_spec_l2Value g_spec_l2Value Go.Proofs.Try.f78
theorem e_spec_l2Value : enterG P (G 78) 78 = some (c_spec_l2Value, 13, #[.tmp 6]) := by kernel_rfl
noncomputable def c_spec_PriceProof : Code := Go.Proofs.Try.f12.body.getD .skip
abbrev n_spec_PriceProof : FuncId := 12
theorem g_spec_PriceProof : G 12 = ⟨[], []⟩ := rfl
attribute [simp] c_spec_PriceProof g_spec_PriceProof Go.Proofs.Try.f12
theorem e_spec_PriceProof : enterG P (G 12) 12 = some (c_spec_PriceProof, 37, #[.tmp 8, .tmp 9]) := by kernel_rfl
noncomputable def c_impl_within : Code := Go.Proofs.Try.f116.body.getD .skip
abbrev n_impl_within : FuncId := 116
theorem g_impl_within : G 116 = ⟨[], []⟩ := rfl
attribute [simp] c_impl_within g_impl_within Go.Proofs.Try.f116
theorem e_impl_within : enterG P (G 116) 116 = some (c_impl_within, 15, #[.tmp 6]) := by kernel_rfl
noncomputable def c_impl_isDate : Code := Go.Proofs.Try.f173.body.getD .skip
abbrev n_impl_isDate : FuncId := 173
theorem g_impl_isDate : G 173 = ⟨[], []⟩ := rfl
attribute [simp] c_impl_isDate g_impl_isDate Go.Proofs.Try.f173
theorem e_impl_isDate : enterG P (G 173) 173 = some (c_impl_isDate, 5, #[.tmp 2]) := by kernel_rfl
noncomputable def c_impl_IsJobs : Code := Go.Proofs.Try.f117.body.getD .skip
abbrev n_impl_IsJobs : FuncId := 117
theorem g_impl_IsJobs : G 117 = ⟨[(4, [8, 9, 10])], []⟩ := rfl
attribute [simp] c_impl_IsJobs g_impl_IsJobs Go.Proofs.Try.f117
theorem e_impl_IsJobs : enterG P (G 117) 117 = some (c_impl_IsJobs, 37, #[.tmp 2]) := by kernel_rfl
noncomputable def c_impl_isPlain : Code := Go.Proofs.Try.f150.body.getD .skip
abbrev n_impl_isPlain : FuncId := 150
theorem g_impl_isPlain : G 150 = ⟨[(2, [5, 6, 7])], []⟩ := rfl
attribute [simp] c_impl_isPlain g_impl_isPlain Go.Proofs.Try.f150
theorem e_impl_isPlain : enterG P (G 150) 150 = some (c_impl_isPlain, 15, #[.tmp 2]) := by kernel_rfl
noncomputable def c_impl_IsPlain : Code := Go.Proofs.Try.f81.body.getD .skip
abbrev n_impl_IsPlain : FuncId := 81
theorem g_impl_IsPlain : G 81 = ⟨[], []⟩ := rfl
attribute [simp] c_impl_IsPlain g_impl_IsPlain Go.Proofs.Try.f81
theorem e_impl_IsPlain : enterG P (G 81) 81 = some (c_impl_IsPlain, 9, #[.tmp 2]) := by kernel_rfl
noncomputable def c_impl_isRising : Code := Go.Proofs.Try.f187.body.getD .skip
abbrev n_impl_isRising : FuncId := 187
theorem g_impl_isRising : G 187 = ⟨[(2, [0, 3])], [(4, 9)]⟩ := rfl
attribute [simp] c_impl_isRising g_impl_isRising Go.Proofs.Try.f187
theorem e_impl_isRising : enterG P (G 187) 187 = some (c_impl_isRising, 20, #[.tmp 2]) := by kernel_rfl
noncomputable def c_impl_isNumber : Code := Go.Proofs.Try.f118.body.getD .skip
abbrev n_impl_isNumber : FuncId := 118
theorem g_impl_isNumber : G 118 = ⟨[], []⟩ := rfl
attribute [simp] c_impl_isNumber g_impl_isNumber Go.Proofs.Try.f118
theorem e_impl_isNumber : enterG P (G 118) 118 = some (c_impl_isNumber, 9, #[.tmp 4]) := by kernel_rfl
noncomputable def c_impl_has : Code := Go.Proofs.Try.f154.body.getD .skip
abbrev n_impl_has : FuncId := 154
theorem g_impl_has : G 154 = ⟨[(2, [1, 7, 8, 9])], []⟩ := rfl
attribute [simp] c_impl_has g_impl_has Go.Proofs.Try.f154
theorem e_impl_has : enterG P (G 154) 154 = some (c_impl_has, 17, #[.tmp 4]) := by kernel_rfl
noncomputable def c_impl_areDifferent : Code := Go.Proofs.Try.f153.body.getD .skip
abbrev n_impl_areDifferent : FuncId := 153
theorem g_impl_areDifferent : G 153 = ⟨[(2, [0, 1, 7, 8, 9])], []⟩ := rfl
attribute [simp] c_impl_areDifferent g_impl_areDifferent Go.Proofs.Try.f153
theorem e_impl_areDifferent : enterG P (G 153) 153 = some (c_impl_areDifferent, 26, #[.tmp 4]) := by kernel_rfl
noncomputable def c_impl_isSet : Code := Go.Proofs.Try.f151.body.getD .skip
abbrev n_impl_isSet : FuncId := 151
theorem g_impl_isSet : G 151 = ⟨[], []⟩ := rfl
attribute [simp] c_impl_isSet g_impl_isSet Go.Proofs.Try.f151
theorem e_impl_isSet : enterG P (G 151) 151 = some (c_impl_isSet, 12, #[.tmp 4]) := by kernel_rfl
noncomputable def c_impl_compareLists : Code := Go.Proofs.Try.f152.body.getD .skip
abbrev n_impl_compareLists : FuncId := 152
theorem g_impl_compareLists : G 152 = ⟨[(2, [0, 1, 5])], [(4, 8), (5, 8)]⟩ := rfl
attribute [simp] c_impl_compareLists g_impl_compareLists Go.Proofs.Try.f152
theorem e_impl_compareLists : enterG P (G 152) 152 = some (c_impl_compareLists, 41, #[.tmp 4]) := by kernel_rfl
noncomputable def c_impl_arePrices : Code := Go.Proofs.Try.f82.body.getD .skip
abbrev n_impl_arePrices : FuncId := 82
theorem g_impl_arePrices : G 82 = ⟨[(2, [0, 1, 8, 9, 10])], []⟩ := rfl
attribute [simp] c_impl_arePrices g_impl_arePrices Go.Proofs.Try.f82
theorem e_impl_arePrices : enterG P (G 82) 82 = some (c_impl_arePrices, 63, #[.tmp 4]) := by kernel_rfl
noncomputable def c_impl_isScale : Code := Go.Proofs.Try.f83.body.getD .skip
abbrev n_impl_isScale : FuncId := 83
theorem g_impl_isScale : G 83 = ⟨[], []⟩ := rfl
attribute [simp] c_impl_isScale g_impl_isScale Go.Proofs.Try.f83
theorem e_impl_isScale : enterG P (G 83) 83 = some (c_impl_isScale, 5, #[.tmp 2]) := by kernel_rfl
noncomputable def c_impl_isOrder : Code := Go.Proofs.Try.f84.body.getD .skip
abbrev n_impl_isOrder : FuncId := 84
theorem g_impl_isOrder : G 84 = ⟨[], []⟩ := rfl
attribute [simp] c_impl_isOrder g_impl_isOrder Go.Proofs.Try.f84
theorem e_impl_isOrder : enterG P (G 84) 84 = some (c_impl_isOrder, 14, #[.tmp 4]) := by kernel_rfl
noncomputable def c_impl_isFair : Code := Go.Proofs.Try.f85.body.getD .skip
abbrev n_impl_isFair : FuncId := 85
theorem g_impl_isFair : G 85 = ⟨[(2, [1, 2, 12, 13, 14]), (6, [1, 2, 7, 8, 9, 12, 13, 14, 19, 20, 21])], []⟩ := rfl
attribute [simp] c_impl_isFair g_impl_isFair Go.Proofs.Try.f85
theorem e_impl_isFair : enterG P (G 85) 85 = some (c_impl_isFair, 44, #[.tmp 6]) := by kernel_rfl
noncomputable def c_impl_demandOf : Code := Go.Proofs.Try.f155.body.getD .skip
abbrev n_impl_demandOf : FuncId := 155
theorem g_impl_demandOf : G 155 = ⟨[(3, [0, 5, 6, 9, 10, 11])], [(6, 12)]⟩ := rfl
attribute [simp] c_impl_demandOf g_impl_demandOf Go.Proofs.Try.f155
theorem e_impl_demandOf : enterG P (G 155) 155 = some (c_impl_demandOf, 42, #[.tmp 4]) := by kernel_rfl
noncomputable def c_impl_yieldOf : Code := Go.Proofs.Try.f86.body.getD .skip
abbrev n_impl_yieldOf : FuncId := 86
theorem g_impl_yieldOf : G 86 = ⟨[(3, [0, 5, 8, 9, 10])], [(5, 8)]⟩ := rfl
attribute [simp] c_impl_yieldOf g_impl_yieldOf Go.Proofs.Try.f86
theorem e_impl_yieldOf : enterG P (G 86) 86 = some (c_impl_yieldOf, 25, #[.tmp 4]) := by kernel_rfl
noncomputable def c_impl_endsOf : Code := Go.Proofs.Try.f135.body.getD .skip
abbrev n_impl_endsOf : FuncId := 135
theorem g_impl_endsOf : G 135 = ⟨[(4, [0, 5, 6, 12, 13, 14])], [(6, 12)]⟩ := rfl
attribute [simp] c_impl_endsOf g_impl_endsOf Go.Proofs.Try.f135
theorem e_impl_endsOf : enterG P (G 135) 135 = some (c_impl_endsOf, 37, #[.tmp 4]) := by kernel_rfl
noncomputable def c_impl_add : Code := Go.Proofs.Try.f179.body.getD .skip
abbrev n_impl_add : FuncId := 179
theorem g_impl_add : G 179 = ⟨[], []⟩ := rfl
attribute [simp] c_impl_add g_impl_add Go.Proofs.Try.f179
theorem e_impl_add : enterG P (G 179) 179 = some (c_impl_add, 70, #[.tmp 10]) := by kernel_rfl
noncomputable def c_impl_valueOfEnds : Code := Go.Proofs.Try.f127.body.getD .skip
abbrev n_impl_valueOfEnds : FuncId := 127
theorem g_impl_valueOfEnds : G 127 = ⟨[(3, [1, 2, 7, 10, 11, 12])], [(5, 9)]⟩ := rfl
attribute [simp] c_impl_valueOfEnds g_impl_valueOfEnds Go.Proofs.Try.f127
theorem e_impl_valueOfEnds : enterG P (G 127) 127 = some (c_impl_valueOfEnds, 29, #[.tmp 6]) := by kernel_rfl
noncomputable def c_impl_valueOf : Code := Go.Proofs.Try.f87.body.getD .skip
abbrev n_impl_valueOf : FuncId := 87
theorem g_impl_valueOf : G 87 = ⟨[], []⟩ := rfl
attribute [simp] c_impl_valueOf g_impl_valueOf Go.Proofs.Try.f87
theorem e_impl_valueOf : enterG P (G 87) 87 = some (c_impl_valueOf, 13, #[.tmp 6]) := by kernel_rfl
noncomputable def c_impl_PriceProof : Code := Go.Proofs.Try.f16.body.getD .skip
abbrev n_impl_PriceProof : FuncId := 16
theorem g_impl_PriceProof : G 16 = ⟨[], []⟩ := rfl
attribute [simp] c_impl_PriceProof g_impl_PriceProof Go.Proofs.Try.f16
theorem e_impl_PriceProof : enterG P (G 16) 16 = some (c_impl_PriceProof, 46, #[.tmp 8, .tmp 9]) := by kernel_rfl
noncomputable def c_laws_eqJob : Code := Go.Proofs.Try.f88.body.getD .skip
abbrev n_laws_eqJob : FuncId := 88
theorem g_laws_eqJob : G 88 = ⟨[], []⟩ := rfl
attribute [simp] c_laws_eqJob g_laws_eqJob Go.Proofs.Try.f88
theorem e_laws_eqJob : enterG P (G 88) 88 = some (c_laws_eqJob, 25, #[.tmp 4]) := by kernel_rfl
noncomputable def c_laws_eqJobS : Code := Go.Proofs.Try.f17.body.getD .skip
abbrev n_laws_eqJobS : FuncId := 17
theorem g_laws_eqJobS : G 17 = ⟨[(4, [0, 1, 5])], [(6, 8)]⟩ := rfl
attribute [simp] c_laws_eqJobS g_laws_eqJobS Go.Proofs.Try.f17
theorem e_laws_eqJobS : enterG P (G 17) 17 = some (c_laws_eqJobS, 27, #[.tmp 4]) := by kernel_rfl
noncomputable def c_laws_eqIntS : Code := Go.Proofs.Try.f19.body.getD .skip
abbrev n_laws_eqIntS : FuncId := 19
theorem g_laws_eqIntS : G 19 = ⟨[(4, [0, 1, 5])], [(6, 8)]⟩ := rfl
attribute [simp] c_laws_eqIntS g_laws_eqIntS Go.Proofs.Try.f19
theorem e_laws_eqIntS : enterG P (G 19) 19 = some (c_laws_eqIntS, 26, #[.tmp 4]) := by kernel_rfl
noncomputable def c_laws_eqSetPrice : Code := Go.Proofs.Try.f89.body.getD .skip
abbrev n_laws_eqSetPrice : FuncId := 89
theorem g_laws_eqSetPrice : G 89 = ⟨[], []⟩ := rfl
attribute [simp] c_laws_eqSetPrice g_laws_eqSetPrice Go.Proofs.Try.f89
theorem e_laws_eqSetPrice : enterG P (G 89) 89 = some (c_laws_eqSetPrice, 16, #[.tmp 4]) := by kernel_rfl
noncomputable def c_laws_eqSetPriceS : Code := Go.Proofs.Try.f18.body.getD .skip
abbrev n_laws_eqSetPriceS : FuncId := 18
theorem g_laws_eqSetPriceS : G 18 = ⟨[(4, [0, 1, 5])], [(6, 8)]⟩ := rfl
attribute [simp] c_laws_eqSetPriceS g_laws_eqSetPriceS Go.Proofs.Try.f18
theorem e_laws_eqSetPriceS : enterG P (G 18) 18 = some (c_laws_eqSetPriceS, 27, #[.tmp 4]) := by kernel_rfl
noncomputable def c_laws_FnExactPriceProof : Code := Go.Proofs.Try.f3.body.getD .skip
abbrev n_laws_FnExactPriceProof : FuncId := 3
theorem g_laws_FnExactPriceProof : G 3 = ⟨[], []⟩ := rfl
attribute [simp] c_laws_FnExactPriceProof g_laws_FnExactPriceProof Go.Proofs.Try.f3
theorem e_laws_FnExactPriceProof : enterG P (G 3) 3 = some (c_laws_FnExactPriceProof, 78, #[.tmp 8]) := by kernel_rfl
end Go.Pm.PP
