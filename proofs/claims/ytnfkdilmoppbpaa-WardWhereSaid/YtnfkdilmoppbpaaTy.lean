/- The types that occur, as the symbolic run asks of them: each against the loaded program. -/
import Derived.Test.YtnfkdilmoppbpaaProg
import Derived.Test.YtnfkdilmoppbpaaAxK
import Derived.KernelRfl
namespace Go.Proofs.Ytnfkdilmoppbpaa
open Go.Ax

theorem ty3 : TyOK Try.prog 3 ⟨.td (.int .i64), 1, 8, [.int .i64 0]⟩ := tyOK_td (z := .int .i64 0) (by kernel_rfl) rfl (by kernel_rfl) rfl rfl
theorem ty4 : TyOK Try.prog 4 ⟨.td (.bool), 1, 1, [.bool false]⟩ := tyOK_td (z := .bool false) (by kernel_rfl) rfl (by kernel_rfl) rfl rfl
theorem ty9 : TyOK Try.prog 9 ⟨.td (.string), 1, 16, [.string ⟨#[]⟩]⟩ := tyOK_td (z := .string ⟨#[]⟩) (by kernel_rfl) rfl (by kernel_rfl) rfl rfl
theorem ty22 : TyOK Try.prog 22 ⟨.td (.slice 33), 1, 24, [.slice none 0 0]⟩ := tyOK_td (z := .slice none 0 0) (by kernel_rfl) rfl (by kernel_rfl) rfl rfl
theorem ty23 : TyOK Try.prog 23 ⟨.td (.slice 85), 1, 24, [.slice none 0 0]⟩ := tyOK_td (z := .slice none 0 0) (by kernel_rfl) rfl (by kernel_rfl) rfl rfl
theorem ty25 : TyOK Try.prog 25 ⟨.agg [(0, 22), (1, 3), (2, 23)], 3, 56, [.slice none 0 0, .int .i64 0, .slice none 0 0]⟩ := tyOK_agg (z := .agg #[.slice none 0 0, .int .i64 0, .slice none 0 0]) (by kernel_rfl) (by kernel_rfl) rfl rfl
theorem ty30 : TyOK Try.prog 30 ⟨.td (.slice 3), 1, 24, [.slice none 0 0]⟩ := tyOK_td (z := .slice none 0 0) (by kernel_rfl) rfl (by kernel_rfl) rfl rfl
theorem ty31 : TyOK Try.prog 31 ⟨.td (.slice 34), 1, 24, [.slice none 0 0]⟩ := tyOK_td (z := .slice none 0 0) (by kernel_rfl) rfl (by kernel_rfl) rfl rfl
theorem ty33 : TyOK Try.prog 33 ⟨.agg [(0, 9), (1, 3), (2, 3), (3, 30), (4, 31)], 5, 80, [.string ⟨#[]⟩, .int .i64 0, .int .i64 0, .slice none 0 0, .slice none 0 0]⟩ := tyOK_agg (z := .agg #[.string ⟨#[]⟩, .int .i64 0, .int .i64 0, .slice none 0 0, .slice none 0 0]) (by kernel_rfl) (by kernel_rfl) rfl rfl
theorem ty34 : TyOK Try.prog 34 ⟨.td (.slice 36), 1, 24, [.slice none 0 0]⟩ := tyOK_td (z := .slice none 0 0) (by kernel_rfl) rfl (by kernel_rfl) rfl rfl
theorem ty36 : TyOK Try.prog 36 ⟨.agg [(0, 3), (1, 3), (2, 3), (3, 3), (4, 3), (5, 3), (6, 3), (7, 3), (8, 30)], 9, 88, [.int .i64 0, .int .i64 0, .int .i64 0, .int .i64 0, .int .i64 0, .int .i64 0, .int .i64 0, .int .i64 0, .slice none 0 0]⟩ := tyOK_agg (z := .agg #[.int .i64 0, .int .i64 0, .int .i64 0, .int .i64 0, .int .i64 0, .int .i64 0, .int .i64 0, .int .i64 0, .slice none 0 0]) (by kernel_rfl) (by kernel_rfl) rfl rfl
theorem ty39 : TyOK Try.prog 39 ⟨.td (.pointer 56), 1, 8, [.pointer none]⟩ := tyOK_td (z := .pointer none) (by kernel_rfl) rfl (by kernel_rfl) rfl rfl
theorem ty54 : TyOK Try.prog 54 ⟨.td (.slice 76), 1, 24, [.slice none 0 0]⟩ := tyOK_td (z := .slice none 0 0) (by kernel_rfl) rfl (by kernel_rfl) rfl rfl
theorem ty56 : TyOK Try.prog 56 ⟨.agg [(0, 54), (1, 3)], 2, 32, [.slice none 0 0, .int .i64 0]⟩ := tyOK_agg (z := .agg #[.slice none 0 0, .int .i64 0]) (by kernel_rfl) (by kernel_rfl) rfl rfl
theorem ty58 : TyOK Try.prog 58 ⟨.td (.slice 30), 1, 24, [.slice none 0 0]⟩ := tyOK_td (z := .slice none 0 0) (by kernel_rfl) rfl (by kernel_rfl) rfl rfl
theorem ty64 : TyOK Try.prog 64 ⟨.td (.int .i64), 1, 8, [.int .i64 0]⟩ := tyOK_td (z := .int .i64 0) (by kernel_rfl) rfl (by kernel_rfl) rfl rfl
theorem ty66 : TyOK Try.prog 66 ⟨.agg [(0, 3), (1, 3), (2, 3), (3, 64)], 4, 32, [.int .i64 0, .int .i64 0, .int .i64 0, .int .i64 0]⟩ := tyOK_agg (z := .agg #[.int .i64 0, .int .i64 0, .int .i64 0, .int .i64 0]) (by kernel_rfl) (by kernel_rfl) rfl rfl
theorem ty69 : TyOK Try.prog 69 ⟨.td (.slice 4), 1, 24, [.slice none 0 0]⟩ := tyOK_td (z := .slice none 0 0) (by kernel_rfl) rfl (by kernel_rfl) rfl rfl
theorem ty76 : TyOK Try.prog 76 ⟨.agg [(0, 36), (9, 3), (10, 4)], 11, 104, [.int .i64 0, .int .i64 0, .int .i64 0, .int .i64 0, .int .i64 0, .int .i64 0, .int .i64 0, .int .i64 0, .slice none 0 0, .int .i64 0, .bool false]⟩ := tyOK_agg (z := .agg #[.int .i64 0, .int .i64 0, .int .i64 0, .int .i64 0, .int .i64 0, .int .i64 0, .int .i64 0, .int .i64 0, .slice none 0 0, .int .i64 0, .bool false]) (by kernel_rfl) (by kernel_rfl) rfl rfl
theorem ty85 : TyOK Try.prog 85 ⟨.agg [(0, 3), (1, 3)], 2, 16, [.int .i64 0, .int .i64 0]⟩ := tyOK_agg (z := .agg #[.int .i64 0, .int .i64 0]) (by kernel_rfl) (by kernel_rfl) rfl rfl
theorem ty114 : TyOK Try.prog 114 ⟨.agg [(0, 3), (1, 3)], 2, 16, [.int .i64 0, .int .i64 0]⟩ := tyOK_agg (z := .agg #[.int .i64 0, .int .i64 0]) (by kernel_rfl) (by kernel_rfl) rfl rfl
theorem ty115 : TyOK Try.prog 115 ⟨.td (.slice 114), 1, 24, [.slice none 0 0]⟩ := tyOK_td (z := .slice none 0 0) (by kernel_rfl) rfl (by kernel_rfl) rfl rfl
theorem ty117 : TyOK Try.prog 117 ⟨.td (.map 3 3), 1, 8, [.map none]⟩ := tyOK_td (z := .map none) (by kernel_rfl) rfl (by kernel_rfl) rfl rfl
theorem ty130 : TyOK Try.prog 130 ⟨.td (.pointer 36), 1, 8, [.pointer none]⟩ := tyOK_td (z := .pointer none) (by kernel_rfl) rfl (by kernel_rfl) rfl rfl
theorem ty131 : TyOK Try.prog 131 ⟨.td (.pointer 3), 1, 8, [.pointer none]⟩ := tyOK_td (z := .pointer none) (by kernel_rfl) rfl (by kernel_rfl) rfl rfl
instance : TyF Try.prog 3 ⟨.td (.int .i64), 1, 8, [.int .i64 0]⟩ := ⟨ty3⟩
instance : TyF Try.prog 4 ⟨.td (.bool), 1, 1, [.bool false]⟩ := ⟨ty4⟩
instance : TyF Try.prog 9 ⟨.td (.string), 1, 16, [.string ⟨#[]⟩]⟩ := ⟨ty9⟩
instance : TyF Try.prog 22 ⟨.td (.slice 33), 1, 24, [.slice none 0 0]⟩ := ⟨ty22⟩
instance : TyF Try.prog 23 ⟨.td (.slice 85), 1, 24, [.slice none 0 0]⟩ := ⟨ty23⟩
instance : TyF Try.prog 25 ⟨.agg [(0, 22), (1, 3), (2, 23)], 3, 56, [.slice none 0 0, .int .i64 0, .slice none 0 0]⟩ := ⟨ty25⟩
instance : TyF Try.prog 30 ⟨.td (.slice 3), 1, 24, [.slice none 0 0]⟩ := ⟨ty30⟩
instance : TyF Try.prog 31 ⟨.td (.slice 34), 1, 24, [.slice none 0 0]⟩ := ⟨ty31⟩
instance : TyF Try.prog 33 ⟨.agg [(0, 9), (1, 3), (2, 3), (3, 30), (4, 31)], 5, 80, [.string ⟨#[]⟩, .int .i64 0, .int .i64 0, .slice none 0 0, .slice none 0 0]⟩ := ⟨ty33⟩
instance : TyF Try.prog 34 ⟨.td (.slice 36), 1, 24, [.slice none 0 0]⟩ := ⟨ty34⟩
instance : TyF Try.prog 36 ⟨.agg [(0, 3), (1, 3), (2, 3), (3, 3), (4, 3), (5, 3), (6, 3), (7, 3), (8, 30)], 9, 88, [.int .i64 0, .int .i64 0, .int .i64 0, .int .i64 0, .int .i64 0, .int .i64 0, .int .i64 0, .int .i64 0, .slice none 0 0]⟩ := ⟨ty36⟩
instance : TyF Try.prog 39 ⟨.td (.pointer 56), 1, 8, [.pointer none]⟩ := ⟨ty39⟩
instance : TyF Try.prog 54 ⟨.td (.slice 76), 1, 24, [.slice none 0 0]⟩ := ⟨ty54⟩
instance : TyF Try.prog 56 ⟨.agg [(0, 54), (1, 3)], 2, 32, [.slice none 0 0, .int .i64 0]⟩ := ⟨ty56⟩
instance : TyF Try.prog 58 ⟨.td (.slice 30), 1, 24, [.slice none 0 0]⟩ := ⟨ty58⟩
instance : TyF Try.prog 64 ⟨.td (.int .i64), 1, 8, [.int .i64 0]⟩ := ⟨ty64⟩
instance : TyF Try.prog 66 ⟨.agg [(0, 3), (1, 3), (2, 3), (3, 64)], 4, 32, [.int .i64 0, .int .i64 0, .int .i64 0, .int .i64 0]⟩ := ⟨ty66⟩
instance : TyF Try.prog 69 ⟨.td (.slice 4), 1, 24, [.slice none 0 0]⟩ := ⟨ty69⟩
instance : TyF Try.prog 76 ⟨.agg [(0, 36), (9, 3), (10, 4)], 11, 104, [.int .i64 0, .int .i64 0, .int .i64 0, .int .i64 0, .int .i64 0, .int .i64 0, .int .i64 0, .int .i64 0, .slice none 0 0, .int .i64 0, .bool false]⟩ := ⟨ty76⟩
instance : TyF Try.prog 85 ⟨.agg [(0, 3), (1, 3)], 2, 16, [.int .i64 0, .int .i64 0]⟩ := ⟨ty85⟩
instance : TyF Try.prog 114 ⟨.agg [(0, 3), (1, 3)], 2, 16, [.int .i64 0, .int .i64 0]⟩ := ⟨ty114⟩
instance : TyF Try.prog 115 ⟨.td (.slice 114), 1, 24, [.slice none 0 0]⟩ := ⟨ty115⟩
instance : TyF Try.prog 117 ⟨.td (.map 3 3), 1, 8, [.map none]⟩ := ⟨ty117⟩
instance : TyF Try.prog 130 ⟨.td (.pointer 36), 1, 8, [.pointer none]⟩ := ⟨ty130⟩
instance : TyF Try.prog 131 ⟨.td (.pointer 3), 1, 8, [.pointer none]⟩ := ⟨ty131⟩
end Go.Proofs.Ytnfkdilmoppbpaa
