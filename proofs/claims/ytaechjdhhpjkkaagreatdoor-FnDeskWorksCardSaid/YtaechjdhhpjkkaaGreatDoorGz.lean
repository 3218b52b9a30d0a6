/- What does not lean on the number. -/
import Derived.Test.YtaechjdhhpjkkaaGreatDoorIh
set_option linter.unusedVariables false
set_option linter.unusedSimpArgs false
namespace Go.Run
open Go Go.RowKit Go.Proofs
noncomputable section
def zPA : Sm := ⟨[.str 47 35587760870083206978546504725122963759621017497952885782733595958088887255757831152106759331613548404854962023785, .bool false], [], (.tup [.agg [.sl 0 0 1, .sl 1 0 1, .nils, .sl 2 0 2, .sl 3 0 4], .int .i64 (-1)]), [⟨9, 1, [.str 3 6434606], true, []⟩, ⟨138, 3, [.str 3 6434606, .str 1 118, .str 1 118], true, []⟩, ⟨136, 3, [.int .i64 4, .str 0 0, .int .i64 0, .int .i64 5, .str 0 0, .int .i64 3], true, []⟩, ⟨175, 6, [.int .i64 2, .int .i64 0, .str 1 118, .str 0 0, .int .i64 0, .int .i64 0, .int .i64 2, .int .i64 0, .str 1 118, .str 0 0, .int .i64 0, .int .i64 0, .int .i64 1, .int .i64 1, .str 0 0, .str 0 0, .int .i64 0, .int .i64 0, .int .i64 6, .int .i64 0, .str 0 0, .str 0 0, .int .i64 1, .int .i64 2], true, []⟩]⟩
def zPA2 : Sm := ⟨[.str 62 8176458507776961811881016592418487802025774885856536925701358803216207874603045464035294411514000083737265267628030120259227134615715194081335340393, .bool false], [], (.tup [.agg [.sl 0 0 1, .sl 1 0 1, .nils, .sl 2 0 2, .sl 3 0 4], .int .i64 (-1)]), [⟨9, 1, [.str 3 6434606], true, []⟩, ⟨138, 3, [.str 3 6434606, .str 1 118, .str 1 118], true, []⟩, ⟨136, 3, [.int .i64 4, .str 0 0, .int .i64 0, .int .i64 5, .str 0 0, .int .i64 3], true, []⟩, ⟨175, 6, [.int .i64 2, .int .i64 0, .str 1 118, .str 0 0, .int .i64 0, .int .i64 0, .int .i64 2, .int .i64 0, .str 1 118, .str 0 0, .int .i64 0, .int .i64 0, .int .i64 1, .int .i64 1, .str 0 0, .str 0 0, .int .i64 0, .int .i64 0, .int .i64 6, .int .i64 0, .str 0 0, .str 0 0, .int .i64 1, .int .i64 2], true, []⟩]⟩
def zLc : Sm := ⟨[.sl 0 0 1, .str 2 24879], [⟨51, 2, [.str 2 24879, .str 47 35587760870083206978546504725122963759621017497952885782733595958088887255757831152106759331613548404854962023785], false, []⟩], (.tup [.agg [.nils, .nils, .nils], .agg [.int .i64 1, .str 2 25135, .int .i64 0]]), []⟩
def zHA : Sm := ⟨[.str 47 35587760870083206978546504725122963759621017497952885782733595958088887255757831152106759331613548404854962023785], [], (.str 94 9087158994898311556310569797542039330350437415387791247291475065526709512242323291250236627327142652772037172082830452135909239243651781221749300889182198435688293903136463020586390958160429428749175028931064590701830771980598), []⟩
def TA : List (Nat × List Sm) := (77, [zPA]) :: []
end
section
variable {ln : Nat}
theorem g_zPA : G1 ln 77 zPA := G1.of GT.nil [122, 128, 216, 207] (by kernel_rfl) (by kernel_rfl) (by kernel_rfl)
theorem g_zPA2 : G1 ln 77 zPA2 := G1.of GT.nil [122, 153, 241, 232] (by kernel_rfl) (by kernel_rfl) (by kernel_rfl)
theorem g_zHA : G1 ln 7 zHA := G1.of GT.nil [] (by kernel_rfl) (by kernel_rfl) (by kernel_rfl)
theorem g_TA : GT ln TA := (GT.cons (all_cons g_zPA all_nil) GT.nil)
theorem g_zLc : G1 ln 46 zLc := G1.of g_TA [] (by kernel_rfl) (by kernel_rfl) (by kernel_rfl)
end
end Go.Run
