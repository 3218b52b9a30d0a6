/- The row's closed facts, together. -/
import Derived.Test.YtaechjdhhpjkkaaGreatDoorRowFacts
import Derived.Deep.DeepHandedRow
set_option linter.unusedVariables false
set_option linter.unusedSimpArgs false
namespace Go.Proofs.YtaechjdhhpjkkaaGreatDoor.DeskRow
theorem k0 : (Rows.fnDeskWorksRow.wf (OpenSpec.ofChange (OpenSpec.ofChange Rows.fnDeskWorksSpec).bare)) = true := by kernel_rfl
theorem k4 : (namedTie Tryz.prog Rows.fnDeskWorksRow.named (OpenSpec.ofChange Rows.fnDeskWorksSpec).bare.vars) = true := by kernel_rfl
theorem k13 : ((Rows.fnDeskWorksRow.maps == (Tryz.f3.params.toList ++ (OpenSpec.ofChange Rows.fnDeskWorksSpec).bare.plain.varTypes Tryz.prog).any (Tryz.prog.mapsRec ·))) = true := by kernel_rfl
theorem k14 : ((Rows.fnDeskWorksRow.ifaces == (Tryz.f3.params.toList ++ (OpenSpec.ofChange Rows.fnDeskWorksSpec).bare.plain.varTypes Tryz.prog).any (Tryz.prog.ifacesRec ·))) = true := by kernel_rfl
theorem k16 : ((Rows.fnDeskWorksRow.loops == (Tryz.f3.params.toList ++ (OpenSpec.ofChange Rows.fnDeskWorksSpec).bare.plain.varTypes Tryz.prog).any (Tryz.prog.loopsFrom ·))) = true := by kernel_rfl
theorem k17 : ((Rows.fnDeskWorksRow.wideKeys == (Tryz.f3.params.toList ++ (OpenSpec.ofChange Rows.fnDeskWorksSpec).bare.plain.varTypes Tryz.prog ++ Tryz.f3.resultTypes.toList).any (Tryz.prog.wideKeysFrom ·))) = true := by kernel_rfl
theorem k18 : ((OpenSpec.ofChange Rows.fnDeskWorksSpec).bare.vars.all (Tryz.prog.varReadable ·)) = true := by kernel_rfl
theorem k30 : ((Rows.fnDeskWorksRow.veiled == (Tryz.f3.params.toList ++ (OpenSpec.ofChange Rows.fnDeskWorksSpec).bare.plain.varTypes Tryz.prog ++ Tryz.f3.resultTypes.toList).any (Tryz.prog.veiledRec ·))) = true := by kernel_rfl
theorem k31 : (Rows.fnDeskWorksRow.veiledFits Tryz.prog Tryz.f3.params.toList (Tryz.f3.params.toList ++ (OpenSpec.ofChange Rows.fnDeskWorksSpec).bare.plain.varTypes Tryz.prog ++ Tryz.f3.resultTypes.toList)) = true := by kernel_rfl
set_option maxRecDepth 100000 in
theorem closed : joinedFacts Tryz.pinned.checked.prog 3 Tryz.f3 (OpenSpec.ofChange Rows.fnDeskWorksSpec).bare Rows.fnDeskWorksRow = true := by
  have e1 : Tryz.pinned.checked.prog = Tryz.prog := by kernel_rfl
  rw [e1]
  unfold joinedFacts
  exact and2 (and2 (and2 (and2 (and2 (and2 (and2 (and2 (and2 (and2 (and2 (and2 (and2 (and2 (and2 (and2 (and2 (and2 (and2 (and2 (and2 (and2 (and2 (and2 (and2 (and2 (and2 (and2 (and2 (and2 (and2 (k0) j1) j2) j3) k4) j5) j6) j7) j8) j9) j10) j11) j12) k13) k14) j15) k16) k17) k18) j19) j20) j21) j22) j23) j24) j25) j26) j27) j28) j29) k30) k31
end Go.Proofs.YtaechjdhhpjkkaaGreatDoor.DeskRow
