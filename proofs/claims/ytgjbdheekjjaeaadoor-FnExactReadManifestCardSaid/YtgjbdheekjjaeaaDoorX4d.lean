/- The reader's list as the law marks it: contracts of impl.ReadManifest (the lines' words lie in rows of their own, apart, behind their first words), laws.markStringS and laws.markEntryS over such a list. -/
import Derived.Test.YtgjbdheekjjaeaaDoorX3x
import Derived.Test.YtgjbdheekjjaeaaDoorX4a
import Derived.Test.YtgjbdheekjjaeaaDoorX4b
import Derived.Test.YtgjbdheekjjaeaaDoorX4c
import Derived.Test.YtgjbdheekjjaeaaDoorProg
import Derived.Below
import Derived.Deep.Draws
import Derived.Deep.AppendLies
import Derived.Maps.AppendAt
import Derived.OwnWalk
import Derived.Laws.BytesArg
import Derived.Laws.MakeOwn
import Derived.Laws.OwnMore
import Derived.Deep.OwnRows
import Derived.Tactics
import Derived.Lib.ConvBytes
import Derived.Laws.Slices
import Derived.WalkKit
import Derived.KernelRfl
import Derived.RowKit3
import Derived.Deep.LoopGhost
import Derived.Deep.QuietTactic
import Derived.BigQuiet
import Derived.WideLaws
import Derived.Deep.DeepCutAuto
import Derived.Deep.CutBlock
import Derived.Deep.RegionHeld3
import Derived.Laws.Rows
import Derived.Lib.AppendStr
import Derived.ArgAppend
import Derived.Laws.IdiomCopy
import Derived.OrdersHeld
import Derived.Laws.BitsLemmas
import Derived.RowKit
import Derived.Test.YtgjbdheekjjaeaaDoorM1
import Derived.Test.YtgjbdheekjjaeaaDoorWWords
import Derived.Test.YtgjbdheekjjaeaaDoorWLast
import Derived.Test.YtgjbdheekjjaeaaDoorWTab
import Derived.Test.YtgjbdheekjjaeaaDoorWFour
import Derived.Test.YtgjbdheekjjaeaaDoorWQPut
import Derived.Test.YtgjbdheekjjaeaaDoorWApart
import Derived.Test.YtgjbdheekjjaeaaDoorWArr
import Derived.Test.YtgjbdheekjjaeaaDoorWZeros
import Derived.Test.YtgjbdheekjjaeaaDoorWFoot
import Derived.Test.YtgjbdheekjjaeaaDoorWKept
import Derived.Test.YtgjbdheekjjaeaaDoorWShare
import Derived.Test.YtgjbdheekjjaeaaDoorWN
import Derived.Test.YtgjbdheekjjaeaaDoorWFootNe
import Derived.Test.YtgjbdheekjjaeaaDoorWAt
import Derived.Test.YtgjbdheekjjaeaaDoorWEqStruct
import Derived.Test.YtgjbdheekjjaeaaDoorWRepsOne
import Derived.Test.YtgjbdheekjjaeaaDoorWInv
import Derived.Test.YtgjbdheekjjaeaaDoorWInvWords
import Derived.Test.YtgjbdheekjjaeaaDoorWGuard
import Derived.Test.YtgjbdheekjjaeaaDoorWNEv
import Derived.Test.YtgjbdheekjjaeaaDoorWMore
namespace Go.Proofs.YtgjbdheekjjaeaaDoor.X3
open Go.RowKit Go.Proofs.YtgjbdheekjjaeaaDoorW.PrintWords Go.Proofs.YtgjbdheekjjaeaaDoorW.PrintLast Go.Proofs.YtgjbdheekjjaeaaDoorW.PrintMore
attribute [local go_sem] max2_int min2_int max_two min_two max_three min_three max_four min_four   -- for this text's walks alone
set_option linter.unusedVariables false
set_option linter.unusedSimpArgs false

theorem held_at {k : Nat} {A : Option Addr} {n c : Nat} {G' : List S44} {m : Int} {w : World} {base : Nat} (hS : Kd.S k44q 44 w base (fun _ => True) (.slice A n c) G') (h : laws_heldEntryS.f k G' 1 = some m) :
    Calls Tryd.prog 14 #[.slice A n c, .int .i64 1] w fun e w' => e = .returned (.int .i64 m) ∧ Below w.heap.size w w' := by
  obtain ⟨rfl, h1, h2⟩ := Kd.S_reads' hS
  exact laws_heldEntryS.calls k A c G' 1 m w (k44q_C h2) h1 h
set_option maxHeartbeats 8000000 in
set_option maxRecDepth 100000 in
/-- Where the two readers answer the same list, and the marks are held in what the first answered, the law answers true. -/
theorem law_true (k : Nat) (a0 : ByteArray) (b : Bool) (G G' : List S44) (m : Int) (w : World) (hT : M.Tab w) (hsz : (a0.size : Int) ≤ 1048576) (hs : spec_ReadManifest.f k a0 = some (G, b)) (hi : impl_ReadManifest.f k a0 = some (G, b))
    (he : laws_eqEntryS.f k G G = some true) (hm : laws_markEntryS.f k G 1 = some (m, G')) (hh : laws_heldEntryS.f k G' 1 = some m) (hm0 : 0 ≤ m) :
    Calls Tryd.prog 4 #[.string a0] w fun e w' => e = .returned (.bool true) ∧ Below w.heap.size w w' := by
  have HB := Aside0.mk (Below.refl w.heap.size w)
  have HS := Aside0.mk hs
  have HI := Aside0.mk hi
  have HE := Aside0.mk he
  have HM := Aside0.mk hm
  have HH := Aside0.mk hh
  clear hs hi he hm hh
  have c0 : decide ((a0.size : Int) > 1048576) = false := decide_eq_false (by omega)
  have c0' : decide (1048576 < (a0.size : Int)) = false := decide_eq_false (by omega)
  have c1 : decide (m < 0) = false := decide_eq_false (by omega)
  clear hsz
  go_enter Tryd.func4, Tryd.ntmps4
  cases b
  all_goals
    go_wp2_with (first
    | ((with_reducible refine gate_callee (f := 10) rfl ?_); refine goesL_ (some 16) rfl rfl Tryd.func10 (by kernel_rfl) rfl #[.string a0] rfl (by (try simp only [List.map_toArray, List.map_cons, List.map_nil]); first | done | rfl | (simp only [List.length_drop, List.length_take]; rfl)) ?_; (with_reducible refine (spec_ReadManifest.calls k a0 G _ _ HS.out).mono ?_); rintro e _ ⟨vw, rfl, ho, hb⟩; refine ⟨_, rfl, ?_⟩
       have HOW := Aside0.mk ho
       have HB0 := Aside0.mk (below_step HB.out hb)
       clear HB hb ho
       obtain ⟨AW, cW, eW⟩ := Kd.S_slice HOW.out
       subst eW)
    | ((with_reducible refine gate_callee (f := 11) rfl ?_); refine goesL_ (some 21) rfl rfl Tryd.func11 (by kernel_rfl) rfl #[.string a0] rfl (by (try simp only [List.map_toArray, List.map_cons, List.map_nil]); first | done | rfl | (simp only [List.length_drop, List.length_take]; rfl)) ?_; (with_reducible refine (impl_ReadManifest.callsS k a0 G _ _ (hT.below HB0.out) HI.out).mono ?_); rintro e _ ⟨vg, rfl, ho, hb⟩; refine ⟨_, rfl, ?_⟩
       have HOG := Aside0.mk (Kd.S_mono ho (ok' := fun _ => True) (fun _ _ => trivial))
       have HB1 := Aside0.mk hb
       clear hb ho
       obtain ⟨AG, cG, eG⟩ := Kd.S_slice HOG.out
       subst eG)
    | ((with_reducible refine gate_callee (f := 12) rfl ?_); refine goesL_ (some 26) rfl rfl Tryd.func12 (by kernel_rfl) rfl #[.slice AG G.length cG, .slice AW G.length cW] rfl (by (try simp only [List.map_toArray, List.map_cons, List.map_nil]); first | done | rfl | (simp only [List.length_drop, List.length_take]; rfl)) ?_; (with_reducible refine (laws_eqEntryS.calls k AG cG G AW cW G true _ ?side1 ?side2 ?side3 ?side4 HE.out).mono ?_); (case side1 => exact k44q_C (Kd.S_reads' HOG.out).2.2); (case side2 => exact (Kd.S_reads' HOG.out).2.1); (case side3 => exact (Kd.S_reads' (Kd.S_below HOW.out HB1.out)).2.2); (case side4 => exact (Kd.S_reads' (Kd.S_below HOW.out HB1.out)).2.1); rintro e _ ⟨rfl, hb⟩; refine ⟨_, rfl, ?_⟩
       have n0_ := Aside0.mk (Kd.S_below HOG.out hb)
       have n2_ := Aside0.mk (below_step HB1.out hb)
       clear HOG HB1 hb
       have HOG := n0_
       have HB1 := n2_
       clear n0_ n2_)
    | ((with_reducible refine gate_callee (f := 13) rfl ?_); refine goesL_ (some 35) rfl rfl Tryd.func13 (by kernel_rfl) rfl #[.slice AG G.length cG, .int .i64 1] rfl (by (try simp only [List.map_toArray, List.map_cons, List.map_nil]); first | done | rfl | (simp only [List.length_drop, List.length_take]; rfl)) ?_; (with_reducible refine (laws_markEntryS.callsS k _ G 1 m G' _ _ HB1.out HOG.out HM.out).mono ?_); rintro e _ ⟨rfl, ho, hb⟩; refine ⟨_, rfl, ?_⟩
       clear HOG HB1
       have HOG := Aside0.mk ho
       have HB1 := Aside0.mk hb
       clear ho hb)
    | ((with_reducible refine gate_callee (f := 14) rfl ?_); refine goesL_ (some 38) rfl rfl Tryd.func14 (by kernel_rfl) rfl #[.slice AG G.length cG, .int .i64 1] rfl (by (try simp only [List.map_toArray, List.map_cons, List.map_nil]); first | done | rfl | (simp only [List.length_drop, List.length_take]; rfl)) ?_; (with_reducible refine (held_at HOG.out HH.out).mono ?_); rintro e _ ⟨rfl, hb⟩; refine ⟨_, rfl, ?_⟩
       have n0_ := Aside0.mk (Kd.S_below HOG.out hb)
       have n2_ := Aside0.mk (below_step HB1.out hb)
       clear HOG HB1 hb
       have HOG := n0_
       have HB1 := n2_
       clear n0_ n2_)
    | ((with_reducible refine gate_callee (f := 11) rfl ?_); refine goesL_ (some 46) rfl rfl Tryd.func11 (by kernel_rfl) rfl #[.string a0] rfl (by (try simp only [List.map_toArray, List.map_cons, List.map_nil]); first | done | rfl | (simp only [List.length_drop, List.length_take]; rfl)) ?_; (with_reducible refine (impl_ReadManifest.callsS k a0 G _ _ (hT.below (below_step HB0.out HB1.out)) HI.out).mono ?_); rintro e _ ⟨vg, rfl, ho, hb⟩; refine ⟨_, rfl, ?_⟩
       have n0_ := Aside0.mk (Kd.S_below HOG.out hb)
       have n2_ := Aside0.mk (below_step HB1.out hb)
       have HOH := Aside0.mk ho
       clear HOG HB1 hb ho
       have HOG := n0_
       have HB1 := n2_
       clear n0_ n2_
       obtain ⟨AH, cH, eH⟩ := Kd.S_slice HOH.out
       subst eH)
    | ((with_reducible refine gate_callee (f := 12) rfl ?_); refine goesL_ (some 51) rfl rfl Tryd.func12 (by kernel_rfl) rfl #[.slice AH G.length cH, .slice AW G.length cW] rfl (by (try simp only [List.map_toArray, List.map_cons, List.map_nil]); first | done | rfl | (simp only [List.length_drop, List.length_take]; rfl)) ?_; (with_reducible refine (laws_eqEntryS.calls k AH cH G AW cW G true _ ?side1 ?side2 ?side3 ?side4 HE.out).mono ?_); (case side1 => exact k44q_C (Kd.S_reads' HOH.out).2.2); (case side2 => exact (Kd.S_reads' HOH.out).2.1); (case side3 => exact (Kd.S_reads' (Kd.S_below HOW.out HB1.out)).2.2); (case side4 => exact (Kd.S_reads' (Kd.S_below HOW.out HB1.out)).2.1); rintro e _ ⟨rfl, hb⟩; refine ⟨_, rfl, ?_⟩
       have n0_ := Aside0.mk (Kd.S_below HOG.out hb)
       have n2_ := Aside0.mk (below_step HB1.out hb)
       clear HOG HB1 hb
       have HOG := n0_
       have HB1 := n2_
       clear n0_ n2_)
    | ((with_reducible refine gate_callee (f := 14) rfl ?_); refine goesL_ (some 60) rfl rfl Tryd.func14 (by kernel_rfl) rfl #[.slice AG G.length cG, .int .i64 1] rfl (by (try simp only [List.map_toArray, List.map_cons, List.map_nil]); first | done | rfl | (simp only [List.length_drop, List.length_take]; rfl)) ?_; (with_reducible refine (held_at HOG.out HH.out).mono ?_); rintro e _ ⟨rfl, hb⟩; refine ⟨_, rfl, ?_⟩
       have n0_ := Aside0.mk (Kd.S_below HOG.out hb)
       have n2_ := Aside0.mk (below_step HB1.out hb)
       clear HOG HB1 hb
       have HOG := n0_
       have HB1 := n2_
       clear n0_ n2_))
    go_ret
    exact ⟨rfl, below_step HB0.out HB1.out⟩

set_option maxHeartbeats 8000000 in
set_option maxRecDepth 100000 in
/-- A text that is longer than the law looks at. -/
theorem law_long (a0 : ByteArray) (w : World) (hsz : 1048576 < (a0.size : Int)) :
    Calls Tryd.prog 4 #[.string a0] w fun e w' => e = .returned (.bool true) ∧ Below w.heap.size w w' := by
  have c0 : decide ((a0.size : Int) > 1048576) = true := decide_eq_true hsz
  have c0' : decide (1048576 < (a0.size : Int)) = true := decide_eq_true hsz
  clear hsz
  go_enter Tryd.func4, Tryd.ntmps4
  go_wp2
  go_ret
  exact ⟨rfl, Below.refl _ _⟩

end Go.Proofs.YtgjbdheekjjaeaaDoor.X3
