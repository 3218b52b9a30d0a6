/- The reader's list as the law marks it: contracts of impl.ReadManifest (the lines' words lie in rows of their own, apart, behind their first words), laws.markStringS and laws.markEntryS over such a list. -/
import Derived.Test.YtgjbdheekjjaeaaDoorX3x
import Derived.Test.YtgjbdheekjjaeaaDoorX4a
import Derived.Test.YtgjbdheekjjaeaaDoorProg
import Derived.Below
import Derived.Deep.Draws
import Derived.Deep.AppendLies
import Derived.Maps.AppendAt
import Derived.OwnWalk
import Derived.Laws.BytesArg
import Derived.Laws.MakeOwn
import Derived.Laws.OwnMore
import Derived.Deep.OwnRows
import Derived.Tactics
import Derived.Lib.ConvBytes
import Derived.Laws.Slices
import Derived.WalkKit
import Derived.KernelRfl
import Derived.RowKit3
import Derived.Deep.LoopGhost
import Derived.Deep.QuietTactic
import Derived.BigQuiet
import Derived.WideLaws
import Derived.Deep.DeepCutAuto
import Derived.Deep.CutBlock
import Derived.Deep.RegionHeld3
import Derived.Laws.Rows
import Derived.Lib.AppendStr
import Derived.ArgAppend
import Derived.Laws.IdiomCopy
import Derived.OrdersHeld
import Derived.Laws.BitsLemmas
import Derived.RowKit
import Derived.Test.YtgjbdheekjjaeaaDoorM1
import Derived.Test.YtgjbdheekjjaeaaDoorWWords
import Derived.Test.YtgjbdheekjjaeaaDoorWLast
import Derived.Test.YtgjbdheekjjaeaaDoorWTab
import Derived.Test.YtgjbdheekjjaeaaDoorWFour
import Derived.Test.YtgjbdheekjjaeaaDoorWQPut
import Derived.Test.YtgjbdheekjjaeaaDoorWApart
import Derived.Test.YtgjbdheekjjaeaaDoorWArr
import Derived.Test.YtgjbdheekjjaeaaDoorWZeros
import Derived.Test.YtgjbdheekjjaeaaDoorWFoot
import Derived.Test.YtgjbdheekjjaeaaDoorWKept
import Derived.Test.YtgjbdheekjjaeaaDoorWShare
import Derived.Test.YtgjbdheekjjaeaaDoorWN
import Derived.Test.YtgjbdheekjjaeaaDoorWFootNe
import Derived.Test.YtgjbdheekjjaeaaDoorWAt
import Derived.Test.YtgjbdheekjjaeaaDoorWEqStruct
import Derived.Test.YtgjbdheekjjaeaaDoorWRepsOne
import Derived.Test.YtgjbdheekjjaeaaDoorWInv
import Derived.Test.YtgjbdheekjjaeaaDoorWInvWords
import Derived.Test.YtgjbdheekjjaeaaDoorWGuard
import Derived.Test.YtgjbdheekjjaeaaDoorWNEv
import Derived.Test.YtgjbdheekjjaeaaDoorWMore
namespace Go.Proofs.YtgjbdheekjjaeaaDoor.X3
open Go.RowKit Go.Proofs.YtgjbdheekjjaeaaDoorW.PrintWords Go.Proofs.YtgjbdheekjjaeaaDoorW.PrintLast Go.Proofs.YtgjbdheekjjaeaaDoorW.PrintMore
attribute [local go_sem] max2_int min2_int max_two min_two max_three min_three max_four min_four   -- for this text's walks alone
set_option linter.unusedVariables false
set_option linter.unusedSimpArgs false

/-- laws.markEntryS, as it computes. -/
def laws_markEntryS.l0 : Nat → List S44 → Int → Int → Option (Int × List S44)
  | 0, _, _, _ => none
  | k + 1, x0, x1, x5 => if x5 < (x0.length : Int) then ((laws_markText.f k x1).bind fun t => (if 0 ≤ x5 then ((laws_markStringS.f k (rd_T44 x0 x5).f1 (wrap64 (x1 + 1))).bind fun q => laws_markEntryS.l0 k (x0.set x5.toNat ⟨t, q.2⟩) q.1 (wrap64 (x5 + 1))) else none)) else some (x1, x0)
def laws_markEntryS.f (k : Nat) (l0 : List S44) (a1 : Int) : Option (Int × List S44) := laws_markEntryS.l0 k l0 a1 0
theorem rd_set (xs : List S44) (i : Int) (x : S44) (h0 : 0 ≤ i) (h1 : i < (xs.length : Int)) : (xs.set i.toNat x).getD i.toNat z44 = x := by
  rw [List.getD_eq_getElem?_getD, List.getElem?_set_self (by omega)]
  rfl
set_option maxHeartbeats 8000000 in
set_option maxRecDepth 100000 in
theorem laws_markEntryS.callsS (k : Nat) (u : Value) (l0 : List S44) (a1 : Int) (r1 : Int) (r2 : List S44) (w0 w : World) (hB : Below w0.heap.size w0 w) (ho0 : Kd.S k44q 44 w w0.heap.size (fun _ => True) u l0) (h : laws_markEntryS.f k l0 a1 = some (r1, r2)) :
    Calls Tryd.prog 13 #[u, .int .i64 a1] w fun e w' => e = .returned (.int .i64 r1) ∧ Kd.S k44q 44 w' w0.heap.size (fun _ => True) u r2 ∧ Below w0.heap.size w0 w' := by
  have HO0 := Aside0.mk ho0
  have HB := Aside0.mk hB
  clear hB ho0
  have H' := Aside0.mk (show laws_markEntryS.l0 k l0 a1 0 = some (r1, r2) from h)
  clear h
  go_enter Tryd.func13, Tryd.ntmps13
  go_wp2
  go_loopg [1, 5] k (fun kq v1 v5 w' => ∃ (x0_1 : List S44) (x1_1 : Int) (x5_1 : Int), v1 = .int .i64 x1_1 ∧ v5 = .int .i64 x5_1 ∧ Aside0 (laws_markEntryS.l0 kq x0_1 x1_1 x5_1 = some (r1, r2)) ∧ Aside0 (kq ≤ k) ∧ Aside0 (Kd.S k44q 44 w' w0.heap.size (fun _ => True) u x0_1) ∧ Aside0 (Below w0.heap.size w0 w'))
  case atStart => exact ⟨l0, a1, 0, rfl, rfl, H', ⟨Nat.le_refl _⟩, HO0, HB⟩
  case round =>
    clear H' HO0
    obtain ⟨x0_1, x1_1, x5_1, rfl, rfl, HA, HK1, HO_0, HB⟩ := hrel
    cases gk with
    | zero => exact absurd HA.out (by simp [laws_markEntryS.l0])
    | succ k1 =>
      have H := HA.out
      clear HA
      simp only [laws_markEntryS.l0] at H
      by_cases c3 : x5_1 < (x0_1.length : Int)
      · rw [if_pos c3] at H
        have c3b0 : decide (x5_1 < (x0_1.length : Int)) = true := decide_eq_true c3
        obtain ⟨t188, A40, H⟩ := Option.bind_eq_some_iff.mp H
        have A4 := Aside0.mk A40
        clear A40
        by_cases c5 : 0 ≤ x5_1
        · rw [if_pos c5] at H
          have c5b0 : decide (0 ≤ x5_1) = true := decide_eq_true c5
          obtain ⟨⟨q1, q2⟩, A50, H⟩ := Option.bind_eq_some_iff.mp H
          have A5 := Aside0.mk A50
          clear A50
          have H' := Aside0.mk H
          clear H
          have PQ := Aside0.mk c5
          have QQ := Aside0.mk c3
          have c5e := eq_true c5
          have c3e := eq_true c3
          clear c3 c5
          obtain ⟨g, cap, eu, hgb, hgl, cells, hcells⟩ := Kd.S_form HO_0.out (by have := PQ.out; have := QQ.out; omega)
          subst eu
          have GB := Aside0.mk hgb
          clear hgb hgl hcells
          go_wp2_with (first
            | ((with_reducible refine gate_callee (f := 26) rfl ?_); refine goesL_ (some 15) rfl rfl Tryd.func26 (by kernel_rfl) rfl #[.int .i64 x1_1] rfl (by (try simp only [List.map_toArray, List.map_cons, List.map_nil]); first | done | rfl | (simp only [List.length_drop, List.length_take]; rfl)) ?_; (with_reducible refine (laws_markText.calls k1 x1_1 t188 _ A4.out).mono ?_); rintro e w8 ⟨rfl, hb⟩; refine ⟨_, rfl, ?_⟩
               have n0_ := Aside0.mk (Kd.S_below HO_0.out hb)
               have n2_ := Aside0.mk (below_step HB.out hb)
               clear HO_0 HB hb
               have HO_0 := n0_
               have HB := n2_
               clear n0_ n2_
               obtain ⟨oki, cc, hcl, hM, hcc, hfr, hoki, hH⟩ := Kd.S_elem (Kd.S_mono HO_0.out (fun k_ _ => (⟨trivial, not_false⟩ : True ∧ ¬ False))) z44 x5_1 PQ.out QQ.out
               obtain ⟨vv, ecc, hQ⟩ := k44q_openM hM
               subst ecc
               have hx0 := hcc 0 _ rfl
               have hf0 := hfr 0
               have HP := Aside0.mk (Kd.S_seg (okg := fun _ => False) (okp := oki) hH PQ.out QQ.out (seg := [.string t188]) (j := 0) (show 0 + 1 ≤ 2 by decide) (k44q_mkM _ _ oki (⟨t188, (rd_T44 x0_1 x5_1).f1⟩ : S44) hQ) (fun k_ hk => .inl hk) (fun k_ hk => hk.elim))
               clear hM hcc hfr hoki hH hQ hcl
               simp only [show k44q.sz = 2 from rfl, Nat.add_zero] at hx0 hf0)
            | ((with_reducible refine gate_store (t := 9) (p := 17) rfl ?_); refine store_event (t := 9) (p := 17) (v := ?vo_w10) (w1 := (w8.setCell ⟨g, x5_1.toNat * 2, none⟩ (.string t188))) ?hg ?ho ?hn ?hr ?_; (case ho => rfl); (case hg => rfl); (case hn => rfl); (case hr => first | (go_simp; done) | (go_simp; rfl)); intro w10 hw
               have n0_ : Aside0 (Kd.S k44q 44 w10 w0.heap.size (fun _ => True) _ _) := Aside0.mk (by rw [hw]; exact HP.out.1)
               have n1_ := Aside0.mk ((by rw [hw]; exact below_set (HB.out) GB.out : Below w0.heap.size w0 w10))
               clear HO_0 HB HP hw hx0 hf0
               have HO_0 := n0_
               have HB := n1_
               clear n0_ n1_
               obtain ⟨oki2, cc, hcl, hM, hcc, hoki, hH⟩ := Kd.S_lend HO_0.out z44 x5_1 PQ.out (by have := QQ.out; exact this)
               rw [rd_set _ _ _ PQ.out QQ.out] at hM
               obtain ⟨v2, ecc, hQ⟩ := k44q_openM hM
               subst ecc
               have hx1 := hcc 1 _ rfl
               have HH := Aside0.mk hH
               have HQ := Aside0.mk hQ
               clear hM hcc hoki hH hQ hcl
               simp only [show k44q.sz = 2 from rfl] at hx1)
            | ((with_reducible refine gate_callee (f := 27) rfl ?_); refine goesL_ (some 26) rfl rfl Tryd.func27 (by kernel_rfl) rfl #[v2, .int .i64 (wrap64 (x1_1 + 1))] rfl (by (try simp only [List.map_toArray, List.map_cons, List.map_nil]); first | done | rfl | (simp only [List.length_drop, List.length_take]; rfl)) ?_; (with_reducible refine (laws_markStringS.callsQ k1 oki2 v2 _ (wrap64 (x1_1 + 1)) q1 q2 w0 _ HB.out HQ.out A5.out).mono ?_); rintro e w12 ⟨rfl, hq, hb, hkp⟩; refine ⟨_, rfl, ?_⟩
               have n0_ := Aside0.mk (Kd.H_back (Kd.H_kept HH.out hkp (fun k_ _ hn => hn)) (x' := (⟨t188, q2⟩ : S44)) (k44q_mkM _ _ oki2 (⟨t188, q2⟩ : S44) ⟨HQ.out.1, hq.2⟩) (fun _ hk => hk))
               rw [List.set_set] at n0_
               have n1_ := Aside0.mk hb
               clear HO_0 HB hb hkp hq HH HQ hx1
               have HO_0 := n0_
               have HB := n1_
               clear n0_ n1_))
          go_roundg k1
          case measure => have := HK1.out; omega
          case rel => exact ⟨_, _, _, rfl, rfl, H', ⟨by have := HK1.out; omega⟩, HO_0, HB⟩
        · rw [if_neg c5] at H
          exact absurd H (by simp)
      · rw [if_neg c3] at H
        have c3b0 : decide (x5_1 < (x0_1.length : Int)) = false := decide_eq_false c3
        clear c3
        simp only [Option.some.injEq, Prod.mk.injEq] at H
        obtain ⟨rfl, rfl⟩ := H
        obtain ⟨Ao11, co11, eo11⟩ := Kd.S_slice HO_0.out
        subst eo11
        go_wp2
        go_ret
        exact ⟨rfl, HO_0.out, HB.out⟩

end Go.Proofs.YtgjbdheekjjaeaaDoor.X3
