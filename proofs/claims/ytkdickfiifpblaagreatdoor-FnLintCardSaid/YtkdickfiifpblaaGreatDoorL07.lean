/- FnLint holds, and its card: for every slice of bytes the call returns true, and the slice reads as it read before; no condition on the input but that the listed tables of the library read as its text lays them, which the card ties to that text. -/
import Derived.Test.YtkdickfiifpblaaGreatDoorL06
import Derived.WalkKit
import Derived.ProofKit
import Derived.OpenShut
import Derived.ShutString
import Derived.ChangeOld
import Derived.Below
import Derived.SizedLaws
import Derived.ChangeSame
import Derived.Deep.Slices
import Derived.Deep.DeepHandedRow
import Derived.Lib.LaidTab
import Derived.Test.YtkdickfiifpblaaGreatDoorCards
import Derived.Test.YtkdickfiifpblaaGreatDoorTie
namespace Go.Proofs.YtkdickfiifpblaaGreatDoor.LintRow
open Go.ChangeShapes Go.WideShapes Go.ChangeAt Go.RowKit Go.Deep Go.Den Go.Proofs.YtkdickfiifpblaaGreatDoor.D
theorem own : ownKnob Tryz.prog.godebug = none := by kernel_rfl
theorem laidOut : laidOutB Tryz.prog = true := by kernel_rfl
theorem cells5 : Tryz.prog.cellsOf 5 = 1 := by kernel_rfl
theorem start_WR (W : World) (p : Nat → Nat → Option Value) (h : ∀ b i v, p b i = some v → W.cell? ⟨b, i, none⟩ = some v) : WR W (fun b => W.heap.size ≤ b) (iso 0) { prot := p, hdr := fun _ => none, box := fun _ => none, base := p } W := by
  refine ⟨h, fun t n e s ht => ?_, fun _ _ => rfl, fun t b c ht => (by cases ht), fun i t cs hi => ?_, fun _ _ => rfl, fun i j b hi => (by cases hi), fun t u x y b c c' ht => ?_, fun t x b c i ht => ?_, Nat.le_refl _, Below.refl _ _, fun t b c _ ht => (by cases ht), fun _ hb => hb, fun t ht => ?_, fun t ht => ?_, fun _ _ _ => rfl, ⟨Nat.le_refl _, fun t b c ht => absurd ht (Nat.not_lt_zero _)⟩⟩
  · rw [iso_tok] at ht; cases ht
  · simp [iso] at hi
  · rw [iso_tok] at ht; cases ht
  · rw [iso_tok] at ht; cases ht
  · simp [iso] at ht
  · simp [iso] at ht
theorem walk {W : World} {x : AL} {v : Value} {n : Nat} {p : Nat → Nat → Option Value} (hp : ∀ b i u, p b i = some u → W.cell? ⟨b, i, none⟩ = some u) (r : RepL { prot := p, hdr := fun _ => none, box := fun _ => none, base := p } x v)
    (hn : x.len? = some n) (hx : n ≤ 1048576 → Src x) : Calls Tryz.prog 3 #[v] W fun e W' => e = .returned (.bool true) ∧ Below W.heap.size W W' := by
  refine ((FnLint_t (w0 := W) hn hx (iso 0)).2 _ _ W #[v] (start_WR W p hp) (.cons (.one r) .nil)).mono ?_
  rintro e W' ⟨v', S', vr, H, rfl, _, hv, hW, rfl⟩
  cases hv with
  | one h =>
    cases h
    exact ⟨rfl, hW.below⟩
set_option maxRecDepth 100000 in
theorem contract (H : Type) (enc : TypeId × Value → H) (W : World) (base : Nat) (args : Array Value) (ds gs : List (DataW H)) (before : List MemPlace)
    (hval0 : ∀ (j : Nat) t v, Tryz.f3.params[j]? = some t → args[j]? = some v → Value.okWide Tryz.prog W .any base t v)
    (hW : DataW.Whole enc Tryz.prog Tryz.f3.params.toList Rows.fnLintSpec.vars false W args.toList ds gs before) :
    Calls Tryz.prog 3 args W fun e W' => ∃ v, e = .returned v ∧ Rows.fnLintSpec.post enc Tryz.prog Tryz.f3 false true false false W args v W' := by
  have hW' := hW
  obtain ⟨p, q, hA0, hV, rfl, hfz, hnd⟩ := hW
  have hA : DataW.TrodAll enc Tryz.prog W 0 (fun _ => true) true Tryz.f3.params.toList args.toList ds p := hA0
  rw [Tryz.params3] at hA
  obtain ⟨v0, vs0, d0, ds0, p0, q0, hargs, rfl, rfl, h0, r0⟩ := trodAll_cons hA
  obtain ⟨rfl, rfl, rfl⟩ := trodAll_nil r0
  obtain rfl : args = #[v0] := by cases args; simp_all
  obtain ⟨rfl, rfl⟩ := trodVars_none hV
  have k0 := h0
  have lt0 : ∀ x ∈ p0, x.block < W.heap.size := by obtain ⟨m, hm⟩ := k0; exact DataW.trod_lt m _ _ _ hm
  have hval : ∀ (j : Nat) t v, Tryz.f3.params[j]? = some t → #[v0][j]? = some v → Value.okWide Tryz.prog W .any base t v := hval0
  rw [Tryz.params3] at hval
  have hv0 := hval 0 22 v0 rfl rfl
  have key : Calls Tryz.prog 3 #[v0] W fun e W' => e = .returned (.bool true) ∧ Below W.heap.size W W' := by
    obtain ⟨a1, len, cap, rfl⟩ := okWide_slice Tryz.underlying22 hv0
    obtain ⟨fuel, hf⟩ := h0
    rcases open_ints Tryz.underlying22 Tryz.underlying5 cells5 hf with ⟨hcs, hx⟩ | ⟨a, len', cap', zs, hcs, _, hl, hm, hz, hx, hcell, hwz⟩
    · simp [Value.cells] at hcs
      obtain ⟨rfl, rfl, rfl⟩ := hcs
      exact walk (p := fun _ _ => none) (fun _ _ _ h => by cases h) .nilsl (n := 0) rfl fun _ => ⟨0, rfl, Nat.zero_le _, fun h => absurd h (Nat.lt_irrefl _)⟩
    · simp [Value.cells] at hcs
      obtain ⟨rfl, rfl, rfl⟩ := hcs
      simp only [if_true] at hz
      have hspot : a.spot = none := by
        simp only [Value.okWide, Tryz.underlying22, Cell.okWide, Cell.ok] at hv0
        exact hv0.2.2.2.1
      obtain ⟨ab, ao, spot⟩ := a
      have hspot : spot = none := hspot
      subst hspot
      have hc : ∀ i, i < len → W.cell? ⟨ab, ao + i, none⟩ = some (.int .u8 (zs.getD i 0)) := fun i hi => by
        have := hcell i (by omega)
        rwa [Addr.add_lit] at this
      refine walk (p := fun b j => if b = ab ∧ ao ≤ j ∧ j < ao + len then some (.int .u8 (zs.getD (j - ao) 0)) else none) (fun b j u h => ?_)
        (x := .sl none len ((List.range len).map fun i => .int .u8 (zs.getD i 0))) (.sl (fun i => .int .u8 (zs.getD i 0)) hl (fun i hi => ?_) (fun i y hy => ?_) (fun t ht => by cases ht)) (n := len) rfl fun hlen => ⟨len, rfl, hlen, fun _ => ⟨none, _, rfl, fun i hi => ⟨zs.getD i 0, ?_, ?_⟩⟩⟩
      · split at h
        · rename_i hb
          cases h
          obtain ⟨rfl, h1, h2⟩ := hb
          have := hc (j - ao) (by omega)
          rwa [show ao + (j - ao) = j by omega] at this
        · cases h
      · have hi : i < len := by simpa using hi
        show (if ab = ab ∧ ao ≤ ao + i ∧ ao + i < ao + len then _ else _) = _
        rw [if_pos ⟨rfl, by omega, by omega⟩, show ao + i - ao = i by omega]
      · have hi : i < len := by
          have := (List.getElem?_eq_some_iff.1 hy).1
          simpa using this
        rw [List.getElem?_map, List.getElem?_range hi] at hy
        cases hy
        exact .int _ _
      · rw [List.getElem?_map, List.getElem?_range hi]
        rfl
      · have hb := range_u8 hwz i
        rw [List.getD_eq_getElem?_getD]
        exact ⟨hb.1, by have := hb.2; omega⟩
  refine key.mono fun e W' ⟨he, bel⟩ => ?_
  subst he
  exact ⟨_, rfl, _, _, _, [], _, [], hW', trodAll_mk1 (shut_bool Tryz.underlying4 _), (trodAll_cons_mk (Below.trod laidOut (by kernel_rfl) (of_decide_eq_true (by kernel_rfl)) k0 bel lt0) trodAll_mk0), rfl, bel.frame _, fun h => by cases h⟩
def setCells (cs : Array Value) : Obj → Obj
  | .cells _ t frozen => .cells cs t frozen
  | o => o
noncomputable def laidWorld (os : Os) : World :=
  { World.holding Tryz.prog os ⟨#[], #[], []⟩ with heap := (((World.holding Tryz.prog os ⟨#[], #[], []⟩).heap.modify 0 (setCells #[.int .u64 1, .int .u64 10, .int .u64 100, .int .u64 1000, .int .u64 10000, .int .u64 100000, .int .u64 1000000, .int .u64 10000000, .int .u64 100000000, .int .u64 1000000000, .int .u64 10000000000, .int .u64 100000000000, .int .u64 1000000000000, .int .u64 10000000000000, .int .u64 100000000000000, .int .u64 1000000000000000, .int .u64 10000000000000000, .int .u64 100000000000000000, .int .u64 1000000000000000000, .int .u64 10000000000000000000])).modify 1 (setCells (#[0, 1, 28, 2, 29, 14, 24, 3, 30, 22, 20, 15, 25, 17, 4, 8, 31, 27, 13, 23, 21, 19, 16, 7, 26, 12, 18, 6, 11, 5, 10, 9].map (Value.int .u8)))).modify 2 (setCells (#[0, 1, 56, 2, 57, 49, 28, 3, 61, 58, 42, 50, 38, 29, 17, 4, 62, 47, 59, 36, 45, 43, 51, 22, 53, 39, 33, 30, 24, 18, 12, 5, 63, 55, 48, 27, 60, 41, 37, 16, 46, 35, 44, 21, 52, 32, 23, 11, 54, 26, 40, 15, 34, 20, 31, 10, 25, 14, 19, 9, 13, 8, 7, 6].map (Value.int .u8))) }
theorem laid_met (os : Os) : laidMet Tryz.prog Rows.fnLintRow.laid ((laidWorld os).forCall (fun _ _ => 0) ⟨#[], #[.slice none 0 0], []⟩).memory :=
  laidMet_of_run' 8 (by kernel_rfl) (by kernel_rfl)
theorem reads (os : Os) {H : Type} (enc : TypeId × Value → H) : ∃ places, DataW.whole enc Tryz.prog ((laidWorld os).forCall (fun _ _ => 0) ⟨#[], #[.slice none 0 0], []⟩).memory Tryz.f3.params.toList Rows.fnLintSpec.vars false #[Value.slice none 0 0].toList 8 = some ([.nil], [], places) :=
  ⟨[], by kernel_rfl⟩
set_option maxRecDepth 100000 in
theorem lifted (os : Os) (started : os.Started) (H : Type) (enc : TypeId × Value → H) (F : Stop.Interp) :
    ReturnsInHanded {} Tryz.checked os 3 .any ((OpenSpec.ofChange Rows.fnLintSpec).preRow enc Tryz.prog Tryz.f3 Rows.fnLintRow.domain false Rows.fnLintRow.laid) (((OpenSpec.ofChange Rows.fnLintSpec).at F).post enc Tryz.prog Tryz.f3 false true false false) := by
  obtain ⟨places, hx⟩ := reads os enc
  refine returnsInHanded_of_row (C := Tryz.checked) (s := OpenSpec.ofChange Rows.fnLintSpec) own started (by kernel_rfl) Tryz.func3
    (witness_row_at (enc := enc) (C := Tryz.checked) false (laidWorld os) #[.slice none 0 0] rfl (by kernel_rfl) (by kernel_rfl) (by kernel_rfl)
      (OpenSpec.preRow_of_cond 8 hx (by kernel_rfl) (fun k hk => by cases hk) (by kernel_rfl) (laid_met os))) ?_
  intro W base args ds gs before hval hW _ _ _ _ _ _
  exact contract H enc W base args ds gs before hval hW
theorem said : Rows.FnLintSaid :=
  OpenClaim.holds_of_cond 3 Tryz.f3 rfl rfl rfl rfl rfl rfl rfl ⟨rfl, rfl, rfl, rfl, rfl⟩ rfl rfl rfl rfl rfl (by kernel_rfl) Tryz.func3 (by kernel_rfl)
    (of_decide_eq_true (by kernel_rfl)) (by unfold Func.isWrapper; first | (rw [if_pos (by decide +kernel)]; kernel_rfl) | (rw [if_neg (by decide +kernel)]; exact ⟨rfl, rfl⟩))
    (fun os started H enc _ F => by rw [OpenClaim.pre_eq_preRow]; exact lifted os started H enc F)
theorem plain (f : FuncId) (fn : Func) (hf : Tryz.pinned.checked.prog.funcNamed "loop.example/g00777/laws.FnLint" = some f) (hfn : Tryz.pinned.checked.prog.funcs[f]? = some fn) :
    false = Tryz.pinned.checked.prog.looks [] ∧ ∀ (j : Nat) t, fn.params[j]? = some t → Tryz.pinned.checked.prog.wantsStandIn t = false := by
  obtain rfl : f = 3 := Option.some.inj ((show Tryz.prog.funcNamed "loop.example/g00777/laws.FnLint" = some 3 by kernel_rfl).symm.trans hf) |>.symm
  obtain rfl : fn = Tryz.f3 := (Option.some.inj (Tryz.func3.symm.trans hfn)).symm
  refine ⟨by kernel_rfl, fun j t ht => ?_⟩
  rw [Tryz.params3] at ht
  obtain rfl : t = 22 := by simpa using Array.mem_of_getElem? ht
  exact (show Tryz.prog.wantsStandIn 22 = false by kernel_rfl)
theorem card : Rows.FnLintCardSaid :=
  Claim7.holds_tied_plain_at .later [] _ _ _ _ said (fun _ h => by cases h) (by kernel_rfl) (fun _ h => by cases h) fnLint_row_tie rfl ⟨rfl, rfl⟩ (by kernel_rfl) rfl plain (by kernel_rfl)
#print axioms card
end Go.Proofs.YtkdickfiifpblaaGreatDoor.LintRow
namespace Go.Proofs.YtkdickfiifpblaaGreatDoor
theorem fnLint_card : Rows.FnLintCardSaid := LintRow.card
end Go.Proofs.YtkdickfiifpblaaGreatDoor
