/- FnExactShowNotes holds, and its card: for every list of notes the call returns true, and the list reads as it read before; no condition on the input but that the listed tables of the library read as its text lays them, which the card ties to that text. -/
import Derived.Test.YtgjbdheekjjaeaaDoorCards
import Derived.Test.YtgjbdheekjjaeaaDoorTie
import Derived.Test.YtgjbdheekjjaeaaDoorPa
import Derived.WalkKit
import Derived.ProofKit
import Derived.OpenShut
import Derived.ShutString
import Derived.ChangeOld
import Derived.Below
import Derived.SizedLaws
import Derived.ChangeSame
import Derived.Deep.Slices
import Derived.Deep.DeepHandedRow
import Derived.Lib.LaidTab
namespace Go.Proofs.YtgjbdheekjjaeaaDoor.ShowNotesRow
open Go.ChangeShapes Go.WideShapes Go.ChangeAt Go.RowKit Go.Deep
open Go.ChangeMaps (open_string shut_string)
open Go.Proofs.YtgjbdheekjjaeaaDoorW.PrintWords Go.Proofs.YtgjbdheekjjaeaaDoor.X2 Go.Proofs.YtgjbdheekjjaeaaDoor.Pa
theorem own : ownKnob Tryd.prog.godebug = none := by kernel_rfl
theorem laidOut : laidOutB Tryd.prog = true := by kernel_rfl

section
variable {H : Type} {enc : TypeId × Value → H} {W : World} {base : Nat} {spare : Nat → Bool} {held : Bool}

theorem getElem_map_range {α : Type} (f : Nat → α) (n : Nat) (j : Nat) (p : α) (h : ((List.range n).map f)[j]? = some p) : j < n ∧ p = f j := by
  rw [List.getElem?_map] at h
  by_cases hj : j < n
  · rw [List.getElem?_range hj] at h; exact ⟨hj, by simpa using h.symm⟩
  · rw [List.getElem?_eq_none (by simp; omega)] at h; simp at h

set_option maxRecDepth 100000 in
/-- A note that is read. -/
theorem read_note {fuel : Nat} {cs : List Value} {x : DataW H × List MemPlace} (h : DataW.trod enc Tryd.prog W base spare held fuel 37 cs = some x) :
    ∃ e : S37, k37.K W e cs ∧ Fine e := by
  obtain ⟨y0, y1, n, _, hl, h0, h1⟩ := trod_struct2 Tryd.underlying37 h
  have hc : cs.length = 2 := by rw [hl]; kernel_rfl
  match cs, hc with
  | [c0, c1], _ =>
    have h0' : DataW.trod enc Tryd.prog W base spare held n 3 [c0] = some y0 := by
      have e : ([c0, c1].drop 0).take (Tryd.prog.cellsOf 3) = [c0] := by rw [show Tryd.prog.cellsOf 3 = 1 by kernel_rfl]; rfl
      rw [← e]; exact h0
    have h1' : DataW.trod enc Tryd.prog W base spare held n 9 [c1] = some y1 := by
      have e : ([c0, c1].drop 1).take (Tryd.prog.cellsOf 9) = [c1] := by rw [show Tryd.prog.cellsOf 9 = 1 by kernel_rfl]; rfl
      rw [← e]; exact h1
    obtain ⟨z, hz, _, hwf⟩ := DataW.trod_int Tryd.underlying3 h0'
    obtain ⟨s, hs, _, hsz⟩ := DataW.trod_string Tryd.underlying9 h1'
    obtain rfl : c0 = .int .i64 z := by simpa using hz
    obtain rfl : c1 = .string s := by simpa using hs
    unfold maxLen at hsz
    have hb := bounds_i64 hwf
    exact ⟨⟨z, s⟩, k37_mk W ⟨z, s⟩, ⟨hb.1, hb.2, hsz⟩⟩

instance : Inhabited S37 := ⟨z37⟩

/-- The argument: a slice of notes. -/
theorem read_notes {fuel : Nat} {cs : List Value} {x : DataW H × List MemPlace} (h : DataW.trod enc Tryd.prog W base spare held fuel 22 cs = some x) :
    ∃ (A : Option Addr) (l : List S37) (c : Nat), cs = [.slice A l.length c] ∧ l.length ≤ c ∧ Kd.C k37 W A l.length l ∧ l.length ≤ 9223372036854775807 ∧ ∀ e ∈ l, Fine e := by
  rcases open_slice Tryd.underlying22 h with ⟨rfl, _⟩ | ⟨a, len, cap, m, n, D, Pl, rfl, _, hl, hm, hmm, _, hx⟩
  · exact ⟨none, [], 0, rfl, Nat.le_refl _, ⟨rfl, by simp, fun h => by simp at h⟩, by simp, by simp⟩
  · unfold maxLen at hm
    have hlm : len ≤ m := by rw [hmm]; split <;> omega
    have each : ∀ i, i < len → ∃ e : S37, (∃ c : List Value, c.length = 2 ∧ k37.K W e c ∧ ∀ j u, c[j]? = some u → W.cell? (a.add (i * 2 + j)) = some u) ∧ Fine e := by
      intro i hi
      obtain ⟨cs', hcs', ht⟩ := hx i (by omega)
      obtain ⟨_, hlen, hcell⟩ := World.cells?_some hcs'
      rw [show Tryd.prog.cellsOf 37 = 2 by kernel_rfl] at hlen hcell
      obtain ⟨e, hk, hf⟩ := read_note ht
      refine ⟨e, ⟨cs', hlen, hk, fun j u hu => ?_⟩, hf⟩
      have hj : j < 2 := by
        have := (List.getElem?_eq_some_iff.1 hu).1; omega
      have := hcell j hj
      rw [Deep.add_add, hu] at this
      exact this
    obtain ⟨E, hE⟩ := choose_lt each
    refine ⟨some a, (List.range len).map E, cap, by simp, by simpa using hl, ⟨rfl, by simp; omega, fun _ => ⟨a, rfl, fun j p hp => ?_⟩⟩, by simp; omega, fun e he => ?_⟩
    · obtain ⟨hj, rfl⟩ := getElem_map_range E len j p hp
      exact (hE j hj).1
    · obtain ⟨i, hi, rfl⟩ := List.mem_map.1 he
      exact (hE i (List.mem_range.1 hi)).2
end

theorem gPowType : (Tryd.prog.globals[3]?).map (·.type) = some 99 := by kernel_rfl
theorem cells5 : Tryd.prog.cellsOf 5 = 1 := by kernel_rfl

/-- The row's list gives the table of powers of ten. -/
theorem table {W : World} (h : laidMetH Tryd.prog Rows.fnExactShowNotesRow.laid W) : M.Tab W := by
  have h' : laidMet Tryd.prog Rows.fnExactShowNotesRow.laid W := h
  obtain ⟨ps, ⟨_, _, _, _, _, q1, _, _, _, _, ⟨_, _, _, _, _, q2, _, _, _, _, ⟨g', t', cs, fuel, p, q, hg', ht', hvar, hd, _, _⟩, _⟩, _⟩, _⟩ := h'
  obtain rfl := Option.some.inj (M.gPow.symm.trans hg')
  obtain rfl := Option.some.inj (gPowType.symm.trans ht')
  unfold M.Tab Lib.TabIs
  rw [hvar]
  have hd' : DataW.trod (fun _ => ()) Tryd.prog W 0 (fun _ => true) false fuel 99 cs.toList = some (Lib.tabData .u64 Lib.pow10Tab, p) := hd
  rw [← Lib.cells_of_tab Tryd.underlying99 (e := 86) (k := .u64) (by kernel_rfl) (by kernel_rfl) (by kernel_rfl) hd']

set_option maxRecDepth 100000 in
/-- What the call does, at every argument and in every world that holds the table. -/
theorem contract (H : Type) (enc : TypeId × Value → H) (W : World) (base : Nat) (args : Array Value) (ds gs : List (DataW H)) (before : List MemPlace)
    (hval0 : ∀ (j : Nat) t v, Tryd.f3.params[j]? = some t → args[j]? = some v → Value.okWide Tryd.prog W .any base t v)
    (hW : DataW.Whole enc Tryd.prog Tryd.f3.params.toList Rows.fnExactShowNotesSpec.vars false W args.toList ds gs before) (hL : laidMetH Tryd.prog Rows.fnExactShowNotesRow.laid W) :
    Calls Tryd.prog 3 args W fun e W' => ∃ v, e = .returned v ∧ Rows.fnExactShowNotesSpec.post enc Tryd.prog Tryd.f3 false true false false W args v W' := by
  have hW' := hW
  obtain ⟨p, q, hA0, hV, rfl, hfz, hnd⟩ := hW
  have hA : DataW.TrodAll enc Tryd.prog W 0 (fun _ => true) true Tryd.f3.params.toList args.toList ds p := hA0
  rw [Tryd.params3] at hA
  obtain ⟨v0, vs0, d0, ds0, p0, q0, hargs, rfl, rfl, h0, r0⟩ := trodAll_cons hA
  obtain ⟨rfl, rfl, rfl⟩ := trodAll_nil r0
  obtain rfl : args = #[v0] := by cases args; simp_all
  obtain ⟨rfl, rfl⟩ := trodVars_none hV
  have k0 := h0
  have lt0 : ∀ x ∈ p0, x.block < W.heap.size := by obtain ⟨m, hm⟩ := k0; exact DataW.trod_lt m _ _ _ hm
  have hval : ∀ (j : Nat) t v, Tryd.f3.params[j]? = some t → #[v0][j]? = some v → Value.okWide Tryd.prog W .any base t v := hval0
  rw [Tryd.params3] at hval
  obtain ⟨a0, len0, cap0, rfl⟩ := okWide_slice Tryd.underlying22 (hval 0 22 v0 rfl rfl)
  obtain ⟨l0, rfl, hc0, hr0, hl0, hx0⟩ : ∃ l : List S37, len0 = l.length ∧ l.length ≤ cap0 ∧ Kd.C k37 W a0 l.length l ∧ l.length ≤ 9223372036854775807 ∧ ∀ e ∈ l, Fine e := by
    obtain ⟨fuel, hf⟩ := h0
    obtain ⟨A, l, c, hcs, h1, h2, h3, h4⟩ := read_notes hf
    simp [Value.cells] at hcs
    obtain ⟨rfl, rfl, rfl⟩ := hcs
    exact ⟨l, rfl, h1, h2, h3, h4⟩
  obtain ⟨k, hk⟩ := (law l0 hl0 hx0).rounds
  refine (laws_FnExactShowNotes.calls k _ _ l0 true W hr0 hc0 (table hL) hk).mono fun e W' ⟨he, bel⟩ => ?_
  subst he
  exact ⟨_, rfl, _, _, _, [], _, [], hW', trodAll_mk1 (shut_bool Tryd.underlying4 _), (trodAll_cons_mk (Below.trod laidOut (by kernel_rfl) (of_decide_eq_true (by kernel_rfl)) k0 bel lt0) trodAll_mk0), rfl, bel.frame _, fun h => by cases h⟩

/-- A block whose cells are set. -/
def setCells (cs : Array Value) : Obj → Obj
  | .cells _ t frozen => .cells cs t frozen
  | o => o
/-- A world for the witness: the settled one, the three tables holding what their initialisers lay. -/
noncomputable def laidWorld (os : Os) : World :=
  { World.holding Tryd.prog os ⟨#[], #[], []⟩ with heap := (((World.holding Tryd.prog os ⟨#[], #[], []⟩).heap.modify 3 (setCells #[.int .u64 1, .int .u64 10, .int .u64 100, .int .u64 1000, .int .u64 10000, .int .u64 100000, .int .u64 1000000, .int .u64 10000000, .int .u64 100000000, .int .u64 1000000000, .int .u64 10000000000, .int .u64 100000000000, .int .u64 1000000000000, .int .u64 10000000000000, .int .u64 100000000000000, .int .u64 1000000000000000, .int .u64 10000000000000000, .int .u64 100000000000000000, .int .u64 1000000000000000000, .int .u64 10000000000000000000])).modify 4 (setCells (#[0, 1, 28, 2, 29, 14, 24, 3, 30, 22, 20, 15, 25, 17, 4, 8, 31, 27, 13, 23, 21, 19, 16, 7, 26, 12, 18, 6, 11, 5, 10, 9].map (Value.int .u8)))).modify 5 (setCells (#[0, 1, 56, 2, 57, 49, 28, 3, 61, 58, 42, 50, 38, 29, 17, 4, 62, 47, 59, 36, 45, 43, 51, 22, 53, 39, 33, 30, 24, 18, 12, 5, 63, 55, 48, 27, 60, 41, 37, 16, 46, 35, 44, 21, 52, 32, 23, 11, 54, 26, 40, 15, 34, 20, 31, 10, 25, 14, 19, 9, 13, 8, 7, 6].map (Value.int .u8))) }
theorem laid_met (os : Os) : laidMet Tryd.prog Rows.fnExactShowNotesRow.laid ((laidWorld os).forCall (fun _ _ => 0) ⟨#[], #[.slice none 0 0], []⟩).memory :=
  laidMet_of_run' 8 (by kernel_rfl) (by kernel_rfl)
theorem reads (os : Os) {H : Type} (enc : TypeId × Value → H) : ∃ places, DataW.whole enc Tryd.prog ((laidWorld os).forCall (fun _ _ => 0) ⟨#[], #[.slice none 0 0], []⟩).memory Tryd.f3.params.toList Rows.fnExactShowNotesSpec.vars false #[Value.slice none 0 0].toList 8 = some ([.nil], [], places) :=
  ⟨[], by kernel_rfl⟩

set_option maxRecDepth 100000 in
theorem lifted (os : Os) (started : os.Started) (H : Type) (enc : TypeId × Value → H) (F : Stop.Interp) :
    ReturnsInHanded {} Tryd.checked os 3 .any ((OpenSpec.ofChange Rows.fnExactShowNotesSpec).preRow enc Tryd.prog Tryd.f3 Rows.fnExactShowNotesRow.domain false Rows.fnExactShowNotesRow.laid) (((OpenSpec.ofChange Rows.fnExactShowNotesSpec).at F).post enc Tryd.prog Tryd.f3 false true false false) := by
  obtain ⟨places, hx⟩ := reads os enc
  refine returnsInHanded_of_row (C := Tryd.checked) (s := OpenSpec.ofChange Rows.fnExactShowNotesSpec) own started (by kernel_rfl) Tryd.func3
    (witness_row_at (enc := enc) (C := Tryd.checked) false (laidWorld os) #[.slice none 0 0] rfl (by kernel_rfl) (by kernel_rfl) (by kernel_rfl)
      (OpenSpec.preRow_of_cond 8 hx (by kernel_rfl) (fun k hk => by cases hk) (by kernel_rfl) (laid_met os))) ?_
  intro W base args ds gs before hval hW _ _ _ hL _ _
  exact contract H enc W base args ds gs before hval hW hL

theorem said : Rows.FnExactShowNotesSaid :=
  OpenClaim.holds_of_cond 3 Tryd.f3 rfl rfl rfl rfl rfl rfl rfl ⟨rfl, rfl, rfl, rfl, rfl⟩ rfl rfl rfl rfl rfl (by kernel_rfl) Tryd.func3 (by kernel_rfl)
    (of_decide_eq_true (by kernel_rfl)) (by unfold Func.isWrapper; first | (rw [if_pos (by decide +kernel)]; kernel_rfl) | (rw [if_neg (by decide +kernel)]; exact ⟨rfl, rfl⟩))
    (fun os started H enc _ F => by rw [OpenClaim.pre_eq_preRow]; exact lifted os started H enc F)

theorem plain (f : FuncId) (fn : Func) (hf : Tryd.pinned.checked.prog.funcNamed "loop.example/g00777/laws.FnExactShowNotes" = some f) (hfn : Tryd.pinned.checked.prog.funcs[f]? = some fn) :
    false = Tryd.pinned.checked.prog.looks [] ∧ ∀ (j : Nat) t, fn.params[j]? = some t → Tryd.pinned.checked.prog.wantsStandIn t = false := by
  obtain rfl : f = 3 := Option.some.inj ((show Tryd.prog.funcNamed "loop.example/g00777/laws.FnExactShowNotes" = some 3 by kernel_rfl).symm.trans hf) |>.symm
  obtain rfl : fn = Tryd.f3 := (Option.some.inj (Tryd.func3.symm.trans hfn)).symm
  refine ⟨by kernel_rfl, fun j t ht => ?_⟩
  rw [Tryd.params3] at ht
  obtain rfl : t = 22 := by simpa using Array.mem_of_getElem? ht
  exact (show Tryd.prog.wantsStandIn 22 = false by kernel_rfl)

/-- The card. -/
theorem card : Rows.FnExactShowNotesCardSaid :=
  Claim7.holds_tied_plain_at .later [] _ _ _ _ said (fun _ h => by cases h) (by kernel_rfl) (fun _ h => by cases h) fnExactShowNotes_row_tie rfl ⟨rfl, rfl⟩ (by kernel_rfl) rfl plain (by kernel_rfl)
#print axioms card
end Go.Proofs.YtgjbdheekjjaeaaDoor.ShowNotesRow
namespace Go.Proofs.YtgjbdheekjjaeaaDoor
/-- The card, under a short name, for the claim. -/
theorem fnExactShowNotes_card : Rows.FnExactShowNotesCardSaid := ShowNotesRow.card
end Go.Proofs.YtgjbdheekjjaeaaDoor
