/- FnExactShowManifest holds: for every list of entries the call returns true, and the list reads as it read before; no condition on the input. -/
import Derived.Test.YtgjbdheekjjaeaaRows
import Derived.Test.YtgjbdheekjjaeaaPw
import Derived.WalkKit
import Derived.ProofKit
import Derived.OpenShut
import Derived.ShutString
import Derived.ChangeOld
import Derived.Below
import Derived.SizedLaws
import Derived.ChangeSame
import Derived.Deep.Slices
import Derived.Deep.Strs
namespace Go.Proofs.Ytgjbdheekjjaeaa.ShowManifestRow
open Go.ChangeShapes Go.WideShapes Go.ChangeAt Go.RowKit Go.Deep
open Go.ChangeMaps (open_string shut_string)
open Go.Proofs.YtgjbdheekjjaeaaW.PrintWords Go.Proofs.Ytgjbdheekjjaeaa.X1 Go.Proofs.Ytgjbdheekjjaeaa.Pu
set_option linter.unusedVariables false
theorem own : ownKnob Try.prog.godebug = none := by kernel_rfl
theorem laidOut : laidOutB Try.prog = true := by kernel_rfl

section
variable {H : Type} {enc : TypeId × Value → H} {W : World} {base : Nat} {spare : Nat → Bool} {held : Bool}

/-- A list by its length and its elements. -/
theorem getElem_map_range {α : Type} (f : Nat → α) (n : Nat) (j : Nat) (p : α) (h : ((List.range n).map f)[j]? = some p) : j < n ∧ p = f j := by
  rw [List.getElem?_map] at h
  by_cases hj : j < n
  · rw [List.getElem?_range hj] at h; exact ⟨hj, by simpa using h.symm⟩
  · rw [List.getElem?_eq_none (by simp; omega)] at h; simp at h

/-- A slice of texts that is read, as a row of texts. -/
theorem read_strings {fuel : Nat} {cs : List Value} {x : DataW H × List MemPlace} (h : DataW.trod enc Try.prog W base spare held fuel 30 cs = some x) :
    ∃ (A : Option Addr) (l : List ByteArray) (c : Nat), cs = [.slice A l.length c] ∧ l.length ≤ c ∧ Kd.C Kd.string W A l.length l ∧ l.length ≤ 9223372036854775807 ∧ ∀ s ∈ l, s.size ≤ 9223372036854775807 := by
  rcases open_strs Try.underlying30 Try.underlying9 (by kernel_rfl) h with ⟨rfl, _⟩ | ⟨a, len, cap, m, Sx, rfl, _, hl, hm, hmm, _, hx⟩
  · exact ⟨none, [], 0, rfl, Nat.le_refl _, ⟨rfl, by simp, fun h => by simp at h⟩, by simp, by simp⟩
  · unfold maxLen at hm
    have hlm : len ≤ m := by rw [hmm]; split <;> omega
    refine ⟨some a, (List.range len).map Sx, cap, by simp, by simpa using hl, ⟨rfl, by simp; omega, fun _ => ⟨a, rfl, fun j p hp => ?_⟩⟩, by simp; omega, fun s hs => ?_⟩
    · obtain ⟨hj, rfl⟩ := getElem_map_range Sx len j p hp
      refine ⟨[.string (Sx j)], rfl, rfl, fun i u hu => ?_⟩
      cases i with
      | zero =>
        obtain rfl : Value.string (Sx j) = u := by simpa using hu
        simpa [Kd.string, Kd.scalar] using (hx j (by omega)).1
      | succ i => simp at hu
    · obtain ⟨i, hi, rfl⟩ := List.mem_map.1 hs
      have := (hx i (by have := List.mem_range.1 hi; omega)).2
      unfold maxLen at this; exact this

/-- An entry that is read. -/
theorem read_entry {fuel : Nat} {cs : List Value} {x : DataW H × List MemPlace} (h : DataW.trod enc Try.prog W base spare held fuel 32 cs = some x) :
    ∃ e : S32, k32.K W e cs ∧ Fine e := by
  obtain ⟨y0, y1, n, _, hl, h0, h1⟩ := trod_struct2 Try.underlying32 h
  have hc : cs.length = 2 := by rw [hl]; kernel_rfl
  match cs, hc with
  | [c0, c1], _ =>
    have h0' : DataW.trod enc Try.prog W base spare held n 9 [c0] = some y0 := by
      have e : ([c0, c1].drop 0).take (Try.prog.cellsOf 9) = [c0] := by rw [show Try.prog.cellsOf 9 = 1 by kernel_rfl]; rfl
      rw [← e]; exact h0
    have h1' : DataW.trod enc Try.prog W base spare held n 30 [c1] = some y1 := by
      have e : ([c0, c1].drop 1).take (Try.prog.cellsOf 30) = [c1] := by rw [show Try.prog.cellsOf 30 = 1 by kernel_rfl]; rfl
      rw [← e]; exact h1
    obtain ⟨s, hs, _, hsz⟩ := DataW.trod_string Try.underlying9 h0'
    obtain ⟨A, l, c, hcs, hlc, hC, hll, hns⟩ := read_strings h1'
    obtain rfl : c0 = .string s := by simpa using hs
    obtain rfl : c1 = .slice A l.length c := by simpa using hcs
    unfold maxLen at hsz
    exact ⟨⟨s, l⟩, k32_mk W ⟨s, l⟩ hlc hC, ⟨hsz, hll, hns⟩⟩

instance : Inhabited S32 := ⟨z32⟩

/-- The argument: a slice of entries. -/
theorem read_entries {fuel : Nat} {cs : List Value} {x : DataW H × List MemPlace} (h : DataW.trod enc Try.prog W base spare held fuel 22 cs = some x) :
    ∃ (A : Option Addr) (l : List S32) (c : Nat), cs = [.slice A l.length c] ∧ l.length ≤ c ∧ Kd.C k32 W A l.length l ∧ l.length ≤ 9223372036854775807 ∧ ∀ e ∈ l, Fine e := by
  rcases open_slice Try.underlying22 h with ⟨rfl, _⟩ | ⟨a, len, cap, m, n, D, Pl, rfl, _, hl, hm, hmm, _, hx⟩
  · exact ⟨none, [], 0, rfl, Nat.le_refl _, ⟨rfl, by simp, fun h => by simp at h⟩, by simp, by simp⟩
  · unfold maxLen at hm
    have hlm : len ≤ m := by rw [hmm]; split <;> omega
    have each : ∀ i, i < len → ∃ e : S32, (∃ c : List Value, c.length = 2 ∧ k32.K W e c ∧ ∀ j u, c[j]? = some u → W.cell? (a.add (i * 2 + j)) = some u) ∧ Fine e := by
      intro i hi
      obtain ⟨cs', hcs', ht⟩ := hx i (by omega)
      obtain ⟨_, hlen, hcell⟩ := World.cells?_some hcs'
      rw [show Try.prog.cellsOf 32 = 2 by kernel_rfl] at hlen hcell
      obtain ⟨e, hk, hf⟩ := read_entry ht
      refine ⟨e, ⟨cs', hlen, hk, fun j u hu => ?_⟩, hf⟩
      have hj : j < 2 := by
        have := (List.getElem?_eq_some_iff.1 hu).1; omega
      have := hcell j hj
      rw [Deep.add_add, hu] at this
      exact this
    obtain ⟨E, hE⟩ := choose_lt each
    refine ⟨some a, (List.range len).map E, cap, by simp, by simpa using hl, ⟨rfl, by simp; omega, fun _ => ⟨a, rfl, fun j p hp => ?_⟩⟩, by simp; omega, fun e he => ?_⟩
    · obtain ⟨hj, rfl⟩ := getElem_map_range E len j p hp
      exact (hE j hj).1
    · obtain ⟨i, hi, rfl⟩ := List.mem_map.1 he
      exact (hE i (List.mem_range.1 hi)).2
end

set_option maxRecDepth 100000 in
theorem lifted (os : Os) (started : os.Started) (H : Type) (enc : TypeId × Value → H) :
    ReturnsInHanded {} Try.checked os 3 .any (Rows.fnExactShowManifestSpec.pre6 enc Try.prog Try.f3 Rows.fnExactShowManifestRow.domain false) (Rows.fnExactShowManifestSpec.post enc Try.prog Try.f3 false true false false) := by
  refine returnsInHanded_of_change_sized (C := Try.checked) own started (by kernel_rfl) Try.func3
    (ChangeSpec.witness6 (enc := enc) (C := Try.checked) false ⟨#[], #[.slice none 0 0], []⟩ 8 (by kernel_rfl) (by kernel_rfl) (by kernel_rfl) (by kernel_rfl)) ?_
  intro W base args ds gs before hval0 hW hcnd hsz0 _
  have hW' := hW
  obtain ⟨p, q, hA0, hV, rfl, hfz, hnd⟩ := hW
  have hA : DataW.TrodAll enc Try.prog W 0 (fun _ => true) true Try.f3.params.toList args.toList ds p := hA0
  rw [Try.params3] at hA
  obtain ⟨v0, vs0, d0, ds0, p0, q0, hargs, rfl, rfl, h0, r0⟩ := trodAll_cons hA
  obtain ⟨rfl, rfl, rfl⟩ := trodAll_nil r0
  obtain rfl : args = #[v0] := by cases args; simp_all
  obtain ⟨rfl, rfl⟩ := trodVars_none hV
  have k0 := h0
  have lt0 : ∀ x ∈ p0, x.block < W.heap.size := by obtain ⟨m, hm⟩ := k0; exact DataW.trod_lt m _ _ _ hm
  have hval : ∀ (j : Nat) t v, Try.f3.params[j]? = some t → #[v0][j]? = some v → Value.okWide Try.prog W .any base t v := hval0
  rw [Try.params3] at hval
  obtain ⟨a0, len0, cap0, rfl⟩ := okWide_slice Try.underlying22 (hval 0 22 v0 rfl rfl)
  obtain ⟨l0, rfl, hc0, hr0, hl0, hx0⟩ : ∃ l : List S32, len0 = l.length ∧ l.length ≤ cap0 ∧ Kd.C k32 W a0 l.length l ∧ l.length ≤ 9223372036854775807 ∧ ∀ e ∈ l, Fine e := by
    obtain ⟨fuel, hf⟩ := h0
    obtain ⟨A, l, c, hcs, h1, h2, h3, h4⟩ := read_entries hf
    simp [Value.cells] at hcs
    obtain ⟨rfl, rfl, rfl⟩ := hcs
    exact ⟨l, rfl, h1, h2, h3, h4⟩
  obtain ⟨k, hk⟩ := (law l0 hl0 hx0).rounds
  refine (laws_FnExactShowManifest.calls k _ _ l0 true W hr0 hc0 hk).mono fun e W' ⟨he, bel⟩ => ?_
  subst he
  exact ⟨_, rfl, _, _, _, [], _, [], hW', trodAll_mk1 (shut_bool Try.underlying4 _), (trodAll_cons_mk (Below.trod laidOut (by kernel_rfl) (of_decide_eq_true (by kernel_rfl)) k0 bel lt0) trodAll_mk0), rfl, bel.frame _, fun h => by cases h⟩

theorem over : Rows.fnExactShowManifestRow.holds Try.pinned (OpenSpec.ofChange Rows.fnExactShowManifestSpec) :=
  OpenClaim.holds_of_wide 3 Try.f3 rfl rfl rfl rfl rfl rfl rfl ⟨rfl, rfl, rfl, rfl, rfl⟩ rfl rfl rfl rfl rfl (by kernel_rfl) Try.func3 (by kernel_rfl)
    (of_decide_eq_true (by kernel_rfl)) (by unfold Func.isWrapper; first | (rw [if_pos (by decide +kernel)]; kernel_rfl) | (rw [if_neg (by decide +kernel)]; exact ⟨rfl, rfl⟩))
    (fun os started H enc _ => lifted os started H enc)
theorem proved : Rows.FnExactShowManifestSaid := over
#print axioms proved
end Go.Proofs.Ytgjbdheekjjaeaa.ShowManifestRow
namespace Go.Proofs.Ytgjbdheekjjaeaa
/-- The row, under a short name, for the claim. -/
theorem fnExactShowManifest_holds : Rows.FnExactShowManifestSaid := ShowManifestRow.proved
end Go.Proofs.Ytgjbdheekjjaeaa
