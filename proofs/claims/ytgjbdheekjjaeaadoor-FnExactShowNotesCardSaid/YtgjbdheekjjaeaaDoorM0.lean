/- Contracts of library functions at this seat, in the form that the printed functions have: strconv.Itoa, where the table of powers of ten in memory is the library's own; what lay in memory before the call stays. -/
import Derived.Test.YtgjbdheekjjaeaaDoorShelf
import Derived.Test.YtgjbdheekjjaeaaDoorWWords
import Derived.WalkKit
import Derived.Lib.LaidTab
namespace Go.Proofs.YtgjbdheekjjaeaaDoor.M
open Go.Sort Go.RowKit Go.Proofs.YtgjbdheekjjaeaaDoorW.PrintWords

theorem isEmpty_bne (l : List UInt8) : l.isEmpty = (!(l != [])) := by cases l <;> rfl
theorem slice_form {α : Type} {d : Kd α} {e : Nat} {w : World} {base : Nat} {ok : Nat → Prop} {v : Value} {xs : List α} (h : d.R e w base ok v xs) : ∃ A n c, v = .slice A n c := by
  obtain ⟨_, inner, ho, hr⟩ := h
  rcases ho.2 with ⟨rfl, _⟩ | ⟨g, cap, cur, rfl, _⟩
  · exact ⟨_, _, _, rfl⟩
  · exact ⟨_, _, _, rfl⟩

/-- The library's table of powers of ten lies in memory as its text lays it. -/
def Tab (w : World) : Prop := Lib.TabIs Tryd.prog w "internal/strconv.uint64pow10" .u64 Lib.pow10Tab

theorem gPow : Tryd.prog.globalNamed "internal/strconv.uint64pow10" = some 3 := by kernel_rfl

theorem Tab.below {w w1 : World} (h : Tab w) (hb : Below w.heap.size w w1) : Tab w1 := by
  have hv : w.var? Tryd.prog "internal/strconv.uint64pow10" = some (Lib.pow10Tab.map fun z => Value.int .u64 z).toArray := h
  show w1.var? Tryd.prog "internal/strconv.uint64pow10" = some (Lib.pow10Tab.map fun z => Value.int .u64 z).toArray
  unfold World.var? at hv ⊢
  simp only [gPow, Option.bind_some] at hv ⊢
  have hlt : 3 < w.heap.size := by
    cases hh : w.heap[3]? with
    | none => rw [hh] at hv; simp at hv
    | some o => exact (Array.getElem?_eq_some_iff.1 hh).1
  rw [hb.block 3 hlt]
  exact hv

def strconv_Itoa.f (a0 : Int) : Option (ByteArray) :=
  if -9223372036854775808 ≤ a0 then (if a0 ≤ 9223372036854775807 then some ⟨(Lib.itoa a0).toArray⟩ else none) else none

theorem below_grow (w : World) (k : Nat) (os : Array Obj) : Below w.heap.size w (grow (w.drewN k) os) := by
  have h1 : Below w.heap.size w (w.drewN k) := pw_below_drewN (Below.refl _ _) k
  refine h1.trans ⟨rfl, rfl, rfl, by simp, fun i hi => ?_⟩
  exact heap_grow_old _ os (Nat.lt_of_lt_of_le hi h1.size)

theorem strconv_Itoa.calls (a0 : Int) (r : ByteArray) (w : World) (htab : Tab w) (h : strconv_Itoa.f a0 = some r) :
    Calls Tryd.prog 41 #[.int .i64 a0] w fun e w' => e = .returned (.string r) ∧ Below w.heap.size w w' := by
  unfold strconv_Itoa.f at h
  split at h
  · split at h
    · obtain rfl := Option.some.inj h
      refine (Tryd.strconv_Itoa a0 (by assumption) (by assumption) w htab).mono ?_
      rintro e w' ⟨rfl, k, os, rfl⟩
      exact ⟨rfl, below_grow w k os⟩
    · exact absurd h (by simp)
  · exact absurd h (by simp)
end Go.Proofs.YtgjbdheekjjaeaaDoor.M
