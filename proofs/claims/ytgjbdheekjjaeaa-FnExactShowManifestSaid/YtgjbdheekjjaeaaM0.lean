/- The contract of strings.Join at this seat, in the form that the printed functions have: under a bound on the whole length the call answers the joined text, and what lay in memory before stays. -/
import Derived.Test.YtgjbdheekjjaeaaShelf
import Derived.Test.YtgjbdheekjjaeaaWWords
import Derived.WalkKit
namespace Go.Proofs.Ytgjbdheekjjaeaa.M
open Go.RowKit Go.Proofs.YtgjbdheekjjaeaaW.PrintWords

def strings_Join.f (l0 : List ByteArray) (a1 : ByteArray) : Option (ByteArray) :=
  if (Lib.join (l0.map (·.data.toList)) a1.data.toList).length ≤ 140737488355328 then
    (if l0.length ≤ 140737488355328 then some ⟨(Lib.join (l0.map (·.data.toList)) a1.data.toList).toArray⟩ else none) else none

theorem strings_Join.calls (A0 : Option Addr) (c0 : Nat) (l0 : List ByteArray) (a1 : ByteArray) (r : ByteArray) (w : World) (hr0 : Kd.C Kd.string w A0 l0.length l0) (hc0 : l0.length ≤ c0) (h : strings_Join.f l0 a1 = some r) :
    Calls Try.prog 17 #[.slice A0 l0.length c0, .string a1] w fun e w' => e = .returned (.string r) ∧ Below w.heap.size w w' := by
  unfold strings_Join.f at h
  split at h
  · rename_i hlen
    split at h
    · rename_i hN
      obtain rfl := Option.some.inj h
      cases hl : l0 with
      | nil =>
        refine (Try.strings_Join_none A0 c0 a1 w).mono ?_
        rintro e w' ⟨rfl, rfl⟩
        exact ⟨rfl, Below.refl _ _⟩
      | cons x xs =>
        rw [← hl]
        have hpos : 0 < l0.length := by rw [hl]; simp
        obtain ⟨ad, rfl, hcell⟩ := hr0.2.2 hpos
        have hc : ∀ (j : Nat) y, l0[j]? = some y → w.cell? (ad.add j) = some (.string y) := by
          intro j y hy
          obtain ⟨c, hcl, hk, hcc⟩ := hcell j y hy
          have hk' : c = [Value.string y] := hk
          subst hk'
          have := hcc 0 (.string y) rfl
          simpa [Kd.string, Kd.scalar] using this
        have h0 := hc 0 x (by rw [hl]; rfl)
        have had : ad.add 0 = ad := rfl
        rw [had] at h0
        have hlt := World.block_lt_of_cell? w _ h0
        obtain ⟨bk, o, sp⟩ := ad
        have hsp : sp = none := by
          cases sp with
          | none => rfl
          | some z => simp [World.cell?] at h0; split at h0 <;> simp at h0
        subst hsp
        refine (Try.strings_Join bk o c0 l0 a1 w ?_ hlt hN hc0 hlen).mono ?_
        · intro j y hy
          have := hc j y hy
          have e : (Addr.mk bk o none).add j = ⟨bk, o + j, none⟩ := by
            unfold Addr.add; split
            · rename_i h; subst h; rfl
            · rfl
          rwa [e] at this
        · rintro e w' ⟨rfl, hb⟩
          exact ⟨rfl, hb⟩
    · exact absurd h (by simp)
  · exact absurd h (by simp)
theorem isEmpty_bne (l : List UInt8) : l.isEmpty = (!(l != [])) := by cases l <;> rfl
theorem slice_form {α : Type} {d : Kd α} {e : Nat} {w : World} {base : Nat} {ok : Nat → Prop} {v : Value} {xs : List α} (h : d.R e w base ok v xs) : ∃ A n c, v = .slice A n c := by
  obtain ⟨_, inner, ho, hr⟩ := h
  rcases ho.2 with ⟨rfl, _⟩ | ⟨g, cap, cur, rfl, _⟩
  · exact ⟨_, _, _, rfl⟩
  · exact ⟨_, _, _, rfl⟩
end Go.Proofs.Ytgjbdheekjjaeaa.M
