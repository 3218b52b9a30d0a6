/- Contracts of library functions at this seat, in the form that the printed functions have: strings.Join, strings.CutSuffix, strings.Split. Split is told where the size limit of the search routines, a variable of the library, lies in memory as some number. -/
import Derived.Test.YtgjbdheekjjaeaaDoorShelf
import Derived.Test.YtgjbdheekjjaeaaDoorWWords
import Derived.Test.YtgjbdheekjjaeaaDoorWLast
import Derived.WalkKit
import Derived.Lib.Split
import Derived.Lib.CountLaws
import Derived.Lib.ReplaceLaws
namespace Go.Proofs.YtgjbdheekjjaeaaDoor.M
open Go.RowKit Go.Proofs.YtgjbdheekjjaeaaDoorW.PrintWords

theorem isEmpty_bne (l : List UInt8) : l.isEmpty = (!(l != [])) := by cases l <;> rfl
theorem slice_form {α : Type} {d : Kd α} {e : Nat} {w : World} {base : Nat} {ok : Nat → Prop} {v : Value} {xs : List α} (h : d.R e w base ok v xs) : ∃ A n c, v = .slice A n c := by
  obtain ⟨_, inner, ho, hr⟩ := h
  rcases ho.2 with ⟨rfl, _⟩ | ⟨g, cap, cur, rfl, _⟩
  · exact ⟨_, _, _, rfl⟩
  · exact ⟨_, _, _, rfl⟩

def strings_Join.f (l0 : List ByteArray) (a1 : ByteArray) : Option (ByteArray) :=
  if (Lib.join (l0.map (·.data.toList)) a1.data.toList).length ≤ 140737488355328 then
    (if l0.length ≤ 140737488355328 then some ⟨(Lib.join (l0.map (·.data.toList)) a1.data.toList).toArray⟩ else none) else none

theorem strings_Join.calls (A0 : Option Addr) (c0 : Nat) (l0 : List ByteArray) (a1 : ByteArray) (r : ByteArray) (w : World) (hr0 : Kd.C Kd.string w A0 l0.length l0) (hc0 : l0.length ≤ c0) (h : strings_Join.f l0 a1 = some r) :
    Calls Tryd.prog 39 #[.slice A0 l0.length c0, .string a1] w fun e w' => e = .returned (.string r) ∧ Below w.heap.size w w' := by
  unfold strings_Join.f at h
  split at h
  · rename_i hlen
    split at h
    · rename_i hN
      obtain rfl := Option.some.inj h
      cases hl : l0 with
      | nil =>
        refine (Tryd.strings_Join_none A0 c0 a1 w).mono ?_
        rintro e w' ⟨rfl, rfl⟩
        exact ⟨rfl, Below.refl _ _⟩
      | cons x xs =>
        rw [← hl]
        have hpos : 0 < l0.length := by rw [hl]; simp
        obtain ⟨ad, rfl, hcell⟩ := hr0.2.2 hpos
        have hc : ∀ (j : Nat) y, l0[j]? = some y → w.cell? (ad.add j) = some (.string y) := by
          intro j y hy
          obtain ⟨c, hcl, hk, hcc⟩ := hcell j y hy
          have hk' : c = [Value.string y] := hk
          subst hk'
          have := hcc 0 (.string y) rfl
          simpa [Kd.string, Kd.scalar] using this
        have h0 := hc 0 x (by rw [hl]; rfl)
        have had : ad.add 0 = ad := rfl
        rw [had] at h0
        have hlt := World.block_lt_of_cell? w _ h0
        obtain ⟨bk, o, sp⟩ := ad
        have hsp : sp = none := by
          cases sp with
          | none => rfl
          | some z => simp [World.cell?] at h0; split at h0 <;> simp at h0
        subst hsp
        refine (Tryd.strings_Join bk o c0 l0 a1 w ?_ hlt hN hc0 hlen).mono ?_
        · intro j y hy
          have := hc j y hy
          have e : (Addr.mk bk o none).add j = ⟨bk, o + j, none⟩ := by
            unfold Addr.add; split
            · rename_i h; subst h; rfl
            · rfl
          rwa [e] at this
        · rintro e w' ⟨rfl, hb⟩
          exact ⟨rfl, hb⟩
    · exact absurd h (by simp)
  · exact absurd h (by simp)

/-- Slices inside elements that may begin inside their blocks: the words of a line behind its first. -/
def sliceQ {α : Type} (e : Nat) (d : Kd α) : Kd (List α) where
  sz := 1
  E := e :: d.E
  K := fun w xs cs => ∃ A c, cs = [.slice A xs.length c] ∧ xs.length ≤ c ∧ d.C w A xs.length xs
  M := fun w base ok xs cs => ∃ v, cs = [v] ∧ d.Q e w base ok v xs
  K_len := by
    rintro w x cs ⟨A, c, rfl, _⟩
    rfl
  K_one := by
    rintro w x cs ⟨A, c, rfl, _⟩ u hu
    rw [List.mem_singleton.1 hu]
    rfl
  K_below := by
    rintro w w1 x cs hb ⟨A, c, rfl, hl, hr⟩
    exact ⟨A, c, rfl, hl, Kd.C_below hr hb⟩
  K_of_M := by
    rintro w base ok x cs ⟨v, rfl, h⟩
    obtain ⟨A, c, rfl, hl, hr⟩ := Kd.Q_reads h
    exact ⟨A, c, rfl, hl, hr⟩
  M_mono := by
    rintro w base ok ok' x cs hok ⟨v, rfl, h⟩
    exact ⟨v, rfl, Kd.Q_mono h hok⟩
  M_bound := by
    rintro w base ok x cs ⟨v, rfl, h⟩
    exact ⟨v, rfl, Kd.Q_bound h⟩
  M_move := by
    rintro w w1 base ok x cs hm ⟨v, rfl, h⟩
    exact ⟨v, rfl, Kd.Q_move h hm⟩
  M_lower := by
    rintro w base base' ok x cs hb ⟨v, rfl, h⟩
    exact ⟨v, rfl, Kd.Q_lower h hb⟩

/-- The library's size limit lies in memory as a number. -/
def Tab (w : World) : Prop := ∃ m, w.cell? ⟨0, 0, none⟩ = some (.int .i64 m)

theorem Tab.below {w w1 : World} (h : Tab w) (hb : Below w.heap.size w w1) : Tab w1 := by
  obtain ⟨m, hm⟩ := h
  refine ⟨m, ?_⟩
  have hlt := World.block_lt_of_cell? w _ hm
  rw [World.cell?_of_block (hb.block 0 hlt)]
  exact hm

def strings_CutSuffix.f (a0 : ByteArray) (a1 : ByteArray) : Option (ByteArray × Bool) :=
  if a0.size ≤ 9223372036854775807 then some (⟨(Lib.trimSuffix a0.data.toList a1.data.toList).toArray⟩, Lib.hasSuffix a0.data.toList a1.data.toList) else none

theorem strings_CutSuffix.calls (a0 : ByteArray) (a1 : ByteArray) (r1 : ByteArray) (r2 : Bool) (w : World) (h : strings_CutSuffix.f a0 a1 = some (r1, r2)) :
    Calls Tryd.prog 22 #[.string a0, .string a1] w fun e w' => e = .returned (.tuple #[.string r1, .bool r2]) ∧ ∃ nd, w' = w.drewN nd := by
  unfold strings_CutSuffix.f at h
  split at h
  · rename_i hs
    simp only [Option.some.injEq, Prod.mk.injEq] at h
    obtain ⟨rfl, rfl⟩ := h
    refine (Tryd.strings_CutSuffix a0 a1 w hs).mono ?_
    rintro e w' ⟨rfl, rfl⟩
    exact ⟨rfl, 0, rfl⟩
  · exact absurd h (by simp)

def strings_Split.f (a0 : ByteArray) (a1 : ByteArray) : Option (List ByteArray) :=
  if a0.size < 4294967281 then (if 1 ≤ a1.size then some (Lib.splitB a1 0 (Lib.countB a0 a1) a0) else none) else none

/-- Cut at every place where it stands, a text has one piece more than places. -/
theorem splitB_len (sep : ByteArray) (h1 : 1 ≤ sep.size) : ∀ (n : Nat) (s : ByteArray), s.size ≤ n → (Lib.splitB sep 0 (Lib.countB s sep) s).length = Lib.countB s sep + 1 := by
  intro n
  induction n with
  | zero =>
    intro s hs
    rcases Lib.indexB_cases s sep with h | ⟨i, h, hi⟩
    · rw [Lib.countB_miss s sep h]; rfl
    · omega
  | succ n ih =>
    intro s hs
    rcases Lib.indexB_cases s sep with h | ⟨i, h, hi⟩
    · rw [Lib.countB_miss s sep h]; rfl
    · rw [Lib.countB_hit s sep i h1 h, Nat.add_comm 1, Lib.splitB_hit sep 0 _ s i h, List.length_cons, ih _ (by rw [ByteArray.size_extract]; omega)]
theorem countB_le (sep : ByteArray) (h1 : 1 ≤ sep.size) (s : ByteArray) : Lib.countB s sep ≤ s.size := by
  have := Lib.countB_mul_le sep h1 s.size s (Nat.le_refl _)
  exact Nat.le_trans (Nat.le_mul_of_pos_right _ h1) this

theorem strings_Split.calls (a0 : ByteArray) (a1 : ByteArray) (r : List ByteArray) (w : World) (ht : Tab w) (h : strings_Split.f a0 a1 = some r) :
    Calls Tryd.prog 23 #[.string a0, .string a1] w fun e w' => ∃ v0_ : Value, e = .returned v0_ ∧ Kd.R Kd.string 9 w' w.heap.size (fun _ => True) v0_ r ∧ Below w.heap.size w w' := by
  unfold strings_Split.f at h
  split at h
  · rename_i hs
    split at h
    · rename_i h1
      obtain rfl := Option.some.inj h
      obtain ⟨m, hm⟩ := ht
      refine (Tryd.strings_Split a0 a1 m w hs hm h1).mono ?_
      rintro e w' ⟨rfl, rfl⟩
      refine ⟨_, rfl, ?_, below_alloc (Below.refl _ _) _⟩
      have hl := splitB_len a1 h1 a0.size a0 (Nat.le_refl _)
      have hc := countB_le a1 h1 a0
      refine Kd.R_of_own (enc := Value.string) (h1 := fun _ => rfl) ?_ (fun _ _ => trivial)
      refine ⟨by simp [encs], .inr ⟨w.heap.size, Lib.countB a0 a1 + 1, _, by rw [hl], Nat.le_refl _, heap_alloc_new w _, by rw [hl]; exact Nat.le_refl _, by unfold maxLen; omega, by simp [hl], by simp [encs, List.take_of_length_le]⟩⟩
    · exact absurd h (by simp)
  · exact absurd h (by simp)
end Go.Proofs.YtgjbdheekjjaeaaDoor.M
