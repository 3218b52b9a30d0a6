/- The plain law of FnExactReadManifest, first part: a text cut at a byte; the library's Split, and the two loops that scan for a byte, all give that cut. -/
import Derived.Test.YtgjbdheekjjaeaaDoorX4c
import Derived.Test.YtgjbdheekjjaeaaDoorPb
import Derived.Lib.Split
import Derived.Lib.CountLaws
namespace Go.Proofs.YtgjbdheekjjaeaaDoor.Pb
open Go.RowKit Go.Proofs.YtgjbdheekjjaeaaDoor.X3 Go.Proofs.YtgjbdheekjjaeaaDoorW.PrintWords

/-- The first piece, longer by what stands before it. -/
def pre (cur : List UInt8) : List (List UInt8) → List (List UInt8)
  | [] => [cur]
  | h :: t => (cur ++ h) :: t
/-- Cut at every c. -/
def cut (c : UInt8) : List UInt8 → List (List UInt8)
  | [] => [[]]
  | b :: l => if b = c then [] :: cut c l else pre [b] (cut c l)
theorem cut_ne (c : UInt8) (l : List UInt8) : cut c l ≠ [] := by
  cases l with
  | nil => simp [cut]
  | cons b l => unfold cut; split; simp; cases cut c l <;> simp [pre]
theorem pre_pre (a b : List UInt8) (ps : List (List UInt8)) (h : ps ≠ []) : pre a (pre b ps) = pre (a ++ b) ps := by
  cases ps with
  | nil => exact absurd rfl h
  | cons x t => simp [pre]
theorem pre_nil (ps : List (List UInt8)) (h : ps ≠ []) : pre [] ps = ps := by
  cases ps with
  | nil => exact absurd rfl h
  | cons x t => simp [pre]
theorem pre_hit (c : UInt8) (cur l : List UInt8) : pre cur (cut c (c :: l)) = cur :: cut c l := by simp [cut, pre]
theorem pre_miss (c b : UInt8) (cur l : List UInt8) (h : b ≠ c) : pre cur (cut c (b :: l)) = pre (cur ++ [b]) (cut c l) := by
  rw [cut, if_neg h, pre_pre _ _ _ (cut_ne c l)]
theorem cut_sum (c : UInt8) : ∀ l : List UInt8, ((cut c l).map List.length).sum + (cut c l).length = l.length + 1
  | [] => rfl
  | b :: l => by
    have ih := cut_sum c l
    unfold cut
    split
    · simp only [List.map_cons, List.sum_cons, List.length_cons, List.length_nil]; omega
    · cases hc : cut c l with
      | nil => exact absurd hc (cut_ne c l)
      | cons h t =>
        rw [hc] at ih
        simp only [pre, List.map_cons, List.sum_cons, List.length_cons, List.length_append, List.length_nil] at ih ⊢; omega
theorem cut_end (c : UInt8) : ∀ l : List UInt8, cut c (l ++ [c]) = cut c l ++ [[]]
  | [] => by simp [cut]
  | b :: l => by
    rw [List.cons_append, cut, cut, cut_end c l]
    split
    · rfl
    · cases hc : cut c l with
      | nil => exact absurd hc (cut_ne c l)
      | cons h t => rfl
theorem cut_last (c b : UInt8) (hb : b ≠ c) : ∀ l : List UInt8, ∃ ps x, cut c (l ++ [b]) = ps ++ [x ++ [b]]
  | [] => ⟨[], [], by simp [cut, pre, hb]⟩
  | a :: l => by
    obtain ⟨ps, x, h⟩ := cut_last c b hb l
    rw [List.cons_append, cut, h]
    split
    · exact ⟨[] :: ps, x, rfl⟩
    · cases ps with
      | nil => exact ⟨[], a :: x, by simp [pre]⟩
      | cons p ps => exact ⟨([a] ++ p) :: ps, x, by simp [pre]⟩

/-! ### the library's cut -/
theorem index_cons (b c : UInt8) (l : List UInt8) : Lib.index (b :: l) [c] = if b = c then 0 else if Lib.index l [c] = -1 then -1 else Lib.index l [c] + 1 := by
  rw [Lib.index]
  by_cases h : b = c
  · subst h; simp
  · have : ([c] : List UInt8).isPrefixOf (b :: l) = false := by simp [List.isPrefixOf]; exact fun e => h e.symm
    rw [this, if_neg (by simp), if_neg h]
    simp only [beq_iff_eq]
theorem split_cut (c : UInt8) : ∀ l : List UInt8, Lib.splitK [c] 0 (Lib.count l [c]) l = cut c l
  | [] => by
    have h : Lib.index [] [c] = -1 := rfl
    rw [Lib.count_miss h]; rfl
  | b :: l => by
    have ih := split_cut c l
    by_cases hb : b = c
    · subst hb
      have h : Lib.index (b :: l) [b] = ((0 : Nat) : Int) := by rw [index_cons, if_pos rfl]; rfl
      rw [Lib.count_hit (by simp) h, Nat.add_comm 1, Lib.splitK, if_neg (by rw [h]; simp), h, cut, if_pos rfl]
      simpa using ih
    · rcases Lib.index_spec l [c] with ⟨h, _⟩ | ⟨i, h, _⟩
      · have h2 : Lib.index (b :: l) [c] = -1 := by rw [index_cons, if_neg hb, if_pos h]
        rw [Lib.count_miss h] at ih
        rw [Lib.count_miss h2, cut, if_neg hb, ← ih]; rfl
      · have h2 : Lib.index (b :: l) [c] = ((i + 1 : Nat) : Int) := by rw [index_cons, if_neg hb, if_neg (by omega), h]; rfl
        rw [Lib.count_hit (by simp) h, Nat.add_comm 1, Lib.splitK, if_neg (by rw [h]; simp), h] at ih
        rw [Lib.count_hit (by simp) h2, Nat.add_comm 1, Lib.splitK, if_neg (by rw [h2]; simp; omega), h2, cut, if_neg hb, ← ih]
        have e : i + 1 + 1 = (i + 1) + 1 := rfl
        simp [pre, Int.toNat_natCast]

def ofL (l : List UInt8) : ByteArray := ⟨l.toArray⟩
theorem ofL_data (s : ByteArray) : ofL s.data.toList = s := by cases s; simp [ofL]
theorem data_ofL (l : List UInt8) : (ofL l).data.toList = l := by simp [ofL]
theorem size_ofL (l : List UInt8) : (ofL l).size = l.length := by simp [ofL, ByteArray.size]
/-- A text's pieces. -/
def pieces (c : UInt8) (s : ByteArray) : List ByteArray := (cut c s.data.toList).map ofL
theorem Split_eq (s : ByteArray) (c : UInt8) (hs : s.size < 4294967281) : M.strings_Split.f s (⟨#[c]⟩ : ByteArray) = some (pieces c s) := by
  unfold M.strings_Split.f
  rw [if_pos hs, if_pos (by simp [ByteArray.size])]
  have h := Lib.splitB_data (⟨#[c]⟩ : ByteArray) 0 (Lib.countB s ⟨#[c]⟩) s
  rw [show (⟨#[c]⟩ : ByteArray).data.toList = [c] from rfl] at h
  have h2 : Lib.countB s ⟨#[c]⟩ = Lib.count s.data.toList [c] := rfl
  rw [h2] at h ⊢
  rw [split_cut] at h
  unfold pieces
  rw [← h, List.map_map]
  congr 1
  have : (ofL ∘ fun x : ByteArray => x.data.toList) = id := by funext x; exact ofL_data x
  rw [this, List.map_id]
end Go.Proofs.YtgjbdheekjjaeaaDoor.Pb
