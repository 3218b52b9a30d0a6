/- The plain law of FnExactShowManifest: for every list of entries whose texts and lists have at most 2^63-1 bytes and items, the printed law answers true with enough rounds. -/
import Derived.Test.YtgjbdheekjjaeaaX1x
namespace Go.Proofs.Ytgjbdheekjjaeaa.Pu
open Go.RowKit Go.Proofs.Ytgjbdheekjjaeaa.X1 Go.Proofs.YtgjbdheekjjaeaaW.PrintWords

/-! ### numbers -/
theorem wrap_in {n : Int} (h0 : -9223372036854775808 ≤ n) (h1 : n ≤ 9223372036854775807) : wrap64 n = n := by unfold wrap64; omega

/-! ### one byte -/
def cOk (c : Int) : Bool := decide ((97 ≤ c ∧ c ≤ 122) ∨ (48 ≤ c ∧ c ≤ 57) ∨ c = 46 ∨ c = 95 ∨ c = 45 ∨ c = 47)
def wOk (c : Int) : Bool := decide ((97 ≤ c ∧ c ≤ 122) ∨ (65 ≤ c ∧ c ≤ 90) ∨ c = 95 ∨ (48 ≤ c ∧ c ≤ 57))
def allFrom (p : Int → Bool) (s : ByteArray) (i : Nat) : Bool := (List.range' i (s.size - i)).all fun j => p (bt s j)

theorem allFrom_end (p : Int → Bool) (s : ByteArray) : allFrom p s s.size = true := by simp [allFrom]
theorem allFrom_step (p : Int → Bool) (s : ByteArray) (i : Nat) (h : i < s.size) : allFrom p s i = (p (bt s i) && allFrom p s (i + 1)) := by
  unfold allFrom
  obtain ⟨d, hd⟩ : ∃ d, s.size - i = d + 1 := ⟨s.size - i - 1, by omega⟩
  rw [hd, show s.size - (i + 1) = d by omega, List.range'_succ]
  simp

def pathB (s : ByteArray) : Bool := decide (1 ≤ s.size ∧ s.size ≤ 40) && (bt s 0 == 47) && allFrom cOk s 0
def nameB (s : ByteArray) : Bool := allFrom wOk s 0 && (s.toList != [])

theorem l2Path_loop (s : ByteArray) (hs : s.size ≤ 9223372036854775807) (d : Nat) : ∀ i : Nat, i + d = s.size → Ev (fun k => spec_l2Path.l0 k s i) (allFrom cOk s i) := by
  induction d with
  | zero =>
    intro i hi
    have : i = s.size := by omega
    subst this
    rw [allFrom_end]
    refine Ev.step (f := fun _ => some true) (fun k => ?_) (Ev.now _)
    simp only [spec_l2Path.l0]
    rw [if_neg (by omega)]
  | succ d ih =>
    intro i hi
    have hlt : i < s.size := by omega
    have hw : wrap64 ((i : Int) + 1) = ((i + 1 : Nat) : Int) := by rw [wrap_in (by omega) (by omega)]; omega
    rw [allFrom_step cOk s i hlt]
    cases hc : cOk (bt s i) with
    | true =>
      refine Ev.step (f := fun k => spec_l2Path.l0 k s ((i + 1 : Nat) : Int)) (fun k => ?_) (by simpa using ih (i + 1) (by omega))
      have h := of_decide_eq_true hc
      simp only [spec_l2Path.l0]
      rw [if_pos (by omega), if_pos (by omega), hw]
      repeat' split
      all_goals first | rfl | (exfalso; omega)
    | false =>
      refine Ev.step (f := fun _ => some false) (fun k => ?_) (by simpa using Ev.now false)
      have h := of_decide_eq_false hc
      simp only [spec_l2Path.l0]
      rw [if_pos (by omega), if_pos (by omega), hw]
      repeat' split
      all_goals first | rfl | (exfalso; omega)

theorem l1In_eq (a b c : Int) : spec_l1In.f a b c = some (decide (b ≤ a ∧ a ≤ c)) := by
  unfold spec_l1In.f; split <;> simp <;> omega

theorem impl_in_eq (a b c : Int) : impl_in.f a b c = some (decide (b ≤ a ∧ a ≤ c)) := by
  unfold impl_in.f; split <;> simp <;> omega

theorem l2Path_eq (s : ByteArray) (hs : s.size ≤ 9223372036854775807) : Ev (fun k => spec_l2Path.f k s) (pathB s) := by
  unfold spec_l2Path.f
  simp only [l1In_eq, Option.bind_some]
  by_cases h1 : 1 ≤ s.size ∧ s.size ≤ 40
  · have e1 : decide ((1 : Int) ≤ (s.size : Int) ∧ (s.size : Int) ≤ 40) = true := decide_eq_true (by omega)
    refine Ev.congr (f := fun k => spec_l2Path.j0 k s ((bt s 0) != 47)) (fun k => ?_) ?_
    · rw [if_pos e1, if_pos (by omega)]
    · by_cases hb : bt s 0 = 47
      · have e2 : pathB s = allFrom cOk s 0 := by simp [pathB, hb, h1]
        rw [e2]
        refine Ev.step (f := fun k => spec_l2Path.l0 k s 0) (fun k => ?_) (l2Path_loop s hs s.size 0 (by omega))
        simp [spec_l2Path.j0, hb]
      · have e2 : pathB s = false := by simp [pathB, hb]
        rw [e2]
        refine Ev.step (f := fun _ => some false) (fun k => ?_) (Ev.now _)
        simp [spec_l2Path.j0, hb]
  · have e1 : ¬ decide ((1 : Int) ≤ (s.size : Int) ∧ (s.size : Int) ≤ 40) = true := by simp; omega
    have e2 : pathB s = false := by
      have : decide (1 ≤ s.size ∧ s.size ≤ 40) = false := decide_eq_false h1
      simp only [pathB, this, Bool.false_and]
    rw [e2]
    refine Ev.congr (f := fun k => spec_l2Path.j0 k s true) (fun k => by rw [if_neg e1]) ?_
    refine Ev.step (f := fun _ => some false) (fun k => ?_) (Ev.now _)
    simp [spec_l2Path.j0]

theorem isPath_loop (s : ByteArray) (hs : s.size ≤ 9223372036854775807) (d : Nat) : ∀ i : Nat, i + d = s.size →
    Ev (fun k => impl_isPath.l0 k s s.size i) (allFrom cOk s i && (decide (1 ≤ s.size ∧ s.size ≤ 40) && (bt s 0 == 47))) := by
  induction d with
  | zero =>
    intro i hi
    have : i = s.size := by omega
    subst this
    rw [allFrom_end, Bool.true_and]
    refine Ev.step (f := fun _ => some _) (fun k => ?_) (Ev.now _)
    simp only [impl_isPath.l0, impl_in_eq, Option.bind_some]
    rw [if_neg (by omega)]
    by_cases h1 : 1 ≤ s.size ∧ s.size ≤ 40
    · rw [if_pos (decide_eq_true (by omega)), if_pos (by omega), decide_eq_true h1, Bool.true_and]
    · rw [if_neg (by simp; omega), decide_eq_false h1, Bool.false_and]
  | succ d ih =>
    intro i hi
    have hlt : i < s.size := by omega
    have hw : wrap64 ((i : Int) + 1) = ((i + 1 : Nat) : Int) := by rw [wrap_in (by omega) (by omega)]; omega
    rw [allFrom_step cOk s i hlt]
    cases hc : cOk (bt s i) with
    | true =>
      refine Ev.step (f := fun k => impl_isPath.l0 k s s.size ((i + 1 : Nat) : Int)) (fun k => ?_) (by simpa only [Bool.true_and] using ih (i + 1) (by omega))
      have h := of_decide_eq_true hc
      simp only [impl_isPath.l0]
      rw [if_pos (by omega), if_pos (by omega), if_pos (by omega), hw]
      repeat' split
      all_goals first | rfl | (exfalso; omega)
    | false =>
      refine Ev.step (f := fun _ => some false) (fun k => ?_) (by simpa using Ev.now false)
      have h := of_decide_eq_false hc
      simp only [impl_isPath.l0]
      rw [if_pos (by omega), if_pos (by omega), if_pos (by omega), hw]
      repeat' split
      all_goals first | rfl | (exfalso; omega)

theorem isPath_eq (s : ByteArray) (hs : s.size ≤ 9223372036854775807) : Ev (fun k => impl_isPath.f k s) (pathB s) := by
  have e : pathB s = (allFrom cOk s 0 && (decide (1 ≤ s.size ∧ s.size ≤ 40) && (bt s 0 == 47))) := by unfold pathB; exact Bool.and_comm _ _
  rw [e]
  exact isPath_loop s hs s.size 0 (by omega)

/-! ### names -/
theorem letter_some (c : Int) (b : Bool) : spec_l3Letter.f c b = some (decide ((97 ≤ c ∧ c ≤ 122) ∨ (65 ≤ c ∧ c ≤ 90) ∨ c = 95 ∨ (b = true ∧ c = 36))) := by
  unfold spec_l3Letter.f
  cases b
  all_goals
    repeat' split
    all_goals first | (exfalso; omega) | (exfalso; contradiction) | (refine congrArg some ?_; rw [Bool.eq_iff_iff]; simp; try omega)
theorem digit_some (c : Int) : spec_l3Digit.f c = some (decide (48 ≤ c ∧ c ≤ 57)) := by
  unfold spec_l3Digit.f; split <;> simp <;> omega
theorem iletter_some (c : Int) (b : Bool) : impl_isLetter.f c b = some (decide ((97 ≤ c ∧ c ≤ 122) ∨ (65 ≤ c ∧ c ≤ 90) ∨ c = 95 ∨ (b = true ∧ c = 36))) := letter_some c b
theorem idigit_some (c : Int) : impl_isDigit.f c = some (decide (48 ≤ c ∧ c ≤ 57)) := digit_some c
theorem wOk_eq (c : Int) : wOk c = (decide ((97 ≤ c ∧ c ≤ 122) ∨ (65 ≤ c ∧ c ≤ 90) ∨ c = 95 ∨ (false = true ∧ c = 36)) || decide (48 ≤ c ∧ c ≤ 57)) := by
  unfold wOk; rw [Bool.eq_iff_iff]; simp; omega

theorem l26Name_loop (s : ByteArray) (hs : s.size ≤ 9223372036854775807) (d : Nat) : ∀ i : Nat, i + d = s.size → Ev (fun k => spec_l26Name.l0 k s i) (allFrom wOk s i && (s.toList != [])) := by
  induction d with
  | zero =>
    intro i hi
    have : i = s.size := by omega
    subst this
    rw [allFrom_end, Bool.true_and]
    refine Ev.step (f := fun _ => some _) (fun k => ?_) (Ev.now _)
    simp only [spec_l26Name.l0]
    rw [if_neg (by omega)]
  | succ d ih =>
    intro i hi
    have hlt : i < s.size := by omega
    have hw : wrap64 ((i : Int) + 1) = ((i + 1 : Nat) : Int) := by rw [wrap_in (by omega) (by omega)]; omega
    rw [allFrom_step wOk s i hlt, wOk_eq]
    have hst : ∀ k, spec_l26Name.l0 (k + 1) s i = if (decide ((97 ≤ bt s i ∧ bt s i ≤ 122) ∨ (65 ≤ bt s i ∧ bt s i ≤ 90) ∨ bt s i = 95 ∨ (false = true ∧ bt s i = 36)) || decide (48 ≤ bt s i ∧ bt s i ≤ 57)) = true then spec_l26Name.l0 k s ((i + 1 : Nat) : Int) else some false := by
      intro k
      simp only [spec_l26Name.l0, letter_some, digit_some, Option.bind_some]
      rw [if_pos (by omega), if_pos (by omega), hw]
      cases decide ((97 ≤ bt s i ∧ bt s i ≤ 122) ∨ (65 ≤ bt s i ∧ bt s i ≤ 90) ∨ bt s i = 95 ∨ (false = true ∧ bt s i = 36)) <;> cases decide (48 ≤ bt s i ∧ bt s i ≤ 57) <;> rfl
    cases hc : (decide ((97 ≤ bt s i ∧ bt s i ≤ 122) ∨ (65 ≤ bt s i ∧ bt s i ≤ 90) ∨ bt s i = 95 ∨ (false = true ∧ bt s i = 36)) || decide (48 ≤ bt s i ∧ bt s i ≤ 57)) with
    | true => exact Ev.step (f := fun k => spec_l26Name.l0 k s ((i + 1 : Nat) : Int)) (fun k => by rw [hst, hc, if_pos rfl]) (by simpa only [Bool.true_and] using ih (i + 1) (by omega))
    | false => exact Ev.step (f := fun _ => some false) (fun k => by rw [hst, hc]; rfl) (by simpa using Ev.now false)

theorem l26Name_eq (s : ByteArray) (hs : s.size ≤ 9223372036854775807) : Ev (fun k => spec_l26Name.f k s) (nameB s) := l26Name_loop s hs s.size 0 (by omega)

theorem wordy1_eq (c : Int) : impl_wordy_1.f c = some (wOk c) := by
  unfold impl_wordy_1.f
  rw [wOk_eq]
  simp only [iletter_some, idigit_some, Option.bind_some]
  cases decide ((97 ≤ c ∧ c ≤ 122) ∨ (65 ≤ c ∧ c ≤ 90) ∨ c = 95 ∨ (false = true ∧ c = 36)) <;> cases decide (48 ≤ c ∧ c ≤ 57) <;> rfl

theorem runLen_loop (s : ByteArray) (hs : s.size ≤ 9223372036854775807) (d : Nat) : ∀ i : Nat, i + d = s.size → ∃ r : Int, Ev (fun k => impl_runLen.l0 k s i) r ∧ (r == (s.size : Int)) = allFrom wOk s i := by
  induction d with
  | zero =>
    intro i hi
    have : i = s.size := by omega
    subst this
    refine ⟨(s.size : Int), Ev.step (f := fun _ => some _) (fun k => ?_) (Ev.now _), by rw [allFrom_end]; simp⟩
    simp only [impl_runLen.l0]
    rw [if_neg (by omega)]
  | succ d ih =>
    intro i hi
    have hlt : i < s.size := by omega
    have hw : wrap64 ((i : Int) + 1) = ((i + 1 : Nat) : Int) := by rw [wrap_in (by omega) (by omega)]; omega
    rw [allFrom_step wOk s i hlt]
    cases hc : wOk (bt s i) with
    | true =>
      obtain ⟨r, hr, he⟩ := ih (i + 1) (by omega)
      refine ⟨r, Ev.step (f := fun k => impl_runLen.l0 k s ((i + 1 : Nat) : Int)) (fun k => ?_) hr, by rw [he]; rfl⟩
      simp only [impl_runLen.l0, wordy1_eq, Option.bind_some]
      rw [if_pos (by omega), if_pos (by omega), hc, if_pos rfl, hw]
    | false =>
      refine ⟨(i : Int), Ev.step (f := fun _ => some _) (fun k => ?_) (Ev.now _), by simp; omega⟩
      simp only [impl_runLen.l0, wordy1_eq, Option.bind_some]
      rw [if_pos (by omega), if_pos (by omega), hc]; rfl

theorem wordy_eq (s : ByteArray) (hs : s.size ≤ 9223372036854775807) : Ev (fun k => impl_wordy.f k s) (nameB s) := by
  unfold impl_wordy.f nameB
  by_cases h : s.toList = []
  · refine Ev.congr (f := fun _ => some false) (fun k => by rw [if_pos h]) ?_
    simpa [h] using Ev.now false
  · obtain ⟨r, hr, he⟩ := runLen_loop s hs s.size 0 (by omega)
    refine Ev.congr (f := fun k => (impl_runLen.f k s ()).bind fun t => some (t == (s.size : Int))) (fun k => by rw [if_neg h]) ?_
    refine Ev.bind (a := r) hr ?_
    rw [he]
    have : (s.toList != []) = true := by simpa using h
    rw [this, Bool.and_true]
    exact Ev.now _
end Go.Proofs.Ytgjbdheekjjaeaa.Pu
