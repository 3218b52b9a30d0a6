/- Plain facts of the two manifest texts at this seat: what both functions print of a list of entries is one text; a list equals itself. (The elder seat's facts, over this seat's printed functions.) -/
import Derived.Test.YtgjbdheekjjaeaaDoorX3x
import Derived.Lib.Join
namespace Go.Proofs.YtgjbdheekjjaeaaDoor.Pb
open Go.RowKit Go.Proofs.YtgjbdheekjjaeaaDoor.X3 Go.Proofs.YtgjbdheekjjaeaaDoorW.PrintWords

/-! ### numbers -/
theorem wrap_in {n : Int} (h0 : -9223372036854775808 ≤ n) (h1 : n ≤ 9223372036854775807) : wrap64 n = n := by unfold wrap64; omega

/-! ### one byte -/
def cOk (c : Int) : Bool := decide ((97 ≤ c ∧ c ≤ 122) ∨ (48 ≤ c ∧ c ≤ 57) ∨ c = 46 ∨ c = 95 ∨ c = 45 ∨ c = 47)
def wOk (c : Int) : Bool := decide ((97 ≤ c ∧ c ≤ 122) ∨ (65 ≤ c ∧ c ≤ 90) ∨ c = 95 ∨ (48 ≤ c ∧ c ≤ 57))
def allFrom (p : Int → Bool) (s : ByteArray) (i : Nat) : Bool := (List.range' i (s.size - i)).all fun j => p (bt s j)

theorem allFrom_end (p : Int → Bool) (s : ByteArray) : allFrom p s s.size = true := by simp [allFrom]
theorem allFrom_step (p : Int → Bool) (s : ByteArray) (i : Nat) (h : i < s.size) : allFrom p s i = (p (bt s i) && allFrom p s (i + 1)) := by
  unfold allFrom
  obtain ⟨d, hd⟩ : ∃ d, s.size - i = d + 1 := ⟨s.size - i - 1, by omega⟩
  rw [hd, show s.size - (i + 1) = d by omega, List.range'_succ]
  simp

def pathB (s : ByteArray) : Bool := decide (1 ≤ s.size ∧ s.size ≤ 40) && (bt s 0 == 47) && allFrom cOk s 0
def nameB (s : ByteArray) : Bool := allFrom wOk s 0 && (s.toList != [])

theorem l2Path_loop (s : ByteArray) (hs : s.size ≤ 9223372036854775807) (d : Nat) : ∀ i : Nat, i + d = s.size → Ev (fun k => spec_l2Path.l0 k s i) (allFrom cOk s i) := by
  induction d with
  | zero =>
    intro i hi
    have : i = s.size := by omega
    subst this
    rw [allFrom_end]
    refine Ev.step (f := fun _ => some true) (fun k => ?_) (Ev.now _)
    simp only [spec_l2Path.l0]
    rw [if_neg (by omega)]
  | succ d ih =>
    intro i hi
    have hlt : i < s.size := by omega
    have hw : wrap64 ((i : Int) + 1) = ((i + 1 : Nat) : Int) := by rw [wrap_in (by omega) (by omega)]; omega
    rw [allFrom_step cOk s i hlt]
    cases hc : cOk (bt s i) with
    | true =>
      refine Ev.step (f := fun k => spec_l2Path.l0 k s ((i + 1 : Nat) : Int)) (fun k => ?_) (by simpa using ih (i + 1) (by omega))
      have h := of_decide_eq_true hc
      simp only [spec_l2Path.l0]
      rw [if_pos (by omega), if_pos (by omega), hw]
      repeat' split
      all_goals first | rfl | (exfalso; omega)
    | false =>
      refine Ev.step (f := fun _ => some false) (fun k => ?_) (by simpa using Ev.now false)
      have h := of_decide_eq_false hc
      simp only [spec_l2Path.l0]
      rw [if_pos (by omega), if_pos (by omega), hw]
      repeat' split
      all_goals first | rfl | (exfalso; omega)

theorem l1In_eq (a b c : Int) : spec_l1In.f a b c = some (decide (b ≤ a ∧ a ≤ c)) := by
  unfold spec_l1In.f; split <;> simp <;> omega

theorem impl_in_eq (a b c : Int) : impl_in.f a b c = some (decide (b ≤ a ∧ a ≤ c)) := by
  unfold impl_in.f; split <;> simp <;> omega

theorem l2Path_eq (s : ByteArray) (hs : s.size ≤ 9223372036854775807) : Ev (fun k => spec_l2Path.f k s) (pathB s) := by
  unfold spec_l2Path.f
  simp only [l1In_eq, Option.bind_some]
  by_cases h1 : 1 ≤ s.size ∧ s.size ≤ 40
  · have e1 : decide ((1 : Int) ≤ (s.size : Int) ∧ (s.size : Int) ≤ 40) = true := decide_eq_true (by omega)
    refine Ev.congr (f := fun k => spec_l2Path.j0 k s ((bt s 0) != 47)) (fun k => ?_) ?_
    · rw [if_pos e1, if_pos (by omega)]
    · by_cases hb : bt s 0 = 47
      · have e2 : pathB s = allFrom cOk s 0 := by simp [pathB, hb, h1]
        rw [e2]
        refine Ev.step (f := fun k => spec_l2Path.l0 k s 0) (fun k => ?_) (l2Path_loop s hs s.size 0 (by omega))
        simp [spec_l2Path.j0, hb]
      · have e2 : pathB s = false := by simp [pathB, hb]
        rw [e2]
        refine Ev.step (f := fun _ => some false) (fun k => ?_) (Ev.now _)
        simp [spec_l2Path.j0, hb]
  · have e1 : ¬ decide ((1 : Int) ≤ (s.size : Int) ∧ (s.size : Int) ≤ 40) = true := by simp; omega
    have e2 : pathB s = false := by
      have : decide (1 ≤ s.size ∧ s.size ≤ 40) = false := decide_eq_false h1
      simp only [pathB, this, Bool.false_and]
    rw [e2]
    refine Ev.congr (f := fun k => spec_l2Path.j0 k s true) (fun k => by rw [if_neg e1]) ?_
    refine Ev.step (f := fun _ => some false) (fun k => ?_) (Ev.now _)
    simp [spec_l2Path.j0]

theorem isPath_loop (s : ByteArray) (hs : s.size ≤ 9223372036854775807) (d : Nat) : ∀ i : Nat, i + d = s.size →
    Ev (fun k => impl_isPath.l0 k s s.size i) (allFrom cOk s i && (decide (1 ≤ s.size ∧ s.size ≤ 40) && (bt s 0 == 47))) := by
  induction d with
  | zero =>
    intro i hi
    have : i = s.size := by omega
    subst this
    rw [allFrom_end, Bool.true_and]
    refine Ev.step (f := fun _ => some _) (fun k => ?_) (Ev.now _)
    simp only [impl_isPath.l0, impl_in_eq, Option.bind_some]
    rw [if_neg (by omega)]
    by_cases h1 : 1 ≤ s.size ∧ s.size ≤ 40
    · rw [if_pos (decide_eq_true (by omega)), if_pos (by omega), decide_eq_true h1, Bool.true_and]
    · rw [if_neg (by simp; omega), decide_eq_false h1, Bool.false_and]
  | succ d ih =>
    intro i hi
    have hlt : i < s.size := by omega
    have hw : wrap64 ((i : Int) + 1) = ((i + 1 : Nat) : Int) := by rw [wrap_in (by omega) (by omega)]; omega
    rw [allFrom_step cOk s i hlt]
    cases hc : cOk (bt s i) with
    | true =>
      refine Ev.step (f := fun k => impl_isPath.l0 k s s.size ((i + 1 : Nat) : Int)) (fun k => ?_) (by simpa only [Bool.true_and] using ih (i + 1) (by omega))
      have h := of_decide_eq_true hc
      simp only [impl_isPath.l0]
      rw [if_pos (by omega), if_pos (by omega), if_pos (by omega), hw]
      repeat' split
      all_goals first | rfl | (exfalso; omega)
    | false =>
      refine Ev.step (f := fun _ => some false) (fun k => ?_) (by simpa using Ev.now false)
      have h := of_decide_eq_false hc
      simp only [impl_isPath.l0]
      rw [if_pos (by omega), if_pos (by omega), if_pos (by omega), hw]
      repeat' split
      all_goals first | rfl | (exfalso; omega)

theorem isPath_eq (s : ByteArray) (hs : s.size ≤ 9223372036854775807) : Ev (fun k => impl_isPath.f k s) (pathB s) := by
  have e : pathB s = (allFrom cOk s 0 && (decide (1 ≤ s.size ∧ s.size ≤ 40) && (bt s 0 == 47))) := by unfold pathB; exact Bool.and_comm _ _
  rw [e]
  exact isPath_loop s hs s.size 0 (by omega)

/-! ### names -/
theorem letter_some (c : Int) (b : Bool) : spec_l3Letter.f c b = some (decide ((97 ≤ c ∧ c ≤ 122) ∨ (65 ≤ c ∧ c ≤ 90) ∨ c = 95 ∨ (b = true ∧ c = 36))) := by
  unfold spec_l3Letter.f
  cases b
  all_goals
    repeat' split
    all_goals first | (exfalso; omega) | (exfalso; contradiction) | (refine congrArg some ?_; rw [Bool.eq_iff_iff]; simp; try omega)
theorem digit_some (c : Int) : spec_l3Digit.f c = some (decide (48 ≤ c ∧ c ≤ 57)) := by
  unfold spec_l3Digit.f; split <;> simp <;> omega
theorem iletter_some (c : Int) (b : Bool) : impl_isLetter.f c b = some (decide ((97 ≤ c ∧ c ≤ 122) ∨ (65 ≤ c ∧ c ≤ 90) ∨ c = 95 ∨ (b = true ∧ c = 36))) := letter_some c b
theorem idigit_some (c : Int) : impl_isDigit.f c = some (decide (48 ≤ c ∧ c ≤ 57)) := digit_some c
theorem wOk_eq (c : Int) : wOk c = (decide ((97 ≤ c ∧ c ≤ 122) ∨ (65 ≤ c ∧ c ≤ 90) ∨ c = 95 ∨ (false = true ∧ c = 36)) || decide (48 ≤ c ∧ c ≤ 57)) := by
  unfold wOk; rw [Bool.eq_iff_iff]; simp; omega

theorem l26Name_loop (s : ByteArray) (hs : s.size ≤ 9223372036854775807) (d : Nat) : ∀ i : Nat, i + d = s.size → Ev (fun k => spec_l26Name.l0 k s i) (allFrom wOk s i && (s.toList != [])) := by
  induction d with
  | zero =>
    intro i hi
    have : i = s.size := by omega
    subst this
    rw [allFrom_end, Bool.true_and]
    refine Ev.step (f := fun _ => some _) (fun k => ?_) (Ev.now _)
    simp only [spec_l26Name.l0]
    rw [if_neg (by omega)]
  | succ d ih =>
    intro i hi
    have hlt : i < s.size := by omega
    have hw : wrap64 ((i : Int) + 1) = ((i + 1 : Nat) : Int) := by rw [wrap_in (by omega) (by omega)]; omega
    rw [allFrom_step wOk s i hlt, wOk_eq]
    have hst : ∀ k, spec_l26Name.l0 (k + 1) s i = if (decide ((97 ≤ bt s i ∧ bt s i ≤ 122) ∨ (65 ≤ bt s i ∧ bt s i ≤ 90) ∨ bt s i = 95 ∨ (false = true ∧ bt s i = 36)) || decide (48 ≤ bt s i ∧ bt s i ≤ 57)) = true then spec_l26Name.l0 k s ((i + 1 : Nat) : Int) else some false := by
      intro k
      simp only [spec_l26Name.l0, letter_some, digit_some, Option.bind_some]
      rw [if_pos (by omega), if_pos (by omega), hw]
      cases decide ((97 ≤ bt s i ∧ bt s i ≤ 122) ∨ (65 ≤ bt s i ∧ bt s i ≤ 90) ∨ bt s i = 95 ∨ (false = true ∧ bt s i = 36)) <;> cases decide (48 ≤ bt s i ∧ bt s i ≤ 57) <;> rfl
    cases hc : (decide ((97 ≤ bt s i ∧ bt s i ≤ 122) ∨ (65 ≤ bt s i ∧ bt s i ≤ 90) ∨ bt s i = 95 ∨ (false = true ∧ bt s i = 36)) || decide (48 ≤ bt s i ∧ bt s i ≤ 57)) with
    | true => exact Ev.step (f := fun k => spec_l26Name.l0 k s ((i + 1 : Nat) : Int)) (fun k => by rw [hst, hc, if_pos rfl]) (by simpa only [Bool.true_and] using ih (i + 1) (by omega))
    | false => exact Ev.step (f := fun _ => some false) (fun k => by rw [hst, hc]; rfl) (by simpa using Ev.now false)

theorem l26Name_eq (s : ByteArray) (hs : s.size ≤ 9223372036854775807) : Ev (fun k => spec_l26Name.f k s) (nameB s) := l26Name_loop s hs s.size 0 (by omega)

theorem wordy1_eq (c : Int) : impl_wordy_1.f c = some (wOk c) := by
  unfold impl_wordy_1.f
  rw [wOk_eq]
  simp only [iletter_some, idigit_some, Option.bind_some]
  cases decide ((97 ≤ c ∧ c ≤ 122) ∨ (65 ≤ c ∧ c ≤ 90) ∨ c = 95 ∨ (false = true ∧ c = 36)) <;> cases decide (48 ≤ c ∧ c ≤ 57) <;> rfl

theorem runLen_loop (s : ByteArray) (hs : s.size ≤ 9223372036854775807) (d : Nat) : ∀ i : Nat, i + d = s.size → ∃ r : Int, Ev (fun k => impl_runLen.l0 k s i) r ∧ (r == (s.size : Int)) = allFrom wOk s i := by
  induction d with
  | zero =>
    intro i hi
    have : i = s.size := by omega
    subst this
    refine ⟨(s.size : Int), Ev.step (f := fun _ => some _) (fun k => ?_) (Ev.now _), by rw [allFrom_end]; simp⟩
    simp only [impl_runLen.l0]
    rw [if_neg (by omega)]
  | succ d ih =>
    intro i hi
    have hlt : i < s.size := by omega
    have hw : wrap64 ((i : Int) + 1) = ((i + 1 : Nat) : Int) := by rw [wrap_in (by omega) (by omega)]; omega
    rw [allFrom_step wOk s i hlt]
    cases hc : wOk (bt s i) with
    | true =>
      obtain ⟨r, hr, he⟩ := ih (i + 1) (by omega)
      refine ⟨r, Ev.step (f := fun k => impl_runLen.l0 k s ((i + 1 : Nat) : Int)) (fun k => ?_) hr, by rw [he]; rfl⟩
      simp only [impl_runLen.l0, wordy1_eq, Option.bind_some]
      rw [if_pos (by omega), if_pos (by omega), hc, if_pos rfl, hw]
    | false =>
      refine ⟨(i : Int), Ev.step (f := fun _ => some _) (fun k => ?_) (Ev.now _), by simp; omega⟩
      simp only [impl_runLen.l0, wordy1_eq, Option.bind_some]
      rw [if_pos (by omega), if_pos (by omega), hc]; rfl

theorem wordy_eq (s : ByteArray) (hs : s.size ≤ 9223372036854775807) : Ev (fun k => impl_wordy.f k s) (nameB s) := by
  unfold impl_wordy.f nameB
  by_cases h : s.toList = []
  · refine Ev.congr (f := fun _ => some false) (fun k => by rw [if_pos h]) ?_
    simpa [h] using Ev.now false
  · obtain ⟨r, hr, he⟩ := runLen_loop s hs s.size 0 (by omega)
    refine Ev.congr (f := fun k => (impl_runLen.f k s ()).bind fun t => some (t == (s.size : Int))) (fun k => by rw [if_neg h]) ?_
    refine Ev.bind (a := r) hr ?_
    rw [he]
    have : (s.toList != []) = true := by simpa using h
    rw [this, Bool.and_true]
    exact Ev.now _
theorem rdOf_at {α : Type} (d : α) (xs : List α) (i : Nat) (h : i < xs.length) : rdOf d xs (i : Int) = xs[i] := by
  unfold rdOf; rw [Int.toNat_natCast, List.getD_eq_getElem?_getD, List.getElem?_eq_getElem h]; rfl
theorem rd44_at (xs : List S44) (i : Nat) (h : i < xs.length) : rd_T44 xs (i : Int) = xs[i] := by
  unfold rd_T44; rw [Int.toNat_natCast, List.getD_eq_getElem?_getD, List.getElem?_eq_getElem h]; rfl

def sN (xs : List ByteArray) : Nat := (xs.map ByteArray.size).sum

def blank : ByteArray := ⟨#[32]⟩
def line : ByteArray := ⟨#[10]⟩
def nm (xs : List ByteArray) : ByteArray := xs.foldr (fun s b => blank ++ (s ++ b)) ByteArray.empty
def tx (e : S44) : ByteArray := e.f0 ++ (nm e.f1 ++ line)
def out (l : List S44) : ByteArray := l.foldr (fun e b => tx e ++ b) ByteArray.empty
def okE (e : S44) : Bool := pathB e.f0 && e.f1.all nameB
def SM (l : List S44) (acc : ByteArray) : ByteArray := if l.all okE = true then acc ++ out l else ByteArray.empty

structure Small (e : S44) : Prop where
  path : e.f0.size ≤ 1048576
  len : e.f1.length ≤ 1048576
  names : ∀ s ∈ e.f1, s.size ≤ 1048576

theorem nm_cons (s : ByteArray) (xs : List ByteArray) : nm (s :: xs) = blank ++ (s ++ nm xs) := rfl
theorem out_cons (e : S44) (l : List S44) : out (e :: l) = tx e ++ out l := rfl
theorem nm_size (s : ByteArray) (xs : List ByteArray) : (nm (s :: xs)).size = 1 + (s.size + (nm xs).size) := by
  rw [nm_cons, ByteArray.size_append, ByteArray.size_append]; rfl
theorem tx_size (e : S44) : (tx e).size = e.f0.size + ((nm e.f1).size + 1) := by
  unfold tx; rw [ByteArray.size_append, ByteArray.size_append]; rfl

/-! ### the reference -/
theorem spec_inner (l : List S44) (hl : l.length ≤ 1048576) (hx : ∀ e ∈ l, Small e) (i : Nat) (hi : i < l.length)
    (next : ∀ acc : ByteArray, acc.size + (out (l.drop (i + 1))).size ≤ 1099511627776 → Ev (fun k => spec_ShowManifest.l0 k l acc ((i + 1 : Nat) : Int)) (SM (l.drop (i + 1)) acc)) (d : Nat) :
    ∀ (j : Nat) (acc : ByteArray), j + d = l[i].f1.length → acc.size + ((nm (l[i].f1.drop j)).size + 1 + (out (l.drop (i + 1))).size) ≤ 1099511627776 →
      Ev (fun k => spec_ShowManifest.l1 k l acc i j) (if (l[i].f1.drop j).all nameB = true then SM (l.drop (i + 1)) (acc ++ (nm (l[i].f1.drop j) ++ line)) else ByteArray.empty) := by
  induction d with
  | zero =>
    intro j acc hj hs
    have hje : j = l[i].f1.length := by omega
    have hw : wrap64 ((i : Int) + 1) = ((i + 1 : Nat) : Int) := by rw [wrap_in (by omega) (by omega)]; omega
    rw [show l[i].f1.drop j = [] from by rw [hje, List.drop_length]] at hs ⊢
    have e0 : nm [] ++ line = line := ByteArray.empty_append
    rw [e0, if_pos (by rfl)]
    have hsz : (acc ++ line).size = acc.size + 1 := by rw [ByteArray.size_append]; rfl
    refine Ev.step (f := fun k => spec_ShowManifest.l0 k l (acc ++ line) ((i + 1 : Nat) : Int)) (fun k => ?_) (next _ (by rw [hsz]; omega))
    simp only [spec_ShowManifest.l1]
    rw [if_pos (by omega), if_pos (by omega), rd44_at _ _ hi, if_neg (by omega), if_pos (by omega), hw]
    rfl
  | succ d ih =>
    intro j acc hj hs
    have hlt : j < l[i].f1.length := by omega
    have hsm := hx _ (List.getElem_mem hi)
    have hln := hsm.len
    have hns := hsm.names _ (List.getElem_mem hlt)
    have hw : wrap64 ((j : Int) + 1) = ((j + 1 : Nat) : Int) := by rw [wrap_in (by omega) (by omega)]; omega
    rw [List.drop_eq_getElem_cons hlt] at hs ⊢
    rw [nm_size] at hs
    have hs1 : (acc ++ blank).size = acc.size + 1 := by rw [ByteArray.size_append]; rfl
    have hs2 : (acc ++ blank ++ l[i].f1[j]).size = acc.size + 1 + l[i].f1[j].size := by rw [ByteArray.size_append, hs1]
    have hst : ∀ k, spec_ShowManifest.l1 (k + 1) l acc i j = (spec_l26Name.f k l[i].f1[j]).bind fun t => if t = true then spec_ShowManifest.l1 k l (acc ++ blank ++ l[i].f1[j]) i ((j + 1 : Nat) : Int) else some ByteArray.empty := by
      intro k
      simp only [spec_ShowManifest.l1]
      rw [if_pos (by omega), if_pos (by omega), rd44_at _ _ hi, if_pos (by omega), if_pos (by omega), rdOf_at _ _ _ hlt, hw]
      congr 1; funext t
      split
      · rw [if_pos (by omega)]
        have : (acc ++ ({ data := #[32] } : ByteArray)).size = acc.size + 1 := hs1
        rw [if_pos (by omega)]; rfl
      · rfl
    refine Ev.step (f := fun k => (spec_l26Name.f k l[i].f1[j]).bind fun t => if t = true then spec_ShowManifest.l1 k l (acc ++ blank ++ l[i].f1[j]) i ((j + 1 : Nat) : Int) else some ByteArray.empty) hst ?_
    refine Ev.bind (l26Name_eq _ (by omega)) ?_
    cases hb : nameB l[i].f1[j] with
    | true =>
      have e1 : (l[i].f1[j] :: l[i].f1.drop (j + 1)).all nameB = (l[i].f1.drop (j + 1)).all nameB := by rw [List.all_cons, hb, Bool.true_and]
      rw [e1, nm_cons, show acc ++ (blank ++ (l[i].f1[j] ++ nm (l[i].f1.drop (j + 1))) ++ line) = acc ++ blank ++ l[i].f1[j] ++ (nm (l[i].f1.drop (j + 1)) ++ line) by simp only [ByteArray.append_assoc]]
      exact ih (j + 1) _ (by omega) (by rw [hs2]; omega)
    | false =>
      have e1 : (l[i].f1[j] :: l[i].f1.drop (j + 1)).all nameB = false := by rw [List.all_cons, hb, Bool.false_and]
      rw [e1]
      exact Ev.now _

theorem spec_outer (l : List S44) (hl : l.length ≤ 1048576) (hx : ∀ e ∈ l, Small e) (d : Nat) : ∀ (i : Nat) (acc : ByteArray), i + d = l.length → acc.size + (out (l.drop i)).size ≤ 1099511627776 →
    Ev (fun k => spec_ShowManifest.l0 k l acc i) (SM (l.drop i) acc) := by
  induction d with
  | zero =>
    intro i acc hi _
    have hie : i = l.length := by omega
    rw [show l.drop i = [] from by rw [hie, List.drop_length]]
    have e0 : SM [] acc = acc := ByteArray.append_empty
    rw [e0]
    refine Ev.step (f := fun _ => some acc) (fun k => ?_) (Ev.now _)
    simp only [spec_ShowManifest.l0]
    rw [if_neg (by omega)]
  | succ d ih =>
    intro i acc hi hs
    have hlt : i < l.length := by omega
    have hsm := hx _ (List.getElem_mem hlt)
    have hp := hsm.path
    rw [List.drop_eq_getElem_cons hlt] at hs ⊢
    rw [out_cons, ByteArray.size_append, tx_size] at hs
    have hs2 : (acc ++ l[i].f0).size = acc.size + l[i].f0.size := ByteArray.size_append
    refine Ev.step (f := fun k => (spec_l2Path.f k l[i].f0).bind fun t => if t = true then spec_ShowManifest.l1 k l (acc ++ l[i].f0) i ((0 : Nat) : Int) else some ByteArray.empty) (fun k => ?_) ?_
    · simp only [spec_ShowManifest.l0]
      rw [if_pos (by omega), if_pos (by omega), rd44_at _ _ hlt]
      congr 1; funext t
      split
      · rw [if_pos (by omega)]; rfl
      · rfl
    refine Ev.bind (l2Path_eq _ (by omega)) ?_
    cases hb : pathB l[i].f0 with
    | true =>
      have key := spec_inner l hl hx i hlt (fun acc h => ih (i + 1) acc (by omega) h) l[i].f1.length 0 (acc ++ l[i].f0) (by omega) (by rw [hs2, List.drop_zero]; omega)
      rw [List.drop_zero] at key
      have e1 : SM (l[i] :: l.drop (i + 1)) acc = if l[i].f1.all nameB = true then SM (l.drop (i + 1)) (acc ++ l[i].f0 ++ (nm l[i].f1 ++ line)) else ByteArray.empty := by
        unfold SM
        cases hn : l[i].f1.all nameB with
        | true =>
          have : (l[i] :: l.drop (i + 1)).all okE = (l.drop (i + 1)).all okE := by
            rw [List.all_cons, show okE l[i] = true by unfold okE; rw [hb, hn]; rfl, Bool.true_and]
          rw [this, if_pos rfl, out_cons]
          unfold tx
          simp only [ByteArray.append_assoc]
        | false =>
          have : (l[i] :: l.drop (i + 1)).all okE = false := by
            rw [List.all_cons, show okE l[i] = false by unfold okE; rw [hb, hn]; rfl, Bool.false_and]
          rw [this]; rfl
      rw [e1]
      exact key
    | false =>
      have e1 : SM (l[i] :: l.drop (i + 1)) acc = ByteArray.empty := by
        unfold SM
        rw [List.all_cons, show okE l[i] = false by unfold okE; rw [hb]; rfl, Bool.false_and]; rfl
      rw [e1]
      exact Ev.now _

/-! ### the program -/
theorem index_loop (xs : List ByteArray) (hl : xs.length ≤ 1048576) (hx : ∀ s ∈ xs, s.size ≤ 1048576) (d : Nat) : ∀ i : Nat, i + d = xs.length →
    ∃ r : Int, Ev (fun k => slices_IndexFunc_string_string.l0 k xs xs.length i) r ∧ decide (r ≥ 0) = !((xs.drop i).all nameB) := by
  induction d with
  | zero =>
    intro i hi
    have hie : i = xs.length := by omega
    refine ⟨-1, Ev.step (f := fun _ => some (-1)) (fun k => ?_) (Ev.now _), by rw [hie, List.drop_length]; rfl⟩
    simp only [slices_IndexFunc_string_string.l0]
    rw [if_neg (by omega)]
  | succ d ih =>
    intro i hi
    have hlt : i < xs.length := by omega
    have hs := hx _ (List.getElem_mem hlt)
    have hw : wrap64 ((i : Int) + 1) = ((i + 1 : Nat) : Int) := by rw [wrap_in (by omega) (by omega)]; omega
    rw [List.drop_eq_getElem_cons hlt]
    have hst : ∀ k, slices_IndexFunc_string_string.l0 (k + 1) xs xs.length i = (impl_ShowManifest_1.f k xs[i]).bind fun t => if t = true then some (i : Int) else slices_IndexFunc_string_string.l0 k xs xs.length ((i + 1 : Nat) : Int) := by
      intro k
      simp only [slices_IndexFunc_string_string.l0]
      rw [if_pos (by omega), if_pos (by omega), if_pos (by omega), rdOf_at _ _ _ hlt, hw]
    have hp : Ev (fun k => impl_ShowManifest_1.f k xs[i]) (!nameB xs[i]) := by
      unfold impl_ShowManifest_1.f; exact Ev.bind (wordy_eq _ (by omega)) (Ev.now _)
    cases hb : nameB xs[i] with
    | true =>
      obtain ⟨r, hr, he⟩ := ih (i + 1) (by omega)
      rw [hb] at hp
      refine ⟨r, Ev.step hst (Ev.bind hp hr), by rw [he, List.all_cons, hb, Bool.true_and]⟩
    | false =>
      rw [hb] at hp
      refine ⟨(i : Int), Ev.step hst (Ev.bind hp (Ev.now _)), by rw [List.all_cons, hb]; simp⟩

theorem contains_eq (xs : List ByteArray) (hl : xs.length ≤ 1048576) (hx : ∀ s ∈ xs, s.size ≤ 1048576) : Ev (fun k => slices_ContainsFunc_string_string.f k xs ()) (!(xs.all nameB)) := by
  obtain ⟨r, hr, he⟩ := index_loop xs hl hx xs.length 0 (by omega)
  rw [List.drop_zero] at he
  unfold slices_ContainsFunc_string_string.f
  rw [← he]
  exact Ev.bind (a := r) hr (Ev.now _)

theorem toList_data (s : ByteArray) : (⟨s.data.toList.toArray⟩ : ByteArray) = s := by cases s; simp
theorem joinTail_nm (xs : List ByteArray) : (⟨(Lib.joinTail [32] (xs.map (·.data.toList))).toArray⟩ : ByteArray) = nm xs := by
  induction xs with
  | nil => rfl
  | cons s xs ih =>
    rw [nm_cons, ← ih]
    apply ByteArray.ext
    simp [Lib.joinTail, blank, ByteArray.data_append]
theorem join_nm (p : ByteArray) (xs : List ByteArray) : (⟨(Lib.join ((p :: xs).map (·.data.toList)) (⟨#[32]⟩ : ByteArray).data.toList).toArray⟩ : ByteArray) = p ++ nm xs := by
  rw [List.map_cons, Lib.join_cons, ← joinTail_nm]
  apply ByteArray.ext
  simp [ByteArray.data_append]
theorem join_len (p : ByteArray) (xs : List ByteArray) : (Lib.join ((p :: xs).map (·.data.toList)) (⟨#[32]⟩ : ByteArray).data.toList).length = p.size + (nm xs).size := by
  have := congrArg ByteArray.size (join_nm p xs)
  rw [ByteArray.size_append] at this
  rw [← this]; simp [ByteArray.size]

theorem impl_loop (l : List S44) (hl : l.length ≤ 1048576) (hx : ∀ e ∈ l, Small e) (d : Nat) : ∀ (i : Nat) (acc : ByteArray), i + d = l.length → acc.size + (out (l.drop i)).size ≤ 1099511627776 →
    Ev (fun k => impl_ShowManifest.l0 k acc l l.length i) (SM (l.drop i) acc) := by
  induction d with
  | zero =>
    intro i acc hi _
    have hie : i = l.length := by omega
    rw [show l.drop i = [] from by rw [hie, List.drop_length]]
    have e0 : SM [] acc = acc := ByteArray.append_empty
    rw [e0]
    refine Ev.step (f := fun _ => some acc) (fun k => ?_) (Ev.now _)
    simp only [impl_ShowManifest.l0]
    rw [if_neg (by omega)]
  | succ d ih =>
    intro i acc hi hs
    have hlt : i < l.length := by omega
    have hsm := hx _ (List.getElem_mem hlt)
    have hp := hsm.path
    have hn := hsm.len
    have hw : wrap64 ((i : Int) + 1) = ((i + 1 : Nat) : Int) := by rw [wrap_in (by omega) (by omega)]; omega
    rw [List.drop_eq_getElem_cons hlt] at hs ⊢
    rw [out_cons, ByteArray.size_append, tx_size] at hs
    have hj : M.strings_Join.f ([l[i].f0] ++ l[i].f1) (⟨#[32]⟩ : ByteArray) = some (l[i].f0 ++ nm l[i].f1) := by
      unfold M.strings_Join.f
      rw [List.singleton_append, join_len, if_pos (by omega), if_pos (by rw [List.length_cons]; omega), join_nm]
    have hz : (l[i].f0 ++ nm l[i].f1).size = l[i].f0.size + (nm l[i].f1).size := ByteArray.size_append
    have hz1 : (l[i].f0 ++ nm l[i].f1 ++ line).size = l[i].f0.size + (nm l[i].f1).size + 1 := by rw [ByteArray.size_append, hz]; rfl
    have ht : l[i].f0 ++ nm l[i].f1 ++ line = tx l[i] := by unfold tx; rw [ByteArray.append_assoc]
    refine Ev.step (f := fun k => (impl_isPath.f k l[i].f0).bind fun t => if t = true then (slices_ContainsFunc_string_string.f k l[i].f1 ()).bind (fun u => if u = true then some ByteArray.empty else impl_ShowManifest.l0 k (acc ++ tx l[i]) l l.length ((i + 1 : Nat) : Int)) else some ByteArray.empty) (fun k => ?_) ?_
    · simp only [impl_ShowManifest.l0]
      rw [if_pos (by omega), if_pos (by omega), if_pos (by omega), rd44_at _ _ hlt, hw]
      congr 1; funext t
      split
      · congr 1; funext u
        split
        · rfl
        · simp only [Option.bind_some]
          rw [if_pos (by simp; omega), hj]
          simp only [Option.bind_some]
          rw [if_pos (by omega)]
          have hz2 : (l[i].f0 ++ nm l[i].f1 ++ ({ data := #[10] } : ByteArray)).size = l[i].f0.size + (nm l[i].f1).size + 1 := hz1
          rw [if_pos (by omega), ← ht]; rfl
      · rfl
    refine Ev.bind (isPath_eq _ (by omega)) ?_
    cases hb : pathB l[i].f0 with
    | true =>
      refine Ev.bind (contains_eq _ hn hsm.names) ?_
      cases hc : l[i].f1.all nameB with
      | true =>
        have e1 : SM (l[i] :: l.drop (i + 1)) acc = SM (l.drop (i + 1)) (acc ++ tx l[i]) := by
          unfold SM
          rw [List.all_cons, show okE l[i] = true by unfold okE; rw [hb, hc]; rfl, Bool.true_and, out_cons]
          simp only [ByteArray.append_assoc]
        rw [e1]
        exact ih (i + 1) _ (by omega) (by rw [ByteArray.size_append, tx_size]; omega)
      | false =>
        have e1 : SM (l[i] :: l.drop (i + 1)) acc = ByteArray.empty := by
          unfold SM
          rw [List.all_cons, show okE l[i] = false by unfold okE; rw [hb, hc]; rfl, Bool.false_and]; rfl
        rw [e1]
        exact Ev.now _
    | false =>
      have e1 : SM (l[i] :: l.drop (i + 1)) acc = ByteArray.empty := by
        unfold SM
        rw [List.all_cons, show okE l[i] = false by unfold okE; rw [hb]; rfl, Bool.false_and]; rfl
      rw [e1]
      exact Ev.now _

/-! ### the copy is as it was -/
theorem eqStringS_loop (xs : List ByteArray) (hl : xs.length ≤ 1048576) (d : Nat) : ∀ i : Nat, i + d = xs.length → Ev (fun k => laws_eqStringS.l0 k xs xs i) true := by
  induction d with
  | zero =>
    intro i hi
    refine Ev.step (f := fun _ => some true) (fun k => ?_) (Ev.now _)
    simp only [laws_eqStringS.l0]
    rw [if_neg (by omega)]
  | succ d ih =>
    intro i hi
    have hlt : i < xs.length := by omega
    have hw : wrap64 ((i : Int) + 1) = ((i + 1 : Nat) : Int) := by rw [wrap_in (by omega) (by omega)]; omega
    refine Ev.step (f := fun k => laws_eqStringS.l0 k xs xs ((i + 1 : Nat) : Int)) (fun k => ?_) (ih (i + 1) (by omega))
    simp only [laws_eqStringS.l0]
    rw [if_pos (by omega), if_pos (by omega), if_pos (by omega), if_pos trivial, hw]
theorem eqStringS_eq (xs : List ByteArray) (hl : xs.length ≤ 1048576) : Ev (fun k => laws_eqStringS.f k xs xs) true := by
  unfold laws_eqStringS.f
  exact Ev.congr (f := fun k => laws_eqStringS.l0 k xs xs 0) (fun k => by rw [if_pos rfl]) (eqStringS_loop xs hl xs.length 0 (by omega))
theorem eqEntry_eq (e : S44) (he : e.f1.length ≤ 1048576) : Ev (fun k => laws_eqEntry.f k e.f0 e.f1 e.f0 e.f1) true := by
  unfold laws_eqEntry.f
  refine Ev.congr (f := fun k => (laws_eqStringS.f k e.f1 e.f1).bind fun t => if t = true then some true else some false) (fun k => by rw [if_pos rfl]) ?_
  exact Ev.bind (eqStringS_eq _ he) (Ev.now _)
theorem eqEntryS_loop (l : List S44) (hl : l.length ≤ 1048576) (hx : ∀ e ∈ l, Small e) (d : Nat) : ∀ i : Nat, i + d = l.length → Ev (fun k => laws_eqEntryS.l0 k l l i) true := by
  induction d with
  | zero =>
    intro i hi
    refine Ev.step (f := fun _ => some true) (fun k => ?_) (Ev.now _)
    simp only [laws_eqEntryS.l0]
    rw [if_neg (by omega)]
  | succ d ih =>
    intro i hi
    have hlt : i < l.length := by omega
    have hw : wrap64 ((i : Int) + 1) = ((i + 1 : Nat) : Int) := by rw [wrap_in (by omega) (by omega)]; omega
    refine Ev.step (f := fun k => (laws_eqEntry.f k l[i].f0 l[i].f1 l[i].f0 l[i].f1).bind fun t => if t = true then laws_eqEntryS.l0 k l l ((i + 1 : Nat) : Int) else some false) (fun k => ?_) (Ev.bind (eqEntry_eq _ (hx _ (List.getElem_mem hlt)).len) (ih (i + 1) (by omega)))
    simp only [laws_eqEntryS.l0]
    rw [if_pos (by omega), if_pos (by omega), if_pos (by omega), rd44_at _ _ hlt, hw]
theorem eqEntryS_eq (l : List S44) (hl : l.length ≤ 1048576) (hx : ∀ e ∈ l, Small e) : Ev (fun k => laws_eqEntryS.f k l l) true := by
  unfold laws_eqEntryS.f
  exact Ev.congr (f := fun k => laws_eqEntryS.l0 k l l 0) (fun k => by rw [if_pos rfl]) (eqEntryS_loop l hl hx l.length 0 (by omega))

/-! ### how long it all is -/
theorem mem_sum {α : Type} (f : α → Nat) (l : List α) (x : α) (h : x ∈ l) : f x ≤ (l.map f).sum := by
  induction l with
  | nil => simp at h
  | cons y l ih =>
    rw [List.map_cons, List.sum_cons]
    rcases List.mem_cons.1 h with rfl | h
    · omega
    · have := ih h; omega
theorem nm_len (xs : List ByteArray) : (nm xs).size = xs.length + sN xs := by
  induction xs with
  | nil => rfl
  | cons s xs ih => rw [nm_size, ih]; simp only [sN, List.map_cons, List.sum_cons, List.length_cons]; omega
end Go.Proofs.YtgjbdheekjjaeaaDoor.Pb
