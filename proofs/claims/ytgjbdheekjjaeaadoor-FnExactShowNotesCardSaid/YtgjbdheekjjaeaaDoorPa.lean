/- The plain law of FnExactShowNotes: for every list of notes whose kinds are whole numbers of 64 bits and whose names and length are at most 2^63-1, the printed law answers true with enough rounds. -/
import Derived.Test.YtgjbdheekjjaeaaDoorX2x
import Derived.Lib.ItoaNum
namespace Go.Proofs.YtgjbdheekjjaeaaDoor.Pa
open Go.RowKit Go.Proofs.YtgjbdheekjjaeaaDoor.X2 Go.Proofs.YtgjbdheekjjaeaaDoorW.PrintWords

theorem wrap_in {n : Int} (h0 : -9223372036854775808 ≤ n) (h1 : n ≤ 9223372036854775807) : wrap64 n = n := by unfold wrap64; omega

/-! ### decimal digits -/
def digs (u : Nat) : List UInt8 := if u = 0 then [] else Lib.decDigits u
theorem digs_step (u : Nat) (h : u ≠ 0) : digs u = digs (u / 10) ++ [UInt8.ofNat (48 + u % 10)] := by
  unfold digs
  rw [if_neg h, Lib.decDigits]
  by_cases h1 : u < 10
  · rw [dif_pos h1, if_pos (by omega), Nat.mod_eq_of_lt h1]; rfl
  · rw [dif_neg h1, if_neg (by omega)]
theorem decDigits_len (n : Nat) : ∀ u, u < 10 ^ (n + 1) → (Lib.decDigits u).length ≤ n + 1 := by
  induction n with
  | zero => intro u h; rw [Lib.decDigits, dif_pos (by simpa using h)]; simp
  | succ n ih =>
    intro u h
    rw [Lib.decDigits]
    split
    · simp
    · have := ih (u / 10) (by rw [Nat.pow_succ] at h; omega)
      simp; omega
theorem itoa_len (n : Int) (h0 : -9223372036854775808 ≤ n) (h1 : n ≤ 9223372036854775807) : (Lib.itoa n).length ≤ 21 := by
  unfold Lib.itoa
  split
  · have := decDigits_len 19 n.natAbs (by omega); simp; omega
  · have := decDigits_len 19 n.toNat (by omega); omega

theorem one_byte (c : Int) : strOfNums [c] = ⟨#[UInt8.ofNat c.toNat]⟩ := by
  simp [strOfNums]

theorem dec_loop (neg : Bool) (fuel : Nat) : ∀ (x : Int) (acc : List UInt8), x.natAbs ≤ fuel → -9223372036854775808 ≤ x → x ≤ 9223372036854775807 → acc.length ≤ 20 → (x ≠ 0 → 10 ^ acc.length * x.natAbs ≤ 9223372036854775808) →
    Ev (fun k => spec_Dec.l0 k x ⟨acc.toArray⟩ neg) ⟨((if neg = true then [45] else []) ++ (digs x.natAbs ++ acc)).toArray⟩ := by
  induction fuel with
  | zero =>
    intro x acc hf h0 h1 hl hp
    have hx : x = 0 := by omega
    subst hx
    refine Ev.step (f := fun _ => some _) (fun k => ?_) (Ev.now _)
    simp only [spec_Dec.l0]
    rw [if_pos trivial]
    cases neg with
    | true =>
      have hsa : (⟨acc.toArray⟩ : ByteArray).size = acc.length := by simp [ByteArray.size]
      rw [if_pos rfl, if_pos (by rw [hsa]; omega)]
      congr 1
    | false => simp [digs]
  | succ fuel ih =>
    intro x acc hf h0 h1 hl hp
    by_cases hx : x = 0
    · subst hx; exact ih 0 acc (by simp) (by omega) (by omega) hl (fun h => absurd rfl h)
    have hp1 := hp hx
    have hpos : 1 ≤ x.natAbs := by omega
    have hl2 : acc.length ≤ 18 := by
      apply Nat.le_of_not_lt; intro hlt
      have h19 : 10 ^ 19 ≤ 10 ^ acc.length := Nat.pow_le_pow_right (by omega) (by omega)
      have : 10 ^ acc.length * 1 ≤ 10 ^ acc.length * x.natAbs := Nat.mul_le_mul_left _ hpos
      omega
    have hq : (Int.tdiv x 10).natAbs = x.natAbs / 10 := by rw [Int.natAbs_tdiv]; rfl
    have hqb : -9223372036854775808 ≤ Int.tdiv x 10 ∧ Int.tdiv x 10 ≤ 9223372036854775807 := by omega
    have hr : (Int.tmod x 10).natAbs = x.natAbs % 10 := by rw [Int.natAbs_tmod]; rfl
    have hst : ∀ k, spec_Dec.l0 (k + 1) x ⟨acc.toArray⟩ neg = spec_Dec.l0 k (Int.tdiv x 10) ⟨(UInt8.ofNat (48 + x.natAbs % 10) :: acc).toArray⟩ neg := by
      intro k
      have hsz : (⟨acc.toArray⟩ : ByteArray).size = acc.length := by simp [ByteArray.size]
      have key : ∀ c : Int, c = ((48 + x.natAbs % 10 : Nat) : Int) → ((some (([c % 256] : List Int) : List Int)).bind fun y => if (strOfNums y).size + (⟨acc.toArray⟩ : ByteArray).size ≤ 9223372036854775807 then spec_Dec.l0 k (wrap64 (Int.tdiv x 10)) (strOfNums y ++ ⟨acc.toArray⟩) neg else none) = spec_Dec.l0 k (Int.tdiv x 10) ⟨(UInt8.ofNat (48 + x.natAbs % 10) :: acc).toArray⟩ neg := by
        intro c hc
        simp only [Option.bind_some]
        have h256 : c % 256 = c := by omega
        have hct : c.toNat = 48 + x.natAbs % 10 := by omega
        have h1s : (⟨#[UInt8.ofNat (48 + x.natAbs % 10)]⟩ : ByteArray).size = 1 := rfl
        rw [h256, one_byte c, hct, wrap_in hqb.1 hqb.2, if_pos (by rw [hsz, h1s]; omega)]
        congr 1
      simp only [spec_Dec.l0]
      rw [if_neg hx]
      by_cases hneg : Int.tmod x 10 < 0
      · rw [if_pos hneg]
        exact key _ (by rw [wrap_in (n := -Int.tmod x 10) (by omega) (by omega), wrap_in (by omega) (by omega)]; omega)
      · rw [if_neg hneg]
        exact key _ (by rw [wrap_in (by omega) (by omega)]; omega)
    have hnext := ih (Int.tdiv x 10) (UInt8.ofNat (48 + x.natAbs % 10) :: acc) (by rw [hq]; omega) hqb.1 hqb.2 (by simp; omega) (fun _ => by
      rw [hq, List.length_cons, Nat.pow_succ]
      have h3 : 10 * (x.natAbs / 10) ≤ x.natAbs := Nat.mul_div_le _ _
      have h4 : 10 ^ acc.length * (10 * (x.natAbs / 10)) ≤ 10 ^ acc.length * x.natAbs := Nat.mul_le_mul_left _ h3
      rw [Nat.mul_assoc]; omega)
    refine Ev.step hst ?_
    rw [hq] at hnext
    rw [digs_step x.natAbs (by omega), List.append_assoc, List.singleton_append]
    exact hnext

theorem dec_eq (n : Int) (h0 : -9223372036854775808 ≤ n) (h1 : n ≤ 9223372036854775807) : Ev (fun k => spec_Dec.f k n) ⟨(Lib.itoa n).toArray⟩ := by
  unfold spec_Dec.f
  by_cases hn : n = 0
  · subst hn
    refine Ev.congr (f := fun _ => some _) (fun k => by rw [if_pos rfl]) ?_
    have : (⟨#[48]⟩ : ByteArray) = ⟨(Lib.itoa 0).toArray⟩ := by
      have : Lib.itoa 0 = [48] := by unfold Lib.itoa; rw [if_neg (by omega)]; rw [Lib.decDigits, dif_pos (by decide)]; rfl
      rw [this]
    rw [this]; exact Ev.now _
  · refine Ev.congr (f := fun k => spec_Dec.l0 k n ⟨([] : List UInt8).toArray⟩ (decide (n < 0))) (fun k => by rw [if_neg hn]) ?_
    have key := dec_loop (decide (n < 0)) n.natAbs n [] (Nat.le_refl _) h0 h1 (by simp) (fun _ => by simp; omega)
    have : Lib.itoa n = (if decide (n < 0) = true then [45] else []) ++ (digs n.natAbs ++ []) := by
      unfold Lib.itoa digs
      rw [if_neg (show ¬ n.natAbs = 0 by omega)]
      by_cases hlt : n < 0
      · rw [if_pos hlt, if_pos (by simpa using hlt)]; simp
      · rw [if_neg hlt, if_neg (by simpa using hlt), show n.toNat = n.natAbs by omega]; simp
    rw [this]; exact key

theorem rd37_at (xs : List S37) (i : Nat) (h : i < xs.length) : rd_T37 xs (i : Int) = xs[i] := by
  unfold rd_T37; rw [Int.toNat_natCast, List.getD_eq_getElem?_getD, List.getElem?_eq_getElem h]; rfl
theorem rd38_at (xs : List S38) (i : Nat) (h : i < xs.length) : rd_T38 xs (i : Int) = xs[i] := by
  unfold rd_T38; rw [Int.toNat_natCast, List.getD_eq_getElem?_getD, List.getElem?_eq_getElem h]; rfl

/-! ### sizes -/
def wL (l : List S37) : Nat := (l.map fun e => e.f1.size).sum
def left (t : Int) (n : Nat) : Int := if t < n then -1 else t - n
theorem left_cut {t : Int} {a b : Nat} (h : t < (a : Int)) : left t (a + b) = -1 := by unfold left; split <;> omega
theorem left_add {t : Int} {a b : Nat} : left t (a + b) = left (t - a) b := by unfold left; split <;> split <;> omega
theorem left_zero {t : Int} (h : 0 ≤ t) : left t 0 = t := by unfold left; split <;> omega
theorem left_lt {t : Int} {n : Nat} : left t n < 0 ↔ t < n := by unfold left; split <;> omega
theorem left_ge {t : Int} {n : Nat} (h : ¬ t < (n : Int)) : left t n = t - n := by unfold left; rw [if_neg h]
structure Fine (e : S37) : Prop where
  lo : -9223372036854775808 ≤ e.f0
  hi : e.f0 ≤ 9223372036854775807
  name : e.f1.size ≤ 9223372036854775807

theorem szNote_eq (e : S37) (he : Fine e) (t : Int) (h0 : 0 ≤ t) (h1 : t ≤ 1048576) : laws_szNote.f e.f0 e.f1 t = some (left t e.f1.size) := by
  unfold laws_szNote.f
  have hp := he.name
  rw [wrap_in (n := t - (e.f1.size : Int)) (by omega) (by omega)]
  by_cases h : t < (e.f1.size : Int)
  · rw [if_pos (by omega)]; unfold left; rw [if_pos h]
  · rw [if_neg (by omega), left_ge h]

theorem szNoteS_loop (l : List S37) (hl : l.length ≤ 9223372036854775807) (hx : ∀ e ∈ l, Fine e) (d : Nat) : ∀ (i : Nat) (t : Int), i + d = l.length → 0 ≤ t → t ≤ 1048576 →
    Ev (fun k => laws_szNoteS.l0 k l t i) (left t (wL (l.drop i))) := by
  induction d with
  | zero =>
    intro i t hi h0 h1
    have : i = l.length := by omega
    subst this
    rw [List.drop_length]
    refine Ev.step (f := fun _ => some t) (fun k => ?_) (by rw [show wL [] = 0 from rfl, left_zero h0]; exact Ev.now t)
    simp only [laws_szNoteS.l0]
    rw [if_neg (by omega)]
  | succ d ih =>
    intro i t hi h0 h1
    have hlt : i < l.length := by omega
    have hs := hx _ (List.getElem_mem hlt)
    have hw : wrap64 ((i : Int) + 1) = ((i + 1 : Nat) : Int) := by rw [wrap_in (by omega) (by omega)]; omega
    rw [List.drop_eq_getElem_cons hlt]
    have hst : ∀ k, laws_szNoteS.l0 (k + 1) l t i = if left t l[i].f1.size < 0 then some (-1) else laws_szNoteS.l0 k l (left t l[i].f1.size) ((i + 1 : Nat) : Int) := by
      intro k
      simp only [laws_szNoteS.l0]
      rw [if_pos (by omega), if_pos (by omega), rd37_at _ _ hlt, szNote_eq _ hs t h0 h1, hw]
      rfl
    by_cases h : t < (l[i].f1.size : Int)
    · refine Ev.step (f := fun _ => some (-1)) (fun k => by rw [hst, if_pos (left_lt.2 h)]) ?_
      have a1 : left t (wL (l[i] :: l.drop (i + 1))) = -1 := left_cut h
      rw [a1]; exact Ev.now _
    · refine Ev.step (f := fun k => laws_szNoteS.l0 k l (t - l[i].f1.size) ((i + 1 : Nat) : Int)) (fun k => by rw [hst, if_neg (by rw [left_lt]; exact h), left_ge h]) ?_
      have a1 : left t (wL (l[i] :: l.drop (i + 1))) = left (t - l[i].f1.size) (wL (l.drop (i + 1))) := left_add
      rw [a1]
      exact ih (i + 1) _ (by omega) (by omega) (by omega)

theorem szNoteS_eq (l : List S37) (hl : l.length ≤ 9223372036854775807) (hx : ∀ e ∈ l, Fine e) : Ev (fun k => laws_szNoteS.f k l 1048576) (left 1048576 (l.length + wL l)) := by
  unfold laws_szNoteS.f
  have hw : wrap64 (1048576 - (l.length : Int)) = 1048576 - l.length := wrap_in (by omega) (by omega)
  rw [hw]
  by_cases h : (1048576 : Int) < (l.length : Int)
  · refine Ev.congr (f := fun _ => some (-1)) (fun k => by rw [if_pos (by omega)]) ?_
    have : left 1048576 (l.length + wL l) = -1 := left_cut h
    rw [this]; exact Ev.now _
  · refine Ev.congr (f := fun k => laws_szNoteS.l0 k l (1048576 - l.length) 0) (fun k => by rw [if_neg (by omega)]) ?_
    have : left 1048576 (l.length + wL l) = left (1048576 - l.length) (wL (l.drop 0)) := by rw [List.drop_zero]; exact left_add
    rw [this]
    exact szNoteS_loop l hl hx l.length 0 _ (by omega) (by omega) (by omega)

/-! ### the copy -/
def cp (e : S37) : S38 := ⟨e.f0, e.f1⟩
theorem set_fill {α : Type} (a : List α) (z v : α) (n i : Nat) (h : a.length = i) : (a ++ List.replicate (n + 1) z).set i v = (a ++ [v]) ++ List.replicate n z := by
  rw [List.replicate_succ, List.set_append, if_neg (by omega), h, Nat.sub_self, List.set_cons_zero]; simp

theorem toNoteS_loop (l : List S37) (hl : l.length ≤ 1048576) (d : Nat) : ∀ (i : Nat), i + d = l.length →
    Ev (fun k => laws_toNoteS.l0 k l ((l.take i).map cp ++ List.replicate (l.length - i) z38) i) (l.map cp) := by
  induction d with
  | zero =>
    intro i hi
    have : i = l.length := by omega
    subst this
    rw [List.take_length, Nat.sub_self]
    refine Ev.step (f := fun _ => some (l.map cp)) (fun k => ?_) (Ev.now _)
    simp only [laws_toNoteS.l0]
    rw [if_neg (by omega)]; simp
  | succ d ih =>
    intro i hi
    have hlt : i < l.length := by omega
    have hw : wrap64 ((i : Int) + 1) = ((i + 1 : Nat) : Int) := by rw [wrap_in (by omega) (by omega)]; omega
    refine Ev.step (f := fun k => laws_toNoteS.l0 k l ((l.take (i + 1)).map cp ++ List.replicate (l.length - (i + 1)) z38) ((i + 1 : Nat) : Int)) (fun k => ?_) (ih (i + 1) (by omega))
    simp only [laws_toNoteS.l0, laws_toNote.f, Option.bind_some]
    rw [if_pos (by omega), if_pos (by omega), if_pos (by simp; omega), rd37_at _ _ hlt, hw, Int.toNat_natCast]
    congr 1
    obtain ⟨n, hn⟩ : ∃ n, l.length - i = n + 1 := ⟨l.length - i - 1, by omega⟩
    rw [hn, show l.length - (i + 1) = n by omega, set_fill _ _ _ _ _ (by rw [List.length_map, List.length_take]; omega), List.take_succ_eq_append_getElem hlt, List.map_append]
    rfl

theorem toNoteS_eq (l : List S37) (hl : l.length ≤ 1048576) : Ev (fun k => laws_toNoteS.f k l) (l.map cp) := by
  unfold laws_toNoteS.f
  refine Ev.congr (f := fun k => laws_toNoteS.l0 k l ((l.take 0).map cp ++ List.replicate (l.length - 0) z38) ((0 : Nat) : Int)) (fun k => ?_) (toNoteS_loop l hl l.length 0 (by omega))
  rw [if_pos (by omega), if_pos (by omega)]; simp

/-! ### the texts -/
def word (n : Int) : ByteArray := if n = 1 then ⟨#[117, 110, 117, 115, 101, 100]⟩ else if n = 2 then ⟨#[102, 114, 101, 101]⟩ else if n = 3 then ⟨#[119, 114, 105, 116, 101]⟩ else if n = 4 then ⟨#[110, 101, 118, 101, 114]⟩ else ⟨#[110, 111, 116, 101]⟩ ++ ⟨(Lib.itoa n).toArray⟩
def blank : ByteArray := ⟨#[32]⟩
def line : ByteArray := ⟨#[10]⟩
def tx (e : S38) : ByteArray := word e.f0 ++ blank ++ e.f1 ++ line
def out (l : List S38) : ByteArray := l.foldr (fun e b => tx e ++ b) ByteArray.empty
theorem out_cons (e : S38) (l : List S38) : out (e :: l) = tx e ++ out l := rfl
structure Small (e : S38) : Prop where
  lo : -9223372036854775808 ≤ e.f0
  hi : e.f0 ≤ 9223372036854775807
  name : e.f1.size ≤ 1048576

theorem itoa_size (n : Int) (h0 : -9223372036854775808 ≤ n) (h1 : n ≤ 9223372036854775807) : (⟨(Lib.itoa n).toArray⟩ : ByteArray).size ≤ 21 := by
  have := itoa_len n h0 h1; simpa [ByteArray.size] using this
theorem word_size (n : Int) (h0 : -9223372036854775808 ≤ n) (h1 : n ≤ 9223372036854775807) : (word n).size ≤ 25 := by
  have h := itoa_size n h0 h1
  unfold word
  split
  · decide
  split
  · decide
  split
  · decide
  split
  · decide
  · rw [ByteArray.size_append]
    have : (⟨#[110, 111, 116, 101]⟩ : ByteArray).size = 4 := rfl
    omega
theorem tx_size (e : S38) : (tx e).size = (word e.f0).size + 1 + e.f1.size + 1 := by
  unfold tx; rw [ByteArray.size_append, ByteArray.size_append, ByteArray.size_append]; rfl

theorem spec_loop (l : List S38) (hl : l.length ≤ 1048576) (hx : ∀ e ∈ l, Small e) (d : Nat) : ∀ (i : Nat) (acc : ByteArray), i + d = l.length → acc.size + (out (l.drop i)).size ≤ 1099511627776 →
    Ev (fun k => spec_ShowNotes.l0 k l acc i) (acc ++ out (l.drop i)) := by
  induction d with
  | zero =>
    intro i acc hi _
    have hie : i = l.length := by omega
    rw [show l.drop i = [] from by rw [hie, List.drop_length], show acc ++ out [] = acc from ByteArray.append_empty]
    refine Ev.step (f := fun _ => some acc) (fun k => ?_) (Ev.now _)
    simp only [spec_ShowNotes.l0]
    rw [if_neg (by omega)]
  | succ d ih =>
    intro i acc hi hs
    have hlt : i < l.length := by omega
    have hsm := hx _ (List.getElem_mem hlt)
    have hn := hsm.name
    have hw : wrap64 ((i : Int) + 1) = ((i + 1 : Nat) : Int) := by rw [wrap_in (by omega) (by omega)]; omega
    rw [List.drop_eq_getElem_cons hlt] at hs ⊢
    rw [out_cons, ByteArray.size_append, tx_size] at hs
    have hnext := ih (i + 1) (acc ++ tx l[i]) (by omega) (by rw [ByteArray.size_append, tx_size]; omega)
    rw [out_cons, ← ByteArray.append_assoc]
    have gen : ∀ (wd : ByteArray) (k : Nat), word l[i].f0 = wd → (if acc.size + wd.size ≤ 9223372036854775807 then (if (acc ++ wd).size + 1 ≤ 9223372036854775807 then (if ((acc ++ wd) ++ (⟨#[32]⟩ : ByteArray)).size + l[i].f1.size ≤ 9223372036854775807 then (if (((acc ++ wd) ++ (⟨#[32]⟩ : ByteArray)) ++ l[i].f1).size + 1 ≤ 9223372036854775807 then (spec_ShowNotes.l0 k l ((((acc ++ wd) ++ (⟨#[32]⟩ : ByteArray)) ++ l[i].f1) ++ (⟨#[10]⟩ : ByteArray)) ((i + 1 : Nat) : Int)) else none) else none) else none) else none) = spec_ShowNotes.l0 k l (acc ++ tx l[i]) ((i + 1 : Nat) : Int) := by
      intro wd k hwd
      rw [hwd] at hs
      have s1 : (acc ++ wd).size = acc.size + wd.size := ByteArray.size_append
      have s2 : ((acc ++ wd) ++ (⟨#[32]⟩ : ByteArray)).size = acc.size + wd.size + 1 := by rw [ByteArray.size_append, s1]; rfl
      have s3 : (((acc ++ wd) ++ (⟨#[32]⟩ : ByteArray)) ++ l[i].f1).size = acc.size + wd.size + 1 + l[i].f1.size := by rw [ByteArray.size_append, s2]
      rw [if_pos (by omega), if_pos (by omega), if_pos (by omega), if_pos (by omega)]
      unfold tx blank line
      rw [hwd]
      simp only [ByteArray.append_assoc]
    by_cases k1 : l[i].f0 = 1
    · refine Ev.step (fun k => ?_) hnext
      simp only [spec_ShowNotes.l0]
      rw [if_pos (by omega), if_pos (by omega), rd38_at _ _ hlt, if_pos k1, hw]
      exact gen _ k (by unfold word; rw [if_pos k1])
    by_cases k2 : l[i].f0 = 2
    · refine Ev.step (fun k => ?_) hnext
      simp only [spec_ShowNotes.l0]
      rw [if_pos (by omega), if_pos (by omega), rd38_at _ _ hlt, if_neg k1, if_pos k2, hw]
      exact gen _ k (by unfold word; rw [if_neg k1, if_pos k2])
    by_cases k3 : l[i].f0 = 3
    · refine Ev.step (fun k => ?_) hnext
      simp only [spec_ShowNotes.l0]
      rw [if_pos (by omega), if_pos (by omega), rd38_at _ _ hlt, if_neg k1, if_neg k2, if_pos k3, hw]
      exact gen _ k (by unfold word; rw [if_neg k1, if_neg k2, if_pos k3])
    by_cases k4 : l[i].f0 = 4
    · refine Ev.step (fun k => ?_) hnext
      simp only [spec_ShowNotes.l0]
      rw [if_pos (by omega), if_pos (by omega), rd38_at _ _ hlt, if_neg k1, if_neg k2, if_neg k3, if_pos k4, hw]
      exact gen _ k (by unfold word; rw [if_neg k1, if_neg k2, if_neg k3, if_pos k4])
    · have hwd : word l[i].f0 = ⟨#[110, 111, 116, 101]⟩ ++ ⟨(Lib.itoa l[i].f0).toArray⟩ := by unfold word; rw [if_neg k1, if_neg k2, if_neg k3, if_neg k4]
      have hz := itoa_size l[i].f0 hsm.lo hsm.hi
      have s0 : (⟨#[110, 111, 116, 101]⟩ : ByteArray).size = 4 := rfl
      have sw : (word l[i].f0).size = 4 + (⟨(Lib.itoa l[i].f0).toArray⟩ : ByteArray).size := by rw [hwd, ByteArray.size_append, s0]
      refine Ev.step (f := fun k => (spec_Dec.f k l[i].f0).bind fun t => (if (acc ++ (⟨#[110, 111, 116, 101]⟩ : ByteArray)).size + t.size ≤ 9223372036854775807 then (if ((acc ++ (⟨#[110, 111, 116, 101]⟩ : ByteArray)) ++ t).size + 1 ≤ 9223372036854775807 then (if (((acc ++ (⟨#[110, 111, 116, 101]⟩ : ByteArray)) ++ t) ++ (⟨#[32]⟩ : ByteArray)).size + l[i].f1.size ≤ 9223372036854775807 then (if ((((acc ++ (⟨#[110, 111, 116, 101]⟩ : ByteArray)) ++ t) ++ (⟨#[32]⟩ : ByteArray)) ++ l[i].f1).size + 1 ≤ 9223372036854775807 then (spec_ShowNotes.l0 k l (((((acc ++ (⟨#[110, 111, 116, 101]⟩ : ByteArray)) ++ t) ++ (⟨#[32]⟩ : ByteArray)) ++ l[i].f1) ++ (⟨#[10]⟩ : ByteArray)) ((i + 1 : Nat) : Int)) else none) else none) else none) else none)) (fun k => ?_) ?_
      · simp only [spec_ShowNotes.l0]
        rw [if_pos (by omega), if_pos (by omega), rd38_at _ _ hlt, if_neg k1, if_neg k2, if_neg k3, if_neg k4, hw, if_pos (by omega)]
      · refine Ev.bind (dec_eq _ hsm.lo hsm.hi) ?_
        refine Ev.congr (fun k => ?_) hnext
        have g := gen _ k hwd
        rw [if_pos (by rw [ByteArray.size_append, s0]; omega)] at g
        simp only [← ByteArray.append_assoc] at g
        have s1 : (acc ++ (⟨#[110, 111, 116, 101]⟩ : ByteArray)).size = acc.size + 4 := by rw [ByteArray.size_append, s0]
        rw [if_pos (by omega)]
        exact g

theorem noteWord_eq (n : Int) (h0 : -9223372036854775808 ≤ n) (h1 : n ≤ 9223372036854775807) : impl_noteWord.f n = some (word n) := by
  unfold impl_noteWord.f
  have hin : impl_in.f n 1 4 = some (decide (1 ≤ n ∧ n ≤ 4)) := by unfold impl_in.f; split <;> simp <;> omega
  rw [hin]
  simp only [Option.bind_some]
  by_cases h : 1 ≤ n ∧ n ≤ 4
  · rw [if_pos (decide_eq_true h), if_pos (by omega), if_pos (by simp; omega)]
    have : n = 1 ∨ n = 2 ∨ n = 3 ∨ n = 4 := by omega
    rcases this with rfl | rfl | rfl | rfl <;> rfl
  · rw [if_neg (by simp; omega)]
    have hd : impl_Dec.f n = some ⟨(Lib.itoa n).toArray⟩ := by
      unfold impl_Dec.f M.strconv_Itoa.f
      rw [if_pos h0, if_pos h1]; rfl
    have hz := itoa_size n h0 h1
    rw [hd]
    simp only [Option.bind_some]
    rw [if_pos (by omega)]
    unfold word
    rw [if_neg (by omega), if_neg (by omega), if_neg (by omega), if_neg (by omega)]

theorem impl_loop (l : List S38) (hl : l.length ≤ 1048576) (hx : ∀ e ∈ l, Small e) (d : Nat) : ∀ (i : Nat) (acc : ByteArray), i + d = l.length → acc.size + (out (l.drop i)).size ≤ 1099511627776 →
    Ev (fun k => impl_ShowNotes.l0 k acc l l.length i) (acc ++ out (l.drop i)) := by
  induction d with
  | zero =>
    intro i acc hi _
    have hie : i = l.length := by omega
    rw [show l.drop i = [] from by rw [hie, List.drop_length], show acc ++ out [] = acc from ByteArray.append_empty]
    refine Ev.step (f := fun _ => some acc) (fun k => ?_) (Ev.now _)
    simp only [impl_ShowNotes.l0]
    rw [if_neg (by omega)]
  | succ d ih =>
    intro i acc hi hs
    have hlt : i < l.length := by omega
    have hsm := hx _ (List.getElem_mem hlt)
    have hn := hsm.name
    have hw : wrap64 ((i : Int) + 1) = ((i + 1 : Nat) : Int) := by rw [wrap_in (by omega) (by omega)]; omega
    rw [List.drop_eq_getElem_cons hlt] at hs ⊢
    rw [out_cons, ByteArray.size_append, tx_size] at hs
    have hwz := word_size l[i].f0 hsm.lo hsm.hi
    have hnext := ih (i + 1) (acc ++ tx l[i]) (by omega) (by rw [ByteArray.size_append, tx_size]; omega)
    rw [out_cons, ← ByteArray.append_assoc]
    refine Ev.step (fun k => ?_) hnext
    have s2 : (word l[i].f0 ++ (⟨#[32]⟩ : ByteArray)).size = (word l[i].f0).size + 1 := by rw [ByteArray.size_append]; rfl
    have s3 : (word l[i].f0 ++ (⟨#[32]⟩ : ByteArray) ++ l[i].f1).size = (word l[i].f0).size + 1 + l[i].f1.size := by rw [ByteArray.size_append, s2]
    have s4 : (word l[i].f0 ++ (⟨#[32]⟩ : ByteArray) ++ l[i].f1 ++ (⟨#[10]⟩ : ByteArray)).size = (word l[i].f0).size + 1 + l[i].f1.size + 1 := by rw [ByteArray.size_append, s3]; rfl
    simp only [impl_ShowNotes.l0]
    rw [if_pos (by omega), if_pos (by omega), if_pos (by omega), rd38_at _ _ hlt, hw, noteWord_eq _ hsm.lo hsm.hi]
    simp only [Option.bind_some]
    rw [if_pos (by omega), if_pos (by omega), if_pos (by omega), if_pos (by omega)]
    rfl

/-! ### the copy is as it was -/
theorem eqNoteS_loop (l : List S38) (hl : l.length ≤ 1048576) (d : Nat) : ∀ i : Nat, i + d = l.length → Ev (fun k => laws_eqNoteS.l0 k l l i) true := by
  induction d with
  | zero =>
    intro i hi
    refine Ev.step (f := fun _ => some true) (fun k => ?_) (Ev.now _)
    simp only [laws_eqNoteS.l0]
    rw [if_neg (by omega)]
  | succ d ih =>
    intro i hi
    have hlt : i < l.length := by omega
    have hw : wrap64 ((i : Int) + 1) = ((i + 1 : Nat) : Int) := by rw [wrap_in (by omega) (by omega)]; omega
    refine Ev.step (f := fun k => laws_eqNoteS.l0 k l l ((i + 1 : Nat) : Int)) (fun k => ?_) (ih (i + 1) (by omega))
    simp only [laws_eqNoteS.l0, laws_eqNote.f]
    rw [if_pos (by omega), if_pos (by omega), if_pos (by omega), hw]
    rfl
theorem eqNoteS_eq (l : List S38) (hl : l.length ≤ 1048576) : Ev (fun k => laws_eqNoteS.f k l l) true := by
  unfold laws_eqNoteS.f
  exact Ev.congr (f := fun k => laws_eqNoteS.l0 k l l 0) (fun k => by rw [if_pos rfl]) (eqNoteS_loop l hl l.length 0 (by omega))

theorem mem_sum {α : Type} (f : α → Nat) (l : List α) (x : α) (h : x ∈ l) : f x ≤ (l.map f).sum := by
  induction l with
  | nil => simp at h
  | cons y l ih =>
    rw [List.map_cons, List.sum_cons]
    rcases List.mem_cons.1 h with rfl | h
    · omega
    · have := ih h; omega
theorem out_len (l : List S37) (hx : ∀ e ∈ l, Fine e) : (out (l.map cp)).size ≤ 27 * l.length + wL l := by
  induction l with
  | nil => decide
  | cons e l ih =>
    have he := hx e (List.mem_cons_self ..)
    have ih' := ih (fun e h => hx e (List.mem_cons_of_mem _ h))
    rw [List.map_cons, out_cons, ByteArray.size_append, tx_size]
    have hwz := word_size e.f0 he.lo he.hi
    have h0 : (cp e).f0 = e.f0 := rfl
    have h1 : (cp e).f1 = e.f1 := rfl
    rw [h0, h1]
    have h2 : wL (e :: l) = e.f1.size + wL l := rfl
    rw [h2, List.length_cons]
    omega

/-- THE PLAIN LAW. -/
theorem law (l : List S37) (hl : l.length ≤ 9223372036854775807) (hx : ∀ e ∈ l, Fine e) : Ev (fun k => laws_FnExactShowNotes.f k l) true := by
  unfold laws_FnExactShowNotes.f
  refine Ev.bind (szNoteS_eq l hl hx) ?_
  by_cases h : (1048576 : Int) < ((l.length + wL l : Nat) : Int)
  · exact Ev.congr (f := fun _ => some true) (fun k => by rw [if_pos (left_lt.2 h)]) (Ev.now _)
  · have hW : l.length + wL l ≤ 1048576 := by omega
    have hl1 : l.length ≤ 1048576 := by omega
    have hsm : ∀ e ∈ l.map cp, Small e := by
      intro e he
      obtain ⟨x, hx', rfl⟩ := List.mem_map.1 he
      have h1 := mem_sum (fun e : S37 => e.f1.size) l x hx'
      have h2 : wL l = (l.map fun e => e.f1.size).sum := rfl
      have hf := hx x hx'
      exact ⟨hf.lo, hf.hi, show x.f1.size ≤ _ by omega⟩
    have hlm : (l.map cp).length ≤ 1048576 := by rw [List.length_map]; exact hl1
    have ho : (ByteArray.empty).size + (out ((l.map cp).drop 0)).size ≤ 1099511627776 := by
      have := out_len l hx
      rw [List.drop_zero, show ByteArray.empty.size = 0 from rfl]; omega
    have hcp := toNoteS_eq l hl1
    have hsp := spec_loop (l.map cp) hlm hsm (l.map cp).length 0 ByteArray.empty (by omega) ho
    have him := impl_loop (l.map cp) hlm hsm (l.map cp).length 0 ByteArray.empty (by omega) ho
    refine Ev.congr (f := fun k => _) (fun k => by rw [if_neg (by rw [left_lt]; exact h)]) ?_
    refine Ev.bind hcp ?_
    refine Ev.bind (a := ByteArray.empty ++ out ((l.map cp).drop 0)) hsp ?_
    refine Ev.bind hcp ?_
    refine Ev.bind (a := ByteArray.empty ++ out ((l.map cp).drop 0)) him ?_
    refine Ev.congr (f := fun k => _) (fun k => by rw [if_pos rfl]) ?_
    refine Ev.bind hcp ?_
    refine Ev.bind (eqNoteS_eq _ hlm) ?_
    exact Ev.now _
end Go.Proofs.YtgjbdheekjjaeaaDoor.Pa
