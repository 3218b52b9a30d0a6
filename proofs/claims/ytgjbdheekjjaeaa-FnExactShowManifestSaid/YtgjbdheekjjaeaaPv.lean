/- The plain law of FnExactShowManifest, its second half: sizes, the texts that both functions make, and the law itself; for every list of entries whose texts and lists have at most 2^63-1 bytes and items. -/
import Derived.Test.YtgjbdheekjjaeaaPu
namespace Go.Proofs.Ytgjbdheekjjaeaa.Pu
open Go.RowKit Go.Proofs.Ytgjbdheekjjaeaa.X1 Go.Proofs.YtgjbdheekjjaeaaW.PrintWords


theorem rdOf_at {α : Type} (d : α) (xs : List α) (i : Nat) (h : i < xs.length) : rdOf d xs (i : Int) = xs[i] := by
  unfold rdOf; rw [Int.toNat_natCast, List.getD_eq_getElem?_getD, List.getElem?_eq_getElem h]; rfl
theorem rd32_at (xs : List S32) (i : Nat) (h : i < xs.length) : rd_T32 xs (i : Int) = xs[i] := by
  unfold rd_T32; rw [Int.toNat_natCast, List.getD_eq_getElem?_getD, List.getElem?_eq_getElem h]; rfl
theorem rd34_at (xs : List S34) (i : Nat) (h : i < xs.length) : rd_T34 xs (i : Int) = xs[i] := by
  unfold rd_T34; rw [Int.toNat_natCast, List.getD_eq_getElem?_getD, List.getElem?_eq_getElem h]; rfl

/-! ### sizes -/
def sN (xs : List ByteArray) : Nat := (xs.map ByteArray.size).sum
def wE (e : S32) : Nat := e.f0.size + e.f1.length + sN e.f1
def wL (l : List S32) : Nat := (l.map wE).sum
def left (t : Int) (n : Nat) : Int := if t < n then -1 else t - n
theorem left_cut {t : Int} {a b : Nat} (h : t < (a : Int)) : left t (a + b) = -1 := by unfold left; split <;> omega
theorem left_add {t : Int} {a b : Nat} (_h : ¬ t < (a : Int)) : left t (a + b) = left (t - a) b := by unfold left; split <;> split <;> omega
theorem left_zero {t : Int} (h : 0 ≤ t) : left t 0 = t := by unfold left; split <;> omega
structure Fine (e : S32) : Prop where
  path : e.f0.size ≤ 9223372036854775807
  len : e.f1.length ≤ 9223372036854775807
  names : ∀ s ∈ e.f1, s.size ≤ 9223372036854775807

theorem szString_loop (xs : List ByteArray) (hl : xs.length ≤ 9223372036854775807) (hx : ∀ s ∈ xs, s.size ≤ 9223372036854775807) (d : Nat) : ∀ (i : Nat) (t : Int), i + d = xs.length → 0 ≤ t → t ≤ 1048576 →
    Ev (fun k => laws_szStringS.l0 k xs t i) (left t (sN (xs.drop i))) := by
  induction d with
  | zero =>
    intro i t hi h0 h1
    have : i = xs.length := by omega
    subst this
    rw [List.drop_length]
    refine Ev.step (f := fun _ => some t) (fun k => ?_) (by rw [show sN [] = 0 from rfl, left_zero h0]; exact Ev.now t)
    simp only [laws_szStringS.l0]
    rw [if_neg (by omega)]
  | succ d ih =>
    intro i t hi h0 h1
    have hlt : i < xs.length := by omega
    have hs := hx _ (List.getElem_mem hlt)
    have hw : wrap64 ((i : Int) + 1) = ((i + 1 : Nat) : Int) := by rw [wrap_in (by omega) (by omega)]; omega
    rw [List.drop_eq_getElem_cons hlt]
    have hst : ∀ k, laws_szStringS.l0 (k + 1) xs t i = if t < (xs[i].size : Int) then some (-1) else laws_szStringS.l0 k xs (t - xs[i].size) ((i + 1 : Nat) : Int) := by
      intro k
      simp only [laws_szStringS.l0]
      rw [if_pos (by omega), if_pos (by omega), rdOf_at _ _ _ hlt, wrap_in (n := t - (xs[i].size : Int)) (by omega) (by omega), hw]
      by_cases h : t < (xs[i].size : Int)
      · rw [if_pos (by omega), if_pos h]
      · rw [if_neg (by omega), if_neg h]
    by_cases h : t < (xs[i].size : Int)
    · refine Ev.step (f := fun _ => some (-1)) (fun k => by rw [hst, if_pos h]) ?_
      have : left t (sN (xs[i] :: xs.drop (i + 1))) = -1 := left_cut h
      rw [this]; exact Ev.now _
    · refine Ev.step (f := fun k => laws_szStringS.l0 k xs (t - xs[i].size) ((i + 1 : Nat) : Int)) (fun k => by rw [hst, if_neg h]) ?_
      have : left t (sN (xs[i] :: xs.drop (i + 1))) = left (t - xs[i].size) (sN (xs.drop (i + 1))) := left_add h
      rw [this]
      exact ih (i + 1) _ (by omega) (by omega) (by omega)

theorem szString_eq (xs : List ByteArray) (hl : xs.length ≤ 9223372036854775807) (hx : ∀ s ∈ xs, s.size ≤ 9223372036854775807) (t : Int) (h0 : 0 ≤ t) (h1 : t ≤ 1048576) :
    Ev (fun k => laws_szStringS.f k xs t) (left t (xs.length + sN xs)) := by
  unfold laws_szStringS.f
  have hw : wrap64 (t - (xs.length : Int)) = t - xs.length := wrap_in (by omega) (by omega)
  by_cases h : t < (xs.length : Int)
  · refine Ev.congr (f := fun _ => some (-1)) (fun k => by rw [hw, if_pos (by omega)]) ?_
    have : left t (xs.length + sN xs) = -1 := left_cut h
    rw [this]; exact Ev.now _
  · refine Ev.congr (f := fun k => laws_szStringS.l0 k xs (t - xs.length) 0) (fun k => by rw [hw, if_neg (by omega)]) ?_
    have : left t (xs.length + sN xs) = left (t - xs.length) (sN (xs.drop 0)) := by
      rw [List.drop_zero]; exact left_add h
    rw [this]
    exact szString_loop xs hl hx xs.length 0 _ (by omega) (by omega) (by omega)

theorem left_lt {t : Int} {n : Nat} (_h0 : 0 ≤ t) : left t n < 0 ↔ t < n := by unfold left; split <;> omega
theorem left_ge {t : Int} {n : Nat} (h : ¬ t < (n : Int)) : left t n = t - n := by unfold left; rw [if_neg h]

theorem szEntry_eq (e : S32) (he : Fine e) (t : Int) (h0 : 0 ≤ t) (h1 : t ≤ 1048576) : Ev (fun k => laws_szEntry.f k e.f0 e.f1 t) (left t (wE e)) := by
  unfold laws_szEntry.f
  have hp := he.path
  have hw : wrap64 (t - (e.f0.size : Int)) = t - e.f0.size := wrap_in (by omega) (by omega)
  rw [hw]
  by_cases h : t < (e.f0.size : Int)
  · refine Ev.congr (f := fun _ => some (-1)) (fun k => by rw [if_pos (by omega)]) ?_
    have : left t (wE e) = -1 := by unfold wE; rw [Nat.add_assoc]; exact left_cut h
    rw [this]; exact Ev.now _
  · refine Ev.congr (f := fun k => (laws_szStringS.f k e.f1 (t - e.f0.size)).bind fun r => if r < 0 then some (-1) else some r) (fun k => by rw [if_neg (by omega)]) ?_
    refine Ev.bind (szString_eq e.f1 he.len he.names _ (by omega) (by omega)) ?_
    by_cases h2 : t - (e.f0.size : Int) < ((e.f1.length + sN e.f1 : Nat) : Int)
    · have a1 : left t (wE e) = -1 := by unfold wE left; split <;> omega
      rw [a1, if_pos ((left_lt (by omega)).2 h2)]; exact Ev.now _
    · have a1 : left t (wE e) = left (t - e.f0.size) (e.f1.length + sN e.f1) := by
        unfold wE; rw [Nat.add_assoc]; exact left_add h
      rw [a1, if_neg (by rw [left_lt (by omega)]; exact h2)]; exact Ev.now _

theorem szEntryS_loop (l : List S32) (hl : l.length ≤ 9223372036854775807) (hx : ∀ e ∈ l, Fine e) (d : Nat) : ∀ (i : Nat) (t : Int), i + d = l.length → 0 ≤ t → t ≤ 1048576 →
    Ev (fun k => laws_szEntryS.l0 k l t i) (left t (wL (l.drop i))) := by
  induction d with
  | zero =>
    intro i t hi h0 h1
    have : i = l.length := by omega
    subst this
    rw [List.drop_length]
    refine Ev.step (f := fun _ => some t) (fun k => ?_) (by rw [show wL [] = 0 from rfl, left_zero h0]; exact Ev.now t)
    simp only [laws_szEntryS.l0]
    rw [if_neg (by omega)]
  | succ d ih =>
    intro i t hi h0 h1
    have hlt : i < l.length := by omega
    have hs := hx _ (List.getElem_mem hlt)
    have hw : wrap64 ((i : Int) + 1) = ((i + 1 : Nat) : Int) := by rw [wrap_in (by omega) (by omega)]; omega
    rw [List.drop_eq_getElem_cons hlt]
    refine Ev.step (f := fun k => (laws_szEntry.f k l[i].f0 l[i].f1 t).bind fun r => if r < 0 then some (-1) else laws_szEntryS.l0 k l r ((i + 1 : Nat) : Int)) (fun k => ?_) ?_
    · simp only [laws_szEntryS.l0]
      rw [if_pos (by omega), if_pos (by omega), rd32_at _ _ hlt, hw]
    refine Ev.bind (szEntry_eq _ hs t h0 h1) ?_
    by_cases h : t < (wE l[i] : Int)
    · have a1 : left t (wL (l[i] :: l.drop (i + 1))) = -1 := left_cut h
      refine Ev.congr (f := fun _ => some (-1)) (fun k => by rw [if_pos ((left_lt h0).2 h)]) ?_
      rw [a1]; exact Ev.now _
    · refine Ev.congr (f := fun k => laws_szEntryS.l0 k l (t - wE l[i]) ((i + 1 : Nat) : Int)) (fun k => by rw [if_neg (by rw [left_lt h0]; exact h), left_ge h]) ?_
      have a1 : left t (wL (l[i] :: l.drop (i + 1))) = left (t - wE l[i]) (wL (l.drop (i + 1))) := left_add h
      rw [a1]
      exact ih (i + 1) _ (by omega) (by omega) (by omega)

theorem szEntryS_eq (l : List S32) (hl : l.length ≤ 9223372036854775807) (hx : ∀ e ∈ l, Fine e) : Ev (fun k => laws_szEntryS.f k l 1048576) (left 1048576 (l.length + wL l)) := by
  unfold laws_szEntryS.f
  have hw : wrap64 (1048576 - (l.length : Int)) = 1048576 - l.length := wrap_in (by omega) (by omega)
  rw [hw]
  by_cases h : (1048576 : Int) < (l.length : Int)
  · refine Ev.congr (f := fun _ => some (-1)) (fun k => by rw [if_pos (by omega)]) ?_
    have : left 1048576 (l.length + wL l) = -1 := left_cut h
    rw [this]; exact Ev.now _
  · refine Ev.congr (f := fun k => laws_szEntryS.l0 k l (1048576 - l.length) 0) (fun k => by rw [if_neg (by omega)]) ?_
    have : left 1048576 (l.length + wL l) = left (1048576 - l.length) (wL (l.drop 0)) := by
      rw [List.drop_zero]; exact left_add h
    rw [this]
    exact szEntryS_loop l hl hx l.length 0 _ (by omega) (by omega) (by omega)

/-! ### the copies -/
theorem set_fill {α : Type} (a : List α) (z v : α) (n i : Nat) (h : a.length = i) : (a ++ List.replicate (n + 1) z).set i v = (a ++ [v]) ++ List.replicate n z := by
  rw [List.replicate_succ, List.set_append, if_neg (by omega), h, Nat.sub_self, List.set_cons_zero]; simp
theorem toStringS_loop (xs : List ByteArray) (hl : xs.length ≤ 1048576) (d : Nat) : ∀ (i : Nat), i + d = xs.length →
    Ev (fun k => laws_toStringS.l0 k xs (xs.take i ++ List.replicate (xs.length - i) (⟨#[]⟩ : ByteArray)) i) xs := by
  induction d with
  | zero =>
    intro i hi
    have : i = xs.length := by omega
    subst this
    rw [List.take_length, Nat.sub_self]
    refine Ev.step (f := fun _ => some xs) (fun k => ?_) (Ev.now _)
    simp only [laws_toStringS.l0]
    rw [if_neg (by omega)]; simp
  | succ d ih =>
    intro i hi
    have hlt : i < xs.length := by omega
    have hw : wrap64 ((i : Int) + 1) = ((i + 1 : Nat) : Int) := by rw [wrap_in (by omega) (by omega)]; omega
    refine Ev.step (f := fun k => laws_toStringS.l0 k xs (xs.take (i + 1) ++ List.replicate (xs.length - (i + 1)) (⟨#[]⟩ : ByteArray)) ((i + 1 : Nat) : Int)) (fun k => ?_) (ih (i + 1) (by omega))
    simp only [laws_toStringS.l0]
    rw [if_pos (by omega), if_pos (by omega), if_pos (by simp; omega), rdOf_at _ _ _ hlt, hw, Int.toNat_natCast]
    congr 1
    obtain ⟨n, hn⟩ : ∃ n, xs.length - i = n + 1 := ⟨xs.length - i - 1, by omega⟩
    rw [hn, show xs.length - (i + 1) = n by omega, set_fill _ _ _ _ _ (by rw [List.length_take]; omega), List.take_succ_eq_append_getElem hlt]

theorem toStringS_eq (xs : List ByteArray) (hl : xs.length ≤ 1048576) : Ev (fun k => laws_toStringS.f k xs) xs := by
  unfold laws_toStringS.f
  refine Ev.congr (f := fun k => laws_toStringS.l0 k xs (xs.take 0 ++ List.replicate (xs.length - 0) (⟨#[]⟩ : ByteArray)) ((0 : Nat) : Int)) (fun k => ?_) (toStringS_loop xs hl xs.length 0 (by omega))
  rw [if_pos (by omega), if_pos (by omega)]; simp

def cp (e : S32) : S34 := ⟨e.f0, e.f1⟩

theorem toEntryS_loop (l : List S32) (hl : l.length ≤ 1048576) (hx : ∀ e ∈ l, e.f1.length ≤ 1048576) (d : Nat) : ∀ (i : Nat), i + d = l.length →
    Ev (fun k => laws_toEntryS.l0 k l ((l.take i).map cp ++ List.replicate (l.length - i) z34) i) (l.map cp) := by
  induction d with
  | zero =>
    intro i hi
    have : i = l.length := by omega
    subst this
    rw [List.take_length, Nat.sub_self]
    refine Ev.step (f := fun _ => some (l.map cp)) (fun k => ?_) (Ev.now _)
    simp only [laws_toEntryS.l0]
    rw [if_neg (by omega)]; simp
  | succ d ih =>
    intro i hi
    have hlt : i < l.length := by omega
    have hw : wrap64 ((i : Int) + 1) = ((i + 1 : Nat) : Int) := by rw [wrap_in (by omega) (by omega)]; omega
    have hm := toStringS_eq l[i].f1 (hx _ (List.getElem_mem hlt))
    refine Ev.step (f := fun k => (laws_toEntry.f k l[i].f0 l[i].f1).bind fun b => if (i : Int) < ((((l.take i).map cp ++ List.replicate (l.length - i) z34)).length : Int) then laws_toEntryS.l0 k l ((((l.take i).map cp ++ List.replicate (l.length - i) z34)).set i (⟨b.1, b.2⟩ : S34)) ((i + 1 : Nat) : Int) else none) (fun k => ?_) ?_
    · simp only [laws_toEntryS.l0]
      rw [if_pos (by omega), if_pos (by omega), rd32_at _ _ hlt, hw, Int.toNat_natCast]
    refine Ev.bind (a := (l[i].f0, l[i].f1)) (by unfold laws_toEntry.f; exact Ev.bind hm (Ev.now _)) ?_
    refine Ev.congr (f := fun k => laws_toEntryS.l0 k l ((l.take (i + 1)).map cp ++ List.replicate (l.length - (i + 1)) z34) ((i + 1 : Nat) : Int)) (fun k => ?_) (ih (i + 1) (by omega))
    rw [if_pos (by simp; omega)]
    congr 1
    obtain ⟨n, hn⟩ : ∃ n, l.length - i = n + 1 := ⟨l.length - i - 1, by omega⟩
    rw [hn, show l.length - (i + 1) = n by omega, set_fill _ _ _ _ _ (by rw [List.length_map, List.length_take]; omega), List.take_succ_eq_append_getElem hlt, List.map_append]
    rfl

theorem toEntryS_eq (l : List S32) (hl : l.length ≤ 1048576) (hx : ∀ e ∈ l, e.f1.length ≤ 1048576) : Ev (fun k => laws_toEntryS.f k l) (l.map cp) := by
  unfold laws_toEntryS.f
  refine Ev.congr (f := fun k => laws_toEntryS.l0 k l ((l.take 0).map cp ++ List.replicate (l.length - 0) z34) ((0 : Nat) : Int)) (fun k => ?_) (toEntryS_loop l hl hx l.length 0 (by omega))
  rw [if_pos (by omega), if_pos (by omega)]; simp
end Go.Proofs.Ytgjbdheekjjaeaa.Pu
