/- The plain law of FnExactReadManifest, the marks: what the law sets, it finds again; and all that the walk asks for. -/
import Derived.Test.YtgjbdheekjjaeaaDoorPe
namespace Go.Proofs.YtgjbdheekjjaeaaDoor.Pb
open Go.RowKit Go.Proofs.YtgjbdheekjjaeaaDoor.X3 Go.Proofs.YtgjbdheekjjaeaaDoorW.PrintWords

theorem one_byte (c : Int) : (strOfNums [c]).size = 1 := by simp [strOfNums, ByteArray.size]
theorem mt_loop (fuel : Nat) : ∀ (x : Int) (acc : ByteArray), x.toNat ≤ fuel → 0 ≤ x → acc.size + x.toNat ≤ 4611686018427387904 → ∃ r, Ev (fun k => laws_markText.l0 k x acc) r := by
  induction fuel with
  | zero =>
    intro x acc hf h0 hs
    refine ⟨(⟨#[109]⟩ : ByteArray) ++ acc, Ev.step (f := fun _ => some _) (fun k => ?_) (Ev.now _)⟩
    simp only [laws_markText.l0]
    rw [if_neg (by omega), if_pos (by omega)]
  | succ fuel ih =>
    intro x acc hf h0 hs
    by_cases hx : x > 0
    · have hq : Int.tdiv x 10 = x / 10 := Int.tdiv_eq_ediv_of_nonneg h0
      have hw : wrap64 (Int.tdiv x 10) = Int.tdiv x 10 := wrap_in (by omega) (by omega)
      obtain ⟨c, hc⟩ : ∃ c : Int, c = (wrap64 (48 + (Int.tmod x 10))) % 256 := ⟨_, rfl⟩
      have h1 := one_byte c
      obtain ⟨r, hr⟩ := ih (Int.tdiv x 10) (strOfNums [c] ++ acc) (by omega) (by omega) (by rw [ByteArray.size_append, h1]; omega)
      refine ⟨r, Ev.step (fun k => ?_) hr⟩
      simp only [laws_markText.l0]
      rw [if_pos hx, ← hc]
      simp only [Option.bind_some]
      rw [if_pos (by omega), hw]
    · refine ⟨(⟨#[109]⟩ : ByteArray) ++ acc, Ev.step (f := fun _ => some _) (fun k => ?_) (Ev.now _)⟩
      simp only [laws_markText.l0]
      rw [if_neg hx, if_pos (by omega)]
theorem mt_ex (n : Int) (h0 : 0 ≤ n) (h1 : n ≤ 4611686018427387904) : ∃ r, Ev (fun k => laws_markText.f k n) r := by
  unfold laws_markText.f
  by_cases h : n ≤ 0
  · exact ⟨_, Ev.congr (f := fun _ => some _) (fun k => by rw [if_pos h]) (Ev.now _)⟩
  · obtain ⟨r, hr⟩ := mt_loop n.toNat n (⟨#[]⟩ : ByteArray) (Nat.le_refl _) h0 (by rw [show (⟨#[]⟩ : ByteArray).size = 0 from rfl]; omega)
    exact ⟨r, Ev.congr (fun k => by rw [if_neg h]) hr⟩
open Classical in
/-- The text of a mark. -/
noncomputable def mt (n : Int) : ByteArray := if h : ∃ r, Ev (fun k => laws_markText.f k n) r then h.choose else ByteArray.empty
theorem mt_ev (n : Int) (h0 : 0 ≤ n) (h1 : n ≤ 4611686018427387904) : Ev (fun k => laws_markText.f k n) (mt n) := by
  have h := mt_ex n h0 h1
  unfold mt
  rw [dif_pos h]
  exact h.choose_spec

/-! ### a list of words -/
noncomputable def ms (a : Int) : Nat → List ByteArray
  | 0 => []
  | n + 1 => mt a :: ms (a + 1) n
theorem ms_len (n : Nat) : ∀ a, (ms a n).length = n := by
  induction n with
  | zero => intro a; rfl
  | succ n ih => intro a; simp [ms, ih]
theorem markS_loop (rest : List ByteArray) : ∀ (p : List ByteArray) (a : Int), 0 ≤ a → a + rest.length ≤ 4611686018427387904 → (p ++ rest).length ≤ 1099511627776 →
    Ev (fun k => laws_markStringS.l0 k (p ++ rest) a p.length) (a + rest.length, p ++ ms a rest.length) := by
  induction rest with
  | nil =>
    intro p a h0 h1 hl
    refine Ev.step (f := fun _ => some (a, p ++ [])) (fun k => ?_) (by simpa [ms] using Ev.now (a, p))
    simp only [laws_markStringS.l0]
    rw [if_neg (by simp)]
  | cons x rest ih =>
    intro p a h0 h1 hl
    rw [List.length_append, List.length_cons] at hl
    rw [List.length_cons] at h1
    have hw : wrap64 ((p.length : Int) + 1) = ((p.length + 1 : Nat) : Int) := by rw [wrap_in (by omega) (by omega)]; omega
    have hwa : wrap64 (a + 1) = a + 1 := wrap_in (by omega) (by omega)
    refine Ev.step (f := fun k => (laws_markText.f k a).bind fun t => laws_markStringS.l0 k ((p ++ x :: rest).set p.length t) (a + 1) ((p.length + 1 : Nat) : Int)) (fun k => ?_) ?_
    · simp only [laws_markStringS.l0]
      rw [if_pos (by simp; omega), hwa, hw]
      rfl
    refine Ev.bind (mt_ev a h0 (by omega)) ?_
    have h := ih (p ++ [mt a]) (a + 1) (by omega) (by omega) (by simp; omega)
    have e1 : (p ++ x :: rest).set p.length (mt a) = (p ++ [mt a]) ++ rest := by
      rw [List.set_append_right _ _ (Nat.le_refl _), Nat.sub_self, List.set_cons_zero]; simp
    have e2 : (a + ((x :: rest).length : Int), p ++ ms a (x :: rest).length) = (a + 1 + (rest.length : Int), (p ++ [mt a]) ++ ms (a + 1) rest.length) := by
      simp only [List.length_cons, ms, List.append_assoc, List.singleton_append]
      congr 1
      omega
    rw [e2, e1]
    rw [List.length_append, List.length_singleton] at h
    exact h
theorem markS_eq (xs : List ByteArray) (a : Int) (h0 : 0 ≤ a) (h1 : a + xs.length ≤ 4611686018427387904) (hl : xs.length ≤ 1099511627776) : Ev (fun k => laws_markStringS.f k xs a) (a + xs.length, ms a xs.length) := by
  have h := markS_loop xs [] a h0 h1 (by simpa using hl)
  exact h
theorem heldS_loop (n : Nat) : ∀ (p : List ByteArray) (a : Int), 0 ≤ a → a + n ≤ 4611686018427387904 → p.length + n ≤ 1099511627776 →
    Ev (fun k => laws_heldStringS.l0 k (p ++ ms a n) a p.length) (a + n) := by
  induction n with
  | zero =>
    intro p a h0 h1 hl
    refine Ev.step (f := fun _ => some a) (fun k => ?_) (by simpa using Ev.now a)
    simp only [laws_heldStringS.l0]
    rw [if_neg (by simp [ms])]
  | succ n ih =>
    intro p a h0 h1 hl
    have hw : wrap64 ((p.length : Int) + 1) = ((p.length + 1 : Nat) : Int) := by rw [wrap_in (by omega) (by omega)]; omega
    have hwa : wrap64 (a + 1) = a + 1 := wrap_in (by omega) (by omega)
    have hlen : (p ++ ms a (n + 1)).length = p.length + (n + 1) := by rw [List.length_append, ms_len]
    have hrd : rdOf ByteArray.empty (p ++ ms a (n + 1)) (p.length : Int) = mt a := by
      rw [rdOf_at _ _ _ (by rw [hlen]; omega), List.getElem_append_right (Nat.le_refl _)]
      simp [ms]
    refine Ev.step (f := fun k => (laws_markText.f k a).bind fun t => if (mt a).toList = t.toList then laws_heldStringS.l0 k (p ++ ms a (n + 1)) (a + 1) ((p.length + 1 : Nat) : Int) else some (-1)) (fun k => ?_) ?_
    · simp only [laws_heldStringS.l0]
      rw [if_pos (by rw [hlen]; omega), if_pos (by omega), hrd, hwa, hw]
    refine Ev.bind (mt_ev a h0 (by omega)) ?_
    refine Ev.congr (f := fun k => laws_heldStringS.l0 k (p ++ ms a (n + 1)) (a + 1) ((p.length + 1 : Nat) : Int)) (fun k => by rw [if_pos rfl]) ?_
    have h := ih (p ++ [mt a]) (a + 1) (by omega) (by omega) (by simp; omega)
    rw [List.length_append, List.length_singleton, List.append_assoc, List.singleton_append] at h
    rw [show a + ((n + 1 : Nat) : Int) = a + 1 + (n : Int) by omega]
    exact h
theorem heldS_eq (n : Nat) (a : Int) (h0 : 0 ≤ a) (h1 : a + n ≤ 4611686018427387904) (hl : n ≤ 1099511627776) : Ev (fun k => laws_heldStringS.f k (ms a n) a) (a + n) := by
  have h := heldS_loop n [] a h0 h1 (by simpa using hl)
  exact h

/-! ### a list of entries -/
/-- How many marks a list takes. -/
def wN (l : List S44) : Nat := (l.map fun e => e.f1.length + 1).sum
theorem wN_cons (e : S44) (l : List S44) : wN (e :: l) = e.f1.length + 1 + wN l := rfl
noncomputable def mk (a : Int) : List S44 → List S44
  | [] => []
  | e :: l => ⟨mt a, ms (a + 1) e.f1.length⟩ :: mk (a + 1 + e.f1.length) l
theorem mk_len (l : List S44) : ∀ a, (mk a l).length = l.length := by
  induction l with
  | nil => intro a; rfl
  | cons e l ih => intro a; simp [mk, ih]
theorem wN_le (l : List S44) : wN l ≤ (out l).size := by
  induction l with
  | nil => exact Nat.le_refl _
  | cons e l ih => rw [wN_cons, out_cons, ByteArray.size_append, tx_size, nm_len]; omega
theorem len_le_wN (l : List S44) : l.length ≤ wN l := by
  induction l with
  | nil => exact Nat.le_refl _
  | cons e l ih => rw [wN_cons, List.length_cons]; omega
theorem markE_loop (rest : List S44) : ∀ (p : List S44) (a : Int), 0 ≤ a → a + wN rest ≤ 4611686018427387904 → wN rest ≤ 1099511627776 → (p ++ rest).length ≤ 1099511627776 →
    Ev (fun k => laws_markEntryS.l0 k (p ++ rest) a p.length) (a + wN rest, p ++ mk a rest) := by
  induction rest with
  | nil =>
    intro p a h0 h1 _ hl
    refine Ev.step (f := fun _ => some (a, p ++ [])) (fun k => ?_) (by simpa [mk, wN] using Ev.now (a, p))
    simp only [laws_markEntryS.l0]
    rw [if_neg (by simp)]
  | cons x rest ih =>
    intro p a h0 h1 hwn hl
    rw [List.length_append, List.length_cons] at hl
    rw [wN_cons] at h1 hwn
    have hw : wrap64 ((p.length : Int) + 1) = ((p.length + 1 : Nat) : Int) := by rw [wrap_in (by omega) (by omega)]; omega
    have hwa : wrap64 (a + 1) = a + 1 := wrap_in (by omega) (by omega)
    have hrd : rd_T44 (p ++ x :: rest) (p.length : Int) = x := by
      rw [rd44_at _ _ (by simp), List.getElem_append_right (Nat.le_refl _)]
      simp
    refine Ev.step (f := fun k => (laws_markText.f k a).bind fun t => (laws_markStringS.f k x.f1 (a + 1)).bind fun q => laws_markEntryS.l0 k ((p ++ x :: rest).set p.length ⟨t, q.2⟩) q.1 ((p.length + 1 : Nat) : Int)) (fun k => ?_) ?_
    · simp only [laws_markEntryS.l0]
      rw [if_pos (by simp; omega), hwa, hw, hrd]
      rfl
    refine Ev.bind (mt_ev a h0 (by omega)) ?_
    refine Ev.bind (markS_eq x.f1 (a + 1) (by omega) (by omega) (by omega)) ?_
    have h := ih (p ++ [⟨mt a, ms (a + 1) x.f1.length⟩]) (a + 1 + x.f1.length) (by omega) (by omega) (by omega) (by simp; omega)
    have e1 : (p ++ x :: rest).set p.length (⟨mt a, ms (a + 1) x.f1.length⟩ : S44) = (p ++ [⟨mt a, ms (a + 1) x.f1.length⟩]) ++ rest := by
      rw [List.set_append_right _ _ (Nat.le_refl _), Nat.sub_self, List.set_cons_zero]; simp
    have e2 : (a + (wN (x :: rest) : Int), p ++ mk a (x :: rest)) = (a + 1 + (x.f1.length : Int) + (wN rest : Int), (p ++ [(⟨mt a, ms (a + 1) x.f1.length⟩ : S44)]) ++ mk (a + 1 + x.f1.length) rest) := by
      simp only [wN_cons, mk, List.append_assoc, List.singleton_append]
      congr 1
      omega
    rw [e2]
    show Ev (fun k => laws_markEntryS.l0 k ((p ++ x :: rest).set p.length (⟨mt a, ms (a + 1) x.f1.length⟩ : S44)) (a + 1 + (x.f1.length : Int)) ((p.length + 1 : Nat) : Int)) _
    rw [e1]
    rw [List.length_append, List.length_singleton] at h
    exact h
theorem heldE_loop (rest : List S44) : ∀ (p : List S44) (a : Int), 0 ≤ a → a + wN rest ≤ 4611686018427387904 → wN rest ≤ 1099511627776 → p.length + rest.length ≤ 1099511627776 →
    Ev (fun k => laws_heldEntryS.l0 k (p ++ mk a rest) a p.length) (a + wN rest) := by
  induction rest with
  | nil =>
    intro p a h0 h1 _ hl
    refine Ev.step (f := fun _ => some a) (fun k => ?_) (by simpa [wN] using Ev.now a)
    simp only [laws_heldEntryS.l0]
    rw [if_neg (by simp [mk])]
  | cons x rest ih =>
    intro p a h0 h1 hwn hl
    rw [List.length_cons] at hl
    rw [wN_cons] at h1 hwn
    have hw : wrap64 ((p.length : Int) + 1) = ((p.length + 1 : Nat) : Int) := by rw [wrap_in (by omega) (by omega)]; omega
    have hwa : wrap64 (a + 1) = a + 1 := wrap_in (by omega) (by omega)
    have hlen : (p ++ mk a (x :: rest)).length = p.length + (rest.length + 1) := by rw [List.length_append, mk_len, List.length_cons]
    have hrd : rd_T44 (p ++ mk a (x :: rest)) (p.length : Int) = ⟨mt a, ms (a + 1) x.f1.length⟩ := by
      rw [rd44_at _ _ (by rw [hlen]; omega), List.getElem_append_right (Nat.le_refl _)]
      simp [mk]
    refine Ev.step (f := fun k => (laws_markText.f k a).bind fun t => if (mt a).toList = t.toList then (laws_heldStringS.f k (ms (a + 1) x.f1.length) (a + 1)).bind (fun u => if u < 0 then some (-1) else laws_heldEntryS.l0 k (p ++ mk a (x :: rest)) u ((p.length + 1 : Nat) : Int)) else some (-1)) (fun k => ?_) ?_
    · simp only [laws_heldEntryS.l0]
      rw [if_pos (by rw [hlen]; omega), if_pos (by omega), hrd, hwa, hw]
    refine Ev.bind (mt_ev a h0 (by omega)) ?_
    refine Ev.congr (f := fun k => (laws_heldStringS.f k (ms (a + 1) x.f1.length) (a + 1)).bind (fun u => if u < 0 then some (-1) else laws_heldEntryS.l0 k (p ++ mk a (x :: rest)) u ((p.length + 1 : Nat) : Int))) (fun k => by rw [if_pos rfl]) ?_
    refine Ev.bind (heldS_eq x.f1.length (a + 1) (by omega) (by omega) (by omega)) ?_
    refine Ev.congr (f := fun k => laws_heldEntryS.l0 k (p ++ mk a (x :: rest)) (a + 1 + (x.f1.length : Int)) ((p.length + 1 : Nat) : Int)) (fun k => by rw [if_neg (by omega)]) ?_
    have h := ih (p ++ [⟨mt a, ms (a + 1) x.f1.length⟩]) (a + 1 + x.f1.length) (by omega) (by omega) (by omega) (by simp; omega)
    rw [List.length_append, List.length_singleton, List.append_assoc, List.singleton_append] at h
    rw [wN_cons, show a + ((x.f1.length + 1 + wN rest : Nat) : Int) = a + 1 + (x.f1.length : Int) + (wN rest : Int) by omega]
    exact h

theorem Ev.both {α β : Type} {g : Nat → Option α} {h : Nat → Option β} {a : α} {b : β} (hg : Ev g a) (hh : Ev h b) : Ev (fun k => (g k).bind fun x => (h k).bind fun y => some (x, y)) (a, b) :=
  Ev.bind hg (Ev.bind hh (Ev.now _))

/-- THE PLAIN LAW: all that the walk asks for. -/
theorem law (s : ByteArray) (hs : s.size ≤ 1048576) : ∃ (k : Nat) (b : Bool) (G G' : List S44) (m : Int), spec_ReadManifest.f k s = some (G, b) ∧ impl_ReadManifest.f k s = some (G, b) ∧
    laws_eqEntryS.f k G G = some true ∧ laws_markEntryS.f k G 1 = some (m, G') ∧ laws_heldEntryS.f k G' 1 = some m ∧ 0 ≤ m := by
  obtain ⟨G, b, ⟨K1, h1⟩, ⟨K2, h2⟩, hg⟩ := read_same s hs
  have hn := wN_le G
  have hz := hg.size
  obtain ⟨K3, h3⟩ := eqEntryS_eq G hg.len hg.each
  obtain ⟨K4, h4⟩ := markE_loop G [] 1 (by omega) (by omega) (by omega) (by have := hg.len; simp; omega)
  obtain ⟨K5, h5⟩ := heldE_loop G [] 1 (by omega) (by omega) (by omega) (by have := hg.len; simp; omega)
  refine ⟨K1 + K2 + K3 + K4 + K5, b, G, mk 1 G, 1 + wN G, h1 _ (by omega), h2 _ (by omega), h3 _ (by omega), h4 _ (by omega), h5 _ (by omega), by omega⟩
end Go.Proofs.YtgjbdheekjjaeaaDoor.Pb
