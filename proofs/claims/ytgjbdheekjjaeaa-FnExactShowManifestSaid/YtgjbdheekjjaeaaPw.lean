/- The plain law of FnExactShowManifest, its last part: what both functions make of a list of entries is one text, and the printed law answers true; for every list of entries whose texts and lists have at most 2^63-1 bytes and items. -/
import Derived.Test.YtgjbdheekjjaeaaPv
import Derived.Lib.Join
namespace Go.Proofs.Ytgjbdheekjjaeaa.Pu
open Go.RowKit Go.Proofs.Ytgjbdheekjjaeaa.X1 Go.Proofs.YtgjbdheekjjaeaaW.PrintWords

def blank : ByteArray := ⟨#[32]⟩
def line : ByteArray := ⟨#[10]⟩
def nm (xs : List ByteArray) : ByteArray := xs.foldr (fun s b => blank ++ (s ++ b)) ByteArray.empty
def tx (e : S34) : ByteArray := e.f0 ++ (nm e.f1 ++ line)
def out (l : List S34) : ByteArray := l.foldr (fun e b => tx e ++ b) ByteArray.empty
def okE (e : S34) : Bool := pathB e.f0 && e.f1.all nameB
def SM (l : List S34) (acc : ByteArray) : ByteArray := if l.all okE = true then acc ++ out l else ByteArray.empty

structure Small (e : S34) : Prop where
  path : e.f0.size ≤ 1048576
  len : e.f1.length ≤ 1048576
  names : ∀ s ∈ e.f1, s.size ≤ 1048576

theorem nm_cons (s : ByteArray) (xs : List ByteArray) : nm (s :: xs) = blank ++ (s ++ nm xs) := rfl
theorem out_cons (e : S34) (l : List S34) : out (e :: l) = tx e ++ out l := rfl
theorem nm_size (s : ByteArray) (xs : List ByteArray) : (nm (s :: xs)).size = 1 + (s.size + (nm xs).size) := by
  rw [nm_cons, ByteArray.size_append, ByteArray.size_append]; rfl
theorem tx_size (e : S34) : (tx e).size = e.f0.size + ((nm e.f1).size + 1) := by
  unfold tx; rw [ByteArray.size_append, ByteArray.size_append]; rfl

/-! ### the reference -/
theorem spec_inner (l : List S34) (hl : l.length ≤ 1048576) (hx : ∀ e ∈ l, Small e) (i : Nat) (hi : i < l.length)
    (next : ∀ acc : ByteArray, acc.size + (out (l.drop (i + 1))).size ≤ 1099511627776 → Ev (fun k => spec_ShowManifest.l0 k l acc ((i + 1 : Nat) : Int)) (SM (l.drop (i + 1)) acc)) (d : Nat) :
    ∀ (j : Nat) (acc : ByteArray), j + d = l[i].f1.length → acc.size + ((nm (l[i].f1.drop j)).size + 1 + (out (l.drop (i + 1))).size) ≤ 1099511627776 →
      Ev (fun k => spec_ShowManifest.l1 k l acc i j) (if (l[i].f1.drop j).all nameB = true then SM (l.drop (i + 1)) (acc ++ (nm (l[i].f1.drop j) ++ line)) else ByteArray.empty) := by
  induction d with
  | zero =>
    intro j acc hj hs
    have hje : j = l[i].f1.length := by omega
    have hw : wrap64 ((i : Int) + 1) = ((i + 1 : Nat) : Int) := by rw [wrap_in (by omega) (by omega)]; omega
    rw [show l[i].f1.drop j = [] from by rw [hje, List.drop_length]] at hs ⊢
    have e0 : nm [] ++ line = line := ByteArray.empty_append
    rw [e0, if_pos (by rfl)]
    have hsz : (acc ++ line).size = acc.size + 1 := by rw [ByteArray.size_append]; rfl
    refine Ev.step (f := fun k => spec_ShowManifest.l0 k l (acc ++ line) ((i + 1 : Nat) : Int)) (fun k => ?_) (next _ (by rw [hsz]; omega))
    simp only [spec_ShowManifest.l1]
    rw [if_pos (by omega), if_pos (by omega), rd34_at _ _ hi, if_neg (by omega), if_pos (by omega), hw]
    rfl
  | succ d ih =>
    intro j acc hj hs
    have hlt : j < l[i].f1.length := by omega
    have hsm := hx _ (List.getElem_mem hi)
    have hln := hsm.len
    have hns := hsm.names _ (List.getElem_mem hlt)
    have hw : wrap64 ((j : Int) + 1) = ((j + 1 : Nat) : Int) := by rw [wrap_in (by omega) (by omega)]; omega
    rw [List.drop_eq_getElem_cons hlt] at hs ⊢
    rw [nm_size] at hs
    have hs1 : (acc ++ blank).size = acc.size + 1 := by rw [ByteArray.size_append]; rfl
    have hs2 : (acc ++ blank ++ l[i].f1[j]).size = acc.size + 1 + l[i].f1[j].size := by rw [ByteArray.size_append, hs1]
    have hst : ∀ k, spec_ShowManifest.l1 (k + 1) l acc i j = (spec_l26Name.f k l[i].f1[j]).bind fun t => if t = true then spec_ShowManifest.l1 k l (acc ++ blank ++ l[i].f1[j]) i ((j + 1 : Nat) : Int) else some ByteArray.empty := by
      intro k
      simp only [spec_ShowManifest.l1]
      rw [if_pos (by omega), if_pos (by omega), rd34_at _ _ hi, if_pos (by omega), if_pos (by omega), rdOf_at _ _ _ hlt, hw]
      congr 1; funext t
      split
      · rw [if_pos (by omega)]
        have : (acc ++ ({ data := #[32] } : ByteArray)).size = acc.size + 1 := hs1
        rw [if_pos (by omega)]; rfl
      · rfl
    refine Ev.step (f := fun k => (spec_l26Name.f k l[i].f1[j]).bind fun t => if t = true then spec_ShowManifest.l1 k l (acc ++ blank ++ l[i].f1[j]) i ((j + 1 : Nat) : Int) else some ByteArray.empty) hst ?_
    refine Ev.bind (l26Name_eq _ (by omega)) ?_
    cases hb : nameB l[i].f1[j] with
    | true =>
      have e1 : (l[i].f1[j] :: l[i].f1.drop (j + 1)).all nameB = (l[i].f1.drop (j + 1)).all nameB := by rw [List.all_cons, hb, Bool.true_and]
      rw [e1, nm_cons, show acc ++ (blank ++ (l[i].f1[j] ++ nm (l[i].f1.drop (j + 1))) ++ line) = acc ++ blank ++ l[i].f1[j] ++ (nm (l[i].f1.drop (j + 1)) ++ line) by simp only [ByteArray.append_assoc]]
      exact ih (j + 1) _ (by omega) (by rw [hs2]; omega)
    | false =>
      have e1 : (l[i].f1[j] :: l[i].f1.drop (j + 1)).all nameB = false := by rw [List.all_cons, hb, Bool.false_and]
      rw [e1]
      exact Ev.now _

theorem spec_outer (l : List S34) (hl : l.length ≤ 1048576) (hx : ∀ e ∈ l, Small e) (d : Nat) : ∀ (i : Nat) (acc : ByteArray), i + d = l.length → acc.size + (out (l.drop i)).size ≤ 1099511627776 →
    Ev (fun k => spec_ShowManifest.l0 k l acc i) (SM (l.drop i) acc) := by
  induction d with
  | zero =>
    intro i acc hi _
    have hie : i = l.length := by omega
    rw [show l.drop i = [] from by rw [hie, List.drop_length]]
    have e0 : SM [] acc = acc := ByteArray.append_empty
    rw [e0]
    refine Ev.step (f := fun _ => some acc) (fun k => ?_) (Ev.now _)
    simp only [spec_ShowManifest.l0]
    rw [if_neg (by omega)]
  | succ d ih =>
    intro i acc hi hs
    have hlt : i < l.length := by omega
    have hsm := hx _ (List.getElem_mem hlt)
    have hp := hsm.path
    rw [List.drop_eq_getElem_cons hlt] at hs ⊢
    rw [out_cons, ByteArray.size_append, tx_size] at hs
    have hs2 : (acc ++ l[i].f0).size = acc.size + l[i].f0.size := ByteArray.size_append
    refine Ev.step (f := fun k => (spec_l2Path.f k l[i].f0).bind fun t => if t = true then spec_ShowManifest.l1 k l (acc ++ l[i].f0) i ((0 : Nat) : Int) else some ByteArray.empty) (fun k => ?_) ?_
    · simp only [spec_ShowManifest.l0]
      rw [if_pos (by omega), if_pos (by omega), rd34_at _ _ hlt]
      congr 1; funext t
      split
      · rw [if_pos (by omega)]; rfl
      · rfl
    refine Ev.bind (l2Path_eq _ (by omega)) ?_
    cases hb : pathB l[i].f0 with
    | true =>
      have key := spec_inner l hl hx i hlt (fun acc h => ih (i + 1) acc (by omega) h) l[i].f1.length 0 (acc ++ l[i].f0) (by omega) (by rw [hs2, List.drop_zero]; omega)
      rw [List.drop_zero] at key
      have e1 : SM (l[i] :: l.drop (i + 1)) acc = if l[i].f1.all nameB = true then SM (l.drop (i + 1)) (acc ++ l[i].f0 ++ (nm l[i].f1 ++ line)) else ByteArray.empty := by
        unfold SM
        cases hn : l[i].f1.all nameB with
        | true =>
          have : (l[i] :: l.drop (i + 1)).all okE = (l.drop (i + 1)).all okE := by
            rw [List.all_cons, show okE l[i] = true by unfold okE; rw [hb, hn]; rfl, Bool.true_and]
          rw [this, if_pos rfl, out_cons]
          unfold tx
          simp only [ByteArray.append_assoc]
        | false =>
          have : (l[i] :: l.drop (i + 1)).all okE = false := by
            rw [List.all_cons, show okE l[i] = false by unfold okE; rw [hb, hn]; rfl, Bool.false_and]
          rw [this]; rfl
      rw [e1]
      exact key
    | false =>
      have e1 : SM (l[i] :: l.drop (i + 1)) acc = ByteArray.empty := by
        unfold SM
        rw [List.all_cons, show okE l[i] = false by unfold okE; rw [hb]; rfl, Bool.false_and]; rfl
      rw [e1]
      exact Ev.now _

/-! ### the program -/
theorem index_loop (xs : List ByteArray) (hl : xs.length ≤ 1048576) (hx : ∀ s ∈ xs, s.size ≤ 1048576) (d : Nat) : ∀ i : Nat, i + d = xs.length →
    ∃ r : Int, Ev (fun k => slices_IndexFunc_string_string.l0 k xs xs.length i) r ∧ decide (r ≥ 0) = !((xs.drop i).all nameB) := by
  induction d with
  | zero =>
    intro i hi
    have hie : i = xs.length := by omega
    refine ⟨-1, Ev.step (f := fun _ => some (-1)) (fun k => ?_) (Ev.now _), by rw [hie, List.drop_length]; rfl⟩
    simp only [slices_IndexFunc_string_string.l0]
    rw [if_neg (by omega)]
  | succ d ih =>
    intro i hi
    have hlt : i < xs.length := by omega
    have hs := hx _ (List.getElem_mem hlt)
    have hw : wrap64 ((i : Int) + 1) = ((i + 1 : Nat) : Int) := by rw [wrap_in (by omega) (by omega)]; omega
    rw [List.drop_eq_getElem_cons hlt]
    have hst : ∀ k, slices_IndexFunc_string_string.l0 (k + 1) xs xs.length i = (impl_ShowManifest_1.f k xs[i]).bind fun t => if t = true then some (i : Int) else slices_IndexFunc_string_string.l0 k xs xs.length ((i + 1 : Nat) : Int) := by
      intro k
      simp only [slices_IndexFunc_string_string.l0]
      rw [if_pos (by omega), if_pos (by omega), if_pos (by omega), rdOf_at _ _ _ hlt, hw]
    have hp : Ev (fun k => impl_ShowManifest_1.f k xs[i]) (!nameB xs[i]) := by
      unfold impl_ShowManifest_1.f; exact Ev.bind (wordy_eq _ (by omega)) (Ev.now _)
    cases hb : nameB xs[i] with
    | true =>
      obtain ⟨r, hr, he⟩ := ih (i + 1) (by omega)
      rw [hb] at hp
      refine ⟨r, Ev.step hst (Ev.bind hp hr), by rw [he, List.all_cons, hb, Bool.true_and]⟩
    | false =>
      rw [hb] at hp
      refine ⟨(i : Int), Ev.step hst (Ev.bind hp (Ev.now _)), by rw [List.all_cons, hb]; simp⟩

theorem contains_eq (xs : List ByteArray) (hl : xs.length ≤ 1048576) (hx : ∀ s ∈ xs, s.size ≤ 1048576) : Ev (fun k => slices_ContainsFunc_string_string.f k xs ()) (!(xs.all nameB)) := by
  obtain ⟨r, hr, he⟩ := index_loop xs hl hx xs.length 0 (by omega)
  rw [List.drop_zero] at he
  unfold slices_ContainsFunc_string_string.f
  rw [← he]
  exact Ev.bind (a := r) hr (Ev.now _)

theorem toList_data (s : ByteArray) : (⟨s.data.toList.toArray⟩ : ByteArray) = s := by cases s; simp
theorem joinTail_nm (xs : List ByteArray) : (⟨(Lib.joinTail [32] (xs.map (·.data.toList))).toArray⟩ : ByteArray) = nm xs := by
  induction xs with
  | nil => rfl
  | cons s xs ih =>
    rw [nm_cons, ← ih]
    apply ByteArray.ext
    simp [Lib.joinTail, blank, ByteArray.data_append]
theorem join_nm (p : ByteArray) (xs : List ByteArray) : (⟨(Lib.join ((p :: xs).map (·.data.toList)) (⟨#[32]⟩ : ByteArray).data.toList).toArray⟩ : ByteArray) = p ++ nm xs := by
  rw [List.map_cons, Lib.join_cons, ← joinTail_nm]
  apply ByteArray.ext
  simp [ByteArray.data_append]
theorem join_len (p : ByteArray) (xs : List ByteArray) : (Lib.join ((p :: xs).map (·.data.toList)) (⟨#[32]⟩ : ByteArray).data.toList).length = p.size + (nm xs).size := by
  have := congrArg ByteArray.size (join_nm p xs)
  rw [ByteArray.size_append] at this
  rw [← this]; simp [ByteArray.size]

theorem impl_loop (l : List S34) (hl : l.length ≤ 1048576) (hx : ∀ e ∈ l, Small e) (d : Nat) : ∀ (i : Nat) (acc : ByteArray), i + d = l.length → acc.size + (out (l.drop i)).size ≤ 1099511627776 →
    Ev (fun k => impl_ShowManifest.l0 k acc l l.length i) (SM (l.drop i) acc) := by
  induction d with
  | zero =>
    intro i acc hi _
    have hie : i = l.length := by omega
    rw [show l.drop i = [] from by rw [hie, List.drop_length]]
    have e0 : SM [] acc = acc := ByteArray.append_empty
    rw [e0]
    refine Ev.step (f := fun _ => some acc) (fun k => ?_) (Ev.now _)
    simp only [impl_ShowManifest.l0]
    rw [if_neg (by omega)]
  | succ d ih =>
    intro i acc hi hs
    have hlt : i < l.length := by omega
    have hsm := hx _ (List.getElem_mem hlt)
    have hp := hsm.path
    have hn := hsm.len
    have hw : wrap64 ((i : Int) + 1) = ((i + 1 : Nat) : Int) := by rw [wrap_in (by omega) (by omega)]; omega
    rw [List.drop_eq_getElem_cons hlt] at hs ⊢
    rw [out_cons, ByteArray.size_append, tx_size] at hs
    have hj : M.strings_Join.f ([l[i].f0] ++ l[i].f1) (⟨#[32]⟩ : ByteArray) = some (l[i].f0 ++ nm l[i].f1) := by
      unfold M.strings_Join.f
      rw [List.singleton_append, join_len, if_pos (by omega), if_pos (by rw [List.length_cons]; omega), join_nm]
    have hz : (l[i].f0 ++ nm l[i].f1).size = l[i].f0.size + (nm l[i].f1).size := ByteArray.size_append
    have hz1 : (l[i].f0 ++ nm l[i].f1 ++ line).size = l[i].f0.size + (nm l[i].f1).size + 1 := by rw [ByteArray.size_append, hz]; rfl
    have ht : l[i].f0 ++ nm l[i].f1 ++ line = tx l[i] := by unfold tx; rw [ByteArray.append_assoc]
    refine Ev.step (f := fun k => (impl_isPath.f k l[i].f0).bind fun t => if t = true then (slices_ContainsFunc_string_string.f k l[i].f1 ()).bind (fun u => if u = true then some ByteArray.empty else impl_ShowManifest.l0 k (acc ++ tx l[i]) l l.length ((i + 1 : Nat) : Int)) else some ByteArray.empty) (fun k => ?_) ?_
    · simp only [impl_ShowManifest.l0]
      rw [if_pos (by omega), if_pos (by omega), if_pos (by omega), rd34_at _ _ hlt, hw]
      congr 1; funext t
      split
      · congr 1; funext u
        split
        · rfl
        · simp only [Option.bind_some]
          rw [if_pos (by simp; omega), hj]
          simp only [Option.bind_some]
          rw [if_pos (by omega)]
          have hz2 : (l[i].f0 ++ nm l[i].f1 ++ ({ data := #[10] } : ByteArray)).size = l[i].f0.size + (nm l[i].f1).size + 1 := hz1
          rw [if_pos (by omega), ← ht]; rfl
      · rfl
    refine Ev.bind (isPath_eq _ (by omega)) ?_
    cases hb : pathB l[i].f0 with
    | true =>
      refine Ev.bind (contains_eq _ hn hsm.names) ?_
      cases hc : l[i].f1.all nameB with
      | true =>
        have e1 : SM (l[i] :: l.drop (i + 1)) acc = SM (l.drop (i + 1)) (acc ++ tx l[i]) := by
          unfold SM
          rw [List.all_cons, show okE l[i] = true by unfold okE; rw [hb, hc]; rfl, Bool.true_and, out_cons]
          simp only [ByteArray.append_assoc]
        rw [e1]
        exact ih (i + 1) _ (by omega) (by rw [ByteArray.size_append, tx_size]; omega)
      | false =>
        have e1 : SM (l[i] :: l.drop (i + 1)) acc = ByteArray.empty := by
          unfold SM
          rw [List.all_cons, show okE l[i] = false by unfold okE; rw [hb, hc]; rfl, Bool.false_and]; rfl
        rw [e1]
        exact Ev.now _
    | false =>
      have e1 : SM (l[i] :: l.drop (i + 1)) acc = ByteArray.empty := by
        unfold SM
        rw [List.all_cons, show okE l[i] = false by unfold okE; rw [hb]; rfl, Bool.false_and]; rfl
      rw [e1]
      exact Ev.now _

/-! ### the copy is as it was -/
theorem eqStringS_loop (xs : List ByteArray) (hl : xs.length ≤ 1048576) (d : Nat) : ∀ i : Nat, i + d = xs.length → Ev (fun k => laws_eqStringS.l0 k xs xs i) true := by
  induction d with
  | zero =>
    intro i hi
    refine Ev.step (f := fun _ => some true) (fun k => ?_) (Ev.now _)
    simp only [laws_eqStringS.l0]
    rw [if_neg (by omega)]
  | succ d ih =>
    intro i hi
    have hlt : i < xs.length := by omega
    have hw : wrap64 ((i : Int) + 1) = ((i + 1 : Nat) : Int) := by rw [wrap_in (by omega) (by omega)]; omega
    refine Ev.step (f := fun k => laws_eqStringS.l0 k xs xs ((i + 1 : Nat) : Int)) (fun k => ?_) (ih (i + 1) (by omega))
    simp only [laws_eqStringS.l0]
    rw [if_pos (by omega), if_pos (by omega), if_pos (by omega), if_pos trivial, hw]
theorem eqStringS_eq (xs : List ByteArray) (hl : xs.length ≤ 1048576) : Ev (fun k => laws_eqStringS.f k xs xs) true := by
  unfold laws_eqStringS.f
  exact Ev.congr (f := fun k => laws_eqStringS.l0 k xs xs 0) (fun k => by rw [if_pos rfl]) (eqStringS_loop xs hl xs.length 0 (by omega))
theorem eqEntry_eq (e : S34) (he : e.f1.length ≤ 1048576) : Ev (fun k => laws_eqEntry.f k e.f0 e.f1 e.f0 e.f1) true := by
  unfold laws_eqEntry.f
  refine Ev.congr (f := fun k => (laws_eqStringS.f k e.f1 e.f1).bind fun t => if t = true then some true else some false) (fun k => by rw [if_pos rfl]) ?_
  exact Ev.bind (eqStringS_eq _ he) (Ev.now _)
theorem eqEntryS_loop (l : List S34) (hl : l.length ≤ 1048576) (hx : ∀ e ∈ l, Small e) (d : Nat) : ∀ i : Nat, i + d = l.length → Ev (fun k => laws_eqEntryS.l0 k l l i) true := by
  induction d with
  | zero =>
    intro i hi
    refine Ev.step (f := fun _ => some true) (fun k => ?_) (Ev.now _)
    simp only [laws_eqEntryS.l0]
    rw [if_neg (by omega)]
  | succ d ih =>
    intro i hi
    have hlt : i < l.length := by omega
    have hw : wrap64 ((i : Int) + 1) = ((i + 1 : Nat) : Int) := by rw [wrap_in (by omega) (by omega)]; omega
    refine Ev.step (f := fun k => (laws_eqEntry.f k l[i].f0 l[i].f1 l[i].f0 l[i].f1).bind fun t => if t = true then laws_eqEntryS.l0 k l l ((i + 1 : Nat) : Int) else some false) (fun k => ?_) (Ev.bind (eqEntry_eq _ (hx _ (List.getElem_mem hlt)).len) (ih (i + 1) (by omega)))
    simp only [laws_eqEntryS.l0]
    rw [if_pos (by omega), if_pos (by omega), if_pos (by omega), rd34_at _ _ hlt, hw]
theorem eqEntryS_eq (l : List S34) (hl : l.length ≤ 1048576) (hx : ∀ e ∈ l, Small e) : Ev (fun k => laws_eqEntryS.f k l l) true := by
  unfold laws_eqEntryS.f
  exact Ev.congr (f := fun k => laws_eqEntryS.l0 k l l 0) (fun k => by rw [if_pos rfl]) (eqEntryS_loop l hl hx l.length 0 (by omega))

/-! ### how long it all is -/
theorem mem_sum {α : Type} (f : α → Nat) (l : List α) (x : α) (h : x ∈ l) : f x ≤ (l.map f).sum := by
  induction l with
  | nil => simp at h
  | cons y l ih =>
    rw [List.map_cons, List.sum_cons]
    rcases List.mem_cons.1 h with rfl | h
    · omega
    · have := ih h; omega
theorem nm_len (xs : List ByteArray) : (nm xs).size = xs.length + sN xs := by
  induction xs with
  | nil => rfl
  | cons s xs ih => rw [nm_size, ih]; simp only [sN, List.map_cons, List.sum_cons, List.length_cons]; omega
theorem out_len (l : List S32) : (out (l.map cp)).size = l.length + wL l := by
  induction l with
  | nil => rfl
  | cons e l ih =>
    rw [List.map_cons, out_cons, ByteArray.size_append, tx_size, ih]
    have : (nm (cp e).f1).size = e.f1.length + sN e.f1 := nm_len _
    rw [this]
    simp only [wL, List.map_cons, List.sum_cons, List.length_cons, wE]
    have : (cp e).f0.size = e.f0.size := rfl
    omega

/-- THE PLAIN LAW. -/
theorem law (l : List S32) (hl : l.length ≤ 9223372036854775807) (hx : ∀ e ∈ l, Fine e) : Ev (fun k => laws_FnExactShowManifest.f k l) true := by
  unfold laws_FnExactShowManifest.f
  refine Ev.bind (szEntryS_eq l hl hx) ?_
  by_cases h : (1048576 : Int) < ((l.length + wL l : Nat) : Int)
  · exact Ev.congr (f := fun _ => some true) (fun k => by rw [if_pos ((left_lt (by omega)).2 h)]) (Ev.now _)
  · have hW : l.length + wL l ≤ 1048576 := by omega
    have hw1 : ∀ e ∈ l, wE e ≤ 1048576 := fun e he => by have := mem_sum wE l e he; unfold wL at hW; omega
    have hl1 : l.length ≤ 1048576 := by omega
    have hsm : ∀ e ∈ l.map cp, Small e := by
      intro e he
      obtain ⟨x, hx', rfl⟩ := List.mem_map.1 he
      have h1 := hw1 x hx'
      unfold wE at h1
      refine ⟨show x.f0.size ≤ _ by omega, show x.f1.length ≤ _ by omega, fun s hs => ?_⟩
      have := mem_sum ByteArray.size x.f1 s hs
      have h2 : sN x.f1 = (x.f1.map ByteArray.size).sum := rfl
      omega
    have hlm : (l.map cp).length ≤ 1048576 := by rw [List.length_map]; exact hl1
    have ho : (ByteArray.empty).size + (out ((l.map cp).drop 0)).size ≤ 1099511627776 := by
      rw [List.drop_zero, out_len, show ByteArray.empty.size = 0 from rfl]; omega
    have hcp := toEntryS_eq l hl1 (fun e he => by have := hw1 e he; unfold wE at this; omega)
    have hsp := spec_outer (l.map cp) hlm hsm (l.map cp).length 0 ByteArray.empty (by omega) ho
    have him := impl_loop (l.map cp) hlm hsm (l.map cp).length 0 ByteArray.empty (by omega) ho
    refine Ev.congr (f := fun k => _) (fun k => by rw [if_neg (by rw [left_lt (by omega)]; exact h)]) ?_
    refine Ev.bind hcp ?_
    refine Ev.bind (a := SM ((l.map cp).drop 0) ByteArray.empty) hsp ?_
    refine Ev.bind hcp ?_
    refine Ev.bind (a := SM ((l.map cp).drop 0) ByteArray.empty) him ?_
    refine Ev.congr (f := fun k => _) (fun k => by rw [if_pos rfl]) ?_
    refine Ev.bind hcp ?_
    refine Ev.bind (eqEntryS_eq _ hlm hsm) ?_
    exact Ev.now _
end Go.Proofs.Ytgjbdheekjjaeaa.Pu
