/- The plain law of FnExactReadManifest, second part: what both readers make of a text. -/
import Derived.Test.YtgjbdheekjjaeaaDoorPc
namespace Go.Proofs.YtgjbdheekjjaeaaDoor.Pb
open Go.RowKit Go.Proofs.YtgjbdheekjjaeaaDoor.X3 Go.Proofs.YtgjbdheekjjaeaaDoorW.PrintWords

theorem data_len (s : ByteArray) : s.data.toList.length = s.size := Array.length_toList
theorem bt_nat (s : ByteArray) (i : Nat) (h : i < s.size) : bt s (i : Int) = ((s.data.toList[i]'(by rw [data_len]; exact h)).toNat : Int) := by
  unfold bt
  rw [dif_pos (by simpa using h)]
  simp [ByteArray.getElem_eq_getElem_data]
theorem bt_eq (s : ByteArray) (i : Nat) (h : i < s.size) (c : UInt8) : (bt s (i : Int) = (c.toNat : Int)) ↔ s.data.toList[i]'(by rw [data_len]; exact h) = c := by
  rw [bt_nat s i h]
  constructor
  · intro e; exact UInt8.toNat_inj.1 (by omega)
  · intro e; rw [e]
theorem ext_snoc (s : ByteArray) (a i : Nat) (ha : a ≤ i) (h : i < s.size) : (s.extract a (i + 1)).data.toList = (s.extract a i).data.toList ++ [s.data.toList[i]'(by rw [data_len]; exact h)] := by
  have hl : i < s.data.toList.length := by rw [data_len]; exact h
  rw [Lib.extract_data, Lib.extract_data, show i + 1 - a = (i - a) + 1 by omega, List.take_succ_eq_append_getElem (by rw [List.length_drop]; omega)]
  congr 2
  rw [List.getElem_drop]
  congr 1
  omega
theorem ext_self (s : ByteArray) (a : Nat) : (s.extract a a).data.toList = [] := by rw [Lib.extract_data, Nat.sub_self, List.take_zero]
theorem ext_size (s : ByteArray) (a i : Nat) (h : i ≤ s.size) : (s.extract a i).size = i - a := by rw [ByteArray.size_extract]; omega

/-! ### one line -/
def fin (first : Bool) (f0 : ByteArray) (f1 : List ByteArray) (ps : List ByteArray) : ByteArray × List ByteArray := if first = true then (ps.headD ByteArray.empty, f1 ++ ps.tail) else (f0, f1 ++ ps)
theorem line_loop (s : ByteArray) (hs : s.size ≤ 1048576) (d : Nat) : ∀ (i fr : Nat) (first : Bool) (f0 : ByteArray) (f1 : List ByteArray), i + d = s.size → fr ≤ i → f1.length ≤ i →
    Ev (fun k => spec_l26Line.l0 k s fr first i f0 f1) (fin first f0 f1 ((pre (s.extract fr i).data.toList (cut 32 (s.data.toList.drop i))).map ofL)) := by
  induction d with
  | zero =>
    intro i fr first f0 f1 hi hf hl
    have hd : s.data.toList.drop i = [] := List.drop_eq_nil_of_le (by rw [data_len]; omega)
    rw [hd, show cut 32 [] = [[]] from rfl, show pre (s.extract fr i).data.toList [[]] = [(s.extract fr i).data.toList ++ []] from rfl, List.append_nil, List.map_singleton, ofL_data]
    have hw : wrap64 ((i : Int) + 1) = ((i + 1 : Nat) : Int) := by rw [wrap_in (by omega) (by omega)]; omega
    refine Ev.step (f := fun k => spec_l26Line.j1 k s fr first i false f0 f1) (fun k => ?_) ?_
    · simp only [spec_l26Line.l0]
      rw [if_pos (by omega), if_neg (by omega)]
    cases first with
    | true =>
      refine Ev.step (f := fun k => spec_l26Line.l0 k s ((i + 1 : Nat) : Int) false ((i + 1 : Nat) : Int) (s.extract fr i) f1) (fun k => ?_) ?_
      · simp only [spec_l26Line.j1]
        rw [if_neg (by simp), if_pos trivial, if_pos (by omega), if_pos (by omega), if_pos (by omega), hw]; rfl
      refine Ev.step (f := fun _ => some (s.extract fr i, f1)) (fun k => ?_) ?_
      · simp only [spec_l26Line.l0]
        rw [if_neg (by omega)]
      · have : fin true f0 f1 [s.extract fr i] = (s.extract fr i, f1) := by simp [fin]
        rw [this]; exact Ev.now _
    | false =>
      refine Ev.step (f := fun k => spec_l26Line.l0 k s ((i + 1 : Nat) : Int) false ((i + 1 : Nat) : Int) f0 (f1 ++ [s.extract fr i])) (fun k => ?_) ?_
      · simp only [spec_l26Line.j1]
        rw [if_neg (by simp), if_neg (by simp), if_pos (by omega), if_pos (by omega), if_pos (by omega), if_pos (by omega), hw]; rfl
      refine Ev.step (f := fun _ => some (f0, f1 ++ [s.extract fr i])) (fun k => ?_) ?_
      · simp only [spec_l26Line.l0]
        rw [if_neg (by omega)]
      · exact Ev.now _
  | succ d ih =>
    intro i fr first f0 f1 hi hf hl
    have hlt : i < s.size := by omega
    have hld : i < s.data.toList.length := by rw [data_len]; exact hlt
    have hw : wrap64 ((i : Int) + 1) = ((i + 1 : Nat) : Int) := by rw [wrap_in (by omega) (by omega)]; omega
    rw [List.drop_eq_getElem_cons hld]
    refine Ev.step (f := fun k => spec_l26Line.j1 k s fr first i ((bt s (i : Int)) != 32) f0 f1) (fun k => ?_) ?_
    · simp only [spec_l26Line.l0]
      rw [if_pos (by omega), if_pos (by omega), if_pos (by omega)]
    by_cases hb : s.data.toList[i] = 32
    · have hbt : bt s (i : Int) = 32 := (bt_eq s i hlt 32).2 hb
      rw [hb, pre_hit, hbt]
      cases first with
      | true =>
        refine Ev.step (f := fun k => spec_l26Line.l0 k s ((i + 1 : Nat) : Int) false ((i + 1 : Nat) : Int) (s.extract fr i) f1) (fun k => ?_) ?_
        · simp only [spec_l26Line.j1]
          rw [if_neg (by simp), if_pos trivial, if_pos (by omega), if_pos (by omega), if_pos (by omega), hw]; rfl
        have h := ih (i + 1) (i + 1) false (s.extract fr i) f1 (by omega) (Nat.le_refl _) (by omega)
        rw [ext_self, pre_nil _ (cut_ne _ _)] at h
        have e : fin true f0 f1 (((s.extract fr i).data.toList :: cut 32 (s.data.toList.drop (i + 1))).map ofL) = fin false (s.extract fr i) f1 ((cut 32 (s.data.toList.drop (i + 1))).map ofL) := by rw [List.map_cons, ofL_data]; simp [fin]
        rw [e]; exact h
      | false =>
        refine Ev.step (f := fun k => spec_l26Line.l0 k s ((i + 1 : Nat) : Int) false ((i + 1 : Nat) : Int) f0 (f1 ++ [s.extract fr i])) (fun k => ?_) ?_
        · simp only [spec_l26Line.j1]
          rw [if_neg (by simp), if_neg (by simp), if_pos (by omega), if_pos (by omega), if_pos (by omega), if_pos (by omega), hw]; rfl
        have h := ih (i + 1) (i + 1) false f0 (f1 ++ [s.extract fr i]) (by omega) (Nat.le_refl _) (by simp; omega)
        rw [ext_self, pre_nil _ (cut_ne _ _)] at h
        have e : fin false f0 f1 (((s.extract fr i).data.toList :: cut 32 (s.data.toList.drop (i + 1))).map ofL) = fin false f0 (f1 ++ [s.extract fr i]) ((cut 32 (s.data.toList.drop (i + 1))).map ofL) := by rw [List.map_cons, ofL_data]; simp [fin]
        rw [e]; exact h
    · have hbt : bt s (i : Int) ≠ 32 := fun e => hb ((bt_eq s i hlt 32).1 e)
      rw [pre_miss _ _ _ _ hb, ← ext_snoc s fr i hf hlt]
      refine Ev.step (f := fun k => spec_l26Line.l0 k s fr first ((i + 1 : Nat) : Int) f0 f1) (fun k => ?_) (ih (i + 1) fr first f0 f1 (by omega) (by omega) (by omega))
      simp only [spec_l26Line.j1]
      rw [if_pos (by simpa using hbt), hw]

/-- A line as both readers take it: its first word, and the others. -/
def lineE (s : ByteArray) : S44 := ⟨(pieces 32 s).headD ByteArray.empty, (pieces 32 s).tail⟩
theorem line_eq (s : ByteArray) (hs : s.size ≤ 1048576) : Ev (fun k => spec_l26Line.f k s) ((lineE s).f0, (lineE s).f1) := by
  have h := line_loop s hs s.size 0 0 true (⟨#[]⟩ : ByteArray) [] (by omega) (Nat.le_refl _) (Nat.le_refl _)
  rw [ext_self, pre_nil _ (cut_ne _ _), List.drop_zero] at h
  have e : fin true (⟨#[]⟩ : ByteArray) [] ((cut 32 s.data.toList).map ofL) = ((lineE s).f0, (lineE s).f1) := by simp [fin, lineE, pieces]
  rw [e] at h
  exact h

/-! ### the lists that are read are small -/
structure Good (l : List S44) : Prop where
  len : l.length ≤ 1048576
  each : ∀ e ∈ l, Small e
  size : (out l).size ≤ 1099511627776
/-- What is answered, where ok says whether the text ends as it must. -/
def finR (s : ByteArray) (ok : Bool) (l : List S44) : List S44 × Bool := if ok = true then (if (SM l ByteArray.empty).toList = s.toList then (l, true) else ([], false)) else ([], false)
theorem spec_show (l : List S44) (h : Good l) : Ev (fun k => spec_ShowManifest.f k l) (SM l ByteArray.empty) := by
  have hz : ByteArray.empty.size = 0 := rfl
  have := spec_outer l h.len h.each l.length 0 ByteArray.empty (by omega) (by rw [List.drop_zero, hz]; have := h.size; omega)
  rw [List.drop_zero] at this
  exact this
theorem impl_show (l : List S44) (h : Good l) : Ev (fun k => impl_ShowManifest.f k l) (SM l ByteArray.empty) := by
  have hz : ByteArray.empty.size = 0 := rfl
  have := impl_loop l h.len h.each l.length 0 ByteArray.empty (by omega) (by rw [List.drop_zero, hz]; have := h.size; omega)
  rw [List.drop_zero] at this
  exact this

/-! ### the reader that scans -/
theorem rm_loop (s : ByteArray) (hs : s.size ≤ 1048576) (d : Nat) : ∀ (i fr : Nat) (ps : List ByteArray) (o : List S44), i + d = s.size → fr ≤ i → ps = (pre (s.extract fr i).data.toList (cut 10 (s.data.toList.drop i))).map ofL → Good (o ++ ps.dropLast.map lineE) →
    Ev (fun k => spec_ReadManifest.l0 k s o fr i) (finR s (decide ((ps.getLastD ByteArray.empty).size = 0)) (o ++ ps.dropLast.map lineE)) := by
  induction d with
  | zero =>
    intro i fr ps o hi hf hps hg
    have hd : s.data.toList.drop i = [] := List.drop_eq_nil_of_le (by rw [data_len]; omega)
    rw [hd, show cut 10 [] = [[]] from rfl, show pre (s.extract fr i).data.toList [[]] = [(s.extract fr i).data.toList ++ []] from rfl, List.append_nil, List.map_singleton, ofL_data] at hps
    subst hps
    have hz : ([s.extract fr i].getLastD ByteArray.empty).size = i - fr := by rw [show [s.extract fr i].getLastD ByteArray.empty = s.extract fr i from rfl, ext_size _ _ _ (by omega)]
    have hdl : o ++ ([s.extract fr i] : List ByteArray).dropLast.map lineE = o := by simp
    rw [hdl] at hg ⊢
    rw [hz]
    by_cases he : fr = s.size
    · refine Ev.step (f := fun k => (spec_ShowManifest.f k o).bind fun t => if t.toList = s.toList then some (o, true) else some ([], false)) (fun k => ?_) ?_
      · simp only [spec_ReadManifest.l0]
        rw [if_neg (by omega), if_pos (by omega)]
      refine Ev.bind (spec_show o hg) ?_
      rw [show decide (i - fr = 0) = true from decide_eq_true (by omega)]
      unfold finR
      rw [if_pos rfl]
      split <;> exact Ev.now _
    · refine Ev.step (f := fun _ => some ([], false)) (fun k => ?_) ?_
      · simp only [spec_ReadManifest.l0]
        rw [if_neg (by omega), if_neg (by omega)]
      rw [show decide (i - fr = 0) = false from decide_eq_false (by omega)]
      exact Ev.now _
  | succ d ih =>
    intro i fr ps o hi hf hps hg
    have hlt : i < s.size := by omega
    have hld : i < s.data.toList.length := by rw [data_len]; exact hlt
    have hw : wrap64 ((i : Int) + 1) = ((i + 1 : Nat) : Int) := by rw [wrap_in (by omega) (by omega)]; omega
    rw [List.drop_eq_getElem_cons hld] at hps
    by_cases hb : s.data.toList[i] = 10
    · have hbt : bt s (i : Int) = 10 := (bt_eq s i hlt 10).2 hb
      rw [hb, pre_hit, List.map_cons, ofL_data] at hps
      have hne : (cut 10 (s.data.toList.drop (i + 1))).map ofL ≠ [] := by simp [cut_ne]
      have hol : o.length ≤ 1048576 := by have := hg.len; rw [List.length_append] at this; omega
      have hd1 : ps.dropLast = s.extract fr i :: ((cut 10 (s.data.toList.drop (i + 1))).map ofL).dropLast := by rw [hps, List.dropLast_cons_of_ne_nil hne]
      have hd2 : ps.getLastD ByteArray.empty = ((cut 10 (s.data.toList.drop (i + 1))).map ofL).getLastD ByteArray.empty := by
        rw [hps]
        cases hc : (cut 10 (s.data.toList.drop (i + 1))).map ofL with
        | nil => exact absurd hc hne
        | cons x t => rfl
      rw [hd1, List.map_cons, List.append_cons] at hg ⊢
      rw [hd2]
      refine Ev.step (f := fun k => (spec_l26Line.f k (s.extract fr i)).bind fun r => spec_ReadManifest.l0 k s (o ++ [(⟨r.1, r.2⟩ : S44)]) ((i + 1 : Nat) : Int) ((i + 1 : Nat) : Int)) (fun k => ?_) ?_
      · simp only [spec_ReadManifest.l0]
        rw [if_pos (by omega), if_pos (by omega), if_pos hbt, if_pos (by omega), if_pos (by omega), if_pos (by omega), hw]
        rw [show (s.extract ((fr : Nat) : Int).toNat ((i : Nat) : Int).toNat) = s.extract fr i from rfl]
        congr 1; funext r
        rw [if_pos (by omega)]
      refine Ev.bind (line_eq _ (by rw [ext_size _ _ _ (by omega)]; omega)) ?_
      refine ih (i + 1) (i + 1) _ (o ++ [lineE (s.extract fr i)]) (by omega) (Nat.le_refl _) ?_ hg
      rw [ext_self, pre_nil _ (cut_ne _ _)]
    · have hbt : ¬ bt s (i : Int) = 10 := fun e => hb ((bt_eq s i hlt 10).1 e)
      rw [pre_miss _ _ _ _ hb, ← ext_snoc s fr i hf hlt] at hps
      refine Ev.step (f := fun k => spec_ReadManifest.l0 k s o fr ((i + 1 : Nat) : Int)) (fun k => ?_) (ih (i + 1) fr ps o (by omega) (by omega) hps hg)
      simp only [spec_ReadManifest.l0]
      rw [if_pos (by omega), if_pos (by omega), if_neg hbt, hw]

theorem spec_read (s : ByteArray) (hs : s.size ≤ 1048576) (hg : Good ((pieces 10 s).dropLast.map lineE)) :
    Ev (fun k => spec_ReadManifest.f k s) (finR s (decide (((pieces 10 s).getLastD ByteArray.empty).size = 0)) ((pieces 10 s).dropLast.map lineE)) := by
  have h := rm_loop s hs s.size 0 0 (pieces 10 s) [] (by omega) (Nat.le_refl _) (by rw [ext_self, pre_nil _ (cut_ne _ _), List.drop_zero]; rfl) hg
  exact h

/-! ### the reader over the library's Split -/
theorem pieces_ne (c : UInt8) (s : ByteArray) : pieces c s ≠ [] := by unfold pieces; simp [cut_ne]
theorem im_loop (s : ByteArray) (ok : Bool) (lines : List ByteArray) (hn : lines.length ≤ 1048577) (hl : ∀ x ∈ lines, x.size ≤ 1048576) (d : Nat) : ∀ (j : Nat) (o : List S44), j + d = lines.length → o.length ≤ j → (ok = true → Good (o ++ (lines.drop j).map lineE)) →
    Ev (fun k => impl_ReadManifest.l0 k s ok o lines lines.length j) (finR s ok (o ++ (lines.drop j).map lineE)) := by
  induction d with
  | zero =>
    intro j o hj ho hg
    have hd : lines.drop j = [] := List.drop_eq_nil_of_le (by omega)
    rw [hd, List.map_nil, List.append_nil] at hg ⊢
    cases ok with
    | true =>
      refine Ev.step (f := fun k => (impl_ShowManifest.f k o).bind fun t => if t.toList = s.toList then some (o, true) else some ([], false)) (fun k => ?_) ?_
      · simp only [impl_ReadManifest.l0]
        rw [if_neg (by omega), if_pos trivial]
      refine Ev.bind (impl_show o (hg rfl)) ?_
      unfold finR
      rw [if_pos rfl]
      split <;> exact Ev.now _
    | false =>
      refine Ev.step (f := fun _ => some ([], false)) (fun k => ?_) (Ev.now _)
      simp only [impl_ReadManifest.l0]
      rw [if_neg (by omega), if_neg (by simp)]
  | succ d ih =>
    intro j o hj ho hg
    have hlt : j < lines.length := by omega
    have hw : wrap64 ((j : Int) + 1) = ((j + 1 : Nat) : Int) := by rw [wrap_in (by omega) (by omega)]; omega
    have hx := hl _ (List.getElem_mem hlt)
    rw [List.drop_eq_getElem_cons hlt, List.map_cons, List.append_cons] at hg ⊢
    refine Ev.step (f := fun k => impl_ReadManifest.l0 k s ok (o ++ [lineE lines[j]]) lines lines.length ((j + 1 : Nat) : Int)) (fun k => ?_) (ih (j + 1) _ (by omega) (by simp; omega) hg)
    simp only [impl_ReadManifest.l0]
    rw [if_pos (by omega), if_pos (by omega), if_pos (by omega), rdOf_at _ _ _ hlt, Split_eq _ 32 (by omega), hw]
    simp only [Option.bind_some]
    have hp : 0 < (pieces 32 lines[j]).length := List.length_pos_iff.2 (pieces_ne _ _)
    rw [if_pos (by omega), if_pos (by omega), if_pos (by omega)]
    have e : (⟨rdOf ByteArray.empty (pieces 32 lines[j]) 0, (pieces 32 lines[j]).drop 1⟩ : S44) = lineE lines[j] := by
      unfold lineE
      cases pieces 32 lines[j] with
      | nil => rfl
      | cons x t => rfl
    rw [e]
end Go.Proofs.YtgjbdheekjjaeaaDoor.Pb
