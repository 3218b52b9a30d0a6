/- The plain law of FnExactReadManifest, last part: the two readers answer the same; marks that are set are held. -/
import Derived.Test.YtgjbdheekjjaeaaDoorPd
namespace Go.Proofs.YtgjbdheekjjaeaaDoor.Pb
open Go.RowKit Go.Proofs.YtgjbdheekjjaeaaDoor.X3 Go.Proofs.YtgjbdheekjjaeaaDoorW.PrintWords

/-! ### sizes -/
def wgt (ps : List (List UInt8)) : Nat := (ps.map List.length).sum + ps.length
theorem wgt_cons (p : List UInt8) (ps : List (List UInt8)) : wgt (p :: ps) = p.length + 1 + wgt ps := by simp [wgt]; omega
theorem wgt_append (a b : List (List UInt8)) : wgt (a ++ b) = wgt a + wgt b := by simp [wgt]; omega
theorem wgt_mem (ps : List (List UInt8)) (p : List UInt8) (h : p ∈ ps) : p.length < wgt ps := by
  induction ps with
  | nil => simp at h
  | cons q ps ih =>
    rw [wgt_cons]
    rcases List.mem_cons.1 h with rfl | h
    · omega
    · have := ih h; omega
theorem sN_ofL (ps : List (List UInt8)) : sN (ps.map ofL) = (ps.map List.length).sum := by
  unfold sN
  rw [List.map_map]
  have : (ByteArray.size ∘ ofL) = List.length := by funext x; exact size_ofL x
  rw [this]
theorem line_parts (s : ByteArray) : ∃ h t, cut 32 s.data.toList = h :: t ∧ (lineE s).f0 = ofL h ∧ (lineE s).f1 = t.map ofL ∧ h.length + 1 + wgt t = s.size + 1 := by
  have hs := cut_sum 32 s.data.toList
  rw [data_len] at hs
  cases hc : cut 32 s.data.toList with
  | nil => exact absurd hc (cut_ne _ _)
  | cons h t =>
    refine ⟨h, t, rfl, by simp [lineE, pieces, hc], by simp [lineE, pieces, hc], ?_⟩
    rw [hc] at hs
    rw [← wgt_cons]
    exact hs
theorem line_size (s : ByteArray) : (tx (lineE s)).size = s.size + 1 := by
  obtain ⟨h, t, _, h0, h1, hw⟩ := line_parts s
  rw [tx_size, nm_len, h0, h1, size_ofL, List.length_map, sN_ofL]
  unfold wgt at hw
  omega
theorem line_small (s : ByteArray) (hs : s.size ≤ 1048576) : Small (lineE s) := by
  obtain ⟨h, t, _, h0, h1, hw⟩ := line_parts s
  refine ⟨?_, ?_, fun x hx => ?_⟩
  · rw [h0, size_ofL]; omega
  · rw [h1, List.length_map]; unfold wgt at hw; omega
  · rw [h1] at hx
    obtain ⟨p, hp, rfl⟩ := List.mem_map.1 hx
    rw [size_ofL]
    have := wgt_mem t p hp
    omega
theorem out_lines (ps : List (List UInt8)) : (out ((ps.map ofL).map lineE)).size = wgt ps := by
  induction ps with
  | nil => rfl
  | cons p ps ih => rw [List.map_cons, List.map_cons, out_cons, ByteArray.size_append, ih, line_size, size_ofL, wgt_cons]
theorem good_lines (ps : List (List UInt8)) (hl : ps.length ≤ 1048576) (hw : wgt ps ≤ 1048577) : Good ((ps.map ofL).map lineE) := by
  refine ⟨by simpa using hl, fun e he => ?_, by rw [out_lines]; omega⟩
  obtain ⟨x, hx, rfl⟩ := List.mem_map.1 he
  obtain ⟨p, hp, rfl⟩ := List.mem_map.1 hx
  refine line_small _ ?_
  rw [size_ofL]
  have := wgt_mem ps p hp
  omega

/-! ### both readers -/
theorem cut_wgt (c : UInt8) (l : List UInt8) : wgt (cut c l) = l.length + 1 := cut_sum c l
theorem drop_wgt (c : UInt8) (l : List UInt8) : wgt (cut c l).dropLast ≤ l.length ∧ (cut c l).dropLast.length ≤ l.length := by
  have h := cut_wgt c l
  have h2 : (cut c l).dropLast ++ [(cut c l).getLast (cut_ne c l)] = cut c l := List.dropLast_concat_getLast (cut_ne c l)
  rw [← h2, wgt_append] at h
  have h3 : 1 ≤ wgt [(cut c l).getLast (cut_ne c l)] := by simp [wgt]
  refine ⟨by omega, ?_⟩
  have : (cut c l).dropLast.length ≤ wgt (cut c l).dropLast := by unfold wgt; omega
  omega
theorem finR_good (s : ByteArray) (ok : Bool) (l : List S44) (h : Good l) : Good (finR s ok l).1 := by
  have h0 : Good [] := ⟨by simp, by simp, by show (0 : Nat) ≤ _; omega⟩
  unfold finR
  split
  · split
    · exact h
    · exact h0
  · exact h0
theorem read_same (s : ByteArray) (hs : s.size ≤ 1048576) : ∃ G b, Ev (fun k => spec_ReadManifest.f k s) (G, b) ∧ Ev (fun k => impl_ReadManifest.f k s) (G, b) ∧ Good G := by
  have hL : s.data.toList.length = s.size := data_len s
  obtain ⟨d1, d2⟩ := drop_wgt 10 s.data.toList
  have hg : Good ((pieces 10 s).dropLast.map lineE) := by
    unfold pieces
    rw [← List.map_dropLast]
    exact good_lines _ (by omega) (by omega)
  have hsp := spec_read s hs hg
  generalize hrr : finR s (decide (((pieces 10 s).getLastD ByteArray.empty).size = 0)) ((pieces 10 s).dropLast.map lineE) = rr at hsp
  refine ⟨rr.1, rr.2, hsp, ?_, by rw [← hrr]; exact finR_good _ _ _ hg⟩
  show Ev (fun k => impl_ReadManifest.f k s) rr
  rw [← hrr]
  unfold impl_ReadManifest.f
  have tl : s.toList = s.data.toList := by
    exact ByteArray.toList_eq s
  rcases List.eq_nil_or_concat s.data.toList with he | ⟨T, b, he⟩
  · refine Ev.congr (f := fun _ => some ([], true)) (fun k => by rw [if_pos (by rw [tl, he])]) ?_
    have : finR s (decide (((pieces 10 s).getLastD ByteArray.empty).size = 0)) ((pieces 10 s).dropLast.map lineE) = ([], true) := by
      unfold pieces
      rw [he]
      show finR s true [] = _
      unfold finR
      rw [if_pos rfl, if_pos]
      rw [tl, he, show SM [] ByteArray.empty = ByteArray.empty from ByteArray.append_empty]
      exact ByteArray.toList_eq _
    rw [this]
    exact Ev.now _
  · rw [List.concat_eq_append] at he
    have hTl : T.length + 1 = s.size := by rw [← hL, he]; simp
    have hcs : M.strings_CutSuffix.f s (⟨#[10]⟩ : ByteArray) = some (if b = 10 then ofL T else s, decide (b = 10)) := by
      unfold M.strings_CutSuffix.f
      rw [if_pos (by omega)]
      have hh : Lib.hasSuffix s.data.toList [10] = decide (b = 10) := by
        unfold Lib.hasSuffix
        rw [Bool.eq_iff_iff, List.isSuffixOf_iff_suffix, he, decide_eq_true_iff]
        constructor
        · rintro ⟨u, hu⟩
          have := List.append_inj_right' hu rfl
          simpa using this.symm
        · rintro rfl
          exact ⟨T, rfl⟩
      rw [show (⟨#[10]⟩ : ByteArray).data.toList = [10] from rfl]
      unfold Lib.trimSuffix
      rw [hh]
      by_cases hb : b = 10
      · rw [if_pos (by simpa using hb), if_pos hb, he]
        simp [ofL]
      · rw [if_neg (by simpa using hb), if_neg hb]
    refine Ev.congr (f := fun k => impl_ReadManifest.l0 k s (decide (b = 10)) [] (pieces 10 (if b = 10 then ofL T else s)) (pieces 10 (if b = 10 then ofL T else s)).length ((0 : Nat) : Int)) (fun k => ?_) ?_
    · rw [if_neg (by rw [tl, he]; simp), hcs]
      simp only [Option.bind_some]
      rw [Split_eq _ 10 (by split; rw [size_ofL]; omega; omega)]
      rfl
    by_cases hb : b = 10
    · subst hb
      rw [if_pos rfl, show decide ((10 : UInt8) = 10) = true from rfl]
      have hp : pieces 10 s = pieces 10 (ofL T) ++ [ofL []] := by
        unfold pieces
        rw [he, cut_end, data_ofL, List.map_append]
        rfl
      have e1 : (pieces 10 s).dropLast = pieces 10 (ofL T) := by rw [hp, List.dropLast_concat]
      have e2 : ((pieces 10 s).getLastD ByteArray.empty).size = 0 := by
        rw [hp, List.getLastD_concat]
        rfl
      rw [e2, e1, show decide (0 = 0) = true from rfl]
      rw [e1] at hg
      refine im_loop s true _ ?_ ?_ (pieces 10 (ofL T)).length 0 [] (Nat.zero_add _) (Nat.le_refl _) (fun _ => hg)
      · have := hg.len
        rw [List.length_map] at this
        omega
      · intro x hx
        unfold pieces at hx
        obtain ⟨p, hp, rfl⟩ := List.mem_map.1 hx
        have := wgt_mem _ _ hp
        rw [cut_wgt, data_ofL] at this
        rw [size_ofL]
        omega
    · rw [if_neg hb, show decide (b = 10) = false from decide_eq_false hb]
      obtain ⟨qs, x, hq⟩ := cut_last 10 b hb T
      have e2 : decide (((pieces 10 s).getLastD ByteArray.empty).size = 0) = false := by
        unfold pieces
        rw [he, hq, List.map_append, List.map_singleton, List.getLastD_concat, size_ofL]
        simp
      rw [e2]
      have h := im_loop s false (pieces 10 s) ?_ ?_ _ 0 [] (Nat.zero_add _) (Nat.le_refl _) (fun h => by cases h)
      · exact h
      · unfold pieces
        rw [List.length_map]
        have h1 := cut_wgt 10 s.data.toList
        have : (cut 10 s.data.toList).length ≤ wgt (cut 10 s.data.toList) := by unfold wgt; omega
        omega
      · intro y hy
        unfold pieces at hy
        obtain ⟨p, hp, rfl⟩ := List.mem_map.1 hy
        have := wgt_mem _ _ hp
        rw [cut_wgt] at this
        rw [size_ofL]
        omega
end Go.Proofs.YtgjbdheekjjaeaaDoor.Pb
