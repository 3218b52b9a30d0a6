/- Towards FnLint: DenVa, DenVb, DenVc, DenVd, DenCon, DenRow, DenIso, Ka, Ab, Va, Ca, Cb, Ta, Cc, Pa, Vb, Pb. -/
import Derived.Test.YtkdickfiifpblaaGreatDoorL00
import Derived.Laws.BitsLemmas
import Derived.Test.YtkdickfiifpblaaGreatDoorProg
import Derived.KernelRfl
namespace Go.Den
open Go.RowKit
theorem ba_loop (bs : ByteArray) : ∀ (k i : Nat) (r : List UInt8), bs.size - i = k → ByteArray.toList.loop bs i r = r.reverse ++ bs.data.toList.drop i
  | 0, i, r, h => by
    rw [ByteArray.toList.loop, if_neg (by omega), List.drop_eq_nil_of_le (by have : bs.data.toList.length = bs.size := Array.length_toList; omega)]
    simp
  | k + 1, i, r, h => by
    have hi : i < bs.size := by omega
    rw [ByteArray.toList.loop, if_pos hi, ba_loop bs k (i + 1) _ (by omega)]
    have hl : i < bs.data.toList.length := by have : bs.data.toList.length = bs.size := Array.length_toList; omega
    rw [List.drop_eq_getElem_cons hl, List.reverse_cons, List.append_assoc]
    have : bs.get! i = bs.data.toList[i] := by
      have h2 : i < bs.data.size := hi
      show bs.data[i]! = _
      rw [getElem!_pos bs.data i h2]
      rfl
    rw [this]
    rfl
theorem ba_toList (bs : ByteArray) : bs.toList = bs.data.toList := by
  show ByteArray.toList.loop bs 0 [] = _
  rw [ba_loop bs bs.size 0 [] (by omega)]
  simp
theorem ba_eq (a b : ByteArray) : (a.toList == b.toList) = decide (a = b) := by
  rw [ba_toList, ba_toList]
  by_cases h : a = b
  · subst h; simp
  · have : a.data.toList ≠ b.data.toList := by
      intro e
      apply h
      cases a; cases b
      simp only [ByteArray.mk.injEq]
      exact Array.toList_inj.1 e
    rw [beq_eq_false_iff_ne.2 this]
    simp [h]
theorem wrap_in (n : Int) (h : in64 n) : IntKind.i64.wrap n = n := by
  unfold in64 at h
  rw [IntKind.wrap_i64]
  omega
def Mt (n nb : Nat) (env : Env) (ρ : Rho) : Prop := ∀ t v, look env t = some v → t < n ∧ ρ t = v.av nb
section
variable {n nb : Nat} {env : Env} {ρ : Rho}
theorem Mt.ev (h : Mt n nb env ρ) {x : Operand} {v : WV} (hx : evW env x = some v) : ev (EV n ρ) x = some (v.av nb) := by
  cases x with
  | tmp t =>
    obtain ⟨h1, h2⟩ := h t v hx
    show (EV n ρ)[t]? = _
    rw [EV_get, if_pos h1, h2]
  | const c =>
    show ofConst c = _
    unfold evW at hx
    split at hx
    · rename_i h0; cases h0
    · rename_i b h0; cases h0; cases hx; rfl
    · rename_i c' _ h0
      cases h0
      obtain ⟨y, hy, he⟩ := Option.map_eq_some_iff.1 hx
      subst he
      exact hy
    · rename_i h0; cases h0
    · rename_i h0; cases h0
  | func f => cases hx; rfl
  | global g => cases hx
theorem wEv_ok (h : Mt n nb env ρ) {x : Operand} {K : WV → Prop} (hk : wEv env x K) : ∃ v, evW env x = some v ∧ ev (EV n ρ) x = some (v.av nb) ∧ K v := by
  unfold wEv at hk
  split at hk
  · rename_i v hv; exact ⟨v, hv, h.ev hv, hk⟩
  · exact hk.elim
theorem wA_ok (h : Mt n nb env ρ) {x : Operand} {K : AL → Prop} (hk : wA env x K) : ∃ a, ev1 (EV n ρ) x = some a ∧ K a := by
  unfold wA at hk
  split at hk
  · rename_i a hv; exact ⟨a, by unfold ev1; rw [h.ev hv]; rfl, hk⟩
  · rename_i b hv; exact ⟨.bool b, by unfold ev1; rw [h.ev hv]; rfl, hk⟩
  · exact hk.elim
theorem wI_ok (h : Mt n nb env ρ) {x : Operand} {K : Int → Prop} (hk : wI env x K) : ∃ k m, ev1 (EV n ρ) x = some (.int k m) ∧ K m := by
  unfold wI at hk
  split at hk
  · rename_i k m hv; exact ⟨k, m, by unfold ev1; rw [h.ev hv]; rfl, hk⟩
  · exact hk.elim
theorem plain_av {v : WV} {x : AV} (h : v.plain = some x) : v.av nb = x := by cases v <;> cases h <;> rfl
theorem wP_ok (h : Mt n nb env ρ) {x : Operand} {K : AV → Prop} (hk : wP env x K) : ∃ v, ev (EV n ρ) x = some v ∧ K v := by
  unfold wP at hk
  split at hk
  · rename_i v hv
    obtain ⟨w, hw, hp⟩ := Option.bind_eq_some_iff.1 hv
    exact ⟨v, by rw [h.ev hw, plain_av hp], hk⟩
  · exact hk.elim
theorem wPs_ok (h : Mt n nb env ρ) : ∀ (ps : List (Nat × Operand)) {K : List (Nat × AV) → Prop}, wPs env ps K → ∃ vs, evParts (EV n ρ) ps = some vs ∧ K vs
  | [], K, hk => ⟨[], rfl, hk⟩
  | (i, x) :: r, K, hk => by
    obtain ⟨v, hv, hk⟩ := wP_ok h hk
    obtain ⟨vs, hvs, hk⟩ := wPs_ok h r hk
    exact ⟨_, by simp [evParts, hv, hvs], hk⟩
theorem wO_ok (h : Mt n nb env ρ) {x : Option Operand} {K : Option AL → Prop} (hk : wO env x K) : ∃ a, evO (EV n ρ) x = some a ∧ K a := by
  cases x with
  | none => exact ⟨none, rfl, hk⟩
  | some x =>
    obtain ⟨a, ha, hk⟩ := wA_ok h hk
    exact ⟨some a, by simp [evO, ha], hk⟩
theorem wArgs_ok (h : Mt n nb env ρ) : ∀ (ps : List Operand) {K : List AV → Prop}, wArgs nb env ps K → ∃ vs, evs (EV n ρ) ps = some vs ∧ K vs
  | [], K, hk => ⟨[], rfl, hk⟩
  | x :: r, K, hk => by
    obtain ⟨v, _, hv, hk⟩ := wEv_ok h hk
    obtain ⟨vs, hvs, hk⟩ := wArgs_ok h r hk
    exact ⟨_, by simp [evs, hv, hvs], hk⟩
theorem allCells_ok : ∀ (zs : List AL) {K : List AL → Prop}, allCells zs K → ∀ xs, likeCells zs xs = true → K xs
  | [], K, hk, xs, h => by
    cases xs with
    | nil => exact hk
    | cons => simp [likeCells] at h
  | z :: zs, K, hk, xs, h => by
    cases xs with
    | nil => simp [likeCells] at h
    | cons x xs =>
      simp only [likeCells, Bool.and_eq_true] at h
      obtain ⟨h1, h2⟩ := h
      unfold allCells at hk
      split at hk
      · rename_i h0; cases h0
      · rename_i k m r h0
        cases h0
        cases x <;> simp [AL.like] at h1
        subst h1
        exact allCells_ok zs (hk _) xs h2
      · rename_i b r h0
        cases h0
        cases x <;> simp [AL.like] at h1
        exact allCells_ok zs (hk _) xs h2
      · rename_i s r h0
        cases h0
        cases x <;> simp [AL.like] at h1
        exact allCells_ok zs (hk _) xs h2
      · rename_i y r _ _ _ h0
        cases h0
        exact allCells_ok zs (hk x) xs h2
theorem like_len : ∀ (zs xs : List AL), likeCells zs xs = true → xs.length = zs.length
  | [], [], _ => rfl
  | [], _ :: _, h => by simp [likeCells] at h
  | _ :: _, [], h => by simp [likeCells] at h
  | z :: zs, x :: xs, h => by
    simp only [likeCells, Bool.and_eq_true] at h
    simp [like_len zs xs h.2]
theorem wCells_pos {d : D} {ys : List AL} {K : AV → Prop} (h : wCells d ys K) (hr : d.row = true) : 0 < d.size := by
  unfold wCells at h
  rw [hr] at h
  have := ((Bool.and_eq_true _ _).mp h.1).2
  exact Nat.lt_of_lt_of_le (Nat.lt_succ_self 0) (Nat.le_of_ble_eq_true this)
theorem wCells_ok {d : D} {ys : List AL} {K : AV → Prop} (h : wCells d ys K) : ∃ v, (if d.row = true then (if d.size ≤ ys.length then some (AV.agg (ys.take d.size)) else none) else (ys[0]?).map .one) = some v ∧ K v := by
  unfold wCells at h
  split at h
  · rename_i hr
    obtain ⟨hsz, ⟨xs, hl, hx⟩, hk⟩ := h
    have hlen := like_len _ _ hl
    have hsz := Nat.eq_of_beq_eq_true ((Bool.and_eq_true _ _).mp hsz).1
    have : d.size ≤ ys.length := by
      rw [← hx, List.length_take] at hlen
      omega
    refine ⟨.agg (ys.take d.size), by rw [if_pos hr, if_pos this], ?_⟩
    rw [hx]
    exact allCells_ok _ hk xs hl hx
  · rename_i hr
    obtain ⟨⟨x, hl, hx⟩, hk⟩ := h
    refine ⟨.one x, by rw [if_neg (by simp [hr]), hx]; rfl, ?_⟩
    exact allCells_ok _ hk [x] hl (by rw [hx]; rfl)
end
section
variable {T : Tab} {S : St} {L : Lo}
theorem join_get_loc (j : Nat) : (join S L).boxes[S.boxes.length + j]? = L[j]? := by
  show (S.boxes ++ L)[S.boxes.length + j]? = _
  rw [List.getElem?_append_right (by omega)]
  congr 1
  omega
theorem join_get_out {i : Nat} {bx : TypeId × List AL} (h : S.boxes[i]? = some bx) : (join S L).boxes[i]? = some bx := by
  show (S.boxes ++ L)[i]? = _
  rw [List.getElem?_append_left (List.getElem?_eq_some_iff.1 h).1, h]
theorem dLoad_loc (t : TypeId) (j off : Nat) : dLoad T t (.ptr (S.boxes.length + j) off) (join S L) = dLoad T t (.ptr j off) ⟨L, [], [], 0⟩ := by
  unfold dLoad
  simp only [join_get_loc]
theorem dStore_loc (t : TypeId) (j off : Nat) (v : AV) : dStore T t (.ptr (S.boxes.length + j) off) v (join S L) = (dStore T t (.ptr j off) v ⟨L, [], [], 0⟩).map fun S' => join S S'.boxes := by
  unfold dStore
  simp only [join_get_loc]
  cases T.desc t with
  | none => rfl
  | some d =>
    simp only [Option.bind_some]
    cases L[j]? with
    | none => rfl
    | some bx =>
      simp only [Option.bind_some]
      cases v.flat with
      | none => rfl
      | some xs =>
        simp only [Option.bind_some]
        split
        · split
          · simp [join]
          · rfl
        · rfl
theorem dStore_out {t : TypeId} {i off : Nat} {v : AV} {S' : St} (h : dStore T t (.ptr i off) v S = some S') : dStore T t (.ptr i off) v (join S L) = some (join S' L) ∧ S'.boxes.length = S.boxes.length := by
  unfold dStore at h ⊢
  obtain ⟨d, hd, h⟩ := Option.bind_eq_some_iff.1 h
  simp only [] at h
  obtain ⟨bx, hbx, h⟩ := Option.bind_eq_some_iff.1 h
  obtain ⟨xs, hxs, h⟩ := Option.bind_eq_some_iff.1 h
  simp only [hd, join_get_out hbx, hxs, Option.bind_some]
  split at h
  · rename_i h1
    split at h
    · rename_i h2
      cases h
      rw [if_pos h1, if_pos h2]
      have hi := (List.getElem?_eq_some_iff.1 hbx).1
      refine ⟨?_, by simp⟩
      simp [join, hi]
    · cases h
  · cases h
theorem dBuildSlice_join (t : TypeId) (m : Nat) (vs : List (Nat × AV)) : dBuildSlice T t m vs (join S L) = (dBuildSlice T t m vs S).map fun r => (r.1, join r.2 L) := by
  unfold dBuildSlice
  cases T.desc t with
  | none => rfl
  | some d =>
    simp only [Option.bind_some]
    cases d.elem with
    | none => rfl
    | some e =>
      simp only [Option.bind_some]
      cases T.desc e with
      | none => rfl
      | some de =>
        simp only [Option.bind_some]
        split
        · split <;> rfl
        · split
          · rfl
          · cases dFill (fun i => some (i * de.size, de.size)) ((List.range (m * de.size)).map fun i => de.zero.getD (i % de.size) .undef) vs with
            | none => rfl
            | some xs =>
              simp only [Option.bind_some]
              split <;> rfl
theorem dAppend_join (t : TypeId) (s x : AL) : dAppend T t s x (join S L) = (dAppend T t s x S).map fun r => (r.1, join r.2 L) := by
  unfold dAppend
  cases T.desc t with
  | none => rfl
  | some d =>
    simp only [Option.bind_some]
    cases d.elem with
    | none => rfl
    | some e =>
      simp only [Option.bind_some]
      cases T.desc e with
      | none => rfl
      | some de =>
        simp only [Option.bind_some]
        cases x.cells with
        | none => rfl
        | some mys =>
          simp only [Option.bind_some]
          split
          · rfl
          · split
            · split <;> rfl
            · rename_i tk len xs
              by_cases hc : S.tok tk = some (xs.length, e, de.size) ∧ xs.length = len * de.size ∧ len + mys.1 ≤ maxLen ∧ (len + mys.1) * de.bytes ≤ 140737488355328
              · refine Eq.trans (if_pos hc) ?_
                rw [if_pos hc]
                rfl
              · refine Eq.trans (if_neg hc) ?_
                rw [if_neg hc]
                rfl
            · rfl
theorem dAppend2_join (t : TypeId) (s x : AL) : dAppend2 T t s x (join S L) = (dAppend2 T t s x S).map fun r => (r.1, join r.2 L) := by
  unfold dAppend2
  have key : ((T.desc t).bind fun d => d.elem.bind fun e => (T.desc e).bind fun _ => match s with | .nilsl => some (s, join S L) | .sl .. => some (s, join S L) | _ => none) =
      ((T.desc t).bind fun d => d.elem.bind fun e => (T.desc e).bind fun _ => match s with | .nilsl => some (s, S) | .sl .. => some (s, S) | _ => none).map fun r => (r.1, join r.2 L) := by
    cases T.desc t with
    | none => rfl
    | some d =>
      simp only [Option.bind_some]
      cases d.elem with
      | none => rfl
      | some e =>
        simp only [Option.bind_some]
        cases T.desc e with
        | none => rfl
        | some de => cases s <;> rfl
  split
  · exact key
  · exact key
  · exact dAppend_join t s x
theorem append_boxes {t : TypeId} {s x r : AL} {S' : St} (h : dAppend2 T t s x S = some (r, S')) : S'.boxes = S.boxes := by
  have key : ((T.desc t).bind fun d => d.elem.bind fun e => (T.desc e).bind fun _ => match s with | .nilsl => some (s, S) | .sl .. => some (s, S) | _ => none) = some (r, S') → S'.boxes = S.boxes := by
    intro h
    obtain ⟨d, _, h⟩ := Option.bind_eq_some_iff.1 h
    obtain ⟨e, _, h⟩ := Option.bind_eq_some_iff.1 h
    obtain ⟨de, _, h⟩ := Option.bind_eq_some_iff.1 h
    split at h <;> cases h <;> rfl
  unfold dAppend2 at h
  split at h
  · exact key h
  · exact key h
  · unfold dAppend at h
    obtain ⟨d, _, h⟩ := Option.bind_eq_some_iff.1 h
    obtain ⟨e, _, h⟩ := Option.bind_eq_some_iff.1 h
    obtain ⟨de, _, h⟩ := Option.bind_eq_some_iff.1 h
    obtain ⟨mys, _, h⟩ := Option.bind_eq_some_iff.1 h
    split at h
    · cases h
    · split at h
      · split at h
        · cases h; rfl
        · cases h
      · split at h
        · cases h
          show (S.spend _).boxes = _
          exact (S.spend_len _).2
        · cases h
      · cases h
theorem buildSlice_boxes {t : TypeId} {m : Nat} {vs : List (Nat × AV)} {r : AL × St} (h : dBuildSlice T t m vs S = some r) : r.2.boxes = S.boxes := by
  unfold dBuildSlice at h
  obtain ⟨d, _, h⟩ := Option.bind_eq_some_iff.1 h
  obtain ⟨e, _, h⟩ := Option.bind_eq_some_iff.1 h
  obtain ⟨de, _, h⟩ := Option.bind_eq_some_iff.1 h
  split at h
  · split at h
    · cases h; rfl
    · cases h
  · split at h
    · cases h
    · obtain ⟨xs, _, h⟩ := Option.bind_eq_some_iff.1 h
      split at h
      · cases h; rfl
      · cases h
end
end Go.Den
namespace Go.Den
open Go.RowKit
section
variable {T : Tab} {n : Nat} {env : Env} {ρ : Rho} {S : St} {L : Lo}
theorem wLoad_ok {t : TypeId} {p : WV} {K : KW} (h : wLoad T t p S L K) : ∃ v, dLoad T t (p.av S.boxes.length) (join S L) = some v ∧ K (.v v) S L := by
  unfold wLoad at h
  split at h
  · rename_i j off
    show ∃ v, dLoad T t (.ptr (S.boxes.length + j) off) (join S L) = some v ∧ _
    rw [dLoad_loc]
    split at h
    · rename_i v hv; exact ⟨v, hv, h⟩
    · exact h.elim
  · rename_i i off
    split at h
    · rename_i d hd
      obtain ⟨bx, hbx, h⟩ := h
      obtain ⟨v, hv, hk⟩ := wCells_ok h
      refine ⟨v, ?_, hk⟩
      show dLoad T t (.ptr i off) (join S L) = some v
      unfold dLoad
      rw [hd]
      simp only [Option.bind_some, join_get_out hbx]
      split at hv
      · rename_i hr
        rw [if_pos hr]
        split at hv
        · rename_i hs
          rw [List.length_drop] at hs
          have := wCells_pos h hr
          rw [if_pos (by omega)]
          exact hv
        · cases hv
      · rename_i hr
        rw [if_neg hr]
        simpa using hv
    · exact h.elim
  · rename_i xs
    split at h
    · rename_i d hd
      obtain ⟨v, hv, hk⟩ := wCells_ok h
      refine ⟨v, ?_, hk⟩
      show dLoad T t (.el xs) (join S L) = some v
      unfold dLoad
      rw [hd]
      exact hv
    · exact h.elim
  · exact h.elim
theorem wStore_ok {t : TypeId} {p : WV} {x : AV} {K : KW} (h : wStore T t p x S L K) : ∃ S' L', dStore T t (p.av S.boxes.length) x (join S L) = some (join S' L') ∧ S'.boxes.length = S.boxes.length ∧ K (.v .junk) S' L' := by
  unfold wStore at h
  split at h
  · rename_i j off
    split at h
    · rename_i S' hS
      refine ⟨S, S'.boxes, ?_, rfl, h⟩
      show dStore T t (.ptr (S.boxes.length + j) off) x (join S L) = _
      rw [dStore_loc, hS]
      rfl
    · exact h.elim
  · rename_i i off
    obtain ⟨S', hS, hk⟩ := h
    obtain ⟨h1, h2⟩ := dStore_out (L := L) hS
    exact ⟨S', L, h1, h2, hk⟩
  · exact h.elim
theorem dField_ptr {t : TypeId} {j off j' off' f nb : Nat} (h : dField T t (.ptr j off) f = some (.ptr j' off')) : dField T t (.ptr (nb + j) off) f = some (.ptr (nb + j') off') := by
  unfold dField at h ⊢
  obtain ⟨d, hd, h⟩ := Option.bind_eq_some_iff.1 h
  obtain ⟨o, ho, h⟩ := Option.bind_eq_some_iff.1 h
  obtain ⟨o', ho', h⟩ := Option.bind_eq_some_iff.1 h
  subst ho'
  cases h
  simp [hd, ho]
theorem wField_ok {t : TypeId} {p : WV} {f nb : Nat} {K : WV → Prop} (h : wField T t p f K) : ∃ v, dField T t (p.av nb) f = some (v.av nb) ∧ K v := by
  unfold wField at h
  split at h
  · rename_i j off
    split at h
    · rename_i j' off' hf
      exact ⟨.loc j' off', dField_ptr hf, h⟩
    · exact h.elim
  · rename_i a
    split at h
    · rename_i r hr
      exact ⟨.v r, hr, h⟩
    · exact h.elim
  · exact h.elim
theorem dBin2_of {op : BinOp} {xt : TypeId} {x y r : AL} (h : dBin T op xt x y = some r) : dBin2 T op xt x y = some r := by
  unfold dBin2
  rw [h]
theorem wBin_ok {nov : Bool} {op : BinOp} {xt : TypeId} {x y : AL} {K : AL → Prop} (h : wBin nov T op xt x y K) : ∃ r, dBin2 T op xt x y = some r ∧ K r := by
  have tail : ∀ {x y : AL}, (match dBin2 T op xt x y with | some r => K r | none => False) → ∃ r, dBin2 T op xt x y = some r ∧ K r := by
    intro x y h
    split at h
    · rename_i r hr; exact ⟨r, hr, h⟩
    · exact h.elim
  unfold wBin at h
  split at h
  · obtain ⟨b, h1, h2⟩ := h
    exact ⟨_, h1, h2⟩
  · split at h
    · rename_i a b
      split at h
      · exact ⟨_, dBin2_of (by simp [dBin, wrap_in _ h.1]), h.2⟩
      · exact ⟨_, dBin2_of (by simp [dBin, wrap_in _ h.1]), h.2⟩
      · exact ⟨_, dBin2_of (by simp [dBin, wrap_in _ h.1]), h.2⟩
      · exact ⟨_, dBin2_of (by simp [dBin, wrap_in _ h.2.1, h.1]), h.2.2⟩
      · exact ⟨_, dBin2_of (by simp [dBin, h.1]), h.2⟩
      · exact tail h
    · rename_i _ _ a b _
      split at h
      · exact ⟨_, dBin2_of (by simp [dBin, h.1]), h.2⟩
      · exact ⟨_, dBin2_of (by simp [dBin, ba_eq]), h⟩
      · exact ⟨.bool (decide (a ≠ b)), dBin2_of (by simp [dBin, ba_eq]), h⟩
      · exact tail h
    · exact tail h
theorem wSlice_ok {t : TypeId} {x : AL} {lo hi : Option AL} {K : AL → Prop} (h : wSlice T t x lo hi K) : ∃ r, dSlice T t x lo hi = some r ∧ K r := by
  unfold wSlice at h
  split at h
  · rename_i hs
    obtain ⟨d, hd, hs⟩ := Option.map_eq_some_iff.1 hs
    split at h
    · obtain ⟨h1, h2, h3, hk⟩ := h
      exact ⟨_, by simp [dSlice, dSliceStr, hd, hs, h1, h2, h3], hk⟩
    · obtain ⟨h1, h2, hk⟩ := h
      exact ⟨_, by simp [dSlice, dSliceStr, hd, hs, h1, h2], hk⟩
    · obtain ⟨h1, h2, hk⟩ := h
      exact ⟨_, by simp [dSlice, dSliceStr, hd, hs, h1, h2], hk⟩
    · exact h.elim
  · exact h
  · exact h.elim
theorem dOp_oper {op : Op} {v : AV} {S' : St} (hc : ∀ c, op ≠ .call c) (hs : ∀ t p x, op ≠ .store t p x) {env : List AV} {S : St} (h : dOp T env S op = some (v, S')) : dOper T env S op = some (.val v S') := by
  unfold dOper
  split
  · rename_i t p x
    exact absurd rfl (hs t p x)
  · rename_i c
    exact absurd rfl (hc c)
  · rw [h]; rfl
theorem wOp_ok (hm : Mt n S.boxes.length env ρ) {nov : Bool} {op : Op} {K : KW} (h : wOp nov T env S L op K) :
    ∃ v S' L', dOper T (EV n ρ) (join S L) op = some (.val (v.av S.boxes.length) (join S' L')) ∧ S'.boxes.length = S.boxes.length ∧ K v S' L' := by
  unfold wOp at h
  split at h
  · obtain ⟨v, _, hv, hk⟩ := wEv_ok hm h
    exact ⟨v, S, L, dOp_oper (by simp) (by simp) (by simp [dOp, hv]), rfl, hk⟩
  · obtain ⟨v, _, hv, hk⟩ := wEv_ok hm h
    exact ⟨v, S, L, dOp_oper (by simp) (by simp) (by simp [dOp, hv]), rfl, hk⟩
  · obtain ⟨v, _, hv, hk⟩ := wEv_ok hm h
    split at hk
    · exact ⟨_, S, L, dOp_oper (by simp) (by simp) (by simp [dOp, hv, WV.av]), rfl, hk⟩
    · exact ⟨_, S, L, dOp_oper (by simp) (by simp) (by simp [dOp, hv, WV.av]), rfl, hk⟩
    · exact hk.elim
  · rename_i c a b
    have ev1_of : ∀ {v : WV} {t : Bool}, evW env c = some v → v.av S.boxes.length = .one (.bool t) → ev1 (EV n ρ) c = some (.bool t) := by
      intro v t hv ht
      unfold ev1
      rw [hm.ev hv, ht]
      rfl
    split at h
    · rename_i hc
      obtain ⟨v, _, hv, hk⟩ := wEv_ok hm h
      exact ⟨v, S, L, dOp_oper (by simp) (by simp) (by simp [dOp, ev1_of hc rfl, hv]), rfl, hk⟩
    · rename_i hc
      obtain ⟨v, _, hv, hk⟩ := wEv_ok hm h
      exact ⟨v, S, L, dOp_oper (by simp) (by simp) (by simp [dOp, ev1_of hc rfl, hv]), rfl, hk⟩
    · rename_i t hc
      cases t with
      | true =>
        obtain ⟨v, _, hv, hk⟩ := wEv_ok hm (h.1 rfl)
        exact ⟨v, S, L, dOp_oper (by simp) (by simp) (by simp [dOp, ev1_of hc rfl, hv]), rfl, hk⟩
      | false =>
        obtain ⟨v, _, hv, hk⟩ := wEv_ok hm (h.2 rfl)
        exact ⟨v, S, L, dOp_oper (by simp) (by simp) (by simp [dOp, ev1_of hc rfl, hv]), rfl, hk⟩
    · exact h.elim
  · rename_i t
    split at h
    · rename_i d hd
      exact ⟨_, S, _, dOp_oper (by simp) (by simp) (by simp [dOp, dAlloc, hd, WV.av, join]), rfl, h⟩
    · exact h.elim
  · rename_i t x
    obtain ⟨v, hv, hk⟩ := wP_ok hm h
    split at hk
    · rename_i xs hx
      exact ⟨_, S, _, dOp_oper (by simp) (by simp) (by simp [dOp, dBox, hv, hx, WV.av, join]), rfl, hk⟩
    · exact hk.elim
  · rename_i t ps
    obtain ⟨vs, hvs, hk⟩ := wPs_ok hm _ h
    split at hk
    · rename_i v hv
      exact ⟨_, S, L, dOp_oper (by simp) (by simp) (by simp [dOp, hvs, hv, WV.av]), rfl, hk⟩
    · exact hk.elim
  · rename_i t m ps
    obtain ⟨vs, hvs, hk⟩ := wPs_ok hm _ h
    split at hk
    · rename_i r hr
      exact ⟨_, r.2, L, dOp_oper (by simp) (by simp) (by simp [dOp, hvs, dBuildSlice_join, hr, WV.av]), by rw [buildSlice_boxes hr], hk⟩
    · exact hk.elim
  · rename_i t p
    obtain ⟨v, _, hv, hk⟩ := wEv_ok hm h
    obtain ⟨r, hr, hk⟩ := wLoad_ok hk
    exact ⟨_, S, L, dOp_oper (by simp) (by simp) (by simp only [dOp, hv, hr, Option.bind_some, Option.map_some]; rfl), rfl, hk⟩
  · rename_i t p x
    obtain ⟨v, _, hv, hk⟩ := wEv_ok hm h
    obtain ⟨y, hy, hk⟩ := wP_ok hm hk
    obtain ⟨S', L', hs, hl, hk⟩ := wStore_ok hk
    exact ⟨_, S', L', by simp only [dOper, hv, hy, hs, Option.bind_some, Option.map_some]; rfl, hl, hk⟩
  · rename_i op xt x y yt
    obtain ⟨a, ha, hk⟩ := wA_ok hm h
    obtain ⟨b, hb, hk⟩ := wA_ok hm hk
    obtain ⟨r, hr, hk⟩ := wBin_ok hk
    exact ⟨_, S, L, dOp_oper (by simp) (by simp) (by simp [dOp, ha, hb, hr, WV.av]), rfl, hk⟩
  · rename_i op xt x
    split at h
    · rename_i b _ hb
      exact ⟨_, S, L, dOp_oper (by simp) (by simp) (by simp [dOp, ev1, hm.ev hb, dUn, WV.av]), rfl, h⟩
    · obtain ⟨a, ha, hk⟩ := wA_ok hm h
      split at hk
      · rename_i r hr
        exact ⟨_, S, L, dOp_oper (by simp) (by simp) (by simp [dOp, ha, hr, WV.av]), rfl, hk⟩
      · exact hk.elim
  · rename_i t p f
    obtain ⟨v, _, hv, hk⟩ := wEv_ok hm h
    obtain ⟨r, hr, hk⟩ := wField_ok (nb := S.boxes.length) hk
    exact ⟨r, S, L, dOp_oper (by simp) (by simp) (by simp [dOp, hv, hr]), rfl, hk⟩
  · rename_i t x i
    obtain ⟨a, ha, hk⟩ := wA_ok hm h
    obtain ⟨k, m, hi, hk⟩ := wI_ok hm hk
    split at hk
    · rename_i de hde
      obtain ⟨d, hd, hde⟩ := Option.bind_eq_some_iff.1 hde
      obtain ⟨e, he, hde⟩ := Option.bind_eq_some_iff.1 hde
      obtain ⟨tok, len, xs, rfl, h1, h2, hk⟩ := hk
      exact ⟨_, S, L, dOp_oper (by simp) (by simp) (by simp [dOp, ha, hi, dIndexAddr, hd, he, hde, h1, h2, WV.av]), rfl, hk⟩
    · exact hk.elim
  · rename_i t x i
    obtain ⟨a, ha, hk⟩ := wA_ok hm h
    obtain ⟨k, m, hi, hk⟩ := wI_ok hm hk
    split at hk
    · rename_i s hs _
      obtain ⟨d, hd, hs⟩ := Option.map_eq_some_iff.1 hs
      obtain ⟨h1, h2, hk⟩ := hk
      have hlt : m.toNat < s.data.size := by show m.toNat < s.size; omega
      have e : byteAt s m = ((s[m.toNat]'(by omega)).toNat : Int) := by
        unfold byteAt
        congr 2
        rw [Array.getD_eq_getD_getElem?, Array.getElem?_eq_getElem hlt]
        rfl
      rw [e] at hk
      exact ⟨_, S, L, dOp_oper (by simp) (by simp) (by simp [dOp, ha, hi, dIndex, hd, hs, h1, h2, WV.av]), rfl, hk⟩
    · exact hk.elim
  · rename_i t x lo hi
    obtain ⟨a, ha, hk⟩ := wA_ok hm h
    obtain ⟨lo', hlo, hk⟩ := wO_ok hm hk
    obtain ⟨hi', hhi, hk⟩ := wO_ok hm hk
    obtain ⟨r, hr, hk⟩ := wSlice_ok hk
    exact ⟨_, S, L, dOp_oper (by simp) (by simp) (by simp [dOp, ha, hlo, hhi, hr, WV.av]), rfl, hk⟩
  · rename_i x i
    obtain ⟨v, hv, hk⟩ := wP_ok hm h
    split at hk
    · rename_i r hr
      exact ⟨_, S, L, dOp_oper (by simp) (by simp) (by simp [dOp, hv, hr, WV.av]), rfl, hk⟩
    · exact hk.elim
  · rename_i s d x
    obtain ⟨a, ha, hk⟩ := wA_ok hm h
    split at hk
    · rename_i k hs hd
      obtain ⟨ds, hs⟩ := Option.isSome_iff_exists.1 hs
      obtain ⟨dd, hdd, hik⟩ := Option.map_eq_some_iff.1 hd
      clear hd
      split at hk
      · rename_i k' m
        split at hk
        · exact ⟨_, S, L, dOp_oper (by simp) (by simp) (by simp [dOp, ha, dConv, hs, hdd, hik, wrap_in _ hk.1, WV.av]), rfl, hk.2⟩
        · exact ⟨_, S, L, dOp_oper (by simp) (by simp) (by simp [dOp, ha, dConv, hs, hdd, hik, WV.av]), rfl, hk⟩
      · exact hk.elim
    · obtain ⟨r, hr, hk⟩ := hk
      exact ⟨_, S, L, dOp_oper (by simp) (by simp) (by simp [dOp, ha, hr, WV.av]), rfl, hk⟩
  · rename_i f caps
    obtain ⟨vs, hvs, hk⟩ := wArgs_ok hm _ h
    exact ⟨_, S, L, dOp_oper (by simp) (by simp) (by simp [dOp, hvs, WV.av]), rfl, hk⟩
  · rename_i c
    split at h
    · rename_i x t hc hx ht
      obtain ⟨a, ha, hk⟩ := wA_ok hm h
      have hd : ∀ r, dLen T t a = some r → dOper T (EV n ρ) (join S L) (.call c) = some (.val (.one r) (join S L)) := by
        intro r hr
        simp [dOper, dCallee, hc, hx, ht, ha, hr]
      split at hk
      · rename_i b hb
        obtain ⟨d, hd', hb⟩ := Option.map_eq_some_iff.1 hb
        simp only [Prod.mk.injEq] at hb
        have hb1 := hb.1
        split at hk
        · rename_i s
          exact ⟨.v _, S, L, hd _ (by simp [dLen, hd', hb1]), rfl, hk⟩
        · exact hk.elim
      · rename_i hb
        obtain ⟨d, hd', hb⟩ := Option.map_eq_some_iff.1 hb
        simp only [Prod.mk.injEq] at hb
        obtain ⟨e, he⟩ := Option.isSome_iff_exists.1 hb.2
        obtain ⟨m, hm', hk⟩ := hk
        refine ⟨.v _, S, L, hd _ ?_, rfl, hk⟩
        cases a <;> simp [AL.len?] at hm' <;> subst hm' <;> simp [dLen, hd', he]
      · exact hk.elim
    · rename_i s x t t' hc hx ht
      obtain ⟨htt, h⟩ := h
      obtain ⟨a, ha, hk⟩ := wA_ok hm h
      obtain ⟨b, hb, hk⟩ := wA_ok hm hk
      obtain ⟨r, S', hr, hk⟩ := hk
      refine ⟨.v _, S', L, ?_, by rw [append_boxes hr], hk⟩
      subst htt
      simp only [dOper, dCallee, hc, hx, ht, if_true, ha, hb, dAppend2_join, hr, Option.bind_some, Option.map_some]
      rfl
    · exact h.elim
  · exact h.elim
end
end Go.Den
namespace Go.Den
open Go.RowKit
section
variable {P : Program} {w0 : World} {T : Tab} {n : Nat}
def lift (n nb : Nat) (K : KE) : Rho → St → Prop := fun ρ S' => ∃ env S L, Mt n nb env ρ ∧ S' = join S L ∧ S.boxes.length = nb ∧ K env S L
theorem look_set (env : Env) (t : Nat) (v : WV) (u : Nat) : look (setE env t v) u = if u = t then some v else look env u := by
  have hd : ∀ env : Env, u ≠ t → look (drop1 env t) u = look env u := by
    intro env hne
    induction env with
    | nil => rfl
    | cons p r ih =>
      obtain ⟨k, w⟩ := p
      unfold drop1
      cases hk : Nat.beq k t with
      | true =>
        simp only []
        have : k = t := Nat.eq_of_beq_eq_true hk
        subst this
        rw [ih]
        unfold look
        have : Nat.beq k u = false := by cases h : Nat.beq k u with | true => exact absurd (Nat.eq_of_beq_eq_true h).symm hne | false => rfl
        rw [this]
        cases r <;> rfl
      | false =>
        simp only []
        unfold look
        cases Nat.beq k u with
        | true => rfl
        | false => exact ih
  unfold setE
  rw [look]
  by_cases h : u = t
  · subst h
    rw [if_pos rfl]
    have : Nat.beq u u = true := Nat.beq_refl u
    rw [this]
  · rw [if_neg h]
    have : Nat.beq t u = false := by cases hb : Nat.beq t u with | true => exact absurd (Nat.eq_of_beq_eq_true hb).symm h | false => rfl
    rw [this]
    exact hd env h
theorem Mt.set {nb : Nat} {env : Env} {ρ : Rho} (h : Mt n nb env ρ) {d : Nat} (hd : d < n) (v : WV) : Mt n nb (setE env d v) (upd ρ (some d) (v.av nb)) := by
  intro t w hw
  rw [look_set] at hw
  split at hw
  · rename_i ht
    subst ht
    cases hw
    exact ⟨hd, if_pos rfl⟩
  · rename_i ht
    obtain ⟨h1, h2⟩ := h t w hw
    exact ⟨h1, by show (if t = d then v.av nb else ρ t) = _; rw [if_neg ht]; exact h2⟩
theorem wSet_ok {nb : Nat} {env : Env} {ρ : Rho} (h : Mt n nb env ρ) {d : Option Tmp} {v : WV} {K : Env → Prop} (hk : wSet n env d v K) : ∃ env', Mt n nb env' (upd ρ d (v.av nb)) ∧ K env' := by
  unfold wSet at hk
  split at hk
  · rename_i d
    split at hk
    · rename_i hb
      exact ⟨_, h.set (Nat.le_of_ble_eq_true hb) v, hk⟩
    · exact hk.elim
  · exact ⟨env, h, hk⟩
theorem Mt.known {nb : Nat} {env : Env} {ρ : Rho} (h : Mt n nb env ρ) {d : Nat} {v v' : WV} (hl : look env d = some v) (he : v'.av nb = v.av nb) : Mt n nb (setE env d v') ρ := by
  intro t w hw
  rw [look_set] at hw
  split at hw
  · rename_i ht
    subst ht
    cases hw
    obtain ⟨h1, h2⟩ := h t v hl
    exact ⟨h1, h2.trans he.symm⟩
  · exact h t w hw
theorem wAll_ok : ∀ (ts : List TypeId) {K : List AV → Prop}, wAll T ts K → ∀ vs, likeVs T ts vs = true → K vs
  | [], K, hk, vs, h => by
    cases vs with
    | nil => exact hk
    | cons => simp [likeVs] at h
  | t :: ts, K, hk, vs, h => by
    cases vs with
    | nil => simp [likeVs] at h
    | cons v vs =>
      simp only [likeVs, Bool.and_eq_true] at h
      obtain ⟨h1, h2⟩ := h
      unfold wAll at hk
      unfold likeV at h1
      cases hd : T.desc t with
      | none => rw [hd] at h1; cases h1
      | some d =>
        rw [hd] at hk h1
        simp only [] at hk h1
        cases hr : d.row with
        | true =>
          rw [hr] at hk h1
          cases v <;> simp only [] at h1 <;> first | (cases h1; done) | skip
          exact wAll_ok ts (allCells_ok _ hk _ h1) vs h2
        | false =>
          rw [hr] at hk h1
          cases v <;> simp only [] at h1 <;> first | (cases h1; done) | skip
          exact wAll_ok ts (allCells_ok _ hk _ h1) vs h2
theorem Mt.restr {nb : Nat} {env : Env} {ρ : Rho} (h : Mt n nb env ρ) (D : List Nat) : Mt n nb (restr D env) ρ := by
  have key : ∀ (D : List Nat) t v, look (Go.Den.restr D env) t = some v → ∃ v', look env t = some v' ∧ v.av nb = v'.av nb := by
    intro D t
    induction D with
    | nil => intro v hv; cases hv
    | cons k D ih =>
      intro v hv
      unfold Go.Den.restr at hv
      cases hk : look env k with
      | none => rw [hk] at hv; exact ih v hv
      | some w =>
        rw [hk] at hv
        simp only [] at hv
        unfold look at hv
        cases hb : Nat.beq k t with
        | true =>
          rw [hb] at hv
          have := Nat.eq_of_beq_eq_true hb
          subst this
          cases hv
          exact ⟨w, hk, by cases w <;> rfl⟩
        | false => rw [hb] at hv; exact ih v hv
  intro t v hv
  obtain ⟨v', h1, h2⟩ := key D t v hv
  obtain ⟨h3, h4⟩ := h t v' h1
  exact ⟨h3, h4.trans h2.symm⟩
theorem wCall_ok {hk : Hk} (hh : hk.tot = wTot P w0 T ∧ hk.toty = wTotY P w0 T) {f : FuncId} {args : List AV} {S : St} {L : Lo} {K : KW} (h : wCall hk P T f args S L K) :
    Tot P w0 f args (join S L) fun v S' => ∃ S1, S' = join S1 L ∧ S1.boxes.length = S.boxes.length ∧ K (.v v) S1 L := by
  unfold wCall at h
  split at h
  · rename_i fn hf
    obtain ⟨R, ht, ha⟩ := h
    rw [hh.1] at ht
    obtain ⟨ht, hs⟩ := ht
    refine ht.mono ?_
    rintro v S' ⟨S1, h1, h2, h3⟩
    obtain ⟨fn', vs, hf', rfl, hl⟩ := hs v S1 h3
    rw [hf] at hf'
    cases hf'
    exact ⟨S1, h1, h2, wAll_ok _ ha vs hl S1 h3⟩
  · exact h.elim
theorem clear_join (S : St) (L : Lo) (Y : List Nat) (x : AL) : x.clear (join S L) Y = x.clear S Y := by
  cases x with
  | sl t => cases t <;> rfl
  | _ => rfl
theorem clearLs_keep {S : St} {L : Lo} {Y : List Nat} : ∀ {xs : List AL}, clearLs S Y xs → xs.map (AL.keep (join S L) Y) = xs
  | [], _ => rfl
  | x :: r, h => by
    rw [List.map_cons, clearLs_keep h.2]
    unfold AL.keep
    rw [clear_join, if_pos h.1]
theorem Mt.keepY {nb : Nat} {env : Env} {ρ : Rho} {S : St} {L : Lo} {Y : List Nat} (h : Mt n nb env ρ) : ∀ (D : List Nat), clearEnv S Y (Go.Den.restr D env) → Mt n nb (Go.Den.restr D env) (fun i => (ρ i).keep (join S L) Y) := by
  intro D hc t v hv
  obtain ⟨h1, h2⟩ := h.restr D t v hv
  refine ⟨h1, ?_⟩
  show (ρ t).keep (join S L) Y = _
  rw [h2]
  have key : ∀ (e : Env), clearEnv S Y e → ∀ t v, look e t = some v → (v.av nb).keep (join S L) Y = v.av nb := by
    intro e
    induction e with
    | nil => intro _ t v hv; cases hv
    | cons p e ih =>
      obtain ⟨k, w⟩ := p
      intro hc t v hv
      unfold look at hv
      split at hv
      · cases hv
        cases w with
        | v x =>
          obtain ⟨hx, _⟩ := hc
          cases x with
          | one x =>
            show AV.one (x.keep (join S L) Y) = _
            unfold AL.keep
            rw [clear_join, if_pos (show x.clear S Y = true from hx)]
            rfl
          | agg xs =>
            show AV.agg (xs.map (AL.keep (join S L) Y)) = _
            rw [clearLs_keep hx]
            rfl
          | ptr i o => rfl
          | nilp => rfl
          | _ => exact hx.elim
        | kb b =>
          show AV.one (AL.keep (join S L) Y (.bool b)) = .one (.bool b)
          unfold AL.keep
          rw [if_pos (by simp [AL.clear, AL.clr])]
        | loc j o => rfl
      · refine ih ?_ t v hv
        cases w with
        | v x => exact hc.2
        | kb b => exact hc
        | loc j o => exact hc
  exact key _ hc t v hv
theorem wCallY_ok {hk : Hk} (hh : hk.tot = wTot P w0 T ∧ hk.toty = wTotY P w0 T) {f : FuncId} {args : List AV} {w : Own} {S : St} {L : Lo} {env : Env} {ρ : Rho} (hm : Mt n S.boxes.length env ρ) {K : WV → KE} (h : wCallY hk P T f args w S L env K) :
    T.own = true ∧ ∃ Y, (∀ t, t ∈ Y → t ∈ (join S L).young ∧ ((join S L).tok t).isSome = true) ∧ TotY P w0 Y f args (join S L) fun v S' => ∃ S1 env', S' = join S1 (deadLo w.dead L) ∧ S1.boxes.length = S.boxes.length ∧ Mt n S.boxes.length env' (fun i => (ρ i).keep (join S L) Y) ∧ K (.v v) env' S1 (deadLo w.dead L) := by
  unfold wCallY at h
  split at h
  · rename_i fn hf
    obtain ⟨ho, Y, R, ht, hce, _, ha⟩ := h
    rw [hh.2] at ht
    obtain ⟨hY, ht, hs⟩ := ht
    refine ⟨ho, Y, hY, ht.mono ?_⟩
    rintro v S' ⟨S1, h1, h2, h3⟩
    obtain ⟨fn', vs, hf', rfl, hl⟩ := hs v S1 h3
    rw [hf] at hf'
    cases hf'
    exact ⟨S1, _, h1, h2, hm.keepY w.keep hce, wAll_ok _ ha vs hl S1 h3⟩
  · exact h.elim
theorem wRun_ok {hk : Hk} (hh : hk.tot = wTot P w0 T ∧ hk.toty = wTotY P w0 T) {nov : Cf} {o : Oper} {env : Env} {ρ : Rho} {S : St} {L : Lo} (hm : Mt n S.boxes.length env ρ) {K : KE} {K' : Rho → St → Prop} (hK : ∀ ρ' S', lift n S.boxes.length K ρ' S' → K' ρ' S') (h : wRun nov hk P T n o env S L K) :
    dRes P w0 T.own ρ o.dst (join S L) K' (dOper T (EV n ρ) (join S L) o.op) := by
  have op : wOp nov.nov T env S L o.op (fun v S L => wSet n env o.dst v fun env => K env S L) → dRes P w0 T.own ρ o.dst (join S L) K' (dOper T (EV n ρ) (join S L) o.op) := by
    intro h
    obtain ⟨v, S', L', h1, h2, h3⟩ := wOp_ok hm h
    rw [h1]
    obtain ⟨env', h4, h5⟩ := wSet_ok hm h3
    exact hK _ _ ⟨env', S', L', h4, rfl, h2, h5⟩
  unfold wRun at h
  split at h
  · rename_i c hc
    split at h
    · rename_i x hcal
      split at h
      · rename_i f caps hx
        obtain ⟨vs, hvs, h⟩ := wArgs_ok hm _ h
        have : dOper T (EV n ρ) (join S L) o.op = some (.call f (vs ++ caps)) := by
          simp [hc, dOper, dCallee, hcal, hm.ev hx, WV.av, hvs]
        rw [this]
        split at h
        · refine .inl ((wCall_ok hh h).mono ?_)
          rintro v S' ⟨S1, rfl, h2, h3⟩
          obtain ⟨env', h4, h5⟩ := wSet_ok hm h3
          exact hK _ _ ⟨env', S1, L, h4, rfl, h2, h5⟩
        · obtain ⟨ho, Y, hY, ht⟩ := wCallY_ok hh hm h
          refine .inr ⟨ho, Y, hY, ht.mono ?_⟩
          rintro v S' ⟨S1, env1, rfl, h2, hm1, h3⟩
          obtain ⟨env', h4, h5⟩ := wSet_ok hm1 h3
          exact hK _ _ ⟨env', S1, _, h4, rfl, h2, h5⟩
      · exact h.elim
    · exact op h
  · exact op h
theorem wOne_ok {hk : Hk} (hh : hk.tot = wTot P w0 T ∧ hk.toty = wTotY P w0 T) {nov : Cf} {ops : Array Oper} {o : Oper} {env : Env} {ρ : Rho} {S : St} {L : Lo} (hm : Mt n S.boxes.length env ρ) {K : KE} {K' : Rho → St → Prop} (hK : ∀ ρ' S', lift n S.boxes.length K ρ' S' → K' ρ' S') (h : wOne nov hk P T n ops o env S L K) :
    dOne P w0 T n ops o ρ (join S L) K' := by
  have skip : ∀ {env : Env}, Mt n S.boxes.length env ρ → wSet n env o.dst (.v (.tup [])) (fun env => K env S L) → K' (upd ρ o.dst (.tup [])) (join S L) := by
    intro env hm h
    obtain ⟨env', h4, h5⟩ := wSet_ok hm h
    exact hK _ _ ⟨env', S, L, h4, rfl, rfl, h5⟩
  unfold wOne at h
  unfold dOne
  split at h
  · rename_i hg
    have : dWant ops (EV n ρ) o = some true := by unfold dWant; rw [hg]
    rw [this]
    exact wRun_ok hh hm hK h
  · rename_i j want hg
    split at h
    · rename_i d hd
      have want_of : ∀ {v : WV} {b : Bool}, look env d = some v → v.av S.boxes.length = .one (.bool b) → dWant ops (EV n ρ) o = some (b == want) := by
        intro v b hl hv
        obtain ⟨h1, h2⟩ := hm d v hl
        unfold dWant
        rw [hg]
        simp only [hd, Option.bind_some, EV_get, if_pos h1, h2, hv]
      split at h
      · rename_i b hl
        rw [want_of hl rfl]
        cases b <;> cases want <;> first | exact wRun_ok hh hm hK h | exact skip hm h
      · rename_i b hl
        rw [want_of hl rfl]
        cases want with
        | true =>
          cases b with
          | true => exact wRun_ok hh (hm.known hl (v' := .kb true) rfl) hK (h.1 rfl)
          | false => exact skip (hm.known hl (v' := .kb false) rfl) (h.2 rfl)
        | false =>
          cases b with
          | true => exact skip (hm.known hl (v' := .kb true) rfl) (h.1 rfl)
          | false => exact wRun_ok hh (hm.known hl (v' := .kb false) rfl) hK (h.2 rfl)
      · rename_i hl
        have : dWant ops (EV n ρ) o = some false := by
          obtain ⟨h1, h2⟩ := hm d _ hl
          unfold dWant
          rw [hg]
          simp only [hd, Option.bind_some, EV_get, if_pos h1, h2, WV.av]
        rw [this]
        exact skip hm h
      · exact h.elim
    · exact h.elim
theorem look_putE {p : Nat → Bool} {tk off : Nat} {vs : List AL} : ∀ (env : Env) (t : Nat) (v : WV), look (putE p tk off vs env) t = some v → ∃ v0, look env t = some v0 ∧ v = v0.put p tk off vs
  | [], t, v, h => by cases h
  | (k, w) :: r, t, v, h => by
    unfold putE look at h
    unfold look
    cases hb : Nat.beq k t with
    | true => rw [hb] at h; cases h; exact ⟨w, rfl, rfl⟩
    | false => rw [hb] at h; exact look_putE r t v h
theorem Mt.putE {nb : Nat} {env : Env} {ρ : Rho} {p : Nat → Bool} {tk off : Nat} {vs : List AL} (h : Mt n nb env ρ) : Mt n nb (putE p tk off vs env) (fun i => (ρ i).put p tk off vs) := by
  intro t v hv
  obtain ⟨v0, h1, rfl⟩ := look_putE env t v hv
  obtain ⟨h2, h3⟩ := h t v0 h1
  refine ⟨h2, ?_⟩
  show (ρ t).put p tk off vs = _
  rw [h3]
  cases v0 <;> rfl
theorem join_put (S : St) (L : Lo) (tk off : Nat) (vs : List AL) : (join S L).put tk off vs = join (S.put tk off vs) (putB S.has tk off vs L) := by
  show ({ join S L with boxes := putB S.has tk off vs (S.boxes ++ L) } : St) = { S with boxes := putB S.has tk off vs S.boxes ++ putB S.has tk off vs L }
  unfold putB
  rw [List.map_append]
  rfl
theorem born_boxes_len (S : St) (x : Nat × TypeId × Nat) : (S.born x).boxes.length = S.boxes.length := rfl
theorem put_boxes (S : St) (tk off : Nat) (vs : List AL) : (S.put tk off vs).boxes.length = S.boxes.length := by simp [St.put, putB]
theorem wSpec_ok (hT : T.Ok P) (ho : T.own = true) {nov : Cf} {ops : Array Oper} {o : Oper} {env : Env} {ρ : Rho} {S : St} {L : Lo} (hm : Mt n S.boxes.length env ρ) {K : KE} {K' : Rho → St → Prop} (hK : ∀ ρ' S', lift n S.boxes.length K ρ' S' → K' ρ' S') (hg : o.guard = none) {R : Prop} (hR : R → dOne P w0 T n ops o ρ (join S L) K') (h : wSpec nov T n o env S L K R) :
    dOneY P w0 T n ops o ρ (join S L) K' := by
  have hw : dWant ops (EV n ρ) o = some true := dWant_of hg
  have one : ∀ {v : WV}, wSet n env o.dst v (fun env => K env S L) → K' (upd ρ o.dst (v.av S.boxes.length)) (join S L) := by
    intro v h
    obtain ⟨env', h4, h5⟩ := wSet_ok hm h
    exact hK _ _ ⟨env', S, L, h4, rfl, rfl, h5⟩
  have oneS : ∀ {v : WV} {S1 : St}, S1.boxes.length = S.boxes.length → wSet n env o.dst v (fun env => K env S1 L) → K' (upd ρ o.dst (v.av S.boxes.length)) (join S1 L) := by
    intro v S1 hl h
    obtain ⟨env', h4, h5⟩ := wSet_ok hm h
    exact hK _ _ ⟨env', S1, L, h4, rfl, hl, h5⟩
  unfold wSpec at h
  split at h
  · rename_i t x i hop
    split at h
    · exact .inl (hR h)
    · obtain ⟨a, ha, h⟩ := wA_ok hm h
      obtain ⟨k, j, hi, h⟩ := wI_ok hm h
      split at h
      · rename_i de hde
        obtain ⟨d, hd, hde⟩ := Option.bind_eq_some_iff.1 hde
        obtain ⟨e, he, hde⟩ := Option.bind_eq_some_iff.1 hde
        obtain ⟨tk, len, xs, rfl, h1, h2, h⟩ := h
        exact .inr ⟨ho, SemOne.index hT hw hop ha hi hd he hde ⟨h1, h2⟩ (one h)⟩
      · exact h.elim
  · rename_i t x lo hop
    split at h
    · exact .inl (hR h)
    · obtain ⟨a, ha, h⟩ := wA_ok hm h
      obtain ⟨k, j, hi, h⟩ := wI_ok hm h
      split at h
      · rename_i de hde
        obtain ⟨d, hd, hde⟩ := Option.bind_eq_some_iff.1 hde
        obtain ⟨e, he, hde⟩ := Option.bind_eq_some_iff.1 hde
        obtain ⟨tk, len, xs, rfl, h1, h2, h⟩ := h
        exact .inr ⟨ho, SemOne.cut hT hw hop ha hi hd he hde ⟨h1, h2⟩ (one h)⟩
      · exact h.elim
  · rename_i t x hi hop
    split at h
    · exact .inl (hR h)
    · obtain ⟨a, ha, h⟩ := wA_ok hm h
      obtain ⟨k, j, hi, h⟩ := wI_ok hm h
      split at h
      · rename_i de hde
        obtain ⟨d, hd, hde⟩ := Option.bind_eq_some_iff.1 hde
        obtain ⟨e, he, hde⟩ := Option.bind_eq_some_iff.1 hde
        obtain ⟨tk, len, xs, rfl, h1, h2, h⟩ := h
        exact .inr ⟨ho, SemOne.front hT hw hop ha hi hd he hde ⟨h1, h2⟩ (one h)⟩
      · exact h.elim
    · obtain ⟨a, ha, h⟩ := wA_ok hm h
      obtain ⟨k, j, hi, h⟩ := wI_ok hm h
      split at h
      · rename_i de hde
        obtain ⟨d, hd, hde⟩ := Option.bind_eq_some_iff.1 hde
        obtain ⟨e, he, hde⟩ := Option.bind_eq_some_iff.1 hde
        obtain ⟨rfl, rfl, h⟩ := h
        exact .inr ⟨ho, SemOne.sliceNil hT hw hop ha hi hd he hde (one h)⟩
      · exact h.elim
  · rename_i t p x hop
    split at h
    · rename_i tk off hp
      split at h
      · rename_i hdst
        obtain ⟨v, hx, h⟩ := wP_ok hm h
        split at h
        · rename_i vs d hv hd
          obtain ⟨h1, m, e, s, h2, h3, h4, h5, h⟩ := h
          refine .inr ⟨ho, SemOne.put hT hw hop hdst (hm.ev hp) hx hv hd h1 h2 h3 h4 h5 (hK _ _ ⟨_, _, _, hm.putE, ?_, put_boxes _ _ _ _, h⟩)⟩
          exact join_put S L tk off vs
        · exact h.elim
      · exact h.elim
    · exact .inl (hR h)
  · rename_i c hop
    split at h
    · rename_i hc
      split at h
      · rename_i x t hax hat
        have e1 : c.args = #[x] := by apply Array.ext'; simpa using hax
        have e2 : c.argTypes = #[t] := by apply Array.ext'; simpa using hat
        split at h
        · rename_i tk off len hp
          split at h
          · rename_i hdst
            split at h
            · rename_i de hde
              obtain ⟨d, hd, hde⟩ := Option.bind_eq_some_iff.1 hde
              obtain ⟨e, he, hde⟩ := Option.bind_eq_some_iff.1 hde
              obtain ⟨h1, m, e', s, h2, h3, h4, h5, h⟩ := h
              refine .inr ⟨ho, SemOne.clear hT hw hop hc e1 e2 hdst (hm.ev hp) hd he hde h1 h2 h3 h4 h5 (hK _ _ ⟨_, _, _, hm.putE, ?_, put_boxes _ _ _ _, h⟩)⟩
              exact join_put S L tk off _
            · exact h.elim
          · exact h.elim
        · exact h.elim
      · exact h.elim
    · rename_i hc
      split at h
      · rename_i x t hax hat
        have e1 : c.args = #[x] := by apply Array.ext'; simpa using hax
        have e2 : c.argTypes = #[t] := by apply Array.ext'; simpa using hat
        obtain ⟨a, ha, h⟩ := wA_ok hm h
        split at h
        · rename_i e he
          obtain ⟨d, hd, he⟩ := Option.bind_eq_some_iff.1 he
          obtain ⟨rfl, h⟩ := h
          exact .inr ⟨ho, SemOne.capNil hT hw hop hc e1 e2 ha hd he (one h)⟩
        · exact h.elim
      · exact h.elim
    · rename_i hc
      split at h
      · exact .inl (hR h)
      · split at h
        · rename_i x y t ti hax hat
          have e1 : c.args = #[x, y] := by apply Array.ext'; simpa using hax
          have e2 : c.argTypes = #[t, ti] := by apply Array.ext'; simpa using hat
          obtain ⟨a, ha, h⟩ := wA_ok hm h
          obtain ⟨b, hb, h⟩ := wA_ok hm h
          split at h
          · rename_i e de di hde hdi
            obtain ⟨d, hd, hde⟩ := Option.bind_eq_some_iff.1 hde
            obtain ⟨e', he, hde⟩ := Option.bind_eq_some_iff.1 hde
            obtain ⟨de', hde, hq⟩ := Option.map_eq_some_iff.1 hde
            cases hq
            obtain ⟨rfl, len, rfl, h1, h2, h3, h4, h5, h⟩ := h
            exact .inr ⟨ho, SemOne.zeros hT hw hop hc e1 e2 ha h1 h2 hb hd he hde h4 hdi h5 h3 (oneS (born_boxes_len _ _) h)⟩
          · exact h.elim
        · exact h.elim
    · exact .inl (hR h)
  · exact .inl (hR h)
theorem wOneY_ok {hk : Hk} (hh : hk.tot = wTot P w0 T ∧ hk.toty = wTotY P w0 T) (hT : T.Ok P) {nov : Cf} {ops : Array Oper} {o : Oper} {env : Env} {ρ : Rho} {S : St} {L : Lo} (hm : Mt n S.boxes.length env ρ) {K : KE} {K' : Rho → St → Prop} (hK : ∀ ρ' S', lift n S.boxes.length K ρ' S' → K' ρ' S') (h : wOneY nov hk P T n ops o env S L K) :
    dOneY P w0 T n ops o ρ (join S L) K' := by
  unfold wOneY at h
  split at h
  · rename_i ho hg
    exact wSpec_ok hT ho hm hK hg (wOne_ok hh hm hK) h
  · exact .inl (wOne_ok hh hm hK h)
theorem wList_ok (hT : T.Ok P) {hk : Hk} (hh : hk.tot = wTot P w0 T ∧ hk.toty = wTotY P w0 T) {nov : Cf} {ops : Array Oper} {K : KE} {nb : Nat} {K' : Rho → St → Prop} (hK : ∀ ρ' S', lift n nb K ρ' S' → K' ρ' S') : ∀ (l : List Oper) (env : Env) (S : St) (L : Lo) (ρ : Rho), S.boxes.length = nb → Mt n nb env ρ → wList nov hk P T n ops l K env S L → dList P w0 T n ops l ρ (join S L) K'
  | [], env, S, L, ρ, hn, hm, h => hK _ _ ⟨env, S, L, hm, rfl, hn, h⟩
  | o :: r, env, S, L, ρ, hn, hm, h => by
    subst hn
    refine wOneY_ok hh hT hm ?_ h
    rintro ρ' S' ⟨env', S1, L1, h1, rfl, h3, h4⟩
    exact wList_ok hT hh hK r env' S1 L1 ρ' h3 h1 h4
mutual
theorem wPlan_ok (hT : T.Ok P) {hk : Hk} (hh : hk.tot = wTot P w0 T ∧ hk.toty = wTotY P w0 T) {nov : Cf} {ops : Array Oper} {K : KE} {nb : Nat} {K' : Rho → St → Prop} (hK : ∀ ρ' S', lift n nb K ρ' S' → K' ρ' S') : ∀ (p : Plan) (env : Env) (S : St) (L : Lo) (ρ : Rho), S.boxes.length = nb → Mt n nb env ρ → wPlan nov hk P T n ops p K env S L → dPlan P w0 T n ops p ρ (join S L) K'
  | .done, env, S, L, ρ, hn, hm, h => by
    unfold wPlan at h
    unfold dPlan
    exact hK _ _ ⟨env, S, L, hm, rfl, hn, h⟩
  | .take i p, env, S, L, ρ, hn, hm, h => by
    unfold wPlan at h
    unfold dPlan
    cases ho : ops[i]? with
    | none => rw [ho] at h; exact h.elim
    | some o =>
      rw [ho] at h
      simp only [] at h ⊢
      subst hn
      refine wOne_ok hh hm ?_ h
      rintro ρ' S' ⟨env', S1, L1, h1, rfl, h3, h4⟩
      exact wPlan_ok hT hh hK p env' S1 L1 ρ' h3 h1 h4
  | .all l, env, S, L, ρ, hn, hm, h => by
    unfold wPlan at h
    unfold dPlan
    exact wPlanL_ok hT hh hK l env S L ρ hn hm h
theorem wPlanL_ok (hT : T.Ok P) {hk : Hk} (hh : hk.tot = wTot P w0 T ∧ hk.toty = wTotY P w0 T) {nov : Cf} {ops : Array Oper} {K : KE} {nb : Nat} {K' : Rho → St → Prop} (hK : ∀ ρ' S', lift n nb K ρ' S' → K' ρ' S') : ∀ (l : List (Nat × Plan)) (env : Env) (S : St) (L : Lo) (ρ : Rho), S.boxes.length = nb → Mt n nb env ρ → wPlanL nov hk P T n ops l K env S L → dPlanL P w0 T n ops l ρ (join S L) K'
  | [], env, S, L, ρ, hn, hm, h => by unfold dPlanL; trivial
  | (i, p) :: r, env, S, L, ρ, hn, hm, h => by
    unfold wPlanL at h
    unfold dPlanL
    refine ⟨?_, wPlanL_ok hT hh hK r env S L ρ hn hm h.2⟩
    have h := h.1
    cases ho : ops[i]? with
    | none => rw [ho] at h; exact h.elim
    | some o =>
      rw [ho] at h
      simp only [] at h ⊢
      subst hn
      refine wOneY_ok hh hT hm ?_ h
      rintro ρ' S' ⟨env', S1, L1, h1, rfl, h3, h4⟩
      exact wPlan_ok hT hh hK p env' S1 L1 ρ' h3 h1 h4
end

def WSem (P : Program) (w0 : World) (T : Tab) (n : Nat) (c : Code) (Q : QW) : KE := fun env S L =>
  ∀ ρ, Mt n S.boxes.length env ρ → dwp P w0 T n S.boxes.length c ρ (join S L) fun e => lift n S.boxes.length (Q e)
def kont (P : Program) (w0 : World) (T : Tab) (n : Nat) : List Kn → QW → QW
  | [], Q => Q
  | .seq b :: ks, Q => fun e => match e with
    | .normal => WSem P w0 T n b (kont P w0 T n ks Q)
    | e => kont P w0 T n ks Q e
  | .blk id :: ks, Q => fun e => match e with
    | .exit id' => if id' = id then kont P w0 T n ks Q .normal else kont P w0 T n ks Q (.exit id')
    | e => kont P w0 T n ks Q e
def capsLow (nb : Nat) : List AV → Prop
  | [] => True
  | .ptr i _ :: r => i < nb ∧ capsLow nb r
  | _ :: _ => False
theorem capsLow_in {nb : Nat} (nl : Nat) : ∀ {l : List AV}, capsLow nb l → capsIn (nb + nl) l = true
  | [], _ => rfl
  | x :: r, h => by
    cases x with
    | ptr i o =>
      simp only [capsIn, Bool.and_eq_true]
      exact ⟨Nat.ble_eq_true_of_le (Nat.lt_of_lt_of_le h.1 (Nat.le_add_right _ _)), capsLow_in nl h.2⟩
    | _ => exact h.elim
def lowE (nb nl : Nat) : Env → Prop
  | [] => True
  | (_, .loc j _) :: r => j < nl ∧ lowE nb nl r
  | (_, .v (.ptr i _)) :: r => i < nb ∧ lowE nb nl r
  | (_, .v (.clo _ caps)) :: r => capsLow nb caps ∧ lowE nb nl r
  | (_, .v (.tup _)) :: _ => False
  | _ :: r => lowE nb nl r
def loopK (I : Nat → KE) (nl m : Nat) (Q : QW) : QW := fun e env S L => lowE S.boxes.length nl env ∧ match e with
  | .normal => ∃ m', m' < m ∧ I m' env S (L.take nl)
  | e => Q e env S (L.take nl)
def wLoop (P : Program) (w0 : World) (T : Tab) (n : Nat) (c : Code) (ks : List Kn) (Q : QW) : KE := fun env S L =>
  ∃ (D : List Nat) (I : Nat → KE) (m : Nat), I m (restr D env) S L ∧ ∀ m env S L', I m env S L' → WSem P w0 T n c (fun e env S L'' => loopK I L.length m (kont P w0 T n ks Q) e (restr D env) S L'') env S L'
def realHk (P : Program) (w0 : World) (T : Tab) : Hk := ⟨wTot P w0 T, wLoop P w0 T, wTotY P w0 T, fun n c ks Q env S L => WSem P w0 T n c (kont P w0 T n ks Q) env S L⟩
theorem dOne_mono {ops : Array Oper} {o : Oper} {ρ : Rho} {S : St} {K K' : Rho → St → Prop} (ih : ∀ ρ S, K ρ S → K' ρ S) (h : dOne P w0 T n ops o ρ S K) : dOne P w0 T n ops o ρ S K' := by
  unfold dOne at h ⊢
  split at h
  · rename_i hw
    generalize dOper T (EV n ρ) S o.op = res at h ⊢
    match res, h with
    | some (.val v S'), h => exact ih _ _ h
    | some (.call f args), .inl h => exact .inl (h.mono fun v S' hk => ih _ _ hk)
    | some (.call f args), .inr ⟨ho, Y, hY, hcb, hc⟩ =>
      exact .inr ⟨ho, Y, hY, hcb, fun A G w vs hW hA => (hc A G w vs hW hA).mono fun _ _ ⟨v, S', vr, H, h1, h2, h3, h4, h5⟩ => ⟨v, S', vr, H, h1, h2, h3, h4, ih _ _ h5⟩⟩
  · exact ih _ _ h
  · exact h.elim
theorem dOneY_mono {ops : Array Oper} {o : Oper} {ρ : Rho} {S : St} {K K' : Rho → St → Prop} (ih : ∀ ρ S, K ρ S → K' ρ S) (h : dOneY P w0 T n ops o ρ S K) : dOneY P w0 T n ops o ρ S K' := by
  rcases h with h | ⟨h1, h2, h3⟩
  · exact .inl (dOne_mono ih h)
  · exact .inr ⟨h1, h2, fun A E G a w K1 Q hA hG hE hW k => h3 A E G a w K1 Q hA hG hE hW (fun ρ' S' H a' w' hk => k ρ' S' H a' w' (ih ρ' S' hk))⟩
theorem dList_mono {ops : Array Oper} {K K' : Rho → St → Prop} (hK : ∀ ρ S, K ρ S → K' ρ S) : ∀ (l : List Oper) (ρ : Rho) (S : St), dList P w0 T n ops l ρ S K → dList P w0 T n ops l ρ S K'
  | [], ρ, S, h => hK ρ S h
  | _ :: r, _, _, h => dOneY_mono (fun ρ S => dList_mono hK r ρ S) h
mutual
theorem dPlan_mono {ops : Array Oper} {K K' : Rho → St → Prop} (hK : ∀ ρ S, K ρ S → K' ρ S) : ∀ (p : Plan) (ρ : Rho) (S : St), dPlan P w0 T n ops p ρ S K → dPlan P w0 T n ops p ρ S K'
  | .done, ρ, S, h => by unfold dPlan at h ⊢; exact hK ρ S h
  | .take i p, ρ, S, h => by
    unfold dPlan at h ⊢
    cases ho : ops[i]? with
    | none => rw [ho] at h; exact h.elim
    | some o => rw [ho] at h; exact dOne_mono (fun ρ S => dPlan_mono hK p ρ S) h
  | .all l, ρ, S, h => by unfold dPlan at h ⊢; exact dPlanL_mono hK l ρ S h
theorem dPlanL_mono {ops : Array Oper} {K K' : Rho → St → Prop} (hK : ∀ ρ S, K ρ S → K' ρ S) : ∀ (l : List (Nat × Plan)) (ρ : Rho) (S : St), dPlanL P w0 T n ops l ρ S K → dPlanL P w0 T n ops l ρ S K'
  | [], ρ, S, h => by unfold dPlanL; trivial
  | (i, p) :: r, ρ, S, h => by
    unfold dPlanL at h ⊢
    refine ⟨?_, dPlanL_mono hK r ρ S h.2⟩
    have h := h.1
    cases ho : ops[i]? with
    | none => rw [ho] at h; exact h.elim
    | some o =>
      rw [ho] at h
      exact dOneY_mono (fun ρ S => dPlan_mono hK p ρ S) h
end
theorem dwp_mono {nb0 : Nat} {Q Q' : Ex → Rho → St → Prop} (hQ : ∀ e ρ S, Q e ρ S → Q' e ρ S) : ∀ (c : Code) (ρ : Rho) (S : St), dwp P w0 T n nb0 c ρ S Q → dwp P w0 T n nb0 c ρ S Q' := by
  intro c
  induction c generalizing Q Q' with
  | skip => exact fun ρ S h => hQ _ ρ S h
  | label => exact fun ρ S h => hQ _ ρ S h
  | exit => exact fun ρ S h => hQ _ ρ S h
  | ret => exact fun ρ S h => hQ _ ρ S h
  | region id ops draw =>
    intro ρ S h
    cases draw with
    | false => exact dList_mono (fun ρ S => hQ .normal ρ S) _ ρ S h
    | true =>
      obtain ⟨h1, p, h2, h3, h4⟩ := h
      exact ⟨h1, p, h2, h3, dPlan_mono (fun ρ S => hQ .normal ρ S) p ρ S h4⟩
  | seq a b iha ihb =>
    intro ρ S h
    refine iha (fun e ρ S hk => ?_) ρ S h
    cases e with
    | normal => exact ihb hQ ρ S hk
    | exit id => exact hQ _ ρ S hk
    | ret => exact hQ _ ρ S hk
  | cond c a b iha ihb =>
    intro ρ S h
    unfold dwp at h ⊢
    split at h
    · exact ⟨fun ht => iha hQ ρ S (h.1 ht), fun ht => ihb hQ ρ S (h.2 ht)⟩
    · exact h.elim
  | block id c ih =>
    intro ρ S h
    refine ih (fun e ρ S hk => ?_) ρ S h
    cases e with
    | normal => exact hQ _ ρ S hk
    | exit id' =>
      simp only [dBlk] at hk ⊢
      split at hk
      · rename_i hid; rw [if_pos hid]; exact hQ _ ρ S hk
      · rename_i hid; rw [if_neg hid]; exact hQ _ ρ S hk
    | ret => exact hQ _ ρ S hk
  | loop c ih =>
    intro ρ S h
    obtain ⟨I, m, h0, hi⟩ := h
    refine ⟨I, m, h0, fun m ρ S hI => ih (fun e ρ S hk => ?_) ρ S (hi m ρ S hI)⟩
    obtain ⟨kk, hkk, hk⟩ := hk
    refine ⟨kk, hkk, ?_⟩
    cases e with
    | normal => exact hk
    | exit id => exact hQ _ _ _ hk
    | ret => exact hQ _ _ _ hk
  | rangeFunc => intro ρ S h; simp [dwp] at h
  | scope => intro ρ S h; simp [dwp] at h
  | goto => intro ρ S h; simp [dwp] at h
  | refuse => intro ρ S h; simp [dwp] at h
theorem lowE_look {nb nl : Nat} : ∀ (env : Env), lowE nb nl env → ∀ t v, look env t = some v → (v.av nb).cutP (nb + nl) = v.av nb
  | [], _, t, v, hv => by cases hv
  | (k, w) :: r, h, t, v, hv => by
    have both : lowE nb nl r ∧ (w.av nb).cutP (nb + nl) = w.av nb := by
      cases w with
      | kb b => exact ⟨h, rfl⟩
      | loc j off =>
        refine ⟨h.2, ?_⟩
        show (if nb + j < nb + nl then AV.ptr (nb + j) off else AV.junk) = _
        rw [if_pos (by have := h.1; omega)]
        rfl
      | v x =>
        cases x with
        | ptr i off =>
          refine ⟨h.2, ?_⟩
          show (if i < nb + nl then AV.ptr i off else AV.junk) = _
          rw [if_pos (by have := h.1; omega)]
          rfl
        | clo f caps =>
          refine ⟨h.2, ?_⟩
          show (match capsIn (nb + nl) caps with | true => AV.clo f caps | false => AV.junk) = _
          rw [capsLow_in nl h.1]
          rfl
        | tup xs => exact h.elim
        | one a => exact ⟨h, rfl⟩
        | agg a => exact ⟨h, rfl⟩
        | junk => exact ⟨h, rfl⟩
        | el a => exact ⟨h, rfl⟩
        | nilp => exact ⟨h, rfl⟩
        | spot a b => exact ⟨h, rfl⟩
        | cut a b c => exact ⟨h, rfl⟩
    unfold look at hv
    split at hv
    · cases hv
      exact both.2
    · exact lowE_look r both.1 t v hv
theorem wLoop_ok {c : Code} {ks : List Kn} {Q : QW} {env : Env} {S : St} {L : Lo} (h : wLoop P w0 T n c ks Q env S L) : WSem P w0 T n (.loop c) (kont P w0 T n ks Q) env S L := by
  obtain ⟨D, I, m, h0, hi⟩ := h
  intro ρ hm
  show dwp P w0 T n S.boxes.length (.loop c) ρ (join S L) _
  unfold dwp
  refine ⟨fun m => lift n S.boxes.length (I m), m, ⟨restr D env, S, L, hm.restr D, rfl, rfl, h0⟩, ?_⟩
  rintro m ρ S' ⟨env', S1, L1, h1, rfl, h3, h4⟩
  rw [← h3] at h1
  have := hi m env' S1 L1 h4 ρ h1
  rw [h3] at this
  refine dwp_mono (fun e ρ2 S2 hl => ?_) c ρ (join S1 L1) this
  obtain ⟨env2, S3, L3, k1, rfl, k3, k4⟩ := hl
  refine ⟨S.boxes.length + L.length, by omega, ?_⟩
  obtain ⟨hlow, k4⟩ := k4
  rw [k3] at hlow
  have hm2 : Mt n S.boxes.length (restr D env2) (fun i => (ρ2 i).cutP (S.boxes.length + L.length)) := by
    intro t v hv
    obtain ⟨g1, g2⟩ := (k1.restr D) t v hv
    exact ⟨g1, by show (ρ2 t).cutP _ = _; rw [g2]; exact lowE_look _ hlow t v hv⟩
  have ej : (join S3 L3).takeB (S.boxes.length + L.length) = join S3 (L3.take L.length) := by
    show ({ S3 with boxes := (S3.boxes ++ L3).take (S.boxes.length + L.length) } : St) = { S3 with boxes := S3.boxes ++ L3.take L.length }
    rw [← k3, List.take_append, List.take_of_length_le (by omega), show S3.boxes.length + L.length - S3.boxes.length = L.length by omega]
  cases e with
  | normal =>
    obtain ⟨m', hm', hI⟩ := k4
    exact ⟨m', hm', _, S3, _, hm2, ej, k3, hI⟩
  | exit id => exact ⟨_, S3, _, hm2, ej, k3, k4⟩
  | ret => exact ⟨_, S3, _, hm2, ej, k3, k4⟩
variable (P w0 T n) in
def Snd (nov : Cf) (plans : Nat → Plan) (f : Nat) : Prop :=
  (∀ (c : Code) (ks : List Kn) (Q : QW) (env : Env) (S : St) (L : Lo), wCode nov (realHk P w0 T) P T n plans f c ks Q env S L → WSem P w0 T n c (kont P w0 T n ks Q) env S L) ∧
  ∀ (e : Ex) (ks : List Kn) (Q : QW) (env : Env) (S : St) (L : Lo), wCode.wEx nov (realHk P w0 T) P T n plans f e ks Q env S L → kont P w0 T n ks Q e env S L
theorem snd (hT : T.Ok P) (hm : P.follows .mixedOrders = true) (nov : Cf) (plans : Nat → Plan) : ∀ f, Snd P w0 T n nov plans f := by
  intro f
  induction f with
  | zero => exact ⟨fun c ks Q env S L h => by simp [wCode] at h, fun e ks Q env S L h => by simp [wCode.wEx] at h⟩
  | succ f ih =>
    obtain ⟨ih1, ih2⟩ := ih
    constructor
    · intro c ks Q env S L h ρ hmt
      cases c with
      | skip => exact ⟨env, S, L, hmt, rfl, rfl, ih2 _ _ _ _ _ _ (by simpa [wCode] using h)⟩
      | label => exact ⟨env, S, L, hmt, rfl, rfl, ih2 _ _ _ _ _ _ (by simpa [wCode] using h)⟩
      | exit id => exact ⟨env, S, L, hmt, rfl, rfl, ih2 _ _ _ _ _ _ (by simpa [wCode] using h)⟩
      | ret => exact ⟨env, S, L, hmt, rfl, rfl, ih2 _ _ _ _ _ _ (by simpa [wCode] using h)⟩
      | region id ops draw =>
        have hK : ∀ ρ' S', lift n S.boxes.length (fun env S L => wCode.wEx nov (realHk P w0 T) P T n plans f .normal ks Q env S L) ρ' S' → lift n S.boxes.length (kont P w0 T n ks Q .normal) ρ' S' := by
          rintro ρ' S' ⟨env', S1, L1, h1, h2, h3, h4⟩
          exact ⟨env', S1, L1, h1, h2, h3, ih2 _ _ _ _ _ _ h4⟩
        cases draw with
        | false => exact wList_ok hT (hk := realHk P w0 T) ⟨rfl, rfl⟩ hK ops.toList env S L ρ rfl hmt h
        | true =>
          have key : ∀ p, (Region.noSelect ops && planOk ops ops.size (Array.replicate ops.size false) p) = true ∧ wPlan nov (realHk P w0 T) P T n ops p (fun env S L => wCode.wEx nov (realHk P w0 T) P T n plans f .normal ks Q env S L) env S L → dwp P w0 T n S.boxes.length (.region id ops true) ρ (join S L) (fun e ρ' S' => lift n S.boxes.length (kont P w0 T n ks Q e) ρ' S') := by
            intro p h
            simp only [Bool.and_eq_true] at h
            obtain ⟨⟨h1, h2⟩, h3⟩ := h
            exact ⟨hm, p, h1, h2, wPlan_ok hT (hk := realHk P w0 T) ⟨rfl, rfl⟩ hK p env S L ρ rfl hmt h3⟩
          unfold wCode at h
          simp only [] at h
          cases hp : plans id with
          | done =>
            rw [hp] at h
            exact h ρ hmt
          | take i p =>
            rw [hp] at h
            exact key _ h
          | all l =>
            rw [hp] at h
            exact key _ h
      | seq a b =>
        unfold wCode at h
        refine dwp_mono (fun e ρ' S' hl => ?_) a ρ _ (ih1 a (.seq b :: ks) Q env S L h ρ hmt)
        obtain ⟨env', S1, L1, h1, rfl, h3, h4⟩ := hl
        cases e with
        | normal =>
          have := h4 ρ' (by rw [h3]; exact h1)
          rw [h3] at this
          exact this
        | exit id => exact ⟨env', S1, L1, h1, rfl, h3, h4⟩
        | ret => exact ⟨env', S1, L1, h1, rfl, h3, h4⟩
      | cond c a b =>
        unfold wCode at h
        unfold dwp
        have ev1_of : ∀ {v : WV} {t : Bool}, evW env c = some v → v.av S.boxes.length = .one (.bool t) → ev1 (EV n ρ) c = some (.bool t) := by
          intro v t hv ht
          unfold ev1
          rw [hmt.ev hv, ht]
          rfl
        simp only [] at h
        split at h
        · rename_i hc
          rw [ev1_of hc rfl]
          exact ⟨fun _ => ih1 a ks Q env S L h ρ hmt, fun h0 => by cases h0⟩
        · rename_i hc
          rw [ev1_of hc rfl]
          exact ⟨fun h0 => (by cases h0), fun _ => ih1 b ks Q env S L h ρ hmt⟩
        · rename_i t hc
          rw [ev1_of hc rfl]
          exact ⟨fun ht => ih1 a ks Q env S L (h.1 ht) ρ hmt, fun ht => ih1 b ks Q env S L (h.2 ht) ρ hmt⟩
        · exact h.elim
      | block id c =>
        unfold wCode at h
        refine dwp_mono (fun e ρ' S' hl => ?_) c ρ _ (ih1 c (.blk id :: ks) Q env S L h ρ hmt)
        obtain ⟨env', S1, L1, h1, rfl, h3, h4⟩ := hl
        cases e with
        | normal => exact ⟨env', S1, L1, h1, rfl, h3, h4⟩
        | exit id' =>
          simp only [dBlk]
          simp only [kont] at h4
          split at h4
          · rename_i hid
            rw [if_pos hid]
            exact ⟨env', S1, L1, h1, rfl, h3, h4⟩
          · rename_i hid
            rw [if_neg hid]
            exact ⟨env', S1, L1, h1, rfl, h3, h4⟩
        | ret => exact ⟨env', S1, L1, h1, rfl, h3, h4⟩
      | loop c =>
        unfold wCode at h
        exact wLoop_ok h ρ hmt
      | rangeFunc => simp [wCode] at h
      | scope => simp [wCode] at h
      | goto => simp [wCode] at h
      | refuse => simp [wCode] at h
    · intro e ks Q env S L h
      unfold wCode.wEx at h
      cases ks with
      | nil => cases e <;> exact h
      | cons k ks =>
        cases k with
        | seq b =>
          cases e with
          | normal => exact ih1 b ks Q env S L h
          | exit id => exact ih2 (.exit id) ks Q env S L h
          | ret => exact ih2 .ret ks Q env S L h
        | blk id =>
          cases e with
          | normal => exact ih2 .normal ks Q env S L h
          | exit id' =>
            simp only [] at h
            show (if id' = id then _ else _ : KE) env S L
            split at h
            · rename_i hb
              rw [if_pos (Nat.eq_of_beq_eq_true hb)]
              exact ih2 _ _ _ _ _ _ h
            · rename_i hb
              rw [if_neg (Nat.ne_of_beq_eq_false hb)]
              exact ih2 _ _ _ _ _ _ h
          | ret => exact ih2 .ret ks Q env S L h
end
end Go.Den
namespace Go.Den
open Go.RowKit
theorem RepV.drop1 {H : Ghost} (nb : Nat) {x : AV} {v : Value} (r : RepV H x v) (hd : x.dat = true) : RepV (H.dropB nb) x v := by
  cases r with
  | one h => exact .one (h.drop nb)
  | agg h => exact .agg (h.dropG nb)
  | _ => simp [AV.dat] at hd
theorem RepV.drop {H : Ghost} (nb : Nat) {vs : List AV} {v : Value} (r : RepV H (tupOf vs) v) (hd : vs.all AV.dat = true) : RepV (H.dropB nb) (tupOf vs) v := by
  rw [List.all_eq_true] at hd
  unfold tupOf at r ⊢
  split at r
  · exact r.drop1 nb (hd _ (by simp))
  · cases r with
    | tup f h => exact .tup f (fun i x hx => (h i x hx).drop1 nb (hd x (List.mem_of_getElem? hx)))
section
variable {P : Program} {w0 : World} {T : Tab} {n : Nat} {A : Nat → Prop}
theorem WR.dropB {S1 : St} {L : Lo} {H : Ghost} {w : World} (h : WR w0 A (join S1 L) H w) : WR w0 A S1 (H.dropB S1.boxes.length) w := by
  have := h.takeB S1.boxes.length
  have e : (join S1 L).takeB S1.boxes.length = S1 := by simp [St.takeB, join]
  rw [e] at this
  exact this
theorem Tot.drop {f : FuncId} {args : List AV} {S : St} {Q : AV → St → Prop}
    (h : Tot P w0 f args S fun v S' => ∃ vs S1 L, S' = join S1 L ∧ S1.boxes.length = S.boxes.length ∧ v = tupOf vs ∧ vs.all AV.dat = true ∧ Q v S1) : Tot P w0 f args S Q := by
  refine ⟨h.1, fun A G w vs hW hA => (h.2 A G w vs hW hA).mono ?_⟩
  rintro e w' ⟨v, S', vr, H, rfl, hle, hv, hw, us, S1, L, rfl, hnb, rfl, hd, hq⟩
  refine ⟨_, S1, vr, H.dropB S1.boxes.length, rfl, ⟨hle.prot, hle.hdr, fun i b hb => ?_, hle.base⟩, hv.drop _ hd, hw.dropB, hq⟩
  show (if i < S1.boxes.length then H.box i else none) = some b
  rw [if_pos (by rw [hnb]; exact (hW.box_lt hb).1)]
  exact hle.box i b hb
theorem TotY.drop {Y : List Nat} {f : FuncId} {args : List AV} {S : St} {Q : AV → St → Prop}
    (h : TotY P w0 Y f args S fun v S' => ∃ vs S1 L, S' = join S1 L ∧ S1.boxes.length = S.boxes.length ∧ v = tupOf vs ∧ vs.all AV.dat = true ∧ Q v S1) : TotY P w0 Y f args S Q := by
  refine ⟨h.1, fun A G w vs hW hA => (h.2 A G w vs hW hA).mono ?_⟩
  rintro e w' ⟨v, S', vr, H, rfl, hle, hv, hw, us, S1, L, rfl, hnb, rfl, hd, hq⟩
  refine ⟨_, S1, vr, H.dropB S1.boxes.length, rfl, ⟨hle.prot, hle.hdr, fun i b hb => ?_, hle.base⟩, hv.drop _ hd, hw.dropB, hq⟩
  show (if i < S1.boxes.length then H.box i else none) = some b
  rw [if_pos (by rw [hnb]; exact (hW.box_lt hb).1)]
  exact hle.box i b hb
theorem look_arg : ∀ (args : List AV) (i t : Nat) (v : WV), look (argEnv i args) t = some v → i ≤ t ∧ t < i + args.length ∧ v = .v (args.getD (t - i) .junk)
  | [], i, t, v, h => by simp [argEnv, look] at h
  | x :: r, i, t, v, h => by
    unfold argEnv look at h
    split at h
    · rename_i hb
      have := Nat.eq_of_beq_eq_true hb
      subst this
      cases h
      refine ⟨Nat.le_refl _, by simp, by simp⟩
    · obtain ⟨h1, h2, h3⟩ := look_arg r (i + 1) t v h
      refine ⟨by omega, by simp; omega, ?_⟩
      rw [h3, show t - i = (t - (i + 1)) + 1 by omega]
      rfl
theorem wRes1_ok {nb : Nat} {env : Env} {ρ : Rho} {S : St} {L : Lo} (hm : Mt n S.boxes.length env ρ) {keep : Bool} (hn : nb = S.boxes.length) {r : ResultVar} {K : AV → Prop} (h : wRes1 T env L keep nb r K) : ∃ v, dRes1 T (EV n ρ) (join S L) r = some v ∧ K v := by
  unfold wRes1 at h
  split at h
  · rename_i t
    split at h
    · rename_i v hv
      obtain ⟨h1, h2⟩ := hm t v hv
      refine ⟨v.av S.boxes.length, ?_, ?_⟩
      · show (EV n ρ)[t]? = _
        rw [EV_get, if_pos h1, h2]
      · split at h
        · exact h
        · exact h
        · rw [hn] at h; exact h
        · exact h.elim
    · exact h.elim
  · rename_i a t
    split at h
    · rename_i j off hv
      obtain ⟨h1, h2⟩ := hm a _ hv
      split at h
      · rename_i v hl
        refine ⟨v, ?_, h⟩
        show ((EV n ρ)[a]?).bind (fun p => dLoad T t p (join S L)) = _
        rw [EV_get, if_pos h1, h2]
        show dLoad T t (.ptr (S.boxes.length + j) off) (join S L) = _
        rw [dLoad_loc, hl]
      · exact h.elim
    · exact h.elim
theorem wResL_ok {nb : Nat} {env : Env} {ρ : Rho} {S : St} {L : Lo} (hm : Mt n S.boxes.length env ρ) {keep : Bool} (hn : nb = S.boxes.length) : ∀ (rs : List ResultVar) {K : List AV → Prop}, wResL T env L keep nb rs K → ∃ vs, dResL T (EV n ρ) (join S L) rs = some vs ∧ K vs
  | [], K, h => ⟨[], rfl, h⟩
  | r :: rs, K, h => by
    obtain ⟨v, hv, h⟩ := wRes1_ok hm hn h
    obtain ⟨vs, hvs, h⟩ := wResL_ok hm hn rs h
    exact ⟨v :: vs, by simp [dResL, hv, hvs], h⟩
theorem dResults_of {fn : Func} {env : List AV} {S : St} {vs : List AV} (h : dResL T env S fn.results.toList = some vs) : dResults T fn env S = some (tupOf vs) := by
  unfold dResults
  rw [h]
  match vs with
  | [] => rfl
  | [_] => rfl
  | _ :: _ :: _ => rfl
theorem join_nil (S : St) : join S [] = S := by simp [join]
theorem Tot.of_wFn2 (hT : T.Ok P) (hmo : P.follows .mixedOrders = true) {nov : Cf} {keep : Bool} {plans : Nat → Plan} {f : FuncId} {args : List AV} {S : St} {Q : AV → St → Prop}
    (h : wFn nov (realHk P w0 T) P T plans keep f args { S with young := [] } Q) : Tot P w0 f args S fun v S'' => ∃ S' : St, S'' = { S' with young := S'.young ++ S.young } ∧ Q v S' := by
  unfold wFn at h
  cases hf : P.funcs[f]? with
  | none => rw [hf] at h; exact h.elim
  | some fn =>
    rw [hf] at h
    simp only [] at h
    cases hb : fn.body with
    | none => rw [hb] at h; exact h.elim
    | some c =>
      rw [hb] at h
      simp only [Bool.and_eq_true, Bool.not_eq_true'] at h
      obtain ⟨⟨hn, hl⟩, h⟩ := h
      have hl := Nat.le_of_ble_eq_true hl
      have hs := (snd (w0 := w0) (T := T) (n := fn.ntmps) hT hmo nov plans 2000).1 _ _ _ _ _ _ h
      have hmt : Mt fn.ntmps ({ S with young := [] } : St).boxes.length (argEnv 0 args) (argRho args) := by
        intro t v hv
        obtain ⟨_, h2, h3⟩ := look_arg args 0 t v hv
        subst h3
        exact ⟨by omega, by simp [argRho, WV.av]⟩
      have hd := hs (argRho args) hmt
      rw [join_nil] at hd
      cases keep with
      | true =>
        refine Tot.of_dwp hT hf hn hb hl (dwp_mono (fun e ρ S' hk => ?_) c _ _ hd)
        obtain ⟨env, S1, L, k1, rfl, k3, k4⟩ := hk
        have fin : wResL T env L true S.boxes.length fn.results.toList (fun vs => Q (tupOf vs) (join S1 L)) →
            ∃ v, dResults T fn (EV fn.ntmps ρ) (join S1 L) = some v ∧ ∃ S' : St, ({ join S1 L with young := (join S1 L).young ++ S.young } : St) = { S' with young := S'.young ++ S.young } ∧ Q v S' := by
          intro hr
          obtain ⟨vs, hvs, hq⟩ := wResL_ok (S := S1) (by rw [k3]; exact k1) k3.symm _ hr
          exact ⟨_, dResults_of hvs, _, rfl, hq⟩
        cases e with
        | normal => exact fin k4
        | ret => exact fin k4
        | exit id => exact k4.elim
      | false =>
        refine Tot.drop (Tot.of_dwp hT hf hn hb hl (dwp_mono (fun e ρ S' hk => ?_) c _ _ hd))
        obtain ⟨env, S1, L, k1, rfl, k3, k4⟩ := hk
        have fin : wResL T env L false S.boxes.length fn.results.toList (fun vs => vs.all AV.dat = true ∧ Q (tupOf vs) S1) →
            ∃ v, dResults T fn (EV fn.ntmps ρ) (join S1 L) = some v ∧ ∃ vs S2 L2, ({ join S1 L with young := (join S1 L).young ++ S.young } : St) = join S2 L2 ∧ S2.boxes.length = S.boxes.length ∧ v = tupOf vs ∧ vs.all AV.dat = true ∧ ∃ S' : St, S2 = { S' with young := S'.young ++ S.young } ∧ Q v S' := by
          intro hr
          obtain ⟨vs, hvs, hq⟩ := wResL_ok (S := S1) (by rw [k3]; exact k1) k3.symm _ hr
          exact ⟨_, dResults_of hvs, vs, { S1 with young := S1.young ++ S.young }, L, rfl, k3, rfl, hq.1, S1, rfl, hq.2⟩
        cases e with
        | normal => exact fin k4
        | ret => exact fin k4
        | exit id => exact k4.elim
theorem Tot.of_wFnK (hT : T.Ok P) (ho : T.own = false) (hmo : P.follows .mixedOrders = true) {nov : Cf} {keep : Bool} {plans : Nat → Plan} {f : FuncId} {args : List AV} {S : St} {Q : AV → St → Prop}
    (h : wFn nov (realHk P w0 T) P T plans keep f args S Q) : Tot P w0 f args S Q := by
  unfold wFn at h
  cases hf : P.funcs[f]? with
  | none => rw [hf] at h; exact h.elim
  | some fn =>
    rw [hf] at h
    simp only [] at h
    cases hb : fn.body with
    | none => rw [hb] at h; exact h.elim
    | some c =>
      rw [hb] at h
      simp only [Bool.and_eq_true, Bool.not_eq_true'] at h
      obtain ⟨⟨hn, hl⟩, h⟩ := h
      have hl := Nat.le_of_ble_eq_true hl
      have hs := (snd (w0 := w0) (T := T) (n := fn.ntmps) hT hmo nov plans 2000).1 _ _ _ _ _ _ h
      have hmt : Mt fn.ntmps S.boxes.length (argEnv 0 args) (argRho args) := by
        intro t v hv
        obtain ⟨_, h2, h3⟩ := look_arg args 0 t v hv
        subst h3
        exact ⟨by omega, by simp [argRho, WV.av]⟩
      have hd := hs (argRho args) hmt
      rw [join_nil] at hd
      cases keep with
      | true =>
        refine Tot.of_dwpK hT ho hf hn hb hl (dwp_mono (fun e ρ S' hk => ?_) c _ _ hd)
        obtain ⟨env, S1, L, k1, rfl, k3, k4⟩ := hk
        have fin : wResL T env L true S.boxes.length fn.results.toList (fun vs => Q (tupOf vs) (join S1 L)) →
            ∃ v, dResults T fn (EV fn.ntmps ρ) (join S1 L) = some v ∧ Q v (join S1 L) := by
          intro hr
          obtain ⟨vs, hvs, hq⟩ := wResL_ok (S := S1) (by rw [k3]; exact k1) k3.symm _ hr
          exact ⟨_, dResults_of hvs, hq⟩
        cases e with
        | normal => exact fin k4
        | ret => exact fin k4
        | exit id => exact k4.elim
      | false =>
        refine Tot.drop (Tot.of_dwpK hT ho hf hn hb hl (dwp_mono (fun e ρ S' hk => ?_) c _ _ hd))
        obtain ⟨env, S1, L, k1, rfl, k3, k4⟩ := hk
        have fin : wResL T env L false S.boxes.length fn.results.toList (fun vs => vs.all AV.dat = true ∧ Q (tupOf vs) S1) →
            ∃ v, dResults T fn (EV fn.ntmps ρ) (join S1 L) = some v ∧ ∃ vs S2 L2, join S1 L = join S2 L2 ∧ S2.boxes.length = S.boxes.length ∧ v = tupOf vs ∧ vs.all AV.dat = true ∧ Q v S2 := by
          intro hr
          obtain ⟨vs, hvs, hq⟩ := wResL_ok (S := S1) (by rw [k3]; exact k1) k3.symm _ hr
          exact ⟨_, dResults_of hvs, vs, S1, L, rfl, k3, rfl, hq.1, hq.2⟩
        cases e with
        | normal => exact fin k4
        | ret => exact fin k4
        | exit id => exact k4.elim
theorem TotY.of_wFn2 (hT : T.Ok P) (hmo : P.follows .mixedOrders = true) {nov : Cf} {keep : Bool} {plans : Nat → Plan} {f : FuncId} {args : List AV} {S : St} {Y : List Nat} (hY : ∀ t, t ∈ Y → t ∈ S.young ∧ (S.tok t).isSome = true) {Q : AV → St → Prop}
    (h : wFn nov (realHk P w0 T) P T plans keep f args { S with young := Y } Q) : TotY P w0 Y f args S fun v S'' => ∃ S' : St, S'' = { S' with young := S'.young ++ S.young } ∧ Q v S' := by
  unfold wFn at h
  cases hf : P.funcs[f]? with
  | none => rw [hf] at h; exact h.elim
  | some fn =>
    rw [hf] at h
    simp only [] at h
    cases hb : fn.body with
    | none => rw [hb] at h; exact h.elim
    | some c =>
      rw [hb] at h
      simp only [Bool.and_eq_true, Bool.not_eq_true'] at h
      obtain ⟨⟨hn, hl⟩, h⟩ := h
      have hl := Nat.le_of_ble_eq_true hl
      have hs := (snd (w0 := w0) (T := T) (n := fn.ntmps) hT hmo nov plans 2000).1 _ _ _ _ _ _ h
      have hmt : Mt fn.ntmps ({ S with young := Y } : St).boxes.length (argEnv 0 args) (argRho args) := by
        intro t v hv
        obtain ⟨_, h2, h3⟩ := look_arg args 0 t v hv
        subst h3
        exact ⟨by omega, by simp [argRho, WV.av]⟩
      have hd := hs (argRho args) hmt
      rw [join_nil] at hd
      cases keep with
      | true =>
        refine TotY.of_dwp hT hf hn hb hl hY (dwp_mono (fun e ρ S' hk => ?_) c _ _ hd)
        obtain ⟨env, S1, L, k1, rfl, k3, k4⟩ := hk
        have fin : wResL T env L true S.boxes.length fn.results.toList (fun vs => Q (tupOf vs) (join S1 L)) →
            ∃ v, dResults T fn (EV fn.ntmps ρ) (join S1 L) = some v ∧ ∃ S' : St, ({ join S1 L with young := (join S1 L).young ++ S.young } : St) = { S' with young := S'.young ++ S.young } ∧ Q v S' := by
          intro hr
          obtain ⟨vs, hvs, hq⟩ := wResL_ok (S := S1) (by rw [k3]; exact k1) k3.symm _ hr
          exact ⟨_, dResults_of hvs, _, rfl, hq⟩
        cases e with
        | normal => exact fin k4
        | ret => exact fin k4
        | exit id => exact k4.elim
      | false =>
        refine TotY.drop (TotY.of_dwp hT hf hn hb hl hY (dwp_mono (fun e ρ S' hk => ?_) c _ _ hd))
        obtain ⟨env, S1, L, k1, rfl, k3, k4⟩ := hk
        have fin : wResL T env L false S.boxes.length fn.results.toList (fun vs => vs.all AV.dat = true ∧ Q (tupOf vs) S1) →
            ∃ v, dResults T fn (EV fn.ntmps ρ) (join S1 L) = some v ∧ ∃ vs S2 L2, ({ join S1 L with young := (join S1 L).young ++ S.young } : St) = join S2 L2 ∧ S2.boxes.length = S.boxes.length ∧ v = tupOf vs ∧ vs.all AV.dat = true ∧ ∃ S' : St, S2 = { S' with young := S'.young ++ S.young } ∧ Q v S' := by
          intro hr
          obtain ⟨vs, hvs, hq⟩ := wResL_ok (S := S1) (by rw [k3]; exact k1) k3.symm _ hr
          exact ⟨_, dResults_of hvs, vs, { S1 with young := S1.young ++ S.young }, L, rfl, k3, rfl, hq.1, S1, rfl, hq.2⟩
        cases e with
        | normal => exact fin k4
        | ret => exact fin k4
        | exit id => exact k4.elim
end
end Go.Den
namespace Go.Den
open Go.RowKit
structure TokLe (S S' : St) : Prop where
  tok : ∀ t x, S.tok t = some x → S'.tok t = some x
  len : S.toks.length ≤ S'.toks.length
  yng : ∀ t, t ∈ S.young → t ∈ S'.young
def Ext (S S' : St) : Prop := S'.boxes = S.boxes ∧ TokLe S S'
theorem TokLe.refl (S : St) : TokLe S S := ⟨fun _ _ h => h, Nat.le_refl _, fun _ h => h⟩
theorem TokLe.trans {S S' S'' : St} (h : TokLe S S') (k : TokLe S' S'') : TokLe S S'' := ⟨fun t x e => k.1 t x (h.1 t x e), Nat.le_trans h.2 k.2, fun t ht => k.yng t (h.yng t ht)⟩
theorem Ext.refl (S : St) : Ext S S := ⟨rfl, TokLe.refl S⟩
theorem Ext.trans {S S' S'' : St} (h : Ext S S') (k : Ext S' S'') : Ext S S'' := ⟨k.1.trans h.1, h.2.trans k.2⟩
theorem tok_lt {S : St} {t : Nat} {x : Nat × TypeId × Nat} (h : S.tok t = some x) : t < S.toks.length := by
  unfold St.tok at h
  cases hg : S.toks[t]? with
  | none => rw [hg] at h; cases h
  | some y => exact (List.getElem?_eq_some_iff.1 hg).1
theorem TokLe.born (S : St) (x : Nat × TypeId × Nat) : TokLe S (S.born x) := by
  refine ⟨fun t y h => ?_, by simp [St.born], fun _ h => List.mem_cons_of_mem _ h⟩
  have hl := tok_lt h
  unfold St.tok St.born at *
  simp only [List.getElem?_append_left hl]
  exact h
theorem born_yng (S : St) (x : Nat × TypeId × Nat) : S.toks.length ∈ (S.born x).young := List.mem_cons_self
theorem grow_yng (S : St) (t : Nat) (x : Nat × TypeId × Nat) (h : t ∈ S.young) : S.toks.length ∈ (S.grow t x).young := by
  unfold St.grow
  show S.toks.length ∈ (if t ∈ S.young then S.toks.length :: S.young else S.young)
  rw [if_pos h]
  exact List.mem_cons_self
theorem grow_keep (S : St) (t : Nat) (x : Nat × TypeId × Nat) (u : Nat) (h : u ∈ S.young) : u ∈ (S.grow t x).young := by
  unfold St.grow
  show u ∈ (if t ∈ S.young then S.toks.length :: S.young else S.young)
  split
  · exact List.mem_cons_of_mem _ h
  · exact h
theorem Ext.born (S : St) (x : Nat × TypeId × Nat) : Ext S (S.born x) := ⟨rfl, TokLe.born S x⟩
theorem tok_born (S : St) (x : Nat × TypeId × Nat) : (S.born x).tok S.toks.length = some x := by
  unfold St.tok St.born
  simp
theorem tok_grow (S : St) (t : Nat) (x : Nat × TypeId × Nat) : (S.grow t x).tok S.toks.length = some x := by
  unfold St.tok St.grow
  have := (S.spend_len (some t)).1
  simp only []
  rw [List.getElem?_append_right (by omega), this]
  simp
theorem tok_grow_ne (S : St) (t u : Nat) (x y : Nat × TypeId × Nat) (h : S.tok u = some y) (hne : u ≠ t) : (S.grow t x).tok u = some y := by
  have hl := tok_lt h
  unfold St.tok St.grow St.spend at *
  simp only []
  rw [List.getElem?_append_left (by simpa using hl), List.getElem?_set_ne (Ne.symm hne)]
  exact h
theorem grow_len (S : St) (t : Nat) (x : Nat × TypeId × Nat) : (S.grow t x).toks.length = S.toks.length + 1 := by simp [St.grow, St.spend]
theorem born_len (S : St) (x : Nat × TypeId × Nat) : (S.born x).toks.length = S.toks.length + 1 := by simp [St.born]
theorem grow_boxes (S : St) (t : Nat) (x : Nat × TypeId × Nat) : (S.grow t x).boxes = S.boxes := (S.spend_len (some t)).2
theorem born_boxes (S : St) (x : Nat × TypeId × Nat) : (S.born x).boxes = S.boxes := rfl
structure Con (P : Program) (w0 : World) (T : Tab) (f : FuncId) (args : List AV) (r : AV → Prop) : Prop where
  tot : ∀ S, Tot P w0 f args S fun v S' => Ext S S' ∧ r v
  sh : ∀ v, r v → ∃ fn vs, P.funcs[f]? = some fn ∧ v = tupOf vs ∧ likeVs T fn.resultTypes.toList vs = true
section
variable {P : Program} {w0 : World} {T : Tab}
theorem Con.use {f : FuncId} {args : List AV} {r : AV → Prop} (h : Con P w0 T f args r) (S : St) (L : Lo) : (realHk P w0 T).tot f args S L fun v S' => Ext S S' ∧ r v := by
  refine ⟨(h.tot (join S L)).mono fun v S' ⟨hE, hr⟩ => ⟨{ S' with boxes := S.boxes }, ?_, rfl, ⟨rfl, hE.2.1, hE.2.2, hE.2.yng⟩, hr⟩, fun v S1 hv => h.sh v hv.2⟩
  show S' = { S' with boxes := S.boxes ++ L }
  rw [show S.boxes ++ L = S'.boxes from hE.1.symm]
theorem Con.of_fn (hT : T.Ok P) (hmo : P.follows .mixedOrders = true) {nov : Cf} {plans : Nat → Plan} {f : FuncId} {args : List AV} {r : AV → Prop}
    (sh : ∀ v, r v → ∃ fn vs, P.funcs[f]? = some fn ∧ v = tupOf vs ∧ likeVs T fn.resultTypes.toList vs = true)
    (h : ∀ S, wFn nov (realHk P w0 T) P T plans false f args S fun v S' => Ext S S' ∧ r v) (ho : T.own = false := by rfl) : Con P w0 T f args r :=
  ⟨fun S => Tot.of_wFnK hT ho hmo (h S), sh⟩
theorem WSem.of (hT : T.Ok P) (hmo : P.follows .mixedOrders = true) {nov : Cf} {plans : Nat → Plan} {n f : Nat} {c : Code} {Q : QW} {env : Env} {S : St} {L : Lo} (h : wCode nov (realHk P w0 T) P T n plans f c [] Q env S L) : WSem P w0 T n c Q env S L :=
  (snd hT hmo nov plans f).1 c [] Q env S L h
theorem kont.of (hT : T.Ok P) (hmo : P.follows .mixedOrders = true) {nov : Cf} {plans : Nat → Plan} {n f : Nat} {e : Ex} {ks : List Kn} {Q : QW} {env : Env} {S : St} {L : Lo} (h : wCode.wEx nov (realHk P w0 T) P T n plans f e ks Q env S L) : kont P w0 T n ks Q e env S L :=
  (snd hT hmo nov plans f).2 e ks Q env S L h
theorem loopK.exit {I : Nat → KE} {nl m : Nat} {Q : QW} {id : Nat} {env : Env} {S : St} {L L' : Lo} (hl : lowE S.boxes.length nl env) (hL : L.take nl = L') (h : Q (.exit id) env S L') : loopK I nl m Q (.exit id) env S L := by
  subst hL
  exact ⟨hl, h⟩
theorem loopK.ret {I : Nat → KE} {nl m : Nat} {Q : QW} {env : Env} {S : St} {L L' : Lo} (hl : lowE S.boxes.length nl env) (hL : L.take nl = L') (h : Q .ret env S L') : loopK I nl m Q .ret env S L := by
  subst hL
  exact ⟨hl, h⟩
theorem loopK.again {I : Nat → KE} {nl m m' : Nat} {Q : QW} {env : Env} {S : St} {L L' : Lo} (hl : lowE S.boxes.length nl env) (hL : L.take nl = L') (hm : m' < m) (h : I m' env S L') : loopK I nl m Q .normal env S L := by
  subst hL
  exact ⟨hl, m', hm, h⟩
theorem kont.ret {n : Nat} : ∀ (ks : List Kn) {Q : QW} {env : Env} {S : St} {L : Lo}, Q .ret env S L → kont P w0 T n ks Q .ret env S L
  | [], _, _, _, _, h => h
  | .seq _ :: ks, _, _, _, _, h => kont.ret ks h
  | .blk _ :: ks, _, _, _, _, h => kont.ret ks h
end
end Go.Den
namespace Go.Den
open Go.RowKit
def AL.tk : AL → Option Nat
  | .sl t _ _ => t
  | _ => none
def Row (S : St) (e : TypeId) (sz : Nat) (x : AL) (n : Nat) (xs : List AL) : Prop :=
  xs.length = n * sz ∧ ((x = .nilsl ∧ n = 0) ∨ ∃ tk, x = .sl (some tk) n xs ∧ S.tok tk = some (xs.length, e, sz) ∧ tk ∈ S.young)
theorem Row.nil (S : St) (e : TypeId) (sz : Nat) : Row S e sz .nilsl 0 [] := ⟨by simp, .inl ⟨rfl, rfl⟩⟩
theorem Row.born (S : St) (e : TypeId) (sz : Nat) : Row (S.born (0, e, sz)) e sz (.sl (some S.toks.length) 0 []) 0 [] := ⟨by simp, .inr ⟨_, rfl, tok_born S _, born_yng S _⟩⟩
theorem Row.len {S : St} {e : TypeId} {sz n : Nat} {x : AL} {xs : List AL} (h : Row S e sz x n xs) : x.len? = some n := by
  obtain ⟨_, ⟨rfl, rfl⟩ | ⟨tk, rfl, _⟩⟩ := h <;> rfl
theorem Row.keep {S S' : St} {e : TypeId} {sz n : Nat} {x : AL} {xs : List AL} (h : Row S e sz x n xs) (k : ∀ t y, x.tk = some t → S.tok t = some y → S'.tok t = some y) (ky : ∀ t, t ∈ S.young → t ∈ S'.young) : Row S' e sz x n xs := by
  obtain ⟨h1, ⟨rfl, rfl⟩ | ⟨tk, rfl, h2, h3⟩⟩ := h
  · exact ⟨h1, .inl ⟨rfl, rfl⟩⟩
  · exact ⟨h1, .inr ⟨tk, rfl, k tk _ rfl h2, ky tk h3⟩⟩
theorem Row.ext {S S' : St} {e : TypeId} {sz n : Nat} {x : AL} {xs : List AL} (h : Row S e sz x n xs) (k : TokLe S S') : Row S' e sz x n xs := h.keep (fun t y _ ht => k.1 t y ht) k.yng
theorem Row.lt {S : St} {e : TypeId} {sz n : Nat} {x : AL} {xs : List AL} (h : Row S e sz x n xs) {t : Nat} (ht : x.tk = some t) : t < S.toks.length := by
  obtain ⟨_, ⟨rfl, rfl⟩ | ⟨tk, rfl, h2, _⟩⟩ := h
  · cases ht
  · cases ht
    exact tok_lt h2
theorem Row.push {T : Tab} {S : St} {t e : TypeId} {d de : D} (hd : T.desc t = some d) (he : d.elem = some e) (hde : T.desc e = some de) (hz : de.zero.length = de.size) (h0 : de.size ≠ 0)
    {x : AL} {n : Nat} {xs ys : List AL} (h : Row S e de.size x n xs) (hy : ys.length = de.size) (hm : n + 1 ≤ maxLen) (hb : (n + 1) * de.bytes ≤ 140737488355328) (tok : Option Nat) (y : Nat × TypeId × Nat) :
    ∃ r S', dAppend2 T t x (.sl tok 1 ys) (S.born y) = some (r, S') ∧ Row S' e de.size r (n + 1) (xs ++ ys) ∧ S'.boxes = S.boxes ∧ S.toks.length < S'.toks.length ∧
      (∀ u z, S.tok u = some z → x.tk ≠ some u → S'.tok u = some z) ∧ (∃ k, r.tk = some k ∧ S.toks.length ≤ k) ∧ (∀ u, u ∈ S.young → u ∈ S'.young) := by
  have e1 : ∀ S x, dAppend2 T t x (.sl tok 1 ys) S = dAppend T t x (.sl tok 1 ys) S := fun S x => rfl
  rw [e1]
  have hno : ¬ ((1 : Nat) = 0 ∨ de.size = 0 ∨ ys.length ≠ 1 * de.size ∨ de.zero.length ≠ de.size) := by
    rw [hy]
    omega
  obtain ⟨h1, ⟨rfl, rfl⟩ | ⟨tk, rfl, h2, hy2⟩⟩ := h
  · have hx : xs = [] := List.eq_nil_of_length_eq_zero (by omega)
    subst hx
    refine ⟨.sl (some (S.born y).toks.length) 1 ys, (S.born y).born (ys.length, e, de.size), ?_, ⟨by simp [hy], .inr ⟨_, rfl, tok_born _ _, born_yng _ _⟩⟩, rfl, by rw [born_len, born_len]; omega, fun u z hu _ => (TokLe.born _ _).1 u z ((TokLe.born S y).1 u z hu), ⟨_, rfl, by rw [born_len]; omega⟩, fun u hu => List.mem_cons_of_mem _ (List.mem_cons_of_mem _ hu)⟩
    unfold dAppend
    simp only [hd, he, hde, Option.bind_some, AL.cells]
    rw [if_neg hno, if_pos ⟨by omega, by omega⟩]
  · have h2' := (TokLe.born S y).1 tk _ h2
    have hlt := tok_lt h2
    refine ⟨.sl (some (S.born y).toks.length) (n + 1) (xs ++ ys), (S.born y).grow tk ((xs ++ ys).length, e, de.size), ?_, ⟨by rw [List.length_append, h1, hy, Nat.add_mul, Nat.one_mul], .inr ⟨_, rfl, tok_grow _ _ _, grow_yng _ _ _ (List.mem_cons_of_mem _ hy2)⟩⟩, by rw [grow_boxes, born_boxes], by rw [grow_len, born_len]; omega, fun u z hu hne => ?_, ⟨_, rfl, by rw [born_len]; omega⟩, fun u hu => grow_keep _ _ _ u (List.mem_cons_of_mem _ hu)⟩
    · unfold dAppend
      simp only [hd, he, hde, Option.bind_some, AL.cells]
      rw [if_neg hno, if_pos ⟨h2', h1, hm, hb⟩]
    · exact tok_grow_ne _ _ _ _ _ ((TokLe.born S y).1 u z hu) (fun e => hne (by rw [e]; rfl))
structure Bx (S S' : St) : Prop where
  box : S'.boxes = S.boxes
  len : S.toks.length ≤ S'.toks.length
  yng : ∀ t, t ∈ S.young → t ∈ S'.young
theorem Bx.refl (S : St) : Bx S S := ⟨rfl, Nat.le_refl _, fun _ h => h⟩
theorem Bx.trans {S S' S'' : St} (h : Bx S S') (k : Bx S' S'') : Bx S S'' := ⟨k.1.trans h.1, Nat.le_trans h.2 k.2, fun t ht => k.yng t (h.yng t ht)⟩
theorem Ext.bx {S S' : St} (h : Ext S S') : Bx S S' := ⟨h.1, h.2.2, h.2.yng⟩
structure Same (S S' : St) : Prop where
  toks : S.toks = S'.toks
  yng : S.young = S'.young
theorem Same.le {S S' : St} (h : Same S S') : TokLe S S' := ⟨fun t y hy => by unfold St.tok at *; rw [← h.toks]; exact hy, by rw [h.toks]; exact Nat.le_refl _, fun t ht => by rw [← h.yng]; exact ht⟩
structure ConP (P : Program) (w0 : World) (T : Tab) (f : FuncId) (args : List AV) (pre : St → Prop) (r : AV → St → Prop) : Prop where
  tot : ∀ S, pre S → Tot P w0 f args S fun v S' => Bx S S' ∧ r v S'
  ploc : ∀ S S', Same S S' → pre S → pre S'
  loc : ∀ v S S', Same S S' → r v S → r v S'
  sh : ∀ v S, r v S → ∃ fn vs, P.funcs[f]? = some fn ∧ v = tupOf vs ∧ likeVs T fn.resultTypes.toList vs = true
theorem ConP.use {f : FuncId} {args : List AV} {pre : St → Prop} {r : AV → St → Prop} {P : Program} {w0 : World} {T : Tab} (h : ConP P w0 T f args pre r) (S : St) (L : Lo) (hp : pre S) : (realHk P w0 T).tot f args S L fun v S' => Bx S S' ∧ r v S' := by
  refine ⟨(h.tot (join S L) (h.ploc S _ ⟨rfl, rfl⟩ hp)).mono fun v S' ⟨hE, hr⟩ => ⟨{ S' with boxes := S.boxes }, ?_, rfl, ⟨rfl, hE.2, hE.yng⟩, h.loc v S' _ ⟨rfl, rfl⟩ hr⟩, fun v S1 hv => h.sh v S1 hv.2⟩
  show S' = { S' with boxes := S.boxes ++ L }
  rw [show S.boxes ++ L = S'.boxes from hE.1.symm]
theorem ConP.of_gen {P : Program} {w0 : World} {T : Tab} (hT : T.Ok P) (hmo : P.follows .mixedOrders = true) {nov : Cf} {plans : Nat → Plan} {f : FuncId} {args : List AV} {pre : St → Prop} {r : AV → St → Prop}
    (ploc : ∀ S S', Same S S' → pre S → pre S') (loc : ∀ v S S', Same S S' → r v S → r v S')
    (sh : ∀ v S, r v S → ∃ fn vs, P.funcs[f]? = some fn ∧ v = tupOf vs ∧ likeVs T fn.resultTypes.toList vs = true)
    (h : ∀ S, pre S → wFn nov (realHk P w0 T) P T plans false f args S fun v S' => Bx S S' ∧ r v S') (ho : T.own = false := by rfl) : ConP P w0 T f args pre r :=
  ⟨fun S hp => Tot.of_wFnK hT ho hmo (h S hp), ploc, loc, sh⟩
end Go.Den
namespace Go.Den
open Go.RowKit
def iso (n : Nat) : St := ⟨[], List.replicate n none, [], n⟩
def merge (S S1 : St) : St := { boxes := S.boxes, toks := S.toks ++ S1.toks.drop S.toks.length, young := S1.young ++ S.young, old := S.old }
theorem merge_tok (S S1 : St) (t : Nat) : (merge S S1).tok t = if t < S.toks.length then S.tok t else S1.tok t := by
  unfold merge St.tok
  simp only []
  split
  · rename_i h
    rw [List.getElem?_append_left h]
  · rename_i h
    rw [List.getElem?_append_right (by omega), List.getElem?_drop]
    congr 2
    omega
theorem iso_tok (n t : Nat) : (iso n).tok t = none := by
  unfold iso St.tok
  simp only [List.getElem?_replicate]
  split <;> rfl
mutual
/-- Tokens of before. -/
def AL.lt (n : Nat) : AL → Prop
  | .sl (some u) _ xs => u < n ∧ ltAll n xs
  | .sl none _ xs => ltAll n xs
  | _ => True
def ltAll (n : Nat) : List AL → Prop
  | [] => True
  | x :: xs => x.lt n ∧ ltAll n xs
end
theorem ltAll_mem {n : Nat} : ∀ {xs : List AL}, (∀ x, x ∈ xs → x.lt n) → ltAll n xs
  | [], _ => trivial
  | x :: xs, h => ⟨h x (by simp), ltAll_mem fun y hy => h y (by simp [hy])⟩
def AV.lt (n : Nat) : AV → Prop
  | .one x => x.lt n
  | .agg xs => ltAll n xs
  | _ => False
def argsLt (n : Nat) : List AV → Prop
  | [] => True
  | x :: xs => x.lt n ∧ argsLt n xs
section
variable {P : Program} {w0 : World} {T : Tab} {A : Nat → Prop} {S : St} {G : Ghost} {w : World} {n : Nat}
theorem RepL.lt (hl : ∀ t b, G.hdr t = some b → t < n) {x : AL} {v : Value} (r : RepL G x v) : x.lt n := by
  induction r with
  | @sl tok len cap b o xs f hc hp hx ht ih =>
    have h : ltAll n xs := ltAll_mem fun x hxm => by
      obtain ⟨i, hi⟩ := List.getElem?_of_mem hxm
      exact ih i x hi
    cases tok with
    | none => exact h
    | some u => exact ⟨hl u _ (ht u rfl).2, h⟩
  | _ => trivial
theorem RepV.lt (hl : ∀ t b, G.hdr t = some b → t < n) {x : AV} {v : Value} (r : RepV G x v) (hd : x.dat = true) : x.lt n := by
  cases r with
  | one h => exact h.lt hl
  | @agg xs vs h =>
    refine ltAll_mem fun x hx => ?_
    obtain ⟨i, hi⟩ := List.getElem?_of_mem hx
    have hil := (List.getElem?_eq_some_iff.1 hi).1
    exact (h.2 i x _ hi (List.getElem?_eq_getElem (by rw [← h.1]; exact hil))).lt hl
  | _ => simp [AV.dat] at hd
theorem RepA.lt (hl : ∀ t b, G.hdr t = some b → t < n) : ∀ {xs : List AV} {vs : List Value}, RepA G xs vs → xs.all AV.dat = true → argsLt n xs
  | [], _, _, _ => trivial
  | x :: xs, _, r, hd => by
    rw [List.all_cons, Bool.and_eq_true] at hd
    cases r with
    | cons h t => exact ⟨h.lt hl hd.1, RepA.lt hl t hd.2⟩
theorem RepL.boxes {f : Nat → Option Nat} {g : Nat → Nat → Option Value} {x : AL} {v : Value} (r : RepL G x v) : RepL { G with box := f, base := g } x v := by
  induction r with
  | int => exact .int _ _
  | bool => exact .bool _
  | str => exact .str _
  | sl f hc hp hx ht ih => exact .sl f hc hp ih ht
  | nilsl => exact .nilsl
  | undef v h => exact .undef v h
theorem RepV.boxes {f : Nat → Option Nat} {g : Nat → Nat → Option Value} {x : AV} {v : Value} (r : RepV G x v) (hd : x.dat = true) : RepV { G with box := f, base := g } x v := by
  cases r with
  | one h => exact .one h.boxes
  | agg h => exact .agg ⟨h.1, fun i x v hx hv => (h.2 i x v hx hv).boxes⟩
  | _ => simp [AV.dat] at hd
theorem RepV.boxesT {f : Nat → Option Nat} {g : Nat → Nat → Option Value} {vs : List AV} {v : Value} (r : RepV G (tupOf vs) v) (hd : vs.all AV.dat = true) : RepV { G with box := f, base := g } (tupOf vs) v := by
  rw [List.all_eq_true] at hd
  unfold tupOf at r ⊢
  split at r
  · exact r.boxes (hd _ (by simp))
  · cases r with
    | tup gg h => exact .tup gg (fun i x hx => (h i x hx).boxes (hd x (List.mem_of_getElem? hx)))
theorem RepA.boxes {f : Nat → Option Nat} {g : Nat → Nat → Option Value} : ∀ {xs : List AV} {vs : List Value}, RepA G xs vs → xs.all AV.dat = true → RepA { G with box := f, base := g } xs vs
  | [], _, r, _ => by cases r; exact .nil
  | x :: xs, _, r, hd => by
    rw [List.all_cons, Bool.and_eq_true] at hd
    cases r with
    | cons h t => exact .cons (h.boxes hd.1) (RepA.boxes t hd.2)
theorem WR.iso (hW : WR w0 A S G w) : WR w (fun b => w.heap.size ≤ b) (iso S.toks.length) { G with box := fun _ => none, base := G.prot } w := by
  refine ⟨hW.prot, fun t n e s ht => ?_, fun t ht => hW.later t (by simpa [Go.Den.iso] using ht), hW.hlt, fun i t cs hi => ?_, fun i _ => rfl, fun i j b hi => ?_, fun t u x y b c c' ht => ?_, fun t x b c i ht => ?_, Nat.le_refl _, Below.refl _ _, fun t b c ht => ?_, fun b hb => hb, fun t ht => ?_, fun t ht => hW.hall t (by simpa [Go.Den.iso] using ht), fun b i _ => rfl, by simp [Go.Den.iso], fun t b c ht hh => hW.hlt t b c hh⟩
  · rw [iso_tok] at ht; cases ht
  · simp [Go.Den.iso] at hi
  · cases hi
  · rw [iso_tok] at ht; cases ht
  · rw [iso_tok] at ht; cases ht
  · simp [Go.Den.iso] at ht
  · simp [Go.Den.iso] at ht
theorem WR.back {w' : World} {S1 : St} {H : Ghost} (hW : WR w0 A S G w) (hle : ({ G with box := fun _ => none, base := G.prot } : Ghost).Le H) (h1 : WR w (fun b => w.heap.size ≤ b) S1 H w') : S.toks.length ≤ S1.toks.length ∧ (∀ t x, S1.tok t = some x → S.toks.length ≤ t) ∧ WR w0 A (merge S S1) { H with box := G.box, base := G.base } w' := by
  have hn : S.toks.length ≤ S1.toks.length := by
    apply Nat.le_of_not_lt
    intro hlt
    obtain ⟨x, hx⟩ := hW.hall (S.toks.length - 1) (by omega)
    have := hle.hdr _ _ hx
    rw [h1.later _ (by omega)] at this
    cases this
  have hml : (merge S S1).toks.length = S1.toks.length := by
    simp [merge]
    omega
  have hold : ∀ b i, b < w.heap.size → H.prot b i = G.prot b i := fun b i hb => by
    rw [h1.basep b i hb, hle.base]
  have hblk : ∀ b, b < w.heap.size → w'.heap[b]? = w.heap[b]? := fun b hb => h1.below.block b hb
  have hhdr : ∀ t, t < S.toks.length → ∀ x, H.hdr t = some x → G.hdr t = some x := fun t ht x hx => by
    obtain ⟨y, hy⟩ := hW.hall t ht
    rw [hle.hdr t y hy] at hx
    rw [hy]
    exact hx
  have hHle : G.Le { H with box := G.box, base := G.base } := ⟨hle.prot, hle.hdr, fun _ _ h => h, rfl⟩
  have htok : ∀ t x, (merge S S1).tok t = some x → (t < S.toks.length ∧ S.tok t = some x) ∨ (S.toks.length ≤ t ∧ S1.tok t = some x) := fun t x ht => by
    rw [merge_tok] at ht
    split at ht
    · rename_i h; exact .inl ⟨h, ht⟩
    · rename_i h; exact .inr ⟨by omega, ht⟩
  have hnew : ∀ t x, S1.tok t = some x → S.toks.length ≤ t := fun t x ht => by
    apply Nat.le_of_not_lt
    intro hlt
    obtain ⟨n, e, s⟩ := x
    obtain ⟨b2, _, _, k1, k2, _⟩ := h1.tok t n e s ht
    exact absurd (hW.hlt t _ _ (hhdr t hlt _ k1)) (by omega)
  refine ⟨hn, hnew, h1.prot, fun t n e s ht => ?_, fun t ht => h1.later t (by rw [hml] at ht; exact ht), h1.hlt, fun i t cs hi => ?_, hW.more, hW.boxes, fun t u x y b c c' ht hu hh hh' => ?_, fun t x b c i ht hh hb => ?_, Nat.le_trans hW.size h1.below.size, hW.below.trans (h1.below.mono hW.size), fun t b c ht hh => ?_, fun b hb => hW.up b (Nat.le_trans h1.below.size hb), fun t ht => ?_, fun t ht => h1.hall t (by rw [hml] at ht; exact ht), fun b i hb => (hold b i (Nat.lt_of_lt_of_le hb hW.size)).trans (hW.basep b i hb), ?_, fun t b c ht hh => ?_⟩
  · rcases htok t _ ht with ⟨hl, ht⟩ | ⟨hl, ht⟩
    · obtain ⟨b, cap, cur, g1, g2, g3, g4, g5, g6, g7, g8⟩ := hW.tok t n e s ht
      have hb := hW.hlt t b cap g1
      exact ⟨b, cap, cur, hle.hdr _ _ g1, g2, (hblk b hb).trans g3, g4, g5, g6, fun i hi => by show (H.prot b i).isSome = true; rw [hold b i hb]; exact g7 i hi, fun i hi => by show H.prot b i = none; rw [hold b i hb]; exact g8 i hi⟩
    · obtain ⟨b, cap, cur, g1, g2, g3, g4, g5, g6, g7, g8⟩ := h1.tok t n e s ht
      exact ⟨b, cap, cur, g1, Nat.le_trans hW.size g2, g3, g4, g5, g6, g7, g8⟩
  · obtain ⟨b, vs, g1, g2, g3, g4, g5⟩ := hW.box i t cs hi
    have hb := (hW.box_lt g1).2
    exact ⟨b, vs, g1, g2, (hblk b hb).trans g3, g4.mono hHle, fun j => (hold b j hb).trans (g5 j)⟩
  · have hh : H.hdr t = some (b, c) := hh
    have hh' : H.hdr u = some (b, c') := hh'
    rcases htok t _ ht with ⟨hl, ht⟩ | ⟨hl, ht⟩ <;> rcases htok u _ hu with ⟨hl', hu⟩ | ⟨hl', hu⟩
    · exact hW.rows t u _ _ b c c' ht hu (hhdr t hl _ hh) (hhdr u hl' _ hh')
    · obtain ⟨n, e, s⟩ := y
      obtain ⟨b2, _, _, k1, k2, _⟩ := h1.tok u n e s hu
      rw [hh'] at k1
      cases k1
      exact absurd (hW.hlt t _ _ (hhdr t hl _ hh)) (by omega)
    · obtain ⟨n, e, s⟩ := x
      obtain ⟨b2, _, _, k1, k2, _⟩ := h1.tok t n e s ht
      rw [hh] at k1
      cases k1
      exact absurd (hW.hlt u _ _ (hhdr u hl' _ hh')) (by omega)
    · exact h1.rows t u _ _ b c c' ht hu hh hh'
  · have hh : H.hdr t = some (b, c) := hh
    have hb : G.box i = some b := hb
    rcases htok t _ ht with ⟨hl, ht⟩ | ⟨hl, ht⟩
    · exact hW.apart t _ b c i ht (hhdr t hl _ hh) hb
    · obtain ⟨n, e, s⟩ := x
      obtain ⟨b2, _, _, k1, k2, _⟩ := h1.tok t n e s ht
      rw [hh] at k1
      cases k1
      exact absurd (hW.box_lt hb).2 (by omega)
  · rcases List.mem_append.1 ht with ht | ht
    · exact hW.up b (h1.own t b c ht hh)
    · exact hW.own t b c ht (hhdr t (hW.ylt t ht) _ hh)
  · rw [hml]
    rcases List.mem_append.1 ht with ht | ht
    · exact h1.ylt t ht
    · exact Nat.lt_of_lt_of_le (hW.ylt t ht) hn
  · rw [hml]
    exact Nat.le_trans hW.oldt.1 hn
  · have ht : t < S.old := ht
    exact hW.oldt.2 t b c ht (hhdr t (Nat.lt_of_lt_of_le ht hW.oldt.1) _ hh)
theorem Tot.iso {f : FuncId} {args : List AV} (hd : args.all AV.dat = true) {Q : AV → St → Prop} (hv : ∀ v S1, Q v S1 → ∃ vs, v = tupOf vs ∧ vs.all AV.dat = true)
    (h : ∀ w0, argsLt S.toks.length args → Tot P w0 f args (iso S.toks.length) Q) (hc : Callable P f) : Tot P w0 f args S fun v S' => ∃ S1, S.toks.length ≤ S1.toks.length ∧ (∀ t x, S1.tok t = some x → S.toks.length ≤ t) ∧ Q v S1 ∧ S' = merge S S1 := by
  refine ⟨hc, fun A G w vs hW hA => ?_⟩
  have hl : ∀ t b, G.hdr t = some b → t < S.toks.length := fun t b hh => by
    apply Nat.lt_of_not_le
    intro hle
    rw [hW.later t hle] at hh
    cases hh
  have hA' : RepA { G with box := fun _ => none, base := G.prot } args vs.toList := RepA.boxes hA hd
  refine ((h w (hA.lt hl hd)).2 _ _ w vs hW.iso hA').mono ?_
  rintro e w' ⟨v, S1, vr, H, rfl, hle, hvr, hW1, hq⟩
  obtain ⟨hn, hnew, hW2⟩ := hW.back hle hW1
  obtain ⟨us, rfl, hus⟩ := hv v S1 hq
  refine ⟨_, _, vr, { H with box := G.box, base := G.base }, rfl, ⟨hle.prot, hle.hdr, fun _ _ h => h, rfl⟩, ?_, hW2, S1, hn, hnew, hq, rfl⟩
  exact RepV.boxesT hvr hus
end
structure TokSub (S S' : St) : Prop where
  tok : ∀ t x, S.tok t = some x → S'.tok t = some x
  yng : ∀ t, t ∈ S.young → t ∈ S'.young
theorem TokLe.sub {S S' : St} (h : TokLe S S') : TokSub S S' := ⟨h.tok, h.yng⟩
theorem TokSub.same {S S' : St} (h : Same S S') : TokSub S S' := h.le.sub
theorem Row.sub {S S' : St} {e : TypeId} {sz n : Nat} {x : AL} {xs : List AL} (h : Row S e sz x n xs) (k : TokSub S S') : Row S' e sz x n xs := h.keep (fun t y _ ht => k.tok t y ht) k.yng
structure ConR (P : Program) (T : Tab) (f : FuncId) (args : List AV) (r : Nat → AV → St → Prop) : Prop where
  tot : ∀ w0 S, Tot P w0 f args S fun v S' => Ext S S' ∧ r S.toks.length v S'
  loc : ∀ n v S S', TokSub S S' → r n v S → r n v S'
  sh : ∀ n v S, r n v S → ∃ fn vs, P.funcs[f]? = some fn ∧ v = tupOf vs ∧ likeVs T fn.resultTypes.toList vs = true
section
variable {P : Program} {w0 : World} {T : Tab}
theorem ConR.useT {T' : Tab} (hd : T'.desc = T.desc) {f : FuncId} {args : List AV} {r : Nat → AV → St → Prop} (h : ConR P T f args r) (S : St) (L : Lo) : (realHk P w0 T').tot f args S L fun v S' => Ext S S' ∧ r S.toks.length v S' := by
  refine ⟨(h.tot w0 (join S L)).mono fun v S' ⟨hE, hr⟩ => ⟨{ S' with boxes := S.boxes }, ?_, rfl, ⟨rfl, hE.2.1, hE.2.2, hE.2.yng⟩, h.loc _ v S' _ (TokSub.same ⟨rfl, rfl⟩) hr⟩, fun v S1 hv => ?_⟩
  · show S' = { S' with boxes := S.boxes ++ L }
    rw [show S.boxes ++ L = S'.boxes from hE.1.symm]
  · obtain ⟨fn, vs, h1, h2, h3⟩ := h.sh _ v S1 hv.2
    refine ⟨fn, vs, h1, h2, ?_⟩
    have key : ∀ (ts : List TypeId) (vs : List AV), likeVs T' ts vs = likeVs T ts vs := by
      intro ts
      induction ts with
      | nil => intro vs; cases vs <;> rfl
      | cons t ts ih =>
        intro vs
        cases vs with
        | nil => rfl
        | cons v vs =>
          show (likeV T' t v && likeVs T' ts vs) = (likeV T t v && likeVs T ts vs)
          rw [ih vs]
          unfold likeV
          rw [hd]
    rw [key]
    exact h3
theorem ConR.use {f : FuncId} {args : List AV} {r : Nat → AV → St → Prop} (h : ConR P T f args r) (S : St) (L : Lo) : (realHk P w0 T).tot f args S L fun v S' => Ext S S' ∧ r S.toks.length v S' := h.useT rfl S L
theorem ConR.of_fn (hT : T.Ok P) (hmo : P.follows .mixedOrders = true) {nov : Cf} {plans : Nat → Plan} {f : FuncId} {args : List AV} {r : Nat → AV → St → Prop}
    (loc : ∀ n v S S', TokSub S S' → r n v S → r n v S')
    (sh : ∀ n v S, r n v S → ∃ fn vs, P.funcs[f]? = some fn ∧ v = tupOf vs ∧ likeVs T fn.resultTypes.toList vs = true)
    (h : ∀ w0 S, wFn nov (realHk P w0 T) P T plans false f args S fun v S' => Ext S S' ∧ r S.toks.length v S') (ho : T.own = false := by rfl) : ConR P T f args r :=
  ⟨fun w0 S => Tot.of_wFnK hT ho hmo (h w0 S), loc, sh⟩
theorem Ext.merge {S S1 : St} (_hn : S.toks.length ≤ S1.toks.length) : Ext S (merge S S1) := by
  refine ⟨rfl, fun t x h => ?_, ?_, fun t h => List.mem_append_right _ h⟩
  · rw [merge_tok, if_pos (tok_lt h)]
    exact h
  · simp [Go.Den.merge]
theorem merge_sub {S S1 : St} (hnew : ∀ t x, S1.tok t = some x → S.toks.length ≤ t) : TokSub S1 (merge S S1) := by
  refine ⟨fun t x h => ?_, fun t h => List.mem_append_left _ h⟩
  rw [merge_tok, if_neg (by have := hnew t x h; omega)]
  exact h
theorem ConR.of_iso {T' : Tab} (hT : T'.Ok P) (hmo : P.follows .mixedOrders = true) {nov : Cf} {plans : Nat → Plan} {f : FuncId} {args : List AV} {r : Nat → AV → St → Prop} (hd : args.all AV.dat = true) (hdv : ∀ n v S, r n v S → ∃ vs, v = tupOf vs ∧ vs.all AV.dat = true) (hc : Callable P f)
    (loc : ∀ n v S S', TokSub S S' → r n v S → r n v S')
    (sh : ∀ n v S, r n v S → ∃ fn vs, P.funcs[f]? = some fn ∧ v = tupOf vs ∧ likeVs T fn.resultTypes.toList vs = true)
    (h : ∀ w0 n, argsLt n args → wFn nov (realHk P w0 T') P T' plans false f args (iso n) fun v S' => r n v S') : ConR P T f args r := by
  refine ⟨fun w0 S => (Tot.iso hd (Q := r S.toks.length) (fun v S1 hv => hdv _ v S1 hv) (fun w0 hl => (Tot.of_wFn2 (S := iso S.toks.length) hT hmo (h w0 _ hl)).mono ?_) hc).mono ?_, loc, sh⟩
  · rintro v S'' ⟨S', rfl, hr⟩
    exact loc _ v S' _ ⟨fun _ _ h => h, fun t h => List.mem_append_left _ h⟩ hr
  · rintro v S' ⟨S1, hn, hnew, hr, rfl⟩
    exact ⟨Ext.merge hn, loc _ v S1 _ (merge_sub hnew) hr⟩
end
end Go.Den
namespace Go.Proofs.YtkdickfiifpblaaGreatDoor.D
open Go Go.Den Go.Proofs
abbrev BA := ByteArray
def bl (a b : BA) : Bool := Op.bytesLess a.toList b.toList
theorem bytesLess_lt : ∀ (x y : List UInt8), Op.bytesLess x y = decide (x < y)
  | [], [] => by simp [Op.bytesLess]
  | _ :: _, [] => by simp [Op.bytesLess]
  | [], _ :: _ => by simp [Op.bytesLess]
  | a :: x, b :: y => by
    rw [Op.bytesLess, bytesLess_lt x y]
    simp [List.cons_lt_cons_iff]
    rcases Decidable.em (a < b) with h | h <;> rcases Decidable.em (a = b) with h2 | h2 <;> simp [h, h2]
theorem bl_lt (a b : BA) : bl a b = decide (a.toList < b.toList) := bytesLess_lt _ _
theorem toList_inj {a b : BA} (h : a.toList = b.toList) : a = b := by
  have := ba_eq a b
  rw [h] at this
  simp at this
  exact this
theorem bl_irrefl (a : BA) : bl a a = false := by rw [bl_lt]; simp [List.lt_irrefl]
theorem bl_trans {a b c : BA} (h : bl a b = true) (k : bl b c = true) : bl a c = true := by
  rw [bl_lt] at *
  exact decide_eq_true (List.lt_trans (of_decide_eq_true h) (of_decide_eq_true k))
theorem bl_total {a b : BA} (h : bl a b = false) (hne : a ≠ b) : bl b a = true := by
  rw [bl_lt] at *
  have h := of_decide_eq_false h
  apply decide_eq_true
  apply Classical.byContradiction
  intro h2
  exact hne (toList_inj (List.le_antisymm (List.not_lt.1 h2) (List.not_lt.1 h)))
structure IsSet (r : List BA) (P : BA → Prop) : Prop where
  rise : r.Pairwise fun a b => bl a b = true
  mem : ∀ x, x ∈ r ↔ P x
theorem IsSet.congr {r : List BA} {P Q : BA → Prop} (h : IsSet r P) (k : ∀ x, P x ↔ Q x) : IsSet r Q := ⟨h.rise, fun x => (h.mem x).trans (k x)⟩
theorem IsSet.nil : IsSet [] (fun _ => False) := ⟨.nil, fun x => by simp⟩
theorem IsSet.uniq : ∀ {r r' : List BA} {P : BA → Prop}, IsSet r P → IsSet r' P → r = r'
  | [], [], _, _, _ => rfl
  | [], y :: r', P, h, h' => by
    have := (h.mem y).2 ((h'.mem y).1 (by simp))
    cases this
  | x :: r, [], P, h, h' => by
    have := (h'.mem x).2 ((h.mem x).1 (by simp))
    cases this
  | x :: r, y :: r', P, h, h' => by
    have hx := List.pairwise_cons.1 h.rise
    have hy := List.pairwise_cons.1 h'.rise
    have exy : x = y := by
      have h1 := (h'.mem x).2 ((h.mem x).1 (by simp))
      have h2 := (h.mem y).2 ((h'.mem y).1 (by simp))
      rcases List.mem_cons.1 h1 with rfl | h1
      · rfl
      · rcases List.mem_cons.1 h2 with rfl | h2
        · rfl
        · have := bl_trans (hx.1 y h2) (hy.1 x h1)
          rw [bl_irrefl] at this
          cases this
    subst exy
    congr 1
    refine IsSet.uniq (P := fun z => P z ∧ z ≠ x) ⟨hx.2, fun z => ?_⟩ ⟨hy.2, fun z => ?_⟩
    · constructor
      · intro hz
        refine ⟨(h.mem z).1 (by simp [hz]), ?_⟩
        rintro rfl
        have := hx.1 z hz
        rw [bl_irrefl] at this
        cases this
      · rintro ⟨hz, hne⟩
        rcases List.mem_cons.1 ((h.mem z).2 hz) with rfl | hz
        · exact absurd rfl hne
        · exact hz
    · constructor
      · intro hz
        refine ⟨(h'.mem z).1 (by simp [hz]), ?_⟩
        rintro rfl
        have := hy.1 z hz
        rw [bl_irrefl] at this
        cases this
      · rintro ⟨hz, hne⟩
        rcases List.mem_cons.1 ((h'.mem z).2 hz) with rfl | hz
        · exact absurd rfl hne
        · exact hz
def ins (s : BA) : List BA → List BA
  | [] => [s]
  | x :: r => match bl s x with
    | true => s :: x :: r
    | false => x :: ins s r
theorem ins_len (s : BA) : ∀ l : List BA, (ins s l).length = l.length + 1
  | [] => rfl
  | x :: r => by
    unfold ins
    cases bl s x with
    | true => rfl
    | false => simp [ins_len s r]
theorem ins_none {s : BA} : ∀ {l : List BA}, (∀ x, x ∈ l → bl s x = false) → ins s l = l ++ [s]
  | [], _ => rfl
  | x :: r, h => by
    unfold ins
    rw [h x (by simp)]
    simp only []
    rw [ins_none fun y hy => h y (by simp [hy])]
    rfl
theorem ins_here {s y : BA} : ∀ {l : List BA}, (∀ x, x ∈ l → bl s x = false) → bl s y = true → ins s (l ++ [y]) = l ++ [s, y]
  | [], _, hy => by simp [ins, hy]
  | x :: r, h, hy => by
    show ins s (x :: (r ++ [y])) = _
    unfold ins
    rw [h x (by simp)]
    simp only []
    rw [ins_here (fun y hy => h y (by simp [hy])) hy]
    rfl
theorem ins_on {s y : BA} : ∀ {l : List BA}, (∃ x, x ∈ l ∧ bl s x = true) → ins s (l ++ [y]) = ins s l ++ [y]
  | [], h => by obtain ⟨x, hx, _⟩ := h; cases hx
  | x :: r, h => by
    show ins s (x :: (r ++ [y])) = _
    unfold ins
    cases hb : bl s x with
    | true => rfl
    | false =>
      simp only []
      rw [ins_on]
      · rfl
      · obtain ⟨z, hz, hs⟩ := h
        rcases List.mem_cons.1 hz with rfl | hz
        · rw [hb] at hs; cases hs
        · exact ⟨z, hz, hs⟩
theorem ins_mem {s z : BA} : ∀ {l : List BA}, z ∈ ins s l ↔ z = s ∨ z ∈ l
  | [] => by simp [ins]
  | x :: r => by
    unfold ins
    cases bl s x with
    | true => simp
    | false =>
      simp only [List.mem_cons, ins_mem (l := r)]
      constructor
      · rintro (h | h | h) <;> simp [h]
      · rintro (h | h | h) <;> simp [h]
theorem ins_rise {s : BA} : ∀ {l : List BA}, l.Pairwise (fun a b => bl a b = true) → s ∉ l → (ins s l).Pairwise fun a b => bl a b = true
  | [], _, _ => by simp [ins]
  | x :: r, h, hs => by
    have hx := List.pairwise_cons.1 h
    unfold ins
    cases hb : bl s x with
    | true =>
      refine List.pairwise_cons.2 ⟨fun y hy => ?_, h⟩
      rcases List.mem_cons.1 hy with rfl | hy
      · exact hb
      · exact bl_trans hb (hx.1 y hy)
    | false =>
      refine List.pairwise_cons.2 ⟨fun y hy => ?_, ins_rise hx.2 (fun h => hs (by simp [h]))⟩
      rcases ins_mem.1 hy with rfl | hy
      · exact bl_total hb (fun e => hs (by simp [e]))
      · exact hx.1 y hy
def memB (s : BA) (l : List BA) : Bool := l.any fun x => decide (x = s)
theorem memB_iff {s : BA} {l : List BA} : memB s l = true ↔ s ∈ l := by
  unfold memB
  rw [List.any_eq_true]
  constructor
  · rintro ⟨x, hx, h⟩
    rw [← of_decide_eq_true h]
    exact hx
  · intro h
    exact ⟨s, h, by simp⟩
def putS (l : List BA) (s : BA) : List BA := match memB s l with | true => l | false => ins s l
theorem IsSet.put {l : List BA} {P : BA → Prop} (h : IsSet l P) (s : BA) : IsSet (putS l s) (fun x => P x ∨ x = s) := by
  unfold putS
  split
  · rename_i hs
    replace hs := memB_iff.1 hs
    refine h.congr fun x => ⟨.inl, fun hx => ?_⟩
    rcases hx with hx | rfl
    · exact hx
    · exact (h.mem _).1 hs
  · rename_i hs
    replace hs : s ∉ l := fun h => by rw [memB_iff.2 h] at hs; cases hs
    refine ⟨ins_rise h.rise hs, fun x => ?_⟩
    rw [ins_mem, h.mem]
    constructor
    · rintro (h | h)
      · exact .inr h
      · exact .inl h
    · rintro (h | h)
      · exact .inr h
      · exact .inl h
theorem putS_len (l : List BA) (s : BA) : (putS l s).length ≤ l.length + 1 := by
  unfold putS
  split
  · omega
  · rw [ins_len]; omega
def setOf (l : List BA) : List BA := l.foldl putS []
theorem foldl_set : ∀ (l r : List BA) (P : BA → Prop), IsSet r P → IsSet (l.foldl putS r) (fun x => P x ∨ x ∈ l)
  | [], r, P, h => h.congr fun x => by simp
  | y :: l, r, P, h => by
    refine (foldl_set l _ _ (h.put y)).congr fun x => ?_
    simp only [List.mem_cons]
    constructor
    · rintro ((h | h) | h) <;> simp [h]
    · rintro (h | h | h) <;> simp [h]
theorem setOf_is (l : List BA) : IsSet (setOf l) (fun x => x ∈ l) := (foldl_set l [] _ IsSet.nil).congr fun x => by simp
theorem foldl_len : ∀ (l r : List BA), (l.foldl putS r).length ≤ r.length + l.length
  | [], r => by simp
  | y :: l, r => by
    have h1 := foldl_len l (putS r y)
    have h2 := putS_len r y
    simp only [List.foldl_cons, List.length_cons]
    omega
end Go.Proofs.YtkdickfiifpblaaGreatDoor.D
namespace Go.Den
abbrev AL.i (n : Int) : AL := .int .i64 n
end Go.Den
namespace Go.Proofs.YtkdickfiifpblaaGreatDoor.D
open Go Go.Den
abbrev ps (a : AL) (b c : Int) (d : Bool) (e f g h i j : AL) (k l : Int) : List AL := [a, .int .i64 b, .int .i64 c, .bool d, e, f, g, h, i, j, .int .i64 k, .int .i64 l]
abbrev ps0 : List AL := [.nilsl, .int .i64 0, .int .i64 0, .bool false, .nilsl, .nilsl, .nilsl, .nilsl, .nilsl, .nilsl, .int .i64 0, .int .i64 0]
abbrev n5 : List AL := [.nilsl, .nilsl, .nilsl, .nilsl, .nilsl]
abbrev k_ : ByteArray := ⟨⟨[]⟩⟩
abbrev k0 : ByteArray := ⟨⟨[123,125,40,41,44,59,61,46,42,43,45]⟩⟩
abbrev k1 : ByteArray := ⟨⟨[40]⟩⟩
abbrev k2 : ByteArray := ⟨⟨[41]⟩⟩
abbrev k3 : ByteArray := ⟨⟨[117,110,100,101,102]⟩⟩
abbrev k4 : ByteArray := ⟨⟨[46]⟩⟩
abbrev k5 : ByteArray := ⟨⟨[42]⟩⟩
abbrev k6 : ByteArray := ⟨⟨[43]⟩⟩
abbrev k7 : ByteArray := ⟨⟨[45]⟩⟩
abbrev k8 : ByteArray := ⟨⟨[123]⟩⟩
abbrev k9 : ByteArray := ⟨⟨[97,115]⟩⟩
abbrev k10 : ByteArray := ⟨⟨[44]⟩⟩
abbrev k11 : ByteArray := ⟨⟨[125]⟩⟩
abbrev k12 : ByteArray := ⟨⟨[108,101,116]⟩⟩
abbrev k13 : ByteArray := ⟨⟨[61]⟩⟩
abbrev k14 : ByteArray := ⟨⟨[59]⟩⟩
abbrev k15 : ByteArray := ⟨⟨[102,117,110,99,116,105,111,110]⟩⟩
abbrev k16 : ByteArray := ⟨⟨[114,101,116,117,114,110]⟩⟩
abbrev k17 : ByteArray := ⟨⟨[105,109,112,111,114,116]⟩⟩
abbrev k18 : ByteArray := ⟨⟨[101,120,112,111,114,116]⟩⟩
abbrev k19 : ByteArray := ⟨⟨[112,114,105,110,116]⟩⟩
abbrev k20 : ByteArray := ⟨⟨[116,104,114,111,119]⟩⟩
abbrev k21 : ByteArray := ⟨⟨[102,97,105,108]⟩⟩
abbrev k22 : ByteArray := ⟨⟨[102,114,111,109]⟩⟩
abbrev k23 : ByteArray := ⟨⟨[100,101,102,97,117,108,116]⟩⟩
abbrev k24 : ByteArray := ⟨⟨[42,100,101,102,97,117,108,116]⟩⟩
abbrev k25 : ByteArray := ⟨⟨[48]⟩⟩
abbrev k26 : ByteArray := ⟨⟨[32,40,32,41]⟩⟩
abbrev k27 : ByteArray := ⟨⟨[110,32,46,32]⟩⟩
abbrev k28 : ByteArray := ⟨⟨[32]⟩⟩
abbrev k29 : ByteArray := ⟨⟨[40,32]⟩⟩
abbrev k30 : ByteArray := ⟨⟨[32,41]⟩⟩
abbrev k31 : ByteArray := ⟨⟨[97]⟩⟩
abbrev k32 : ByteArray := ⟨⟨[98]⟩⟩
abbrev k33 : ByteArray := ⟨⟨[120]⟩⟩
abbrev k34 : ByteArray := ⟨⟨[102]⟩⟩
abbrev k35 : ByteArray := ⟨⟨[103]⟩⟩
abbrev k36 : ByteArray := ⟨⟨[110]⟩⟩
abbrev k37 : ByteArray := ⟨⟨[100]⟩⟩
abbrev k38 : ByteArray := ⟨⟨[110,32,46,32,102,32,40,32,41]⟩⟩
abbrev k39 : ByteArray := ⟨⟨[117,110,100,101,102,32,40,32,41]⟩⟩
abbrev k40 : ByteArray := ⟨⟨[97,36,49]⟩⟩
abbrev k41 : ByteArray := ⟨⟨[120,36]⟩⟩
abbrev k42 : ByteArray := ⟨⟨[108,101,116,32]⟩⟩
abbrev k43 : ByteArray := ⟨⟨[32,61,32]⟩⟩
abbrev k44 : ByteArray := ⟨⟨[102,117,110,99,116,105,111,110,32]⟩⟩
abbrev k45 : ByteArray := ⟨⟨[40,41,32,123,32,114,101,116,117,114,110,32]⟩⟩
abbrev k46 : ByteArray := ⟨⟨[59,32,125]⟩⟩
abbrev k47 : ByteArray := ⟨⟨[112,114,105,110,116,40]⟩⟩
abbrev k48 : ByteArray := ⟨⟨[41,59]⟩⟩
abbrev k49 : ByteArray := ⟨⟨[102,97,105,108,32]⟩⟩
abbrev k50 : ByteArray := ⟨⟨[116,104,114,111,119,32]⟩⟩
abbrev k51 : ByteArray := ⟨⟨[105,109,112,111,114,116,32,123,32]⟩⟩
abbrev k52 : ByteArray := ⟨⟨[32,125,32,102,114,111,109,32,34]⟩⟩
abbrev k53 : ByteArray := ⟨⟨[34,59]⟩⟩
abbrev k54 : ByteArray := ⟨⟨[105,109,112,111,114,116,32,42,32,97,115,32,110,32,102,114,111,109,32,34]⟩⟩
abbrev k55 : ByteArray := ⟨⟨[105,109,112,111,114,116,32,100,32,102,114,111,109,32,34]⟩⟩
abbrev k56 : ByteArray := ⟨⟨[101,120,112,111,114,116,32,123,32]⟩⟩
abbrev k57 : ByteArray := ⟨⟨[32,125,59]⟩⟩
abbrev k58 : ByteArray := ⟨⟨[101,120,112,111,114,116,32,42,32,102,114,111,109,32,34]⟩⟩
abbrev k59 : ByteArray := ⟨⟨[101,120,112,111,114,116,32,100,101,102,97,117,108,116,32]⟩⟩
abbrev k60 : ByteArray := ⟨⟨[102,117,110,99,116,105,111,110,32,102,40,41,32,123,32,114,101,116,117,114,110,32]⟩⟩
abbrev k61 : ByteArray := ⟨⟨[101,120,112,111,114,116,32]⟩⟩
abbrev k62 : ByteArray := ⟨⟨[46,47,98]⟩⟩
abbrev k63 : ByteArray := ⟨⟨[46,47,99]⟩⟩
abbrev k64 : ByteArray := ⟨⟨[46,47,97]⟩⟩
abbrev k65 : ByteArray := ⟨⟨[46,47,100]⟩⟩
abbrev k66 : ByteArray := ⟨⟨[32,97,115,32,120]⟩⟩
abbrev k67 : ByteArray := ⟨⟨[32,97,115,32,98,44,32,103]⟩⟩
abbrev k68 : ByteArray := ⟨⟨[32,97,115,32,121]⟩⟩
abbrev k69 : ByteArray := ⟨⟨[32,97,115,32,100,101,102,97,117,108,116]⟩⟩
abbrev k70 : ByteArray := ⟨⟨[44,32,100,101,102,97,117,108,116]⟩⟩
abbrev k71 : ByteArray := ⟨⟨[108,101,116,32,122,32,61,32,49,59]⟩⟩
abbrev k72 : ByteArray := ⟨⟨[10]⟩⟩
abbrev k73 : ByteArray := ⟨⟨[105,109,112,111,114,116,32,100,101,102,97,117,108,116,32,102,114,111,109,32,34,120,34,59]⟩⟩
abbrev k74 : ByteArray := ⟨⟨[101,120,112,111,114,116,32,123,32,100,101,102,97,117,108,116,32,125,59]⟩⟩
abbrev k75 : ByteArray := ⟨⟨[105,109,112,111,114,116,32,123,32,100,101,102,97,117,108,116,32,125,32,102,114,111,109,32,34,120,34,59]⟩⟩
abbrev k76 : ByteArray := ⟨⟨[108,101,116,32,108,101,116,32,61,32,49,59]⟩⟩
abbrev k77 : ByteArray := ⟨⟨[112,114,105,110,116,40,49,59]⟩⟩
abbrev k78 : ByteArray := ⟨⟨[97,32,61,32,59]⟩⟩
abbrev k79 : ByteArray := ⟨⟨[102,97,105,108,32,49,59]⟩⟩
abbrev k80 : ByteArray := ⟨⟨[108,101,116,32,117,110,100,101,102,32,61,32,49,59]⟩⟩
abbrev k81 : ByteArray := ⟨⟨[105,109,112,111,114,116,32,123,32,97,32,97,115,32,100,101,102,97,117,108,116,32,125,32,102,114,111,109,32,34,120,34,59]⟩⟩
abbrev k82 : ByteArray := ⟨⟨[112,114,105,110,116,40,40,40,40,40,40,40,40,40,40,40,40,40,40,40,40,40,40,40,40,40,40,49,41,41,41,41,41,41,41,41,41,41,41,41,41,41,41,41,41,41,41,41,41,41,59]⟩⟩
abbrev k83 : ByteArray := ⟨⟨[117,110,117,115,101,100]⟩⟩
abbrev k84 : ByteArray := ⟨⟨[102,114,101,101]⟩⟩
abbrev k85 : ByteArray := ⟨⟨[119,114,105,116,101]⟩⟩
abbrev k86 : ByteArray := ⟨⟨[110,101,118,101,114]⟩⟩
abbrev k87 : ByteArray := ⟨⟨[110,111,116,101]⟩⟩
abbrev k88 : ByteArray := ⟨⟨[34]⟩⟩
abbrev k89 : ByteArray := ⟨⟨[122,122]⟩⟩
abbrev k90 : ByteArray := ⟨⟨[113]⟩⟩
end Go.Proofs.YtkdickfiifpblaaGreatDoor.D
namespace Go.Proofs.YtkdickfiifpblaaGreatDoor.D
open Go Go.Den Go.Proofs
theorem v99 : ∀ (hk : Hk) (plans : Nat->Plan) (n0 : Int) (b1 : Bool) (S : St) (Q : AV->St->Prop),wFn true hk Tryz.prog (tabOf Tryz.prog) plans false 99 [.one (.int .u8 n0),.one (.bool b1)] S Q=(true=true/\(decide (n0 ≥ 97)=true->(decide (n0<=122)=true->true=true/\Q (.one (.bool true)) S)/\(decide (n0<=122)=false->(decide (n0 ≥ 65)=true->(decide (n0<=90)=true->true=true/\Q (.one
 (.bool true)) S)/\(decide (n0<=90)=false->((n0 == 95)=true->true=true/\Q (.one (.bool true)) S)/\((n0 == 95)=false->(b1=true->true=true/\Q (.one (.bool (n0 == 36))) S)/\(b1=false->true=true/\Q (.one (.bool false)) S))))/\(decide (n0 ≥ 65)=false->((n0 == 95)=true->true=true/\Q (.one (.bool true)) S)/\((n0 == 95)=false->(b1=true->true=true/\Q (.one (.bool (n0 == 36)))
 S)/\(b1=false->true=true/\Q (.one (.bool false)) S)))))/\(decide (n0 ≥ 97)=false->(decide (n0 ≥ 65)=true->(decide (n0<=90)=true->true=true/\Q (.one (.bool true)) S)/\(decide (n0<=90)=false->((n0 == 95)=true->true=true/\Q (.one (.bool true)) S)/\((n0 == 95)=false->(b1=true->true=true/\Q (.one (.bool (n0 == 36))) S)/\(b1=false->true=true/\Q (.one (.bool false)) S))))/\(decide (n0
 ≥ 65)=false->((n0 == 95)=true->true=true/\Q (.one (.bool true)) S)/\((n0 == 95)=false->(b1=true->true=true/\Q (.one (.bool (n0 == 36))) S)/\(b1=false->true=true/\Q (.one (.bool false))
 S)))))
 := by intros; kernel_rfl
theorem v101 : ∀ (hk : Hk) (plans : Nat->Plan) (n0 : Int) (S : St) (Q : AV->St->Prop),wFn true hk Tryz.prog (tabOf Tryz.prog) plans false 101 [.one (.int .u8 n0)] S Q=(true=true/\(decide (n0 ≥ 48)=true->true=true/\Q (.one (.bool (decide (n0<=57)))) S)/\(decide (n0 ≥ 48)=false->true=true/\Q (.one (.bool false)) S))
 := by intros; kernel_rfl
theorem v100 : ∀ (hk : Hk) (plans : Nat->Plan) (s0 : ByteArray) (n1 : Int) (b2 : Bool) (S : St) (Q : AV->St->Prop),wFn true hk Tryz.prog (tabOf Tryz.prog) plans false 100 [.one (.str s0),.one (.i n1),.one (.bool b2)] S Q=(true=true/\hk.2 27 (codeOf Tryz.prog 100 [1,0,0,0]) [.blk 0,.seq (codeOf Tryz.prog 100 [1,1])] (wEnd (tabOf Tryz.prog) Tryz.f100 false S.boxes.length Q)
 [(6,.v (.one (.i 0))),(0,.v (.one (.str s0))),(1,.v (.one (.i n1))),(2,.v (.one (.bool b2)))] S
 [])
 := by intros; kernel_rfl
theorem b100_0 : ∀ (hk : Hk) (plans : Nat->Plan) (s0 : ByteArray) (b2 : Bool) (n1 : Int) (S : St) (K : QW),wCode true hk Tryz.prog (tabOf Tryz.prog) 27 plans 1000 (codeOf Tryz.prog 100 [1,0,0,0]) [] (fun e env S L => K e (restr [6,0,1,2] env) S L) [(6,.v (.one (.i 0))),(0,.v (.one (.str s0))),(1,.v (.one (.i n1))),(2,.v (.one (.bool b2)))] S []=((decide (n1 < (↑s0.size :
 Int))=true->0<=n1/\n1 < (↑s0.size : Int)/\∃ R,hk.1 99 [.one (.int .u8 (byteAt s0 n1)),.one (.bool b2)] S [] R/\∀ (b : Bool) (S1 : St),R (.one (.bool b)) S1->(b=true->in64 (n1 + 1)/\K .normal [(6,.v (.one (.i 0))),(0,.v (.one (.str s0))),(1,.v (.one (.i (n1 + 1)))),(2,.v (.one (.bool b2)))] S1 [])/\(b=false->0<=n1/\n1 < (↑s0.size : Int)/\∃ R,hk.1 101 [.one (.int .u8 (byteAt s0
 n1))] S1 [] R/\∀ (b : Bool) (S1 : St),R (.one (.bool b)) S1->(b=true->in64 (n1 + 1)/\K .normal [(6,.v (.one (.i 0))),(0,.v (.one (.str s0))),(1,.v (.one (.i (n1 + 1)))),(2,.v (.one (.bool b2)))] S1 [])/\(b=false->K (.exit 0) [(6,.v (.one (.i 0))),(0,.v (.one (.str s0))),(1,.v (.one (.i n1))),(2,.v (.one (.bool b2)))] S1 [])))/\(decide (n1 < (↑s0.size : Int))=false->K (.exit 0)
 [(6,.v (.one (.i 0))),(0,.v (.one (.str s0))),(1,.v (.one (.i n1))),(2,.v (.one (.bool b2)))] S
 []))
 := by intros; kernel_rfl
theorem x100_0 : ∀ (hk : Hk) (plans : Nat->Plan) (s0 : ByteArray) (b2 : Bool) (S : St) (Q : AV->St->Prop) (n1 : Int) (S_1 : St),wCode.wEx true hk Tryz.prog (tabOf Tryz.prog) 27 plans 1000 (.exit 0) [.blk 0,.seq (codeOf Tryz.prog 100 [1,1])] (wEnd (tabOf Tryz.prog) Tryz.f100 false S.boxes.length Q) [(6,.v (.one (.i 0))),(0,.v (.one (.str s0))),(1,.v (.one (.i n1))),(2,.v (.one
 (.bool b2)))] S_1 []=(true=true/\Q (.one (.i n1))
 S_1)
 := by intros; kernel_rfl
theorem v102 : ∀ (hk : Hk) (plans : Nat->Plan) (s0 : ByteArray) (n1 : Int) (b2 : Bool) (S : St) (Q : AV->St->Prop),wFn true hk Tryz.prog (tabOf Tryz.prog) plans false 102 [.one (.str s0),.one (.i n1),.one (.bool b2)] S Q=(true=true/\hk.2 55 (codeOf Tryz.prog 102 [1,1,1,0,0,0]) [.blk 0,.seq (codeOf Tryz.prog 102 [1,1,1,1])] (wEnd (tabOf Tryz.prog) Tryz.f102 false S.boxes.length
 Q) [(9,.v (.one (.i n1))),(10,.v (.one (.i n1))),(8,.v (.one (.i 0))),(7,.v (.one (.i 0))),(6,.v (.one (.i 0))),(0,.v (.one (.str s0))),(1,.v (.one (.i n1))),(2,.v (.one (.bool b2)))] S
 [])
 := by intros; kernel_rfl
theorem b102_0 : ∀ (hk : Hk) (plans : Nat->Plan) (s0 : ByteArray) (n1 : Int) (b2 : Bool) (n9 n8 n7 n6 : Int) (S : St) (K : QW),wCode true hk Tryz.prog (tabOf Tryz.prog) 55 plans 1000 (codeOf Tryz.prog 102 [1,1,1,0,0,0]) [] (fun e env S L => K e (restr [9,8,7,6,0,1,2] env) S L) [(9,.v (.one (.i n9))),(8,.v (.one (.i n8))),(7,.v (.one (.i n7))),(6,.v (.one (.i n6))),(0,.v (.one
 (.str s0))),(1,.v (.one (.i n1))),(2,.v (.one (.bool b2)))] S []=((decide (n9 < (↑s0.size : Int))=true->0<=n9/\n9 < (↑s0.size : Int)/\∃ R,hk.1 101 [.one (.int .u8 (byteAt s0 n9))] S [] R/\∀ (b : Bool) (S1 : St),R (.one (.bool b)) S1->(b=true->(decide (n9 > n1)=true->0<=n1/\n1 < (↑s0.size : Int)/\((byteAt s0 n1 == 48)=true->K .ret [(9,.v (.one (.i n9))),(8,.v (.one (.i
 n8))),(7,.v (.one (.i (-1)))),(6,.v (.one (.i 0))),(0,.v (.one (.str s0))),(1,.v (.one (.i n1))),(2,.v (.one (.bool b2)))] S1 [])/\((byteAt s0 n1 == 48)=false->in64 (n8 * 10)/\0<=n9/\n9 < (↑s0.size : Int)/\in64 (IntKind.u8.wrap (byteAt s0 n9 - 48))/\in64 (n8 * 10 + IntKind.u8.wrap (byteAt s0 n9 - 48))/\(decide (n8 * 10 + IntKind.u8.wrap (byteAt s0 n9 - 48) > 1000000)=true->K
 .ret [(9,.v (.one (.i n9))),(8,.v (.one (.i (n8 * 10 + IntKind.u8.wrap (byteAt s0 n9 - 48))))),(7,.v (.one (.i (-1)))),(6,.v (.one (.i 0))),(0,.v (.one (.str s0))),(1,.v (.one (.i n1))),(2,.v (.one (.bool b2)))] S1 [])/\(decide (n8 * 10 + IntKind.u8.wrap (byteAt s0 n9 - 48) > 1000000)=false->in64 (n9 + 1)/\K .normal [(9,.v (.one (.i (n9 + 1)))),(8,.v (.one (.i (n8 * 10 +
 IntKind.u8.wrap (byteAt s0 n9 - 48))))),(7,.v (.one (.i n7))),(6,.v (.one (.i n6))),(0,.v (.one (.str s0))),(1,.v (.one (.i n1))),(2,.v (.one (.bool b2)))] S1 [])))/\(decide (n9 > n1)=false->in64 (n8 * 10)/\0<=n9/\n9 < (↑s0.size : Int)/\in64 (IntKind.u8.wrap (byteAt s0 n9 - 48))/\in64 (n8 * 10 + IntKind.u8.wrap (byteAt s0 n9 - 48))/\(decide (n8 * 10 + IntKind.u8.wrap (byteAt s0
 n9 - 48) > 1000000)=true->K .ret [(9,.v (.one (.i n9))),(8,.v (.one (.i (n8 * 10 + IntKind.u8.wrap (byteAt s0 n9 - 48))))),(7,.v (.one (.i (-1)))),(6,.v (.one (.i 0))),(0,.v (.one (.str s0))),(1,.v (.one (.i n1))),(2,.v (.one (.bool b2)))] S1 [])/\(decide (n8 * 10 + IntKind.u8.wrap (byteAt s0 n9 - 48) > 1000000)=false->in64 (n9 + 1)/\K .normal [(9,.v (.one (.i (n9 + 1)))),(8,.v
 (.one (.i (n8 * 10 + IntKind.u8.wrap (byteAt s0 n9 - 48))))),(7,.v (.one (.i n7))),(6,.v (.one (.i n6))),(0,.v (.one (.str s0))),(1,.v (.one (.i n1))),(2,.v (.one (.bool b2)))] S1 [])))/\(b=false->K (.exit 0) [(9,.v (.one (.i n9))),(8,.v (.one (.i n8))),(7,.v (.one (.i n7))),(6,.v (.one (.i n6))),(0,.v (.one (.str s0))),(1,.v (.one (.i n1))),(2,.v (.one (.bool b2)))] S1
 []))/\(decide (n9 < (↑s0.size : Int))=false->K (.exit 0) [(9,.v (.one (.i n9))),(8,.v (.one (.i n8))),(7,.v (.one (.i n7))),(6,.v (.one (.i n6))),(0,.v (.one (.str s0))),(1,.v (.one (.i n1))),(2,.v (.one (.bool b2)))] S
 []))
 := by intros; kernel_rfl
theorem x102_0 : ∀ (hk : Hk) (plans : Nat->Plan) (s0 : ByteArray) (n1 : Int) (b2 : Bool) (S : St) (Q : AV->St->Prop) (n9 n8 n7 n6 : Int) (S_1 : St),wCode.wEx true hk Tryz.prog (tabOf Tryz.prog) 55 plans 1000 (.exit 0) [.blk 0,.seq (codeOf Tryz.prog 102 [1,1,1,1])] (wEnd (tabOf Tryz.prog) Tryz.f102 false S.boxes.length Q) [(9,.v (.one (.i n9))),(8,.v (.one (.i n8))),(7,.v (.one
 (.i n7))),(6,.v (.one (.i n6))),(0,.v (.one (.str s0))),(1,.v (.one (.i n1))),(2,.v (.one (.bool b2)))] S_1 []=((decide (n9 < (↑s0.size : Int))=true->0<=n9/\n9 < (↑s0.size : Int)/\∃ R,hk.1 99 [.one (.int .u8 (byteAt s0 n9)),.one (.bool b2)] S_1 [] R/\∀ (b : Bool) (S1 : St),R (.one (.bool b)) S1->(b=true->true=true/\Q (.tup [.one (.i 0),.one (.i (-1))])
 S1)/\(b=false->true=true/\Q (.tup [.one (.i n8),.one (.i n9)]) S1))/\(decide (n9 < (↑s0.size : Int))=false->true=true/\Q (.tup [.one (.i n8),.one (.i n9)])
 S_1))
 := by intros; kernel_rfl
theorem v103 : ∀ (hk : Hk) (plans : Nat->Plan) (s0 : ByteArray) (n1 : Int) (S : St) (Q : AV->St->Prop),wFn true hk Tryz.prog (tabOf Tryz.prog) plans false 103 [.one (.str s0),.one (.i n1)] S Q=(true=true/\in64 (n1 + 1)/\hk.2 43 (codeOf Tryz.prog 103 [1,0,1,0,0]) [.blk 0,.seq (codeOf Tryz.prog 103 [1,1])] (wEnd (tabOf Tryz.prog) Tryz.f103 false S.boxes.length Q) [(5,.v (.one (.i
 (n1 + 1)))),(7,.v (.one (.i (n1 + 1)))),(6,.v (.one (.i n1))),(4,.v (.one (.i 0))),(0,.v (.one (.str s0))),(1,.v (.one (.i n1)))] S
 [])
 := by intros; kernel_rfl
theorem b103_0 : ∀ (hk : Hk) (plans : Nat->Plan) (s0 : ByteArray) (n1 n5 n4 : Int) (S : St) (K : QW),wCode true hk Tryz.prog (tabOf Tryz.prog) 43 plans 1000 (codeOf Tryz.prog 103 [1,0,1,0,0]) [] (fun e env S L => K e (restr [5,4,0,1] env) S L) [(5,.v (.one (.i n5))),(4,.v (.one (.i n4))),(0,.v (.one (.str s0))),(1,.v (.one (.i n1)))] S []=((decide (n5 < (↑s0.size :
 Int))=true->in64 (n1 + 1)/\in64 (n1 + 1 + 40)/\(decide (n5<=n1 + 1 + 40)=true->0<=n5/\n5 < (↑s0.size : Int)/\((byteAt s0 n5 == 34)=true->in64 (n5 + 1)/\K .ret [(5,.v (.one (.i n5))),(4,.v (.one (.i (n5 + 1)))),(0,.v (.one (.str s0))),(1,.v (.one (.i n1)))] S [])/\((byteAt s0 n5 == 34)=false->0<=n5/\n5 < (↑s0.size : Int)/\(decide (byteAt s0 n5 < 32)=true->K .ret [(5,.v (.one (.i
 n5))),(4,.v (.one (.i (-1)))),(0,.v (.one (.str s0))),(1,.v (.one (.i n1)))] S [])/\(decide (byteAt s0 n5 < 32)=false->0<=n5/\n5 < (↑s0.size : Int)/\(decide (byteAt s0 n5 > 126)=true->K .ret [(5,.v (.one (.i n5))),(4,.v (.one (.i (-1)))),(0,.v (.one (.str s0))),(1,.v (.one (.i n1)))] S [])/\(decide (byteAt s0 n5 > 126)=false->0<=n5/\n5 < (↑s0.size : Int)/\((byteAt s0 n5 ==
 92)=true->K .ret [(5,.v (.one (.i n5))),(4,.v (.one (.i (-1)))),(0,.v (.one (.str s0))),(1,.v (.one (.i n1)))] S [])/\((byteAt s0 n5 == 92)=false->in64 (n5 + 1)/\K .normal [(5,.v (.one (.i (n5 + 1)))),(4,.v (.one (.i n4))),(0,.v (.one (.str s0))),(1,.v (.one (.i n1)))] S [])))))/\(decide (n5<=n1 + 1 + 40)=false->K (.exit 0) [(5,.v (.one (.i n5))),(4,.v (.one (.i n4))),(0,.v
 (.one (.str s0))),(1,.v (.one (.i n1)))] S []))/\(decide (n5 < (↑s0.size : Int))=false->K (.exit 0) [(5,.v (.one (.i n5))),(4,.v (.one (.i n4))),(0,.v (.one (.str s0))),(1,.v (.one (.i n1)))] S
 []))
 := by intros; kernel_rfl
theorem x103_0 : ∀ (hk : Hk) (plans : Nat->Plan) (s0 : ByteArray) (n1 : Int) (S : St) (Q : AV->St->Prop) (n5 n4 : Int) (S_1 : St),wCode.wEx true hk Tryz.prog (tabOf Tryz.prog) 43 plans 1000 (.exit 0) [.blk 0,.seq (codeOf Tryz.prog 103 [1,1])] (wEnd (tabOf Tryz.prog) Tryz.f103 false S.boxes.length Q) [(5,.v (.one (.i n5))),(4,.v (.one (.i n4))),(0,.v (.one (.str s0))),(1,.v
 (.one (.i n1)))] S_1 []=(true=true/\Q (.one (.i (-1)))
 S_1)
 := by intros; kernel_rfl
theorem v104 : ∀ (hk : Hk) (plans : Nat->Plan) (n0 : Int) (S : St) (Q : AV->St->Prop),wFn true hk Tryz.prog (tabOf Tryz.prog) plans false 104 [.one (.int .u8 n0)] S Q=(true=true/\hk.2 16 (codeOf Tryz.prog 104 [1,1,0,1,0,0]) [.blk 0,.seq (codeOf Tryz.prog 104 [1,1,1])] (wEnd (tabOf Tryz.prog) Tryz.f104 false S.boxes.length Q) [(4,.v (.one (.i 0))),(3,.v (.one (.str k0))),(2,.kb
 false),(0,.v (.one (.int .u8 n0)))] S
 [])
 := by intros; kernel_rfl
theorem b104_0 : ∀ (hk : Hk) (plans : Nat->Plan) (n0 n4 : Int) (b2 : Bool) (S : St) (K : QW),wCode true hk Tryz.prog (tabOf Tryz.prog) 16 plans 1000 (codeOf Tryz.prog 104 [1,1,0,1,0,0]) [] (fun e env S L => K e (restr [4,3,2,0] env) S L) [(4,.v (.one (.i n4))),(3,.v (.one (.str k0))),(2,.v (.one (.bool b2))),(0,.v (.one (.int .u8 n0)))] S []=((decide (n4 < (↑k0.size :
 Int))=true->0<=n4/\n4 < 11/\((byteAt k0 n4 == n0)=true->K .ret [(4,.v (.one (.i n4))),(3,.v (.one (.str k0))),(2,.v (.one (.bool true))),(0,.v (.one (.int .u8 n0)))] S [])/\((byteAt k0 n4 == n0)=false->in64 (n4 + 1)/\K .normal [(4,.v (.one (.i (n4 + 1)))),(3,.v (.one (.str k0))),(2,.v (.one (.bool b2))),(0,.v (.one (.int .u8 n0)))] S []))/\(decide (n4 < (↑k0.size :
 Int))=false->K (.exit 0) [(4,.v (.one (.i n4))),(3,.v (.one (.str k0))),(2,.v (.one (.bool b2))),(0,.v (.one (.int .u8 n0)))] S
 []))
 := by intros; kernel_rfl
theorem x104_0 : ∀ (hk : Hk) (plans : Nat->Plan) (n0 : Int) (S : St) (Q : AV->St->Prop) (n4 : Int) (b2 : Bool) (S_1 : St),wCode.wEx true hk Tryz.prog (tabOf Tryz.prog) 16 plans 1000 (.exit 0) [.blk 0,.seq (codeOf Tryz.prog 104 [1,1,1])] (wEnd (tabOf Tryz.prog) Tryz.f104 false S.boxes.length Q) [(4,.v (.one (.i n4))),(3,.v (.one (.str k0))),(2,.v (.one (.bool b2))),(0,.v (.one
 (.int .u8 n0)))] S_1 []=(true=true/\Q (.one (.bool false))
 S_1)
 := by intros; kernel_rfl
theorem v73 : ∀ (hk : Hk) (plans : Nat->Plan) (s0 : ByteArray) (n1 : Int) (S : St) (Q : AV->St->Prop),wFn true hk Tryz.prog (tabOf Tryz.prog) plans false 73 [.one (.str s0),.one (.i n1)] S Q=(true=true/\hk.2 59 (codeOf Tryz.prog 73 [1,0,0,0]) [.blk 0,.seq (codeOf Tryz.prog 73 [1,1])] (wEnd (tabOf Tryz.prog) Tryz.f73 false S.boxes.length Q) [(4,.v (.one (.i 0))),(0,.v (.one (.str s0))),(1,.v (.one (.i n1)))] S [])
 := by intros; kernel_rfl
theorem b73_0 : ∀ (hk : Hk) (plans : Nat->Plan) (s0 : ByteArray) (n4 n1 : Int) (S : St) (K : QW),wCode true hk Tryz.prog (tabOf Tryz.prog) 59 plans 1000 (codeOf Tryz.prog 73 [1,0,0,0]) [] (fun e env S L => K e (restr [4,0,1] env) S L) [(4,.v (.one (.i n4))),(0,.v (.one (.str s0))),(1,.v (.one (.i n1)))] S []=((decide (n1 < (↑s0.size : Int))=true->0<=n1/\n1 < (↑s0.size :
 Int)/\((byteAt s0 n1 == 9)=true->in64 (n1 + 1)/\K .normal [(4,.v (.one (.i n4))),(0,.v (.one (.str s0))),(1,.v (.one (.i (n1 + 1))))] S [])/\((byteAt s0 n1 == 9)=false->((byteAt s0 n1 == 10)=true->in64 (n1 + 1)/\K .normal [(4,.v (.one (.i n4))),(0,.v (.one (.str s0))),(1,.v (.one (.i (n1 + 1))))] S [])/\((byteAt s0 n1 == 10)=false->((byteAt s0 n1 == 13)=true->in64 (n1 + 1)/\K
 .normal [(4,.v (.one (.i n4))),(0,.v (.one (.str s0))),(1,.v (.one (.i (n1 + 1))))] S [])/\((byteAt s0 n1 == 13)=false->((byteAt s0 n1 == 32)=true->in64 (n1 + 1)/\K .normal [(4,.v (.one (.i n4))),(0,.v (.one (.str s0))),(1,.v (.one (.i (n1 + 1))))] S [])/\((byteAt s0 n1 == 32)=false->((byteAt s0 n1 != 47)=true->K .ret [(4,.v (.one (.i n1))),(0,.v (.one (.str s0))),(1,.v (.one
 (.i n1)))] S [])/\((byteAt s0 n1 != 47)=false->in64 (n1 + 1)/\(decide (n1 + 1 ≥ (↑s0.size : Int))=true->K .ret [(4,.v (.one (.i n1))),(0,.v (.one (.str s0))),(1,.v (.one (.i n1)))] S [])/\(decide (n1 + 1 ≥ (↑s0.size : Int))=false->in64 (n1 + 1)/\0<=n1 + 1/\n1 + 1 < (↑s0.size : Int)/\((byteAt s0 (n1 + 1) != 47)=true->K .ret [(4,.v (.one (.i n1))),(0,.v (.one (.str s0))),(1,.v
 (.one (.i n1)))] S [])/\((byteAt s0 (n1 + 1) != 47)=false->hk.2 59 (codeOf Tryz.prog 73 [1,0,0,0,1,0,1,1,1,0,0]) [.blk 2,.blk 1] (fun e env S L => K e (restr [4,0,1] env) S L) [(44,.v (.one (.bool (byteAt s0 (n1 + 1) != 47)))),(43,.v (.one (.bool (byteAt s0 (n1 + 1) != 47)))),(42,.v (.one (.int .u8 (byteAt s0 (n1 + 1))))),(41,.v (.one (.i (n1 + 1)))),(40,.v (.one (.i
 n1))),(39,.v (.one (.str s0))),(38,.kb false),(37,.v (.one (.bool (decide (n1 + 1 ≥ (↑s0.size : Int)))))),(36,.v (.one (.bool (decide (n1 + 1 ≥ (↑s0.size : Int)))))),(35,.v (.one (.i (↑s0.size : Int)))),(34,.v (.one (.str s0))),(33,.v (.one (.i (n1 + 1)))),(32,.v (.one (.i n1))),(31,.kb false),(30,.v (.one (.bool (byteAt s0 n1 != 47)))),(29,.v (.one (.int .u8 (byteAt s0
 n1)))),(26,.v (.one (.bool (byteAt s0 n1 == 32)))),(25,.v (.one (.bool (byteAt s0 n1 == 32)))),(24,.v (.one (.int .u8 (byteAt s0 n1)))),(23,.kb false),(22,.v (.one (.bool (byteAt s0 n1 == 13)))),(21,.v (.one (.bool (byteAt s0 n1 == 13)))),(20,.v (.one (.int .u8 (byteAt s0 n1)))),(19,.kb false),(18,.v (.one (.bool (byteAt s0 n1 == 10)))),(17,.v (.one (.bool (byteAt s0 n1 ==
 10)))),(16,.v (.one (.int .u8 (byteAt s0 n1)))),(15,.kb false),(14,.v (.one (.bool (byteAt s0 n1 == 9)))),(13,.v (.one (.int .u8 (byteAt s0 n1)))),(5,.v (.one (.int .u8 (byteAt s0 n1)))),(12,.v (.one (.int .u8 (byteAt s0 n1)))),(11,.v (.one (.i n1))),(10,.v (.one (.str s0))),(9,.v (.one (.bool (decide (n1 < (↑s0.size : Int)))))),(8,.v (.one (.i (↑s0.size : Int)))),(7,.v (.one
 (.str s0))),(6,.v (.one (.i n1))),(4,.v (.one (.i n4))),(0,.v (.one (.str s0))),(1,.v (.one (.i n1)))] S []))))))))/\(decide (n1 < (↑s0.size : Int))=false->K (.exit 0) [(4,.v (.one (.i n4))),(0,.v (.one (.str s0))),(1,.v (.one (.i n1)))] S
 []))
 := by intros; kernel_rfl
theorem x73_0 : ∀ (hk : Hk) (plans : Nat->Plan) (s0 : ByteArray) (S : St) (Q : AV->St->Prop) (n4 n1 : Int) (S_1 : St),wCode.wEx true hk Tryz.prog (tabOf Tryz.prog) 59 plans 1000 (.exit 0) [.blk 0,.seq (codeOf Tryz.prog 73 [1,1])] (wEnd (tabOf Tryz.prog) Tryz.f73 false S.boxes.length Q) [(4,.v (.one (.i n4))),(0,.v (.one (.str s0))),(1,.v (.one (.i n1)))] S_1 []=(true=true/\Q (.one (.i n1)) S_1)
 := by intros; kernel_rfl
theorem b73_1 : ∀ (hk : Hk) (plans : Nat->Plan) (s0 : ByteArray) (n4 n1 : Int) (S : St) (K : QW),wCode true hk Tryz.prog (tabOf Tryz.prog) 59 plans 1000 (codeOf Tryz.prog 73 [1,0,0,0,1,0,1,1,1,0,0]) [] (fun e env S L => K e (restr [4,0,1] env) S L) [(4,.v (.one (.i n4))),(0,.v (.one (.str s0))),(1,.v (.one (.i n1)))] S []=((decide (n1 < (↑s0.size : Int))=true->0<=n1/\n1 <
 (↑s0.size : Int)/\((byteAt s0 n1 != 10)=true->in64 (n1 + 1)/\K .normal [(4,.v (.one (.i n4))),(0,.v (.one (.str s0))),(1,.v (.one (.i (n1 + 1))))] S [])/\((byteAt s0 n1 != 10)=false->K (.exit 2) [(4,.v (.one (.i n4))),(0,.v (.one (.str s0))),(1,.v (.one (.i n1)))] S []))/\(decide (n1 < (↑s0.size : Int))=false->K (.exit 2) [(4,.v (.one (.i n4))),(0,.v (.one (.str s0))),(1,.v
 (.one (.i n1)))] S
 []))
 := by intros; kernel_rfl
theorem x73_1 : ∀ (hk : Hk) (plans : Nat->Plan) (s0 : ByteArray) (n4 : Int) (K : QW) (n1 : Int) (S : St),wCode.wEx true hk Tryz.prog (tabOf Tryz.prog) 59 plans 1000 (.exit 2) [.blk 2,.blk 1] (fun e env S L => K e (restr [4,0,1] env) S L) [(4,.v (.one (.i n4))),(0,.v (.one (.str s0))),(1,.v (.one (.i n1)))] S []=K .normal [(4,.v (.one (.i n4))),(0,.v (.one (.str s0))),(1,.v (.one (.i n1)))] S []
 := by intros; kernel_rfl
theorem v74 : ∀ (hk : Hk) (plans : Nat->Plan) (s0 : ByteArray) (n1 : Int) (b2 : Bool) (S : St) (Q : AV->St->Prop),wFn true hk Tryz.prog (tabOf Tryz.prog) plans false 74 [.one (.str s0),.one (.i n1),.one (.bool b2)] S Q=(true=true/\0<=n1/\n1 < (↑s0.size : Int)/\∃ R,hk.1 99 [.one (.int .u8 (byteAt s0 n1)),.one (.bool b2)] S [(102,[.i 0,.str k_,.i 0,.i 0])] R/\∀ (b : Bool) (S1 :
 St),R (.one (.bool b)) S1->(b=true->∃ R,hk.1 100 [.one (.str s0),.one (.i n1),.one (.bool b2)] S1 [(102,[.i 0,.str k_,.i 0,.i 0])] R/\∀ (n : Int) (S1 : St),R (.one (.i n)) S1->0<=n1/\n1<=n/\n<=(↑s0.size : Int)/\true=true/\Q (.tup [.agg [.i 1,.str (s0.extract n1.toNat n.toNat),.i 0,.i n1],.one (.i n)]) S1)/\(b=false->∃ R,hk.1 101 [.one (.int .u8 (byteAt s0 n1))] S1 [(102,[.i
 0,.str k_,.i 0,.i 0])] R/\∀ (b : Bool) (S1 : St),R (.one (.bool b)) S1->(b=true->∃ R,hk.1 102 [.one (.str s0),.one (.i n1),.one (.bool b2)] S1 [(102,[.i 0,.str k_,.i 0,.i 0])] R/\∀ (n n_1 : Int) (S1 : St),R (.tup [.one (.i n),.one (.i n_1)]) S1->true=true/\Q (.tup [.agg [.i 2,.str k_,.i n,.i n1],.one (.i n_1)]) S1)/\(b=false->((byteAt s0 n1 == 34)=true->∃ R,hk.1 103 [.one (.str
 s0),.one (.i n1)] S1 [(102,[.i 0,.str k_,.i 0,.i 0])] R/\∀ (n : Int) (S1 : St),R (.one (.i n)) S1->(decide (n < 0)=true->true=true/\Q (.tup [.agg [.i 0,.str k_,.i 0,.i 0],.one (.i (-1))]) S1)/\(decide (n < 0)=false->in64 (n1 + 1)/\in64 (n - 1)/\0<=n1 + 1/\n1 + 1<=n - 1/\n - 1<=(↑s0.size : Int)/\true=true/\Q (.tup [.agg [.i 3,.str (s0.extract (n1 + 1).toNat (n - 1).toNat),.i
 0,.i n1],.one (.i n)]) S1))/\((byteAt s0 n1 == 34)=false->∃ R,hk.1 104 [.one (.int .u8 (byteAt s0 n1))] S1 [(102,[.i 0,.str k_,.i 0,.i 0])] R/\∀ (b : Bool) (S1 : St),R (.one (.bool b)) S1->(b=true->in64 (n1 + 1)/\0<=n1/\n1<=n1 + 1/\n1 + 1<=(↑s0.size : Int)/\in64 (n1 + 1)/\true=true/\Q (.tup [.agg [.i 4,.str (s0.extract n1.toNat (n1 + 1).toNat),.i 0,.i n1],.one (.i (n1 + 1))])
 S1)/\(b=false->true=true/\Q (.tup [.agg [.i 0,.str k_,.i 0,.i 0],.one (.i (-1))])
 S1)))))
 := by intros; kernel_rfl
theorem v64 : ∀ (hk : Hk) (plans : Nat->Plan) (s0 : ByteArray) (b1 : Bool) (S : St) (Q : AV->St->Prop),wFn true hk Tryz.prog (tabOf Tryz.prog) plans false 64 [.one (.str s0),.one (.bool b1)] S Q=(true=true/\∃ R,hk.1 73 [.one (.str s0),.one (.i 0)] (S.born (0,102,4)) [] R/\∀ (n : Int) (S1 : St),R (.one (.i n)) S1->hk.2 41 (codeOf Tryz.prog 64 [1,1,1,0,0,0]) [.blk 0,.seq (codeOf
 Tryz.prog 64 [1,1,1,1])] (wEnd (tabOf Tryz.prog) Tryz.f64 false S.boxes.length Q) [(7,.v (.one (.i n))),(12,.v (.one (.i n))),(11,.v (.one (.str s0))),(6,.v (.one (.sl (some S.toks.length) 0 []))),(10,.v (.one (.sl (some S.toks.length) 0 []))),(5,.v (.one (.i 0))),(4,.v (.one .nilsl)),(0,.v (.one (.str s0))),(1,.v (.one (.bool b1)))] S1
 [])
 := by intros; kernel_rfl
theorem b64_0 : ∀ (hk : Hk) (plans : Nat->Plan) (s0 : ByteArray) (b1 : Bool) (n7 : Int) (x6 : AL) (n5 : Int) (x4 : AL) (S : St) (K : QW),wCode true hk Tryz.prog (tabOf Tryz.prog) 41 plans 1000 (codeOf Tryz.prog 64 [1,1,1,0,0,0]) [] (fun e env S L => K e (restr [7,6,5,4,0,1] env) S L) [(7,.v (.one (.i n7))),(6,.v (.one x6)),(5,.v (.one (.i n5))),(4,.v (.one x4)),(0,.v (.one
 (.str s0))),(1,.v (.one (.bool b1)))] S []=((decide (n7 < (↑s0.size : Int))=true->∃ R,hk.1 74 [.one (.str s0),.one (.i n7),.one (.bool b1)] S [] R/\∀ (n : Int) (s : ByteArray) (n_1 n_2 n_3 : Int) (S1 : St),R (.tup [.agg [.i n,.str s,.i n_1,.i n_2],.one (.i n_3)]) S1->(decide (n_3 < 0)=true->K .ret [(7,.v (.one (.i n7))),(6,.v (.one x6)),(5,.v (.one (.i n7))),(4,.v (.one (.sl
 (some S1.toks.length) 0 []))),(0,.v (.one (.str s0))),(1,.v (.one (.bool b1)))] (S1.born (0,102,4)) [(102,[.i n,.str s,.i n_1,.i n_2])])/\(decide (n_3 < 0)=false->∃ n_4,x6.len?=some n_4/\(decide ((↑n_4 : Int) ≥ 4000)=true->K .ret [(7,.v (.one (.i n7))),(6,.v (.one x6)),(5,.v (.one (.i n7))),(4,.v (.one (.sl (some S1.toks.length) 0 []))),(0,.v (.one (.str s0))),(1,.v (.one
 (.bool b1)))] (S1.born (0,102,4)) [(102,[.i n,.str s,.i n_1,.i n_2])])/\(decide ((↑n_4 : Int) ≥ 4000)=false->86=86/\∃ r S',dAppend2 (tabOf Tryz.prog) 86 x6 (.sl (some S1.toks.length) 1 [.i n,.str s,.i n_1,.i n_2]) (S1.born ([AL.i n,.str s,.i n_1,.i n_2].length,102,4))=some (r,S')/\∃ R,hk.1 73 [.one (.str s0),.one (.i n_3)] S' [(102,[.i n,.str s,.i n_1,.i n_2])] R/\∀ (n_5 : Int)
 (S1 : St),R (.one (.i n_5)) S1->K .normal [(7,.v (.one (.i n_5))),(6,.v (.one r)),(5,.v (.one (.i n5))),(4,.v (.one x4)),(0,.v (.one (.str s0))),(1,.v (.one (.bool b1)))] S1 [(102,[.i n,.str s,.i n_1,.i n_2])])))/\(decide (n7 < (↑s0.size : Int))=false->K (.exit 0) [(7,.v (.one (.i n7))),(6,.v (.one x6)),(5,.v (.one (.i n5))),(4,.v (.one x4)),(0,.v (.one (.str s0))),(1,.v (.one
 (.bool b1)))] S
 []))
 := by intros; kernel_rfl
theorem x64_0 : ∀ (hk : Hk) (plans : Nat->Plan) (s0 : ByteArray) (b1 : Bool) (S : St) (Q : AV->St->Prop) (n7 : Int) (x6 : AL) (n5 : Int) (x4 : AL) (S_1 : St),wCode.wEx true hk Tryz.prog (tabOf Tryz.prog) 41 plans 1000 (.exit 0) [.blk 0,.seq (codeOf Tryz.prog 64 [1,1,1,1])] (wEnd (tabOf Tryz.prog) Tryz.f64 false S.boxes.length Q) [(7,.v (.one (.i n7))),(6,.v (.one x6)),(5,.v
 (.one (.i n5))),(4,.v (.one x4)),(0,.v (.one (.str s0))),(1,.v (.one (.bool b1)))] S_1 []=(true=true/\Q (.tup [.one x6,.one (.i (-1))])
 S_1)
 := by intros; kernel_rfl
end Go.Proofs.YtkdickfiifpblaaGreatDoor.D
namespace Go.Proofs.YtkdickfiifpblaaGreatDoor.D
open Go Go.Den Go.Proofs
theorem hT : (tabOf Tryz.prog).Ok Tryz.prog := tabOf_ok _
theorem hmo : Tryz.prog.follows .mixedOrders = true := by kernel_rfl
abbrev np : Nat → Plan := fun _ => .done
noncomputable abbrev CON (w0 : World) (f : FuncId) (args : List AV) (r : AV → Prop) : Prop := Con Tryz.prog w0 (tabOf Tryz.prog) f args r
abbrev int (n : Int) : AV := .one (.int .i64 n)
abbrev u8 (n : Int) : AV := .one (.int .u8 n)
abbrev bool (b : Bool) : AV := .one (.bool b)
abbrev str (s : ByteArray) : AV := .one (.str s)
abbrev E (S : St) (r : AV → Prop) : AV → St → Prop := fun v S' => Ext S S' ∧ r v
noncomputable abbrev KT (w0 : World) (n : Nat) (ks : List Kn) (Q : QW) : QW := kont Tryz.prog w0 (tabOf Tryz.prog) n ks Q
noncomputable abbrev WE (fn : Func) (nb : Nat) (Q : AV → St → Prop) : QW := wEnd (tabOf Tryz.prog) fn false nb Q
noncomputable abbrev CO (f : Nat) (p : List Nat) : Code := codeOf Tryz.prog f p
def letter (n : Int) (b : Bool) : Bool := (decide (97 ≤ n) && decide (n ≤ 122)) || (decide (65 ≤ n) && decide (n ≤ 90)) || n == 95 || (b && n == 36)
def digit (n : Int) : Bool := decide (48 ≤ n) && decide (n ≤ 57)
variable {w0 : World}
theorem l3Letter_ok (n : Int) (b : Bool) : CON w0 99 [u8 n, bool b] (fun v => v = bool (letter n b)) := by
  refine Con.of_fn (plans := np) hT hmo (nov := true) (fun v hv => ⟨Tryz.f99, [v], by kernel_rfl, rfl, by subst hv; kernel_rfl⟩) (fun S => ?_)
  rw [v99]
  refine ⟨rfl, ?_⟩
  have e : ∀ c, c = letter n b → Ext S S ∧ (bool c : AV) = bool (letter n b) := fun c h => ⟨Ext.refl S, by rw [h]⟩
  unfold letter at e ⊢
  refine ⟨fun h1 => ⟨fun h2 => ⟨rfl, e _ ?_⟩, fun h2 => ⟨fun h3 => ⟨fun h4 => ⟨rfl, e _ ?_⟩, fun h4 => ⟨fun h5 => ⟨rfl, e _ ?_⟩, fun h5 => ⟨fun h6 => ⟨rfl, e _ ?_⟩, fun h6 => ⟨rfl, e _ ?_⟩⟩⟩⟩, fun h3 => ⟨fun h5 => ⟨rfl, e _ ?_⟩, fun h5 => ⟨fun h6 => ⟨rfl, e _ ?_⟩, fun h6 => ⟨rfl, e _ ?_⟩⟩⟩⟩⟩,
    fun h1 => ⟨fun h3 => ⟨fun h4 => ⟨rfl, e _ ?_⟩, fun h4 => ⟨fun h5 => ⟨rfl, e _ ?_⟩, fun h5 => ⟨fun h6 => ⟨rfl, e _ ?_⟩, fun h6 => ⟨rfl, e _ ?_⟩⟩⟩⟩, fun h3 => ⟨fun h5 => ⟨rfl, e _ ?_⟩, fun h5 => ⟨fun h6 => ⟨rfl, e _ ?_⟩, fun h6 => ⟨rfl, e _ ?_⟩⟩⟩⟩⟩ <;> simp_all <;> omega
theorem l3Digit_ok (n : Int) : CON w0 101 [u8 n] (fun v => v = bool (digit n)) := by
  refine Con.of_fn (plans := np) hT hmo (nov := true) (fun v hv => ⟨Tryz.f101, [v], by kernel_rfl, rfl, by subst hv; kernel_rfl⟩) (fun S => ?_)
  rw [v101]
  refine ⟨rfl, fun h1 => ⟨rfl, Ext.refl S, ?_⟩, fun h1 => ⟨rfl, Ext.refl S, ?_⟩⟩ <;> unfold digit <;> simp_all <;> omega
def Small (s : ByteArray) : Prop := s.size ≤ 4294967296
theorem byteAt_range (s : ByteArray) (i : Int) : 0 ≤ byteAt s i ∧ byteAt s i < 256 := by
  unfold byteAt
  have := (s.data.getD i.toNat 0).toNat_lt
  omega
def rWord (s : ByteArray) (at_ : Int) (b : Bool) (v : AV) : Prop := ∃ e : Int, v = int e ∧ at_ ≤ e ∧ e ≤ s.size ∧ (at_ < s.size → letter (byteAt s at_) b = true → at_ < e)
def iWord (S : St) (s : ByteArray) (at_ : Int) (b : Bool) : Nat → KE := fun m env S' L => L = [] ∧ Ext S S' ∧ ∃ e : Int, env = [(6, .v (int 0)), (0, .v (str s)), (1, .v (int e)), (2, .v (bool b))] ∧ at_ ≤ e ∧ e ≤ s.size ∧ (m : Int) = s.size - e ∧ (e = at_ ∨ at_ < e)
theorem l3Word_ok (s : ByteArray) (at_ : Int) (b : Bool) (hs : Small s) (h0 : 0 ≤ at_) (h1 : at_ ≤ s.size) : CON w0 100 [str s, int at_, bool b] (rWord s at_ b) := by
  refine Con.of_fn (plans := np) hT hmo (nov := true) (fun v hv => ⟨Tryz.f100, [v], by kernel_rfl, rfl, by obtain ⟨e, rfl, _⟩ := hv; kernel_rfl⟩) (fun S => ?_)
  rw [v100]
  unfold Small at hs
  refine ⟨rfl, [6, 0, 1, 2], iWord S s at_ b, (s.size - at_).toNat, ⟨rfl, Ext.refl S, at_, rfl, by omega, h1, by omega, .inl rfl⟩, ?_⟩
  rintro m env S1 L1 ⟨rfl, hE, e, rfl, h2, h3, h4, h5⟩
  refine WSem.of hT hmo (nov := true) (plans := np) (f := 1000) ?_
  rw [b100_0]
  have fin : ∀ S2, Ext S S2 → (at_ < s.size → letter (byteAt s at_) b = true → at_ < e) → loopK (iWord S s at_ b) 0 m (KT w0 27 [Kn.blk 0, Kn.seq (CO 100 [1, 1])] (WE Tryz.f100 S.boxes.length (E S (rWord s at_ b)))) (.exit 0) [(6, .v (int 0)), (0, .v (str s)), (1, .v (int e)), (2, .v (bool b))] S2 [] := by
    intro S2 hE2 hk
    refine loopK.exit (L' := []) trivial rfl (kont.of hT hmo (nov := true) (plans := np) (f := 1000) ?_)
    rw [x100_0]
    exact ⟨rfl, hE2, e, rfl, h2, h3, hk⟩
  refine ⟨fun hlt => ⟨by omega, of_decide_eq_true hlt, _, (l3Letter_ok _ _).use S1 [], fun b1 S2 hR => ?_⟩, fun hlt => ?_⟩
  · have hlt := of_decide_eq_true hlt
    obtain ⟨hE1, hb⟩ := hR
    cases hb
    refine ⟨fun hb1 => ⟨by unfold in64; omega, loopK.again (L' := []) (m' := m - 1) trivial rfl (by omega) ⟨rfl, hE.trans hE1, e + 1, rfl, by omega, by omega, by omega, .inr (by omega)⟩⟩, fun hb1 => ⟨by omega, hlt, _, (l3Digit_ok _).use S2 [], fun b2 S3 hR => ?_⟩⟩
    obtain ⟨hE2, hb⟩ := hR
    cases hb
    refine ⟨fun hb2 => ⟨by unfold in64; omega, loopK.again (L' := []) (m' := m - 1) trivial rfl (by omega) ⟨rfl, (hE.trans hE1).trans hE2, e + 1, rfl, by omega, by omega, by omega, .inr (by omega)⟩⟩, fun hb2 => fin S3 ((hE.trans hE1).trans hE2) (fun hs' hl => ?_)⟩
    rcases h5 with rfl | h5
    · rw [hl] at hb1; cases hb1
    · exact h5
  · have hlt := of_decide_eq_false hlt
    exact fin S1 hE (fun hs' hl => by omega)
def rNum (s : ByteArray) (at_ : Int) (v : AV) : Prop := ∃ n e : Int, v = .tup [int n, int e] ∧ (e = -1 ∨ (at_ ≤ e ∧ e ≤ s.size ∧ (at_ < s.size → digit (byteAt s at_) = true → at_ < e)))
def iNum (S : St) (s : ByteArray) (at_ : Int) (b : Bool) : Nat → KE := fun m env S' L => L = [] ∧ Ext S S' ∧ ∃ e n n7 n6 : Int, env = [(9, .v (int e)), (8, .v (int n)), (7, .v (int n7)), (6, .v (int n6)), (0, .v (str s)), (1, .v (int at_)), (2, .v (bool b))] ∧
  at_ ≤ e ∧ e ≤ s.size ∧ (m : Int) = s.size - e ∧ (e = at_ ∨ at_ < e) ∧ 0 ≤ n ∧ n ≤ 1000000
theorem wrap_u8 (n : Int) : 0 ≤ IntKind.u8.wrap n ∧ IntKind.u8.wrap n < 256 := by
  simp [IntKind.wrap, IntKind.bits, IntKind.signed]
  omega
theorem l3Num_ok (s : ByteArray) (at_ : Int) (b : Bool) (hs : Small s) (h0 : 0 ≤ at_) (h1 : at_ < s.size) : CON w0 102 [str s, int at_, bool b] (rNum s at_) := by
  refine Con.of_fn (plans := np) hT hmo (nov := true) (fun v hv => by obtain ⟨n, e, rfl, _⟩ := hv; exact ⟨Tryz.f102, [int n, int e], by kernel_rfl, rfl, by kernel_rfl⟩) (fun S => ?_)
  rw [v102]
  unfold Small at hs
  refine ⟨rfl, [9, 8, 7, 6, 0, 1, 2], iNum S s at_ b, (s.size - at_).toNat, ⟨rfl, Ext.refl S, at_, 0, 0, 0, rfl, by omega, by omega, by omega, .inl rfl, by omega, by omega⟩, ?_⟩
  rintro m env S1 L1 ⟨rfl, hE, e, n, n7, n6, rfl, h2, h3, h4, h5, h6, h7⟩
  refine WSem.of hT hmo (nov := true) (plans := np) (f := 1000) ?_
  rw [b102_0]
  have fin : ∀ S2, Ext S S2 → (at_ < s.size → digit (byteAt s at_) = true → at_ < e) → loopK (iNum S s at_ b) 0 m (KT w0 55 [Kn.blk 0, Kn.seq (CO 102 [1, 1, 1, 1])] (WE Tryz.f102 S.boxes.length (E S (rNum s at_)))) (.exit 0) [(9, .v (int e)), (8, .v (int n)), (7, .v (int n7)), (6, .v (int n6)), (0, .v (str s)), (1, .v (int at_)), (2, .v (bool b))] S2 [] := by
    intro S2 hE2 hk
    refine loopK.exit (L' := []) trivial rfl (kont.of hT hmo (nov := true) (plans := np) (f := 1000) ?_)
    rw [x102_0]
    refine ⟨fun hlt => ⟨by omega, of_decide_eq_true hlt, _, (l3Letter_ok _ _).use S2 [], fun b1 S3 hR => ?_⟩, fun hlt => ⟨rfl, hE2, n, e, rfl, .inr ⟨h2, h3, hk⟩⟩⟩
    obtain ⟨hE1, _⟩ := hR
    exact ⟨fun _ => ⟨rfl, hE2.trans hE1, 0, -1, rfl, .inl rfl⟩, fun _ => ⟨rfl, hE2.trans hE1, n, e, rfl, .inr ⟨h2, h3, hk⟩⟩⟩
  refine ⟨fun hlt => ⟨by omega, of_decide_eq_true hlt, _, (l3Digit_ok _).use S1 [], fun b1 S2 hR => ?_⟩, fun hlt => ?_⟩
  · have hlt := of_decide_eq_true hlt
    obtain ⟨hE1, hb⟩ := hR
    cases hb
    have hw := wrap_u8 (byteAt s e - 48)
    have ret : ∀ n8 : Int, loopK (iNum S s at_ b) 0 m (KT w0 55 [Kn.blk 0, Kn.seq (CO 102 [1, 1, 1, 1])] (WE Tryz.f102 S.boxes.length (E S (rNum s at_)))) .ret [(9, .v (int e)), (8, .v (int n8)), (7, .v (int (-1))), (6, .v (int 0)), (0, .v (str s)), (1, .v (int at_)), (2, .v (bool b))] S2 [] := by
      intro n8
      exact loopK.ret (L' := []) trivial rfl (kont.ret _ ⟨rfl, hE.trans hE1, 0, -1, rfl, .inl rfl⟩)
    have more : in64 (n * 10) ∧ 0 ≤ e ∧ e < (s.size : Int) ∧ in64 (IntKind.u8.wrap (byteAt s e - 48)) ∧ in64 (n * 10 + IntKind.u8.wrap (byteAt s e - 48)) := by
      unfold in64
      omega
    have step : ¬ n * 10 + IntKind.u8.wrap (byteAt s e - 48) > 1000000 → in64 (e + 1) ∧ loopK (iNum S s at_ b) 0 m (KT w0 55 [Kn.blk 0, Kn.seq (CO 102 [1, 1, 1, 1])] (WE Tryz.f102 S.boxes.length (E S (rNum s at_)))) .normal
        [(9, .v (int (e + 1))), (8, .v (int (n * 10 + IntKind.u8.wrap (byteAt s e - 48)))), (7, .v (int n7)), (6, .v (int n6)), (0, .v (str s)), (1, .v (int at_)), (2, .v (bool b))] S2 [] := by
      intro hle
      exact ⟨by unfold in64; omega, loopK.again (L' := []) (m' := m - 1) trivial rfl (by omega) ⟨rfl, hE.trans hE1, e + 1, _, n7, n6, rfl, by omega, by omega, by omega, .inr (by omega), by omega, by omega⟩⟩
    refine ⟨fun hb1 => ⟨fun hgt => ⟨h0, h1, fun _ => ret n, fun _ => ⟨more.1, more.2.1, more.2.2.1, more.2.2.2.1, more.2.2.2.2, fun _ => ret _, fun hle => step (of_decide_eq_false hle)⟩⟩, fun hgt => ⟨more.1, more.2.1, more.2.2.1, more.2.2.2.1, more.2.2.2.2, fun _ => ret _, fun hle => step (of_decide_eq_false hle)⟩⟩, fun hb1 => fin S2 (hE.trans hE1) (fun hs' hl => ?_)⟩
    rcases h5 with rfl | h5
    · rw [hl] at hb1; cases hb1
    · exact h5
  · have hlt := of_decide_eq_false hlt
    exact fin S1 hE (fun hs' hl => by omega)
end Go.Proofs.YtkdickfiifpblaaGreatDoor.D
namespace Go.Proofs.YtkdickfiifpblaaGreatDoor.D
open Go Go.Den Go.Proofs
variable {w0 : World}
def rStr (s : ByteArray) (at_ : Int) (v : AV) : Prop := ∃ e : Int, v = int e ∧ (e = -1 ∨ (at_ + 2 ≤ e ∧ e ≤ s.size))
def iStr (S : St) (s : ByteArray) (at_ : Int) : Nat → KE := fun m env S' L => L = [] ∧ Ext S S' ∧ ∃ i n4 : Int, env = [(5, .v (int i)), (4, .v (int n4)), (0, .v (str s)), (1, .v (int at_))] ∧ at_ + 1 ≤ i ∧ i ≤ s.size ∧ (m : Int) = s.size - i
theorem l3Str_ok (s : ByteArray) (at_ : Int) (hs : Small s) (h0 : 0 ≤ at_) (h1 : at_ < s.size) : CON w0 103 [str s, int at_] (rStr s at_) := by
  refine Con.of_fn (plans := np) hT hmo (nov := true) (fun v hv => by obtain ⟨e, rfl, _⟩ := hv; exact ⟨Tryz.f103, [int e], by kernel_rfl, rfl, by kernel_rfl⟩) (fun S => ?_)
  rw [v103]
  unfold Small at hs
  refine ⟨rfl, by unfold in64; omega, [5, 4, 0, 1], iStr S s at_, (s.size - (at_ + 1)).toNat, ⟨rfl, Ext.refl S, at_ + 1, 0, rfl, by omega, by omega, by omega⟩, ?_⟩
  rintro m env S1 L1 ⟨rfl, hE, i, n4, rfl, h2, h3, h4⟩
  refine WSem.of hT hmo (nov := true) (plans := np) (f := 1000) ?_
  rw [b103_0]
  have fin : loopK (iStr S s at_) 0 m (KT w0 43 [Kn.blk 0, Kn.seq (CO 103 [1, 1])] (WE Tryz.f103 S.boxes.length (E S (rStr s at_)))) (.exit 0) [(5, .v (int i)), (4, .v (int n4)), (0, .v (str s)), (1, .v (int at_))] S1 [] := by
    refine loopK.exit (L' := []) trivial rfl (kont.of hT hmo (nov := true) (plans := np) (f := 1000) ?_)
    rw [x103_0]
    exact ⟨rfl, hE, -1, rfl, .inl rfl⟩
  have ret : ∀ n4 : Int, (n4 = -1 ∨ (at_ + 2 ≤ n4 ∧ n4 ≤ s.size)) → loopK (iStr S s at_) 0 m (KT w0 43 [Kn.blk 0, Kn.seq (CO 103 [1, 1])] (WE Tryz.f103 S.boxes.length (E S (rStr s at_)))) .ret [(5, .v (int i)), (4, .v (int n4)), (0, .v (str s)), (1, .v (int at_))] S1 [] :=
    fun n4 hn => loopK.ret (L' := []) trivial rfl (kont.ret _ ⟨rfl, hE, n4, rfl, hn⟩)
  refine ⟨fun hlt => ⟨by unfold in64; omega, by unfold in64; omega, fun _ => ?_, fun _ => fin⟩, fun _ => fin⟩
  have hlt := of_decide_eq_true hlt
  refine ⟨by omega, hlt, fun _ => ⟨by unfold in64; omega, ret _ (.inr (by omega))⟩, fun _ => ⟨by omega, hlt, fun _ => ret _ (.inl rfl), fun _ => ⟨by omega, hlt, fun _ => ret _ (.inl rfl), fun _ => ⟨by omega, hlt, fun _ => ret _ (.inl rfl), fun _ => ?_⟩⟩⟩⟩
  exact ⟨by unfold in64; omega, loopK.again (L' := []) (m' := m - 1) trivial rfl (by omega) ⟨rfl, hE, i + 1, n4, rfl, by omega, by omega, by omega⟩⟩
abbrev signs : ByteArray := ⟨⟨[123, 125, 40, 41, 44, 59, 61, 46, 42, 43, 45]⟩⟩
def rBool (v : AV) : Prop := ∃ b, v = bool b
def iSign (S : St) (n : Int) : Nat → KE := fun m env S' L => L = [] ∧ Ext S S' ∧ ∃ (i : Int) (b : Bool), env = [(4, .v (int i)), (3, .v (str signs)), (2, .v (bool b)), (0, .v (u8 n))] ∧ 0 ≤ i ∧ i ≤ 11 ∧ (m : Int) = 11 - i
theorem l3Sign_ok (n : Int) : CON w0 104 [u8 n] rBool := by
  refine Con.of_fn (plans := np) hT hmo (nov := true) (fun v hv => by obtain ⟨b, rfl⟩ := hv; exact ⟨Tryz.f104, [bool b], by kernel_rfl, rfl, by kernel_rfl⟩) (fun S => ?_)
  rw [v104]
  refine ⟨rfl, [4, 3, 2, 0], iSign S n, 11, ⟨rfl, Ext.refl S, 0, false, rfl, by omega, by omega, by omega⟩, ?_⟩
  rintro m env S1 L1 ⟨rfl, hE, i, b, rfl, h2, h3, h4⟩
  refine WSem.of hT hmo (nov := true) (plans := np) (f := 1000) ?_
  rw [b104_0]
  have hsz : ((ByteArray.mk (Array.mk [123, 125, 40, 41, 44, 59, 61, 46, 42, 43, 45])).size : Int) = 11 := rfl
  refine ⟨fun hlt => ?_, fun _ => ?_⟩
  · have hlt := of_decide_eq_true hlt
    rw [hsz] at hlt
    refine ⟨h2, hlt, fun _ => loopK.ret (L' := []) trivial rfl (kont.ret _ ⟨rfl, hE, true, rfl⟩), fun _ => ⟨by unfold in64; omega, loopK.again (L' := []) (m' := m - 1) trivial rfl (by omega) ⟨rfl, hE, i + 1, b, rfl, by omega, by omega, by omega⟩⟩⟩
  · refine loopK.exit (L' := []) trivial rfl (kont.of hT hmo (nov := true) (plans := np) (f := 1000) ?_)
    rw [x104_0]
    exact ⟨rfl, hE, false, rfl⟩
def rSkip (s : ByteArray) (at_ : Int) (v : AV) : Prop := ∃ e : Int, v = int e ∧ at_ ≤ e ∧ e ≤ s.size
def iSkip (S : St) (s : ByteArray) (at_ : Int) : Nat → KE := fun m env S' L => L = [] ∧ Ext S S' ∧ ∃ i n4 : Int, env = [(4, .v (int n4)), (0, .v (str s)), (1, .v (int i))] ∧ at_ ≤ i ∧ i ≤ s.size ∧ (m : Int) = s.size - i
theorem l3Skip_ok (s : ByteArray) (at_ : Int) (hs : Small s) (h0 : 0 ≤ at_) (h1 : at_ ≤ s.size) : CON w0 73 [str s, int at_] (rSkip s at_) := by
  refine Con.of_fn (plans := np) hT hmo (nov := true) (fun v hv => by obtain ⟨e, rfl, _⟩ := hv; exact ⟨Tryz.f73, [int e], by kernel_rfl, rfl, by kernel_rfl⟩) (fun S => ?_)
  rw [v73]
  unfold Small at hs
  refine ⟨rfl, [4, 0, 1], iSkip S s at_, (s.size - at_).toNat, ⟨rfl, Ext.refl S, at_, 0, rfl, by omega, by omega, by omega⟩, ?_⟩
  rintro m env S1 L1 ⟨rfl, hE, i, n4, rfl, h2, h3, h4⟩
  refine WSem.of hT hmo (nov := true) (plans := np) (f := 1000) ?_
  rw [b73_0]
  have ret : loopK (iSkip S s at_) 0 m (KT w0 59 [Kn.blk 0, Kn.seq (CO 73 [1, 1])] (WE Tryz.f73 S.boxes.length (E S (rSkip s at_)))) .ret [(4, .v (int i)), (0, .v (str s)), (1, .v (int i))] S1 [] :=
    loopK.ret (L' := []) trivial rfl (kont.ret _ ⟨rfl, hE, i, rfl, h2, h3⟩)
  have step : i < s.size → in64 (i + 1) ∧ loopK (iSkip S s at_) 0 m (KT w0 59 [Kn.blk 0, Kn.seq (CO 73 [1, 1])] (WE Tryz.f73 S.boxes.length (E S (rSkip s at_)))) .normal [(4, .v (int n4)), (0, .v (str s)), (1, .v (int (i + 1)))] S1 [] :=
    fun hlt => ⟨by unfold in64; omega, loopK.again (L' := []) (m' := m - 1) trivial rfl (by omega) ⟨rfl, hE, i + 1, n4, rfl, by omega, by omega, by omega⟩⟩
  refine ⟨fun hlt => ?_, fun hlt => ?_⟩
  · have hlt := of_decide_eq_true hlt
    refine ⟨by omega, hlt, fun _ => step hlt, fun _ => ⟨fun _ => step hlt, fun _ => ⟨fun _ => step hlt, fun _ => ⟨fun _ => step hlt, fun _ => ⟨fun _ => ret, fun h47 => ⟨by unfold in64; omega, fun _ => ret, fun hge => ⟨by unfold in64; omega, by omega, ?_, fun _ => ret, fun _ => ?_⟩⟩⟩⟩⟩⟩⟩
    · have := of_decide_eq_false hge
      omega
    · have hge := of_decide_eq_false hge
      -- the line is passed over: where it begins at '/', the first round goes on
      refine ⟨[4, 0, 1], fun m2 env S' L => L = [] ∧ Ext S S' ∧ ∃ j : Int, env = [(4, .v (int n4)), (0, .v (str s)), (1, .v (int j))] ∧ i ≤ j ∧ j ≤ s.size ∧ (m2 : Int) = s.size - j ∧ (j = i ∨ i < j), (s.size - i).toNat, ⟨rfl, hE, i, rfl, by omega, by omega, by omega, .inl rfl⟩, ?_⟩
      rintro m2 env2 S2 L2 ⟨rfl, hE2, j, rfl, g2, g3, g4, g5⟩
      refine WSem.of hT hmo (nov := true) (plans := np) (f := 1000) ?_
      rw [b73_1]
      have out : i < j → loopK (fun m2 env S' L => L = [] ∧ Ext S S' ∧ ∃ j : Int, env = [(4, .v (int n4)), (0, .v (str s)), (1, .v (int j))] ∧ i ≤ j ∧ j ≤ s.size ∧ (m2 : Int) = s.size - j ∧ (j = i ∨ i < j)) 0 m2
          (KT w0 59 [Kn.blk 2, Kn.blk 1] (fun e env S2 L => loopK (iSkip S s at_) 0 m (KT w0 59 [Kn.blk 0, Kn.seq (CO 73 [1, 1])] (WE Tryz.f73 S.boxes.length (E S (rSkip s at_)))) e (restr [4, 0, 1] env) S2 L)) (.exit 2) [(4, .v (int n4)), (0, .v (str s)), (1, .v (int j))] S2 [] := by
        intro hij
        refine loopK.exit (L' := []) trivial rfl (kont.of hT hmo (nov := true) (plans := np) (f := 1000) ?_)
        rw [x73_1]
        exact loopK.again (L' := []) (m' := m2) trivial rfl (by omega) ⟨rfl, hE2, j, n4, rfl, by omega, by omega, by omega⟩
      refine ⟨fun hlt2 => ?_, fun hlt2 => out (by have := of_decide_eq_false hlt2; omega)⟩
      have hlt2 := of_decide_eq_true hlt2
      refine ⟨by omega, hlt2, fun _ => ⟨by unfold in64; omega, loopK.again (L' := []) (m' := m2 - 1) trivial rfl (by omega) ⟨rfl, hE2, j + 1, rfl, by omega, by omega, by omega, .inr (by omega)⟩⟩, fun h10 => out ?_⟩
      rcases g5 with rfl | g5
      · exfalso
        simp only [bne_eq_false_iff_eq] at h10 h47
        omega
      · exact g5
  · have hlt := of_decide_eq_false hlt
    refine loopK.exit (L' := []) trivial rfl (kont.of hT hmo (nov := true) (plans := np) (f := 1000) ?_)
    rw [x73_0]
    exact ⟨rfl, hE, i, rfl, h2, h3⟩
def Tname (t : ByteArray) : Prop := 0 < t.size ∧ byteAt t 0 ≠ 42
theorem letter_star (n : Int) (b : Bool) (h : letter n b = true) : n ≠ 42 := by
  rintro rfl
  unfold letter at h
  cases b <;> simp at h
theorem byteAt_extract (s : ByteArray) (a b : Int) (h0 : 0 ≤ a) (h1 : a < b) (h2 : b ≤ s.size) : 0 < (s.extract a.toNat b.toNat).size ∧ byteAt (s.extract a.toNat b.toNat) 0 = byteAt s a := by
  have hsz : (s.extract a.toNat b.toNat).size = b.toNat - a.toNat := by
    rw [ByteArray.size_extract]
    omega
  refine ⟨by omega, ?_⟩
  unfold byteAt
  congr 2
  have e1 : (s.extract a.toNat b.toNat).data = s.data.extract a.toNat b.toNat := ByteArray.data_extract
  rw [e1]
  simp only [Array.getD_eq_getD_getElem?, Int.toNat_zero]
  rw [Array.getElem?_extract]
  have : (s.data.size : Int) = s.size := rfl
  rw [if_pos (by omega)]
  simp
def rToken (s : ByteArray) (at_ : Int) (v : AV) : Prop := ∃ (k n a e : Int) (t : ByteArray), v = .tup [.agg [.int .i64 k, .str t, .int .i64 n, .int .i64 a], int e] ∧ (e < 0 ∨ (at_ < e ∧ e ≤ s.size ∧ (k = 1 → Tname t) ∧ 0 ≤ a ∧ a ≤ s.size ∧ t.size ≤ s.size))
theorem l3Token_ok (s : ByteArray) (at_ : Int) (b : Bool) (hs : Small s) (h0 : 0 ≤ at_) (h1 : at_ < s.size) : CON w0 74 [str s, int at_, bool b] (rToken s at_) := by
  refine Con.of_fn (plans := np) hT hmo (nov := true) (fun v hv => by obtain ⟨k, n, a, e, t, rfl, _⟩ := hv; exact ⟨Tryz.f74, [.agg [.int .i64 k, .str t, .int .i64 n, .int .i64 a], int e], by kernel_rfl, rfl, by kernel_rfl⟩) (fun S => ?_)
  rw [v74]
  have hs' := hs
  unfold Small at hs'
  have esz : ∀ a c : Nat, c ≤ s.size → (s.extract a c).size ≤ s.size := fun a c hc => by rw [ByteArray.size_extract]; omega
  refine ⟨rfl, h0, h1, _, (l3Letter_ok _ _).use S _, fun b1 S1 ⟨hE1, hb⟩ => ?_⟩
  cases hb
  refine ⟨fun hl => ⟨_, (l3Word_ok s at_ b hs h0 (by omega)).use S1 _, fun n S2 ⟨hE2, e, he, h2, h3, h4⟩ => ?_⟩, fun _ => ⟨_, (l3Digit_ok _).use S1 _, fun b2 S2 ⟨hE2, hb⟩ => ?_⟩⟩
  · cases he
    have hlt := h4 h1 hl
    obtain ⟨g1, g2⟩ := byteAt_extract s at_ n h0 hlt h3
    exact ⟨h0, h2, h3, rfl, hE1.trans hE2, _, _, _, _, _, rfl, .inr ⟨hlt, h3, fun _ => ⟨g1, by rw [g2]; exact letter_star _ _ hl⟩, h0, by omega, esz _ _ (by omega)⟩⟩
  · cases hb
    refine ⟨fun hd => ⟨_, (l3Num_ok s at_ b hs h0 h1).use S2 _, fun n e S3 ⟨hE3, n', e', hv, hne⟩ => ?_⟩, fun _ => ⟨fun _ => ⟨_, (l3Str_ok s at_ hs h0 h1).use S2 _, fun e S3 ⟨hE3, e', hv, hne⟩ => ?_⟩, fun _ => ⟨_, (l3Sign_ok _).use S2 _, fun b3 S3 ⟨hE3, _⟩ => ?_⟩⟩⟩
    · cases hv
      refine ⟨rfl, (hE1.trans hE2).trans hE3, _, _, _, _, _, rfl, ?_⟩
      rcases hne with hne | ⟨g1, g2, g3⟩
      · exact .inl (by omega)
      · exact .inr ⟨g3 h1 hd, g2, fun h => by omega, h0, by omega, Nat.zero_le _⟩
    · cases hv
      refine ⟨fun _ => ⟨rfl, (hE1.trans hE2).trans hE3, _, _, _, _, _, rfl, .inl (by omega)⟩, fun hn => ?_⟩
      have hn := of_decide_eq_false hn
      rcases hne with hne | ⟨g1, g2⟩
      · omega
      · exact ⟨by unfold in64; omega, by unfold in64; omega, by omega, by omega, by omega, rfl, (hE1.trans hE2).trans hE3, _, _, _, _, _, rfl, .inr ⟨by omega, g2, fun h => by omega, h0, by omega, esz _ _ (by omega)⟩⟩
    · refine ⟨fun _ => ⟨by unfold in64; omega, h0, by omega, by omega, by unfold in64; omega, rfl, (hE1.trans hE2).trans hE3, _, _, _, _, _, rfl, .inr ⟨by omega, by omega, fun h => by omega, h0, by omega, esz _ _ (by omega)⟩⟩, fun _ => ⟨rfl, (hE1.trans hE2).trans hE3, _, _, _, _, _, rfl, .inl (by omega)⟩⟩
end Go.Proofs.YtkdickfiifpblaaGreatDoor.D
namespace Go.Proofs.YtkdickfiifpblaaGreatDoor.D
open Go Go.Den Go.Proofs
theorem T3 : (tabOf Tryz.prog).desc 3 = some ⟨false, 1, 8, [], none, false, false, some .i64, [], [.int .i64 0]⟩ := by kernel_rfl
theorem T5 : (tabOf Tryz.prog).desc 5 = some ⟨false, 1, 1, [], none, false, false, some .u8, [], [.int .u8 0]⟩ := by kernel_rfl
theorem T9 : (tabOf Tryz.prog).desc 9 = some ⟨false, 1, 16, [], none, false, true, none, [], [.str ⟨#[]⟩]⟩ := by kernel_rfl
theorem T22 : (tabOf Tryz.prog).desc 22 = some ⟨false, 1, 24, [], some 5, false, false, none, [], [.nilsl]⟩ := by kernel_rfl
theorem T24 : (tabOf Tryz.prog).desc 24 = some ⟨false, 1, 24, [], some 9, false, false, none, [], [.nilsl]⟩ := by kernel_rfl
theorem T25 : (tabOf Tryz.prog).desc 25 = some ⟨false, 1, 24, [], some 48, false, false, none, [], [.nilsl]⟩ := by kernel_rfl
theorem T26 : (tabOf Tryz.prog).desc 26 = some ⟨false, 1, 24, [], some 72, false, false, none, [], [.nilsl]⟩ := by kernel_rfl
theorem T27 : (tabOf Tryz.prog).desc 27 = some ⟨false, 1, 24, [], some 46, false, false, none, [], [.nilsl]⟩ := by kernel_rfl
theorem T28 : (tabOf Tryz.prog).desc 28 = some ⟨false, 1, 24, [], some 59, false, false, none, [], [.nilsl]⟩ := by kernel_rfl
theorem T30 : (tabOf Tryz.prog).desc 30 = some ⟨true, 5, 120, [some 0, some 1, some 2, some 3, some 4], none, false, false, none, [(0, 1), (1, 1), (2, 1), (3, 1), (4, 1)], [.nilsl, .nilsl, .nilsl, .nilsl, .nilsl]⟩ := by kernel_rfl
theorem T32 : (tabOf Tryz.prog).desc 32 = some ⟨false, 1, 24, [], some 36, false, false, none, [], [.nilsl]⟩ := by kernel_rfl
theorem T36 : (tabOf Tryz.prog).desc 36 = some ⟨true, 2, 24, [some 0, some 1], none, false, false, none, [(0, 1), (1, 1)], [.int .i64 0, .str ⟨#[]⟩]⟩ := by kernel_rfl
theorem T46 : (tabOf Tryz.prog).desc 46 = some ⟨true, 3, 32, [some 0, some 1, some 2], none, false, false, none, [(0, 1), (1, 1), (2, 1)], [.int .i64 0, .str ⟨#[]⟩, .int .i64 0]⟩ := by kernel_rfl
theorem T48 : (tabOf Tryz.prog).desc 48 = some ⟨true, 3, 48, [some 0, some 1, some 2], none, false, false, none, [(0, 1), (1, 1), (2, 1)], [.str ⟨#[]⟩, .str ⟨#[]⟩, .str ⟨#[]⟩]⟩ := by kernel_rfl
theorem T59 : (tabOf Tryz.prog).desc 59 = some ⟨true, 6, 64, [some 0, some 1, some 2, some 3, some 4, some 5], none, false, false, none, [(0, 1), (1, 1), (2, 1), (3, 1), (4, 1), (5, 1)], [.int .i64 0, .int .i64 0, .str ⟨#[]⟩, .str ⟨#[]⟩, .int .i64 0, .int .i64 0]⟩ := by kernel_rfl
theorem T72 : (tabOf Tryz.prog).desc 72 = some ⟨true, 4, 56, [some 0, some 1, some 2, some 3], none, false, false, none, [(0, 1), (1, 1), (2, 1), (3, 1)], [.int .i64 0, .str ⟨#[]⟩, .str ⟨#[]⟩, .str ⟨#[]⟩]⟩ := by kernel_rfl
theorem T86 : (tabOf Tryz.prog).desc 86 = some ⟨false, 1, 24, [], some 102, false, false, none, [], [.nilsl]⟩ := by kernel_rfl
theorem T102 : (tabOf Tryz.prog).desc 102 = some ⟨true, 4, 40, [some 0, some 1, some 2, some 3], none, false, false, none, [(0, 1), (1, 1), (2, 1), (3, 1)], [.int .i64 0, .str ⟨#[]⟩, .int .i64 0, .int .i64 0]⟩ := by kernel_rfl
end Go.Proofs.YtkdickfiifpblaaGreatDoor.D
namespace Go.Proofs.YtkdickfiifpblaaGreatDoor.D
open Go Go.Den Go.Proofs
variable {w0 : World}
structure Tk where
  k : Int
  t : ByteArray
  n : Int
  a : Int
def Tk.cells (x : Tk) : List AL := [.int .i64 x.k, .str x.t, .int .i64 x.n, .int .i64 x.a]
def tkCells (l : List Tk) : List AL := l.flatMap Tk.cells
theorem tkCells_add (l : List Tk) (x : Tk) : tkCells l ++ x.cells = tkCells (l ++ [x]) := by simp [tkCells]
def TkOk (size : Nat) (x : Tk) : Prop := (x.k = 1 → Tname x.t) ∧ 0 ≤ x.a ∧ x.a ≤ size ∧ x.t.size ≤ size
def rLex (s : ByteArray) (v : AV) : Prop := ∃ (x : AL) (bad : Int) (toks : List Tk), v = .tup [.one x, int bad] ∧ -1 ≤ bad ∧ (∃ tok, x = .sl tok toks.length (tkCells toks)) ∧ toks.length ≤ 4000 ∧ ∀ t, t ∈ toks → TkOk s.size t
def iLex (S : St) (s : ByteArray) (b : Bool) : Nat → KE := fun m env S' L => L = [] ∧ Ext S S' ∧ ∃ (p n5 : Int) (x x4 : AL) (toks : List Tk), env = [(7, .v (int p)), (6, .v (.one x)), (5, .v (int n5)), (4, .v (.one x4)), (0, .v (str s)), (1, .v (bool b))] ∧
  Row S' 102 4 x toks.length (tkCells toks) ∧ (∃ k, x.tk = some k ∧ S.toks.length ≤ k) ∧ toks.length ≤ 4000 ∧ (∀ t, t ∈ toks → TkOk s.size t) ∧ 0 ≤ p ∧ p ≤ s.size ∧ (m : Int) = s.size - p
theorem Lex_ok (s : ByteArray) (b : Bool) (hs : Small s) : CON w0 64 [str s, bool b] (rLex s) := by
  refine Con.of_fn (plans := np) hT hmo (nov := true) (fun v hv => by obtain ⟨x, bad, toks, rfl, _⟩ := hv; exact ⟨Tryz.f64, [.one x, int bad], by kernel_rfl, rfl, by kernel_rfl⟩) (fun S => ?_)
  rw [v64]
  have hs' := hs
  unfold Small at hs'
  refine ⟨rfl, _, (l3Skip_ok s 0 hs (by omega) (by omega)).use _ _, fun p S1 ⟨hE1, p', hp, hp0, hp1⟩ => ?_⟩
  cases hp
  have hES : Ext S S1 := (Ext.born S _).trans hE1
  refine ⟨[7, 6, 5, 4, 0, 1], iLex S s b, (s.size - p).toNat, ⟨rfl, hES, p, 0, _, _, [], rfl, (Row.born S 102 4).ext hE1.2, ⟨_, rfl, Nat.le_refl _⟩, by simp, by simp, by omega, hp1, by omega⟩, ?_⟩
  rintro m env S2 L2 ⟨rfl, hE, p, n5, x, x4, toks, rfl, hrow, ⟨k, hk, hkl⟩, hn, htk, h0, h1, hm⟩
  refine WSem.of hT hmo (nov := true) (plans := np) (f := 1000) ?_
  rw [b64_0]
  have ret : ∀ S3 L, Ext S S3 → loopK (iLex S s b) 0 m (KT w0 41 [Kn.blk 0, Kn.seq (CO 64 [1, 1, 1, 1])] (WE Tryz.f64 S.boxes.length (E S (rLex s)))) .ret [(7, .v (int p)), (6, .v (.one x)), (5, .v (int p)), (4, .v (.one (.sl (some S3.toks.length) 0 []))), (0, .v (str s)), (1, .v (bool b))] (S3.born (0, 102, 4)) L :=
    fun S3 L hE3 => loopK.ret (L' := []) trivial (by simp) (kont.ret _ ⟨rfl, hE3.trans (Ext.born S3 _), _, _, [], rfl, by omega, ⟨_, rfl⟩, by simp, by simp⟩)
  refine ⟨fun hlt => ⟨_, (l3Token_ok s p b hs h0 (of_decide_eq_true hlt)).use S2 [], fun k1 t1 n1 a1 e S3 ⟨hE3, k1', n1', a1', e', t1', hv, hok⟩ => ?_⟩, fun hlt => ?_⟩
  · cases hv
    have hE23 := hE.trans hE3
    refine ⟨fun _ => ret S3 _ hE23, fun he => ⟨_, (hrow.ext hE3.2).len, fun _ => ret S3 _ hE23, fun hfull => ⟨rfl, ?_⟩⟩⟩
    have he := of_decide_eq_false he
    have hfull := of_decide_eq_false hfull
    rcases hok with hok | ⟨g1, g2, g3, g4, g5, g6⟩
    · omega
    obtain ⟨r, S4, hr1, hr2, hr3, hr4, hr5, ⟨kk, hr6, hr7⟩, hr8⟩ := (hrow.ext hE3.2).push (t := 86) (ys := (Tk.mk k1 t1 n1 a1).cells) T86 rfl T102 rfl (by decide) rfl (by unfold maxLen; omega) (by show (toks.length + 1) * 40 ≤ _; omega) (some S3.toks.length) (4, 102, 4)
    have hE4 : Ext S S4 := ⟨hr3.trans hE23.1, fun u z hu => hr5 u z (hE23.2.1 u z hu) (by rw [hk]; intro h; cases h; have := tok_lt hu; omega), by have := hE23.2.2; omega, fun u hu => hr8 u (hE23.2.yng u hu)⟩
    refine ⟨r, S4, hr1, _, (l3Skip_ok s e hs (by omega) g2).use S4 _, fun q S5 ⟨hE5, q', hq, hq0, hq1⟩ => ?_⟩
    cases hq
    refine loopK.again (L' := []) (m' := (s.size - q).toNat) trivial rfl (by omega) ⟨rfl, hE4.trans hE5, q, n5, r, x4, toks ++ [⟨k1, t1, n1, a1⟩], rfl, ?_, ⟨kk, hr6, by have := hE23.2.2; omega⟩, ?_, ?_, by omega, hq1, by omega⟩
    · rw [List.length_append, ← tkCells_add]
      exact hr2.ext hE5.2
    · rw [List.length_append]
      have : toks.length < 4000 := by omega
      simp only [List.length_singleton]
      omega
    · intro t ht
      rcases List.mem_append.1 ht with ht | ht
      · exact htk t ht
      · simp at ht
        subst ht
        exact ⟨g3, g4, g5, g6⟩
  · refine loopK.exit (L' := []) trivial rfl (kont.of hT hmo (nov := true) (plans := np) (f := 1000) ?_)
    rw [x64_0]
    obtain ⟨_, ⟨rfl, h⟩ | ⟨tk, rfl, _⟩⟩ := hrow
    · cases hk
    · exact ⟨rfl, hE, _, _, toks, rfl, by omega, ⟨_, rfl⟩, hn, htk⟩
end Go.Proofs.YtkdickfiifpblaaGreatDoor.D
namespace Go.Proofs.YtkdickfiifpblaaGreatDoor.D
open Go Go.Den Go.Proofs
variable {w0 : World}
structure Im where
  spec : ByteArray
  from_ : ByteArray
  loc : ByteArray
def Im.cells (x : Im) : List AL := [.str x.spec, .str x.from_, .str x.loc]
structure Xp where
  k : Int
  name : ByteArray
  loc : ByteArray
  spec : ByteArray
def Xp.cells (x : Xp) : List AL := [.int .i64 x.k, .str x.name, .str x.loc, .str x.spec]
structure Sm where
  k : Int
  name : ByteArray
  e : Int
def Sm.cells (x : Sm) : List AL := [.int .i64 x.k, .str x.name, .int .i64 x.e]
structure Er where
  k : Int
  num : Int
  name : ByteArray
  field : ByteArray
  l : Int
  r : Int
def Er.cells (x : Er) : List AL := [.int .i64 x.k, .int .i64 x.num, .str x.name, .str x.field, .int .i64 x.l, .int .i64 x.r]
def Rq (s : ByteArray) : List AL := [.str s]
theorem flat_len {α : Type} (c : α → List AL) (sz : Nat) (hc : ∀ x, (c x).length = sz) (l : List α) : (l.flatMap c).length = l.length * sz := by
  induction l with
  | nil => simp
  | cons x l ih => rw [List.flatMap_cons, List.length_append, ih, hc, List.length_cons, Nat.add_mul, Nat.one_mul, Nat.add_comm]
theorem flat_get {α : Type} (c : α → List AL) (sz : Nat) (hc : ∀ x, (c x).length = sz) (l : List α) (i j : Nat) (x : α) (hx : l[i]? = some x) (hj : j < sz) : (List.drop j (List.drop (i * sz) (l.flatMap c)))[0]? = (c x)[j]? := by
  rw [List.getElem?_drop, List.getElem?_drop]
  induction l generalizing i with
  | nil => simp at hx
  | cons y l ih =>
    rw [List.flatMap_cons]
    cases i with
    | zero =>
      simp at hx
      subst hx
      rw [List.getElem?_append_left (by rw [hc]; omega)]
      congr 1
      omega
    | succ i =>
      have := ih i (by simpa using hx)
      rw [List.getElem?_append_right (by rw [hc, Nat.add_mul]; omega), ← this, hc]
      congr 1
      rw [Nat.add_mul]
      omega
theorem flat_add {α : Type} (c : α → List AL) (l : List α) (x : α) : l.flatMap c ++ c x = (l ++ [x]).flatMap c := by simp
structure PS where
  toks : List Tk
  tt : Option Nat
  at_ : Int
  en : Int
  sc : Bool
  xr : AL
  xi : AL
  xe : AL
  xs : AL
  xx : AL
  xl : AL
  reqs : List ByteArray
  imps : List Im
  exps : List Xp
  stmts : List Sm
  exprs : List Er
  last : List Xp
  bad : Int
  deep : Int
abbrev PS.cs (p : PS) : List AL := [.sl p.tt p.toks.length (tkCells p.toks), .int .i64 p.at_, .int .i64 p.en, .bool p.sc, p.xr, p.xi, p.xe, p.xs, p.xx, p.xl, .int .i64 p.bad, .int .i64 p.deep]
abbrev PS.av (p : PS) : AV := .agg p.cs
def Ap (a b : AL) : Prop := ∀ t, a.tk = some t → b.tk ≠ some t
theorem Ap.symm {a b : AL} (h : Ap a b) : Ap b a := fun t hb ha => h t ha hb
structure PF (B : Nat) (p : PS) : Prop where
  tk : ∀ t, t ∈ p.toks → TkOk B t
  ln : p.toks.length ≤ 4000
  at0 : 0 ≤ p.at_
  at1 : p.at_ ≤ p.toks.length
  en0 : 0 ≤ p.en
  en1 : p.en ≤ B
  bad0 : -1 ≤ p.bad
  dp0 : 0 ≤ p.deep
  dp1 : p.deep ≤ 20
  bi : ∀ x, x ∈ p.imps → x.loc.size ≤ B + 8
  bs : ∀ x, x ∈ p.stmts → x.name.size ≤ B + 8
  bx : ∀ x, x ∈ p.exprs → x.name.size ≤ B + 8
theorem bnd {α : Type} {P : α → Prop} {l : List α} {a : α} (h : ∀ x, x ∈ l → P x) (ha : P a) : ∀ x, x ∈ l ++ [a] → P x := by
  intro x hx
  rcases List.mem_append.1 hx with hx | hx
  · exact h x hx
  · rw [List.mem_singleton.1 hx]
    exact ha
structure PR (S : St) (p : PS) : Prop where
  rr : Row S 9 1 p.xr p.reqs.length (p.reqs.flatMap Rq)
  ri : Row S 48 3 p.xi p.imps.length (p.imps.flatMap Im.cells)
  re : Row S 72 4 p.xe p.exps.length (p.exps.flatMap Xp.cells)
  rs : Row S 46 3 p.xs p.stmts.length (p.stmts.flatMap Sm.cells)
  rx : Row S 59 6 p.xx p.exprs.length (p.exprs.flatMap Er.cells)
  rl : Row S 72 4 p.xl p.last.length (p.last.flatMap Xp.cells)
  cr : p.reqs.length ≤ 40
  ci : p.imps.length ≤ 40
  ce : p.exps.length + p.last.length ≤ 40
  cs : p.stmts.length ≤ 80
  cx : p.exprs.length ≤ 300
  ap : List.Pairwise Ap [p.xr, p.xi, p.xe, p.xs, p.xx, p.xl]
theorem PR.keep {S S' : St} {p q : PS} (h : PR S p) (e1 : q.xr = p.xr) (e2 : q.xi = p.xi) (e3 : q.xe = p.xe) (e4 : q.xs = p.xs) (e5 : q.xx = p.xx) (e6 : q.xl = p.xl)
    (f1 : q.reqs = p.reqs) (f2 : q.imps = p.imps) (f3 : q.exps = p.exps) (f4 : q.stmts = p.stmts) (f5 : q.exprs = p.exprs) (f6 : q.last = p.last) (k : TokLe S S') : PR S' q := by
  refine ⟨?_, ?_, ?_, ?_, ?_, ?_, ?_, ?_, ?_, ?_, ?_, ?_⟩
  · rw [e1, f1]; exact h.rr.ext k
  · rw [e2, f2]; exact h.ri.ext k
  · rw [e3, f3]; exact h.re.ext k
  · rw [e4, f4]; exact h.rs.ext k
  · rw [e5, f5]; exact h.rx.ext k
  · rw [e6, f6]; exact h.rl.ext k
  · rw [f1]; exact h.cr
  · rw [f2]; exact h.ci
  · rw [f3, f6]; exact h.ce
  · rw [f4]; exact h.cs
  · rw [f5]; exact h.cx
  · rw [e1, e2, e3, e4, e5, e6]; exact h.ap
theorem PR.ext {S S' : St} {p : PS} (h : PR S p) (k : TokLe S S') : PR S' p := h.keep rfl rfl rfl rfl rfl rfl rfl rfl rfl rfl rfl rfl k
theorem PR.at {S : St} {p : PS} (h : PR S p) (a b d : Int) : PR S { p with at_ := a, bad := b, deep := d } := h.keep rfl rfl rfl rfl rfl rfl rfl rfl rfl rfl rfl rfl (TokLe.refl S)
noncomputable abbrev CONP (w0 : World) (f : FuncId) (args : List AV) (pre : St → Prop) (r : AV → St → Prop) : Prop := ConP Tryz.prog w0 (tabOf Tryz.prog) f args pre r
end Go.Proofs.YtkdickfiifpblaaGreatDoor.D
namespace Go.Proofs.YtkdickfiifpblaaGreatDoor.D
open Go Go.Den Go.Proofs
theorem v122 : ∀ (hk : Hk) (plans : Nat->Plan) (x0_0 : AL) (n0_1 n0_2 : Int) (b0_3 : Bool) (x0_4 x0_5 x0_6 x0_7 x0_8 x0_9 : AL) (n0_10 n0_11 : Int) (S : St) (Q : AV->St->Prop),wFn true hk Tryz.prog (tabOf Tryz.prog) plans false 122 [.agg (ps x0_0 n0_1 n0_2 b0_3 x0_4 x0_5 x0_6 x0_7 x0_8 x0_9 n0_10 n0_11)] S Q=(true=true/\∃ n,x0_0.len?=some n/\(decide (n0_1 < (↑n : Int))=true->∃
 tok n xs,x0_0=.sl tok n xs/\0<=n0_1/\n0_1 < (↑n : Int)/\(∃ x,likeCells [.i 0] [x]=true/\(List.drop 3 (List.drop (n0_1.toNat * 4) xs))[0]?=some x)/\∀ (n : Int),(List.drop 3 (List.drop (n0_1.toNat * 4) xs))[0]?=some (.i n)->true=true/\Q (.one (.i n)) S)/\(decide (n0_1 < (↑n : Int))=false->true=true/\Q (.one (.i n0_2))
 S))
 := by intros; kernel_rfl
theorem v110 : ∀ (hk : Hk) (plans : Nat->Plan) (x0_0 : AL) (n0_1 n0_2 : Int) (b0_3 : Bool) (x0_4 x0_5 x0_6 x0_7 x0_8 x0_9 : AL) (n0_10 n0_11 : Int) (S : St) (Q : AV->St->Prop),wFn true hk Tryz.prog (tabOf Tryz.prog) plans false 110 [.agg (ps x0_0 n0_1 n0_2 b0_3 x0_4 x0_5 x0_6 x0_7 x0_8 x0_9 n0_10 n0_11)] S Q=(true=true/\(decide (n0_10 < 0)=true->∃ R,hk.1 122 [.agg (ps x0_0 n0_1
 n0_2 b0_3 x0_4 x0_5 x0_6 x0_7 x0_8 x0_9 n0_10 n0_11)] S [(90,(ps x0_0 n0_1 n0_2 b0_3 x0_4 x0_5 x0_6 x0_7 x0_8 x0_9 n0_10 n0_11)),(90,ps0)] R/\∀ (n : Int) (S1 : St),R (.one (.i n)) S1->true=true/\Q (.agg (ps x0_0 n0_1 n0_2 b0_3 x0_4 x0_5 x0_6 x0_7 x0_8 x0_9 n n0_11)) S1)/\(decide (n0_10 < 0)=false->true=true/\Q (.agg (ps x0_0 n0_1 n0_2 b0_3 x0_4 x0_5 x0_6 x0_7 x0_8 x0_9 n0_10
 n0_11))
 S))
 := by intros; kernel_rfl
theorem v113 : ∀ (hk : Hk) (plans : Nat->Plan) (x0_0 : AL) (n0_1 n0_2 : Int) (b0_3 : Bool) (x0_4 x0_5 x0_6 x0_7 x0_8 x0_9 : AL) (n0_10 n0_11 : Int) (S : St) (Q : AV->St->Prop),wFn true hk Tryz.prog (tabOf Tryz.prog) plans false 113 [.agg (ps x0_0 n0_1 n0_2 b0_3 x0_4 x0_5 x0_6 x0_7 x0_8 x0_9 n0_10 n0_11)] S Q=(true=true/\(decide (n0_10 < 0)=true->in64 (n0_1 - 1)/\∃ tok n
 xs,x0_0=.sl tok n xs/\0<=n0_1 - 1/\n0_1 - 1 < (↑n : Int)/\(∃ x,likeCells [.i 0] [x]=true/\(List.drop 3 (List.drop ((n0_1 - 1).toNat * 4) xs))[0]?=some x)/\∀ (n : Int),(List.drop 3 (List.drop ((n0_1 - 1).toNat * 4) xs))[0]?=some (.i n)->true=true/\Q (.agg (ps x0_0 n0_1 n0_2 b0_3 x0_4 x0_5 x0_6 x0_7 x0_8 x0_9 n n0_11)) S)/\(decide (n0_10 < 0)=false->true=true/\Q (.agg (ps x0_0
 n0_1 n0_2 b0_3 x0_4 x0_5 x0_6 x0_7 x0_8 x0_9 n0_10 n0_11))
 S))
 := by intros; kernel_rfl
theorem v75 : ∀ (hk : Hk) (plans : Nat->Plan) (x0_0 : AL) (n0_1 n0_2 : Int) (b0_3 : Bool) (x0_4 x0_5 x0_6 x0_7 x0_8 x0_9 : AL) (n0_10 n0_11 n1 : Int) (s2 : ByteArray) (S : St) (Q : AV->St->Prop),wFn true hk Tryz.prog (tabOf Tryz.prog) plans false 75 [.agg (ps x0_0 n0_1 n0_2 b0_3 x0_4 x0_5 x0_6 x0_7 x0_8 x0_9 n0_10 n0_11),.one (.i n1),.one (.str s2)] S Q=(true=true/\(decide
 (n0_10 < 0)=true->∃ n,x0_0.len?=some n/\(decide (n0_1 < (↑n : Int))=true->∃ tok n xs,x0_0=.sl tok n xs/\0<=n0_1/\n0_1 < (↑n : Int)/\(∃ x,likeCells [.i 0] [x]=true/\(List.drop 0 (List.drop (n0_1.toNat * 4) xs))[0]?=some x)/\∀ (n : Int),(List.drop 0 (List.drop (n0_1.toNat * 4) xs))[0]?=some (.i n)->((n == n1)=true->∃ tok n xs,x0_0=.sl tok n xs/\0<=n0_1/\n0_1 < (↑n : Int)/\(∃
 x,likeCells [.str k_] [x]=true/\(List.drop 1 (List.drop (n0_1.toNat * 4) xs))[0]?=some x)/\∀ (s : ByteArray),(List.drop 1 (List.drop (n0_1.toNat * 4) xs))[0]?=some (.str s)->true=true/\Q (.one (.bool (decide (s=s2)))) S)/\((n == n1)=false->true=true/\Q (.one (.bool false)) S))/\(decide (n0_1 < (↑n : Int))=false->true=true/\Q (.one (.bool false)) S))/\(decide (n0_10 <
 0)=false->true=true/\Q (.one (.bool false))
 S))
 := by intros; kernel_rfl
theorem v80 : ∀ (hk : Hk) (plans : Nat->Plan) (x0_0 : AL) (n0_1 n0_2 : Int) (b0_3 : Bool) (x0_4 x0_5 x0_6 x0_7 x0_8 x0_9 : AL) (n0_10 n0_11 : Int) (s1 : ByteArray) (S : St) (Q : AV->St->Prop),wFn true hk Tryz.prog (tabOf Tryz.prog) plans false 80 [.agg (ps x0_0 n0_1 n0_2 b0_3 x0_4 x0_5 x0_6 x0_7 x0_8 x0_9 n0_10 n0_11),.one (.str s1)] S Q=(true=true/\∃ R,hk.1 75 [.agg (ps x0_0
 n0_1 n0_2 b0_3 x0_4 x0_5 x0_6 x0_7 x0_8 x0_9 n0_10 n0_11),.one (.i 4),.one (.str s1)] S [(90,(ps x0_0 n0_1 n0_2 b0_3 x0_4 x0_5 x0_6 x0_7 x0_8 x0_9 n0_10 n0_11)),(90,ps0)] R/\∀ (b : Bool) (S1 : St),R (.one (.bool b)) S1->((!b)=true->∃ R,hk.1 110 [.agg (ps x0_0 n0_1 n0_2 b0_3 x0_4 x0_5 x0_6 x0_7 x0_8 x0_9 n0_10 n0_11)] S1 [(90,(ps x0_0 n0_1 n0_2 b0_3 x0_4 x0_5 x0_6 x0_7 x0_8 x0_9
 n0_10 n0_11)),(90,ps0)] R/\∀ (x : AL) (n n_1 : Int) (b : Bool) (x_1 x_2 x_3 x_4 x_5 x_6 : AL) (n_2 n_3 : Int) (S1 : St),R (.agg (ps x n n_1 b x_1 x_2 x_3 x_4 x_5 x_6 n_2 n_3)) S1->true=true/\Q (.agg (ps x n n_1 b x_1 x_2 x_3 x_4 x_5 x_6 n_2 n_3)) S1)/\((!b)=false->in64 (n0_1 + 1)/\true=true/\Q (.agg (ps x0_0 (n0_1 + 1) n0_2 b0_3 x0_4 x0_5 x0_6 x0_7 x0_8 x0_9 n0_10 n0_11))
 S1))
 := by intros; kernel_rfl
theorem v82 : ∀ (hk : Hk) (plans : Nat->Plan) (x0_0 : AL) (n0_1 n0_2 : Int) (b0_3 : Bool) (x0_4 x0_5 x0_6 x0_7 x0_8 x0_9 : AL) (n0_10 n0_11 : Int) (s1 : ByteArray) (S : St) (Q : AV->St->Prop),wFn true hk Tryz.prog (tabOf Tryz.prog) plans false 82 [.agg (ps x0_0 n0_1 n0_2 b0_3 x0_4 x0_5 x0_6 x0_7 x0_8 x0_9 n0_10 n0_11),.one (.str s1)] S Q=(true=true/\∃ R,hk.1 75 [.agg (ps x0_0
 n0_1 n0_2 b0_3 x0_4 x0_5 x0_6 x0_7 x0_8 x0_9 n0_10 n0_11),.one (.i 1),.one (.str s1)] S [(90,(ps x0_0 n0_1 n0_2 b0_3 x0_4 x0_5 x0_6 x0_7 x0_8 x0_9 n0_10 n0_11)),(90,ps0)] R/\∀ (b : Bool) (S1 : St),R (.one (.bool b)) S1->((!b)=true->∃ R,hk.1 110 [.agg (ps x0_0 n0_1 n0_2 b0_3 x0_4 x0_5 x0_6 x0_7 x0_8 x0_9 n0_10 n0_11)] S1 [(90,(ps x0_0 n0_1 n0_2 b0_3 x0_4 x0_5 x0_6 x0_7 x0_8 x0_9
 n0_10 n0_11)),(90,ps0)] R/\∀ (x : AL) (n n_1 : Int) (b : Bool) (x_1 x_2 x_3 x_4 x_5 x_6 : AL) (n_2 n_3 : Int) (S1 : St),R (.agg (ps x n n_1 b x_1 x_2 x_3 x_4 x_5 x_6 n_2 n_3)) S1->true=true/\Q (.agg (ps x n n_1 b x_1 x_2 x_3 x_4 x_5 x_6 n_2 n_3)) S1)/\((!b)=false->in64 (n0_1 + 1)/\true=true/\Q (.agg (ps x0_0 (n0_1 + 1) n0_2 b0_3 x0_4 x0_5 x0_6 x0_7 x0_8 x0_9 n0_10 n0_11))
 S1))
 := by intros; kernel_rfl
theorem v121 : ∀ (hk : Hk) (plans : Nat->Plan) (s0 : ByteArray) (b1 : Bool) (S : St) (Q : AV->St->Prop),wFn true hk Tryz.prog (tabOf Tryz.prog) plans false 121 [.one (.str s0),.one (.bool b1)] S Q=(true=true/\(decide (s0=ByteArray.mk #[105,109,112,111,114,116])=true->(decide (s0=ByteArray.mk #[105,109,112,111,114,116])=true->true=true/\Q (.one (.bool true)) S)/\(decide
 (s0=ByteArray.mk #[105,109,112,111,114,116])=false->(decide (s0=ByteArray.mk #[102,97,105,108])=true->(decide (s0=ByteArray.mk #[102,97,105,108])=true->true=true/\Q (.one (.bool b1)) S)/\(decide (s0=ByteArray.mk #[102,97,105,108])=false->true=true/\Q (.one (.bool false)) S))/\(decide (s0=ByteArray.mk #[102,97,105,108])=false->(decide (s0=ByteArray.mk
 #[117,110,100,101,102])=true->true=true/\Q (.one (.bool b1)) S)/\(decide (s0=ByteArray.mk #[117,110,100,101,102])=false->true=true/\Q (.one (.bool false)) S))))/\(decide (s0=ByteArray.mk #[105,109,112,111,114,116])=false->(decide (s0=ByteArray.mk #[101,120,112,111,114,116])=true->(decide (s0=ByteArray.mk #[101,120,112,111,114,116])=true->true=true/\Q (.one (.bool true))
 S)/\(decide (s0=ByteArray.mk #[101,120,112,111,114,116])=false->(decide (s0=ByteArray.mk #[102,97,105,108])=true->(decide (s0=ByteArray.mk #[102,97,105,108])=true->true=true/\Q (.one (.bool b1)) S)/\(decide (s0=ByteArray.mk #[102,97,105,108])=false->true=true/\Q (.one (.bool false)) S))/\(decide (s0=ByteArray.mk #[102,97,105,108])=false->(decide (s0=ByteArray.mk
 #[117,110,100,101,102])=true->true=true/\Q (.one (.bool b1)) S)/\(decide (s0=ByteArray.mk #[117,110,100,101,102])=false->true=true/\Q (.one (.bool false)) S))))/\(decide (s0=ByteArray.mk #[101,120,112,111,114,116])=false->(decide (s0=ByteArray.mk #[100,101,102,97,117,108,116])=true->(decide (s0=ByteArray.mk #[100,101,102,97,117,108,116])=true->true=true/\Q (.one (.bool true))
 S)/\(decide (s0=ByteArray.mk #[100,101,102,97,117,108,116])=false->(decide (s0=ByteArray.mk #[102,97,105,108])=true->(decide (s0=ByteArray.mk #[102,97,105,108])=true->true=true/\Q (.one (.bool b1)) S)/\(decide (s0=ByteArray.mk #[102,97,105,108])=false->true=true/\Q (.one (.bool false)) S))/\(decide (s0=ByteArray.mk #[102,97,105,108])=false->(decide (s0=ByteArray.mk
 #[117,110,100,101,102])=true->true=true/\Q (.one (.bool b1)) S)/\(decide (s0=ByteArray.mk #[117,110,100,101,102])=false->true=true/\Q (.one (.bool false)) S))))/\(decide (s0=ByteArray.mk #[100,101,102,97,117,108,116])=false->(decide (s0=ByteArray.mk #[108,101,116])=true->(decide (s0=ByteArray.mk #[108,101,116])=true->true=true/\Q (.one (.bool true)) S)/\(decide (s0=ByteArray.mk
 #[108,101,116])=false->(decide (s0=ByteArray.mk #[102,97,105,108])=true->(decide (s0=ByteArray.mk #[102,97,105,108])=true->true=true/\Q (.one (.bool b1)) S)/\(decide (s0=ByteArray.mk #[102,97,105,108])=false->true=true/\Q (.one (.bool false)) S))/\(decide (s0=ByteArray.mk #[102,97,105,108])=false->(decide (s0=ByteArray.mk #[117,110,100,101,102])=true->true=true/\Q (.one (.bool
 b1)) S)/\(decide (s0=ByteArray.mk #[117,110,100,101,102])=false->true=true/\Q (.one (.bool false)) S))))/\(decide (s0=ByteArray.mk #[108,101,116])=false->(decide (s0=ByteArray.mk #[102,117,110,99,116,105,111,110])=true->(decide (s0=ByteArray.mk #[102,117,110,99,116,105,111,110])=true->true=true/\Q (.one (.bool true)) S)/\(decide (s0=ByteArray.mk
 #[102,117,110,99,116,105,111,110])=false->(decide (s0=ByteArray.mk #[102,97,105,108])=true->(decide (s0=ByteArray.mk #[102,97,105,108])=true->true=true/\Q (.one (.bool b1)) S)/\(decide (s0=ByteArray.mk #[102,97,105,108])=false->true=true/\Q (.one (.bool false)) S))/\(decide (s0=ByteArray.mk #[102,97,105,108])=false->(decide (s0=ByteArray.mk
 #[117,110,100,101,102])=true->true=true/\Q (.one (.bool b1)) S)/\(decide (s0=ByteArray.mk #[117,110,100,101,102])=false->true=true/\Q (.one (.bool false)) S))))/\(decide (s0=ByteArray.mk #[102,117,110,99,116,105,111,110])=false->(decide (s0=ByteArray.mk #[114,101,116,117,114,110])=true->(decide (s0=ByteArray.mk #[114,101,116,117,114,110])=true->true=true/\Q (.one (.bool true))
 S)/\(decide (s0=ByteArray.mk #[114,101,116,117,114,110])=false->(decide (s0=ByteArray.mk #[102,97,105,108])=true->(decide (s0=ByteArray.mk #[102,97,105,108])=true->true=true/\Q (.one (.bool b1)) S)/\(decide (s0=ByteArray.mk #[102,97,105,108])=false->true=true/\Q (.one (.bool false)) S))/\(decide (s0=ByteArray.mk #[102,97,105,108])=false->(decide (s0=ByteArray.mk
 #[117,110,100,101,102])=true->true=true/\Q (.one (.bool b1)) S)/\(decide (s0=ByteArray.mk #[117,110,100,101,102])=false->true=true/\Q (.one (.bool false)) S))))/\(decide (s0=ByteArray.mk #[114,101,116,117,114,110])=false->(decide (s0=ByteArray.mk #[112,114,105,110,116])=true->(decide (s0=ByteArray.mk #[112,114,105,110,116])=true->true=true/\Q (.one (.bool true)) S)/\(decide
 (s0=ByteArray.mk #[112,114,105,110,116])=false->(decide (s0=ByteArray.mk #[102,97,105,108])=true->(decide (s0=ByteArray.mk #[102,97,105,108])=true->true=true/\Q (.one (.bool b1)) S)/\(decide (s0=ByteArray.mk #[102,97,105,108])=false->true=true/\Q (.one (.bool false)) S))/\(decide (s0=ByteArray.mk #[102,97,105,108])=false->(decide (s0=ByteArray.mk
 #[117,110,100,101,102])=true->true=true/\Q (.one (.bool b1)) S)/\(decide (s0=ByteArray.mk #[117,110,100,101,102])=false->true=true/\Q (.one (.bool false)) S))))/\(decide (s0=ByteArray.mk #[112,114,105,110,116])=false->(decide (s0=ByteArray.mk #[116,104,114,111,119])=true->true=true/\Q (.one (.bool true)) S)/\(decide (s0=ByteArray.mk #[116,104,114,111,119])=false->(decide
 (s0=ByteArray.mk #[102,97,105,108])=true->(decide (s0=ByteArray.mk #[102,97,105,108])=true->true=true/\Q (.one (.bool b1)) S)/\(decide (s0=ByteArray.mk #[102,97,105,108])=false->true=true/\Q (.one (.bool false)) S))/\(decide (s0=ByteArray.mk #[102,97,105,108])=false->(decide (s0=ByteArray.mk #[117,110,100,101,102])=true->true=true/\Q (.one (.bool b1)) S)/\(decide
 (s0=ByteArray.mk #[117,110,100,101,102])=false->true=true/\Q (.one (.bool false))
 S)))))))))))
 := by intros; kernel_rfl
theorem v108 : ∀ (hk : Hk) (plans : Nat->Plan) (x0_0 : AL) (n0_1 n0_2 : Int) (b0_3 : Bool) (x0_4 x0_5 x0_6 x0_7 x0_8 x0_9 : AL) (n0_10 n0_11 : Int) (b1 : Bool) (S : St) (Q : AV->St->Prop),wFn true hk Tryz.prog (tabOf Tryz.prog) plans false 108 [.agg (ps x0_0 n0_1 n0_2 b0_3 x0_4 x0_5 x0_6 x0_7 x0_8 x0_9 n0_10 n0_11),.one (.bool b1)] S Q=(true=true/\(decide (n0_10 ≥
 0)=true->true=true/\Q (.one (.bool false)) S)/\(decide (n0_10 ≥ 0)=false->∃ n,x0_0.len?=some n/\(decide (n0_1 ≥ (↑n : Int))=true->true=true/\Q (.one (.bool false)) S)/\(decide (n0_1 ≥ (↑n : Int))=false->∃ tok n xs,x0_0=.sl tok n xs/\0<=n0_1/\n0_1 < (↑n : Int)/\(∃ x,likeCells [.i 0] [x]=true/\(List.drop 0 (List.drop (n0_1.toNat * 4) xs))[0]?=some x)/\∀ (n : Int),(List.drop 0
 (List.drop (n0_1.toNat * 4) xs))[0]?=some (.i n)->((n != 1)=true->true=true/\Q (.one (.bool false)) S)/\((n != 1)=false->∃ tok n xs,x0_0=.sl tok n xs/\0<=n0_1/\n0_1 < (↑n : Int)/\(∃ x,likeCells [.str k_] [x]=true/\(List.drop 1 (List.drop (n0_1.toNat * 4) xs))[0]?=some x)/\∀ (s : ByteArray),(List.drop 1 (List.drop (n0_1.toNat * 4) xs))[0]?=some (.str s)->∃ R,hk.1 121 [.one (.str
 s),.one (.bool b0_3)] S [(90,(ps x0_0 n0_1 n0_2 b0_3 x0_4 x0_5 x0_6 x0_7 x0_8 x0_9 n0_10 n0_11))] R/\∀ (b : Bool) (S1 : St),R (.one (.bool b)) S1->((!b)=true->true=true/\Q (.one (.bool true)) S1)/\((!b)=false->(b1=true->true=true/\Q (.one (.bool (decide (s=ByteArray.mk #[100,101,102,97,117,108,116])))) S1)/\(b1=false->true=true/\Q (.one (.bool false))
 S1))))))
 := by intros; kernel_rfl
theorem v84 : ∀ (hk : Hk) (plans : Nat->Plan) (x0_0 : AL) (n0_1 n0_2 : Int) (b0_3 : Bool) (x0_4 x0_5 x0_6 x0_7 x0_8 x0_9 : AL) (n0_10 n0_11 : Int) (b1 : Bool) (S : St) (Q : AV->St->Prop),wFn true hk Tryz.prog (tabOf Tryz.prog) plans false 84 [.agg (ps x0_0 n0_1 n0_2 b0_3 x0_4 x0_5 x0_6 x0_7 x0_8 x0_9 n0_10 n0_11),.one (.bool b1)] S Q=(true=true/\∃ R,hk.1 108 [.agg (ps x0_0 n0_1
 n0_2 b0_3 x0_4 x0_5 x0_6 x0_7 x0_8 x0_9 n0_10 n0_11),.one (.bool b1)] S [(90,(ps x0_0 n0_1 n0_2 b0_3 x0_4 x0_5 x0_6 x0_7 x0_8 x0_9 n0_10 n0_11)),(90,ps0)] R/\∀ (b : Bool) (S1 : St),R (.one (.bool b)) S1->((!b)=true->∃ R,hk.1 110 [.agg (ps x0_0 n0_1 n0_2 b0_3 x0_4 x0_5 x0_6 x0_7 x0_8 x0_9 n0_10 n0_11)] S1 [(90,(ps x0_0 n0_1 n0_2 b0_3 x0_4 x0_5 x0_6 x0_7 x0_8 x0_9 n0_10
 n0_11)),(90,ps0)] R/\∀ (x : AL) (n n_1 : Int) (b : Bool) (x_1 x_2 x_3 x_4 x_5 x_6 : AL) (n_2 n_3 : Int) (S1 : St),R (.agg (ps x n n_1 b x_1 x_2 x_3 x_4 x_5 x_6 n_2 n_3)) S1->true=true/\Q (.tup [.agg (ps x n n_1 b x_1 x_2 x_3 x_4 x_5 x_6 n_2 n_3),.one (.str k_)]) S1)/\((!b)=false->∃ tok n xs,x0_0=.sl tok n xs/\0<=n0_1/\n0_1 < (↑n : Int)/\(∃ x,likeCells [.str k_]
 [x]=true/\(List.drop 1 (List.drop (n0_1.toNat * 4) xs))[0]?=some x)/\∀ (s : ByteArray),(List.drop 1 (List.drop (n0_1.toNat * 4) xs))[0]?=some (.str s)->in64 (n0_1 + 1)/\true=true/\Q (.tup [.agg (ps x0_0 (n0_1 + 1) n0_2 b0_3 x0_4 x0_5 x0_6 x0_7 x0_8 x0_9 n0_10 n0_11),.one (.str s)])
 S1))
 := by intros; kernel_rfl
theorem v106 : ∀ (hk : Hk) (plans : Nat->Plan) (x0_0 : AL) (n0_1 n0_2 : Int) (b0_3 : Bool) (x0_4 x0_5 x0_6 x0_7 x0_8 x0_9 : AL) (n0_10 n0_11 : Int) (S : St) (Q : AV->St->Prop),wFn true hk Tryz.prog (tabOf Tryz.prog) plans false 106 [.agg (ps x0_0 n0_1 n0_2 b0_3 x0_4 x0_5 x0_6 x0_7 x0_8 x0_9 n0_10 n0_11)] S Q=(true=true/\(decide (n0_10 ≥ 0)=true->∃ R,hk.1 110 [.agg (ps x0_0 n0_1
 n0_2 b0_3 x0_4 x0_5 x0_6 x0_7 x0_8 x0_9 n0_10 n0_11)] S [(90,(ps x0_0 n0_1 n0_2 b0_3 x0_4 x0_5 x0_6 x0_7 x0_8 x0_9 n0_10 n0_11)),(90,ps0)] R/\∀ (x : AL) (n n_1 : Int) (b : Bool) (x_1 x_2 x_3 x_4 x_5 x_6 : AL) (n_2 n_3 : Int) (S1 : St),R (.agg (ps x n n_1 b x_1 x_2 x_3 x_4 x_5 x_6 n_2 n_3)) S1->true=true/\Q (.tup [.agg (ps x n n_1 b x_1 x_2 x_3 x_4 x_5 x_6 n_2 n_3),.one (.str
 k_)]) S1)/\(decide (n0_10 ≥ 0)=false->∃ n,x0_0.len?=some n/\(decide (n0_1 ≥ (↑n : Int))=true->∃ R,hk.1 110 [.agg (ps x0_0 n0_1 n0_2 b0_3 x0_4 x0_5 x0_6 x0_7 x0_8 x0_9 n0_10 n0_11)] S [(90,(ps x0_0 n0_1 n0_2 b0_3 x0_4 x0_5 x0_6 x0_7 x0_8 x0_9 n0_10 n0_11)),(90,ps0)] R/\∀ (x : AL) (n n_1 : Int) (b : Bool) (x_1 x_2 x_3 x_4 x_5 x_6 : AL) (n_2 n_3 : Int) (S1 : St),R (.agg (ps x n
 n_1 b x_1 x_2 x_3 x_4 x_5 x_6 n_2 n_3)) S1->true=true/\Q (.tup [.agg (ps x n n_1 b x_1 x_2 x_3 x_4 x_5 x_6 n_2 n_3),.one (.str k_)]) S1)/\(decide (n0_1 ≥ (↑n : Int))=false->∃ tok n_1 xs,x0_0=.sl tok n_1 xs/\0<=n0_1/\n0_1 < (↑n_1 : Int)/\(∃ x,likeCells [.i 0] [x]=true/\(List.drop 0 (List.drop (n0_1.toNat * 4) xs))[0]?=some x)/\∀ (n_2 : Int),(List.drop 0 (List.drop (n0_1.toNat *
 4) xs))[0]?=some (.i n_2)->((n_2 != 3)=true->∃ R,hk.1 110 [.agg (ps x0_0 n0_1 n0_2 b0_3 x0_4 x0_5 x0_6 x0_7 x0_8 x0_9 n0_10 n0_11)] S [(90,(ps x0_0 n0_1 n0_2 b0_3 x0_4 x0_5 x0_6 x0_7 x0_8 x0_9 n0_10 n0_11)),(90,ps0)] R/\∀ (x : AL) (n n_3 : Int) (b : Bool) (x_1 x_2 x_3 x_4 x_5 x_6 : AL) (n_4 n_5 : Int) (S1 : St),R (.agg (ps x n n_3 b x_1 x_2 x_3 x_4 x_5 x_6 n_4 n_5))
 S1->true=true/\Q (.tup [.agg (ps x n n_3 b x_1 x_2 x_3 x_4 x_5 x_6 n_4 n_5),.one (.str k_)]) S1)/\((n_2 != 3)=false->∃ tok n_3 xs_1,x0_0=.sl tok n_3 xs_1/\0<=n0_1/\n0_1 < (↑n_3 : Int)/\(∃ x,likeCells [.str k_] [x]=true/\(List.drop 1 (List.drop (n0_1.toNat * 4) xs_1))[0]?=some x)/\∀ (s : ByteArray),(List.drop 1 (List.drop (n0_1.toNat * 4) xs_1))[0]?=some (.str s)->in64 (n0_1 +
 1)/\hk.2 75 (codeOf Tryz.prog 106 [1,1,1,1,0,1,0,0]) [.blk 0,.seq (codeOf Tryz.prog 106 [1,1,1,1,1])] (wEnd (tabOf Tryz.prog) Tryz.f106 false S.boxes.length Q) [(5,.v (.one (.i 0))),(39,.loc 0 1),(38,.v (.one (.i (n0_1 + 1)))),(37,.v (.one (.i n0_1))),(36,.loc 0 1),(4,.v (.one (.str s))),(35,.v (.one (.str s))),(34,.v (AV.el (List.drop 1 (List.drop (n0_1.toNat * 4)
 xs_1)))),(33,.v (AV.el (List.drop (n0_1.toNat * 4) xs_1))),(32,.v (.one (.i n0_1))),(31,.loc 0 1),(30,.v (.one x0_0)),(29,.loc 0 0),(26,.v (.one (.bool (n_2 != 3)))),(25,.v (.one (.bool (n_2 != 3)))),(24,.v (.one (.i n_2))),(23,.v (AV.el (List.drop 0 (List.drop (n0_1.toNat * 4) xs)))),(22,.v (AV.el (List.drop (n0_1.toNat * 4) xs))),(21,.v (.one (.i n0_1))),(20,.loc 0 1),(19,.v
 (.one x0_0)),(18,.loc 0 0),(17,.kb false),(16,.v (.one (.bool (decide (n0_1 ≥ (↑n : Int)))))),(15,.v (.one (.bool (decide (n0_1 ≥ (↑n : Int)))))),(14,.v (.one (.i (↑n : Int)))),(13,.v (.one x0_0)),(12,.loc 0 0),(11,.v (.one (.i n0_1))),(10,.loc 0 1),(9,.kb false),(8,.v (.one (.bool (decide (n0_10 ≥ 0))))),(7,.v (.one (.i n0_10))),(6,.loc 0 10),(3,.v (.one (.str k_))),(2,.loc 1
 0),(1,.loc 0 0),(0,.v (.agg (ps x0_0 n0_1 n0_2 b0_3 x0_4 x0_5 x0_6 x0_7 x0_8 x0_9 n0_10 n0_11)))] S [(90,(ps x0_0 (n0_1 + 1) n0_2 b0_3 x0_4 x0_5 x0_6 x0_7 x0_8 x0_9 n0_10
 n0_11)),(90,ps0)]))))
 := by intros; kernel_rfl
theorem b106_0 : ∀ (hk : Hk) (plans : Nat->Plan) (s : ByteArray) (n5 : Int) (s3 : ByteArray) (xL0_0 : AL) (nL0_1 nL0_2 : Int) (bL0_3 : Bool) (xL0_4 xL0_5 xL0_6 xL0_7 xL0_8 xL0_9 : AL) (nL0_10 nL0_11 : Int) (xL1_0 : AL) (nL1_1 nL1_2 : Int) (bL1_3 : Bool) (xL1_4 xL1_5 xL1_6 xL1_7 xL1_8 xL1_9 : AL) (nL1_10 nL1_11 : Int) (S : St) (K : QW),wCode true hk Tryz.prog (tabOf Tryz.prog)
 75 plans 1000 (codeOf Tryz.prog 106 [1,1,1,1,0,1,0,0]) [] (fun e env S L => K e (restr [5,4,3,2,1] env) S L) [(5,.v (.one (.i n5))),(4,.v (.one (.str s))),(3,.v (.one (.str s3))),(2,.loc 1 0),(1,.loc 0 0)] S [(90,(ps xL0_0 nL0_1 nL0_2 bL0_3 xL0_4 xL0_5 xL0_6 xL0_7 xL0_8 xL0_9 nL0_10 nL0_11)),(90,(ps xL1_0 nL1_1 nL1_2 bL1_3 xL1_4 xL1_5 xL1_6 xL1_7 xL1_8 xL1_9 nL1_10 nL1_11))]=∃
 n,xL0_4.len?=some n/\(decide (n5 < (↑n : Int))=true->∃ tok n xs,xL0_4=.sl tok n xs/\0<=n5/\n5 < (↑n : Int)/\(∃ x,likeCells [.str k_] [x]=true/\(List.drop (n5.toNat * 1) xs)[0]?=some x)/\∀ (s_1 : ByteArray),(List.drop (n5.toNat * 1) xs)[0]?=some (.str s_1)->(decide (s_1=s)=true->K .ret [(5,.v (.one (.i n5))),(4,.v (.one (.str s))),(3,.v (.one (.str s))),(2,.loc 1 0),(1,.loc 0
 0)] S [(90,(ps xL0_0 nL0_1 nL0_2 bL0_3 xL0_4 xL0_5 xL0_6 xL0_7 xL0_8 xL0_9 nL0_10 nL0_11)),(90,(ps xL0_0 nL0_1 nL0_2 bL0_3 xL0_4 xL0_5 xL0_6 xL0_7 xL0_8 xL0_9 nL0_10 nL0_11))])/\(decide (s_1=s)=false->in64 (n5 + 1)/\K .normal [(5,.v (.one (.i (n5 + 1)))),(4,.v (.one (.str s))),(3,.v (.one (.str s3))),(2,.loc 1 0),(1,.loc 0 0)] S [(90,(ps xL0_0 nL0_1 nL0_2 bL0_3 xL0_4 xL0_5
 xL0_6 xL0_7 xL0_8 xL0_9 nL0_10 nL0_11)),(90,(ps xL1_0 nL1_1 nL1_2 bL1_3 xL1_4 xL1_5 xL1_6 xL1_7 xL1_8 xL1_9 nL1_10 nL1_11))]))/\(decide (n5 < (↑n : Int))=false->K (.exit 0) [(5,.v (.one (.i n5))),(4,.v (.one (.str s))),(3,.v (.one (.str s3))),(2,.loc 1 0),(1,.loc 0 0)] S [(90,(ps xL0_0 nL0_1 nL0_2 bL0_3 xL0_4 xL0_5 xL0_6 xL0_7 xL0_8 xL0_9 nL0_10 nL0_11)),(90,(ps xL1_0 nL1_1
 nL1_2 bL1_3 xL1_4 xL1_5 xL1_6 xL1_7 xL1_8 xL1_9 nL1_10
 nL1_11))])
 := by intros; kernel_rfl
theorem x106_0 : ∀ (hk : Hk) (plans : Nat->Plan) (S : St) (Q : AV->St->Prop) (s : ByteArray) (n5 : Int) (s3 : ByteArray) (xL0_0 : AL) (nL0_1 nL0_2 : Int) (bL0_3 : Bool) (xL0_4 xL0_5 xL0_6 xL0_7 xL0_8 xL0_9 : AL) (nL0_10 nL0_11 : Int) (xL1_0 : AL) (nL1_1 nL1_2 : Int) (bL1_3 : Bool) (xL1_4 xL1_5 xL1_6 xL1_7 xL1_8 xL1_9 : AL) (nL1_10 nL1_11 : Int) (S_1 : St),wCode.wEx true hk
 Tryz.prog (tabOf Tryz.prog) 75 plans 1000 (.exit 0) [.blk 0,.seq (codeOf Tryz.prog 106 [1,1,1,1,1])] (wEnd (tabOf Tryz.prog) Tryz.f106 false S.boxes.length Q) [(5,.v (.one (.i n5))),(4,.v (.one (.str s))),(3,.v (.one (.str s3))),(2,.loc 1 0),(1,.loc 0 0)] S_1 [(90,(ps xL0_0 nL0_1 nL0_2 bL0_3 xL0_4 xL0_5 xL0_6 xL0_7 xL0_8 xL0_9 nL0_10 nL0_11)),(90,(ps xL1_0 nL1_1 nL1_2 bL1_3
 xL1_4 xL1_5 xL1_6 xL1_7 xL1_8 xL1_9 nL1_10 nL1_11))]=∃ n,xL0_4.len?=some n/\(decide ((↑n : Int) ≥ 40)=true->∃ R,hk.1 113 [.agg (ps xL0_0 nL0_1 nL0_2 bL0_3 xL0_4 xL0_5 xL0_6 xL0_7 xL0_8 xL0_9 nL0_10 nL0_11)] S_1 [(90,(ps xL0_0 nL0_1 nL0_2 bL0_3 xL0_4 xL0_5 xL0_6 xL0_7 xL0_8 xL0_9 nL0_10 nL0_11)),(90,(ps xL1_0 nL1_1 nL1_2 bL1_3 xL1_4 xL1_5 xL1_6 xL1_7 xL1_8 xL1_9 nL1_10 nL1_11))]
 R/\∀ (x : AL) (n n_1 : Int) (b : Bool) (x_1 x_2 x_3 x_4 x_5 x_6 : AL) (n_2 n_3 : Int) (S1 : St),R (.agg (ps x n n_1 b x_1 x_2 x_3 x_4 x_5 x_6 n_2 n_3)) S1->true=true/\Q (.tup [.agg (ps x n n_1 b x_1 x_2 x_3 x_4 x_5 x_6 n_2 n_3),.one (.str k_)]) S1)/\(decide ((↑n : Int) ≥ 40)=false->24=24/\∃ r S',dAppend2 (tabOf Tryz.prog) 24 xL0_4 (.sl (some S_1.toks.length) 1 [.str s])
 (S_1.born (1,9,1))=some (r,S')/\true=true/\Q (.tup [.agg (ps xL0_0 nL0_1 nL0_2 bL0_3 r xL0_5 xL0_6 xL0_7 xL0_8 xL0_9 nL0_10 nL0_11),.one (.str s)])
 S')
 := by intros; kernel_rfl
theorem v107 : ∀ (hk : Hk) (plans : Nat->Plan) (x0_0 : AL) (n0_1 n0_2 : Int) (b0_3 : Bool) (x0_4 x0_5 x0_6 x0_7 x0_8 x0_9 : AL) (n0_10 n0_11 : Int) (s1_0 s1_1 s1_2 : ByteArray) (S : St) (Q : AV->St->Prop),wFn true hk Tryz.prog (tabOf Tryz.prog) plans false 107 [.agg (ps x0_0 n0_1 n0_2 b0_3 x0_4 x0_5 x0_6 x0_7 x0_8 x0_9 n0_10 n0_11),.agg [.str s1_0,.str s1_1,.str s1_2]] S
 Q=(true=true/\(decide (n0_10 ≥ 0)=true->true=true/\Q (.agg (ps x0_0 n0_1 n0_2 b0_3 x0_4 x0_5 x0_6 x0_7 x0_8 x0_9 n0_10 n0_11)) S)/\(decide (n0_10 ≥ 0)=false->∃ n,x0_5.len?=some n/\(decide ((↑n : Int) ≥ 40)=true->∃ R,hk.1 113 [.agg (ps x0_0 n0_1 n0_2 b0_3 x0_4 x0_5 x0_6 x0_7 x0_8 x0_9 n0_10 n0_11)] S [(90,(ps x0_0 n0_1 n0_2 b0_3 x0_4 x0_5 x0_6 x0_7 x0_8 x0_9 n0_10
 n0_11)),(48,[.str s1_0,.str s1_1,.str s1_2]),(90,ps0)] R/\∀ (x : AL) (n n_1 : Int) (b : Bool) (x_1 x_2 x_3 x_4 x_5 x_6 : AL) (n_2 n_3 : Int) (S1 : St),R (.agg (ps x n n_1 b x_1 x_2 x_3 x_4 x_5 x_6 n_2 n_3)) S1->true=true/\Q (.agg (ps x n n_1 b x_1 x_2 x_3 x_4 x_5 x_6 n_2 n_3)) S1)/\(decide ((↑n : Int) ≥ 40)=false->25=25/\∃ r S',dAppend2 (tabOf Tryz.prog) 25 x0_5 (.sl (some
 S.toks.length) 1 [.str s1_0,.str s1_1,.str s1_2]) (S.born (3,48,3))=some (r,S')/\true=true/\Q (.agg (ps x0_0 n0_1 n0_2 b0_3 x0_4 r x0_6 x0_7 x0_8 x0_9 n0_10 n0_11))
 S')))
 := by intros; kernel_rfl
theorem v109 : ∀ (hk : Hk) (plans : Nat->Plan) (x0_0 : AL) (n0_1 n0_2 : Int) (b0_3 : Bool) (x0_4 x0_5 x0_6 x0_7 x0_8 x0_9 : AL) (n0_10 n0_11 n1_0 : Int) (s1_1 s1_2 s1_3 : ByteArray) (S : St) (Q : AV->St->Prop),wFn true hk Tryz.prog (tabOf Tryz.prog) plans false 109 [.agg (ps x0_0 n0_1 n0_2 b0_3 x0_4 x0_5 x0_6 x0_7 x0_8 x0_9 n0_10 n0_11),.agg [.i n1_0,.str s1_1,.str s1_2,.str
 s1_3]] S Q=(true=true/\(decide (n0_10 ≥ 0)=true->true=true/\Q (.agg (ps x0_0 n0_1 n0_2 b0_3 x0_4 x0_5 x0_6 x0_7 x0_8 x0_9 n0_10 n0_11)) S)/\(decide (n0_10 ≥ 0)=false->∃ n,x0_6.len?=some n/\∃ n_1,x0_9.len?=some n_1/\in64 ((↑n : Int) + (↑n_1 : Int))/\(decide ((↑n : Int) + (↑n_1 : Int) ≥ 40)=true->∃ R,hk.1 113 [.agg (ps x0_0 n0_1 n0_2 b0_3 x0_4 x0_5 x0_6 x0_7 x0_8 x0_9 n0_10
 n0_11)] S [(90,(ps x0_0 n0_1 n0_2 b0_3 x0_4 x0_5 x0_6 x0_7 x0_8 x0_9 n0_10 n0_11)),(72,[.i n1_0,.str s1_1,.str s1_2,.str s1_3]),(90,ps0)] R/\∀ (x : AL) (n n_2 : Int) (b : Bool) (x_1 x_2 x_3 x_4 x_5 x_6 : AL) (n_3 n_4 : Int) (S1 : St),R (.agg (ps x n n_2 b x_1 x_2 x_3 x_4 x_5 x_6 n_3 n_4)) S1->true=true/\Q (.agg (ps x n n_2 b x_1 x_2 x_3 x_4 x_5 x_6 n_3 n_4)) S1)/\(decide ((↑n :
 Int) + (↑n_1 : Int) ≥ 40)=false->(decide (s1_2=ByteArray.mk #[42,100,101,102,97,117,108,116])=true->26=26/\∃ r S',dAppend2 (tabOf Tryz.prog) 26 x0_9 (.sl (some S.toks.length) 1 [.i n1_0,.str s1_1,.str s1_2,.str s1_3]) (S.born (4,72,4))=some (r,S')/\true=true/\Q (.agg (ps x0_0 n0_1 n0_2 b0_3 x0_4 x0_5 x0_6 x0_7 x0_8 r n0_10 n0_11)) S')/\(decide (s1_2=ByteArray.mk
 #[42,100,101,102,97,117,108,116])=false->26=26/\∃ r S',dAppend2 (tabOf Tryz.prog) 26 x0_6 (.sl (some S.toks.length) 1 [.i n1_0,.str s1_1,.str s1_2,.str s1_3]) (S.born (4,72,4))=some (r,S')/\true=true/\Q (.agg (ps x0_0 n0_1 n0_2 b0_3 x0_4 x0_5 r x0_7 x0_8 x0_9 n0_10 n0_11))
 S'))))
 := by intros; kernel_rfl
theorem v112 : ∀ (hk : Hk) (plans : Nat->Plan) (x0_0 : AL) (n0_1 n0_2 : Int) (b0_3 : Bool) (x0_4 x0_5 x0_6 x0_7 x0_8 x0_9 : AL) (n0_10 n0_11 n1_0 n1_1 : Int) (s1_2 s1_3 : ByteArray) (n1_4 n1_5 : Int) (S : St) (Q : AV->St->Prop),wFn true hk Tryz.prog (tabOf Tryz.prog) plans false 112 [.agg (ps x0_0 n0_1 n0_2 b0_3 x0_4 x0_5 x0_6 x0_7 x0_8 x0_9 n0_10 n0_11),.agg [.i n1_0,.i
 n1_1,.str s1_2,.str s1_3,.i n1_4,.i n1_5]] S Q=(true=true/\(decide (n0_10 ≥ 0)=true->true=true/\Q (.agg (ps x0_0 n0_1 n0_2 b0_3 x0_4 x0_5 x0_6 x0_7 x0_8 x0_9 n0_10 n0_11)) S)/\(decide (n0_10 ≥ 0)=false->∃ n,x0_8.len?=some n/\(decide ((↑n : Int) ≥ 300)=true->∃ R,hk.1 113 [.agg (ps x0_0 n0_1 n0_2 b0_3 x0_4 x0_5 x0_6 x0_7 x0_8 x0_9 n0_10 n0_11)] S [(90,(ps x0_0 n0_1 n0_2 b0_3 x0_4
 x0_5 x0_6 x0_7 x0_8 x0_9 n0_10 n0_11)),(59,[.i n1_0,.i n1_1,.str s1_2,.str s1_3,.i n1_4,.i n1_5]),(90,ps0)] R/\∀ (x : AL) (n n_1 : Int) (b : Bool) (x_1 x_2 x_3 x_4 x_5 x_6 : AL) (n_2 n_3 : Int) (S1 : St),R (.agg (ps x n n_1 b x_1 x_2 x_3 x_4 x_5 x_6 n_2 n_3)) S1->true=true/\Q (.agg (ps x n n_1 b x_1 x_2 x_3 x_4 x_5 x_6 n_2 n_3)) S1)/\(decide ((↑n : Int) ≥ 300)=false->28=28/\∃ r
 S',dAppend2 (tabOf Tryz.prog) 28 x0_8 (.sl (some S.toks.length) 1 [.i n1_0,.i n1_1,.str s1_2,.str s1_3,.i n1_4,.i n1_5]) (S.born (6,59,6))=some (r,S')/\true=true/\Q (.agg (ps x0_0 n0_1 n0_2 b0_3 x0_4 x0_5 x0_6 x0_7 r x0_9 n0_10 n0_11))
 S')))
 := by intros; kernel_rfl
theorem v83 : ∀ (hk : Hk) (plans : Nat->Plan) (x0_0 : AL) (n0_1 n0_2 : Int) (b0_3 : Bool) (x0_4 x0_5 x0_6 x0_7 x0_8 x0_9 : AL) (n0_10 n0_11 n1 : Int) (s2 : ByteArray) (S : St) (Q : AV->St->Prop),wFn true hk Tryz.prog (tabOf Tryz.prog) plans false 83 [.agg (ps x0_0 n0_1 n0_2 b0_3 x0_4 x0_5 x0_6 x0_7 x0_8 x0_9 n0_10 n0_11),.one (.i n1),.one (.str s2)] S Q=(true=true/\(decide
 (n0_10 ≥ 0)=true->true=true/\Q (.agg (ps x0_0 n0_1 n0_2 b0_3 x0_4 x0_5 x0_6 x0_7 x0_8 x0_9 n0_10 n0_11)) S)/\(decide (n0_10 ≥ 0)=false->∃ n,x0_7.len?=some n/\(decide ((↑n : Int) ≥ 80)=true->∃ R,hk.1 113 [.agg (ps x0_0 n0_1 n0_2 b0_3 x0_4 x0_5 x0_6 x0_7 x0_8 x0_9 n0_10 n0_11)] S [(90,(ps x0_0 n0_1 n0_2 b0_3 x0_4 x0_5 x0_6 x0_7 x0_8 x0_9 n0_10 n0_11)),(90,ps0)] R/\∀ (x : AL) (n
 n_1 : Int) (b : Bool) (x_1 x_2 x_3 x_4 x_5 x_6 : AL) (n_2 n_3 : Int) (S1 : St),R (.agg (ps x n n_1 b x_1 x_2 x_3 x_4 x_5 x_6 n_2 n_3)) S1->true=true/\Q (.agg (ps x n n_1 b x_1 x_2 x_3 x_4 x_5 x_6 n_2 n_3)) S1)/\(decide ((↑n : Int) ≥ 80)=false->∃ n,x0_8.len?=some n/\in64 ((↑n : Int) - 1)/\27=27/\∃ r S',dAppend2 (tabOf Tryz.prog) 27 x0_7 (.sl (some S.toks.length) 1 [.i n1,.str
 s2,.i ((↑n : Int) - 1)]) (S.born (3,46,3))=some (r,S')/\true=true/\Q (.agg (ps x0_0 n0_1 n0_2 b0_3 x0_4 x0_5 x0_6 r x0_8 x0_9 n0_10 n0_11))
 S')))
 := by intros; kernel_rfl
theorem v129 : ∀ (hk : Hk) (plans : Nat->Plan) (x0_0 : AL) (n0_1 n0_2 : Int) (b0_3 : Bool) (x0_4 x0_5 x0_6 x0_7 x0_8 x0_9 : AL) (n0_10 n0_11 : Int) (s1 : ByteArray) (S : St) (Q : AV->St->Prop),wFn true hk Tryz.prog (tabOf Tryz.prog) plans false 129 [.agg (ps x0_0 n0_1 n0_2 b0_3 x0_4 x0_5 x0_6 x0_7 x0_8 x0_9 n0_10 n0_11),.one (.str s1)] S Q=(true=true/\∃ R,hk.1 75 [.agg (ps x0_0
 n0_1 n0_2 b0_3 x0_4 x0_5 x0_6 x0_7 x0_8 x0_9 n0_10 n0_11),.one (.i 4),.one (.str k1)] S [(90,(ps x0_0 n0_1 n0_2 b0_3 x0_4 x0_5 x0_6 x0_7 x0_8 x0_9 n0_10 n0_11)),(90,ps0)] R/\∀ (b : Bool) (S1 : St),R (.one (.bool b)) S1->(b=true->∃ R,hk.1 80 [.agg (ps x0_0 n0_1 n0_2 b0_3 x0_4 x0_5 x0_6 x0_7 x0_8 x0_9 n0_10 n0_11),.one (.str k1)] S1 [(90,(ps x0_0 n0_1 n0_2 b0_3 x0_4 x0_5 x0_6
 x0_7 x0_8 x0_9 n0_10 n0_11)),(90,ps0)] R/\∀ (x : AL) (n n_1 : Int) (b : Bool) (x_1 x_2 x_3 x_4 x_5 x_6 : AL) (n_2 n_3 : Int) (S1 : St),R (.agg (ps x n n_1 b x_1 x_2 x_3 x_4 x_5 x_6 n_2 n_3)) S1->∃ R,hk.1 80 [.agg (ps x n n_1 b x_1 x_2 x_3 x_4 x_5 x_6 n_2 n_3),.one (.str k2)] S1 [(90,(ps x0_0 n0_1 n0_2 b0_3 x0_4 x0_5 x0_6 x0_7 x0_8 x0_9 n0_10 n0_11)),(90,ps0)] R/\∀ (x : AL) (n
 n_4 : Int) (b : Bool) (x_7 x_8 x_9 x_10 x_11 x_12 : AL) (n_5 n_6 : Int) (S1 : St),R (.agg (ps x n n_4 b x_7 x_8 x_9 x_10 x_11 x_12 n_5 n_6)) S1->∃ R,hk.1 112 [.agg (ps x n n_4 b x_7 x_8 x_9 x_10 x_11 x_12 n_5 n_6),.agg [.i 3,.i 0,.str s1,.str k_,.i 0,.i 0]] S1 [(90,(ps x n n_4 b x_7 x_8 x_9 x_10 x_11 x_12 n_5 n_6)),(90,ps0)] R/\∀ (x : AL) (n n_7 : Int) (b : Bool) (x_13 x_14
 x_15 x_16 x_17 x_18 : AL) (n_8 n_9 : Int) (S1 : St),R (.agg (ps x n n_7 b x_13 x_14 x_15 x_16 x_17 x_18 n_8 n_9)) S1->true=true/\Q (.agg (ps x n n_7 b x_13 x_14 x_15 x_16 x_17 x_18 n_8 n_9)) S1)/\(b=false->∃ R,hk.1 112 [.agg (ps x0_0 n0_1 n0_2 b0_3 x0_4 x0_5 x0_6 x0_7 x0_8 x0_9 n0_10 n0_11),.agg [.i 2,.i 0,.str s1,.str k_,.i 0,.i 0]] S1 [(90,(ps x0_0 n0_1 n0_2 b0_3 x0_4 x0_5
 x0_6 x0_7 x0_8 x0_9 n0_10 n0_11)),(90,ps0)] R/\∀ (x : AL) (n n_1 : Int) (b : Bool) (x_1 x_2 x_3 x_4 x_5 x_6 : AL) (n_2 n_3 : Int) (S1 : St),R (.agg (ps x n n_1 b x_1 x_2 x_3 x_4 x_5 x_6 n_2 n_3)) S1->true=true/\Q (.agg (ps x n n_1 b x_1 x_2 x_3 x_4 x_5 x_6 n_2 n_3))
 S1))
 := by intros; kernel_rfl
end Go.Proofs.YtkdickfiifpblaaGreatDoor.D
namespace Go.Proofs.YtkdickfiifpblaaGreatDoor.D
open Go Go.Den Go.Proofs
variable {w0 : World}
theorem tk_get (l : List Tk) (i : Int) (h0 : 0 ≤ i) (h1 : i < l.length) : ∃ t, l[i.toNat]? = some t ∧ t ∈ l ∧
    (List.drop 0 (List.drop (i.toNat * 4) (tkCells l)))[0]? = some (.int .i64 t.k) ∧ (List.drop 1 (List.drop (i.toNat * 4) (tkCells l)))[0]? = some (.str t.t) ∧
    (List.drop 2 (List.drop (i.toNat * 4) (tkCells l)))[0]? = some (.int .i64 t.n) ∧ (List.drop 3 (List.drop (i.toNat * 4) (tkCells l)))[0]? = some (.int .i64 t.a) := by
  have hl : i.toNat < l.length := by omega
  have hg := List.getElem?_eq_getElem hl
  have key := fun j hj => flat_get Tk.cells 4 (fun _ => rfl) l i.toNat j _ hg hj
  exact ⟨_, hg, List.getElem_mem hl, key 0 (by omega), key 1 (by omega), key 2 (by omega), key 3 (by omega)⟩
def rHere (B : Nat) (v : AV) : Prop := ∃ n : Int, v = int n ∧ 0 ≤ n ∧ n ≤ B
theorem l4Here_ok (B : Nat) (p : PS) (h : PF B p) : CON w0 122 [p.av] (rHere B) := by
  refine Con.of_fn (plans := np) hT hmo (nov := true) (fun v hv => by obtain ⟨e, rfl, _⟩ := hv; exact ⟨Tryz.f122, [int e], by kernel_rfl, rfl, by kernel_rfl⟩) (fun S => ?_)
  rw [v122]
  refine ⟨rfl, _, rfl, fun hlt => ?_, fun _ => ⟨rfl, Ext.refl S, _, rfl, h.en0, h.en1⟩⟩
  have hlt := of_decide_eq_true hlt
  obtain ⟨t, _, ht, _, _, _, h3⟩ := tk_get p.toks p.at_ h.at0 hlt
  refine ⟨_, _, _, rfl, h.at0, hlt, ⟨_, rfl, h3⟩, fun n hn => ?_⟩
  rw [h3] at hn
  cases hn
  exact ⟨rfl, Ext.refl S, _, rfl, (h.tk t ht).2.1, (h.tk t ht).2.2.1⟩
def Bad (p q : PS) : Prop := ∃ b, 0 ≤ b ∧ q = { p with bad := b }
theorem Bad.pf {B : Nat} {p q : PS} (h : PF B p) (k : Bad p q) : PF B q := by
  obtain ⟨b, hb, rfl⟩ := k
  exact ⟨h.tk, h.ln, h.at0, h.at1, h.en0, h.en1, by show -1 ≤ b; omega, h.dp0, h.dp1, h.bi, h.bs, h.bx⟩
theorem Bad.pr {S : St} {p q : PS} (h : PR S p) (k : Bad p q) : PR S q := by
  obtain ⟨b, hb, rfl⟩ := k
  exact h.at p.at_ b p.deep
def rFail (p : PS) (v : AV) : Prop := ∃ q : PS, v = q.av ∧ Bad p q
theorem l4Fail_ok (B : Nat) (p : PS) (h : PF B p) : CON w0 110 [p.av] (rFail p) := by
  refine Con.of_fn (plans := np) hT hmo (nov := true) (fun v hv => by obtain ⟨q, rfl, _⟩ := hv; exact ⟨Tryz.f110, [q.av], by kernel_rfl, rfl, by kernel_rfl⟩) (fun S => ?_)
  rw [v110]
  refine ⟨rfl, fun _ => ⟨_, (l4Here_ok B p h).use S _, fun n S1 ⟨hE, n', hn, h0, h1⟩ => ?_⟩, fun hb => ⟨rfl, Ext.refl S, p, rfl, p.bad, by have := of_decide_eq_false hb; omega, rfl⟩⟩
  cases hn
  exact ⟨rfl, hE, { p with bad := n }, rfl, n, h0, rfl⟩
theorem l4Full_ok (B : Nat) (p : PS) (h : PF B p) (ha : p.bad < 0 → 1 ≤ p.at_) : CON w0 113 [p.av] (rFail p) := by
  refine Con.of_fn (plans := np) hT hmo (nov := true) (fun v hv => by obtain ⟨q, rfl, _⟩ := hv; exact ⟨Tryz.f113, [q.av], by kernel_rfl, rfl, by kernel_rfl⟩) (fun S => ?_)
  rw [v113]
  have h0 := h.at0
  have h1 := h.at1
  have h2 := h.ln
  refine ⟨rfl, fun hb => ?_, fun hb => ⟨rfl, Ext.refl S, p, rfl, p.bad, by have := of_decide_eq_false hb; omega, rfl⟩⟩
  have ha := ha (of_decide_eq_true hb)
  obtain ⟨t, _, ht, _, _, _, h3⟩ := tk_get p.toks (p.at_ - 1) (by omega) (by omega)
  refine ⟨by unfold in64; omega, _, _, _, rfl, by omega, by omega, ⟨_, rfl, h3⟩, fun n hn => ?_⟩
  rw [h3] at hn
  cases hn
  exact ⟨rfl, Ext.refl S, { p with bad := t.a }, rfl, t.a, (h.tk t ht).2.1, rfl⟩
def NextIs (p : PS) (k : Int) (s : ByteArray) : Prop := p.bad < 0 ∧ p.at_ < p.toks.length ∧ ∃ t, t ∈ p.toks ∧ t.k = k ∧ t.t = s
def rIs (p : PS) (k : Int) (s : ByteArray) (v : AV) : Prop := ∃ b, v = bool b ∧ (b = true → NextIs p k s)
theorem l4Is_ok (B : Nat) (p : PS) (h : PF B p) (k : Int) (s : ByteArray) : CON w0 75 [p.av, int k, str s] (rIs p k s) := by
  refine Con.of_fn (plans := np) hT hmo (nov := true) (fun v hv => by obtain ⟨b, rfl, _⟩ := hv; exact ⟨Tryz.f75, [bool b], by kernel_rfl, rfl, by kernel_rfl⟩) (fun S => ?_)
  rw [v75]
  have no : true = true ∧ (Ext S S ∧ rIs p k s (bool false)) := ⟨rfl, Ext.refl S, false, rfl, fun h => by cases h⟩
  refine ⟨rfl, fun hb => ⟨_, rfl, fun hlt => ?_, fun _ => no⟩, fun _ => no⟩
  have hlt := of_decide_eq_true hlt
  have hb := of_decide_eq_true hb
  obtain ⟨t, _, ht, g0, g1, _, _⟩ := tk_get p.toks p.at_ h.at0 hlt
  refine ⟨_, _, _, rfl, h.at0, hlt, ⟨_, rfl, g0⟩, fun n hn => ⟨fun he => ⟨_, _, _, rfl, h.at0, hlt, ⟨_, rfl, g1⟩, fun s' hs => ⟨rfl, Ext.refl S, _, rfl, fun hd => ?_⟩⟩, fun _ => no⟩⟩
  rw [g0] at hn
  rw [g1] at hs
  cases hn
  cases hs
  exact ⟨hb, hlt, t, ht, by simpa using he, of_decide_eq_true hd⟩
def Took (p q : PS) : Prop := (p.bad < 0 ∧ p.at_ < p.toks.length ∧ q = { p with at_ := p.at_ + 1 }) ∨ Bad p q
theorem Took.pf {B : Nat} {p q : PS} (h : PF B p) (k : Took p q) : PF B q := by
  rcases k with ⟨h1, h2, rfl⟩ | k
  · have := h.at0
    exact ⟨h.tk, h.ln, by show 0 ≤ p.at_ + 1; omega, by show p.at_ + 1 ≤ (p.toks.length : Int); omega, h.en0, h.en1, h.bad0, h.dp0, h.dp1, h.bi, h.bs, h.bx⟩
  · exact k.pf h
theorem Took.pr {S : St} {p q : PS} (h : PR S p) (k : Took p q) : PR S q := by
  rcases k with ⟨h1, h2, rfl⟩ | k
  · exact h.at (p.at_ + 1) p.bad p.deep
  · exact k.pr h
def rTook (p : PS) (v : AV) : Prop := ∃ q : PS, v = q.av ∧ Took p q
theorem l4Sign_ok (B : Nat) (p : PS) (h : PF B p) (s : ByteArray) : CON w0 80 [p.av, str s] (rTook p) := by
  refine Con.of_fn (plans := np) hT hmo (nov := true) (fun v hv => by obtain ⟨q, rfl, _⟩ := hv; exact ⟨Tryz.f80, [q.av], by kernel_rfl, rfl, by kernel_rfl⟩) (fun S => ?_)
  rw [v80]
  have h0 := h.at0
  have h1 := h.at1
  have h2 := h.ln
  refine ⟨rfl, _, (l4Is_ok B p h 4 s).use S _, fun b S1 ⟨hE, b', hb, hn⟩ => ?_⟩
  cases hb
  refine ⟨fun _ => ⟨_, (l4Fail_ok B p h).use S1 _, fun x n n1 b1 x1 x2 x3 x4 x5 x6 n2 n3 S2 ⟨hE2, q, hq, hbad⟩ => ⟨rfl, hE.trans hE2, q, hq, .inr hbad⟩⟩, fun hb => ⟨by unfold in64; omega, rfl, hE, { p with at_ := p.at_ + 1 }, rfl, .inl ?_⟩⟩
  obtain ⟨g1, g2, _⟩ := hn (by simpa using hb)
  exact ⟨g1, g2, rfl⟩
theorem l4Word_ok (B : Nat) (p : PS) (h : PF B p) (s : ByteArray) : CON w0 82 [p.av, str s] (rTook p) := by
  refine Con.of_fn (plans := np) hT hmo (nov := true) (fun v hv => by obtain ⟨q, rfl, _⟩ := hv; exact ⟨Tryz.f82, [q.av], by kernel_rfl, rfl, by kernel_rfl⟩) (fun S => ?_)
  rw [v82]
  have h0 := h.at0
  have h1 := h.at1
  have h2 := h.ln
  refine ⟨rfl, _, (l4Is_ok B p h 1 s).use S _, fun b S1 ⟨hE, b', hb, hn⟩ => ?_⟩
  cases hb
  refine ⟨fun _ => ⟨_, (l4Fail_ok B p h).use S1 _, fun x n n1 b1 x1 x2 x3 x4 x5 x6 n2 n3 S2 ⟨hE2, q, hq, hbad⟩ => ⟨rfl, hE.trans hE2, q, hq, .inr hbad⟩⟩, fun hb => ⟨by unfold in64; omega, rfl, hE, { p with at_ := p.at_ + 1 }, rfl, .inl ?_⟩⟩
  obtain ⟨g1, g2, _⟩ := hn (by simpa using hb)
  exact ⟨g1, g2, rfl⟩
theorem l4Reserved_ok (s : ByteArray) (b : Bool) : CON w0 121 [str s, bool b] rBool := by
  refine Con.of_fn (plans := np) hT hmo (nov := true) (fun v hv => by obtain ⟨b, rfl⟩ := hv; exact ⟨Tryz.f121, [bool b], by kernel_rfl, rfl, by kernel_rfl⟩) (fun S => ?_)
  rw [v121]
  have e : ∀ c, true = true ∧ (Ext S S ∧ rBool (bool c)) := fun c => ⟨rfl, Ext.refl S, c, rfl⟩
  refine ⟨rfl, ?_⟩
  repeat' first | exact e _ | refine ⟨fun _ => ?_, fun _ => ?_⟩
def rPlain (p : PS) (v : AV) : Prop := ∃ b, v = bool b ∧ (b = true → p.bad < 0 ∧ p.at_ < p.toks.length ∧ ∀ t, p.toks[p.at_.toNat]? = some t → t.k = 1)
theorem l4Plain_ok (B : Nat) (p : PS) (h : PF B p) (o : Bool) : CON w0 108 [p.av, bool o] (rPlain p) := by
  refine Con.of_fn (plans := np) hT hmo (nov := true) (fun v hv => by obtain ⟨b, rfl, _⟩ := hv; exact ⟨Tryz.f108, [bool b], by kernel_rfl, rfl, by kernel_rfl⟩) (fun S => ?_)
  rw [v108]
  have no : ∀ S', Ext S S' → true = true ∧ (Ext S S' ∧ rPlain p (bool false)) := fun S' hE => ⟨rfl, hE, false, rfl, fun h => by cases h⟩
  refine ⟨rfl, fun _ => no S (Ext.refl S), fun hb => ⟨_, rfl, fun _ => no S (Ext.refl S), fun hlt => ?_⟩⟩
  have hlt := of_decide_eq_false hlt
  have hb := of_decide_eq_false hb
  obtain ⟨t, htg, ht, g0, g1, _, _⟩ := tk_get p.toks p.at_ h.at0 (by omega)
  refine ⟨_, _, _, rfl, h.at0, by omega, ⟨_, rfl, g0⟩, fun n hn => ⟨fun _ => no S (Ext.refl S), fun hk => ⟨_, _, _, rfl, h.at0, by omega, ⟨_, rfl, g1⟩, fun s hs => ⟨_, (l4Reserved_ok s p.sc).use S _, fun b S1 ⟨hE, _⟩ => ?_⟩⟩⟩⟩
  rw [g0] at hn
  cases hn
  have yes : ∀ c, true = true ∧ (Ext S S1 ∧ rPlain p (bool c)) := fun c => ⟨rfl, hE, c, rfl, fun _ => ⟨by omega, by omega, fun u hu => by rw [htg] at hu; cases hu; simpa using hk⟩⟩
  exact ⟨fun _ => yes _, fun _ => ⟨fun _ => yes _, fun _ => yes _⟩⟩
def rName (B : Nat) (p : PS) (v : AV) : Prop := ∃ (q : PS) (s : ByteArray), v = .tup [q.av, str s] ∧ s.size ≤ B ∧ ((p.bad < 0 ∧ p.at_ < p.toks.length ∧ q = { p with at_ := p.at_ + 1 } ∧ Tname s) ∨ Bad p q)
theorem l4Name_ok (B : Nat) (p : PS) (h : PF B p) (o : Bool) : CON w0 84 [p.av, bool o] (rName B p) := by
  refine Con.of_fn (plans := np) hT hmo (nov := true) (fun v hv => by obtain ⟨q, s, rfl, _⟩ := hv; exact ⟨Tryz.f84, [q.av, str s], by kernel_rfl, rfl, by kernel_rfl⟩) (fun S => ?_)
  rw [v84]
  have h0 := h.at0
  have h1 := h.at1
  have h2 := h.ln
  refine ⟨rfl, _, (l4Plain_ok B p h o).use S _, fun b S1 ⟨hE, b', hb, hn⟩ => ?_⟩
  cases hb
  refine ⟨fun _ => ⟨_, (l4Fail_ok B p h).use S1 _, fun x n n1 b1 x1 x2 x3 x4 x5 x6 n2 n3 S2 ⟨hE2, q, hq, hbad⟩ => ⟨rfl, hE.trans hE2, q, _, by rw [hq], Nat.zero_le _, .inr hbad⟩⟩, fun hb => ?_⟩
  obtain ⟨g1, g2, g3⟩ := hn (by simpa using hb)
  obtain ⟨t, htg, ht, _, k1, _, _⟩ := tk_get p.toks p.at_ h.at0 g2
  refine ⟨_, _, _, rfl, h0, g2, ⟨_, rfl, k1⟩, fun s hs => ?_⟩
  rw [k1] at hs
  cases hs
  refine ⟨by unfold in64; omega, rfl, hE, { p with at_ := p.at_ + 1 }, _, rfl, (h.tk t ht).2.2.2, .inl ⟨g1, g2, rfl, ?_⟩⟩
  exact (h.tk t ht).1 (g3 t htg)
end Go.Proofs.YtkdickfiifpblaaGreatDoor.D
