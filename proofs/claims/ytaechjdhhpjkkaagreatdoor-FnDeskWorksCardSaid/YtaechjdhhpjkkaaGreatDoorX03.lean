/- A meaning by run: regions that draw their order: what is asked, in words; the states on the way. -/
import Derived.Test.YtaechjdhhpjkkaaGreatDoorX02
import Derived.Deep.LoopGhost
set_option linter.unusedVariables false
set_option linter.unusedSimpArgs false
namespace Go.Run
open Go Go.RowKit
section
variable {T : TypeId → Option E} {l : List Oper} {cf : CallF}
theorem mem_ofCls {k i : Nat} : i ∈ ofCls T k l ↔ ∃ o, l[i]? = some o ∧ cls T o = k := by
  unfold ofCls
  rw [List.mem_filter]
  unfold isCls
  constructor
  · rintro ⟨_, h⟩
    cases ho : l[i]? with
    | none => rw [ho] at h; cases h
    | some o => rw [ho] at h; exact ⟨o, rfl, beqN h⟩
  · rintro ⟨o, ho, hc⟩
    refine ⟨List.mem_range.2 (List.getElem?_eq_some_iff.1 ho).1, ?_⟩
    rw [ho]
    show Nat.beq (cls T o) k = true
    rw [hc]
    exact Nat.beq_refl k
theorem ofCls_sorted (k : Nat) : (ofCls T k l).Pairwise (· < ·) := List.Pairwise.filter _ List.pairwise_lt_range
/-- What is asked of a region. -/
structure DrawF (T : TypeId → Option E) (l : List Oper) : Prop where
  ord : ∀ (i : Nat) (o : Oper), l[i]? = some o → ∀ j, j ∈ aft o → j < i
  dst : ∀ (i j : Nat) (o p : Oper) (d : Nat), l[i]? = some o → l[j]? = some p → o.dst = some d → p.dst = some d → i = j
  look : ∀ (i j : Nat) (o p : Oper) (t : Nat), l[i]? = some o → l[j]? = some p → t ∈ looks l o → p.dst = some t → tb (dnOf (downs l []) i) j = true ∨ tb (dnOf (downs l []) j) i = true
  eff : ∀ j i, j < i → j ∈ effs T l → i ∈ effs T l → tb (dnOf (downs l []) i) j = true
  free : ∀ i j, i ∈ ofCls T 3 l → j ∈ ofCls T 3 l → i = j
theorem dstsOk_ne : ∀ (l : List Oper), dstsOk l = true → ∀ (i j : Nat) o p d, l[i]? = some o → l[j]? = some p → i < j → o.dst = some d → p.dst ≠ some d
  | [], _, i, j, o, p, d, hi, _, _, _ => by simp at hi
  | x :: r, h, i, j, o, p, d, hi, hj, hij, hd => by
    obtain ⟨h1, h2⟩ := Bool.and_eq_true_iff.1 (show ((match x.dst with | some d => r.all (fun p => match p.dst with | some e => !(Nat.beq d e) | none => true) | none => true) && dstsOk r) = true from h)
    obtain ⟨j, rfl⟩ : ∃ k, j = k + 1 := ⟨j - 1, by omega⟩
    have hj : r[j]? = some p := hj
    cases i with
    | zero =>
      cases hi
      rw [hd] at h1
      have := List.all_eq_true.1 h1 p (List.mem_of_getElem? hj)
      intro hp
      rw [hp] at this
      have h3 : (!(Nat.beq d d)) = true := this
      rw [show Nat.beq d d = true from Nat.beq_refl d] at h3
      cases h3
    | succ i => exact dstsOk_ne r h2 i j o p d hi hj (by omega) hd
theorem effsOk_pair {D : List Nat} : ∀ (l : List Nat), effsOk D l = true → l.Pairwise fun j i => tb (dnOf D i) j = true
  | [], _ => .nil
  | j :: r, h => by
    obtain ⟨h1, h2⟩ := Bool.and_eq_true_iff.1 (show (r.all (fun i => tb (dnOf D i) j) && effsOk D r) = true from h)
    exact .cons (fun i hi => List.all_eq_true.1 h1 i hi) (effsOk_pair r h2)
theorem pair_lt {R : Nat → Nat → Prop} : ∀ (l : List Nat), l.Pairwise (· < ·) → l.Pairwise R → ∀ j i, j < i → j ∈ l → i ∈ l → R j i
  | [], _, _, j, i, _, hj, _ => by cases hj
  | x :: r, h1, h2, j, i, hji, hj, hi => by
    obtain ⟨a1, a2⟩ := List.pairwise_cons.1 h1
    obtain ⟨b1, b2⟩ := List.pairwise_cons.1 h2
    rcases List.mem_cons.1 hj with e1 | hj2
    · rcases List.mem_cons.1 hi with e2 | hi2
      · omega
      · rw [e1]; exact b1 i hi2
    · rcases List.mem_cons.1 hi with e2 | hi2
      · have := a1 j hj2; omega
      · exact pair_lt r a2 b2 j i hji hj2 hi2
theorem drawOk_f (h : drawOk T l = true) : DrawF T l := by
  unfold drawOk at h
  simp only [Bool.and_eq_true] at h
  obtain ⟨⟨⟨⟨h1, h2⟩, h3⟩, h4⟩, h5⟩ := h
  refine ⟨fun i o ho j hj => ?_, fun i j o p d hi hj ho hp => ?_, fun i j o p t hi hj ht hp => ?_, fun j i hji hj hi => ?_, fun i j hi hj => ?_⟩
  · have := List.all_eq_true.1 h1 _ (idx_mem.2 ho)
    exact Nat.le_of_ble_eq_true (List.all_eq_true.1 this j hj)
  · rcases Nat.lt_trichotomy i j with hlt | rfl | hlt
    · exact absurd hp (dstsOk_ne l h2 i j o p d hi hj hlt ho)
    · rfl
    · exact absurd ho (dstsOk_ne l h2 j i p o d hj hi hlt hp)
  · have := List.all_eq_true.1 (List.all_eq_true.1 (List.all_eq_true.1 h3 _ (idx_mem.2 hi)) t ht) _ (idx_mem.2 hj)
    simp only [hp] at this
    rw [show Nat.beq t t = true from Nat.beq_refl t] at this
    simpa using this
  · exact pair_lt _ (ofCls_sorted 2) (effsOk_pair _ h4) j i hji hj hi
  · have hle : (ofCls T 3 l).length ≤ 1 := Nat.le_of_ble_eq_true h5
    cases hq : ofCls T 3 l with
    | nil => rw [hq] at hi; cases hi
    | cons x r =>
      rw [hq] at hle hi hj
      have : r = [] := List.eq_nil_of_length_eq_zero (by simpa using hle)
      subst this
      rw [List.mem_singleton.1 hi, List.mem_singleton.1 hj]

/-- How many of those that may set variables come ahead of a place. -/
def rank (e : List Nat) (j : Nat) : Nat := (e.filter fun x => decide (x < j)).length
def pidx (e : List Nat) (s : Nat) : Nat := (0 :: e.map (· + 1)).getD s 0
theorem rank_zero (e : List Nat) : rank e 0 = 0 := by
  unfold rank
  rw [List.filter_eq_nil_iff.2 (fun x _ => by simp)]
  rfl
theorem rank_out {e : List Nat} {j : Nat} (hj : j ∉ e) : rank e (j + 1) = rank e j := by
  unfold rank
  congr 1
  refine List.filter_congr fun x hx => ?_
  have : x ≠ j := fun h => hj (by rw [← h]; exact hx)
  by_cases h : x < j
  · rw [decide_eq_true h, decide_eq_true (by omega)]
  · rw [decide_eq_false h, decide_eq_false (by omega)]
theorem filter_none {e : List Nat} {j : Nat} (h : ∀ x, x ∈ e → j ≤ x) : (e.filter fun x => decide (x < j)) = [] := List.filter_eq_nil_iff.2 fun x hx => by have := h x hx; simp; omega
theorem rank_in : ∀ {e : List Nat} {j : Nat}, e.Pairwise (· < ·) → j ∈ e → e[rank e j]? = some j ∧ rank e (j + 1) = rank e j + 1
  | [], j, _, hj => by cases hj
  | x :: e, j, hs, hj => by
    obtain ⟨a1, a2⟩ := List.pairwise_cons.1 hs
    by_cases hx : x = j
    · subst hx
      have e1 : ((x :: e).filter fun y => decide (y < x)) = [] := filter_none fun y hy => by
        rcases List.mem_cons.1 hy with rfl | hy
        · exact Nat.le_refl _
        · exact Nat.le_of_lt (a1 y hy)
      have e2 : (e.filter fun y => decide (y < x + 1)) = [] := filter_none fun y hy => a1 y hy
      unfold rank
      rw [e1, List.filter_cons, if_pos (by simp), e2]
      exact ⟨rfl, rfl⟩
    · have hj : j ∈ e := (List.mem_cons.1 hj).resolve_left (Ne.symm hx)
      have hlt := a1 j hj
      obtain ⟨i1, i2⟩ := rank_in a2 hj
      have r1 : rank (x :: e) j = rank e j + 1 := by unfold rank; rw [List.filter_cons, if_pos (by simpa using hlt)]; rfl
      have r2 : rank (x :: e) (j + 1) = rank e (j + 1) + 1 := by unfold rank; rw [List.filter_cons, if_pos (by simp; omega)]; rfl
      rw [r1, r2, i2]
      exact ⟨i1, rfl⟩
theorem pidx_in {e : List Nat} {j : Nat} (hs : e.Pairwise (· < ·)) (hj : j ∈ e) : pidx e (rank e (j + 1)) = j + 1 := by
  obtain ⟨h1, h2⟩ := rank_in hs hj
  unfold pidx
  rw [h2, List.getD_cons_succ, List.getD_eq_getElem?_getD, List.getElem?_map, h1]
  rfl
theorem phases_mem {a b s : Nat} (h1 : a ≤ s) (h2 : s ≤ b) (h3 : s ≤ (effs T l).length) : pidx (effs T l) s ∈ phases T l a b := by
  unfold phases
  refine List.mem_of_getElem? (i := s - a) ?_
  rw [List.getElem?_drop, show a + (s - a) = s by omega, List.getElem?_take, if_pos (by omega)]
  have hl : s < (0 :: (effs T l).map (· + 1)).length := by simp; omega
  rw [List.getElem?_eq_getElem hl]
  unfold pidx
  rw [List.getD_eq_getElem?_getD, List.getElem?_eq_getElem hl]
  rfl
theorem filt_le' {p q : Nat → Bool} : ∀ (l : List Nat), (∀ x, x ∈ l → q x = true → p x = true) → (l.filter q).length ≤ (l.filter p).length
  | [], _ => by simp
  | y :: l, h => by
    rw [List.filter_cons, List.filter_cons]
    have ih := filt_le' l fun x hx => h x (List.mem_cons_of_mem _ hx)
    cases hy : q y with
    | true => rw [h y List.mem_cons_self hy]; simpa using ih
    | false => cases p y <;> simp <;> omega
theorem allN_all {f : Nat → Bool} : ∀ (l : List Nat), allN f l = true → ∀ x, x ∈ l → f x = true
  | [], _, x, hx => by cases hx
  | y :: l, h, x, hx => by
    have h : (Bool.rec false (allN f l) (f y) : Bool) = true := h
    cases hy : f y with
    | false => rw [hy] at h; cases h
    | true =>
      rw [hy] at h
      rcases List.mem_cons.1 hx with rfl | hx
      · exact hy
      · exact allN_all l h x hx
theorem sameAll_all {sts : List St} : ∀ (m : List (Nat × List Nat)), sameAll T cf l sts m = true → ∀ p, p ∈ m → same1 T cf l sts p.1 p.2 = some true
  | [], _, p, hp => by cases hp
  | q :: m, h, p, hp => by
    have h : (Bool.rec false (sameAll T cf l sts m) (Option.rec false (fun b => b) (same1 T cf l sts q.1 q.2)) : Bool) = true := h
    cases hq : same1 T cf l sts q.1 q.2 with
    | none => rw [hq] at h; cases h
    | some b =>
      rw [hq] at h
      cases b with
      | false => cases h
      | true =>
        rcases List.mem_cons.1 hp with rfl | hp
        · exact hq
        · exact sameAll_all m h p hp
theorem trace_spec {fr : Nat} : ∀ (m : List Oper) (i : Nat) (env : Env) (h : Hp) (sts : List St), trace T cf l fr m i env h = some sts → sts[0]? = some (env, h) ∧ sts.length = m.length + 1 ∧
    ∀ (j : Nat) o, m[j]? = some o → ∃ s s', sts[j]? = some s ∧ sts[j + 1]? = some s' ∧ (i + j = fr → s' = s) ∧ (i + j ≠ fr → one T cf l o s.1 s.2 = some s')
  | [], i, env, h, sts, e => by cases e; exact ⟨rfl, rfl, fun j o hj => by simp at hj⟩
  | o :: m, i, env, h, sts, e => by
    obtain ⟨⟨e1, h1⟩, hp, e⟩ := ob_some (show ob (Bool.rec (one T cf l o env h) (some (env, h)) (Nat.beq i fr) : Option St) (fun p => ob (trace T cf l fr m (i + 1) p.1 p.2) fun r => some ((env, h) :: r)) = some sts from e)
    obtain ⟨r, hr, e⟩ := ob_some e
    cases e
    obtain ⟨q1, q2, q3⟩ := trace_spec m (i + 1) e1 h1 r hr
    refine ⟨rfl, by simp [q2], fun j o' hj => ?_⟩
    cases j with
    | zero =>
      cases hj
      refine ⟨(env, h), (e1, h1), rfl, q1, fun hf => ?_, fun hf => ?_⟩
      · rw [show Nat.beq i fr = true from by rw [← hf]; exact Nat.beq_refl i] at hp
        cases hp
        rfl
      · rw [show Nat.beq i fr = false from by cases hq : Nat.beq i fr with | false => rfl | true => exact absurd (beqN hq) hf] at hp
        exact hp
    | succ j =>
      obtain ⟨s, s', a1, a2, a3, a4⟩ := q3 j o' hj
      exact ⟨s, s', a1, a2, fun hf => a3 (by omega), fun hf => a4 (by omega)⟩
theorem put_ne {env : Env} {v : V} {d : Option Tmp} {t : Nat} (hn : env.n ≤ 4000) (h : d ≠ some t) : (putE env v d).get t = env.get t := by
  cases d with
  | none => rfl
  | some d =>
    show (env.set d v).get t = env.get t
    by_cases hd : d < env.n
    · rw [Env.get_lt hn hd, if_neg]
      rintro rfl
      exact h rfl
    · rw [Env.get_ge hd]
theorem put_n (env : Env) (v : V) (d : Option Tmp) : (putE env v d).n = env.n := by
  cases d with
  | none => rfl
  | some d => exact Env.set_n ..
end
end Go.Run
/- A meaning by run: regions that draw their order: one order stands for all. -/
namespace Go.Run
open Go Go.RowKit
section
variable {P : Program} {T : TypeId → Option E} {ln : Nat} {w0 : World} {U : Nat → Prop} {G : Gh} {h : Hp} {w : World} {env : Env} {a : Act} {cf : CallF} {l : List Oper}
theorem oneV_heap {o : Oper} (hc : cls T o = 0 ∨ cls T o = 1) {v : V} {h' : Hp} (e : oneV T cf l o env h = some (v, h')) : h' = h := by
  obtain ⟨b, hb, e⟩ := ob_some e
  cases b with
  | false => cases e; rfl
  | true =>
    obtain ⟨r, hr, e⟩ := ob_some (show ob (step T o.op env h) (resV cf h) = some (v, h') from e)
    rcases hc with hc | hc
    · obtain ⟨X, hX⟩ := cls_zero hc env
      rw [hX] at hr
      obtain ⟨x, _, rfl⟩ := rv_some hr
      cases e
      rfl
    · obtain ⟨x, rfl⟩ := cls_one hc hr
      cases e
      rfl
theorem oneV_still {o : Oper} (hc : cls T o = 0) {v : V} {h' : Hp} (e : oneV T cf l o env h = some (v, h')) (H : Hp) : oneV T cf l o env H = some (v, H) := by
  obtain ⟨b, hb, e⟩ := ob_some e
  unfold oneV
  rw [hb]
  cases b with
  | false => cases e; rfl
  | true =>
    obtain ⟨r, hr, e⟩ := ob_some (show ob (step T o.op env h) (resV cf h) = some (v, h') from e)
    obtain ⟨X, hX⟩ := cls_zero hc env
    rw [hX] at hr
    obtain ⟨x, rfl, rfl⟩ := rv_some hr
    cases e
    show ob (step T o.op env H) (resV cf H) = _
    rw [hX]
    rfl
/-- The states on the way of a region. -/
structure Way (T : TypeId → Option E) (cf : CallF) (l : List Oper) (fr : Nat) (env0 : Env) (st : Nat → St) : Prop where
  fact : DrawF T l
  go : ∀ (j : Nat) (o : Oper), l[j]? = some o → (j = fr → st (j + 1) = st j) ∧ (j ≠ fr → ∃ v h', oneV T cf l o (st j).1 (st j).2 = some (v, h') ∧ st (j + 1) = (putE (st j).1 v o.dst, h'))
  free : ∀ j, j ∈ ofCls T 3 l → j = fr
  frc : ∀ o, l[fr]? = some o → cls T o = 3
  n : env0.n ≤ 4000
  n0 : (st 0).1.n = env0.n
  e0 : ∀ t, (∀ (o : Oper), l[fr]? = some o → o.dst ≠ some t) → (st 0).1.get t = env0.get t
  z0 : ∀ t, (∃ x, (st 0).1.get t = some x) → t < env0.n
  look1 : ∀ (q : Nat) (o : Oper) (v : V) (h' : Hp), l[q]? = some o → cls T o = 1 → oneV T cf l o (st q).1 (st q).2 = some (v, h') → ∀ s, lo T l (downs l []) q ≤ s → s ≤ hi T l (downs l []) q → s ≤ (effs T l).length → lo T l (downs l []) q < hi T l (downs l []) q →
    ∃ h'', oneV T cf l o (st q).1 (st (pidx (effs T l) s)).2 = some (v, h'')
section
variable {fr : Nat} {env0 : Env} {st : Nat → St}
theorem Way.env_n (W : Way T cf l fr env0 st) : ∀ j, j ≤ l.length → (st j).1.n = env0.n
  | 0, _ => W.n0
  | j + 1, hj => by
    have ho := List.getElem?_eq_getElem (show j < l.length from hj)
    obtain ⟨g1, g2⟩ := W.go j _ ho
    by_cases e : j = fr
    · rw [g1 e]; exact W.env_n j (by omega)
    · obtain ⟨v, h', _, hs⟩ := g2 e
      rw [hs]
      show (putE (st j).1 v _).n = _
      rw [put_n]
      exact W.env_n j (by omega)
theorem Way.stay (W : Way T cf l fr env0 st) {a t : Nat} : ∀ b, a ≤ b → b ≤ l.length → (∀ k (o : Oper), a ≤ k → k < b → k ≠ fr → l[k]? = some o → o.dst ≠ some t) → (st b).1.get t = (st a).1.get t
  | 0, h1, _, _ => by
    have : a = 0 := by omega
    rw [this]
  | b + 1, h1, h2, h => by
    by_cases e : a = b + 1
    · rw [e]
    · have ih := W.stay (a := a) (t := t) b (by omega) (by omega) fun k o q1 q2 => h k o q1 (by omega)
      rw [← ih]
      have ho := List.getElem?_eq_getElem (show b < l.length from h2)
      obtain ⟨g1, g2⟩ := W.go b _ ho
      by_cases e2 : b = fr
      · rw [g1 e2]
      · obtain ⟨v, h', _, hs⟩ := g2 e2
        rw [hs]
        exact put_ne (by rw [W.env_n b (by omega)]; exact W.n) (h b _ (by omega) (Nat.lt_succ_self b) e2 ho)
theorem Way.heap (W : Way T cf l fr env0 st) : ∀ j, j ≤ l.length → (st j).2 = (st (pidx (effs T l) (rank (effs T l) j))).2
  | 0, _ => by rw [rank_zero]; rfl
  | j + 1, hj => by
    have ho := List.getElem?_eq_getElem (show j < l.length from hj)
    by_cases he : j ∈ effs T l
    · rw [show pidx (effs T l) (rank (effs T l) (j + 1)) = j + 1 from pidx_in (ofCls_sorted 2) he]
    · rw [rank_out he, ← W.heap j (by omega)]
      obtain ⟨g1, g2⟩ := W.go j _ ho
      by_cases e : j = fr
      · rw [g1 e]
      · obtain ⟨v, h', hv, hs⟩ := g2 e
        rw [hs]
        refine oneV_heap ?_ hv
        rcases cls_lt (T := T) (l[j]'hj) with h | h | h | h
        · exact .inl h
        · exact .inr h
        · exact absurd (mem_ofCls.2 ⟨_, ho, h⟩) he
        · exact absurd (W.free j (mem_ofCls.2 ⟨_, ho, h⟩)) e
theorem Way.dn (W : Way T cf l fr env0 st) {L : Nat → Bool} (hL : ∀ (i : Nat) (o : Oper), l[i]? = some o → L i = true → ∀ j, j ∈ aft o → L j = true) {i : Nat} {o : Oper} (ho : l[i]? = some o) (ha : ∀ j, j ∈ aft o → L j = true) {j : Nat} (hj : tb (dnOf (downs l []) i) j = true) : L j = true :=
  dnOf_in (d := fun j => L j = true) hL ho ha j hj
theorem Way.dn_lt (W : Way T cf l fr env0 st) {i : Nat} {o : Oper} (ho : l[i]? = some o) {j : Nat} (hj : tb (dnOf (downs l []) i) j = true) : j < i :=
  dnOf_in (d := fun j => j < i) (fun i' o' ho' hi' j hj => Nat.lt_trans (W.fact.ord i' o' ho' j hj) hi') ho (W.fact.ord i o ho) j hj
theorem Way.dn_fr (W : Way T cf l fr env0 st) {o : Oper} (ho : l[fr]? = some o) {j : Nat} (hj : tb (dnOf (downs l []) fr) j = true) : False := by
  obtain ⟨t, d, _, _, _, ha⟩ := cls_three (W.frc o ho)
  exact dnOf_in (d := fun _ => False) (fun _ _ _ h => h.elim) ho (fun j hj => by rw [ha] at hj; cases hj) j hj
/-- What an operation that may come next looks at. -/
theorem Way.see (W : Way T cf l fr env0 st) {L : Nat → Bool} (hL : ∀ (i : Nat) (o : Oper), l[i]? = some o → L i = true → ∀ j, j ∈ aft o → L j = true) {i : Nat} {o : Oper} (ho : l[i]? = some o) (hi : L i = false) (ha : ∀ j, j ∈ aft o → L j = true) {t : Nat} (ht : t ∈ looks l o) :
    (∃ (j : Nat) (p : Oper), l[j]? = some p ∧ p.dst = some t ∧ L j = true ∧ (st i).1.get t = (st l.length).1.get t) ∨ ((∀ j (p : Oper), l[j]? = some p → p.dst = some t → L j = false) ∧ (st i).1.get t = env0.get t) := by
  have hil : i < l.length := (List.getElem?_eq_some_iff.1 ho).1
  by_cases hex : ∃ (j : Nat) (p : Oper), l[j]? = some p ∧ p.dst = some t
  · obtain ⟨j, p, hp, hd⟩ := hex
    rcases W.fact.look i j o p t ho hp ht hd with hb | hb
    · refine .inl ⟨j, p, hp, hd, W.dn hL ho ha hb, ?_⟩
      have hlt := W.dn_lt ho hb
      refine (W.stay l.length (by omega) (Nat.le_refl _) fun k q h1 h2 h3 hq hqd => ?_).symm
      have := W.fact.dst k j q p t hq hp hqd hd
      omega
    · have hlt := W.dn_lt hp hb
      have hjf : j ≠ fr := fun e => by subst e; exact W.dn_fr hp hb
      refine .inr ⟨fun k q hq hqd => ?_, ?_⟩
      · have := W.fact.dst k j q p t hq hp hqd hd
        subst this
        cases hk : L k with
        | false => rfl
        | true =>
          have := W.dn hL hp (hL k p hp hk) hb
          rw [hi] at this
          cases this
      · refine (W.stay i (Nat.zero_le _) (by omega) fun k q h1 h2 h3 hq hqd => ?_).trans (W.e0 t fun q hq hqd => hjf (W.fact.dst j fr p q t hp hq hd hqd))
        have := W.fact.dst k j q p t hq hp hqd hd
        omega
  · refine .inr ⟨fun j p hp hd => absurd ⟨j, p, hp, hd⟩ hex, ?_⟩
    exact (W.stay i (Nat.zero_le _) (by omega) fun k q _ _ _ hq hqd => hex ⟨k, q, hq, hqd⟩).trans (W.e0 t fun q hq hqd => hex ⟨fr, q, hq, hqd⟩)
/-- At what heap an operation that may come next is done. -/
theorem Way.at (W : Way T cf l fr env0 st) {L : Nat → Bool} (hL : ∀ (i : Nat) (o : Oper), l[i]? = some o → L i = true → ∀ j, j ∈ aft o → L j = true) {i : Nat} {o : Oper} (ho : l[i]? = some o) (hi0 : L i = false) (ha : ∀ j, j ∈ aft o → L j = true) (hf : i ≠ fr) :
    ∃ v, oneV T cf l o (st i).1 (st (pidx (effs T l) ((effs T l).filter L).length)).2 = some (v, (st (pidx (effs T l) ((effs T l).filter fun j => L j || j == i).length)).2) ∧ ∃ h', st (i + 1) = (putE (st i).1 v o.dst, h') := by
  have hil : i < l.length := (List.getElem?_eq_some_iff.1 ho).1
  obtain ⟨v, h', hv, hs⟩ := (W.go i o ho).2 hf
  refine ⟨v, ?_, h', hs⟩
  have later : ∀ x, x ∈ effs T l → L x = true → tb (dnOf (downs l []) x) i = false := fun x hx hxL => by
    obtain ⟨p, hp, _⟩ := mem_ofCls.1 hx
    cases hb : tb (dnOf (downs l []) x) i with
    | false => rfl
    | true =>
      have := W.dn hL hp (hL x p hp hxL) hb
      rw [hi0] at this
      cases this
  rcases cls_lt (T := T) o with hc | hc | hc | hc
  · have hne : i ∉ effs T l := fun he => by obtain ⟨p, hp, hc2⟩ := mem_ofCls.1 he; rw [ho] at hp; cases hp; rw [hc] at hc2; cases hc2
    have hcnt : ((effs T l).filter fun j => L j || j == i) = (effs T l).filter L := List.filter_congr fun x hx => by
      have : (x == i) = false := by simpa using fun e : x = i => hne (by rw [← e]; exact hx)
      rw [this, Bool.or_false]
    rw [hcnt]
    exact oneV_still hc hv _
  · have hne : i ∉ effs T l := fun he => by obtain ⟨p, hp, hc2⟩ := mem_ofCls.1 he; rw [ho] at hp; cases hp; rw [hc] at hc2; cases hc2
    have hcnt : ((effs T l).filter fun j => L j || j == i) = (effs T l).filter L := List.filter_congr fun x hx => by
      have : (x == i) = false := by simpa using fun e : x = i => hne (by rw [← e]; exact hx)
      rw [this, Bool.or_false]
    rw [hcnt]
    have h1 : lo T l (downs l []) i ≤ ((effs T l).filter L).length := filt_le' _ fun x hx hb => W.dn hL ho ha hb
    have h2 : ((effs T l).filter L).length ≤ hi T l (downs l []) i := filt_le' _ fun x hx hb => by rw [later x hx hb]; rfl
    have h3 : ((effs T l).filter L).length ≤ (effs T l).length := List.length_filter_le _ _
    by_cases hlt : lo T l (downs l []) i < hi T l (downs l []) i
    · obtain ⟨h'', hq⟩ := W.look1 i o v h' ho hc hv _ h1 h2 h3 hlt
      have := oneV_heap (.inr hc) hq
      rw [this] at hq
      exact hq
    · -- the place is sure
      have r1 : lo T l (downs l []) i ≤ rank (effs T l) i := filt_le' _ fun x hx hb => decide_eq_true (W.dn_lt ho hb)
      have r2 : rank (effs T l) i ≤ hi T l (downs l []) i := filt_le' _ fun x hx hb => by
        obtain ⟨p, hp, _⟩ := mem_ofCls.1 hx
        have hx' := of_decide_eq_true hb
        cases hq : tb (dnOf (downs l []) x) i with
        | false => rfl
        | true => have := W.dn_lt hp hq; omega
      rw [show ((effs T l).filter L).length = rank (effs T l) i by omega, ← W.heap i (by omega)]
      have := oneV_heap (.inr hc) hv
      rw [← this]
      rw [this] at hv ⊢
      exact hv
  · have he : i ∈ effs T l := mem_ofCls.2 ⟨o, ho, hc⟩
    have hLx : ∀ x, x ∈ effs T l → L x = decide (x < i) := fun x hx => by
      rcases Nat.lt_trichotomy x i with hlt | rfl | hlt
      · rw [decide_eq_true hlt]
        exact W.dn hL ho ha (W.fact.eff x i hlt hx he)
      · rw [hi0, decide_eq_false (Nat.lt_irrefl _)]
      · rw [decide_eq_false (by omega)]
        cases hq : L x with
        | false => rfl
        | true =>
          have := later x hx hq
          rw [W.fact.eff i x hlt he hx] at this
          cases this
    have c1 : (effs T l).filter L = (effs T l).filter fun x => decide (x < i) := List.filter_congr hLx
    have c2 : ((effs T l).filter fun j => L j || j == i) = (effs T l).filter fun x => decide (x < i + 1) := List.filter_congr fun x hx => by
      rw [hLx x hx]
      by_cases e : x = i
      · subst e; simp
      · by_cases h : x < i
        · rw [decide_eq_true h, decide_eq_true (by omega : x < i + 1)]; rfl
        · rw [decide_eq_false h, decide_eq_false (by omega : ¬ x < i + 1)]; simp [e]
    rw [c1, c2]
    show oneV T cf l o (st i).1 (st (pidx (effs T l) (rank (effs T l) i))).2 = some (v, (st (pidx (effs T l) (rank (effs T l) (i + 1)))).2)
    rw [← W.heap i (by omega), show pidx (effs T l) (rank (effs T l) (i + 1)) = i + 1 from pidx_in (ofCls_sorted 2) he, hs]
    exact hv
  · exact absurd (W.free i (mem_ofCls.2 ⟨o, ho, hc⟩)) hf
end
end
end Go.Run
/- A meaning by run: regions that draw their order: all of it. -/
namespace Go.Run
open Go Go.RowKit
section
variable {P : Program} {T : TypeId → Option E} {ln : Nat} {w0 : World} {U : Nat → Prop} {G : Gh} {h : Hp} {w : World} {env : Env} {a : Act} {cf : CallF}
theorem put_tmps_ne (a : Act) {d : Option Tmp} {t : Nat} (u : Value) (h : d ≠ some t) : (a.put d u).tmps[t]? = a.tmps[t]? := by
  cases d with
  | none => rfl
  | some d =>
    show (a.tmps.setIfInBounds d u)[t]? = _
    rw [Array.getElem?_setIfInBounds, if_neg]
    rintro rfl
    exact h rfl
theorem put_tmps_size (a : Act) (d : Option Tmp) (u : Value) : (a.put d u).tmps.size = a.tmps.size := by
  cases d with
  | none => rfl
  | some d => show (a.tmps.setIfInBounds d u).size = _; simp
theorem put_tmps_eq (a : Act) {t : Nat} (u : Value) (h : t < a.tmps.size) : (a.put (some t) u).tmps[t]? = some u := by
  show (a.tmps.setIfInBounds t u)[t]? = _
  rw [Array.getElem?_setIfInBounds, if_pos rfl, if_pos h]
/-- What is kept on the way. -/
structure Inv (T : TypeId → Option E) (ln : Nat) (w0 : World) (U : Nat → Prop) (G : Gh) (a : Act) (l : List Oper) (fr m : Nat) (env0 : Env) (st : Nat → St) (L : Nat → Bool) (H : Gh) (a' : Act) (w' : World) : Prop where
  le : G.Le H
  hr : HR ln w0 (fun b => U b ∨ (b = m ∧ fr < l.length ∧ L fr = false)) H (st (pidx (effs T l) ((effs T l).filter L).length)).2 w'
  size : a'.tmps.size = a.tmps.size
  defers : a'.defers = a.defers
  closed : ∀ (i : Nat) (o : Oper), l[i]? = some o → L i = true → ∀ j, j ∈ aft o → L j = true
  done : ∀ (j : Nat) (p : Oper) (t : Nat) v, l[j]? = some p → p.dst = some t → L j = true → (st l.length).1.get t = some v → ∃ u, a'.tmps[t]? = some u ∧ RepV ln H v u
  old : ∀ (t : Nat) v, (∀ (j : Nat) (p : Oper), l[j]? = some p → p.dst = some t → L j = false) → env0.get t = some v → ∃ u, a'.tmps[t]? = some u ∧ RepV ln H v u
theorem Inv.next {l : List Oper} {fr m : Nat} {env0 : Env} {st : Nat → St} {L : Nat → Bool} {H K : Gh} {a' : Act} {w' w'' : World} (I : Inv T ln w0 U G a l fr m env0 st L H a' w') (W : Way T cf l fr env0 st) (hE : EnvR ln G env0 a.tmps)
    {i : Nat} {o : Oper} (ho : l[i]? = some o) (ha : ∀ j, j ∈ aft o → L j = true) (hHK : H.Le K) {v : V} {u : Value} (hv : RepV ln K v u) (hval : ∀ t, o.dst = some t → t < env0.n → (st l.length).1.get t = some v)
    (hr : HR ln w0 (fun b => U b ∨ (b = m ∧ fr < l.length ∧ (L fr || fr == i) = false)) K (st (pidx (effs T l) ((effs T l).filter fun j => L j || j == i).length)).2 w'') : Inv T ln w0 U G a l fr m env0 st (fun j => L j || j == i) K (a'.put o.dst u) w'' := by
  refine ⟨I.le.trans hHK, hr, by rw [put_tmps_size]; exact I.size, by rw [put_defers]; exact I.defers, fun j p hp hj k hk => ?_, fun j p t x hp hd hj hx => ?_, fun t x hno hx => ?_⟩
  · rcases Bool.or_eq_true _ _ ▸ hj with hj | hj
    · rw [I.closed j p hp hj k hk]; rfl
    · have : j = i := by simpa using hj
      subst this
      rw [ho] at hp
      cases hp
      rw [ha k hk]
      rfl
  · by_cases e : j = i
    · subst e
      rw [ho] at hp
      cases hp
      rw [hd]
      by_cases ht : t < env0.n
      · rw [hval t hd ht] at hx
        cases hx
        exact ⟨u, put_tmps_eq a' u (by rw [I.size, ← hE.n]; exact ht), hv⟩
      · exfalso
        -- beyond the frame nothing is set
        have : ∀ b, b ≤ l.length → (st b).1.get t = env0.get t ∨ True := fun _ _ => .inr trivial
        have hb : ∀ b, b ≤ l.length → (st b).1.get t = (st 0).1.get t := by
          intro b
          induction b with
          | zero => intro _; rfl
          | succ b ih =>
            intro hb
            rw [← ih (by omega)]
            have hob := List.getElem?_eq_getElem (show b < l.length from hb)
            obtain ⟨g1, g2⟩ := W.go b _ hob
            by_cases e2 : b = fr
            · rw [g1 e2]
            · obtain ⟨x', h', _, hs⟩ := g2 e2
              rw [hs]
              show (putE (st b).1 x' _).get t = _
              cases hdd : (l[b]'hb).dst with
              | none => rfl
              | some d' =>
                by_cases e3 : d' = t
                · subst e3
                  show ((st b).1.set d' x').get d' = _
                  rw [Env.get_ge (by rw [W.env_n b (by omega)]; exact ht)]
                · exact put_ne (by rw [W.env_n b (by omega)]; exact W.n) (by rintro ⟨⟩; exact e3 rfl)
        rw [hb _ (Nat.le_refl _)] at hx
        rcases Nat.lt_or_ge fr l.length with hf | hf
        · by_cases hdf : (l[fr]'hf).dst = some t
          · exact ht (W.z0 t ⟨_, hx⟩)
          · rw [W.e0 t fun q hq => by rw [List.getElem?_eq_getElem hf] at hq; cases hq; exact hdf] at hx
            obtain ⟨z, hz, _⟩ := hE.rep t x hx
            have := (Array.getElem?_eq_some_iff.1 hz).1
            rw [← hE.n] at this
            exact ht this
        · rw [W.e0 t fun q hq => by rw [List.getElem?_eq_none hf] at hq; cases hq] at hx
          obtain ⟨z, hz, _⟩ := hE.rep t x hx
          have := (Array.getElem?_eq_some_iff.1 hz).1
          rw [← hE.n] at this
          exact ht this
    · have hj' : L j = true := by
        rcases Bool.or_eq_true _ _ ▸ hj with hj | hj
        · exact hj
        · exact absurd (by simpa using hj) e
      obtain ⟨z, h1, h2⟩ := I.done j p t x hp hd hj' hx
      exact ⟨z, by rw [put_tmps_ne a' u (fun hod => e (W.fact.dst j i p o t hp ho hd hod))]; exact h1, h2.mono hHK⟩
  · have hot : o.dst ≠ some t := fun hod => by
      have := hno i o ho hod
      simp at this
    obtain ⟨z, h1, h2⟩ := I.old t x (fun j p hp hd => by
      have := hno j p hp hd
      rw [Bool.or_eq_false_iff] at this
      exact this.1) hx
    exact ⟨z, by rw [put_tmps_ne a' u hot]; exact h1, h2.mono hHK⟩
theorem zeroB_ok {d : E} {t m : Nat} {h : Hp} (e : zeroB d t m h = true) : ∃ x, getB h m = some x ∧ x.ty = t ∧ x.sz = d.size ∧ x.cells = d.zero := by
  unfold zeroB at e
  cases hg : getB h m with
  | none => rw [hg] at e; cases e
  | some x =>
    rw [hg] at e
    obtain ⟨h1, e⟩ := band_true e
    obtain ⟨h2, e⟩ := band_true e
    obtain ⟨h3, e⟩ := band_true e
    exact ⟨x, rfl, beqN h1, beqN h2, listEq_eq veq1_eq _ _ h3⟩
theorem draw_core (hT : TOk P T) (hcf : CfOk P ln w0 cf) {ops : Array Oper} {fr m : Nat} {env0 : Env} {st : Nat → St} (W : Way T cf ops.toList fr env0 st)
    (hfr : ∀ o, ops.toList[fr]? = some o → ∃ t d dd, o.op = .alloc t ∧ o.guard = none ∧ o.dst = some dd ∧ T t = some d ∧ (dd < env0.n → (st 0).1.get dd = some (.ptr m 0)) ∧ ∀ s, s ≤ hi T ops.toList (downs ops.toList []) fr → s ≤ (effs T ops.toList).length → zeroB d t m (st (pidx (effs T ops.toList) s)).2 = true)
    (hU : ¬ U m) (k : HR ln w0 (fun b => U b ∨ (b = m ∧ fr < ops.toList.length)) G (st 0).2 w) (hE : EnvR ln G env0 a.tmps) {Q : Exit → Act → World → Prop} (kk : Fin P ln w0 U G a (st ops.toList.length).1 (st ops.toList.length).2 (Q .normal)) :
    wpAny P .any ops Q ops.size (Array.replicate ops.size false) a w := by
  generalize hl : ops.toList = l at *
  have hN : l.length = ops.size := by rw [← hl]; simp
  have hget : ∀ i, ops[i]? = l[i]? := fun i => by rw [← hl, Array.getElem?_toList]
  have hrep : ∀ j, (Array.replicate ops.size false).getD j true = decide (ops.size ≤ j) := fun j => by
    rw [Array.getD_eq_getD_getElem?, Array.getElem?_replicate]
    by_cases hj : j < ops.size
    · rw [if_pos hj, decide_eq_false (by omega)]; rfl
    · rw [if_neg hj, decide_eq_true (by omega)]; rfl
  have hunl : ∀ e ∈ effs T l, e < l.length := fun e he => by
    obtain ⟨o, ho, _⟩ := mem_ofCls.1 he
    exact (List.getElem?_eq_some_iff.1 ho).1
  refine wpAny_inv (fun i o ho j hj => W.fact.ord i o (by rw [← hget]; exact ho) j hj) (fun L a' w' => ∃ H, Inv T ln w0 U G a l fr m env0 st L H a' w') (fun L a' w' i o ⟨H, I⟩ ho hi0 ha => ?step) (fun L a' w' ⟨H, I⟩ hall => ?fin) ops.size _ a w (by simp) ?few ?start
  case step =>
    -- one operation
    have ho : l[i]? = some o := by rw [← hget]; exact ho
    have hil : i < l.length := (List.getElem?_eq_some_iff.1 ho).1
    unfold wpOp
    rw [hget, ho]
    by_cases hf : i = fr
    · subst hf
      obtain ⟨t, d, dd, hop, hgd, hdst, hd, hptr, hzero⟩ := hfr o ho
      have hw : Region.wanted o (yielded ops a'.tmps) = true := by unfold Region.wanted; rw [hgd]
      simp only [hw, if_true]
      refine .inl ?_
      obtain ⟨ii, z, hii, hsz, _, hz, hr⟩ := (hT t d hd).info
      have hrun : (execOp a'.eval o).run P w' = .ok (.value (.pointer (some ⟨w'.heap.size, 0, none⟩))) (w'.alloc (.cells z.cells t)) := by
        simp [execOp, hop, Instr.alloc, zeroValue, typeInfo, hii, hz, newVar, newRow]
      unfold Oper.wp
      rw [hrun, Oper.upon_value]
      have hk := I.hr
      have hset : (fun b => U b ∨ (b = m ∧ i < l.length ∧ L i = false)) = fun b => U b ∨ b = m := by
        funext b
        rw [hi0]
        simp [hil]
      rw [hset] at hk
      have hcnt : ((effs T l).filter L).length ≤ hi T l (downs l []) i := filt_le' _ fun x hx hb => by
        obtain ⟨p, hp, _⟩ := mem_ofCls.1 hx
        cases hq : tb (dnOf (downs l []) x) i with
        | false => rfl
        | true =>
          have := W.dn I.closed hp (I.closed x p hp hb) hq
          rw [hi0] at this
          cases this
      obtain ⟨x, hx, e1, e2, e3⟩ := zeroB_ok (hzero _ hcnt (List.length_filter_le _ _))
      obtain ⟨c1, c2⟩ := cells_of (hr ln H)
      obtain ⟨K, g1, g2, g3⟩ := hk.place hU hx (cur := z.cells) (fr := (0, 0)) (by rw [e3]; exact c1) (by rw [e3]; exact c2) (nofr _)
      rw [e1] at g3
      refine ⟨K, ?_⟩
      refine I.next W hE ho ha g1 (v := .ptr m 0) (u := .pointer (some ⟨w'.heap.size, 0, none⟩)) ?_ (fun t' ht' hn => ?_) ?_
      · simpa using RepV.ptr (ln := ln) (off := 0) g2
      · rw [hdst] at ht'
        cases ht'
        rw [W.stay l.length (Nat.zero_le _) (Nat.le_refl _) fun q p _ _ hqf hp hpd => hqf (W.fact.dst q i p o dd hp ho hpd hdst)]
        exact hptr hn
      · have hne : i ∉ effs T l := fun he => by
          obtain ⟨p, hp, hc2⟩ := mem_ofCls.1 he
          rw [ho] at hp
          cases hp
          rw [W.frc o ho] at hc2
          cases hc2
        have hcc : ((effs T l).filter fun j => L j || j == i) = (effs T l).filter L := List.filter_congr fun x hx => by
          have : (x == i) = false := by simpa using fun e : x = i => hne (by rw [← e]; exact hx)
          rw [this, Bool.or_false]
        have hset2 : (fun b => U b ∨ (b = m ∧ i < l.length ∧ (L i || i == i) = false)) = U := by
          funext b
          simp
        rw [hcc, hset2]
        exact g3
    · obtain ⟨v, hv, h', hs⟩ := W.at I.closed ho hi0 ha hf
      rw [oneV_congr (σ := only (st i).1 (looks l o)) (fun t ht => by rw [only_get, if_pos ht])] at hv
      have hEo : EnvR ln H (only (st i).1 (looks l o)) a'.tmps := by
        refine ⟨?_, ?_, fun t x hx => ?_⟩
        · show (st i).1.n = _
          rw [W.env_n i (by omega), hE.n, I.size]
        · show (st i).1.n ≤ 4000
          rw [W.env_n i (by omega)]
          exact W.n
        · rw [only_get] at hx
          split at hx
          · rename_i ht
            rcases W.see I.closed ho hi0 ha ht with ⟨j, p, hp, hpd, hLj, hge⟩ | ⟨hno, hge⟩
            · rw [hge] at hx
              exact I.done j p t x hp hpd hLj hx
            · rw [hge] at hx
              exact I.old t x hno hx
          · cases hx
      have hv : oneV T cf ops.toList o (only (st i).1 (looks l o)) (st (pidx (effs T l) ((effs T l).filter L).length)).2 = some (v, (st (pidx (effs T l) ((effs T l).filter fun j => L j || j == i).length)).2) := by rw [hl]; exact hv
      refine op_ok hT hcf I.hr hEo hv (fun K w'' u g1 g2 g3 => ⟨K, ?_⟩)
      refine I.next W hE ho ha g1 g3 (fun t ht hn => ?_) ?_
      · rw [W.stay (a := i + 1) l.length (by omega) (Nat.le_refl _) fun q p hq _ _ hp hpd => by have := W.fact.dst q i p o t hp ho hpd ht; omega, hs]
        show (putE (st i).1 v o.dst).get t = _
        rw [ht]
        show ((st i).1.set t v).get t = _
        rw [Env.get_lt (by rw [W.env_n i (by omega)]; exact W.n) (by rw [W.env_n i (by omega)]; exact hn), if_pos rfl]
      · have : (fr == i) = false := by simpa using Ne.symm hf
        rw [this, Bool.or_false]
        exact g2
  case fin =>
    -- the end
    have hLx : ∀ x, x ∈ effs T l → L x = true := fun x hx => hall x (by rw [← hN]; exact hunl x hx)
    have hcnt : ((effs T l).filter L).length = rank (effs T l) l.length := by
      unfold rank
      congr 1
      refine List.filter_congr fun x hx => ?_
      rw [hLx x hx, decide_eq_true (hunl x hx)]
    have hk := I.hr
    rw [hcnt, ← W.heap l.length (Nat.le_refl _)] at hk
    have hset : (fun b => U b ∨ (b = m ∧ fr < l.length ∧ L fr = false)) = U := by
      funext b
      by_cases hf : fr < l.length
      · rw [hall fr (by omega)]; simp
      · simp [hf]
    rw [hset] at hk
    refine kk H a' w' I.le ⟨?_, ?_, fun t x hx => ?_⟩ I.defers hk
    · rw [W.env_n _ (Nat.le_refl _), hE.n, I.size]
    · rw [W.env_n _ (Nat.le_refl _)]; exact W.n
    · by_cases hex : ∃ (j : Nat) (p : Oper), l[j]? = some p ∧ p.dst = some t
      · obtain ⟨j, p, hp, hpd⟩ := hex
        exact I.done j p t x hp hpd (hall j (by rw [← hN]; exact (List.getElem?_eq_some_iff.1 hp).1)) hx
      · rw [W.stay l.length (Nat.zero_le _) (Nat.le_refl _) fun q p _ _ _ hp hpd => hex ⟨q, p, hp, hpd⟩, W.e0 t fun q hq hqd => hex ⟨fr, q, hq, hqd⟩] at hx
        exact I.old t x (fun j p hp hpd => absurd ⟨j, p, hp, hpd⟩ hex) hx
  case few =>
    unfold unl
    refine Nat.le_trans (List.length_filter_le _ _) (by simp)
  case start =>
    have h0 : (effs T l).filter (fun j => (Array.replicate ops.size false).getD j true) = [] := List.filter_eq_nil_iff.2 fun x hx => by
      rw [hrep]
      have := hunl x hx
      simp
      omega
    refine ⟨G, Gh.Le.refl G, ?_, rfl, rfl, fun i o ho hi => ?_, fun j p t x hp hpd hj hx => ?_, fun t x _ hx => hE.rep t x hx⟩
    · rw [h0]
      have hset : (fun b => U b ∨ (b = m ∧ fr < l.length ∧ (Array.replicate ops.size false).getD fr true = false)) = fun b => U b ∨ (b = m ∧ fr < l.length) := by
        funext b
        rw [hrep]
        by_cases hf : fr < l.length
        · rw [decide_eq_false (by omega)]; simp [hf]
        · simp [hf]
      rw [hset]
      exact k
    · rw [hrep] at hi
      have := (List.getElem?_eq_some_iff.1 ho).1
      have := of_decide_eq_true hi
      omega
    · rw [hrep] at hj
      have := (List.getElem?_eq_some_iff.1 hp).1
      have := of_decide_eq_true hj
      omega
end
end Go.Run
/- A meaning by run: regions that draw their order, as the run does them. -/
namespace Go.Run
open Go Go.RowKit
section
variable {P : Program} {T : TypeId → Option E} {ln : Nat} {w0 : World} {U : Nat → Prop} {G : Gh} {h : Hp} {w : World} {env : Env} {a : Act} {cf : CallF} {l : List Oper}
theorem way_of (hd : drawOk T l = true) {fr : Nat} {env0 env1 : Env} {h1 : Hp} {sts : List St} (ht : trace T cf l fr l 0 env1 h1 = some sts) (hs : sameAll T cf l sts (plan T l) = true) (hf : ∀ j, j ∈ ofCls T 3 l → j = fr) (hc : ∀ o, l[fr]? = some o → cls T o = 3)
    (hn : env0.n ≤ 4000) (hn0 : env1.n = env0.n) (he : ∀ t, (∀ (o : Oper), l[fr]? = some o → o.dst ≠ some t) → env1.get t = env0.get t) (hz : ∀ t, (∃ x, env1.get t = some x) → t < env0.n) : Way T cf l fr env0 (fun j => (sts[j]?).getD (env1, h1)) := by
  obtain ⟨t0, t1, t2⟩ := trace_spec l 0 env1 h1 sts ht
  refine ⟨drawOk_f hd, fun j o ho => ?_, hf, hc, hn, ?_, ?_, ?_, fun q o v h' ho hc1 hv s hs1 hs2 hs3 hlt => ?_⟩
  · obtain ⟨s, s', a1, a2, a3, a4⟩ := t2 j o ho
    simp only [a1, a2, Option.getD_some]
    refine ⟨fun e => a3 (by omega), fun e => ?_⟩
    obtain ⟨p, hp, hq⟩ := ob_some (a4 (by omega))
    cases hq
    exact ⟨p.1, p.2, hp, rfl⟩
  · simp only [t0, Option.getD_some]; exact hn0
  · simp only [t0, Option.getD_some]; exact he
  · simp only [t0, Option.getD_some]; exact hz
  · have hm : (q, phases T l (lo T l (downs l []) q) (hi T l (downs l []) q)) ∈ plan T l := by
      unfold plan
      refine List.mem_filterMap.2 ⟨q, mem_ofCls.2 ⟨o, ho, hc1⟩, ?_⟩
      rw [show Nat.blt (lo T l (downs l []) q) (hi T l (downs l []) q) = true by rw [blt_eq]; exact decide_eq_true hlt]
      rfl
    have hsm := sameAll_all _ hs _ hm
    obtain ⟨o', ho', hsm⟩ := ob_some hsm
    rw [nth_eq, ho] at ho'
    cases ho'
    obtain ⟨s1, hs1', hsm⟩ := ob_some hsm
    rw [nth_eq] at hs1'
    obtain ⟨p, hp, hsm⟩ := ob_some hsm
    have hall : allN _ _ = true := Option.some.inj hsm
    have := allN_all _ hall (pidx (effs T l) s) (phases_mem hs1 hs2 hs3)
    simp only [hs1', Option.getD_some] at hv ⊢
    rw [hv] at hp
    cases hp
    rw [nth_eq] at this
    cases hx : sts[pidx (effs T l) s]? with
    | none => rw [hx] at this; cases this
    | some t =>
      rw [hx] at this
      have this : (Option.rec false (fun r => veq v r.1) (oneV T cf l o s1.1 t.2) : Bool) = true := this
      simp only [Option.getD_some]
      cases hy : oneV T cf l o s1.1 t.2 with
      | none => rw [hy] at this; cases this
      | some r =>
        rw [hy] at this
        have := veq_eq _ _ this
        exact ⟨r.2, by rw [this]⟩
theorem cDraw_ok (hT : TOk P T) (hcf : CfOk P ln w0 cf) (hm : P.follows .mixedOrders = true) {id : Nat} {ops : Array Oper} {r : Rt} (e : cDraw T cf ops.toList env h = some r) (k : HR ln w0 U G h w) (hE : EnvR ln G env a.tmps) {R : Exit → Act → World → Prop}
    (kk : r.ex = .normal → Fin P ln w0 U G a r.env r.h (R .normal)) : (Code.region id ops true).wp P R a w := by
  refine wp_region_any hm ?_
  have kd : HR ln w0 U G h { w with drawn := w.drawn + 1 } := k.drew
  unfold cDraw at e
  cases hd : drawOk T ops.toList with
  | false => rw [hd] at e; cases e
  | true =>
    rw [hd] at e
    have e : (match freeOf T ops.toList with
      | none => cFrom T cf ops.toList ops.toList.length fun _ => true
      | some (f, is) => fun env h => ob (nth ops.toList f) fun o => ob (allocT o) fun t => ob (T t) fun d => ob (newB h ⟨t, d.size, d.zero, true, []⟩ fun b => .ptr b 0) fun p =>
        cFrom T cf ops.toList f (fun sts => allN (fun i => Option.rec false (fun s => zeroB d t h.next s.2) (nth sts i)) is) (putE env p.1 o.dst) p.2) env h = some r := e
    have hnU : ¬ U h.next := fun hu => by have := (k.hid _ hu).1; omega
    have hslot : ∀ t x, env.get t = some x → t < env.n := fun t x hx => by
      obtain ⟨u, hu, _⟩ := hE.rep t x hx
      rw [hE.n]
      exact (Array.getElem?_eq_some_iff.1 hu).1
    cases hq : freeOf T ops.toList with
    | none =>
      rw [hq] at e
      have h3 : ofCls T 3 ops.toList = [] := by
        unfold freeOf at hq
        split at hq
        · assumption
        · cases hq
      obtain ⟨sts, hst, e⟩ := ob_some (show ob (trace T cf ops.toList ops.toList.length ops.toList 0 env h) (fun sts => bt true (bt (sameAll T cf ops.toList sts (plan T ops.toList)) (ob (nth sts ops.toList.length) fun q => some ⟨.normal, q.1.shut, q.2⟩))) = some r from e)
      obtain ⟨_, e⟩ := bt_some e
      obtain ⟨hsame, e⟩ := bt_some e
      obtain ⟨q, hq2, e⟩ := ob_some e
      cases e
      rw [nth_eq] at hq2
      have W := way_of (env0 := env) hd hst hsame (fun j hj => by rw [h3] at hj; cases hj) (fun o ho => by rw [List.getElem?_eq_none (Nat.le_refl _)] at ho; cases ho) hE.le rfl (fun t _ => rfl) (fun t ⟨x, hx⟩ => hslot t x hx)
      refine draw_core (m := h.next) hT hcf W (fun o ho => by rw [List.getElem?_eq_none (Nat.le_refl _)] at ho; cases ho) hnU ?_ hE ?_
      · have hset : (fun b => U b ∨ (b = h.next ∧ ops.toList.length < ops.toList.length)) = U := by
          funext b
          simp
        rw [hset]
        obtain ⟨t0, _, _⟩ := trace_spec ops.toList 0 env h sts hst
        simp only [t0, Option.getD_some]
        exact kd
      · simp only [hq2, Option.getD_some]
        exact fun H a' w' g1 g2 g3 g4 => kk rfl H a' w' g1 g2.shut g3 g4
    | some fi =>
      obtain ⟨f, is⟩ := fi
      rw [hq] at e
      have h3 : f ∈ ofCls T 3 ops.toList ∧ is = phases T ops.toList 0 (hi T ops.toList (downs ops.toList []) f) := by
        unfold freeOf at hq
        split at hq
        · cases hq
        · rename_i x y hx
          cases hq
          rw [hx]
          exact ⟨List.mem_cons_self, rfl⟩
      obtain ⟨h3, rfl⟩ := h3
      obtain ⟨o, ho, e⟩ := ob_some (show ob (nth ops.toList f) _ = some r from e)
      obtain ⟨t, hto, e⟩ := ob_some e
      obtain ⟨d, hdT, e⟩ := ob_some e
      obtain ⟨⟨pv, ph⟩, hp, e⟩ := ob_some e
      obtain ⟨hlim, hp⟩ := bt_some hp
      cases hp
      have hlim := blt_lt hlim
      obtain ⟨sts, hst, e⟩ := ob_some e
      obtain ⟨hz, e⟩ := bt_some e
      obtain ⟨hsame, e⟩ := bt_some e
      obtain ⟨q, hq2, e⟩ := ob_some e
      cases e
      rw [nth_eq] at hq2 ho
      obtain ⟨o', ho', hc3⟩ := mem_ofCls.1 h3
      rw [ho] at ho'
      cases ho'
      obtain ⟨t', dd, hop, hgd, hdst, haft⟩ := cls_three hc3
      have : t' = t := by unfold allocT at hto; rw [hop] at hto; cases hto; rfl
      subst this
      have F := drawOk_f hd
      have W := way_of (env0 := env) hd hst hsame (fun j hj => F.free j f hj h3) (fun o2 ho2 => by rw [ho] at ho2; cases ho2; exact hc3) hE.le (put_n _ _ _) (fun t2 ht2 => put_ne hE.le (ht2 o ho)) (fun t2 ⟨x, hx⟩ => by
        by_cases e2 : dd = t2
        · subst e2
          by_cases hlt : dd < env.n
          · exact hlt
          · rw [hdst] at hx
            have hx : (env.set dd (.ptr h.next 0)).get dd = some x := hx
            rw [Env.get_ge hlt] at hx
            exact hslot dd x hx
        · rw [put_ne hE.le (by rw [hdst]; rintro ⟨⟩; exact e2 rfl)] at hx
          exact hslot t2 x hx)
      obtain ⟨t0, _, _⟩ := trace_spec ops.toList 0 _ _ sts hst
      refine draw_core (m := h.next) hT hcf W (fun o2 ho2 => ?_) hnU ?_ hE ?_
      · rw [ho] at ho2
        cases ho2
        refine ⟨t', d, dd, hop, hgd, hdst, hdT, fun hlt => ?_, fun s hs1 hs2 => ?_⟩
        · simp only [t0, Option.getD_some]
          rw [hdst]
          show (env.set dd (.ptr h.next 0)).get dd = _
          rw [Env.get_lt hE.le hlt, if_pos rfl]
        · have := allN_all _ hz (pidx (effs T ops.toList) s) (phases_mem (Nat.zero_le _) hs1 hs2)
          rw [nth_eq] at this
          cases hx : sts[pidx (effs T ops.toList) s]? with
          | none => rw [hx] at this; cases this
          | some st =>
            rw [hx] at this
            simp only [Option.getD_some]
            exact this
      · have hset : (fun b => U b ∨ (b = h.next ∧ f < ops.toList.length)) = fun b => U b ∨ b = h.next := by
          funext b
          have := (List.getElem?_eq_some_iff.1 ho).1
          simp only [this, and_true]
        rw [hset]
        simp only [t0, Option.getD_some]
        exact kd.unborn _ hlim
      · simp only [hq2, Option.getD_some]
        exact fun H a' w' g1 g2 g3 g4 => kk rfl H a' w' g1 g2.shut g3 g4
end
end Go.Run
/- A meaning by run: code, functions. -/
namespace Go.Run
open Go Go.RowKit
def Ex.toExit : Ex → Exit | .normal => .normal | .exit id => .exit id | .ret => .ret
section
variable {P : Program} {T : TypeId → Option E} {ln : Nat} {w0 : World} {U : Nat → Prop} {G : Gh} {h : Hp} {w : World} {env : Env} {a : Act} {cf : CallF}
theorem Fin.trans {G H : Gh} {a a' : Act} {env' : Env} {h' : Hp} {R : Act → World → Prop} (hle : G.Le H) (hd : a'.defers = a.defers) (k : Fin P ln w0 U G a env' h' R) : Fin P ln w0 U H a' env' h' R :=
  fun K b w g1 g2 g3 g4 => k K b w (hle.trans g1) g2 (g3.trans hd) g4
theorem code_ok (hT : TOk P T) (hcf : CfOk P ln w0 cf) (hm : P.follows .mixedOrders = true) : ∀ (c : Code) {G : Gh} {h : Hp} {w : World} {env : Env} {a : Act} {r : Rt}, code T cf c env h = some r → HR ln w0 U G h w → EnvR ln G env a.tmps → ∀ {R : Exit → Act → World → Prop},
    Fin P ln w0 U G a r.env r.h (R r.ex.toExit) → c.wp P R a w
  | .skip, G, h, w, env, a, r, e, k, hE, R, kk => by cases e; exact wp_skip (kk G a w (Gh.Le.refl G) hE rfl k)
  | .label _, G, h, w, env, a, r, e, k, hE, R, kk => by cases e; exact wp_label (kk G a w (Gh.Le.refl G) hE rfl k)
  | .exit id, G, h, w, env, a, r, e, k, hE, R, kk => by cases e; exact wp_exit (kk G a w (Gh.Le.refl G) hE rfl k)
  | .ret, G, h, w, env, a, r, e, k, hE, R, kk => by cases e; exact wp_ret (kk G a w (Gh.Le.refl G) hE rfl k)
  | .region id ops false, G, h, w, env, a, r, e, k, hE, R, kk => by
    obtain ⟨⟨e1, h1⟩, hl, e⟩ := ob_some (show ob (listR T cf ops.toList ops.toList env h) (fun p => some (⟨.normal, p.1.shut, p.2⟩ : Rt)) = some r from e)
    cases e
    refine wp_region ?_
    have := list_ok (P := P) (U := U) hT hcf (ops := ops) (Q := R) ops.toList 0 rfl G env h a w e1 h1 k hE hl (fun H a' w' g1 g2 g3 g4 => kk H a' w' g1 g2.shut g3 g4)
    rw [Nat.sub_zero, ← List.range_eq_range'] at this
    exact this
  | .region id ops true, G, h, w, env, a, r, e, k, hE, R, kk => cDraw_ok hT hcf hm e k hE fun hn => by rw [hn] at kk; exact kk
  | .seq c1 c2, G, h, w, env, a, r, e, k, hE, R, kk => by
    obtain ⟨r1, h1, e⟩ := ob_some (show ob (code T cf c1 env h) (fun r => Bool.rec (some r) (code T cf c2 r.env r.h) r.isNormal) = some r from e)
    refine wp_seq (code_ok hT hcf hm c1 h1 k hE ?_)
    obtain ⟨x1, e1, hp1⟩ := r1
    cases x1 with
    | normal =>
      have e : code T cf c2 e1 hp1 = some r := e
      exact fun H a' w' g1 g2 g3 g4 => code_ok hT hcf hm c2 e g4 g2 (kk.trans g1 g3)
    | exit id =>
      cases e
      exact fun H a' w' g1 g2 g3 g4 => kk H a' w' g1 g2 g3 g4
    | ret =>
      cases e
      exact fun H a' w' g1 g2 g3 g4 => kk H a' w' g1 g2 g3 g4
  | .cond c c1 c2, G, h, w, env, a, r, e, k, hE, R, kk => by
    obtain ⟨v, hv, e⟩ := ob_some (show ob (ev env c) (fun c => ob (asBool c) fun c => Bool.rec (code T cf c2 env h) (code T cf c1 env h) c) = some r from e)
    obtain ⟨b, hb, e⟩ := ob_some e
    obtain rfl := asBool_some hb
    have hc := ev_ok hE hv
    have hcv : a.eval c = .bool b := by generalize a.eval c = q at hc; cases hc; rfl
    refine wp_cond hcv ?_
    cases b with
    | true => exact code_ok hT hcf hm c1 e k hE kk
    | false => exact code_ok hT hcf hm c2 e k hE kk
  | .block id c, G, h, w, env, a, r, e, k, hE, R, kk => by
    obtain ⟨r1, h1, e⟩ := ob_some (show ob (code T cf c env h) (fun r => some (unblk id r)) = some r from e)
    cases e
    refine wp_block (code_ok hT hcf hm c h1 k hE ?_)
    obtain ⟨x1, e1, hp1⟩ := r1
    cases x1 with
    | normal => exact fun H a' w' g1 g2 g3 g4 => kk H a' w' g1 g2 g3 g4
    | exit id' =>
      intro H a' w' g1 g2 g3 g4
      show (if id' = id then R .normal a' w' else R (.exit id') a' w')
      unfold unblk at kk
      cases hq : Nat.beq id' id with
      | true =>
        simp only [hq] at kk
        rw [if_pos (beqN hq)]
        exact kk H a' w' g1 g2 g3 g4
      | false =>
        simp only [hq] at kk
        rw [if_neg (Nat.ne_of_beq_eq_false hq)]
        exact kk H a' w' g1 g2 g3 g4
    | ret => exact fun H a' w' g1 g2 g3 g4 => kk H a' w' g1 g2 g3 g4
  | .loop c, G, h, w, env, a, r, e, k, hE, R, kk => by
    have e : iter (code T cf c) 100000 env h = some r := e
    generalize (100000 : Nat) = m at e
    refine wp_loop_ghost (fun m a' w' => ∃ env' h' H, iter (code T cf c) m env' h' = some r ∧ G.Le H ∧ HR ln w0 U H h' w' ∧ EnvR ln H env' a'.tmps ∧ a'.defers = a.defers) m ⟨env, h, G, e, Gh.Le.refl G, k, hE, rfl⟩ ?_
    rintro m a' w' ⟨env', h', H, e, g1, g2, g3, g4⟩
    cases m with
    | zero => cases e
    | succ m =>
      obtain ⟨r1, h1, e⟩ := ob_some (show ob (code T cf c env' h') (fun r => Bool.rec (some r) (iter (code T cf c) m r.env r.h) r.isNormal) = some r from e)
      refine code_ok hT hcf hm c h1 g2 g3 ?_
      obtain ⟨x1, e1, hp1⟩ := r1
      cases x1 with
      | normal =>
        have e : iter (code T cf c) m e1 hp1 = some r := e
        exact fun K b w2 q1 q2 q3 q4 => ⟨m, Nat.lt_succ_self m, e1, hp1, K, e, g1.trans q1, q4, q2, q3.trans g4⟩
      | exit id =>
        cases e
        exact fun K b w2 q1 q2 q3 q4 => kk K b w2 (g1.trans q1) q2 (q3.trans g4) q4
      | ret =>
        cases e
        exact fun K b w2 q1 q2 q3 q4 => kk K b w2 (g1.trans q1) q2 (q3.trans g4) q4
  | .rangeFunc .., _, _, _, _, _, _, e, _, _, _, _ => by cases e
  | .scope _, _, _, _, _, _, _, e, _, _, _, _ => by cases e
  | .goto _, _, _, _, _, _, _, e, _, _, _, _ => by cases e
  | .refuse _, _, _, _, _, _, _, e, _, _, _, _ => by cases e

/-- What a function yields. -/
def readVar (tmps : Array Value) : ResultVar → Sem Value
  | .tmp t => pure (tmps.getD t undef)
  | .cell a t => do loadVar t (← asAddr (tmps.getD a undef))
theorem getD_some {tmps : Array Value} {t : Nat} {u : Value} (h : tmps[t]? = some u) : tmps.getD t undef = u := by
  rw [Array.getD_eq_getD_getElem?, h]; rfl
theorem res1_ok (hT : TOk P T) (k : HR ln w0 U G h w) {tmps : Array Value} (hE : EnvR ln G env tmps) {r : ResultVar} {v : V} (e : res1 T env h r = some v) : ∃ u, RepV ln G v u ∧ (readVar tmps r).run P w = .ok u w := by
  cases r with
  | tmp t =>
    obtain ⟨u, hu, hr⟩ := hE.rep t v e
    exact ⟨u, hr, by simp [readVar, getD_some hu]⟩
  | cell b t =>
    obtain ⟨d, hd, e⟩ := ob_some (show ob (T t) (fun d => ob (env.get b) fun p => load d h p) = some v from e)
    obtain ⟨p, hp, e⟩ := ob_some e
    obtain ⟨q, hq, hr⟩ := hE.rep b p hp
    obtain ⟨vr, h1, h2⟩ := load_ok (hT t d hd) k e hr
    refine ⟨vr, h1, ?_⟩
    unfold load at e
    split at e
    · cases hr with
      | ptr hg =>
        simp only [Instr.loadAt, Instr.sureAddr] at h2
        simp [readVar, getD_some hq, asAddr]
        simpa using h2
    · cases e
theorem resL_ok (hT : TOk P T) (k : HR ln w0 U G h w) {tmps : Array Value} (hE : EnvR ln G env tmps) : ∀ (rs : List ResultVar) (xs : List V), resL T env h rs = some xs → ∃ vs, RepA ln G xs vs ∧ (rs.mapM (readVar tmps)).run P w = .ok vs w
  | [], xs, e => by cases e; exact ⟨[], .nil, rfl⟩
  | r :: rs, xs, e => by
    obtain ⟨v, hv, e⟩ := ob_some (show ob (res1 T env h r) (fun v => ob (resL T env h rs) fun vs => some (v :: vs)) = some xs from e)
    obtain ⟨us, hus, e⟩ := ob_some e
    cases e
    obtain ⟨v1, h1, h2⟩ := res1_ok hT k hE hv
    obtain ⟨vs, h3, h4⟩ := resL_ok hT k hE rs us hus
    refine ⟨v1 :: vs, .cons h1 h3, ?_⟩
    rw [List.mapM_cons, Sem.run_bind, h2, Result.andThen_ok, Sem.run_bind, h4]
    rfl
theorem results_ok (hT : TOk P T) (k : HR ln w0 U G h w) {tmps : Array Value} (hE : EnvR ln G env tmps) {fn : Func} {xs : List V} (e : resL T env h fn.results.toList = some xs) : ∃ v, RepV ln G (tupV xs) v ∧ (results fn tmps).run P w = .ok v w := by
  obtain ⟨vs, hr, hrun⟩ := resL_ok hT k hE _ xs e
  have hm : (fn.results.mapM (readVar tmps)).run P w = .ok vs.toArray w := by
    rw [Array.mapM_eq_mapM_toList]
    show ((List.toArray <$> fn.results.toList.mapM (readVar tmps)) : Sem (Array Value)).run P w = _
    rw [map_eq_pure_bind, Sem.run_bind, hrun]
    rfl
  have hres : (results fn tmps).run P w = .ok (if h : vs.toArray.size = 1 then vs.toArray[0] else .tuple vs.toArray) w := by
    show (do let vs ← fn.results.mapM (readVar tmps); pure (if h : vs.size = 1 then vs[0] else .tuple vs) : Sem Value).run P w = _
    rw [Sem.run_bind, hm]
    rfl
  refine ⟨_, ?_, hres⟩
  match xs, vs, hr with
  | [], [], hr => exact hr.tup
  | [x], [v], hr => exact hr.2 0 x v rfl rfl
  | x :: y :: xs, [], hr => cases hr.1
  | x :: y :: xs, [_], hr => cases hr.1
  | x :: y :: xs, v :: u :: vs, hr =>
    rw [dif_neg (by simp)]
    exact hr.tup
  | [], _ :: _, hr => cases hr.1
  | [x], [], hr => cases hr.1
  | [x], _ :: _ :: _, hr => cases hr.1

theorem set_self {tmps : Array Value} {i : Nat} {u : Value} (h : tmps[i]? = some u) : tmps.setIfInBounds i u = tmps := by
  apply Array.ext_getElem?
  intro j
  rw [Array.getElem?_setIfInBounds]
  split
  · rename_i e
    subst e
    split
    · exact h.symm
    · rename_i hn
      rw [Array.getElem?_eq_none (by omega)]
  · rfl
theorem arg_ok : ∀ (l : List V) (i : Nat) (env : Env) {tmps : Array Value}, EnvR ln G env tmps → (∀ (j : Nat) x, l[j]? = some x → ∃ u, tmps[i + j]? = some u ∧ RepV ln G x u) → EnvR ln G (argE l i env) tmps ∧ (argE l i env).n = env.n
  | [], i, env, tmps, hE, _ => ⟨hE, rfl⟩
  | x :: l, i, env, tmps, hE, hx => by
    obtain ⟨u, hu, hr⟩ := hx 0 x rfl
    have h1 := hE.set i hr
    rw [show tmps.setIfInBounds i u = tmps from set_self hu] at h1
    obtain ⟨q1, q2⟩ := arg_ok l (i + 1) (env.set i x) h1 fun j y hy => by
      obtain ⟨u', h1, h2⟩ := hx (j + 1) y (by simpa using hy)
      exact ⟨u', by rw [← h1]; congr 1; omega, h2⟩
    exact ⟨q1, q2.trans (Env.set_n ..)⟩
theorem empty_get (n m t : Nat) : (⟨n, m, [], .nil⟩ : Env).get t = none := by
  show bitR m t none ((Tr.nil : Tr V).get t) = none
  unfold bitR
  cases Nat.mod (Nat.shiftRight m t) 2 <;> rfl
/-- Functions. -/
structure FOk (P : Program) (f : FuncId) (fn : Fn) : Prop where
  is : ∃ g, P.funcs[f]? = some g ∧ (g.name == "runtime.NumGoroutine") = false ∧ g.body = some fn.body ∧ g.ntmps = fn.ntmps ∧ g.results.toList = fn.results
theorem callB_ok (hT : TOk P T) (hcf : CfOk P ln w0 cf) (hm : P.follows .mixedOrders = true) {f : FuncId} {fn : Fn} (hf : FOk P f fn) {args : List V} {vs : List Value} (k : HR ln w0 U G h w) (hA : RepA ln G args vs) {v : V} {h' : Hp} (e : callB T cf fn args h = some (v, h')) :
    Does P f vs.toArray w fun vr w' => ∃ H, G.Le H ∧ RepV ln H v vr ∧ HR ln w0 U H h' w' := by
  obtain ⟨g, hg, hn, hb, hnt, hrs⟩ := hf.is
  obtain ⟨hl, e⟩ := bt_some e
  obtain ⟨hn4, e⟩ := bt_some e
  obtain ⟨r, hr, e⟩ := ob_some e
  obtain ⟨hend, e⟩ := bt_some e
  obtain ⟨xs, hxs, e⟩ := ob_some e
  cases e
  have hl : args.length ≤ fn.ntmps := ble_le hl
  have hn4 : fn.ntmps ≤ 4000 := ble_le hn4
  refine .inl ⟨⟨g, hg, hn, by rw [hb]; rfl⟩, calls_of_wp hg hb ?_⟩
  have hal : vs.length = args.length := hA.1.symm
  have hE0 : EnvR ln G ⟨fn.ntmps, fn.m, [], .nil⟩ (vs.toArray ++ Array.replicate (g.ntmps - vs.toArray.size) undef) := by
    refine ⟨?_, hn4, fun t x hx => ?_⟩
    · simp [hnt]
      omega
    · rw [empty_get] at hx
      cases hx
  obtain ⟨hE, _⟩ := arg_ok args 0 ⟨fn.ntmps, fn.m, [], .nil⟩ hE0 fun j x hx => by
    have hj := (List.getElem?_eq_some_iff.1 hx).1
    have hj' : j < vs.length := by omega
    refine ⟨vs[j], ?_, hA.2 j x _ hx (List.getElem?_eq_getElem hj')⟩
    rw [Nat.zero_add, Array.getElem?_append_left (by simpa using hj')]
    simp [hj']
  refine code_ok (U := U) hT hcf hm fn.body hr k hE ?_
  intro H a' w' g1 g2 g3 g4
  rw [← hrs] at hxs
  obtain ⟨vr, q1, q2⟩ := results_ok hT g4 g2 hxs
  have fin : a'.defers = [] ∧ ∃ v, (results g a'.tmps).run P w' = .ok v w' ∧ ∃ v', Ending.returned v = .returned v' ∧ ∃ H, G.Le H ∧ RepV ln H (tupV xs) v' ∧ HR ln w0 U H r.h w' := ⟨g3, vr, q2, vr, rfl, H, g1, q1, g4⟩
  obtain ⟨x, e1, hp1⟩ := r
  cases x with
  | normal => exact fin
  | ret => exact fin
  | exit id => cases hend
theorem call_ok (hT : TOk P T) (hm : P.follows .mixedOrders = true) {F : FuncId → Option Fn} {prim : FuncId → Option Prim} (hF : ∀ f fn, F f = some fn → FOk P f fn)
    (hP : ∀ (f : FuncId) (p : Prim), prim f = some p → ∀ (U : Nat → Prop) (G : Gh) (h : Hp) (w : World) (args : List V) (vs : List Value) (v : V) (h' : Hp), HR ln w0 U G h w → RepA ln G args vs → p args h = some (v, h') → Does P f vs.toArray w fun vr w' => ∃ H, G.Le H ∧ RepV ln H v vr ∧ HR ln w0 U H h' w') :
    ∀ n, CfOk P ln w0 (call T F prim n)
  | 0 => fun U G h w f args vs v h' k hA e => by cases e
  | n + 1 => fun U G h w f args vs v h' k hA e => by
    have e : (Option.rec (ob (F f) fun fn => callB T (call T F prim n) fn args h) (fun p => p args h) (prim f) : Option (V × Hp)) = some (v, h') := e
    cases hp : prim f with
    | some p =>
      rw [hp] at e
      exact hP f p hp U G h w args vs v h' k hA e
    | none =>
      rw [hp] at e
      obtain ⟨fn, hfn, e⟩ := ob_some e
      exact callB_ok hT (call_ok hT hm hF hP n) hm (hF f fn hfn) k hA e
end
end Go.Run
/- A meaning by run: the table of a program's types is right. -/
namespace Go.Run
open Go Go.RowKit
section
variable {P : Program} {ln : Nat} {G : Gh}
theorem ofCell_ok {v : Value} (h1 : v.oneCell' = true) : RepV ln G (ofCell v) v := by
  unfold ofCell
  split <;> first
    | exact .int _ _
    | exact .bool _
    | exact encB_ok _
    | exact .nils
    | exact .nilp
    | exact .nilf
    | exact .nili
    | exact .undef _ h1
theorem ofCells_ok : ∀ (l : List Value), (∀ v ∈ l, v.oneCell' = true) → RepC ln G (l.map ofCell) l
  | [], _ => .nil
  | v :: l, h => .cons (ofCell_ok (h v List.mem_cons_self)) (h v List.mem_cons_self) (ofCells_ok l fun u hu => h u (List.mem_cons_of_mem _ hu))
theorem kdOf_ok {t : TypeId} {k : Nat} (h : kdOf P t = some k) : isKind P t k := by
  unfold kdOf at h
  split at h
  · rename_i hu; cases h; exact ⟨fun _ => hu, ⟨fun h => (nomatch h), fun h => (nomatch h)⟩⟩
  · rename_i i hu; cases h; exact ⟨fun h => (nomatch h), ⟨fun _ => ⟨i, hu⟩, fun h => (nomatch h)⟩⟩
  · rename_i hu; cases h; exact ⟨fun h => (nomatch h), ⟨fun h => (nomatch h), fun _ => hu⟩⟩
  · cases h
theorem kdsOf_ok : ∀ (fs : List Field) (n : Nat) (ks : List Nat), kdsOf P n fs = some ks → flatFs P n ks fs
  | [], n, ks, h => by cases h; exact trivial
  | f :: fs, n, ks, h => by
    unfold kdsOf at h
    split at h
    · rename_i k ks' hk hks
      split at h
      · rename_i hc
        cases h
        exact ⟨hc.1, hc.2, kdOf_ok hk, kdsOf_ok fs (n + 1) ks' hks⟩
      · cases h
    · cases h
theorem eOf_ok : TOk P (eOf P) := by
  intro t d h
  unfold eOf at h
  split at h
  · rename_i i u hi hu
    split at h
    · rename_i z hz
      split at h
      · rename_i hc
        obtain ⟨hsz, hone⟩ := hc
        cases h
        have hone : ∀ v ∈ z.cells.toList, v.oneCell' = true := fun v hv => List.all_eq_true.1 hone v hv
        refine ⟨⟨i, z, hi, rfl, rfl, hz, fun ln G => ofCells_ok _ hone⟩, by simp [hsz], ⟨u, hu, rfl, fun e he => ?_, fun hb => ?_, fun hb => ?_, fun k hk => ?_, fun hk => ?_, fun hk => ?_, fun hk => ?_, fun hk => ?_⟩, fun f o ho => ?_, fun hne => ?_, fun f o n r ho => ?_, fun ks hks => ?_⟩
        · cases u <;> first | (cases he; done) | (cases he; rfl)
        · cases u <;> first | rfl | cases hb
        · cases u <;> first | rfl | cases hb
        · cases u <;> first | (cases hk; done) | (cases hk; rfl)
        · cases u <;> first | exact ⟨_, rfl⟩ | cases hk
        · cases u <;> first | exact ⟨_, rfl⟩ | cases hk
        · cases u <;> first | exact ⟨_, _, _, rfl⟩ | cases hk
        · cases u <;> first | exact ⟨_, rfl⟩ | cases hk
        · cases u with
          | struct fields =>
            have ho : ((fields.toList.map fun f => match P.info? f.type with | some i => (match i.size with | 0 => none | _ + 1 => some f.offset) | none => none) : List (Option Nat))[f]? = some (some o) := ho
            rw [List.getElem?_map] at ho
            cases hf : fields.toList[f]? with
            | none => rw [hf] at ho; cases ho
            | some fld =>
              rw [hf] at ho
              have ho : (match P.info? fld.type with | some i => (match i.size with | 0 => none | _ + 1 => some fld.offset) | none => none) = some o := Option.some.inj ho
              refine ⟨fields, fld, hu, by simpa using hf, ?_⟩
              cases hfi : P.info? fld.type with
              | none => rw [hfi] at ho; cases ho
              | some fi =>
                rw [hfi] at ho
                cases hs : fi.size with
                | zero => simp only [hs] at ho; cases ho
                | succ s =>
                  simp only [hs] at ho
                  cases ho
                  exact ⟨rfl, fi, rfl, by rw [hs]; exact Nat.succ_ne_zero s⟩
          | _ => simp [offsOf] at ho
        · cases u with
          | struct fields =>
            have hne : (fields.toList.mapM fun f => (P.info? f.type).map fun i => (f.offset, i.size)).getD [] ≠ [] := hne
            cases hm : (fields.toList.mapM fun f => (P.info? f.type).map fun i => (f.offset, i.size)) with
            | none => rw [hm] at hne; exact absurd rfl hne
            | some ps =>
              refine ⟨i, z, fields, hi, hz, hu, ?_, fun ln G => ofCells_ok _ hone⟩
              show _ = some ((fields.toList.mapM fun f => (P.info? f.type).map fun i => (f.offset, i.size)).getD [])
              rw [hm]
              rfl
          | _ => exact absurd rfl hne
        · cases u with
          | struct fields =>
            have ho : ((fields.toList.map fun f => match P.info? f.type, P.underlying f.type with | some i, some u => some (f.offset, i.size, rowOf u) | _, _ => none) : List (Option (Nat × Nat × Bool)))[f]? = some (some (o, n, r)) := ho
            rw [List.getElem?_map] at ho
            cases hf : fields.toList[f]? with
            | none => rw [hf] at ho; cases ho
            | some fld =>
              rw [hf] at ho
              have ho : (match P.info? fld.type, P.underlying fld.type with | some i, some u => some (fld.offset, i.size, rowOf u) | _, _ => none) = some (o, n, r) := Option.some.inj ho
              cases hfi : P.info? fld.type with
              | none => rw [hfi] at ho; cases ho
              | some fi =>
                cases hfu : P.underlying fld.type with
                | none => rw [hfi, hfu] at ho; cases ho
                | some fu =>
                  rw [hfi, hfu] at ho
                  cases ho
                  exact ⟨fields, fld, fu, fi, hu, by simpa using hf, rfl, hfu, rfl, hfi, rfl⟩
          | _ => simp [onesOf] at ho
        · cases u with
          | struct fields =>
            have hks : (if P.stoodInHeld t = false ∧ P.eqGuardType P.depth t = false then kdsOf P 0 fields.toList else none) = some ks := hks
            split at hks
            · rename_i hc
              have hff : P.fieldsOf t = fields := by simp [Program.fieldsOf, hu]
              rw [hff]
              exact ⟨hu, hc.1, hc.2, kdsOf_ok _ 0 ks hks⟩
            · cases hks
          | _ => cases hks
      · cases h
    · cases h
  · cases h
theorem fOf_ok {K : FuncId → Nat} (hn : ∀ (f : FuncId) (g : Func), P.funcs[f]? = some g → (g.name == "runtime.NumGoroutine") = false) (f : FuncId) (fn : Fn) (h : fOf P K f = some fn) : FOk P f fn := by
  unfold fOf at h
  split at h
  · rename_i g hg
    split at h
    · rename_i c hc
      cases h
      exact ⟨g, hg, hn f g hg, hc, rfl, rfl⟩
    · cases h
  · cases h
end
end Go.Run
/- A meaning by run: cut into pieces: states told anew, without what is not needed. -/
namespace Go.Run
open Go Go.RowKit
noncomputable section
/-- A value, and the same one where blocks bear other numbers. -/
def veqS (s : List Nat) : V → V → Bool
  | .sl b o l, .sl c o' l' => Option.rec false (fun d => band (Nat.beq b d) (band (Nat.beq o o') (Nat.beq l l'))) (nth s c)
  | .sle b o, .sle c o' => Option.rec false (fun d => band (Nat.beq b d) (Nat.beq o o')) (nth s c)
  | .ptr b o, .ptr c o' => Option.rec false (fun d => band (Nat.beq b d) (Nat.beq o o')) (nth s c)
  | .sl .., _ => false
  | .sle .., _ => false
  | .ptr .., _ => false
  | x, y => veq1 x y
def fillT (l : List Blk) : Nat → Tr Blk → Tr Blk := List.rec (motive := fun _ => Nat → Tr Blk → Tr Blk) (fun _ t => t) (fun x _ ih i t => ih (Nat.add i 1) (Tr.set 40 t i x)) l
def mkHp (l : List Blk) : Hp := ⟨l.length, fillT l 0 .nil⟩
def mkEnv (l : List (Nat × V)) : Env → Env := List.rec (motive := fun _ => Env → Env) (fun e => e) (fun p _ ih e => ih (e.set p.1 p.2)) l
def memB (x : Nat) (l : List Nat) : Bool := List.rec false (fun y _ ih => Bool.rec ih true (Nat.beq x y)) l
def nodupB (l : List Nat) : Bool := List.rec true (fun x r ih => band (bnot (memB x r)) ih) l
def allB {α : Type} (f : α → Bool) (l : List α) : Bool := List.rec true (fun x _ ih => band (f x) ih) l
def blkS (s : List Nat) (x y : Blk) : Bool := band (Nat.beq x.ty y.ty) (band (Nat.beq x.sz y.sz) (band (listEq (veqS s) x.cells y.cells) (band (bor (bnot y.opn) x.opn) (allB (fun a => bnot (memB a s)) x.anc))))
def blksS (h : Hp) (s : List Nat) (t : List Nat) : List Blk → Bool := List.rec (motive := fun _ => List Blk → Bool) (fun l => List.rec true (fun _ _ _ => false) l)
  (fun b _ ih l => List.rec false (fun y r _ => band (Option.rec false (fun x => blkS s x y) (getB h b)) (ih r)) l) t
/-- A state holds what is told. -/
def simB (s : List Nat) (n : Nat) (env : Env) (h : Hp) (slots : List (Nat × V)) (blks : List Blk) : Bool :=
  band (Nat.beq env.n n) (band (nodupB s) (band (Nat.ble blks.length 1000000) (band (allB (fun p => Option.rec false (fun x => veqS s x p.2) (env.get p.1)) slots) (blksS h s s blks))))
end
section
variable {P : Program} {T : TypeId → Option E} {ln : Nat} {w0 : World} {G : Gh} {h : Hp} {w : World} {env : Env} {a : Act} {cf : CallF}
/-- The ghost for the new numbers. -/
def Gh.via (G : Gh) (s : List Nat) : Gh := fun c => (s[c]?).bind G
theorem via_some {s : List Nat} {c : Nat} {y : Pl} : G.via s c = some y ↔ ∃ b, s[c]? = some b ∧ G b = some y := by
  unfold Gh.via
  rw [Option.bind_eq_some_iff]
theorem veq1_flat {x y : V} (e : veq1 x y = true) : (∀ xs, x ≠ .agg xs) ∧ (∀ xs, x ≠ .tup xs) ∧ (∀ f us vs, x = .clo f us vs → us = [] ∧ vs = []) := by
  unfold veq1 at e
  split at e
  case h_17 => cases e
  all_goals refine ⟨?_, ?_, ?_⟩
  all_goals first
    | (intro _ h; cases h; done)
    | (intro _ _ _ h; cases h; done)
    | (intro _ _ _ h; cases h; exact ⟨rfl, rfl⟩)
theorem veqS_ok {s : List Nat} {x y : V} (e : veqS s x y = true) {v : Value} (r : RepV ln G x v) : RepV ln (G.via s) y v := by
  have key : ∀ (x y : V), veq1 x y = true → (∀ b o l, x ≠ .sl b o l) → (∀ b o, x ≠ .sle b o) → (∀ b o, x ≠ .ptr b o) → ∀ v, RepV ln G x v → RepV ln (G.via s) y v := by
    intro x y e h1 h2 h3 v r
    rw [← veq1_eq x y e]
    cases r with
    | int => exact .int _ _
    | bool => exact .bool _
    | str z g1 g2 => exact .str z g1 g2
    | ivec g => exact .ivec g
    | svec z g1 g2 => exact .svec z g1 g2
    | sl => exact absurd rfl (h1 _ _ _)
    | sl0 ad => exact .sl0 ad
    | sle => exact absurd rfl (h2 _ _)
    | nils => exact .nils
    | ptr => exact absurd rfl (h3 _ _)
    | nilp => exact .nilp
    | clo f g k q1 q2 =>
      rename_i us vs
      have hus : us = [] ∧ vs = [] := (veq1_flat e).2.2 _ _ _ rfl
      obtain ⟨rfl, rfl⟩ := hus
      exact .clo f g k (fun i x hx => by simp at hx) (fun i x hx => by simp at hx)
    | nilf => exact .nilf
    | nili => exact .nili
    | erri t v => exact .erri t v
    | undef v g => exact .undef v g
    | agg => exact absurd rfl ((veq1_flat e).1 _)
    | tup => exact absurd rfl ((veq1_flat e).2.1 _)
    | junk v => exact .junk v
  unfold veqS at e
  split at e
  · rename_i b o l c o' l'
    rw [nth_eq] at e
    cases hs : s[c]? with
    | none => rw [hs] at e; cases e
    | some d =>
      rw [hs] at e
      obtain ⟨e1, e⟩ := band_true e
      obtain ⟨e2, e3⟩ := band_true e
      obtain rfl := beqN e1
      obtain rfl := beqN e2
      obtain rfl := beqN e3
      cases r with
      | sl hg hc hl => exact .sl (via_some.2 ⟨_, hs, hg⟩) hc hl
  · rename_i b o c o'
    rw [nth_eq] at e
    cases hs : s[c]? with
    | none => rw [hs] at e; cases e
    | some d =>
      rw [hs] at e
      obtain ⟨e1, e2⟩ := band_true e
      obtain rfl := beqN e1
      obtain rfl := beqN e2
      cases r with
      | sle hg hc => exact .sle (via_some.2 ⟨_, hs, hg⟩) hc
  · rename_i b o c o'
    rw [nth_eq] at e
    cases hs : s[c]? with
    | none => rw [hs] at e; cases e
    | some d =>
      rw [hs] at e
      obtain ⟨e1, e2⟩ := band_true e
      obtain rfl := beqN e1
      obtain rfl := beqN e2
      cases r with
      | ptr hg => exact .ptr (via_some.2 ⟨_, hs, hg⟩)
  · cases e
  · cases e
  · cases e
  · rename_i h1 h2 h3 h4 h5 h6
    exact key x y e (fun b o l hx => by subst hx; first | exact h1 _ _ _ rfl | exact h4 _ _ _ rfl) (fun b o hx => by subst hx; first | exact h2 _ _ rfl | exact h5 _ _ rfl) (fun b o hx => by subst hx; first | exact h3 _ _ rfl | exact h6 _ _ rfl) v r
end
end Go.Run
/- A meaning by run: cut into pieces: the relation for a state told anew; runs joined. -/
namespace Go.Run
open Go Go.RowKit
section
variable {P : Program} {T : TypeId → Option E} {ln : Nat} {w0 : World} {G : Gh} {h : Hp} {w : World} {env : Env} {a : Act} {cf : CallF}
theorem allB_all {α : Type} {f : α → Bool} : ∀ (l : List α), allB f l = true → ∀ x, x ∈ l → f x = true
  | [], _, x, hx => by cases hx
  | y :: l, h, x, hx => by
    obtain ⟨h1, h2⟩ := band_true (show band (f y) (allB f l) = true from h)
    rcases List.mem_cons.1 hx with rfl | hx
    · exact h1
    · exact allB_all l h2 x hx
theorem memB_iff {x : Nat} : ∀ {l : List Nat}, x ∈ l → memB x l = true
  | [], h => by cases h
  | y :: l, h => by
    show (Bool.rec (memB x l) true (Nat.beq x y) : Bool) = true
    cases hq : Nat.beq x y with
    | true => rfl
    | false =>
      rcases List.mem_cons.1 h with rfl | h
      · rw [show Nat.beq x x = true from Nat.beq_refl x] at hq; cases hq
      · exact memB_iff h
theorem nodupB_inj : ∀ {l : List Nat}, nodupB l = true → ∀ (i j : Nat) x, l[i]? = some x → l[j]? = some x → i = j
  | [], _, i, j, x, hi, _ => by simp at hi
  | y :: l, h, i, j, x, hi, hj => by
    obtain ⟨h1, h2⟩ := band_true (show band (bnot (memB y l)) (nodupB l) = true from h)
    have hy : ∀ k, l[k]? = some y → False := fun k hk => by
      rw [memB_iff (List.mem_of_getElem? hk)] at h1
      cases h1
    cases i with
    | zero =>
      cases hi
      cases j with
      | zero => rfl
      | succ j => exact (hy j (by simpa using hj)).elim
    | succ i =>
      cases j with
      | zero => cases hj; exact (hy i (by simpa using hi)).elim
      | succ j => rw [nodupB_inj h2 i j x (by simpa using hi) (by simpa using hj)]
theorem fillT_get : ∀ (l : List Blk) (i : Nat) (t : Tr Blk) (b : Nat), i + l.length ≤ 1000000 → (fillT l i t).get b = if i ≤ b ∧ b < i + l.length then l[b - i]? else t.get b
  | [], i, t, b, _ => by rw [if_neg (by show ¬ (i ≤ b ∧ b < i + 0); omega)]; rfl
  | x :: l, i, t, b, h => by
    have h : i + (l.length + 1) ≤ 1000000 := h
    show (fillT l (i + 1) (Tr.set 40 t i x)).get b = _
    rw [fillT_get l (i + 1) _ b (by omega)]
    by_cases c1 : b = i
    · subst c1
      rw [if_neg (by omega), if_pos ⟨Nat.le_refl _, by simp⟩, Nat.sub_self]
      exact Tr.get_set x 40 t b (by omega)
    · rw [Tr.get_set_ne x 40 t i b c1]
      by_cases c2 : i + 1 ≤ b ∧ b < i + 1 + l.length
      · rw [if_pos c2, if_pos ⟨by omega, by simp; omega⟩, show b - i = (b - (i + 1)) + 1 by omega, List.getElem?_cons_succ]
      · rw [if_neg c2, if_neg (by simp; omega)]
theorem getB_mk {l : List Blk} (hl : l.length ≤ 1000000) (b : Nat) : getB (mkHp l) b = l[b]? := by
  show (fillT l 0 .nil).get b = _
  rw [fillT_get l 0 _ b (by omega)]
  by_cases c : b < l.length
  · rw [if_pos ⟨Nat.zero_le _, by omega⟩, Nat.sub_zero]
  · rw [if_neg (by omega), List.getElem?_eq_none (by omega)]
    rfl
theorem blksS_get {s : List Nat} : ∀ (t : List Nat) (l : List Blk), blksS h s t l = true → t.length = l.length ∧ ∀ (c : Nat) y, l[c]? = some y → ∃ b x, t[c]? = some b ∧ getB h b = some x ∧ blkS s x y = true
  | [], [], _ => ⟨rfl, fun c y hc => by simp at hc⟩
  | [], _ :: _, e => by cases e
  | _ :: _, [], e => by cases e
  | b :: t, y :: l, e => by
    obtain ⟨h1, h2⟩ := band_true (show band (Option.rec false (fun x => blkS s x y) (getB h b)) (blksS h s t l) = true from e)
    obtain ⟨q1, q2⟩ := blksS_get t l h2
    refine ⟨by simp [q1], fun c z hc => ?_⟩
    cases c with
    | zero =>
      cases hc
      cases hg : getB h b with
      | none => rw [hg] at h1; cases h1
      | some x => rw [hg] at h1; exact ⟨b, x, rfl, hg, h1⟩
    | succ c => exact q2 c z (by simpa using hc)
theorem listEq_get {f : V → V → Bool} : ∀ (a b : List V), listEq f a b = true → a.length = b.length ∧ ∀ (i : Nat) y, b[i]? = some y → ∃ x, a[i]? = some x ∧ f x y = true
  | [], [], _ => ⟨rfl, fun i y hy => by simp at hy⟩
  | [], _ :: _, h => by cases h
  | _ :: _, [], h => by cases h
  | x :: a, y :: b, h => by
    have h : (Bool.rec false (listEq f a b) (f x y) : Bool) = true := h
    cases hx : f x y with
    | false => rw [hx] at h; cases h
    | true =>
      rw [hx] at h
      obtain ⟨q1, q2⟩ := listEq_get a b h
      refine ⟨by simp [q1], fun i z hz => ?_⟩
      cases i with
      | zero => cases hz; exact ⟨x, rfl, hx⟩
      | succ i => exact q2 i z (by simpa using hz)
/-- The relation for what is told of a state. -/
theorem HR.sim (k : HR ln w0 (fun _ => False) G h w) {s : List Nat} {blks : List Blk} (hs : nodupB s = true) (hn : blks.length ≤ 1000000) (hb : blksS h s s blks = true) : HR ln w0 (fun _ => False) (G.via s) (mkHp blks) w := by
  obtain ⟨hl, hg⟩ := blksS_get s blks hb
  refine ⟨fun c z hz hne => ?_, fun c z hz => ?_, fun c y hy => ?_, fun b c x z y q hx hz ho hne hy hq hp => ?_, hn, k.size, k.below, fun b hb => hb.elim⟩
  · rw [getB_mk hn] at hz
    obtain ⟨b, x, hsb, hx, e⟩ := hg c z hz
    obtain ⟨e1, e⟩ := band_true e
    obtain ⟨e2, e⟩ := band_true e
    obtain ⟨e3, e⟩ := band_true e
    obtain ⟨e4, e5⟩ := band_true e
    have hGb : G b ≠ none := fun h0 => hne (by unfold Gh.via; rw [hsb]; exact h0)
    obtain ⟨y, cur, fr, p1, p2, p3, p4, p5, p6, p7, p8⟩ := k.blk b x hx hGb
    obtain ⟨l1, l2⟩ := listEq_get _ _ e3
    refine ⟨y, cur, fr, via_some.2 ⟨b, hsb, p1⟩, p2.trans (beqN e2), by rw [← beqN e1]; exact p3, p4, by omega, by rw [← beqN e1]; exact p6, fun i v hv => ?_, fun ho => p8 ?_⟩
    · obtain ⟨u, hu, hq⟩ := l2 i v hv
      obtain ⟨vr, r1, r2, r3⟩ := p7 i u hu
      exact ⟨vr, r1, veqS_ok hq r2, r3⟩
    · rw [ho, bor_eq, bnot_eq] at e4
      simpa using e4
  · rw [getB_mk hn] at hz
    exact (List.getElem?_eq_some_iff.1 hz).1
  · obtain ⟨b, hsb, hy⟩ := via_some.1 hy
    refine ⟨?_, (k.gl b y hy).2⟩
    show c < blks.length
    rw [← hl]
    exact (List.getElem?_eq_some_iff.1 hsb).1
  · rw [getB_mk hn] at hx hz
    obtain ⟨b1, x1, hsb, hx1, e⟩ := hg b x hx
    obtain ⟨c1, z1, hsc, hz1, f⟩ := hg c z hz
    obtain ⟨b2, hsb2, hy⟩ := via_some.1 hy
    obtain ⟨c2, hsc2, hq⟩ := via_some.1 hq
    rw [hsb] at hsb2
    cases hsb2
    rw [hsc] at hsc2
    cases hsc2
    obtain ⟨_, e⟩ := band_true e
    obtain ⟨_, e⟩ := band_true e
    obtain ⟨e3, e⟩ := band_true e
    obtain ⟨e4, e5⟩ := band_true e
    obtain ⟨_, f⟩ := band_true f
    obtain ⟨_, f⟩ := band_true f
    obtain ⟨f3, f⟩ := band_true f
    obtain ⟨f4, f5⟩ := band_true f
    have ho1 : x1.opn = true := by
      rw [ho, bor_eq, bnot_eq] at e4
      simpa using e4
    have hne1 : b1 ≠ c1 := fun hh => hne (nodupB_inj hs b c b1 hsb (by rw [hh]; exact hsc))
    obtain ⟨s1, s2, s3⟩ := k.sep b1 c1 x1 z1 y q hx1 hz1 ho1 hne1 hy hq hp
    have hla := (listEq_get _ _ e3).1
    have hlc := (listEq_get _ _ f3).1
    have hz0 : z1.cells = [] := by
      rcases s1 with s1 | s1
      · have := allB_all _ e5 c1 s1
        rw [memB_iff (List.mem_of_getElem? hsc)] at this
        cases this
      · exact s1
    refine ⟨.inr (List.eq_nil_of_length_eq_zero (by rw [← hlc, hz0]; rfl)), ?_, by omega⟩
    cases hzo : z.opn with
    | false => rfl
    | true =>
      rw [hzo, bor_eq, bnot_eq, s2] at f4
      cases f4
theorem mkEnv_ok : ∀ (l : List (Nat × V)) (env : Env) {tmps : Array Value}, EnvR ln G env tmps → (∀ p, p ∈ l → ∃ u, tmps[p.1]? = some u ∧ RepV ln G p.2 u) → EnvR ln G (mkEnv l env) tmps
  | [], env, tmps, hE, _ => hE
  | p :: l, env, tmps, hE, hx => by
    obtain ⟨u, hu, hr⟩ := hx p List.mem_cons_self
    have h1 := hE.set p.1 hr
    rw [show tmps.setIfInBounds p.1 u = tmps from set_self hu] at h1
    exact mkEnv_ok l (env.set p.1 p.2) h1 fun q hq => hx q (List.mem_cons_of_mem _ hq)
/-- The frame and the state, told anew. -/
theorem sim_ok (k : HR ln w0 (fun _ => False) G h w) (hE : EnvR ln G env a.tmps) {s : List Nat} {n m : Nat} {slots : List (Nat × V)} {blks : List Blk} (e : simB s n env h slots blks = true) :
    HR ln w0 (fun _ => False) (G.via s) (mkHp blks) w ∧ EnvR ln (G.via s) (mkEnv slots ⟨n, m, [], .nil⟩) a.tmps := by
  obtain ⟨e1, e⟩ := band_true e
  obtain ⟨e2, e⟩ := band_true e
  obtain ⟨e3, e⟩ := band_true e
  obtain ⟨e4, e5⟩ := band_true e
  refine ⟨k.sim e2 (ble_le e3) e5, mkEnv_ok slots _ ⟨?_, ?_, fun t x hx => by rw [empty_get] at hx; cases hx⟩ fun p hp => ?_⟩
  · show n = _
    rw [← beqN e1]
    exact hE.n
  · show n ≤ 4000
    rw [← beqN e1]
    exact hE.le
  · have := allB_all _ e4 p hp
    cases hg : env.get p.1 with
    | none => rw [hg] at this; cases this
    | some x =>
      rw [hg] at this
      obtain ⟨u, hu, hr⟩ := hE.rep p.1 x hg
      exact ⟨u, hu, veqS_ok this hr⟩

/-- Code, from a state on. -/
def RunC (P : Program) (ln : Nat) (w0 : World) (c : Code) (env : Env) (h : Hp) (r : Rt) : Prop := ∀ (G : Gh) (w : World) (a : Act), HR ln w0 (fun _ => False) G h w → EnvR ln G env a.tmps → ∀ R : Exit → Act → World → Prop,
  (∀ H a' w', HR ln w0 (fun _ => False) H r.h w' → EnvR ln H r.env a'.tmps → a'.defers = a.defers → R r.ex.toExit a' w') → c.wp P R a w
theorem RunC.of_code (hT : TOk P T) (hcf : CfOk P ln w0 cf) (hm : P.follows .mixedOrders = true) {c : Code} {r : Rt} (e : code T cf c env h = some r) : RunC P ln w0 c env h r :=
  fun G w a k hE R kk => code_ok (U := fun _ => False) hT hcf hm c e k hE fun H a' w' g1 g2 g3 g4 => kk H a' w' g4 g2 g3
theorem RunC.seq {c1 c2 : Code} {env1 : Env} {h1 : Hp} {r : Rt} (r1 : RunC P ln w0 c1 env h ⟨.normal, env1, h1⟩) (r2 : RunC P ln w0 c2 env1 h1 r) : RunC P ln w0 (.seq c1 c2) env h r :=
  fun G w a k hE R kk => wp_seq (r1 G w a k hE _ fun H a' w' k' hE' hd => r2 H w' a' k' hE' R fun K b w2 q1 q2 q3 => kk K b w2 q1 q2 (q3.trans hd))
/-- Ahead of code: the state told anew. -/
theorem RunC.sim {c : Code} {r : Rt} {s : List Nat} {n m : Nat} {slots : List (Nat × V)} {blks : List Blk} (e : simB s n env h slots blks = true) (q : RunC P ln w0 c (mkEnv slots ⟨n, m, [], .nil⟩) (mkHp blks) r) : RunC P ln w0 c env h r :=
  fun G w a k hE R kk => by
    obtain ⟨k', hE'⟩ := sim_ok (m := m) k hE e
    exact q _ w a k' hE' R kk
theorem RunC.block {c : Code} {id : Nat} {r : Rt} (q : RunC P ln w0 c env h r) : RunC P ln w0 (.block id c) env h (unblk id r) :=
  fun G w a k hE R kk => wp_block (q G w a k hE _ fun H a' w' k' hE' hd => by
    obtain ⟨x, e1, h1⟩ := r
    cases x with
    | normal => exact kk H a' w' k' hE' hd
    | ret => exact kk H a' w' k' hE' hd
    | exit id' =>
      show (if id' = id then R .normal a' w' else R (.exit id') a' w')
      unfold unblk at kk
      cases hq : Nat.beq id' id with
      | true => simp only [hq] at kk; rw [if_pos (beqN hq)]; exact kk H a' w' k' hE' hd
      | false => simp only [hq] at kk; rw [if_neg (Nat.ne_of_beq_eq_false hq)]; exact kk H a' w' k' hE' hd)
/-- A loop: its rounds, one by one. -/
theorem RunC.loop {c : Code} {r : Rt} (N : Nat) (sts : Nat → St) (hr : ∀ i, i < N → RunC P ln w0 c (sts i).1 (sts i).2 ⟨.normal, (sts (i + 1)).1, (sts (i + 1)).2⟩) (hx : r.ex ≠ .normal) (hl : RunC P ln w0 c (sts N).1 (sts N).2 r) : RunC P ln w0 (.loop c) (sts 0).1 (sts 0).2 r :=
  fun G w a k hE R kk => by
    refine wp_loop_ghost (fun m a' w' => m ≤ N ∧ ∃ H, HR ln w0 (fun _ => False) H (sts (N - m)).2 w' ∧ EnvR ln H (sts (N - m)).1 a'.tmps ∧ a'.defers = a.defers) N ⟨Nat.le_refl _, G, by rw [Nat.sub_self]; exact k, by rw [Nat.sub_self]; exact hE, rfl⟩ ?_
    rintro m a' w' ⟨hm, H, k', hE', hd⟩
    cases m with
    | zero =>
      refine hl H w' a' (by simpa using k') (by simpa using hE') _ fun K b w2 q1 q2 q3 => ?_
      obtain ⟨x, e1, h1⟩ := r
      cases x with
      | normal => exact absurd rfl hx
      | exit id => exact kk K b w2 q1 q2 (q3.trans hd)
      | ret => exact kk K b w2 q1 q2 (q3.trans hd)
    | succ m =>
      refine hr (N - (m + 1)) (by omega) H w' a' k' hE' _ fun K b w2 q1 q2 q3 => ?_
      refine ⟨m, Nat.lt_succ_self m, by omega, K, ?_, ?_, q3.trans hd⟩
      · rw [show N - m = N - (m + 1) + 1 by omega]; exact q1
      · rw [show N - m = N - (m + 1) + 1 by omega]; exact q2
/-- Behind code: the state told anew. -/
theorem RunC.after {c : Code} {ex : Ex} {env1 : Env} {h1 : Hp} {s : List Nat} {n m : Nat} {slots : List (Nat × V)} {blks : List Blk} (q : RunC P ln w0 c env h ⟨ex, env1, h1⟩) (e : simB s n env1 h1 slots blks = true) : RunC P ln w0 c env h ⟨ex, mkEnv slots ⟨n, m, [], .nil⟩, mkHp blks⟩ :=
  fun G w a k hE R kk => q G w a k hE R fun H a' w' k' hE' hd => by
    obtain ⟨k2, hE2⟩ := sim_ok (m := m) k' hE' e
    exact kk _ a' w' k2 hE2 hd
end
end Go.Run
