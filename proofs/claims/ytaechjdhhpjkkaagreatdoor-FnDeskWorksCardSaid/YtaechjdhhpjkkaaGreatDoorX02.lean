/- A meaning by run: new rows, append, copy. -/
import Derived.Test.YtaechjdhhpjkkaaGreatDoorX01
import Derived.Lib.MinMax
set_option linter.unusedVariables false
set_option linter.unusedSimpArgs false
namespace Go.Run
open Go Go.RowKit
section
variable {P : Program} {T : TypeId → Option E} {ln : Nat} {w0 : World} {U : Nat → Prop} {G : Gh} {h : Hp} {w : World} {env : Env} {a : Act} {o : Oper}
theorem zero_size {t : TypeId} {d : E} (hd : d.Ok P t) {i : TypeInfo} {z : Value} (hi : P.info? t = some i) (hz : i.zero = some z) : z.cells.size = d.size := by
  obtain ⟨i', z', h1, _, _, h2, h3⟩ := hd.info
  rw [hi] at h1
  cases h1
  rw [hz] at h2
  cases h2
  have := (h3 0 (fun _ => none)).1
  rw [hd.zl] at this
  rw [this]
  simp
theorem oBuildSlice_ok (hT : TOk P T) (k : HR ln w0 U G h w) (hE : EnvR ln G env a.tmps) {t : TypeId} {n : Nat} {ps : Array (Nat × Operand)} {r : Rs} (e : oBuildSlice T t n ps env h = some r) (ho : o.op = .buildSlice t n ps) : Good P ln w0 U G w (execOp a.eval o) r := by
  obtain ⟨p, hp, e⟩ := ob_some e
  obtain ⟨vs, hvs, e⟩ := ob_some e
  obtain ⟨hle, e⟩ := bt_some e
  obtain ⟨l, hl, e⟩ := ob_some e
  obtain ⟨v, h', e2, rfl⟩ := rvh_some e
  obtain ⟨hu, hde, _⟩ := elemOf_ok hT hp
  obtain ⟨i, z, hi, hs, _, hz, hr⟩ := hde.info
  have hzs := zero_size hde hi hz
  have hle : n * p.2.size ≤ 16777216 := ble_le hle
  have hpp := evp_ok hE hvs
  have hrep := rep_ok (ln := ln) (G := G) (vs := z.cells) (hr ln G) n
  rw [hzs] at hrep
  obtain ⟨us, h1, h2⟩ := fill_ok (ln := ln) (G := G) _ vs _ _ _ l hpp hrep hl
  obtain ⟨c1, c2⟩ := cells_of h2
  obtain ⟨rfl, H, hleG, hH, hw⟩ := newB_ok (cur := us) (fr := (0, 0)) k e2 c1 c2 (nofr _)
  have husz : us.size = n * p.2.size := by
    have e1 := h2.1
    have e3 : l.length = (rep p.2.zero n).length := by
      clear h1 h2 c1 c2 hpp hw e2 e1
      -- what is filled keeps its length
      have : ∀ (ps : List (Nat × V)) (cs r : List V), fill (fun i => some (Nat.mul i p.2.size, p.2.size)) ps cs = some r → r.length = cs.length := by
        intro ps
        induction ps with
        | nil => intro cs r hf; cases hf; rfl
        | cons q ps ih =>
          intro cs r hf
          obtain ⟨q', hq', hf⟩ := ob_some (show ob (some (Nat.mul q.1 p.2.size, p.2.size)) (fun q' => ob q.2.flat fun xs => bt (Nat.beq xs.length q'.2) (ob (splice xs cs q'.1) (fill (fun i => some (Nat.mul i p.2.size, p.2.size)) ps))) = some r from hf)
          obtain ⟨xs, hxs, hf⟩ := ob_some hf
          obtain ⟨_, hf⟩ := bt_some hf
          obtain ⟨cs', hcs', hf⟩ := ob_some hf
          obtain ⟨hf1, rfl⟩ := splice_some _ _ _ _ hcs'
          rw [ih _ _ hf]
          simp
          omega
      exact this _ _ _ hl
    rw [rep_len, hde.zl] at e3
    rw [e3] at e1
    simpa using e1.symm
  refine ⟨H, _, hleG, hw, .inl ⟨.slice (some ⟨w.heap.size, 0, none⟩) n n, ?_, ?_⟩⟩
  · have := RepV.sl (ln := ln) (len := n) (off := 0) (cap := n) hH (by show 0 + 0 + n * p.2.size = us.size; omega) (Nat.le_refl n)
    simpa using this
  · have e3 : (Array.map (fun x => match x with | (i, x) => (i, a.eval x)) ps) = ps.map fun p => (p.1, a.eval p.2) := rfl
    have hrun : (Instr.buildSlice t n (ps.map fun p => (p.1, a.eval p.2))).run P w = .ok (.slice (some ⟨w.heap.size, 0, none⟩) n n) (w.alloc (.cells us p.1)) := by
      unfold Instr.buildSlice
      rw [Sem.run_bind, run_underlying hu, Result.andThen_ok]
      dsimp only
      rw [Sem.run_bind]
      have hsz : (sizeOf p.1).run P w = .ok p.2.size w := by simp [sizeOf, typeInfo, hi, hs]
      rw [hsz, Result.andThen_ok]
      rw [if_neg (by omega)]
      have hzv : (zeroValue p.1).run P w = .ok z w := by simp [zeroValue, typeInfo, hi, hz]
      have h1' : Instr.fill (fun i => some (i * p.2.size, p.2.size)) ((Array.range (n * p.2.size)).map fun j => z.cells[j % p.2.size]!) (ps.map fun p => (p.1, a.eval p.2)).toList = some us := by rw [Array.toList_map]; exact h1
      by_cases h0 : n * p.2.size = 0
      · have hz0 : (Array.range (n * p.2.size)).map (fun x => (#[] : Array Value)[x % (#[] : Array Value).size]!) = (Array.range (n * p.2.size)).map fun j => z.cells[j % p.2.size]! := by rw [h0]; simp
        rw [if_pos h0, Sem.run_bind]
        show (match Instr.fill _ ((Array.range (n * p.2.size)).map (fun x => (#[] : Array Value)[x % (#[] : Array Value).size]!)) _ with | some cells => _ | x => _ : Sem Value).run P w = _
        rw [hz0, h1']
        simp [newRow]
      · rw [if_neg h0, Sem.run_bind, hzv, Result.andThen_ok, Sem.run_bind]
        show (match Instr.fill _ ((Array.range (n * p.2.size)).map (fun x => z.cells[x % z.cells.size]!)) _ with | some cells => _ | x => _ : Sem Value).run P w = _
        rw [hzs, h1']
        simp [newRow]
    simp [execOp, ho]
    rw [e3, hrun]
    rfl
theorem oMakeSlice_ok (hT : TOk P T) (k : HR ln w0 U G h w) (hE : EnvR ln G env a.tmps) {t : TypeId} {x y : Operand} {r : Rs} (e : oMakeSlice T t x y env h = some r) (ho : o.op = .makeSlice t x y) : Good P ln w0 U G w (execOp a.eval o) r := by
  obtain ⟨p, hp, e⟩ := ob_some e
  obtain ⟨vl, hvl, e⟩ := ob_some e
  obtain ⟨l, hl, e⟩ := ob_some e
  obtain ⟨vc, hvc, e⟩ := ob_some e
  obtain ⟨c, hc, e⟩ := ob_some e
  obtain ⟨h1, e⟩ := bt_some e
  obtain ⟨h2, e⟩ := bt_some e
  obtain ⟨h3, e⟩ := bt_some e
  obtain ⟨v, h', e2, rfl⟩ := rvh_some e
  obtain ⟨hu, hde, _⟩ := elemOf_ok hT hp
  obtain ⟨i, z, hi, hs, hby, hz, hr⟩ := hde.info
  have hzs := zero_size hde hi hz
  have h1 : l ≤ c := ble_le h1
  have h2 : c * p.2.bytes ≤ 1000000000 := ble_le h2
  have h3 : c ≤ 1000000 := ble_le h3
  obtain ⟨kl, rfl⟩ := asNat_some hl
  obtain ⟨kc, rfl⟩ := asNat_some hc
  have rl := ev_ok hE hvl
  have rc := ev_ok hE hvc
  have hql : a.eval x = .int kl l := by generalize a.eval x = q at rl; cases rl; rfl
  have hqc : a.eval y = .int kc c := by generalize a.eval y = q at rc; cases rc; rfl
  have hrep := rep_ok (ln := ln) (G := G) (vs := z.cells) (hr ln G) c
  rw [hzs] at hrep
  obtain ⟨c1, c2⟩ := cells_of hrep
  obtain ⟨rfl, H, hleG, hH, hw⟩ := newB_ok (fr := (0, 0)) k e2 c1 c2 (nofr _)
  refine ⟨H, _, hleG, hw, .inl ⟨.slice (some ⟨w.heap.size, 0, none⟩) l c, ?_, ?_⟩⟩
  · have := RepV.sl (ln := ln) (len := l) (off := 0) (cap := c) hH (by show 0 + 0 + c * p.2.size = _; simp) h1
    simpa using this
  · have wl : IntKind.i64.wrap (l : Int) = l := by
      rw [← wrapF_eq]
      show (Bool.rec _ (l : Int) (Nat.blt l (lim .i64)) : Int) = _
      rw [blt_eq, decide_eq_true (show l < lim .i64 by show l < 9223372036854775808; omega)]
    have wc : IntKind.i64.wrap (c : Int) = c := by
      rw [← wrapF_eq]
      show (Bool.rec _ (c : Int) (Nat.blt c (lim .i64)) : Int) = _
      rw [blt_eq, decide_eq_true (show c < lim .i64 by show c < 9223372036854775808; omega)]
    have hrun : (Instr.makeSlice t (.int kl l) (.int kc c)).run P w = .ok (.slice (some ⟨w.heap.size, 0, none⟩) l c) (w.alloc (.cells ((Array.range (c * p.2.size)).map fun j => z.cells[j % p.2.size]!) p.1)) := by
      have hti : (typeInfo p.1).run P w = .ok i w := by simp [typeInfo, hi]
      have hal : (asInt (.int kl l)).run P w = .ok (l : Int) w := by simp [asInt, asIntOf]
      have hac : (asInt (.int kc c)).run P w = .ok (c : Int) w := by simp [asInt, asIntOf]
      have hbc : (c : Int) * (i.bytes : Int) ≤ 1000000000 := by rw [hby, ← Int.natCast_mul]; omega
      have hno : ((decide ((c : Int) < 0) || decide ((i.bytes : Int) * (c : Int) > 2 ^ 48)) || decide ((l : Int) < 0) || decide ((l : Int) > c)) = false := by
        have e1 : ¬ ((c : Int) < 0) := by omega
        have e2 : ¬ ((i.bytes : Int) * (c : Int) > 2 ^ 48) := by rw [Int.mul_comm]; omega
        have e3 : ¬ ((l : Int) < 0) := by omega
        have e4 : ¬ ((l : Int) > c) := by omega
        rw [decide_eq_false e1, decide_eq_false e2, decide_eq_false e3, decide_eq_false e4]
        rfl
      have hroom : (askRoom ((c : Int).toNat * i.bytes)).run P w = .ok () w := by unfold askRoom; split <;> rfl
      have hzv : (zeroValue p.1).run P w = .ok z w := by simp [zeroValue, typeInfo, hi, hz]
      have hsz : (sizeOf p.1).run P w = .ok p.2.size w := by simp [sizeOf, typeInfo, hi, hs]
      unfold Instr.makeSlice
      rw [Sem.run_bind, run_underlying hu, Result.andThen_ok]
      dsimp only
      rw [Sem.run_bind, hal, Result.andThen_ok, Sem.run_bind, hac, Result.andThen_ok, Sem.run_bind, hti, Result.andThen_ok]
      rw [wl, wc]
      rw [if_neg (by rw [hno]; exact Bool.false_ne_true), Sem.run_bind, hroom, Result.andThen_ok, Sem.run_bind, hsz, Result.andThen_ok]
      rw [show (c : Int).toNat = c from rfl, show (l : Int).toNat = l from rfl]
      by_cases h0 : c * p.2.size = 0
      · have hz0 : (Array.range (c * p.2.size)).map (fun x => (#[] : Array Value)[x % (#[] : Array Value).size]!) = (Array.range (c * p.2.size)).map fun j => z.cells[j % p.2.size]! := by rw [h0]; simp
        rw [if_pos h0, Sem.run_bind]
        show (do let a ← newRow p.1 ((Array.range (c * p.2.size)).map (fun x => (#[] : Array Value)[x % (#[] : Array Value).size]!)); pure (.slice (some a) l c) : Sem Value).run P w = _
        rw [hz0]
        simp [newRow]
      · rw [if_neg h0, Sem.run_bind, hzv, Result.andThen_ok, Sem.run_bind]
        show (do let a ← newRow p.1 ((Array.range (c * p.2.size)).map (fun x => z.cells[x % z.cells.size]!)); pure (.slice (some a) l c) : Sem Value).run P w = _
        rw [hzs]
        simp [newRow]
    simp [execOp, ho, hql, hqc, hrun]
end
end Go.Run
/- A meaning by run: append. -/
namespace Go.Run
open Go Go.RowKit
section
variable {P : Program} {T : TypeId → Option E} {ln : Nat} {w0 : World} {U : Nat → Prop} {G : Gh} {h : Hp} {w : World} {env : Env} {a : Act} {o : Oper}
/-- What the second argument of an append does. -/
structure App (P : Program) (t tx e : TypeId) (i : TypeInfo) (z : Value) (x : Value) (n : Nat) (news : List Value) (w : World) : Prop where
  len : news.length = n * i.size
  one : ∀ u ∈ news, u.oneCell' = true
  room : ∀ (ty : TypeId) (b off sLen sCap : Nat), sLen + n ≤ sCap → (∀ j, j < news.length → (w.cell? ⟨b, off + sLen * i.size + j, none⟩).isSome = true) → (∀ j, j < news.length → w.frozen? ⟨b, off + sLen * i.size + j, none⟩ = false) →
    (Builtin.append_ #[t, tx] ty #[.slice (some ⟨b, off, none⟩) sLen sCap, x]).run P w = .ok (.slice (some ⟨b, off, none⟩) (sLen + n) sCap) (w.setCells b (off + sLen * i.size) news)
  nought : n = 0 → ∀ (ty : TypeId) (base : Option Addr) (sLen sCap : Nat), sLen ≤ sCap → (Builtin.append_ #[t, tx] ty #[.slice base sLen sCap, x]).run P w = .ok (.slice base sLen sCap) w
  grow : ∀ (ty : TypeId) (base : Option Addr) (sLen sCap : Nat) (olds : List Value), (Builtin.firstCells i.size sLen (.slice base sLen sCap)).run P w.drew = .ok olds.toArray w.drew → sCap < sLen + n → ((sLen + n : Nat) : Int) ≤ 9223372036854775807 → Builtin.nextslicecap (sLen + n) sCap * i.bytes ≤ 281474976710656 →
    (Builtin.append_ #[t, tx] ty #[.slice base sLen sCap, x]).run P w = .ok (.slice (some ⟨w.heap.size, 0, none⟩) (sLen + n) (grownCap w (sLen + n) sCap e)) (w.drew.alloc (.cells ((olds ++ news).toArray ++ Builtin.zeroCells z.cells (grownCap w (sLen + n) sCap e - (sLen + n))) e))
theorem App.ofSrc {t tx e : TypeId} {i : TypeInfo} {z : Value} (ht : P.underlying t = some (.slice e)) (hi : P.info? e = some i) (hz : i.zero = some z) {x : Value} {n : Nat} {news : List Value} (hs : Src P i.size tx x n news w) : App P t tx e i z x n news w :=
  ⟨hs.newsLen, hs.one, fun ty b off sLen sCap h1 h2 h3 => run_append_room_src w t tx ty e i ht hi b off sLen sCap x n news hs h1 h2 h3,
    fun hn ty base sLen sCap hle => by
      subst hn
      have : news = [] := List.eq_nil_of_length_eq_zero (by rw [hs.newsLen]; omega)
      subst this
      rcases hs.kind with ⟨e', hk⟩ | hk <;> cases base <;> simp [Builtin.append_, run_underlying ht, run_underlying hk, sizeOf, typeInfo, hi, hs.len, hle, hs.cells, storeCells],
    fun ty base sLen sCap olds h1 h2 h3 h4 => run_append_grow_src w t tx ty e i z ht hi hz base sLen sCap olds h1 x n news hs h2 h3 h4⟩
/-- n elements that hold nothing yet. -/
theorem App.zeros {t tx e : TypeId} {i : TypeInfo} {z : Value} {k : IntKind} (ht : P.underlying t = some (.slice e)) (hi : P.info? e = some i) (hz : i.zero = some z) (hzs : z.cells.size = i.size) (htx : P.underlying tx = some (.int k)) {kk : IntKind} {n : Nat} (hn : n ≤ 1000000) (hb : n * i.bytes ≤ 1000000000) (ho : ∀ u ∈ z.cells.toList, u.oneCell' = true) :
    App P t tx e i z (.int kk n) n (Builtin.zeroCells z.cells n).toList w := by
  have wn : IntKind.i64.wrap (n : Int) = n := by
    rw [← wrapF_eq]
    show (Bool.rec _ (n : Int) (Nat.blt n (lim .i64)) : Int) = _
    rw [blt_eq, decide_eq_true (show n < lim .i64 by show n < 9223372036854775808; omega)]
  have hzc : (Builtin.zeroCells z.cells n).size = n * i.size := by simp [Builtin.zeroCells, hzs]
  have h48 : ¬ (281474976710656 < (n : Int) * (i.bytes : Int)) := by rw [← Int.natCast_mul]; omega
  have hn0 : ¬ ((n : Int) < 0) := by omega
  have hone : ∀ u ∈ (Builtin.zeroCells z.cells n).toList, u.oneCell' = true := fun u hu => by
    have hu' : u ∈ Builtin.zeroCells z.cells n := by simpa using hu
    obtain ⟨j, hj, rfl⟩ := Array.getElem_of_mem hu'
    simp only [Builtin.zeroCells, Array.getElem_map, Array.getElem_range]
    have hz0 : 0 < z.cells.size := by
      rcases Nat.eq_zero_or_pos z.cells.size with e | e
      · simp [Builtin.zeroCells, e] at hj
      · exact e
    have hm := Nat.mod_lt j hz0
    rw [getElem!_pos z.cells _ hm]
    exact ho _ (by simp)
  have hemp : n * i.size = 0 → Builtin.zeroCells z.cells n = #[] := fun h => Array.eq_empty_of_size_eq_zero (by rw [hzc, h])
  have hnn : (n : Int).toNat = n := rfl
  refine ⟨by simp [hzc], hone, fun ty b off sLen sCap h1 h2 h3 => ?_, fun hn0' ty base sLen sCap hle => ?_, fun ty base sLen sCap olds h1 h2 h3 h4 => ?_⟩
  · have hst := run_storeCells_cells (P := P) b (off + sLen * i.size) (Builtin.zeroCells z.cells n).toList 0 w (by simpa using h2) (by simpa using h3) hone
    simp only [Nat.add_zero] at hst
    by_cases h0 : n * i.size = 0
    · have he := hemp h0
      rw [he] at hst
      have h0' : n = 0 ∨ i.size = 0 := Nat.mul_eq_zero.1 h0
      simp [Builtin.append_, run_underlying ht, run_underlying htx, sizeOf, typeInfo, hi, Go.asInt, asIntOf, wn, hn0, h48, hnn, h1, h0, h0', he, Addr.add_lit, hst, storeCells, World.setCells]
    · have h0' : ¬ (n = 0 ∨ i.size = 0) := fun hh => h0 (Nat.mul_eq_zero.2 hh)
      simp [Builtin.append_, run_underlying ht, run_underlying htx, sizeOf, typeInfo, zeroValue, hi, hz, Go.asInt, asIntOf, wn, hn0, h48, hnn, h1, h0, h0', Addr.add_lit, hst]
  · subst hn0'
    have he := hemp (Nat.zero_mul _)
    have w0 : IntKind.i64.wrap 0 = 0 := by simpa using wn
    cases base <;> simp [Builtin.append_, run_underlying ht, run_underlying htx, sizeOf, typeInfo, hi, Go.asInt, asIntOf, w0, hle, storeCells]
  · have hnr : ¬ (sLen + n ≤ sCap) := by omega
    have h63' : ¬ (9223372036854775807 < ((sLen : Int) + (n : Int))) := by omega
    have h48' : ¬ (281474976710656 < Builtin.nextslicecap (sLen + n) sCap * i.bytes) := by omega
    by_cases h0 : n * i.size = 0
    · have he := hemp h0
      have h0' : n = 0 ∨ i.size = 0 := Nat.mul_eq_zero.1 h0
      simp [Builtin.append_, run_underlying ht, run_underlying htx, sizeOf, typeInfo, zeroValue, hi, hz, Go.asInt, asIntOf, wn, hn0, h48, hnn, hnr, h63', h48', Question.forced, h0, h0', he, h1, newRow, grownCap]
    · have h0' : ¬ (n = 0 ∨ i.size = 0) := fun hh => h0 (Nat.mul_eq_zero.2 hh)
      simp [Builtin.append_, run_underlying ht, run_underlying htx, sizeOf, typeInfo, zeroValue, hi, hz, Go.asInt, asIntOf, wn, hn0, h48, hnn, hnr, h63', h48', Question.forced, h0, h0', h1, newRow, grownCap]
      congr 2
      apply Array.ext'
      simp
/-- A new row. -/
theorem grow_ok (k : HR ln w0 U G h w) {t tx e : TypeId} {i : TypeInfo} {z xv : Value} {n sz : Nat} {news : List Value} {vs : List V} (hA : App P t tx e i z xv n news w) (hz : z.cells.size = i.size) (hs : i.size = sz) (rn : RepC ln G vs news)
    {base : Option Addr} {sLen sCap : Nat} {olds : List Value} {os : List V} (ro : RepC ln G os olds) (hol : olds.length = sLen * i.size) (hfc : (Builtin.firstCells i.size sLen (.slice base sLen sCap)).run P w.drew = .ok olds.toArray w.drew) (hg : sCap < sLen + n)
    (h1 : sLen ≤ 1000000) (h2 : n ≤ 1000000) (hb : (sLen + n) * i.bytes ≤ 1000000000) {anc : List Nat} {v : V} {h' : Hp} (e1 : newB h ⟨e, sz, os ++ vs, true, anc⟩ (fun b => .sl b 0 (sLen + n)) = some (v, h')) :
    ∃ H w' vr, G.Le H ∧ HR ln w0 U H h' w' ∧ RepV ln H v vr ∧ ∀ ty, (Builtin.append_ #[t, tx] ty #[.slice base sLen sCap, xv]).run P w = .ok vr w' := by
  have hrun := fun ty => hA.grow ty base sLen sCap olds hfc hg (by omega) (growslice_fits hg (by omega))
  have hge := grownCap_ge w (sLen + n) sCap e
  generalize grownCap w (sLen + n) sCap e = c at hrun hge
  have r := ro.append rn
  have hl : (os ++ vs).length = (sLen + n) * i.size := by rw [r.1, List.length_append, hol, hA.len, Nat.add_mul]
  have hzl : (Builtin.zeroCells z.cells (c - (sLen + n))).size = (c - (sLen + n)) * i.size := by simp [Builtin.zeroCells, hz]
  have hsz : ((olds ++ news).toArray ++ Builtin.zeroCells z.cells (c - (sLen + n))).size = c * i.size := by
    rw [Array.size_append, List.size_toArray, ← r.1, hl, hzl, ← Nat.add_mul]
    congr 1
    omega
  obtain ⟨rfl, H, hle, hH, hw⟩ := newB_ok (cur := (olds ++ news).toArray ++ Builtin.zeroCells z.cells (c - (sLen + n))) (fr := (0, 0)) k.drew e1 (by rw [hsz, hl]; exact Nat.mul_le_mul_right _ hge) (fun j q hj => by
    have hjl := (List.getElem?_eq_some_iff.1 hj).1
    have hjl' : j < (olds ++ news).length := by rw [← r.1]; exact hjl
    refine ⟨(olds ++ news)[j], ?_, r.2 j q _ hj (List.getElem?_eq_getElem hjl')⟩
    rw [Array.getElem?_append_left (by simpa using hjl')]
    rw [List.getElem?_toArray, List.getElem?_eq_getElem hjl']) (nofr _)
  refine ⟨H, _, _, hle, hw, ?_, hrun⟩
  have := RepV.sl (ln := ln) (len := sLen + n) (off := 0) (cap := c) hH (by show 0 + 0 + c * sz = _; rw [hsz, hs]; simp) hge
  simpa using this
end
end Go.Run
/- A meaning by run: append, joined; further builtins. -/
namespace Go.Run
open Go Go.RowKit
section
variable {P : Program} {T : TypeId → Option E} {ln : Nat} {w0 : World} {U : Nat → Prop} {G : Gh} {h : Hp} {w : World} {env : Env} {a : Act} {o : Oper}
theorem ba_size (s : ByteArray) : s.size = s.data.toList.length := by rw [Array.length_toList]; rfl
/-- A slice's cells. -/
theorem cellsOf_ok (k : HR ln w0 U G h w) {sz n : Nat} {x : V} {vs : List V} (e : cellsOf h sz x = some (n, vs)) {xv : Value} (rx : RepV ln G x xv) :
    (xv = .slice none 0 0 ∧ n = 0 ∧ vs = []) ∨ ∃ ad c news, xv = .slice (some ad) n c ∧ news.length = n * sz ∧ RepC ln G vs news ∧ ∀ j u, news[j]? = some u → w.cell? (ad.add j) = some u := by
  unfold cellsOf at e
  split at e
  · cases e; cases rx; exact .inl ⟨rfl, rfl, rfl⟩
  · cases e; cases rx; exact .inr ⟨_, _, [], rfl, by simp, .nil, fun j u hj => by simp at hj⟩
  · cases e; cases rx; exact .inr ⟨_, _, [], rfl, by simp, .nil, fun j u hj => by simp at hj⟩
  · obtain ⟨l, hl, e⟩ := ob_some e
    cases e
    obtain ⟨y, cap, hg, _, _, rfl⟩ := rx.of_sl
    obtain ⟨y', us, h1, h2, h3, h4⟩ := k.loaded hg hl
    rw [hg] at h1
    cases h1
    exact .inr ⟨_, _, us, rfl, h3, h2, fun j u hj => by rw [Addr.add_lit]; exact h4 j u hj⟩
  · cases e
theorem appS_ok (hT : TOk P T) (k : HR ln w0 U G h w) {t tx e : TypeId} {de dx : E} {i : TypeInfo} {z : Value} (ht : P.underlying t = some (.slice e)) (hi : P.info? e = some i) (hz : i.zero = some z) (hsz : i.size = de.size) (hdx : T tx = some dx)
    {x : V} {xv : Value} (rx : RepV ln G x xv) {n : Nat} {vs : List V} (eq : appS de dx h x = some (n, vs)) : ∃ news, App P t tx e i z xv n news w ∧ RepC ln G vs news := by
  obtain ⟨u, hu, _, hel, _, hstr, _⟩ := (hT tx dx hdx).und
  unfold appS at eq
  split at eq
  · obtain ⟨g1, eq⟩ := bt_some eq
    obtain ⟨g2, eq⟩ := bt_some eq
    obtain ⟨_, eq⟩ := bt_some eq
    cases eq
    have g2 : de.size = 1 := beq_eq g2
    rw [hstr g1] at hu
    cases rx with
    | str s h1 h2 =>
      refine ⟨byteCells s, App.ofSrc ht hi hz ?_, strCells_ok h1 h2⟩
      have := Src.ofString w hu s
      rw [ba_size, h1] at this
      rw [hsz, g2]
      exact this
  · obtain ⟨g1, eq⟩ := bt_some eq
    obtain ⟨g2, eq⟩ := bt_some eq
    obtain ⟨_, eq⟩ := bt_some eq
    cases eq
    have g2 : de.size = 1 := beq_eq g2
    rw [hstr g1] at hu
    cases rx with
    | svec s h1 h2 =>
      refine ⟨byteCells s, App.ofSrc ht hi hz ?_, svecCells_ok h1 h2⟩
      have := Src.ofString w hu s
      rw [ba_size, h1] at this
      rw [hsz, g2]
      exact this
  · obtain ⟨g1, eq⟩ := bt_some eq
    obtain ⟨e', he⟩ := Option.isSome_iff_exists.1 g1
    rw [hel e' he] at hu
    rcases cellsOf_ok k eq rx with ⟨rfl, rfl, rfl⟩ | ⟨ad, c, news, rfl, q1, q2, q3⟩
    · exact ⟨[], App.ofSrc ht hi hz (Src.ofNil w hu 0), .nil⟩
    · exact ⟨news, App.ofSrc ht hi hz (Src.ofSlice w hu ad n c news (by rw [hsz]; exact q1) q3 q2.one), q2⟩
theorem appX_ok (hT : TOk P T) (k : HR ln w0 U G h w) {t tx e : TypeId} {de dx : E} {i : TypeInfo} {z : Value} (ht : P.underlying t = some (.slice e)) (hi : P.info? e = some i) (hz : i.zero = some z) (hsz : i.size = de.size) (hby : i.bytes = de.bytes) (hzs : z.cells.size = i.size)
    (hr : ∀ ln G, RepC ln G de.zero z.cells.toList) (hdx : T tx = some dx) {x : V} {xv : Value} (rx : RepV ln G x xv) {n : Nat} {vs : List V} (eq : appX de dx h x = some (n, vs)) (hb : n * de.bytes ≤ 1000000000) : ∃ news, App P t tx e i z xv n news w ∧ RepC ln G vs news := by
  unfold appX at eq
  cases hk : dx.ik with
  | none =>
    rw [hk] at eq
    exact appS_ok hT k ht hi hz hsz hdx rx eq
  | some ik =>
    rw [hk] at eq
    obtain ⟨m, hm, eq⟩ := ob_some (show ob (asNat x) (fun n => bt (Nat.ble n 1000000) (some (n, rep de.zero n))) = some (n, vs) from eq)
    obtain ⟨hle, eq⟩ := bt_some eq
    cases eq
    obtain ⟨u, hu, _, _, _, _, hik, _⟩ := (hT tx dx hdx).und
    rw [hik ik hk] at hu
    obtain ⟨kk, rfl⟩ := asNat_some hm
    have : xv = .int kk n := by cases rx; rfl
    subst this
    refine ⟨_, App.zeros ht hi hz hzs hu (ble_le hle) (by rw [hby]; exact hb) (hr ln G).one, ?_⟩
    exact rep_ok (hr ln G) n
theorem append_sl (k : HR ln w0 U G h w) {t tx e : TypeId} {de : E} {i : TypeInfo} {z xv : Value} {n : Nat} {news : List Value} {vs : List V} (hA : App P t tx e i z xv n news w) (hz : z.cells.size = i.size) (hs : i.size = de.size) (hby : i.bytes = de.bytes) (h0 : 0 < de.size)
    (hn : n ≤ 1000000) (rn : RepC ln G vs news) {b off len : Nat} {sv : Value} (rs : RepV ln G (.sl b off len) sv) {v : V} {h' : Hp} (eq : appIn e de b off len n vs h = some (v, h')) :
    ∃ H w' vr, G.Le H ∧ HR ln w0 U H h' w' ∧ RepV ln H v vr ∧ ∀ ty, (Builtin.append_ #[t, tx] ty #[sv, xv]).run P w = .ok vr w' := by
  obtain ⟨y, cap, hg, hc, hle, rfl⟩ := rs.of_sl
  obtain ⟨x, hx, eq⟩ := ob_some eq
  obtain ⟨hop, eq⟩ := bt_some eq
  obtain ⟨g1, eq⟩ := bt_some eq
  obtain ⟨g2, eq⟩ := bt_some eq
  obtain ⟨g3, eq⟩ := bt_some eq
  obtain ⟨g4, eq⟩ := bt_some eq
  have g1 : len ≤ 1000000 := ble_le g1
  have g2 : (len + n) * de.bytes ≤ 1000000000 := ble_le g2
  have g3 : x.sz = de.size := beq_eq g3
  have g4 : x.ty = e := beq_eq g4
  obtain ⟨y', cur, fr, p1, p2, p3, p4, p5, p6, p7, p8⟩ := k.blk b x hx (Gh.ne hg)
  rw [hg] at p1
  cases p1
  have hys : y.s = i.size := by rw [p2, g3, hs]
  have hvl : vs.length = n * i.size := by rw [rn.1, hA.len]
  rw [hys] at hc
  rw [← hs] at eq h0
  cases hin : Nat.ble (Nat.add (Nat.add off (Nat.mul len i.size)) (Nat.mul n i.size)) x.cells.length with
  | true =>
    rw [hin] at eq
    have hin : off + len * i.size + n * i.size ≤ x.cells.length := ble_le hin
    obtain ⟨h2, e2, eq⟩ := ob_some (show ob (storeC h b (Nat.add off (Nat.mul len i.size)) vs) (fun h => some (.sl b off (Nat.add len n), h)) = some (v, h') from eq)
    cases eq
    obtain ⟨x2, e3, e2⟩ := ob_some e2
    rw [hx] at e3
    cases e3
    obtain ⟨_, e2⟩ := bt_some e2
    obtain ⟨cs, hcs, e2⟩ := ob_some e2
    cases e2
    obtain ⟨y2, q1, q2, q3, q4⟩ := k.put hx hg hop hcs rn
    rw [hg] at q1
    cases q1
    have hroom : len + n ≤ cap := by
      have : (len + n) * i.size ≤ cap * i.size := by rw [Nat.add_mul]; omega
      exact Nat.le_of_mul_le_mul_right this h0
    have hadd : y.o + Nat.add off (Nat.mul len i.size) = y.o + off + len * i.size := by show y.o + (off + len * i.size) = _; omega
    rw [hadd] at q2 q3 q4
    refine ⟨G, _, _, Gh.Le.refl G, q2, .sl hg (by rw [hys]; exact hc) hroom, fun ty => hA.room ty y.p (y.o + off) len cap hroom q3 q4⟩
  | false =>
    rw [hin] at eq
    obtain ⟨hend, eq⟩ := bt_some eq
    have hend : off + len * i.size = x.cells.length := beq_eq hend
    have hoff : off ≤ x.cells.length := by omega
    rw [dropN_eq] at eq
    by_cases hroom : len + n ≤ cap
    · obtain ⟨hl, eq⟩ := bt_some eq
      cases eq
      have hl := blt_lt hl
      have hk : y.o + x.cells.length + vs.length ≤ y.k := by
        have : (len + n) * i.size ≤ cap * i.size := Nat.mul_le_mul_right _ hroom
        rw [Nat.add_mul] at this
        rw [hvl]
        omega
      obtain ⟨H, q1, q2, q3, q4, q5⟩ := k.more hx hop hoff rn hg hk hl
      have hadd : y.o + x.cells.length = y.o + off + len * i.size := by omega
      rw [hadd] at q3 q4 q5
      rw [g4, g3, ← hs] at q3
      refine ⟨H, _, _, q1, q3, ?_, fun ty => hA.room ty y.p (y.o + off) len cap hroom q4 q5⟩
      have := RepV.sl (ln := ln) (len := len + n) (off := 0) (cap := cap) q2 (by show y.o + off + 0 + cap * y.s = y.k; rw [hys]; omega) hroom
      show RepV ln H (.sl h.next 0 (len + n)) _
      simpa using this
    · have ks := k.shut hx
      obtain ⟨y2, us, q1, q2, q3, q4⟩ := k.piece hx hg (off := off) (n := len * i.size) (l := x.cells.drop off) (by
        rw [dropN_eq]
        cases hq : takeN (x.cells.drop off) (len * i.size) with
        | some r =>
          obtain ⟨_, rfl⟩ := takeN_some _ _ _ hq
          rw [List.take_of_length_le]
          rw [List.length_drop]
          omega
        | none =>
          exfalso
          have : ∀ (l : List V) (m : Nat), m ≤ l.length → takeN l m ≠ none := by
            intro l
            induction l with
            | nil => intro m hm; cases m with
              | zero => intro hh; cases hh
              | succ m => simp at hm
            | cons c l ih => intro m hm; cases m with
              | zero => intro hh; cases hh
              | succ m =>
                intro hh
                have hm : m ≤ l.length := by simpa using hm
                cases hr : takeN l m with
                | none => exact ih m hm hr
                | some r =>
                  have hh : ob (takeN l m) (fun l => some (c :: l)) = none := hh
                  rw [hr] at hh
                  cases hh
          exact this _ _ (by rw [List.length_drop]; omega) hq)
      rw [hg] at q1
      cases q1
      refine grow_ok ks hA hz rfl rn q2 q3 ?_ (by omega) g1 hn (by rw [hby]; exact g2) eq
      exact run_firstCells_some w.drew i.size len _ len cap us q3 (fun j u hj => by rw [Addr.add_lit, World.cell?_drew]; exact q4 j u hj)
theorem append_sle (k : HR ln w0 U G h w) {t tx e : TypeId} {de : E} {i : TypeInfo} {z xv : Value} {n : Nat} {news : List Value} {vs : List V} (hA : App P t tx e i z xv n news w) (hz : z.cells.size = i.size) (hs : i.size = de.size) (hby : i.bytes = de.bytes) (h0 : 0 < de.size)
    (hn0 : 0 < n) (hn : n ≤ 1000000) (hb : n * de.bytes ≤ 1000000000) (rn : RepC ln G vs news) {b off : Nat} {sv : Value} (rs : RepV ln G (.sle b off) sv) {v : V} {h' : Hp} (eq : appE e de b off n vs h = some (v, h')) :
    ∃ H w' vr, G.Le H ∧ HR ln w0 U H h' w' ∧ RepV ln H v vr ∧ ∀ ty, (Builtin.append_ #[t, tx] ty #[sv, xv]).run P w = .ok vr w' := by
  obtain ⟨y, ad, cap, hg, hc, rfl⟩ := rs.of_sle
  obtain ⟨x, hx, eq⟩ := ob_some eq
  obtain ⟨hop, eq⟩ := bt_some eq
  obtain ⟨g3, eq⟩ := bt_some eq
  obtain ⟨g4, eq⟩ := bt_some eq
  obtain ⟨hend, eq⟩ := bt_some eq
  have g3 : x.sz = de.size := beq_eq g3
  have g4 : x.ty = e := beq_eq g4
  have hend : off = x.cells.length := beq_eq hend
  obtain ⟨y', cur, fr, p1, p2, p3, p4, p5, p6, p7, p8⟩ := k.blk b x hx (Gh.ne hg)
  rw [hg] at p1
  cases p1
  have hys : y.s = i.size := by rw [p2, g3, hs]
  have hvl : vs.length = n * i.size := by rw [rn.1, hA.len]
  rw [hys] at hc
  rw [← hs] at eq h0
  by_cases hroom : n ≤ cap
  · rcases hc with ⟨rfl, hc⟩ | hc
    · obtain ⟨hl, eq⟩ := bt_some eq
      cases eq
      have hl := blt_lt hl
      have hk : y.o + x.cells.length + vs.length ≤ y.k := by
        have : n * i.size ≤ cap * i.size := Nat.mul_le_mul_right _ hroom
        rw [hvl]
        omega
      obtain ⟨H, q1, q2, q3, q4, q5⟩ := k.more hx hop (off := off) (by omega) rn hg hk hl
      have hadd : y.o + x.cells.length = y.o + off + 0 * i.size := by omega
      have hdr : x.cells.drop off ++ vs = vs := by rw [List.drop_of_length_le (by omega)]; rfl
      rw [hadd] at q3 q4 q5
      rw [g4, g3, ← hs, hdr] at q3
      refine ⟨H, _, _, q1, q3, ?_, fun ty => hA.room ty y.p (y.o + off) 0 cap (by omega) q4 q5⟩
      have := RepV.sl (ln := ln) (len := n) (off := 0) (cap := cap) q2 (by show y.o + off + 0 + cap * y.s = y.k; rw [hys]; omega) hroom
      show RepV ln H (.sl h.next 0 n) _
      simpa using this
    · omega
  · have ks := k.shut hx
    refine grow_ok (sLen := 0) (os := []) (olds := []) ks hA hz rfl rn .nil (by simp) ?_ (by omega) (by omega) hn (by rw [Nat.zero_add, hby]; exact hb) (by rw [Nat.zero_add]; exact eq)
    exact run_firstCells_some w.drew i.size 0 _ 0 cap [] (by simp) (fun j u hj => by simp at hj)
theorem append_none (k : HR ln w0 U G h w) {t tx e : TypeId} {de : E} {i : TypeInfo} {z xv : Value} {n : Nat} {news : List Value} {vs : List V} (hA : App P t tx e i z xv n news w) (hz : z.cells.size = i.size) (hs : i.size = de.size) (hby : i.bytes = de.bytes)
    (hn0 : 0 < n) (hn : n ≤ 1000000) (hb : n * de.bytes ≤ 1000000000) (rn : RepC ln G vs news) {base : Option Addr} {v : V} {h' : Hp} (eq : newB h ⟨e, de.size, vs, true, []⟩ (fun b => .sl b 0 n) = some (v, h')) :
    ∃ H w' vr, G.Le H ∧ HR ln w0 U H h' w' ∧ RepV ln H v vr ∧ ∀ ty, (Builtin.append_ #[t, tx] ty #[.slice base 0 0, xv]).run P w = .ok vr w' := by
  refine grow_ok (sLen := 0) (os := []) (olds := []) k hA hz hs rn .nil (by simp) ?_ (by omega) (by omega) hn (by rw [Nat.zero_add, hby]; exact hb) (by rw [Nat.zero_add]; exact eq)
  cases base with
  | none => exact run_firstCells_none w.drew i.size 0 0 0
  | some b => exact run_firstCells_some w.drew i.size 0 b 0 0 [] (by simp) (fun j u hj => by simp at hj)
theorem appendV_ok (hT : TOk P T) (k : HR ln w0 U G h w) {t tx e : TypeId} {de dx : E} (ht : P.underlying t = some (.slice e)) (hde : de.Ok P e) (hdx : T tx = some dx) {s x : V} {sv xv : Value} (rs : RepV ln G s sv) (rx : RepV ln G x xv) {n : Nat} {vs : List V} (ex : appX de dx h x = some (n, vs))
    {v : V} {h' : Hp} (eq : appendV e de s n vs h = some (v, h')) : ∃ H w' vr, G.Le H ∧ HR ln w0 U H h' w' ∧ RepV ln H v vr ∧ ∀ ty, (Builtin.append_ #[t, tx] ty #[sv, xv]).run P w = .ok vr w' := by
  obtain ⟨i, z, hi, hs, hby, hz, hr⟩ := hde.info
  have hzs : z.cells.size = i.size := (zero_size hde hi hz).trans hs.symm
  cases n with
  | zero =>
    obtain ⟨hsl, eq⟩ := bt_some eq
    cases eq
    obtain ⟨news, hA, rn⟩ := appX_ok hT k ht hi hz hs hby hzs hr hdx rx ex (by omega)
    refine ⟨G, w, sv, Gh.Le.refl G, k, rs, fun ty => ?_⟩
    cases rs with
    | sl hg hc hl => exact hA.nought rfl ty _ _ _ hl
    | sl0 a => exact hA.nought rfl ty _ _ _ (Nat.le_refl _)
    | sle hg hc => exact hA.nought rfl ty _ _ _ (Nat.zero_le _)
    | nils => exact hA.nought rfl ty _ _ _ (Nat.le_refl _)
    | _ => cases hsl
  | succ n =>
    obtain ⟨h1, eq⟩ := bt_some (show bt (Nat.ble (Nat.mul (n + 1) de.bytes) 1000000000) (bt (Nat.ble (n + 1) 1000000) (bt (Nat.blt 0 de.size) (appV e de (n + 1) vs h s))) = some (v, h') from eq)
    obtain ⟨h2, eq⟩ := bt_some eq
    obtain ⟨h3, eq⟩ := bt_some eq
    have h1 : (n + 1) * de.bytes ≤ 1000000000 := ble_le h1
    have h2 : n + 1 ≤ 1000000 := ble_le h2
    have h3 : 0 < de.size := blt_lt h3
    obtain ⟨news, hA, rn⟩ := appX_ok hT k ht hi hz hs hby hzs hr hdx rx ex h1
    unfold appV at eq
    split at eq
    · cases rs
      exact append_none k hA hzs hs hby (by omega) h2 h1 rn eq
    · cases rs
      exact append_none k hA hzs hs hby (by omega) h2 h1 rn eq
    · exact append_sl k hA hzs hs hby h3 h2 rn rs eq
    · exact append_sle k hA hzs hs hby h3 (by omega) h2 h1 rn rs eq
    · cases eq
end
end Go.Run
/- A meaning by run: builtins, calls, any operation. -/
namespace Go.Run
open Go Go.RowKit
section
variable {P : Program} {T : TypeId → Option E} {ln : Nat} {w0 : World} {U : Nat → Prop} {G : Gh} {h : Hp} {w : World} {env : Env} {a : Act} {o : Oper}
theorem RepA.one {x : V} {vs : List Value} (r : RepA ln G [x] vs) : ∃ v, vs = [v] ∧ RepV ln G x v := by
  match vs, r with
  | [], r => cases r.1
  | [v], r => exact ⟨v, rfl, r.2 0 x v rfl rfl⟩
  | _ :: _ :: _, r => cases r.1
theorem RepA.two {x y : V} {vs : List Value} (r : RepA ln G [x, y] vs) : ∃ v u, vs = [v, u] ∧ RepV ln G x v ∧ RepV ln G y u := by
  match vs, r with
  | [], r => cases r.1
  | [v], r => cases r.1
  | [v, u], r => exact ⟨v, u, rfl, r.2 0 x v rfl rfl, r.2 1 y u rfl rfl⟩
  | _ :: _ :: _ :: _, r => cases r.1
theorem bLen_ok (hT : TOk P T) (k : HR ln w0 U G h w) {vs : List V} {ts : List TypeId} {us : List Value} (ru : RepA ln G vs us) {r : Rs} (e : bLen T h vs ts = some r) (ty : TypeId) (cs : Array Bool) : Good P ln w0 U G w (Go.builtin .len ts.toArray ty cs us.toArray) r := by
  unfold bLen at e
  split at e
  · rename_i x t
    obtain ⟨d, hd, e⟩ := ob_some e
    obtain ⟨ht, e⟩ := bt_some e
    obtain ⟨n, hn, e⟩ := ob_some e
    cases e
    obtain ⟨v, rfl, rx⟩ := ru.one
    obtain ⟨u, hu, _, hel, _, hstr, _⟩ := (hT t d hd).und
    refine Good.pure k (vr := .int .i64 n) (.int _ _) ?_
    have hsl : d.elem.isSome = true → ∃ e', P.underlying t = some (.slice e') := fun g => by
      obtain ⟨e', he⟩ := Option.isSome_iff_exists.1 g
      exact ⟨e', by rw [hu, hel e' he]⟩
    cases rx with
    | str s h1 h2 =>
      cases hn
      rw [hstr ht] at hu
      have : (s.size : Int) = ((s.data.toList.length : Nat) : Int) := by rw [ba_size]
      simp [Go.builtin, Builtin.len_, run_underlying hu, goInt, this, ← h1]
    | svec s h1 h2 =>
      cases hn
      rw [hstr ht] at hu
      have : (s.size : Int) = ((s.data.toList.length : Nat) : Int) := by rw [ba_size]
      simp [Go.builtin, Builtin.len_, run_underlying hu, goInt, this, ← h1]
    | sl hg hc hl => cases hn; obtain ⟨e', he⟩ := hsl ht; simp [Go.builtin, Builtin.len_, run_underlying he, goInt]
    | sl0 ad => cases hn; obtain ⟨e', he⟩ := hsl ht; simp [Go.builtin, Builtin.len_, run_underlying he, goInt]
    | sle hg hc => cases hn; obtain ⟨e', he⟩ := hsl ht; simp [Go.builtin, Builtin.len_, run_underlying he, goInt]
    | nils => cases hn; obtain ⟨e', he⟩ := hsl ht; simp [Go.builtin, Builtin.len_, run_underlying he, goInt]
    | _ => cases hn
  · cases e
theorem bCap_ok (hT : TOk P T) (k : HR ln w0 U G h w) {vs : List V} {ts : List TypeId} {us : List Value} (ru : RepA ln G vs us) {r : Rs} (e : bCap T h vs ts = some r) (ty : TypeId) (cs : Array Bool) : Good P ln w0 U G w (Go.builtin .cap ts.toArray ty cs us.toArray) r := by
  unfold bCap at e
  split at e
  · rename_i t
    obtain ⟨p, hp, e⟩ := ob_some e
    cases e
    obtain ⟨v, rfl, rx⟩ := ru.one
    cases rx
    obtain ⟨hu, _, _⟩ := elemOf_ok hT hp
    exact Good.pure k (vr := .int .i64 0) (.int _ _) (by simp [Go.builtin, Builtin.cap_, run_underlying hu, goInt])
  · cases e
theorem bAppend_ok (hT : TOk P T) (k : HR ln w0 U G h w) {vs : List V} {ts : List TypeId} {us : List Value} (ru : RepA ln G vs us) {r : Rs} (e : bAppend T h vs ts = some r) (ty : TypeId) (cs : Array Bool) : Good P ln w0 U G w (Go.builtin .append ts.toArray ty cs us.toArray) r := by
  unfold bAppend at e
  split at e
  · rename_i s x t t'
    obtain ⟨p, hp, e⟩ := ob_some e
    obtain ⟨dx, hdx, e⟩ := ob_some e
    obtain ⟨⟨n, cells⟩, hq, e⟩ := ob_some e
    obtain ⟨v, h', e2, rfl⟩ := rvh_some e
    obtain ⟨hu, hde, _⟩ := elemOf_ok hT hp
    obtain ⟨sv, xv, rfl, rs, rx⟩ := ru.two
    obtain ⟨H, w', vr, q1, q2, q3, q4⟩ := appendV_ok hT k hu hde hdx rs rx hq e2
    exact ⟨H, w', q1, q2, .inl ⟨vr, q3, by simp [Go.builtin, q4 ty]⟩⟩
  · cases e
theorem bCopy_ok (hT : TOk P T) (k : HR ln w0 U G h w) {vs : List V} {ts : List TypeId} {us : List Value} (ru : RepA ln G vs us) {r : Rs} (e : bCopy T h vs ts = some r) (ty : TypeId) (cs : Array Bool) : Good P ln w0 U G w (Go.builtin .copy ts.toArray ty cs us.toArray) r := by
  unfold bCopy at e
  split at e
  · rename_i b off len x t t'
    obtain ⟨p, hp, e⟩ := ob_some e
    obtain ⟨⟨n, cells⟩, hq, e⟩ := ob_some e
    obtain ⟨hle, e⟩ := bt_some e
    obtain ⟨h', e2, e⟩ := ob_some e
    cases e
    have hle : n ≤ len := ble_le hle
    obtain ⟨hu, hde, _⟩ := elemOf_ok hT hp
    obtain ⟨i, z, hi, hs, _⟩ := hde.info
    obtain ⟨dv, xv, rfl, rd, rx⟩ := ru.two
    obtain ⟨y, cap, hg, hc, hlc, rfl⟩ := rd.of_sl
    obtain ⟨x2, hx, e2⟩ := ob_some e2
    obtain ⟨hop, e2⟩ := bt_some e2
    obtain ⟨cs', hcs, e2⟩ := ob_some e2
    cases e2
    have hmin : Nat.min n len = n := Nat.min_eq_left hle
    rcases cellsOf_ok k hq rx with ⟨rfl, rfl, rfl⟩ | ⟨ad, c, news, rfl, q1, q2, q3⟩
    · obtain ⟨y2, g1, g2, g3, g4⟩ := k.put hx hg hop hcs .nil
      rw [hg] at g1
      cases g1
      refine ⟨G, _, Gh.Le.refl G, g2, .inl ⟨.int .i64 0, .int _ _, ?_⟩⟩
      simp [Go.builtin, Builtin.copy_, run_underlying hu, Builtin.lenOf, sizeOf, typeInfo, hi, Builtin.firstCells, goInt, storeCells, World.setCells]
    · obtain ⟨y2, g1, g2, g3, g4⟩ := k.put hx hg hop hcs q2
      rw [hg] at g1
      cases g1
      have hst := run_storeCells_cells (P := P) y.p (y.o + off) news 0 w (by simpa using g3) (by simpa using g4) q2.one
      simp only [Nat.add_zero] at hst
      have hfc := run_firstCells_some (P := P) w i.size n ad n c news (by rw [q1, hs]) q3
      refine ⟨G, _, Gh.Le.refl G, g2, .inl ⟨.int .i64 n, .int _ _, ?_⟩⟩
      simp [Go.builtin, Builtin.copy_, run_underlying hu, Builtin.lenOf, sizeOf, typeInfo, hi, Nat.min_eq_left hle, hfc, goInt, hst]
  · cases e
theorem bClear_ok (hT : TOk P T) (k : HR ln w0 U G h w) {vs : List V} {ts : List TypeId} {us : List Value} (ru : RepA ln G vs us) {r : Rs} (e : bClear T h vs ts = some r) (ty : TypeId) (cs : Array Bool) : Good P ln w0 U G w (Go.builtin .clear ts.toArray ty cs us.toArray) r := by
  have tup0 : ∀ {G : Gh}, RepV ln G (.tup []) (.tuple #[]) := fun {G} => by
    simpa using (RepA.nil (ln := ln) (G := G)).tup
  unfold bClear at e
  split at e
  · rename_i b off len t
    obtain ⟨p, hp, e⟩ := ob_some e
    obtain ⟨h', e2, e⟩ := ob_some e
    cases e
    obtain ⟨hu, hde, _⟩ := elemOf_ok hT hp
    obtain ⟨i, z, hi, hs, _, hz, hr⟩ := hde.info
    obtain ⟨dv, rfl, rd⟩ := ru.one
    obtain ⟨y, cap, hg, hc, hlc, rfl⟩ := rd.of_sl
    obtain ⟨x2, hx, e2⟩ := ob_some e2
    obtain ⟨hop, e2⟩ := bt_some e2
    obtain ⟨cs', hcs, e2⟩ := ob_some e2
    cases e2
    have hrep : RepC ln G (rep p.2.zero len) (Builtin.zeroCells z.cells len).toList := rep_ok (hr ln G) len
    obtain ⟨y2, g1, g2, g3, g4⟩ := k.put hx hg hop hcs hrep
    rw [hg] at g1
    cases g1
    have hst := run_storeCells_cells (P := P) y.p (y.o + off) _ 0 w (by simpa using g3) (by simpa using g4) hrep.one
    simp only [Nat.add_zero] at hst
    refine ⟨G, _, Gh.Le.refl G, g2, .inl ⟨.tuple #[], tup0, ?_⟩⟩
    cases len with
    | zero => simp [Go.builtin, Builtin.clear_, run_underlying hu, Builtin.zeroCells, World.setCells]
    | succ len => simp [Go.builtin, Builtin.clear_, run_underlying hu, zeroValue, typeInfo, hi, hz, hst]
  · rename_i x t hno
    obtain ⟨p, hp, e⟩ := ob_some e
    obtain ⟨hsl, e⟩ := bt_some e
    cases e
    obtain ⟨hu, hde, _⟩ := elemOf_ok hT hp
    obtain ⟨dv, rfl, rd⟩ := ru.one
    refine Good.pure k (vr := .tuple #[]) tup0 ?_
    cases rd with
    | sl hg hc hl => exact absurd rfl (hno _ _ _)
    | sl0 ad => simp [Go.builtin, Builtin.clear_, run_underlying hu]
    | sle hg hc => simp [Go.builtin, Builtin.clear_, run_underlying hu]
    | nils => simp [Go.builtin, Builtin.clear_, run_underlying hu]
    | _ => cases hsl
  · cases e
theorem bMin_ok (k : HR ln w0 U G h w) {vs : List V} {ts : List TypeId} {us : List Value} (ru : RepA ln G vs us) {r : Rs} (e : bMin h vs = some r) (ty : TypeId) (cs : Array Bool) : Good P ln w0 U G w (Go.builtin .min ts.toArray ty cs us.toArray) r := by
  unfold bMin at e
  split at e
  · rename_i k1 x k2 y
    obtain ⟨hk, e⟩ := bt_some e
    cases e
    obtain ⟨xv, yv, rfl, rx, ry⟩ := ru.two
    cases rx
    cases ry
    refine Good.pure k (.int _ _) ?_
    have : (Bool.rec x y (intLt y x) : Int) = if y < x then y else x := by
      rw [intLt_eq]
      by_cases hh : y < x
      · rw [if_pos hh, decide_eq_true hh]
      · rw [if_neg hh, decide_eq_false hh]
    rw [this]
    simp [Go.builtin, Builtin.min_, Builtin.min2]
  · cases e
theorem bMax_ok (k : HR ln w0 U G h w) {vs : List V} {ts : List TypeId} {us : List Value} (ru : RepA ln G vs us) {r : Rs} (e : bMax h vs = some r) (ty : TypeId) (cs : Array Bool) : Good P ln w0 U G w (Go.builtin .max ts.toArray ty cs us.toArray) r := by
  unfold bMax at e
  split at e
  · rename_i k1 x k2 y
    obtain ⟨hk, e⟩ := bt_some e
    cases e
    obtain ⟨xv, yv, rfl, rx, ry⟩ := ru.two
    cases rx
    cases ry
    refine Good.pure k (.int _ _) ?_
    have : (Bool.rec x y (intLt x y) : Int) = if x < y then y else x := by
      rw [intLt_eq]
      by_cases hh : x < y
      · rw [if_pos hh, decide_eq_true hh]
      · rw [if_neg hh, decide_eq_false hh]
    rw [this]
    simp [Go.builtin, Builtin.max_, Builtin.max2]
  · cases e
theorem builtin_ok (hT : TOk P T) (k : HR ln w0 U G h w) {vs : List V} {ts : List TypeId} {us : List Value} (ru : RepA ln G vs us) {b : Builtin} {r : Rs} (e : Run.builtin T b h vs ts = some r) (ty : TypeId) (cs : Array Bool) : Good P ln w0 U G w (Go.builtin b ts.toArray ty cs us.toArray) r := by
  cases b with
  | len => exact bLen_ok hT k ru e ty cs
  | cap => exact bCap_ok hT k ru e ty cs
  | append => exact bAppend_ok hT k ru e ty cs
  | copy => exact bCopy_ok hT k ru e ty cs
  | clear => exact bClear_ok hT k ru e ty cs
  | min => exact bMin_ok k ru e ty cs
  | max => exact bMax_ok k ru e ty cs
  | _ => cases e
theorem oCall_ok (hT : TOk P T) (k : HR ln w0 U G h w) (hE : EnvR ln G env a.tmps) {c : Call} {r : Rs} (e : oCall T c env h = some r) (ho : o.op = .call c) : Good P ln w0 U G w (execOp a.eval o) r := by
  obtain ⟨vs, hvs, e⟩ := ob_some e
  have ru := evs_ok hE hvs
  have hx : execOp a.eval o = (do let d ← resolve a.eval c o.type; invoke d.target d.args) := by simp only [execOp, ho]
  rw [hx]
  unfold callee at e
  have hmap : c.args.map a.eval = (c.args.toList.map a.eval).toArray := by apply Array.ext'; simp
  split at e
  · rename_i f hf
    obtain ⟨v, hv, e⟩ := ob_some e
    unfold cloCall at e
    split at e
    · cases e
      rename_i f fst caps
      have rf := ev_ok hE hv
      generalize hq : a.eval _ = q at rf
      cases rf with
      | clo f g k' h1 h2 =>
        refine ⟨_, (RepA.of_fun g h1).append (ru.append (RepA.of_fun k' h2)), ?_⟩
        simp [resolve, hf, hq, Deferred.ofValue, invoke, hmap]
    · cases e
  · cases e
  · rename_i b hf
    have := builtin_ok hT k ru e o.type (c.args.map fun | .const _ => true | _ => false)
    have hrun : ∀ w, (do let d ← resolve a.eval c o.type; invoke d.target d.args : Sem Next).run P w = (Go.builtin b c.argTypes o.type (c.args.map fun | .const _ => true | _ => false) (c.args.map a.eval)).run P w := fun w => by
      simp [resolve, hf, invoke]
      rfl
    simp only [Array.toArray_toList] at this
    rw [← hmap] at this
    unfold Good at this ⊢
    cases r <;> simpa only [hrun] using this
theorem step_ok (hT : TOk P T) (k : HR ln w0 U G h w) (hE : EnvR ln G env a.tmps) {r : Rs} (e : step T o.op env h = some r) : Good P ln w0 U G w (execOp a.eval o) r := by
  cases ho : o.op with
  | move x => rw [ho] at e; exact oMove_ok k hE e (.inl ho)
  | assign x => rw [ho] at e; exact oMove_ok k hE e (.inr ho)
  | pick c x y => rw [ho] at e; exact oPick_ok k hE e ho
  | alloc t => rw [ho] at e; exact oAlloc_ok (env := env) hT k e ho
  | box t x => rw [ho] at e; exact oBox_ok k hE e ho
  | build t ps => rw [ho] at e; exact oBuild_ok hT k hE e ho
  | buildSlice t n ps => rw [ho] at e; exact oBuildSlice_ok hT k hE e ho
  | load t p => rw [ho] at e; exact oLoad_ok hT k hE e ho
  | store t p x => rw [ho] at e; exact oStore_ok hT k hE e ho
  | nilCheck x => rw [ho] at e; exact oNil_ok k hE e ho
  | binOp op xt x y yt => rw [ho] at e; exact oBin_ok hT k hE e ho
  | unOp op xt x => rw [ho] at e; exact oUn_ok k hE e ho
  | convert s d x => rw [ho] at e; exact conv_ok hT k hE e ho
  | makeFunc f x y => rw [ho] at e; exact oMakeFunc_ok k hE e ho
  | makeSlice t l c => rw [ho] at e; exact oMakeSlice_ok hT k hE e ho
  | slice t x lo hi mx => rw [ho] at e; exact oSlice_ok hT k hE e ho
  | fieldAddr t x f => rw [ho] at e; exact oFieldAddr_ok hT k hE e ho
  | field t x f => rw [ho] at e; exact oField_ok hT k hE e ho
  | indexAddr t x i => rw [ho] at e; exact oIndexAddr_ok hT k hE e ho
  | index t x i => rw [ho] at e; exact oIndex_ok hT k hE e ho
  | extract x i => rw [ho] at e; exact oExtract_ok k hE e ho
  | call c => rw [ho] at e; exact oCall_ok hT k hE e ho
  | _ => rw [ho] at e; cases e
end
end Go.Run
/- A meaning by run: regions that draw their order: an operation looks at its operands alone; equal values. -/
namespace Go.Run
open Go
section
variable {T : TypeId → Option E} {env σ : Env} {h : Hp}
theorem listEq_eq {α : Type} {f : α → α → Bool} (hf : ∀ x y, f x y = true → x = y) : ∀ (a b : List α), listEq f a b = true → a = b
  | [], [], _ => rfl
  | [], _ :: _, h => by cases h
  | _ :: _, [], h => by cases h
  | x :: a, y :: b, h => by
    have h : (Bool.rec false (listEq f a b) (f x y) : Bool) = true := h
    cases hx : f x y with
    | false => rw [hx] at h; cases h
    | true =>
      rw [hx] at h
      rw [hf x y hx, listEq_eq hf a b h]
theorem band_true {a b : Bool} (h : band a b = true) : a = true ∧ b = true := by
  cases a with
  | false => cases h
  | true => exact ⟨rfl, h⟩
theorem beqN {a b : Nat} (h : Nat.beq a b = true) : a = b := Nat.eq_of_beq_eq_true h
theorem intEq_true {a b : Int} (h : intEq a b = true) : a = b := by rw [intEq_eq] at h; simpa using h
theorem strEq_true {n x m y : Nat} (h : strEq n x m y = true) : n = m ∧ x = y := by
  unfold strEq at h
  cases hn : Nat.beq n m with
  | false => rw [hn] at h; cases h
  | true => rw [hn] at h; exact ⟨beqN hn, beqN h⟩
theorem veq1_eq (x y : V) (h : veq1 x y = true) : x = y := by
  unfold veq1 at h
  split at h
  · obtain ⟨h1, h2⟩ := band_true h; rw [ikEq_eq h1, intEq_true h2]
  · rw [boolEq_true h]
  · obtain ⟨h1, h2⟩ := strEq_true h; rw [h1, h2]
  · obtain ⟨h1, h2⟩ := band_true h; rw [ikEq_eq h1, listEq_eq (fun _ _ => intEq_true) _ _ h2]
  · obtain ⟨h1, h2⟩ := band_true h; rw [beqN h1, listEq_eq (fun _ _ => beqN) _ _ h2]
  · obtain ⟨h1, h2⟩ := band_true h; obtain ⟨h2, h3⟩ := band_true h2; rw [beqN h1, beqN h2, beqN h3]
  · rfl
  · obtain ⟨h1, h2⟩ := band_true h; rw [beqN h1, beqN h2]
  · rfl
  · obtain ⟨h1, h2⟩ := band_true h; rw [beqN h1, beqN h2]
  · rfl
  · have := beqN h; rw [this]
  · rfl
  · rfl
  · rfl
  · rfl
  · cases h
theorem veq_eq (x y : V) (h : veq x y = true) : x = y := by
  unfold veq at h
  split at h
  · rw [listEq_eq veq1_eq _ _ h]
  · exact veq1_eq _ _ h

theorem ev_congr {x : Operand} (hx : ∀ t, t ∈ tmpOf x → env.get t = σ.get t) : ev env x = ev σ x := by
  cases x with
  | tmp t => exact hx t (by simp [tmpOf])
  | const c => rfl
  | func f => rfl
  | global g => rfl
theorem evs_congr : ∀ (l : List Operand), (∀ x, x ∈ l → ev env x = ev σ x) → evs env l = evs σ l
  | [], _ => rfl
  | x :: l, hx => by
    show ob (ev env x) (fun v => ob (evs env l) fun vs => some (v :: vs)) = ob (ev σ x) (fun v => ob (evs σ l) fun vs => some (v :: vs))
    rw [hx x List.mem_cons_self, evs_congr l fun y hy => hx y (List.mem_cons_of_mem _ hy)]
theorem evp_congr : ∀ (l : List (Nat × Operand)), (∀ x, x ∈ l → ev env x.2 = ev σ x.2) → evp env l = evp σ l
  | [], _ => rfl
  | x :: l, hx => by
    show ob (ev env x.2) (fun v => ob (evp env l) fun vs => some ((x.1, v) :: vs)) = ob (ev σ x.2) (fun v => ob (evp σ l) fun vs => some ((x.1, v) :: vs))
    rw [hx x List.mem_cons_self, evp_congr l fun y hy => hx y (List.mem_cons_of_mem _ hy)]
theorem bnd_congr {d : Nat} {x : Option Operand} (hx : ∀ y, x = some y → ev env y = ev σ y) : bnd env d x = bnd σ d x := by
  cases x with
  | none => rfl
  | some y =>
    show ob (ev env y) asNat = ob (ev σ y) asNat
    rw [hx y rfl]
theorem slice_congr {d : E} {lo hi mx : Option Operand} (h1 : ∀ y, lo = some y → ev env y = ev σ y) (h2 : ∀ y, hi = some y → ev env y = ev σ y) (h3 : ∀ y, mx = some y → ev env y = ev σ y) (x : V) : slice T env h d lo hi mx x = slice T σ h d lo hi mx x := by
  have e1 := fun n => bnd_congr (d := n) h1
  have e2 := fun n => bnd_congr (d := n) h2
  have e3 := fun n => bnd_congr (d := n) h3
  have e4 : ∀ m, mx = some m → ∀ n, bnd env n (some m) = bnd σ n (some m) := fun m hm n => by rw [← hm]; exact e3 n
  unfold slice
  cases mx with
  | none => split <;> simp only [e1, e2, e3]
  | some m =>
    have e5 := e4 m rfl
    split <;> simp only [e1, e2, e3, e5]
theorem step_congr {o : Op} (hx : ∀ x, x ∈ o.operands.toList → ev env x = ev σ x) : step T o env h = step T o σ h := by
  cases o with
  | move x => show oMove x env h = oMove x σ h; unfold oMove; rw [hx x (by simp [Op.operands])]
  | assign x => show oMove x env h = oMove x σ h; unfold oMove; rw [hx x (by simp [Op.operands])]
  | pick c x y => show oPick c x y env h = oPick c x y σ h; unfold oPick; rw [hx c (by simp [Op.operands]), hx x (by simp [Op.operands]), hx y (by simp [Op.operands])]
  | alloc t => rfl
  | box t x => show oBox t x env h = oBox t x σ h; unfold oBox; rw [hx x (by simp [Op.operands])]
  | build t ps =>
    show oBuild T t ps env h = oBuild T t ps σ h
    unfold oBuild
    rw [evp_congr ps.toList fun p hp => hx p.2 (by simp [Op.operands]; exact ⟨p.1, by simpa using hp⟩)]
  | buildSlice t n ps =>
    show oBuildSlice T t n ps env h = oBuildSlice T t n ps σ h
    unfold oBuildSlice
    rw [evp_congr ps.toList fun p hp => hx p.2 (by simp [Op.operands]; exact ⟨p.1, by simpa using hp⟩)]
  | load t x => show oLoad T t x env h = oLoad T t x σ h; unfold oLoad; rw [hx x (by simp [Op.operands])]
  | store t x y => show oStore T t x y env h = oStore T t x y σ h; unfold oStore; rw [hx x (by simp [Op.operands]), hx y (by simp [Op.operands])]
  | nilCheck x => show oNil x env h = oNil x σ h; unfold oNil; rw [hx x (by simp [Op.operands])]
  | binOp op xt x y yt => show oBin T op xt _ x y env h = oBin T op xt _ x y σ h; unfold oBin; rw [hx x (by simp [Op.operands]), hx y (by simp [Op.operands])]
  | unOp op xt x => show oUn op x env h = oUn op x σ h; unfold oUn; rw [hx x (by simp [Op.operands])]
  | convert s d x => show oConv T s d x env h = oConv T s d x σ h; unfold oConv; rw [hx x (by simp [Op.operands])]
  | makeFunc f x y =>
    show oMakeFunc f x y env h = oMakeFunc f x y σ h
    unfold oMakeFunc
    cases f with
    | func f =>
      show ob (evs env x.toList) _ = ob (evs σ x.toList) _
      rw [evs_congr x.toList fun z hz => hx z (by simp [Op.operands]; exact .inl (by simpa using hz)), evs_congr y.toList fun z hz => hx z (by simp [Op.operands]; exact .inr (by simpa using hz))]
    | _ => rfl
  | makeSlice t l c => show oMakeSlice T t l c env h = oMakeSlice T t l c σ h; unfold oMakeSlice; rw [hx l (by simp [Op.operands]), hx c (by simp [Op.operands])]
  | slice t x lo hi mx =>
    show oSlice T t x lo hi mx env h = oSlice T t x lo hi mx σ h
    unfold oSlice
    rw [hx x (by simp [Op.operands])]
    have := fun d v => slice_congr (T := T) (h := h) (d := d) (lo := lo) (hi := hi) (mx := mx) (env := env) (σ := σ) (fun y hy => hx y (by simp [Op.operands, hy])) (fun y hy => hx y (by simp [Op.operands, hy])) (fun y hy => hx y (by simp [Op.operands, hy])) v
    simp only [this]
  | fieldAddr t x f => show oFieldAddr T t x f env h = oFieldAddr T t x f σ h; unfold oFieldAddr; rw [hx x (by simp [Op.operands])]
  | field t x f => show oField T t x f env h = oField T t x f σ h; unfold oField; rw [hx x (by simp [Op.operands])]
  | indexAddr t x i => show oIndexAddr T t x i env h = oIndexAddr T t x i σ h; unfold oIndexAddr; rw [hx x (by simp [Op.operands]), hx i (by simp [Op.operands])]
  | index t x i => show oIndex T t x i env h = oIndex T t x i σ h; unfold oIndex; rw [hx x (by simp [Op.operands]), hx i (by simp [Op.operands])]
  | extract x i => show oExtract x i env h = oExtract x i σ h; unfold oExtract; rw [hx x (by simp [Op.operands])]
  | call c =>
    show oCall T c env h = oCall T c σ h
    unfold oCall
    rw [evs_congr c.args.toList fun z hz => hx z (by simp [Op.operands, Call.operands]; first | exact .inr (by simpa using hz) | exact .inl (by simpa using hz))]
    congr 1
    funext vs
    unfold callee
    cases hc : c.callee with
    | value f =>
      show ob (ev env f) _ = ob (ev σ f) _
      rw [hx f (by simp [Op.operands, Call.operands, hc])]
    | invoke r m => rfl
    | builtin b => rfl
  | _ => rfl
end
end Go.Run
/- A meaning by run: an operation in a region; lists of them. -/
namespace Go.Run
open Go Go.RowKit
def Callable (P : Program) (f : FuncId) : Prop := ∃ fn, P.funcs[f]? = some fn ∧ (fn.name == "runtime.NumGoroutine") = false ∧ fn.body.isSome = true
/-- A call's outcome. -/
def Does (P : Program) (f : FuncId) (vs : Array Value) (w : World) (R : Value → World → Prop) : Prop :=
  (Callable P f ∧ Calls P f vs w fun e w' => ∃ v, e = .returned v ∧ R v w') ∨ ∃ v w', (callFunc f vs).run P w = .ok (.value v) w' ∧ R v w'
def CfOk (P : Program) (ln : Nat) (w0 : World) (cf : CallF) : Prop := ∀ (U : Nat → Prop) (G : Gh) (h : Hp) (w : World) (f : FuncId) (args : List V) (vs : List Value) (v : V) (h' : Hp), HR ln w0 U G h w → RepA ln G args vs → cf f args h = some (v, h') →
  Does P f vs.toArray w fun vr w' => ∃ H, G.Le H ∧ RepV ln H v vr ∧ HR ln w0 U H h' w'
section
variable {P : Program} {T : TypeId → Option E} {ln : Nat} {w0 : World} {U : Nat → Prop} {G : Gh} {h : Hp} {w : World} {env : Env} {a : Act} {cf : CallF}
theorem callFunc_enter {f : FuncId} (hc : Callable P f) (vs : Array Value) (w : World) : (callFunc f vs).run P w = .ok (.enter f vs) w := by
  obtain ⟨fn, hf, hn, hb⟩ := hc
  cases hbb : fn.body with
  | none => rw [hbb] at hb; cases hb
  | some c =>
    have hn' : ¬ fn.name = "runtime.NumGoroutine" := by simpa using hn
    simp [callFunc, hf, hn', hbb]
theorem want_ok (hE : EnvR ln G env a.tmps) {ops : Array Oper} {o : Oper} {b : Bool} (e : want ops.toList env o = some b) : Region.wanted o (yielded ops a.tmps) = b := by
  unfold Region.wanted
  cases hg : o.guard with
  | none =>
    unfold want at e
    rw [hg] at e
    cases e
    rfl
  | some g =>
    obtain ⟨j, wn⟩ := g
    unfold want at e
    rw [hg] at e
    obtain ⟨p, hp, e⟩ := ob_some (show ob (nth ops.toList j) (fun p => ob p.dst fun d => ob (env.get d) (wantV wn)) = some b from e)
    obtain ⟨d, hd, e⟩ := ob_some e
    obtain ⟨v, hv, e⟩ := ob_some e
    rw [nth_eq] at hp
    have hp : ops[j]? = some p := by simpa using hp
    obtain ⟨u, hu, hr⟩ := hE.rep d v hv
    have hy : ∀ c, u = .bool c → yielded ops a.tmps j = some c := fun c hc => by
      subst hc
      simp only [yielded, hp, Option.bind_some, hd, hu]
    have hz : (∀ c, u ≠ .bool c) → yielded ops a.tmps j = none := fun hc => by
      unfold yielded
      rw [hp, Option.bind_some, hd, Option.bind_some, hu]
      cases u <;> first | rfl | exact absurd rfl (hc _)
    unfold wantV at e
    split at e
    · cases e
      cases hr
      show (yielded ops a.tmps j == some _) = _
      rw [hy _ rfl, boolEq_eq]
      rfl
    · cases e
      cases hr with
      | tup f hf =>
        show (yielded ops a.tmps j == some _) = _
        rw [hz fun c hc => nomatch hc]
        rfl
    · cases e
theorem undef_ok : RepV ln G (.tup []) undef := by
  have := (RepA.nil (ln := ln) (G := G)).tup
  simpa [undef] using this
theorem op_ok (hT : TOk P T) (hcf : CfOk P ln w0 cf) (k : HR ln w0 U G h w) (hE : EnvR ln G env a.tmps) {ops : Array Oper} {o : Oper} {v : V} {h' : Hp} (e : oneV T cf ops.toList o env h = some (v, h')) {K : Act → World → Prop} {Q : Exit → Act → World → Prop}
    (kk : ∀ H w' u, G.Le H → HR ln w0 U H h' w' → RepV ln H v u → K (a.put o.dst u) w') : if Region.wanted o (yielded ops a.tmps) = true then o.wp P a w K Q ∨ (o.asks P a w ∧ LetsOut Q) else K (a.put o.dst undef) w := by
  obtain ⟨b, hb, e⟩ := ob_some e
  rw [want_ok hE hb]
  cases b with
  | false =>
    cases e
    rw [if_neg (by simp)]
    exact kk G w _ (Gh.Le.refl G) k undef_ok
  | true =>
    rw [if_pos rfl]
    obtain ⟨r, hr, e⟩ := ob_some (show ob (step T o.op env h) (resV cf h) = some (v, h') from e)
    have hg := step_ok hT k hE hr
    refine .inl ?_
    unfold Oper.wp
    cases r with
    | val v1 h1 =>
      cases e
      obtain ⟨H, w', q1, q2, q3⟩ := hg
      rcases q3 with ⟨vr, q4, q5⟩ | ⟨rfl, q5⟩
      · rw [q5, Oper.upon_value]
        exact kk H w' vr q1 q2 q4
      · rw [q5, Oper.upon_skip]
        exact kk H w' _ q1 q2 (.junk _)
    | call f args =>
      obtain ⟨vs, q1, q2⟩ := hg
      rcases hcf U G h w f args vs v h' k q1 e with ⟨hc, hcalls⟩ | ⟨vr, w', hrun, H, g1, g2, g3⟩
      · rw [q2, callFunc_enter hc, Oper.upon_enter]
        refine hcalls.mono ?_
        rintro e w' ⟨vr, rfl, H, g1, g2, g3⟩
        exact kk H w' vr g1 g3 g2
      · rw [q2, hrun, Oper.upon_value]
        exact kk H w' vr g1 g3 g2
theorem put_defers (a : Act) (d : Option Tmp) (v : Value) : (a.put d v).defers = a.defers := by cases d <;> rfl
/-- What is told of the states behind. -/
def Fin (P : Program) (ln : Nat) (w0 : World) (U : Nat → Prop) (G : Gh) (a : Act) (env' : Env) (h' : Hp) (R : Act → World → Prop) : Prop := ∀ H a' w', G.Le H → EnvR ln H env' a'.tmps → a'.defers = a.defers → HR ln w0 U H h' w' → R a' w'
theorem list_ok (hT : TOk P T) (hcf : CfOk P ln w0 cf) {ops : Array Oper} {Q : Exit → Act → World → Prop} : ∀ (l : List Oper) (i : Nat), ops.toList.drop i = l → ∀ (G : Gh) (env : Env) (h : Hp) (a : Act) (w : World) (env' : Env) (h' : Hp), HR ln w0 U G h w → EnvR ln G env a.tmps →
    listR T cf ops.toList l env h = some (env', h') → Fin P ln w0 U G a env' h' (Q .normal) → wpOps P ops Q (List.range' i (ops.size - i)) a w
  | [], i, hl, G, env, h, a, w, env', h', k, hE, e, kk => by
    cases e
    have : ops.size ≤ i := by simpa using hl
    rw [show ops.size - i = 0 by omega]
    exact kk G a w (Gh.Le.refl G) hE rfl k
  | o :: r, i, hl, G, env, h, a, w, env', h', k, hE, e, kk => by
    have hi : i < ops.size := by
      apply Nat.lt_of_not_le
      intro hle
      rw [List.drop_eq_nil_of_le (by simpa using hle)] at hl
      cases hl
    have ho : ops[i]? = some o := by
      have : (ops.toList.drop i)[0]? = some o := by rw [hl]; rfl
      rw [List.getElem?_drop] at this
      simpa using this
    have hr : ops.toList.drop (i + 1) = r := by
      rw [← List.drop_drop, hl]
      rfl
    obtain ⟨⟨e1, h1⟩, hone, e⟩ := ob_some (show ob (one T cf ops.toList o env h) (fun p => listR T cf ops.toList r p.1 p.2) = some (env', h') from e)
    obtain ⟨⟨v, h2⟩, hv, hone⟩ := ob_some hone
    cases hone
    rw [show ops.size - i = (ops.size - (i + 1)) + 1 by omega, List.range'_succ, wpOps_cons]
    unfold wpOp
    rw [ho]
    refine op_ok hT hcf k hE hv (fun H w' u g1 g2 g3 => ?_)
    exact list_ok hT hcf r (i + 1) hr H _ _ _ w' env' h' g2 ((hE.mono g1).put o.dst g3) e (fun H2 a2 w2 q1 q2 q3 q4 => kk H2 a2 w2 (g1.trans q1) q2 (q3.trans (put_defers _ _ _)) q4)
end
end Go.Run
/- A meaning by run: regions that draw their order: all orders; what is asked of a region. -/
namespace Go.Run
open Go Go.RowKit
section
variable {P : Program}
theorem getD_set (l : Array Bool) (i j : Nat) : (l.setIfInBounds i true).getD j true = (l.getD j true || j == i) := by
  rw [Array.getD_eq_getD_getElem?, Array.getD_eq_getD_getElem?, Array.getElem?_setIfInBounds]
  by_cases h : i = j
  · subst h
    rw [if_pos rfl]
    split <;> simp
  · rw [if_neg h]
    have : (j == i) = false := by simp; omega
    rw [this, Bool.or_false]
theorem aft_iff {o : Oper} {j : Nat} : j ∈ aft o ↔ ∃ e, e ∈ o.after ∧ Region.binds .any e = true ∧ e.on = j := by
  unfold aft
  rw [List.mem_filterMap]
  constructor
  · rintro ⟨e, he, h⟩
    refine ⟨e, by simpa using he, ?_⟩
    cases hb : Region.binds .any e with
    | true => rw [hb] at h; exact ⟨rfl, by simpa using h⟩
    | false => rw [hb] at h; cases h
  · rintro ⟨e, he, hb, rfl⟩
    exact ⟨e, by simpa using he, by simp [hb]⟩
theorem ready_mem {ops : Array Oper} {listed : Array Bool} {i : Nat} (h : i ∈ Region.ready .any ops listed) : i < ops.size ∧ listed.getD i true = false ∧ ∃ o, ops[i]? = some o ∧ ∀ e, e ∈ o.after → Region.binds .any e = true → listed.getD e.on false = true := by
  unfold Region.ready at h
  obtain ⟨h1, h2⟩ := List.mem_filter.1 h
  rw [Bool.and_eq_true, Bool.not_eq_true'] at h2
  have hi := List.mem_range.1 h1
  refine ⟨hi, h2.1, ops[i], Array.getElem?_eq_getElem hi, fun e he hb => ?_⟩
  have := h2.2
  rw [Array.getElem?_eq_getElem hi] at this
  have := Array.all_eq_true_iff_forall_mem.1 (show (ops[i].after.all fun e => !Region.binds .any e || listed.getD e.on false) = true from this) e he
  rw [hb] at this
  simpa using this
def unl (ops : Array Oper) (listed : Array Bool) : List Nat := (List.range ops.size).filter fun i => !listed.getD i true
theorem filt_le {p q : Nat → Bool} (h : ∀ x, q x = true → p x = true) : ∀ l : List Nat, (l.filter q).length ≤ (l.filter p).length
  | [] => by simp
  | y :: l => by
    rw [List.filter_cons, List.filter_cons]
    have ih := filt_le h l
    cases hy : q y with
    | true => rw [h y hy]; simpa using ih
    | false => cases p y <;> simp <;> omega
theorem filt_lt {p q : Nat → Bool} (h : ∀ x, q x = true → p x = true) {i : Nat} (hp : p i = true) (hq : q i = false) : ∀ {l : List Nat}, i ∈ l → (l.filter q).length < (l.filter p).length
  | [], hi => by cases hi
  | x :: l, hi => by
    have hle := filt_le h l
    rw [List.filter_cons, List.filter_cons]
    rcases List.mem_cons.1 hi with rfl | hi
    · rw [hp, hq]
      simp
      omega
    · have := filt_lt h hp hq hi
      cases hy : q x with
      | true => rw [h x hy]; simpa using this
      | false => cases p x <;> simp <;> omega
theorem unl_set {ops : Array Oper} {listed : Array Bool} {i : Nat} (h : i ∈ Region.ready .any ops listed) : (unl ops (listed.setIfInBounds i true)).length < (unl ops listed).length := by
  obtain ⟨h1, h2, _⟩ := ready_mem h
  refine filt_lt (fun x hx => ?_) (i := i) ?_ ?_ (List.mem_range.2 h1)
  · rw [getD_set] at hx
    revert hx
    cases listed.getD x true <;> simp
  · rw [h2]; rfl
  · rw [getD_set]; simp
theorem unl_ready {ops : Array Oper} {listed : Array Bool} (h : (unl ops listed).length = 0) : Region.ready .any ops listed = [] := by
  cases hr : Region.ready .any ops listed with
  | nil => rfl
  | cons i r =>
    obtain ⟨h1, h2, _⟩ := ready_mem (listed := listed) (i := i) (by rw [hr]; exact List.mem_cons_self)
    have : i ∈ unl ops listed := List.mem_filter.2 ⟨List.mem_range.2 h1, by rw [h2]; rfl⟩
    rw [List.eq_nil_of_length_eq_zero h] at this
    cases this
theorem all_done {ops : Array Oper} (ho : ∀ i o, ops[i]? = some o → ∀ j, j ∈ aft o → j < i) {listed : Array Bool} (hs : listed.size = ops.size) (hr : Region.ready .any ops listed = []) : ∀ i, i < ops.size → listed.getD i true = true := by
  intro i
  induction i using Nat.strongRecOn with
  | _ i ih =>
    intro hi
    cases hd : listed.getD i true with
    | true => rfl
    | false =>
      have hn : i ∉ Region.ready .any ops listed := by rw [hr]; exact List.not_mem_nil
      refine absurd ?_ hn
      unfold Region.ready
      refine List.mem_filter.2 ⟨List.mem_range.2 hi, ?_⟩
      rw [hd, Array.getElem?_eq_getElem hi]
      show (true && (ops[i].after.all fun e => !Region.binds .any e || listed.getD e.on false)) = true
      rw [Bool.true_and]
      refine Array.all_eq_true_iff_forall_mem.2 fun e he => ?_
      cases hb : Region.binds .any e with
      | false => rfl
      | true =>
        have h2 := ho i _ (Array.getElem?_eq_getElem hi) e.on (aft_iff.2 ⟨e, he, hb, rfl⟩)
        have h3 := ih e.on h2 (Nat.lt_trans h2 hi)
        rw [Array.getD_eq_getD_getElem?, Array.getElem?_eq_getElem (by omega)] at h3
        rw [Array.getD_eq_getD_getElem?, Array.getElem?_eq_getElem (by omega)]
        have h3 : listed[e.on] = true := h3
        simp [h3]
/-- What holds ahead, and is kept by each operation that may come next, holds behind all of them. -/
theorem wpAny_inv {ops : Array Oper} {Q : Exit → Act → World → Prop} (ho : ∀ i o, ops[i]? = some o → ∀ j, j ∈ aft o → j < i) (I : (Nat → Bool) → Act → World → Prop)
    (hst : ∀ (L : Nat → Bool) a w i o, I L a w → ops[i]? = some o → L i = false → (∀ j, j ∈ aft o → L j = true) → wpOp P ops Q i (I fun j => L j || j == i) a w)
    (hend : ∀ (L : Nat → Bool) a w, I L a w → (∀ i, i < ops.size → L i = true) → Q .normal a w) : ∀ (k : Nat) (listed : Array Bool) (a : Act) (w : World), listed.size = ops.size → (unl ops listed).length ≤ k → I (fun j => listed.getD j true) a w → wpAny P .any ops Q k listed a w
  | 0, listed, a, w, hs, hk, h => ⟨unl_ready (by omega), hend _ a w h (all_done ho hs (unl_ready (by omega)))⟩
  | k + 1, listed, a, w, hs, hk, h => by
    refine ⟨fun hr => hend _ a w h (all_done ho hs hr), fun j hj => ?_⟩
    obtain ⟨h1, h2, o, h3, h4⟩ := ready_mem hj
    refine wpOp_mono (fun a' w' hI => ?_) (hst _ a w j o h h3 h2 fun e he => ?_)
    · refine wpAny_inv ho I hst hend k _ a' w' (by simpa using hs) (by have := unl_set hj; omega) ?_
      rw [show (fun x => (listed.setIfInBounds j true).getD x true) = fun x => listed.getD x true || x == j from funext fun x => getD_set listed j x]
      exact hI
    · obtain ⟨ed, he1, he2, rfl⟩ := aft_iff.1 he
      have h5 := h4 ed he1 he2
      rw [Array.getD_eq_getD_getElem?] at h5 ⊢
      cases hq : listed[ed.on]? with
      | none => rw [hq] at h5; cases h5
      | some b => rw [hq] at h5; exact h5

theorem tb_eq (m j : Nat) : tb m j = m.testBit j := by
  unfold tb
  rw [Nat.testBit_eq_decide_div_mod_eq]
  show Nat.beq ((m >>> j) % 2) 1 = _
  rw [Nat.shiftRight_eq_div_pow]
  cases hq : Nat.beq (m / 2 ^ j % 2) 1 with
  | true => rw [decide_eq_true (Nat.eq_of_beq_eq_true hq)]
  | false => rw [decide_eq_false (Nat.ne_of_beq_eq_false hq)]
theorem tb_zero (j : Nat) : tb 0 j = false := by rw [tb_eq]; exact Nat.zero_testBit j
theorem tb_lor (a b j : Nat) : tb (Nat.lor a b) j = (tb a j || tb b j) := by
  rw [tb_eq, tb_eq, tb_eq]
  exact Nat.testBit_or a b j
theorem tb_bit (acc : List Nat) (k j : Nat) (h : tb (bitOf acc k) j = true) : j = k ∨ tb (acc.getD k 0) j = true := by
  unfold bitOf at h
  rw [tb_lor, Bool.or_eq_true] at h
  refine h.imp (fun h => ?_) id
  rw [tb_eq] at h
  have : Nat.testBit (1 <<< k) j = true := h
  rw [Nat.shiftLeft_eq, Nat.one_mul, Nat.testBit_two_pow] at this
  exact (of_decide_eq_true this).symm
/-- What comes ahead of an operation was done, where what it waits for was. -/
theorem downs_in {ops : List Oper} {d : Nat → Prop} (hd : ∀ i o, ops[i]? = some o → d i → ∀ j, j ∈ aft o → d j) : ∀ (l : List Oper) (acc : List Nat), ops.drop acc.length = l → (∀ (p : Nat) m o, acc[p]? = some m → ops[p]? = some o → (∀ j, j ∈ aft o → d j) → ∀ j, tb m j = true → d j) →
    ∀ (p : Nat) m o, (downs l acc)[p]? = some m → ops[p]? = some o → (∀ j, j ∈ aft o → d j) → ∀ j, tb m j = true → d j
  | [], acc, _, h => h
  | x :: r, acc, hl, h => by
    have hx : ops[acc.length]? = some x := by
      have : (ops.drop acc.length)[0]? = some x := by rw [hl]; rfl
      rw [List.getElem?_drop] at this
      simpa using this
    unfold downs
    refine downs_in hd r _ (by
      rw [List.length_append, List.length_singleton, ← List.drop_drop, hl]
      rfl) (fun p m o hp ho ha j hj => ?_)
    rcases Nat.lt_or_ge p acc.length with hp1 | hp1
    · rw [List.getElem?_append_left hp1] at hp
      exact h p m o hp ho ha j hj
    · rw [List.getElem?_append_right hp1] at hp
      rcases Nat.eq_zero_or_pos (p - acc.length) with hz | hz
      · rw [hz] at hp
        cases hp
        have hpe : p = acc.length := by omega
        subst hpe
        rw [hx] at ho
        cases ho
        have key : ∀ (l : List Nat) (m : Nat), (∀ j, j ∈ l → d j) → (∀ j, tb m j = true → d j) → ∀ j, tb (l.foldl (fun m j => Nat.lor m (bitOf acc j)) m) j = true → d j := by
          intro l
          induction l with
          | nil => intro m _ hm j hj; exact hm j hj
          | cons k l ih =>
            intro m hl hm j hj
            rw [List.foldl_cons] at hj
            refine ih _ (fun j hj => hl j (by simp [hj])) (fun j hj => ?_) j hj
            rw [tb_lor, Bool.or_eq_true] at hj
            rcases hj with hj | hj
            · exact hm j hj
            · have hk := hl k (by simp)
              rcases tb_bit acc k j hj with rfl | hj
              · exact hk
              · rw [List.getD_eq_getElem?_getD] at hj
                cases hq : acc[k]? with
                | none => rw [hq] at hj; rw [show (none : Option Nat).getD 0 = 0 from rfl, tb_zero] at hj; cases hj
                | some m' =>
                  rw [hq] at hj
                  have hkl : k < ops.length := by
                    have := (List.getElem?_eq_some_iff.1 hq).1
                    have := (List.getElem?_eq_some_iff.1 hx).1
                    omega
                  exact h k m' _ hq (List.getElem?_eq_getElem hkl) (hd k _ (List.getElem?_eq_getElem hkl) hk) j hj
        exact key (aft x) 0 ha (fun j hj => by rw [tb_zero] at hj; cases hj) j hj
      · rw [List.getElem?_eq_none (by simp; omega)] at hp
        cases hp
theorem dnOf_in {ops : List Oper} {d : Nat → Prop} (hd : ∀ i o, ops[i]? = some o → d i → ∀ j, j ∈ aft o → d j) {i : Nat} {o : Oper} (ho : ops[i]? = some o) (ha : ∀ j, j ∈ aft o → d j) (j : Nat) (hj : tb (dnOf (downs ops []) i) j = true) : d j := by
  unfold dnOf at hj
  rw [List.getD_eq_getElem?_getD] at hj
  cases hq : (downs ops [])[i]? with
  | none => rw [hq] at hj; rw [show (none : Option Nat).getD 0 = 0 from rfl, tb_zero] at hj; cases hj
  | some m =>
    rw [hq] at hj
    exact downs_in hd ops [] rfl (fun p m o hp => by simp at hp) i m o hq ho ha j hj
theorem idx_mem {ops : List Oper} {i : Nat} {o : Oper} : (i, o) ∈ idx ops ↔ ops[i]? = some o := by
  unfold idx
  rw [List.mem_iff_getElem?]
  constructor
  · rintro ⟨n, hn⟩
    rw [List.getElem?_zip_eq_some] at hn
    obtain ⟨h1, h2⟩ := hn
    have hl := (List.getElem?_eq_some_iff.1 h1).1
    rw [List.getElem?_range (by simpa using hl)] at h1
    cases h1
    exact h2
  · intro h
    have hl := (List.getElem?_eq_some_iff.1 h).1
    exact ⟨i, List.getElem?_zip_eq_some.2 ⟨by rw [List.getElem?_range hl], h⟩⟩
end
end Go.Run
/- A meaning by run: regions that draw their order: classes of operations; what is asked of a region, told in words. -/
namespace Go.Run
open Go Go.RowKit
section
variable {P : Program} {T : TypeId → Option E} {ln : Nat} {w0 : World} {U : Nat → Prop} {G : Gh} {h : Hp} {w : World} {env σ : Env} {a : Act} {cf : CallF}
theorem ob_rv {α : Type} (x : Option α) (f : α → Option V) : ob x (fun a => rv h (f a)) = rv h (ob x f) := by cases x <;> rfl
theorem bt_rv (b : Bool) (x : Option V) : bt b (rv h x) = rv h (bt b x) := by cases b <;> rfl
theorem val_rv (v : V) : some (Rs.val v h) = rv h (some v) := rfl
noncomputable def lenO (T : TypeId → Option E) : List V → List TypeId → Option V
  | [x], [t] => ob (T t) fun d => bt (lenT d x) (ob (lenV x) fun n => some (vInt n))
  | _, _ => none
theorem bLen_rv : ∀ (vs : List V) (ts : List TypeId), bLen T h vs ts = rv h (lenO T vs ts)
  | [x], [t] => by
    show ob (T t) (fun d => bt (lenT d x) (ob (lenV x) fun n => some (.val (vInt n) h))) = rv h (ob (T t) fun d => bt (lenT d x) (ob (lenV x) fun n => some (vInt n)))
    simp only [val_rv, ob_rv, bt_rv]
  | [], _ => rfl
  | [_], [] => rfl
  | [_], _ :: _ :: _ => rfl
  | _ :: _ :: _, _ => rfl
/-- An operation that looks at no variable. -/
theorem cls_zero {o : Oper} (hc : cls T o = 0) (env : Env) : ∃ X, ∀ h, step T o.op env h = rv h X := by
  unfold cls at hc
  split at hc
  · rename_i x ho; rw [ho]; exact ⟨_, fun h => rfl⟩
  · rename_i x ho; rw [ho]; exact ⟨_, fun h => rfl⟩
  · rename_i c x y ho; rw [ho]; exact ⟨ob (ev env c) fun c => ob (asBool c) fun c => Bool.rec (ev env y) (ev env x) c, fun h => by show oPick c x y env h = _; simp only [oPick, ob_rv]⟩
  · rename_i op xt x y yt ho; rw [ho]; exact ⟨ob (ev env x) fun p => ob (ev env y) fun q => bin T op xt (bor (isC x) (isC y)) p q, fun h => by show oBin T op xt _ x y env h = _; simp only [oBin, ob_rv]⟩
  · rename_i op xt x ho; rw [ho]; exact ⟨ob (ev env x) fun p => un op p, fun h => by show oUn op x env h = _; simp only [oUn, ob_rv]⟩
  · rename_i t x f ho; rw [ho]; exact ⟨ob (T t) fun d => ob (ev env x) fun x => fieldAddr d f x, fun h => by show oFieldAddr T t x f env h = _; simp only [oFieldAddr, ob_rv]⟩
  · rename_i t x f ho; rw [ho]; exact ⟨ob (T t) fun d => ob (ev env x) fun x => ob (asAgg x) fun xs => ob (nth d.ones f) fun o => ob o fun o => fieldV xs o, fun h => by show oField T t x f env h = _; simp only [oField, ob_rv]⟩
  · rename_i x i ho; rw [ho]; exact ⟨ob (ev env x) fun x => ob (asTup x) fun xs => nth xs i, fun h => by show oExtract x i env h = _; simp only [oExtract, ob_rv]⟩
  · rename_i t x i ho; rw [ho]; exact ⟨ob (T t) fun d => bt d.isStr (ob (ev env x) fun x => ob (ev env i) fun i => ob (asNat i) fun i => index i x), fun h => by show oIndex T t x i env h = _; simp only [oIndex, ob_rv, bt_rv]⟩
  · rename_i t x i ho; rw [ho]; exact ⟨ob (elemOf T t) fun p => ob (ev env x) fun x => ob (ev env i) fun i => ob (asNat i) fun i => indexAddr p.2.size i x, fun h => by show oIndexAddr T t x i env h = _; simp only [oIndexAddr, ob_rv]⟩
  · rename_i t ps ho; rw [ho]; exact ⟨ob (T t) fun d => ob (evp env ps.toList) fun vs => bt (bnot (List.isEmpty d.parts)) (ob (fill (nth d.parts) vs d.zero) fun l => some (.agg l)), fun h => by show oBuild T t ps env h = _; simp only [oBuild, val_rv, ob_rv, bt_rv]⟩
  · rename_i x ho; rw [ho]; exact ⟨ob (ev env x) fun v => bt (isRef v) (some v), fun h => by show oNil x env h = _; simp only [oNil, val_rv, ob_rv, bt_rv]⟩
  · rename_i f x y ho
    rw [ho]
    cases f with
    | func f => exact ⟨ob (evs env x.toList) fun us => ob (evs env y.toList) fun vs => some (.clo f us vs), fun h => by show oMakeFunc (.func f) x y env h = _; simp only [oMakeFunc, val_rv, ob_rv]⟩
    | _ => exact ⟨none, fun h => rfl⟩
  · cases hc
  · cases hc
  · rename_i s t x ho
    cases hf : flatT T t <;> rw [hf] at hc <;> cases hc
  · rename_i c ho
    rw [ho]
    split at hc
    · rename_i hcc
      refine ⟨ob (evs env c.args.toList) fun vs => lenO T vs c.argTypes.toList, fun h => ?_⟩
      show oCall T c env h = _
      rw [oCall, hcc, ← ob_rv]
      congr 1
      funext vs
      exact bLen_rv vs c.argTypes.toList
    · rename_i hcc
      refine ⟨ob (evs env c.args.toList) fun vs => (match vs with | [.int k x, .int k' y] => bt (ikEq k k') (some (.int k (Bool.rec x y (intLt y x)))) | _ => none), fun h => ?_⟩
      show oCall T c env h = _
      rw [oCall, hcc, ← ob_rv]
      congr 1
      funext vs
      show bMin h vs = _
      unfold bMin
      split
      · simp only [val_rv, bt_rv]
      · rename_i hno
        split
        · exact absurd rfl (hno _ _ _ _)
        · rfl
    · rename_i hcc
      refine ⟨ob (evs env c.args.toList) fun vs => (match vs with | [.int k x, .int k' y] => bt (ikEq k k') (some (.int k (Bool.rec x y (intLt x y)))) | _ => none), fun h => ?_⟩
      show oCall T c env h = _
      rw [oCall, hcc, ← ob_rv]
      congr 1
      funext vs
      show bMax h vs = _
      unfold bMax
      split
      · simp only [val_rv, bt_rv]
      · rename_i hno
        split
        · exact absurd rfl (hno _ _ _ _)
        · rfl
    · cases hc
  · rename_i t ho
    cases hq : (o.guard.isNone && o.dst.isSome && (aft o).isEmpty) <;> rw [hq] at hc <;> cases hc
  · cases hc
/-- One that may look at some. -/
theorem cls_one {o : Oper} (hc : cls T o = 1) {r : Rs} (e : step T o.op env h = some r) : ∃ v, r = .val v h := by
  have hrv : ∀ {x : Option V}, rv h x = some r → ∃ v, r = .val v h := fun {x} e => by
    obtain ⟨v, _, rfl⟩ := rv_some e
    exact ⟨v, rfl⟩
  unfold cls at hc
  split at hc
  iterate 13 cases hc
  · rename_i t x ho
    rw [ho] at e
    obtain ⟨d, _, e⟩ := ob_some e
    obtain ⟨p, _, e⟩ := ob_some e
    exact hrv e
  · rename_i t x lo hi mx ho
    rw [ho] at e
    obtain ⟨d, _, e⟩ := ob_some e
    obtain ⟨p, _, e⟩ := ob_some e
    exact hrv e
  · rename_i s t x ho
    rw [ho] at e
    cases hf : flatT T t with
    | false => rw [hf] at hc; cases hc
    | true =>
      unfold flatT at hf
      obtain ⟨p, _, e⟩ := ob_some (show ob (ev env x) (fun x => conv T s t h x) = some r from e)
      unfold conv at e
      split at e
      · obtain ⟨_, _, e⟩ := ob_some e
        obtain ⟨d, hd, e⟩ := ob_some e
        cases hk : d.ik with
        | none =>
          rw [hk] at e
          obtain ⟨_, e⟩ := bt_some e
          obtain ⟨_, _, e⟩ := ob_some e
          obtain ⟨_, e⟩ := bt_some e
          cases e
          exact ⟨_, rfl⟩
        | some k => rw [hk] at e; cases e; exact ⟨_, rfl⟩
      · obtain ⟨_, _, e⟩ := ob_some e
        obtain ⟨d, hd, e⟩ := ob_some e
        obtain ⟨_, _, e⟩ := ob_some e
        cases e
        exact ⟨_, rfl⟩
      · obtain ⟨_, _, e⟩ := ob_some e
        obtain ⟨d, hd, e⟩ := ob_some e
        have hf : (d.isStr || d.elem.isNone) = true := by rw [hd] at hf; exact hf
        cases hs : d.isStr with
        | true => rw [hs] at e; cases e; exact ⟨_, rfl⟩
        | false =>
          rw [hs] at e
          obtain ⟨el, hel, _⟩ := ob_some e
          rw [hs, hel] at hf
          cases hf
      · obtain ⟨_, _, e⟩ := ob_some e
        obtain ⟨d, hd, e⟩ := ob_some e
        obtain ⟨_, e⟩ := bt_some e
        cases e
        exact ⟨_, rfl⟩
      · obtain ⟨_, _, e⟩ := ob_some e
        obtain ⟨d, hd, e⟩ := ob_some e
        obtain ⟨_, e⟩ := bt_some e
        obtain ⟨_, e⟩ := bt_some e
        cases e
        exact ⟨_, rfl⟩
      · obtain ⟨_, _, e⟩ := ob_some e
        obtain ⟨d, hd, e⟩ := ob_some e
        obtain ⟨_, e⟩ := bt_some e
        cases hs : d.isStr with
        | true =>
          rw [hs] at e
          obtain ⟨_, _, e⟩ := ob_some e
          exact hrv e
        | false =>
          rw [hs] at e
          obtain ⟨_, e⟩ := bt_some e
          obtain ⟨_, _, e⟩ := ob_some e
          obtain ⟨_, e⟩ := bt_some e
          obtain ⟨_, e⟩ := bt_some e
          cases e
          exact ⟨_, rfl⟩
      · cases e
  · split at hc <;> cases hc
  · rename_i t ho
    cases hq : (o.guard.isNone && o.dst.isSome && (aft o).isEmpty) <;> rw [hq] at hc <;> cases hc
  · cases hc
/-- One that makes a variable, first of all. -/
theorem cls_three {o : Oper} (hc : cls T o = 3) : ∃ t d, o.op = .alloc t ∧ o.guard = none ∧ o.dst = some d ∧ aft o = [] := by
  unfold cls at hc
  split at hc
  iterate 15 cases hc
  · rename_i s t x ho
    cases hf : flatT T t <;> rw [hf] at hc <;> cases hc
  · split at hc <;> cases hc
  · rename_i t ho
    cases hq : (o.guard.isNone && o.dst.isSome && (aft o).isEmpty) with
    | false => rw [hq] at hc; cases hc
    | true =>
      rw [Bool.and_eq_true, Bool.and_eq_true] at hq
      obtain ⟨⟨h1, h2⟩, h3⟩ := hq
      obtain ⟨d, hd⟩ := Option.isSome_iff_exists.1 h2
      exact ⟨t, d, ho, Option.isNone_iff_eq_none.1 h1, hd, List.isEmpty_iff.1 h3⟩
  · cases hc
theorem cls_lt (o : Oper) : cls T o = 0 ∨ cls T o = 1 ∨ cls T o = 2 ∨ cls T o = 3 := by
  unfold cls
  split <;> first
    | exact .inl rfl
    | exact .inr (.inl rfl)
    | exact .inr (.inr (.inl rfl))
    | skip
  · cases flatT T _ <;> simp
  · split <;> simp
  · cases (o.guard.isNone && o.dst.isSome && (aft o).isEmpty) <;> simp
theorem want_congr {ops : List Oper} {o : Oper} (hx : ∀ t, t ∈ guardOf ops o → env.get t = σ.get t) : want ops env o = want ops σ o := by
  unfold want
  unfold guardOf at hx
  cases hg : o.guard with
  | none => rfl
  | some g =>
    show ob (nth ops g.1) (fun p => ob p.dst fun d => ob (env.get d) (wantV g.2)) = ob (nth ops g.1) (fun p => ob p.dst fun d => ob (σ.get d) (wantV g.2))
    rw [nth_eq]
    rw [hg] at hx
    have hx : ∀ t, t ∈ (match (ops[g.1]?).bind (·.dst) with | some d => [d] | none => []) → env.get t = σ.get t := hx
    cases hp : ops[g.1]? with
    | none => rfl
    | some p =>
      rw [hp] at hx
      show ob p.dst (fun d => ob (env.get d) (wantV g.2)) = ob p.dst (fun d => ob (σ.get d) (wantV g.2))
      cases hd : p.dst with
      | none => rfl
      | some d =>
        show ob (env.get d) (wantV g.2) = ob (σ.get d) (wantV g.2)
        rw [hx d (by simp [hd])]
/-- An operation's outcome hangs on the slots that it looks at. -/
theorem oneV_congr {ops : List Oper} {o : Oper} (hx : ∀ t, t ∈ looks ops o → env.get t = σ.get t) : oneV T cf ops o env h = oneV T cf ops o σ h := by
  unfold oneV
  rw [want_congr fun t ht => hx t (List.mem_append_right _ ht)]
  rw [step_congr fun x hxx => ev_congr fun t ht => hx t (List.mem_append_left _ (List.mem_flatMap.2 ⟨x, hxx, ht⟩))]
/-- The slots of a frame that are looked at, alone. -/
noncomputable def only (env : Env) (l : List Nat) : Env := ⟨env.n, 0, l.filterMap fun t => (env.get t).map fun v => (t, v), .nil⟩
theorem bitR_zero {β : Type} (t : Nat) (x y : β) : bitR 0 t x y = x := by
  have : Nat.mod (Nat.shiftRight 0 t) 2 = 0 := by
    show (0 >>> t) % 2 = 0
    rw [Nat.zero_shiftRight]
  unfold bitR
  rw [this]
  rfl
theorem only_look (env : Env) (t : Nat) : ∀ l : List Nat, (List.rec (motive := fun _ => Option V) none (fun p _ ih => Bool.rec ih (some p.2) (Nat.beq p.1 t)) (l.filterMap fun t => (env.get t).map fun v => (t, v)) : Option V) = if t ∈ l then env.get t else none
  | [] => rfl
  | x :: l => by
    have ih := only_look env t l
    rw [List.filterMap_cons]
    by_cases e : x = t
    · subst e
      rw [if_pos List.mem_cons_self]
      cases hx : env.get x with
      | none =>
        simp only [Option.map_none]
        rw [ih, hx]
        split <;> rfl
      | some v =>
        simp only [Option.map_some]
        show (Bool.rec _ (some v) (Nat.beq x x) : Option V) = _
        rw [show Nat.beq x x = true from Nat.beq_refl x]
    · have hm : (if t ∈ x :: l then env.get t else none) = if t ∈ l then env.get t else none := by simp [Ne.symm e]
      rw [hm]
      cases hx : env.get x with
      | none =>
        simp only [Option.map_none]
        exact ih
      | some v =>
        simp only [Option.map_some]
        show (Bool.rec _ (some v) (Nat.beq x t) : Option V) = _
        rw [show Nat.beq x t = false from by cases hq : Nat.beq x t with | false => rfl | true => exact absurd (beqN hq) e]
        exact ih
theorem only_get (env : Env) (l : List Nat) (t : Nat) : (only env l).get t = if t ∈ l then env.get t else none := by
  show bitR 0 t _ _ = _
  rw [bitR_zero]
  exact only_look env t l
end
end Go.Run
