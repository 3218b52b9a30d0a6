/- Towards FnLint: Pc, Pd, Pl, Vc, Pe, Pf. -/
import Derived.Test.YtkdickfiifpblaaGreatDoorL01
import Derived.Test.YtkdickfiifpblaaGreatDoorProg
import Derived.KernelRfl
namespace Go.Proofs.YtkdickfiifpblaaGreatDoor.D
open Go Go.Den Go.Proofs
variable {w0 : World}
theorem ap6 {a b c d e f : AL} : List.Pairwise Ap [a, b, c, d, e, f] ↔ (Ap a b ∧ Ap a c ∧ Ap a d ∧ Ap a e ∧ Ap a f) ∧ (Ap b c ∧ Ap b d ∧ Ap b e ∧ Ap b f) ∧ (Ap c d ∧ Ap c e ∧ Ap c f) ∧ (Ap d e ∧ Ap d f) ∧ Ap e f := by
  simp [List.pairwise_cons]
theorem Ap.new {S : St} {e : TypeId} {sz n : Nat} {x r : AL} {xs : List AL} (h : Row S e sz x n xs) (k : ∃ k, r.tk = some k ∧ S.toks.length ≤ k) : Ap x r := by
  obtain ⟨k, hk, hle⟩ := k
  intro t ht he
  have := h.lt ht
  rw [hk] at he
  cases he
  omega
theorem _root_.Go.Den.Row.other {S S' : St} {e : TypeId} {sz n : Nat} {x y : AL} {xs : List AL} (h : Row S e sz x n xs) (ha : Ap x y) (k : ∀ u z, S.tok u = some z → y.tk ≠ some u → S'.tok u = some z) (ky : ∀ u, u ∈ S.young → u ∈ S'.young) : Row S' e sz x n xs :=
  h.keep (fun t z ht hz => k t z hz (ha t ht)) ky
theorem PR.pushX {S : St} {p : PS} (h : PR S p) (x : Er) (hc : p.exprs.length < 300) (tok : Option Nat) (y : Nat × TypeId × Nat) :
    ∃ r S', dAppend2 (tabOf Tryz.prog) 28 p.xx (.sl tok 1 x.cells) (S.born y) = some (r, S') ∧ Bx S S' ∧ PR S' { p with xx := r, exprs := p.exprs ++ [x] } := by
  obtain ⟨r, S', h1, h2, h3, h4, h5, h6, h7⟩ := h.rx.push (t := 28) (ys := x.cells) T28 rfl T59 rfl (by decide) rfl (by unfold maxLen; have := h.cx; omega) (by show (p.exprs.length + 1) * 64 ≤ _; have := h.cx; omega) tok y
  obtain ⟨⟨a1, a2, a3, a4, a5⟩, ⟨b1, b2, b3, b4⟩, ⟨c1, c2, c3⟩, ⟨d1, d2⟩, e1⟩ := ap6.1 h.ap
  refine ⟨r, S', h1, ⟨h3, by omega, h7⟩, h.rr.other a4 h5 h7, h.ri.other b3 h5 h7, h.re.other c2 h5 h7, h.rs.other d1 h5 h7, ?_, h.rl.other e1.symm h5 h7, h.cr, h.ci, h.ce, h.cs, ?_, ap6.2 ⟨⟨a1, a2, a3, Ap.new h.rr h6, a5⟩, ⟨b1, b2, Ap.new h.ri h6, b4⟩, ⟨c1, Ap.new h.re h6, c3⟩, ⟨Ap.new h.rs h6, d2⟩, (Ap.new h.rl h6).symm⟩⟩
  · show Row S' 59 6 r (p.exprs ++ [x]).length ((p.exprs ++ [x]).flatMap Er.cells)
    rw [List.length_append, ← flat_add]
    exact h2
  · show (p.exprs ++ [x]).length ≤ 300
    simp
    omega
theorem PR.pushS {S : St} {p : PS} (h : PR S p) (x : Sm) (hc : p.stmts.length < 80) (tok : Option Nat) (y : Nat × TypeId × Nat) :
    ∃ r S', dAppend2 (tabOf Tryz.prog) 27 p.xs (.sl tok 1 x.cells) (S.born y) = some (r, S') ∧ Bx S S' ∧ PR S' { p with xs := r, stmts := p.stmts ++ [x] } := by
  obtain ⟨r, S', h1, h2, h3, h4, h5, h6, h7⟩ := h.rs.push (t := 27) (ys := x.cells) T27 rfl T46 rfl (by decide) rfl (by unfold maxLen; have := h.cs; omega) (by show (p.stmts.length + 1) * 32 ≤ _; have := h.cs; omega) tok y
  obtain ⟨⟨a1, a2, a3, a4, a5⟩, ⟨b1, b2, b3, b4⟩, ⟨c1, c2, c3⟩, ⟨d1, d2⟩, e1⟩ := ap6.1 h.ap
  refine ⟨r, S', h1, ⟨h3, by omega, h7⟩, h.rr.other a3 h5 h7, h.ri.other b2 h5 h7, h.re.other c1 h5 h7, ?_, h.rx.other d1.symm h5 h7, h.rl.other d2.symm h5 h7, h.cr, h.ci, h.ce, ?_, h.cx, ap6.2 ⟨⟨a1, a2, Ap.new h.rr h6, a4, a5⟩, ⟨b1, Ap.new h.ri h6, b3, b4⟩, ⟨Ap.new h.re h6, c2, c3⟩, ⟨(Ap.new h.rx h6).symm, (Ap.new h.rl h6).symm⟩, e1⟩⟩
  · show Row S' 46 3 r (p.stmts ++ [x]).length ((p.stmts ++ [x]).flatMap Sm.cells)
    rw [List.length_append, ← flat_add]
    exact h2
  · show (p.stmts ++ [x]).length ≤ 80
    simp
    omega
theorem PR.pushE {S : St} {p : PS} (h : PR S p) (x : Xp) (hc : p.exps.length + p.last.length < 40) (tok : Option Nat) (y : Nat × TypeId × Nat) :
    ∃ r S', dAppend2 (tabOf Tryz.prog) 26 p.xe (.sl tok 1 x.cells) (S.born y) = some (r, S') ∧ Bx S S' ∧ PR S' { p with xe := r, exps := p.exps ++ [x] } := by
  obtain ⟨r, S', h1, h2, h3, h4, h5, h6, h7⟩ := h.re.push (t := 26) (ys := x.cells) T26 rfl T72 rfl (by decide) rfl (by unfold maxLen; omega) (by show (p.exps.length + 1) * 56 ≤ _; omega) tok y
  obtain ⟨⟨a1, a2, a3, a4, a5⟩, ⟨b1, b2, b3, b4⟩, ⟨c1, c2, c3⟩, ⟨d1, d2⟩, e1⟩ := ap6.1 h.ap
  refine ⟨r, S', h1, ⟨h3, by omega, h7⟩, h.rr.other a2 h5 h7, h.ri.other b1 h5 h7, ?_, h.rs.other c1.symm h5 h7, h.rx.other c2.symm h5 h7, h.rl.other c3.symm h5 h7, h.cr, h.ci, ?_, h.cs, h.cx, ap6.2 ⟨⟨a1, Ap.new h.rr h6, a3, a4, a5⟩, ⟨Ap.new h.ri h6, b2, b3, b4⟩, ⟨(Ap.new h.rs h6).symm, (Ap.new h.rx h6).symm, (Ap.new h.rl h6).symm⟩, ⟨d1, d2⟩, e1⟩⟩
  · show Row S' 72 4 r (p.exps ++ [x]).length ((p.exps ++ [x]).flatMap Xp.cells)
    rw [List.length_append, ← flat_add]
    exact h2
  · show (p.exps ++ [x]).length + p.last.length ≤ 40
    simp
    omega
theorem PR.pushL {S : St} {p : PS} (h : PR S p) (x : Xp) (hc : p.exps.length + p.last.length < 40) (tok : Option Nat) (y : Nat × TypeId × Nat) :
    ∃ r S', dAppend2 (tabOf Tryz.prog) 26 p.xl (.sl tok 1 x.cells) (S.born y) = some (r, S') ∧ Bx S S' ∧ PR S' { p with xl := r, last := p.last ++ [x] } := by
  obtain ⟨r, S', h1, h2, h3, h4, h5, h6, h7⟩ := h.rl.push (t := 26) (ys := x.cells) T26 rfl T72 rfl (by decide) rfl (by unfold maxLen; omega) (by show (p.last.length + 1) * 56 ≤ _; omega) tok y
  obtain ⟨⟨a1, a2, a3, a4, a5⟩, ⟨b1, b2, b3, b4⟩, ⟨c1, c2, c3⟩, ⟨d1, d2⟩, e1⟩ := ap6.1 h.ap
  refine ⟨r, S', h1, ⟨h3, by omega, h7⟩, h.rr.other a5 h5 h7, h.ri.other b4 h5 h7, h.re.other c3 h5 h7, h.rs.other d2 h5 h7, h.rx.other e1 h5 h7, ?_, h.cr, h.ci, ?_, h.cs, h.cx, ap6.2 ⟨⟨a1, a2, a3, a4, Ap.new h.rr h6⟩, ⟨b1, b2, b3, Ap.new h.ri h6⟩, ⟨c1, c2, Ap.new h.re h6⟩, ⟨d1, Ap.new h.rs h6⟩, Ap.new h.rx h6⟩⟩
  · show Row S' 72 4 r (p.last ++ [x]).length ((p.last ++ [x]).flatMap Xp.cells)
    rw [List.length_append, ← flat_add]
    exact h2
  · show p.exps.length + (p.last ++ [x]).length ≤ 40
    simp
    omega
theorem PR.pushI {S : St} {p : PS} (h : PR S p) (x : Im) (hc : p.imps.length < 40) (tok : Option Nat) (y : Nat × TypeId × Nat) :
    ∃ r S', dAppend2 (tabOf Tryz.prog) 25 p.xi (.sl tok 1 x.cells) (S.born y) = some (r, S') ∧ Bx S S' ∧ PR S' { p with xi := r, imps := p.imps ++ [x] } := by
  obtain ⟨r, S', h1, h2, h3, h4, h5, h6, h7⟩ := h.ri.push (t := 25) (ys := x.cells) T25 rfl T48 rfl (by decide) rfl (by unfold maxLen; omega) (by show (p.imps.length + 1) * 48 ≤ _; omega) tok y
  obtain ⟨⟨a1, a2, a3, a4, a5⟩, ⟨b1, b2, b3, b4⟩, ⟨c1, c2, c3⟩, ⟨d1, d2⟩, e1⟩ := ap6.1 h.ap
  refine ⟨r, S', h1, ⟨h3, by omega, h7⟩, h.rr.other a1 h5 h7, ?_, h.re.other b1.symm h5 h7, h.rs.other b2.symm h5 h7, h.rx.other b3.symm h5 h7, h.rl.other b4.symm h5 h7, h.cr, ?_, h.ce, h.cs, h.cx, ap6.2 ⟨⟨Ap.new h.rr h6, a2, a3, a4, a5⟩, ⟨(Ap.new h.re h6).symm, (Ap.new h.rs h6).symm, (Ap.new h.rx h6).symm, (Ap.new h.rl h6).symm⟩, ⟨c1, c2, c3⟩, ⟨d1, d2⟩, e1⟩⟩
  · show Row S' 48 3 r (p.imps ++ [x]).length ((p.imps ++ [x]).flatMap Im.cells)
    rw [List.length_append, ← flat_add]
    exact h2
  · show (p.imps ++ [x]).length ≤ 40
    simp
    omega
theorem PR.pushR {S : St} {p : PS} (h : PR S p) (x : ByteArray) (hc : p.reqs.length < 40) (tok : Option Nat) (y : Nat × TypeId × Nat) :
    ∃ r S', dAppend2 (tabOf Tryz.prog) 24 p.xr (.sl tok 1 (Rq x)) (S.born y) = some (r, S') ∧ Bx S S' ∧ PR S' { p with xr := r, reqs := p.reqs ++ [x] } := by
  obtain ⟨r, S', h1, h2, h3, h4, h5, h6, h7⟩ := h.rr.push (t := 24) (ys := Rq x) T24 rfl T9 rfl (by decide) rfl (by unfold maxLen; omega) (by show (p.reqs.length + 1) * 16 ≤ _; omega) tok y
  obtain ⟨⟨a1, a2, a3, a4, a5⟩, ⟨b1, b2, b3, b4⟩, ⟨c1, c2, c3⟩, ⟨d1, d2⟩, e1⟩ := ap6.1 h.ap
  refine ⟨r, S', h1, ⟨h3, by omega, h7⟩, ?_, h.ri.other a1.symm h5 h7, h.re.other a2.symm h5 h7, h.rs.other a3.symm h5 h7, h.rx.other a4.symm h5 h7, h.rl.other a5.symm h5 h7, ?_, h.ci, h.ce, h.cs, h.cx, ap6.2 ⟨⟨(Ap.new h.ri h6).symm, (Ap.new h.re h6).symm, (Ap.new h.rs h6).symm, (Ap.new h.rx h6).symm, (Ap.new h.rl h6).symm⟩, ⟨b1, b2, b3, b4⟩, ⟨c1, c2, c3⟩, ⟨d1, d2⟩, e1⟩⟩
  · show Row S' 9 1 r (p.reqs ++ [x]).length ((p.reqs ++ [x]).flatMap Rq)
    rw [List.length_append, ← flat_add]
    exact h2
  · show (p.reqs ++ [x]).length ≤ 40
    simp
    omega
theorem Row.toks {S S' : St} {e : TypeId} {sz n : Nat} {x : AL} {xs : List AL} (ht : Same S S') (h : Row S e sz x n xs) : Row S' e sz x n xs := h.ext ht.le
theorem PR.toks {S S' : St} {p : PS} (ht : Same S S') (h : PR S p) : PR S' p := h.ext ht.le
structure G (p q : PS) : Prop where
  toks : q.toks = p.toks
  deep : q.deep = p.deep
  at_ : p.at_ ≤ q.at_
  nb : q.bad < 0 → p.bad < 0
structure G0 (p q : PS) : Prop extends G p q where
  same : q.bad < 0 → q.stmts = p.stmts ∧ q.exps = p.exps ∧ q.last = p.last
theorem G.trans {p q r : PS} (h : G p q) (k : G q r) : G p r := ⟨k.toks.trans h.toks, k.deep.trans h.deep, Int.le_trans h.at_ k.at_, fun hb => h.nb (k.nb hb)⟩
theorem G0.trans {p q r : PS} (h : G0 p q) (k : G0 q r) : G0 p r := ⟨h.toG.trans k.toG, fun hb => by
  obtain ⟨a, b, c⟩ := k.same hb
  obtain ⟨a', b', c'⟩ := h.same (k.nb hb)
  exact ⟨a.trans a', b.trans b', c.trans c'⟩⟩
theorem Bad.g0 {p q : PS} (k : Bad p q) : G0 p q := by
  obtain ⟨b, hb, rfl⟩ := k
  exact ⟨⟨rfl, rfl, Int.le_refl _, fun h => by have : b < 0 := h; omega⟩, fun h => by have : b < 0 := h; omega⟩
theorem Bad.bad {p q : PS} (k : Bad p q) : 0 ≤ q.bad := by
  obtain ⟨b, hb, rfl⟩ := k
  exact hb
theorem Took.g0 {p q : PS} (k : Took p q) : G0 p q := by
  rcases k with ⟨h1, h2, rfl⟩ | k
  · exact ⟨⟨rfl, rfl, by show p.at_ ≤ p.at_ + 1; omega, fun _ => h1⟩, fun _ => ⟨rfl, rfl, rfl⟩⟩
  · exact k.g0
theorem Took.on {p q : PS} (k : Took p q) : q.bad < 0 → p.at_ < q.at_ := by
  rcases k with ⟨h1, h2, rfl⟩ | k
  · intro _
    show p.at_ < p.at_ + 1
    omega
  · intro h
    have := k.bad
    omega
def rP (B : Nat) (p : PS) (v : AV) (S : St) : Prop := ∃ q : PS, v = q.av ∧ PF B q ∧ PR S q ∧ G0 p q
def pre (B : Nat) (p : PS) (S : St) : Prop := PF B p ∧ PR S p
theorem pre_loc {B : Nat} {p : PS} (S S' : St) (h : Same S S') (k : pre B p S) : pre B p S' := ⟨k.1, k.2.toks h⟩
theorem rP_loc {B : Nat} {p : PS} (v : AV) (S S' : St) (h : Same S S') (k : rP B p v S) : rP B p v S' := by
  obtain ⟨q, h1, h2, h3, h4⟩ := k
  exact ⟨q, h1, h2, h3.toks h, h4⟩
abbrev Er.av (x : Er) : AV := .agg x.cells
theorem l4Add_ok (B : Nat) (p : PS) (x : Er) (ha : p.bad < 0 → 1 ≤ p.at_) (hx : x.name.size ≤ B + 8) : CONP w0 112 [p.av, .agg [.int .i64 x.k, .int .i64 x.num, .str x.name, .str x.field, .int .i64 x.l, .int .i64 x.r]] (pre B p) (rP B p) := by
  refine ConP.of_gen (plans := np) hT hmo (nov := true) pre_loc rP_loc (fun v S hv => by obtain ⟨q, rfl, _⟩ := hv; exact ⟨Tryz.f112, [q.av], by kernel_rfl, rfl, by kernel_rfl⟩) (fun S hp => ?_)
  have hf := hp.1
  have hr := hp.2
  rw [v112]
  refine ⟨rfl, fun hb => ⟨rfl, Bx.refl S, p, rfl, hf, hr, ⟨⟨rfl, rfl, Int.le_refl _, fun h => h⟩, fun _ => ⟨rfl, rfl, rfl⟩⟩⟩, fun hb => ⟨_, hr.rx.len, fun _ => ⟨_, (l4Full_ok B p hf ha).use S _, fun x n n1 b1 x1 x2 x3 x4 x5 x6 n2 n3 S2 ⟨hE2, q, hq, hbad⟩ => ⟨rfl, hE2.bx, q, hq, hbad.pf hf, (hbad.pr hr).ext hE2.2, hbad.g0⟩⟩, fun hfull => ⟨rfl, ?_⟩⟩⟩
  have hfull := of_decide_eq_false hfull
  obtain ⟨r, S', h1, h2, h3⟩ := hr.pushX x (by omega) (some S.toks.length) (6, 59, 6)
  exact ⟨r, S', h1, rfl, h2, { p with xx := r, exprs := p.exprs ++ [x] }, rfl, ⟨hf.tk, hf.ln, hf.at0, hf.at1, hf.en0, hf.en1, hf.bad0, hf.dp0, hf.dp1, hf.bi, hf.bs, bnd hf.bx hx⟩, h3, ⟨⟨rfl, rfl, Int.le_refl _, fun h => h⟩, fun _ => ⟨rfl, rfl, rfl⟩⟩⟩
theorem l4Imp_ok (B : Nat) (p : PS) (x : Im) (ha : p.bad < 0 → 1 ≤ p.at_) (hx : x.loc.size ≤ B + 8) : CONP w0 107 [p.av, .agg [.str x.spec, .str x.from_, .str x.loc]] (pre B p) (rP B p) := by
  refine ConP.of_gen (plans := np) hT hmo (nov := true) pre_loc rP_loc (fun v S hv => by obtain ⟨q, rfl, _⟩ := hv; exact ⟨Tryz.f107, [q.av], by kernel_rfl, rfl, by kernel_rfl⟩) (fun S hp => ?_)
  have hf := hp.1
  have hr := hp.2
  rw [v107]
  refine ⟨rfl, fun hb => ⟨rfl, Bx.refl S, p, rfl, hf, hr, ⟨⟨rfl, rfl, Int.le_refl _, fun h => h⟩, fun _ => ⟨rfl, rfl, rfl⟩⟩⟩, fun hb => ⟨_, hr.ri.len, fun _ => ⟨_, (l4Full_ok B p hf ha).use S _, fun x n n1 b1 x1 x2 x3 x4 x5 x6 n2 n3 S2 ⟨hE2, q, hq, hbad⟩ => ⟨rfl, hE2.bx, q, hq, hbad.pf hf, (hbad.pr hr).ext hE2.2, hbad.g0⟩⟩, fun hfull => ⟨rfl, ?_⟩⟩⟩
  have hfull := of_decide_eq_false hfull
  obtain ⟨r, S', h1, h2, h3⟩ := hr.pushI x (by omega) (some S.toks.length) (3, 48, 3)
  exact ⟨r, S', h1, rfl, h2, { p with xi := r, imps := p.imps ++ [x] }, rfl, ⟨hf.tk, hf.ln, hf.at0, hf.at1, hf.en0, hf.en1, hf.bad0, hf.dp0, hf.dp1, bnd hf.bi hx, hf.bs, hf.bx⟩, h3, ⟨⟨rfl, rfl, Int.le_refl _, fun h => h⟩, fun _ => ⟨rfl, rfl, rfl⟩⟩⟩
abbrev dflt : ByteArray := ⟨#[42, 100, 101, 102, 97, 117, 108, 116]⟩
def TookE (p q : PS) (x : Xp) : Prop := G p q ∧ (q.bad < 0 → q.stmts = p.stmts ∧ ((x.loc = dflt ∧ q.exps = p.exps ∧ q.last = p.last ++ [x]) ∨ (x.loc ≠ dflt ∧ q.exps = p.exps ++ [x] ∧ q.last = p.last)))
def rE (B : Nat) (p : PS) (x : Xp) (v : AV) (S : St) : Prop := ∃ q : PS, v = q.av ∧ PF B q ∧ PR S q ∧ TookE p q x
theorem l4Exp_ok (B : Nat) (p : PS) (x : Xp) (ha : p.bad < 0 → 1 ≤ p.at_) : CONP w0 109 [p.av, .agg [.int .i64 x.k, .str x.name, .str x.loc, .str x.spec]] (pre B p) (rE B p x) := by
  refine ConP.of_gen (plans := np) hT hmo (nov := true) pre_loc (fun v S S' h ⟨q, h1, h2, h3, h4⟩ => ⟨q, h1, h2, h3.toks h, h4⟩) (fun v S hv => by obtain ⟨q, rfl, _⟩ := hv; exact ⟨Tryz.f109, [q.av], by kernel_rfl, rfl, by kernel_rfl⟩) (fun S hp => ?_)
  have hf := hp.1
  have hr := hp.2
  rw [v109]
  refine ⟨rfl, fun hb => ⟨rfl, Bx.refl S, p, rfl, hf, hr, ⟨rfl, rfl, Int.le_refl _, fun h => h⟩, fun h => by have := of_decide_eq_true hb; omega⟩, fun hb => ⟨_, hr.re.len, _, hr.rl.len, by have := hr.ce; unfold in64; omega, fun _ => ⟨_, (l4Full_ok B p hf ha).use S _, fun x n n1 b1 x1 x2 x3 x4 x5 x6 n2 n3 S2 ⟨hE2, q, hq, hbad⟩ => ⟨rfl, hE2.bx, q, hq, hbad.pf hf, (hbad.pr hr).ext hE2.2, hbad.g0.toG, fun h => by have := hbad.bad; omega⟩⟩, fun hfull => ⟨fun hd => ⟨rfl, ?_⟩, fun hd => ⟨rfl, ?_⟩⟩⟩⟩
  · have hfull := of_decide_eq_false hfull
    obtain ⟨r, S', h1, h2, h3⟩ := hr.pushL x (by omega) (some S.toks.length) (4, 72, 4)
    exact ⟨r, S', h1, rfl, h2, { p with xl := r, last := p.last ++ [x] }, rfl, ⟨hf.tk, hf.ln, hf.at0, hf.at1, hf.en0, hf.en1, hf.bad0, hf.dp0, hf.dp1, hf.bi, hf.bs, hf.bx⟩, h3, ⟨rfl, rfl, Int.le_refl _, fun h => h⟩, fun _ => ⟨rfl, .inl ⟨of_decide_eq_true hd, rfl, rfl⟩⟩⟩
  · have hfull := of_decide_eq_false hfull
    obtain ⟨r, S', h1, h2, h3⟩ := hr.pushE x (by omega) (some S.toks.length) (4, 72, 4)
    exact ⟨r, S', h1, rfl, h2, { p with xe := r, exps := p.exps ++ [x] }, rfl, ⟨hf.tk, hf.ln, hf.at0, hf.at1, hf.en0, hf.en1, hf.bad0, hf.dp0, hf.dp1, hf.bi, hf.bs, hf.bx⟩, h3, ⟨rfl, rfl, Int.le_refl _, fun h => h⟩, fun _ => ⟨rfl, .inr ⟨of_decide_eq_false hd, rfl, rfl⟩⟩⟩
def TookS (p q : PS) (k : Int) (name : ByteArray) : Prop := G p q ∧ (q.bad < 0 → q.exps = p.exps ∧ q.last = p.last ∧ ∃ e, q.stmts = p.stmts ++ [⟨k, name, e⟩])
def rS (B : Nat) (p : PS) (k : Int) (name : ByteArray) (v : AV) (S : St) : Prop := ∃ q : PS, v = q.av ∧ PF B q ∧ PR S q ∧ TookS p q k name
theorem l4Stmt_ok (B : Nat) (p : PS) (k : Int) (name : ByteArray) (ha : p.bad < 0 → 1 ≤ p.at_) (hx : name.size ≤ B + 8) : CONP w0 83 [p.av, int k, str name] (pre B p) (rS B p k name) := by
  refine ConP.of_gen (plans := np) hT hmo (nov := true) pre_loc (fun v S S' h ⟨q, h1, h2, h3, h4⟩ => ⟨q, h1, h2, h3.toks h, h4⟩) (fun v S hv => by obtain ⟨q, rfl, _⟩ := hv; exact ⟨Tryz.f83, [q.av], by kernel_rfl, rfl, by kernel_rfl⟩) (fun S hp => ?_)
  have hf := hp.1
  have hr := hp.2
  rw [v83]
  refine ⟨rfl, fun hb => ⟨rfl, Bx.refl S, p, rfl, hf, hr, ⟨rfl, rfl, Int.le_refl _, fun h => h⟩, fun h => by have := of_decide_eq_true hb; omega⟩, fun hb => ⟨_, hr.rs.len, fun _ => ⟨_, (l4Full_ok B p hf ha).use S _, fun x n n1 b1 x1 x2 x3 x4 x5 x6 n2 n3 S2 ⟨hE2, q, hq, hbad⟩ => ⟨rfl, hE2.bx, q, hq, hbad.pf hf, (hbad.pr hr).ext hE2.2, hbad.g0.toG, fun h => by have := hbad.bad; omega⟩⟩, fun hfull => ⟨_, hr.rx.len, by have := hr.cx; unfold in64; omega, rfl, ?_⟩⟩⟩
  have hfull := of_decide_eq_false hfull
  obtain ⟨r, S', h1, h2, h3⟩ := hr.pushS ⟨k, name, (p.exprs.length : Int) - 1⟩ (by omega) (some S.toks.length) (3, 46, 3)
  exact ⟨r, S', h1, rfl, h2, { p with xs := r, stmts := p.stmts ++ [⟨k, name, (p.exprs.length : Int) - 1⟩] }, rfl, ⟨hf.tk, hf.ln, hf.at0, hf.at1, hf.en0, hf.en1, hf.bad0, hf.dp0, hf.dp1, hf.bi, bnd hf.bs hx, hf.bx⟩, h3, ⟨rfl, rfl, Int.le_refl _, fun h => h⟩, fun _ => ⟨rfl, rfl, _, rfl⟩⟩
end Go.Proofs.YtkdickfiifpblaaGreatDoor.D
namespace Go.Proofs.YtkdickfiifpblaaGreatDoor.D
open Go Go.Den Go.Proofs
set_option maxRecDepth 100000
variable {w0 : World}
theorem flat1_get (l : List ByteArray) (i : Nat) (x : ByteArray) (hx : l[i]? = some x) : (List.drop (i * 1) (l.flatMap Rq))[0]? = some (.str x) := by
  have := flat_get Rq 1 (fun _ => rfl) l i 0 x hx (by omega)
  simpa [Rq] using this
theorem row_get {S : St} {e : TypeId} {sz n : Nat} {x : AL} {xs : List AL} (h : Row S e sz x n xs) (hn : 0 < n) : ∃ tk, x = .sl tk n xs := by
  obtain ⟨_, ⟨rfl, h0⟩ | ⟨tk, rfl, _⟩⟩ := h
  · omega
  · exact ⟨_, rfl⟩
def rSpec (B : Nat) (p : PS) (v : AV) (S : St) : Prop := ∃ (q : PS) (s : ByteArray), v = .tup [q.av, str s] ∧ PF B q ∧ PR S q ∧ G0 p q ∧ (q.bad < 0 → p.at_ < q.at_)
abbrev nlc : List AL := [.nilsl, .int .i64 0, .int .i64 0, .bool false, .nilsl, .nilsl, .nilsl, .nilsl, .nilsl, .nilsl, .int .i64 0, .int .i64 0]
def iSpec (S0 : St) (p : PS) (s : ByteArray) : Nat → KE := fun m env S' L => ∃ i : Int, env = [(5, .v (int i)), (4, .v (str s)), (3, .v (str ⟨⟨[]⟩⟩)), (2, .loc 1 0), (1, .loc 0 0)] ∧ L = [(90, { p with at_ := p.at_ + 1 : PS }.cs), (90, nlc)] ∧ S' = S0 ∧ 0 ≤ i ∧ i ≤ p.reqs.length ∧ (m : Int) = p.reqs.length - i
theorem l4Spec_ok (B : Nat) (p : PS) : CONP w0 106 [p.av] (pre B p) (rSpec B p) := by
  refine ConP.of_gen (plans := np) hT hmo (nov := true) pre_loc (fun v S S' h ⟨q, s, h1, h2, h3, h4⟩ => ⟨q, s, h1, h2, h3.toks h, h4⟩) (fun v S hv => by obtain ⟨q, s, rfl, _⟩ := hv; exact ⟨Tryz.f106, [q.av, str s], by kernel_rfl, rfl, by kernel_rfl⟩) (fun S hp => ?_)
  have hf := hp.1
  have hr := hp.2
  have h0 := hf.at0
  have h1 := hf.at1
  have hln := hf.ln
  rw [v106]
  have fail : ∃ R, (realHk Tryz.prog w0 (tabOf Tryz.prog)).1 110 [p.av] S [(90, p.cs), (90, nlc)] R ∧ ∀ (x : AL) (n n_1 : Int) (b : Bool) (x_1 x_2 x_3 x_4 x_5 x_6 : AL) (n_2 n_3 : Int) (S1 : St),
      R (AV.agg [x, AL.int IntKind.i64 n, AL.int IntKind.i64 n_1, AL.bool b, x_1, x_2, x_3, x_4, x_5, x_6, AL.int IntKind.i64 n_2, AL.int IntKind.i64 n_3]) S1 →
      true = true ∧ (Bx S S1 ∧ rSpec B p (AV.tup [AV.agg [x, AL.int IntKind.i64 n, AL.int IntKind.i64 n_1, AL.bool b, x_1, x_2, x_3, x_4, x_5, x_6, AL.int IntKind.i64 n_2, AL.int IntKind.i64 n_3], AV.one (AL.str (ByteArray.mk (Array.mk [])))]) S1) :=
    ⟨_, (l4Fail_ok B p hf).use S _, by
      rintro x n n1 b1 x1 x2 x3 x4 x5 x6 n2 n3 S2 ⟨hE2, q, hq, hbad⟩
      exact ⟨rfl, hE2.bx, q, _, by rw [hq], hbad.pf hf, (hbad.pr hr).ext hE2.2, hbad.g0, fun h => by have := hbad.bad; omega⟩⟩
  refine ⟨rfl, fun _ => fail, fun hb => ⟨_, rfl, fun _ => fail, fun hlt => ?_⟩⟩
  have hlt := of_decide_eq_false hlt
  have hb := of_decide_eq_false hb
  obtain ⟨t, htg, ht, g0, g1, _, _⟩ := tk_get p.toks p.at_ h0 (by omega)
  refine ⟨_, _, _, rfl, h0, by omega, ⟨_, rfl, g0⟩, fun n hn => ⟨fun _ => fail, fun hk => ⟨_, _, _, rfl, h0, by omega, ⟨_, rfl, g1⟩, fun s hs => ⟨by unfold in64; omega, ?_⟩⟩⟩⟩
  have hfq : PF B { p with at_ := p.at_ + 1 } := ⟨hf.tk, hf.ln, by show 0 ≤ p.at_ + 1; omega, by show p.at_ + 1 ≤ (p.toks.length : Int); omega, hf.en0, hf.en1, hf.bad0, hf.dp0, hf.dp1, hf.bi, hf.bs, hf.bx⟩
  have hrq : PR S { p with at_ := p.at_ + 1 } := hr.at (p.at_ + 1) p.bad p.deep
  have hgq : G0 p { p with at_ := p.at_ + 1 } := ⟨⟨rfl, rfl, by show p.at_ ≤ p.at_ + 1; omega, fun h => h⟩, fun _ => ⟨rfl, rfl, rfl⟩⟩
  refine ⟨[5, 4, 3, 2, 1], iSpec S p s, p.reqs.length, ⟨0, rfl, rfl, rfl, by omega, by omega, by omega⟩, ?_⟩
  rintro m env S1 L1 ⟨i, rfl, rfl, rfl, i0, i1, hm⟩
  refine WSem.of hT hmo (nov := true) (plans := np) (f := 1000) ?_
  rw [b106_0]
  refine ⟨_, hr.rr.len, fun hil => ?_, fun hil => ?_⟩
  · have hil := of_decide_eq_true hil
    obtain ⟨tk, htk⟩ := row_get hr.rr (by omega)
    have hi : i.toNat < p.reqs.length := by omega
    have hget := flat1_get p.reqs i.toNat _ (List.getElem?_eq_getElem hi)
    refine ⟨_, _, _, htk, i0, hil, ⟨_, rfl, hget⟩, fun s1 hs1 => ⟨fun he => ?_, fun he => ⟨by unfold in64; have := hr.cr; omega, ?_⟩⟩⟩
    · refine loopK.ret (L' := [(90, { p with at_ := p.at_ + 1 : PS }.cs), (90, { p with at_ := p.at_ + 1 : PS }.cs)]) ⟨Nat.one_lt_two, Nat.zero_lt_two, trivial⟩ rfl ?_
      refine kont.ret _ ?_
      have he := of_decide_eq_true he
      exact ⟨rfl, Bx.refl S1, { p with at_ := p.at_ + 1 }, s, rfl, hfq, hrq, hgq, fun _ => by show p.at_ < p.at_ + 1; omega⟩
    · exact loopK.again (L' := [(90, { p with at_ := p.at_ + 1 : PS }.cs), (90, nlc)]) (m' := m - 1) ⟨Nat.one_lt_two, Nat.zero_lt_two, trivial⟩ rfl (by omega) ⟨i + 1, rfl, rfl, rfl, by omega, by omega, by omega⟩
  · have hil := of_decide_eq_false hil
    refine loopK.exit (L' := [(90, { p with at_ := p.at_ + 1 : PS }.cs), (90, nlc)]) ⟨Nat.one_lt_two, Nat.zero_lt_two, trivial⟩ rfl (kont.of hT hmo (nov := true) (plans := np) (f := 1000) ?_)
    rw [x106_0]
    refine ⟨_, hr.rr.len, fun _ => ⟨_, (l4Full_ok B { p with at_ := p.at_ + 1 } hfq (fun _ => by show 1 ≤ p.at_ + 1; omega)).use S1 _, ?_⟩, fun hfull => ⟨rfl, ?_⟩⟩
    · rintro x n n1 b1 x1 x2 x3 x4 x5 x6 n2 n3 S2 ⟨hE2, q, hq, hbad⟩
      exact ⟨rfl, hE2.bx, q, _, by rw [hq], hbad.pf hfq, (hbad.pr hrq).ext hE2.2, hgq.trans hbad.g0, fun h => by have := hbad.bad; omega⟩
    have hfull := of_decide_eq_false hfull
    obtain ⟨r, S', k1, k2, k3⟩ := hrq.pushR s (by show p.reqs.length < 40; omega) (some S1.toks.length) (1, 9, 1)
    exact ⟨r, S', k1, rfl, k2, { p with at_ := p.at_ + 1, xr := r, reqs := p.reqs ++ [s] }, s, rfl, ⟨hf.tk, hf.ln, by show 0 ≤ p.at_ + 1; omega, by show p.at_ + 1 ≤ (p.toks.length : Int); omega, hf.en0, hf.en1, hf.bad0, hf.dp0, hf.dp1, hf.bi, hf.bs, hf.bx⟩, k3, ⟨⟨rfl, rfl, by show p.at_ ≤ p.at_ + 1; omega, fun h => h⟩, fun _ => ⟨rfl, rfl, rfl⟩⟩, fun _ => by show p.at_ < p.at_ + 1; omega⟩
theorem l4Tail_ok (B : Nat) (p : PS) (s : ByteArray) (ha : p.bad < 0 → 1 ≤ p.at_) (hs : s.size ≤ B + 8) : CONP w0 129 [p.av, str s] (pre B p) (rP B p) := by
  refine ConP.of_gen (plans := np) hT hmo (nov := true) pre_loc rP_loc (fun v S hv => by obtain ⟨q, rfl, _⟩ := hv; exact ⟨Tryz.f129, [q.av], by kernel_rfl, rfl, by kernel_rfl⟩) (fun S hp => ?_)
  have hf := hp.1
  have hr := hp.2
  rw [v129]
  refine ⟨rfl, _, (l4Is_ok B p hf 4 _).use S _, fun b S1 hR => ?_⟩
  obtain ⟨hE1, b', hb, _⟩ := hR
  cases hb
  have hr1 := hr.ext hE1.2
  refine ⟨fun _ => ⟨_, (l4Sign_ok B p hf _).use S1 _, ?_⟩, fun _ => ⟨_, (l4Add_ok B p ⟨2, 0, s, ⟨⟨[]⟩⟩, 0, 0⟩ ha hs).use S1 _ ⟨hf, hr1⟩, ?_⟩⟩
  · rintro x n n1 b1 x1 x2 x3 x4 x5 x6 n2 n3 S2 ⟨hE2, q, hq, hk⟩
    cases hq
    have hfq := hk.pf hf
    refine ⟨_, (l4Sign_ok B q hfq _).use S2 _, ?_⟩
    rintro x n n1 b1 x1 x2 x3 x4 x5 x6 n2 n3 S3 ⟨hE3, q2, hq2, hk2⟩
    cases hq2
    have hfq2 := hk2.pf hfq
    have hrq2 := hk2.pr ((hk.pr (hr1.ext hE2.2)).ext hE3.2)
    have hg := hk.g0.trans hk2.g0
    refine ⟨_, (l4Add_ok B q2 ⟨3, 0, s, ⟨⟨[]⟩⟩, 0, 0⟩ (fun hb => by have := ha (hg.nb hb); have := hg.at_; omega) hs).use S3 _ ⟨hfq2, hrq2⟩, ?_⟩
    rintro x n n1 b1 x1 x2 x3 x4 x5 x6 n2 n3 S4 ⟨hB, q3, hq3, g1, g2, g3⟩
    exact ⟨rfl, ((hE1.trans hE2).trans hE3).bx.trans hB, q3, hq3, g1, g2, hg.trans g3⟩
  · rintro x n n1 b1 x1 x2 x3 x4 x5 x6 n2 n3 S4 ⟨hB, q3, hq3, g1, g2, g3⟩
    exact ⟨rfl, hE1.bx.trans hB, q3, hq3, g1, g2, g3⟩
end Go.Proofs.YtkdickfiifpblaaGreatDoor.D
namespace Go.Proofs.YtkdickfiifpblaaGreatDoor.D
open Go Go.Den
def p39_8 : Plan := .take 0 (.take 1 (.all [(2, .all [(3, .take 4 (.done))]), (3, .all [(2, .take 4 (.done))])]))
def pl39 : Nat → Plan
  | 8 => p39_8
  | _ => .done
def p76_9 : Plan := .take 1 (.take 2 (.take 3 (.take 4 (.take 5 (.take 7 (.take 8 (.take 9 (.take 10 (.all [(0, .all [(6, .all [(11, .take 12 (.all [(13, .all [(14, .done)])]))]), (11, .all [(6, .take 12 (.all [(13, .all [(14, .done)])]))])]), (6, .all [(0, .all [(11, .take 12 (.all [(13, .all [(14, .done)])]))]), (11, .take 12 (.all [(0, .all [(13, .all [(14, .done)])])]))]), (11, .all [(0, .all [(6, .take 12 (.all [(13, .all [(14, .done)])]))]), (6, .take 12 (.all [(0, .all [(13, .all [(14, .done)])])]))])])))))))))
def pl76 : Nat → Plan
  | 9 => p76_9
  | _ => .done
def p77_9 : Plan := .take 1 (.take 2 (.take 3 (.take 4 (.take 6 (.take 7 (.take 8 (.take 9 (.all [(0, .all [(5, .all [(10, .take 11 (.all [(12, .all [(13, .done)])]))]), (10, .all [(5, .take 11 (.all [(12, .all [(13, .done)])]))])]), (5, .all [(0, .all [(10, .take 11 (.all [(12, .all [(13, .done)])]))]), (10, .take 11 (.all [(0, .all [(12, .all [(13, .done)])])]))]), (10, .all [(0, .all [(5, .take 11 (.all [(12, .all [(13, .done)])]))]), (5, .take 11 (.all [(0, .all [(12, .all [(13, .done)])])]))])]))))))))
def p77_16 : Plan := .take 1 (.take 2 (.take 3 (.take 4 (.take 6 (.take 7 (.take 8 (.take 9 (.take 11 (.all [(0, .all [(5, .all [(10, .take 12 (.all [(13, .all [(14, .done)])]))]), (10, .all [(5, .take 12 (.all [(13, .all [(14, .done)])]))])]), (5, .all [(0, .all [(10, .take 12 (.all [(13, .all [(14, .done)])]))]), (10, .take 12 (.all [(0, .all [(13, .all [(14, .done)])])]))]), (10, .all [(0, .all [(5, .take 12 (.all [(13, .all [(14, .done)])]))]), (5, .take 12 (.all [(0, .all [(13, .all [(14, .done)])])]))])])))))))))
def pl77 : Nat → Plan
  | 9 => p77_9
  | 16 => p77_16
  | _ => .done
def p67_6 : Plan := .take 0 (.take 1 (.take 2 (.take 3 (.take 4 (.take 5 (.take 6 (.take 7 (.take 8 (.done)))))))))
def p67_8 : Plan := .take 0 (.take 1 (.take 2 (.take 3 (.take 9 (.take 10 (.take 11 (.all [(4, .all [(5, .all [(6, .all [(7, .take 8 (.take 12 (.take 13 (.done))))])])])])))))))
def p67_11 : Plan := .take 0 (.take 1 (.take 2 (.take 3 (.take 4 (.take 5 (.take 7 (.take 15 (.take 16 (.take 17 (.take 18 (.all [(6, .all [(8, .take 9 (.take 10 (.all [(11, .all [(12, .all [(13, .take 14 (.take 19 (.take 20 (.done))))])])])))]), (8, .take 9 (.all [(6, .take 10 (.all [(11, .all [(12, .all [(13, .take 14 (.take 19 (.take 20 (.done))))])])]))]))])))))))))))
def pl67 : Nat → Plan
  | 6 => p67_6
  | 8 => p67_8
  | 11 => p67_11
  | _ => .done
def p68_2 : Plan := .take 0 (.take 1 (.take 2 (.take 5 (.take 6 (.take 7 (.all [(3, .take 4 (.all [(8, .take 9 (.take 10 (.take 11 (.take 12 (.done)))))])), (8, .take 9 (.all [(3, .take 4 (.take 10 (.take 11 (.take 12 (.done)))))]))]))))))
def p68_3 : Plan := .take 0 (.take 1 (.take 2 (.take 4 (.take 5 (.take 6 (.all [(3, .all [(7, .take 8 (.take 9 (.done)))]), (7, .take 8 (.all [(3, .take 9 (.done))]))]))))))
def p68_4 : Plan := .take 0 (.take 1 (.take 2 (.take 3 (.take 5 (.take 6 (.take 7 (.all [(4, .all [(8, .take 9 (.all [(10, .all [(11, .take 12 (.take 13 (.take 14 (.done))))])]))]), (8, .all [(4, .take 9 (.all [(10, .all [(11, .take 12 (.take 13 (.take 14 (.done))))])]))])])))))))
def pl68 : Nat → Plan
  | 2 => p68_2
  | 3 => p68_3
  | 4 => p68_4
  | _ => .done
def p14_7 : Plan := .take 0 (.take 2 (.all [(1, .all [(3, .all [(4, .all [(5, .all [(6, .take 7 (.all [(8, .done)]))])])])]), (3, .all [(1, .all [(4, .all [(5, .all [(6, .take 7 (.all [(8, .done)]))])])]), (4, .all [(1, .all [(5, .all [(6, .take 7 (.all [(8, .done)]))])]), (5, .all [(1, .all [(6, .take 7 (.all [(8, .done)]))])])])])]))
def p14_9 : Plan := .take 0 (.take 2 (.all [(1, .all [(3, .all [(4, .take 5 (.all [(6, .all [(7, .take 8 (.all [(9, .done)]))])]))])]), (3, .all [(1, .all [(4, .take 5 (.all [(6, .all [(7, .take 8 (.all [(9, .done)]))])]))]), (4, .take 5 (.all [(1, .all [(6, .all [(7, .take 8 (.all [(9, .done)]))])]), (6, .all [(1, .all [(7, .take 8 (.all [(9, .done)]))])])]))])]))
def p14_11 : Plan := .take 0 (.take 2 (.take 4 (.all [(1, .all [(3, .all [(5, .all [(6, .take 7 (.all [(8, .all [(9, .take 10 (.all [(11, .done)]))])]))])]), (5, .all [(3, .all [(6, .take 7 (.all [(8, .all [(9, .take 10 (.all [(11, .done)]))])]))])])]), (3, .all [(1, .all [(5, .all [(6, .take 7 (.all [(8, .all [(9, .take 10 (.all [(11, .done)]))])]))])]), (5, .all [(1, .all [(6, .take 7 (.all [(8, .all [(9, .take 10 (.all [(11, .done)]))])]))]), (6, .take 7 (.all [(1, .all [(8, .all [(9, .take 10 (.all [(11, .done)]))])]), (8, .all [(1, .all [(9, .take 10 (.all [(11, .done)]))])])]))])]), (5, .all [(1, .all [(3, .all [(6, .take 7 (.all [(8, .all [(9, .take 10 (.all [(11, .done)]))])]))])]), (3, .all [(1, .all [(6, .take 7 (.all [(8, .all [(9, .take 10 (.all [(11, .done)]))])]))]), (6, .take 7 (.all [(1, .all [(8, .all [(9, .take 10 (.all [(11, .done)]))])]), (8, .all [(1, .all [(9, .take 10 (.all [(11, .done)]))])])]))])])])))
def p14_13 : Plan := .take 0 (.take 2 (.take 4 (.all [(1, .all [(3, .all [(5, .take 6 (.take 7 (.all [(8, .all [(9, .take 10 (.all [(11, .done)]))])])))])]), (3, .all [(1, .all [(5, .take 6 (.take 7 (.all [(8, .all [(9, .take 10 (.all [(11, .done)]))])])))]), (5, .take 6 (.take 7 (.all [(1, .all [(8, .all [(9, .take 10 (.all [(11, .done)]))])]), (8, .all [(1, .all [(9, .take 10 (.all [(11, .done)]))])])])))])])))
def p14_15 : Plan := .take 0 (.take 2 (.take 4 (.take 6 (.all [(1, .all [(3, .all [(5, .all [(7, .take 8 (.all [(9, .all [(10, .take 11 (.all [(12, .done)]))])]))])])]), (3, .all [(1, .all [(5, .all [(7, .take 8 (.all [(9, .all [(10, .take 11 (.all [(12, .done)]))])]))])]), (5, .all [(1, .all [(7, .take 8 (.all [(9, .all [(10, .take 11 (.all [(12, .done)]))])]))]), (7, .take 8 (.all [(1, .all [(9, .all [(10, .take 11 (.all [(12, .done)]))])]), (9, .all [(1, .all [(10, .take 11 (.all [(12, .done)]))])])]))])])]))))
def p3_10 : Plan := .take 0 (.take 1 (.take 2 (.take 3 (.take 4 (.take 5 (.take 6 (.take 7 (.take 9 (.take 10 (.take 11 (.take 12 (.all [(8, .all [(13, .take 14 (.take 15 (.take 16 (.take 17 (.take 18 (.take 19 (.take 20 (.take 22 (.take 23 (.take 24 (.take 25 (.all [(21, .all [(26, .take 27 (.take 28 (.take 29 (.take 30 (.take 31 (.take 32 (.take 33 (.take 35 (.take 36 (.take 37 (.take 38 (.all [(34, .all [(39, .take 40 (.take 41 (.take 42 (.take 43 (.done)))))]), (39, .all [(34, .take 40 (.take 41 (.take 42 (.take 43 (.done)))))])]))))))))))))]), (26, .all [(21, .take 27 (.take 28 (.take 29 (.take 30 (.take 31 (.take 32 (.take 33 (.take 35 (.take 36 (.take 37 (.take 38 (.all [(34, .all [(39, .take 40 (.take 41 (.take 42 (.take 43 (.done)))))]), (39, .all [(34, .take 40 (.take 41 (.take 42 (.take 43 (.done)))))])]))))))))))))])]))))))))))))]), (13, .all [(8, .take 14 (.take 15 (.take 16 (.take 17 (.take 18 (.take 19 (.take 20 (.take 22 (.take 23 (.take 24 (.take 25 (.all [(21, .all [(26, .take 27 (.take 28 (.take 29 (.take 30 (.take 31 (.take 32 (.take 33 (.take 35 (.take 36 (.take 37 (.take 38 (.all [(34, .all [(39, .take 40 (.take 41 (.take 42 (.take 43 (.done)))))]), (39, .all [(34, .take 40 (.take 41 (.take 42 (.take 43 (.done)))))])]))))))))))))]), (26, .all [(21, .take 27 (.take 28 (.take 29 (.take 30 (.take 31 (.take 32 (.take 33 (.take 35 (.take 36 (.take 37 (.take 38 (.all [(34, .all [(39, .take 40 (.take 41 (.take 42 (.take 43 (.done)))))]), (39, .all [(34, .take 40 (.take 41 (.take 42 (.take 43 (.done)))))])]))))))))))))])]))))))))))))])]))))))))))))
def pl3 : Nat → Plan
  | 10 => p3_10
  | _ => .done
end Go.Proofs.YtkdickfiifpblaaGreatDoor.D
namespace Go.Proofs.YtkdickfiifpblaaGreatDoor.D
open Go Go.Den Go.Proofs
theorem v123 : ∀ (hk : Hk) (plans : Nat->Plan) (x0_0 : AL) (n0_1 n0_2 : Int) (b0_3 : Bool) (x0_4 x0_5 x0_6 x0_7 x0_8 x0_9 : AL) (n0_10 n0_11 : Int) (S : St) (Q : AV->St->Prop),wFn true hk Tryz.prog (tabOf Tryz.prog) plans false 123 [.agg (ps x0_0 n0_1 n0_2 b0_3 x0_4 x0_5 x0_6 x0_7 x0_8 x0_9 n0_10 n0_11)] S Q=(true=true/\(decide (n0_10 < 0)=true->∃ n,x0_0.len?=some n/\(decide
 (n0_1 < (↑n : Int))=true->∃ tok n xs,x0_0=.sl tok n xs/\0<=n0_1/\n0_1 < (↑n : Int)/\(∃ x,likeCells [.i 0] [x]=true/\(List.drop 0 (List.drop (n0_1.toNat * 4) xs))[0]?=some x)/\∀ (n : Int),(List.drop 0 (List.drop (n0_1.toNat * 4) xs))[0]?=some (.i n)->((n == 2)=true->∃ tok n xs,x0_0=.sl tok n xs/\0<=n0_1/\n0_1 < (↑n : Int)/\(∃ x,likeCells [.i 0] [x]=true/\(List.drop 2 (List.drop
 (n0_1.toNat * 4) xs))[0]?=some x)/\∀ (n : Int),(List.drop 2 (List.drop (n0_1.toNat * 4) xs))[0]?=some (.i n)->in64 (n0_1 + 1)/\∃ R,hk.1 112 [.agg (ps x0_0 (n0_1 + 1) n0_2 b0_3 x0_4 x0_5 x0_6 x0_7 x0_8 x0_9 n0_10 n0_11),.agg [.i 1,.i n,.str k_,.str k_,.i 0,.i 0]] S [(90,(ps x0_0 (n0_1 + 1) n0_2 b0_3 x0_4 x0_5 x0_6 x0_7 x0_8 x0_9 n0_10 n0_11)),(90,ps0)] R/\∀ (x : AL) (n n_1 :
 Int) (b : Bool) (x_1 x_2 x_3 x_4 x_5 x_6 : AL) (n_2 n_3 : Int) (S1 : St),R (.agg (ps x n n_1 b x_1 x_2 x_3 x_4 x_5 x_6 n_2 n_3)) S1->true=true/\Q (.agg (ps x n n_1 b x_1 x_2 x_3 x_4 x_5 x_6 n_2 n_3)) S1)/\((n == 2)=false->∃ R,hk.1 75 [.agg (ps x0_0 n0_1 n0_2 b0_3 x0_4 x0_5 x0_6 x0_7 x0_8 x0_9 n0_10 n0_11),.one (.i 4),.one (.str k1)] S [(90,(ps x0_0 n0_1 n0_2 b0_3 x0_4 x0_5 x0_6
 x0_7 x0_8 x0_9 n0_10 n0_11)),(90,ps0)] R/\∀ (b : Bool) (S1 : St),R (.one (.bool b)) S1->(b=true->(decide (n0_11 ≥ 20)=true->∃ R,hk.1 110 [.agg (ps x0_0 n0_1 n0_2 b0_3 x0_4 x0_5 x0_6 x0_7 x0_8 x0_9 n0_10 n0_11)] S1 [(90,(ps x0_0 n0_1 n0_2 b0_3 x0_4 x0_5 x0_6 x0_7 x0_8 x0_9 n0_10 n0_11)),(90,ps0)] R/\∀ (x : AL) (n n_1 : Int) (b : Bool) (x_1 x_2 x_3 x_4 x_5 x_6 : AL) (n_2 n_3 :
 Int) (S1 : St),R (.agg (ps x n n_1 b x_1 x_2 x_3 x_4 x_5 x_6 n_2 n_3)) S1->true=true/\Q (.agg (ps x n n_1 b x_1 x_2 x_3 x_4 x_5 x_6 n_2 n_3)) S1)/\(decide (n0_11 ≥ 20)=false->in64 (n0_1 + 1)/\in64 (n0_11 + 1)/\∃ R,hk.1 81 [.agg (ps x0_0 (n0_1 + 1) n0_2 b0_3 x0_4 x0_5 x0_6 x0_7 x0_8 x0_9 n0_10 (n0_11 + 1))] S1 [(90,(ps x0_0 (n0_1 + 1) n0_2 b0_3 x0_4 x0_5 x0_6 x0_7 x0_8 x0_9
 n0_10 (n0_11 + 1))),(90,ps0)] R/\∀ (x : AL) (n n_1 : Int) (b : Bool) (x_1 x_2 x_3 x_4 x_5 x_6 : AL) (n_2 n_3 : Int) (S1 : St),R (.agg (ps x n n_1 b x_1 x_2 x_3 x_4 x_5 x_6 n_2 n_3)) S1->∃ R,hk.1 80 [.agg (ps x n n_1 b x_1 x_2 x_3 x_4 x_5 x_6 n_2 n_3),.one (.str k2)] S1 [(90,(ps x0_0 (n0_1 + 1) n0_2 b0_3 x0_4 x0_5 x0_6 x0_7 x0_8 x0_9 n0_10 (n0_11 + 1))),(90,ps0)] R/\∀ (x : AL)
 (n n_4 : Int) (b : Bool) (x_7 x_8 x_9 x_10 x_11 x_12 : AL) (n_5 n_6 : Int) (S1 : St),R (.agg (ps x n n_4 b x_7 x_8 x_9 x_10 x_11 x_12 n_5 n_6)) S1->in64 (n_6 - 1)/\true=true/\Q (.agg (ps x n n_4 b x_7 x_8 x_9 x_10 x_11 x_12 n_5 (n_6 - 1))) S1))/\(b=false->(b0_3=true->∃ R,hk.1 75 [.agg (ps x0_0 n0_1 n0_2 b0_3 x0_4 x0_5 x0_6 x0_7 x0_8 x0_9 n0_10 n0_11),.one (.i 1),.one (.str k3)]
 S1 [(90,(ps x0_0 n0_1 n0_2 b0_3 x0_4 x0_5 x0_6 x0_7 x0_8 x0_9 n0_10 n0_11)),(90,ps0)] R/\∀ (b : Bool) (S1 : St),R (.one (.bool b)) S1->(b=true->in64 (n0_1 + 1)/\∃ R,hk.1 129 [.agg (ps x0_0 (n0_1 + 1) n0_2 b0_3 x0_4 x0_5 x0_6 x0_7 x0_8 x0_9 n0_10 n0_11),.one (.str k3)] S1 [(90,(ps x0_0 (n0_1 + 1) n0_2 b0_3 x0_4 x0_5 x0_6 x0_7 x0_8 x0_9 n0_10 n0_11)),(90,ps0)] R/\∀ (x : AL) (n
 n_1 : Int) (b : Bool) (x_1 x_2 x_3 x_4 x_5 x_6 : AL) (n_2 n_3 : Int) (S1 : St),R (.agg (ps x n n_1 b x_1 x_2 x_3 x_4 x_5 x_6 n_2 n_3)) S1->true=true/\Q (.agg (ps x n n_1 b x_1 x_2 x_3 x_4 x_5 x_6 n_2 n_3)) S1)/\(b=false->∃ R,hk.1 84 [.agg (ps x0_0 n0_1 n0_2 b0_3 x0_4 x0_5 x0_6 x0_7 x0_8 x0_9 n0_10 n0_11),.one (.bool false)] S1 [(90,(ps x0_0 n0_1 n0_2 b0_3 x0_4 x0_5 x0_6 x0_7
 x0_8 x0_9 n0_10 n0_11)),(90,ps0)] R/\∀ (x : AL) (n n_1 : Int) (b : Bool) (x_1 x_2 x_3 x_4 x_5 x_6 : AL) (n_2 n_3 : Int) (s : ByteArray) (S1 : St),R (.tup [.agg (ps x n n_1 b x_1 x_2 x_3 x_4 x_5 x_6 n_2 n_3),.one (.str s)]) S1->(decide (n_2 ≥ 0)=true->true=true/\Q (.agg (ps x n n_1 b x_1 x_2 x_3 x_4 x_5 x_6 n_2 n_3)) S1)/\(decide (n_2 ≥ 0)=false->∃ R,hk.1 75 [.agg (ps x n n_1 b
 x_1 x_2 x_3 x_4 x_5 x_6 n_2 n_3),.one (.i 4),.one (.str k4)] S1 [(90,(ps x0_0 n0_1 n0_2 b0_3 x0_4 x0_5 x0_6 x0_7 x0_8 x0_9 n0_10 n0_11)),(90,ps0),(90,(ps x n n_1 b x_1 x_2 x_3 x_4 x_5 x_6 n_2 n_3))] R/\∀ (b_1 : Bool) (S1 : St),R (.one (.bool b_1)) S1->((!b_1)=true->∃ R,hk.1 129 [.agg (ps x n n_1 b x_1 x_2 x_3 x_4 x_5 x_6 n_2 n_3),.one (.str s)] S1 [(90,(ps x0_0 n0_1 n0_2 b0_3
 x0_4 x0_5 x0_6 x0_7 x0_8 x0_9 n0_10 n0_11)),(90,ps0),(90,(ps x n n_1 b x_1 x_2 x_3 x_4 x_5 x_6 n_2 n_3))] R/\∀ (x : AL) (n n_4 : Int) (b : Bool) (x_7 x_8 x_9 x_10 x_11 x_12 : AL) (n_5 n_6 : Int) (S1 : St),R (.agg (ps x n n_4 b x_7 x_8 x_9 x_10 x_11 x_12 n_5 n_6)) S1->true=true/\Q (.agg (ps x n n_4 b x_7 x_8 x_9 x_10 x_11 x_12 n_5 n_6)) S1)/\((!b_1)=false->in64 (n + 1)/\∃ R,hk.1
 84 [.agg (ps x (n + 1) n_1 b x_1 x_2 x_3 x_4 x_5 x_6 n_2 n_3),.one (.bool true)] S1 [(90,(ps x0_0 n0_1 n0_2 b0_3 x0_4 x0_5 x0_6 x0_7 x0_8 x0_9 n0_10 n0_11)),(90,ps0),(90,(ps x (n + 1) n_1 b x_1 x_2 x_3 x_4 x_5 x_6 n_2 n_3))] R/\∀ (x_7 : AL) (n_4 n_5 : Int) (b_2 : Bool) (x_8 x_9 x_10 x_11 x_12 x_13 : AL) (n_6 n_7 : Int) (s_1 : ByteArray) (S1 : St),R (.tup [.agg (ps x_7 n_4 n_5
 b_2 x_8 x_9 x_10 x_11 x_12 x_13 n_6 n_7),.one (.str s_1)]) S1->∃ R,hk.1 75 [.agg (ps x_7 n_4 n_5 b_2 x_8 x_9 x_10 x_11 x_12 x_13 n_6 n_7),.one (.i 4),.one (.str k1)] S1 [(90,(ps x0_0 n0_1 n0_2 b0_3 x0_4 x0_5 x0_6 x0_7 x0_8 x0_9 n0_10 n0_11)),(90,ps0),(90,(ps x (n + 1) n_1 b x_1 x_2 x_3 x_4 x_5 x_6 n_2 n_3)),(90,(ps x_7 n_4 n_5 b_2 x_8 x_9 x_10 x_11 x_12 x_13 n_6 n_7))] R/\∀
 (b_3 : Bool) (S1 : St),R (.one (.bool b_3)) S1->(b_3=true->∃ R,hk.1 80 [.agg (ps x_7 n_4 n_5 b_2 x_8 x_9 x_10 x_11 x_12 x_13 n_6 n_7),.one (.str k1)] S1 [(90,(ps x0_0 n0_1 n0_2 b0_3 x0_4 x0_5 x0_6 x0_7 x0_8 x0_9 n0_10 n0_11)),(90,ps0),(90,(ps x (n + 1) n_1 b x_1 x_2 x_3 x_4 x_5 x_6 n_2 n_3)),(90,(ps x_7 n_4 n_5 b_2 x_8 x_9 x_10 x_11 x_12 x_13 n_6 n_7))] R/\∀ (x_14 : AL) (n_8
 n_9 : Int) (b_4 : Bool) (x_15 x_16 x_17 x_18 x_19 x_20 : AL) (n_10 n_11 : Int) (S1 : St),R (.agg (ps x_14 n_8 n_9 b_4 x_15 x_16 x_17 x_18 x_19 x_20 n_10 n_11)) S1->∃ R,hk.1 80 [.agg (ps x_14 n_8 n_9 b_4 x_15 x_16 x_17 x_18 x_19 x_20 n_10 n_11),.one (.str k2)] S1 [(90,(ps x0_0 n0_1 n0_2 b0_3 x0_4 x0_5 x0_6 x0_7 x0_8 x0_9 n0_10 n0_11)),(90,ps0),(90,(ps x (n + 1) n_1 b x_1 x_2 x_3
 x_4 x_5 x_6 n_2 n_3)),(90,(ps x_7 n_4 n_5 b_2 x_8 x_9 x_10 x_11 x_12 x_13 n_6 n_7))] R/\∀ (x_21 : AL) (n_12 n_13 : Int) (b_5 : Bool) (x_22 x_23 x_24 x_25 x_26 x_27 : AL) (n_14 n_15 : Int) (S1 : St),R (.agg (ps x_21 n_12 n_13 b_5 x_22 x_23 x_24 x_25 x_26 x_27 n_14 n_15)) S1->∃ R,hk.1 112 [.agg (ps x_21 n_12 n_13 b_5 x_22 x_23 x_24 x_25 x_26 x_27 n_14 n_15),.agg [.i 5,.i 0,.str
 s,.str s_1,.i 0,.i 0]] S1 [(90,(ps x0_0 n0_1 n0_2 b0_3 x0_4 x0_5 x0_6 x0_7 x0_8 x0_9 n0_10 n0_11)),(90,ps0),(90,(ps x (n + 1) n_1 b x_1 x_2 x_3 x_4 x_5 x_6 n_2 n_3)),(90,(ps x_21 n_12 n_13 b_5 x_22 x_23 x_24 x_25 x_26 x_27 n_14 n_15))] R/\∀ (x : AL) (n n_16 : Int) (b : Bool) (x_28 x_29 x_30 x_31 x_32 x_33 : AL) (n_17 n_18 : Int) (S1 : St),R (.agg (ps x n n_16 b x_28 x_29 x_30
 x_31 x_32 x_33 n_17 n_18)) S1->true=true/\Q (.agg (ps x n n_16 b x_28 x_29 x_30 x_31 x_32 x_33 n_17 n_18)) S1)/\(b_3=false->∃ R,hk.1 112 [.agg (ps x_7 n_4 n_5 b_2 x_8 x_9 x_10 x_11 x_12 x_13 n_6 n_7),.agg [.i 4,.i 0,.str s,.str s_1,.i 0,.i 0]] S1 [(90,(ps x0_0 n0_1 n0_2 b0_3 x0_4 x0_5 x0_6 x0_7 x0_8 x0_9 n0_10 n0_11)),(90,ps0),(90,(ps x (n + 1) n_1 b x_1 x_2 x_3 x_4 x_5 x_6 n_2
 n_3)),(90,(ps x_7 n_4 n_5 b_2 x_8 x_9 x_10 x_11 x_12 x_13 n_6 n_7))] R/\∀ (x : AL) (n n_8 : Int) (b : Bool) (x_14 x_15 x_16 x_17 x_18 x_19 : AL) (n_9 n_10 : Int) (S1 : St),R (.agg (ps x n n_8 b x_14 x_15 x_16 x_17 x_18 x_19 n_9 n_10)) S1->true=true/\Q (.agg (ps x n n_8 b x_14 x_15 x_16 x_17 x_18 x_19 n_9 n_10)) S1)))))/\(b0_3=false->∃ R,hk.1 84 [.agg (ps x0_0 n0_1 n0_2 b0_3
 x0_4 x0_5 x0_6 x0_7 x0_8 x0_9 n0_10 n0_11),.one (.bool false)] S1 [(90,(ps x0_0 n0_1 n0_2 b0_3 x0_4 x0_5 x0_6 x0_7 x0_8 x0_9 n0_10 n0_11)),(90,ps0)] R/\∀ (x : AL) (n n_1 : Int) (b : Bool) (x_1 x_2 x_3 x_4 x_5 x_6 : AL) (n_2 n_3 : Int) (s : ByteArray) (S1 : St),R (.tup [.agg (ps x n n_1 b x_1 x_2 x_3 x_4 x_5 x_6 n_2 n_3),.one (.str s)]) S1->(decide (n_2 ≥ 0)=true->true=true/\Q
 (.agg (ps x n n_1 b x_1 x_2 x_3 x_4 x_5 x_6 n_2 n_3)) S1)/\(decide (n_2 ≥ 0)=false->∃ R,hk.1 75 [.agg (ps x n n_1 b x_1 x_2 x_3 x_4 x_5 x_6 n_2 n_3),.one (.i 4),.one (.str k4)] S1 [(90,(ps x0_0 n0_1 n0_2 b0_3 x0_4 x0_5 x0_6 x0_7 x0_8 x0_9 n0_10 n0_11)),(90,ps0),(90,(ps x n n_1 b x_1 x_2 x_3 x_4 x_5 x_6 n_2 n_3))] R/\∀ (b_1 : Bool) (S1 : St),R (.one (.bool b_1))
 S1->((!b_1)=true->∃ R,hk.1 129 [.agg (ps x n n_1 b x_1 x_2 x_3 x_4 x_5 x_6 n_2 n_3),.one (.str s)] S1 [(90,(ps x0_0 n0_1 n0_2 b0_3 x0_4 x0_5 x0_6 x0_7 x0_8 x0_9 n0_10 n0_11)),(90,ps0),(90,(ps x n n_1 b x_1 x_2 x_3 x_4 x_5 x_6 n_2 n_3))] R/\∀ (x : AL) (n n_4 : Int) (b : Bool) (x_7 x_8 x_9 x_10 x_11 x_12 : AL) (n_5 n_6 : Int) (S1 : St),R (.agg (ps x n n_4 b x_7 x_8 x_9 x_10 x_11
 x_12 n_5 n_6)) S1->true=true/\Q (.agg (ps x n n_4 b x_7 x_8 x_9 x_10 x_11 x_12 n_5 n_6)) S1)/\((!b_1)=false->in64 (n + 1)/\∃ R,hk.1 84 [.agg (ps x (n + 1) n_1 b x_1 x_2 x_3 x_4 x_5 x_6 n_2 n_3),.one (.bool true)] S1 [(90,(ps x0_0 n0_1 n0_2 b0_3 x0_4 x0_5 x0_6 x0_7 x0_8 x0_9 n0_10 n0_11)),(90,ps0),(90,(ps x (n + 1) n_1 b x_1 x_2 x_3 x_4 x_5 x_6 n_2 n_3))] R/\∀ (x_7 : AL) (n_4
 n_5 : Int) (b_2 : Bool) (x_8 x_9 x_10 x_11 x_12 x_13 : AL) (n_6 n_7 : Int) (s_1 : ByteArray) (S1 : St),R (.tup [.agg (ps x_7 n_4 n_5 b_2 x_8 x_9 x_10 x_11 x_12 x_13 n_6 n_7),.one (.str s_1)]) S1->∃ R,hk.1 75 [.agg (ps x_7 n_4 n_5 b_2 x_8 x_9 x_10 x_11 x_12 x_13 n_6 n_7),.one (.i 4),.one (.str k1)] S1 [(90,(ps x0_0 n0_1 n0_2 b0_3 x0_4 x0_5 x0_6 x0_7 x0_8 x0_9 n0_10
 n0_11)),(90,ps0),(90,(ps x (n + 1) n_1 b x_1 x_2 x_3 x_4 x_5 x_6 n_2 n_3)),(90,(ps x_7 n_4 n_5 b_2 x_8 x_9 x_10 x_11 x_12 x_13 n_6 n_7))] R/\∀ (b_3 : Bool) (S1 : St),R (.one (.bool b_3)) S1->(b_3=true->∃ R,hk.1 80 [.agg (ps x_7 n_4 n_5 b_2 x_8 x_9 x_10 x_11 x_12 x_13 n_6 n_7),.one (.str k1)] S1 [(90,(ps x0_0 n0_1 n0_2 b0_3 x0_4 x0_5 x0_6 x0_7 x0_8 x0_9 n0_10
 n0_11)),(90,ps0),(90,(ps x (n + 1) n_1 b x_1 x_2 x_3 x_4 x_5 x_6 n_2 n_3)),(90,(ps x_7 n_4 n_5 b_2 x_8 x_9 x_10 x_11 x_12 x_13 n_6 n_7))] R/\∀ (x_14 : AL) (n_8 n_9 : Int) (b_4 : Bool) (x_15 x_16 x_17 x_18 x_19 x_20 : AL) (n_10 n_11 : Int) (S1 : St),R (.agg (ps x_14 n_8 n_9 b_4 x_15 x_16 x_17 x_18 x_19 x_20 n_10 n_11)) S1->∃ R,hk.1 80 [.agg (ps x_14 n_8 n_9 b_4 x_15 x_16 x_17
 x_18 x_19 x_20 n_10 n_11),.one (.str k2)] S1 [(90,(ps x0_0 n0_1 n0_2 b0_3 x0_4 x0_5 x0_6 x0_7 x0_8 x0_9 n0_10 n0_11)),(90,ps0),(90,(ps x (n + 1) n_1 b x_1 x_2 x_3 x_4 x_5 x_6 n_2 n_3)),(90,(ps x_7 n_4 n_5 b_2 x_8 x_9 x_10 x_11 x_12 x_13 n_6 n_7))] R/\∀ (x_21 : AL) (n_12 n_13 : Int) (b_5 : Bool) (x_22 x_23 x_24 x_25 x_26 x_27 : AL) (n_14 n_15 : Int) (S1 : St),R (.agg (ps x_21
 n_12 n_13 b_5 x_22 x_23 x_24 x_25 x_26 x_27 n_14 n_15)) S1->∃ R,hk.1 112 [.agg (ps x_21 n_12 n_13 b_5 x_22 x_23 x_24 x_25 x_26 x_27 n_14 n_15),.agg [.i 5,.i 0,.str s,.str s_1,.i 0,.i 0]] S1 [(90,(ps x0_0 n0_1 n0_2 b0_3 x0_4 x0_5 x0_6 x0_7 x0_8 x0_9 n0_10 n0_11)),(90,ps0),(90,(ps x (n + 1) n_1 b x_1 x_2 x_3 x_4 x_5 x_6 n_2 n_3)),(90,(ps x_21 n_12 n_13 b_5 x_22 x_23 x_24 x_25
 x_26 x_27 n_14 n_15))] R/\∀ (x : AL) (n n_16 : Int) (b : Bool) (x_28 x_29 x_30 x_31 x_32 x_33 : AL) (n_17 n_18 : Int) (S1 : St),R (.agg (ps x n n_16 b x_28 x_29 x_30 x_31 x_32 x_33 n_17 n_18)) S1->true=true/\Q (.agg (ps x n n_16 b x_28 x_29 x_30 x_31 x_32 x_33 n_17 n_18)) S1)/\(b_3=false->∃ R,hk.1 112 [.agg (ps x_7 n_4 n_5 b_2 x_8 x_9 x_10 x_11 x_12 x_13 n_6 n_7),.agg [.i 4,.i
 0,.str s,.str s_1,.i 0,.i 0]] S1 [(90,(ps x0_0 n0_1 n0_2 b0_3 x0_4 x0_5 x0_6 x0_7 x0_8 x0_9 n0_10 n0_11)),(90,ps0),(90,(ps x (n + 1) n_1 b x_1 x_2 x_3 x_4 x_5 x_6 n_2 n_3)),(90,(ps x_7 n_4 n_5 b_2 x_8 x_9 x_10 x_11 x_12 x_13 n_6 n_7))] R/\∀ (x : AL) (n n_8 : Int) (b : Bool) (x_14 x_15 x_16 x_17 x_18 x_19 : AL) (n_9 n_10 : Int) (S1 : St),R (.agg (ps x n n_8 b x_14 x_15 x_16 x_17
 x_18 x_19 n_9 n_10)) S1->true=true/\Q (.agg (ps x n n_8 b x_14 x_15 x_16 x_17 x_18 x_19 n_9 n_10)) S1)))))))/\(decide (n0_1 < (↑n : Int))=false->∃ R,hk.1 75 [.agg (ps x0_0 n0_1 n0_2 b0_3 x0_4 x0_5 x0_6 x0_7 x0_8 x0_9 n0_10 n0_11),.one (.i 4),.one (.str k1)] S [(90,(ps x0_0 n0_1 n0_2 b0_3 x0_4 x0_5 x0_6 x0_7 x0_8 x0_9 n0_10 n0_11)),(90,ps0)] R/\∀ (b : Bool) (S1 : St),R (.one
 (.bool b)) S1->(b=true->(decide (n0_11 ≥ 20)=true->∃ R,hk.1 110 [.agg (ps x0_0 n0_1 n0_2 b0_3 x0_4 x0_5 x0_6 x0_7 x0_8 x0_9 n0_10 n0_11)] S1 [(90,(ps x0_0 n0_1 n0_2 b0_3 x0_4 x0_5 x0_6 x0_7 x0_8 x0_9 n0_10 n0_11)),(90,ps0)] R/\∀ (x : AL) (n n_1 : Int) (b : Bool) (x_1 x_2 x_3 x_4 x_5 x_6 : AL) (n_2 n_3 : Int) (S1 : St),R (.agg (ps x n n_1 b x_1 x_2 x_3 x_4 x_5 x_6 n_2 n_3))
 S1->true=true/\Q (.agg (ps x n n_1 b x_1 x_2 x_3 x_4 x_5 x_6 n_2 n_3)) S1)/\(decide (n0_11 ≥ 20)=false->in64 (n0_1 + 1)/\in64 (n0_11 + 1)/\∃ R,hk.1 81 [.agg (ps x0_0 (n0_1 + 1) n0_2 b0_3 x0_4 x0_5 x0_6 x0_7 x0_8 x0_9 n0_10 (n0_11 + 1))] S1 [(90,(ps x0_0 (n0_1 + 1) n0_2 b0_3 x0_4 x0_5 x0_6 x0_7 x0_8 x0_9 n0_10 (n0_11 + 1))),(90,ps0)] R/\∀ (x : AL) (n n_1 : Int) (b : Bool) (x_1
 x_2 x_3 x_4 x_5 x_6 : AL) (n_2 n_3 : Int) (S1 : St),R (.agg (ps x n n_1 b x_1 x_2 x_3 x_4 x_5 x_6 n_2 n_3)) S1->∃ R,hk.1 80 [.agg (ps x n n_1 b x_1 x_2 x_3 x_4 x_5 x_6 n_2 n_3),.one (.str k2)] S1 [(90,(ps x0_0 (n0_1 + 1) n0_2 b0_3 x0_4 x0_5 x0_6 x0_7 x0_8 x0_9 n0_10 (n0_11 + 1))),(90,ps0)] R/\∀ (x : AL) (n n_4 : Int) (b : Bool) (x_7 x_8 x_9 x_10 x_11 x_12 : AL) (n_5 n_6 : Int)
 (S1 : St),R (.agg (ps x n n_4 b x_7 x_8 x_9 x_10 x_11 x_12 n_5 n_6)) S1->in64 (n_6 - 1)/\true=true/\Q (.agg (ps x n n_4 b x_7 x_8 x_9 x_10 x_11 x_12 n_5 (n_6 - 1))) S1))/\(b=false->(b0_3=true->∃ R,hk.1 75 [.agg (ps x0_0 n0_1 n0_2 b0_3 x0_4 x0_5 x0_6 x0_7 x0_8 x0_9 n0_10 n0_11),.one (.i 1),.one (.str k3)] S1 [(90,(ps x0_0 n0_1 n0_2 b0_3 x0_4 x0_5 x0_6 x0_7 x0_8 x0_9 n0_10
 n0_11)),(90,ps0)] R/\∀ (b : Bool) (S1 : St),R (.one (.bool b)) S1->(b=true->in64 (n0_1 + 1)/\∃ R,hk.1 129 [.agg (ps x0_0 (n0_1 + 1) n0_2 b0_3 x0_4 x0_5 x0_6 x0_7 x0_8 x0_9 n0_10 n0_11),.one (.str k3)] S1 [(90,(ps x0_0 (n0_1 + 1) n0_2 b0_3 x0_4 x0_5 x0_6 x0_7 x0_8 x0_9 n0_10 n0_11)),(90,ps0)] R/\∀ (x : AL) (n n_1 : Int) (b : Bool) (x_1 x_2 x_3 x_4 x_5 x_6 : AL) (n_2 n_3 : Int)
 (S1 : St),R (.agg (ps x n n_1 b x_1 x_2 x_3 x_4 x_5 x_6 n_2 n_3)) S1->true=true/\Q (.agg (ps x n n_1 b x_1 x_2 x_3 x_4 x_5 x_6 n_2 n_3)) S1)/\(b=false->∃ R,hk.1 84 [.agg (ps x0_0 n0_1 n0_2 b0_3 x0_4 x0_5 x0_6 x0_7 x0_8 x0_9 n0_10 n0_11),.one (.bool false)] S1 [(90,(ps x0_0 n0_1 n0_2 b0_3 x0_4 x0_5 x0_6 x0_7 x0_8 x0_9 n0_10 n0_11)),(90,ps0)] R/\∀ (x : AL) (n n_1 : Int) (b :
 Bool) (x_1 x_2 x_3 x_4 x_5 x_6 : AL) (n_2 n_3 : Int) (s : ByteArray) (S1 : St),R (.tup [.agg (ps x n n_1 b x_1 x_2 x_3 x_4 x_5 x_6 n_2 n_3),.one (.str s)]) S1->(decide (n_2 ≥ 0)=true->true=true/\Q (.agg (ps x n n_1 b x_1 x_2 x_3 x_4 x_5 x_6 n_2 n_3)) S1)/\(decide (n_2 ≥ 0)=false->∃ R,hk.1 75 [.agg (ps x n n_1 b x_1 x_2 x_3 x_4 x_5 x_6 n_2 n_3),.one (.i 4),.one (.str k4)] S1
 [(90,(ps x0_0 n0_1 n0_2 b0_3 x0_4 x0_5 x0_6 x0_7 x0_8 x0_9 n0_10 n0_11)),(90,ps0),(90,(ps x n n_1 b x_1 x_2 x_3 x_4 x_5 x_6 n_2 n_3))] R/\∀ (b_1 : Bool) (S1 : St),R (.one (.bool b_1)) S1->((!b_1)=true->∃ R,hk.1 129 [.agg (ps x n n_1 b x_1 x_2 x_3 x_4 x_5 x_6 n_2 n_3),.one (.str s)] S1 [(90,(ps x0_0 n0_1 n0_2 b0_3 x0_4 x0_5 x0_6 x0_7 x0_8 x0_9 n0_10 n0_11)),(90,ps0),(90,(ps x n
 n_1 b x_1 x_2 x_3 x_4 x_5 x_6 n_2 n_3))] R/\∀ (x : AL) (n n_4 : Int) (b : Bool) (x_7 x_8 x_9 x_10 x_11 x_12 : AL) (n_5 n_6 : Int) (S1 : St),R (.agg (ps x n n_4 b x_7 x_8 x_9 x_10 x_11 x_12 n_5 n_6)) S1->true=true/\Q (.agg (ps x n n_4 b x_7 x_8 x_9 x_10 x_11 x_12 n_5 n_6)) S1)/\((!b_1)=false->in64 (n + 1)/\∃ R,hk.1 84 [.agg (ps x (n + 1) n_1 b x_1 x_2 x_3 x_4 x_5 x_6 n_2
 n_3),.one (.bool true)] S1 [(90,(ps x0_0 n0_1 n0_2 b0_3 x0_4 x0_5 x0_6 x0_7 x0_8 x0_9 n0_10 n0_11)),(90,ps0),(90,(ps x (n + 1) n_1 b x_1 x_2 x_3 x_4 x_5 x_6 n_2 n_3))] R/\∀ (x_7 : AL) (n_4 n_5 : Int) (b_2 : Bool) (x_8 x_9 x_10 x_11 x_12 x_13 : AL) (n_6 n_7 : Int) (s_1 : ByteArray) (S1 : St),R (.tup [.agg (ps x_7 n_4 n_5 b_2 x_8 x_9 x_10 x_11 x_12 x_13 n_6 n_7),.one (.str s_1)])
 S1->∃ R,hk.1 75 [.agg (ps x_7 n_4 n_5 b_2 x_8 x_9 x_10 x_11 x_12 x_13 n_6 n_7),.one (.i 4),.one (.str k1)] S1 [(90,(ps x0_0 n0_1 n0_2 b0_3 x0_4 x0_5 x0_6 x0_7 x0_8 x0_9 n0_10 n0_11)),(90,ps0),(90,(ps x (n + 1) n_1 b x_1 x_2 x_3 x_4 x_5 x_6 n_2 n_3)),(90,(ps x_7 n_4 n_5 b_2 x_8 x_9 x_10 x_11 x_12 x_13 n_6 n_7))] R/\∀ (b_3 : Bool) (S1 : St),R (.one (.bool b_3)) S1->(b_3=true->∃
 R,hk.1 80 [.agg (ps x_7 n_4 n_5 b_2 x_8 x_9 x_10 x_11 x_12 x_13 n_6 n_7),.one (.str k1)] S1 [(90,(ps x0_0 n0_1 n0_2 b0_3 x0_4 x0_5 x0_6 x0_7 x0_8 x0_9 n0_10 n0_11)),(90,ps0),(90,(ps x (n + 1) n_1 b x_1 x_2 x_3 x_4 x_5 x_6 n_2 n_3)),(90,(ps x_7 n_4 n_5 b_2 x_8 x_9 x_10 x_11 x_12 x_13 n_6 n_7))] R/\∀ (x_14 : AL) (n_8 n_9 : Int) (b_4 : Bool) (x_15 x_16 x_17 x_18 x_19 x_20 : AL)
 (n_10 n_11 : Int) (S1 : St),R (.agg (ps x_14 n_8 n_9 b_4 x_15 x_16 x_17 x_18 x_19 x_20 n_10 n_11)) S1->∃ R,hk.1 80 [.agg (ps x_14 n_8 n_9 b_4 x_15 x_16 x_17 x_18 x_19 x_20 n_10 n_11),.one (.str k2)] S1 [(90,(ps x0_0 n0_1 n0_2 b0_3 x0_4 x0_5 x0_6 x0_7 x0_8 x0_9 n0_10 n0_11)),(90,ps0),(90,(ps x (n + 1) n_1 b x_1 x_2 x_3 x_4 x_5 x_6 n_2 n_3)),(90,(ps x_7 n_4 n_5 b_2 x_8 x_9 x_10
 x_11 x_12 x_13 n_6 n_7))] R/\∀ (x_21 : AL) (n_12 n_13 : Int) (b_5 : Bool) (x_22 x_23 x_24 x_25 x_26 x_27 : AL) (n_14 n_15 : Int) (S1 : St),R (.agg (ps x_21 n_12 n_13 b_5 x_22 x_23 x_24 x_25 x_26 x_27 n_14 n_15)) S1->∃ R,hk.1 112 [.agg (ps x_21 n_12 n_13 b_5 x_22 x_23 x_24 x_25 x_26 x_27 n_14 n_15),.agg [.i 5,.i 0,.str s,.str s_1,.i 0,.i 0]] S1 [(90,(ps x0_0 n0_1 n0_2 b0_3 x0_4
 x0_5 x0_6 x0_7 x0_8 x0_9 n0_10 n0_11)),(90,ps0),(90,(ps x (n + 1) n_1 b x_1 x_2 x_3 x_4 x_5 x_6 n_2 n_3)),(90,(ps x_21 n_12 n_13 b_5 x_22 x_23 x_24 x_25 x_26 x_27 n_14 n_15))] R/\∀ (x : AL) (n n_16 : Int) (b : Bool) (x_28 x_29 x_30 x_31 x_32 x_33 : AL) (n_17 n_18 : Int) (S1 : St),R (.agg (ps x n n_16 b x_28 x_29 x_30 x_31 x_32 x_33 n_17 n_18)) S1->true=true/\Q (.agg (ps x n
 n_16 b x_28 x_29 x_30 x_31 x_32 x_33 n_17 n_18)) S1)/\(b_3=false->∃ R,hk.1 112 [.agg (ps x_7 n_4 n_5 b_2 x_8 x_9 x_10 x_11 x_12 x_13 n_6 n_7),.agg [.i 4,.i 0,.str s,.str s_1,.i 0,.i 0]] S1 [(90,(ps x0_0 n0_1 n0_2 b0_3 x0_4 x0_5 x0_6 x0_7 x0_8 x0_9 n0_10 n0_11)),(90,ps0),(90,(ps x (n + 1) n_1 b x_1 x_2 x_3 x_4 x_5 x_6 n_2 n_3)),(90,(ps x_7 n_4 n_5 b_2 x_8 x_9 x_10 x_11 x_12 x_13
 n_6 n_7))] R/\∀ (x : AL) (n n_8 : Int) (b : Bool) (x_14 x_15 x_16 x_17 x_18 x_19 : AL) (n_9 n_10 : Int) (S1 : St),R (.agg (ps x n n_8 b x_14 x_15 x_16 x_17 x_18 x_19 n_9 n_10)) S1->true=true/\Q (.agg (ps x n n_8 b x_14 x_15 x_16 x_17 x_18 x_19 n_9 n_10)) S1)))))/\(b0_3=false->∃ R,hk.1 84 [.agg (ps x0_0 n0_1 n0_2 b0_3 x0_4 x0_5 x0_6 x0_7 x0_8 x0_9 n0_10 n0_11),.one (.bool
 false)] S1 [(90,(ps x0_0 n0_1 n0_2 b0_3 x0_4 x0_5 x0_6 x0_7 x0_8 x0_9 n0_10 n0_11)),(90,ps0)] R/\∀ (x : AL) (n n_1 : Int) (b : Bool) (x_1 x_2 x_3 x_4 x_5 x_6 : AL) (n_2 n_3 : Int) (s : ByteArray) (S1 : St),R (.tup [.agg (ps x n n_1 b x_1 x_2 x_3 x_4 x_5 x_6 n_2 n_3),.one (.str s)]) S1->(decide (n_2 ≥ 0)=true->true=true/\Q (.agg (ps x n n_1 b x_1 x_2 x_3 x_4 x_5 x_6 n_2 n_3))
 S1)/\(decide (n_2 ≥ 0)=false->∃ R,hk.1 75 [.agg (ps x n n_1 b x_1 x_2 x_3 x_4 x_5 x_6 n_2 n_3),.one (.i 4),.one (.str k4)] S1 [(90,(ps x0_0 n0_1 n0_2 b0_3 x0_4 x0_5 x0_6 x0_7 x0_8 x0_9 n0_10 n0_11)),(90,ps0),(90,(ps x n n_1 b x_1 x_2 x_3 x_4 x_5 x_6 n_2 n_3))] R/\∀ (b_1 : Bool) (S1 : St),R (.one (.bool b_1)) S1->((!b_1)=true->∃ R,hk.1 129 [.agg (ps x n n_1 b x_1 x_2 x_3 x_4 x_5
 x_6 n_2 n_3),.one (.str s)] S1 [(90,(ps x0_0 n0_1 n0_2 b0_3 x0_4 x0_5 x0_6 x0_7 x0_8 x0_9 n0_10 n0_11)),(90,ps0),(90,(ps x n n_1 b x_1 x_2 x_3 x_4 x_5 x_6 n_2 n_3))] R/\∀ (x : AL) (n n_4 : Int) (b : Bool) (x_7 x_8 x_9 x_10 x_11 x_12 : AL) (n_5 n_6 : Int) (S1 : St),R (.agg (ps x n n_4 b x_7 x_8 x_9 x_10 x_11 x_12 n_5 n_6)) S1->true=true/\Q (.agg (ps x n n_4 b x_7 x_8 x_9 x_10
 x_11 x_12 n_5 n_6)) S1)/\((!b_1)=false->in64 (n + 1)/\∃ R,hk.1 84 [.agg (ps x (n + 1) n_1 b x_1 x_2 x_3 x_4 x_5 x_6 n_2 n_3),.one (.bool true)] S1 [(90,(ps x0_0 n0_1 n0_2 b0_3 x0_4 x0_5 x0_6 x0_7 x0_8 x0_9 n0_10 n0_11)),(90,ps0),(90,(ps x (n + 1) n_1 b x_1 x_2 x_3 x_4 x_5 x_6 n_2 n_3))] R/\∀ (x_7 : AL) (n_4 n_5 : Int) (b_2 : Bool) (x_8 x_9 x_10 x_11 x_12 x_13 : AL) (n_6 n_7 :
 Int) (s_1 : ByteArray) (S1 : St),R (.tup [.agg (ps x_7 n_4 n_5 b_2 x_8 x_9 x_10 x_11 x_12 x_13 n_6 n_7),.one (.str s_1)]) S1->∃ R,hk.1 75 [.agg (ps x_7 n_4 n_5 b_2 x_8 x_9 x_10 x_11 x_12 x_13 n_6 n_7),.one (.i 4),.one (.str k1)] S1 [(90,(ps x0_0 n0_1 n0_2 b0_3 x0_4 x0_5 x0_6 x0_7 x0_8 x0_9 n0_10 n0_11)),(90,ps0),(90,(ps x (n + 1) n_1 b x_1 x_2 x_3 x_4 x_5 x_6 n_2 n_3)),(90,(ps
 x_7 n_4 n_5 b_2 x_8 x_9 x_10 x_11 x_12 x_13 n_6 n_7))] R/\∀ (b_3 : Bool) (S1 : St),R (.one (.bool b_3)) S1->(b_3=true->∃ R,hk.1 80 [.agg (ps x_7 n_4 n_5 b_2 x_8 x_9 x_10 x_11 x_12 x_13 n_6 n_7),.one (.str k1)] S1 [(90,(ps x0_0 n0_1 n0_2 b0_3 x0_4 x0_5 x0_6 x0_7 x0_8 x0_9 n0_10 n0_11)),(90,ps0),(90,(ps x (n + 1) n_1 b x_1 x_2 x_3 x_4 x_5 x_6 n_2 n_3)),(90,(ps x_7 n_4 n_5 b_2 x_8
 x_9 x_10 x_11 x_12 x_13 n_6 n_7))] R/\∀ (x_14 : AL) (n_8 n_9 : Int) (b_4 : Bool) (x_15 x_16 x_17 x_18 x_19 x_20 : AL) (n_10 n_11 : Int) (S1 : St),R (.agg (ps x_14 n_8 n_9 b_4 x_15 x_16 x_17 x_18 x_19 x_20 n_10 n_11)) S1->∃ R,hk.1 80 [.agg (ps x_14 n_8 n_9 b_4 x_15 x_16 x_17 x_18 x_19 x_20 n_10 n_11),.one (.str k2)] S1 [(90,(ps x0_0 n0_1 n0_2 b0_3 x0_4 x0_5 x0_6 x0_7 x0_8 x0_9
 n0_10 n0_11)),(90,ps0),(90,(ps x (n + 1) n_1 b x_1 x_2 x_3 x_4 x_5 x_6 n_2 n_3)),(90,(ps x_7 n_4 n_5 b_2 x_8 x_9 x_10 x_11 x_12 x_13 n_6 n_7))] R/\∀ (x_21 : AL) (n_12 n_13 : Int) (b_5 : Bool) (x_22 x_23 x_24 x_25 x_26 x_27 : AL) (n_14 n_15 : Int) (S1 : St),R (.agg (ps x_21 n_12 n_13 b_5 x_22 x_23 x_24 x_25 x_26 x_27 n_14 n_15)) S1->∃ R,hk.1 112 [.agg (ps x_21 n_12 n_13 b_5 x_22
 x_23 x_24 x_25 x_26 x_27 n_14 n_15),.agg [.i 5,.i 0,.str s,.str s_1,.i 0,.i 0]] S1 [(90,(ps x0_0 n0_1 n0_2 b0_3 x0_4 x0_5 x0_6 x0_7 x0_8 x0_9 n0_10 n0_11)),(90,ps0),(90,(ps x (n + 1) n_1 b x_1 x_2 x_3 x_4 x_5 x_6 n_2 n_3)),(90,(ps x_21 n_12 n_13 b_5 x_22 x_23 x_24 x_25 x_26 x_27 n_14 n_15))] R/\∀ (x : AL) (n n_16 : Int) (b : Bool) (x_28 x_29 x_30 x_31 x_32 x_33 : AL) (n_17 n_18
 : Int) (S1 : St),R (.agg (ps x n n_16 b x_28 x_29 x_30 x_31 x_32 x_33 n_17 n_18)) S1->true=true/\Q (.agg (ps x n n_16 b x_28 x_29 x_30 x_31 x_32 x_33 n_17 n_18)) S1)/\(b_3=false->∃ R,hk.1 112 [.agg (ps x_7 n_4 n_5 b_2 x_8 x_9 x_10 x_11 x_12 x_13 n_6 n_7),.agg [.i 4,.i 0,.str s,.str s_1,.i 0,.i 0]] S1 [(90,(ps x0_0 n0_1 n0_2 b0_3 x0_4 x0_5 x0_6 x0_7 x0_8 x0_9 n0_10
 n0_11)),(90,ps0),(90,(ps x (n + 1) n_1 b x_1 x_2 x_3 x_4 x_5 x_6 n_2 n_3)),(90,(ps x_7 n_4 n_5 b_2 x_8 x_9 x_10 x_11 x_12 x_13 n_6 n_7))] R/\∀ (x : AL) (n n_8 : Int) (b : Bool) (x_14 x_15 x_16 x_17 x_18 x_19 : AL) (n_9 n_10 : Int) (S1 : St),R (.agg (ps x n n_8 b x_14 x_15 x_16 x_17 x_18 x_19 n_9 n_10)) S1->true=true/\Q (.agg (ps x n n_8 b x_14 x_15 x_16 x_17 x_18 x_19 n_9
 n_10)) S1)))))))/\(decide (n0_10 < 0)=false->∃ R,hk.1 75 [.agg (ps x0_0 n0_1 n0_2 b0_3 x0_4 x0_5 x0_6 x0_7 x0_8 x0_9 n0_10 n0_11),.one (.i 4),.one (.str k1)] S [(90,(ps x0_0 n0_1 n0_2 b0_3 x0_4 x0_5 x0_6 x0_7 x0_8 x0_9 n0_10 n0_11)),(90,ps0)] R/\∀ (b : Bool) (S1 : St),R (.one (.bool b)) S1->(b=true->(decide (n0_11 ≥ 20)=true->∃ R,hk.1 110 [.agg (ps x0_0 n0_1 n0_2 b0_3 x0_4 x0_5
 x0_6 x0_7 x0_8 x0_9 n0_10 n0_11)] S1 [(90,(ps x0_0 n0_1 n0_2 b0_3 x0_4 x0_5 x0_6 x0_7 x0_8 x0_9 n0_10 n0_11)),(90,ps0)] R/\∀ (x : AL) (n n_1 : Int) (b : Bool) (x_1 x_2 x_3 x_4 x_5 x_6 : AL) (n_2 n_3 : Int) (S1 : St),R (.agg (ps x n n_1 b x_1 x_2 x_3 x_4 x_5 x_6 n_2 n_3)) S1->true=true/\Q (.agg (ps x n n_1 b x_1 x_2 x_3 x_4 x_5 x_6 n_2 n_3)) S1)/\(decide (n0_11 ≥ 20)=false->in64
 (n0_1 + 1)/\in64 (n0_11 + 1)/\∃ R,hk.1 81 [.agg (ps x0_0 (n0_1 + 1) n0_2 b0_3 x0_4 x0_5 x0_6 x0_7 x0_8 x0_9 n0_10 (n0_11 + 1))] S1 [(90,(ps x0_0 (n0_1 + 1) n0_2 b0_3 x0_4 x0_5 x0_6 x0_7 x0_8 x0_9 n0_10 (n0_11 + 1))),(90,ps0)] R/\∀ (x : AL) (n n_1 : Int) (b : Bool) (x_1 x_2 x_3 x_4 x_5 x_6 : AL) (n_2 n_3 : Int) (S1 : St),R (.agg (ps x n n_1 b x_1 x_2 x_3 x_4 x_5 x_6 n_2 n_3))
 S1->∃ R,hk.1 80 [.agg (ps x n n_1 b x_1 x_2 x_3 x_4 x_5 x_6 n_2 n_3),.one (.str k2)] S1 [(90,(ps x0_0 (n0_1 + 1) n0_2 b0_3 x0_4 x0_5 x0_6 x0_7 x0_8 x0_9 n0_10 (n0_11 + 1))),(90,ps0)] R/\∀ (x : AL) (n n_4 : Int) (b : Bool) (x_7 x_8 x_9 x_10 x_11 x_12 : AL) (n_5 n_6 : Int) (S1 : St),R (.agg (ps x n n_4 b x_7 x_8 x_9 x_10 x_11 x_12 n_5 n_6)) S1->in64 (n_6 - 1)/\true=true/\Q (.agg
 (ps x n n_4 b x_7 x_8 x_9 x_10 x_11 x_12 n_5 (n_6 - 1))) S1))/\(b=false->(b0_3=true->∃ R,hk.1 75 [.agg (ps x0_0 n0_1 n0_2 b0_3 x0_4 x0_5 x0_6 x0_7 x0_8 x0_9 n0_10 n0_11),.one (.i 1),.one (.str k3)] S1 [(90,(ps x0_0 n0_1 n0_2 b0_3 x0_4 x0_5 x0_6 x0_7 x0_8 x0_9 n0_10 n0_11)),(90,ps0)] R/\∀ (b : Bool) (S1 : St),R (.one (.bool b)) S1->(b=true->in64 (n0_1 + 1)/\∃ R,hk.1 129 [.agg
 (ps x0_0 (n0_1 + 1) n0_2 b0_3 x0_4 x0_5 x0_6 x0_7 x0_8 x0_9 n0_10 n0_11),.one (.str k3)] S1 [(90,(ps x0_0 (n0_1 + 1) n0_2 b0_3 x0_4 x0_5 x0_6 x0_7 x0_8 x0_9 n0_10 n0_11)),(90,ps0)] R/\∀ (x : AL) (n n_1 : Int) (b : Bool) (x_1 x_2 x_3 x_4 x_5 x_6 : AL) (n_2 n_3 : Int) (S1 : St),R (.agg (ps x n n_1 b x_1 x_2 x_3 x_4 x_5 x_6 n_2 n_3)) S1->true=true/\Q (.agg (ps x n n_1 b x_1 x_2
 x_3 x_4 x_5 x_6 n_2 n_3)) S1)/\(b=false->∃ R,hk.1 84 [.agg (ps x0_0 n0_1 n0_2 b0_3 x0_4 x0_5 x0_6 x0_7 x0_8 x0_9 n0_10 n0_11),.one (.bool false)] S1 [(90,(ps x0_0 n0_1 n0_2 b0_3 x0_4 x0_5 x0_6 x0_7 x0_8 x0_9 n0_10 n0_11)),(90,ps0)] R/\∀ (x : AL) (n n_1 : Int) (b : Bool) (x_1 x_2 x_3 x_4 x_5 x_6 : AL) (n_2 n_3 : Int) (s : ByteArray) (S1 : St),R (.tup [.agg (ps x n n_1 b x_1 x_2
 x_3 x_4 x_5 x_6 n_2 n_3),.one (.str s)]) S1->(decide (n_2 ≥ 0)=true->true=true/\Q (.agg (ps x n n_1 b x_1 x_2 x_3 x_4 x_5 x_6 n_2 n_3)) S1)/\(decide (n_2 ≥ 0)=false->∃ R,hk.1 75 [.agg (ps x n n_1 b x_1 x_2 x_3 x_4 x_5 x_6 n_2 n_3),.one (.i 4),.one (.str k4)] S1 [(90,(ps x0_0 n0_1 n0_2 b0_3 x0_4 x0_5 x0_6 x0_7 x0_8 x0_9 n0_10 n0_11)),(90,ps0),(90,(ps x n n_1 b x_1 x_2 x_3 x_4
 x_5 x_6 n_2 n_3))] R/\∀ (b_1 : Bool) (S1 : St),R (.one (.bool b_1)) S1->((!b_1)=true->∃ R,hk.1 129 [.agg (ps x n n_1 b x_1 x_2 x_3 x_4 x_5 x_6 n_2 n_3),.one (.str s)] S1 [(90,(ps x0_0 n0_1 n0_2 b0_3 x0_4 x0_5 x0_6 x0_7 x0_8 x0_9 n0_10 n0_11)),(90,ps0),(90,(ps x n n_1 b x_1 x_2 x_3 x_4 x_5 x_6 n_2 n_3))] R/\∀ (x : AL) (n n_4 : Int) (b : Bool) (x_7 x_8 x_9 x_10 x_11 x_12 : AL)
 (n_5 n_6 : Int) (S1 : St),R (.agg (ps x n n_4 b x_7 x_8 x_9 x_10 x_11 x_12 n_5 n_6)) S1->true=true/\Q (.agg (ps x n n_4 b x_7 x_8 x_9 x_10 x_11 x_12 n_5 n_6)) S1)/\((!b_1)=false->in64 (n + 1)/\∃ R,hk.1 84 [.agg (ps x (n + 1) n_1 b x_1 x_2 x_3 x_4 x_5 x_6 n_2 n_3),.one (.bool true)] S1 [(90,(ps x0_0 n0_1 n0_2 b0_3 x0_4 x0_5 x0_6 x0_7 x0_8 x0_9 n0_10 n0_11)),(90,ps0),(90,(ps x (n
 + 1) n_1 b x_1 x_2 x_3 x_4 x_5 x_6 n_2 n_3))] R/\∀ (x_7 : AL) (n_4 n_5 : Int) (b_2 : Bool) (x_8 x_9 x_10 x_11 x_12 x_13 : AL) (n_6 n_7 : Int) (s_1 : ByteArray) (S1 : St),R (.tup [.agg (ps x_7 n_4 n_5 b_2 x_8 x_9 x_10 x_11 x_12 x_13 n_6 n_7),.one (.str s_1)]) S1->∃ R,hk.1 75 [.agg (ps x_7 n_4 n_5 b_2 x_8 x_9 x_10 x_11 x_12 x_13 n_6 n_7),.one (.i 4),.one (.str k1)] S1 [(90,(ps
 x0_0 n0_1 n0_2 b0_3 x0_4 x0_5 x0_6 x0_7 x0_8 x0_9 n0_10 n0_11)),(90,ps0),(90,(ps x (n + 1) n_1 b x_1 x_2 x_3 x_4 x_5 x_6 n_2 n_3)),(90,(ps x_7 n_4 n_5 b_2 x_8 x_9 x_10 x_11 x_12 x_13 n_6 n_7))] R/\∀ (b_3 : Bool) (S1 : St),R (.one (.bool b_3)) S1->(b_3=true->∃ R,hk.1 80 [.agg (ps x_7 n_4 n_5 b_2 x_8 x_9 x_10 x_11 x_12 x_13 n_6 n_7),.one (.str k1)] S1 [(90,(ps x0_0 n0_1 n0_2 b0_3
 x0_4 x0_5 x0_6 x0_7 x0_8 x0_9 n0_10 n0_11)),(90,ps0),(90,(ps x (n + 1) n_1 b x_1 x_2 x_3 x_4 x_5 x_6 n_2 n_3)),(90,(ps x_7 n_4 n_5 b_2 x_8 x_9 x_10 x_11 x_12 x_13 n_6 n_7))] R/\∀ (x_14 : AL) (n_8 n_9 : Int) (b_4 : Bool) (x_15 x_16 x_17 x_18 x_19 x_20 : AL) (n_10 n_11 : Int) (S1 : St),R (.agg (ps x_14 n_8 n_9 b_4 x_15 x_16 x_17 x_18 x_19 x_20 n_10 n_11)) S1->∃ R,hk.1 80 [.agg
 (ps x_14 n_8 n_9 b_4 x_15 x_16 x_17 x_18 x_19 x_20 n_10 n_11),.one (.str k2)] S1 [(90,(ps x0_0 n0_1 n0_2 b0_3 x0_4 x0_5 x0_6 x0_7 x0_8 x0_9 n0_10 n0_11)),(90,ps0),(90,(ps x (n + 1) n_1 b x_1 x_2 x_3 x_4 x_5 x_6 n_2 n_3)),(90,(ps x_7 n_4 n_5 b_2 x_8 x_9 x_10 x_11 x_12 x_13 n_6 n_7))] R/\∀ (x_21 : AL) (n_12 n_13 : Int) (b_5 : Bool) (x_22 x_23 x_24 x_25 x_26 x_27 : AL) (n_14 n_15
 : Int) (S1 : St),R (.agg (ps x_21 n_12 n_13 b_5 x_22 x_23 x_24 x_25 x_26 x_27 n_14 n_15)) S1->∃ R,hk.1 112 [.agg (ps x_21 n_12 n_13 b_5 x_22 x_23 x_24 x_25 x_26 x_27 n_14 n_15),.agg [.i 5,.i 0,.str s,.str s_1,.i 0,.i 0]] S1 [(90,(ps x0_0 n0_1 n0_2 b0_3 x0_4 x0_5 x0_6 x0_7 x0_8 x0_9 n0_10 n0_11)),(90,ps0),(90,(ps x (n + 1) n_1 b x_1 x_2 x_3 x_4 x_5 x_6 n_2 n_3)),(90,(ps x_21
 n_12 n_13 b_5 x_22 x_23 x_24 x_25 x_26 x_27 n_14 n_15))] R/\∀ (x : AL) (n n_16 : Int) (b : Bool) (x_28 x_29 x_30 x_31 x_32 x_33 : AL) (n_17 n_18 : Int) (S1 : St),R (.agg (ps x n n_16 b x_28 x_29 x_30 x_31 x_32 x_33 n_17 n_18)) S1->true=true/\Q (.agg (ps x n n_16 b x_28 x_29 x_30 x_31 x_32 x_33 n_17 n_18)) S1)/\(b_3=false->∃ R,hk.1 112 [.agg (ps x_7 n_4 n_5 b_2 x_8 x_9 x_10 x_11
 x_12 x_13 n_6 n_7),.agg [.i 4,.i 0,.str s,.str s_1,.i 0,.i 0]] S1 [(90,(ps x0_0 n0_1 n0_2 b0_3 x0_4 x0_5 x0_6 x0_7 x0_8 x0_9 n0_10 n0_11)),(90,ps0),(90,(ps x (n + 1) n_1 b x_1 x_2 x_3 x_4 x_5 x_6 n_2 n_3)),(90,(ps x_7 n_4 n_5 b_2 x_8 x_9 x_10 x_11 x_12 x_13 n_6 n_7))] R/\∀ (x : AL) (n n_8 : Int) (b : Bool) (x_14 x_15 x_16 x_17 x_18 x_19 : AL) (n_9 n_10 : Int) (S1 : St),R (.agg
 (ps x n n_8 b x_14 x_15 x_16 x_17 x_18 x_19 n_9 n_10)) S1->true=true/\Q (.agg (ps x n n_8 b x_14 x_15 x_16 x_17 x_18 x_19 n_9 n_10)) S1)))))/\(b0_3=false->∃ R,hk.1 84 [.agg (ps x0_0 n0_1 n0_2 b0_3 x0_4 x0_5 x0_6 x0_7 x0_8 x0_9 n0_10 n0_11),.one (.bool false)] S1 [(90,(ps x0_0 n0_1 n0_2 b0_3 x0_4 x0_5 x0_6 x0_7 x0_8 x0_9 n0_10 n0_11)),(90,ps0)] R/\∀ (x : AL) (n n_1 : Int) (b :
 Bool) (x_1 x_2 x_3 x_4 x_5 x_6 : AL) (n_2 n_3 : Int) (s : ByteArray) (S1 : St),R (.tup [.agg (ps x n n_1 b x_1 x_2 x_3 x_4 x_5 x_6 n_2 n_3),.one (.str s)]) S1->(decide (n_2 ≥ 0)=true->true=true/\Q (.agg (ps x n n_1 b x_1 x_2 x_3 x_4 x_5 x_6 n_2 n_3)) S1)/\(decide (n_2 ≥ 0)=false->∃ R,hk.1 75 [.agg (ps x n n_1 b x_1 x_2 x_3 x_4 x_5 x_6 n_2 n_3),.one (.i 4),.one (.str k4)] S1
 [(90,(ps x0_0 n0_1 n0_2 b0_3 x0_4 x0_5 x0_6 x0_7 x0_8 x0_9 n0_10 n0_11)),(90,ps0),(90,(ps x n n_1 b x_1 x_2 x_3 x_4 x_5 x_6 n_2 n_3))] R/\∀ (b_1 : Bool) (S1 : St),R (.one (.bool b_1)) S1->((!b_1)=true->∃ R,hk.1 129 [.agg (ps x n n_1 b x_1 x_2 x_3 x_4 x_5 x_6 n_2 n_3),.one (.str s)] S1 [(90,(ps x0_0 n0_1 n0_2 b0_3 x0_4 x0_5 x0_6 x0_7 x0_8 x0_9 n0_10 n0_11)),(90,ps0),(90,(ps x n
 n_1 b x_1 x_2 x_3 x_4 x_5 x_6 n_2 n_3))] R/\∀ (x : AL) (n n_4 : Int) (b : Bool) (x_7 x_8 x_9 x_10 x_11 x_12 : AL) (n_5 n_6 : Int) (S1 : St),R (.agg (ps x n n_4 b x_7 x_8 x_9 x_10 x_11 x_12 n_5 n_6)) S1->true=true/\Q (.agg (ps x n n_4 b x_7 x_8 x_9 x_10 x_11 x_12 n_5 n_6)) S1)/\((!b_1)=false->in64 (n + 1)/\∃ R,hk.1 84 [.agg (ps x (n + 1) n_1 b x_1 x_2 x_3 x_4 x_5 x_6 n_2
 n_3),.one (.bool true)] S1 [(90,(ps x0_0 n0_1 n0_2 b0_3 x0_4 x0_5 x0_6 x0_7 x0_8 x0_9 n0_10 n0_11)),(90,ps0),(90,(ps x (n + 1) n_1 b x_1 x_2 x_3 x_4 x_5 x_6 n_2 n_3))] R/\∀ (x_7 : AL) (n_4 n_5 : Int) (b_2 : Bool) (x_8 x_9 x_10 x_11 x_12 x_13 : AL) (n_6 n_7 : Int) (s_1 : ByteArray) (S1 : St),R (.tup [.agg (ps x_7 n_4 n_5 b_2 x_8 x_9 x_10 x_11 x_12 x_13 n_6 n_7),.one (.str s_1)])
 S1->∃ R,hk.1 75 [.agg (ps x_7 n_4 n_5 b_2 x_8 x_9 x_10 x_11 x_12 x_13 n_6 n_7),.one (.i 4),.one (.str k1)] S1 [(90,(ps x0_0 n0_1 n0_2 b0_3 x0_4 x0_5 x0_6 x0_7 x0_8 x0_9 n0_10 n0_11)),(90,ps0),(90,(ps x (n + 1) n_1 b x_1 x_2 x_3 x_4 x_5 x_6 n_2 n_3)),(90,(ps x_7 n_4 n_5 b_2 x_8 x_9 x_10 x_11 x_12 x_13 n_6 n_7))] R/\∀ (b_3 : Bool) (S1 : St),R (.one (.bool b_3)) S1->(b_3=true->∃
 R,hk.1 80 [.agg (ps x_7 n_4 n_5 b_2 x_8 x_9 x_10 x_11 x_12 x_13 n_6 n_7),.one (.str k1)] S1 [(90,(ps x0_0 n0_1 n0_2 b0_3 x0_4 x0_5 x0_6 x0_7 x0_8 x0_9 n0_10 n0_11)),(90,ps0),(90,(ps x (n + 1) n_1 b x_1 x_2 x_3 x_4 x_5 x_6 n_2 n_3)),(90,(ps x_7 n_4 n_5 b_2 x_8 x_9 x_10 x_11 x_12 x_13 n_6 n_7))] R/\∀ (x_14 : AL) (n_8 n_9 : Int) (b_4 : Bool) (x_15 x_16 x_17 x_18 x_19 x_20 : AL)
 (n_10 n_11 : Int) (S1 : St),R (.agg (ps x_14 n_8 n_9 b_4 x_15 x_16 x_17 x_18 x_19 x_20 n_10 n_11)) S1->∃ R,hk.1 80 [.agg (ps x_14 n_8 n_9 b_4 x_15 x_16 x_17 x_18 x_19 x_20 n_10 n_11),.one (.str k2)] S1 [(90,(ps x0_0 n0_1 n0_2 b0_3 x0_4 x0_5 x0_6 x0_7 x0_8 x0_9 n0_10 n0_11)),(90,ps0),(90,(ps x (n + 1) n_1 b x_1 x_2 x_3 x_4 x_5 x_6 n_2 n_3)),(90,(ps x_7 n_4 n_5 b_2 x_8 x_9 x_10
 x_11 x_12 x_13 n_6 n_7))] R/\∀ (x_21 : AL) (n_12 n_13 : Int) (b_5 : Bool) (x_22 x_23 x_24 x_25 x_26 x_27 : AL) (n_14 n_15 : Int) (S1 : St),R (.agg (ps x_21 n_12 n_13 b_5 x_22 x_23 x_24 x_25 x_26 x_27 n_14 n_15)) S1->∃ R,hk.1 112 [.agg (ps x_21 n_12 n_13 b_5 x_22 x_23 x_24 x_25 x_26 x_27 n_14 n_15),.agg [.i 5,.i 0,.str s,.str s_1,.i 0,.i 0]] S1 [(90,(ps x0_0 n0_1 n0_2 b0_3 x0_4
 x0_5 x0_6 x0_7 x0_8 x0_9 n0_10 n0_11)),(90,ps0),(90,(ps x (n + 1) n_1 b x_1 x_2 x_3 x_4 x_5 x_6 n_2 n_3)),(90,(ps x_21 n_12 n_13 b_5 x_22 x_23 x_24 x_25 x_26 x_27 n_14 n_15))] R/\∀ (x : AL) (n n_16 : Int) (b : Bool) (x_28 x_29 x_30 x_31 x_32 x_33 : AL) (n_17 n_18 : Int) (S1 : St),R (.agg (ps x n n_16 b x_28 x_29 x_30 x_31 x_32 x_33 n_17 n_18)) S1->true=true/\Q (.agg (ps x n
 n_16 b x_28 x_29 x_30 x_31 x_32 x_33 n_17 n_18)) S1)/\(b_3=false->∃ R,hk.1 112 [.agg (ps x_7 n_4 n_5 b_2 x_8 x_9 x_10 x_11 x_12 x_13 n_6 n_7),.agg [.i 4,.i 0,.str s,.str s_1,.i 0,.i 0]] S1 [(90,(ps x0_0 n0_1 n0_2 b0_3 x0_4 x0_5 x0_6 x0_7 x0_8 x0_9 n0_10 n0_11)),(90,ps0),(90,(ps x (n + 1) n_1 b x_1 x_2 x_3 x_4 x_5 x_6 n_2 n_3)),(90,(ps x_7 n_4 n_5 b_2 x_8 x_9 x_10 x_11 x_12 x_13
 n_6 n_7))] R/\∀ (x : AL) (n n_8 : Int) (b : Bool) (x_14 x_15 x_16 x_17 x_18 x_19 : AL) (n_9 n_10 : Int) (S1 : St),R (.agg (ps x n n_8 b x_14 x_15 x_16 x_17 x_18 x_19 n_9 n_10)) S1->true=true/\Q (.agg (ps x n n_8 b x_14 x_15 x_16 x_17 x_18 x_19 n_9 n_10))
 S1)))))))
 := by intros; kernel_rfl
theorem v111 : ∀ (hk : Hk) (plans : Nat->Plan) (x0_0 : AL) (n0_1 n0_2 : Int) (b0_3 : Bool) (x0_4 x0_5 x0_6 x0_7 x0_8 x0_9 : AL) (n0_10 n0_11 : Int) (S : St) (Q : AV->St->Prop),wFn true hk Tryz.prog (tabOf Tryz.prog) plans false 111 [.agg (ps x0_0 n0_1 n0_2 b0_3 x0_4 x0_5 x0_6 x0_7 x0_8 x0_9 n0_10 n0_11)] S Q=(true=true/\∃ R,hk.1 123 [.agg (ps x0_0 n0_1 n0_2 b0_3 x0_4 x0_5 x0_6
 x0_7 x0_8 x0_9 n0_10 n0_11)] S [(90,(ps x0_0 n0_1 n0_2 b0_3 x0_4 x0_5 x0_6 x0_7 x0_8 x0_9 n0_10 n0_11)),(90,ps0)] R/\∀ (x : AL) (n n_1 : Int) (b : Bool) (x_1 x_2 x_3 x_4 x_5 x_6 : AL) (n_2 n_3 : Int) (S1 : St),R (.agg (ps x n n_1 b x_1 x_2 x_3 x_4 x_5 x_6 n_2 n_3)) S1->hk.2 29 (codeOf Tryz.prog 111 [1,1,0,0,0]) [.blk 0,.seq (codeOf Tryz.prog 111 [1,1,1])] (wEnd (tabOf
 Tryz.prog) Tryz.f111 false S.boxes.length Q) [(5,.v (.agg (ps x n n_1 b x_1 x_2 x_3 x_4 x_5 x_6 n_2 n_3))),(4,.v (.agg (ps x0_0 n0_1 n0_2 b0_3 x0_4 x0_5 x0_6 x0_7 x0_8 x0_9 n0_10 n0_11))),(2,.loc 1 0),(1,.loc 0 0),(0,.v (.agg (ps x0_0 n0_1 n0_2 b0_3 x0_4 x0_5 x0_6 x0_7 x0_8 x0_9 n0_10 n0_11)))] S1 [(90,(ps x n n_1 b x_1 x_2 x_3 x_4 x_5 x_6 n_2
 n_3)),(90,ps0)])
 := by intros; kernel_rfl
theorem b111_0 : ∀ (hk : Hk) (plans : Nat->Plan) (xL0_0 : AL) (nL0_1 nL0_2 : Int) (bL0_3 : Bool) (xL0_4 xL0_5 xL0_6 xL0_7 xL0_8 xL0_9 : AL) (nL0_10 nL0_11 : Int) (xL1_0 : AL) (nL1_1 nL1_2 : Int) (bL1_3 : Bool) (xL1_4 xL1_5 xL1_6 xL1_7 xL1_8 xL1_9 : AL) (nL1_10 nL1_11 : Int) (S : St) (K : QW),wCode true hk Tryz.prog (tabOf Tryz.prog) 29 plans 1000 (codeOf Tryz.prog 111
 [1,1,0,0,0]) [] (fun e env S L => K e (restr [2,1] env) S L) [(2,.loc 1 0),(1,.loc 0 0)] S [(90,(ps xL0_0 nL0_1 nL0_2 bL0_3 xL0_4 xL0_5 xL0_6 xL0_7 xL0_8 xL0_9 nL0_10 nL0_11)),(90,(ps xL1_0 nL1_1 nL1_2 bL1_3 xL1_4 xL1_5 xL1_6 xL1_7 xL1_8 xL1_9 nL1_10 nL1_11))]=∃ R,hk.1 75 [.agg (ps xL0_0 nL0_1 nL0_2 bL0_3 xL0_4 xL0_5 xL0_6 xL0_7 xL0_8 xL0_9 nL0_10 nL0_11),.one (.i 4),.one (.str
 k5)] S [(90,(ps xL0_0 nL0_1 nL0_2 bL0_3 xL0_4 xL0_5 xL0_6 xL0_7 xL0_8 xL0_9 nL0_10 nL0_11)),(90,(ps xL1_0 nL1_1 nL1_2 bL1_3 xL1_4 xL1_5 xL1_6 xL1_7 xL1_8 xL1_9 nL1_10 nL1_11))] R/\∀ (b : Bool) (S1 : St),R (.one (.bool b)) S1->(b=true->∃ n,xL0_8.len?=some n/\in64 ((↑n : Int) - 1)/\in64 (nL0_1 + 1)/\∃ R,hk.1 123 [.agg (ps xL0_0 (nL0_1 + 1) nL0_2 bL0_3 xL0_4 xL0_5 xL0_6 xL0_7
 xL0_8 xL0_9 nL0_10 nL0_11)] S1 [(90,(ps xL0_0 (nL0_1 + 1) nL0_2 bL0_3 xL0_4 xL0_5 xL0_6 xL0_7 xL0_8 xL0_9 nL0_10 nL0_11)),(90,(ps xL1_0 nL1_1 nL1_2 bL1_3 xL1_4 xL1_5 xL1_6 xL1_7 xL1_8 xL1_9 nL1_10 nL1_11))] R/\∀ (x : AL) (n_1 n_2 : Int) (b : Bool) (x_1 x_2 x_3 x_4 x_5 x_6 : AL) (n_3 n_4 : Int) (S1 : St),R (.agg (ps x n_1 n_2 b x_1 x_2 x_3 x_4 x_5 x_6 n_3 n_4)) S1->∃
 n_5,x_5.len?=some n_5/\in64 ((↑n_5 : Int) - 1)/\∃ R,hk.1 112 [.agg (ps x n_1 n_2 b x_1 x_2 x_3 x_4 x_5 x_6 n_3 n_4),.agg [.i 8,.i 0,.str k_,.str k_,.i ((↑n : Int) - 1),.i ((↑n_5 : Int) - 1)]] S1 [(90,(ps x n_1 n_2 b x_1 x_2 x_3 x_4 x_5 x_6 n_3 n_4)),(90,(ps xL1_0 nL1_1 nL1_2 bL1_3 xL1_4 xL1_5 xL1_6 xL1_7 xL1_8 xL1_9 nL1_10 nL1_11))] R/\∀ (x : AL) (n n_6 : Int) (b : Bool) (x_7
 x_8 x_9 x_10 x_11 x_12 : AL) (n_7 n_8 : Int) (S1 : St),R (.agg (ps x n n_6 b x_7 x_8 x_9 x_10 x_11 x_12 n_7 n_8)) S1->K .normal [(2,.loc 1 0),(1,.loc 0 0)] S1 [(90,(ps x n n_6 b x_7 x_8 x_9 x_10 x_11 x_12 n_7 n_8)),(90,(ps xL1_0 nL1_1 nL1_2 bL1_3 xL1_4 xL1_5 xL1_6 xL1_7 xL1_8 xL1_9 nL1_10 nL1_11))])/\(b=false->K (.exit 0) [(2,.loc 1 0),(1,.loc 0 0)] S1 [(90,(ps xL0_0 nL0_1
 nL0_2 bL0_3 xL0_4 xL0_5 xL0_6 xL0_7 xL0_8 xL0_9 nL0_10 nL0_11)),(90,(ps xL1_0 nL1_1 nL1_2 bL1_3 xL1_4 xL1_5 xL1_6 xL1_7 xL1_8 xL1_9 nL1_10
 nL1_11))])
 := by intros; kernel_rfl
theorem x111_0 : ∀ (hk : Hk) (plans : Nat->Plan) (S : St) (Q : AV->St->Prop) (xL0_0 : AL) (nL0_1 nL0_2 : Int) (bL0_3 : Bool) (xL0_4 xL0_5 xL0_6 xL0_7 xL0_8 xL0_9 : AL) (nL0_10 nL0_11 : Int) (xL1_0 : AL) (nL1_1 nL1_2 : Int) (bL1_3 : Bool) (xL1_4 xL1_5 xL1_6 xL1_7 xL1_8 xL1_9 : AL) (nL1_10 nL1_11 : Int) (S_1 : St),wCode.wEx true hk Tryz.prog (tabOf Tryz.prog) 29 plans 1000 (.exit
 0) [.blk 0,.seq (codeOf Tryz.prog 111 [1,1,1])] (wEnd (tabOf Tryz.prog) Tryz.f111 false S.boxes.length Q) [(2,.loc 1 0),(1,.loc 0 0)] S_1 [(90,(ps xL0_0 nL0_1 nL0_2 bL0_3 xL0_4 xL0_5 xL0_6 xL0_7 xL0_8 xL0_9 nL0_10 nL0_11)),(90,(ps xL1_0 nL1_1 nL1_2 bL1_3 xL1_4 xL1_5 xL1_6 xL1_7 xL1_8 xL1_9 nL1_10 nL1_11))]=(true=true/\Q (.agg (ps xL0_0 nL0_1 nL0_2 bL0_3 xL0_4 xL0_5 xL0_6 xL0_7
 xL0_8 xL0_9 nL0_10 nL0_11))
 S_1)
 := by intros; kernel_rfl
theorem v81 : ∀ (hk : Hk) (plans : Nat->Plan) (x0_0 : AL) (n0_1 n0_2 : Int) (b0_3 : Bool) (x0_4 x0_5 x0_6 x0_7 x0_8 x0_9 : AL) (n0_10 n0_11 : Int) (S : St) (Q : AV->St->Prop),wFn true hk Tryz.prog (tabOf Tryz.prog) plans false 81 [.agg (ps x0_0 n0_1 n0_2 b0_3 x0_4 x0_5 x0_6 x0_7 x0_8 x0_9 n0_10 n0_11)] S Q=(true=true/\∃ R,hk.1 111 [.agg (ps x0_0 n0_1 n0_2 b0_3 x0_4 x0_5 x0_6
 x0_7 x0_8 x0_9 n0_10 n0_11)] S [(90,(ps x0_0 n0_1 n0_2 b0_3 x0_4 x0_5 x0_6 x0_7 x0_8 x0_9 n0_10 n0_11)),(90,ps0)] R/\∀ (x : AL) (n n_1 : Int) (b : Bool) (x_1 x_2 x_3 x_4 x_5 x_6 : AL) (n_2 n_3 : Int) (S1 : St),R (.agg (ps x n n_1 b x_1 x_2 x_3 x_4 x_5 x_6 n_2 n_3)) S1->hk.2 37 (codeOf Tryz.prog 81 [1,1,0,0,0]) [.blk 0,.seq (codeOf Tryz.prog 81 [1,1,1])] (wEnd (tabOf Tryz.prog)
 Tryz.f81 false S.boxes.length Q) [(6,.v (.agg (ps x n n_1 b x_1 x_2 x_3 x_4 x_5 x_6 n_2 n_3))),(5,.v (.agg (ps x0_0 n0_1 n0_2 b0_3 x0_4 x0_5 x0_6 x0_7 x0_8 x0_9 n0_10 n0_11))),(2,.loc 1 0),(1,.loc 0 0),(0,.v (.agg (ps x0_0 n0_1 n0_2 b0_3 x0_4 x0_5 x0_6 x0_7 x0_8 x0_9 n0_10 n0_11)))] S1 [(90,(ps x n n_1 b x_1 x_2 x_3 x_4 x_5 x_6 n_2
 n_3)),(90,ps0)])
 := by intros; kernel_rfl
theorem b81_0 : ∀ (hk : Hk) (plans : Nat->Plan) (xL0_0 : AL) (nL0_1 nL0_2 : Int) (bL0_3 : Bool) (xL0_4 xL0_5 xL0_6 xL0_7 xL0_8 xL0_9 : AL) (nL0_10 nL0_11 : Int) (xL1_0 : AL) (nL1_1 nL1_2 : Int) (bL1_3 : Bool) (xL1_4 xL1_5 xL1_6 xL1_7 xL1_8 xL1_9 : AL) (nL1_10 nL1_11 : Int) (S : St) (K : QW),wCode true hk Tryz.prog (tabOf Tryz.prog) 37 plans 1000 (codeOf Tryz.prog 81
 [1,1,0,0,0]) [] (fun e env S L => K e (restr [2,1] env) S L) [(2,.loc 1 0),(1,.loc 0 0)] S [(90,(ps xL0_0 nL0_1 nL0_2 bL0_3 xL0_4 xL0_5 xL0_6 xL0_7 xL0_8 xL0_9 nL0_10 nL0_11)),(90,(ps xL1_0 nL1_1 nL1_2 bL1_3 xL1_4 xL1_5 xL1_6 xL1_7 xL1_8 xL1_9 nL1_10 nL1_11))]=∃ R,hk.1 75 [.agg (ps xL0_0 nL0_1 nL0_2 bL0_3 xL0_4 xL0_5 xL0_6 xL0_7 xL0_8 xL0_9 nL0_10 nL0_11),.one (.i 4),.one (.str
 k6)] S [(90,(ps xL0_0 nL0_1 nL0_2 bL0_3 xL0_4 xL0_5 xL0_6 xL0_7 xL0_8 xL0_9 nL0_10 nL0_11)),(90,(ps xL1_0 nL1_1 nL1_2 bL1_3 xL1_4 xL1_5 xL1_6 xL1_7 xL1_8 xL1_9 nL1_10 nL1_11))] R/\∀ (b : Bool) (S1 : St),R (.one (.bool b)) S1->(b=true->∃ R,hk.1 75 [.agg (ps xL0_0 nL0_1 nL0_2 bL0_3 xL0_4 xL0_5 xL0_6 xL0_7 xL0_8 xL0_9 nL0_10 nL0_11),.one (.i 4),.one (.str k7)] S1 [(90,(ps xL0_0
 nL0_1 nL0_2 bL0_3 xL0_4 xL0_5 xL0_6 xL0_7 xL0_8 xL0_9 nL0_10 nL0_11)),(90,(ps xL1_0 nL1_1 nL1_2 bL1_3 xL1_4 xL1_5 xL1_6 xL1_7 xL1_8 xL1_9 nL1_10 nL1_11))] R/\∀ (b : Bool) (S1 : St),R (.one (.bool b)) S1->(b=true->∃ n,xL0_8.len?=some n/\in64 ((↑n : Int) - 1)/\in64 (nL0_1 + 1)/\∃ R,hk.1 111 [.agg (ps xL0_0 (nL0_1 + 1) nL0_2 bL0_3 xL0_4 xL0_5 xL0_6 xL0_7 xL0_8 xL0_9 nL0_10
 nL0_11)] S1 [(90,(ps xL0_0 (nL0_1 + 1) nL0_2 bL0_3 xL0_4 xL0_5 xL0_6 xL0_7 xL0_8 xL0_9 nL0_10 nL0_11)),(90,(ps xL1_0 nL1_1 nL1_2 bL1_3 xL1_4 xL1_5 xL1_6 xL1_7 xL1_8 xL1_9 nL1_10 nL1_11))] R/\∀ (x : AL) (n_1 n_2 : Int) (b : Bool) (x_1 x_2 x_3 x_4 x_5 x_6 : AL) (n_3 n_4 : Int) (S1 : St),R (.agg (ps x n_1 n_2 b x_1 x_2 x_3 x_4 x_5 x_6 n_3 n_4)) S1->∃ n_5,x_5.len?=some n_5/\in64
 ((↑n_5 : Int) - 1)/\∃ R,hk.1 112 [.agg (ps x n_1 n_2 b x_1 x_2 x_3 x_4 x_5 x_6 n_3 n_4),.agg [.i 7,.i 0,.str k_,.str k_,.i ((↑n : Int) - 1),.i ((↑n_5 : Int) - 1)]] S1 [(90,(ps x n_1 n_2 b x_1 x_2 x_3 x_4 x_5 x_6 n_3 n_4)),(90,(ps xL1_0 nL1_1 nL1_2 bL1_3 xL1_4 xL1_5 xL1_6 xL1_7 xL1_8 xL1_9 nL1_10 nL1_11))] R/\∀ (x : AL) (n n_6 : Int) (b : Bool) (x_7 x_8 x_9 x_10 x_11 x_12 : AL)
 (n_7 n_8 : Int) (S1 : St),R (.agg (ps x n n_6 b x_7 x_8 x_9 x_10 x_11 x_12 n_7 n_8)) S1->K .normal [(2,.loc 1 0),(1,.loc 0 0)] S1 [(90,(ps x n n_6 b x_7 x_8 x_9 x_10 x_11 x_12 n_7 n_8)),(90,(ps xL1_0 nL1_1 nL1_2 bL1_3 xL1_4 xL1_5 xL1_6 xL1_7 xL1_8 xL1_9 nL1_10 nL1_11))])/\(b=false->∃ n,xL0_8.len?=some n/\in64 ((↑n : Int) - 1)/\in64 (nL0_1 + 1)/\∃ R,hk.1 111 [.agg (ps xL0_0
 (nL0_1 + 1) nL0_2 bL0_3 xL0_4 xL0_5 xL0_6 xL0_7 xL0_8 xL0_9 nL0_10 nL0_11)] S1 [(90,(ps xL0_0 (nL0_1 + 1) nL0_2 bL0_3 xL0_4 xL0_5 xL0_6 xL0_7 xL0_8 xL0_9 nL0_10 nL0_11)),(90,(ps xL1_0 nL1_1 nL1_2 bL1_3 xL1_4 xL1_5 xL1_6 xL1_7 xL1_8 xL1_9 nL1_10 nL1_11))] R/\∀ (x : AL) (n_1 n_2 : Int) (b : Bool) (x_1 x_2 x_3 x_4 x_5 x_6 : AL) (n_3 n_4 : Int) (S1 : St),R (.agg (ps x n_1 n_2 b x_1
 x_2 x_3 x_4 x_5 x_6 n_3 n_4)) S1->∃ n_5,x_5.len?=some n_5/\in64 ((↑n_5 : Int) - 1)/\∃ R,hk.1 112 [.agg (ps x n_1 n_2 b x_1 x_2 x_3 x_4 x_5 x_6 n_3 n_4),.agg [.i 6,.i 0,.str k_,.str k_,.i ((↑n : Int) - 1),.i ((↑n_5 : Int) - 1)]] S1 [(90,(ps x n_1 n_2 b x_1 x_2 x_3 x_4 x_5 x_6 n_3 n_4)),(90,(ps xL1_0 nL1_1 nL1_2 bL1_3 xL1_4 xL1_5 xL1_6 xL1_7 xL1_8 xL1_9 nL1_10 nL1_11))] R/\∀ (x :
 AL) (n n_6 : Int) (b : Bool) (x_7 x_8 x_9 x_10 x_11 x_12 : AL) (n_7 n_8 : Int) (S1 : St),R (.agg (ps x n n_6 b x_7 x_8 x_9 x_10 x_11 x_12 n_7 n_8)) S1->K .normal [(2,.loc 1 0),(1,.loc 0 0)] S1 [(90,(ps x n n_6 b x_7 x_8 x_9 x_10 x_11 x_12 n_7 n_8)),(90,(ps xL1_0 nL1_1 nL1_2 bL1_3 xL1_4 xL1_5 xL1_6 xL1_7 xL1_8 xL1_9 nL1_10 nL1_11))]))/\(b=false->∃ R,hk.1 75 [.agg (ps xL0_0 nL0_1
 nL0_2 bL0_3 xL0_4 xL0_5 xL0_6 xL0_7 xL0_8 xL0_9 nL0_10 nL0_11),.one (.i 4),.one (.str k7)] S1 [(90,(ps xL0_0 nL0_1 nL0_2 bL0_3 xL0_4 xL0_5 xL0_6 xL0_7 xL0_8 xL0_9 nL0_10 nL0_11)),(90,(ps xL1_0 nL1_1 nL1_2 bL1_3 xL1_4 xL1_5 xL1_6 xL1_7 xL1_8 xL1_9 nL1_10 nL1_11))] R/\∀ (b : Bool) (S1 : St),R (.one (.bool b)) S1->(b=true->∃ R,hk.1 75 [.agg (ps xL0_0 nL0_1 nL0_2 bL0_3 xL0_4 xL0_5
 xL0_6 xL0_7 xL0_8 xL0_9 nL0_10 nL0_11),.one (.i 4),.one (.str k7)] S1 [(90,(ps xL0_0 nL0_1 nL0_2 bL0_3 xL0_4 xL0_5 xL0_6 xL0_7 xL0_8 xL0_9 nL0_10 nL0_11)),(90,(ps xL1_0 nL1_1 nL1_2 bL1_3 xL1_4 xL1_5 xL1_6 xL1_7 xL1_8 xL1_9 nL1_10 nL1_11))] R/\∀ (b : Bool) (S1 : St),R (.one (.bool b)) S1->(b=true->∃ n,xL0_8.len?=some n/\in64 ((↑n : Int) - 1)/\in64 (nL0_1 + 1)/\∃ R,hk.1 111 [.agg
 (ps xL0_0 (nL0_1 + 1) nL0_2 bL0_3 xL0_4 xL0_5 xL0_6 xL0_7 xL0_8 xL0_9 nL0_10 nL0_11)] S1 [(90,(ps xL0_0 (nL0_1 + 1) nL0_2 bL0_3 xL0_4 xL0_5 xL0_6 xL0_7 xL0_8 xL0_9 nL0_10 nL0_11)),(90,(ps xL1_0 nL1_1 nL1_2 bL1_3 xL1_4 xL1_5 xL1_6 xL1_7 xL1_8 xL1_9 nL1_10 nL1_11))] R/\∀ (x : AL) (n_1 n_2 : Int) (b : Bool) (x_1 x_2 x_3 x_4 x_5 x_6 : AL) (n_3 n_4 : Int) (S1 : St),R (.agg (ps x n_1
 n_2 b x_1 x_2 x_3 x_4 x_5 x_6 n_3 n_4)) S1->∃ n_5,x_5.len?=some n_5/\in64 ((↑n_5 : Int) - 1)/\∃ R,hk.1 112 [.agg (ps x n_1 n_2 b x_1 x_2 x_3 x_4 x_5 x_6 n_3 n_4),.agg [.i 7,.i 0,.str k_,.str k_,.i ((↑n : Int) - 1),.i ((↑n_5 : Int) - 1)]] S1 [(90,(ps x n_1 n_2 b x_1 x_2 x_3 x_4 x_5 x_6 n_3 n_4)),(90,(ps xL1_0 nL1_1 nL1_2 bL1_3 xL1_4 xL1_5 xL1_6 xL1_7 xL1_8 xL1_9 nL1_10 nL1_11))]
 R/\∀ (x : AL) (n n_6 : Int) (b : Bool) (x_7 x_8 x_9 x_10 x_11 x_12 : AL) (n_7 n_8 : Int) (S1 : St),R (.agg (ps x n n_6 b x_7 x_8 x_9 x_10 x_11 x_12 n_7 n_8)) S1->K .normal [(2,.loc 1 0),(1,.loc 0 0)] S1 [(90,(ps x n n_6 b x_7 x_8 x_9 x_10 x_11 x_12 n_7 n_8)),(90,(ps xL1_0 nL1_1 nL1_2 bL1_3 xL1_4 xL1_5 xL1_6 xL1_7 xL1_8 xL1_9 nL1_10 nL1_11))])/\(b=false->∃ n,xL0_8.len?=some
 n/\in64 ((↑n : Int) - 1)/\in64 (nL0_1 + 1)/\∃ R,hk.1 111 [.agg (ps xL0_0 (nL0_1 + 1) nL0_2 bL0_3 xL0_4 xL0_5 xL0_6 xL0_7 xL0_8 xL0_9 nL0_10 nL0_11)] S1 [(90,(ps xL0_0 (nL0_1 + 1) nL0_2 bL0_3 xL0_4 xL0_5 xL0_6 xL0_7 xL0_8 xL0_9 nL0_10 nL0_11)),(90,(ps xL1_0 nL1_1 nL1_2 bL1_3 xL1_4 xL1_5 xL1_6 xL1_7 xL1_8 xL1_9 nL1_10 nL1_11))] R/\∀ (x : AL) (n_1 n_2 : Int) (b : Bool) (x_1 x_2
 x_3 x_4 x_5 x_6 : AL) (n_3 n_4 : Int) (S1 : St),R (.agg (ps x n_1 n_2 b x_1 x_2 x_3 x_4 x_5 x_6 n_3 n_4)) S1->∃ n_5,x_5.len?=some n_5/\in64 ((↑n_5 : Int) - 1)/\∃ R,hk.1 112 [.agg (ps x n_1 n_2 b x_1 x_2 x_3 x_4 x_5 x_6 n_3 n_4),.agg [.i 6,.i 0,.str k_,.str k_,.i ((↑n : Int) - 1),.i ((↑n_5 : Int) - 1)]] S1 [(90,(ps x n_1 n_2 b x_1 x_2 x_3 x_4 x_5 x_6 n_3 n_4)),(90,(ps xL1_0
 nL1_1 nL1_2 bL1_3 xL1_4 xL1_5 xL1_6 xL1_7 xL1_8 xL1_9 nL1_10 nL1_11))] R/\∀ (x : AL) (n n_6 : Int) (b : Bool) (x_7 x_8 x_9 x_10 x_11 x_12 : AL) (n_7 n_8 : Int) (S1 : St),R (.agg (ps x n n_6 b x_7 x_8 x_9 x_10 x_11 x_12 n_7 n_8)) S1->K .normal [(2,.loc 1 0),(1,.loc 0 0)] S1 [(90,(ps x n n_6 b x_7 x_8 x_9 x_10 x_11 x_12 n_7 n_8)),(90,(ps xL1_0 nL1_1 nL1_2 bL1_3 xL1_4 xL1_5 xL1_6
 xL1_7 xL1_8 xL1_9 nL1_10 nL1_11))]))/\(b=false->K (.exit 0) [(2,.loc 1 0),(1,.loc 0 0)] S1 [(90,(ps xL0_0 nL0_1 nL0_2 bL0_3 xL0_4 xL0_5 xL0_6 xL0_7 xL0_8 xL0_9 nL0_10 nL0_11)),(90,(ps xL1_0 nL1_1 nL1_2 bL1_3 xL1_4 xL1_5 xL1_6 xL1_7 xL1_8 xL1_9 nL1_10
 nL1_11))]))
 := by intros; kernel_rfl
theorem x81_0 : ∀ (hk : Hk) (plans : Nat->Plan) (S : St) (Q : AV->St->Prop) (xL0_0 : AL) (nL0_1 nL0_2 : Int) (bL0_3 : Bool) (xL0_4 xL0_5 xL0_6 xL0_7 xL0_8 xL0_9 : AL) (nL0_10 nL0_11 : Int) (xL1_0 : AL) (nL1_1 nL1_2 : Int) (bL1_3 : Bool) (xL1_4 xL1_5 xL1_6 xL1_7 xL1_8 xL1_9 : AL) (nL1_10 nL1_11 : Int) (S_1 : St),wCode.wEx true hk Tryz.prog (tabOf Tryz.prog) 37 plans 1000 (.exit
 0) [.blk 0,.seq (codeOf Tryz.prog 81 [1,1,1])] (wEnd (tabOf Tryz.prog) Tryz.f81 false S.boxes.length Q) [(2,.loc 1 0),(1,.loc 0 0)] S_1 [(90,(ps xL0_0 nL0_1 nL0_2 bL0_3 xL0_4 xL0_5 xL0_6 xL0_7 xL0_8 xL0_9 nL0_10 nL0_11)),(90,(ps xL1_0 nL1_1 nL1_2 bL1_3 xL1_4 xL1_5 xL1_6 xL1_7 xL1_8 xL1_9 nL1_10 nL1_11))]=(true=true/\Q (.agg (ps xL0_0 nL0_1 nL0_2 bL0_3 xL0_4 xL0_5 xL0_6 xL0_7
 xL0_8 xL0_9 nL0_10 nL0_11))
 S_1)
 := by intros; kernel_rfl
theorem v105 : ∀ (hk : Hk) (plans : Nat->Plan) (x0_0 : AL) (n0_1 n0_2 : Int) (b0_3 : Bool) (x0_4 x0_5 x0_6 x0_7 x0_8 x0_9 : AL) (n0_10 n0_11 : Int) (b1 : Bool) (S : St) (Q : AV->St->Prop),wFn true hk Tryz.prog (tabOf Tryz.prog) plans false 105 [.agg (ps x0_0 n0_1 n0_2 b0_3 x0_4 x0_5 x0_6 x0_7 x0_8 x0_9 n0_10 n0_11),.one (.bool b1)] S Q=(true=true/\∃ R,hk.1 80 [.agg (ps x0_0
 n0_1 n0_2 b0_3 x0_4 x0_5 x0_6 x0_7 x0_8 x0_9 n0_10 n0_11),.one (.str k8)] (S.born (0,72,4)) [(90,(ps x0_0 n0_1 n0_2 b0_3 x0_4 x0_5 x0_6 x0_7 x0_8 x0_9 n0_10 n0_11)),(90,ps0)] R/\∀ (x : AL) (n n_1 : Int) (b : Bool) (x_1 x_2 x_3 x_4 x_5 x_6 : AL) (n_2 n_3 : Int) (S1 : St),R (.agg (ps x n n_1 b x_1 x_2 x_3 x_4 x_5 x_6 n_2 n_3)) S1->hk.2 71 (codeOf Tryz.prog 105 [1,1,1,1,0,0,0])
 [.blk 0,.seq (codeOf Tryz.prog 105 [1,1,1,1,1])] (wEnd (tabOf Tryz.prog) Tryz.f105 false S.boxes.length Q) [(16,.v (.agg (ps x n n_1 b x_1 x_2 x_3 x_4 x_5 x_6 n_2 n_3))),(15,.v (.agg (ps x0_0 n0_1 n0_2 b0_3 x0_4 x0_5 x0_6 x0_7 x0_8 x0_9 n0_10 n0_11))),(8,.kb false),(7,.v (.one (.sl (some S.toks.length) 0 []))),(14,.v (.one (.sl (some S.toks.length) 0 []))),(6,.kb false),(5,.v
 (.one .nilsl)),(4,.loc 1 0),(2,.loc 0 0),(0,.v (.agg (ps x0_0 n0_1 n0_2 b0_3 x0_4 x0_5 x0_6 x0_7 x0_8 x0_9 n0_10 n0_11))),(1,.v (.one (.bool b1)))] S1 [(90,(ps x n n_1 b x_1 x_2 x_3 x_4 x_5 x_6 n_2
 n_3)),(90,ps0)])
 := by intros; kernel_rfl
theorem b105_0 : ∀ (hk : Hk) (plans : Nat->Plan) (b1 b8 : Bool) (x7 xL0_0 : AL) (nL0_1 nL0_2 : Int) (bL0_3 : Bool) (xL0_4 xL0_5 xL0_6 xL0_7 xL0_8 xL0_9 : AL) (nL0_10 nL0_11 : Int) (xL1_0 : AL) (nL1_1 nL1_2 : Int) (bL1_3 : Bool) (xL1_4 xL1_5 xL1_6 xL1_7 xL1_8 xL1_9 : AL) (nL1_10 nL1_11 : Int) (S : St) (K : QW),wCode true hk Tryz.prog (tabOf Tryz.prog) 71 plans 1000 (codeOf
 Tryz.prog 105 [1,1,1,1,0,0,0]) [] (fun e env S L => K e (restr [8,7,6,5,4,2,1] env) S L) [(8,.v (.one (.bool b8))),(7,.v (.one x7)),(6,.v (.one (.bool false))),(5,.v (.one .nilsl)),(4,.loc 1 0),(2,.loc 0 0),(1,.v (.one (.bool b1)))] S [(90,(ps xL0_0 nL0_1 nL0_2 bL0_3 xL0_4 xL0_5 xL0_6 xL0_7 xL0_8 xL0_9 nL0_10 nL0_11)),(90,(ps xL1_0 nL1_1 nL1_2 bL1_3 xL1_4 xL1_5 xL1_6 xL1_7
 xL1_8 xL1_9 nL1_10 nL1_11))]=((decide (nL0_10 < 0)=true->∃ R,hk.1 84 [.agg (ps xL0_0 nL0_1 nL0_2 bL0_3 xL0_4 xL0_5 xL0_6 xL0_7 xL0_8 xL0_9 nL0_10 nL0_11),.one (.bool true)] S [(90,(ps xL0_0 nL0_1 nL0_2 bL0_3 xL0_4 xL0_5 xL0_6 xL0_7 xL0_8 xL0_9 nL0_10 nL0_11)),(90,(ps xL1_0 nL1_1 nL1_2 bL1_3 xL1_4 xL1_5 xL1_6 xL1_7 xL1_8 xL1_9 nL1_10 nL1_11))] R/\∀ (x : AL) (n n_1 : Int) (b :
 Bool) (x_1 x_2 x_3 x_4 x_5 x_6 : AL) (n_2 n_3 : Int) (s : ByteArray) (S1 : St),R (.tup [.agg (ps x n n_1 b x_1 x_2 x_3 x_4 x_5 x_6 n_2 n_3),.one (.str s)]) S1->∃ R,hk.1 75 [.agg (ps x n n_1 b x_1 x_2 x_3 x_4 x_5 x_6 n_2 n_3),.one (.i 1),.one (.str k9)] S1 [(90,(ps x n n_1 b x_1 x_2 x_3 x_4 x_5 x_6 n_2 n_3)),(90,(ps xL1_0 nL1_1 nL1_2 bL1_3 xL1_4 xL1_5 xL1_6 xL1_7 xL1_8 xL1_9
 nL1_10 nL1_11)),(90,(ps x n n_1 b x_1 x_2 x_3 x_4 x_5 x_6 n_2 n_3))] R/\∀ (b_1 : Bool) (S1 : St),R (.one (.bool b_1)) S1->(b_1=true->in64 (n + 1)/\∃ R,hk.1 84 [.agg (ps x (n + 1) n_1 b x_1 x_2 x_3 x_4 x_5 x_6 n_2 n_3),.one (.bool b1)] S1 [(90,(ps x (n + 1) n_1 b x_1 x_2 x_3 x_4 x_5 x_6 n_2 n_3)),(90,(ps xL1_0 nL1_1 nL1_2 bL1_3 xL1_4 xL1_5 xL1_6 xL1_7 xL1_8 xL1_9 nL1_10
 nL1_11)),(90,(ps x n n_1 b x_1 x_2 x_3 x_4 x_5 x_6 n_2 n_3))] R/\∀ (x_7 : AL) (n_4 n_5 : Int) (b_2 : Bool) (x_8 x_9 x_10 x_11 x_12 x_13 : AL) (n_6 n_7 : Int) (s_1 : ByteArray) (S1 : St),R (.tup [.agg (ps x_7 n_4 n_5 b_2 x_8 x_9 x_10 x_11 x_12 x_13 n_6 n_7),.one (.str s_1)]) S1->(b8=true->26=26/\∃ r S',dAppend2 (tabOf Tryz.prog) 26 x7 (.sl (some S1.toks.length) 1 [.i 0,.str
 s_1,.str s,.str k_]) (S1.born (4,72,4))=some (r,S')/\∃ R,hk.1 75 [.agg (ps x_7 n_4 n_5 b_2 x_8 x_9 x_10 x_11 x_12 x_13 n_6 n_7),.one (.i 4),.one (.str k10)] S' [(90,(ps x_7 n_4 n_5 b_2 x_8 x_9 x_10 x_11 x_12 x_13 n_6 n_7)),(90,(ps xL1_0 nL1_1 nL1_2 bL1_3 xL1_4 xL1_5 xL1_6 xL1_7 xL1_8 xL1_9 nL1_10 nL1_11)),(90,(ps x n n_1 b x_1 x_2 x_3 x_4 x_5 x_6 n_2 n_3)),(90,(ps x_7 n_4 n_5
 b_2 x_8 x_9 x_10 x_11 x_12 x_13 n_6 n_7))] R/\∀ (b_3 : Bool) (S1 : St),R (.one (.bool b_3)) S1->((!b_3)=true->K (.exit 0) [(8,.v (.one (.bool true))),(7,.v (.one r)),(6,.v (.one (.bool false))),(5,.v (.one .nilsl)),(4,.loc 1 0),(2,.loc 0 0),(1,.v (.one (.bool b1)))] S1 [(90,(ps x_7 n_4 n_5 b_2 x_8 x_9 x_10 x_11 x_12 x_13 n_6 n_7)),(90,(ps xL1_0 nL1_1 nL1_2 bL1_3 xL1_4 xL1_5
 xL1_6 xL1_7 xL1_8 xL1_9 nL1_10 nL1_11)),(90,(ps x n n_1 b x_1 x_2 x_3 x_4 x_5 x_6 n_2 n_3)),(90,(ps x_7 n_4 n_5 b_2 x_8 x_9 x_10 x_11 x_12 x_13 n_6 n_7))])/\((!b_3)=false->in64 (n_4 + 1)/\K .normal [(8,.v (.one (.bool true))),(7,.v (.one r)),(6,.v (.one (.bool false))),(5,.v (.one .nilsl)),(4,.loc 1 0),(2,.loc 0 0),(1,.v (.one (.bool b1)))] S1 [(90,(ps x_7 (n_4 + 1) n_5 b_2 x_8
 x_9 x_10 x_11 x_12 x_13 n_6 n_7)),(90,(ps xL1_0 nL1_1 nL1_2 bL1_3 xL1_4 xL1_5 xL1_6 xL1_7 xL1_8 xL1_9 nL1_10 nL1_11)),(90,(ps x n n_1 b x_1 x_2 x_3 x_4 x_5 x_6 n_2 n_3)),(90,(ps x_7 n_4 n_5 b_2 x_8 x_9 x_10 x_11 x_12 x_13 n_6 n_7))]))/\(b8=false->26=26/\∃ r S',dAppend2 (tabOf Tryz.prog) 26 x7 (.sl (some S1.toks.length) 1 [.i 0,.str s_1,.str s,.str k_]) (S1.born (4,72,4))=some
 (r,S')/\∃ R,hk.1 75 [.agg (ps x_7 n_4 n_5 b_2 x_8 x_9 x_10 x_11 x_12 x_13 n_6 n_7),.one (.i 4),.one (.str k10)] S' [(90,(ps x_7 n_4 n_5 b_2 x_8 x_9 x_10 x_11 x_12 x_13 n_6 n_7)),(90,(ps xL1_0 nL1_1 nL1_2 bL1_3 xL1_4 xL1_5 xL1_6 xL1_7 xL1_8 xL1_9 nL1_10 nL1_11)),(90,(ps x n n_1 b x_1 x_2 x_3 x_4 x_5 x_6 n_2 n_3)),(90,(ps x_7 n_4 n_5 b_2 x_8 x_9 x_10 x_11 x_12 x_13 n_6 n_7))]
 R/\∀ (b_3 : Bool) (S1 : St),R (.one (.bool b_3)) S1->((!b_3)=true->K (.exit 0) [(8,.v (.one (.bool (decide (s=ByteArray.mk #[100,101,102,97,117,108,116]))))),(7,.v (.one r)),(6,.v (.one (.bool false))),(5,.v (.one .nilsl)),(4,.loc 1 0),(2,.loc 0 0),(1,.v (.one (.bool b1)))] S1 [(90,(ps x_7 n_4 n_5 b_2 x_8 x_9 x_10 x_11 x_12 x_13 n_6 n_7)),(90,(ps xL1_0 nL1_1 nL1_2 bL1_3 xL1_4
 xL1_5 xL1_6 xL1_7 xL1_8 xL1_9 nL1_10 nL1_11)),(90,(ps x n n_1 b x_1 x_2 x_3 x_4 x_5 x_6 n_2 n_3)),(90,(ps x_7 n_4 n_5 b_2 x_8 x_9 x_10 x_11 x_12 x_13 n_6 n_7))])/\((!b_3)=false->in64 (n_4 + 1)/\K .normal [(8,.v (.one (.bool (decide (s=ByteArray.mk #[100,101,102,97,117,108,116]))))),(7,.v (.one r)),(6,.v (.one (.bool false))),(5,.v (.one .nilsl)),(4,.loc 1 0),(2,.loc 0 0),(1,.v
 (.one (.bool b1)))] S1 [(90,(ps x_7 (n_4 + 1) n_5 b_2 x_8 x_9 x_10 x_11 x_12 x_13 n_6 n_7)),(90,(ps xL1_0 nL1_1 nL1_2 bL1_3 xL1_4 xL1_5 xL1_6 xL1_7 xL1_8 xL1_9 nL1_10 nL1_11)),(90,(ps x n n_1 b x_1 x_2 x_3 x_4 x_5 x_6 n_2 n_3)),(90,(ps x_7 n_4 n_5 b_2 x_8 x_9 x_10 x_11 x_12 x_13 n_6 n_7))])))/\(b_1=false->(decide (s=ByteArray.mk
 #[100,101,102,97,117,108,116])=true->((!b1)=true->∃ R,hk.1 110 [.agg (ps x n n_1 b x_1 x_2 x_3 x_4 x_5 x_6 n_2 n_3)] S1 [(90,(ps x n n_1 b x_1 x_2 x_3 x_4 x_5 x_6 n_2 n_3)),(90,(ps xL1_0 nL1_1 nL1_2 bL1_3 xL1_4 xL1_5 xL1_6 xL1_7 xL1_8 xL1_9 nL1_10 nL1_11)),(90,(ps x n n_1 b x_1 x_2 x_3 x_4 x_5 x_6 n_2 n_3))] R/\∀ (x_7 : AL) (n_4 n_5 : Int) (b_2 : Bool) (x_8 x_9 x_10 x_11 x_12
 x_13 : AL) (n_6 n_7 : Int) (S1 : St),R (.agg (ps x_7 n_4 n_5 b_2 x_8 x_9 x_10 x_11 x_12 x_13 n_6 n_7)) S1->(b8=true->26=26/\∃ r S',dAppend2 (tabOf Tryz.prog) 26 x7 (.sl (some S1.toks.length) 1 [.i 0,.str s,.str s,.str k_]) (S1.born (4,72,4))=some (r,S')/\∃ R,hk.1 75 [.agg (ps x_7 n_4 n_5 b_2 x_8 x_9 x_10 x_11 x_12 x_13 n_6 n_7),.one (.i 4),.one (.str k10)] S' [(90,(ps x_7 n_4
 n_5 b_2 x_8 x_9 x_10 x_11 x_12 x_13 n_6 n_7)),(90,(ps xL1_0 nL1_1 nL1_2 bL1_3 xL1_4 xL1_5 xL1_6 xL1_7 xL1_8 xL1_9 nL1_10 nL1_11)),(90,(ps x n n_1 b x_1 x_2 x_3 x_4 x_5 x_6 n_2 n_3))] R/\∀ (b_3 : Bool) (S1 : St),R (.one (.bool b_3)) S1->((!b_3)=true->K (.exit 0) [(8,.v (.one (.bool true))),(7,.v (.one r)),(6,.v (.one (.bool false))),(5,.v (.one .nilsl)),(4,.loc 1 0),(2,.loc 0
 0),(1,.v (.one (.bool b1)))] S1 [(90,(ps x_7 n_4 n_5 b_2 x_8 x_9 x_10 x_11 x_12 x_13 n_6 n_7)),(90,(ps xL1_0 nL1_1 nL1_2 bL1_3 xL1_4 xL1_5 xL1_6 xL1_7 xL1_8 xL1_9 nL1_10 nL1_11)),(90,(ps x n n_1 b x_1 x_2 x_3 x_4 x_5 x_6 n_2 n_3))])/\((!b_3)=false->in64 (n_4 + 1)/\K .normal [(8,.v (.one (.bool true))),(7,.v (.one r)),(6,.v (.one (.bool false))),(5,.v (.one .nilsl)),(4,.loc 1
 0),(2,.loc 0 0),(1,.v (.one (.bool b1)))] S1 [(90,(ps x_7 (n_4 + 1) n_5 b_2 x_8 x_9 x_10 x_11 x_12 x_13 n_6 n_7)),(90,(ps xL1_0 nL1_1 nL1_2 bL1_3 xL1_4 xL1_5 xL1_6 xL1_7 xL1_8 xL1_9 nL1_10 nL1_11)),(90,(ps x n n_1 b x_1 x_2 x_3 x_4 x_5 x_6 n_2 n_3))]))/\(b8=false->26=26/\∃ r S',dAppend2 (tabOf Tryz.prog) 26 x7 (.sl (some S1.toks.length) 1 [.i 0,.str s,.str s,.str k_]) (S1.born
 (4,72,4))=some (r,S')/\∃ R,hk.1 75 [.agg (ps x_7 n_4 n_5 b_2 x_8 x_9 x_10 x_11 x_12 x_13 n_6 n_7),.one (.i 4),.one (.str k10)] S' [(90,(ps x_7 n_4 n_5 b_2 x_8 x_9 x_10 x_11 x_12 x_13 n_6 n_7)),(90,(ps xL1_0 nL1_1 nL1_2 bL1_3 xL1_4 xL1_5 xL1_6 xL1_7 xL1_8 xL1_9 nL1_10 nL1_11)),(90,(ps x n n_1 b x_1 x_2 x_3 x_4 x_5 x_6 n_2 n_3))] R/\∀ (b_3 : Bool) (S1 : St),R (.one (.bool b_3))
 S1->((!b_3)=true->K (.exit 0) [(8,.v (.one (.bool (decide (s=ByteArray.mk #[100,101,102,97,117,108,116]))))),(7,.v (.one r)),(6,.v (.one (.bool false))),(5,.v (.one .nilsl)),(4,.loc 1 0),(2,.loc 0 0),(1,.v (.one (.bool b1)))] S1 [(90,(ps x_7 n_4 n_5 b_2 x_8 x_9 x_10 x_11 x_12 x_13 n_6 n_7)),(90,(ps xL1_0 nL1_1 nL1_2 bL1_3 xL1_4 xL1_5 xL1_6 xL1_7 xL1_8 xL1_9 nL1_10
 nL1_11)),(90,(ps x n n_1 b x_1 x_2 x_3 x_4 x_5 x_6 n_2 n_3))])/\((!b_3)=false->in64 (n_4 + 1)/\K .normal [(8,.v (.one (.bool (decide (s=ByteArray.mk #[100,101,102,97,117,108,116]))))),(7,.v (.one r)),(6,.v (.one (.bool false))),(5,.v (.one .nilsl)),(4,.loc 1 0),(2,.loc 0 0),(1,.v (.one (.bool b1)))] S1 [(90,(ps x_7 (n_4 + 1) n_5 b_2 x_8 x_9 x_10 x_11 x_12 x_13 n_6 n_7)),(90,(ps
 xL1_0 nL1_1 nL1_2 bL1_3 xL1_4 xL1_5 xL1_6 xL1_7 xL1_8 xL1_9 nL1_10 nL1_11)),(90,(ps x n n_1 b x_1 x_2 x_3 x_4 x_5 x_6 n_2 n_3))])))/\((!b1)=false->(b8=true->26=26/\∃ r S',dAppend2 (tabOf Tryz.prog) 26 x7 (.sl (some S1.toks.length) 1 [.i 0,.str s,.str s,.str k_]) (S1.born (4,72,4))=some (r,S')/\∃ R,hk.1 75 [.agg (ps x n n_1 b x_1 x_2 x_3 x_4 x_5 x_6 n_2 n_3),.one (.i 4),.one
 (.str k10)] S' [(90,(ps x n n_1 b x_1 x_2 x_3 x_4 x_5 x_6 n_2 n_3)),(90,(ps xL1_0 nL1_1 nL1_2 bL1_3 xL1_4 xL1_5 xL1_6 xL1_7 xL1_8 xL1_9 nL1_10 nL1_11)),(90,(ps x n n_1 b x_1 x_2 x_3 x_4 x_5 x_6 n_2 n_3))] R/\∀ (b_2 : Bool) (S1 : St),R (.one (.bool b_2)) S1->((!b_2)=true->K (.exit 0) [(8,.v (.one (.bool true))),(7,.v (.one r)),(6,.v (.one (.bool false))),(5,.v (.one
 .nilsl)),(4,.loc 1 0),(2,.loc 0 0),(1,.v (.one (.bool b1)))] S1 [(90,(ps x n n_1 b x_1 x_2 x_3 x_4 x_5 x_6 n_2 n_3)),(90,(ps xL1_0 nL1_1 nL1_2 bL1_3 xL1_4 xL1_5 xL1_6 xL1_7 xL1_8 xL1_9 nL1_10 nL1_11)),(90,(ps x n n_1 b x_1 x_2 x_3 x_4 x_5 x_6 n_2 n_3))])/\((!b_2)=false->in64 (n + 1)/\K .normal [(8,.v (.one (.bool true))),(7,.v (.one r)),(6,.v (.one (.bool false))),(5,.v (.one
 .nilsl)),(4,.loc 1 0),(2,.loc 0 0),(1,.v (.one (.bool b1)))] S1 [(90,(ps x (n + 1) n_1 b x_1 x_2 x_3 x_4 x_5 x_6 n_2 n_3)),(90,(ps xL1_0 nL1_1 nL1_2 bL1_3 xL1_4 xL1_5 xL1_6 xL1_7 xL1_8 xL1_9 nL1_10 nL1_11)),(90,(ps x n n_1 b x_1 x_2 x_3 x_4 x_5 x_6 n_2 n_3))]))/\(b8=false->26=26/\∃ r S',dAppend2 (tabOf Tryz.prog) 26 x7 (.sl (some S1.toks.length) 1 [.i 0,.str s,.str s,.str k_])
 (S1.born (4,72,4))=some (r,S')/\∃ R,hk.1 75 [.agg (ps x n n_1 b x_1 x_2 x_3 x_4 x_5 x_6 n_2 n_3),.one (.i 4),.one (.str k10)] S' [(90,(ps x n n_1 b x_1 x_2 x_3 x_4 x_5 x_6 n_2 n_3)),(90,(ps xL1_0 nL1_1 nL1_2 bL1_3 xL1_4 xL1_5 xL1_6 xL1_7 xL1_8 xL1_9 nL1_10 nL1_11)),(90,(ps x n n_1 b x_1 x_2 x_3 x_4 x_5 x_6 n_2 n_3))] R/\∀ (b_2 : Bool) (S1 : St),R (.one (.bool b_2))
 S1->((!b_2)=true->K (.exit 0) [(8,.v (.one (.bool (decide (s=ByteArray.mk #[100,101,102,97,117,108,116]))))),(7,.v (.one r)),(6,.v (.one (.bool false))),(5,.v (.one .nilsl)),(4,.loc 1 0),(2,.loc 0 0),(1,.v (.one (.bool b1)))] S1 [(90,(ps x n n_1 b x_1 x_2 x_3 x_4 x_5 x_6 n_2 n_3)),(90,(ps xL1_0 nL1_1 nL1_2 bL1_3 xL1_4 xL1_5 xL1_6 xL1_7 xL1_8 xL1_9 nL1_10 nL1_11)),(90,(ps x n
 n_1 b x_1 x_2 x_3 x_4 x_5 x_6 n_2 n_3))])/\((!b_2)=false->in64 (n + 1)/\K .normal [(8,.v (.one (.bool (decide (s=ByteArray.mk #[100,101,102,97,117,108,116]))))),(7,.v (.one r)),(6,.v (.one (.bool false))),(5,.v (.one .nilsl)),(4,.loc 1 0),(2,.loc 0 0),(1,.v (.one (.bool b1)))] S1 [(90,(ps x (n + 1) n_1 b x_1 x_2 x_3 x_4 x_5 x_6 n_2 n_3)),(90,(ps xL1_0 nL1_1 nL1_2 bL1_3 xL1_4
 xL1_5 xL1_6 xL1_7 xL1_8 xL1_9 nL1_10 nL1_11)),(90,(ps x n n_1 b x_1 x_2 x_3 x_4 x_5 x_6 n_2 n_3))]))))/\(decide (s=ByteArray.mk #[100,101,102,97,117,108,116])=false->(b8=true->26=26/\∃ r S',dAppend2 (tabOf Tryz.prog) 26 x7 (.sl (some S1.toks.length) 1 [.i 0,.str s,.str s,.str k_]) (S1.born (4,72,4))=some (r,S')/\∃ R,hk.1 75 [.agg (ps x n n_1 b x_1 x_2 x_3 x_4 x_5 x_6 n_2
 n_3),.one (.i 4),.one (.str k10)] S' [(90,(ps x n n_1 b x_1 x_2 x_3 x_4 x_5 x_6 n_2 n_3)),(90,(ps xL1_0 nL1_1 nL1_2 bL1_3 xL1_4 xL1_5 xL1_6 xL1_7 xL1_8 xL1_9 nL1_10 nL1_11)),(90,(ps x n n_1 b x_1 x_2 x_3 x_4 x_5 x_6 n_2 n_3))] R/\∀ (b_2 : Bool) (S1 : St),R (.one (.bool b_2)) S1->((!b_2)=true->K (.exit 0) [(8,.v (.one (.bool true))),(7,.v (.one r)),(6,.v (.one (.bool
 false))),(5,.v (.one .nilsl)),(4,.loc 1 0),(2,.loc 0 0),(1,.v (.one (.bool b1)))] S1 [(90,(ps x n n_1 b x_1 x_2 x_3 x_4 x_5 x_6 n_2 n_3)),(90,(ps xL1_0 nL1_1 nL1_2 bL1_3 xL1_4 xL1_5 xL1_6 xL1_7 xL1_8 xL1_9 nL1_10 nL1_11)),(90,(ps x n n_1 b x_1 x_2 x_3 x_4 x_5 x_6 n_2 n_3))])/\((!b_2)=false->in64 (n + 1)/\K .normal [(8,.v (.one (.bool true))),(7,.v (.one r)),(6,.v (.one (.bool
 false))),(5,.v (.one .nilsl)),(4,.loc 1 0),(2,.loc 0 0),(1,.v (.one (.bool b1)))] S1 [(90,(ps x (n + 1) n_1 b x_1 x_2 x_3 x_4 x_5 x_6 n_2 n_3)),(90,(ps xL1_0 nL1_1 nL1_2 bL1_3 xL1_4 xL1_5 xL1_6 xL1_7 xL1_8 xL1_9 nL1_10 nL1_11)),(90,(ps x n n_1 b x_1 x_2 x_3 x_4 x_5 x_6 n_2 n_3))]))/\(b8=false->26=26/\∃ r S',dAppend2 (tabOf Tryz.prog) 26 x7 (.sl (some S1.toks.length) 1 [.i
 0,.str s,.str s,.str k_]) (S1.born (4,72,4))=some (r,S')/\∃ R,hk.1 75 [.agg (ps x n n_1 b x_1 x_2 x_3 x_4 x_5 x_6 n_2 n_3),.one (.i 4),.one (.str k10)] S' [(90,(ps x n n_1 b x_1 x_2 x_3 x_4 x_5 x_6 n_2 n_3)),(90,(ps xL1_0 nL1_1 nL1_2 bL1_3 xL1_4 xL1_5 xL1_6 xL1_7 xL1_8 xL1_9 nL1_10 nL1_11)),(90,(ps x n n_1 b x_1 x_2 x_3 x_4 x_5 x_6 n_2 n_3))] R/\∀ (b_2 : Bool) (S1 : St),R (.one
 (.bool b_2)) S1->((!b_2)=true->K (.exit 0) [(8,.v (.one (.bool (decide (s=ByteArray.mk #[100,101,102,97,117,108,116]))))),(7,.v (.one r)),(6,.v (.one (.bool false))),(5,.v (.one .nilsl)),(4,.loc 1 0),(2,.loc 0 0),(1,.v (.one (.bool b1)))] S1 [(90,(ps x n n_1 b x_1 x_2 x_3 x_4 x_5 x_6 n_2 n_3)),(90,(ps xL1_0 nL1_1 nL1_2 bL1_3 xL1_4 xL1_5 xL1_6 xL1_7 xL1_8 xL1_9 nL1_10
 nL1_11)),(90,(ps x n n_1 b x_1 x_2 x_3 x_4 x_5 x_6 n_2 n_3))])/\((!b_2)=false->in64 (n + 1)/\K .normal [(8,.v (.one (.bool (decide (s=ByteArray.mk #[100,101,102,97,117,108,116]))))),(7,.v (.one r)),(6,.v (.one (.bool false))),(5,.v (.one .nilsl)),(4,.loc 1 0),(2,.loc 0 0),(1,.v (.one (.bool b1)))] S1 [(90,(ps x (n + 1) n_1 b x_1 x_2 x_3 x_4 x_5 x_6 n_2 n_3)),(90,(ps xL1_0 nL1_1
 nL1_2 bL1_3 xL1_4 xL1_5 xL1_6 xL1_7 xL1_8 xL1_9 nL1_10 nL1_11)),(90,(ps x n n_1 b x_1 x_2 x_3 x_4 x_5 x_6 n_2 n_3))])))))/\(decide (nL0_10 < 0)=false->K (.exit 0) [(8,.v (.one (.bool b8))),(7,.v (.one x7)),(6,.v (.one (.bool false))),(5,.v (.one .nilsl)),(4,.loc 1 0),(2,.loc 0 0),(1,.v (.one (.bool b1)))] S [(90,(ps xL0_0 nL0_1 nL0_2 bL0_3 xL0_4 xL0_5 xL0_6 xL0_7 xL0_8 xL0_9
 nL0_10 nL0_11)),(90,(ps xL1_0 nL1_1 nL1_2 bL1_3 xL1_4 xL1_5 xL1_6 xL1_7 xL1_8 xL1_9 nL1_10
 nL1_11))]))
 := by intros; kernel_rfl
theorem x105_0 : ∀ (hk : Hk) (plans : Nat->Plan) (b1 : Bool) (S : St) (Q : AV->St->Prop) (b8 : Bool) (x7 xL0_0 : AL) (nL0_1 nL0_2 : Int) (bL0_3 : Bool) (xL0_4 xL0_5 xL0_6 xL0_7 xL0_8 xL0_9 : AL) (nL0_10 nL0_11 : Int) (xL1_0 : AL) (nL1_1 nL1_2 : Int) (bL1_3 : Bool) (xL1_4 xL1_5 xL1_6 xL1_7 xL1_8 xL1_9 : AL) (nL1_10 nL1_11 : Int) (S_1 : St),wCode.wEx true hk Tryz.prog (tabOf
 Tryz.prog) 71 plans 1000 (.exit 0) [.blk 0,.seq (codeOf Tryz.prog 105 [1,1,1,1,1])] (wEnd (tabOf Tryz.prog) Tryz.f105 false S.boxes.length Q) [(8,.v (.one (.bool b8))),(7,.v (.one x7)),(6,.v (.one (.bool false))),(5,.v (.one .nilsl)),(4,.loc 1 0),(2,.loc 0 0),(1,.v (.one (.bool b1)))] S_1 [(90,(ps xL0_0 nL0_1 nL0_2 bL0_3 xL0_4 xL0_5 xL0_6 xL0_7 xL0_8 xL0_9 nL0_10
 nL0_11)),(90,(ps xL1_0 nL1_1 nL1_2 bL1_3 xL1_4 xL1_5 xL1_6 xL1_7 xL1_8 xL1_9 nL1_10 nL1_11))]=∃ R,hk.1 80 [.agg (ps xL0_0 nL0_1 nL0_2 bL0_3 xL0_4 xL0_5 xL0_6 xL0_7 xL0_8 xL0_9 nL0_10 nL0_11),.one (.str k11)] S_1 [(90,(ps xL0_0 nL0_1 nL0_2 bL0_3 xL0_4 xL0_5 xL0_6 xL0_7 xL0_8 xL0_9 nL0_10 nL0_11)),(90,(ps xL1_0 nL1_1 nL1_2 bL1_3 xL1_4 xL1_5 xL1_6 xL1_7 xL1_8 xL1_9 nL1_10
 nL1_11))] R/\∀ (x : AL) (n n_1 : Int) (b : Bool) (x_1 x_2 x_3 x_4 x_5 x_6 : AL) (n_2 n_3 : Int) (S1 : St),R (.agg (ps x n n_1 b x_1 x_2 x_3 x_4 x_5 x_6 n_2 n_3)) S1->true=true/\Q (.tup [.agg (ps x n n_1 b x_1 x_2 x_3 x_4 x_5 x_6 n_2 n_3),.one x7,.one (.bool b8)])
 S1
 := by intros; kernel_rfl
theorem v78 : ∀ (hk : Hk) (plans : Nat->Plan) (x0_0 : AL) (n0_1 n0_2 : Int) (b0_3 : Bool) (x0_4 x0_5 x0_6 x0_7 x0_8 x0_9 : AL) (n0_10 n0_11 : Int) (S : St) (Q : AV->St->Prop),wFn true hk Tryz.prog (tabOf Tryz.prog) plans false 78 [.agg (ps x0_0 n0_1 n0_2 b0_3 x0_4 x0_5 x0_6 x0_7 x0_8 x0_9 n0_10 n0_11)] S Q=(true=true/\∃ R,hk.1 82 [.agg (ps x0_0 n0_1 n0_2 b0_3 x0_4 x0_5 x0_6
 x0_7 x0_8 x0_9 n0_10 n0_11),.one (.str k12)] S [(90,(ps x0_0 n0_1 n0_2 b0_3 x0_4 x0_5 x0_6 x0_7 x0_8 x0_9 n0_10 n0_11)),(90,ps0)] R/\∀ (x : AL) (n n_1 : Int) (b : Bool) (x_1 x_2 x_3 x_4 x_5 x_6 : AL) (n_2 n_3 : Int) (S1 : St),R (.agg (ps x n n_1 b x_1 x_2 x_3 x_4 x_5 x_6 n_2 n_3)) S1->∃ R,hk.1 84 [.agg (ps x n n_1 b x_1 x_2 x_3 x_4 x_5 x_6 n_2 n_3),.one (.bool false)] S1
 [(90,(ps x0_0 n0_1 n0_2 b0_3 x0_4 x0_5 x0_6 x0_7 x0_8 x0_9 n0_10 n0_11)),(90,ps0)] R/\∀ (x : AL) (n n_4 : Int) (b : Bool) (x_7 x_8 x_9 x_10 x_11 x_12 : AL) (n_5 n_6 : Int) (s : ByteArray) (S1 : St),R (.tup [.agg (ps x n n_4 b x_7 x_8 x_9 x_10 x_11 x_12 n_5 n_6),.one (.str s)]) S1->∃ R,hk.1 80 [.agg (ps x n n_4 b x_7 x_8 x_9 x_10 x_11 x_12 n_5 n_6),.one (.str k13)] S1 [(90,(ps
 x0_0 n0_1 n0_2 b0_3 x0_4 x0_5 x0_6 x0_7 x0_8 x0_9 n0_10 n0_11)),(90,ps0),(90,(ps x n n_4 b x_7 x_8 x_9 x_10 x_11 x_12 n_5 n_6))] R/\∀ (x_13 : AL) (n_7 n_8 : Int) (b_1 : Bool) (x_14 x_15 x_16 x_17 x_18 x_19 : AL) (n_9 n_10 : Int) (S1 : St),R (.agg (ps x_13 n_7 n_8 b_1 x_14 x_15 x_16 x_17 x_18 x_19 n_9 n_10)) S1->∃ R,hk.1 81 [.agg (ps x_13 n_7 n_8 b_1 x_14 x_15 x_16 x_17 x_18
 x_19 n_9 n_10)] S1 [(90,(ps x0_0 n0_1 n0_2 b0_3 x0_4 x0_5 x0_6 x0_7 x0_8 x0_9 n0_10 n0_11)),(90,ps0),(90,(ps x n n_4 b x_7 x_8 x_9 x_10 x_11 x_12 n_5 n_6))] R/\∀ (x_20 : AL) (n_11 n_12 : Int) (b_2 : Bool) (x_21 x_22 x_23 x_24 x_25 x_26 : AL) (n_13 n_14 : Int) (S1 : St),R (.agg (ps x_20 n_11 n_12 b_2 x_21 x_22 x_23 x_24 x_25 x_26 n_13 n_14)) S1->∃ R,hk.1 80 [.agg (ps x_20 n_11
 n_12 b_2 x_21 x_22 x_23 x_24 x_25 x_26 n_13 n_14),.one (.str k14)] S1 [(90,(ps x0_0 n0_1 n0_2 b0_3 x0_4 x0_5 x0_6 x0_7 x0_8 x0_9 n0_10 n0_11)),(90,ps0),(90,(ps x n n_4 b x_7 x_8 x_9 x_10 x_11 x_12 n_5 n_6))] R/\∀ (x : AL) (n n_15 : Int) (b : Bool) (x_27 x_28 x_29 x_30 x_31 x_32 : AL) (n_16 n_17 : Int) (S1 : St),R (.agg (ps x n n_15 b x_27 x_28 x_29 x_30 x_31 x_32 n_16 n_17))
 S1->∃ R,hk.1 83 [.agg (ps x n n_15 b x_27 x_28 x_29 x_30 x_31 x_32 n_16 n_17),.one (.i 1),.one (.str s)] S1 [(90,(ps x0_0 n0_1 n0_2 b0_3 x0_4 x0_5 x0_6 x0_7 x0_8 x0_9 n0_10 n0_11)),(90,ps0),(90,(ps x n n_15 b x_27 x_28 x_29 x_30 x_31 x_32 n_16 n_17))] R/\∀ (x : AL) (n n_18 : Int) (b : Bool) (x_33 x_34 x_35 x_36 x_37 x_38 : AL) (n_19 n_20 : Int) (S1 : St),R (.agg (ps x n n_18 b
 x_33 x_34 x_35 x_36 x_37 x_38 n_19 n_20)) S1->true=true/\Q (.tup [.agg (ps x n n_18 b x_33 x_34 x_35 x_36 x_37 x_38 n_19 n_20),.one (.str s)])
 S1)
 := by intros; kernel_rfl
theorem v79 : ∀ (hk : Hk) (plans : Nat->Plan) (x0_0 : AL) (n0_1 n0_2 : Int) (b0_3 : Bool) (x0_4 x0_5 x0_6 x0_7 x0_8 x0_9 : AL) (n0_10 n0_11 : Int) (S : St) (Q : AV->St->Prop),wFn true hk Tryz.prog (tabOf Tryz.prog) plans false 79 [.agg (ps x0_0 n0_1 n0_2 b0_3 x0_4 x0_5 x0_6 x0_7 x0_8 x0_9 n0_10 n0_11)] S Q=(true=true/\∃ R,hk.1 82 [.agg (ps x0_0 n0_1 n0_2 b0_3 x0_4 x0_5 x0_6
 x0_7 x0_8 x0_9 n0_10 n0_11),.one (.str k15)] S [(90,(ps x0_0 n0_1 n0_2 b0_3 x0_4 x0_5 x0_6 x0_7 x0_8 x0_9 n0_10 n0_11)),(90,ps0)] R/\∀ (x : AL) (n n_1 : Int) (b : Bool) (x_1 x_2 x_3 x_4 x_5 x_6 : AL) (n_2 n_3 : Int) (S1 : St),R (.agg (ps x n n_1 b x_1 x_2 x_3 x_4 x_5 x_6 n_2 n_3)) S1->∃ R,hk.1 84 [.agg (ps x n n_1 b x_1 x_2 x_3 x_4 x_5 x_6 n_2 n_3),.one (.bool false)] S1
 [(90,(ps x0_0 n0_1 n0_2 b0_3 x0_4 x0_5 x0_6 x0_7 x0_8 x0_9 n0_10 n0_11)),(90,ps0)] R/\∀ (x : AL) (n n_4 : Int) (b : Bool) (x_7 x_8 x_9 x_10 x_11 x_12 : AL) (n_5 n_6 : Int) (s : ByteArray) (S1 : St),R (.tup [.agg (ps x n n_4 b x_7 x_8 x_9 x_10 x_11 x_12 n_5 n_6),.one (.str s)]) S1->∃ R,hk.1 80 [.agg (ps x n n_4 b x_7 x_8 x_9 x_10 x_11 x_12 n_5 n_6),.one (.str k1)] S1 [(90,(ps
 x0_0 n0_1 n0_2 b0_3 x0_4 x0_5 x0_6 x0_7 x0_8 x0_9 n0_10 n0_11)),(90,ps0),(90,(ps x n n_4 b x_7 x_8 x_9 x_10 x_11 x_12 n_5 n_6))] R/\∀ (x_13 : AL) (n_7 n_8 : Int) (b_1 : Bool) (x_14 x_15 x_16 x_17 x_18 x_19 : AL) (n_9 n_10 : Int) (S1 : St),R (.agg (ps x_13 n_7 n_8 b_1 x_14 x_15 x_16 x_17 x_18 x_19 n_9 n_10)) S1->∃ R,hk.1 80 [.agg (ps x_13 n_7 n_8 b_1 x_14 x_15 x_16 x_17 x_18
 x_19 n_9 n_10),.one (.str k2)] S1 [(90,(ps x0_0 n0_1 n0_2 b0_3 x0_4 x0_5 x0_6 x0_7 x0_8 x0_9 n0_10 n0_11)),(90,ps0),(90,(ps x n n_4 b x_7 x_8 x_9 x_10 x_11 x_12 n_5 n_6))] R/\∀ (x_20 : AL) (n_11 n_12 : Int) (b_2 : Bool) (x_21 x_22 x_23 x_24 x_25 x_26 : AL) (n_13 n_14 : Int) (S1 : St),R (.agg (ps x_20 n_11 n_12 b_2 x_21 x_22 x_23 x_24 x_25 x_26 n_13 n_14)) S1->∃ R,hk.1 80 [.agg
 (ps x_20 n_11 n_12 b_2 x_21 x_22 x_23 x_24 x_25 x_26 n_13 n_14),.one (.str k8)] S1 [(90,(ps x0_0 n0_1 n0_2 b0_3 x0_4 x0_5 x0_6 x0_7 x0_8 x0_9 n0_10 n0_11)),(90,ps0),(90,(ps x n n_4 b x_7 x_8 x_9 x_10 x_11 x_12 n_5 n_6))] R/\∀ (x : AL) (n n_15 : Int) (b : Bool) (x_27 x_28 x_29 x_30 x_31 x_32 : AL) (n_16 n_17 : Int) (S1 : St),R (.agg (ps x n n_15 b x_27 x_28 x_29 x_30 x_31 x_32
 n_16 n_17)) S1->∃ R,hk.1 82 [.agg (ps x n n_15 b x_27 x_28 x_29 x_30 x_31 x_32 n_16 n_17),.one (.str k16)] S1 [(90,(ps x0_0 n0_1 n0_2 b0_3 x0_4 x0_5 x0_6 x0_7 x0_8 x0_9 n0_10 n0_11)),(90,ps0),(90,(ps x n n_15 b x_27 x_28 x_29 x_30 x_31 x_32 n_16 n_17))] R/\∀ (x_33 : AL) (n_18 n_19 : Int) (b_3 : Bool) (x_34 x_35 x_36 x_37 x_38 x_39 : AL) (n_20 n_21 : Int) (S1 : St),R (.agg (ps
 x_33 n_18 n_19 b_3 x_34 x_35 x_36 x_37 x_38 x_39 n_20 n_21)) S1->∃ R,hk.1 81 [.agg (ps x_33 n_18 n_19 b_3 x_34 x_35 x_36 x_37 x_38 x_39 n_20 n_21)] S1 [(90,(ps x0_0 n0_1 n0_2 b0_3 x0_4 x0_5 x0_6 x0_7 x0_8 x0_9 n0_10 n0_11)),(90,ps0),(90,(ps x n n_15 b x_27 x_28 x_29 x_30 x_31 x_32 n_16 n_17))] R/\∀ (x : AL) (n n_22 : Int) (b : Bool) (x_40 x_41 x_42 x_43 x_44 x_45 : AL) (n_23
 n_24 : Int) (S1 : St),R (.agg (ps x n n_22 b x_40 x_41 x_42 x_43 x_44 x_45 n_23 n_24)) S1->∃ R,hk.1 80 [.agg (ps x n n_22 b x_40 x_41 x_42 x_43 x_44 x_45 n_23 n_24),.one (.str k14)] S1 [(90,(ps x0_0 n0_1 n0_2 b0_3 x0_4 x0_5 x0_6 x0_7 x0_8 x0_9 n0_10 n0_11)),(90,ps0),(90,(ps x n n_22 b x_40 x_41 x_42 x_43 x_44 x_45 n_23 n_24))] R/\∀ (x_46 : AL) (n_25 n_26 : Int) (b_4 : Bool)
 (x_47 x_48 x_49 x_50 x_51 x_52 : AL) (n_27 n_28 : Int) (S1 : St),R (.agg (ps x_46 n_25 n_26 b_4 x_47 x_48 x_49 x_50 x_51 x_52 n_27 n_28)) S1->∃ R,hk.1 80 [.agg (ps x_46 n_25 n_26 b_4 x_47 x_48 x_49 x_50 x_51 x_52 n_27 n_28),.one (.str k11)] S1 [(90,(ps x0_0 n0_1 n0_2 b0_3 x0_4 x0_5 x0_6 x0_7 x0_8 x0_9 n0_10 n0_11)),(90,ps0),(90,(ps x n n_22 b x_40 x_41 x_42 x_43 x_44 x_45 n_23
 n_24))] R/\∀ (x : AL) (n n_29 : Int) (b : Bool) (x_53 x_54 x_55 x_56 x_57 x_58 : AL) (n_30 n_31 : Int) (S1 : St),R (.agg (ps x n n_29 b x_53 x_54 x_55 x_56 x_57 x_58 n_30 n_31)) S1->∃ R,hk.1 83 [.agg (ps x n n_29 b x_53 x_54 x_55 x_56 x_57 x_58 n_30 n_31),.one (.i 2),.one (.str s)] S1 [(90,(ps x0_0 n0_1 n0_2 b0_3 x0_4 x0_5 x0_6 x0_7 x0_8 x0_9 n0_10 n0_11)),(90,ps0),(90,(ps x n
 n_29 b x_53 x_54 x_55 x_56 x_57 x_58 n_30 n_31))] R/\∀ (x : AL) (n n_32 : Int) (b : Bool) (x_59 x_60 x_61 x_62 x_63 x_64 : AL) (n_33 n_34 : Int) (S1 : St),R (.agg (ps x n n_32 b x_59 x_60 x_61 x_62 x_63 x_64 n_33 n_34)) S1->true=true/\Q (.tup [.agg (ps x n n_32 b x_59 x_60 x_61 x_62 x_63 x_64 n_33 n_34),.one (.str s)])
 S1)
 := by intros; kernel_rfl
theorem v65 : ∀ (hk : Hk) (plans : Nat->Plan) (x0_0 : AL) (n0_1 n0_2 : Int) (b0_3 : Bool) (x0_4 x0_5 x0_6 x0_7 x0_8 x0_9 : AL) (n0_10 n0_11 : Int) (S : St) (Q : AV->St->Prop),wFn true hk Tryz.prog (tabOf Tryz.prog) plans false 65 [.agg (ps x0_0 n0_1 n0_2 b0_3 x0_4 x0_5 x0_6 x0_7 x0_8 x0_9 n0_10 n0_11)] S Q=(true=true/\((!b0_3)=true->∃ R,hk.1 75 [.agg (ps x0_0 n0_1 n0_2 b0_3
 x0_4 x0_5 x0_6 x0_7 x0_8 x0_9 n0_10 n0_11),.one (.i 1),.one (.str k17)] S [(90,(ps x0_0 n0_1 n0_2 b0_3 x0_4 x0_5 x0_6 x0_7 x0_8 x0_9 n0_10 n0_11)),(90,ps0)] R/\∀ (b : Bool) (S1 : St),R (.one (.bool b)) S1->(b=true->∃ R,hk.1 76 [.agg (ps x0_0 n0_1 n0_2 b0_3 x0_4 x0_5 x0_6 x0_7 x0_8 x0_9 n0_10 n0_11)] S1 [(90,(ps x0_0 n0_1 n0_2 b0_3 x0_4 x0_5 x0_6 x0_7 x0_8 x0_9 n0_10
 n0_11)),(90,ps0)] R/\∀ (x : AL) (n n_1 : Int) (b : Bool) (x_1 x_2 x_3 x_4 x_5 x_6 : AL) (n_2 n_3 : Int) (S1 : St),R (.agg (ps x n n_1 b x_1 x_2 x_3 x_4 x_5 x_6 n_2 n_3)) S1->true=true/\Q (.agg (ps x n n_1 b x_1 x_2 x_3 x_4 x_5 x_6 n_2 n_3)) S1)/\(b=false->((!b0_3)=true->∃ R,hk.1 75 [.agg (ps x0_0 n0_1 n0_2 b0_3 x0_4 x0_5 x0_6 x0_7 x0_8 x0_9 n0_10 n0_11),.one (.i 1),.one (.str
 k18)] S1 [(90,(ps x0_0 n0_1 n0_2 b0_3 x0_4 x0_5 x0_6 x0_7 x0_8 x0_9 n0_10 n0_11)),(90,ps0)] R/\∀ (b : Bool) (S1 : St),R (.one (.bool b)) S1->(b=true->∃ R,hk.1 77 [.agg (ps x0_0 n0_1 n0_2 b0_3 x0_4 x0_5 x0_6 x0_7 x0_8 x0_9 n0_10 n0_11)] S1 [(90,(ps x0_0 n0_1 n0_2 b0_3 x0_4 x0_5 x0_6 x0_7 x0_8 x0_9 n0_10 n0_11)),(90,ps0)] R/\∀ (x : AL) (n n_1 : Int) (b : Bool) (x_1 x_2 x_3 x_4
 x_5 x_6 : AL) (n_2 n_3 : Int) (S1 : St),R (.agg (ps x n n_1 b x_1 x_2 x_3 x_4 x_5 x_6 n_2 n_3)) S1->true=true/\Q (.agg (ps x n n_1 b x_1 x_2 x_3 x_4 x_5 x_6 n_2 n_3)) S1)/\(b=false->∃ R,hk.1 75 [.agg (ps x0_0 n0_1 n0_2 b0_3 x0_4 x0_5 x0_6 x0_7 x0_8 x0_9 n0_10 n0_11),.one (.i 1),.one (.str k12)] S1 [(90,(ps x0_0 n0_1 n0_2 b0_3 x0_4 x0_5 x0_6 x0_7 x0_8 x0_9 n0_10
 n0_11)),(90,ps0)] R/\∀ (b : Bool) (S1 : St),R (.one (.bool b)) S1->(b=true->∃ R,hk.1 78 [.agg (ps x0_0 n0_1 n0_2 b0_3 x0_4 x0_5 x0_6 x0_7 x0_8 x0_9 n0_10 n0_11)] S1 [(90,(ps x0_0 n0_1 n0_2 b0_3 x0_4 x0_5 x0_6 x0_7 x0_8 x0_9 n0_10 n0_11)),(90,ps0)] R/\∀ (x : AL) (n n_1 : Int) (b : Bool) (x_1 x_2 x_3 x_4 x_5 x_6 : AL) (n_2 n_3 : Int) (s : ByteArray) (S1 : St),R (.tup [.agg (ps x
 n n_1 b x_1 x_2 x_3 x_4 x_5 x_6 n_2 n_3),.one (.str s)]) S1->true=true/\Q (.agg (ps x n n_1 b x_1 x_2 x_3 x_4 x_5 x_6 n_2 n_3)) S1)/\(b=false->∃ R,hk.1 75 [.agg (ps x0_0 n0_1 n0_2 b0_3 x0_4 x0_5 x0_6 x0_7 x0_8 x0_9 n0_10 n0_11),.one (.i 1),.one (.str k15)] S1 [(90,(ps x0_0 n0_1 n0_2 b0_3 x0_4 x0_5 x0_6 x0_7 x0_8 x0_9 n0_10 n0_11)),(90,ps0)] R/\∀ (b : Bool) (S1 : St),R (.one
 (.bool b)) S1->(b=true->∃ R,hk.1 79 [.agg (ps x0_0 n0_1 n0_2 b0_3 x0_4 x0_5 x0_6 x0_7 x0_8 x0_9 n0_10 n0_11)] S1 [(90,(ps x0_0 n0_1 n0_2 b0_3 x0_4 x0_5 x0_6 x0_7 x0_8 x0_9 n0_10 n0_11)),(90,ps0)] R/\∀ (x : AL) (n n_1 : Int) (b : Bool) (x_1 x_2 x_3 x_4 x_5 x_6 : AL) (n_2 n_3 : Int) (s : ByteArray) (S1 : St),R (.tup [.agg (ps x n n_1 b x_1 x_2 x_3 x_4 x_5 x_6 n_2 n_3),.one (.str
 s)]) S1->true=true/\Q (.agg (ps x n n_1 b x_1 x_2 x_3 x_4 x_5 x_6 n_2 n_3)) S1)/\(b=false->∃ R,hk.1 75 [.agg (ps x0_0 n0_1 n0_2 b0_3 x0_4 x0_5 x0_6 x0_7 x0_8 x0_9 n0_10 n0_11),.one (.i 1),.one (.str k19)] S1 [(90,(ps x0_0 n0_1 n0_2 b0_3 x0_4 x0_5 x0_6 x0_7 x0_8 x0_9 n0_10 n0_11)),(90,ps0)] R/\∀ (b : Bool) (S1 : St),R (.one (.bool b)) S1->(b=true->∃ R,hk.1 82 [.agg (ps x0_0 n0_1
 n0_2 b0_3 x0_4 x0_5 x0_6 x0_7 x0_8 x0_9 n0_10 n0_11),.one (.str k19)] S1 [(90,(ps x0_0 n0_1 n0_2 b0_3 x0_4 x0_5 x0_6 x0_7 x0_8 x0_9 n0_10 n0_11)),(90,ps0)] R/\∀ (x : AL) (n n_1 : Int) (b : Bool) (x_1 x_2 x_3 x_4 x_5 x_6 : AL) (n_2 n_3 : Int) (S1 : St),R (.agg (ps x n n_1 b x_1 x_2 x_3 x_4 x_5 x_6 n_2 n_3)) S1->∃ R,hk.1 80 [.agg (ps x n n_1 b x_1 x_2 x_3 x_4 x_5 x_6 n_2
 n_3),.one (.str k1)] S1 [(90,(ps x0_0 n0_1 n0_2 b0_3 x0_4 x0_5 x0_6 x0_7 x0_8 x0_9 n0_10 n0_11)),(90,ps0)] R/\∀ (x : AL) (n n_4 : Int) (b : Bool) (x_7 x_8 x_9 x_10 x_11 x_12 : AL) (n_5 n_6 : Int) (S1 : St),R (.agg (ps x n n_4 b x_7 x_8 x_9 x_10 x_11 x_12 n_5 n_6)) S1->∃ R,hk.1 81 [.agg (ps x n n_4 b x_7 x_8 x_9 x_10 x_11 x_12 n_5 n_6)] S1 [(90,(ps x0_0 n0_1 n0_2 b0_3 x0_4 x0_5
 x0_6 x0_7 x0_8 x0_9 n0_10 n0_11)),(90,ps0)] R/\∀ (x : AL) (n n_7 : Int) (b : Bool) (x_13 x_14 x_15 x_16 x_17 x_18 : AL) (n_8 n_9 : Int) (S1 : St),R (.agg (ps x n n_7 b x_13 x_14 x_15 x_16 x_17 x_18 n_8 n_9)) S1->∃ R,hk.1 80 [.agg (ps x n n_7 b x_13 x_14 x_15 x_16 x_17 x_18 n_8 n_9),.one (.str k2)] S1 [(90,(ps x0_0 n0_1 n0_2 b0_3 x0_4 x0_5 x0_6 x0_7 x0_8 x0_9 n0_10
 n0_11)),(90,ps0)] R/\∀ (x : AL) (n n_10 : Int) (b : Bool) (x_19 x_20 x_21 x_22 x_23 x_24 : AL) (n_11 n_12 : Int) (S1 : St),R (.agg (ps x n n_10 b x_19 x_20 x_21 x_22 x_23 x_24 n_11 n_12)) S1->∃ R,hk.1 80 [.agg (ps x n n_10 b x_19 x_20 x_21 x_22 x_23 x_24 n_11 n_12),.one (.str k14)] S1 [(90,(ps x0_0 n0_1 n0_2 b0_3 x0_4 x0_5 x0_6 x0_7 x0_8 x0_9 n0_10 n0_11)),(90,ps0),(90,(ps x n
 n_10 b x_19 x_20 x_21 x_22 x_23 x_24 n_11 n_12))] R/\∀ (x_25 : AL) (n_13 n_14 : Int) (b_1 : Bool) (x_26 x_27 x_28 x_29 x_30 x_31 : AL) (n_15 n_16 : Int) (S1 : St),R (.agg (ps x_25 n_13 n_14 b_1 x_26 x_27 x_28 x_29 x_30 x_31 n_15 n_16)) S1->∃ R,hk.1 83 [.agg (ps x_25 n_13 n_14 b_1 x_26 x_27 x_28 x_29 x_30 x_31 n_15 n_16),.one (.i 4),.one (.str k_)] S1 [(90,(ps x0_0 n0_1 n0_2
 b0_3 x0_4 x0_5 x0_6 x0_7 x0_8 x0_9 n0_10 n0_11)),(90,ps0),(90,(ps x n n_10 b x_19 x_20 x_21 x_22 x_23 x_24 n_11 n_12))] R/\∀ (x : AL) (n n_17 : Int) (b : Bool) (x_32 x_33 x_34 x_35 x_36 x_37 : AL) (n_18 n_19 : Int) (S1 : St),R (.agg (ps x n n_17 b x_32 x_33 x_34 x_35 x_36 x_37 n_18 n_19)) S1->true=true/\Q (.agg (ps x n n_17 b x_32 x_33 x_34 x_35 x_36 x_37 n_18 n_19))
 S1)/\(b=false->∃ R,hk.1 75 [.agg (ps x0_0 n0_1 n0_2 b0_3 x0_4 x0_5 x0_6 x0_7 x0_8 x0_9 n0_10 n0_11),.one (.i 1),.one (.str k20)] S1 [(90,(ps x0_0 n0_1 n0_2 b0_3 x0_4 x0_5 x0_6 x0_7 x0_8 x0_9 n0_10 n0_11)),(90,ps0)] R/\∀ (b : Bool) (S1 : St),R (.one (.bool b)) S1->(b=true->∃ R,hk.1 82 [.agg (ps x0_0 n0_1 n0_2 b0_3 x0_4 x0_5 x0_6 x0_7 x0_8 x0_9 n0_10 n0_11),.one (.str k20)] S1
 [(90,(ps x0_0 n0_1 n0_2 b0_3 x0_4 x0_5 x0_6 x0_7 x0_8 x0_9 n0_10 n0_11)),(90,ps0)] R/\∀ (x : AL) (n n_1 : Int) (b : Bool) (x_1 x_2 x_3 x_4 x_5 x_6 : AL) (n_2 n_3 : Int) (S1 : St),R (.agg (ps x n n_1 b x_1 x_2 x_3 x_4 x_5 x_6 n_2 n_3)) S1->∃ R,hk.1 81 [.agg (ps x n n_1 b x_1 x_2 x_3 x_4 x_5 x_6 n_2 n_3)] S1 [(90,(ps x0_0 n0_1 n0_2 b0_3 x0_4 x0_5 x0_6 x0_7 x0_8 x0_9 n0_10
 n0_11)),(90,ps0)] R/\∀ (x : AL) (n n_4 : Int) (b : Bool) (x_7 x_8 x_9 x_10 x_11 x_12 : AL) (n_5 n_6 : Int) (S1 : St),R (.agg (ps x n n_4 b x_7 x_8 x_9 x_10 x_11 x_12 n_5 n_6)) S1->∃ R,hk.1 80 [.agg (ps x n n_4 b x_7 x_8 x_9 x_10 x_11 x_12 n_5 n_6),.one (.str k14)] S1 [(90,(ps x0_0 n0_1 n0_2 b0_3 x0_4 x0_5 x0_6 x0_7 x0_8 x0_9 n0_10 n0_11)),(90,ps0)] R/\∀ (x : AL) (n n_7 : Int)
 (b : Bool) (x_13 x_14 x_15 x_16 x_17 x_18 : AL) (n_8 n_9 : Int) (S1 : St),R (.agg (ps x n n_7 b x_13 x_14 x_15 x_16 x_17 x_18 n_8 n_9)) S1->∃ R,hk.1 83 [.agg (ps x n n_7 b x_13 x_14 x_15 x_16 x_17 x_18 n_8 n_9),.one (.i 5),.one (.str k_)] S1 [(90,(ps x0_0 n0_1 n0_2 b0_3 x0_4 x0_5 x0_6 x0_7 x0_8 x0_9 n0_10 n0_11)),(90,ps0)] R/\∀ (x : AL) (n n_10 : Int) (b : Bool) (x_19 x_20 x_21
 x_22 x_23 x_24 : AL) (n_11 n_12 : Int) (S1 : St),R (.agg (ps x n n_10 b x_19 x_20 x_21 x_22 x_23 x_24 n_11 n_12)) S1->true=true/\Q (.agg (ps x n n_10 b x_19 x_20 x_21 x_22 x_23 x_24 n_11 n_12)) S1)/\(b=false->(b0_3=true->∃ R,hk.1 75 [.agg (ps x0_0 n0_1 n0_2 b0_3 x0_4 x0_5 x0_6 x0_7 x0_8 x0_9 n0_10 n0_11),.one (.i 1),.one (.str k21)] S1 [(90,(ps x0_0 n0_1 n0_2 b0_3 x0_4 x0_5
 x0_6 x0_7 x0_8 x0_9 n0_10 n0_11)),(90,ps0)] R/\∀ (b : Bool) (S1 : St),R (.one (.bool b)) S1->(b=true->∃ R,hk.1 82 [.agg (ps x0_0 n0_1 n0_2 b0_3 x0_4 x0_5 x0_6 x0_7 x0_8 x0_9 n0_10 n0_11),.one (.str k21)] S1 [(90,(ps x0_0 n0_1 n0_2 b0_3 x0_4 x0_5 x0_6 x0_7 x0_8 x0_9 n0_10 n0_11)),(90,ps0)] R/\∀ (x : AL) (n n_1 : Int) (b : Bool) (x_1 x_2 x_3 x_4 x_5 x_6 : AL) (n_2 n_3 : Int) (S1
 : St),R (.agg (ps x n n_1 b x_1 x_2 x_3 x_4 x_5 x_6 n_2 n_3)) S1->∃ R,hk.1 81 [.agg (ps x n n_1 b x_1 x_2 x_3 x_4 x_5 x_6 n_2 n_3)] S1 [(90,(ps x0_0 n0_1 n0_2 b0_3 x0_4 x0_5 x0_6 x0_7 x0_8 x0_9 n0_10 n0_11)),(90,ps0)] R/\∀ (x : AL) (n n_4 : Int) (b : Bool) (x_7 x_8 x_9 x_10 x_11 x_12 : AL) (n_5 n_6 : Int) (S1 : St),R (.agg (ps x n n_4 b x_7 x_8 x_9 x_10 x_11 x_12 n_5 n_6))
 S1->∃ R,hk.1 80 [.agg (ps x n n_4 b x_7 x_8 x_9 x_10 x_11 x_12 n_5 n_6),.one (.str k14)] S1 [(90,(ps x0_0 n0_1 n0_2 b0_3 x0_4 x0_5 x0_6 x0_7 x0_8 x0_9 n0_10 n0_11)),(90,ps0)] R/\∀ (x : AL) (n n_7 : Int) (b : Bool) (x_13 x_14 x_15 x_16 x_17 x_18 : AL) (n_8 n_9 : Int) (S1 : St),R (.agg (ps x n n_7 b x_13 x_14 x_15 x_16 x_17 x_18 n_8 n_9)) S1->∃ R,hk.1 83 [.agg (ps x n n_7 b x_13
 x_14 x_15 x_16 x_17 x_18 n_8 n_9),.one (.i 6),.one (.str k_)] S1 [(90,(ps x0_0 n0_1 n0_2 b0_3 x0_4 x0_5 x0_6 x0_7 x0_8 x0_9 n0_10 n0_11)),(90,ps0)] R/\∀ (x : AL) (n n_10 : Int) (b : Bool) (x_19 x_20 x_21 x_22 x_23 x_24 : AL) (n_11 n_12 : Int) (S1 : St),R (.agg (ps x n n_10 b x_19 x_20 x_21 x_22 x_23 x_24 n_11 n_12)) S1->true=true/\Q (.agg (ps x n n_10 b x_19 x_20 x_21 x_22 x_23
 x_24 n_11 n_12)) S1)/\(b=false->∃ R,hk.1 84 [.agg (ps x0_0 n0_1 n0_2 b0_3 x0_4 x0_5 x0_6 x0_7 x0_8 x0_9 n0_10 n0_11),.one (.bool false)] S1 [(90,(ps x0_0 n0_1 n0_2 b0_3 x0_4 x0_5 x0_6 x0_7 x0_8 x0_9 n0_10 n0_11)),(90,ps0)] R/\∀ (x : AL) (n n_1 : Int) (b : Bool) (x_1 x_2 x_3 x_4 x_5 x_6 : AL) (n_2 n_3 : Int) (s : ByteArray) (S1 : St),R (.tup [.agg (ps x n n_1 b x_1 x_2 x_3 x_4
 x_5 x_6 n_2 n_3),.one (.str s)]) S1->∃ R,hk.1 80 [.agg (ps x n n_1 b x_1 x_2 x_3 x_4 x_5 x_6 n_2 n_3),.one (.str k13)] S1 [(90,(ps x0_0 n0_1 n0_2 b0_3 x0_4 x0_5 x0_6 x0_7 x0_8 x0_9 n0_10 n0_11)),(90,ps0),(90,(ps x n n_1 b x_1 x_2 x_3 x_4 x_5 x_6 n_2 n_3))] R/\∀ (x_7 : AL) (n_4 n_5 : Int) (b_1 : Bool) (x_8 x_9 x_10 x_11 x_12 x_13 : AL) (n_6 n_7 : Int) (S1 : St),R (.agg (ps x_7
 n_4 n_5 b_1 x_8 x_9 x_10 x_11 x_12 x_13 n_6 n_7)) S1->∃ R,hk.1 81 [.agg (ps x_7 n_4 n_5 b_1 x_8 x_9 x_10 x_11 x_12 x_13 n_6 n_7)] S1 [(90,(ps x0_0 n0_1 n0_2 b0_3 x0_4 x0_5 x0_6 x0_7 x0_8 x0_9 n0_10 n0_11)),(90,ps0),(90,(ps x n n_1 b x_1 x_2 x_3 x_4 x_5 x_6 n_2 n_3))] R/\∀ (x_14 : AL) (n_8 n_9 : Int) (b_2 : Bool) (x_15 x_16 x_17 x_18 x_19 x_20 : AL) (n_10 n_11 : Int) (S1 : St),R
 (.agg (ps x_14 n_8 n_9 b_2 x_15 x_16 x_17 x_18 x_19 x_20 n_10 n_11)) S1->∃ R,hk.1 80 [.agg (ps x_14 n_8 n_9 b_2 x_15 x_16 x_17 x_18 x_19 x_20 n_10 n_11),.one (.str k14)] S1 [(90,(ps x0_0 n0_1 n0_2 b0_3 x0_4 x0_5 x0_6 x0_7 x0_8 x0_9 n0_10 n0_11)),(90,ps0),(90,(ps x n n_1 b x_1 x_2 x_3 x_4 x_5 x_6 n_2 n_3))] R/\∀ (x_21 : AL) (n_12 n_13 : Int) (b_3 : Bool) (x_22 x_23 x_24 x_25
 x_26 x_27 : AL) (n_14 n_15 : Int) (S1 : St),R (.agg (ps x_21 n_12 n_13 b_3 x_22 x_23 x_24 x_25 x_26 x_27 n_14 n_15)) S1->∃ R,hk.1 83 [.agg (ps x_21 n_12 n_13 b_3 x_22 x_23 x_24 x_25 x_26 x_27 n_14 n_15),.one (.i 3),.one (.str s)] S1 [(90,(ps x0_0 n0_1 n0_2 b0_3 x0_4 x0_5 x0_6 x0_7 x0_8 x0_9 n0_10 n0_11)),(90,ps0),(90,(ps x n n_1 b x_1 x_2 x_3 x_4 x_5 x_6 n_2 n_3))] R/\∀ (x :
 AL) (n n_16 : Int) (b : Bool) (x_28 x_29 x_30 x_31 x_32 x_33 : AL) (n_17 n_18 : Int) (S1 : St),R (.agg (ps x n n_16 b x_28 x_29 x_30 x_31 x_32 x_33 n_17 n_18)) S1->true=true/\Q (.agg (ps x n n_16 b x_28 x_29 x_30 x_31 x_32 x_33 n_17 n_18)) S1))/\(b0_3=false->∃ R,hk.1 84 [.agg (ps x0_0 n0_1 n0_2 b0_3 x0_4 x0_5 x0_6 x0_7 x0_8 x0_9 n0_10 n0_11),.one (.bool false)] S1 [(90,(ps x0_0
 n0_1 n0_2 b0_3 x0_4 x0_5 x0_6 x0_7 x0_8 x0_9 n0_10 n0_11)),(90,ps0)] R/\∀ (x : AL) (n n_1 : Int) (b : Bool) (x_1 x_2 x_3 x_4 x_5 x_6 : AL) (n_2 n_3 : Int) (s : ByteArray) (S1 : St),R (.tup [.agg (ps x n n_1 b x_1 x_2 x_3 x_4 x_5 x_6 n_2 n_3),.one (.str s)]) S1->∃ R,hk.1 80 [.agg (ps x n n_1 b x_1 x_2 x_3 x_4 x_5 x_6 n_2 n_3),.one (.str k13)] S1 [(90,(ps x0_0 n0_1 n0_2 b0_3 x0_4
 x0_5 x0_6 x0_7 x0_8 x0_9 n0_10 n0_11)),(90,ps0),(90,(ps x n n_1 b x_1 x_2 x_3 x_4 x_5 x_6 n_2 n_3))] R/\∀ (x_7 : AL) (n_4 n_5 : Int) (b_1 : Bool) (x_8 x_9 x_10 x_11 x_12 x_13 : AL) (n_6 n_7 : Int) (S1 : St),R (.agg (ps x_7 n_4 n_5 b_1 x_8 x_9 x_10 x_11 x_12 x_13 n_6 n_7)) S1->∃ R,hk.1 81 [.agg (ps x_7 n_4 n_5 b_1 x_8 x_9 x_10 x_11 x_12 x_13 n_6 n_7)] S1 [(90,(ps x0_0 n0_1 n0_2
 b0_3 x0_4 x0_5 x0_6 x0_7 x0_8 x0_9 n0_10 n0_11)),(90,ps0),(90,(ps x n n_1 b x_1 x_2 x_3 x_4 x_5 x_6 n_2 n_3))] R/\∀ (x_14 : AL) (n_8 n_9 : Int) (b_2 : Bool) (x_15 x_16 x_17 x_18 x_19 x_20 : AL) (n_10 n_11 : Int) (S1 : St),R (.agg (ps x_14 n_8 n_9 b_2 x_15 x_16 x_17 x_18 x_19 x_20 n_10 n_11)) S1->∃ R,hk.1 80 [.agg (ps x_14 n_8 n_9 b_2 x_15 x_16 x_17 x_18 x_19 x_20 n_10
 n_11),.one (.str k14)] S1 [(90,(ps x0_0 n0_1 n0_2 b0_3 x0_4 x0_5 x0_6 x0_7 x0_8 x0_9 n0_10 n0_11)),(90,ps0),(90,(ps x n n_1 b x_1 x_2 x_3 x_4 x_5 x_6 n_2 n_3))] R/\∀ (x_21 : AL) (n_12 n_13 : Int) (b_3 : Bool) (x_22 x_23 x_24 x_25 x_26 x_27 : AL) (n_14 n_15 : Int) (S1 : St),R (.agg (ps x_21 n_12 n_13 b_3 x_22 x_23 x_24 x_25 x_26 x_27 n_14 n_15)) S1->∃ R,hk.1 83 [.agg (ps x_21
 n_12 n_13 b_3 x_22 x_23 x_24 x_25 x_26 x_27 n_14 n_15),.one (.i 3),.one (.str s)] S1 [(90,(ps x0_0 n0_1 n0_2 b0_3 x0_4 x0_5 x0_6 x0_7 x0_8 x0_9 n0_10 n0_11)),(90,ps0),(90,(ps x n n_1 b x_1 x_2 x_3 x_4 x_5 x_6 n_2 n_3))] R/\∀ (x : AL) (n n_16 : Int) (b : Bool) (x_28 x_29 x_30 x_31 x_32 x_33 : AL) (n_17 n_18 : Int) (S1 : St),R (.agg (ps x n n_16 b x_28 x_29 x_30 x_31 x_32 x_33
 n_17 n_18)) S1->true=true/\Q (.agg (ps x n n_16 b x_28 x_29 x_30 x_31 x_32 x_33 n_17 n_18)) S1)))))))/\((!b0_3)=false->∃ R,hk.1 75 [.agg (ps x0_0 n0_1 n0_2 b0_3 x0_4 x0_5 x0_6 x0_7 x0_8 x0_9 n0_10 n0_11),.one (.i 1),.one (.str k12)] S1 [(90,(ps x0_0 n0_1 n0_2 b0_3 x0_4 x0_5 x0_6 x0_7 x0_8 x0_9 n0_10 n0_11)),(90,ps0)] R/\∀ (b : Bool) (S1 : St),R (.one (.bool b)) S1->(b=true->∃
 R,hk.1 78 [.agg (ps x0_0 n0_1 n0_2 b0_3 x0_4 x0_5 x0_6 x0_7 x0_8 x0_9 n0_10 n0_11)] S1 [(90,(ps x0_0 n0_1 n0_2 b0_3 x0_4 x0_5 x0_6 x0_7 x0_8 x0_9 n0_10 n0_11)),(90,ps0)] R/\∀ (x : AL) (n n_1 : Int) (b : Bool) (x_1 x_2 x_3 x_4 x_5 x_6 : AL) (n_2 n_3 : Int) (s : ByteArray) (S1 : St),R (.tup [.agg (ps x n n_1 b x_1 x_2 x_3 x_4 x_5 x_6 n_2 n_3),.one (.str s)]) S1->true=true/\Q
 (.agg (ps x n n_1 b x_1 x_2 x_3 x_4 x_5 x_6 n_2 n_3)) S1)/\(b=false->∃ R,hk.1 75 [.agg (ps x0_0 n0_1 n0_2 b0_3 x0_4 x0_5 x0_6 x0_7 x0_8 x0_9 n0_10 n0_11),.one (.i 1),.one (.str k15)] S1 [(90,(ps x0_0 n0_1 n0_2 b0_3 x0_4 x0_5 x0_6 x0_7 x0_8 x0_9 n0_10 n0_11)),(90,ps0)] R/\∀ (b : Bool) (S1 : St),R (.one (.bool b)) S1->(b=true->∃ R,hk.1 79 [.agg (ps x0_0 n0_1 n0_2 b0_3 x0_4 x0_5
 x0_6 x0_7 x0_8 x0_9 n0_10 n0_11)] S1 [(90,(ps x0_0 n0_1 n0_2 b0_3 x0_4 x0_5 x0_6 x0_7 x0_8 x0_9 n0_10 n0_11)),(90,ps0)] R/\∀ (x : AL) (n n_1 : Int) (b : Bool) (x_1 x_2 x_3 x_4 x_5 x_6 : AL) (n_2 n_3 : Int) (s : ByteArray) (S1 : St),R (.tup [.agg (ps x n n_1 b x_1 x_2 x_3 x_4 x_5 x_6 n_2 n_3),.one (.str s)]) S1->true=true/\Q (.agg (ps x n n_1 b x_1 x_2 x_3 x_4 x_5 x_6 n_2 n_3))
 S1)/\(b=false->∃ R,hk.1 75 [.agg (ps x0_0 n0_1 n0_2 b0_3 x0_4 x0_5 x0_6 x0_7 x0_8 x0_9 n0_10 n0_11),.one (.i 1),.one (.str k19)] S1 [(90,(ps x0_0 n0_1 n0_2 b0_3 x0_4 x0_5 x0_6 x0_7 x0_8 x0_9 n0_10 n0_11)),(90,ps0)] R/\∀ (b : Bool) (S1 : St),R (.one (.bool b)) S1->(b=true->∃ R,hk.1 82 [.agg (ps x0_0 n0_1 n0_2 b0_3 x0_4 x0_5 x0_6 x0_7 x0_8 x0_9 n0_10 n0_11),.one (.str k19)] S1
 [(90,(ps x0_0 n0_1 n0_2 b0_3 x0_4 x0_5 x0_6 x0_7 x0_8 x0_9 n0_10 n0_11)),(90,ps0)] R/\∀ (x : AL) (n n_1 : Int) (b : Bool) (x_1 x_2 x_3 x_4 x_5 x_6 : AL) (n_2 n_3 : Int) (S1 : St),R (.agg (ps x n n_1 b x_1 x_2 x_3 x_4 x_5 x_6 n_2 n_3)) S1->∃ R,hk.1 80 [.agg (ps x n n_1 b x_1 x_2 x_3 x_4 x_5 x_6 n_2 n_3),.one (.str k1)] S1 [(90,(ps x0_0 n0_1 n0_2 b0_3 x0_4 x0_5 x0_6 x0_7 x0_8
 x0_9 n0_10 n0_11)),(90,ps0)] R/\∀ (x : AL) (n n_4 : Int) (b : Bool) (x_7 x_8 x_9 x_10 x_11 x_12 : AL) (n_5 n_6 : Int) (S1 : St),R (.agg (ps x n n_4 b x_7 x_8 x_9 x_10 x_11 x_12 n_5 n_6)) S1->∃ R,hk.1 81 [.agg (ps x n n_4 b x_7 x_8 x_9 x_10 x_11 x_12 n_5 n_6)] S1 [(90,(ps x0_0 n0_1 n0_2 b0_3 x0_4 x0_5 x0_6 x0_7 x0_8 x0_9 n0_10 n0_11)),(90,ps0)] R/\∀ (x : AL) (n n_7 : Int) (b :
 Bool) (x_13 x_14 x_15 x_16 x_17 x_18 : AL) (n_8 n_9 : Int) (S1 : St),R (.agg (ps x n n_7 b x_13 x_14 x_15 x_16 x_17 x_18 n_8 n_9)) S1->∃ R,hk.1 80 [.agg (ps x n n_7 b x_13 x_14 x_15 x_16 x_17 x_18 n_8 n_9),.one (.str k2)] S1 [(90,(ps x0_0 n0_1 n0_2 b0_3 x0_4 x0_5 x0_6 x0_7 x0_8 x0_9 n0_10 n0_11)),(90,ps0)] R/\∀ (x : AL) (n n_10 : Int) (b : Bool) (x_19 x_20 x_21 x_22 x_23 x_24 :
 AL) (n_11 n_12 : Int) (S1 : St),R (.agg (ps x n n_10 b x_19 x_20 x_21 x_22 x_23 x_24 n_11 n_12)) S1->∃ R,hk.1 80 [.agg (ps x n n_10 b x_19 x_20 x_21 x_22 x_23 x_24 n_11 n_12),.one (.str k14)] S1 [(90,(ps x0_0 n0_1 n0_2 b0_3 x0_4 x0_5 x0_6 x0_7 x0_8 x0_9 n0_10 n0_11)),(90,ps0),(90,(ps x n n_10 b x_19 x_20 x_21 x_22 x_23 x_24 n_11 n_12))] R/\∀ (x_25 : AL) (n_13 n_14 : Int) (b_1 :
 Bool) (x_26 x_27 x_28 x_29 x_30 x_31 : AL) (n_15 n_16 : Int) (S1 : St),R (.agg (ps x_25 n_13 n_14 b_1 x_26 x_27 x_28 x_29 x_30 x_31 n_15 n_16)) S1->∃ R,hk.1 83 [.agg (ps x_25 n_13 n_14 b_1 x_26 x_27 x_28 x_29 x_30 x_31 n_15 n_16),.one (.i 4),.one (.str k_)] S1 [(90,(ps x0_0 n0_1 n0_2 b0_3 x0_4 x0_5 x0_6 x0_7 x0_8 x0_9 n0_10 n0_11)),(90,ps0),(90,(ps x n n_10 b x_19 x_20 x_21
 x_22 x_23 x_24 n_11 n_12))] R/\∀ (x : AL) (n n_17 : Int) (b : Bool) (x_32 x_33 x_34 x_35 x_36 x_37 : AL) (n_18 n_19 : Int) (S1 : St),R (.agg (ps x n n_17 b x_32 x_33 x_34 x_35 x_36 x_37 n_18 n_19)) S1->true=true/\Q (.agg (ps x n n_17 b x_32 x_33 x_34 x_35 x_36 x_37 n_18 n_19)) S1)/\(b=false->∃ R,hk.1 75 [.agg (ps x0_0 n0_1 n0_2 b0_3 x0_4 x0_5 x0_6 x0_7 x0_8 x0_9 n0_10
 n0_11),.one (.i 1),.one (.str k20)] S1 [(90,(ps x0_0 n0_1 n0_2 b0_3 x0_4 x0_5 x0_6 x0_7 x0_8 x0_9 n0_10 n0_11)),(90,ps0)] R/\∀ (b : Bool) (S1 : St),R (.one (.bool b)) S1->(b=true->∃ R,hk.1 82 [.agg (ps x0_0 n0_1 n0_2 b0_3 x0_4 x0_5 x0_6 x0_7 x0_8 x0_9 n0_10 n0_11),.one (.str k20)] S1 [(90,(ps x0_0 n0_1 n0_2 b0_3 x0_4 x0_5 x0_6 x0_7 x0_8 x0_9 n0_10 n0_11)),(90,ps0)] R/\∀ (x :
 AL) (n n_1 : Int) (b : Bool) (x_1 x_2 x_3 x_4 x_5 x_6 : AL) (n_2 n_3 : Int) (S1 : St),R (.agg (ps x n n_1 b x_1 x_2 x_3 x_4 x_5 x_6 n_2 n_3)) S1->∃ R,hk.1 81 [.agg (ps x n n_1 b x_1 x_2 x_3 x_4 x_5 x_6 n_2 n_3)] S1 [(90,(ps x0_0 n0_1 n0_2 b0_3 x0_4 x0_5 x0_6 x0_7 x0_8 x0_9 n0_10 n0_11)),(90,ps0)] R/\∀ (x : AL) (n n_4 : Int) (b : Bool) (x_7 x_8 x_9 x_10 x_11 x_12 : AL) (n_5 n_6
 : Int) (S1 : St),R (.agg (ps x n n_4 b x_7 x_8 x_9 x_10 x_11 x_12 n_5 n_6)) S1->∃ R,hk.1 80 [.agg (ps x n n_4 b x_7 x_8 x_9 x_10 x_11 x_12 n_5 n_6),.one (.str k14)] S1 [(90,(ps x0_0 n0_1 n0_2 b0_3 x0_4 x0_5 x0_6 x0_7 x0_8 x0_9 n0_10 n0_11)),(90,ps0)] R/\∀ (x : AL) (n n_7 : Int) (b : Bool) (x_13 x_14 x_15 x_16 x_17 x_18 : AL) (n_8 n_9 : Int) (S1 : St),R (.agg (ps x n n_7 b x_13
 x_14 x_15 x_16 x_17 x_18 n_8 n_9)) S1->∃ R,hk.1 83 [.agg (ps x n n_7 b x_13 x_14 x_15 x_16 x_17 x_18 n_8 n_9),.one (.i 5),.one (.str k_)] S1 [(90,(ps x0_0 n0_1 n0_2 b0_3 x0_4 x0_5 x0_6 x0_7 x0_8 x0_9 n0_10 n0_11)),(90,ps0)] R/\∀ (x : AL) (n n_10 : Int) (b : Bool) (x_19 x_20 x_21 x_22 x_23 x_24 : AL) (n_11 n_12 : Int) (S1 : St),R (.agg (ps x n n_10 b x_19 x_20 x_21 x_22 x_23
 x_24 n_11 n_12)) S1->true=true/\Q (.agg (ps x n n_10 b x_19 x_20 x_21 x_22 x_23 x_24 n_11 n_12)) S1)/\(b=false->(b0_3=true->∃ R,hk.1 75 [.agg (ps x0_0 n0_1 n0_2 b0_3 x0_4 x0_5 x0_6 x0_7 x0_8 x0_9 n0_10 n0_11),.one (.i 1),.one (.str k21)] S1 [(90,(ps x0_0 n0_1 n0_2 b0_3 x0_4 x0_5 x0_6 x0_7 x0_8 x0_9 n0_10 n0_11)),(90,ps0)] R/\∀ (b : Bool) (S1 : St),R (.one (.bool b))
 S1->(b=true->∃ R,hk.1 82 [.agg (ps x0_0 n0_1 n0_2 b0_3 x0_4 x0_5 x0_6 x0_7 x0_8 x0_9 n0_10 n0_11),.one (.str k21)] S1 [(90,(ps x0_0 n0_1 n0_2 b0_3 x0_4 x0_5 x0_6 x0_7 x0_8 x0_9 n0_10 n0_11)),(90,ps0)] R/\∀ (x : AL) (n n_1 : Int) (b : Bool) (x_1 x_2 x_3 x_4 x_5 x_6 : AL) (n_2 n_3 : Int) (S1 : St),R (.agg (ps x n n_1 b x_1 x_2 x_3 x_4 x_5 x_6 n_2 n_3)) S1->∃ R,hk.1 81 [.agg (ps x
 n n_1 b x_1 x_2 x_3 x_4 x_5 x_6 n_2 n_3)] S1 [(90,(ps x0_0 n0_1 n0_2 b0_3 x0_4 x0_5 x0_6 x0_7 x0_8 x0_9 n0_10 n0_11)),(90,ps0)] R/\∀ (x : AL) (n n_4 : Int) (b : Bool) (x_7 x_8 x_9 x_10 x_11 x_12 : AL) (n_5 n_6 : Int) (S1 : St),R (.agg (ps x n n_4 b x_7 x_8 x_9 x_10 x_11 x_12 n_5 n_6)) S1->∃ R,hk.1 80 [.agg (ps x n n_4 b x_7 x_8 x_9 x_10 x_11 x_12 n_5 n_6),.one (.str k14)] S1
 [(90,(ps x0_0 n0_1 n0_2 b0_3 x0_4 x0_5 x0_6 x0_7 x0_8 x0_9 n0_10 n0_11)),(90,ps0)] R/\∀ (x : AL) (n n_7 : Int) (b : Bool) (x_13 x_14 x_15 x_16 x_17 x_18 : AL) (n_8 n_9 : Int) (S1 : St),R (.agg (ps x n n_7 b x_13 x_14 x_15 x_16 x_17 x_18 n_8 n_9)) S1->∃ R,hk.1 83 [.agg (ps x n n_7 b x_13 x_14 x_15 x_16 x_17 x_18 n_8 n_9),.one (.i 6),.one (.str k_)] S1 [(90,(ps x0_0 n0_1 n0_2
 b0_3 x0_4 x0_5 x0_6 x0_7 x0_8 x0_9 n0_10 n0_11)),(90,ps0)] R/\∀ (x : AL) (n n_10 : Int) (b : Bool) (x_19 x_20 x_21 x_22 x_23 x_24 : AL) (n_11 n_12 : Int) (S1 : St),R (.agg (ps x n n_10 b x_19 x_20 x_21 x_22 x_23 x_24 n_11 n_12)) S1->true=true/\Q (.agg (ps x n n_10 b x_19 x_20 x_21 x_22 x_23 x_24 n_11 n_12)) S1)/\(b=false->∃ R,hk.1 84 [.agg (ps x0_0 n0_1 n0_2 b0_3 x0_4 x0_5 x0_6
 x0_7 x0_8 x0_9 n0_10 n0_11),.one (.bool false)] S1 [(90,(ps x0_0 n0_1 n0_2 b0_3 x0_4 x0_5 x0_6 x0_7 x0_8 x0_9 n0_10 n0_11)),(90,ps0)] R/\∀ (x : AL) (n n_1 : Int) (b : Bool) (x_1 x_2 x_3 x_4 x_5 x_6 : AL) (n_2 n_3 : Int) (s : ByteArray) (S1 : St),R (.tup [.agg (ps x n n_1 b x_1 x_2 x_3 x_4 x_5 x_6 n_2 n_3),.one (.str s)]) S1->∃ R,hk.1 80 [.agg (ps x n n_1 b x_1 x_2 x_3 x_4 x_5
 x_6 n_2 n_3),.one (.str k13)] S1 [(90,(ps x0_0 n0_1 n0_2 b0_3 x0_4 x0_5 x0_6 x0_7 x0_8 x0_9 n0_10 n0_11)),(90,ps0),(90,(ps x n n_1 b x_1 x_2 x_3 x_4 x_5 x_6 n_2 n_3))] R/\∀ (x_7 : AL) (n_4 n_5 : Int) (b_1 : Bool) (x_8 x_9 x_10 x_11 x_12 x_13 : AL) (n_6 n_7 : Int) (S1 : St),R (.agg (ps x_7 n_4 n_5 b_1 x_8 x_9 x_10 x_11 x_12 x_13 n_6 n_7)) S1->∃ R,hk.1 81 [.agg (ps x_7 n_4 n_5
 b_1 x_8 x_9 x_10 x_11 x_12 x_13 n_6 n_7)] S1 [(90,(ps x0_0 n0_1 n0_2 b0_3 x0_4 x0_5 x0_6 x0_7 x0_8 x0_9 n0_10 n0_11)),(90,ps0),(90,(ps x n n_1 b x_1 x_2 x_3 x_4 x_5 x_6 n_2 n_3))] R/\∀ (x_14 : AL) (n_8 n_9 : Int) (b_2 : Bool) (x_15 x_16 x_17 x_18 x_19 x_20 : AL) (n_10 n_11 : Int) (S1 : St),R (.agg (ps x_14 n_8 n_9 b_2 x_15 x_16 x_17 x_18 x_19 x_20 n_10 n_11)) S1->∃ R,hk.1 80
 [.agg (ps x_14 n_8 n_9 b_2 x_15 x_16 x_17 x_18 x_19 x_20 n_10 n_11),.one (.str k14)] S1 [(90,(ps x0_0 n0_1 n0_2 b0_3 x0_4 x0_5 x0_6 x0_7 x0_8 x0_9 n0_10 n0_11)),(90,ps0),(90,(ps x n n_1 b x_1 x_2 x_3 x_4 x_5 x_6 n_2 n_3))] R/\∀ (x_21 : AL) (n_12 n_13 : Int) (b_3 : Bool) (x_22 x_23 x_24 x_25 x_26 x_27 : AL) (n_14 n_15 : Int) (S1 : St),R (.agg (ps x_21 n_12 n_13 b_3 x_22 x_23
 x_24 x_25 x_26 x_27 n_14 n_15)) S1->∃ R,hk.1 83 [.agg (ps x_21 n_12 n_13 b_3 x_22 x_23 x_24 x_25 x_26 x_27 n_14 n_15),.one (.i 3),.one (.str s)] S1 [(90,(ps x0_0 n0_1 n0_2 b0_3 x0_4 x0_5 x0_6 x0_7 x0_8 x0_9 n0_10 n0_11)),(90,ps0),(90,(ps x n n_1 b x_1 x_2 x_3 x_4 x_5 x_6 n_2 n_3))] R/\∀ (x : AL) (n n_16 : Int) (b : Bool) (x_28 x_29 x_30 x_31 x_32 x_33 : AL) (n_17 n_18 : Int)
 (S1 : St),R (.agg (ps x n n_16 b x_28 x_29 x_30 x_31 x_32 x_33 n_17 n_18)) S1->true=true/\Q (.agg (ps x n n_16 b x_28 x_29 x_30 x_31 x_32 x_33 n_17 n_18)) S1))/\(b0_3=false->∃ R,hk.1 84 [.agg (ps x0_0 n0_1 n0_2 b0_3 x0_4 x0_5 x0_6 x0_7 x0_8 x0_9 n0_10 n0_11),.one (.bool false)] S1 [(90,(ps x0_0 n0_1 n0_2 b0_3 x0_4 x0_5 x0_6 x0_7 x0_8 x0_9 n0_10 n0_11)),(90,ps0)] R/\∀ (x : AL)
 (n n_1 : Int) (b : Bool) (x_1 x_2 x_3 x_4 x_5 x_6 : AL) (n_2 n_3 : Int) (s : ByteArray) (S1 : St),R (.tup [.agg (ps x n n_1 b x_1 x_2 x_3 x_4 x_5 x_6 n_2 n_3),.one (.str s)]) S1->∃ R,hk.1 80 [.agg (ps x n n_1 b x_1 x_2 x_3 x_4 x_5 x_6 n_2 n_3),.one (.str k13)] S1 [(90,(ps x0_0 n0_1 n0_2 b0_3 x0_4 x0_5 x0_6 x0_7 x0_8 x0_9 n0_10 n0_11)),(90,ps0),(90,(ps x n n_1 b x_1 x_2 x_3 x_4
 x_5 x_6 n_2 n_3))] R/\∀ (x_7 : AL) (n_4 n_5 : Int) (b_1 : Bool) (x_8 x_9 x_10 x_11 x_12 x_13 : AL) (n_6 n_7 : Int) (S1 : St),R (.agg (ps x_7 n_4 n_5 b_1 x_8 x_9 x_10 x_11 x_12 x_13 n_6 n_7)) S1->∃ R,hk.1 81 [.agg (ps x_7 n_4 n_5 b_1 x_8 x_9 x_10 x_11 x_12 x_13 n_6 n_7)] S1 [(90,(ps x0_0 n0_1 n0_2 b0_3 x0_4 x0_5 x0_6 x0_7 x0_8 x0_9 n0_10 n0_11)),(90,ps0),(90,(ps x n n_1 b x_1
 x_2 x_3 x_4 x_5 x_6 n_2 n_3))] R/\∀ (x_14 : AL) (n_8 n_9 : Int) (b_2 : Bool) (x_15 x_16 x_17 x_18 x_19 x_20 : AL) (n_10 n_11 : Int) (S1 : St),R (.agg (ps x_14 n_8 n_9 b_2 x_15 x_16 x_17 x_18 x_19 x_20 n_10 n_11)) S1->∃ R,hk.1 80 [.agg (ps x_14 n_8 n_9 b_2 x_15 x_16 x_17 x_18 x_19 x_20 n_10 n_11),.one (.str k14)] S1 [(90,(ps x0_0 n0_1 n0_2 b0_3 x0_4 x0_5 x0_6 x0_7 x0_8 x0_9
 n0_10 n0_11)),(90,ps0),(90,(ps x n n_1 b x_1 x_2 x_3 x_4 x_5 x_6 n_2 n_3))] R/\∀ (x_21 : AL) (n_12 n_13 : Int) (b_3 : Bool) (x_22 x_23 x_24 x_25 x_26 x_27 : AL) (n_14 n_15 : Int) (S1 : St),R (.agg (ps x_21 n_12 n_13 b_3 x_22 x_23 x_24 x_25 x_26 x_27 n_14 n_15)) S1->∃ R,hk.1 83 [.agg (ps x_21 n_12 n_13 b_3 x_22 x_23 x_24 x_25 x_26 x_27 n_14 n_15),.one (.i 3),.one (.str s)] S1
 [(90,(ps x0_0 n0_1 n0_2 b0_3 x0_4 x0_5 x0_6 x0_7 x0_8 x0_9 n0_10 n0_11)),(90,ps0),(90,(ps x n n_1 b x_1 x_2 x_3 x_4 x_5 x_6 n_2 n_3))] R/\∀ (x : AL) (n n_16 : Int) (b : Bool) (x_28 x_29 x_30 x_31 x_32 x_33 : AL) (n_17 n_18 : Int) (S1 : St),R (.agg (ps x n n_16 b x_28 x_29 x_30 x_31 x_32 x_33 n_17 n_18)) S1->true=true/\Q (.agg (ps x n n_16 b x_28 x_29 x_30 x_31 x_32 x_33 n_17
 n_18)) S1))))))))/\((!b0_3)=false->((!b0_3)=true->∃ R,hk.1 75 [.agg (ps x0_0 n0_1 n0_2 b0_3 x0_4 x0_5 x0_6 x0_7 x0_8 x0_9 n0_10 n0_11),.one (.i 1),.one (.str k18)] S [(90,(ps x0_0 n0_1 n0_2 b0_3 x0_4 x0_5 x0_6 x0_7 x0_8 x0_9 n0_10 n0_11)),(90,ps0)] R/\∀ (b : Bool) (S1 : St),R (.one (.bool b)) S1->(b=true->∃ R,hk.1 77 [.agg (ps x0_0 n0_1 n0_2 b0_3 x0_4 x0_5 x0_6 x0_7 x0_8 x0_9
 n0_10 n0_11)] S1 [(90,(ps x0_0 n0_1 n0_2 b0_3 x0_4 x0_5 x0_6 x0_7 x0_8 x0_9 n0_10 n0_11)),(90,ps0)] R/\∀ (x : AL) (n n_1 : Int) (b : Bool) (x_1 x_2 x_3 x_4 x_5 x_6 : AL) (n_2 n_3 : Int) (S1 : St),R (.agg (ps x n n_1 b x_1 x_2 x_3 x_4 x_5 x_6 n_2 n_3)) S1->true=true/\Q (.agg (ps x n n_1 b x_1 x_2 x_3 x_4 x_5 x_6 n_2 n_3)) S1)/\(b=false->∃ R,hk.1 75 [.agg (ps x0_0 n0_1 n0_2 b0_3
 x0_4 x0_5 x0_6 x0_7 x0_8 x0_9 n0_10 n0_11),.one (.i 1),.one (.str k12)] S1 [(90,(ps x0_0 n0_1 n0_2 b0_3 x0_4 x0_5 x0_6 x0_7 x0_8 x0_9 n0_10 n0_11)),(90,ps0)] R/\∀ (b : Bool) (S1 : St),R (.one (.bool b)) S1->(b=true->∃ R,hk.1 78 [.agg (ps x0_0 n0_1 n0_2 b0_3 x0_4 x0_5 x0_6 x0_7 x0_8 x0_9 n0_10 n0_11)] S1 [(90,(ps x0_0 n0_1 n0_2 b0_3 x0_4 x0_5 x0_6 x0_7 x0_8 x0_9 n0_10
 n0_11)),(90,ps0)] R/\∀ (x : AL) (n n_1 : Int) (b : Bool) (x_1 x_2 x_3 x_4 x_5 x_6 : AL) (n_2 n_3 : Int) (s : ByteArray) (S1 : St),R (.tup [.agg (ps x n n_1 b x_1 x_2 x_3 x_4 x_5 x_6 n_2 n_3),.one (.str s)]) S1->true=true/\Q (.agg (ps x n n_1 b x_1 x_2 x_3 x_4 x_5 x_6 n_2 n_3)) S1)/\(b=false->∃ R,hk.1 75 [.agg (ps x0_0 n0_1 n0_2 b0_3 x0_4 x0_5 x0_6 x0_7 x0_8 x0_9 n0_10
 n0_11),.one (.i 1),.one (.str k15)] S1 [(90,(ps x0_0 n0_1 n0_2 b0_3 x0_4 x0_5 x0_6 x0_7 x0_8 x0_9 n0_10 n0_11)),(90,ps0)] R/\∀ (b : Bool) (S1 : St),R (.one (.bool b)) S1->(b=true->∃ R,hk.1 79 [.agg (ps x0_0 n0_1 n0_2 b0_3 x0_4 x0_5 x0_6 x0_7 x0_8 x0_9 n0_10 n0_11)] S1 [(90,(ps x0_0 n0_1 n0_2 b0_3 x0_4 x0_5 x0_6 x0_7 x0_8 x0_9 n0_10 n0_11)),(90,ps0)] R/\∀ (x : AL) (n n_1 : Int)
 (b : Bool) (x_1 x_2 x_3 x_4 x_5 x_6 : AL) (n_2 n_3 : Int) (s : ByteArray) (S1 : St),R (.tup [.agg (ps x n n_1 b x_1 x_2 x_3 x_4 x_5 x_6 n_2 n_3),.one (.str s)]) S1->true=true/\Q (.agg (ps x n n_1 b x_1 x_2 x_3 x_4 x_5 x_6 n_2 n_3)) S1)/\(b=false->∃ R,hk.1 75 [.agg (ps x0_0 n0_1 n0_2 b0_3 x0_4 x0_5 x0_6 x0_7 x0_8 x0_9 n0_10 n0_11),.one (.i 1),.one (.str k19)] S1 [(90,(ps x0_0
 n0_1 n0_2 b0_3 x0_4 x0_5 x0_6 x0_7 x0_8 x0_9 n0_10 n0_11)),(90,ps0)] R/\∀ (b : Bool) (S1 : St),R (.one (.bool b)) S1->(b=true->∃ R,hk.1 82 [.agg (ps x0_0 n0_1 n0_2 b0_3 x0_4 x0_5 x0_6 x0_7 x0_8 x0_9 n0_10 n0_11),.one (.str k19)] S1 [(90,(ps x0_0 n0_1 n0_2 b0_3 x0_4 x0_5 x0_6 x0_7 x0_8 x0_9 n0_10 n0_11)),(90,ps0)] R/\∀ (x : AL) (n n_1 : Int) (b : Bool) (x_1 x_2 x_3 x_4 x_5 x_6 :
 AL) (n_2 n_3 : Int) (S1 : St),R (.agg (ps x n n_1 b x_1 x_2 x_3 x_4 x_5 x_6 n_2 n_3)) S1->∃ R,hk.1 80 [.agg (ps x n n_1 b x_1 x_2 x_3 x_4 x_5 x_6 n_2 n_3),.one (.str k1)] S1 [(90,(ps x0_0 n0_1 n0_2 b0_3 x0_4 x0_5 x0_6 x0_7 x0_8 x0_9 n0_10 n0_11)),(90,ps0)] R/\∀ (x : AL) (n n_4 : Int) (b : Bool) (x_7 x_8 x_9 x_10 x_11 x_12 : AL) (n_5 n_6 : Int) (S1 : St),R (.agg (ps x n n_4 b
 x_7 x_8 x_9 x_10 x_11 x_12 n_5 n_6)) S1->∃ R,hk.1 81 [.agg (ps x n n_4 b x_7 x_8 x_9 x_10 x_11 x_12 n_5 n_6)] S1 [(90,(ps x0_0 n0_1 n0_2 b0_3 x0_4 x0_5 x0_6 x0_7 x0_8 x0_9 n0_10 n0_11)),(90,ps0)] R/\∀ (x : AL) (n n_7 : Int) (b : Bool) (x_13 x_14 x_15 x_16 x_17 x_18 : AL) (n_8 n_9 : Int) (S1 : St),R (.agg (ps x n n_7 b x_13 x_14 x_15 x_16 x_17 x_18 n_8 n_9)) S1->∃ R,hk.1 80
 [.agg (ps x n n_7 b x_13 x_14 x_15 x_16 x_17 x_18 n_8 n_9),.one (.str k2)] S1 [(90,(ps x0_0 n0_1 n0_2 b0_3 x0_4 x0_5 x0_6 x0_7 x0_8 x0_9 n0_10 n0_11)),(90,ps0)] R/\∀ (x : AL) (n n_10 : Int) (b : Bool) (x_19 x_20 x_21 x_22 x_23 x_24 : AL) (n_11 n_12 : Int) (S1 : St),R (.agg (ps x n n_10 b x_19 x_20 x_21 x_22 x_23 x_24 n_11 n_12)) S1->∃ R,hk.1 80 [.agg (ps x n n_10 b x_19 x_20
 x_21 x_22 x_23 x_24 n_11 n_12),.one (.str k14)] S1 [(90,(ps x0_0 n0_1 n0_2 b0_3 x0_4 x0_5 x0_6 x0_7 x0_8 x0_9 n0_10 n0_11)),(90,ps0),(90,(ps x n n_10 b x_19 x_20 x_21 x_22 x_23 x_24 n_11 n_12))] R/\∀ (x_25 : AL) (n_13 n_14 : Int) (b_1 : Bool) (x_26 x_27 x_28 x_29 x_30 x_31 : AL) (n_15 n_16 : Int) (S1 : St),R (.agg (ps x_25 n_13 n_14 b_1 x_26 x_27 x_28 x_29 x_30 x_31 n_15 n_16))
 S1->∃ R,hk.1 83 [.agg (ps x_25 n_13 n_14 b_1 x_26 x_27 x_28 x_29 x_30 x_31 n_15 n_16),.one (.i 4),.one (.str k_)] S1 [(90,(ps x0_0 n0_1 n0_2 b0_3 x0_4 x0_5 x0_6 x0_7 x0_8 x0_9 n0_10 n0_11)),(90,ps0),(90,(ps x n n_10 b x_19 x_20 x_21 x_22 x_23 x_24 n_11 n_12))] R/\∀ (x : AL) (n n_17 : Int) (b : Bool) (x_32 x_33 x_34 x_35 x_36 x_37 : AL) (n_18 n_19 : Int) (S1 : St),R (.agg (ps x
 n n_17 b x_32 x_33 x_34 x_35 x_36 x_37 n_18 n_19)) S1->true=true/\Q (.agg (ps x n n_17 b x_32 x_33 x_34 x_35 x_36 x_37 n_18 n_19)) S1)/\(b=false->∃ R,hk.1 75 [.agg (ps x0_0 n0_1 n0_2 b0_3 x0_4 x0_5 x0_6 x0_7 x0_8 x0_9 n0_10 n0_11),.one (.i 1),.one (.str k20)] S1 [(90,(ps x0_0 n0_1 n0_2 b0_3 x0_4 x0_5 x0_6 x0_7 x0_8 x0_9 n0_10 n0_11)),(90,ps0)] R/\∀ (b : Bool) (S1 : St),R (.one
 (.bool b)) S1->(b=true->∃ R,hk.1 82 [.agg (ps x0_0 n0_1 n0_2 b0_3 x0_4 x0_5 x0_6 x0_7 x0_8 x0_9 n0_10 n0_11),.one (.str k20)] S1 [(90,(ps x0_0 n0_1 n0_2 b0_3 x0_4 x0_5 x0_6 x0_7 x0_8 x0_9 n0_10 n0_11)),(90,ps0)] R/\∀ (x : AL) (n n_1 : Int) (b : Bool) (x_1 x_2 x_3 x_4 x_5 x_6 : AL) (n_2 n_3 : Int) (S1 : St),R (.agg (ps x n n_1 b x_1 x_2 x_3 x_4 x_5 x_6 n_2 n_3)) S1->∃ R,hk.1 81
 [.agg (ps x n n_1 b x_1 x_2 x_3 x_4 x_5 x_6 n_2 n_3)] S1 [(90,(ps x0_0 n0_1 n0_2 b0_3 x0_4 x0_5 x0_6 x0_7 x0_8 x0_9 n0_10 n0_11)),(90,ps0)] R/\∀ (x : AL) (n n_4 : Int) (b : Bool) (x_7 x_8 x_9 x_10 x_11 x_12 : AL) (n_5 n_6 : Int) (S1 : St),R (.agg (ps x n n_4 b x_7 x_8 x_9 x_10 x_11 x_12 n_5 n_6)) S1->∃ R,hk.1 80 [.agg (ps x n n_4 b x_7 x_8 x_9 x_10 x_11 x_12 n_5 n_6),.one (.str
 k14)] S1 [(90,(ps x0_0 n0_1 n0_2 b0_3 x0_4 x0_5 x0_6 x0_7 x0_8 x0_9 n0_10 n0_11)),(90,ps0)] R/\∀ (x : AL) (n n_7 : Int) (b : Bool) (x_13 x_14 x_15 x_16 x_17 x_18 : AL) (n_8 n_9 : Int) (S1 : St),R (.agg (ps x n n_7 b x_13 x_14 x_15 x_16 x_17 x_18 n_8 n_9)) S1->∃ R,hk.1 83 [.agg (ps x n n_7 b x_13 x_14 x_15 x_16 x_17 x_18 n_8 n_9),.one (.i 5),.one (.str k_)] S1 [(90,(ps x0_0 n0_1
 n0_2 b0_3 x0_4 x0_5 x0_6 x0_7 x0_8 x0_9 n0_10 n0_11)),(90,ps0)] R/\∀ (x : AL) (n n_10 : Int) (b : Bool) (x_19 x_20 x_21 x_22 x_23 x_24 : AL) (n_11 n_12 : Int) (S1 : St),R (.agg (ps x n n_10 b x_19 x_20 x_21 x_22 x_23 x_24 n_11 n_12)) S1->true=true/\Q (.agg (ps x n n_10 b x_19 x_20 x_21 x_22 x_23 x_24 n_11 n_12)) S1)/\(b=false->(b0_3=true->∃ R,hk.1 75 [.agg (ps x0_0 n0_1 n0_2
 b0_3 x0_4 x0_5 x0_6 x0_7 x0_8 x0_9 n0_10 n0_11),.one (.i 1),.one (.str k21)] S1 [(90,(ps x0_0 n0_1 n0_2 b0_3 x0_4 x0_5 x0_6 x0_7 x0_8 x0_9 n0_10 n0_11)),(90,ps0)] R/\∀ (b : Bool) (S1 : St),R (.one (.bool b)) S1->(b=true->∃ R,hk.1 82 [.agg (ps x0_0 n0_1 n0_2 b0_3 x0_4 x0_5 x0_6 x0_7 x0_8 x0_9 n0_10 n0_11),.one (.str k21)] S1 [(90,(ps x0_0 n0_1 n0_2 b0_3 x0_4 x0_5 x0_6 x0_7 x0_8
 x0_9 n0_10 n0_11)),(90,ps0)] R/\∀ (x : AL) (n n_1 : Int) (b : Bool) (x_1 x_2 x_3 x_4 x_5 x_6 : AL) (n_2 n_3 : Int) (S1 : St),R (.agg (ps x n n_1 b x_1 x_2 x_3 x_4 x_5 x_6 n_2 n_3)) S1->∃ R,hk.1 81 [.agg (ps x n n_1 b x_1 x_2 x_3 x_4 x_5 x_6 n_2 n_3)] S1 [(90,(ps x0_0 n0_1 n0_2 b0_3 x0_4 x0_5 x0_6 x0_7 x0_8 x0_9 n0_10 n0_11)),(90,ps0)] R/\∀ (x : AL) (n n_4 : Int) (b : Bool) (x_7
 x_8 x_9 x_10 x_11 x_12 : AL) (n_5 n_6 : Int) (S1 : St),R (.agg (ps x n n_4 b x_7 x_8 x_9 x_10 x_11 x_12 n_5 n_6)) S1->∃ R,hk.1 80 [.agg (ps x n n_4 b x_7 x_8 x_9 x_10 x_11 x_12 n_5 n_6),.one (.str k14)] S1 [(90,(ps x0_0 n0_1 n0_2 b0_3 x0_4 x0_5 x0_6 x0_7 x0_8 x0_9 n0_10 n0_11)),(90,ps0)] R/\∀ (x : AL) (n n_7 : Int) (b : Bool) (x_13 x_14 x_15 x_16 x_17 x_18 : AL) (n_8 n_9 : Int)
 (S1 : St),R (.agg (ps x n n_7 b x_13 x_14 x_15 x_16 x_17 x_18 n_8 n_9)) S1->∃ R,hk.1 83 [.agg (ps x n n_7 b x_13 x_14 x_15 x_16 x_17 x_18 n_8 n_9),.one (.i 6),.one (.str k_)] S1 [(90,(ps x0_0 n0_1 n0_2 b0_3 x0_4 x0_5 x0_6 x0_7 x0_8 x0_9 n0_10 n0_11)),(90,ps0)] R/\∀ (x : AL) (n n_10 : Int) (b : Bool) (x_19 x_20 x_21 x_22 x_23 x_24 : AL) (n_11 n_12 : Int) (S1 : St),R (.agg (ps x
 n n_10 b x_19 x_20 x_21 x_22 x_23 x_24 n_11 n_12)) S1->true=true/\Q (.agg (ps x n n_10 b x_19 x_20 x_21 x_22 x_23 x_24 n_11 n_12)) S1)/\(b=false->∃ R,hk.1 84 [.agg (ps x0_0 n0_1 n0_2 b0_3 x0_4 x0_5 x0_6 x0_7 x0_8 x0_9 n0_10 n0_11),.one (.bool false)] S1 [(90,(ps x0_0 n0_1 n0_2 b0_3 x0_4 x0_5 x0_6 x0_7 x0_8 x0_9 n0_10 n0_11)),(90,ps0)] R/\∀ (x : AL) (n n_1 : Int) (b : Bool) (x_1
 x_2 x_3 x_4 x_5 x_6 : AL) (n_2 n_3 : Int) (s : ByteArray) (S1 : St),R (.tup [.agg (ps x n n_1 b x_1 x_2 x_3 x_4 x_5 x_6 n_2 n_3),.one (.str s)]) S1->∃ R,hk.1 80 [.agg (ps x n n_1 b x_1 x_2 x_3 x_4 x_5 x_6 n_2 n_3),.one (.str k13)] S1 [(90,(ps x0_0 n0_1 n0_2 b0_3 x0_4 x0_5 x0_6 x0_7 x0_8 x0_9 n0_10 n0_11)),(90,ps0),(90,(ps x n n_1 b x_1 x_2 x_3 x_4 x_5 x_6 n_2 n_3))] R/\∀ (x_7 :
 AL) (n_4 n_5 : Int) (b_1 : Bool) (x_8 x_9 x_10 x_11 x_12 x_13 : AL) (n_6 n_7 : Int) (S1 : St),R (.agg (ps x_7 n_4 n_5 b_1 x_8 x_9 x_10 x_11 x_12 x_13 n_6 n_7)) S1->∃ R,hk.1 81 [.agg (ps x_7 n_4 n_5 b_1 x_8 x_9 x_10 x_11 x_12 x_13 n_6 n_7)] S1 [(90,(ps x0_0 n0_1 n0_2 b0_3 x0_4 x0_5 x0_6 x0_7 x0_8 x0_9 n0_10 n0_11)),(90,ps0),(90,(ps x n n_1 b x_1 x_2 x_3 x_4 x_5 x_6 n_2 n_3))]
 R/\∀ (x_14 : AL) (n_8 n_9 : Int) (b_2 : Bool) (x_15 x_16 x_17 x_18 x_19 x_20 : AL) (n_10 n_11 : Int) (S1 : St),R (.agg (ps x_14 n_8 n_9 b_2 x_15 x_16 x_17 x_18 x_19 x_20 n_10 n_11)) S1->∃ R,hk.1 80 [.agg (ps x_14 n_8 n_9 b_2 x_15 x_16 x_17 x_18 x_19 x_20 n_10 n_11),.one (.str k14)] S1 [(90,(ps x0_0 n0_1 n0_2 b0_3 x0_4 x0_5 x0_6 x0_7 x0_8 x0_9 n0_10 n0_11)),(90,ps0),(90,(ps x n
 n_1 b x_1 x_2 x_3 x_4 x_5 x_6 n_2 n_3))] R/\∀ (x_21 : AL) (n_12 n_13 : Int) (b_3 : Bool) (x_22 x_23 x_24 x_25 x_26 x_27 : AL) (n_14 n_15 : Int) (S1 : St),R (.agg (ps x_21 n_12 n_13 b_3 x_22 x_23 x_24 x_25 x_26 x_27 n_14 n_15)) S1->∃ R,hk.1 83 [.agg (ps x_21 n_12 n_13 b_3 x_22 x_23 x_24 x_25 x_26 x_27 n_14 n_15),.one (.i 3),.one (.str s)] S1 [(90,(ps x0_0 n0_1 n0_2 b0_3 x0_4
 x0_5 x0_6 x0_7 x0_8 x0_9 n0_10 n0_11)),(90,ps0),(90,(ps x n n_1 b x_1 x_2 x_3 x_4 x_5 x_6 n_2 n_3))] R/\∀ (x : AL) (n n_16 : Int) (b : Bool) (x_28 x_29 x_30 x_31 x_32 x_33 : AL) (n_17 n_18 : Int) (S1 : St),R (.agg (ps x n n_16 b x_28 x_29 x_30 x_31 x_32 x_33 n_17 n_18)) S1->true=true/\Q (.agg (ps x n n_16 b x_28 x_29 x_30 x_31 x_32 x_33 n_17 n_18)) S1))/\(b0_3=false->∃ R,hk.1
 84 [.agg (ps x0_0 n0_1 n0_2 b0_3 x0_4 x0_5 x0_6 x0_7 x0_8 x0_9 n0_10 n0_11),.one (.bool false)] S1 [(90,(ps x0_0 n0_1 n0_2 b0_3 x0_4 x0_5 x0_6 x0_7 x0_8 x0_9 n0_10 n0_11)),(90,ps0)] R/\∀ (x : AL) (n n_1 : Int) (b : Bool) (x_1 x_2 x_3 x_4 x_5 x_6 : AL) (n_2 n_3 : Int) (s : ByteArray) (S1 : St),R (.tup [.agg (ps x n n_1 b x_1 x_2 x_3 x_4 x_5 x_6 n_2 n_3),.one (.str s)]) S1->∃
 R,hk.1 80 [.agg (ps x n n_1 b x_1 x_2 x_3 x_4 x_5 x_6 n_2 n_3),.one (.str k13)] S1 [(90,(ps x0_0 n0_1 n0_2 b0_3 x0_4 x0_5 x0_6 x0_7 x0_8 x0_9 n0_10 n0_11)),(90,ps0),(90,(ps x n n_1 b x_1 x_2 x_3 x_4 x_5 x_6 n_2 n_3))] R/\∀ (x_7 : AL) (n_4 n_5 : Int) (b_1 : Bool) (x_8 x_9 x_10 x_11 x_12 x_13 : AL) (n_6 n_7 : Int) (S1 : St),R (.agg (ps x_7 n_4 n_5 b_1 x_8 x_9 x_10 x_11 x_12 x_13
 n_6 n_7)) S1->∃ R,hk.1 81 [.agg (ps x_7 n_4 n_5 b_1 x_8 x_9 x_10 x_11 x_12 x_13 n_6 n_7)] S1 [(90,(ps x0_0 n0_1 n0_2 b0_3 x0_4 x0_5 x0_6 x0_7 x0_8 x0_9 n0_10 n0_11)),(90,ps0),(90,(ps x n n_1 b x_1 x_2 x_3 x_4 x_5 x_6 n_2 n_3))] R/\∀ (x_14 : AL) (n_8 n_9 : Int) (b_2 : Bool) (x_15 x_16 x_17 x_18 x_19 x_20 : AL) (n_10 n_11 : Int) (S1 : St),R (.agg (ps x_14 n_8 n_9 b_2 x_15 x_16
 x_17 x_18 x_19 x_20 n_10 n_11)) S1->∃ R,hk.1 80 [.agg (ps x_14 n_8 n_9 b_2 x_15 x_16 x_17 x_18 x_19 x_20 n_10 n_11),.one (.str k14)] S1 [(90,(ps x0_0 n0_1 n0_2 b0_3 x0_4 x0_5 x0_6 x0_7 x0_8 x0_9 n0_10 n0_11)),(90,ps0),(90,(ps x n n_1 b x_1 x_2 x_3 x_4 x_5 x_6 n_2 n_3))] R/\∀ (x_21 : AL) (n_12 n_13 : Int) (b_3 : Bool) (x_22 x_23 x_24 x_25 x_26 x_27 : AL) (n_14 n_15 : Int) (S1 :
 St),R (.agg (ps x_21 n_12 n_13 b_3 x_22 x_23 x_24 x_25 x_26 x_27 n_14 n_15)) S1->∃ R,hk.1 83 [.agg (ps x_21 n_12 n_13 b_3 x_22 x_23 x_24 x_25 x_26 x_27 n_14 n_15),.one (.i 3),.one (.str s)] S1 [(90,(ps x0_0 n0_1 n0_2 b0_3 x0_4 x0_5 x0_6 x0_7 x0_8 x0_9 n0_10 n0_11)),(90,ps0),(90,(ps x n n_1 b x_1 x_2 x_3 x_4 x_5 x_6 n_2 n_3))] R/\∀ (x : AL) (n n_16 : Int) (b : Bool) (x_28 x_29
 x_30 x_31 x_32 x_33 : AL) (n_17 n_18 : Int) (S1 : St),R (.agg (ps x n n_16 b x_28 x_29 x_30 x_31 x_32 x_33 n_17 n_18)) S1->true=true/\Q (.agg (ps x n n_16 b x_28 x_29 x_30 x_31 x_32 x_33 n_17 n_18)) S1)))))))/\((!b0_3)=false->∃ R,hk.1 75 [.agg (ps x0_0 n0_1 n0_2 b0_3 x0_4 x0_5 x0_6 x0_7 x0_8 x0_9 n0_10 n0_11),.one (.i 1),.one (.str k12)] S [(90,(ps x0_0 n0_1 n0_2 b0_3 x0_4 x0_5
 x0_6 x0_7 x0_8 x0_9 n0_10 n0_11)),(90,ps0)] R/\∀ (b : Bool) (S1 : St),R (.one (.bool b)) S1->(b=true->∃ R,hk.1 78 [.agg (ps x0_0 n0_1 n0_2 b0_3 x0_4 x0_5 x0_6 x0_7 x0_8 x0_9 n0_10 n0_11)] S1 [(90,(ps x0_0 n0_1 n0_2 b0_3 x0_4 x0_5 x0_6 x0_7 x0_8 x0_9 n0_10 n0_11)),(90,ps0)] R/\∀ (x : AL) (n n_1 : Int) (b : Bool) (x_1 x_2 x_3 x_4 x_5 x_6 : AL) (n_2 n_3 : Int) (s : ByteArray) (S1
 : St),R (.tup [.agg (ps x n n_1 b x_1 x_2 x_3 x_4 x_5 x_6 n_2 n_3),.one (.str s)]) S1->true=true/\Q (.agg (ps x n n_1 b x_1 x_2 x_3 x_4 x_5 x_6 n_2 n_3)) S1)/\(b=false->∃ R,hk.1 75 [.agg (ps x0_0 n0_1 n0_2 b0_3 x0_4 x0_5 x0_6 x0_7 x0_8 x0_9 n0_10 n0_11),.one (.i 1),.one (.str k15)] S1 [(90,(ps x0_0 n0_1 n0_2 b0_3 x0_4 x0_5 x0_6 x0_7 x0_8 x0_9 n0_10 n0_11)),(90,ps0)] R/\∀ (b :
 Bool) (S1 : St),R (.one (.bool b)) S1->(b=true->∃ R,hk.1 79 [.agg (ps x0_0 n0_1 n0_2 b0_3 x0_4 x0_5 x0_6 x0_7 x0_8 x0_9 n0_10 n0_11)] S1 [(90,(ps x0_0 n0_1 n0_2 b0_3 x0_4 x0_5 x0_6 x0_7 x0_8 x0_9 n0_10 n0_11)),(90,ps0)] R/\∀ (x : AL) (n n_1 : Int) (b : Bool) (x_1 x_2 x_3 x_4 x_5 x_6 : AL) (n_2 n_3 : Int) (s : ByteArray) (S1 : St),R (.tup [.agg (ps x n n_1 b x_1 x_2 x_3 x_4 x_5
 x_6 n_2 n_3),.one (.str s)]) S1->true=true/\Q (.agg (ps x n n_1 b x_1 x_2 x_3 x_4 x_5 x_6 n_2 n_3)) S1)/\(b=false->∃ R,hk.1 75 [.agg (ps x0_0 n0_1 n0_2 b0_3 x0_4 x0_5 x0_6 x0_7 x0_8 x0_9 n0_10 n0_11),.one (.i 1),.one (.str k19)] S1 [(90,(ps x0_0 n0_1 n0_2 b0_3 x0_4 x0_5 x0_6 x0_7 x0_8 x0_9 n0_10 n0_11)),(90,ps0)] R/\∀ (b : Bool) (S1 : St),R (.one (.bool b)) S1->(b=true->∃
 R,hk.1 82 [.agg (ps x0_0 n0_1 n0_2 b0_3 x0_4 x0_5 x0_6 x0_7 x0_8 x0_9 n0_10 n0_11),.one (.str k19)] S1 [(90,(ps x0_0 n0_1 n0_2 b0_3 x0_4 x0_5 x0_6 x0_7 x0_8 x0_9 n0_10 n0_11)),(90,ps0)] R/\∀ (x : AL) (n n_1 : Int) (b : Bool) (x_1 x_2 x_3 x_4 x_5 x_6 : AL) (n_2 n_3 : Int) (S1 : St),R (.agg (ps x n n_1 b x_1 x_2 x_3 x_4 x_5 x_6 n_2 n_3)) S1->∃ R,hk.1 80 [.agg (ps x n n_1 b x_1
 x_2 x_3 x_4 x_5 x_6 n_2 n_3),.one (.str k1)] S1 [(90,(ps x0_0 n0_1 n0_2 b0_3 x0_4 x0_5 x0_6 x0_7 x0_8 x0_9 n0_10 n0_11)),(90,ps0)] R/\∀ (x : AL) (n n_4 : Int) (b : Bool) (x_7 x_8 x_9 x_10 x_11 x_12 : AL) (n_5 n_6 : Int) (S1 : St),R (.agg (ps x n n_4 b x_7 x_8 x_9 x_10 x_11 x_12 n_5 n_6)) S1->∃ R,hk.1 81 [.agg (ps x n n_4 b x_7 x_8 x_9 x_10 x_11 x_12 n_5 n_6)] S1 [(90,(ps x0_0
 n0_1 n0_2 b0_3 x0_4 x0_5 x0_6 x0_7 x0_8 x0_9 n0_10 n0_11)),(90,ps0)] R/\∀ (x : AL) (n n_7 : Int) (b : Bool) (x_13 x_14 x_15 x_16 x_17 x_18 : AL) (n_8 n_9 : Int) (S1 : St),R (.agg (ps x n n_7 b x_13 x_14 x_15 x_16 x_17 x_18 n_8 n_9)) S1->∃ R,hk.1 80 [.agg (ps x n n_7 b x_13 x_14 x_15 x_16 x_17 x_18 n_8 n_9),.one (.str k2)] S1 [(90,(ps x0_0 n0_1 n0_2 b0_3 x0_4 x0_5 x0_6 x0_7 x0_8
 x0_9 n0_10 n0_11)),(90,ps0)] R/\∀ (x : AL) (n n_10 : Int) (b : Bool) (x_19 x_20 x_21 x_22 x_23 x_24 : AL) (n_11 n_12 : Int) (S1 : St),R (.agg (ps x n n_10 b x_19 x_20 x_21 x_22 x_23 x_24 n_11 n_12)) S1->∃ R,hk.1 80 [.agg (ps x n n_10 b x_19 x_20 x_21 x_22 x_23 x_24 n_11 n_12),.one (.str k14)] S1 [(90,(ps x0_0 n0_1 n0_2 b0_3 x0_4 x0_5 x0_6 x0_7 x0_8 x0_9 n0_10
 n0_11)),(90,ps0),(90,(ps x n n_10 b x_19 x_20 x_21 x_22 x_23 x_24 n_11 n_12))] R/\∀ (x_25 : AL) (n_13 n_14 : Int) (b_1 : Bool) (x_26 x_27 x_28 x_29 x_30 x_31 : AL) (n_15 n_16 : Int) (S1 : St),R (.agg (ps x_25 n_13 n_14 b_1 x_26 x_27 x_28 x_29 x_30 x_31 n_15 n_16)) S1->∃ R,hk.1 83 [.agg (ps x_25 n_13 n_14 b_1 x_26 x_27 x_28 x_29 x_30 x_31 n_15 n_16),.one (.i 4),.one (.str k_)]
 S1 [(90,(ps x0_0 n0_1 n0_2 b0_3 x0_4 x0_5 x0_6 x0_7 x0_8 x0_9 n0_10 n0_11)),(90,ps0),(90,(ps x n n_10 b x_19 x_20 x_21 x_22 x_23 x_24 n_11 n_12))] R/\∀ (x : AL) (n n_17 : Int) (b : Bool) (x_32 x_33 x_34 x_35 x_36 x_37 : AL) (n_18 n_19 : Int) (S1 : St),R (.agg (ps x n n_17 b x_32 x_33 x_34 x_35 x_36 x_37 n_18 n_19)) S1->true=true/\Q (.agg (ps x n n_17 b x_32 x_33 x_34 x_35 x_36
 x_37 n_18 n_19)) S1)/\(b=false->∃ R,hk.1 75 [.agg (ps x0_0 n0_1 n0_2 b0_3 x0_4 x0_5 x0_6 x0_7 x0_8 x0_9 n0_10 n0_11),.one (.i 1),.one (.str k20)] S1 [(90,(ps x0_0 n0_1 n0_2 b0_3 x0_4 x0_5 x0_6 x0_7 x0_8 x0_9 n0_10 n0_11)),(90,ps0)] R/\∀ (b : Bool) (S1 : St),R (.one (.bool b)) S1->(b=true->∃ R,hk.1 82 [.agg (ps x0_0 n0_1 n0_2 b0_3 x0_4 x0_5 x0_6 x0_7 x0_8 x0_9 n0_10 n0_11),.one
 (.str k20)] S1 [(90,(ps x0_0 n0_1 n0_2 b0_3 x0_4 x0_5 x0_6 x0_7 x0_8 x0_9 n0_10 n0_11)),(90,ps0)] R/\∀ (x : AL) (n n_1 : Int) (b : Bool) (x_1 x_2 x_3 x_4 x_5 x_6 : AL) (n_2 n_3 : Int) (S1 : St),R (.agg (ps x n n_1 b x_1 x_2 x_3 x_4 x_5 x_6 n_2 n_3)) S1->∃ R,hk.1 81 [.agg (ps x n n_1 b x_1 x_2 x_3 x_4 x_5 x_6 n_2 n_3)] S1 [(90,(ps x0_0 n0_1 n0_2 b0_3 x0_4 x0_5 x0_6 x0_7 x0_8
 x0_9 n0_10 n0_11)),(90,ps0)] R/\∀ (x : AL) (n n_4 : Int) (b : Bool) (x_7 x_8 x_9 x_10 x_11 x_12 : AL) (n_5 n_6 : Int) (S1 : St),R (.agg (ps x n n_4 b x_7 x_8 x_9 x_10 x_11 x_12 n_5 n_6)) S1->∃ R,hk.1 80 [.agg (ps x n n_4 b x_7 x_8 x_9 x_10 x_11 x_12 n_5 n_6),.one (.str k14)] S1 [(90,(ps x0_0 n0_1 n0_2 b0_3 x0_4 x0_5 x0_6 x0_7 x0_8 x0_9 n0_10 n0_11)),(90,ps0)] R/\∀ (x : AL) (n
 n_7 : Int) (b : Bool) (x_13 x_14 x_15 x_16 x_17 x_18 : AL) (n_8 n_9 : Int) (S1 : St),R (.agg (ps x n n_7 b x_13 x_14 x_15 x_16 x_17 x_18 n_8 n_9)) S1->∃ R,hk.1 83 [.agg (ps x n n_7 b x_13 x_14 x_15 x_16 x_17 x_18 n_8 n_9),.one (.i 5),.one (.str k_)] S1 [(90,(ps x0_0 n0_1 n0_2 b0_3 x0_4 x0_5 x0_6 x0_7 x0_8 x0_9 n0_10 n0_11)),(90,ps0)] R/\∀ (x : AL) (n n_10 : Int) (b : Bool)
 (x_19 x_20 x_21 x_22 x_23 x_24 : AL) (n_11 n_12 : Int) (S1 : St),R (.agg (ps x n n_10 b x_19 x_20 x_21 x_22 x_23 x_24 n_11 n_12)) S1->true=true/\Q (.agg (ps x n n_10 b x_19 x_20 x_21 x_22 x_23 x_24 n_11 n_12)) S1)/\(b=false->(b0_3=true->∃ R,hk.1 75 [.agg (ps x0_0 n0_1 n0_2 b0_3 x0_4 x0_5 x0_6 x0_7 x0_8 x0_9 n0_10 n0_11),.one (.i 1),.one (.str k21)] S1 [(90,(ps x0_0 n0_1 n0_2
 b0_3 x0_4 x0_5 x0_6 x0_7 x0_8 x0_9 n0_10 n0_11)),(90,ps0)] R/\∀ (b : Bool) (S1 : St),R (.one (.bool b)) S1->(b=true->∃ R,hk.1 82 [.agg (ps x0_0 n0_1 n0_2 b0_3 x0_4 x0_5 x0_6 x0_7 x0_8 x0_9 n0_10 n0_11),.one (.str k21)] S1 [(90,(ps x0_0 n0_1 n0_2 b0_3 x0_4 x0_5 x0_6 x0_7 x0_8 x0_9 n0_10 n0_11)),(90,ps0)] R/\∀ (x : AL) (n n_1 : Int) (b : Bool) (x_1 x_2 x_3 x_4 x_5 x_6 : AL) (n_2
 n_3 : Int) (S1 : St),R (.agg (ps x n n_1 b x_1 x_2 x_3 x_4 x_5 x_6 n_2 n_3)) S1->∃ R,hk.1 81 [.agg (ps x n n_1 b x_1 x_2 x_3 x_4 x_5 x_6 n_2 n_3)] S1 [(90,(ps x0_0 n0_1 n0_2 b0_3 x0_4 x0_5 x0_6 x0_7 x0_8 x0_9 n0_10 n0_11)),(90,ps0)] R/\∀ (x : AL) (n n_4 : Int) (b : Bool) (x_7 x_8 x_9 x_10 x_11 x_12 : AL) (n_5 n_6 : Int) (S1 : St),R (.agg (ps x n n_4 b x_7 x_8 x_9 x_10 x_11 x_12
 n_5 n_6)) S1->∃ R,hk.1 80 [.agg (ps x n n_4 b x_7 x_8 x_9 x_10 x_11 x_12 n_5 n_6),.one (.str k14)] S1 [(90,(ps x0_0 n0_1 n0_2 b0_3 x0_4 x0_5 x0_6 x0_7 x0_8 x0_9 n0_10 n0_11)),(90,ps0)] R/\∀ (x : AL) (n n_7 : Int) (b : Bool) (x_13 x_14 x_15 x_16 x_17 x_18 : AL) (n_8 n_9 : Int) (S1 : St),R (.agg (ps x n n_7 b x_13 x_14 x_15 x_16 x_17 x_18 n_8 n_9)) S1->∃ R,hk.1 83 [.agg (ps x n
 n_7 b x_13 x_14 x_15 x_16 x_17 x_18 n_8 n_9),.one (.i 6),.one (.str k_)] S1 [(90,(ps x0_0 n0_1 n0_2 b0_3 x0_4 x0_5 x0_6 x0_7 x0_8 x0_9 n0_10 n0_11)),(90,ps0)] R/\∀ (x : AL) (n n_10 : Int) (b : Bool) (x_19 x_20 x_21 x_22 x_23 x_24 : AL) (n_11 n_12 : Int) (S1 : St),R (.agg (ps x n n_10 b x_19 x_20 x_21 x_22 x_23 x_24 n_11 n_12)) S1->true=true/\Q (.agg (ps x n n_10 b x_19 x_20
 x_21 x_22 x_23 x_24 n_11 n_12)) S1)/\(b=false->∃ R,hk.1 84 [.agg (ps x0_0 n0_1 n0_2 b0_3 x0_4 x0_5 x0_6 x0_7 x0_8 x0_9 n0_10 n0_11),.one (.bool false)] S1 [(90,(ps x0_0 n0_1 n0_2 b0_3 x0_4 x0_5 x0_6 x0_7 x0_8 x0_9 n0_10 n0_11)),(90,ps0)] R/\∀ (x : AL) (n n_1 : Int) (b : Bool) (x_1 x_2 x_3 x_4 x_5 x_6 : AL) (n_2 n_3 : Int) (s : ByteArray) (S1 : St),R (.tup [.agg (ps x n n_1 b
 x_1 x_2 x_3 x_4 x_5 x_6 n_2 n_3),.one (.str s)]) S1->∃ R,hk.1 80 [.agg (ps x n n_1 b x_1 x_2 x_3 x_4 x_5 x_6 n_2 n_3),.one (.str k13)] S1 [(90,(ps x0_0 n0_1 n0_2 b0_3 x0_4 x0_5 x0_6 x0_7 x0_8 x0_9 n0_10 n0_11)),(90,ps0),(90,(ps x n n_1 b x_1 x_2 x_3 x_4 x_5 x_6 n_2 n_3))] R/\∀ (x_7 : AL) (n_4 n_5 : Int) (b_1 : Bool) (x_8 x_9 x_10 x_11 x_12 x_13 : AL) (n_6 n_7 : Int) (S1 : St),R
 (.agg (ps x_7 n_4 n_5 b_1 x_8 x_9 x_10 x_11 x_12 x_13 n_6 n_7)) S1->∃ R,hk.1 81 [.agg (ps x_7 n_4 n_5 b_1 x_8 x_9 x_10 x_11 x_12 x_13 n_6 n_7)] S1 [(90,(ps x0_0 n0_1 n0_2 b0_3 x0_4 x0_5 x0_6 x0_7 x0_8 x0_9 n0_10 n0_11)),(90,ps0),(90,(ps x n n_1 b x_1 x_2 x_3 x_4 x_5 x_6 n_2 n_3))] R/\∀ (x_14 : AL) (n_8 n_9 : Int) (b_2 : Bool) (x_15 x_16 x_17 x_18 x_19 x_20 : AL) (n_10 n_11 :
 Int) (S1 : St),R (.agg (ps x_14 n_8 n_9 b_2 x_15 x_16 x_17 x_18 x_19 x_20 n_10 n_11)) S1->∃ R,hk.1 80 [.agg (ps x_14 n_8 n_9 b_2 x_15 x_16 x_17 x_18 x_19 x_20 n_10 n_11),.one (.str k14)] S1 [(90,(ps x0_0 n0_1 n0_2 b0_3 x0_4 x0_5 x0_6 x0_7 x0_8 x0_9 n0_10 n0_11)),(90,ps0),(90,(ps x n n_1 b x_1 x_2 x_3 x_4 x_5 x_6 n_2 n_3))] R/\∀ (x_21 : AL) (n_12 n_13 : Int) (b_3 : Bool) (x_22
 x_23 x_24 x_25 x_26 x_27 : AL) (n_14 n_15 : Int) (S1 : St),R (.agg (ps x_21 n_12 n_13 b_3 x_22 x_23 x_24 x_25 x_26 x_27 n_14 n_15)) S1->∃ R,hk.1 83 [.agg (ps x_21 n_12 n_13 b_3 x_22 x_23 x_24 x_25 x_26 x_27 n_14 n_15),.one (.i 3),.one (.str s)] S1 [(90,(ps x0_0 n0_1 n0_2 b0_3 x0_4 x0_5 x0_6 x0_7 x0_8 x0_9 n0_10 n0_11)),(90,ps0),(90,(ps x n n_1 b x_1 x_2 x_3 x_4 x_5 x_6 n_2
 n_3))] R/\∀ (x : AL) (n n_16 : Int) (b : Bool) (x_28 x_29 x_30 x_31 x_32 x_33 : AL) (n_17 n_18 : Int) (S1 : St),R (.agg (ps x n n_16 b x_28 x_29 x_30 x_31 x_32 x_33 n_17 n_18)) S1->true=true/\Q (.agg (ps x n n_16 b x_28 x_29 x_30 x_31 x_32 x_33 n_17 n_18)) S1))/\(b0_3=false->∃ R,hk.1 84 [.agg (ps x0_0 n0_1 n0_2 b0_3 x0_4 x0_5 x0_6 x0_7 x0_8 x0_9 n0_10 n0_11),.one (.bool false)]
 S1 [(90,(ps x0_0 n0_1 n0_2 b0_3 x0_4 x0_5 x0_6 x0_7 x0_8 x0_9 n0_10 n0_11)),(90,ps0)] R/\∀ (x : AL) (n n_1 : Int) (b : Bool) (x_1 x_2 x_3 x_4 x_5 x_6 : AL) (n_2 n_3 : Int) (s : ByteArray) (S1 : St),R (.tup [.agg (ps x n n_1 b x_1 x_2 x_3 x_4 x_5 x_6 n_2 n_3),.one (.str s)]) S1->∃ R,hk.1 80 [.agg (ps x n n_1 b x_1 x_2 x_3 x_4 x_5 x_6 n_2 n_3),.one (.str k13)] S1 [(90,(ps x0_0
 n0_1 n0_2 b0_3 x0_4 x0_5 x0_6 x0_7 x0_8 x0_9 n0_10 n0_11)),(90,ps0),(90,(ps x n n_1 b x_1 x_2 x_3 x_4 x_5 x_6 n_2 n_3))] R/\∀ (x_7 : AL) (n_4 n_5 : Int) (b_1 : Bool) (x_8 x_9 x_10 x_11 x_12 x_13 : AL) (n_6 n_7 : Int) (S1 : St),R (.agg (ps x_7 n_4 n_5 b_1 x_8 x_9 x_10 x_11 x_12 x_13 n_6 n_7)) S1->∃ R,hk.1 81 [.agg (ps x_7 n_4 n_5 b_1 x_8 x_9 x_10 x_11 x_12 x_13 n_6 n_7)] S1
 [(90,(ps x0_0 n0_1 n0_2 b0_3 x0_4 x0_5 x0_6 x0_7 x0_8 x0_9 n0_10 n0_11)),(90,ps0),(90,(ps x n n_1 b x_1 x_2 x_3 x_4 x_5 x_6 n_2 n_3))] R/\∀ (x_14 : AL) (n_8 n_9 : Int) (b_2 : Bool) (x_15 x_16 x_17 x_18 x_19 x_20 : AL) (n_10 n_11 : Int) (S1 : St),R (.agg (ps x_14 n_8 n_9 b_2 x_15 x_16 x_17 x_18 x_19 x_20 n_10 n_11)) S1->∃ R,hk.1 80 [.agg (ps x_14 n_8 n_9 b_2 x_15 x_16 x_17 x_18
 x_19 x_20 n_10 n_11),.one (.str k14)] S1 [(90,(ps x0_0 n0_1 n0_2 b0_3 x0_4 x0_5 x0_6 x0_7 x0_8 x0_9 n0_10 n0_11)),(90,ps0),(90,(ps x n n_1 b x_1 x_2 x_3 x_4 x_5 x_6 n_2 n_3))] R/\∀ (x_21 : AL) (n_12 n_13 : Int) (b_3 : Bool) (x_22 x_23 x_24 x_25 x_26 x_27 : AL) (n_14 n_15 : Int) (S1 : St),R (.agg (ps x_21 n_12 n_13 b_3 x_22 x_23 x_24 x_25 x_26 x_27 n_14 n_15)) S1->∃ R,hk.1 83
 [.agg (ps x_21 n_12 n_13 b_3 x_22 x_23 x_24 x_25 x_26 x_27 n_14 n_15),.one (.i 3),.one (.str s)] S1 [(90,(ps x0_0 n0_1 n0_2 b0_3 x0_4 x0_5 x0_6 x0_7 x0_8 x0_9 n0_10 n0_11)),(90,ps0),(90,(ps x n n_1 b x_1 x_2 x_3 x_4 x_5 x_6 n_2 n_3))] R/\∀ (x : AL) (n n_16 : Int) (b : Bool) (x_28 x_29 x_30 x_31 x_32 x_33 : AL) (n_17 n_18 : Int) (S1 : St),R (.agg (ps x n n_16 b x_28 x_29 x_30
 x_31 x_32 x_33 n_17 n_18)) S1->true=true/\Q (.agg (ps x n n_16 b x_28 x_29 x_30 x_31 x_32 x_33 n_17 n_18))
 S1))))))))
 := by intros; kernel_rfl
end Go.Proofs.YtkdickfiifpblaaGreatDoor.D
namespace Go.Proofs.YtkdickfiifpblaaGreatDoor.D
open Go Go.Den Go.Proofs
set_option maxRecDepth 100000
variable {w0 : World}
def M (B : Nat) (X : PS → Prop) (v : AV) (S : St) : Prop := ∃ q : PS, v = q.av ∧ PF B q ∧ PR S q ∧ X q
def M2 (B : Nat) (X : PS → ByteArray → Prop) (v : AV) (S : St) : Prop := ∃ (q : PS) (s : ByteArray), v = .tup [q.av, str s] ∧ PF B q ∧ PR S q ∧ X q s
theorem M_loc {B : Nat} {X : PS → Prop} (v : AV) (S S' : St) (h : Same S S') (k : M B X v S) : M B X v S' := by
  obtain ⟨q, h1, h2, h3, h4⟩ := k
  exact ⟨q, h1, h2, h3.toks h, h4⟩
theorem M2_loc {B : Nat} {X : PS → ByteArray → Prop} (v : AV) (S S' : St) (h : Same S S') (k : M2 B X v S) : M2 B X v S' := by
  obtain ⟨q, s, h1, h2, h3, h4⟩ := k
  exact ⟨q, s, h1, h2, h3.toks h, h4⟩
def ShP (f : Nat) : Prop := ∃ fn, Tryz.prog.funcs[f]? = some fn ∧ ∀ q : PS, likeVs (tabOf Tryz.prog) fn.resultTypes.toList [q.av] = true
def ShP2 (f : Nat) : Prop := ∃ fn, Tryz.prog.funcs[f]? = some fn ∧ ∀ (q : PS) (s : ByteArray), likeVs (tabOf Tryz.prog) fn.resultTypes.toList [q.av, str s] = true
theorem M_sh {B : Nat} {X : PS → Prop} {f : Nat} (h : ShP f) (v : AV) (S : St) (k : M B X v S) : ∃ fn vs, Tryz.prog.funcs[f]? = some fn ∧ v = tupOf vs ∧ likeVs (tabOf Tryz.prog) fn.resultTypes.toList vs = true := by
  obtain ⟨q, rfl, _⟩ := k
  obtain ⟨fn, h1, h2⟩ := h
  exact ⟨fn, [q.av], h1, rfl, h2 q⟩
theorem M2_sh {B : Nat} {X : PS → ByteArray → Prop} {f : Nat} (h : ShP2 f) (v : AV) (S : St) (k : M2 B X v S) : ∃ fn vs, Tryz.prog.funcs[f]? = some fn ∧ v = tupOf vs ∧ likeVs (tabOf Tryz.prog) fn.resultTypes.toList vs = true := by
  obtain ⟨q, s, rfl, _⟩ := k
  obtain ⟨fn, h1, h2⟩ := h
  exact ⟨fn, [q.av, str s], h1, rfl, h2 q s⟩
structure At (B : Nat) (p : PS) (S0 : St) (t : Int) (q : PS) (S : St) : Prop where
  bx : Bx S0 S
  pf : PF B q
  pr : PR S q
  g0 : G0 p q
  on : q.bad < 0 → p.at_ + t ≤ q.at_
theorem At.start {B : Nat} {p : PS} {S : St} (h : pre B p S) : At B p S 0 p S := ⟨Bx.refl S, h.1, h.2, ⟨⟨rfl, rfl, Int.le_refl _, fun h => h⟩, fun _ => ⟨rfl, rfl, rfl⟩⟩, fun _ => by omega⟩
theorem At.pre {B : Nat} {p q : PS} {S0 S : St} {t : Int} (h : At B p S0 t q S) : pre B q S := ⟨h.pf, h.pr⟩
theorem At.ha {B : Nat} {p q : PS} {S0 S : St} (hp : PF B p) (h : At B p S0 1 q S) : q.bad < 0 → 1 ≤ q.at_ := fun hb => by
  have := h.on hb
  have := hp.at0
  omega
theorem At.ext {B : Nat} {p q : PS} {S0 S S' : St} {t : Int} (h : At B p S0 t q S) (k : Ext S S') : At B p S0 t q S' := ⟨h.bx.trans k.bx, h.pf, h.pr.ext k.2, h.g0, h.on⟩
theorem At.next {B : Nat} {p q : PS} {S0 S : St} {t : Int} (h : At B p S0 t q S) (h0 : 0 ≤ t) (hl : q.at_ < q.toks.length) : At B p S0 1 { q with at_ := q.at_ + 1 } S := by
  obtain ⟨b, hf, r, g, o⟩ := h
  have := hf.at0
  exact ⟨b, ⟨hf.tk, hf.ln, by show 0 ≤ q.at_ + 1; omega, by show q.at_ + 1 ≤ (q.toks.length : Int); omega, hf.en0, hf.en1, hf.bad0, hf.dp0, hf.dp1, hf.bi, hf.bs, hf.bx⟩, r.at (q.at_ + 1) q.bad q.deep,
    ⟨⟨g.toks, g.deep, by have := g.at_; show p.at_ ≤ q.at_ + 1; omega, g.nb⟩, g.same⟩, fun hb => by have := o hb; show p.at_ + 1 ≤ q.at_ + 1; omega⟩
def K1 (p q : PS) : Prop := G0 p q ∧ (q.bad < 0 → p.at_ < q.at_)
theorem At.by1 {B : Nat} {p q q2 : PS} {S0 S S2 : St} {t : Int} (h : At B p S0 t q S) (h0 : 0 ≤ t) (b : Bx S S2) (f : PF B q2) (r : PR S2 q2) (k : K1 q q2) : At B p S0 1 q2 S2 :=
  ⟨h.bx.trans b, f, r, h.g0.trans k.1, fun hb => by have := h.on (k.1.nb hb); have := k.2 hb; omega⟩
theorem At.by0 {B : Nat} {p q q2 : PS} {S0 S S2 : St} {t : Int} (h : At B p S0 t q S) (b : Bx S S2) (f : PF B q2) (r : PR S2 q2) (k : G0 q q2) : At B p S0 t q2 S2 :=
  ⟨h.bx.trans b, f, r, h.g0.trans k, fun hb => by have := h.on (k.nb hb); have := k.at_; omega⟩
theorem At.done {B : Nat} {p q : PS} {S0 S : St} (h : At B p S0 1 q S) : Bx S0 S ∧ M B (K1 p) q.av S := ⟨h.bx, q, rfl, h.pf, h.pr, h.g0, fun hb => by have := h.on hb; omega⟩
section
variable {G : AL → Int → Int → Bool → AL → AL → AL → AL → AL → AL → Int → Int → St → Prop} {G2 : AL → Int → Int → Bool → AL → AL → AL → AL → AL → AL → Int → Int → ByteArray → St → Prop}
variable {f : Nat} {args : List AV} {S S0 : St} {L : Lo} {B : Nat} {p q : PS} {t : Int}
theorem stP {pr : St → Prop} {X : PS → Prop} (h : CONP w0 f args pr (M B X)) (hp : pr S)
    (k : ∀ q S1, Bx S S1 → PF B q → PR S1 q → X q → G (.sl q.tt q.toks.length (tkCells q.toks)) q.at_ q.en q.sc q.xr q.xi q.xe q.xs q.xx q.xl q.bad q.deep S1) :
    ∃ R, (realHk Tryz.prog w0 (tabOf Tryz.prog)).1 f args S L R ∧ ∀ (x : AL) (n n_1 : Int) (b : Bool) (x_1 x_2 x_3 x_4 x_5 x_6 : AL) (n_2 n_3 : Int) (S1 : St), R (AV.agg [x, AL.int IntKind.i64 n, AL.int IntKind.i64 n_1, AL.bool b, x_1, x_2, x_3, x_4, x_5, x_6, AL.int IntKind.i64 n_2, AL.int IntKind.i64 n_3]) S1 → G x n n_1 b x_1 x_2 x_3 x_4 x_5 x_6 n_2 n_3 S1 := by
  refine ⟨_, h.use S L hp, ?_⟩
  rintro x n n1 b x1 x2 x3 x4 x5 x6 n2 n3 S1 ⟨hB, q, hq, h1, h2, h3⟩
  cases hq
  exact k q S1 hB h1 h2 h3
theorem stP2 {pr : St → Prop} {X : PS → ByteArray → Prop} (h : CONP w0 f args pr (M2 B X)) (hp : pr S)
    (k : ∀ q s S1, Bx S S1 → PF B q → PR S1 q → X q s → G2 (.sl q.tt q.toks.length (tkCells q.toks)) q.at_ q.en q.sc q.xr q.xi q.xe q.xs q.xx q.xl q.bad q.deep s S1) :
    ∃ R, (realHk Tryz.prog w0 (tabOf Tryz.prog)).1 f args S L R ∧ ∀ (x : AL) (n n_1 : Int) (b : Bool) (x_1 x_2 x_3 x_4 x_5 x_6 : AL) (n_2 n_3 : Int) (s : ByteArray) (S1 : St), R (AV.tup [AV.agg [x, AL.int IntKind.i64 n, AL.int IntKind.i64 n_1, AL.bool b, x_1, x_2, x_3, x_4, x_5, x_6, AL.int IntKind.i64 n_2, AL.int IntKind.i64 n_3], AV.one (AL.str s)]) S1 → G2 x n n_1 b x_1 x_2 x_3 x_4 x_5 x_6 n_2 n_3 s S1 := by
  refine ⟨_, h.use S L hp, ?_⟩
  rintro x n n1 b x1 x2 x3 x4 x5 x6 n2 n3 s S1 ⟨hB, q, s', hq, h1, h2, h3⟩
  cases hq
  exact k q s S1 hB h1 h2 h3
theorem st1 (h : CONP w0 f args (pre B q) (M B (K1 q))) (hA : At B p S0 t q S) (h0 : 0 ≤ t)
    (k : ∀ q S1, At B p S0 1 q S1 → G (.sl q.tt q.toks.length (tkCells q.toks)) q.at_ q.en q.sc q.xr q.xi q.xe q.xs q.xx q.xl q.bad q.deep S1) :
    ∃ R, (realHk Tryz.prog w0 (tabOf Tryz.prog)).1 f args S L R ∧ ∀ (x : AL) (n n_1 : Int) (b : Bool) (x_1 x_2 x_3 x_4 x_5 x_6 : AL) (n_2 n_3 : Int) (S1 : St), R (AV.agg [x, AL.int IntKind.i64 n, AL.int IntKind.i64 n_1, AL.bool b, x_1, x_2, x_3, x_4, x_5, x_6, AL.int IntKind.i64 n_2, AL.int IntKind.i64 n_3]) S1 → G x n n_1 b x_1 x_2 x_3 x_4 x_5 x_6 n_2 n_3 S1 :=
  stP h hA.pre fun q2 S1 b f r x => k q2 S1 (hA.by1 h0 b f r x)
theorem st0 (h : CONP w0 f args (pre B q) (M B (G0 q))) (hA : At B p S0 t q S)
    (k : ∀ q S1, At B p S0 t q S1 → G (.sl q.tt q.toks.length (tkCells q.toks)) q.at_ q.en q.sc q.xr q.xi q.xe q.xs q.xx q.xl q.bad q.deep S1) :
    ∃ R, (realHk Tryz.prog w0 (tabOf Tryz.prog)).1 f args S L R ∧ ∀ (x : AL) (n n_1 : Int) (b : Bool) (x_1 x_2 x_3 x_4 x_5 x_6 : AL) (n_2 n_3 : Int) (S1 : St), R (AV.agg [x, AL.int IntKind.i64 n, AL.int IntKind.i64 n_1, AL.bool b, x_1, x_2, x_3, x_4, x_5, x_6, AL.int IntKind.i64 n_2, AL.int IntKind.i64 n_3]) S1 → G x n n_1 b x_1 x_2 x_3 x_4 x_5 x_6 n_2 n_3 S1 :=
  stP h hA.pre fun q2 S1 b f r x => k q2 S1 (hA.by0 b f r x)
theorem stN {Y : PS → ByteArray → Prop} (h : CONP w0 f args (pre B q) (M2 B fun q2 s => K1 q q2 ∧ Y q2 s)) (hA : At B p S0 t q S) (h0 : 0 ≤ t)
    (k : ∀ q s S1, At B p S0 1 q S1 → Y q s → G2 (.sl q.tt q.toks.length (tkCells q.toks)) q.at_ q.en q.sc q.xr q.xi q.xe q.xs q.xx q.xl q.bad q.deep s S1) :
    ∃ R, (realHk Tryz.prog w0 (tabOf Tryz.prog)).1 f args S L R ∧ ∀ (x : AL) (n n_1 : Int) (b : Bool) (x_1 x_2 x_3 x_4 x_5 x_6 : AL) (n_2 n_3 : Int) (s : ByteArray) (S1 : St), R (AV.tup [AV.agg [x, AL.int IntKind.i64 n, AL.int IntKind.i64 n_1, AL.bool b, x_1, x_2, x_3, x_4, x_5, x_6, AL.int IntKind.i64 n_2, AL.int IntKind.i64 n_3], AV.one (AL.str s)]) S1 → G2 x n n_1 b x_1 x_2 x_3 x_4 x_5 x_6 n_2 n_3 s S1 :=
  stP2 h hA.pre fun q2 s S1 b f r x => k q2 s S1 (hA.by1 h0 b f r x.1) x.2
theorem stIs (hA : At B p S0 t q S) (kd : Int) (s : ByteArray) {H : Bool → St → Prop} (k : ∀ b S1, At B p S0 t q S1 → (b = true → NextIs q kd s) → H b S1) :
    ∃ R, (realHk Tryz.prog w0 (tabOf Tryz.prog)).1 75 [q.av, int kd, str s] S L R ∧ ∀ (b : Bool) (S1 : St), R (AV.one (AL.bool b)) S1 → H b S1 := by
  refine ⟨_, (l4Is_ok B q hA.pf kd s).use S _, ?_⟩
  rintro b S1 ⟨hE, b', hb, hn⟩
  cases hb
  exact k b S1 (hA.ext hE) hn
end
theorem Con.toP {f : Nat} {args : List AV} {r : AV → Prop} {B : Nat} {p : PS} {X : PS → Prop} (h : CON w0 f args r) (hs : ShP f)
    (k : ∀ v, r v → ∃ q : PS, v = q.av ∧ PF B q ∧ (∀ S, PR S p → PR S q) ∧ X q) : CONP w0 f args (pre B p) (M B X) := by
  refine ⟨fun S hp => (h.tot S).mono ?_, pre_loc, M_loc, M_sh hs⟩
  rintro v S' ⟨hE, hv⟩
  obtain ⟨q, h1, h2, h3, h4⟩ := k v hv
  exact ⟨hE.bx, q, h1, h2, h3 S' (hp.2.ext hE.2), h4⟩
theorem Con.toP2 {f : Nat} {args : List AV} {r : AV → Prop} {B : Nat} {p : PS} {X : PS → ByteArray → Prop} (h : CON w0 f args r) (hs : ShP2 f)
    (k : ∀ v, r v → ∃ (q : PS) (s : ByteArray), v = .tup [q.av, str s] ∧ PF B q ∧ (∀ S, PR S p → PR S q) ∧ X q s) : CONP w0 f args (pre B p) (M2 B X) := by
  refine ⟨fun S hp => (h.tot S).mono ?_, pre_loc, M2_loc, M2_sh hs⟩
  rintro v S' ⟨hE, hv⟩
  obtain ⟨q, s, h1, h2, h3, h4⟩ := k v hv
  exact ⟨hE.bx, q, s, h1, h2, h3 S' (hp.2.ext hE.2), h4⟩
theorem Bad.k1 {p q : PS} (k : Bad p q) : K1 p q := ⟨k.g0, fun h => by have := k.bad; omega⟩
theorem Took.k1 {p q : PS} (k : Took p q) : K1 p q := ⟨k.g0, k.on⟩
theorem took_k1 {p : PS} (h : p.bad < 0) : K1 p { p with at_ := p.at_ + 1 } := ⟨⟨⟨rfl, rfl, by show p.at_ ≤ p.at_ + 1; omega, fun _ => h⟩, fun _ => ⟨rfl, rfl, rfl⟩⟩, fun _ => by show p.at_ < p.at_ + 1; omega⟩
theorem l4Sign_c (B : Nat) (p : PS) (h : PF B p) (s : ByteArray) : CONP w0 80 [p.av, str s] (pre B p) (M B (K1 p)) :=
  Con.toP (l4Sign_ok B p h s) ⟨Tryz.f80, by kernel_rfl, fun q => by kernel_rfl⟩ fun v ⟨q, h1, h2⟩ => ⟨q, h1, h2.pf h, fun _ hr => h2.pr hr, h2.k1⟩
theorem l4Word_c (B : Nat) (p : PS) (h : PF B p) (s : ByteArray) : CONP w0 82 [p.av, str s] (pre B p) (M B (K1 p)) :=
  Con.toP (l4Word_ok B p h s) ⟨Tryz.f82, by kernel_rfl, fun q => by kernel_rfl⟩ fun v ⟨q, h1, h2⟩ => ⟨q, h1, h2.pf h, fun _ hr => h2.pr hr, h2.k1⟩
theorem l4Fail_c (B : Nat) (p : PS) (h : PF B p) : CONP w0 110 [p.av] (pre B p) (M B (K1 p)) :=
  Con.toP (l4Fail_ok B p h) ⟨Tryz.f110, by kernel_rfl, fun q => by kernel_rfl⟩ fun v ⟨q, h1, h2⟩ => ⟨q, h1, h2.pf h, fun _ hr => h2.pr hr, h2.k1⟩
theorem l4Name_c (B : Nat) (p : PS) (h : PF B p) (o : Bool) : CONP w0 84 [p.av, bool o] (pre B p) (M2 B fun q s => K1 p q ∧ (q.bad < 0 → Tname s) ∧ s.size ≤ B) := by
  refine Con.toP2 (l4Name_ok B p h o) ⟨Tryz.f84, by kernel_rfl, fun q s => by kernel_rfl⟩ ?_
  rintro v ⟨q, s, h1, hz, h2⟩
  refine ⟨q, s, h1, ?_⟩
  rcases h2 with ⟨a, b, rfl, d⟩ | h2
  · exact ⟨Took.pf h (.inl ⟨a, b, rfl⟩), fun S hr => hr.at (p.at_ + 1) p.bad p.deep, took_k1 a, fun _ => d, hz⟩
  · exact ⟨h2.pf h, fun S hr => h2.pr hr, h2.k1, fun hb => by have := h2.bad; omega, hz⟩
theorem ConP.to {f : Nat} {args : List AV} {pr : St → Prop} {r r' : AV → St → Prop} (h : CONP w0 f args pr r) (l : ∀ v S S', Same S S' → r' v S → r' v S')
    (sh : ∀ v S, r' v S → ∃ fn vs, Tryz.prog.funcs[f]? = some fn ∧ v = tupOf vs ∧ likeVs (tabOf Tryz.prog) fn.resultTypes.toList vs = true) (k : ∀ v S, r v S → r' v S) : CONP w0 f args pr r' := by
  refine ⟨fun S hp => (h.tot S hp).mono ?_, h.ploc, l, sh⟩
  rintro v S' ⟨hB, hv⟩
  exact ⟨hB, k v S' hv⟩
theorem l4Spec_c (B : Nat) (p : PS) : CONP w0 106 [p.av] (pre B p) (M2 B fun q _ => K1 p q ∧ True) := by
  refine ConP.to (l4Spec_ok B p) M2_loc (M2_sh ⟨Tryz.f106, by kernel_rfl, fun q s => by kernel_rfl⟩) ?_
  rintro v S ⟨q, s, h1, h2, h3, h4, h5⟩
  exact ⟨q, s, h1, h2, h3, ⟨h4, h5⟩, trivial⟩
theorem l4Tail_c (B : Nat) (p : PS) (s : ByteArray) (ha : p.bad < 0 → 1 ≤ p.at_) (hs : s.size ≤ B + 8) : CONP w0 129 [p.av, str s] (pre B p) (M B (G0 p)) := by
  refine ConP.to (l4Tail_ok B p s ha hs) M_loc (M_sh ⟨Tryz.f129, by kernel_rfl, fun q => by kernel_rfl⟩) fun v S h => h
theorem l4Add_c (B : Nat) (p : PS) (x : Er) (ha : p.bad < 0 → 1 ≤ p.at_) (hx : x.name.size ≤ B + 8) : CONP w0 112 [p.av, .agg [.int .i64 x.k, .int .i64 x.num, .str x.name, .str x.field, .int .i64 x.l, .int .i64 x.r]] (pre B p) (M B (G0 p)) :=
  ConP.to (l4Add_ok B p x ha hx) M_loc (M_sh ⟨Tryz.f112, by kernel_rfl, fun q => by kernel_rfl⟩) fun v S h => h
theorem l4Imp_c (B : Nat) (p : PS) (x : Im) (ha : p.bad < 0 → 1 ≤ p.at_) (hx : x.loc.size ≤ B + 8) : CONP w0 107 [p.av, .agg [.str x.spec, .str x.from_, .str x.loc]] (pre B p) (M B (G0 p)) :=
  ConP.to (l4Imp_ok B p x ha hx) M_loc (M_sh ⟨Tryz.f107, by kernel_rfl, fun q => by kernel_rfl⟩) fun v S h => h
noncomputable abbrev Sub (w0 : World) (f : Nat) (d : Nat) : Prop := ∀ B p, PF B p → 20 - p.deep ≤ d → CONP w0 f [p.av] (pre B p) (M B (K1 p))
def iProd (B : Nat) (p : PS) (S0 : St) : Nat → KE := fun m env S' L => ∃ q : PS, env = [(2, .loc 1 0), (1, .loc 0 0)] ∧ L = [(90, q.cs), (90, nlc)] ∧ At B p S0 1 q S' ∧ (m : Int) = q.toks.length - q.at_
theorem l4Product_of {d : Nat} (hP : Sub w0 123 d) : Sub w0 111 d := by
  intro B p hf hd
  refine ConP.of_gen (plans := np) hT hmo (nov := true) pre_loc M_loc (M_sh ⟨Tryz.f111, by kernel_rfl, fun q => by kernel_rfl⟩) (fun S hp => ?_)
  rw [v111]
  refine ⟨rfl, st1 (hP B p hf hd) (At.start hp) (Int.le_refl 0) ?_⟩
  intro q S1 hA
  have hm := hA.pf.at1
  refine ⟨[2, 1], iProd B p S, (q.toks.length - q.at_).toNat, ⟨q, rfl, rfl, hA, by omega⟩, ?_⟩

  rintro m env S1 L1 ⟨q, rfl, rfl, hA, hm⟩
  refine WSem.of hT hmo (nov := true) (plans := np) (f := 1000) ?_
  rw [b111_0]
  refine stIs hA _ _ fun b S2 hA hn => ⟨fun hb => ?_, fun hb => ?_⟩
  · obtain ⟨n1, n2, _⟩ := hn hb
    have hln := hA.pf.ln
    have hdp := hA.g0.deep
    have h0 := hA.pf.at0
    refine ⟨_, hA.pr.rx.len, by have := hA.pr.cx; unfold in64; omega, by unfold in64; omega, st1 (hP B { q with at_ := q.at_ + 1 } (hA.next (by omega) n2).pf (by show 20 - q.deep ≤ d; omega)) (At.start (hA.next (by omega) n2).pre) (Int.le_refl 0) ?_⟩
    intro q2 S3 hA2
    have hA3 : At B p S 1 q2 S3 := (hA.next (by omega) n2).by1 (by omega) hA2.bx hA2.pf hA2.pr ⟨hA2.g0, fun hb => by have := hA2.on hb; omega⟩
    have hat : q.at_ + 1 ≤ q2.at_ := hA2.g0.at_
    have htk : q2.toks = q.toks := hA2.g0.toks
    refine ⟨_, hA3.pr.rx.len, by have := hA3.pr.cx; unfold in64; omega, st0 (l4Add_c B q2 ⟨8, 0, ⟨⟨[]⟩⟩, ⟨⟨[]⟩⟩, _, _⟩ (hA3.ha hf) (Nat.zero_le _)) (At.start hA3.pre) ?_⟩
    intro q3 S4 hA4
    have hA5 := hA3.by0 hA4.bx hA4.pf hA4.pr hA4.g0
    have hat2 := hA4.g0.at_
    have htk2 := hA4.g0.toks
    refine loopK.again (L' := [(90, q3.cs), (90, nlc)]) (m' := (q3.toks.length - q3.at_).toNat) ⟨Nat.one_lt_two, Nat.zero_lt_two, trivial⟩ rfl ?_ ⟨q3, rfl, rfl, hA5, ?_⟩
    · rw [htk2, htk]
      omega
    · have := hA5.pf.at1
      omega
  · refine loopK.exit (L' := [(90, q.cs), (90, nlc)]) ⟨Nat.one_lt_two, Nat.zero_lt_two, trivial⟩ rfl (kont.of hT hmo (nov := true) (plans := np) (f := 1000) ?_)
    rw [x111_0]
    exact ⟨rfl, hA.done⟩
def iSum (B : Nat) (p : PS) (S0 : St) : Nat → KE := fun m env S' L => ∃ q : PS, env = [(2, .loc 1 0), (1, .loc 0 0)] ∧ L = [(90, q.cs), (90, nlc)] ∧ At B p S0 1 q S' ∧ (m : Int) = q.toks.length - q.at_
theorem l4Sum_of {d : Nat} (hP : Sub w0 111 d) : Sub w0 81 d := by
  intro B p hf hd
  refine ConP.of_gen (plans := np) hT hmo (nov := true) pre_loc M_loc (M_sh ⟨Tryz.f81, by kernel_rfl, fun q => by kernel_rfl⟩) (fun S hp => ?_)
  rw [v81]
  refine ⟨rfl, st1 (hP B p hf hd) (At.start hp) (Int.le_refl 0) ?_⟩
  intro q S1 hA
  have hm := hA.pf.at1
  refine ⟨[2, 1], iSum B p S, (q.toks.length - q.at_).toNat, ⟨q, rfl, rfl, hA, by omega⟩, ?_⟩
  rintro m env S1 L1 ⟨q, rfl, rfl, hA, hm⟩
  refine WSem.of hT hmo (nov := true) (plans := np) (f := 1000) ?_
  rw [b81_0]
  have hln := hA.pf.ln
  have hdp := hA.g0.deep
  have h0 := hA.pf.at0
  refine stIs hA _ _ fun b S2 hA hn => ⟨fun hb => ?_, fun hb => ?_⟩
  · have n2 := (hn hb).2.1
    refine stIs hA _ _ fun b2 S3 hA _ => ⟨fun _ => ?_, fun _ => ?_⟩
    · refine ⟨_, hA.pr.rx.len, by have := hA.pr.cx; unfold in64; omega, by unfold in64; omega, st1 (hP B { q with at_ := q.at_ + 1 } (hA.next (by omega) n2).pf (by show 20 - q.deep ≤ d; omega)) (At.start (hA.next (by omega) n2).pre) (Int.le_refl 0) ?_⟩
      intro q2 S3 hA2
      have hA3 : At B p S 1 q2 S3 := (hA.next (by omega) n2).by1 (by omega) hA2.bx hA2.pf hA2.pr ⟨hA2.g0, fun hb => by have := hA2.on hb; omega⟩
      have hat : q.at_ + 1 ≤ q2.at_ := hA2.g0.at_
      have htk : q2.toks = q.toks := hA2.g0.toks
      refine ⟨_, hA3.pr.rx.len, by have := hA3.pr.cx; unfold in64; omega, st0 (l4Add_c B q2 ⟨7, 0, ⟨⟨[]⟩⟩, ⟨⟨[]⟩⟩, _, _⟩ (hA3.ha hf) (Nat.zero_le _)) (At.start hA3.pre) ?_⟩
      intro q3 S4 hA4
      have hA5 := hA3.by0 hA4.bx hA4.pf hA4.pr hA4.g0
      have hat2 := hA4.g0.at_
      have htk2 := hA4.g0.toks
      refine loopK.again (L' := [(90, q3.cs), (90, nlc)]) (m' := (q3.toks.length - q3.at_).toNat) ⟨Nat.one_lt_two, Nat.zero_lt_two, trivial⟩ rfl ?_ ⟨q3, rfl, rfl, hA5, ?_⟩
      · rw [htk2, htk]
        omega
      · have := hA5.pf.at1
        omega
    · refine ⟨_, hA.pr.rx.len, by have := hA.pr.cx; unfold in64; omega, by unfold in64; omega, st1 (hP B { q with at_ := q.at_ + 1 } (hA.next (by omega) n2).pf (by show 20 - q.deep ≤ d; omega)) (At.start (hA.next (by omega) n2).pre) (Int.le_refl 0) ?_⟩
      intro q2 S3 hA2
      have hA3 : At B p S 1 q2 S3 := (hA.next (by omega) n2).by1 (by omega) hA2.bx hA2.pf hA2.pr ⟨hA2.g0, fun hb => by have := hA2.on hb; omega⟩
      have hat : q.at_ + 1 ≤ q2.at_ := hA2.g0.at_
      have htk : q2.toks = q.toks := hA2.g0.toks
      refine ⟨_, hA3.pr.rx.len, by have := hA3.pr.cx; unfold in64; omega, st0 (l4Add_c B q2 ⟨6, 0, ⟨⟨[]⟩⟩, ⟨⟨[]⟩⟩, _, _⟩ (hA3.ha hf) (Nat.zero_le _)) (At.start hA3.pre) ?_⟩
      intro q3 S4 hA4
      have hA5 := hA3.by0 hA4.bx hA4.pf hA4.pr hA4.g0
      have hat2 := hA4.g0.at_
      have htk2 := hA4.g0.toks
      refine loopK.again (L' := [(90, q3.cs), (90, nlc)]) (m' := (q3.toks.length - q3.at_).toNat) ⟨Nat.one_lt_two, Nat.zero_lt_two, trivial⟩ rfl ?_ ⟨q3, rfl, rfl, hA5, ?_⟩
      · rw [htk2, htk]
        omega
      · have := hA5.pf.at1
        omega
  · refine stIs hA _ _ fun b2 S3 hA hn => ⟨fun hb => ?_, fun hb => ?_⟩
    · have n2 := (hn hb).2.1
      refine stIs hA _ _ fun b2 S3 hA _ => ⟨fun _ => ?_, fun _ => ?_⟩
      · refine ⟨_, hA.pr.rx.len, by have := hA.pr.cx; unfold in64; omega, by unfold in64; omega, st1 (hP B { q with at_ := q.at_ + 1 } (hA.next (by omega) n2).pf (by show 20 - q.deep ≤ d; omega)) (At.start (hA.next (by omega) n2).pre) (Int.le_refl 0) ?_⟩
        intro q2 S3 hA2
        have hA3 : At B p S 1 q2 S3 := (hA.next (by omega) n2).by1 (by omega) hA2.bx hA2.pf hA2.pr ⟨hA2.g0, fun hb => by have := hA2.on hb; omega⟩
        have hat : q.at_ + 1 ≤ q2.at_ := hA2.g0.at_
        have htk : q2.toks = q.toks := hA2.g0.toks
        refine ⟨_, hA3.pr.rx.len, by have := hA3.pr.cx; unfold in64; omega, st0 (l4Add_c B q2 ⟨7, 0, ⟨⟨[]⟩⟩, ⟨⟨[]⟩⟩, _, _⟩ (hA3.ha hf) (Nat.zero_le _)) (At.start hA3.pre) ?_⟩
        intro q3 S4 hA4
        have hA5 := hA3.by0 hA4.bx hA4.pf hA4.pr hA4.g0
        have hat2 := hA4.g0.at_
        have htk2 := hA4.g0.toks
        refine loopK.again (L' := [(90, q3.cs), (90, nlc)]) (m' := (q3.toks.length - q3.at_).toNat) ⟨Nat.one_lt_two, Nat.zero_lt_two, trivial⟩ rfl ?_ ⟨q3, rfl, rfl, hA5, ?_⟩
        · rw [htk2, htk]
          omega
        · have := hA5.pf.at1
          omega
      · refine ⟨_, hA.pr.rx.len, by have := hA.pr.cx; unfold in64; omega, by unfold in64; omega, st1 (hP B { q with at_ := q.at_ + 1 } (hA.next (by omega) n2).pf (by show 20 - q.deep ≤ d; omega)) (At.start (hA.next (by omega) n2).pre) (Int.le_refl 0) ?_⟩
        intro q2 S3 hA2
        have hA3 : At B p S 1 q2 S3 := (hA.next (by omega) n2).by1 (by omega) hA2.bx hA2.pf hA2.pr ⟨hA2.g0, fun hb => by have := hA2.on hb; omega⟩
        have hat : q.at_ + 1 ≤ q2.at_ := hA2.g0.at_
        have htk : q2.toks = q.toks := hA2.g0.toks
        refine ⟨_, hA3.pr.rx.len, by have := hA3.pr.cx; unfold in64; omega, st0 (l4Add_c B q2 ⟨6, 0, ⟨⟨[]⟩⟩, ⟨⟨[]⟩⟩, _, _⟩ (hA3.ha hf) (Nat.zero_le _)) (At.start hA3.pre) ?_⟩
        intro q3 S4 hA4
        have hA5 := hA3.by0 hA4.bx hA4.pf hA4.pr hA4.g0
        have hat2 := hA4.g0.at_
        have htk2 := hA4.g0.toks
        refine loopK.again (L' := [(90, q3.cs), (90, nlc)]) (m' := (q3.toks.length - q3.at_).toNat) ⟨Nat.one_lt_two, Nat.zero_lt_two, trivial⟩ rfl ?_ ⟨q3, rfl, rfl, hA5, ?_⟩
        · rw [htk2, htk]
          omega
        · have := hA5.pf.at1
          omega
    · refine loopK.exit (L' := [(90, q.cs), (90, nlc)]) ⟨Nat.one_lt_two, Nat.zero_lt_two, trivial⟩ rfl (kont.of hT hmo (nov := true) (plans := np) (f := 1000) ?_)
      rw [x81_0]
      exact ⟨rfl, hA.done⟩
theorem l4Part_of {d : Nat} (hS : ∀ d', d' < d → Sub w0 81 d') : Sub w0 123 d := by
  intro B p hf hd
  refine ConP.of_gen (plans := np) hT hmo (nov := true) pre_loc M_loc (M_sh ⟨Tryz.f123, by kernel_rfl, fun q => by kernel_rfl⟩) (fun S hp => ?_)
  rw [v123]
  have hA := At.start hp
  have hln := hf.ln
  have h0 := hf.at0
  have h1 := hf.at1
  have hd0 := hf.dp0
  have hd1 := hf.dp1
  refine ⟨rfl, fun hb0 => ⟨_, rfl, fun hlt => ?_, fun _ => ?_⟩, fun _ => ?_⟩
  · have hlt := of_decide_eq_true hlt
    obtain ⟨t, htg, ht, g0, g1, g2, _⟩ := tk_get p.toks p.at_ h0 hlt
    have hA2 := hA.next (Int.le_refl 0) hlt
    refine ⟨_, _, _, rfl, h0, hlt, ⟨_, rfl, g0⟩, fun n hn => ⟨fun hk => ⟨_, _, _, rfl, h0, hlt, ⟨_, rfl, g2⟩, fun n' hn' => ⟨by unfold in64; omega, st0 (l4Add_c B { p with at_ := p.at_ + 1 } ⟨1, n', ⟨⟨[]⟩⟩, ⟨⟨[]⟩⟩, 0, 0⟩ (hA2.ha hf) (Nat.zero_le _)) hA2 fun q S1 hA => ⟨rfl, hA.done⟩⟩⟩, fun _ => ?_⟩⟩
    refine stIs hA _ _ fun b S1 hA hn => ⟨fun hb => ⟨fun _ => st1 (l4Fail_c B p hf) hA (Int.le_refl 0) fun q S2 hA => ⟨rfl, hA.done⟩, fun hdp => ⟨by unfold in64; omega, by unfold in64; omega, ?_⟩⟩, fun _ => ?_⟩
    · have n2 := (hn hb).2.1
      have hdp := of_decide_eq_false hdp
      have hA1 : At B { p with at_ := p.at_ + 1, deep := p.deep + 1 } S1 0 { p with at_ := p.at_ + 1, deep := p.deep + 1 } S1 := At.start ⟨⟨hf.tk, hf.ln, by show 0 ≤ p.at_ + 1; omega, by show p.at_ + 1 ≤ (p.toks.length : Int); omega, hf.en0, hf.en1, hf.bad0, by show 0 ≤ p.deep + 1; omega, by show p.deep + 1 ≤ 20; omega, hf.bi, hf.bs, hf.bx⟩, hA.pr.at (p.at_ + 1) p.bad (p.deep + 1)⟩
      refine st1 (hS (d - 1) (by omega) B { p with at_ := p.at_ + 1, deep := p.deep + 1 } hA1.pf (by show 20 - (p.deep + 1) ≤ ((d - 1 : Nat) : Int); omega)) hA1 (Int.le_refl 0) fun q S2 hA2 => st1 (l4Sign_c B q hA2.pf _) hA2 (by omega) fun q2 S3 hA3 => ?_
      have e0 := hA3.pf.dp0
      have e1 := hA3.pf.dp1
      have e2 : q2.deep = p.deep + 1 := hA3.g0.deep
      have e3 : p.at_ + 1 ≤ q2.at_ := hA3.g0.at_
      have e4 : q2.toks = p.toks := hA3.g0.toks
      refine ⟨by unfold in64; omega, rfl, hA.bx.trans hA3.bx, { q2 with deep := q2.deep - 1 }, rfl, ⟨hA3.pf.tk, hA3.pf.ln, hA3.pf.at0, hA3.pf.at1, hA3.pf.en0, hA3.pf.en1, hA3.pf.bad0, by show 0 ≤ q2.deep - 1; omega, by show q2.deep - 1 ≤ 20; omega, hA3.pf.bi, hA3.pf.bs, hA3.pf.bx⟩, hA3.pr.at q2.at_ q2.bad (q2.deep - 1), ⟨⟨e4, by show q2.deep - 1 = p.deep; omega, by show p.at_ ≤ q2.at_; omega, hA3.g0.nb⟩, hA3.g0.same⟩, fun hb => by show p.at_ < q2.at_; omega⟩
    · refine ⟨fun _ => stIs hA _ _ fun b S2 hA hn => ⟨fun hb => ?_, fun _ => ?_⟩, fun _ => ?_⟩
      · have n2 := (hn hb).2.1
        have hA2 := hA.next (by omega) n2
        exact ⟨by unfold in64; omega, st0 (l4Tail_c B { p with at_ := p.at_ + 1 } _ (hA2.ha hf) (show 5 ≤ B + 8 by omega)) hA2 fun q S3 hA => ⟨rfl, hA.done⟩⟩
      · refine stN (l4Name_c B p hf false) hA (Int.le_refl 0) fun q s S3 hA2 hz => ⟨fun _ => ⟨rfl, hA2.done⟩, fun _ => stIs hA2 _ _ fun b S4 hA2 hn => ⟨fun _ => st0 (l4Tail_c B q s (hA2.ha hf) (Nat.le_trans hz.2 (Nat.le_add_right _ _))) hA2 fun q S5 hA => ⟨rfl, hA.done⟩, fun hb => ?_⟩⟩
        have n2 := (hn (by simpa using hb)).2.1
        have hln := hA2.pf.ln
        have h0 := hA2.pf.at0
        have hA2 := hA2.next (by omega) n2
        refine ⟨by unfold in64; omega, stN (l4Name_c B { q with at_ := q.at_ + 1 } hA2.pf true) hA2 (by omega) fun r f S5 hA3 _ => stIs hA3 _ _ fun b S6 hA3 _ => ⟨fun _ => st1 (l4Sign_c B r hA3.pf _) hA3 (by omega) fun r2 S7 hA4 => st1 (l4Sign_c B r2 hA4.pf _) hA4 (by omega) fun r3 S8 hA5 => st0 (l4Add_c B r3 ⟨5, 0, s, f, 0, 0⟩ (hA5.ha hf) (Nat.le_trans hz.2 (Nat.le_add_right _ _))) hA5 fun r4 S9 hA6 => ⟨rfl, hA6.done⟩, fun _ => st0 (l4Add_c B r ⟨4, 0, s, f, 0, 0⟩ (hA3.ha hf) (Nat.le_trans hz.2 (Nat.le_add_right _ _))) hA3 fun r4 S9 hA6 => ⟨rfl, hA6.done⟩⟩⟩
      · refine stN (l4Name_c B p hf false) hA (Int.le_refl 0) fun q s S3 hA2 hz => ⟨fun _ => ⟨rfl, hA2.done⟩, fun _ => stIs hA2 _ _ fun b S4 hA2 hn => ⟨fun _ => st0 (l4Tail_c B q s (hA2.ha hf) (Nat.le_trans hz.2 (Nat.le_add_right _ _))) hA2 fun q S5 hA => ⟨rfl, hA.done⟩, fun hb => ?_⟩⟩
        have n2 := (hn (by simpa using hb)).2.1
        have hln := hA2.pf.ln
        have h0 := hA2.pf.at0
        have hA2 := hA2.next (by omega) n2
        refine ⟨by unfold in64; omega, stN (l4Name_c B { q with at_ := q.at_ + 1 } hA2.pf true) hA2 (by omega) fun r f S5 hA3 _ => stIs hA3 _ _ fun b S6 hA3 _ => ⟨fun _ => st1 (l4Sign_c B r hA3.pf _) hA3 (by omega) fun r2 S7 hA4 => st1 (l4Sign_c B r2 hA4.pf _) hA4 (by omega) fun r3 S8 hA5 => st0 (l4Add_c B r3 ⟨5, 0, s, f, 0, 0⟩ (hA5.ha hf) (Nat.le_trans hz.2 (Nat.le_add_right _ _))) hA5 fun r4 S9 hA6 => ⟨rfl, hA6.done⟩, fun _ => st0 (l4Add_c B r ⟨4, 0, s, f, 0, 0⟩ (hA3.ha hf) (Nat.le_trans hz.2 (Nat.le_add_right _ _))) hA3 fun r4 S9 hA6 => ⟨rfl, hA6.done⟩⟩⟩
  · refine stIs hA _ _ fun b S1 hA hn => ⟨fun hb => ⟨fun _ => st1 (l4Fail_c B p hf) hA (Int.le_refl 0) fun q S2 hA => ⟨rfl, hA.done⟩, fun hdp => ⟨by unfold in64; omega, by unfold in64; omega, ?_⟩⟩, fun _ => ?_⟩
    · have n2 := (hn hb).2.1
      have hdp := of_decide_eq_false hdp
      have hA1 : At B { p with at_ := p.at_ + 1, deep := p.deep + 1 } S1 0 { p with at_ := p.at_ + 1, deep := p.deep + 1 } S1 := At.start ⟨⟨hf.tk, hf.ln, by show 0 ≤ p.at_ + 1; omega, by show p.at_ + 1 ≤ (p.toks.length : Int); omega, hf.en0, hf.en1, hf.bad0, by show 0 ≤ p.deep + 1; omega, by show p.deep + 1 ≤ 20; omega, hf.bi, hf.bs, hf.bx⟩, hA.pr.at (p.at_ + 1) p.bad (p.deep + 1)⟩
      refine st1 (hS (d - 1) (by omega) B { p with at_ := p.at_ + 1, deep := p.deep + 1 } hA1.pf (by show 20 - (p.deep + 1) ≤ ((d - 1 : Nat) : Int); omega)) hA1 (Int.le_refl 0) fun q S2 hA2 => st1 (l4Sign_c B q hA2.pf _) hA2 (by omega) fun q2 S3 hA3 => ?_
      have e0 := hA3.pf.dp0
      have e1 := hA3.pf.dp1
      have e2 : q2.deep = p.deep + 1 := hA3.g0.deep
      have e3 : p.at_ + 1 ≤ q2.at_ := hA3.g0.at_
      have e4 : q2.toks = p.toks := hA3.g0.toks
      refine ⟨by unfold in64; omega, rfl, hA.bx.trans hA3.bx, { q2 with deep := q2.deep - 1 }, rfl, ⟨hA3.pf.tk, hA3.pf.ln, hA3.pf.at0, hA3.pf.at1, hA3.pf.en0, hA3.pf.en1, hA3.pf.bad0, by show 0 ≤ q2.deep - 1; omega, by show q2.deep - 1 ≤ 20; omega, hA3.pf.bi, hA3.pf.bs, hA3.pf.bx⟩, hA3.pr.at q2.at_ q2.bad (q2.deep - 1), ⟨⟨e4, by show q2.deep - 1 = p.deep; omega, by show p.at_ ≤ q2.at_; omega, hA3.g0.nb⟩, hA3.g0.same⟩, fun hb => by show p.at_ < q2.at_; omega⟩
    · refine ⟨fun _ => stIs hA _ _ fun b S2 hA hn => ⟨fun hb => ?_, fun _ => ?_⟩, fun _ => ?_⟩
      · have n2 := (hn hb).2.1
        have hA2 := hA.next (by omega) n2
        exact ⟨by unfold in64; omega, st0 (l4Tail_c B { p with at_ := p.at_ + 1 } _ (hA2.ha hf) (show 5 ≤ B + 8 by omega)) hA2 fun q S3 hA => ⟨rfl, hA.done⟩⟩
      · refine stN (l4Name_c B p hf false) hA (Int.le_refl 0) fun q s S3 hA2 hz => ⟨fun _ => ⟨rfl, hA2.done⟩, fun _ => stIs hA2 _ _ fun b S4 hA2 hn => ⟨fun _ => st0 (l4Tail_c B q s (hA2.ha hf) (Nat.le_trans hz.2 (Nat.le_add_right _ _))) hA2 fun q S5 hA => ⟨rfl, hA.done⟩, fun hb => ?_⟩⟩
        have n2 := (hn (by simpa using hb)).2.1
        have hln := hA2.pf.ln
        have h0 := hA2.pf.at0
        have hA2 := hA2.next (by omega) n2
        refine ⟨by unfold in64; omega, stN (l4Name_c B { q with at_ := q.at_ + 1 } hA2.pf true) hA2 (by omega) fun r f S5 hA3 _ => stIs hA3 _ _ fun b S6 hA3 _ => ⟨fun _ => st1 (l4Sign_c B r hA3.pf _) hA3 (by omega) fun r2 S7 hA4 => st1 (l4Sign_c B r2 hA4.pf _) hA4 (by omega) fun r3 S8 hA5 => st0 (l4Add_c B r3 ⟨5, 0, s, f, 0, 0⟩ (hA5.ha hf) (Nat.le_trans hz.2 (Nat.le_add_right _ _))) hA5 fun r4 S9 hA6 => ⟨rfl, hA6.done⟩, fun _ => st0 (l4Add_c B r ⟨4, 0, s, f, 0, 0⟩ (hA3.ha hf) (Nat.le_trans hz.2 (Nat.le_add_right _ _))) hA3 fun r4 S9 hA6 => ⟨rfl, hA6.done⟩⟩⟩
      · refine stN (l4Name_c B p hf false) hA (Int.le_refl 0) fun q s S3 hA2 hz => ⟨fun _ => ⟨rfl, hA2.done⟩, fun _ => stIs hA2 _ _ fun b S4 hA2 hn => ⟨fun _ => st0 (l4Tail_c B q s (hA2.ha hf) (Nat.le_trans hz.2 (Nat.le_add_right _ _))) hA2 fun q S5 hA => ⟨rfl, hA.done⟩, fun hb => ?_⟩⟩
        have n2 := (hn (by simpa using hb)).2.1
        have hln := hA2.pf.ln
        have h0 := hA2.pf.at0
        have hA2 := hA2.next (by omega) n2
        refine ⟨by unfold in64; omega, stN (l4Name_c B { q with at_ := q.at_ + 1 } hA2.pf true) hA2 (by omega) fun r f S5 hA3 _ => stIs hA3 _ _ fun b S6 hA3 _ => ⟨fun _ => st1 (l4Sign_c B r hA3.pf _) hA3 (by omega) fun r2 S7 hA4 => st1 (l4Sign_c B r2 hA4.pf _) hA4 (by omega) fun r3 S8 hA5 => st0 (l4Add_c B r3 ⟨5, 0, s, f, 0, 0⟩ (hA5.ha hf) (Nat.le_trans hz.2 (Nat.le_add_right _ _))) hA5 fun r4 S9 hA6 => ⟨rfl, hA6.done⟩, fun _ => st0 (l4Add_c B r ⟨4, 0, s, f, 0, 0⟩ (hA3.ha hf) (Nat.le_trans hz.2 (Nat.le_add_right _ _))) hA3 fun r4 S9 hA6 => ⟨rfl, hA6.done⟩⟩⟩
  · refine stIs hA _ _ fun b S1 hA hn => ⟨fun hb => ⟨fun _ => st1 (l4Fail_c B p hf) hA (Int.le_refl 0) fun q S2 hA => ⟨rfl, hA.done⟩, fun hdp => ⟨by unfold in64; omega, by unfold in64; omega, ?_⟩⟩, fun _ => ?_⟩
    · have n2 := (hn hb).2.1
      have hdp := of_decide_eq_false hdp
      have hA1 : At B { p with at_ := p.at_ + 1, deep := p.deep + 1 } S1 0 { p with at_ := p.at_ + 1, deep := p.deep + 1 } S1 := At.start ⟨⟨hf.tk, hf.ln, by show 0 ≤ p.at_ + 1; omega, by show p.at_ + 1 ≤ (p.toks.length : Int); omega, hf.en0, hf.en1, hf.bad0, by show 0 ≤ p.deep + 1; omega, by show p.deep + 1 ≤ 20; omega, hf.bi, hf.bs, hf.bx⟩, hA.pr.at (p.at_ + 1) p.bad (p.deep + 1)⟩
      refine st1 (hS (d - 1) (by omega) B { p with at_ := p.at_ + 1, deep := p.deep + 1 } hA1.pf (by show 20 - (p.deep + 1) ≤ ((d - 1 : Nat) : Int); omega)) hA1 (Int.le_refl 0) fun q S2 hA2 => st1 (l4Sign_c B q hA2.pf _) hA2 (by omega) fun q2 S3 hA3 => ?_
      have e0 := hA3.pf.dp0
      have e1 := hA3.pf.dp1
      have e2 : q2.deep = p.deep + 1 := hA3.g0.deep
      have e3 : p.at_ + 1 ≤ q2.at_ := hA3.g0.at_
      have e4 : q2.toks = p.toks := hA3.g0.toks
      refine ⟨by unfold in64; omega, rfl, hA.bx.trans hA3.bx, { q2 with deep := q2.deep - 1 }, rfl, ⟨hA3.pf.tk, hA3.pf.ln, hA3.pf.at0, hA3.pf.at1, hA3.pf.en0, hA3.pf.en1, hA3.pf.bad0, by show 0 ≤ q2.deep - 1; omega, by show q2.deep - 1 ≤ 20; omega, hA3.pf.bi, hA3.pf.bs, hA3.pf.bx⟩, hA3.pr.at q2.at_ q2.bad (q2.deep - 1), ⟨⟨e4, by show q2.deep - 1 = p.deep; omega, by show p.at_ ≤ q2.at_; omega, hA3.g0.nb⟩, hA3.g0.same⟩, fun hb => by show p.at_ < q2.at_; omega⟩
    · refine ⟨fun _ => stIs hA _ _ fun b S2 hA hn => ⟨fun hb => ?_, fun _ => ?_⟩, fun _ => ?_⟩
      · have n2 := (hn hb).2.1
        have hA2 := hA.next (by omega) n2
        exact ⟨by unfold in64; omega, st0 (l4Tail_c B { p with at_ := p.at_ + 1 } _ (hA2.ha hf) (show 5 ≤ B + 8 by omega)) hA2 fun q S3 hA => ⟨rfl, hA.done⟩⟩
      · refine stN (l4Name_c B p hf false) hA (Int.le_refl 0) fun q s S3 hA2 hz => ⟨fun _ => ⟨rfl, hA2.done⟩, fun _ => stIs hA2 _ _ fun b S4 hA2 hn => ⟨fun _ => st0 (l4Tail_c B q s (hA2.ha hf) (Nat.le_trans hz.2 (Nat.le_add_right _ _))) hA2 fun q S5 hA => ⟨rfl, hA.done⟩, fun hb => ?_⟩⟩
        have n2 := (hn (by simpa using hb)).2.1
        have hln := hA2.pf.ln
        have h0 := hA2.pf.at0
        have hA2 := hA2.next (by omega) n2
        refine ⟨by unfold in64; omega, stN (l4Name_c B { q with at_ := q.at_ + 1 } hA2.pf true) hA2 (by omega) fun r f S5 hA3 _ => stIs hA3 _ _ fun b S6 hA3 _ => ⟨fun _ => st1 (l4Sign_c B r hA3.pf _) hA3 (by omega) fun r2 S7 hA4 => st1 (l4Sign_c B r2 hA4.pf _) hA4 (by omega) fun r3 S8 hA5 => st0 (l4Add_c B r3 ⟨5, 0, s, f, 0, 0⟩ (hA5.ha hf) (Nat.le_trans hz.2 (Nat.le_add_right _ _))) hA5 fun r4 S9 hA6 => ⟨rfl, hA6.done⟩, fun _ => st0 (l4Add_c B r ⟨4, 0, s, f, 0, 0⟩ (hA3.ha hf) (Nat.le_trans hz.2 (Nat.le_add_right _ _))) hA3 fun r4 S9 hA6 => ⟨rfl, hA6.done⟩⟩⟩
      · refine stN (l4Name_c B p hf false) hA (Int.le_refl 0) fun q s S3 hA2 hz => ⟨fun _ => ⟨rfl, hA2.done⟩, fun _ => stIs hA2 _ _ fun b S4 hA2 hn => ⟨fun _ => st0 (l4Tail_c B q s (hA2.ha hf) (Nat.le_trans hz.2 (Nat.le_add_right _ _))) hA2 fun q S5 hA => ⟨rfl, hA.done⟩, fun hb => ?_⟩⟩
        have n2 := (hn (by simpa using hb)).2.1
        have hln := hA2.pf.ln
        have h0 := hA2.pf.at0
        have hA2 := hA2.next (by omega) n2
        refine ⟨by unfold in64; omega, stN (l4Name_c B { q with at_ := q.at_ + 1 } hA2.pf true) hA2 (by omega) fun r f S5 hA3 _ => stIs hA3 _ _ fun b S6 hA3 _ => ⟨fun _ => st1 (l4Sign_c B r hA3.pf _) hA3 (by omega) fun r2 S7 hA4 => st1 (l4Sign_c B r2 hA4.pf _) hA4 (by omega) fun r3 S8 hA5 => st0 (l4Add_c B r3 ⟨5, 0, s, f, 0, 0⟩ (hA5.ha hf) (Nat.le_trans hz.2 (Nat.le_add_right _ _))) hA5 fun r4 S9 hA6 => ⟨rfl, hA6.done⟩, fun _ => st0 (l4Add_c B r ⟨4, 0, s, f, 0, 0⟩ (hA3.ha hf) (Nat.le_trans hz.2 (Nat.le_add_right _ _))) hA3 fun r4 S9 hA6 => ⟨rfl, hA6.done⟩⟩⟩
theorem l4Sum_all : ∀ d : Nat, Sub w0 81 d := by
  intro d
  induction d using Nat.strongRecOn with
  | ind d ih => exact l4Sum_of (l4Product_of (l4Part_of ih))
theorem l4Sum_c (B : Nat) (p : PS) (h : PF B p) : CONP w0 81 [p.av] (pre B p) (M B (K1 p)) := l4Sum_all 20 B p h (by have := h.dp0; omega)
end Go.Proofs.YtkdickfiifpblaaGreatDoor.D
namespace Go.Proofs.YtkdickfiifpblaaGreatDoor.D
open Go Go.Den Go.Proofs
set_option maxRecDepth 100000
variable {w0 : World}
theorem l4Stmt_c (B : Nat) (p : PS) (k : Int) (name : ByteArray) (ha : p.bad < 0 → 1 ≤ p.at_) (hx : name.size ≤ B + 8) : CONP w0 83 [p.av, int k, str name] (pre B p) (M B fun q => TookS p q k name) :=
  ConP.to (l4Stmt_ok B p k name ha hx) M_loc (M_sh ⟨Tryz.f83, by kernel_rfl, fun q => by kernel_rfl⟩) fun v S h => h
theorem l4Exp_c (B : Nat) (p : PS) (x : Xp) (ha : p.bad < 0 → 1 ≤ p.at_) : CONP w0 109 [p.av, .agg [.int .i64 x.k, .str x.name, .str x.loc, .str x.spec]] (pre B p) (M B fun q => TookE p q x) :=
  ConP.to (l4Exp_ok B p x ha) M_loc (M_sh ⟨Tryz.f109, by kernel_rfl, fun q => by kernel_rfl⟩) fun v S h => h
def TookN (p q : PS) (k : Int) (s : ByteArray) : Prop := TookS p q k s ∧ (q.bad < 0 → Tname s ∧ p.at_ < q.at_)
theorem At.join {B : Nat} {p q q2 : PS} {S0 S S2 : St} (h : At B p S0 1 q S) (k : At B q S 1 q2 S2) : At B p S0 1 q2 S2 :=
  h.by1 (by omega) k.bx k.pf k.pr ⟨k.g0, fun hb => by have := k.on hb; omega⟩
theorem TookS.after {B : Nat} {p q r : PS} {S0 S : St} {k : Int} {s : ByteArray} (h : At B p S0 1 q S) (x : TookS q r k s) : TookS p r k s := by
  refine ⟨h.g0.toG.trans x.1, fun hb => ?_⟩
  obtain ⟨a, b, e, c⟩ := x.2 hb
  obtain ⟨d1, d2, d3⟩ := h.g0.same (x.1.nb hb)
  exact ⟨a.trans d2, b.trans d3, e, by rw [c, d1]⟩
theorem l4Let_c (B : Nat) (p : PS) : CONP w0 78 [p.av] (pre B p) (M2 B fun q s => TookN p q 1 s) := by
  refine ConP.of_gen (plans := np) hT hmo (nov := true) pre_loc M2_loc (M2_sh ⟨Tryz.f78, by kernel_rfl, fun q s => by kernel_rfl⟩) (fun S hp => ?_)
  rw [v78]
  refine ⟨rfl, st1 (l4Word_c B p hp.1 _) (At.start hp) (Int.le_refl 0) fun q1 S1 h1 => stN (l4Name_c B q1 h1.pf false) h1 (by omega) fun q2 n S2 h2 hn =>
    st1 (l4Sign_c B q2 h2.pf _) (At.start h2.pre) (by omega) fun q3 S3 h3 => st1 (l4Sum_c B q3 h3.pf) h3 (by omega) fun q4 S4 h4 => st1 (l4Sign_c B q4 h4.pf _) h4 (by omega) fun q5 S5 h5 =>
    stP (l4Stmt_c B q5 1 n ((h2.join h5).ha hp.1) (Nat.le_trans hn.2 (Nat.le_add_right _ _))) h5.pre fun q6 S6 b f r x => ⟨rfl, (h2.join h5).bx.trans b, q6, n, rfl, f, r, x.after (h2.join h5), fun hb => ?_⟩⟩
  have hb5 := x.1.nb hb
  have := (h2.join h5).on hb5
  have := x.1.at_
  exact ⟨hn.1 (h5.g0.nb hb5), by omega⟩
theorem l4Fn_c (B : Nat) (p : PS) : CONP w0 79 [p.av] (pre B p) (M2 B fun q s => TookN p q 2 s) := by
  refine ConP.of_gen (plans := np) hT hmo (nov := true) pre_loc M2_loc (M2_sh ⟨Tryz.f79, by kernel_rfl, fun q s => by kernel_rfl⟩) (fun S hp => ?_)
  rw [v79]
  refine ⟨rfl, st1 (l4Word_c B p hp.1 _) (At.start hp) (Int.le_refl 0) fun q1 S1 h1 => stN (l4Name_c B q1 h1.pf false) h1 (by omega) fun q2 n S2 h2 hn =>
    st1 (l4Sign_c B q2 h2.pf _) (At.start h2.pre) (by omega) fun q3 S3 h3 => st1 (l4Sign_c B q3 h3.pf _) h3 (by omega) fun q4 S4 h4 => st1 (l4Sign_c B q4 h4.pf _) h4 (by omega) fun q5 S5 h5 =>
    st1 (l4Word_c B q5 h5.pf _) h5 (by omega) fun q6 S6 h6 => st1 (l4Sum_c B q6 h6.pf) h6 (by omega) fun q7 S7 h7 => st1 (l4Sign_c B q7 h7.pf _) h7 (by omega) fun q8 S8 h8 => st1 (l4Sign_c B q8 h8.pf _) h8 (by omega) fun q9 S9 h9 =>
    stP (l4Stmt_c B q9 2 n ((h2.join h9).ha hp.1) (Nat.le_trans hn.2 (Nat.le_add_right _ _))) h9.pre fun qa Sa b f r x => ⟨rfl, (h2.join h9).bx.trans b, qa, n, rfl, f, r, x.after (h2.join h9), fun hb => ?_⟩⟩
  have hb5 := x.1.nb hb
  have := (h2.join h9).on hb5
  have := x.1.at_
  exact ⟨hn.1 (h9.g0.nb hb5), by omega⟩
structure RowX (B : Nat) (q : PS) (x : AL) (xs : List Xp) (S : St) : Prop where
  row : Row S 72 4 x xs.length (xs.flatMap Xp.cells)
  ar : Ap q.xr x
  ai : Ap q.xi x
  ae : Ap q.xe x
  as_ : Ap q.xs x
  ax : Ap q.xx x
  al : Ap q.xl x
  ln : xs.length ≤ 4001
  bd : ∀ x, x ∈ xs → x.name.size ≤ B
theorem Took.rowx {p q : PS} {B : Nat} {x : AL} {xs : List Xp} {S S' : St} (h : RowX B p x xs S) (k : Took p q) (e : Ext S S') : RowX B q x xs S' := by
  rcases k with ⟨_, _, rfl⟩ | ⟨b, _, rfl⟩ <;> exact ⟨h.row.ext e.2, h.ar, h.ai, h.ae, h.as_, h.ax, h.al, h.ln, h.bd⟩
section
variable {G : AL → Int → Int → Bool → AL → AL → AL → AL → AL → AL → Int → Int → St → Prop} {G2 : AL → Int → Int → Bool → AL → AL → AL → AL → AL → AL → Int → Int → ByteArray → St → Prop}
variable {f : Nat} {args : List AV} {S S0 : St} {L : Lo} {B : Nat} {p q : PS} {t : Int} {x : AL} {xs : List Xp}
theorem stNX (hA : At B p S0 t q S) (hx : RowX B q x xs S) (h0 : 0 ≤ t) (o : Bool)
    (k : ∀ q2 s S1, At B p S0 1 q2 S1 → RowX B q2 x xs S1 → K1 q q2 → s.size ≤ B → G2 (.sl q2.tt q2.toks.length (tkCells q2.toks)) q2.at_ q2.en q2.sc q2.xr q2.xi q2.xe q2.xs q2.xx q2.xl q2.bad q2.deep s S1) :
    ∃ R, (realHk Tryz.prog w0 (tabOf Tryz.prog)).1 84 [q.av, bool o] S L R ∧ ∀ (x : AL) (n n_1 : Int) (b : Bool) (x_1 x_2 x_3 x_4 x_5 x_6 : AL) (n_2 n_3 : Int) (s : ByteArray) (S1 : St), R (AV.tup [AV.agg [x, AL.int IntKind.i64 n, AL.int IntKind.i64 n_1, AL.bool b, x_1, x_2, x_3, x_4, x_5, x_6, AL.int IntKind.i64 n_2, AL.int IntKind.i64 n_3], AV.one (AL.str s)]) S1 → G2 x n n_1 b x_1 x_2 x_3 x_4 x_5 x_6 n_2 n_3 s S1 := by
  refine ⟨_, (l4Name_ok B q hA.pf o).use S L, ?_⟩
  rintro x n n1 b x1 x2 x3 x4 x5 x6 n2 n3 s S1 ⟨hE, q2, s2, hq, hz, hc⟩
  cases hq
  have hk : Took q q2 := by
    rcases hc with ⟨a, b, c, _⟩ | hc
    · exact .inl ⟨a, b, c⟩
    · exact .inr hc
  exact k q2 s S1 (hA.by1 h0 hE.bx (hk.pf hA.pf) ((hk.pr hA.pr).ext hE.2) hk.k1) (hk.rowx hx hE) hk.k1 hz
theorem stIsX (hA : At B p S0 t q S) (hx : RowX B q x xs S) (kd : Int) (s : ByteArray) {H : Bool → St → Prop} (k : ∀ b S1, At B p S0 t q S1 → RowX B q x xs S1 → (b = true → NextIs q kd s) → H b S1) :
    ∃ R, (realHk Tryz.prog w0 (tabOf Tryz.prog)).1 75 [q.av, int kd, str s] S L R ∧ ∀ (b : Bool) (S1 : St), R (AV.one (AL.bool b)) S1 → H b S1 := by
  refine ⟨_, (l4Is_ok B q hA.pf kd s).use S _, ?_⟩
  rintro b S1 ⟨hE, b', hb, hn⟩
  cases hb
  exact k b S1 (hA.ext hE) ⟨hx.row.ext hE.2, hx.ar, hx.ai, hx.ae, hx.as_, hx.ax, hx.al, hx.ln, hx.bd⟩ hn
theorem stBX {r : PS → AV → Prop} {args : List AV} (h : CON w0 f args (r q)) (hr : ∀ v, r q v → ∃ q2, v = q2.av ∧ Took q q2) (hA : At B p S0 t q S) (hx : RowX B q x xs S) (h0 : 0 ≤ t)
    (k : ∀ q2 S1, At B p S0 1 q2 S1 → RowX B q2 x xs S1 → K1 q q2 → G (.sl q2.tt q2.toks.length (tkCells q2.toks)) q2.at_ q2.en q2.sc q2.xr q2.xi q2.xe q2.xs q2.xx q2.xl q2.bad q2.deep S1) :
    ∃ R, (realHk Tryz.prog w0 (tabOf Tryz.prog)).1 f args S L R ∧ ∀ (x : AL) (n n_1 : Int) (b : Bool) (x_1 x_2 x_3 x_4 x_5 x_6 : AL) (n_2 n_3 : Int) (S1 : St), R (AV.agg [x, AL.int IntKind.i64 n, AL.int IntKind.i64 n_1, AL.bool b, x_1, x_2, x_3, x_4, x_5, x_6, AL.int IntKind.i64 n_2, AL.int IntKind.i64 n_3]) S1 → G x n n_1 b x_1 x_2 x_3 x_4 x_5 x_6 n_2 n_3 S1 := by
  refine ⟨_, h.use S L, ?_⟩
  rintro x n n1 b x1 x2 x3 x4 x5 x6 n2 n3 S1 ⟨hE, hv⟩
  obtain ⟨q2, hq, hk⟩ := hr _ hv
  cases hq
  exact k q2 S1 (hA.by1 h0 hE.bx (hk.pf hA.pf) ((hk.pr hA.pr).ext hE.2) hk.k1) (hk.rowx hx hE) hk.k1
end
def iList (B : Nat) (p : PS) (S0 : St) (o : Bool) : Nat → KE := fun m env S' L => ∃ (q : PS) (x : AL) (b : Bool) (xs : List Xp), env = [(8, .v (bool b)), (7, .v (.one x)), (6, .v (bool false)), (5, .v (.one .nilsl)), (4, .loc 1 0), (2, .loc 0 0), (1, .v (bool o))] ∧
  L = [(90, q.cs), (90, nlc)] ∧ At B p S0 1 q S' ∧ RowX B q x xs S' ∧ (q.bad < 0 → xs.length ≤ q.at_) ∧ (m : Int) = q.toks.length - q.at_
theorem list_tail {B : Nat} {p q : PS} {S0 S1 : St} {o b9 : Bool} {x : AL} {xs : List Xp} {s1 s : ByteArray} {m nl : Nat} {L : Lo} {Q : QW} (hA : At B p S0 1 q S1) (hx : RowX B q x xs S1) (hl : xs.length ≤ 4000) (hl2 : q.bad < 0 → (xs.length : Int) < q.at_) (hs1 : s1.size ≤ B)
    (hm : (q.toks.length : Int) - q.at_ ≤ m) (h2 : nl = 2) (hL : ∀ y, (y :: L).take 2 = [y, (90, nlc)])
    (ex : ∀ (r : AL) (S2 : St) (xs : List Xp), At B p S0 1 q S2 → RowX B q r xs S2 → Q (.exit 0) [(8, .v (bool b9)), (7, .v (.one r)), (6, .v (bool false)), (5, .v (.one .nilsl)), (4, .loc 1 0), (2, .loc 0 0), (1, .v (bool o))] S2 [(90, q.cs), (90, nlc)]) :
    26 = 26 ∧ ∃ r S', dAppend2 (tabOf Tryz.prog) 26 x (AL.sl (some S1.toks.length) 1 [.int .i64 0, AL.str s1, AL.str s, AL.str ⟨⟨[]⟩⟩]) (S1.born (4, 72, 4)) = some (r, S') ∧
      ∃ R, (realHk Tryz.prog w0 (tabOf Tryz.prog)).1 75 [q.av, int 4, str ⟨⟨[44]⟩⟩] S' ((90, q.cs) :: L) R ∧ ∀ (b_3 : Bool) (S1 : St), R (AV.one (AL.bool b_3)) S1 →
        ((!b_3) = true → loopK (iList B p S0 o) nl m Q (.exit 0) [(8, .v (bool b9)), (7, .v (.one r)), (6, .v (bool false)), (5, .v (.one .nilsl)), (4, .loc 1 0), (2, .loc 0 0), (1, .v (bool o))] S1 ((90, q.cs) :: L)) ∧
        ((!b_3) = false → in64 (q.at_ + 1) ∧ loopK (iList B p S0 o) nl m Q .normal [(8, .v (bool b9)), (7, .v (.one r)), (6, .v (bool false)), (5, .v (.one .nilsl)), (4, .loc 1 0), (2, .loc 0 0), (1, .v (bool o))] S1 ((90, { q with at_ := q.at_ + 1 : PS }.cs) :: L)) := by
  refine ⟨rfl, ?_⟩
  obtain ⟨r, S', h1, h2', h3, h4, h5, h6, h7⟩ := hx.row.push (t := 26) (ys := Xp.cells ⟨0, s1, s, ⟨⟨[]⟩⟩⟩) T26 rfl T72 rfl (by decide) rfl (by unfold maxLen; omega) (by show (xs.length + 1) * 56 ≤ _; omega) (some S1.toks.length) (4, 72, 4)
  have hr := hA.pr
  have hr' : PR S' q := ⟨hr.rr.other hx.ar h5 h7, hr.ri.other hx.ai h5 h7, hr.re.other hx.ae h5 h7, hr.rs.other hx.as_ h5 h7, hr.rx.other hx.ax h5 h7, hr.rl.other hx.al h5 h7, hr.cr, hr.ci, hr.ce, hr.cs, hr.cx, hr.ap⟩
  have hx' : RowX B q r (xs ++ [⟨0, s1, s, ⟨⟨[]⟩⟩⟩]) S' := by
    refine ⟨?_, Ap.new hr.rr h6, Ap.new hr.ri h6, Ap.new hr.re h6, Ap.new hr.rs h6, Ap.new hr.rx h6, Ap.new hr.rl h6, by simp; omega, bnd hx.bd hs1⟩
    rw [List.length_append, ← flat_add]
    exact h2'
  have hA' : At B p S0 1 q S' := ⟨hA.bx.trans ⟨h3, by omega, h7⟩, hA.pf, hr', hA.g0, hA.on⟩
  subst h2
  refine ⟨r, S', h1, stIsX hA' hx' _ _ fun b S2 hA2 hx2 hn => ⟨fun hb => ?_, fun hb => ?_⟩⟩
  · exact loopK.exit (L' := [(90, q.cs), (90, nlc)]) ⟨Nat.one_lt_two, Nat.zero_lt_two, trivial⟩ (hL _) (ex r S2 _ hA2 hx2)
  · obtain ⟨n1, n2, _⟩ := hn (by simpa using hb)
    have h0 := hA2.pf.at0
    have hln := hA2.pf.ln
    have hll := hl2 n1
    refine ⟨by unfold in64; omega, loopK.again (L' := [(90, { q with at_ := q.at_ + 1 : PS }.cs), (90, nlc)]) (m' := (q.toks.length - (q.at_ + 1)).toNat) ⟨Nat.one_lt_two, Nat.zero_lt_two, trivial⟩ (hL _) (by omega) ⟨{ q with at_ := q.at_ + 1 }, r, b9, _, rfl, rfl, hA2.next (by omega) n2, ⟨hx2.row, hx2.ar, hx2.ai, hx2.ae, hx2.as_, hx2.ax, hx2.al, hx2.ln, hx2.bd⟩, fun _ => by show ((xs ++ [_]).length : Int) ≤ q.at_ + 1; simp; omega, by show ((q.toks.length - (q.at_ + 1)).toNat : Int) = q.toks.length - (q.at_ + 1); omega⟩⟩
def _root_.Go.Den.AL.slq : AL → Bool
  | .sl _ _ _ => true
  | .nilsl => true
  | _ => false
def Val (B : Nat) (x : AL) (xs : List Xp) : Prop := x.len? = some xs.length ∧ (0 < xs.length → ∃ tk, x = .sl tk xs.length (xs.flatMap Xp.cells)) ∧ xs.length ≤ 4001 ∧ ∀ x, x ∈ xs → x.name.size ≤ B
theorem RowX.val {B : Nat} {q : PS} {x : AL} {xs : List Xp} {S : St} (h : RowX B q x xs S) : Val B x xs := ⟨h.row.len, fun hn => row_get h.row hn, h.ln, h.bd⟩
def M3 (B : Nat) (p : PS) (v : AV) (S : St) : Prop := ∃ (q : PS) (x : AL) (b : Bool) (xs : List Xp), v = .tup [q.av, .one x, bool b] ∧ PF B q ∧ PR S q ∧ K1 p q ∧ Val B x xs ∧ x.slq = true
theorem K1.trans {p q r : PS} (h : K1 p q) (k : K1 q r) : K1 p r := ⟨h.1.trans k.1, fun hb => by have := k.2 hb; have := h.2 (k.1.nb hb); omega⟩
theorem l4List_c (B : Nat) (p : PS) (o : Bool) : CONP w0 105 [p.av, bool o] (pre B p) (M3 B p) := by
  refine ConP.of_gen (plans := np) hT hmo (nov := true) pre_loc (fun v S S' h ⟨q, x, b, xs, h1, h2, h3, h4, h5⟩ => ⟨q, x, b, xs, h1, h2, h3.toks h, h4, h5⟩)
    (fun v S ⟨q, x, b, xs, h1, h2, h3, h4, h5, h6⟩ => ?_) (fun S hp => ?_)
  · subst h1
    refine ⟨Tryz.f105, [q.av, .one x, bool b], by kernel_rfl, rfl, ?_⟩
    cases x <;> first | (cases h6; done) | kernel_rfl
  have hf := hp.1
  rw [v105]
  have hA : At B p S 0 p (S.born (0, 72, 4)) := (At.start hp).ext (Ext.born S _)
  have apn : ∀ {e : TypeId} {sz n : Nat} {y : AL} {ys : List AL}, Row S e sz y n ys → Ap y (.sl (some S.toks.length) 0 []) := fun h t ht he => by have := h.lt ht; cases he; omega
  have hX : RowX B p (.sl (some S.toks.length) 0 []) [] (S.born (0, 72, 4)) := ⟨Row.born S 72 4, apn hp.2.rr, apn hp.2.ri, apn hp.2.re, apn hp.2.rs, apn hp.2.rx, apn hp.2.rl, by decide, fun x hx => by cases hx⟩
  refine ⟨rfl, stBX (r := rTook) (l4Sign_ok B p hf _) (fun v h => h) hA hX (Int.le_refl 0) ?_⟩
  intro q S1 hA hX hK
  have hm := hA.pf.at1
  have h0 := hA.pf.at0
  refine ⟨[8, 7, 6, 5, 4, 2, 1], iList B p S o, (q.toks.length - q.at_).toNat, ⟨q, _, false, [], rfl, rfl, hA, hX, fun _ => h0, by omega⟩, ?_⟩
  have fin : ∀ (b9 : Bool) (r : AL) (S2 : St) (q : PS) (xs : List Xp), At B p S 1 q S2 → RowX B q r xs S2 → KT w0 71 [Kn.blk 0, Kn.seq (CO 105 [1, 1, 1, 1, 1])] (WE Tryz.f105 S.boxes.length (fun v S' => Bx S S' ∧ M3 B p v S')) (.exit 0) [(8, .v (bool b9)), (7, .v (.one r)), (6, .v (bool false)), (5, .v (.one .nilsl)), (4, .loc 1 0), (2, .loc 0 0), (1, .v (bool o))] S2 [(90, q.cs), (90, nlc)] := by
    intro b9 r S2 q xs hA hX
    refine kont.of hT hmo (nov := true) (plans := np) (f := 1000) ?_
    rw [x105_0]
    refine st1 (l4Sign_c B q hA.pf _) hA (by omega) fun q2 S3 hA2 => ⟨rfl, hA2.bx, q2, r, b9, xs, rfl, hA2.pf, hA2.pr, ⟨hA2.g0, fun hb => by have := hA2.on hb; omega⟩, hX.val, ?_⟩
    obtain ⟨_, ⟨rfl, _⟩ | ⟨tk, rfl, _⟩⟩ := hX.row <;> rfl
  rintro m env S1 L1 ⟨q, x, b8, xs, rfl, rfl, hA, hX, hl, hm⟩
  refine WSem.of hT hmo (nov := true) (plans := np) (f := 1000) ?_
  rw [b105_0]
  refine ⟨fun hb => ?_, fun hb => loopK.exit (L' := [(90, q.cs), (90, nlc)]) ⟨Nat.one_lt_two, Nat.zero_lt_two, trivial⟩ rfl (fin b8 x S1 q xs hA hX)⟩
  have hl := hl (of_decide_eq_true hb)
  have g1 := hA.pf.at1
  have g0 := hA.pf.at0
  have gl := hA.pf.ln
  refine stNX hA hX (by omega) true fun q1 s S2 hA1 hX1 hK1 hs => stIsX hA1 hX1 _ _ fun b S3 hA1 hX1 hn => ⟨fun hb => ?_, fun _ => ⟨fun _ => ⟨fun _ => ?_, fun _ => ?_⟩, fun _ => ?_⟩⟩
  · have n2 := (hn hb).2.1
    have e0 := hA1.pf.at0
    have e1 := hA1.pf.ln
    have hK1n : K1 q { q1 with at_ := q1.at_ + 1 } := hK1.trans (took_k1 (hn hb).1)
    refine ⟨by unfold in64; omega, stNX (q := { q1 with at_ := q1.at_ + 1 }) (hA1.next (by omega) n2) ⟨hX1.row, hX1.ar, hX1.ai, hX1.ae, hX1.as_, hX1.ax, hX1.al, hX1.ln, hX1.bd⟩ (by omega) o fun q2 s1 S4 hA2 hX2 hK hs => ?_⟩
    have hK2 := hK1n.trans hK
    exact ⟨fun _ => list_tail hA2 hX2 (by omega) (fun hb => by have := hK2.2 hb; omega) hs (by have := hK2.1.at_; have := hK2.1.toks; rw [hK2.1.toks]; omega) rfl (fun _ => rfl) (fun r S2 xs hA hX => fin _ r S2 _ xs hA hX), fun _ => list_tail hA2 hX2 (by omega) (fun hb => by have := hK2.2 hb; omega) hs (by have := hK2.1.at_; have := hK2.1.toks; rw [hK2.1.toks]; omega) rfl (fun _ => rfl) (fun r S2 xs hA hX => fin _ r S2 _ xs hA hX)⟩
  · refine stBX (r := rFail) (l4Fail_ok B q1 hA1.pf) (fun v ⟨q, h1, h2⟩ => ⟨q, h1, .inr h2⟩) hA1 hX1 (by omega) fun q2 S4 hA2 hX2 hK => ?_
    have hK2 := hK1.trans hK
    exact ⟨fun _ => list_tail hA2 hX2 (by omega) (fun hb => by have := hK2.2 hb; omega) hs (by have := hK2.1.at_; have := hK2.1.toks; rw [hK2.1.toks]; omega) rfl (fun _ => rfl) (fun r S2 xs hA hX => fin _ r S2 _ xs hA hX), fun _ => list_tail hA2 hX2 (by omega) (fun hb => by have := hK2.2 hb; omega) hs (by have := hK2.1.at_; have := hK2.1.toks; rw [hK2.1.toks]; omega) rfl (fun _ => rfl) (fun r S2 xs hA hX => fin _ r S2 _ xs hA hX)⟩
  · exact ⟨fun _ => list_tail hA1 hX1 (by omega) (fun hb => by have := hK1.2 hb; omega) hs (by have := hK1.1.at_; have := hK1.1.toks; rw [hK1.1.toks]; omega) rfl (fun _ => rfl) (fun r S2 xs hA hX => fin _ r S2 _ xs hA hX), fun _ => list_tail hA1 hX1 (by omega) (fun hb => by have := hK1.2 hb; omega) hs (by have := hK1.1.at_; have := hK1.1.toks; rw [hK1.1.toks]; omega) rfl (fun _ => rfl) (fun r S2 xs hA hX => fin _ r S2 _ xs hA hX)⟩
  · exact ⟨fun _ => list_tail hA1 hX1 (by omega) (fun hb => by have := hK1.2 hb; omega) hs (by have := hK1.1.at_; have := hK1.1.toks; rw [hK1.1.toks]; omega) rfl (fun _ => rfl) (fun r S2 xs hA hX => fin _ r S2 _ xs hA hX), fun _ => list_tail hA1 hX1 (by omega) (fun hb => by have := hK1.2 hb; omega) hs (by have := hK1.1.at_; have := hK1.1.toks; rw [hK1.1.toks]; omega) rfl (fun _ => rfl) (fun r S2 xs hA hX => fin _ r S2 _ xs hA hX)⟩
end Go.Proofs.YtkdickfiifpblaaGreatDoor.D
